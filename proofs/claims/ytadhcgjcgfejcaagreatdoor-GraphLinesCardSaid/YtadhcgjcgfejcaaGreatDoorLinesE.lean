/- Part 5 of what the claim rests on. -/
import Derived.Lib.ItoaNum
import Derived.Lib.Repeat
import Derived.Below
import Derived.Lib.Bytealg
import Derived.Lib.Join
import Derived.Lib.AtoiAll
import Derived.Test.YtadhcgjcgfejcaaGreatDoorLinesA
import Derived.Test.YtadhcgjcgfejcaaGreatDoorLinesB
import Derived.Test.YtadhcgjcgfejcaaGreatDoorLinesC
import Derived.Test.YtadhcgjcgfejcaaGreatDoorLinesD
section
set_option linter.unusedVariables false
set_option linter.unusedSimpArgs false
namespace Go.Abs
open Go.RowKit
section
variable {B : Low} {E : Env} {w' : World}
theorem below_cell {b o : Nat} (hw : Below E.w.heap.size E.w w') (h : b < E.w.heap.size) : w'.cell? ⟨b, o, none⟩ = E.w.cell? ⟨b, o, none⟩ := by
 simp only [World.cell?,hw.block b h]
theorem ext_below (I : Inv B E) (hw : Below E.w.heap.size E.w w') : Ext B E ⟨w', E.S, E.m, E.H⟩ where
 ss _ _ h := h
 cell b o h := below_cell hw (I.sS b o h)
 size := hw.size
 low k hk := hw.block k (I.szB k hk)
 there b o h := by
  have hlt : b < E.w.heap.size := by
   rcases Nat.lt_or_ge b E.w.heap.size with h1 | h1
   ·exact h1
   ·simp only [World.cell?,Array.getElem?_eq_none h1] at h
    simp at h
  simp only [below_cell hw hlt]
  exact h
 snew _ _ h := .inl h
 os := hw.os
 tape := hw.tape
 output := hw.output
 len := Nat.le_refl _
 obj _ h := ⟨h, rfl⟩
 hw _ _ n h := ⟨n, h, Nat.le_refl _, fun _ => rfl⟩
theorem own_below {b fr : Nat} {T : TypeId × Nat → Prop} (hw : Below E.w.heap.size E.w w') (h : Own B E.w b fr T) : Own B w' b fr T :=
 ⟨h.base, Nat.lt_of_lt_of_le h.lt hw.size, fun o ho => by simp only [World.frozen?,hw.block b h.lt]; exact h.free o ho, by simp only [World.shape?,hw.block b h.lt]; exact h.shape⟩
theorem inv_below (I : Inv B E) (hw : Below E.w.heap.size E.w w') : Inv B ⟨w', E.S, E.m, E.H⟩ := by
 have X := ext_below I hw
 refine ⟨fun b hb => Nat.lt_of_lt_of_le (I.szB b hb) X.size, fun b o hs => Nat.lt_of_lt_of_le (I.sS b o hs) X.size, fun id ty es he => ?_, fun id ty n hn => ?_, I.inj, X.tab I.tab, fun id s p h => ?_⟩
 ·obtain ⟨h1, h2, h3⟩ := I.obj id ty es he
  exact ⟨own_below hw h1, h2, h3.ext X fun k => below_cell hw h1.lt⟩
 ·obtain ⟨h1, h2⟩ := I.hw id ty n hn
  exact ⟨own_below hw h1, h2⟩
 ·obtain ⟨h1, h2⟩ := I.it id s p h
  exact ⟨h1.same (hw.block _ h1.lt), h2⟩
end
def digN : Nat → Nat → List UInt8
 | 0, _ => []
 | f + 1, u => if u < 10 then [UInt8.ofNat (48 + u)] else digN f (u / 10) ++ [UInt8.ofNat (48 + u % 10)]
theorem digN_eq : ∀ f u, u < 10 ^ f → 0 < f → digN f u = Lib.decDigits u
 | 0, u, _, h => by omega
 | f + 1, u, hu, _ => by
  unfold digN
  rw [Lib.decDigits]
  by_cases h : u < 10
  ·rw [if_pos h, dif_pos h]
  ·rw [if_neg h, dif_neg h]
   have hf : 0 < f := by
    rcases Nat.eq_zero_or_pos f with rfl | h1
    ·simp only [Nat.zero_add,Nat.pow_one] at hu; omega
    ·exact h1
   rw [digN_eq f (u / 10) (by rw [Nat.pow_succ] at hu; omega) hf]
def itoaN (n : Int) : List UInt8 := if n < 0 then 45 :: digN 20 n.natAbs else digN 20 n.toNat
theorem itoaN_eq {n : Int} (h0 : -9223372036854775808 ≤ n) (h1 : n ≤ 9223372036854775807) : itoaN n = Lib.itoa n := by
 unfold itoaN Lib.itoa
 split
 ·rw [digN_eq 20 _ (by omega) (by decide)]
 ·rw [digN_eq 20 _ (by omega) (by decide)]
def itoaO (ik : FuncId) (Ψ : Oracle) : Oracle := fun f args H =>
 if f = ik then match args with
  | [.im (.int .i64 n)] => if -9223372036854775808 ≤ n ∧ n ≤ 9223372036854775807 then some (.im (.str (itoaN n)), H) else none
  | _ => none
 else Ψ f args H
structure Itoas (P : Program) (ik : FuncId) (T : World → Prop) : Prop where
 enters : Enters P ik
 itoa : ∀ (n : Int) (w : World), -9223372036854775808 ≤ n → n ≤ 9223372036854775807 → T w → Calls P ik #[.int .i64 n] w fun e w' => e = .returned (.string ⟨(Lib.itoa n).toArray⟩) ∧ Below w.heap.size w w'
theorem itoaO_sound {P : Program} {B : Low} {T : World → Prop} (hB : ∀ w, B.ok w → T w) {ik : FuncId} {Ψ : Oracle} (K : Itoas P ik T) (S : Sound P B Ψ) : Sound P B (itoaO ik Ψ) := fun f args H r H' h => by
 unfold itoaO at h
 split at h
 ·rename_i e
  subst e
  split at h
  ·rename_i n
   split at h
   ·rename_i hr
    simp only [Option.some.injEq,Prod.mk.injEq] at h
    obtain ⟨rfl, rfl⟩ := h
    refine ⟨K.enters, fun E vs I hE ha => ?_⟩
    subst hE
    simp only [RelAs,RelA,RelD] at ha
    obtain ⟨v, r, rfl, rfl, rfl⟩ := ha
    refine (K.itoa n E.w hr.1 hr.2 (hB _ I.tab)).mono fun e w' he => ?_
    obtain ⟨rfl, hw⟩ := he
    exact ⟨_, ⟨w', E.S, E.m, E.H⟩, rfl, rfl, rfl, inv_below I hw, ext_below I hw, by simp only [RelA,RelD,itoaN_eq hr.1 hr.2]⟩
   ·simp at h
  ·simp at h
 ·exact S f args H r H' h
theorem itoaO_sh {n : Nat} {H0 : Heap} {Ψ : Oracle} {ik : FuncId} (hΨ : ShO n H0 Ψ Ψ) : ShO n H0 (itoaO ik Ψ) (itoaO ik Ψ) := fun f args H v H' h => by
 unfold itoaO at h ⊢
 split at h
 ·rename_i e
  rw [if_pos e]
  split at h
  ·split at h
   ·rename_i hr
    simp only [Option.some.injEq,Prod.mk.injEq] at h
    obtain ⟨rfl, rfl⟩ := h
    simp only [List.map_cons,List.map_nil,sh,if_pos hr]
   ·simp at h
  ·simp at h
 ·rename_i e
  rw [if_neg e]
  exact hΨ f args H v H' h
structure Reps (P : Program) (rk : FuncId) : Prop where
 enters : Enters P rk
 rep : ∀ (s : ByteArray) (c : Nat) (w : World), c ≤ 9223372036854775807 → s.size * c ≤ 140737488355328 → Calls P rk #[.string s, .int .i64 c] w fun e w' => e = .returned (.string ⟨(Lib.repeatL s.data.toList c).toArray⟩) ∧ Below w.heap.size w w'
end Go.Abs
end
section
set_option linter.unusedVariables false
set_option linter.unusedSimpArgs false
namespace Go.Abs
open Go.RowKit
def strsE : List (List Dat) → Option (List (List UInt8))
 | [] => some []
 | [.str x] :: es => match strsE es with
  | some l => some (x :: l)
  | none => none
 | _ => none
def strsA (a : AV) : Option (List (List UInt8)) := match toDat a with
 | some (.sl _ es) => strsE es
 | _ => none
theorem strsE_len : ∀ {es : List (List Dat)} {l : List (List UInt8)}, strsE es = some l → l.length = es.length
 | [], l, h => by simp only [strsE] at h; injection h with h; subst h; rfl
 | e :: es, l, h => by
  unfold strsE at h
  split at h
  ·cases ‹e :: es = []›
  ·rename_i x es' heq
   injection heq with h1 h2
   subst h1 h2
   split at h
   ·rename_i l' hl
    injection h with h
    subst h
    simp [strsE_len hl]
   ·cases h
  ·cases h
theorem strsE_cells {w : World} {S : Nat → Nat → Prop} {b s : Nat} : ∀ {es : List (List Dat)} {l : List (List UInt8)} {o : Nat}, strsE es = some l → RelE w S es b o s → ∀ (j : Nat) (x : List UInt8), l[j]? = some x → w.cell? ⟨b, o + j, none⟩ = some (.string ⟨x.toArray⟩) ∧ S b (o + j)
 | [], l, o, h, _, j, x, hj => by simp only [strsE] at h; injection h with h; subst h; simp at hj
 | e :: es, l, o, h, hr, j, x, hj => by
  unfold strsE at h
  split at h
  ·cases ‹e :: es = []›
  ·rename_i y es' heq
   injection heq with h1 h2
   subst h1 h2
   split at h
   ·rename_i l' hl
    injection h with h
    subst h
    simp only [RelE,List.length_cons,List.length_nil] at hr
    obtain ⟨hs, hc, hre⟩ := hr
    simp only [RelC,RelD] at hc
    obtain ⟨⟨v, hv, hS, _, rfl⟩, _⟩ := hc
    cases j with
    | zero =>
     simp at hj
     subst hj
     exact ⟨hv, hS⟩
    | succ j =>
     have := strsE_cells hl hre j x (by simpa using hj)
     rw [show o + s + j = o + (j + 1) by omega] at this
     exact this
   ·cases h
  ·cases h
def joinO (jk : FuncId) (Ψ : Oracle) : Oracle := fun f args H =>
 if f = jk then match args with
  | [a, .im (.str sep)] => match strsA a with
   | some xs => if xs.length ≤ 140737488355328 ∧ (Lib.join xs sep).length ≤ 140737488355328 then some (.im (.str (Lib.join xs sep)), H) else none
   | none => none
  | _ => none
 else Ψ f args H
structure Joins (P : Program) (jk : FuncId) : Prop where
 enters : Enters P jk
 empty : ∀ (a : Option Addr) (c : Nat) (sep : ByteArray) (w : World), Calls P jk #[.slice a 0 c, .string sep] w fun e w' => e = .returned (.string ⟨#[]⟩) ∧ w' = w
 many : ∀ (bk o c : Nat) (xs : List ByteArray) (sep : ByteArray) (w : World), (∀ (j : Nat) x, xs[j]? = some x → w.cell? ⟨bk, o + j, none⟩ = some (.string x)) → bk < w.heap.size → xs.length ≤ 140737488355328 → xs.length ≤ c → (Lib.join (xs.map (·.data.toList)) sep.data.toList).length ≤ 140737488355328 →
  Calls P jk #[.slice (some ⟨bk, o, none⟩) xs.length c, .string sep] w fun e w' => e = .returned (.string ⟨(Lib.join (xs.map (·.data.toList)) sep.data.toList).toArray⟩) ∧ Below w.heap.size w w'
theorem joinO_sound {P : Program} {B : Low} {jk : FuncId} {Ψ : Oracle} (K : Joins P jk) (S : Sound P B Ψ) : Sound P B (joinO jk Ψ) := fun f args H r H' h => by
 unfold joinO at h
 split at h
 ·rename_i e
  subst e
  split at h
  ·rename_i a sep
   split at h
   ·rename_i xs hxs
    split at h
    ·rename_i hr
     simp only [Option.some.injEq,Prod.mk.injEq] at h
     obtain ⟨rfl, rfl⟩ := h
     refine ⟨K.enters, fun E vs I hE ha => ?_⟩
     subst hE
     simp only [RelAs] at ha
     obtain ⟨v, r1, rfl, hv, u, r2, rfl, hu, rfl⟩ := ha
     simp only [RelA,RelD] at hu
     subst hu
     unfold strsA at hxs
     split at hxs
     ·rename_i s es hd
      have hD := relD_of_toDat a v _ hv hd
      simp only [RelD] at hD
      obtain ⟨b, c, rfl, hc, he⟩ := hD
      have hl := strsE_len hxs
      rcases he with rfl | ⟨bl, o, rfl, hre⟩
      ·simp only [strsE] at hxs
       injection hxs with hxs
       subst hxs
       refine (K.empty b c ⟨sep.toArray⟩ E.w).mono fun e w' he => ?_
       obtain ⟨rfl, rfl⟩ := he
       exact ⟨_, E, rfl, rfl, rfl, I, Ext.refl B E, by simp only [RelA,RelD]; rfl⟩
      ·by_cases h0 : xs = []
       ·subst h0
        have hes : es = [] := List.length_eq_zero_iff.1 (by rw [← hl]; rfl)
        subst hes
        refine (K.empty (some ⟨bl, o, none⟩) c ⟨sep.toArray⟩ E.w).mono fun e w' he => ?_
        obtain ⟨rfl, rfl⟩ := he
        exact ⟨_, E, rfl, rfl, rfl, I, Ext.refl B E, by simp only [RelA,RelD]; rfl⟩
       ·have hcell := strsE_cells hxs hre
        obtain ⟨x0, hx0⟩ : ∃ x, xs[0]? = some x := by
         cases xs with
         | nil => exact absurd rfl h0
         | cons x l => exact ⟨x, rfl⟩
        have hbk := I.sS bl _ (hcell 0 x0 hx0).2
        have hm : (xs.map fun x => (⟨x.toArray⟩ : ByteArray)).map (·.data.toList) = xs := by
         rw [List.map_map]
         exact (List.map_congr_left fun x _ => rfl).trans (List.map_id _)
        have key := K.many bl o c (xs.map fun x => (⟨x.toArray⟩ : ByteArray)) ⟨sep.toArray⟩ E.w (fun j x hj => by
         rw [List.getElem?_map] at hj
         cases hx : xs[j]? with
         | none => rw [hx] at hj; simp at hj
         | some y =>
          rw [hx] at hj
          simp only [Option.map_some,Option.some.injEq] at hj
          subst hj
          exact (hcell j y hx).1) hbk (by simpa using hr.1) (by simp only [List.length_map]; omega) (by rw [hm]; exact hr.2)
        rw [hm, List.length_map, hl] at key
        refine key.mono fun e w' he => ?_
        obtain ⟨rfl, hw⟩ := he
        exact ⟨_, ⟨w', E.S, E.m, E.H⟩, rfl, rfl, rfl, inv_below I hw, ext_below I hw, by simp only [RelA,RelD]⟩
     ·cases hxs
    ·cases h
   ·cases h
  ·cases h
 ·exact S f args H r H' h
theorem strsA_sh {n : Nat} (a : AV) : strsA (sh n a) = strsA a := by
 unfold strsA
 rw [sh_toDat]
theorem joinO_sh {n : Nat} {H0 : Heap} {Ψ : Oracle} {jk : FuncId} (hΨ : ShO n H0 Ψ Ψ) : ShO n H0 (joinO jk Ψ) (joinO jk Ψ) := fun f args H v H' h => by
 unfold joinO at h ⊢
 split at h
 ·rename_i e
  rw [if_pos e]
  split at h
  ·rename_i a sep
   split at h
   ·rename_i xs hxs
    split at h
    ·rename_i hr
     simp only [Option.some.injEq,Prod.mk.injEq] at h
     obtain ⟨rfl, rfl⟩ := h
     simp only [List.map_cons,List.map_nil,sh,strsA_sh,hxs,if_pos hr]
    ·cases h
   ·cases h
  ·cases h
 ·rename_i e
  rw [if_neg e]
  exact hΨ f args H v H' h
def one1O (ik : FuncId) (Ψ : Oracle) : Oracle := fun f args H =>
 if f = ik then match args with
  | [.im (.str s), .im (.str [c])] => some (.im (.int .i64 (Lib.indexByte s c)), H)
  | _ => none
 else Ψ f args H
structure Ones (P : Program) (ik : FuncId) : Prop where
 enters : Enters P ik
 idx : ∀ (s : ByteArray) (c : UInt8) (w : World), Calls P ik #[.string s, .string ⟨#[c]⟩] w fun e w' => e = .returned (.int .i64 (Lib.indexByte s.data.toList c)) ∧ w' = w
theorem one1O_sound {P : Program} {B : Low} {ik : FuncId} {Ψ : Oracle} (K : Ones P ik) (S : Sound P B Ψ) : Sound P B (one1O ik Ψ) := fun f args H r H' h => by
 unfold one1O at h
 split at h
 ·rename_i e
  subst e
  split at h
  ·rename_i s c
   simp only [Option.some.injEq,Prod.mk.injEq] at h
   obtain ⟨rfl, rfl⟩ := h
   refine ⟨K.enters, fun E vs I hE hr => ?_⟩
   subst hE
   simp only [RelAs,RelA,RelD] at hr
   obtain ⟨v, r, rfl, rfl, u, r', rfl, rfl, rfl⟩ := hr
   refine (K.idx ⟨s.toArray⟩ c E.w).mono fun e w' he => ?_
   obtain ⟨rfl, rfl⟩ := he
   exact ⟨_, E, rfl, rfl, rfl, I, Ext.refl B E, by simp only [RelA,RelD]⟩
  ·cases h
 ·exact S f args H r H' h
theorem one1O_sh {n : Nat} {H0 : Heap} {ik : FuncId} {Ψ : Oracle} (hΨ : ShO n H0 Ψ Ψ) : ShO n H0 (one1O ik Ψ) (one1O ik Ψ) := fun f args H v H' h => by
 unfold one1O at h ⊢
 split at h
 ·rename_i e
  rw [if_pos e]
  split at h
  ·simp only [Option.some.injEq,Prod.mk.injEq] at h
   obtain ⟨rfl, rfl⟩ := h
   simp only [List.map_cons,List.map_nil,sh]
  ·cases h
 ·rename_i e
  rw [if_neg e]
  exact hΨ f args H v H' h
end Go.Abs
end
section
set_option linter.unusedVariables false
set_option linter.unusedSimpArgs false
namespace Go.Abs
open Go.RowKit
def cloneO (ck : FuncId) (ty : TypeId) (Ψ : Oracle) : Oracle := fun f args H =>
 if f = ck then match args with
  | [.im (.sl _ [])] => some (.em, H)
  | [.im (.sl s (e :: es))] => if s = 1 ∧ (es.length + 1) * 8 ≤ 2 ^ 46 then some (.asl 1 (e :: es) H.length, H ++ [.hw ty (es.length + 1)]) else none
  | _ => none
 else Ψ f args H
structure Clones (P : Program) (ck : FuncId) : Prop where
 enters : Enters P ck
 none : ∀ (n c : Nat) (w : World), Calls P ck #[.slice none n c] w fun e w' => (∃ b, e = .returned (.slice b 0 0)) ∧ Below w.heap.size w w'
 zero : ∀ (a : Addr) (c : Nat) (w : World), Calls P ck #[.slice (some a) 0 c] w fun e w' => (∃ b, e = .returned (.slice b 0 0)) ∧ Below w.heap.size w w'
theorem cloneO_sound {P : Program} {B : Low} {ck : FuncId} {ty : TypeId} {Ψ Φ : Oracle} (K : Clones P ck) (hΦ : Sound P B Φ)
  (hc : ∀ (e : List Dat) (es : List (List Dat)) (H : Heap), (es.length + 1) * 8 ≤ 2 ^ 46 → Φ ck [.im (.sl 1 (e :: es))] H = some (.asl 1 (e :: es) H.length, H ++ [.hw ty (es.length + 1)])) (S : Sound P B Ψ) : Sound P B (cloneO ck ty Ψ) := fun f args H r H' h => by
 unfold cloneO at h
 split at h
 ·rename_i e
  subst e
  split at h
  ·simp only [Option.some.injEq,Prod.mk.injEq] at h
   obtain ⟨rfl, rfl⟩ := h
   refine ⟨K.enters, fun E vs I hE ha => ?_⟩
   subst hE
   simp only [RelAs,RelA,RelD] at ha
   obtain ⟨v, r, rfl, ⟨b, c, rfl, _, _⟩, rfl⟩ := ha
   cases b with
   | none =>
    refine (K.none _ c E.w).mono fun e w' he => ?_
    obtain ⟨⟨b, rfl⟩, hw⟩ := he
    exact ⟨_, ⟨w', E.S, E.m, E.H⟩, rfl, rfl, rfl, inv_below I hw, ext_below I hw, by simp only [RelA]; exact ⟨b, rfl⟩⟩
   | some a =>
    refine (K.zero a c E.w).mono fun e w' he => ?_
    obtain ⟨⟨b, rfl⟩, hw⟩ := he
    exact ⟨_, ⟨w', E.S, E.m, E.H⟩, rfl, rfl, rfl, inv_below I hw, ext_below I hw, by simp only [RelA]; exact ⟨b, rfl⟩⟩
  ·rename_i s e es
   split at h
   ·rename_i hs
    obtain ⟨rfl, hb⟩ := hs
    exact hΦ _ _ _ _ _ ((hc e es H hb).trans h)
   ·simp at h
  ·simp at h
 ·exact S f args H r H' h
theorem cloneO_sh {n : Nat} {H0 : Heap} {Ψ : Oracle} {ck : FuncId} {ty : TypeId} (hn : n = H0.length) (hΨ : ShO n H0 Ψ Ψ) : ShO n H0 (cloneO ck ty Ψ) (cloneO ck ty Ψ) := fun f args H v H' h => by
 unfold cloneO at h ⊢
 split at h
 ·rename_i e
  rw [if_pos e]
  split at h
  ·simp only [Option.some.injEq,Prod.mk.injEq] at h
   obtain ⟨rfl, rfl⟩ := h
   simp only [List.map_cons,List.map_nil,sh]
  ·split at h
   ·rename_i hs
    simp only [Option.some.injEq,Prod.mk.injEq] at h
    obtain ⟨rfl, rfl⟩ := h
    simp only [List.map_cons,List.map_nil,sh,if_pos hs]
    subst hn
    simp [shH, shO]
   ·simp at h
  ·simp at h
 ·rename_i e
  rw [if_neg e]
  exact hΨ f args H v H' h
end Go.Abs
end
section
set_option linter.unusedVariables false
set_option linter.unusedSimpArgs false
namespace Go.Abs
open Go.RowKit
def atoiO (ak : FuncId) (Ψ : Oracle) : Oracle := fun f args H =>
 if f = ak then match args with
  | [.im (.str s)] => if s.length ≤ 70368744177664 then match Lib.atoiAll s with
    | .ok v => some (.tup [.im (.int .i64 v), .im .nili], H)
    | Lib.NumEnd.syntax => some (.tup [.im (.int .i64 0), .im .ifc], H)
    | .range => some (.tup [.im (.int .i64 (Lib.atoiSat s)), .im .ifc], H)
   else none
  | _ => none
 else Ψ f args H
structure Atois (P : Program) (ak : FuncId) (T : World → Prop) : Prop where
 enters : Enters P ak
 good : ∀ (s : ByteArray) (v : Int) (w : World), s.size ≤ 70368744177664 → Lib.atoiAll s.data.toList = .ok v → Calls P ak #[.string s] w fun e w' => e = .returned (.tuple #[.int .i64 v, .nilIface]) ∧ Below w.heap.size w w'
 syn : ∀ (s : ByteArray) (w : World), s.size ≤ 70368744177664 → Lib.atoiAll s.data.toList = Lib.NumEnd.syntax → T w → Calls P ak #[.string s] w fun e w' => (∃ t p, e = .returned (.tuple #[.int .i64 0, .iface t p])) ∧ Below w.heap.size w w'
 rng : ∀ (s : ByteArray) (w : World), s.size ≤ 70368744177664 → Lib.atoiAll s.data.toList = .range → T w → Calls P ak #[.string s] w fun e w' => (∃ t p, e = .returned (.tuple #[.int .i64 (Lib.atoiSat s.data.toList), .iface t p])) ∧ Below w.heap.size w w'
theorem atoiO_sound {P : Program} {B : Low} {T : World → Prop} (hB : ∀ w, B.ok w → T w) {ak : FuncId} {Ψ : Oracle} (K : Atois P ak T) (S : Sound P B Ψ) : Sound P B (atoiO ak Ψ) := fun f args H r H' h => by
 unfold atoiO at h
 split at h
 ·rename_i e
  subst e
  split at h
  ·rename_i s
   split at h
   ·rename_i hs
    refine ⟨K.enters, fun E vs I hE ha => ?_⟩
    subst hE
    simp only [RelAs,RelA,RelD] at ha
    obtain ⟨v, r, rfl, rfl, rfl⟩ := ha
    split at h
    ·rename_i n hn
     simp only [Option.some.injEq,Prod.mk.injEq] at h
     obtain ⟨rfl, rfl⟩ := h
     refine (K.good ⟨s.toArray⟩ n E.w (by simpa [ByteArray.size] using hs) hn).mono fun e w' he => ?_
     obtain ⟨rfl, hw⟩ := he
     exact ⟨_, ⟨w', E.S, E.m, E.H⟩, rfl, rfl, rfl, inv_below I hw, ext_below I hw, by simp only [RelA]; exact ⟨_, rfl, by simp [RelAs, RelA, RelD]⟩⟩
    ·rename_i hn
     simp only [Option.some.injEq,Prod.mk.injEq] at h
     obtain ⟨rfl, rfl⟩ := h
     refine (K.syn ⟨s.toArray⟩ E.w (by simpa [ByteArray.size] using hs) hn (hB _ I.tab)).mono fun e w' he => ?_
     obtain ⟨⟨t, p, rfl⟩, hw⟩ := he
     exact ⟨_, ⟨w', E.S, E.m, E.H⟩, rfl, rfl, rfl, inv_below I hw, ext_below I hw, by simp only [RelA,RelAs,RelD]; exact ⟨_, rfl, _, _, rfl, rfl, _, _, rfl, ⟨_, _, rfl⟩, rfl⟩⟩
    ·rename_i hn
     simp only [Option.some.injEq,Prod.mk.injEq] at h
     obtain ⟨rfl, rfl⟩ := h
     refine (K.rng ⟨s.toArray⟩ E.w (by simpa [ByteArray.size] using hs) hn (hB _ I.tab)).mono fun e w' he => ?_
     obtain ⟨⟨t, p, rfl⟩, hw⟩ := he
     exact ⟨_, ⟨w', E.S, E.m, E.H⟩, rfl, rfl, rfl, inv_below I hw, ext_below I hw, by simp only [RelA,RelAs,RelD]; exact ⟨_, rfl, _, _, rfl, rfl, _, _, rfl, ⟨_, _, rfl⟩, rfl⟩⟩
   ·simp at h
  ·simp at h
 ·exact S f args H r H' h
theorem atoiO_sh {n : Nat} {H0 : Heap} {Ψ : Oracle} {ak : FuncId} (hΨ : ShO n H0 Ψ Ψ) : ShO n H0 (atoiO ak Ψ) (atoiO ak Ψ) := fun f args H v H' h => by
 unfold atoiO at h ⊢
 split at h
 ·rename_i e
  rw [if_pos e]
  split at h
  ·split at h
   ·rename_i hs
    split at h <;>
    ·rename_i hn
     simp only [Option.some.injEq,Prod.mk.injEq] at h
     obtain ⟨rfl, rfl⟩ := h
     simp only [List.map_cons,List.map_nil,sh,if_pos hs,hn,shs]
   ·simp at h
  ·simp at h
 ·rename_i e
  rw [if_neg e]
  exact hΨ f args H v H' h
def countO (ck : FuncId) (Ψ : Oracle) : Oracle := fun f args H =>
 if f = ck then match args with
  | [.im (.str s), .im (.str [c])] => some (.im (.int .i64 (Lib.countByte s c)), H)
  | _ => none
 else Ψ f args H
structure Counts (P : Program) (ck : FuncId) : Prop where
 enters : Enters P ck
 count : ∀ (s : ByteArray) (c : UInt8) (w : World), Calls P ck #[.string s, .string ⟨#[c]⟩] w fun e w' => e = .returned (.int .i64 (Lib.countByte s.data.toList c)) ∧ w' = w
theorem countO_sound {P : Program} {B : Low} {ck : FuncId} {Ψ : Oracle} (K : Counts P ck) (S : Sound P B Ψ) : Sound P B (countO ck Ψ) := fun f args H r H' h => by
 unfold countO at h
 split at h
 ·rename_i e
  subst e
  split at h
  ·rename_i s c
   simp only [Option.some.injEq,Prod.mk.injEq] at h
   obtain ⟨rfl, rfl⟩ := h
   refine ⟨K.enters, fun E vs I hE ha => ?_⟩
   subst hE
   simp only [RelAs,RelA,RelD] at ha
   obtain ⟨v, r, rfl, rfl, u, r', rfl, rfl, rfl⟩ := ha
   refine (K.count ⟨s.toArray⟩ c E.w).mono fun e w' he => ?_
   obtain ⟨rfl, rfl⟩ := he
   exact ⟨_, E, rfl, rfl, rfl, I, Ext.refl B E, by simp only [RelA,RelD]⟩
  ·simp at h
 ·exact S f args H r H' h
theorem countO_sh {n : Nat} {H0 : Heap} {Ψ : Oracle} {ck : FuncId} (hΨ : ShO n H0 Ψ Ψ) : ShO n H0 (countO ck Ψ) (countO ck Ψ) := fun f args H v H' h => by
 unfold countO at h ⊢
 split at h
 ·rename_i e
  rw [if_pos e]
  split at h
  ·simp only [Option.some.injEq,Prod.mk.injEq] at h
   obtain ⟨rfl, rfl⟩ := h
   simp only [List.map_cons,List.map_nil,sh]
  ·simp at h
 ·rename_i e
  rw [if_neg e]
  exact hΨ f args H v H' h
end Go.Abs
end
