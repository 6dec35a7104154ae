/- Part 5 of what the claim rests on. -/
import Derived.Lib.ItoaNum
import Derived.Lib.Repeat
import Derived.Below
import Derived.Test.YtmlpfgibpigcdaaGreatDoorLetsA
import Derived.Test.YtmlpfgibpigcdaaGreatDoorLetsB
import Derived.Test.YtmlpfgibpigcdaaGreatDoorLetsC
import Derived.Test.YtmlpfgibpigcdaaGreatDoorLetsD
section
set_option linter.unusedVariables false
set_option linter.unusedSimpArgs false
namespace Go.Abs
open Go.RowKit
section
variable {B : Low} {E : Env} {w' : World}
theorem below_cell {b o : Nat} (hw : Below E.w.heap.size E.w w') (h : b < E.w.heap.size) : w'.cell? ⟨b, o, none⟩ = E.w.cell? ⟨b, o, none⟩ := by
 simp only [World.cell?,hw.block b h]
theorem ext_below (I : Inv B E) (hw : Below E.w.heap.size E.w w') : Ext B E ⟨w', E.S, E.m, E.H⟩ where
 ss _ _ h := h
 cell b o h := below_cell hw (I.sS b o h)
 size := hw.size
 low k hk := hw.block k (I.szB k hk)
 there b o h := by
  have hlt : b < E.w.heap.size := by
   rcases Nat.lt_or_ge b E.w.heap.size with h1 | h1
   ·exact h1
   ·simp only [World.cell?,Array.getElem?_eq_none h1] at h
    simp at h
  simp only [below_cell hw hlt]
  exact h
 snew _ _ h := .inl h
 os := hw.os
 tape := hw.tape
 output := hw.output
 len := Nat.le_refl _
 obj _ h := ⟨h, rfl⟩
 hw _ _ n h := ⟨n, h, Nat.le_refl _, fun _ => rfl⟩
theorem own_below {b fr : Nat} {T : TypeId × Nat → Prop} (hw : Below E.w.heap.size E.w w') (h : Own B E.w b fr T) : Own B w' b fr T :=
 ⟨h.base, Nat.lt_of_lt_of_le h.lt hw.size, fun o ho => by simp only [World.frozen?,hw.block b h.lt]; exact h.free o ho, by simp only [World.shape?,hw.block b h.lt]; exact h.shape⟩
theorem inv_below (I : Inv B E) (hw : Below E.w.heap.size E.w w') : Inv B ⟨w', E.S, E.m, E.H⟩ := by
 have X := ext_below I hw
 refine ⟨fun b hb => Nat.lt_of_lt_of_le (I.szB b hb) X.size, fun b o hs => Nat.lt_of_lt_of_le (I.sS b o hs) X.size, fun id ty es he => ?_, fun id ty n hn => ?_, I.inj, X.tab I.tab, fun id s p h => ?_⟩
 ·obtain ⟨h1, h2, h3⟩ := I.obj id ty es he
  exact ⟨own_below hw h1, h2, h3.ext X fun k => below_cell hw h1.lt⟩
 ·obtain ⟨h1, h2⟩ := I.hw id ty n hn
  exact ⟨own_below hw h1, h2⟩
 ·obtain ⟨h1, h2⟩ := I.it id s p h
  exact ⟨h1.same (hw.block _ h1.lt), h2⟩
end
def digN : Nat → Nat → List UInt8
 | 0, _ => []
 | f + 1, u => if u < 10 then [UInt8.ofNat (48 + u)] else digN f (u / 10) ++ [UInt8.ofNat (48 + u % 10)]
theorem digN_eq : ∀ f u, u < 10 ^ f → 0 < f → digN f u = Lib.decDigits u
 | 0, u, _, h => by omega
 | f + 1, u, hu, _ => by
  unfold digN
  rw [Lib.decDigits]
  by_cases h : u < 10
  ·rw [if_pos h, dif_pos h]
  ·rw [if_neg h, dif_neg h]
   have hf : 0 < f := by
    rcases Nat.eq_zero_or_pos f with rfl | h1
    ·simp only [Nat.zero_add,Nat.pow_one] at hu; omega
    ·exact h1
   rw [digN_eq f (u / 10) (by rw [Nat.pow_succ] at hu; omega) hf]
def itoaN (n : Int) : List UInt8 := if n < 0 then 45 :: digN 20 n.natAbs else digN 20 n.toNat
theorem itoaN_eq {n : Int} (h0 : -9223372036854775808 ≤ n) (h1 : n ≤ 9223372036854775807) : itoaN n = Lib.itoa n := by
 unfold itoaN Lib.itoa
 split
 ·rw [digN_eq 20 _ (by omega) (by decide)]
 ·rw [digN_eq 20 _ (by omega) (by decide)]
def itoaO (ik : FuncId) (Ψ : Oracle) : Oracle := fun f args H =>
 if f = ik then match args with
  | [.im (.int .i64 n)] => if -9223372036854775808 ≤ n ∧ n ≤ 9223372036854775807 then some (.im (.str (itoaN n)), H) else none
  | _ => none
 else Ψ f args H
structure Itoas (P : Program) (ik : FuncId) (T : World → Prop) : Prop where
 enters : Enters P ik
 itoa : ∀ (n : Int) (w : World), -9223372036854775808 ≤ n → n ≤ 9223372036854775807 → T w → Calls P ik #[.int .i64 n] w fun e w' => e = .returned (.string ⟨(Lib.itoa n).toArray⟩) ∧ Below w.heap.size w w'
theorem itoaO_sound {P : Program} {B : Low} {T : World → Prop} (hB : ∀ w, B.ok w → T w) {ik : FuncId} {Ψ : Oracle} (K : Itoas P ik T) (S : Sound P B Ψ) : Sound P B (itoaO ik Ψ) := fun f args H r H' h => by
 unfold itoaO at h
 split at h
 ·rename_i e
  subst e
  split at h
  ·rename_i n
   split at h
   ·rename_i hr
    simp only [Option.some.injEq,Prod.mk.injEq] at h
    obtain ⟨rfl, rfl⟩ := h
    refine ⟨K.enters, fun E vs I hE ha => ?_⟩
    subst hE
    simp only [RelAs,RelA,RelD] at ha
    obtain ⟨v, r, rfl, rfl, rfl⟩ := ha
    refine (K.itoa n E.w hr.1 hr.2 (hB _ I.tab)).mono fun e w' he => ?_
    obtain ⟨rfl, hw⟩ := he
    exact ⟨_, ⟨w', E.S, E.m, E.H⟩, rfl, rfl, rfl, inv_below I hw, ext_below I hw, by simp only [RelA,RelD,itoaN_eq hr.1 hr.2]⟩
   ·simp at h
  ·simp at h
 ·exact S f args H r H' h
theorem itoaO_sh {n : Nat} {H0 : Heap} {Ψ : Oracle} {ik : FuncId} (hΨ : ShO n H0 Ψ Ψ) : ShO n H0 (itoaO ik Ψ) (itoaO ik Ψ) := fun f args H v H' h => by
 unfold itoaO at h ⊢
 split at h
 ·rename_i e
  rw [if_pos e]
  split at h
  ·split at h
   ·rename_i hr
    simp only [Option.some.injEq,Prod.mk.injEq] at h
    obtain ⟨rfl, rfl⟩ := h
    simp only [List.map_cons,List.map_nil,sh,if_pos hr]
   ·simp at h
  ·simp at h
 ·rename_i e
  rw [if_neg e]
  exact hΨ f args H v H' h
def repO (rk : FuncId) (Ψ : Oracle) : Oracle := fun f args H =>
 if f = rk then match args with
  | [.im (.str s), .im (.int .i64 c)] => if 0 ≤ c ∧ c ≤ 9223372036854775807 ∧ s.length * c.toNat ≤ 140737488355328 then some (.im (.str (Lib.repeatL s c.toNat)), H) else none
  | _ => none
 else Ψ f args H
structure Reps (P : Program) (rk : FuncId) : Prop where
 enters : Enters P rk
 rep : ∀ (s : ByteArray) (c : Nat) (w : World), c ≤ 9223372036854775807 → s.size * c ≤ 140737488355328 → Calls P rk #[.string s, .int .i64 c] w fun e w' => e = .returned (.string ⟨(Lib.repeatL s.data.toList c).toArray⟩) ∧ Below w.heap.size w w'
theorem repO_sound {P : Program} {B : Low} {rk : FuncId} {Ψ : Oracle} (K : Reps P rk) (S : Sound P B Ψ) : Sound P B (repO rk Ψ) := fun f args H r H' h => by
 unfold repO at h
 split at h
 ·rename_i e
  subst e
  split at h
  ·rename_i s c
   split at h
   ·rename_i hr
    simp only [Option.some.injEq,Prod.mk.injEq] at h
    obtain ⟨rfl, rfl⟩ := h
    refine ⟨K.enters, fun E vs I hE ha => ?_⟩
    subst hE
    simp only [RelAs,RelA,RelD] at ha
    obtain ⟨v, r, rfl, rfl, u, r', rfl, rfl, rfl⟩ := ha
    have := K.rep ⟨s.toArray⟩ c.toNat E.w (by omega) (by simpa [ByteArray.size] using hr.2.2)
    rw [Int.toNat_of_nonneg hr.1] at this
    refine this.mono fun e w' he => ?_
    obtain ⟨rfl, hw⟩ := he
    exact ⟨_, ⟨w', E.S, E.m, E.H⟩, rfl, rfl, rfl, inv_below I hw, ext_below I hw, by simp only [RelA,RelD]⟩
   ·simp at h
  ·simp at h
 ·exact S f args H r H' h
theorem repO_sh {n : Nat} {H0 : Heap} {Ψ : Oracle} {rk : FuncId} (hΨ : ShO n H0 Ψ Ψ) : ShO n H0 (repO rk Ψ) (repO rk Ψ) := fun f args H v H' h => by
 unfold repO at h ⊢
 split at h
 ·rename_i e
  rw [if_pos e]
  split at h
  ·split at h
   ·rename_i hr
    simp only [Option.some.injEq,Prod.mk.injEq] at h
    obtain ⟨rfl, rfl⟩ := h
    simp only [List.map_cons,List.map_nil,sh,if_pos hr]
   ·simp at h
  ·simp at h
 ·rename_i e
  rw [if_neg e]
  exact hΨ f args H v H' h
end Go.Abs
end
