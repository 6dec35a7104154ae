/- Part 7 of what the claim rests on. -/
import Derived.Test.YtmlpfgibpigcdaaGreatDoorLetsA
import Derived.Test.YtmlpfgibpigcdaaGreatDoorLetsB
import Derived.Test.YtmlpfgibpigcdaaGreatDoorLetsC
import Derived.Test.YtmlpfgibpigcdaaGreatDoorLetsD
import Derived.Test.YtmlpfgibpigcdaaGreatDoorLetsE
import Derived.Test.YtmlpfgibpigcdaaGreatDoorLetsF
section
set_option linter.unusedVariables false
set_option linter.unusedSimpArgs false
namespace Go.Abs.Seat
open Go.Proofs
abbrev WSt := List UInt8 × Bool
def WA (n : Nat) (H : Heap) (id : Nat) (st : WSt) : Prop := HoldE (113, 3) 5 n H id [.im (.bool st.2)] st.1
def isNam : NT → Bool
 | .mk op _ _ _ _ _ => decide (op = nameW)
def showW (t : KT) : List UInt8 := if rightT t 6 = true then showT t else []
def kidsW (nd : NT → WSt → WSt) (ps : List UInt8) : Nat → List NT → WSt → WSt
 | _, [], st => st
 | i, k :: ks, st => kidsW nd ps (i + 1) ks (nd k (st.1 ++ [sepB i], st.2 || (decide (ps[i]? = some 110) && !isNam k)))
def partsW (ps : List UInt8) (n : Nat) : List UInt8 := if ps = [43] then List.replicate (min (max 1 n) 64) 101 else ps
def callW (nd : NT → WSt → WSt) (op ps : List UInt8) (t : NT) (kids : List NT) (st : WSt) : WSt :=
 if (!decide (kids.length = (partsW ps kids.length).length) || !bareN t false false false true) = true then (st.1, true)
 else if 0 < kids.length then ((kidsW nd (partsW ps kids.length) 0 kids (st.1 ++ op, st.2)).1 ++ [41], (kidsW nd (partsW ps kids.length) 0 kids (st.1 ++ op, st.2)).2)
 else kidsW nd (partsW ps kids.length) 0 kids (st.1 ++ op, st.2)
def sideW : List UInt8 := [115, 105, 100, 101, 40]
def nodeW : Nat → NT → WSt → WSt
 | 0, _, st => (st.1, true)
 | d + 1, .mk op i txt ty s kids, st =>
  if (st.2 || decide (4096 < st.1.length)) = true then (st.1, true)
  else if op = intW then (st.1 ++ itoaN i, !bareN (.mk op i txt ty s kids) true false false false)
  else if op = textW then (if (!bareN (.mk op i txt ty s kids) false true false false || decide (256 < txt.length)) = true then (st.1, true) else (st.1 ++ quoteB txt, false))
  else if op = nameW then (st.1 ++ txt, !bareN (.mk op i txt ty s kids) false true false false || !nameOk txt)
  else match shapeT op with
   | none => (st.1, true)
   | some ps =>
    if ps = [100] then (st.1 ++ ((sideW ++ itoaN i) ++ [41]), (!bareN (.mk op i txt ty s kids) true false false false || decide (i < 0)) || decide (9 < i))
    else if ps = [116] then (st.1 ++ (((op ++ [40]) ++ showW ty) ++ [41]), !bareN (.mk op i txt ty s kids) false false true false || !decide (checkT ty = 0))
    else callW (nodeW d) op ps (.mk op i txt ty s kids) kids st
theorem digN_len : ∀ f u, (digN f u).length ≤ f
 | 0, u => Nat.le_refl _
 | f + 1, u => by
  unfold digN
  split
  ·simp
  ·have := digN_len f (u / 10)
   simp only [List.length_append,List.length_cons,List.length_nil]
   omega
theorem itoaN_len (n : Int) : (itoaN n).length ≤ 21 := by
 unfold itoaN
 split
 ·have := digN_len 20 n.natAbs; simp only [List.length_cons]; omega
 ·have := digN_len 20 n.toNat; omega
theorem showW_len (t : KT) : (showW t).length ≤ 409600 := by
 unfold showW
 split
 ·rename_i h
  have := show_len t 6 h
  omega
 ·simp
theorem wa_more {n : Nat} {H : Heap} {id : Nat} {st : WSt} (h : WA n H id st) (M : Heap) : WA n (H ++ M) id st := HoldE.more h M
theorem wa_get {n : Nat} {H : Heap} {id : Nat} {st : WSt} (h : WA n H id st) : ∃ a0 v, H[id]? = some (.obj (some (113, 3)) [[a0, v, .im (.bool st.2)]]) ∧ lenA v = some st.1.length ∧
  ∀ b, WA n (H.set id (.obj (some (113, 3)) [[a0, v, .im (.bool b)]])) id (st.1, b) := by
 obtain ⟨a0, v, h1, h2, h3, h4⟩ := h
 have hlt := (List.getElem?_eq_some_iff.1 h1).1
 refine ⟨a0, v, h1, ?_, fun b => ⟨a0, v, by rw [List.getElem?_set_self hlt], h2, h3.set_obj h1 _, by simpa using h4⟩⟩
 rcases h3 with ⟨he, rfl⟩ | ⟨_, tok, _, rfl, _⟩
 ·have : st.1 = [] := by simpa using he
  rw [this]; rfl
 ·simp [lenA]
theorem wa_lt {n : Nat} {H : Heap} {id : Nat} {st : WSt} (h : WA n H id st) : id < H.length := by
 obtain ⟨a0, v, h1, _⟩ := h
 exact (List.getElem?_eq_some_iff.1 h1).1
theorem okw : Tryz.okB (113, 3) = true := by decide
theorem wa_leave {n : Nat} {H H2 : Heap} {id : Nat} {st st2 : WSt} (h : WA n H id st) (h2 : WA n H2 id st2) (hk : Keeps n id H H2) :
  ∃ H', leave H false (.tup []) H2 = (.tup [], H') ∧ WA n H' id st2 ∧ Keeps n id H H' := leave_holdE (r := .tup []) (r' := .tup []) rfl h h2 hk
theorem s87 (i : Int) (h : -9223372036854775808 ≤ i ∧ i ≤ 9223372036854775807) (H : Heap) : L 87 [.im (.int .i64 i)] H = some (.im (.str (itoaN i)), H) := by
 have hF : F 87 = none := by kernel_rfl
 have : L 87 [.im (.int .i64 i)] H = bld 87 [.im (.int .i64 i)] H := lim_none hF _ _
 rw [this]
 show itoaO 87 _ 87 [.im (.int .i64 i)] H = _
 unfold itoaO
 rw [if_pos rfl]
 simp only [if_pos h]
abbrev nOf (op txt : List UInt8) (i k : Int) (sa s : Nat) (args : List KT) (kids : List NT) : HO := .obj none [[.im (.str op), .im (.int .i64 i), .im (.str txt), .im (.int .i64 k), .im (.sl sa (encTs args)), .im (.sl s (encNs kids))]]
section
variable {n : Nat} {H : Heap} {id : Nat} {st : WSt} (hw : WA n H id st) (op txt : List UInt8) (i k : Int) (sa s : Nat) (args : List KT) (kids : List NT) (d : Nat)
include hw
def Wrote (n : Nat) (H : Heap) (id : Nat) (t : NT) (d : Nat) (r : WSt) : Prop :=
 ∃ H2, WA n H2 id r ∧ Keeps n id H H2 ∧ L 57 [.ptr id 0 0, .im (.agg (encN t)), .im (.int .i64 (d : Int))] H = some (leave H false (.tup []) H2)
theorem s57_bad (hb : st.2 = true) : Wrote n H id (.mk op i txt (.mk k sa args) s kids) d (st.1, true) := by
 have hidlt := wa_lt hw
 have hw1 := wa_more hw [nOf op txt i k sa s args kids]
 obtain ⟨a0, v, hid, hlv, hset⟩ := wa_get hw1
 have hbx : (H ++ [nOf op txt i k sa s args kids])[H.length]? = some (nOf op txt i k sa s args kids) := by simp
 have hk1 : Keeps n id H (H ++ [nOf op txt i k sa s args kids]) := (Keeps.refl n id H).app _
 have c33 := fun H => s77 op H
 have hidlt1 : id < (H ++ [nOf op txt i k sa s args kids]).length := by simp only [List.length_append]; omega
 have hb := hb
 rw [hb] at hid
 unfold Wrote
 simp only [encN]
 rw [leq F57]
 obtain ⟨hlen, ha⟩ := enter_at (f := f57) (args := [.ptr id 0 0, .im (.agg [.str op, .int .i64 i, .str txt, .int .i64 k, .sl sa (encTs args), .sl s (encNs kids)]), .im (.int .i64 (d : Nat))]) (Nat.le_of_ble_eq_true rfl)
 have h0 := ha 0 _ rfl
 have h1 := ha 1 _ rfl
 have h2 := ha 2 _ rfl
 generalize enterA f57 [.ptr id 0 0, .im (.agg [.str op, .int .i64 i, .str txt, .int .i64 k, .sl sa (encTs args), .sl s (encNs kids)]), .im (.int .i64 (d : Nat))] = tm at *
 change tm.length = 167 at hlen
 clear ha
 simp only [nOf] at *
 simp only [f57,B0,B1,B2,List.replicate,reduceCtorEq,seval,endK,resA,tupA,hlen,h0,h1,h2,hid,hbx,c33,hb]
 exact ⟨_, hset true, hk1.set _, rfl⟩
theorem s57_zero (hb : st.2 = false) : Wrote n H id (.mk op i txt (.mk k sa args) s kids) 0 (st.1, true) := by
 have hidlt := wa_lt hw
 have hw1 := wa_more hw [nOf op txt i k sa s args kids]
 obtain ⟨a0, v, hid, hlv, hset⟩ := wa_get hw1
 have hbx : (H ++ [nOf op txt i k sa s args kids])[H.length]? = some (nOf op txt i k sa s args kids) := by simp
 have hk1 : Keeps n id H (H ++ [nOf op txt i k sa s args kids]) := (Keeps.refl n id H).app _
 have c33 := fun H => s77 op H
 have hidlt1 : id < (H ++ [nOf op txt i k sa s args kids]).length := by simp only [List.length_append]; omega
 rw [hb] at hid
 have z0 : ((0 : Nat) : Int) = 0 := rfl
 unfold Wrote
 simp only [encN]
 rw [leq F57]
 obtain ⟨hlen, ha⟩ := enter_at (f := f57) (args := [.ptr id 0 0, .im (.agg [.str op, .int .i64 i, .str txt, .int .i64 k, .sl sa (encTs args), .sl s (encNs kids)]), .im (.int .i64 (0 : Nat))]) (Nat.le_of_ble_eq_true rfl)
 have h0 := ha 0 _ rfl
 have h1 := ha 1 _ rfl
 have h2 := ha 2 _ rfl
 generalize enterA f57 [.ptr id 0 0, .im (.agg [.str op, .int .i64 i, .str txt, .int .i64 k, .sl sa (encTs args), .sl s (encNs kids)]), .im (.int .i64 (0 : Nat))] = tm at *
 change tm.length = 167 at hlen
 clear ha
 simp only [nOf] at *
 simp only [f57,B0,B1,B2,List.replicate,reduceCtorEq,seval,endK,resA,tupA,hlen,h0,h1,h2,hid,hbx,c33,z0]
 exact ⟨_, hset true, hk1.set _, rfl⟩
theorem s57_long (hb : st.2 = false) (hl : 4096 < st.1.length) : Wrote n H id (.mk op i txt (.mk k sa args) s kids) (d + 1) (st.1, true) := by
 have hidlt := wa_lt hw
 have hw1 := wa_more hw [nOf op txt i k sa s args kids]
 obtain ⟨a0, v, hid, hlv, hset⟩ := wa_get hw1
 have hbx : (H ++ [nOf op txt i k sa s args kids])[H.length]? = some (nOf op txt i k sa s args kids) := by simp
 have hk1 : Keeps n id H (H ++ [nOf op txt i k sa s args kids]) := (Keeps.refl n id H).app _
 have c33 := fun H => s77 op H
 have hidlt1 : id < (H ++ [nOf op txt i k sa s args kids]).length := by simp only [List.length_append]; omega
 rw [hb] at hid
 have d0 : decide (((d + 1 : Nat) : Int) = 0) = false := decide_eq_false (by omega)
 have d1 : decide ((4096 : Int) < (st.1.length : Int)) = true := decide_eq_true (by omega)
 have c25 := s58 hw1
 unfold Wrote
 simp only [encN]
 rw [leq F57]
 obtain ⟨hlen, ha⟩ := enter_at (f := f57) (args := [.ptr id 0 0, .im (.agg [.str op, .int .i64 i, .str txt, .int .i64 k, .sl sa (encTs args), .sl s (encNs kids)]), .im (.int .i64 ((d + 1) : Nat))]) (Nat.le_of_ble_eq_true rfl)
 have h0 := ha 0 _ rfl
 have h1 := ha 1 _ rfl
 have h2 := ha 2 _ rfl
 generalize enterA f57 [.ptr id 0 0, .im (.agg [.str op, .int .i64 i, .str txt, .int .i64 k, .sl sa (encTs args), .sl s (encNs kids)]), .im (.int .i64 ((d + 1) : Nat))] = tm at *
 change tm.length = 167 at hlen
 clear ha
 simp only [nOf] at *
 simp only [f57,B0,B1,B2,List.replicate,reduceCtorEq,seval,endK,resA,tupA,hlen,h0,h1,h2,hid,hbx,c33,d0,d1,c25]
 exact ⟨_, hset true, hk1.set _, rfl⟩
theorem s57_int (hb : st.2 = false) (hl : ¬ 4096 < st.1.length) (hop : op = intW) (h64 : -9223372036854775808 ≤ i ∧ i ≤ 9223372036854775807) : Wrote n H id (.mk op i txt (.mk k sa args) s kids) (d + 1) (st.1 ++ itoaN i, !bareN (.mk op i txt (.mk k sa args) s kids) true false false false) := by
 have hidlt := wa_lt hw
 have hw1 := wa_more hw [nOf op txt i k sa s args kids]
 obtain ⟨a0, v, hid, hlv, hset⟩ := wa_get hw1
 have hbx : (H ++ [nOf op txt i k sa s args kids])[H.length]? = some (nOf op txt i k sa s args kids) := by simp
 have hk1 : Keeps n id H (H ++ [nOf op txt i k sa s args kids]) := (Keeps.refl n id H).app _
 have c33 := fun H => s77 op H
 have hidlt1 : id < (H ++ [nOf op txt i k sa s args kids]).length := by simp only [List.length_append]; omega
 rw [hb] at hid
 have d0 : decide (((d + 1 : Nat) : Int) = 0) = false := decide_eq_false (by omega)
 have d1 : decide ((4096 : Int) < (st.1.length : Int)) = false := decide_eq_false (by omega)
 have c25 := s58 hw1
 have c43 := fun H => s85 op txt i k sa s args kids H
 simp only [encN] at c43
 have hbx2 : ∀ x, ((H ++ [nOf op txt i k sa s args kids]).set id x)[H.length]? = some (nOf op txt i k sa s args kids) := fun x => by rw [List.getElem?_set_ne (by omega)]; exact hbx
 have e1 : decide (op = [105, 110, 116]) = true := decide_eq_true hop
 have c43 := fun H => c43 H true false false false (.inl rfl)
 have c45 := fun H => s87 i h64 H
 generalize bareN (.mk op i txt (.mk k sa args) s kids) true false false false = bb at *
 obtain ⟨H2, c44, hH2, hK2⟩ := s86 okw (hset (!bb)) (itoaN i) (by have := itoaN_len i; simp only; omega)
 unfold Wrote
 simp only [encN]
 rw [leq F57]
 obtain ⟨hlen, ha⟩ := enter_at (f := f57) (args := [.ptr id 0 0, .im (.agg [.str op, .int .i64 i, .str txt, .int .i64 k, .sl sa (encTs args), .sl s (encNs kids)]), .im (.int .i64 ((d + 1) : Nat))]) (Nat.le_of_ble_eq_true rfl)
 have h0 := ha 0 _ rfl
 have h1 := ha 1 _ rfl
 have h2 := ha 2 _ rfl
 generalize enterA f57 [.ptr id 0 0, .im (.agg [.str op, .int .i64 i, .str txt, .int .i64 k, .sl sa (encTs args), .sl s (encNs kids)]), .im (.int .i64 ((d + 1) : Nat))] = tm at *
 change tm.length = 167 at hlen
 clear ha
 simp only [nOf] at *
 simp only [f57,B0,B1,B2,List.replicate,reduceCtorEq,seval,endK,resA,tupA,hlen,h0,h1,h2,hid,hbx,c33,d0,d1,c25,e1,c43,c45,hbx2,c44]
 exact ⟨H2, hH2, (hk1.set _).trans hK2, rfl⟩
theorem s57_text1 (hb : st.2 = false) (hl : ¬ 4096 < st.1.length) (hop : op = textW) (hbare : bareN (.mk op i txt (.mk k sa args) s kids) false true false false = false) : Wrote n H id (.mk op i txt (.mk k sa args) s kids) (d + 1) (st.1, true) := by
 have hidlt := wa_lt hw
 have hw1 := wa_more hw [nOf op txt i k sa s args kids]
 obtain ⟨a0, v, hid, hlv, hset⟩ := wa_get hw1
 have hbx : (H ++ [nOf op txt i k sa s args kids])[H.length]? = some (nOf op txt i k sa s args kids) := by simp
 have hk1 : Keeps n id H (H ++ [nOf op txt i k sa s args kids]) := (Keeps.refl n id H).app _
 have c33 := fun H => s77 op H
 have hidlt1 : id < (H ++ [nOf op txt i k sa s args kids]).length := by simp only [List.length_append]; omega
 rw [hb] at hid
 have d0 : decide (((d + 1 : Nat) : Int) = 0) = false := decide_eq_false (by omega)
 have d1 : decide ((4096 : Int) < (st.1.length : Int)) = false := decide_eq_false (by omega)
 have c25 := s58 hw1
 have c43 := fun H => s85 op txt i k sa s args kids H
 simp only [encN] at c43
 have hbx2 : ∀ x, ((H ++ [nOf op txt i k sa s args kids]).set id x)[H.length]? = some (nOf op txt i k sa s args kids) := fun x => by rw [List.getElem?_set_ne (by omega)]; exact hbx
 have e1 : decide (op = [105, 110, 116]) = false := decide_eq_false (by rw [hop]; decide)
 have e2 : decide (op = [116, 101, 120, 116, 95, 111, 102]) = true := decide_eq_true hop
 have c43 := fun H => c43 H false true false false (.inr (.inl rfl))
 rw [hbare] at c43
 unfold Wrote
 simp only [encN]
 rw [leq F57]
 obtain ⟨hlen, ha⟩ := enter_at (f := f57) (args := [.ptr id 0 0, .im (.agg [.str op, .int .i64 i, .str txt, .int .i64 k, .sl sa (encTs args), .sl s (encNs kids)]), .im (.int .i64 ((d + 1) : Nat))]) (Nat.le_of_ble_eq_true rfl)
 have h0 := ha 0 _ rfl
 have h1 := ha 1 _ rfl
 have h2 := ha 2 _ rfl
 generalize enterA f57 [.ptr id 0 0, .im (.agg [.str op, .int .i64 i, .str txt, .int .i64 k, .sl sa (encTs args), .sl s (encNs kids)]), .im (.int .i64 ((d + 1) : Nat))] = tm at *
 change tm.length = 167 at hlen
 clear ha
 simp only [nOf] at *
 simp only [f57,B0,B1,B2,List.replicate,reduceCtorEq,seval,endK,resA,tupA,hlen,h0,h1,h2,hid,hbx,c33,d0,d1,c25,e1,e2,c43,hbx2,List.set_set,List.getElem?_set_self hidlt1]
 exact ⟨_, hset true, hk1.set _, rfl⟩
theorem s57_text2 (hb : st.2 = false) (hl : ¬ 4096 < st.1.length) (hop : op = textW) (hbare : bareN (.mk op i txt (.mk k sa args) s kids) false true false false = true) (hlen2 : 256 < txt.length) : Wrote n H id (.mk op i txt (.mk k sa args) s kids) (d + 1) (st.1, true) := by
 have hidlt := wa_lt hw
 have hw1 := wa_more hw [nOf op txt i k sa s args kids]
 obtain ⟨a0, v, hid, hlv, hset⟩ := wa_get hw1
 have hbx : (H ++ [nOf op txt i k sa s args kids])[H.length]? = some (nOf op txt i k sa s args kids) := by simp
 have hk1 : Keeps n id H (H ++ [nOf op txt i k sa s args kids]) := (Keeps.refl n id H).app _
 have c33 := fun H => s77 op H
 have hidlt1 : id < (H ++ [nOf op txt i k sa s args kids]).length := by simp only [List.length_append]; omega
 rw [hb] at hid
 have d0 : decide (((d + 1 : Nat) : Int) = 0) = false := decide_eq_false (by omega)
 have d1 : decide ((4096 : Int) < (st.1.length : Int)) = false := decide_eq_false (by omega)
 have c25 := s58 hw1
 have c43 := fun H => s85 op txt i k sa s args kids H
 simp only [encN] at c43
 have hbx2 : ∀ x, ((H ++ [nOf op txt i k sa s args kids]).set id x)[H.length]? = some (nOf op txt i k sa s args kids) := fun x => by rw [List.getElem?_set_ne (by omega)]; exact hbx
 have e1 : decide (op = [105, 110, 116]) = false := decide_eq_false (by rw [hop]; decide)
 have e2 : decide (op = [116, 101, 120, 116, 95, 111, 102]) = true := decide_eq_true hop
 have c43 := fun H => c43 H false true false false (.inr (.inl rfl))
 rw [hbare] at c43
 have e3 : decide ((256 : Int) < (txt.length : Int)) = true := decide_eq_true (by omega)
 unfold Wrote
 simp only [encN]
 rw [leq F57]
 obtain ⟨hlen, ha⟩ := enter_at (f := f57) (args := [.ptr id 0 0, .im (.agg [.str op, .int .i64 i, .str txt, .int .i64 k, .sl sa (encTs args), .sl s (encNs kids)]), .im (.int .i64 ((d + 1) : Nat))]) (Nat.le_of_ble_eq_true rfl)
 have h0 := ha 0 _ rfl
 have h1 := ha 1 _ rfl
 have h2 := ha 2 _ rfl
 generalize enterA f57 [.ptr id 0 0, .im (.agg [.str op, .int .i64 i, .str txt, .int .i64 k, .sl sa (encTs args), .sl s (encNs kids)]), .im (.int .i64 ((d + 1) : Nat))] = tm at *
 change tm.length = 167 at hlen
 clear ha
 simp only [nOf] at *
 simp only [f57,B0,B1,B2,List.replicate,reduceCtorEq,seval,endK,resA,tupA,hlen,h0,h1,h2,hid,hbx,c33,d0,d1,c25,e1,e2,e3,c43,hbx2,List.set_set,List.getElem?_set_self hidlt1]
 exact ⟨_, hset true, hk1.set _, rfl⟩
theorem s57_text3 (hb : st.2 = false) (hl : ¬ 4096 < st.1.length) (hop : op = textW) (hbare : bareN (.mk op i txt (.mk k sa args) s kids) false true false false = true) (hlen2 : ¬ 256 < txt.length) : Wrote n H id (.mk op i txt (.mk k sa args) s kids) (d + 1) (st.1 ++ quoteB txt, false) := by
 have hidlt := wa_lt hw
 have hw1 := wa_more hw [nOf op txt i k sa s args kids]
 obtain ⟨a0, v, hid, hlv, hset⟩ := wa_get hw1
 have hbx : (H ++ [nOf op txt i k sa s args kids])[H.length]? = some (nOf op txt i k sa s args kids) := by simp
 have hk1 : Keeps n id H (H ++ [nOf op txt i k sa s args kids]) := (Keeps.refl n id H).app _
 have c33 := fun H => s77 op H
 have hidlt1 : id < (H ++ [nOf op txt i k sa s args kids]).length := by simp only [List.length_append]; omega
 rw [hb] at hid
 have d0 : decide (((d + 1 : Nat) : Int) = 0) = false := decide_eq_false (by omega)
 have d1 : decide ((4096 : Int) < (st.1.length : Int)) = false := decide_eq_false (by omega)
 have c25 := s58 hw1
 have c43 := fun H => s85 op txt i k sa s args kids H
 simp only [encN] at c43
 have hbx2 : ∀ x, ((H ++ [nOf op txt i k sa s args kids]).set id x)[H.length]? = some (nOf op txt i k sa s args kids) := fun x => by rw [List.getElem?_set_ne (by omega)]; exact hbx
 have e1 : decide (op = [105, 110, 116]) = false := decide_eq_false (by rw [hop]; decide)
 have e2 : decide (op = [116, 101, 120, 116, 95, 111, 102]) = true := decide_eq_true hop
 have c43 := fun H => c43 H false true false false (.inr (.inl rfl))
 rw [hbare] at c43
 have e3 : decide ((256 : Int) < (txt.length : Int)) = false := decide_eq_false (by omega)
 obtain ⟨H2, c46, hH2, hK2⟩ := s88 okw (hset false) txt (by omega) (by simp only; omega)
 unfold Wrote
 simp only [encN]
 rw [leq F57]
 obtain ⟨hlen, ha⟩ := enter_at (f := f57) (args := [.ptr id 0 0, .im (.agg [.str op, .int .i64 i, .str txt, .int .i64 k, .sl sa (encTs args), .sl s (encNs kids)]), .im (.int .i64 ((d + 1) : Nat))]) (Nat.le_of_ble_eq_true rfl)
 have h0 := ha 0 _ rfl
 have h1 := ha 1 _ rfl
 have h2 := ha 2 _ rfl
 generalize enterA f57 [.ptr id 0 0, .im (.agg [.str op, .int .i64 i, .str txt, .int .i64 k, .sl sa (encTs args), .sl s (encNs kids)]), .im (.int .i64 ((d + 1) : Nat))] = tm at *
 change tm.length = 167 at hlen
 clear ha
 simp only [nOf] at *
 simp only [f57,B0,B1,B2,List.replicate,reduceCtorEq,seval,endK,resA,tupA,hlen,h0,h1,h2,hid,hbx,c33,d0,d1,c25,e1,e2,e3,c43,hbx2,List.set_set,List.getElem?_set_self hidlt1,c46]
 exact ⟨H2, hH2, (hk1.set _).trans hK2, rfl⟩
theorem s57_name1 (hb : st.2 = false) (hl : ¬ 4096 < st.1.length) (hop : op = nameW) (hbare : bareN (.mk op i txt (.mk k sa args) s kids) false true false false = false) (htl : txt.length ≤ 1000000) : Wrote n H id (.mk op i txt (.mk k sa args) s kids) (d + 1) (st.1 ++ txt, true) := by
 have hidlt := wa_lt hw
 have hw1 := wa_more hw [nOf op txt i k sa s args kids]
 obtain ⟨a0, v, hid, hlv, hset⟩ := wa_get hw1
 have hbx : (H ++ [nOf op txt i k sa s args kids])[H.length]? = some (nOf op txt i k sa s args kids) := by simp
 have hk1 : Keeps n id H (H ++ [nOf op txt i k sa s args kids]) := (Keeps.refl n id H).app _
 have c33 := fun H => s77 op H
 have hidlt1 : id < (H ++ [nOf op txt i k sa s args kids]).length := by simp only [List.length_append]; omega
 rw [hb] at hid
 have d0 : decide (((d + 1 : Nat) : Int) = 0) = false := decide_eq_false (by omega)
 have d1 : decide ((4096 : Int) < (st.1.length : Int)) = false := decide_eq_false (by omega)
 have c25 := s58 hw1
 have c43 := fun H => s85 op txt i k sa s args kids H
 simp only [encN] at c43
 have hbx2 : ∀ x, ((H ++ [nOf op txt i k sa s args kids]).set id x)[H.length]? = some (nOf op txt i k sa s args kids) := fun x => by rw [List.getElem?_set_ne (by omega)]; exact hbx
 have e1 : decide (op = [105, 110, 116]) = false := decide_eq_false (by rw [hop]; decide)
 have e2 : decide (op = [116, 101, 120, 116, 95, 111, 102]) = false := decide_eq_false (by rw [hop]; decide)
 have e3 : decide (op = [110, 97, 109, 101]) = true := decide_eq_true hop
 have c43 := fun H => c43 H false true false false (.inr (.inl rfl))
 have c47 := fun H => s89g txt (by omega) H
 rw [hbare] at c43
 obtain ⟨H2, c44, hH2, hK2⟩ := s86 okw (hset true) txt (by simp only; omega)
 unfold Wrote
 simp only [encN]
 rw [leq F57]
 obtain ⟨hlen, ha⟩ := enter_at (f := f57) (args := [.ptr id 0 0, .im (.agg [.str op, .int .i64 i, .str txt, .int .i64 k, .sl sa (encTs args), .sl s (encNs kids)]), .im (.int .i64 ((d + 1) : Nat))]) (Nat.le_of_ble_eq_true rfl)
 have h0 := ha 0 _ rfl
 have h1 := ha 1 _ rfl
 have h2 := ha 2 _ rfl
 generalize enterA f57 [.ptr id 0 0, .im (.agg [.str op, .int .i64 i, .str txt, .int .i64 k, .sl sa (encTs args), .sl s (encNs kids)]), .im (.int .i64 ((d + 1) : Nat))] = tm at *
 change tm.length = 167 at hlen
 clear ha
 simp only [nOf] at *
 simp only [f57,B0,B1,B2,List.replicate,reduceCtorEq,seval,endK,resA,tupA,hlen,h0,h1,h2,hid,hbx,c33,d0,d1,c25,e1,e2,e3,c43,c47,hbx2,c44]
 exact ⟨H2, hH2, (hk1.set _).trans hK2, rfl⟩
theorem s57_name2 (hb : st.2 = false) (hl : ¬ 4096 < st.1.length) (hop : op = nameW) (hbare : bareN (.mk op i txt (.mk k sa args) s kids) false true false false = true) (htl : txt.length ≤ 1000000) : Wrote n H id (.mk op i txt (.mk k sa args) s kids) (d + 1) (st.1 ++ txt, !nameOk txt) := by
 have hidlt := wa_lt hw
 have hw1 := wa_more hw [nOf op txt i k sa s args kids]
 obtain ⟨a0, v, hid, hlv, hset⟩ := wa_get hw1
 have hbx : (H ++ [nOf op txt i k sa s args kids])[H.length]? = some (nOf op txt i k sa s args kids) := by simp
 have hk1 : Keeps n id H (H ++ [nOf op txt i k sa s args kids]) := (Keeps.refl n id H).app _
 have c33 := fun H => s77 op H
 have hidlt1 : id < (H ++ [nOf op txt i k sa s args kids]).length := by simp only [List.length_append]; omega
 rw [hb] at hid
 have d0 : decide (((d + 1 : Nat) : Int) = 0) = false := decide_eq_false (by omega)
 have d1 : decide ((4096 : Int) < (st.1.length : Int)) = false := decide_eq_false (by omega)
 have c25 := s58 hw1
 have c43 := fun H => s85 op txt i k sa s args kids H
 simp only [encN] at c43
 have hbx2 : ∀ x, ((H ++ [nOf op txt i k sa s args kids]).set id x)[H.length]? = some (nOf op txt i k sa s args kids) := fun x => by rw [List.getElem?_set_ne (by omega)]; exact hbx
 have e1 : decide (op = [105, 110, 116]) = false := decide_eq_false (by rw [hop]; decide)
 have e2 : decide (op = [116, 101, 120, 116, 95, 111, 102]) = false := decide_eq_false (by rw [hop]; decide)
 have e3 : decide (op = [110, 97, 109, 101]) = true := decide_eq_true hop
 have c43 := fun H => c43 H false true false false (.inr (.inl rfl))
 have c47 := fun H => s89g txt (by omega) H
 rw [hbare] at c43
 obtain ⟨H2, c44, hH2, hK2⟩ := s86 okw (hset (!nameOk txt)) txt (by simp only; omega)
 unfold Wrote
 simp only [encN]
 rw [leq F57]
 obtain ⟨hlen, ha⟩ := enter_at (f := f57) (args := [.ptr id 0 0, .im (.agg [.str op, .int .i64 i, .str txt, .int .i64 k, .sl sa (encTs args), .sl s (encNs kids)]), .im (.int .i64 ((d + 1) : Nat))]) (Nat.le_of_ble_eq_true rfl)
 have h0 := ha 0 _ rfl
 have h1 := ha 1 _ rfl
 have h2 := ha 2 _ rfl
 generalize enterA f57 [.ptr id 0 0, .im (.agg [.str op, .int .i64 i, .str txt, .int .i64 k, .sl sa (encTs args), .sl s (encNs kids)]), .im (.int .i64 ((d + 1) : Nat))] = tm at *
 change tm.length = 167 at hlen
 clear ha
 simp only [nOf] at *
 simp only [f57,B0,B1,B2,List.replicate,reduceCtorEq,seval,endK,resA,tupA,hlen,h0,h1,h2,hid,hbx,c33,d0,d1,c25,e1,e2,e3,c43,c47,hbx2,c44]
 exact ⟨H2, hH2, (hk1.set _).trans hK2, rfl⟩
theorem s57_none (hb : st.2 = false) (hl : ¬ 4096 < st.1.length) (hn1 : op ≠ intW) (hn2 : op ≠ textW) (hn3 : op ≠ nameW) (hsh : shapeT op = none) : Wrote n H id (.mk op i txt (.mk k sa args) s kids) (d + 1) (st.1, true) := by
 have hidlt := wa_lt hw
 have hw1 := wa_more hw [nOf op txt i k sa s args kids]
 obtain ⟨a0, v, hid, hlv, hset⟩ := wa_get hw1
 have hbx : (H ++ [nOf op txt i k sa s args kids])[H.length]? = some (nOf op txt i k sa s args kids) := by simp
 have hk1 : Keeps n id H (H ++ [nOf op txt i k sa s args kids]) := (Keeps.refl n id H).app _
 have c33 := fun H => s77 op H
 have hidlt1 : id < (H ++ [nOf op txt i k sa s args kids]).length := by simp only [List.length_append]; omega
 rw [hb] at hid
 have d0 : decide (((d + 1 : Nat) : Int) = 0) = false := decide_eq_false (by omega)
 have d1 : decide ((4096 : Int) < (st.1.length : Int)) = false := decide_eq_false (by omega)
 have c25 := s58 hw1
 have c43 := fun H => s85 op txt i k sa s args kids H
 simp only [encN] at c43
 have hbx2 : ∀ x, ((H ++ [nOf op txt i k sa s args kids]).set id x)[H.length]? = some (nOf op txt i k sa s args kids) := fun x => by rw [List.getElem?_set_ne (by omega)]; exact hbx
 have e1 : decide (op = [105, 110, 116]) = false := decide_eq_false hn1
 have e2 : decide (op = [116, 101, 120, 116, 95, 111, 102]) = false := decide_eq_false hn2
 have e3 : decide (op = [110, 97, 109, 101]) = false := decide_eq_false hn3
 rw [hsh] at c33
 simp only [Option.getD_none,Option.isSome_none] at c33
 unfold Wrote
 simp only [encN]
 rw [leq F57]
 obtain ⟨hlen, ha⟩ := enter_at (f := f57) (args := [.ptr id 0 0, .im (.agg [.str op, .int .i64 i, .str txt, .int .i64 k, .sl sa (encTs args), .sl s (encNs kids)]), .im (.int .i64 ((d + 1) : Nat))]) (Nat.le_of_ble_eq_true rfl)
 have h0 := ha 0 _ rfl
 have h1 := ha 1 _ rfl
 have h2 := ha 2 _ rfl
 generalize enterA f57 [.ptr id 0 0, .im (.agg [.str op, .int .i64 i, .str txt, .int .i64 k, .sl sa (encTs args), .sl s (encNs kids)]), .im (.int .i64 ((d + 1) : Nat))] = tm at *
 change tm.length = 167 at hlen
 clear ha
 simp only [nOf] at *
 simp only [f57,B0,B1,B2,List.replicate,reduceCtorEq,seval,endK,resA,tupA,hlen,h0,h1,h2,hid,hbx,c33,d0,d1,c25,e1,e2,e3]
 exact ⟨_, hset true, hk1.set _, rfl⟩
theorem s57_d1 (hb : st.2 = false) (hl : ¬ 4096 < st.1.length) (hn1 : op ≠ intW) (hn2 : op ≠ textW) (hn3 : op ≠ nameW) (hsh : shapeT op = some [100]) (h64 : -9223372036854775808 ≤ i ∧ i ≤ 9223372036854775807) (hbare : bareN (.mk op i txt (.mk k sa args) s kids) true false false false = false) : Wrote n H id (.mk op i txt (.mk k sa args) s kids) (d + 1) (st.1 ++ ((sideW ++ itoaN i) ++ [41]), true) := by
 have hidlt := wa_lt hw
 have hw1 := wa_more hw [nOf op txt i k sa s args kids]
 obtain ⟨a0, v, hid, hlv, hset⟩ := wa_get hw1
 have hbx : (H ++ [nOf op txt i k sa s args kids])[H.length]? = some (nOf op txt i k sa s args kids) := by simp
 have hk1 : Keeps n id H (H ++ [nOf op txt i k sa s args kids]) := (Keeps.refl n id H).app _
 have c33 := fun H => s77 op H
 have hidlt1 : id < (H ++ [nOf op txt i k sa s args kids]).length := by simp only [List.length_append]; omega
 rw [hb] at hid
 have d0 : decide (((d + 1 : Nat) : Int) = 0) = false := decide_eq_false (by omega)
 have d1 : decide ((4096 : Int) < (st.1.length : Int)) = false := decide_eq_false (by omega)
 have c25 := s58 hw1
 have c43 := fun H => s85 op txt i k sa s args kids H
 simp only [encN] at c43
 have hbx2 : ∀ x, ((H ++ [nOf op txt i k sa s args kids]).set id x)[H.length]? = some (nOf op txt i k sa s args kids) := fun x => by rw [List.getElem?_set_ne (by omega)]; exact hbx
 have e1 : decide (op = [105, 110, 116]) = false := decide_eq_false hn1
 have e2 : decide (op = [116, 101, 120, 116, 95, 111, 102]) = false := decide_eq_false hn2
 have e3 : decide (op = [110, 97, 109, 101]) = false := decide_eq_false hn3
 rw [hsh] at c33
 simp only [Option.getD_some,Option.isSome_some] at c33
 have f1 : decide (([100] : List UInt8) = [100]) = true := rfl
 have c43 := fun H => c43 H true false false false (.inl rfl)
 have c45 := fun H => s87 i h64 H
 have hil := itoaN_len i
 have a1 := s_add (x := [115, 105, 100, 101, 40]) (y := itoaN i) (by simp only [List.length_cons,List.length_nil]; omega)
 have a2 := s_add (x := [115, 105, 100, 101, 40] ++ itoaN i) (y := [41]) (by simp only [List.length_append,List.length_cons,List.length_nil]; omega)
 simp only [List.cons_append,List.nil_append] at a1 a2
 rw [hbare] at c43
 have g1 := hb
 have g2 := hb
 obtain ⟨H2, c44, hH2, hK2⟩ := s86 okw (hset true) ((sideW ++ itoaN i) ++ [41]) (by simp only [sideW,List.length_append,List.length_cons,List.length_nil]; omega)
 simp only [sideW,List.cons_append,List.nil_append] at c44
 unfold Wrote
 simp only [encN]
 rw [leq F57]
 obtain ⟨hlen, ha⟩ := enter_at (f := f57) (args := [.ptr id 0 0, .im (.agg [.str op, .int .i64 i, .str txt, .int .i64 k, .sl sa (encTs args), .sl s (encNs kids)]), .im (.int .i64 ((d + 1) : Nat))]) (Nat.le_of_ble_eq_true rfl)
 have h0 := ha 0 _ rfl
 have h1 := ha 1 _ rfl
 have h2 := ha 2 _ rfl
 generalize enterA f57 [.ptr id 0 0, .im (.agg [.str op, .int .i64 i, .str txt, .int .i64 k, .sl sa (encTs args), .sl s (encNs kids)]), .im (.int .i64 ((d + 1) : Nat))] = tm at *
 change tm.length = 167 at hlen
 clear ha
 simp only [nOf] at *
 simp only [f57,B0,B1,B2,List.replicate,reduceCtorEq,seval,endK,resA,tupA,hlen,h0,h1,h2,hid,hbx,c33,d0,d1,c25,e1,e2,e3,f1,c43,c45,a1,a2,g1,g2,hbx2,c44]
 exact ⟨H2, hH2, (hk1.set _).trans hK2, rfl⟩
theorem s57_d2 (hb : st.2 = false) (hl : ¬ 4096 < st.1.length) (hn1 : op ≠ intW) (hn2 : op ≠ textW) (hn3 : op ≠ nameW) (hsh : shapeT op = some [100]) (h64 : -9223372036854775808 ≤ i ∧ i ≤ 9223372036854775807) (hbare : bareN (.mk op i txt (.mk k sa args) s kids) true false false false = true) (hi : i < 0) : Wrote n H id (.mk op i txt (.mk k sa args) s kids) (d + 1) (st.1 ++ ((sideW ++ itoaN i) ++ [41]), true) := by
 have hidlt := wa_lt hw
 have hw1 := wa_more hw [nOf op txt i k sa s args kids]
 obtain ⟨a0, v, hid, hlv, hset⟩ := wa_get hw1
 have hbx : (H ++ [nOf op txt i k sa s args kids])[H.length]? = some (nOf op txt i k sa s args kids) := by simp
 have hk1 : Keeps n id H (H ++ [nOf op txt i k sa s args kids]) := (Keeps.refl n id H).app _
 have c33 := fun H => s77 op H
 have hidlt1 : id < (H ++ [nOf op txt i k sa s args kids]).length := by simp only [List.length_append]; omega
 rw [hb] at hid
 have d0 : decide (((d + 1 : Nat) : Int) = 0) = false := decide_eq_false (by omega)
 have d1 : decide ((4096 : Int) < (st.1.length : Int)) = false := decide_eq_false (by omega)
 have c25 := s58 hw1
 have c43 := fun H => s85 op txt i k sa s args kids H
 simp only [encN] at c43
 have hbx2 : ∀ x, ((H ++ [nOf op txt i k sa s args kids]).set id x)[H.length]? = some (nOf op txt i k sa s args kids) := fun x => by rw [List.getElem?_set_ne (by omega)]; exact hbx
 have e1 : decide (op = [105, 110, 116]) = false := decide_eq_false hn1
 have e2 : decide (op = [116, 101, 120, 116, 95, 111, 102]) = false := decide_eq_false hn2
 have e3 : decide (op = [110, 97, 109, 101]) = false := decide_eq_false hn3
 rw [hsh] at c33
 simp only [Option.getD_some,Option.isSome_some] at c33
 have f1 : decide (([100] : List UInt8) = [100]) = true := rfl
 have c43 := fun H => c43 H true false false false (.inl rfl)
 have c45 := fun H => s87 i h64 H
 have hil := itoaN_len i
 have a1 := s_add (x := [115, 105, 100, 101, 40]) (y := itoaN i) (by simp only [List.length_cons,List.length_nil]; omega)
 have a2 := s_add (x := [115, 105, 100, 101, 40] ++ itoaN i) (y := [41]) (by simp only [List.length_append,List.length_cons,List.length_nil]; omega)
 simp only [List.cons_append,List.nil_append] at a1 a2
 rw [hbare] at c43
 have g1 : decide (i < 0) = true := decide_eq_true hi
 have g2 := hb
 obtain ⟨H2, c44, hH2, hK2⟩ := s86 okw (hset true) ((sideW ++ itoaN i) ++ [41]) (by simp only [sideW,List.length_append,List.length_cons,List.length_nil]; omega)
 simp only [sideW,List.cons_append,List.nil_append] at c44
 unfold Wrote
 simp only [encN]
 rw [leq F57]
 obtain ⟨hlen, ha⟩ := enter_at (f := f57) (args := [.ptr id 0 0, .im (.agg [.str op, .int .i64 i, .str txt, .int .i64 k, .sl sa (encTs args), .sl s (encNs kids)]), .im (.int .i64 ((d + 1) : Nat))]) (Nat.le_of_ble_eq_true rfl)
 have h0 := ha 0 _ rfl
 have h1 := ha 1 _ rfl
 have h2 := ha 2 _ rfl
 generalize enterA f57 [.ptr id 0 0, .im (.agg [.str op, .int .i64 i, .str txt, .int .i64 k, .sl sa (encTs args), .sl s (encNs kids)]), .im (.int .i64 ((d + 1) : Nat))] = tm at *
 change tm.length = 167 at hlen
 clear ha
 simp only [nOf] at *
 simp only [f57,B0,B1,B2,List.replicate,reduceCtorEq,seval,endK,resA,tupA,hlen,h0,h1,h2,hid,hbx,c33,d0,d1,c25,e1,e2,e3,f1,c43,c45,a1,a2,g1,g2,hbx2,c44]
 exact ⟨H2, hH2, (hk1.set _).trans hK2, rfl⟩
theorem s57_d3 (hb : st.2 = false) (hl : ¬ 4096 < st.1.length) (hn1 : op ≠ intW) (hn2 : op ≠ textW) (hn3 : op ≠ nameW) (hsh : shapeT op = some [100]) (h64 : -9223372036854775808 ≤ i ∧ i ≤ 9223372036854775807) (hbare : bareN (.mk op i txt (.mk k sa args) s kids) true false false false = true) (hi : ¬ i < 0) : Wrote n H id (.mk op i txt (.mk k sa args) s kids) (d + 1) (st.1 ++ ((sideW ++ itoaN i) ++ [41]), (decide (9 < i))) := by
 have hidlt := wa_lt hw
 have hw1 := wa_more hw [nOf op txt i k sa s args kids]
 obtain ⟨a0, v, hid, hlv, hset⟩ := wa_get hw1
 have hbx : (H ++ [nOf op txt i k sa s args kids])[H.length]? = some (nOf op txt i k sa s args kids) := by simp
 have hk1 : Keeps n id H (H ++ [nOf op txt i k sa s args kids]) := (Keeps.refl n id H).app _
 have c33 := fun H => s77 op H
 have hidlt1 : id < (H ++ [nOf op txt i k sa s args kids]).length := by simp only [List.length_append]; omega
 rw [hb] at hid
 have d0 : decide (((d + 1 : Nat) : Int) = 0) = false := decide_eq_false (by omega)
 have d1 : decide ((4096 : Int) < (st.1.length : Int)) = false := decide_eq_false (by omega)
 have c25 := s58 hw1
 have c43 := fun H => s85 op txt i k sa s args kids H
 simp only [encN] at c43
 have hbx2 : ∀ x, ((H ++ [nOf op txt i k sa s args kids]).set id x)[H.length]? = some (nOf op txt i k sa s args kids) := fun x => by rw [List.getElem?_set_ne (by omega)]; exact hbx
 have e1 : decide (op = [105, 110, 116]) = false := decide_eq_false hn1
 have e2 : decide (op = [116, 101, 120, 116, 95, 111, 102]) = false := decide_eq_false hn2
 have e3 : decide (op = [110, 97, 109, 101]) = false := decide_eq_false hn3
 rw [hsh] at c33
 simp only [Option.getD_some,Option.isSome_some] at c33
 have f1 : decide (([100] : List UInt8) = [100]) = true := rfl
 have c43 := fun H => c43 H true false false false (.inl rfl)
 have c45 := fun H => s87 i h64 H
 have hil := itoaN_len i
 have a1 := s_add (x := [115, 105, 100, 101, 40]) (y := itoaN i) (by simp only [List.length_cons,List.length_nil]; omega)
 have a2 := s_add (x := [115, 105, 100, 101, 40] ++ itoaN i) (y := [41]) (by simp only [List.length_append,List.length_cons,List.length_nil]; omega)
 simp only [List.cons_append,List.nil_append] at a1 a2
 rw [hbare] at c43
 have g1 : decide (i < 0) = false := decide_eq_false hi
 have g2 := hb
 obtain ⟨H2, c44, hH2, hK2⟩ := s86 okw (hset (decide (9 < i))) ((sideW ++ itoaN i) ++ [41]) (by simp only [sideW,List.length_append,List.length_cons,List.length_nil]; omega)
 simp only [sideW,List.cons_append,List.nil_append] at c44
 unfold Wrote
 simp only [encN]
 rw [leq F57]
 obtain ⟨hlen, ha⟩ := enter_at (f := f57) (args := [.ptr id 0 0, .im (.agg [.str op, .int .i64 i, .str txt, .int .i64 k, .sl sa (encTs args), .sl s (encNs kids)]), .im (.int .i64 ((d + 1) : Nat))]) (Nat.le_of_ble_eq_true rfl)
 have h0 := ha 0 _ rfl
 have h1 := ha 1 _ rfl
 have h2 := ha 2 _ rfl
 generalize enterA f57 [.ptr id 0 0, .im (.agg [.str op, .int .i64 i, .str txt, .int .i64 k, .sl sa (encTs args), .sl s (encNs kids)]), .im (.int .i64 ((d + 1) : Nat))] = tm at *
 change tm.length = 167 at hlen
 clear ha
 simp only [nOf] at *
 simp only [f57,B0,B1,B2,List.replicate,reduceCtorEq,seval,endK,resA,tupA,hlen,h0,h1,h2,hid,hbx,c33,d0,d1,c25,e1,e2,e3,f1,c43,c45,a1,a2,g1,g2,hbx2,c44]
 exact ⟨H2, hH2, (hk1.set _).trans hK2, rfl⟩
theorem s57_t1 (hb : st.2 = false) (hl : ¬ 4096 < st.1.length) (hn1 : op ≠ intW) (hn2 : op ≠ textW) (hn3 : op ≠ nameW) (hsh : shapeT op = some [116]) (hty : okT (.mk k sa args)) (hol : op.length ≤ 1000000) (hbare : bareN (.mk op i txt (.mk k sa args) s kids) false false true false = false) : Wrote n H id (.mk op i txt (.mk k sa args) s kids) (d + 1) (st.1 ++ (((op ++ [40]) ++ showW (.mk k sa args)) ++ [41]), true) := by
 have hidlt := wa_lt hw
 have hw1 := wa_more hw [nOf op txt i k sa s args kids]
 obtain ⟨a0, v, hid, hlv, hset⟩ := wa_get hw1
 have hbx : (H ++ [nOf op txt i k sa s args kids])[H.length]? = some (nOf op txt i k sa s args kids) := by simp
 have hk1 : Keeps n id H (H ++ [nOf op txt i k sa s args kids]) := (Keeps.refl n id H).app _
 have c33 := fun H => s77 op H
 have hidlt1 : id < (H ++ [nOf op txt i k sa s args kids]).length := by simp only [List.length_append]; omega
 rw [hb] at hid
 have d0 : decide (((d + 1 : Nat) : Int) = 0) = false := decide_eq_false (by omega)
 have d1 : decide ((4096 : Int) < (st.1.length : Int)) = false := decide_eq_false (by omega)
 have c25 := s58 hw1
 have c43 := fun H => s85 op txt i k sa s args kids H
 simp only [encN] at c43
 have hbx2 : ∀ x, ((H ++ [nOf op txt i k sa s args kids]).set id x)[H.length]? = some (nOf op txt i k sa s args kids) := fun x => by rw [List.getElem?_set_ne (by omega)]; exact hbx
 have e1 : decide (op = [105, 110, 116]) = false := decide_eq_false hn1
 have e2 : decide (op = [116, 101, 120, 116, 95, 111, 102]) = false := decide_eq_false hn2
 have e3 : decide (op = [110, 97, 109, 101]) = false := decide_eq_false hn3
 rw [hsh] at c33
 simp only [Option.getD_some,Option.isSome_some] at c33
 have f1 : decide (([116] : List UInt8) = [100]) = false := rfl
 have f2 : decide (([116] : List UInt8) = [116]) = true := rfl
 have c43 := fun H => c43 H false false true false (.inr (.inr (.inl rfl)))
 have c48 := fun H => s90 (.mk k sa args) hty H
 have hsl := showW_len (.mk k sa args)
 unfold showW
 unfold showW at hsl
 simp only [encT] at c48
 generalize (if rightT (KT.mk k sa args) 6 = true then showT (KT.mk k sa args) else []) = sw at *
 generalize checkT (KT.mk k sa args) = ec at *
 have a1 := s_add (x := op) (y := [40]) (by simp only [List.length_cons,List.length_nil]; omega)
 have a2 := s_add (x := op ++ [40]) (y := sw) (by simp only [List.length_append,List.length_cons,List.length_nil]; omega)
 have a3 := s_add (x := op ++ [40] ++ sw) (y := [41]) (by simp only [List.length_append,List.length_cons,List.length_nil]; omega)
 rw [hbare] at c43
 obtain ⟨H2, c44, hH2, hK2⟩ := s86 okw (hset true) (((op ++ [40]) ++ sw) ++ [41]) (by simp only [List.length_append,List.length_cons,List.length_nil]; omega)
 simp only [List.append_assoc,List.cons_append,List.nil_append] at a2 a3 c44 hH2
 unfold Wrote
 simp only [encN]
 rw [leq F57]
 obtain ⟨hlen, ha⟩ := enter_at (f := f57) (args := [.ptr id 0 0, .im (.agg [.str op, .int .i64 i, .str txt, .int .i64 k, .sl sa (encTs args), .sl s (encNs kids)]), .im (.int .i64 ((d + 1) : Nat))]) (Nat.le_of_ble_eq_true rfl)
 have h0 := ha 0 _ rfl
 have h1 := ha 1 _ rfl
 have h2 := ha 2 _ rfl
 generalize enterA f57 [.ptr id 0 0, .im (.agg [.str op, .int .i64 i, .str txt, .int .i64 k, .sl sa (encTs args), .sl s (encNs kids)]), .im (.int .i64 ((d + 1) : Nat))] = tm at *
 change tm.length = 167 at hlen
 clear ha
 simp only [nOf] at *
 simp only [f57,B0,B1,B2,List.replicate,reduceCtorEq,seval,endK,resA,tupA,hlen,h0,h1,h2,hid,hbx,c33,d0,d1,c25,e1,e2,e3,f1,f2,c43,c48,a1,a2,a3,hbx2,c44]
 exact ⟨H2, hH2, (hk1.set _).trans hK2, rfl⟩
theorem s57_t2 (hb : st.2 = false) (hl : ¬ 4096 < st.1.length) (hn1 : op ≠ intW) (hn2 : op ≠ textW) (hn3 : op ≠ nameW) (hsh : shapeT op = some [116]) (hty : okT (.mk k sa args)) (hol : op.length ≤ 1000000) (hbare : bareN (.mk op i txt (.mk k sa args) s kids) false false true false = true) : Wrote n H id (.mk op i txt (.mk k sa args) s kids) (d + 1) (st.1 ++ (((op ++ [40]) ++ showW (.mk k sa args)) ++ [41]), (!decide (checkT (.mk k sa args) = 0))) := by
 have hidlt := wa_lt hw
 have hw1 := wa_more hw [nOf op txt i k sa s args kids]
 obtain ⟨a0, v, hid, hlv, hset⟩ := wa_get hw1
 have hbx : (H ++ [nOf op txt i k sa s args kids])[H.length]? = some (nOf op txt i k sa s args kids) := by simp
 have hk1 : Keeps n id H (H ++ [nOf op txt i k sa s args kids]) := (Keeps.refl n id H).app _
 have c33 := fun H => s77 op H
 have hidlt1 : id < (H ++ [nOf op txt i k sa s args kids]).length := by simp only [List.length_append]; omega
 rw [hb] at hid
 have d0 : decide (((d + 1 : Nat) : Int) = 0) = false := decide_eq_false (by omega)
 have d1 : decide ((4096 : Int) < (st.1.length : Int)) = false := decide_eq_false (by omega)
 have c25 := s58 hw1
 have c43 := fun H => s85 op txt i k sa s args kids H
 simp only [encN] at c43
 have hbx2 : ∀ x, ((H ++ [nOf op txt i k sa s args kids]).set id x)[H.length]? = some (nOf op txt i k sa s args kids) := fun x => by rw [List.getElem?_set_ne (by omega)]; exact hbx
 have e1 : decide (op = [105, 110, 116]) = false := decide_eq_false hn1
 have e2 : decide (op = [116, 101, 120, 116, 95, 111, 102]) = false := decide_eq_false hn2
 have e3 : decide (op = [110, 97, 109, 101]) = false := decide_eq_false hn3
 rw [hsh] at c33
 simp only [Option.getD_some,Option.isSome_some] at c33
 have f1 : decide (([116] : List UInt8) = [100]) = false := rfl
 have f2 : decide (([116] : List UInt8) = [116]) = true := rfl
 have c43 := fun H => c43 H false false true false (.inr (.inr (.inl rfl)))
 have c48 := fun H => s90 (.mk k sa args) hty H
 have hsl := showW_len (.mk k sa args)
 unfold showW
 unfold showW at hsl
 simp only [encT] at c48
 generalize (if rightT (KT.mk k sa args) 6 = true then showT (KT.mk k sa args) else []) = sw at *
 generalize checkT (KT.mk k sa args) = ec at *
 have a1 := s_add (x := op) (y := [40]) (by simp only [List.length_cons,List.length_nil]; omega)
 have a2 := s_add (x := op ++ [40]) (y := sw) (by simp only [List.length_append,List.length_cons,List.length_nil]; omega)
 have a3 := s_add (x := op ++ [40] ++ sw) (y := [41]) (by simp only [List.length_append,List.length_cons,List.length_nil]; omega)
 rw [hbare] at c43
 obtain ⟨H2, c44, hH2, hK2⟩ := s86 okw (hset (!decide (ec = 0))) (((op ++ [40]) ++ sw) ++ [41]) (by simp only [List.length_append,List.length_cons,List.length_nil]; omega)
 simp only [List.append_assoc,List.cons_append,List.nil_append] at a2 a3 c44 hH2
 unfold Wrote
 simp only [encN]
 rw [leq F57]
 obtain ⟨hlen, ha⟩ := enter_at (f := f57) (args := [.ptr id 0 0, .im (.agg [.str op, .int .i64 i, .str txt, .int .i64 k, .sl sa (encTs args), .sl s (encNs kids)]), .im (.int .i64 ((d + 1) : Nat))]) (Nat.le_of_ble_eq_true rfl)
 have h0 := ha 0 _ rfl
 have h1 := ha 1 _ rfl
 have h2 := ha 2 _ rfl
 generalize enterA f57 [.ptr id 0 0, .im (.agg [.str op, .int .i64 i, .str txt, .int .i64 k, .sl sa (encTs args), .sl s (encNs kids)]), .im (.int .i64 ((d + 1) : Nat))] = tm at *
 change tm.length = 167 at hlen
 clear ha
 simp only [nOf] at *
 simp only [f57,B0,B1,B2,List.replicate,reduceCtorEq,seval,endK,resA,tupA,hlen,h0,h1,h2,hid,hbx,c33,d0,d1,c25,e1,e2,e3,f1,f2,c43,c48,a1,a2,a3,hbx2,c44]
 exact ⟨H2, hH2, (hk1.set _).trans hK2, rfl⟩
end
end Go.Abs.Seat
end
section
set_option linter.unusedVariables false
set_option linter.unusedSimpArgs false
namespace Go.Abs.Seat
open Go.Proofs
theorem repeat_rep : ∀ c : Nat, Lib.repeatL [101] c = List.replicate c 101
 | 0 => rfl
 | c + 1 => by
  simp only [Lib.repeatL,repeat_rep c,List.replicate_succ,List.cons_append,List.nil_append]
theorem s117 (c : Nat) (h : c ≤ 1000) (H : Heap) : L 117 [.im (.str [101]), .im (.int .i64 (c : Int))] H = some (.im (.str (List.replicate c 101)), H) := by
 have hF : F 117 = none := by kernel_rfl
 have e : L 117 [.im (.str [101]), .im (.int .i64 (c : Int))] H = bld 117 [.im (.str [101]), .im (.int .i64 (c : Int))] H := lim_none hF _ _
 rw [e]
 have e2 : bld 117 [.im (.str [101]), .im (.int .i64 (c : Int))] H = repO 117 (idxO 131 (strO 111 59 Tryz.okB 5 fun _ _ _ => none)) 117 [.im (.str [101]), .im (.int .i64 (c : Int))] H := by
  unfold bld itoaO
  rw [if_neg (by decide)]
 rw [e2]
 unfold repO
 rw [if_pos rfl]
 simp only
 rw [if_pos ⟨by omega, by omega, by simp; omega⟩, Int.toNat_natCast, repeat_rep]
def Nod (n : Nat) (id d : Nat) (k : NT) : Prop := ∀ (st : WSt) (H : Heap), st.1.length ≤ 1000000000 → WA n H id st →
 ∃ H', L 57 [.ptr id 0 0, .im (.agg (encN k)), .im (.int .i64 (d : Int))] H = some (.tup [], H') ∧ WA n H' id (nodeW d k st) ∧ Keeps n id H H'
theorem min1 (i : Nat) : minA (.im (.int .i64 (i : Int))) (.im (.int .i64 1)) = some (.im (.int .i64 ((min i 1 : Nat) : Int))) := by
 simp only [minA]
 split
 ·have : min i 1 = 1 := by omega
  rw [this]; rfl
 ·have : min i 1 = i := by omega
  rw [this]
theorem sep_at (i : Nat) : ([40, 44] : List UInt8)[min i 1]? = some (sepB i) := by
 unfold sepB
 cases i with
 | zero => rfl
 | succ i =>
  have : min (i + 1) 1 = 1 := by omega
  rw [this, if_neg (by omega)]; rfl
theorem encNs_at {kids : List NT} {i : Nat} {k : NT} (h : kids[i]? = some k) : (encNs kids)[i]? = some (encN k) := by rw [encNs_map, List.getElem?_map, h]; rfl
theorem l91 (n id idn d : Nat) (hd : d ≤ 1000) (hne : idn ≠ id) (ps : List UInt8) (s : Nat) (kids : List NT) (hs : kids = [] ∨ s = 6) (hps : kids.length = ps.length) (o : HO) (ho : ∃ ty es, o = .obj ty es)
  (C : Nat) (hC : ∀ k ∈ kids, ∀ st : WSt, (nodeW d k st).1.length ≤ max st.1.length C) (hnod : ∀ k ∈ kids, Nod n id d k) (hcl : C + kids.length ≤ 1000000000) :
  ∀ (m i : Nat) (tm : List AV) (H : Heap) (st : WSt), i + m = kids.length → st.1.length + m ≤ 1000000000 → WA n H id st → H[idn]? = some o → tm.length = 79 → tm.getD 0 undefA = .ptr id 0 0 → tm.getD 2 undefA = .im (.str ps) → tm.getD 3 undefA = .im (.int .i64 ((d + 1 : Nat) : Int)) →
   tm.getD 5 undefA = .ptr idn 0 0 → tm.getD 39 undefA = .im (.sl s (encNs kids)) → tm.getD 40 undefA = .im (.int .i64 (kids.length : Int)) → tm.getD 41 undefA = .im (.int .i64 (i : Int)) →
  ∃ e tm' H', Λ c91_0 tm H = some (e, tm', H') ∧ (e = .exit 0 ∧ tm'.length = 79 ∧ tm'.getD 0 undefA = .ptr id 0 0 ∧ tm'.getD 5 undefA = .ptr idn 0 0 ∧ WA n H' id (kidsW (nodeW d) ps i (kids.drop i) st) ∧ Keeps n id H H' ∧ H'[idn]? = some o ∧ (kidsW (nodeW d) ps i (kids.drop i) st).1.length ≤ max (st.1.length + m) (C + m))
 | 0, i, tm, H, st, hi, hb, hw, hon, hlen, h0, h2, h3, h5, h39, h40, h41 => by
  have e : kids.drop i = [] := by rw [List.drop_eq_nil_iff]; omega
  have hc : decide ((i : Int) < (kids.length : Int)) = false := decide_eq_false (by omega)
  rw [l91_0, e]
  simp only [b91_0,B0,B1,B2,List.replicate,reduceCtorEq,lenA,seval,hlen,h40,h41,hc]
  exact ⟨_, _, _, rfl, rfl, by simp only [List.length_set,hlen], by simp only [B3,seval,hlen,h0], by simp only [B3,seval,hlen,h5], hw, Keeps.refl _ _ _, hon, by simp only [kidsW]; omega⟩
 | m + 1, i, tm, H, st, hi, hb, hw, hon, hlen, h0, h2, h3, h5, h39, h40, h41 => by
  have hlt : i < kids.length := by omega
  have e : kids.drop i = kids[i] :: kids.drop (i + 1) := List.drop_eq_getElem_cons hlt
  have hki : kids[i]? = some kids[i] := List.getElem?_eq_getElem hlt
  generalize kids[i] = k at e hki
  have hmem := List.mem_of_getElem? hki
  have hs6 : s = 6 := by
   rcases hs with hs | hs
   ·rw [hs] at hlt; simp at hlt
   ·exact hs
  subst hs6
  have hc : decide ((i : Int) < (kids.length : Int)) = true := decide_eq_true (by omega)
  have hix := idx_nat (n := (encNs kids).length) (i := i) (by rw [encNs_map]; simpa using hlt)
  have hget := encNs_at hki
  have hwr := wrap_nat (i := i) (by omega)
  have hsub : IntKind.i64.wrap (((d + 1 : Nat) : Int) - 1) = (d : Int) := by rw [Go.Abs.Seat.wrap_small _ (by omega)]; omega
  obtain ⟨cp, hcp⟩ : ∃ cp, ps[i]? = some cp := ⟨ps[i]'(by omega), List.getElem?_eq_getElem (by omega)⟩
  have p2 : (0 : Int) ≤ (i : Int) := Int.natCast_nonneg i
  have p3 : (0 : Int) ≤ ((min i 1 : Nat) : Int) := Int.natCast_nonneg _
  have hsep := sep_at i
  have hmin := min1 i
  have hdrop := hC k hmem
  obtain ⟨op, ni, txt, ty, ns, kk⟩ := k
  obtain ⟨tk, ts, targs⟩ := ty
  obtain ⟨ty0, es0, rfl⟩ := ho
  have hw1 := wa_more hw [nOf op txt ni tk ts ns targs kk]
  have hon1 : (H ++ [nOf op txt ni tk ts ns targs kk])[idn]? = some (.obj ty0 es0) := by rw [get_app (List.getElem?_eq_some_iff.1 hon).1]; exact hon
  obtain ⟨H2, c62, hH2, hK2⟩ := s113 okw hw1 (sepB i) (by omega)
  have hw2 : WA n H2 id (st.1 ++ [sepB i], st.2) := hH2
  have hH0 : (H ++ [nOf op txt ni tk ts ns targs kk])[H.length]? = some (nOf op txt ni tk ts ns targs kk) := by simp
  have hidlt := wa_lt hw
  have ho2 : H2[H.length]? = some (nOf op txt ni tk ts ns targs kk) := hK2.2.1 _ _ _ (by omega) hH0
  have hon2 : H2[idn]? = some (.obj ty0 es0) := hK2.2.1 _ _ _ hne hon1
  have hK02 : Keeps n id H H2 := hK2.down
  obtain ⟨a0, v, hid2, _, hset⟩ := wa_get hw2
  have hid2lt := wa_lt hw2
  simp only [byteDat] at c62
  simp only [nOf] at *
  have hlen1 : (st.1 ++ [sepB i]).length = st.1.length + 1 := by simp
  generalize hs0 : sepB i = sp at *
  have fin : ∀ (b : Bool) (H3 : Heap), WA n H3 id (st.1 ++ [sp], b) → Keeps n id H H3 → H3[idn]? = some (.obj ty0 es0) → b = (st.2 || (decide (ps[i]? = some 110) && !decide (op = nameW))) →
    ∃ H4, L 57 [.ptr id 0 0, .im (.agg (encN (.mk op ni txt (.mk tk ts targs) ns kk))), .im (.int .i64 (d : Int))] H3 = some (.tup [], H4) ∧
     ∀ tm1 : List AV, tm1.length = 79 → tm1.getD 0 undefA = .ptr id 0 0 → tm1.getD 2 undefA = .im (.str ps) → tm1.getD 3 undefA = .im (.int .i64 ((d + 1 : Nat) : Int)) → tm1.getD 5 undefA = .ptr idn 0 0 → tm1.getD 39 undefA = .im (.sl 6 (encNs kids)) → tm1.getD 40 undefA = .im (.int .i64 (kids.length : Int)) → tm1.getD 41 undefA = .im (.int .i64 ((i + 1 : Nat) : Int)) →
     ∃ e tm' H', Λ c91_0 tm1 H4 = some (e, tm', H') ∧ (e = .exit 0 ∧ tm'.length = 79 ∧ tm'.getD 0 undefA = .ptr id 0 0 ∧ tm'.getD 5 undefA = .ptr idn 0 0 ∧ WA n H' id (kidsW (nodeW d) ps i (.mk op ni txt (.mk tk ts targs) ns kk :: kids.drop (i + 1)) st) ∧ Keeps n id H H' ∧ H'[idn]? = some (.obj ty0 es0) ∧ (kidsW (nodeW d) ps i (.mk op ni txt (.mk tk ts targs) ns kk :: kids.drop (i + 1)) st).1.length ≤ max (st.1.length + (m + 1)) (C + (m + 1))) := by
   intro b H3 hw3 hK3 hon3 hb2
   obtain ⟨H4, c24, hw4, hK4⟩ := hnod _ hmem (st.1 ++ [sp], b) H3 (by simp only [hlen1]; omega) hw3
   refine ⟨H4, c24, fun tm1 q1 q2 q3 q4 q5 q6 q7 q8 => ?_⟩
   have hl4 := hdrop (st.1 ++ [sp], b)
   simp only [hlen1] at hl4
   obtain ⟨e', tm', H', r1, r2, r3, r4, r5, r6, r7, r8, r9⟩ := l91 n id idn d hd hne ps 6 kids (.inr rfl) hps _ ⟨_, _, rfl⟩ C hC hnod hcl m (i + 1) tm1 H4 _ (by omega) (by omega) hw4 (hK4.2.1 _ _ _ hne hon3) q1 q2 q3 q4 q5 q6 q7 q8
   refine ⟨e', tm', H', r1, r2, r3, r4, r5, ?_, (hK3.trans hK4).trans r7, r8, ?_⟩
   ·simp only [kidsW,isNam]
    rw [hs0, ← hb2]
    exact r6
   ·simp only [kidsW,isNam]
    rw [hs0, ← hb2]
    omega
  simp only [encN] at fin hget
  rw [l91_0, e]
  have plain : st.2 = (st.2 || (decide (ps[i]? = some 110) && !decide (op = nameW))) → (decide ((cp.toNat : Int) = 110) = false ∨ (decide ((cp.toNat : Int) = 110) = true ∧ decide (op = [110, 97, 109, 101]) = true)) → ∃ e tm' H', exec0 L Λ b91_0 tm H (fun e tm H => match e with
    | .normal => Λ c91_0 tm H
    | .exit i => some (.exit i, tm, H)
    | .goto l => some (.goto l, tm, H)
    | .ret => some (.ret, tm, H)) = some (e, tm', H') ∧ (e = .exit 0 ∧ tm'.length = 79 ∧ tm'.getD 0 undefA = .ptr id 0 0 ∧ tm'.getD 5 undefA = .ptr idn 0 0 ∧ WA n H' id (kidsW (nodeW d) ps i (.mk op ni txt (.mk tk ts targs) ns kk :: kids.drop (i + 1)) st) ∧ Keeps n id H H' ∧ H'[idn]? = some (.obj ty0 es0) ∧ (kidsW (nodeW d) ps i (.mk op ni txt (.mk tk ts targs) ns kk :: kids.drop (i + 1)) st).1.length ≤ max (st.1.length + (m + 1)) (C + (m + 1))) := by
   intro hbb hcase
   obtain ⟨H4, c24, rest⟩ := fin st.2 H2 hw2 hK02 hon2 hbb
   rcases hcase with hn | ⟨hn, ho3⟩
   ·simp only [b91_0,B0,B1,B2,List.replicate,reduceCtorEq,lenA,seval,byteDat,intOfA,Int.toNat_natCast,hlen,h0,h2,h3,h5,h39,h40,h41,hc,hix,hget,hwr,hsub,hmin,hsep,p2,p3,c62,hcp,hn,ho2,c24]
    refine rest _ ?_ ?_ ?_ ?_ ?_ ?_ ?_ ?_
    all_goals simp only [B3,seval,hlen,h0,h2,h3,h5,h39,h40]
   ·simp only [b91_0,B0,B1,B2,List.replicate,reduceCtorEq,lenA,seval,byteDat,intOfA,Int.toNat_natCast,hlen,h0,h2,h3,h5,h39,h40,h41,hc,hix,hget,hwr,hsub,hmin,hsep,p2,p3,c62,hcp,hn,ho3,ho2,c24]
    refine rest _ ?_ ?_ ?_ ?_ ?_ ?_ ?_ ?_
    all_goals simp only [B3,seval,hlen,h0,h2,h3,h5,h39,h40]
  have hcn : decide (ps[i]? = some 110) = decide ((cp.toNat : Int) = 110) := by
   rw [hcp]
   have e110 : (110 : UInt8).toNat = 110 := rfl
   by_cases h : cp = 110
   ·rw [decide_eq_true (by rw [h]), decide_eq_true (by rw [h]; rfl)]
   ·rw [decide_eq_false (by simpa using h), decide_eq_false (fun h2 => h (UInt8.toNat_inj.1 (by omega)))]
  rcases Bool.eq_false_or_eq_true (decide ((cp.toNat : Int) = 110)) with hn | hn
  ·rcases Bool.eq_false_or_eq_true (decide (op = [110, 97, 109, 101])) with ho3 | ho3
   ·exact plain (by rw [show decide (op = nameW) = true from ho3]; simp) (.inr ⟨hn, ho3⟩)
   ·obtain ⟨H4, c24, rest⟩ := fin true _ (hset true) (hK02.set _) (by rw [List.getElem?_set_ne (fun e => hne e.symm)]; exact hon2) (by rw [show decide (op = nameW) = false from ho3, hcn, hn]; simp)
    have ho4 : ∀ x, (H2.set id x)[H.length]? = some (nOf op txt ni tk ts ns targs kk) := fun x => by rw [List.getElem?_set_ne (by omega)]; exact ho2
    simp only [nOf] at ho4
    simp only [b91_0,B0,B1,B2,List.replicate,reduceCtorEq,lenA,seval,byteDat,intOfA,Int.toNat_natCast,hlen,h0,h2,h3,h5,h39,h40,h41,hc,hix,hget,hwr,hsub,hmin,hsep,p2,p3,c62,hcp,hn,ho3,ho2,hid2,ho4,c24]
    refine rest _ ?_ ?_ ?_ ?_ ?_ ?_ ?_ ?_
    all_goals simp only [B3,seval,hlen,h0,h2,h3,h5,h39,h40]
  ·exact plain (by rw [hcn, hn]; simp) (.inl hn)
end Go.Abs.Seat
end
section
set_option linter.unusedVariables false
set_option linter.unusedSimpArgs false
set_option linter.unusedSectionVars false
namespace Go.Abs.Seat
open Go.Proofs
theorem max1 (l : Nat) : maxA (.im (.int .i64 1)) (.im (.int .i64 (l : Int))) = some (.im (.int .i64 ((max 1 l : Nat) : Int))) := by
 simp only [maxA]
 split
 ·have : max 1 l = l := by omega
  rw [this]
 ·have : max 1 l = 1 := by omega
  rw [this]; rfl
theorem min64 (l : Nat) : minA (.im (.int .i64 (l : Int))) (.im (.int .i64 64)) = some (.im (.int .i64 ((min l 64 : Nat) : Int))) := by
 simp only [minA]
 split
 ·have : min l 64 = 64 := by omega
  rw [this]; rfl
 ·have : min l 64 = l := by omega
  rw [this]
def Called (n : Nat) (H : Heap) (id : Nat) (t : NT) (ps : List UInt8) (d : Nat) (r : WSt) : Prop :=
 ∃ H2, WA n H2 id r ∧ Keeps n id H H2 ∧ L 91 [.ptr id 0 0, .im (.agg (encN t)), .im (.str ps), .im (.int .i64 (d : Int))] H = some (leave H false (.tup []) H2)
section
variable {n : Nat} {H : Heap} {id : Nat} {st : WSt} (hw : WA n H id st) (op txt : List UInt8) (i k : Int) (sa s : Nat) (args : List KT) (kids : List NT) (ps : List UInt8) (d : Nat)
 (hol : op.length ≤ 1000000) (hpl : ps.length ≤ 1000) (hst : st.1.length ≤ 100000000)
include hw hol hpl hst
theorem s91_lenA (hp : ps = [43]) (hl : kids.length ≠ (List.replicate (min (max 1 kids.length) 64) (101 : UInt8)).length) : Called n H id (.mk op i txt (.mk k sa args) s kids) ps (d + 1) (st.1, true) := by
 have hidlt := wa_lt hw
 have hw1 := wa_more hw [nOf op txt i k sa s args kids]
 obtain ⟨a0, v, hid, hlv, hset⟩ := wa_get hw1
 have hbx : (H ++ [nOf op txt i k sa s args kids])[H.length]? = some (nOf op txt i k sa s args kids) := by simp
 have hk1 : Keeps n id H (H ++ [nOf op txt i k sa s args kids]) := (Keeps.refl n id H).app _
 have hkl : (encNs kids).length = kids.length := by rw [encNs_map]; simp
 have c43 := fun H => s85 op txt i k sa s args kids H false false false true (.inr (.inr (.inr rfl)))
 simp only [encN] at c43
 have p1 : decide (ps = [43]) = true := decide_eq_true hp
 have m1 := max1 kids.length
 have m2 := min64 (max 1 kids.length)
 have c67 := fun H => s117 (min (max 1 kids.length) 64) (by omega) H
 have hpl2 : (List.replicate (min (max 1 kids.length) 64) (101 : UInt8)).length ≤ 64 := by rw [List.length_replicate]; omega
 generalize max 1 kids.length = mx at *
 generalize min mx 64 = mn at *
 generalize List.replicate mn (101 : UInt8) = pp at *
 have q1 : decide ((kids.length : Int) = ((pp).length : Int)) = false := decide_eq_false (fun e => hl (by omega))
 unfold Called
 simp only [encN]
 rw [leq F91]
 obtain ⟨hlen, ha⟩ := enter_at (f := f91) (args := [.ptr id 0 0, .im (.agg [.str op, .int .i64 i, .str txt, .int .i64 k, .sl sa (encTs args), .sl s (encNs kids)]), .im (.str ps), .im (.int .i64 ((d + 1 : Nat) : Int))]) (Nat.le_of_ble_eq_true rfl)
 have h0 := ha 0 _ rfl
 have h1 := ha 1 _ rfl
 have h2 := ha 2 _ rfl
 have h3 := ha 3 _ rfl
 generalize enterA f91 [.ptr id 0 0, .im (.agg [.str op, .int .i64 i, .str txt, .int .i64 k, .sl sa (encTs args), .sl s (encNs kids)]), .im (.str ps), .im (.int .i64 ((d + 1 : Nat) : Int))] = tm at *
 change tm.length = 79 at hlen
 clear ha
 simp only [nOf] at *
 simp only [f91,e91_0,B0,B1,B2,List.replicate,reduceCtorEq,lenA,seval,endK,resA,tupA,hlen,h0,h1,h2,h3,hid,hbx,hkl,p1,m1,m2,c67,q1]
 exact ⟨_, hset true, hk1.set _, rfl⟩
theorem s91_bareA (hp : ps = [43]) (hl : kids.length = (List.replicate (min (max 1 kids.length) 64) (101 : UInt8)).length) (hb : bareN (.mk op i txt (.mk k sa args) s kids) false false false true = false) : Called n H id (.mk op i txt (.mk k sa args) s kids) ps (d + 1) (st.1, true) := by
 have hidlt := wa_lt hw
 have hw1 := wa_more hw [nOf op txt i k sa s args kids]
 obtain ⟨a0, v, hid, hlv, hset⟩ := wa_get hw1
 have hbx : (H ++ [nOf op txt i k sa s args kids])[H.length]? = some (nOf op txt i k sa s args kids) := by simp
 have hk1 : Keeps n id H (H ++ [nOf op txt i k sa s args kids]) := (Keeps.refl n id H).app _
 have hkl : (encNs kids).length = kids.length := by rw [encNs_map]; simp
 have c43 := fun H => s85 op txt i k sa s args kids H false false false true (.inr (.inr (.inr rfl)))
 simp only [encN] at c43
 have p1 : decide (ps = [43]) = true := decide_eq_true hp
 have m1 := max1 kids.length
 have m2 := min64 (max 1 kids.length)
 have c67 := fun H => s117 (min (max 1 kids.length) 64) (by omega) H
 have hpl2 : (List.replicate (min (max 1 kids.length) 64) (101 : UInt8)).length ≤ 64 := by rw [List.length_replicate]; omega
 generalize max 1 kids.length = mx at *
 generalize min mx 64 = mn at *
 generalize List.replicate mn (101 : UInt8) = pp at *
 have q1 : decide ((kids.length : Int) = ((pp).length : Int)) = true := decide_eq_true (by omega)
 rw [hb] at c43
 unfold Called
 simp only [encN]
 rw [leq F91]
 obtain ⟨hlen, ha⟩ := enter_at (f := f91) (args := [.ptr id 0 0, .im (.agg [.str op, .int .i64 i, .str txt, .int .i64 k, .sl sa (encTs args), .sl s (encNs kids)]), .im (.str ps), .im (.int .i64 ((d + 1 : Nat) : Int))]) (Nat.le_of_ble_eq_true rfl)
 have h0 := ha 0 _ rfl
 have h1 := ha 1 _ rfl
 have h2 := ha 2 _ rfl
 have h3 := ha 3 _ rfl
 generalize enterA f91 [.ptr id 0 0, .im (.agg [.str op, .int .i64 i, .str txt, .int .i64 k, .sl sa (encTs args), .sl s (encNs kids)]), .im (.str ps), .im (.int .i64 ((d + 1 : Nat) : Int))] = tm at *
 change tm.length = 79 at hlen
 clear ha
 simp only [nOf] at *
 simp only [f91,e91_0,B0,B1,B2,List.replicate,reduceCtorEq,lenA,seval,endK,resA,tupA,hlen,h0,h1,h2,h3,hid,hbx,hkl,p1,m1,m2,c67,q1,c43]
 exact ⟨_, hset true, hk1.set _, rfl⟩
theorem s91_goA (hp : ps = [43]) (hl : kids.length = (List.replicate (min (max 1 kids.length) 64) (101 : UInt8)).length) (hb : bareN (.mk op i txt (.mk k sa args) s kids) false false false true = true) (hd : d ≤ 1000) (hs : kids = [] ∨ s = 6)
  (C : Nat) (hC : ∀ k ∈ kids, ∀ st : WSt, (nodeW d k st).1.length ≤ max st.1.length C) (hnod : ∀ k ∈ kids, Nod n id d k) (hcl : C ≤ 100000000) : Called n H id (.mk op i txt (.mk k sa args) s kids) ps (d + 1) (if 0 < kids.length then ((kidsW (nodeW d) (List.replicate (min (max 1 kids.length) 64) (101 : UInt8)) 0 kids (st.1 ++ op, st.2)).1 ++ [41], (kidsW (nodeW d) (List.replicate (min (max 1 kids.length) 64) (101 : UInt8)) 0 kids (st.1 ++ op, st.2)).2) else kidsW (nodeW d) (List.replicate (min (max 1 kids.length) 64) (101 : UInt8)) 0 kids (st.1 ++ op, st.2)) := by
 have hidlt := wa_lt hw
 have hw1 := wa_more hw [nOf op txt i k sa s args kids]
 obtain ⟨a0, v, hid, hlv, hset⟩ := wa_get hw1
 have hbx : (H ++ [nOf op txt i k sa s args kids])[H.length]? = some (nOf op txt i k sa s args kids) := by simp
 have hk1 : Keeps n id H (H ++ [nOf op txt i k sa s args kids]) := (Keeps.refl n id H).app _
 have hkl : (encNs kids).length = kids.length := by rw [encNs_map]; simp
 have c43 := fun H => s85 op txt i k sa s args kids H false false false true (.inr (.inr (.inr rfl)))
 simp only [encN] at c43
 have p1 : decide (ps = [43]) = true := decide_eq_true hp
 have m1 := max1 kids.length
 have m2 := min64 (max 1 kids.length)
 have c67 := fun H => s117 (min (max 1 kids.length) 64) (by omega) H
 have hpl2 : (List.replicate (min (max 1 kids.length) 64) (101 : UInt8)).length ≤ 64 := by rw [List.length_replicate]; omega
 generalize max 1 kids.length = mx at *
 generalize min mx 64 = mn at *
 generalize List.replicate mn (101 : UInt8) = pp at *
 have q1 : decide ((kids.length : Int) = ((pp).length : Int)) = true := decide_eq_true (by omega)
 rw [hb] at c43
 obtain ⟨H2, c44, hH2, hK2⟩ := s86 okw hw1 op (by omega)
 have hw2 : WA n H2 id (st.1 ++ op, st.2) := hH2
 have hbx2 : H2[H.length]? = some (nOf op txt i k sa s args kids) := hK2.2.1 _ _ _ (by omega) hbx
 have hkn : kids.length ≤ 1000 := by omega
 have key := fun tm1 => l91 n id H.length d hd (by omega) pp s kids hs (by omega) (nOf op txt i k sa s args kids) ⟨_, _, rfl⟩ C hC hnod (by omega) kids.length 0 tm1 H2 (st.1 ++ op, st.2) (by omega) (by simp only [List.length_append]; omega) hw2 hbx2
 have z0 : ((0 : Nat) : Int) = 0 := rfl
 simp only [List.drop_zero,z0,List.length_append] at key
 unfold Called
 simp only [encN]
 rw [leq F91]
 obtain ⟨hlen, ha⟩ := enter_at (f := f91) (args := [.ptr id 0 0, .im (.agg [.str op, .int .i64 i, .str txt, .int .i64 k, .sl sa (encTs args), .sl s (encNs kids)]), .im (.str ps), .im (.int .i64 ((d + 1 : Nat) : Int))]) (Nat.le_of_ble_eq_true rfl)
 have h0 := ha 0 _ rfl
 have h1 := ha 1 _ rfl
 have h2 := ha 2 _ rfl
 have h3 := ha 3 _ rfl
 generalize enterA f91 [.ptr id 0 0, .im (.agg [.str op, .int .i64 i, .str txt, .int .i64 k, .sl sa (encTs args), .sl s (encNs kids)]), .im (.str ps), .im (.int .i64 ((d + 1 : Nat) : Int))] = tm at *
 change tm.length = 79 at hlen
 clear ha
 simp only [nOf] at *
 simp only [f91,e91_0,B0,B1,B2,List.replicate,reduceCtorEq,lenA,seval,endK,resA,tupA,hlen,h0,h1,h2,h3,hid,hbx,hkl,p1,m1,m2,c67,q1,c43,c44,hbx2]
 refine thenL_ex (fun r => ∃ H2, WA n H2 id (if 0 < kids.length then ((kidsW (nodeW d) (pp) 0 kids (st.1 ++ op, st.2)).1 ++ [41], (kidsW (nodeW d) (pp) 0 kids (st.1 ++ op, st.2)).2) else kidsW (nodeW d) (pp) 0 kids (st.1 ++ op, st.2)) ∧ Keeps n id H H2 ∧ r = some (leave H false (.tup []) H2)) (key _ ?_ ?_ ?_ ?_ ?_ ?_ ?_ ?_) ?_
 iterate 8 simp only [B3,seval,hlen,h0,h1,h2,h3,z0]
 rintro e tm1 H3 ⟨rfl, g1, g2, g3, g4, g5, g6, g7⟩
 have hK3 : Keeps n id H H3 := hK2.down.trans g5
 by_cases hz : 0 < kids.length
 ·have q2 : decide ((0 : Int) < (kids.length : Int)) = true := decide_eq_true (by omega)
  obtain ⟨H4, c62, hH4, hK4⟩ := s113 okw g4 41 (by omega)
  simp only [byteDat,show (((41 : UInt8).toNat : Nat) : Int) = 41 from rfl] at c62
  simp only [B0,B1,B2,List.replicate,reduceCtorEq,lenA,seval,endK,f91,resA,tupA,g1,g2,g3,g6,hkl,q2,c62]
  rw [if_pos hz]
  exact ⟨H4, hH4, hK3.trans hK4, rfl⟩
 ·have q2 : decide ((0 : Int) < (kids.length : Int)) = false := decide_eq_false (by omega)
  simp only [B0,B1,B2,List.replicate,reduceCtorEq,lenA,seval,endK,f91,resA,tupA,g1,g2,g3,g6,hkl,q2]
  rw [if_neg hz]
  exact ⟨H3, g4, hK3, rfl⟩
theorem s91_lenB (hp : ps ≠ [43]) (hl : kids.length ≠ (ps).length) : Called n H id (.mk op i txt (.mk k sa args) s kids) ps (d + 1) (st.1, true) := by
 have hidlt := wa_lt hw
 have hw1 := wa_more hw [nOf op txt i k sa s args kids]
 obtain ⟨a0, v, hid, hlv, hset⟩ := wa_get hw1
 have hbx : (H ++ [nOf op txt i k sa s args kids])[H.length]? = some (nOf op txt i k sa s args kids) := by simp
 have hk1 : Keeps n id H (H ++ [nOf op txt i k sa s args kids]) := (Keeps.refl n id H).app _
 have hkl : (encNs kids).length = kids.length := by rw [encNs_map]; simp
 have c43 := fun H => s85 op txt i k sa s args kids H false false false true (.inr (.inr (.inr rfl)))
 simp only [encN] at c43
 have p1 : decide (ps = [43]) = false := decide_eq_false hp
 have q1 : decide ((kids.length : Int) = ((ps).length : Int)) = false := decide_eq_false (fun e => hl (by omega))
 unfold Called
 simp only [encN]
 rw [leq F91]
 obtain ⟨hlen, ha⟩ := enter_at (f := f91) (args := [.ptr id 0 0, .im (.agg [.str op, .int .i64 i, .str txt, .int .i64 k, .sl sa (encTs args), .sl s (encNs kids)]), .im (.str ps), .im (.int .i64 ((d + 1 : Nat) : Int))]) (Nat.le_of_ble_eq_true rfl)
 have h0 := ha 0 _ rfl
 have h1 := ha 1 _ rfl
 have h2 := ha 2 _ rfl
 have h3 := ha 3 _ rfl
 generalize enterA f91 [.ptr id 0 0, .im (.agg [.str op, .int .i64 i, .str txt, .int .i64 k, .sl sa (encTs args), .sl s (encNs kids)]), .im (.str ps), .im (.int .i64 ((d + 1 : Nat) : Int))] = tm at *
 change tm.length = 79 at hlen
 clear ha
 simp only [nOf] at *
 simp only [f91,e91_0,B0,B1,B2,List.replicate,reduceCtorEq,lenA,seval,endK,resA,tupA,hlen,h0,h1,h2,h3,hid,hbx,hkl,p1,q1]
 exact ⟨_, hset true, hk1.set _, rfl⟩
theorem s91_bareB (hp : ps ≠ [43]) (hl : kids.length = (ps).length) (hb : bareN (.mk op i txt (.mk k sa args) s kids) false false false true = false) : Called n H id (.mk op i txt (.mk k sa args) s kids) ps (d + 1) (st.1, true) := by
 have hidlt := wa_lt hw
 have hw1 := wa_more hw [nOf op txt i k sa s args kids]
 obtain ⟨a0, v, hid, hlv, hset⟩ := wa_get hw1
 have hbx : (H ++ [nOf op txt i k sa s args kids])[H.length]? = some (nOf op txt i k sa s args kids) := by simp
 have hk1 : Keeps n id H (H ++ [nOf op txt i k sa s args kids]) := (Keeps.refl n id H).app _
 have hkl : (encNs kids).length = kids.length := by rw [encNs_map]; simp
 have c43 := fun H => s85 op txt i k sa s args kids H false false false true (.inr (.inr (.inr rfl)))
 simp only [encN] at c43
 have p1 : decide (ps = [43]) = false := decide_eq_false hp
 have q1 : decide ((kids.length : Int) = ((ps).length : Int)) = true := decide_eq_true (by omega)
 rw [hb] at c43
 unfold Called
 simp only [encN]
 rw [leq F91]
 obtain ⟨hlen, ha⟩ := enter_at (f := f91) (args := [.ptr id 0 0, .im (.agg [.str op, .int .i64 i, .str txt, .int .i64 k, .sl sa (encTs args), .sl s (encNs kids)]), .im (.str ps), .im (.int .i64 ((d + 1 : Nat) : Int))]) (Nat.le_of_ble_eq_true rfl)
 have h0 := ha 0 _ rfl
 have h1 := ha 1 _ rfl
 have h2 := ha 2 _ rfl
 have h3 := ha 3 _ rfl
 generalize enterA f91 [.ptr id 0 0, .im (.agg [.str op, .int .i64 i, .str txt, .int .i64 k, .sl sa (encTs args), .sl s (encNs kids)]), .im (.str ps), .im (.int .i64 ((d + 1 : Nat) : Int))] = tm at *
 change tm.length = 79 at hlen
 clear ha
 simp only [nOf] at *
 simp only [f91,e91_0,B0,B1,B2,List.replicate,reduceCtorEq,lenA,seval,endK,resA,tupA,hlen,h0,h1,h2,h3,hid,hbx,hkl,p1,q1,c43]
 exact ⟨_, hset true, hk1.set _, rfl⟩
theorem s91_goB (hp : ps ≠ [43]) (hl : kids.length = (ps).length) (hb : bareN (.mk op i txt (.mk k sa args) s kids) false false false true = true) (hd : d ≤ 1000) (hs : kids = [] ∨ s = 6)
  (C : Nat) (hC : ∀ k ∈ kids, ∀ st : WSt, (nodeW d k st).1.length ≤ max st.1.length C) (hnod : ∀ k ∈ kids, Nod n id d k) (hcl : C ≤ 100000000) : Called n H id (.mk op i txt (.mk k sa args) s kids) ps (d + 1) (if 0 < kids.length then ((kidsW (nodeW d) (ps) 0 kids (st.1 ++ op, st.2)).1 ++ [41], (kidsW (nodeW d) (ps) 0 kids (st.1 ++ op, st.2)).2) else kidsW (nodeW d) (ps) 0 kids (st.1 ++ op, st.2)) := by
 have hidlt := wa_lt hw
 have hw1 := wa_more hw [nOf op txt i k sa s args kids]
 obtain ⟨a0, v, hid, hlv, hset⟩ := wa_get hw1
 have hbx : (H ++ [nOf op txt i k sa s args kids])[H.length]? = some (nOf op txt i k sa s args kids) := by simp
 have hk1 : Keeps n id H (H ++ [nOf op txt i k sa s args kids]) := (Keeps.refl n id H).app _
 have hkl : (encNs kids).length = kids.length := by rw [encNs_map]; simp
 have c43 := fun H => s85 op txt i k sa s args kids H false false false true (.inr (.inr (.inr rfl)))
 simp only [encN] at c43
 have p1 : decide (ps = [43]) = false := decide_eq_false hp
 have q1 : decide ((kids.length : Int) = ((ps).length : Int)) = true := decide_eq_true (by omega)
 rw [hb] at c43
 obtain ⟨H2, c44, hH2, hK2⟩ := s86 okw hw1 op (by omega)
 have hw2 : WA n H2 id (st.1 ++ op, st.2) := hH2
 have hbx2 : H2[H.length]? = some (nOf op txt i k sa s args kids) := hK2.2.1 _ _ _ (by omega) hbx
 have hkn : kids.length ≤ 1000 := by omega
 have key := fun tm1 => l91 n id H.length d hd (by omega) ps s kids hs (by omega) (nOf op txt i k sa s args kids) ⟨_, _, rfl⟩ C hC hnod (by omega) kids.length 0 tm1 H2 (st.1 ++ op, st.2) (by omega) (by simp only [List.length_append]; omega) hw2 hbx2
 have z0 : ((0 : Nat) : Int) = 0 := rfl
 simp only [List.drop_zero,z0,List.length_append] at key
 unfold Called
 simp only [encN]
 rw [leq F91]
 obtain ⟨hlen, ha⟩ := enter_at (f := f91) (args := [.ptr id 0 0, .im (.agg [.str op, .int .i64 i, .str txt, .int .i64 k, .sl sa (encTs args), .sl s (encNs kids)]), .im (.str ps), .im (.int .i64 ((d + 1 : Nat) : Int))]) (Nat.le_of_ble_eq_true rfl)
 have h0 := ha 0 _ rfl
 have h1 := ha 1 _ rfl
 have h2 := ha 2 _ rfl
 have h3 := ha 3 _ rfl
 generalize enterA f91 [.ptr id 0 0, .im (.agg [.str op, .int .i64 i, .str txt, .int .i64 k, .sl sa (encTs args), .sl s (encNs kids)]), .im (.str ps), .im (.int .i64 ((d + 1 : Nat) : Int))] = tm at *
 change tm.length = 79 at hlen
 clear ha
 simp only [nOf] at *
 simp only [f91,e91_0,B0,B1,B2,List.replicate,reduceCtorEq,lenA,seval,endK,resA,tupA,hlen,h0,h1,h2,h3,hid,hbx,hkl,p1,q1,c43,c44,hbx2]
 refine thenL_ex (fun r => ∃ H2, WA n H2 id (if 0 < kids.length then ((kidsW (nodeW d) (ps) 0 kids (st.1 ++ op, st.2)).1 ++ [41], (kidsW (nodeW d) (ps) 0 kids (st.1 ++ op, st.2)).2) else kidsW (nodeW d) (ps) 0 kids (st.1 ++ op, st.2)) ∧ Keeps n id H H2 ∧ r = some (leave H false (.tup []) H2)) (key _ ?_ ?_ ?_ ?_ ?_ ?_ ?_ ?_) ?_
 iterate 8 simp only [B3,seval,hlen,h0,h1,h2,h3,z0]
 rintro e tm1 H3 ⟨rfl, g1, g2, g3, g4, g5, g6, g7⟩
 have hK3 : Keeps n id H H3 := hK2.down.trans g5
 by_cases hz : 0 < kids.length
 ·have q2 : decide ((0 : Int) < (kids.length : Int)) = true := decide_eq_true (by omega)
  obtain ⟨H4, c62, hH4, hK4⟩ := s113 okw g4 41 (by omega)
  simp only [byteDat,show (((41 : UInt8).toNat : Nat) : Int) = 41 from rfl] at c62
  simp only [B0,B1,B2,List.replicate,reduceCtorEq,lenA,seval,endK,f91,resA,tupA,g1,g2,g3,g6,hkl,q2,c62]
  rw [if_pos hz]
  exact ⟨H4, hH4, hK3.trans hK4, rfl⟩
 ·have q2 : decide ((0 : Int) < (kids.length : Int)) = false := decide_eq_false (by omega)
  simp only [B0,B1,B2,List.replicate,reduceCtorEq,lenA,seval,endK,f91,resA,tupA,g1,g2,g3,g6,hkl,q2]
  rw [if_neg hz]
  exact ⟨H3, g4, hK3, rfl⟩
end
end Go.Abs.Seat
end
section
set_option linter.unusedVariables false
set_option linter.unusedSimpArgs false
set_option linter.unusedSectionVars false
namespace Go.Abs.Seat
open Go.Proofs
mutual
def fineN : NT → Prop
 | .mk op i txt ty s kids => (-9223372036854775808 ≤ i ∧ i ≤ 9223372036854775807) ∧ txt.length ≤ 1000000 ∧ op.length ≤ 1000000 ∧ (kids = [] ∨ s = 6) ∧ okT ty ∧ fineNs kids
def fineNs : List NT → Prop
 | [] => True
 | a :: l => fineN a ∧ fineNs l
end
theorem fineNs_mem : ∀ {l : List NT}, fineNs l → ∀ a ∈ l, fineN a
 | [], _, a, ha => by simp at ha
 | x :: l, h, a, ha => by
  simp only [fineNs] at h
  rcases List.mem_cons.1 ha with rfl | ha
  ·exact h.1
  ·exact fineNs_mem h.2 a ha
theorem shape_le {w p : List UInt8} (h : shapeT w = some p) : p.length ≤ 5 ∧ w ≠ [] := by
 have hm := lookup_mem h
 have key : ∀ q ∈ shapes, q.2.length ≤ 5 ∧ q.1 ≠ [] := by decide
 exact key _ hm
theorem nodeW_stop {d : Nat} {t : NT} {st : WSt} (h : 4096 < st.1.length) : (nodeW d t st).1 = st.1 := by
 cases d with
 | zero => rfl
 | succ d =>
  obtain ⟨op, i, txt, ty, s, kids⟩ := t
  simp only [nodeW]
  rw [if_pos (by rw [decide_eq_true h, Bool.or_true])]
theorem kidsW_len {nd : NT → WSt → WSt} {ps : List UInt8} {X : Nat} (hX : 4097 ≤ X) (hs : ∀ k st, 4096 < st.1.length → (nd k st).1 = st.1) : ∀ (kids : List NT), (∀ k ∈ kids, ∀ st : WSt, (nd k st).1.length ≤ max st.1.length X) → ∀ (i : Nat) (st : WSt),
  (kidsW nd ps i kids st).1.length ≤ max st.1.length X + kids.length
 | [], _, i, st => by simp only [kidsW,List.length_nil]; omega
 | k :: ks, hk, i, st => by
  have h1 := hk k (by simp) (st.1 ++ [sepB i], st.2 || (decide (ps[i]? = some 110) && !isNam k))
  have h2 := hs k (st.1 ++ [sepB i], st.2 || (decide (ps[i]? = some 110) && !isNam k))
  have ih := kidsW_len (ps := ps) hX hs ks (fun k hk' => hk k (by simp [hk'])) (i + 1) (nd k (st.1 ++ [sepB i], st.2 || (decide (ps[i]? = some 110) && !isNam k)))
  simp only [kidsW,List.length_cons]
  simp only [List.length_append,List.length_cons,List.length_nil] at h1 h2
  by_cases hl : 4096 < st.1.length + 1
  ·have := h2 (by omega)
   rw [this] at ih
   simp only [List.length_append,List.length_cons,List.length_nil] at ih
   omega
  ·omega
theorem parts_len (ps : List UInt8) (n : Nat) (h : ps.length ≤ 5) : (partsW ps n).length ≤ 64 := by
 unfold partsW
 split
 ·rw [List.length_replicate]; omega
 ·omega
theorem nodeW_len : ∀ (d : Nat) (t : NT), fineN t → ∀ st : WSt, (nodeW d t st).1.length ≤ max st.1.length (5000000 + 70 * d)
 | 0, t, h, st => by simp only [nodeW]; omega
 | d + 1, .mk op i txt ty s kids, h, st => by
  simp only [fineN] at h
  obtain ⟨hi, ht, ho, hs, hty, hk⟩ := h
  simp only [nodeW]
  split
  ·simp only; omega
  ·rename_i hst
   have hl : st.1.length ≤ 4096 := by
    rcases Nat.lt_or_ge 4096 st.1.length with h | h
    ·exact absurd (by rw [decide_eq_true h, Bool.or_true]) hst
    ·exact h
   split
   ·have := itoaN_len i
    simp only [List.length_append]; omega
   ·split
    ·split
     ·simp only; omega
     ·rename_i h2
      have ht2 : txt.length ≤ 256 := by
       rcases Nat.lt_or_ge 256 txt.length with h | h
       ·exact absurd (by rw [decide_eq_true h, Bool.or_true]) h2
       ·exact h
      have := quoteL_len txt
      simp only [quoteB,List.length_append,List.length_cons,List.length_nil]; omega
    ·split
     ·simp only [List.length_append]; omega
     ·split
      ·simp only; omega
      ·rename_i ps hsh
       have hp5 := (shape_le hsh).1
       split
       ·have := itoaN_len i
        simp only [sideW,List.length_append,List.length_cons,List.length_nil]; omega
       ·split
        ·have := showW_len ty
         simp only [List.length_append,List.length_cons,List.length_nil]; omega
        ·unfold callW
         split
         ·simp only; omega
         ·rename_i hc
          have hkl : kids.length ≤ 64 := by
           have hpl := parts_len ps kids.length hp5
           by_cases he : kids.length = (partsW ps kids.length).length
           ·omega
           ·exact absurd (by rw [decide_eq_false he]; rfl) hc
          have hkn := kidsW_len (nd := nodeW d) (ps := partsW ps kids.length) (X := 5000000 + 70 * d) (by omega) (fun k st h => nodeW_stop h) kids (fun k hk' st => nodeW_len d k (fineNs_mem hk k hk') st) 0 (st.1 ++ op, st.2)
          simp only [List.length_append] at hkn
          split
          ·simp only [List.length_append,List.length_cons,List.length_nil]; omega
          ·omega
section
variable {n : Nat} {H : Heap} {id : Nat} {st : WSt} (hw : WA n H id st) (op txt : List UInt8) (i k : Int) (sa s : Nat) (args : List KT) (kids : List NT) (d : Nat)
include hw
theorem s57_call (hb : st.2 = false) (hl : ¬ 4096 < st.1.length) (hn1 : op ≠ intW) (hn2 : op ≠ textW) (hn3 : op ≠ nameW) (ps : List UInt8) (hsh : shapeT op = some ps) (hq1 : ps ≠ [100]) (hq2 : ps ≠ [116]) (r : WSt)
  (c49 : ∃ H3, L 91 [.ptr id 0 0, .im (.agg (encN (.mk op i txt (.mk k sa args) s kids))), .im (.str ps), .im (.int .i64 ((d + 1 : Nat) : Int))] (H ++ [nOf op txt i k sa s args kids]) = some (.tup [], H3) ∧ WA n H3 id r ∧ Keeps n id (H ++ [nOf op txt i k sa s args kids]) H3) : Wrote n H id (.mk op i txt (.mk k sa args) s kids) (d + 1) r := by
 have hidlt := wa_lt hw
 have hw1 := wa_more hw [nOf op txt i k sa s args kids]
 obtain ⟨a0, v, hid, hlv, hset⟩ := wa_get hw1
 have hbx : (H ++ [nOf op txt i k sa s args kids])[H.length]? = some (nOf op txt i k sa s args kids) := by simp
 have hk1 : Keeps n id H (H ++ [nOf op txt i k sa s args kids]) := (Keeps.refl n id H).app _
 have c33 := fun H => s77 op H
 have hidlt1 : id < (H ++ [nOf op txt i k sa s args kids]).length := by simp only [List.length_append]; omega
 rw [hb] at hid
 have d0 : decide (((d + 1 : Nat) : Int) = 0) = false := decide_eq_false (by omega)
 have d1 : decide ((4096 : Int) < (st.1.length : Int)) = false := decide_eq_false (by omega)
 have c25 := s58 hw1
 have c43 := fun H => s85 op txt i k sa s args kids H
 simp only [encN] at c43
 have hbx2 : ∀ x, ((H ++ [nOf op txt i k sa s args kids]).set id x)[H.length]? = some (nOf op txt i k sa s args kids) := fun x => by rw [List.getElem?_set_ne (by omega)]; exact hbx
 have e1 : decide (op = [105, 110, 116]) = false := decide_eq_false hn1
 have e2 : decide (op = [116, 101, 120, 116, 95, 111, 102]) = false := decide_eq_false hn2
 have e3 : decide (op = [110, 97, 109, 101]) = false := decide_eq_false hn3
 rw [hsh] at c33
 simp only [Option.getD_some,Option.isSome_some] at c33
 obtain ⟨H3, c49, hw3, hk3⟩ := c49
 have f1 : decide (ps = [100]) = false := decide_eq_false hq1
 have f2 : decide (ps = [116]) = false := decide_eq_false hq2
 simp only [encN] at c49
 unfold Wrote
 simp only [encN]
 rw [leq F57]
 obtain ⟨hlen, ha⟩ := enter_at (f := f57) (args := [.ptr id 0 0, .im (.agg [.str op, .int .i64 i, .str txt, .int .i64 k, .sl sa (encTs args), .sl s (encNs kids)]), .im (.int .i64 ((d + 1) : Nat))]) (Nat.le_of_ble_eq_true rfl)
 have h0 := ha 0 _ rfl
 have h1 := ha 1 _ rfl
 have h2 := ha 2 _ rfl
 generalize enterA f57 [.ptr id 0 0, .im (.agg [.str op, .int .i64 i, .str txt, .int .i64 k, .sl sa (encTs args), .sl s (encNs kids)]), .im (.int .i64 ((d + 1) : Nat))] = tm at *
 change tm.length = 167 at hlen
 clear ha
 simp only [nOf] at *
 simp only [f57,B0,B1,B2,List.replicate,reduceCtorEq,seval,endK,resA,tupA,hlen,h0,h1,h2,hid,hbx,c33,d0,d1,c25,e1,e2,e3,f1,f2,c49]
 exact ⟨H3, hw3, hk1.trans hk3, rfl⟩
end
theorem s57 (n id : Nat) : ∀ (d : Nat), d ≤ 1000 → ∀ t : NT, fineN t → Nod n id d t
 | d, hd, .mk op i txt (.mk k sa args) s kids, hf => by
  intro st H hst hw
  suffices hsuf : Wrote n H id (.mk op i txt (.mk k sa args) s kids) d (nodeW d (.mk op i txt (.mk k sa args) s kids) st) by
   obtain ⟨H2, h1, h2, h3⟩ := hsuf
   obtain ⟨H', e1, e2, e3⟩ := wa_leave hw h1 h2
   exact ⟨H', by rw [h3, e1], e2, e3⟩
  have hf' := hf
  simp only [fineN] at hf
  obtain ⟨hi, ht, ho, hs, hty, hk⟩ := hf
  cases hb : st.2 with
  | true =>
   have e : nodeW d (.mk op i txt (.mk k sa args) s kids) st = (st.1, true) := by
    cases d with
    | zero => rfl
    | succ d => simp only [nodeW]; rw [if_pos (by rw [hb, Bool.true_or])]
   rw [e]
   exact s57_bad hw op txt i k sa s args kids d hb
  | false =>
   cases d with
   | zero => exact s57_zero hw op txt i k sa s args kids hb
   | succ d =>
    simp only [nodeW]
    by_cases hl : 4096 < st.1.length
    ·rw [if_pos (by rw [decide_eq_true hl, Bool.or_true])]
     exact s57_long hw op txt i k sa s args kids d hb hl
    rw [if_neg (by rw [hb, decide_eq_false hl]; simp)]
    by_cases h1 : op = intW
    ·rw [if_pos h1]
     exact s57_int hw op txt i k sa s args kids d hb hl h1 hi
    rw [if_neg h1]
    by_cases h2 : op = textW
    ·rw [if_pos h2]
     cases hbare : bareN (.mk op i txt (.mk k sa args) s kids) false true false false with
     | false =>
      rw [if_pos (by simp)]
      exact s57_text1 hw op txt i k sa s args kids d hb hl h2 hbare
     | true =>
      by_cases h3 : 256 < txt.length
      ·rw [if_pos (by rw [decide_eq_true h3, Bool.or_true])]
       exact s57_text2 hw op txt i k sa s args kids d hb hl h2 hbare h3
      ·rw [if_neg (by rw [decide_eq_false h3]; simp)]
       exact s57_text3 hw op txt i k sa s args kids d hb hl h2 hbare h3
    rw [if_neg h2]
    by_cases h3 : op = nameW
    ·rw [if_pos h3]
     cases hbare : bareN (.mk op i txt (.mk k sa args) s kids) false true false false with
     | false => exact s57_name1 hw op txt i k sa s args kids d hb hl h3 hbare ht
     | true => exact s57_name2 hw op txt i k sa s args kids d hb hl h3 hbare ht
    rw [if_neg h3]
    cases hsh : shapeT op with
    | none => exact s57_none hw op txt i k sa s args kids d hb hl h1 h2 h3 hsh
    | some ps =>
     simp only
     by_cases h4 : ps = [100]
     ·rw [if_pos h4]
      rw [h4] at hsh
      cases hbare : bareN (.mk op i txt (.mk k sa args) s kids) true false false false with
      | false => exact s57_d1 hw op txt i k sa s args kids d hb hl h1 h2 h3 hsh hi hbare
      | true =>
       by_cases h5 : i < 0
       ·have := s57_d2 hw op txt i k sa s args kids d hb hl h1 h2 h3 hsh hi hbare h5
        rw [decide_eq_true h5]
        exact this
       ·have := s57_d3 hw op txt i k sa s args kids d hb hl h1 h2 h3 hsh hi hbare h5
        rw [decide_eq_false h5]
        exact this
     rw [if_neg h4]
     by_cases h5 : ps = [116]
     ·rw [if_pos h5]
      rw [h5] at hsh
      cases hbare : bareN (.mk op i txt (.mk k sa args) s kids) false false true false with
      | false => exact s57_t1 hw op txt i k sa s args kids d hb hl h1 h2 h3 hsh hty ho hbare
      | true => exact s57_t2 hw op txt i k sa s args kids d hb hl h1 h2 h3 hsh hty ho hbare
     rw [if_neg h5]
     have hw1 := wa_more hw [nOf op txt i k sa s args kids]
     have hp5 := (shape_le hsh).1
     have hC : ∀ k ∈ kids, ∀ st : WSt, (nodeW d k st).1.length ≤ max st.1.length (5000000 + 70 * d) := fun k hk' st => nodeW_len d k (fineNs_mem hk k hk') st
     have hnod : ∀ k ∈ kids, Nod n id d k := fun k hk' => s57 n id d (by omega) k (fineNs_mem hk k hk')
     refine s57_call hw op txt i k sa s args kids d hb hl h1 h2 h3 ps hsh h4 h5 _ ?_
     have fin : Called n (H ++ [nOf op txt i k sa s args kids]) id (.mk op i txt (.mk k sa args) s kids) ps (d + 1) (callW (nodeW d) op ps (.mk op i txt (.mk k sa args) s kids) kids st) := by
      unfold callW partsW
      by_cases hp : ps = [43]
      ·rw [if_pos hp]
       by_cases hkl : kids.length = (List.replicate (min (max 1 kids.length) 64) (101 : UInt8)).length
       ·cases hbare : bareN (.mk op i txt (.mk k sa args) s kids) false false false true with
        | false =>
         rw [if_pos (by simp)]
         exact s91_bareA hw1 op txt i k sa s args kids ps d ho (by omega) (by omega) hp hkl hbare
        | true =>
         rw [if_neg (by rw [decide_eq_true hkl]; simp)]
         exact s91_goA hw1 op txt i k sa s args kids ps d ho (by omega) (by omega) hp hkl hbare (by omega) hs (5000000 + 70 * d) hC hnod (by omega)
       ·rw [if_pos (by rw [decide_eq_false hkl]; rfl)]
        exact s91_lenA hw1 op txt i k sa s args kids ps d ho (by omega) (by omega) hp hkl
      ·rw [if_neg hp]
       by_cases hkl : kids.length = ps.length
       ·cases hbare : bareN (.mk op i txt (.mk k sa args) s kids) false false false true with
        | false =>
         rw [if_pos (by simp)]
         exact s91_bareB hw1 op txt i k sa s args kids ps d ho (by omega) (by omega) hp hkl hbare
        | true =>
         rw [if_neg (by rw [decide_eq_true hkl]; simp)]
         exact s91_goB hw1 op txt i k sa s args kids ps d ho (by omega) (by omega) hp hkl hbare (by omega) hs (5000000 + 70 * d) hC hnod (by omega)
       ·rw [if_pos (by rw [decide_eq_false hkl]; rfl)]
        exact s91_lenB hw1 op txt i k sa s args kids ps d ho (by omega) (by omega) hp hkl
     obtain ⟨H2, g1, g2, g3⟩ := fin
     obtain ⟨H', e1, e2, e3⟩ := wa_leave hw1 g1 g2
     exact ⟨H', by rw [g3, e1], e2, e3⟩
end Go.Abs.Seat
end
section
set_option linter.unusedVariables false
set_option linter.unusedSimpArgs false
namespace Go.Abs.Seat
open Go.Proofs
theorem kidsW_ge {nd : NT → WSt → WSt} {ps : List UInt8} : ∀ (kids : List NT), (∀ k ∈ kids, ∀ st : WSt, st.1.length ≤ (nd k st).1.length) → ∀ (i : Nat) (st : WSt), st.1.length ≤ (kidsW nd ps i kids st).1.length
 | [], _, i, st => Nat.le_refl _
 | k :: ks, hk, i, st => by
  have h1 := hk k (by simp) (st.1 ++ [sepB i], st.2 || (decide (ps[i]? = some 110) && !isNam k))
  have ih := kidsW_ge (ps := ps) ks (fun k hk' => hk k (by simp [hk'])) (i + 1) (nd k (st.1 ++ [sepB i], st.2 || (decide (ps[i]? = some 110) && !isNam k)))
  simp only [kidsW]
  simp only [List.length_append,List.length_cons,List.length_nil] at h1
  omega
theorem callW_ge {nd : NT → WSt → WSt} {op ps : List UInt8} {t : NT} {kids : List NT} (hk : ∀ k ∈ kids, ∀ st : WSt, st.1.length ≤ (nd k st).1.length) (st : WSt) : st.1.length ≤ (callW nd op ps t kids st).1.length ∧ ((callW nd op ps t kids st).2 = false → st.2 = false → st.1.length + op.length ≤ (callW nd op ps t kids st).1.length) := by
 unfold callW
 have h := kidsW_ge (ps := partsW ps kids.length) kids hk 0 (st.1 ++ op, st.2)
 simp only [List.length_append] at h
 split
 ·exact ⟨Nat.le_refl _, fun h => by simp at h⟩
 ·split
  ·simp only [List.length_append]
   exact ⟨by omega, fun _ _ => by omega⟩
  ·exact ⟨by omega, fun _ _ => by omega⟩
theorem nodeW_ge : ∀ (d : Nat) (t : NT) (st : WSt), st.1.length ≤ (nodeW d t st).1.length
 | 0, t, st => Nat.le_refl _
 | d + 1, .mk op i txt ty s kids, st => by
  have hk : ∀ k ∈ kids, ∀ st : WSt, st.1.length ≤ (nodeW d k st).1.length := fun k _ st => nodeW_ge d k st
  simp only [nodeW]
  split
  ·exact Nat.le_refl _
  ·split
   ·simp
   ·split
    ·split
     ·exact Nat.le_refl _
     ·simp
    ·split
     ·simp
     ·split
      ·exact Nat.le_refl _
      ·split
       ·simp
       ·split
        ·simp
        ·exact (callW_ge hk st).1
theorem digN_ne (f u : Nat) : digN (f + 1) u ≠ [] := by
 unfold digN
 split <;> simp
theorem itoaN_ne (n : Int) : itoaN n ≠ [] := by
 unfold itoaN
 split
 ·simp
 ·exact digN_ne 19 _
theorem nodeW_ne (d : Nat) (t : NT) (h : (nodeW d t ([], false)).2 = false) : (nodeW d t ([], false)).1 ≠ [] := by
 cases d with
 | zero => simp [nodeW] at h
 | succ d =>
  obtain ⟨op, i, txt, ty, s, kids⟩ := t
  have hk : ∀ k ∈ kids, ∀ st : WSt, st.1.length ≤ (nodeW d k st).1.length := fun k _ st => nodeW_ge d k st
  simp only [nodeW] at h ⊢
  rw [if_neg (by simp)] at h ⊢
  by_cases h1 : op = intW
  ·rw [if_pos h1]
   simpa using itoaN_ne i
  rw [if_neg h1] at h ⊢
  by_cases h2 : op = textW
  ·rw [if_pos h2] at h ⊢
   by_cases h3 : (!bareN (.mk op i txt ty s kids) false true false false || decide (256 < txt.length)) = true
   ·rw [if_pos h3] at h; simp at h
   ·rw [if_neg h3]; simp [quoteB]
  rw [if_neg h2] at h ⊢
  by_cases h3 : op = nameW
  ·rw [if_pos h3] at h ⊢
   simp only [Bool.or_eq_false_iff,Bool.not_eq_false'] at h
   intro e
   have e' : txt = [] := by simpa using e
   have := h.2
   rw [e'] at this
   simp [nameOk] at this
  rw [if_neg h3] at h ⊢
  cases hsh : shapeT op with
  | none => rw [hsh] at h; simp at h
  | some ps =>
   rw [hsh] at h
   simp only at h ⊢
   by_cases h4 : ps = [100]
   ·rw [if_pos h4]; simp [sideW]
   rw [if_neg h4] at h ⊢
   by_cases h5 : ps = [116]
   ·rw [if_pos h5]; simp
   rw [if_neg h5] at h ⊢
   have := (callW_ge (op := op) (ps := ps) (t := .mk op i txt ty s kids) hk ([], false)).2 h rfl
   have hne := (shape_le hsh).2
   intro e
   rw [e] at this
   have : 0 < op.length := List.length_pos_iff.2 hne
   simp only [List.length_nil] at *
   omega
def showX (t : NT) : List UInt8 × Int := if ((nodeW 24 t ([], false)).2 || decide (4096 < (nodeW 24 t ([], false)).1.length)) = true then ([], 110) else ((nodeW 24 t ([], false)).1, 0)
theorem leave_keeps {n id : Nat} {H M H2 : Heap} {r : AV} (hd : degrade r = r) (hr : refsLt H.length r = true) (hn : H.length ≤ n) (hid : H.length ≤ id) (hk : Keeps n id (H ++ M) H2) : leave H false r H2 = (r, H) := by
 have hsame : ∀ i, i < H.length → H2[i]? = H[i]? := fun i hi => by
  rw [hk.2.2 i (by omega) (by simp; omega) (by omega), List.getElem?_append_left hi]
 have hheld : heldIn H H2 := fun i hi => .inl (hsame i hi)
 have htake : H2.take H.length = H := by
  apply List.ext_getElem?
  intro i
  rw [List.getElem?_take]
  split
  ·rename_i hi; exact hsame i hi
  ·rw [List.getElem?_eq_none (by omega)]
 unfold leave
 have e : (if (false : Bool) = true then r else degrade r) = r := by simp [hd]
 rw [e, if_pos ⟨hr, hheld⟩, htake]
theorem s32 (t : NT) (hf : fineN t) (H : Heap) : L 32 [.im (.agg (encN t))] H = some (.tup [.im (.str (showX t).1), .im (.int .i64 (showX t).2)], H) := by
 obtain ⟨op, i, txt, ty, s, kids⟩ := t
 obtain ⟨k, sa, args⟩ := ty
 have hw0 : WA (H.length + 2) (H ++ [nOf op txt i k sa s args kids, .obj (some (113, 3)) [[.im .nilp, .nils, .im (.bool false)]]]) (H.length + 1) ([], false) :=
  ⟨.im .nilp, .nils, by rw [Go.Abs.hget]; rfl, .inl rfl, .inl ⟨rfl, rfl⟩, by simp⟩
 obtain ⟨H2, c24, hw2, hK2⟩ := s57 (H.length + 2) (H.length + 1) 24 (by decide) _ hf ([], false) _ (by simp) hw0
 have hlen0 := nodeW_len 24 _ hf ([], false)
 have hne := nodeW_ne 24 (.mk op i txt (.mk k sa args) s kids)
 unfold showX
 generalize nodeW 24 (.mk op i txt (.mk k sa args) s kids) ([], false) = r at *
 obtain ⟨out, bad⟩ := r
 simp only at hne hlen0 ⊢
 obtain ⟨a0, v, hid, _, hset⟩ := wa_get hw2
 have c25 := s58 hw2
 simp only [encN] at c24 ⊢
 have hlv : ∀ (x : List UInt8) (e : Int) (H3 : Heap), Keeps (H.length + 2) (H.length + 1) (H ++ [nOf op txt i k sa s args kids, .obj (some (113, 3)) [[.im .nilp, .nils, .im (.bool false)]]]) H3 →
   leave H false (.tup [.im (.str x), .im (.int .i64 e)]) H3 = (.tup [.im (.str x), .im (.int .i64 e)], H) := fun x e H3 h => leave_keeps (by simp [degrade, degrade1, toDat]) (by simp [refsLt, refsLts]) (by omega) (by omega) h
 simp only [nOf] at *
 have c24' : L 57 [.ptr (H.length + 1) 0 0, .im (.agg [.str op, .int .i64 i, .str txt, .int .i64 k, .sl sa (encTs args), .sl s (encNs kids)]), .im (.int .i64 24)] _ = _ := c24
 rw [leq F32]
 obtain ⟨hlen, ha⟩ := enter_at (f := f32) (args := [.im (.agg [.str op, .int .i64 i, .str txt, .int .i64 k, .sl sa (encTs args), .sl s (encNs kids)])]) (Nat.le_of_ble_eq_true rfl)
 have h0 := ha 0 _ rfl
 generalize enterA f32 [.im (.agg [.str op, .int .i64 i, .str txt, .int .i64 k, .sl sa (encTs args), .sl s (encNs kids)])] = tm at *
 change tm.length = 25 at hlen
 clear ha
 cases bad with
 | true =>
  rw [Bool.true_or, if_pos rfl]
  simp only [f32,B0,B1,B2,List.replicate,reduceCtorEq,lenA,seval,endK,resA,tupA,hlen,h0,c24',hid,hlv _ _ _ hK2]
 | false =>
  simp only [Bool.false_or,decide_eq_true_eq]
  by_cases hl : 4096 < out.length
  ·have e1 : decide ((4096 : Int) < (out.length : Int)) = true := decide_eq_true (by omega)
   rw [if_pos hl]
   simp only [f32,B0,B1,B2,List.replicate,reduceCtorEq,lenA,seval,endK,resA,tupA,hlen,h0,c24',hid,c25,e1,hlv _ _ _ hK2]
  ·have e1 : decide ((4096 : Int) < (out.length : Int)) = false := decide_eq_false (by omega)
   rw [if_neg hl]
   have hne := hne rfl
   obtain ⟨b0, u, hid', _, hG, _⟩ := hw2
   rcases hG with ⟨hes, _⟩ | ⟨_, tok, htok, rfl, hhw⟩
   ·exact absurd (by simpa using hes) hne
   ·have c26 : L 59 [.ptr (H.length + 1) 0 0] H2 = some (.im (.str out), H2.set tok (.hw 5 (out.length + 1))) := by
     rw [L26]
     simp only [stE,hid',hhw,bytesE_of]
     rw [if_pos ⟨by decide, trivial, by simp, trivial, List.length_pos_iff.2 hne, by omega⟩]
     simp
    have hK3 := hK2.2
    have hK4 : Keeps (H.length + 2) (H.length + 1) (H ++ [.obj none [[.im (.str op), .im (.int .i64 i), .im (.str txt), .im (.int .i64 k), .im (.sl sa (encTs args)), .im (.sl s (encNs kids))]], .obj (some (113, 3)) [[.im .nilp, .nils, .im (.bool false)]]]) (H2.set tok (.hw 5 (out.length + 1))) :=
     ⟨by simpa using hK2.1, fun j ty es hj hA => by
      have := hK2.2.1 j ty es hj hA
      have hne2 : tok ≠ j := fun e => by subst e; rw [hhw] at this; simp at this
      rw [List.getElem?_set_ne hne2]; exact this, fun j hj hl2 hji => by
      rw [List.getElem?_set_ne (by omega)]; exact hK2.2.2 j hj hl2 hji⟩
    simp only [f32,B0,B1,B2,List.replicate,reduceCtorEq,lenA,seval,endK,resA,tupA,hlen,h0,c24',hid,c25,e1,c26,hlv _ _ _ hK4]
theorem s14 (t : NT) (hf : fineN t) (H : Heap) : L 14 [.im (.agg (encN t))] H = some (.im (.int .i64 (showX t).2), H) := by
 have c14 := fun H => s32 t hf H
 obtain ⟨op, i, txt, ty, s, kids⟩ := t
 obtain ⟨k, sa, args⟩ := ty
 simp only [encN] at c14 ⊢
 rw [leq F14]
 obtain ⟨hlen, ha⟩ := enter_at (f := f14) (args := [.im (.agg [.str op, .int .i64 i, .str txt, .int .i64 k, .sl sa (encTs args), .sl s (encNs kids)])]) (Nat.le_of_ble_eq_true rfl)
 have h0 := ha 0 _ rfl
 generalize enterA f14 [.im (.agg [.str op, .int .i64 i, .str txt, .int .i64 k, .sl sa (encTs args), .sl s (encNs kids)])] = tm at *
 change tm.length = 11 at hlen
 simp only [f14,B0,B1,B2,List.replicate,reduceCtorEq,lenA,seval,endK,resA,tupA,hlen,h0,c14,leave_app]
end Go.Abs.Seat
end
section
set_option linter.unusedVariables false
set_option linter.unusedSimpArgs false
namespace Go.Abs.Seat
open Go.Proofs
theorem right_iff (k : Int) (s : Nat) (args : List KT) (d : Int) : rightT (.mk k s args) d = true ↔ (∃ w ∈ words, w.1 = k ∧ (args.length : Int) = w.2.2) ∧ 1 ≤ d ∧ (∀ a ∈ args, rightT a (d - 1) = true) := by
 have hk : ∀ i, kidx k = some i → ∃ w ∈ words, w.1 = k ∧ kcnt i = w.2.2 := by
  intro i hi
  unfold kidx at hi
  obtain ⟨h1, h2, _⟩ := List.findIdx?_eq_some_iff_getElem.1 hi
  refine ⟨words[i], List.getElem_mem h1, of_decide_eq_true h2, ?_⟩
  have : ∀ j, (h : j < words.length) → kcnt j = words[j].2.2 := by decide
  exact this i h1
 have hk2 : ∀ w ∈ words, w.1 = k → ∃ i, kidx k = some i ∧ kcnt i = w.2.2 := by
  intro w hw hwk
  have : ∀ w ∈ words, ∃ i, i < 8 ∧ kidx w.1 = some i ∧ kcnt i = w.2.2 := by decide
  obtain ⟨i, _, h1, h2⟩ := this w hw
  exact ⟨i, by rw [← hwk]; exact h1, h2⟩
 simp only [rightT]
 constructor
 ·intro h
  split at h
  ·rename_i i hi
   split at h
   ·simp at h
   ·split at h
    ·rename_i hl
     obtain ⟨w, hw, h1, h2⟩ := hk i hi
     refine ⟨⟨w, hw, h1, by rw [← h2]; exact hl⟩, by omega, fun a ha => ?_⟩
     rw [rightNot_any] at h
     simp only [Bool.not_eq_true',List.any_eq_false,Bool.not_eq_true',Bool.not_eq_false] at h
     have := h a ha
     simpa using this
    ·simp at h
  ·simp at h
 ·rintro ⟨⟨w, hw, h1, h2⟩, h3, h4⟩
  obtain ⟨i, hi, hc⟩ := hk2 w hw h1
  rw [hi]
  simp only
  rw [if_neg (by omega), if_pos (by rw [hc]; exact h2), rightNot_any]
  simp only [Bool.not_eq_true',List.any_eq_false,Bool.not_eq_true',Bool.not_eq_false]
  intro a ha
  simp [h4 a ha]
end Go.Abs.Seat
end
section
set_option linter.unusedVariables false
set_option linter.unusedSimpArgs false
namespace Go.Abs.Seat
open Go.Proofs
mutual
def cloneT : KT → KT
 | .mk k _ args => .mk k (if args.length = 0 then 0 else 2) (cloneTs args)
def cloneTs : List KT → List KT
 | [] => []
 | a :: l => cloneT a :: cloneTs l
end
theorem cloneTs_map : ∀ l : List KT, cloneTs l = l.map cloneT
 | [] => rfl
 | a :: l => by simp only [cloneTs,List.map_cons,cloneTs_map l]
theorem l56 (args : List KT) (s : Nat) (hs : args = [] ∨ s = 2) (hn : args.length ≤ 1000) (H0 : Heap)
  (hc : ∀ a ∈ args, ∀ H, L 56 [.im (.agg (encT a))] H = some (.im (.agg (encT (cloneT a))), H)) :
  ∀ (m i : Nat), i + m = args.length → ∀ (tm : List AV) (M : Heap) (v : AV), Gath 34 2 H0.length v (H0 ++ M) ((args.take i).map fun a => encT (cloneT a)) → tm.length = 23 → tm.getD 3 undefA = v → tm.getD 7 undefA = .im (.sl s (args.map encT)) → tm.getD 8 undefA = .im (.int .i64 args.length) → tm.getD 9 undefA = .im (.int .i64 i) →
  ∃ e tm' H', Λ c56_0 tm (H0 ++ M) = some (e, tm', H') ∧ tm'.length = 23 ∧ e = .exit 0 ∧ tm'.getD 1 undefA = tm.getD 1 undefA ∧ tm'.getD 2 undefA = tm.getD 2 undefA ∧ ∃ M', H' = H0 ++ M' ∧ Gath 34 2 H0.length (tm'.getD 3 undefA) (H0 ++ M') (args.map fun a => encT (cloneT a))
 | 0, i, hi, tm, M, v, hG, hlen, h3, h7, h8, h9 => by
  have hc : decide ((i : Int) < (args.length : Int)) = false := decide_eq_false (by omega)
  rw [l56_0]
  simp only [b56_0,B0,B2,exec0,xreg,xops,aopc,endK,resA,tupA,List.replicate,binA,isShift,binInt,reduceCtorEq,lenA,seval,hlen,h3,h7,h8,h9,hc]
  have e : args.take i = args := List.take_of_length_le (by omega)
  rw [e] at hG
  exact ⟨_, _, _, rfl, by simp only [List.length_set,hlen], rfl, by simp only [B3,seval,hlen], by simp only [B3,seval,hlen], M, rfl, by simp only [B3,seval,hlen,h3]; exact hG⟩
 | m + 1, i, hi, tm, M, v, hG, hlen, h3, h7, h8, h9 => by
  have hlt : i < args.length := by omega
  obtain ⟨w, hwi⟩ : ∃ w, args[i]? = some w := ⟨_, List.getElem?_eq_getElem hlt⟩
  have hs2 : s = 2 := by
   rcases hs with hs | hs
   ·subst hs; simp at hlt
   ·exact hs
  subst hs2
  have hc' : decide ((i : Int) < (args.length : Int)) = true := decide_eq_true (by omega)
  have hix := idx_nat (n := (args.map encT).length) (i := i) (by simpa using hlt)
  have hgw : (args.map encT)[i]? = some (encT w) := by rw [List.getElem?_map, hwi]; rfl
  have hcall := hc w (List.mem_of_getElem? hwi)
  have hwr := wrap_nat (i := i) (by omega)
  have key := l56 args 2 hs hn H0 hc m (i + 1) (by omega)
  have hG2 := hG.more [.obj none [(encT w).map .im]]
  rw [List.append_assoc] at hG2
  obtain ⟨v', M', hap, hG', hok, _⟩ := hG2.push (bytes := 32) (encT (cloneT w)) (by simp; omega) (by decide)
  have htk : (args.take (i + 1)).map (fun a => encT (cloneT a)) = (args.take i).map (fun a => encT (cloneT a)) ++ [encT (cloneT w)] := by
   rw [List.take_add_one, hwi]; simp
  rw [← htk] at hG'
  have hset0 : ∀ o o' : HO, (H0 ++ (M ++ [o])).set (H0.length + M.length) o' = H0 ++ (M ++ [o']) := fun o o' => by
   rw [← List.append_assoc, ← List.append_assoc, ← List.length_append, Go.Abs.hset0]; rfl
  have hgetA : ∀ o, (H0 ++ (M ++ [o]))[H0.length + M.length]? = some o := fun o => by
   rw [← List.append_assoc, ← List.length_append, Go.Abs.hget0]; rfl
  rw [l56_0]
  generalize hcw : cloneT w = cw at *
  obtain ⟨k, s', ts⟩ := w
  obtain ⟨k2, s2, ts2⟩ := cw
  simp only [encT,List.map_cons,List.map_nil] at hcall hgw hap
  simp only [b56_0,B0,B2,exec0,xreg,xops,aopc,endK,resA,tupA,List.replicate,binA,isShift,binInt,reduceCtorEq,lenA,seval,hlen,h3,h7,h8,h9,hc',hix,hgw,hcall,hwr,hgetA,hset0,toDatss,toDats,toDat,elems,hap]
  refine ex_imp (key _ M' v' hG' ?_ ?_ ?_ ?_ ?_) ?_
  iterate 5 simp only [B3,seval,hlen,h3,h7,h8,h9]
  rintro e tm' H' ⟨hl', he, g1, g2, hM⟩
  refine ⟨hl', he, ?_, ?_, hM⟩
  ·rw [g1]; simp only [B3,seval,hlen]
  ·rw [g2]; simp only [B3,seval,hlen]
theorem s56 : ∀ (t : KT), okT t → narrow t → ∀ H, L 56 [.im (.agg (encT t))] H = some (.im (.agg (encT (cloneT t))), H)
 | .mk k s args, hok, hnw, H => by
  simp only [okT] at hok
  obtain ⟨hs, _, hoks⟩ := hok
  simp only [narrow] at hnw
  obtain ⟨hn, hnws⟩ := hnw
  have hc : ∀ a ∈ args, ∀ H, L 56 [.im (.agg (encT a))] H = some (.im (.agg (encT (cloneT a))), H) := fun a ha H => s56 a (okTs_mem hoks a ha) (narrows_mem hnws a ha) H
  have key := l56 args s hs (by omega) (H ++ [.obj none [[.im (.int .i64 k), .im (.sl s (encTs args))]], .obj none [[.im (.int .i64 0), .nils]]]) hc args.length 0 (by omega)
  have z : ((0 : Nat) : Int) = 0 := rfl
  simp only [z] at key
  have hel : (encTs args).length = args.length := by rw [encTs_map]; simp
  simp only [encT]
  rw [leq F56]
  obtain ⟨hlen, ha⟩ := enter_at (f := f56) (args := [.im (.agg [.int .i64 k, .sl s (encTs args)])]) (Nat.le_of_ble_eq_true rfl)
  have h0 := ha 0 _ rfl
  generalize enterA f56 [.im (.agg [.int .i64 k, .sl s (encTs args)])] = tm at *
  change tm.length = 23 at hlen
  simp only [f56,e56_0,B0,B2,exec0,xreg,xops,aopc,endK,resA,tupA,List.replicate,binA,isShift,binInt,reduceCtorEq,lenA,seval,hlen,h0,hel]
  have key := fun tm => key tm [] .nils (.inl ⟨rfl, rfl⟩)
  simp only [List.append_nil] at key
  refine thenL_of (key _ ?_ ?_ ?_ ?_ ?_) ?_
  iterate 5 simp only [B3,seval,hlen,h0,encTs_map]
  rintro e tm' H' ⟨hl', rfl, g1, g2, M, rfl, hG⟩
  simp only [B3,seval,hlen] at g1 g2
  have hm : encTs (cloneTs args) = args.map fun a => encT (cloneT a) := by rw [encTs_map, cloneTs_map, List.map_map]; rfl
  rcases hG with ⟨hes, hv⟩ | ⟨hes, tok, _, hv, _⟩
  ·have ha0 : args = [] := by simpa using hes
   have e1 : toDat (.agg [.im (.int .i64 k), .nils]) = some (.agg (encT (cloneT (.mk k s args)))) := by
    simp [toDat, toDats, cloneT, encT, ha0, encTs, cloneTs]
   have hlv := fun L' => leave_one (H := H) (M := L') e1
   simp only [cloneT,encT] at hlv ⊢
   simp only [B0,B2,exec0,xreg,xops,aopc,endK,resA,tupA,List.replicate,binA,isShift,binInt,reduceCtorEq,lenA,seval,hl',g1,g2,hv,toDatss,toDats,toDat,hlv]
  ·have ha0 : args.length ≠ 0 := by simpa using hes
   have e1 : toDat (.agg [.im (.int .i64 k), .asl 2 (args.map fun a => encT (cloneT a)) tok]) = some (.agg (encT (cloneT (.mk k s args)))) := by
    simp only [toDat,toDats,cloneT,encT,if_neg ha0,hm]
   have hlv := fun L' => leave_one (H := H) (M := L') e1
   simp only [cloneT,encT] at hlv ⊢
   simp only [B0,B2,exec0,xreg,xops,aopc,endK,resA,tupA,List.replicate,binA,isShift,binInt,reduceCtorEq,lenA,seval,hl',g1,g2,hv,toDatss,toDats,toDat,hlv]
termination_by t => SizeOf.sizeOf t
decreasing_by
 have := List.sizeOf_lt_of_mem ha
 simp only [KT.mk.sizeOf_spec]
 omega
theorem s30 (k : Int) (s : Nat) (args : List KT) (hok : okT (.mk k s args)) (H : Heap) : L 30 [.im (.int .i64 k), .im (.sl s (encTs args))] H =
  some (.tup [.im (.agg (if rightT (.mk k s args) 6 = true then encT (cloneT (.mk k s args)) else [.int .i64 0, .sl 0 []])), .im (.int .i64 (checkT (.mk k s args)))], H) := by
 have h19 := fun H => s33 (.mk k s args) hok H
 have h53 := fun (h : rightT (.mk k s args) 6 = true) H => s56 (.mk k s args) hok (right_narrow _ 6 h) H
 simp only [encT] at h19 h53
 rw [leq F30]
 obtain ⟨hlen, ha⟩ := enter_at (f := f30) (args := [.im (.int .i64 k), .im (.sl s (encTs args))]) (Nat.le_of_ble_eq_true rfl)
 have h0 := ha 0 _ rfl
 have h1 := ha 1 _ rfl
 generalize enterA f30 [.im (.int .i64 k), .im (.sl s (encTs args))] = tm at *
 change tm.length = 19 at hlen
 unfold checkT at h19 ⊢
 rcases Bool.eq_false_or_eq_true (rightT (.mk k s args) 6) with hr | hr
 ·have h53 := h53 hr
  simp only [hr,if_true] at h19 ⊢
  generalize hct : cloneT (.mk k s args) = ct at *
  obtain ⟨k2, s2, ts2⟩ := ct
  simp only [encT] at h53 ⊢
  have hlv := fun L' => leave_two (H := H) (M := L') (a := .im (.agg [.int .i64 k2, .sl s2 (encTs ts2)])) (b := .im (.int .i64 0)) rfl rfl
  simp only [f30,B0,B2,exec0,xreg,xops,aopc,endK,resA,tupA,List.replicate,binA,isShift,binInt,reduceCtorEq,lenA,seval,hlen,h0,h1,h19,h53,hlv]
 ·simp only [hr,Bool.false_eq_true,if_false] at h19 ⊢
  have hlv := fun L' => leave_two (H := H) (M := L') (a := .agg [.im (.int .i64 0), .nils]) (b := .im (.int .i64 20)) rfl rfl
  simp only [f30,B0,B2,exec0,xreg,xops,aopc,endK,resA,tupA,List.replicate,binA,isShift,binInt,reduceCtorEq,lenA,seval,hlen,h0,h1,h19,hlv]
theorem drop_cons {α : Type} {l : List α} {i : Nat} (h : i < l.length) : ∃ w, l[i]? = some w ∧ l.drop i = w :: l.drop (i + 1) := by
 refine ⟨_, List.getElem?_eq_getElem h, ?_⟩
 rw [List.drop_eq_getElem_cons h]
mutual
def sameT : KT → KT → Bool
 | .mk k _ xs, .mk k' _ ys => decide (k = k') && (decide (xs.length = ys.length) && sameTs xs ys)
def sameTs : List KT → List KT → Bool
 | a :: xs, b :: ys => sameT a b && sameTs xs ys
 | _, _ => true
end
theorem l61 (xs ys : List KT) (s s' : Nat) (hs : xs = [] ∨ s = 2) (hs' : ys = [] ∨ s' = 2) (hl : xs.length = ys.length) (hn : xs.length ≤ 9223372036854775807) (g : FuncId)
  (hc : ∀ a ∈ xs, ∀ b ∈ ys, ∀ H, L g [.im (.agg (encT a)), .im (.agg (encT b))] H = some (.im (.bool (sameT a b)), H)) :
  ∀ (m i : Nat), i + m = xs.length → ∀ (tm : List AV) (H : Heap), tm.length = 32 → tm.getD 1 undefA = .im (.sl s' (ys.map encT)) → tm.getD 2 undefA = .clo g [] → tm.getD 15 undefA = .im (.sl s (xs.map encT)) → tm.getD 16 undefA = .im (.int .i64 (xs.length : Int)) → tm.getD 17 undefA = .im (.int .i64 (i : Int)) →
  ∃ e tm' H', Λ c61_0 tm H = some (e, tm', H') ∧ tm'.length = 32 ∧ (∃ M, H' = H ++ M) ∧ ((sameTs (xs.drop i) (ys.drop i) = true ∧ e = .exit 0) ∨ (sameTs (xs.drop i) (ys.drop i) = false ∧ e = .ret ∧ tm'.getD 6 undefA = .im (.bool false)))
 | 0, i, hi, tm, H, hlen, h1, h2, h15, h16, h17 => by
  have e : xs.drop i = [] := by rw [List.drop_eq_nil_iff]; omega
  have hc' : decide ((i : Int) < (xs.length : Int)) = false := decide_eq_false (by omega)
  rw [e, l61_0]
  simp only [b61_0,B0,B1,B2,List.replicate,reduceCtorEq,lenA,seval,hlen,h1,h2,h15,h16,h17,hc',sameTs]
  exact ⟨_, _, _, rfl, by simp only [List.length_set,hlen], ⟨[], by simp⟩, by simp⟩
 | m + 1, i, hi, tm, H, hlen, h1, h2, h15, h16, h17 => by
  have hlt : i < xs.length := by omega
  have hltb : i < ys.length := by omega
  obtain ⟨a, hai, ea⟩ := drop_cons hlt
  obtain ⟨b, hbi, eb⟩ := drop_cons hltb
  have hs2 : s = 2 := by
   rcases hs with hs | hs
   ·subst hs; simp at hlt
   ·exact hs
  have hs2' : s' = 2 := by
   rcases hs' with hs | hs
   ·subst hs; simp at hltb
   ·exact hs
  subst hs2 hs2'
  have hc' : decide ((i : Int) < (xs.length : Int)) = true := decide_eq_true (by omega)
  have hixa := idx_nat (n := xs.length) (i := i) hlt
  have hixb := idx_nat (n := ys.length) (i := i) hltb
  have hga : (xs.map encT)[i]? = some (encT a) := by rw [List.getElem?_map, hai]; rfl
  have hgb : (ys.map encT)[i]? = some (encT b) := by rw [List.getElem?_map, hbi]; rfl
  have hcall := hc a (List.mem_of_getElem? hai) b (List.mem_of_getElem? hbi)
  have hwr := wrap_nat (i := i) (by omega)
  have key := l61 xs ys 2 2 hs hs' hl hn g hc m (i + 1) (by omega)
  rw [ea, eb, l61_0]
  simp only [sameTs]
  generalize sameT a b = sb at *
  obtain ⟨k1, s1, ts1⟩ := a
  obtain ⟨k2, s2, ts2⟩ := b
  simp only [encT] at hcall hga hgb
  cases sb with
  | true =>
   simp only [b61_0,B0,B1,B2,List.replicate,reduceCtorEq,lenA,seval,hlen,h1,h2,h15,h16,h17,List.length_map,hc',hixa,hixb,hga,hgb,hcall,hwr,Bool.true_and]
   refine ex_imp (key _ _ ?_ ?_ ?_ ?_ ?_ ?_) ?_
   iterate 6 simp only [B3,seval,hlen,h1,h2,h15,h16]
   rintro e tm' H' ⟨a1, ⟨M, rfl⟩, a3⟩
   exact ⟨a1, ⟨_, List.append_assoc ..⟩, a3⟩
  | false =>
   simp only [b61_0,B0,B1,B2,List.replicate,reduceCtorEq,lenA,seval,hlen,h1,h2,h15,h16,h17,List.length_map,hc',hixa,hixb,hga,hgb,hcall,hwr,Bool.false_and]
   exact ⟨_, _, _, rfl, by simp only [List.length_set,hlen], ⟨_, rfl⟩, by simp only [B3,seval,hlen,true_and,and_true,and_self,or_true]⟩
theorem s61 (xs ys : List KT) (s s' : Nat) (hs : xs = [] ∨ s = 2) (hs' : ys = [] ∨ s' = 2) (hn : xs.length ≤ 9223372036854775807) (g : FuncId)
  (hc : ∀ a ∈ xs, ∀ b ∈ ys, ∀ H, L g [.im (.agg (encT a)), .im (.agg (encT b))] H = some (.im (.bool (sameT a b)), H)) (H : Heap) :
  L 61 [.im (.sl s (xs.map encT)), .im (.sl s' (ys.map encT)), .clo g []] H = some (.im (.bool (decide (xs.length = ys.length) && sameTs xs ys)), H) := by
 rw [leq F61]
 obtain ⟨hlen, hg⟩ := enter_at (f := f61) (args := [.im (.sl s (xs.map encT)), .im (.sl s' (ys.map encT)), .clo g []]) (Nat.le_of_ble_eq_true rfl)
 have h0 := hg 0 _ rfl
 have h1 := hg 1 _ rfl
 have h2 := hg 2 _ rfl
 generalize enterA f61 [.im (.sl s (xs.map encT)), .im (.sl s' (ys.map encT)), .clo g []] = tm at *
 change tm.length = 32 at hlen
 by_cases hl : xs.length = ys.length
 ·have hdl : decide ((xs.length : Int) = (ys.length : Int)) = true := decide_eq_true (by omega)
  have hdl' : decide (xs.length = ys.length) = true := decide_eq_true hl
  have key := l61 xs ys s s' hs hs' hl hn g hc xs.length 0 (by omega)
  have z : ((0 : Nat) : Int) = 0 := rfl
  simp only [z,List.drop_zero] at key
  simp only [f61,e61_0,B0,B1,B2,List.replicate,reduceCtorEq,lenA,seval,hlen,h0,h1,h2,List.length_map,hdl,hdl',Bool.true_and]
  generalize hr : thenL _ _ = r
  refine Exists.elim (thenL_inv hr (key _ _ ?_ ?_ ?_ ?_ ?_ ?_)) ?_
  iterate 6 simp only [B3,seval,hlen,h1,h2]
  clear hr key
  rintro e ⟨tm1, H1, ⟨hl1, ⟨M, rfl⟩, hm⟩, rfl⟩
  rcases hm with ⟨he, rfl⟩ | ⟨he, rfl, g4⟩
  ·rw [he]
   simp only [B0,B1,B2,List.replicate,reduceCtorEq,lenA,seval,endK,resA,tupA,hl1,leave_app]
  ·rw [he]
   simp only [B0,B1,B2,List.replicate,reduceCtorEq,lenA,seval,endK,resA,tupA,hl1,g4,leave_app]
 ·have hdl : decide ((xs.length : Int) = (ys.length : Int)) = false := decide_eq_false (by omega)
  have hdl' : decide (xs.length = ys.length) = false := decide_eq_false hl
  simp only [f61,B0,B1,B2,List.replicate,reduceCtorEq,lenA,seval,endK,resA,tupA,hlen,h0,h1,h2,List.length_map,hdl,hdl',Bool.false_and,leave_same]
theorem s34 : ∀ (a b : KT), okT a → okT b → ∀ H, L 34 [.im (.agg (encT a)), .im (.agg (encT b))] H = some (.im (.bool (sameT a b)), H)
 | .mk ka s xs, .mk kb s' ys, ha, hb, H => by
  simp only [okT] at ha hb
  obtain ⟨hs, hn, hoa⟩ := ha
  obtain ⟨hs', hn', hob⟩ := hb
  have hc : ∀ a ∈ xs, ∀ b ∈ ys, ∀ H, L 34 [.im (.agg (encT a)), .im (.agg (encT b))] H = some (.im (.bool (sameT a b)), H) := fun a ha b hb H => s34 a b (okTs_mem hoa a ha) (okTs_mem hob b hb) H
  have h75 := s61 xs ys s s' hs hs' hn 34 hc
  simp only [encT,encTs_map,sameT]
  rw [leq F34]
  obtain ⟨hlen, hg⟩ := enter_at (f := f34) (args := [.im (.agg [.int .i64 ka, .sl s (xs.map encT)]), .im (.agg [.int .i64 kb, .sl s' (ys.map encT)])]) (Nat.le_of_ble_eq_true rfl)
  have h0 := hg 0 _ rfl
  have h1 := hg 1 _ rfl
  generalize enterA f34 [.im (.agg [.int .i64 ka, .sl s (xs.map encT)]), .im (.agg [.int .i64 kb, .sl s' (ys.map encT)])] = tm at *
  change tm.length = 17 at hlen
  by_cases hk : ka = kb
  ·have hdk : decide (ka = kb) = true := decide_eq_true hk
   simp only [f34,B0,B1,B2,List.replicate,reduceCtorEq,lenA,seval,endK,resA,tupA,hlen,h0,h1,hdk,h75,Bool.true_and,leave_app]
  ·have hdk : decide (ka = kb) = false := decide_eq_false hk
   simp only [f34,B0,B1,B2,List.replicate,reduceCtorEq,lenA,seval,endK,resA,tupA,hlen,h0,h1,hdk,Bool.false_and,leave_app]
termination_by a => SizeOf.sizeOf a
decreasing_by
 have := List.sizeOf_lt_of_mem ha
 simp only [KT.mk.sizeOf_spec]
 omega
theorem s16 (a b : KT) (ha : okT a) (hb : okT b) (H : Heap) : L 16 [.im (.agg (encT a)), .im (.agg (encT b))] H = some (.im (.bool (rightT a 6 && (rightT b 6 && sameT a b))), H) := by
 have h19a := fun H => s33 a ha H
 have h19b := fun H => s33 b hb H
 have h50 := s34 a b ha hb
 simp only [checkT] at h19a h19b
 generalize rightT a 6 = ra at *
 generalize rightT b 6 = rb at *
 generalize sameT a b = sab at *
 obtain ⟨k1, s1, ts1⟩ := a
 obtain ⟨k2, s2, ts2⟩ := b
 simp only [encT] at h19a h19b h50 ⊢
 rw [leq F16]
 obtain ⟨hlen, hg⟩ := enter_at (f := f16) (args := [.im (.agg [.int .i64 k1, .sl s1 (encTs ts1)]), .im (.agg [.int .i64 k2, .sl s2 (encTs ts2)])]) (Nat.le_of_ble_eq_true rfl)
 have h0 := hg 0 _ rfl
 have h1 := hg 1 _ rfl
 generalize enterA f16 [.im (.agg [.int .i64 k1, .sl s1 (encTs ts1)]), .im (.agg [.int .i64 k2, .sl s2 (encTs ts2)])] = tm at *
 change tm.length = 18 at hlen
 cases ra with
 | true =>
  cases rb with
  | true =>
   simp only [if_true] at h19a h19b
   simp only [f16,B0,B1,B2,List.replicate,reduceCtorEq,lenA,seval,endK,resA,tupA,hlen,h0,h1,h19a,h19b,h50,leave_app,Bool.true_and]
  | false =>
   simp only [if_true,Bool.false_eq_true,if_false] at h19a h19b
   simp only [f16,B0,B1,B2,List.replicate,reduceCtorEq,lenA,seval,endK,resA,tupA,hlen,h0,h1,h19a,h19b,leave_app,Bool.true_and,Bool.false_and]
 | false =>
  simp only [Bool.false_eq_true,if_false] at h19a
  simp only [f16,B0,B1,B2,List.replicate,reduceCtorEq,lenA,seval,endK,resA,tupA,hlen,h0,h1,h19a,leave_app,Bool.false_and]
end Go.Abs.Seat
end
section
set_option linter.unusedVariables false
set_option linter.unusedSimpArgs false
set_option linter.unusedSectionVars false
namespace Go.Abs.Seat
open Go.Proofs
mutual
theorem clone_ok : ∀ (t : KT), okT t → okT (cloneT t)
 | .mk k s args, h => by
  have hl : (cloneTs args).length = args.length := by rw [cloneTs_map]; simp
  simp only [okT] at h
  simp only [cloneT,okT]
  refine ⟨?_, by omega, clone_oks args h.2.2⟩
  by_cases h0 : args.length = 0
  ·left
   have : (cloneTs args).length = 0 := by omega
   exact List.length_eq_zero_iff.1 this
  ·right; rw [if_neg h0]
theorem clone_oks : ∀ (l : List KT), okTs l → okTs (cloneTs l)
 | [], h => by simp only [cloneTs,okTs]
 | a :: l, h => by
  simp only [okTs] at h
  simp only [cloneTs,okTs]
  exact ⟨clone_ok a h.1, clone_oks l h.2⟩
end
def mkN (op : List UInt8) (i : Int) (txt : List UInt8) (ty : KT) (kids : List NT) : NT := .mk op i txt ty (if kids.length = 0 then 0 else 6) kids
abbrev zO : HO := .obj none [[.im (.str []), .im (.int .i64 0), .im (.str []), .im (.int .i64 0), .nils, .nils]]
section
variable {H : Heap} {ir : Nat} {b : List UInt8}
end
mutual
def slim : KT → Prop
 | .mk _ _ args => args.length ≤ 1000000 ∧ slims args
def slims : List KT → Prop
 | [] => True
 | a :: l => slim a ∧ slims l
end
theorem slims_mem : ∀ {l : List KT}, slims l → ∀ a ∈ l, slim a
 | [], _, a, h => by simp at h
 | b :: l, h, a, hm => by
  simp only [slims] at h
  rcases List.mem_cons.1 hm with rfl | hm
  ·exact h.1
  ·exact slims_mem h.2 a hm
theorem l31 (args : List KT) (s : Nat) (hs : args = [] ∨ s = 2) (hn : args.length ≤ 1000000) (H0 : Heap)
  (hc : ∀ a ∈ args, ∀ H, L 31 [.im (.agg (encT a))] H = some (.im (.agg (encT (cloneT a))), H)) :
  ∀ (m i : Nat), i + m = args.length → ∀ (tm : List AV) (M : Heap) (v : AV), Gath 34 2 H0.length v (H0 ++ M) ((args.take i).map fun a => encT (cloneT a)) → tm.length = 23 → tm.getD 3 undefA = v → tm.getD 7 undefA = .im (.sl s (args.map encT)) → tm.getD 8 undefA = .im (.int .i64 args.length) → tm.getD 9 undefA = .im (.int .i64 i) →
  ∃ e tm' H', Λ c31_0 tm (H0 ++ M) = some (e, tm', H') ∧ tm'.length = 23 ∧ e = .exit 0 ∧ tm'.getD 1 undefA = tm.getD 1 undefA ∧ tm'.getD 2 undefA = tm.getD 2 undefA ∧ ∃ M', H' = H0 ++ M' ∧ Gath 34 2 H0.length (tm'.getD 3 undefA) (H0 ++ M') (args.map fun a => encT (cloneT a))
 | 0, i, hi, tm, M, v, hG, hlen, h3, h7, h8, h9 => by
  have hc : decide ((i : Int) < (args.length : Int)) = false := decide_eq_false (by omega)
  rw [l31_0]
  simp only [b31_0,B0,B2,exec0,xreg,xops,aopc,endK,resA,tupA,List.replicate,binA,isShift,binInt,reduceCtorEq,lenA,seval,hlen,h3,h7,h8,h9,hc]
  have e : args.take i = args := List.take_of_length_le (by omega)
  rw [e] at hG
  exact ⟨_, _, _, rfl, by simp only [List.length_set,hlen], rfl, by simp only [B3,seval,hlen], by simp only [B3,seval,hlen], M, rfl, by simp only [B3,seval,hlen,h3]; exact hG⟩
 | m + 1, i, hi, tm, M, v, hG, hlen, h3, h7, h8, h9 => by
  have hlt : i < args.length := by omega
  obtain ⟨w, hwi⟩ : ∃ w, args[i]? = some w := ⟨_, List.getElem?_eq_getElem hlt⟩
  have hs2 : s = 2 := by
   rcases hs with hs | hs
   ·subst hs; simp at hlt
   ·exact hs
  subst hs2
  have hc' : decide ((i : Int) < (args.length : Int)) = true := decide_eq_true (by omega)
  have hix := idx_nat (n := (args.map encT).length) (i := i) (by simpa using hlt)
  have hgw : (args.map encT)[i]? = some (encT w) := by rw [List.getElem?_map, hwi]; rfl
  have hcall := hc w (List.mem_of_getElem? hwi)
  have hwr := wrap_nat (i := i) (by omega)
  have key := l31 args 2 hs hn H0 hc m (i + 1) (by omega)
  have hG2 := hG.more [.obj none [(encT w).map .im]]
  rw [List.append_assoc] at hG2
  obtain ⟨v', M', hap, hG', hok, _⟩ := hG2.push (bytes := 32) (encT (cloneT w)) (by simp; omega) (by decide)
  have htk : (args.take (i + 1)).map (fun a => encT (cloneT a)) = (args.take i).map (fun a => encT (cloneT a)) ++ [encT (cloneT w)] := by
   rw [List.take_add_one, hwi]; simp
  rw [← htk] at hG'
  have hset0 : ∀ o o' : HO, (H0 ++ (M ++ [o])).set (H0.length + M.length) o' = H0 ++ (M ++ [o']) := fun o o' => by
   rw [← List.append_assoc, ← List.append_assoc, ← List.length_append, Go.Abs.hset0]; rfl
  have hgetA : ∀ o, (H0 ++ (M ++ [o]))[H0.length + M.length]? = some o := fun o => by
   rw [← List.append_assoc, ← List.length_append, Go.Abs.hget0]; rfl
  rw [l31_0]
  generalize hcw : cloneT w = cw at *
  obtain ⟨k, s', ts⟩ := w
  obtain ⟨k2, s2, ts2⟩ := cw
  simp only [encT,List.map_cons,List.map_nil] at hcall hgw hap
  simp only [b31_0,B0,B2,exec0,xreg,xops,aopc,endK,resA,tupA,List.replicate,binA,isShift,binInt,reduceCtorEq,lenA,seval,hlen,h3,h7,h8,h9,hc',hix,hgw,hcall,hwr,hgetA,hset0,toDatss,toDats,toDat,elems,hap]
  refine ex_imp (key _ M' v' hG' ?_ ?_ ?_ ?_ ?_) ?_
  iterate 5 simp only [B3,seval,hlen,h3,h7,h8,h9]
  rintro e tm' H' ⟨hl', he, g1, g2, hM⟩
  refine ⟨hl', he, ?_, ?_, hM⟩
  ·rw [g1]; simp only [B3,seval,hlen]
  ·rw [g2]; simp only [B3,seval,hlen]
theorem s31 : ∀ (t : KT), okT t → slim t → ∀ H, L 31 [.im (.agg (encT t))] H = some (.im (.agg (encT (cloneT t))), H)
 | .mk k s args, hok, hnw, H => by
  simp only [okT] at hok
  obtain ⟨hs, _, hoks⟩ := hok
  simp only [slim] at hnw
  obtain ⟨hn, hnws⟩ := hnw
  have hc : ∀ a ∈ args, ∀ H, L 31 [.im (.agg (encT a))] H = some (.im (.agg (encT (cloneT a))), H) := fun a ha H => s31 a (okTs_mem hoks a ha) (slims_mem hnws a ha) H
  have key := l31 args s hs (by omega) (H ++ [.obj none [[.im (.int .i64 k), .im (.sl s (encTs args))]], .obj none [[.im (.int .i64 0), .nils]]]) hc args.length 0 (by omega)
  have z : ((0 : Nat) : Int) = 0 := rfl
  simp only [z] at key
  have hel : (encTs args).length = args.length := by rw [encTs_map]; simp
  simp only [encT]
  rw [leq F31]
  obtain ⟨hlen, ha⟩ := enter_at (f := f31) (args := [.im (.agg [.int .i64 k, .sl s (encTs args)])]) (Nat.le_of_ble_eq_true rfl)
  have h0 := ha 0 _ rfl
  generalize enterA f31 [.im (.agg [.int .i64 k, .sl s (encTs args)])] = tm at *
  change tm.length = 23 at hlen
  simp only [f31,e31_0,B0,B2,exec0,xreg,xops,aopc,endK,resA,tupA,List.replicate,binA,isShift,binInt,reduceCtorEq,lenA,seval,hlen,h0,hel]
  have key := fun tm => key tm [] .nils (.inl ⟨rfl, rfl⟩)
  simp only [List.append_nil] at key
  refine thenL_of (key _ ?_ ?_ ?_ ?_ ?_) ?_
  iterate 5 simp only [B3,seval,hlen,h0,encTs_map]
  rintro e tm' H' ⟨hl', rfl, g1, g2, M, rfl, hG⟩
  simp only [B3,seval,hlen] at g1 g2
  have hm : encTs (cloneTs args) = args.map fun a => encT (cloneT a) := by rw [encTs_map, cloneTs_map, List.map_map]; rfl
  rcases hG with ⟨hes, hv⟩ | ⟨hes, tok, _, hv, _⟩
  ·have ha0 : args = [] := by simpa using hes
   have e1 : toDat (.agg [.im (.int .i64 k), .nils]) = some (.agg (encT (cloneT (.mk k s args)))) := by
    simp [toDat, toDats, cloneT, encT, ha0, encTs, cloneTs]
   have hlv := fun L' => leave_one (H := H) (M := L') e1
   simp only [cloneT,encT] at hlv ⊢
   simp only [B0,B2,exec0,xreg,xops,aopc,endK,resA,tupA,List.replicate,binA,isShift,binInt,reduceCtorEq,lenA,seval,hl',g1,g2,hv,toDatss,toDats,toDat,hlv]
  ·have ha0 : args.length ≠ 0 := by simpa using hes
   have e1 : toDat (.agg [.im (.int .i64 k), .asl 2 (args.map fun a => encT (cloneT a)) tok]) = some (.agg (encT (cloneT (.mk k s args)))) := by
    simp only [toDat,toDats,cloneT,encT,if_neg ha0,hm]
   have hlv := fun L' => leave_one (H := H) (M := L') e1
   simp only [cloneT,encT] at hlv ⊢
   simp only [B0,B2,exec0,xreg,xops,aopc,endK,resA,tupA,List.replicate,binA,isShift,binInt,reduceCtorEq,lenA,seval,hl',g1,g2,hv,toDatss,toDats,toDat,hlv]
termination_by t => SizeOf.sizeOf t
decreasing_by
 have := List.sizeOf_lt_of_mem ha
 simp only [KT.mk.sizeOf_spec]
 omega
def goodT (t : KT) : Prop := okT t ∧ slim t
mutual
def okN : NT → Prop
 | .mk _ _ _ ty s kids => (kids = [] ∨ s = 6) ∧ kids.length ≤ 1000000 ∧ goodT ty ∧ okNs kids
def okNs : List NT → Prop
 | [] => True
 | a :: l => okN a ∧ okNs l
end
theorem okNs_mem : ∀ {l : List NT}, okNs l → ∀ a ∈ l, okN a
 | [], _, a, ha => by simp at ha
 | x :: l, h, a, ha => by
  simp only [okNs] at h
  rcases List.mem_cons.1 ha with rfl | ha
  ·exact h.1
  ·exact okNs_mem h.2 a ha
mutual
def cloneN : NT → NT
 | .mk op i txt ty _ kids => mkN op i txt (cloneT ty) (cloneNs kids)
def cloneNs : List NT → List NT
 | [] => []
 | a :: l => cloneN a :: cloneNs l
end
theorem cloneNs_map : ∀ l : List NT, cloneNs l = l.map cloneN
 | [] => rfl
 | a :: l => by simp only [cloneNs,List.map_cons,cloneNs_map l]
theorem l11 (args : List NT) (s : Nat) (hs : args = [] ∨ s = 6) (hn : args.length ≤ 1000000) (H0 : Heap)
  (hc : ∀ a ∈ args, ∀ H, L 11 [.im (.agg (encN a))] H = some (.im (.agg (encN (cloneN a))), H)) :
  ∀ (m i : Nat), i + m = args.length → ∀ (tm : List AV) (M : Heap) (v : AV), Gath 41 6 H0.length v (H0 ++ M) ((args.take i).map fun a => encN (cloneN a)) → tm.length = 30 → tm.getD 3 undefA = v → tm.getD 7 undefA = .im (.sl s (args.map encN)) → tm.getD 8 undefA = .im (.int .i64 args.length) → tm.getD 9 undefA = .im (.int .i64 i) →
  ∃ e tm' H', Λ c11_0 tm (H0 ++ M) = some (e, tm', H') ∧ tm'.length = 30 ∧ e = .exit 0 ∧ tm'.getD 1 undefA = tm.getD 1 undefA ∧ tm'.getD 2 undefA = tm.getD 2 undefA ∧ ∃ M', H' = H0 ++ M' ∧ Gath 41 6 H0.length (tm'.getD 3 undefA) (H0 ++ M') (args.map fun a => encN (cloneN a))
 | 0, i, hi, tm, M, v, hG, hlen, h3, h7, h8, h9 => by
  have hc : decide ((i : Int) < (args.length : Int)) = false := decide_eq_false (by omega)
  rw [l11_0]
  simp only [b11_0,B0,B1,B2,List.replicate,reduceCtorEq,lenA,seval,hlen,h3,h7,h8,h9,hc]
  have e : args.take i = args := List.take_of_length_le (by omega)
  rw [e] at hG
  exact ⟨_, _, _, rfl, by simp only [List.length_set,hlen], rfl, by simp only [B3,seval,hlen], by simp only [B3,seval,hlen], M, rfl, by simp only [B3,seval,hlen,h3]; exact hG⟩
 | m + 1, i, hi, tm, M, v, hG, hlen, h3, h7, h8, h9 => by
  have hlt : i < args.length := by omega
  obtain ⟨w, hwi⟩ : ∃ w, args[i]? = some w := ⟨_, List.getElem?_eq_getElem hlt⟩
  have hs2 : s = 6 := by
   rcases hs with hs | hs
   ·subst hs; simp at hlt
   ·exact hs
  subst hs2
  have hc' : decide ((i : Int) < (args.length : Int)) = true := decide_eq_true (by omega)
  have hix := idx_nat (n := (args.map encN).length) (i := i) (by simpa using hlt)
  have hgw : (args.map encN)[i]? = some (encN w) := by rw [List.getElem?_map, hwi]; rfl
  have hcall := hc w (List.mem_of_getElem? hwi)
  have hwr := wrap_nat (i := i) (by omega)
  have key := l11 args 6 hs hn H0 hc m (i + 1) (by omega)
  have hG2 := hG.more [.obj none [(encN w).map .im]]
  rw [List.append_assoc] at hG2
  obtain ⟨v', M', hap, hG', hok, _⟩ := hG2.push (bytes := 96) (encN (cloneN w)) (by simp; omega) (by decide)
  have htk : (args.take (i + 1)).map (fun a => encN (cloneN a)) = (args.take i).map (fun a => encN (cloneN a)) ++ [encN (cloneN w)] := by
   rw [List.take_add_one, hwi]; simp
  rw [← htk] at hG'
  have hset0 : ∀ o o' : HO, (H0 ++ (M ++ [o])).set (H0.length + M.length) o' = H0 ++ (M ++ [o']) := fun o o' => by
   rw [← List.append_assoc, ← List.append_assoc, ← List.length_append, Go.Abs.hset0]; rfl
  have hgetA : ∀ o, (H0 ++ (M ++ [o]))[H0.length + M.length]? = some o := fun o => by
   rw [← List.append_assoc, ← List.length_append, Go.Abs.hget0]; rfl
  rw [l11_0]
  generalize hcw : cloneN w = cw at *
  obtain ⟨op, ni, txt, ty, s', ts⟩ := w
  obtain ⟨tk, tts, targs⟩ := ty
  obtain ⟨op2, ni2, txt2, ty2, s2, ts2⟩ := cw
  obtain ⟨tk2, tts2, targs2⟩ := ty2
  simp only [encN,List.map_cons,List.map_nil] at hcall hgw hap
  simp only [b11_0,B0,B1,B2,List.replicate,reduceCtorEq,lenA,seval,hlen,h3,h7,h8,h9,hc',hix,hgw,hcall,hwr,hgetA,hset0,toDatss,toDats,toDat,elems,hap]
  refine ex_imp (key _ M' v' hG' ?_ ?_ ?_ ?_ ?_) ?_
  iterate 5 simp only [B3,seval,hlen,h3,h7,h8,h9]
  rintro e tm' H' ⟨hl', he, g1, g2, hM⟩
  refine ⟨hl', he, ?_, ?_, hM⟩
  ·rw [g1]; simp only [B3,seval,hlen]
  ·rw [g2]; simp only [B3,seval,hlen]
theorem s11 : ∀ (t : NT), okN t → ∀ H, L 11 [.im (.agg (encN t))] H = some (.im (.agg (encN (cloneN t))), H)
 | .mk op ni txt (.mk tk tts targs) s args, hok, H => by
  simp only [okN] at hok
  obtain ⟨hs, hn, hgt, hoks⟩ := hok
  have hc : ∀ a ∈ args, ∀ H, L 11 [.im (.agg (encN a))] H = some (.im (.agg (encN (cloneN a))), H) := fun a ha H => s11 a (okNs_mem hoks a ha) H
  have ct := fun H => s31 (.mk tk tts targs) hgt.1 hgt.2 H
  have key := l11 args s hs hn (H ++ [.obj none [[.im (.str op), .im (.int .i64 ni), .im (.str txt), .im (.int .i64 tk), .im (.sl tts (encTs targs)), .im (.sl s (encNs args))]], zO]) hc args.length 0 (by omega)
  simp only [zc0,zO] at key
  have hel : (encNs args).length = args.length := by rw [encNs_map]; simp
  have hcl : cloneN (.mk op ni txt (.mk tk tts targs) s args) = mkN op ni txt (cloneT (.mk tk tts targs)) (cloneNs args) := by simp only [cloneN]
  have hcll : (cloneNs args).length = args.length := by rw [cloneNs_map]; simp
  rw [hcl]
  simp only [encN]
  rw [leq F11]
  obtain ⟨hlen, ha⟩ := enter_at (f := f11) (args := [.im (.agg [.str op, .int .i64 ni, .str txt, .int .i64 tk, .sl tts (encTs targs), .sl s (encNs args)])]) (Nat.le_of_ble_eq_true rfl)
  have h0 := ha 0 _ rfl
  generalize enterA f11 [.im (.agg [.str op, .int .i64 ni, .str txt, .int .i64 tk, .sl tts (encTs targs), .sl s (encNs args)])] = tm at *
  change tm.length = 30 at hlen
  generalize hct : cloneT (.mk tk tts targs) = tc at *
  obtain ⟨k2, s2, a2⟩ := tc
  simp only [encT] at ct
  simp only [f11,e11_0,B0,B1,B2,List.replicate,reduceCtorEq,lenA,seval,hlen,h0,hel]
  have key := fun tm => key tm [] .nils (.inl ⟨rfl, rfl⟩)
  simp only [List.append_nil] at key
  generalize hr : thenL (Λ c11_0 _ _) _ = r
  refine Exists.elim (thenL_inv hr (key _ ?_ ?_ ?_ ?_ ?_)) ?_
  iterate 5 simp only [B3,seval,hlen,h0,encNs_map]
  clear hr key
  rintro e ⟨tm', H', ⟨hl', rfl, g1, g2, M, rfl, hG⟩, rfl⟩
  simp only [B3,seval,hlen] at g1 g2
  have hm : encNs (cloneNs args) = args.map fun a => encN (cloneN a) := by rw [encNs_map, cloneNs_map, List.map_map]; rfl
  have hget1 : ∀ M : Heap, (H ++ M)[H.length + 1]? = M[1]? := fun M => by rw [hget]
  rcases hG with ⟨hes, hv⟩ | ⟨hes, tok, _, hv, _⟩
  ·have ha0 : args = [] := by simpa using hes
   have e1 : toDat (.agg [.im (.str op), .im (.int .i64 ni), .im (.str txt), .im (.int .i64 k2), .im (.sl s2 (encTs a2)), .nils]) = some (.agg (encN (mkN op ni txt (.mk k2 s2 a2) (cloneNs args)))) := by
    simp [toDat, toDats, mkN, encN, ha0, encNs, cloneNs]
   have hlv := fun L' => leave_one (H := H) (M := L') e1
   simp only [B0,B1,B2,List.replicate,reduceCtorEq,lenA,seval,B5,pairK,B4,stays,loadOf,endK,resA,tupA,hl',g1,g2,hv,ct,hlv]
  ·have ha0 : (cloneNs args).length ≠ 0 := by rw [hcll]; simpa using hes
   have e1 : toDat (.agg [.im (.str op), .im (.int .i64 ni), .im (.str txt), .im (.int .i64 k2), .im (.sl s2 (encTs a2)), .asl 6 (args.map fun a => encN (cloneN a)) tok]) = some (.agg (encN (mkN op ni txt (.mk k2 s2 a2) (cloneNs args)))) := by
    simp only [toDat,toDats,mkN,encN,if_neg ha0,hm]
   have hlv := fun L' => leave_one (H := H) (M := L') e1
   simp only [B0,B1,B2,List.replicate,reduceCtorEq,lenA,seval,B5,pairK,B4,stays,loadOf,endK,resA,tupA,hl',g1,g2,hv,ct,hlv]
termination_by t => SizeOf.sizeOf t
decreasing_by
 have := List.sizeOf_lt_of_mem ha
 simp only [NT.mk.sizeOf_spec]
 omega
mutual
def smallT : KT → Int → Int → Bool × Int
 | .mk _ _ args, left, d => if left - 1 < 0 ∨ d = 0 then (false, left - 1) else smallTs args (left - 1) (d - 1)
def smallTs : List KT → Int → Int → Bool × Int
 | [], left, _ => (true, left)
 | a :: l, left, d => if (smallT a left d).1 = true then smallTs l (smallT a left d).2 d else (false, (smallT a left d).2)
end
mutual
theorem smallT_left : ∀ (t : KT) (left d : Int), 0 ≤ left → -1 ≤ (smallT t left d).2 ∧ (smallT t left d).2 ≤ left ∧ ((smallT t left d).1 = true → 0 ≤ (smallT t left d).2)
 | .mk _ _ args, left, d, h => by
  simp only [smallT]
  split
  ·refine ⟨by simp only; omega, by simp only; omega, by simp⟩
  ·have := smallTs_left args (left - 1) (d - 1) (by omega)
   exact ⟨this.1, by omega, this.2.2⟩
theorem smallTs_left : ∀ (l : List KT) (left d : Int), 0 ≤ left → -1 ≤ (smallTs l left d).2 ∧ (smallTs l left d).2 ≤ left ∧ ((smallTs l left d).1 = true → 0 ≤ (smallTs l left d).2)
 | [], left, d, h => by
  simp only [smallTs]
  exact ⟨by omega, by omega, fun _ => h⟩
 | a :: l, left, d, h => by
  have h1 := smallT_left a left d h
  simp only [smallTs]
  split
  ·rename_i hb
   have h2 := smallTs_left l (smallT a left d).2 d (h1.2.2 hb)
   exact ⟨h2.1, by omega, h2.2.2⟩
  ·exact ⟨h1.1, h1.2.1, by simp⟩
end
def numO (n : Int) : HO := .obj none [[.im (.int .i64 n)]]
theorem l26 (args : List KT) (s : Nat) (hs : args = [] ∨ s = 2) (hn : args.length ≤ 9223372036854775807) (d : Int) (hd : 1 ≤ d ∧ d ≤ 1000) (idl : Nat) (H0 : Heap) (hid : idl < H0.length)
  (hc : ∀ a ∈ args, ∀ (n : Int), 0 ≤ n → n ≤ 1000000 → ∀ (H : Heap), H[idl]? = some (numO n) → L 26 [.im (.agg (encT a)), .ptr idl 0 0, .im (.int .i64 (d - 1))] H = some (.im (.bool (smallT a n (d - 1)).1), H.set idl (numO (smallT a n (d - 1)).2))) :
  ∀ (m i : Nat), i + m = args.length → ∀ (tm : List AV) (M : Heap) (n : Int), 0 ≤ n → n ≤ 1000000 → tm.length = 36 → tm.getD 1 undefA = .ptr idl 0 0 → tm.getD 2 undefA = .im (.int .i64 d) → tm.getD 23 undefA = .im (.sl s (args.map encT)) → tm.getD 24 undefA = .im (.int .i64 args.length) → tm.getD 25 undefA = .im (.int .i64 i) →
  ∃ e tm' H', Λ c26_0 tm (H0.set idl (numO n) ++ M) = some (e, tm', H') ∧ tm'.length = 36 ∧ (∃ M', H' = H0.set idl (numO (smallTs (args.drop i) n (d - 1)).2) ++ M') ∧
   if (smallTs (args.drop i) n (d - 1)).1 = true then e = .exit 0 else e = .ret ∧ tm'.getD 6 undefA = .im (.bool false)
 | 0, i, hi, tm, M, n, hn0, hn1, hlen, h1, h2, h23, h24, h25 => by
  have e : args.drop i = [] := by rw [List.drop_eq_nil_iff]; omega
  have hc : decide ((i : Int) < (args.length : Int)) = false := decide_eq_false (by omega)
  rw [l26_0, e]
  simp only [smallTs,if_true]
  simp only [b26_0,B0,B2,exec0,xreg,xops,aopc,endK,resA,tupA,List.replicate,binA,isShift,binInt,reduceCtorEq,lenA,seval,hlen,h1,h2,h23,h24,h25,hc]
  exact ⟨_, _, _, rfl, by simp only [List.length_set,hlen], ⟨_, rfl⟩, rfl⟩
 | m + 1, i, hi, tm, M, n, hn0, hn1, hlen, h1, h2, h23, h24, h25 => by
  have hlt : i < args.length := by omega
  obtain ⟨w, hwi⟩ : ∃ w, args[i]? = some w := ⟨_, List.getElem?_eq_getElem hlt⟩
  have e : args.drop i = w :: args.drop (i + 1) := by
   rw [List.drop_eq_getElem_cons hlt]
   congr 1
   rw [List.getElem?_eq_getElem hlt] at hwi
   exact Option.some.inj hwi
  have hs2 : s = 2 := by
   rcases hs with hs | hs
   ·subst hs; simp at hlt
   ·exact hs
  subst hs2
  have hc' : decide ((i : Int) < (args.length : Int)) = true := decide_eq_true (by omega)
  have hix := idx_nat (n := (args.map encT).length) (i := i) (by simpa using hlt)
  have hgw : (args.map encT)[i]? = some (encT w) := by rw [List.getElem?_map, hwi]; rfl
  have hcall := hc w (List.mem_of_getElem? hwi) n hn0 hn1 (H0.set idl (numO n) ++ (M ++ [.obj none [(encT w).map .im]])) (by rw [get_app (by simpa using hid), List.getElem?_set_self hid])
  rw [set_app (by simpa using hid), List.set_set] at hcall
  have hsl := smallT_left w n (d - 1) hn0
  have hwr := wrap_nat (i := i) (by omega)
  have hwd := wrap_small (d - 1) (by omega)
  have key := l26 args 2 hs hn d hd idl H0 hid hc m (i + 1) (by omega)
  rw [l26_0, e]
  simp only [smallTs]
  have hset0 : ∀ o o' : HO, (H0.set idl (numO n) ++ (M ++ [o])).set ((H0.set idl (numO n)).length + M.length) o' = H0.set idl (numO n) ++ (M ++ [o']) := fun o o' => by
   rw [← List.append_assoc, ← List.append_assoc, ← List.length_append, Go.Abs.hset0]; rfl
  have hgetA : ∀ o, (H0.set idl (numO n) ++ (M ++ [o]))[(H0.set idl (numO n)).length + M.length]? = some o := fun o => by
   rw [← List.append_assoc, ← List.length_append, Go.Abs.hget0]; rfl
  rw [List.length_set] at hset0 hgetA
  rcases Bool.eq_false_or_eq_true (smallT w n (d - 1)).1 with hb | hb
  ·simp only [hb,if_true] at hcall hsl ⊢
   generalize (smallT w n (d - 1)).2 = n' at *
   obtain ⟨k, s', ts⟩ := w
   simp only [encT,List.map_cons,List.map_nil] at hcall hgw
   simp only [b26_0,B0,B2,exec0,xreg,xops,aopc,endK,resA,tupA,List.replicate,binA,isShift,binInt,reduceCtorEq,lenA,seval,hlen,h1,h2,h23,h24,h25,hc',hix,hgw,hcall,hwr,hwd,hgetA,hset0]
   refine ex_imp (key _ _ n' (by have := hsl.2.2 trivial; omega) (by omega) ?_ ?_ ?_ ?_ ?_ ?_) ?_
   iterate 6 simp only [B3,seval,hlen,h1,h2,h23,h24,h25]
   exact fun e tm' H' h => h
  ·simp only [hb,Bool.false_eq_true,if_false] at hcall hsl ⊢
   generalize (smallT w n (d - 1)).2 = n' at *
   obtain ⟨k, s', ts⟩ := w
   simp only [encT,List.map_cons,List.map_nil] at hcall hgw
   simp only [b26_0,B0,B2,exec0,xreg,xops,aopc,endK,resA,tupA,List.replicate,binA,isShift,binInt,reduceCtorEq,lenA,seval,hlen,h1,h2,h23,h24,h25,hc',hix,hgw,hcall,hwr,hwd,hgetA,hset0]
   exact ⟨_, _, _, rfl, by simp only [List.length_set,hlen], ⟨_, rfl⟩, rfl, by simp only [B3,seval,hlen]⟩
theorem s26 : ∀ (t : KT), okT t → ∀ (n d : Int), 0 ≤ n → n ≤ 1000000 → 0 ≤ d → d ≤ 1000 → ∀ (idl : Nat) (H : Heap), H[idl]? = some (numO n) →
  L 26 [.im (.agg (encT t)), .ptr idl 0 0, .im (.int .i64 d)] H = some (.im (.bool (smallT t n d).1), H.set idl (numO (smallT t n d).2))
 | .mk k s args, hok, n, d, hn0, hn1, hd0, hd1, idl, H, hid => by
  simp only [okT] at hok
  obtain ⟨hs, hn, hoks⟩ := hok
  have hlt := (List.getElem?_eq_some_iff.1 hid).1
  have hgl : ∀ M : Heap, (H ++ M)[idl]? = some (numO n) := fun M => by rw [get_app hlt]; exact hid
  have hsl : ∀ (M : Heap) o, (H ++ M).set idl o = H.set idl o ++ M := fun M o => set_app hlt
  have hgs : ∀ (M : Heap) o, (H.set idl o ++ M)[idl]? = some o := fun M o => by rw [get_app (by simpa using hlt), List.getElem?_set_self hlt]
  have hgt : ∀ (o x : HO), (H.set idl o ++ [x])[H.length]? = some x := fun o x => by
   have := Go.Abs.hget0 (H := H.set idl o) (l := [x])
   rwa [List.length_set] at this
  have hel : (encTs args).length = args.length := by rw [encTs_map]; simp
  have hwn := wrap_small (n - 1) (by omega)
  have key := fun (hd : 1 ≤ d) => l26 args s hs hn d ⟨hd, hd1⟩ idl H hlt (fun a ha n hn0 hn1 H' hH' => s26 a (okTs_mem hoks a ha) n (d - 1) hn0 hn1 (by omega) (by omega) idl H' hH') args.length 0 (by omega)
  have z : ((0 : Nat) : Int) = 0 := rfl
  simp only [List.drop_zero,z] at key
  simp only [encT]
  rw [leq F26]
  obtain ⟨hlen, ha⟩ := enter_at (f := f26) (args := [.im (.agg [.int .i64 k, .sl s (encTs args)]), .ptr idl 0 0, .im (.int .i64 d)]) (Nat.le_of_ble_eq_true rfl)
  have h0 := ha 0 _ rfl
  have h1 := ha 1 _ rfl
  have h2 := ha 2 _ rfl
  generalize enterA f26 [.im (.agg [.int .i64 k, .sl s (encTs args)]), .ptr idl 0 0, .im (.int .i64 d)] = tm at *
  change tm.length = 36 at hlen
  have hlv : ∀ (b : Bool) (M : Heap) (v : Int), leave H false (.im (.bool b)) (H.set idl (.obj none [[.im (.int .i64 v)]]) ++ M) = (.im (.bool b), H.set idl (.obj none [[.im (.int .i64 v)]])) := fun b M v => leave_set
  simp only [numO] at hgl hlv hgs
  by_cases hn2 : n - 1 < 0
  ·have e1 : decide (n - 1 < 0) = true := decide_eq_true hn2
   simp only [smallT,hn2,true_or,if_true]
   simp only [f26,e26_0,B0,B2,exec0,xreg,xops,aopc,endK,resA,tupA,List.replicate,binA,isShift,binInt,reduceCtorEq,lenA,seval,hlen,h0,h1,h2,hel,hgl,hsl,hgs,hwn,e1,hlv,numO]
  ·have e1 : decide (n - 1 < 0) = false := decide_eq_false hn2
   by_cases hd2 : d = 0
   ·have e2 : decide (d = 0) = true := decide_eq_true hd2
    simp only [smallT,hn2,hd2,or_true,if_true]
    subst hd2
    simp only [f26,e26_0,B0,B2,exec0,xreg,xops,aopc,endK,resA,tupA,List.replicate,binA,isShift,binInt,reduceCtorEq,lenA,seval,hlen,h0,h1,h2,hel,hgl,hsl,hgs,hwn,e1,hlv,numO]
   ·have e2 : decide (d = 0) = false := decide_eq_false hd2
    simp only [smallT,hn2,hd2,or_self,if_false]
    simp only [f26,e26_0,B0,B2,exec0,xreg,xops,aopc,endK,resA,tupA,List.replicate,binA,isShift,binInt,reduceCtorEq,lenA,seval,hlen,h0,h1,h2,hel,hgl,hsl,hgs,hgt,hwn,e1,e2]
    have key := key (by omega)
    simp only [numO] at key
    refine thenL_of (key _ _ (n - 1) (by omega) (by omega) ?_ ?_ ?_ ?_ ?_ ?_) ?_
    iterate 6 simp only [B3,seval,hlen,h0,h1,h2,encTs_map]
    rintro e tm' H' ⟨hl', ⟨M, rfl⟩, hb⟩
    rcases Bool.eq_false_or_eq_true (smallTs args (n - 1) (d - 1)).1 with hq | hq
    ·simp only [hq,if_true] at hb
     subst hb
     simp only [B0,B2,exec0,xreg,xops,aopc,endK,resA,tupA,List.replicate,binA,isShift,binInt,reduceCtorEq,lenA,seval,hl',hlv,numO,hq]
    ·simp only [hq,Bool.false_eq_true,if_false] at hb
     obtain ⟨rfl, h6⟩ := hb
     simp only [B0,B2,exec0,xreg,xops,aopc,endK,resA,tupA,List.replicate,binA,isShift,binInt,reduceCtorEq,lenA,seval,hl',h6,hlv,numO,hq]
termination_by t => SizeOf.sizeOf t
decreasing_by
 have := List.sizeOf_lt_of_mem ha
 simp only [KT.mk.sizeOf_spec]
 omega
mutual
def handN : NT → Prop
 | .mk op i txt ty s kids => (-9223372036854775808 ≤ i ∧ i ≤ 9223372036854775807) ∧ (kids = [] ∨ s = 6) ∧ kids.length ≤ 9223372036854775807 ∧ okT ty ∧ handNs kids
def handNs : List NT → Prop
 | [] => True
 | a :: l => handN a ∧ handNs l
end
theorem handNs_mem : ∀ {l : List NT}, handNs l → ∀ a ∈ l, handN a
 | [], _, a, ha => by simp at ha
 | x :: l, h, a, ha => by
  simp only [handNs] at h
  rcases List.mem_cons.1 ha with rfl | ha
  ·exact h.1
  ·exact handNs_mem h.2 a ha
mutual
def fewN : NT → Int → Int → Bool × Int
 | .mk op _ txt ty _ kids, left, d =>
  if left - 1 < 0 ∨ d = 0 ∨ (10000 : Int) < (txt.length : Int) ∨ (100 : Int) < (op.length : Int) then (false, left - 1)
  else if (smallT ty (left - 1) 30).1 = true then fewNs kids (smallT ty (left - 1) 30).2 (d - 1) else (false, (smallT ty (left - 1) 30).2)
def fewNs : List NT → Int → Int → Bool × Int
 | [], left, _ => (true, left)
 | a :: l, left, d => if (fewN a left d).1 = true then fewNs l (fewN a left d).2 d else (false, (fewN a left d).2)
end
mutual
theorem fewN_left : ∀ (t : NT) (left d : Int), 0 ≤ left → -1 ≤ (fewN t left d).2 ∧ (fewN t left d).2 ≤ left ∧ ((fewN t left d).1 = true → 0 ≤ (fewN t left d).2)
 | .mk op _ txt ty _ kids, left, d, h => by
  simp only [fewN]
  split
  ·refine ⟨by simp only; omega, by simp only; omega, by simp⟩
  ·have h1 := smallT_left ty (left - 1) 30 (by omega)
   split
   ·rename_i hb
    have h2 := fewNs_left kids (smallT ty (left - 1) 30).2 (d - 1) (h1.2.2 hb)
    exact ⟨h2.1, by omega, h2.2.2⟩
   ·exact ⟨h1.1, by simp only; omega, by simp⟩
theorem fewNs_left : ∀ (l : List NT) (left d : Int), 0 ≤ left → -1 ≤ (fewNs l left d).2 ∧ (fewNs l left d).2 ≤ left ∧ ((fewNs l left d).1 = true → 0 ≤ (fewNs l left d).2)
 | [], left, d, h => by
  simp only [fewNs]
  exact ⟨by omega, by omega, fun _ => h⟩
 | a :: l, left, d, h => by
  have h1 := fewN_left a left d h
  simp only [fewNs]
  split
  ·rename_i hb
   have h2 := fewNs_left l (fewN a left d).2 d (h1.2.2 hb)
   exact ⟨h2.1, by omega, h2.2.2⟩
  ·exact ⟨h1.1, h1.2.1, by simp⟩
end
theorem l25 (kids : List NT) (s : Nat) (hs : kids = [] ∨ s = 6) (hn : kids.length ≤ 9223372036854775807) (d : Int) (hd : 1 ≤ d ∧ d ≤ 1000) (idl : Nat) (H0 : Heap) (hid : idl < H0.length)
  (hc : ∀ a ∈ kids, ∀ (n : Int), 0 ≤ n → n ≤ 1000000 → ∀ (H : Heap), H[idl]? = some (numO n) → L 25 [.im (.agg (encN a)), .ptr idl 0 0, .im (.int .i64 (d - 1))] H = some (.im (.bool (fewN a n (d - 1)).1), H.set idl (numO (fewN a n (d - 1)).2))) :
  ∀ (m i : Nat), i + m = kids.length → ∀ (tm : List AV) (M : Heap) (n : Int), 0 ≤ n → n ≤ 1000000 → tm.length = 55 → tm.getD 1 undefA = .ptr idl 0 0 → tm.getD 2 undefA = .im (.int .i64 d) → tm.getD 42 undefA = .im (.sl s (encNs kids)) → tm.getD 43 undefA = .im (.int .i64 kids.length) → tm.getD 44 undefA = .im (.int .i64 i) →
  ∃ e tm' H', Λ c25_0 tm (H0.set idl (numO n) ++ M) = some (e, tm', H') ∧ tm'.length = 55 ∧ (∃ M', H' = H0.set idl (numO (fewNs (kids.drop i) n (d - 1)).2) ++ M') ∧
   if (fewNs (kids.drop i) n (d - 1)).1 = true then e = .exit 0 else e = .ret ∧ tm'.getD 6 undefA = .im (.bool false)
 | 0, i, hi, tm, M, n, hn0, hn1, hlen, h1, h2, h23, h24, h25 => by
  have e : kids.drop i = [] := by rw [List.drop_eq_nil_iff]; omega
  have hc : decide ((i : Int) < (kids.length : Int)) = false := decide_eq_false (by omega)
  rw [l25_0, e]
  simp only [fewNs,if_true]
  simp only [b25_0,B0,B1,B2,List.replicate,reduceCtorEq,lenA,seval,hlen,h1,h2,h23,h24,h25,hc]
  exact ⟨_, _, _, rfl, by simp only [List.length_set,hlen], ⟨_, rfl⟩, rfl⟩
 | m + 1, i, hi, tm, M, n, hn0, hn1, hlen, h1, h2, h23, h24, h25 => by
  have hlt : i < kids.length := by omega
  have e : kids.drop i = kids[i] :: kids.drop (i + 1) := List.drop_eq_getElem_cons hlt
  have hwi : kids[i]? = some kids[i] := List.getElem?_eq_getElem hlt
  generalize kids[i] = w at e hwi
  have hs6 : s = 6 := by
   rcases hs with hs | hs
   ·rw [hs] at hlt; simp at hlt
   ·exact hs
  subst hs6
  have hc' : decide ((i : Int) < (kids.length : Int)) = true := decide_eq_true (by omega)
  have hix := idx_nat (n := (encNs kids).length) (i := i) (by rw [encNs_map]; simpa using hlt)
  have hgw := encNs_at hwi
  have hcall := hc w (List.mem_of_getElem? hwi) n hn0 hn1 (H0.set idl (numO n) ++ (M ++ [.obj none [(encN w).map .im]])) (by rw [get_app (by simpa using hid), List.getElem?_set_self hid])
  rw [set_app (by simpa using hid), List.set_set] at hcall
  have hsl := fewN_left w n (d - 1) hn0
  have hwr := wrap_nat (i := i) (by omega)
  have hwd := wrap_small (d - 1) (by omega)
  have key := l25 kids 6 hs hn d hd idl H0 hid hc m (i + 1) (by omega)
  rw [l25_0, e]
  simp only [fewNs]
  have hset0 : ∀ o o' : HO, (H0.set idl (numO n) ++ (M ++ [o])).set ((H0.set idl (numO n)).length + M.length) o' = H0.set idl (numO n) ++ (M ++ [o']) := fun o o' => by
   rw [← List.append_assoc, ← List.append_assoc, ← List.length_append, Go.Abs.hset0]; rfl
  have hgetA : ∀ o, (H0.set idl (numO n) ++ (M ++ [o]))[(H0.set idl (numO n)).length + M.length]? = some o := fun o => by
   rw [← List.append_assoc, ← List.length_append, Go.Abs.hget0]; rfl
  rw [List.length_set] at hset0 hgetA
  rcases Bool.eq_false_or_eq_true (fewN w n (d - 1)).1 with hb | hb
  ·simp only [hb,if_true] at hcall hsl ⊢
   generalize (fewN w n (d - 1)).2 = n' at *
   obtain ⟨op, ni, txt, ty, ns, kk⟩ := w
   obtain ⟨tk, ts, targs⟩ := ty
   simp only [encN,List.map_cons,List.map_nil] at hcall hgw
   simp only [b25_0,B0,B1,B2,List.replicate,reduceCtorEq,lenA,seval,hlen,h1,h2,h23,h24,h25,hc',hix,hgw,hcall,hwr,hwd,hgetA,hset0]
   refine ex_imp (key _ _ n' (by have := hsl.2.2 trivial; omega) (by omega) ?_ ?_ ?_ ?_ ?_ ?_) ?_
   iterate 6 simp only [B3,seval,hlen,h1,h2,h23,h24,h25]
   exact fun e tm' H' h => h
  ·simp only [hb,Bool.false_eq_true,if_false] at hcall hsl ⊢
   generalize (fewN w n (d - 1)).2 = n' at *
   obtain ⟨op, ni, txt, ty, ns, kk⟩ := w
   obtain ⟨tk, ts, targs⟩ := ty
   simp only [encN,List.map_cons,List.map_nil] at hcall hgw
   simp only [b25_0,B0,B1,B2,List.replicate,reduceCtorEq,lenA,seval,hlen,h1,h2,h23,h24,h25,hc',hix,hgw,hcall,hwr,hwd,hgetA,hset0]
   exact ⟨_, _, _, rfl, by simp only [List.length_set,hlen], ⟨_, rfl⟩, rfl, by simp only [B3,seval,hlen]⟩
theorem s25 : ∀ (t : NT), handN t → ∀ (n d : Int), 0 ≤ n → n ≤ 1000000 → 0 ≤ d → d ≤ 1000 → ∀ (idl : Nat) (H : Heap), H[idl]? = some (numO n) →
  L 25 [.im (.agg (encN t)), .ptr idl 0 0, .im (.int .i64 d)] H = some (.im (.bool (fewN t n d).1), H.set idl (numO (fewN t n d).2))
 | .mk op ni txt (.mk tk ts targs) s kids, hok, n, d, hn0, hn1, hd0, hd1, idl, H, hid => by
  simp only [handN] at hok
  obtain ⟨_, hs, hn, hty, hoks⟩ := hok
  have hlt := (List.getElem?_eq_some_iff.1 hid).1
  have hgl : ∀ M : Heap, (H ++ M)[idl]? = some (numO n) := fun M => by rw [get_app hlt]; exact hid
  have hsl : ∀ (M : Heap) o, (H ++ M).set idl o = H.set idl o ++ M := fun M o => set_app hlt
  have hgs : ∀ (M : Heap) o, (H.set idl o ++ M)[idl]? = some o := fun M o => by rw [get_app (by simpa using hlt), List.getElem?_set_self hlt]
  have hss : ∀ (M : Heap) o o', (H.set idl o ++ M).set idl o' = H.set idl o' ++ M := fun M o o' => by rw [set_app (by simpa using hlt), List.set_set]
  have hgt : ∀ (o x : HO), (H.set idl o ++ [x])[H.length]? = some x := fun o x => by
   have := Go.Abs.hget0 (H := H.set idl o) (l := [x])
   rwa [List.length_set] at this
  have hel : (encNs kids).length = kids.length := by rw [encNs_map]; simp
  have hwn := wrap_small (n - 1) (by omega)
  have key := fun (hd : 1 ≤ d) => l25 kids s hs hn d ⟨hd, hd1⟩ idl H hlt (fun a ha n hn0 hn1 H' hH' => s25 a (handNs_mem hoks a ha) n (d - 1) hn0 hn1 (by omega) (by omega) idl H' hH') kids.length 0 (by omega)
  have z : ((0 : Nat) : Int) = 0 := rfl
  simp only [List.drop_zero,z] at key
  have c50 := fun (hn2 : ¬ n - 1 < 0) (M : Heap) => s26 (.mk tk ts targs) hty (n - 1) 30 (by omega) (by omega) (by decide) (by decide) idl (H.set idl (numO (n - 1)) ++ M) (hgs _ _)
  simp only [hss,encT] at c50
  simp only [encN]
  rw [leq F25]
  obtain ⟨hlen, ha⟩ := enter_at (f := f25) (args := [.im (.agg [.str op, .int .i64 ni, .str txt, .int .i64 tk, .sl ts (encTs targs), .sl s (encNs kids)]), .ptr idl 0 0, .im (.int .i64 d)]) (Nat.le_of_ble_eq_true rfl)
  have h0 := ha 0 _ rfl
  have h1 := ha 1 _ rfl
  have h2 := ha 2 _ rfl
  generalize enterA f25 [.im (.agg [.str op, .int .i64 ni, .str txt, .int .i64 tk, .sl ts (encTs targs), .sl s (encNs kids)]), .ptr idl 0 0, .im (.int .i64 d)] = tm at *
  change tm.length = 55 at hlen
  have hlv : ∀ (b : Bool) (M : Heap) (v : Int), leave H false (.im (.bool b)) (H.set idl (.obj none [[.im (.int .i64 v)]]) ++ M) = (.im (.bool b), H.set idl (.obj none [[.im (.int .i64 v)]])) := fun b M v => leave_set
  simp only [numO] at hgl hlv hgs c50
  by_cases hn2 : n - 1 < 0
  ·have e1 : decide (n - 1 < 0) = true := decide_eq_true hn2
   simp only [fewN,hn2,true_or,if_true]
   simp only [f25,e25_0,B0,B1,B2,List.replicate,reduceCtorEq,lenA,seval,endK,resA,tupA,hlen,h0,h1,h2,hel,hgl,hsl,hgs,hwn,e1,hlv,numO]
  have e1 : decide (n - 1 < 0) = false := decide_eq_false hn2
  by_cases hd2 : d = 0
  ·have e2 : decide (d = 0) = true := decide_eq_true hd2
   simp only [fewN,hn2,hd2,true_or,or_true,if_true]
   simp only [f25,e25_0,B0,B1,B2,List.replicate,reduceCtorEq,lenA,seval,endK,resA,tupA,hlen,h0,h1,h2,hel,hgl,hsl,hgs,hwn,e1,e2,hlv,numO]
  have e2 : decide (d = 0) = false := decide_eq_false hd2
  by_cases ht : (10000 : Int) < (txt.length : Int)
  ·have e3 : decide ((10000 : Int) < (txt.length : Int)) = true := decide_eq_true ht
   simp only [fewN,hn2,hd2,ht,true_or,or_true,if_true]
   simp only [f25,e25_0,B0,B1,B2,List.replicate,reduceCtorEq,lenA,seval,endK,resA,tupA,hlen,h0,h1,h2,hel,hgl,hsl,hgs,hgt,hwn,e1,e2,e3,hlv,numO]
  have e3 : decide ((10000 : Int) < (txt.length : Int)) = false := decide_eq_false ht
  by_cases ho : (100 : Int) < (op.length : Int)
  ·have e4 : decide ((100 : Int) < (op.length : Int)) = true := decide_eq_true ho
   simp only [fewN,hn2,hd2,ht,ho,or_true,if_true]
   simp only [f25,e25_0,B0,B1,B2,List.replicate,reduceCtorEq,lenA,seval,endK,resA,tupA,hlen,h0,h1,h2,hel,hgl,hsl,hgs,hgt,hwn,e1,e2,e3,e4,hlv,numO]
  have e4 : decide ((100 : Int) < (op.length : Int)) = false := decide_eq_false ho
  have c50 := c50 hn2
  have hsml := smallT_left (.mk tk ts targs) (n - 1) 30 (by omega)
  simp only [fewN,hn2,hd2,ht,ho,or_self,if_false]
  generalize smallT (.mk tk ts targs) (n - 1) 30 = q at *
  obtain ⟨qb, qn⟩ := q
  simp only at c50 hsml ⊢
  cases qb with
  | false =>
   simp only [Bool.false_eq_true,if_false]
   simp only [f25,e25_0,B0,B1,B2,List.replicate,reduceCtorEq,lenA,seval,endK,resA,tupA,hlen,h0,h1,h2,hel,hgl,hsl,hgs,hgt,hwn,e1,e2,e3,e4,c50,hlv,numO]
  | true =>
   simp only [if_true]
   have hqn := hsml.2.2 rfl
   simp only [f25,e25_0,B0,B1,B2,List.replicate,reduceCtorEq,lenA,seval,endK,resA,tupA,hlen,h0,h1,h2,hel,hgl,hsl,hgs,hgt,hwn,e1,e2,e3,e4,c50]
   have key := key (by omega)
   simp only [numO] at key
   refine thenL_of (key _ _ qn (by omega) (by omega) ?_ ?_ ?_ ?_ ?_ ?_) ?_
   iterate 6 simp only [B3,seval,hlen,h0,h1,h2]
   rintro e tm' H' ⟨hl', ⟨M, rfl⟩, hb⟩
   rcases Bool.eq_false_or_eq_true (fewNs kids qn (d - 1)).1 with hq | hq
   ·simp only [hq,if_true] at hb
    subst hb
    simp only [B0,B1,B2,List.replicate,reduceCtorEq,lenA,seval,endK,resA,tupA,hl',hlv,numO,hq]
   ·simp only [hq,Bool.false_eq_true,if_false] at hb
    obtain ⟨rfl, h6⟩ := hb
    simp only [B0,B1,B2,List.replicate,reduceCtorEq,lenA,seval,endK,resA,tupA,hl',h6,hlv,numO,hq]
termination_by t => SizeOf.sizeOf t
decreasing_by
 have := List.sizeOf_lt_of_mem ha
 simp only [NT.mk.sizeOf_spec]
 omega
mutual
theorem small_slim : ∀ (t : KT) (left d : Int), 0 ≤ left → left ≤ 1000000 → (smallT t left d).1 = true → (smallT t left d).2 + 1 ≤ left ∧ slim t
 | .mk k s args, left, d, h0, h1, h => by
  simp only [smallT] at h ⊢
  split at h
  ·cases h
  ·rename_i hc
   rw [if_neg hc]
   have := small_slims args (left - 1) (d - 1) (by omega) (by omega) h
   refine ⟨by have := this.1; omega, ?_⟩
   simp only [slim]
   have h2 := smallTs_left args (left - 1) (d - 1) (by omega)
   have h3 := h2.2.2 h
   have h4 := this.1
   exact ⟨by omega, this.2⟩
theorem small_slims : ∀ (l : List KT) (left d : Int), 0 ≤ left → left ≤ 1000000 → (smallTs l left d).1 = true → (smallTs l left d).2 + (l.length : Int) ≤ left ∧ slims l
 | [], left, d, h0, h1, h => by simp only [smallTs,List.length_nil,slims]; exact ⟨by omega, trivial⟩
 | a :: l, left, d, h0, h1, h => by
  have hst : smallTs (a :: l) left d = if (smallT a left d).1 = true then smallTs l (smallT a left d).2 d else (false, (smallT a left d).2) := rfl
  rw [hst] at h ⊢
  split at h
  ·rename_i ha
   rw [if_pos ha]
   have q1 := small_slim a left d h0 h1 ha
   have q2 := smallT_left a left d h0
   have q3 := small_slims l _ d (q2.2.2 ha) (by omega) h
   simp only [List.length_cons,slims]
   exact ⟨by have := q1.1; have := q3.1; omega, q1.2, q3.2⟩
  ·cases h
end
mutual
theorem few_ok : ∀ (t : NT) (left d : Int), 0 ≤ left → left ≤ 1000000 → handN t → (fewN t left d).1 = true → (fewN t left d).2 + 1 ≤ left ∧ okN t ∧ fineN t
 | .mk op i txt ty s kids, left, d, h0, h1, hh, h => by
  simp only [handN] at hh
  obtain ⟨hi, hs, hn, hty, hk⟩ := hh
  simp only [fewN] at h ⊢
  split at h
  ·cases h
  ·rename_i hc
   rw [if_neg hc]
   split at h
   ·rename_i hsm
    rw [if_pos hsm]
    have q1 := small_slim ty (left - 1) 30 (by omega) (by omega) hsm
    have q2 := smallT_left ty (left - 1) 30 (by omega)
    have q3 := few_oks kids _ (d - 1) (q2.2.2 hsm) (by omega) hk h
    have q4 := fewNs_left kids (smallT ty (left - 1) 30).2 (d - 1) (q2.2.2 hsm)
    have q5 := q4.2.2 h
    have q6 := q3.1
    have q7 := q1.1
    refine ⟨by omega, ?_, ?_⟩
    ·simp only [okN]
     exact ⟨hs, by omega, ⟨hty, q1.2⟩, q3.2.1⟩
    ·simp only [fineN]
     exact ⟨hi, by omega, by omega, hs, hty, q3.2.2⟩
   ·cases h
theorem few_oks : ∀ (l : List NT) (left d : Int), 0 ≤ left → left ≤ 1000000 → handNs l → (fewNs l left d).1 = true → (fewNs l left d).2 + (l.length : Int) ≤ left ∧ okNs l ∧ fineNs l
 | [], left, d, h0, h1, _, h => by simp only [fewNs,List.length_nil,okNs,fineNs]; exact ⟨by omega, trivial, trivial⟩
 | a :: l, left, d, h0, h1, hh, h => by
  simp only [handNs] at hh
  have hst : fewNs (a :: l) left d = if (fewN a left d).1 = true then fewNs l (fewN a left d).2 d else (false, (fewN a left d).2) := rfl
  rw [hst] at h ⊢
  split at h
  ·rename_i ha
   rw [if_pos ha]
   have q1 := few_ok a left d h0 h1 hh.1 ha
   have q2 := fewN_left a left d h0
   have q3 := few_oks l _ d (q2.2.2 ha) (by omega) hh.2 h
   simp only [List.length_cons,okNs,fineNs]
   exact ⟨by have := q1.1; have := q3.1; omega, ⟨q1.2.1, q3.2.1⟩, ⟨q1.2.2, q3.2.2⟩⟩
  ·cases h
end
end Go.Abs.Seat
end
section
set_option linter.unusedVariables false
set_option linter.unusedSimpArgs false
namespace Go.Abs.Seat
open Go.Proofs
def refA : AV → Option Nat
 | .ms _ id _ _ => some id
 | _ => none
def Stk (s : Nat) (H : Heap) (v : AV) (rows : List (List Dat)) : Prop :=
 (rows = [] ∧ v = .nils) ∨ ∃ id es, v = .ms s id 0 rows.length ∧ H[id]? = some (.obj none es) ∧ rows.length ≤ es.length ∧ es.take rows.length = imss rows
theorem Stk.more {s : Nat} {H : Heap} {v : AV} {rows : List (List Dat)} (h : Stk s H v rows) (M : Heap) : Stk s (H ++ M) v rows := by
 rcases h with h | ⟨id, es, h1, h2, h3, h4⟩
 ·exact .inl h
 ·exact .inr ⟨id, es, h1, by rw [List.getElem?_append_left (List.getElem?_eq_some_iff.1 h2).1]; exact h2, h3, h4⟩
theorem Stk.same {s : Nat} {H H' : Heap} {v : AV} {rows : List (List Dat)} (h : Stk s H v rows) (hs : ∀ i, refA v = some i → H'[i]? = H[i]?) : Stk s H' v rows := by
 rcases h with h | ⟨id, es, h1, h2, h3, h4⟩
 ·exact .inl h
 ·exact .inr ⟨id, es, h1, by rw [hs id (by rw [h1]; rfl)]; exact h2, h3, h4⟩
theorem Stk.ref_lt {s : Nat} {H : Heap} {v : AV} {rows : List (List Dat)} (h : Stk s H v rows) {i : Nat} (hi : refA v = some i) : i < H.length := by
 rcases h with ⟨_, rfl⟩ | ⟨id, es, rfl, h2, _⟩
 ·simp [refA] at hi
 ·simp [refA] at hi; subst hi; exact (List.getElem?_eq_some_iff.1 h2).1
theorem Stk.len {s : Nat} {H : Heap} {v : AV} {rows : List (List Dat)} (h : Stk s H v rows) : lenA v = some rows.length := by
 rcases h with ⟨rfl, rfl⟩ | ⟨id, es, rfl, h2, _⟩ <;> rfl
theorem Stk.cell {s : Nat} {H : Heap} {v : AV} {rows : List (List Dat)} (h : Stk s H v rows) : cellOk v = true ∧ cellsOf v = [v] := by
 rcases h with ⟨rfl, rfl⟩ | ⟨id, es, rfl, h2, _⟩ <;> exact ⟨rfl, rfl⟩
theorem toDats_im : ∀ l : List Dat, toDats (l.map .im) = some l
 | [] => rfl
 | d :: l => by simp only [List.map_cons,toDats,toDat,toDats_im l]
theorem toDatss_imss : ∀ ys : List (List Dat), toDatss (imss ys) = some ys
 | [] => rfl
 | y :: ys => by
  have := toDatss_imss ys
  unfold imss at this ⊢
  simp only [List.map_cons,toDatss,toDats_im,this]
theorem imss_app (a b : List (List Dat)) : imss (a ++ b) = imss a ++ imss b := by simp [imss]
theorem imss_take (a : List (List Dat)) (n : Nat) : imss (a.take n) = (imss a).take n := by simp [imss, List.map_take]
theorem Stk.elems {s : Nat} {H : Heap} {v : AV} {rows : List (List Dat)} (h : Stk s H v rows) : elems H s v = some rows := by
 rcases h with ⟨rfl, rfl⟩ | ⟨id, es, rfl, h2, h3, h4⟩
 ·rfl
 ·simp only [Go.Abs.elems,if_true,h2,Nat.zero_add]
  rw [if_pos h3, List.drop_zero, h4, toDatss_imss]
theorem Stk.push {s bytes : Nat} {H : Heap} {v : AV} {rows : List (List Dat)} (h : Stk s H v rows) {ys : List (List Dat)} (hy : ys ≠ []) (hb : (rows.length + ys.length) * bytes ≤ 2 ^ 46) (hb0 : 0 < bytes) :
  ∃ H', appendMA H bytes s v ys = some (.ms s H.length 0 (rows ++ ys).length, H') ∧ Stk s H' (.ms s H.length 0 (rows ++ ys).length) (rows ++ ys) ∧ H'.length = H.length + 1 ∧ ∀ i, i < H.length → refA v ≠ some i → H'[i]? = H[i]? := by
 cases ys with
 | nil => exact absurd rfl hy
 | cons y ys =>
  have hl : (rows ++ y :: ys).length = rows.length + (ys.length + 1) := by simp
  rcases h with ⟨rfl, rfl⟩ | ⟨id, es, rfl, h2, h3, h4⟩
  ·refine ⟨H ++ [.obj none (imss (y :: ys))], ?_, .inr ⟨H.length, imss (y :: ys), rfl, by simp, by simp [imss], ?_⟩, by simp, fun i hi _ => List.getElem?_append_left hi⟩
   ·simp only [appendMA]
    rw [if_pos ⟨by simpa using hb, hb0⟩]
    simp
   ·rw [List.nil_append, List.take_of_length_le (by simp [imss])]
  ·have hlt := (List.getElem?_eq_some_iff.1 h2).1
   refine ⟨H.set id .dead ++ [.obj none ((es.drop 0).take rows.length ++ imss (y :: ys))], ?_, .inr ⟨H.length, (es.drop 0).take rows.length ++ imss (y :: ys), rfl, ?_, ?_, ?_⟩, by simp, fun i hi hne => ?_⟩
   ·simp only [appendMA,h2]
    rw [if_pos ⟨trivial, by simpa using h3, by simpa using hb, hb0⟩, hl]
   ·rw [List.getElem?_append_right (by simp)]; simp
   ·simp [imss]; omega
   ·rw [List.drop_zero, h4, ← imss_app, List.take_of_length_le (by simp [imss])]
   ·rw [List.getElem?_append_left (by simpa using hi), List.getElem?_set_ne (fun e => hne (by rw [← e]; rfl))]
theorem Stk.cut {s : Nat} {H : Heap} {v : AV} {rows : List (List Dat)} (h : Stk s H v rows) {m : Nat} (hm : m ≤ rows.length) {f : Nat → Option Nat} (hf : ∀ n, f n = some m) :
  ∃ v', sliceA s v 0 f none = some v' ∧ Stk s H v' (rows.take m) ∧ refA v' = refA v := by
 rcases h with ⟨rfl, rfl⟩ | ⟨id, es, rfl, h2, h3, h4⟩
 ·have hm0 : m = 0 := by simpa using hm
  subst hm0
  refine ⟨.nils, ?_, .inl ⟨rfl, rfl⟩, rfl⟩
  simp only [sliceA,hf,and_self,if_true]
 ·refine ⟨.ms s id 0 m, ?_, .inr ⟨id, es, ?_, h2, ?_, ?_⟩, rfl⟩
  ·simp only [sliceA,hf]
   rw [if_pos ⟨Nat.zero_le _, hm, trivial⟩, if_pos (.inr trivial)]
   simp
  ·rw [List.length_take, Nat.min_eq_left hm]
  ·rw [List.length_take]; omega
  ·rw [List.length_take, Nat.min_eq_left hm, imss_take, ← h4, List.take_take, Nat.min_eq_left hm]
structure EnvT where
 it : KT
 ss : Nat
 sides : List KT
abbrev Nms := List (List UInt8 × KT)
def rowsN (nm : Nms) : List (List Dat) := List.map (fun (x : List UInt8 × KT) => Dat.str x.1 :: encT x.2) nm
def rowsP (p : List Nat) : List (List Dat) := List.map (fun (i : Nat) => [Dat.int .i64 ((i : Nat) : Int)]) p
abbrev Flt := Option (List Nat × Int)
def FltA (f : Flt) (va : AV) (e : Int) : Prop := match f with
 | none => e = 0 ∧ va = .nils
 | some (p, c) => e = c ∧ c ≠ 0 ∧ ∃ s, va = .im (.sl s (rowsP p)) ∧ (p = [] ∨ s = 1)
def lookO (v : EnvT) (vn vp va : AV) (e : Int) : HO := .obj none [[.im (.int .i64 v.it.k), .im (.sl v.it.s (encTs v.it.args)), .im (.sl v.ss (v.sides.map encT)), vn, vp, va, .im (.int .i64 e)]]
structure LkAt (H : Heap) (l : Nat) (v : EnvT) (nm : Nms) (pth : List Nat) (f : Flt) (vn vp : AV) : Prop where
 obj : ∃ va e, H[l]? = some (lookO v vn vp va e) ∧ FltA f va e
 sn : Stk 3 H vn (rowsN nm)
 sp : Stk 1 H vp (rowsP pth)
 d1 : refA vn ≠ some l
 d2 : refA vp ≠ some l
 d3 : ∀ i, refA vn = some i → refA vp ≠ some i
theorem LkAt.lt {H : Heap} {l : Nat} {v : EnvT} {nm : Nms} {pth : List Nat} {f : Flt} {vn vp : AV} (h : LkAt H l v nm pth f vn vp) : l < H.length := by
 obtain ⟨va, e, h1, _⟩ := h.obj
 exact (List.getElem?_eq_some_iff.1 h1).1
structure Fr (H H' : Heap) (l : Nat) (vn vp vn' vp' : AV) : Prop where
 len : H.length ≤ H'.length
 old : ∀ i, i < H.length → i ≠ l → refA vn ≠ some i → refA vp ≠ some i → H'[i]? = H[i]?
 rn : refA vn' = refA vn ∨ ∃ j, refA vn' = some j ∧ H.length ≤ j
 rp : refA vp' = refA vp ∨ ∃ j, refA vp' = some j ∧ H.length ≤ j
theorem Fr.refl {H : Heap} {l : Nat} {vn vp : AV} : Fr H H l vn vp vn vp := ⟨Nat.le_refl _, fun _ _ _ _ _ => rfl, .inl rfl, .inl rfl⟩
theorem Fr.trans {A B C : Heap} {l : Nat} {vn vp vn1 vp1 vn2 vp2 : AV} (h : Fr A B l vn vp vn1 vp1) (k : Fr B C l vn1 vp1 vn2 vp2) : Fr A C l vn vp vn2 vp2 where
 len := Nat.le_trans h.len k.len
 old i hi hl h1 h2 := by
  rw [k.old i (Nat.lt_of_lt_of_le hi h.len) hl (by
   rcases h.rn with e | ⟨j, e, hj⟩
   ·rw [e]; exact h1
   ·rw [e]; intro e2; injection e2 with e2; omega) (by
   rcases h.rp with e | ⟨j, e, hj⟩
   ·rw [e]; exact h2
   ·rw [e]; intro e2; injection e2 with e2; omega)]
  exact h.old i hi hl h1 h2
 rn := by
  rcases k.rn with e | ⟨j, e, hj⟩
  ·rw [e]; exact h.rn
  ·exact .inr ⟨j, e, Nat.le_trans h.len hj⟩
 rp := by
  rcases k.rp with e | ⟨j, e, hj⟩
  ·rw [e]; exact h.rp
  ·exact .inr ⟨j, e, Nat.le_trans h.len hj⟩
theorem Fr.down {A M B : Heap} {l : Nat} {vn vp vn1 vp1 : AV} (h : Fr (A ++ M) B l vn vp vn1 vp1) : Fr A B l vn vp vn1 vp1 where
 len := by have := h.len; simp at this; omega
 old i hi hl h1 h2 := by rw [h.old i (by simp; omega) hl h1 h2, List.getElem?_append_left hi]
 rn := by
  rcases h.rn with e | ⟨j, e, hj⟩
  ·exact .inl e
  ·exact .inr ⟨j, e, by simp at hj; omega⟩
 rp := by
  rcases h.rp with e | ⟨j, e, hj⟩
  ·exact .inl e
  ·exact .inr ⟨j, e, by simp at hj; omega⟩
theorem Fr.top {A M B : Heap} {l : Nat} {v : EnvT} {nm : Nms} {pth : List Nat} {f : Flt} {vn vp vn1 vp1 : AV} (hk : LkAt A l v nm pth f vn vp) (h : Fr (A ++ M) B l vn vp vn1 vp1) (k : Nat) (hk2 : k < M.length) : B[A.length + k]? = M[k]? := by
 rw [h.old _ (by simp; omega) (by have := hk.lt; omega) (fun e => by have := hk.sn.ref_lt e; omega) (fun e => by have := hk.sp.ref_lt e; omega), hget]
theorem LkAt.more {H : Heap} {l : Nat} {v : EnvT} {nm : Nms} {pth : List Nat} {f : Flt} {vn vp : AV} (h : LkAt H l v nm pth f vn vp) (M : Heap) : LkAt (H ++ M) l v nm pth f vn vp where
 obj := by
  obtain ⟨va, e, h1, h2⟩ := h.obj
  exact ⟨va, e, by rw [List.getElem?_append_left h.lt]; exact h1, h2⟩
 sn := h.sn.more M
 sp := h.sp.more M
 d1 := h.d1
 d2 := h.d2
 d3 := h.d3
theorem LkAt.same {H H' : Heap} {l : Nat} {v : EnvT} {nm : Nms} {pth : List Nat} {f : Flt} {vn vp : AV} (h : LkAt H l v nm pth f vn vp) (hs : ∀ i, i = l ∨ refA vn = some i ∨ refA vp = some i → H'[i]? = H[i]?) : LkAt H' l v nm pth f vn vp where
 obj := by
  obtain ⟨va, e, h1, h2⟩ := h.obj
  exact ⟨va, e, by rw [hs l (.inl rfl)]; exact h1, h2⟩
 sn := h.sn.same fun i hi => hs i (.inr (.inl hi))
 sp := h.sp.same fun i hi => hs i (.inr (.inr hi))
 d1 := h.d1
 d2 := h.d2
 d3 := h.d3
theorem refs_stk {s : Nat} {H : Heap} {v : AV} {rows : List (List Dat)} (h : Stk s H v rows) {n : Nat} (hr : refsLt n v = true) {i : Nat} (hi : refA v = some i) : i < n := by
 rcases h with ⟨_, rfl⟩ | ⟨id, es, rfl, h2, _⟩
 ·simp [refA] at hi
 ·simp [refA] at hi; subst hi; simpa [refsLt] using hr
theorem leave_lk {A B : Heap} {l : Nat} {v : EnvT} {nm nm' : Nms} {pth pth' : List Nat} {f f' : Flt} {vn vp vn1 vp1 : AV} (hA : LkAt A l v nm pth f vn vp) (hB : LkAt B l v nm' pth' f' vn1 vp1) (hF : Fr A B l vn vp vn1 vp1) {r r' : AV} (hd : degrade r = r') (hr : ∀ n, refsLt n r' = true) :
  ∃ H', leave A false r B = (r', H') ∧ LkAt H' l v nm' pth' f' vn1 vp1 ∧ Fr A H' l vn vp vn1 vp1 := by
 unfold leave
 have e : (if (false : Bool) = true then r else degrade r) = r' := by simp [hd]
 rw [e]
 by_cases hc : refsLt A.length r' = true ∧ heldIn A B
 ·rw [if_pos hc]
  have hlt := hA.lt
  obtain ⟨va, e1, hB1, hB2⟩ := hB.obj
  have hrefs : refsLt A.length vn1 = true ∧ refsLt A.length vp1 = true := by
   rcases hc.2 l hlt with hs | ⟨o, ho, hro⟩
   ·obtain ⟨va0, e0, hA1, _⟩ := hA.obj
    rw [hB1, hA1] at hs
    unfold lookO at hs
    injection hs with hs
    injection hs with _ hs
    injection hs with hs _
    injection hs with _ hs
    injection hs with _ hs
    injection hs with _ hs
    injection hs with hn hs
    injection hs with hp _
    subst hn; subst hp
    have one : ∀ {s : Nat} {x : AV} {rows : List (List Dat)}, Stk s A x rows → refsLt A.length x = true := fun h => by
     rcases h with ⟨_, rfl⟩ | ⟨id, es, rfl, h2, _⟩
     ·rfl
     ·simp only [refsLt,decide_eq_true_eq]; exact (List.getElem?_eq_some_iff.1 h2).1
    exact ⟨one hA.sn, one hA.sp⟩
   ·rw [hB1] at ho
    injection ho with ho
    subst ho
    unfold lookO refsO at hro
    simp only [List.all_cons,List.all_nil,refsLts,Bool.and_true,Bool.and_eq_true] at hro
    exact ⟨hro.2.2.2.1, hro.2.2.2.2.1⟩
  have htk : ∀ i, i < A.length → (B.take A.length)[i]? = B[i]? := fun i hi => by rw [List.getElem?_take, if_pos hi]
  refine ⟨_, rfl, hB.same fun i hi => htk i ?_, ⟨by simp only [List.length_take]; have := hF.len; omega, fun i hi hl h1 h2 => by rw [htk i hi]; exact hF.old i hi hl h1 h2, hF.rn, hF.rp⟩⟩
  rcases hi with rfl | hi | hi
  ·exact hlt
  ·exact refs_stk hB.sn hrefs.1 hi
  ·exact refs_stk hB.sp hrefs.2 hi
 ·rw [if_neg hc]
  exact ⟨_, rfl, hB, hF⟩
end Go.Abs.Seat
end
section
set_option linter.unusedVariables false
set_option linter.unusedSimpArgs false
namespace Go.Abs.Seat
open Go.Proofs
theorem encT_eq (t : KT) : encT t = [.int .i64 t.k, .sl t.s (encTs t.args)] := by
 cases t; rfl
theorem agg_nils (k : Int) : toDat (.agg [.im (.int .i64 k), .nils]) = some (.agg [.int .i64 k, .sl 0 []]) := rfl
theorem s49 (k : Int) (H : Heap) : L 49 [.im (.int .i64 k)] H = some (.im (.agg [.int .i64 k, .sl 0 []]), H) := by
 rw [leq F49]
 obtain ⟨hlen, ha⟩ := enter_at (f := f49) (args := [.im (.int .i64 k)]) (Nat.le_of_ble_eq_true rfl)
 have h0 := ha 0 _ rfl
 generalize enterA f49 [.im (.int .i64 k)] = tm at *
 change tm.length = 5 at hlen
 have hlv := fun L' => leave_one (H := H) (M := L') (agg_nils k)
 simp only [f49,B0,B1,B2,List.replicate,reduceCtorEq,lenA,seval,B5,pairK,B4,stays,loadOf,endK,resA,tupA,hlen,h0,hlv]
def argX (t : KT) (k : Int) (i : Nat) : KT × Bool := if t.k = k then (t.args.getD i zeroT, true) else (zeroT, false)
theorem s36 (t : KT) (hok : okT t) (k : Int) (i : Nat) (hi : t.k = k → i < t.args.length) (H : Heap) : L 36 [.im (.agg (encT t)), .im (.int .i64 k), .im (.int .i64 (i : Int))] H = some (.tup [.im (.agg (encT (argX t k i).1)), .im (.bool (argX t k i).2)], H) := by
 obtain ⟨tk, s, args⟩ := t
 simp only [KT.k,KT.args] at hi
 simp only [okT] at hok
 obtain ⟨hs, hn, hoks⟩ := hok
 simp only [encT]
 rw [leq F36]
 obtain ⟨hlen, ha⟩ := enter_at (f := f36) (args := [.im (.agg [.int .i64 tk, .sl s (encTs args)]), .im (.int .i64 k), .im (.int .i64 (i : Int))]) (Nat.le_of_ble_eq_true rfl)
 have h0 := ha 0 _ rfl
 have h1 := ha 1 _ rfl
 have h2 := ha 2 _ rfl
 generalize enterA f36 [.im (.agg [.int .i64 tk, .sl s (encTs args)]), .im (.int .i64 k), .im (.int .i64 (i : Int))] = tm at *
 change tm.length = 18 at hlen
 by_cases hk : tk = k
 ·have hi := hi hk
  have hdk : decide (tk = k) = true := decide_eq_true hk
  have hs2 : s = 2 := by
   rcases hs with hs | hs
   ·subst hs; simp at hi
   ·exact hs
  subst hs2
  obtain ⟨a, hai⟩ : ∃ a, args[i]? = some a := ⟨_, List.getElem?_eq_getElem hi⟩
  have hix := idx_nat (n := (encTs args).length) (i := i) (by rw [encTs_map]; simpa using hi)
  have hga : (encTs args)[i]? = some (encT a) := by rw [encTs_map, List.getElem?_map, hai]; rfl
  have hgd : args.getD i zeroT = a := by simp [List.getD_eq_getElem?_getD, hai]
  have e : argX (.mk tk 2 args) k i = (a, true) := by
   unfold argX
   rw [if_pos (show KT.k (.mk tk 2 args) = k from hk)]
   exact Prod.ext hgd rfl
  rw [e]
  obtain ⟨k2, s2, a2⟩ := a
  simp only [encT] at hga
  have hlv := fun L' => leave_tup2 (H := H) (L := L') (d := .agg [.int .i64 k2, .sl s2 (encTs a2)]) (d' := .bool true)
  simp only [f36,B0,B1,B2,List.replicate,reduceCtorEq,lenA,seval,B5,pairK,B4,stays,loadOf,endK,resA,tupA,hlen,h0,h1,h2,hdk,hix,hga,hlv,Bool.not_true,encT]
 ·have hdk : decide (tk = k) = false := decide_eq_false hk
  have e : argX (.mk tk s args) k i = (zeroT, false) := by
   unfold argX
   rw [if_neg (show ¬ KT.k (.mk tk s args) = k from hk)]
  rw [e]
  have hlv := fun L' => leave_two (H := H) (M := L') (agg_nils 0) (b := .im (.bool false)) (d' := .bool false) rfl
  simp only [f36,B0,B1,B2,List.replicate,reduceCtorEq,lenA,seval,B5,pairK,B4,stays,loadOf,endK,resA,tupA,hlen,h0,h1,h2,hdk,hlv,Bool.not_false,zeroT,mkT,encT,List.length_nil,if_true,encTs]
theorem s81 (H : Heap) (v : AV) (rows : List (List Dat)) (h : Stk 1 H v rows) (hb : rows.length ≤ 1000) : ∃ s, L 81 [v] H = some (.im (.sl s rows), H) ∧ (rows = [] ∨ s = 1) := by
 rw [leq F81]
 obtain ⟨hlen, ha⟩ := enter_at (f := f81) (args := [v]) (Nat.le_of_ble_eq_true rfl)
 have h0 := ha 0 _ rfl
 generalize enterA f81 [v] = tm at *
 change tm.length = 8 at hlen
 have hel := h.elems
 rcases h with ⟨rfl, rfl⟩ | ⟨id, es, rfl, h2, h3, h4⟩
 ·have hlv := leave_one (H := H) (M := []) (a := .nils) (d := .sl 0 []) rfl
  rw [List.append_nil] at hlv
  have hnn : binNil .eql .nils = some (.im (.bool true)) := rfl
  refine ⟨0, ?_, .inl rfl⟩
  simp only [f81,B0,B1,B2,List.replicate,reduceCtorEq,lenA,seval,endK,resA,tupA,hlen,h0,hnn,hlv]
 ·have hnn : ∀ n, binNil .eql (.ms 1 id 0 n) = some (.im (.bool false)) := fun _ => rfl
  cases rows with
  | nil =>
   simp only [List.length_nil] at hel
   have hlv := leave_one (H := H) (M := []) (a := .em) (d := .sl 0 []) rfl
   rw [List.append_nil] at hlv
   have hap : appendA H 3 8 1 .em [] = some (.em, H) := rfl
   refine ⟨0, ?_, .inl rfl⟩
   simp only [f81,B0,B1,B2,List.replicate,reduceCtorEq,lenA,seval,endK,resA,tupA,hlen,h0,hnn,hel,hap,hlv]
  | cons y ys =>
   simp only [List.length_cons] at hel
   have hlv := leave_one (H := H) (M := [.hw 3 (ys.length + 1)]) (a := .asl 1 (y :: ys) H.length) (d := .sl 1 (y :: ys)) rfl
   have hap : appendA H 3 8 1 .em (y :: ys) = some (.asl 1 (y :: ys) H.length, H ++ [.hw 3 (ys.length + 1)]) := by
    simp only [appendA]
    rw [if_pos ⟨by simp only [List.length_cons] at hb; omega, by decide⟩]
   refine ⟨1, ?_, .inr rfl⟩
   simp only [f81,B0,B1,B2,List.replicate,reduceCtorEq,lenA,seval,endK,resA,tupA,hlen,h0,hnn,hel,hap,hlv]
end Go.Abs.Seat
end
section
set_option linter.unusedVariables false
set_option linter.unusedSimpArgs false
namespace Go.Abs.Seat
open Go.Proofs
theorem LkAt.put {H : Heap} {l : Nat} {v : EnvT} {nm : Nms} {pth : List Nat} {f f' : Flt} {vn vp va' : AV} {e' : Int} (h : LkAt H l v nm pth f vn vp) (hf : FltA f' va' e') :
  LkAt (H.set l (lookO v vn vp va' e')) l v nm pth f' vn vp ∧ Fr H (H.set l (lookO v vn vp va' e')) l vn vp vn vp := by
 have hlt := h.lt
 refine ⟨⟨⟨va', e', List.getElem?_set_self hlt, hf⟩, h.sn.same fun i hi => List.getElem?_set_ne fun e => h.d1 (by rw [e]; exact hi), h.sp.same fun i hi => List.getElem?_set_ne fun e => h.d2 (by rw [e]; exact hi), h.d1, h.d2, h.d3⟩, ⟨by simp, fun i hi hl _ _ => List.getElem?_set_ne fun e => hl e.symm, .inl rfl, .inl rfl⟩⟩
theorem Fr.app {A B : Heap} {l : Nat} {vn vp vn1 vp1 : AV} (h : Fr A B l vn vp vn1 vp1) (M : Heap) : Fr A (B ++ M) l vn vp vn1 vp1 where
 len := by have := h.len; simp; omega
 old i hi hl h1 h2 := by rw [List.getElem?_append_left (Nat.lt_of_lt_of_le hi h.len)]; exact h.old i hi hl h1 h2
 rn := h.rn
 rp := h.rp
def flt1 (f : Flt) (p : List Nat) (c : Int) : Flt := match f with
 | none => some (p, c)
 | some x => some x
theorem s52 {H : Heap} {l : Nat} {v : EnvT} {nm : Nms} {pth : List Nat} {f : Flt} {vn vp : AV} (h : LkAt H l v nm pth f vn vp) (c : Int) (hc : c ≠ 0) (hp : pth.length ≤ 1000) :
  ∃ H', L 52 [.ptr l 0 0, .im (.int .i64 c)] H = some (.im (.agg [.int .i64 0, .sl 0 []]), H') ∧ LkAt H' l v nm pth (flt1 f pth c) vn vp ∧ Fr H H' l vn vp vn vp := by
 obtain ⟨va, e, ho, hfa⟩ := h.obj
 have hlt := h.lt
 have hob : ∀ M : Heap, (H ++ M)[l]? = some (lookO v vn vp va e) := fun M => by rw [List.getElem?_append_left hlt]; exact ho
 have hst : ∀ (M : Heap) o, (H ++ M).set l o = H.set l o ++ M := fun M o => List.set_append_left _ _ hlt
 have hst2 : ∀ (o o' : HO) (M : Heap), (H.set l o ++ M).set l o' = H.set l o' ++ M := fun o o' M => by rw [List.set_append_left _ _ (by simpa using hlt), List.set_set]
 have hob2 : ∀ (o : HO) (M : Heap), (H.set l o ++ M)[l]? = some o := fun o M => by rw [List.getElem?_append_left (by simpa using hlt)]; exact List.getElem?_set_self hlt
 have hb0 : ∀ (o : HO) (M : Heap), (H.set l o ++ M)[H.length]? = M[0]? := fun o M => by rw [List.getElem?_append_right (by simp)]; simp
 have hs0 : ∀ (o o' : HO) (M : Heap), (H.set l o ++ M).set H.length o' = H.set l o ++ M.set 0 o' := fun o o' M => by rw [List.set_append_right _ _ (by simp)]; simp
 rw [leq F52]
 obtain ⟨hlen, ha⟩ := enter_at (f := f52) (args := [.ptr l 0 0, .im (.int .i64 c)]) (Nat.le_of_ble_eq_true rfl)
 have h0 := ha 0 _ rfl
 have h1 := ha 1 _ rfl
 generalize enterA f52 [.ptr l 0 0, .im (.int .i64 c)] = tm at *
 change tm.length = 23 at hlen
 unfold lookO at hob
 cases f with
 | none =>
  obtain ⟨rfl, rfl⟩ := hfa
  obtain ⟨s, c81, hs⟩ := s81 (H ++ [.obj none [[.im (.int .i64 0), .nils]]]) vp (rowsP pth) (h.sp.more _) (by simpa [rowsP] using hp)
  have z0 : decide ((0 : Int) = 0) = true := rfl
  obtain ⟨hB, hF⟩ := h.put (f' := some (pth, c)) (va' := .im (.sl s (rowsP pth))) (e' := c) ⟨rfl, hc, s, rfl, by
   rcases hs with hs | hs
   ·left; simpa [rowsP] using hs
   ·exact .inr hs⟩
  obtain ⟨H', hlv, hk, hf⟩ := leave_lk h (hB.more [.obj none [[.im (.int .i64 0), .nils]]]) (hF.app [.obj none [[.im (.int .i64 0), .nils]]]) (r := .agg [.im (.int .i64 0), .nils]) (r' := .im (.agg [.int .i64 0, .sl 0 []])) rfl (fun _ => rfl)
  unfold lookO at hlv
  refine ⟨H', ?_, hk, hf⟩
  simp only [f52,B0,B1,B2,List.replicate,reduceCtorEq,lenA,seval,B5,pairK,B4,stays,loadOf,endK,resA,tupA,hlen,h0,h1,hob,hst,hst2,hob2,hb0,hs0,z0,c81,hlv]
 | some x =>
  obtain ⟨p, c'⟩ := x
  obtain ⟨rfl, hne, s, rfl, hs⟩ := hfa
  have z0 : decide (e = 0) = false := decide_eq_false hne
  obtain ⟨H', hlv, hk, hf⟩ := leave_lk h (h.more [.obj none [[.im (.int .i64 0), .nils]]]) (Fr.refl.app [.obj none [[.im (.int .i64 0), .nils]]]) (r := .agg [.im (.int .i64 0), .nils]) (r' := .im (.agg [.int .i64 0, .sl 0 []])) rfl (fun _ => rfl)
  refine ⟨H', ?_, hk, hf⟩
  simp only [f52,B0,B1,B2,List.replicate,reduceCtorEq,lenA,seval,B5,pairK,B4,stays,loadOf,endK,resA,tupA,hlen,h0,h1,hob,z0,hlv]
theorem LkAt.box {A M B : Heap} {l : Nat} {v : EnvT} {nm nm' : Nms} {pth pth' : List Nat} {f f' : Flt} {vn vp vn1 vp1 : AV} (hA : LkAt A l v nm pth f vn vp) (hB : LkAt B l v nm' pth' f' vn1 vp1) (hF : Fr (A ++ M) B l vn vp vn1 vp1) {k : Nat} (hk : k < M.length) (o : HO) :
  LkAt (B.set (A.length + k) o) l v nm' pth' f' vn1 vp1 ∧ Fr A (B.set (A.length + k) o) l vn vp vn1 vp1 := by
 have hl := hA.lt
 have hn : refA vn1 ≠ some (A.length + k) := fun e => by
  rcases hF.rn with e1 | ⟨j, e1, hj⟩
  ·rw [e1] at e; have := hA.sn.ref_lt e; omega
  ·rw [e1] at e; injection e with e; simp at hj; omega
 have hp : refA vp1 ≠ some (A.length + k) := fun e => by
  rcases hF.rp with e1 | ⟨j, e1, hj⟩
  ·rw [e1] at e; have := hA.sp.ref_lt e; omega
  ·rw [e1] at e; injection e with e; simp at hj; omega
 refine ⟨hB.same fun i hi => List.getElem?_set_ne fun e => ?_, ⟨by have := hF.len; simp at this ⊢; omega, fun i hi hil h1 h2 => by rw [List.getElem?_set_ne (by omega)]; exact hF.down.old i hi hil h1 h2, hF.down.rn, hF.down.rp⟩⟩
 rcases hi with rfl | hi | hi
 ·omega
 ·rw [← e] at hi; exact hn hi
 ·rw [← e] at hi; exact hp hi
def madeX (t : KT) : KT ⊕ (List Nat × Int) := if rightT t 6 = true then .inl (cloneT t) else .inr ([], 50)
def fltR (pth : List Nat) (r : KT ⊕ (List Nat × Int)) : Flt := match r with
 | .inl _ => none
 | .inr (p, c) => some (pth ++ p, c)
def tyR (r : KT ⊕ (List Nat × Int)) : KT := match r with
 | .inl t => t
 | .inr _ => zeroT
theorem zeroE : encT zeroT = [.int .i64 0, .sl 0 []] := rfl
set_option maxHeartbeats 400000 in
theorem s51 {H : Heap} {l : Nat} {v : EnvT} {nm : Nms} {pth : List Nat} {vn vp : AV} (h : LkAt H l v nm pth none vn vp) (k : Int) (s : Nat) (args : List KT) (hok : okT (.mk k s args)) (hp : pth.length ≤ 1000) :
  ∃ H', L 51 [.ptr l 0 0, .im (.int .i64 k), .im (.sl s (encTs args))] H = some (.im (.agg (encT (tyR (madeX (.mk k s args))))), H') ∧ LkAt H' l v nm pth (fltR pth (madeX (.mk k s args))) vn vp ∧ Fr H H' l vn vp vn vp := by
 obtain ⟨va, e, ho, hfa⟩ := h.obj
 obtain ⟨rfl, rfl⟩ := hfa
 have hlt := h.lt
 have hob : ∀ M : Heap, (H ++ M)[l]? = some (lookO v vn vp .nils 0) := fun M => by rw [List.getElem?_append_left hlt]; exact ho
 unfold lookO at hob
 have c30 := fun H => s30 k s args hok H
 unfold checkT at c30
 rw [leq F51]
 obtain ⟨hlen, ha⟩ := enter_at (f := f51) (args := [.ptr l 0 0, .im (.int .i64 k), .im (.sl s (encTs args))]) (Nat.le_of_ble_eq_true rfl)
 have h0 := ha 0 _ rfl
 have h1 := ha 1 _ rfl
 have h2 := ha 2 _ rfl
 generalize enterA f51 [.ptr l 0 0, .im (.int .i64 k), .im (.sl s (encTs args))] = tm at *
 change tm.length = 26 at hlen
 have z0 : (!decide ((0 : Int) = 0)) = false := rfl
 have z20 : (!decide ((20 : Int) = 0)) = true := rfl
 unfold madeX
 have hg0 : ∀ M : Heap, (H ++ M)[H.length]? = M[0]? := fun M => hget0
 have hg1 : ∀ M : Heap, (H ++ M)[H.length + 1]? = M[1]? := fun M => hget 1
 have hs0 : ∀ (M : Heap) o, (H ++ M).set H.length o = H ++ M.set 0 o := fun M o => hset0
 have hs1 : ∀ (M : Heap) o, (H ++ M).set (H.length + 1) o = H ++ M.set 1 o := fun M o => hset 1
 cases hr : rightT (.mk k s args) 6 with
 | true =>
  simp only [hr,if_true] at c30 ⊢
  generalize cloneT (.mk k s args) = t at *
  obtain ⟨k2, s2, a2⟩ := t
  simp only [encT] at c30
  obtain ⟨H', hlv, hk, hf⟩ := leave_lk h (h.more [.obj none [[.im (.int .i64 k2), .im (.sl s2 (encTs a2))]], .obj none [[.im (.int .i64 k2), .im (.sl s2 (encTs a2))]]]) (Fr.refl.app _) (r := .im (.agg [.int .i64 k2, .sl s2 (encTs a2)])) (r' := .im (.agg [.int .i64 k2, .sl s2 (encTs a2)])) rfl (fun _ => rfl)
  refine ⟨H', ?_, hk, hf⟩
  simp only [f51,B0,B1,B2,List.replicate,reduceCtorEq,lenA,seval,B5,pairK,B4,stays,loadOf,endK,resA,tupA,hlen,h0,h1,h2,hob,z0,c30,hg0,hg1,hs0,hs1,hlv,tyR,encT]
 | false =>
  simp only [hr,Bool.false_eq_true,if_false] at c30 ⊢
  have c52 := s52 (h.more [.obj none [[.im (.int .i64 0), .nils]], .obj none [[.im (.int .i64 0), .im (.sl 0 [])]]]) 50 (by decide) hp
  obtain ⟨B, c52, kB, fB⟩ := c52
  have ht0 := Fr.top h fB 0 (by decide)
  have hB0 : B[H.length]? = some (.obj none [[.im (.int .i64 0), .nils]]) := ht0
  have hBl := (List.getElem?_eq_some_iff.1 hB0).1
  have hBs : ∀ o : HO, (B.set H.length o)[H.length]? = some o := fun o => List.getElem?_set_self hBl
  obtain ⟨kX, fX⟩ := LkAt.box h kB fB (k := 0) (by decide) (.obj none [[.im (.int .i64 0), .im (.sl 0 [])]])
  obtain ⟨H', hlv, hk, hf⟩ := leave_lk h kX fX (r := .im (.agg [.int .i64 0, .sl 0 []])) (r' := .im (.agg [.int .i64 0, .sl 0 []])) rfl (fun _ => rfl)
  rw [Nat.add_zero] at hlv
  refine ⟨H', ?_, by simpa [flt1, fltR] using hk, hf⟩
  simp only [f51,B0,B1,B2,List.replicate,reduceCtorEq,lenA,seval,B5,pairK,B4,stays,loadOf,endK,resA,tupA,hlen,h0,h1,h2,hob,z0,z20,c30,hg0,hg1,hs0,hs1,c52,hB0,hBs,hlv,tyR,zeroE]
end Go.Abs.Seat
end
section
set_option linter.unusedVariables false
set_option linter.unusedSimpArgs false
namespace Go.Abs.Seat
open Go.Proofs
def findX (nm : Nms) (w : List UInt8) : Option (List UInt8 × KT) := nm.reverse.find? fun x => decide (x.1 = w)
def nameX (nm : Nms) (w : List UInt8) : KT ⊕ (List Nat × Int) := match findX nm w with
 | some x => .inl x.2
 | none => .inr ([], 51)
theorem find_take {nm : Nms} {m : Nat} {x : List UInt8 × KT} (h : nm[m]? = some x) (w : List UInt8) : findX (nm.take (m + 1)) w = if decide (x.1 = w) = true then some x else findX (nm.take m) w := by
 have e : nm.take (m + 1) = nm.take m ++ [x] := by rw [List.take_add_one, h]; rfl
 unfold findX
 rw [e, List.reverse_append]
 simp only [List.reverse_cons,List.reverse_nil,List.nil_append,List.cons_append,List.find?_cons]
 cases decide (x.1 = w) <;> rfl
theorem l50 {H : Heap} {l : Nat} (v : EnvT) (nm : Nms) (hnm : nm.length ≤ 1000) (w : List UInt8) (id : Nat) (es : List (List AV)) (hid : H[id]? = some (.obj none es))
  (hes : ∀ (i : Nat) (x : List UInt8 × KT), nm[i]? = some x → es[i]? = some [AV.im (.str x.1), .im (.int .i64 x.2.k), .im (.sl x.2.s (encTs x.2.args))]) (vp va : AV) (e : Int) (hl : H[l]? = some (lookO v (.ms 3 id 0 nm.length) vp va e)) (a0 a1 a3 a4 a5 : AV) :
  ∀ m, m ≤ nm.length → ∀ tm : List AV, tm.length = 37 → tm.getD 0 undefA = .ptr l 0 0 → tm.getD 3 undefA = .ptr H.length 0 0 → tm.getD 4 undefA = .ptr (H.length + 1) 0 0 → tm.getD 5 undefA = .im (.int .i64 ((m : Int) - 1)) →
  ∃ e' tm' H', Λ c50_0 tm (H ++ [.obj none [[a0, a1, .im (.str w), a3, a4, a5]], .obj none [[.im (.int .i64 0), .nils]]]) = some (e', tm', H') ∧ tm'.length = 37 ∧ tm'.getD 0 undefA = .ptr l 0 0 ∧ tm'.getD 4 undefA = .ptr (H.length + 1) 0 0 ∧
   ((findX (nm.take m) w = none ∧ e' = .exit 0 ∧ H' = H ++ [.obj none [[a0, a1, .im (.str w), a3, a4, a5]], .obj none [[.im (.int .i64 0), .nils]]]) ∨
    ∃ x, findX (nm.take m) w = some x ∧ e' = .ret ∧ H' = H ++ [.obj none [[a0, a1, .im (.str w), a3, a4, a5]], .obj none [[.im (.int .i64 x.2.k), .im (.sl x.2.s (encTs x.2.args))]]]) := by
 have hlt := (List.getElem?_eq_some_iff.1 hl).1
 have hilt := (List.getElem?_eq_some_iff.1 hid).1
 have hob : ∀ M : Heap, (H ++ M)[l]? = some (lookO v (.ms 3 id 0 nm.length) vp va e) := fun M => by rw [List.getElem?_append_left hlt]; exact hl
 have hib : ∀ M : Heap, (H ++ M)[id]? = some (.obj none es) := fun M => by rw [List.getElem?_append_left hilt]; exact hid
 unfold lookO at hob
 intro m
 induction m with
 | zero =>
  intro hm tm hlen h0 h3 h4 h5
  have hc : decide ((0 : Int) ≤ ((0 : Nat) : Int) - 1) = false := rfl
  rw [l50_0]
  simp only [b50_0,B0,B1,B2,List.replicate,reduceCtorEq,lenA,seval,hlen,h0,h3,h4,h5,hc]
  exact ⟨_, _, _, rfl, by simp only [List.length_set,hlen], by simp only [B3,seval,hlen,h0], by simp only [B3,seval,hlen,h4], .inl ⟨rfl, rfl, rfl⟩⟩
 | succ m ih =>
  intro hm tm hlen h0 h3 h4 h5
  obtain ⟨x, hx⟩ : ∃ x, nm[m]? = some x := ⟨_, List.getElem?_eq_getElem (by omega)⟩
  have e1 : (((m + 1 : Nat) : Int) - 1) = (m : Int) := by omega
  rw [e1] at h5
  have hc : decide ((0 : Int) ≤ (m : Int)) = true := decide_eq_true (by omega)
  have hix := idx_nat (n := nm.length) (i := m) (by omega)
  have hg := hes m x hx
  have hz : 0 + m = m := by omega
  have hw : IntKind.i64.wrap ((m : Int) - 1) = (m : Int) - 1 := Go.Abs.Seat.wrap_small _ (by omega)
  rw [find_take hx w, l50_0]
  have key := fun tm => ih (by omega) tm
  obtain ⟨xw, xk, xs, xa⟩ := x
  simp only [KT.k,KT.s,KT.args] at hg
  rcases Bool.eq_false_or_eq_true (decide (xw = w)) with hd | hd
  ·rw [if_pos hd]
   simp only [b50_0,B0,B1,B2,List.replicate,reduceCtorEq,lenA,seval,B5,pairK,B4,stays,loadOf,hlen,h0,h3,h4,h5,hc,hob,hib,hix,hz,hg,hd]
   exact ⟨_, _, _, rfl, by simp only [List.length_set,hlen], by simp only [B3,seval,hlen,h0], by simp only [B3,seval,hlen,h4], .inr ⟨_, rfl, rfl, rfl⟩⟩
  ·rw [hd, if_neg (by simp)]
   simp only [b50_0,B0,B1,B2,List.replicate,reduceCtorEq,lenA,seval,B5,pairK,B4,stays,loadOf,hlen,h0,h3,h4,h5,hc,hob,hib,hix,hz,hg,hd,hw]
   exact key _ (by simp only [List.length_set,hlen]) (by simp only [B3,seval,hlen,h0]) (by simp only [B3,seval,hlen,h3]) (by simp only [B3,seval,hlen,h4]) (by simp only [B3,seval,hlen])
theorem s50 {H : Heap} {l : Nat} {v : EnvT} {nm : Nms} {pth : List Nat} {vn vp : AV} (h : LkAt H l v nm pth none vn vp) (op w : List UInt8) (i : Int) (ty : KT) (s : Nat) (kids : List NT) (hp : pth.length ≤ 1000) (hnm : nm.length ≤ 1000) :
  ∃ H', L 50 [.ptr l 0 0, .im (.agg (encN (.mk op i w ty s kids)))] H = some (.im (.agg (encT (tyR (nameX nm w)))), H') ∧ LkAt H' l v nm pth (fltR pth (nameX nm w)) vn vp ∧ Fr H H' l vn vp vn vp := by
 obtain ⟨tk, ts, targs⟩ := ty
 obtain ⟨va, e, ho, hfa⟩ := h.obj
 obtain ⟨rfl, rfl⟩ := hfa
 have hlt := h.lt
 have hob : ∀ M : Heap, (H ++ M)[l]? = some (lookO v vn vp .nils 0) := fun M => by rw [List.getElem?_append_left hlt]; exact ho
 unfold lookO at hob
 have hle := h.sn.len
 have hrl : (rowsN nm).length = nm.length := by simp [rowsN]
 rw [hrl] at hle
 simp only [encN]
 rw [leq F50]
 obtain ⟨hlen, ha⟩ := enter_at (f := f50) (args := [.ptr l 0 0, .im (.agg [.str op, .int .i64 i, .str w, .int .i64 tk, .sl ts (encTs targs), .sl s (encNs kids)])]) (Nat.le_of_ble_eq_true rfl)
 have h0 := ha 0 _ rfl
 have h1 := ha 1 _ rfl
 generalize enterA f50 [.ptr l 0 0, .im (.agg [.str op, .int .i64 i, .str w, .int .i64 tk, .sl ts (encTs targs), .sl s (encNs kids)])] = tm at *
 change tm.length = 37 at hlen
 have hw : IntKind.i64.wrap ((nm.length : Int) - 1) = (nm.length : Int) - 1 := Go.Abs.Seat.wrap_small _ (by omega)
 have hg1 : ∀ M : Heap, (H ++ M)[H.length + 1]? = M[1]? := fun M => hget 1
 have hs1 : ∀ (M : Heap) o, (H ++ M).set (H.length + 1) o = H ++ M.set 1 o := fun M o => hset 1
 have key : ∀ tm : List AV, tm.length = 37 → tm.getD 0 undefA = .ptr l 0 0 → tm.getD 3 undefA = .ptr H.length 0 0 → tm.getD 4 undefA = .ptr (H.length + 1) 0 0 → tm.getD 5 undefA = .im (.int .i64 ((nm.length : Int) - 1)) →
   ∃ e' tm' H', Λ c50_0 tm (H ++ [.obj none [[.im (.str op), .im (.int .i64 i), .im (.str w), .im (.int .i64 tk), .im (.sl ts (encTs targs)), .im (.sl s (encNs kids))]], .obj none [[.im (.int .i64 0), .nils]]]) = some (e', tm', H') ∧ tm'.length = 37 ∧ tm'.getD 0 undefA = .ptr l 0 0 ∧ tm'.getD 4 undefA = .ptr (H.length + 1) 0 0 ∧
   ((findX nm w = none ∧ e' = .exit 0 ∧ H' = H ++ [.obj none [[.im (.str op), .im (.int .i64 i), .im (.str w), .im (.int .i64 tk), .im (.sl ts (encTs targs)), .im (.sl s (encNs kids))]], .obj none [[.im (.int .i64 0), .nils]]]) ∨
    ∃ x, findX nm w = some x ∧ e' = .ret ∧ H' = H ++ [.obj none [[.im (.str op), .im (.int .i64 i), .im (.str w), .im (.int .i64 tk), .im (.sl ts (encTs targs)), .im (.sl s (encNs kids))]], .obj none [[.im (.int .i64 x.2.k), .im (.sl x.2.s (encTs x.2.args))]]]) := by
  intro tm hlen h0 h3 h4 h5
  rcases h.sn with ⟨hr, hv⟩ | ⟨id, es, hv, he, hle2, htk⟩
  ·have hn0 : nm = [] := by simpa [rowsN] using hr
   subst hn0
   have hc : decide ((0 : Int) ≤ ((([] : Nms).length : Nat) : Int) - 1) = false := rfl
   rw [l50_0]
   simp only [b50_0,B0,B1,B2,List.replicate,reduceCtorEq,lenA,seval,hlen,h0,h3,h4,h5,hc]
   exact ⟨_, _, _, rfl, by simp only [List.length_set,hlen], by simp only [B3,seval,hlen,h0], by simp only [B3,seval,hlen,h4], .inl ⟨rfl, rfl, rfl⟩⟩
  ·rw [hrl] at hv htk hle2
   have := l50 (H := H) (l := l) v nm hnm w id es he (fun j x hx => by
    have hj := (List.getElem?_eq_some_iff.1 hx).1
    have e1 : (es.take nm.length)[j]? = es[j]? := by rw [List.getElem?_take, if_pos hj]
    rw [← e1, htk]
    unfold imss rowsN
    rw [List.getElem?_map, List.getElem?_map, hx]
    obtain ⟨xw, xk, xs, xa⟩ := x
    rfl) vp .nils 0 (by rw [← hv]; exact ho) (.im (.str op)) (.im (.int .i64 i)) (.im (.int .i64 tk)) (.im (.sl ts (encTs targs))) (.im (.sl s (encNs kids))) nm.length (Nat.le_refl _) tm hlen h0 h3 h4 h5
   rwa [List.take_length] at this
 simp only [f50,e50_0,B0,B1,B2,List.replicate,reduceCtorEq,seval,B5,pairK,hlen,h0,h1,hob,hle,hw]
 generalize hr : thenL (Λ c50_0 _ _) _ = r
 refine Exists.elim (thenL_inv hr (key _ (by simp only [List.length_set,hlen]) (by simp only [B3,seval,hlen,h0]) (by simp only [B3,seval,hlen]) (by simp only [B3,seval,hlen]) (by simp only [B3,seval,hlen]))) ?_
 clear hr key
 rintro e' ⟨tm', H', ⟨hl', g0, g4, hm⟩, rfl⟩
 unfold nameX
 rcases hm with ⟨hf, rfl, rfl⟩ | ⟨x, hf, rfl, rfl⟩
 ·rw [hf]
  obtain ⟨B, c52, kB, fB⟩ := s52 (h.more [.obj none [[.im (.str op), .im (.int .i64 i), .im (.str w), .im (.int .i64 tk), .im (.sl ts (encTs targs)), .im (.sl s (encNs kids))]], .obj none [[.im (.int .i64 0), .nils]]]) 51 (by decide) hp
  have hB1 : B[H.length + 1]? = some (.obj none [[.im (.int .i64 0), .nils]]) := Fr.top h fB 1 (by simp)
  have hBl := (List.getElem?_eq_some_iff.1 hB1).1
  have hBs : ∀ o : HO, (B.set (H.length + 1) o)[H.length + 1]? = some o := fun o => List.getElem?_set_self hBl
  obtain ⟨kX, fX⟩ := LkAt.box h kB fB (k := 1) (by simp) (.obj none [[.im (.int .i64 0), .im (.sl 0 [])]])
  obtain ⟨H', hlv, hk, hff⟩ := leave_lk h kX fX (r := .im (.agg [.int .i64 0, .sl 0 []])) (r' := .im (.agg [.int .i64 0, .sl 0 []])) rfl (fun _ => rfl)
  refine ⟨H', ?_, by simpa [flt1, fltR] using hk, hff⟩
  simp only [B0,B1,B2,List.replicate,reduceCtorEq,lenA,seval,B5,pairK,B4,stays,loadOf,endK,resA,tupA,hl',g0,g4,c52,hB1,hBs,hlv,tyR,zeroE]
 ·rw [hf]
  obtain ⟨H', hlv, hk, hff⟩ := leave_lk h (h.more [.obj none [[.im (.str op), .im (.int .i64 i), .im (.str w), .im (.int .i64 tk), .im (.sl ts (encTs targs)), .im (.sl s (encNs kids))]], .obj none [[.im (.int .i64 x.2.k), .im (.sl x.2.s (encTs x.2.args))]]]) (Fr.refl.app _) (r := .im (.agg [.int .i64 x.2.k, .sl x.2.s (encTs x.2.args)])) (r' := .im (.agg [.int .i64 x.2.k, .sl x.2.s (encTs x.2.args)])) rfl (fun _ => rfl)
  refine ⟨H', ?_, hk, hff⟩
  simp only [B0,B1,B2,List.replicate,reduceCtorEq,lenA,seval,B5,pairK,B4,stays,loadOf,endK,resA,tupA,hl',g0,g4,hg1,hlv,tyR,encT_eq]
end Go.Abs.Seat
end
section
set_option linter.unusedVariables false
set_option linter.unusedSimpArgs false
namespace Go.Abs.Seat
open Go.Proofs
def Wt (t : KT) : Prop := t = zeroT ∨ (okT t ∧ rightT t 6 = true)
theorem Wt.ok {t : KT} (h : Wt t) : okT t := by
 rcases h with rfl | h
 ·simp [zeroT, mkT, okT, okTs]
 ·exact h.1
section
variable {H : Heap} {l : Nat} {v : EnvT} {nm : Nms} {pth : List Nat} {f : Flt} {vn vp : AV}
theorem LkAt.pushP (h : LkAt H l v nm pth none vn vp) (i : Nat) (hb : pth.length ≤ 1000) :
  ∃ vp1 Hx, appendMA H 8 1 vp [[Dat.int .i64 (i : Int)]] = some (vp1, Hx) ∧ Hx[l]? = some (lookO v vn vp .nils 0) ∧ cellsOf vp1 = [vp1] ∧ cellOk vp1 = true ∧
   LkAt (Hx.set l (lookO v vn vp1 .nils 0)) l v nm (pth ++ [i]) none vn vp1 ∧ Fr H (Hx.set l (lookO v vn vp1 .nils 0)) l vn vp vn vp1 := by
 have hrl : (rowsP pth).length = pth.length := by simp [rowsP]
 obtain ⟨Hx, h1, h2, h3, h4⟩ := h.sp.push (bytes := 8) (ys := [[Dat.int .i64 (i : Int)]]) (by simp) (by simp [hrl]; omega) (by decide)
 obtain ⟨va, e, ho, hfa⟩ := h.obj
 obtain ⟨rfl, rfl⟩ := hfa
 have hlt := h.lt
 have hxl : Hx[l]? = some (lookO v vn vp .nils 0) := by rw [h4 l hlt h.d2]; exact ho
 have hlx : l < Hx.length := by omega
 refine ⟨_, Hx, h1, hxl, rfl, rfl, ⟨⟨.nils, 0, List.getElem?_set_self hlx, rfl, rfl⟩, ?_, ?_, h.d1, ?_, ?_⟩, ⟨by simp; omega, fun j hj hjl _ h6 => ?_, .inl rfl, .inr ⟨H.length, rfl, Nat.le_refl _⟩⟩⟩
 ·refine h.sn.same fun j hj => ?_
  rw [List.getElem?_set_ne (fun e => h.d1 (by rw [e]; exact hj))]
  exact h4 j (h.sn.ref_lt hj) (h.d3 j hj)
 ·have : rowsP (pth ++ [i]) = rowsP pth ++ [[Dat.int .i64 (i : Int)]] := by simp [rowsP]
  rw [this]
  refine h2.same fun j hj => List.getElem?_set_ne fun e => ?_
  simp [refA] at hj
  omega
 ·simp [refA]; omega
 ·intro j hj
  have := h.sn.ref_lt hj
  simp [refA]; omega
 ·rw [List.getElem?_set_ne (fun e => hjl e.symm)]
  exact h4 j hj h6
theorem LkAt.pushN (h : LkAt H l v nm pth none vn vp) (names : Nms) (hb : nm.length + names.length ≤ 1000) :
  ∃ vn1 Hx, appendMA H 48 3 vn (rowsN names) = some (vn1, Hx) ∧ Hx[l]? = some (lookO v vn vp .nils 0) ∧ cellsOf vn1 = [vn1] ∧ cellOk vn1 = true ∧
   LkAt (Hx.set l (lookO v vn1 vp .nils 0)) l v (nm ++ names) pth none vn1 vp ∧ Fr H (Hx.set l (lookO v vn1 vp .nils 0)) l vn vp vn1 vp := by
 have hrl : ∀ x : Nms, (rowsN x).length = x.length := fun x => by simp [rowsN]
 obtain ⟨va, e, ho, hfa⟩ := h.obj
 obtain ⟨rfl, rfl⟩ := hfa
 have hlt := h.lt
 by_cases hn : names = []
 ·subst hn
  have hap : appendMA H 48 3 vn (rowsN []) = some (vn, H) := by
   rcases h.sn with ⟨_, rfl⟩ | ⟨id, es, rfl, _⟩ <;> rfl
  obtain ⟨k1, k2⟩ := h.put (f' := none) (va' := .nils) (e' := 0) ⟨rfl, rfl⟩
  rw [List.append_nil]
  exact ⟨vn, H, hap, ho, h.sn.cell.2, h.sn.cell.1, k1, k2⟩
 ·obtain ⟨Hx, h1, h2, h3, h4⟩ := h.sn.push (bytes := 48) (ys := rowsN names) (by simpa [rowsN] using hn) (by rw [hrl, hrl]; omega) (by decide)
  have hxl : Hx[l]? = some (lookO v vn vp .nils 0) := by rw [h4 l hlt h.d1]; exact ho
  have hlx : l < Hx.length := by omega
  refine ⟨_, Hx, h1, hxl, rfl, rfl, ⟨⟨.nils, 0, List.getElem?_set_self hlx, rfl, rfl⟩, ?_, ?_, ?_, h.d2, ?_⟩, ⟨by simp; omega, fun j hj hjl h5 _ => ?_, .inr ⟨H.length, rfl, Nat.le_refl _⟩, .inl rfl⟩⟩
  ·have : rowsN (nm ++ names) = rowsN nm ++ rowsN names := by simp [rowsN]
   rw [this]
   refine h2.same fun j hj => List.getElem?_set_ne fun e => ?_
   simp [refA] at hj
   omega
  ·refine h.sp.same fun j hj => ?_
   rw [List.getElem?_set_ne (fun e => h.d2 (by rw [e]; exact hj))]
   exact h4 j (h.sp.ref_lt hj) fun e => h.d3 j e hj
  ·simp [refA]; omega
  ·intro j hj
   simp [refA] at hj
   intro e
   have := h.sp.ref_lt e
   omega
  ·rw [List.getElem?_set_ne (fun e => hjl e.symm)]
   exact h4 j hj h5
theorem LkAt.popN {names : Nms} {va : AV} {e : Int} (h : LkAt H l v (nm ++ names) pth f vn vp) (hf : FltA f va e) :
  ∃ vn1, sliceA 3 vn 0 (fun _ => some nm.length) none = some vn1 ∧ cellsOf vn1 = [vn1] ∧ cellOk vn1 = true ∧ LkAt (H.set l (lookO v vn1 vp va e)) l v nm pth f vn1 vp ∧ Fr H (H.set l (lookO v vn1 vp va e)) l vn vp vn1 vp := by
 have hrl : ∀ x : Nms, (rowsN x).length = x.length := fun x => by simp [rowsN]
 obtain ⟨vn1, h1, h2, h3⟩ := h.sn.cut (m := nm.length) (by rw [hrl]; simp) (f := fun _ => some nm.length) (fun _ => rfl)
 have ht : (rowsN (nm ++ names)).take nm.length = rowsN nm := by
  have : rowsN (nm ++ names) = rowsN nm ++ rowsN names := by simp [rowsN]
  rw [this, ← hrl nm, List.take_left]
 rw [ht] at h2
 have hlt := h.lt
 refine ⟨vn1, h1, h2.cell.2, h2.cell.1, ⟨⟨va, e, List.getElem?_set_self hlt, hf⟩, h2.same fun i hi => List.getElem?_set_ne fun e => h.d1 (by rw [e, ← h3]; exact hi), h.sp.same fun i hi => List.getElem?_set_ne fun e => h.d2 (by rw [e]; exact hi), by rw [h3]; exact h.d1, h.d2, by rw [h3]; exact h.d3⟩, ⟨by simp, fun i hi hl _ _ => List.getElem?_set_ne fun e => hl e.symm, .inl h3, .inl rfl⟩⟩
theorem LkAt.popP {i : Nat} {va : AV} {e : Int} (h : LkAt H l v nm (pth ++ [i]) f vn vp) (hf : FltA f va e) :
  ∃ vp1, sliceA 1 vp 0 (fun _ => some pth.length) none = some vp1 ∧ cellsOf vp1 = [vp1] ∧ cellOk vp1 = true ∧ LkAt (H.set l (lookO v vn vp1 va e)) l v nm pth f vn vp1 ∧ Fr H (H.set l (lookO v vn vp1 va e)) l vn vp vn vp1 := by
 have hrl : ∀ x : List Nat, (rowsP x).length = x.length := fun x => by simp [rowsP]
 obtain ⟨vp1, h1, h2, h3⟩ := h.sp.cut (m := pth.length) (by rw [hrl]; simp) (f := fun _ => some pth.length) (fun _ => rfl)
 have ht : (rowsP (pth ++ [i])).take pth.length = rowsP pth := by
  have : rowsP (pth ++ [i]) = rowsP pth ++ rowsP [i] := by simp [rowsP]
  rw [this, ← hrl pth, List.take_left]
 rw [ht] at h2
 have hlt := h.lt
 refine ⟨vp1, h1, h2.cell.2, h2.cell.1, ⟨⟨va, e, List.getElem?_set_self hlt, hf⟩, h.sn.same fun i hi => List.getElem?_set_ne fun e => h.d1 (by rw [e]; exact hi), h2.same fun i hi => List.getElem?_set_ne fun e => h.d2 (by rw [e, ← h3]; exact hi), h.d1, by rw [h3]; exact h.d2, fun i hi => by rw [h3]; exact h.d3 i hi⟩, ⟨by simp, fun i hi hl _ _ => List.getElem?_set_ne fun e => hl e.symm, .inl rfl, .inl h3⟩⟩
end
def kidR (i : Nat) (r : KT ⊕ (List Nat × Int)) : KT ⊕ (List Nat × Int) := match r with
 | .inl t => .inl t
 | .inr (p, c) => .inr (i :: p, c)
theorem flt_kid (pth : List Nat) (i : Nat) (r : KT ⊕ (List Nat × Int)) : fltR (pth ++ [i]) r = fltR pth (kidR i r) := by
 cases r with
 | inl t => rfl
 | inr x => simp [fltR, kidR]
def Looks (fn : FuncId) (xs : List AV) (H : Heap) (l : Nat) (v : EnvT) (nm : Nms) (pth : List Nat) (vn vp : AV) (r : KT ⊕ (List Nat × Int)) : Prop :=
 ∃ H' vn' vp' t', L fn (.ptr l 0 0 :: xs) H = some (.im (.agg (encT t')), H') ∧ LkAt H' l v nm pth (fltR pth r) vn' vp' ∧ Fr H H' l vn vp vn' vp' ∧ (∀ t, r = .inl t → t' = t) ∧ Wt t'
set_option maxHeartbeats 1000000 in
theorem s54 {H : Heap} {l : Nat} {v : EnvT} {nm : Nms} {pth : List Nat} {vn vp : AV} (h : LkAt H l v nm pth none vn vp) (op txt : List UInt8) (i0 : Int) (ty : KT) (s : Nat) (kids : List NT) (hs : kids = [] ∨ s = 6) (i : Nat) (k : NT) (hk : kids[i]? = some k) (names : Nms) (na : AV) (hna : names = [] ∧ na = .nils ∨ na = .im (.sl 3 (rowsN names)))
  (hp : pth.length ≤ 900) (hn : nm.length + names.length ≤ 900) (r : KT ⊕ (List Nat × Int))
  (hlook : ∀ (H : Heap) vn vp, LkAt H l v (nm ++ names) (pth ++ [i]) none vn vp → Looks 29 [.im (.agg (encN k))] H l v (nm ++ names) (pth ++ [i]) vn vp r) :
  Looks 54 [.im (.agg (encN (.mk op i0 txt ty s kids))), .im (.int .i64 (i : Int)), na] H l v nm pth vn vp (kidR i r) := by
 obtain ⟨tk, ts, targs⟩ := ty
 have hi := (List.getElem?_eq_some_iff.1 hk).1
 have hs6 : s = 6 := by
  rcases hs with hs | hs
  ·subst hs; simp at hi
  ·exact hs
 subst hs6
 have hel : ∀ H : Heap, elems H 3 na = some (rowsN names) := fun H => by
  rcases hna with ⟨rfl, rfl⟩ | rfl
  ·rfl
  ·cases names <;> rfl
 have hln : lenA na = some names.length := by
  rcases hna with ⟨rfl, rfl⟩ | rfl
  ·rfl
  ·simp [lenA, rowsN]
 have hix := idx_nat (n := (encNs kids).length) (i := i) (by rw [encNs_map]; simpa using hi)
 have hgk : (encNs kids)[i]? = some (encN k) := encNs_at hk
 have hel1 : ∀ a b : HO, elems (H ++ [a, b, HO.obj none [[.im (.int .i64 (i : Int))]]]) 1 (.ms 1 (H.length + 2) 0 1) = some [[Dat.int .i64 (i : Int)]] := fun a b => by
  simp only [elems,if_true,hget 2]
  rfl
 have hA := h.more [HO.obj none [[.im (.str op), .im (.int .i64 i0), .im (.str txt), .im (.int .i64 tk), .im (.sl ts (encTs targs)), .im (.sl 6 (encNs kids))]], HO.obj none [[.im (.int .i64 0), .nils]], HO.obj none [[.im (.int .i64 (i : Int))]]]
 obtain ⟨va, e, ho, hfa⟩ := h.obj
 obtain ⟨rfl, rfl⟩ := hfa
 have hob : ∀ M : Heap, (H ++ M)[l]? = some (lookO v vn vp .nils 0) := fun M => by rw [List.getElem?_append_left h.lt]; exact ho
 obtain ⟨vp1, Hp, p1, p2, pc, pk, p3, p4⟩ := hA.pushP i (by omega)
 obtain ⟨va0, e0, p5, pfa⟩ := p3.obj
 obtain ⟨rfl, rfl⟩ := pfa
 obtain ⟨vn1, Hn, n1, n2, nc, nk, n5, n6⟩ := p3.pushN names (by omega)
 have f1 := p4.trans n6
 have hN0 := Fr.top h f1 0 (by simp)
 obtain ⟨B, vn2, vp2, t', c29, kB, fB, ht, hw⟩ := hlook _ _ _ n5
 have f2 := f1.trans fB
 have hB1 := Fr.top h f2 1 (by simp)
 have hln2 : lenA vn2 = some (nm.length + names.length) := by have := kB.sn.len; simpa [rowsN] using this
 have hlp2 : lenA vp2 = some (pth.length + 1) := by have := kB.sp.len; simpa [rowsP] using this
 obtain ⟨va2, e2, ho2, hfa2⟩ := kB.obj
 have hB2 : ∀ (M : Heap), (B ++ M)[l]? = some (lookO v vn2 vp2 va2 e2) := fun M => by rw [List.getElem?_append_left kB.lt]; exact ho2
 obtain ⟨tk2, ts2, ta2⟩ := t'
 have kC := kB.more [HO.obj none [[.im (.int .i64 tk2), .im (.sl ts2 (encTs ta2))]]]
 obtain ⟨vn3, q1, qc, qk, q4, q5⟩ := kC.popN (nm := nm) (names := names) hfa2
 have hlC : l < (B ++ [HO.obj none [[.im (.int .i64 tk2), .im (.sl ts2 (encTs ta2))]]]).length := kC.lt
 have hoD : ((B ++ [HO.obj none [[.im (.int .i64 tk2), .im (.sl ts2 (encTs ta2))]]]).set l (lookO v vn3 vp2 va2 e2))[l]? = some (lookO v vn3 vp2 va2 e2) := List.getElem?_set_self hlC
 obtain ⟨vp3, r1, rc, rk, r4, r5⟩ := q4.popP (pth := pth) (i := i) hfa2
 rw [List.set_set] at r4 r5
 have f3 := ((f2.trans (Fr.refl.app [HO.obj none [[.im (.int .i64 tk2), .im (.sl ts2 (encTs ta2))]]])).trans q5).trans r5
 have hlB := kB.lt
 have hb9 : ∀ o, ((B ++ [HO.obj none [[.im (.int .i64 tk2), .im (.sl ts2 (encTs ta2))]]]).set l o)[B.length]? = some (HO.obj none [[.im (.int .i64 tk2), .im (.sl ts2 (encTs ta2))]]) := fun o => by
  rw [List.getElem?_set_ne (by omega), hget0]; rfl
 have hT1 := Fr.top h f3 1 (by simp)
 obtain ⟨kX, fX⟩ := LkAt.box h r4 f3 (k := 1) (by simp) (HO.obj none [[.im (.int .i64 tk2), .im (.sl ts2 (encTs ta2))]])
 obtain ⟨H', hlv, hk', hff⟩ := leave_lk h kX fX (r := .im (.agg [.int .i64 tk2, .sl ts2 (encTs ta2)])) (r' := .im (.agg [.int .i64 tk2, .sl ts2 (encTs ta2)])) rfl (fun _ => rfl)
 have hTl := (List.getElem?_eq_some_iff.1 hT1).1
 have hTs : ∀ o : HO, ((((B ++ [HO.obj none [[.im (.int .i64 tk2), .im (.sl ts2 (encTs ta2))]]]).set l (lookO v vn3 vp3 va2 e2)).set (H.length + 1) o))[H.length + 1]? = some o := fun o => List.getElem?_set_self hTl
 rw [flt_kid] at hk'
 refine ⟨H', vn3, vp3, .mk tk2 ts2 ta2, ?_, hk', hff, fun t e => ht t (by cases r with
  | inl x => exact e
  | inr x => cases e), hw⟩
 rw [Nat.add_zero] at hN0
 simp only [List.getElem?_cons_zero,List.getElem?_cons_succ] at hN0 hT1
 obtain ⟨ko, ki, kt, kty, ks, kk⟩ := k
 obtain ⟨kyk, kys, kya⟩ := kty
 simp only [encN] at c29 hgk ⊢
 simp only [encT] at c29 ⊢
 have w1 : IntKind.i64.wrap (((nm.length + names.length : Nat) : Int) - (names.length : Int)) = (nm.length : Int) := by
  rw [show ((nm.length + names.length : Nat) : Int) - (names.length : Int) = (nm.length : Int) by omega]
  exact Go.Abs.Seat.wrap_small _ (by omega)
 have w2 : IntKind.i64.wrap (((pth.length + 1 : Nat) : Int) - 1) = (pth.length : Int) := by
  rw [show ((pth.length + 1 : Nat) : Int) - 1 = (pth.length : Int) by omega]
  exact Go.Abs.Seat.wrap_small _ (by omega)
 have z1 : (0 : Int) ≤ (nm.length : Int) := Int.natCast_nonneg _
 have z2 : (0 : Int) ≤ (pth.length : Int) := Int.natCast_nonneg _
 unfold lookO at *
 rw [leq F54]
 obtain ⟨hlen, ha⟩ := enter_at (f := f54) (args := [.ptr l 0 0, .im (.agg [.str op, .int .i64 i0, .str txt, .int .i64 tk, .sl ts (encTs targs), .sl 6 (encNs kids)]), .im (.int .i64 (i : Int)), na]) (Nat.le_of_ble_eq_true rfl)
 have h0 := ha 0 _ rfl
 have h1 := ha 1 _ rfl
 have h2 := ha 2 _ rfl
 have h3 := ha 3 _ rfl
 generalize enterA f54 [.ptr l 0 0, .im (.agg [.str op, .int .i64 i0, .str txt, .int .i64 tk, .sl ts (encTs targs), .sl 6 (encNs kids)]), .im (.int .i64 (i : Int)), na] = tm at *
 change tm.length = 67 at hlen
 simp only [f54,B0,B1,B2,List.replicate,reduceCtorEq,seval,B5,pairK,B4,stays,loadOf,endK,resA,tupA,hlen,h0,h1,h2,h3,hob,hel1,p1,p2,pc,pk,p5,hel,n1,n2,nc,nk,hN0,hix,hgk,c29,hB2,hln2,hln,hlp2,boundA,intOfA,Int.toNat_natCast,z1,z2,w1,w2,q1,qc,qk,hoD,r1,rc,rk,List.set_set,hb9,hT1,hTs,hlv]
end Go.Abs.Seat
end
section
set_option linter.unusedVariables false
set_option linter.unusedSimpArgs false
namespace Go.Abs.Seat
open Go.Proofs
def slV (o : Option Nat) (s : Nat) (es : List (List Dat)) : AV := match o with
 | none => .im (.sl s es)
 | some tok => .asl s es tok
theorem s110 (t : KT) (k : Int) (H : Heap) : L 110 [.im (.agg (encT t)), .im (.int .i64 k)] H = some (.im (.bool (decide (t.k = k))), H) := by
 obtain ⟨tk, s, args⟩ := t
 change L 110 [.im (.agg [.int .i64 tk, .sl s (encTs args)]), .im (.int .i64 k)] H = some (.im (.bool (decide (tk = k))), H)
 rw [leq F110]
 obtain ⟨hlen, ha⟩ := enter_at (f := f110) (args := [.im (.agg [.int .i64 tk, .sl s (encTs args)]), .im (.int .i64 k)]) (Nat.le_of_ble_eq_true rfl)
 have h0 := ha 0 _ rfl
 have h1 := ha 1 _ rfl
 generalize enterA f110 [.im (.agg [.int .i64 tk, .sl s (encTs args)]), .im (.int .i64 k)] = tm at *
 change tm.length = 9 at hlen
 simp only [f110,B0,B1,B2,List.replicate,reduceCtorEq,lenA,seval,endK,resA,tupA,hlen,h0,h1,leave_app]
def kindsX : List KT → List Int → Bool
 | [], [] => true
 | a :: l, k :: r => decide (a.k = k) && kindsX l r
 | _, _ => false
theorem kinds_len : ∀ {l : List KT} {r : List Int}, l.length ≠ r.length → kindsX l r = false
 | [], [], h => absurd rfl h
 | [], _ :: _, _ => rfl
 | _ :: _, [], _ => rfl
 | a :: l, k :: r, h => by simp only [kindsX, kinds_len (l := l) (r := r) (fun e => h (by simp [e])), Bool.and_false]
def intsD (ys : List Int) : List (List Dat) := List.map (fun (y : Int) => [Dat.int .i64 y]) ys
theorem l109 (xs : List KT) (ys : List Int) (o : Option Nat) (s s' : Nat) (hs : xs = [] ∨ s = 2) (hs' : ys = [] ∨ s' = 1) (hl : xs.length = ys.length) (hn : xs.length ≤ 1000) :
  ∀ (m i : Nat), i + m = xs.length → ∀ (tm : List AV) (H : Heap), tm.length = 32 → tm.getD 1 undefA = .im (.sl s' (intsD ys)) → tm.getD 2 undefA = .clo 110 [] → tm.getD 15 undefA = slV o s (xs.map encT) → tm.getD 16 undefA = .im (.int .i64 (xs.length : Int)) → tm.getD 17 undefA = .im (.int .i64 (i : Int)) →
  ∃ e tm' H', Λ c109_0 tm H = some (e, tm', H') ∧ tm'.length = 32 ∧ (∃ M, H' = H ++ M) ∧ ((kindsX (xs.drop i) (ys.drop i) = true ∧ e = .exit 0) ∨ (kindsX (xs.drop i) (ys.drop i) = false ∧ e = .ret ∧ tm'.getD 6 undefA = .im (.bool false)))
 | 0, i, hi, tm, H, hlen, h1, h2, h15, h16, h17 => by
  have e : xs.drop i = [] := by rw [List.drop_eq_nil_iff]; omega
  have e' : ys.drop i = [] := by rw [List.drop_eq_nil_iff]; omega
  have hc' : decide ((i : Int) < (xs.length : Int)) = false := decide_eq_false (by omega)
  rw [e, e', l109_0]
  simp only [b109_0,B0,B1,B2,List.replicate,reduceCtorEq,lenA,seval,hlen,h1,h2,h15,h16,h17,hc',kindsX]
  exact ⟨_, _, _, rfl, by simp only [List.length_set,hlen], ⟨[], by simp⟩, by simp⟩
 | m + 1, i, hi, tm, H, hlen, h1, h2, h15, h16, h17 => by
  have hlt : i < xs.length := by omega
  have hltb : i < ys.length := by omega
  obtain ⟨a, hai, ea⟩ := drop_cons hlt
  obtain ⟨b, hbi, eb⟩ := drop_cons hltb
  have hs2 : s = 2 := by
   rcases hs with hs | hs
   ·subst hs; simp at hlt
   ·exact hs
  have hs2' : s' = 1 := by
   rcases hs' with hs | hs
   ·subst hs; simp at hltb
   ·exact hs
  subst hs2 hs2'
  have hc' : decide ((i : Int) < (xs.length : Int)) = true := decide_eq_true (by omega)
  have hixa := idx_nat (n := xs.length) (i := i) hlt
  have hixb := idx_nat (n := ys.length) (i := i) hltb
  have hga : (xs.map encT)[i]? = some (encT a) := by rw [List.getElem?_map, hai]; rfl
  have hgb : (intsD ys)[i]? = some [.int .i64 b] := by unfold intsD; rw [List.getElem?_map, hbi]; rfl
  have hlb : (intsD ys).length = ys.length := by simp [intsD]
  have hcall := fun H => s110 a b H
  have hwr := wrap_nat (i := i) (by omega)
  have key := l109 xs ys o 2 1 hs hs' hl hn m (i + 1) (by omega)
  rw [ea, eb, l109_0]
  simp only [kindsX]
  generalize decide (a.k = b) = sb at *
  obtain ⟨k1, s1, ts1⟩ := a
  simp only [encT] at hcall hga hgb
  cases sb with
  | true =>
   cases o <;> simp only [slV] at h15 <;>
   ·simp only [b109_0,B0,B1,B2,List.replicate,reduceCtorEq,lenA,seval,hlen,h1,h2,h15,h16,h17,List.length_map,hc',hixa,hixb,hga,hgb,hlb,hcall,hwr,Bool.true_and]
    refine ex_imp (key _ _ ?_ ?_ ?_ ?_ ?_ ?_) ?_
    iterate 6 simp only [B3,seval,hlen,h1,h2,h15,h16,slV]
    rintro e tm' H' ⟨a1, ⟨M, rfl⟩, a3⟩
    exact ⟨a1, ⟨_, List.append_assoc ..⟩, a3⟩
  | false =>
   cases o <;> simp only [slV] at h15 <;>
   ·simp only [b109_0,B0,B1,B2,List.replicate,reduceCtorEq,lenA,seval,hlen,h1,h2,h15,h16,h17,List.length_map,hc',hixa,hixb,hga,hgb,hlb,hcall,hwr,Bool.false_and]
    exact ⟨_, _, _, rfl, by simp only [List.length_set,hlen], ⟨_, rfl⟩, by simp only [B3,seval,hlen,true_and,and_true,and_self,or_true]⟩
theorem s109 (xs : List KT) (ys : List Int) (o : Option Nat) (s s' : Nat) (hs : xs = [] ∨ s = 2) (hs' : ys = [] ∨ s' = 1) (hn : xs.length ≤ 1000) (H : Heap) :
  L 109 [slV o s (xs.map encT), .im (.sl s' (intsD ys)), .clo 110 []] H = some (.im (.bool (kindsX xs ys)), H) := by
 rw [leq F109]
 obtain ⟨hlen, hg⟩ := enter_at (f := f109) (args := [slV o s (xs.map encT), .im (.sl s' (intsD ys)), .clo 110 []]) (Nat.le_of_ble_eq_true rfl)
 have h0 := hg 0 _ rfl
 have h1 := hg 1 _ rfl
 have h2 := hg 2 _ rfl
 generalize enterA f109 [slV o s (xs.map encT), .im (.sl s' (intsD ys)), .clo 110 []] = tm at *
 change tm.length = 32 at hlen
 have hlb : (intsD ys).length = ys.length := by simp [intsD]
 by_cases hl : xs.length = ys.length
 ·have hdl : decide ((xs.length : Int) = (ys.length : Int)) = true := decide_eq_true (by omega)
  have key := l109 xs ys o s s' hs hs' hl hn xs.length 0 (by omega)
  have z : ((0 : Nat) : Int) = 0 := rfl
  simp only [z,List.drop_zero] at key
  cases o <;> simp only [slV] at h0 key <;>
  ·simp only [f109,e109_0,B0,B1,B2,List.replicate,reduceCtorEq,lenA,seval,hlen,h0,h1,h2,List.length_map,hlb,hdl]
   generalize hr : thenL _ _ = r
   refine Exists.elim (thenL_inv hr (key _ _ ?_ ?_ ?_ ?_ ?_ ?_)) ?_
   iterate 6 simp only [B3,seval,hlen,h1,h2]
   clear hr key
   rintro e ⟨tm1, H1, ⟨hl1, ⟨M, rfl⟩, hm⟩, rfl⟩
   rcases hm with ⟨he, rfl⟩ | ⟨he, rfl, g4⟩
   ·rw [he]
    simp only [B0,B1,B2,List.replicate,reduceCtorEq,lenA,seval,endK,resA,tupA,hl1,leave_app]
   ·rw [he]
    simp only [B0,B1,B2,List.replicate,reduceCtorEq,lenA,seval,endK,resA,tupA,hl1,g4,leave_app]
 ·have hdl : decide ((xs.length : Int) = (ys.length : Int)) = false := decide_eq_false (by omega)
  rw [kinds_len hl]
  cases o <;> simp only [slV] at h0 <;> simp only [f109,B0,B1,B2,List.replicate,reduceCtorEq,lenA,seval,endK,resA,tupA,hlen,h0,h1,h2,List.length_map,hlb,hdl,leave_same]
theorem s82 (xs : List KT) (ys : List Int) (o : Option Nat) (s s' : Nat) (hs : xs = [] ∨ s = 2) (hs' : ys = [] ∨ s' = 1) (hn : xs.length ≤ 1000) (H : Heap) :
  L 82 [slV o s (xs.map encT), .im (.sl s' (intsD ys))] H = some (.im (.bool (kindsX xs ys)), H) := by
 have c1 := fun H => s109 xs ys o s s' hs hs' hn H
 rw [leq F82]
 obtain ⟨hlen, hg⟩ := enter_at (f := f82) (args := [slV o s (xs.map encT), .im (.sl s' (intsD ys))]) (Nat.le_of_ble_eq_true rfl)
 have h0 := hg 0 _ rfl
 have h1 := hg 1 _ rfl
 generalize enterA f82 [slV o s (xs.map encT), .im (.sl s' (intsD ys))] = tm at *
 change tm.length = 8 at hlen
 simp only [f82,B0,B1,B2,List.replicate,reduceCtorEq,lenA,seval,endK,resA,tupA,hlen,h0,h1,c1,leave_same]
end Go.Abs.Seat
end
section
set_option linter.unusedVariables false
set_option linter.unusedSimpArgs false
namespace Go.Abs.Seat
open Go.Proofs
theorem l80v (args : List KT) (tok : Nat) (hn : args.length ≤ 9223372036854775807) (p : KT → Bool) (g : FuncId) (cap : List AV) (H : Heap)
  (hc : ∀ a ∈ args, L g ([.im (.agg (encT a))] ++ cap) H = some (.im (.bool (p a)), H)) :
  ∀ (m i : Nat), i + m = args.length → ∀ tm : List AV, tm.length = 19 → tm.getD 0 undefA = .asl 2 (args.map encT) tok → tm.getD 1 undefA = .clo g cap → tm.getD 6 undefA = .asl 2 (args.map encT) tok → tm.getD 7 undefA = .im (.int .i64 args.length) → tm.getD 8 undefA = .im (.int .i64 i) →
  ∃ e tm' H', Λ c80_0 tm H = some (e, tm', H') ∧ tm'.length = 19 ∧ H' = H ∧ match (args.drop i).findIdx? p with
   | some j => e = .ret ∧ tm'.getD 4 undefA = .im (.int .i64 ((i + j : Nat) : Int))
   | none => e = .exit 0
 | 0, i, hi, tm, hlen, h0, h1, h6, h7, h8 => by
  have e : args.drop i = [] := by rw [List.drop_eq_nil_iff]; omega
  have hc : decide ((i : Int) < (args.length : Int)) = false := by simp; omega
  rw [e, l80_0]
  simp only [b80_0,B0,B2,exec0,xreg,xops,aopc,endK,resA,tupA,List.replicate,binA,isShift,binInt,reduceCtorEq,lenA,seval,hlen,h0,h1,h6,h7,h8,hc,List.findIdx?_nil]
  exact ⟨_, _, _, rfl, by simp only [List.length_set,hlen], rfl, rfl⟩
 | m + 1, i, hi, tm, hlen, h0, h1, h6, h7, h8 => by
  have hlt : i < args.length := by omega
  obtain ⟨w, hwi⟩ : ∃ w, args[i]? = some w := ⟨_, List.getElem?_eq_getElem hlt⟩
  have e : args.drop i = w :: args.drop (i + 1) := by
   rw [List.drop_eq_getElem_cons hlt]
   congr 1
   rw [List.getElem?_eq_getElem hlt] at hwi
   exact Option.some.inj hwi
  have hc' : decide ((i : Int) < (args.length : Int)) = true := by simp; omega
  have hix := idx_nat (n := (args.map encT).length) (i := i) (by simpa using hlt)
  have hget : (args.map encT)[i]? = some (encT w) := by rw [List.getElem?_map, hwi]; rfl
  have hcall := hc w (List.mem_of_getElem? hwi)
  obtain ⟨k, s', ts⟩ := w
  have hwr := wrap_nat (i := i) (by omega)
  have key := l80v args tok hn p g cap H hc m (i + 1) (by omega)
  rw [e, List.findIdx?_cons, l80_0]
  simp only [encT,List.cons_append,List.nil_append] at hcall hget
  cases hp : p (.mk k s' ts) with
  | true =>
   simp only [hp] at hcall
   simp only [b80_0,B0,B2,exec0,xreg,xops,aopc,endK,resA,tupA,List.replicate,binA,isShift,binInt,reduceCtorEq,lenA,seval,hlen,h0,h1,h6,h7,h8,hc',hix,hget,hcall]
   exact ⟨_, _, _, rfl, by simp only [List.length_set,hlen], rfl, rfl, by simp only [B3,seval,hlen]⟩
  | false =>
   simp only [hp] at hcall
   simp only [b80_0,B0,B2,exec0,xreg,xops,aopc,endK,resA,tupA,List.replicate,binA,isShift,binInt,reduceCtorEq,lenA,seval,hlen,h0,h1,h6,h7,h8,hc',hix,hget,hcall,hwr]
   cases hf : (args.drop (i + 1)).findIdx? p with
   | none =>
    simp only [hf] at key
    simp only [Option.map_none]
    apply key
    all_goals simp only [B3,seval,hlen,h0,h1,h6,h7]
   | some j =>
    simp only [hf] at key
    simp only [Option.map_some]
    rw [show i + (j + 1) = i + 1 + j by omega]
    apply key
    all_goals simp only [B3,seval,hlen,h0,h1,h6,h7]
theorem s80v (args : List KT) (tok : Nat) (hn : args.length ≤ 9223372036854775807) (p : KT → Bool) (g : FuncId) (cap : List AV) (H : Heap)
  (hc : ∀ a ∈ args, L g ([.im (.agg (encT a))] ++ cap) H = some (.im (.bool (p a)), H)) :
  L 80 [.asl 2 (args.map encT) tok, .clo g cap] H = some (.im (.int .i64 (match args.findIdx? p with | some j => ((j : Nat) : Int) | none => -1)), H) := by
 rw [leq F80]
 obtain ⟨hlen, ha⟩ := enter_at (f := f80) (args := [.asl 2 (args.map encT) tok, .clo g cap]) (Nat.le_of_ble_eq_true rfl)
 have h0 := ha 0 _ rfl
 have h1 := ha 1 _ rfl
 generalize enterA f80 [.asl 2 (args.map encT) tok, .clo g cap] = tm at *
 change tm.length = 19 at hlen
 have key := l80v args tok hn p g cap H hc args.length 0 (by omega)
 have z : ((0 : Nat) : Int) = 0 := rfl
 simp only [List.drop_zero,Nat.zero_add,z] at key
 simp only [f80,e80_0,B0,B2,exec0,xreg,xops,aopc,endK,resA,tupA,List.replicate,binA,isShift,binInt,reduceCtorEq,lenA,seval,hlen,h0,h1]
 refine thenL_of (key _ ?_ ?_ ?_ ?_ ?_ ?_) ?_
 iterate 6 simp only [B3,seval,hlen,h0,h1,List.length_map]
 rintro e tm' H' ⟨hl', rfl, hm⟩
 cases hf : args.findIdx? p with
 | none =>
  simp only [hf] at hm
  subst hm
  simp only [B0,B2,exec0,xreg,xops,aopc,endK,resA,tupA,List.replicate,binA,isShift,binInt,reduceCtorEq,lenA,seval,hl',leave_same]
 | some j =>
  simp only [hf] at hm
  obtain ⟨rfl, h4⟩ := hm
  simp only [B0,B2,exec0,xreg,xops,aopc,endK,resA,tupA,List.replicate,binA,isShift,binInt,reduceCtorEq,lenA,seval,hl',leave_same,h4]
theorem s48v (args : List KT) (tok : Nat) (hn : args.length ≤ 9223372036854775807) (p : KT → Bool) (g : FuncId) (cap : List AV) (H : Heap)
  (hc : ∀ a ∈ args, L g ([.im (.agg (encT a))] ++ cap) H = some (.im (.bool (p a)), H)) :
  L 48 [.asl 2 (args.map encT) tok, .clo g cap] H = some (.im (.bool (args.any p)), H) := by
 have h102 := s80v args tok hn p g cap H hc
 rw [leq F48]
 obtain ⟨hlen, ha⟩ := enter_at (f := f48) (args := [.asl 2 (args.map encT) tok, .clo g cap]) (Nat.le_of_ble_eq_true rfl)
 have h0 := ha 0 _ rfl
 have h1 := ha 1 _ rfl
 generalize enterA f48 [.asl 2 (args.map encT) tok, .clo g cap] = tm at *
 change tm.length = 9 at hlen
 simp only [f48,B0,B2,exec0,xreg,xops,aopc,endK,resA,tupA,List.replicate,binA,isShift,binInt,reduceCtorEq,lenA,seval,hlen,h0,h1,h102,leave_same]
 congr 4
 cases hf : args.findIdx? p with
 | none =>
  rw [List.findIdx?_eq_none_iff] at hf
  have : args.any p = false := by simpa using hf
  rw [this]; rfl
 | some j =>
  have : args.any p = true := by
   rw [List.any_eq_true]
   obtain ⟨h1, h2, _⟩ := List.findIdx?_eq_some_iff_getElem.1 hf
   exact ⟨_, List.getElem_mem h1, h2⟩
  rw [this]
  simp
end Go.Abs.Seat
end
section
set_option linter.unusedVariables false
set_option linter.unusedSimpArgs false
namespace Go.Abs.Seat
open Go.Proofs
variable {R : Type} {op : List UInt8} {tm : List AV} {H : Heap} (K : AEx → List AV → Heap → Option R)
def Same (l : List Nat) (tm tm' : List AV) : Prop := ∀ j ∈ l, tm'.getD j undefA = tm.getD j undefA
theorem Same.trans {l : List Nat} {a b c : List AV} (h : Same l a b) (k : Same l b c) : Same l a c := fun j hj => (k j hj).trans (h j hj)
def h55_0 : ACode := .ops [oo 4 (.alloc none [.im (.int .i64 0),.nils]),mc 5 (cb false)] []
def h55_1 : ACode := .ops [mv 13 1,oo 14 (.indexSl 2 (.t 13) (ci 0)),ld 15 2 14,oo 6 (.alloc none [.im (.int .i64 0),.nils]),st 2 6 15] []
def h55_2 : ACode := .ops [mv 16 1,mv 17 1,oo 18 (.lenSl (.t 17)),bi 19 .sub 18 (ci 1),oo 20 (.indexSl 2 (.t 16) (.t 19)),ld 21 2 20,oo 7 (.alloc none [.im (.int .i64 0),.nils]),st 2 7 21] []
def h55_3 : ACode := .ops [ld 22 2 6,ld 23 2 7,oo 24 (.call false (cl 16) [.t 22,.t 23]),mv 8 24] []
def h55_4 : ACode := .ops [ld 26 2 6,oo 27 (.call false (cl 36) [.t 26,ci 7,ci 0]),mv 25 27,ex 28 0 25,ex 29 1 25,oo 9 (.alloc none [.im (.int .i64 0),.nils]),st 2 9 28,mv 10 29] []
def h55_5 : ACode := .ops [mv 30 0] []
def x55_16 : ACode := .skip
def g55_15 : ACode := .ops [bi 157 .eql 30 (cs [115,111,109,101]),mv 156 157] []
def a55_15 : ACode := sq [mv 158 1,oo 159 (.build [.im (.int .i64 0),.nils] [(0,(1,ci 9)),(1,(1,.t 158))]),st 2 4 159,mc 5 (cb true)] .ret
def x55_15 : ACode := .seq g55_15 (.cond (.t 156) a55_15 x55_16)
def g55_14 : ACode := .ops [bi 150 .eql 30 (cs [114,97,110,103,101]),mv 149 150] []
def a55_14 : ACode := .seq (.ops [mv 151 1,oo 152 (.build [.im (.int .i64 0),.nils] [(0,(1,ci 7)),(1,(1,.t 151))]),fa 153 0 6,l0 154 153,bi 155 .eql 154 (ci 2),st 2 4 152,mv 5 155] [(3,5)]) .ret
def x55_14 : ACode := .seq g55_14 (.cond (.t 149) a55_14 x55_15)
def g55_13 : ACode := .ops [bi 139 .eql 30 (cs [97,116]),mv 138 139] []
def a55_13 : ACode := .seq (.ops [ld 140 2 9,oo 141 (.bslice false 2 1 [.im (.int .i64 0),.nils] [(0,.t 140)]),oo 142 (.build [.im (.int .i64 0),.nils] [(0,(1,ci 9)),(1,(1,.t 141))]),mv 143 10,mv 144 143,og 145 (.fieldAddr 0 (.t 7)) 144 true,og 146 (.load none (.t 145)) 144 true,og 147 (.bin .eql (.t 146) (ci 2)) 144 true,pa 148 144 147,st 2 4 142,mv 5 148] [(6,9)]) .ret
def x55_13 : ACode := .seq g55_13 (.cond (.t 138) a55_13 x55_14)
def g55_12 : ACode := .ops [bi 135 .eql 30 (cs [108,101,110]),mv 134 135] []
def a55_12 : ACode := sq [oo 136 (.call false (cl 49) [ci 2]),mv 137 10,st 2 4 136,mv 5 137] .ret
def x55_12 : ACode := .seq g55_12 (.cond (.t 134) a55_12 x55_13)
def g55_11 : ACode := .ops [bi 131 .eql 30 (cs [115,111,114,116]),mv 130 131] []
def a55_11 : ACode := sq [ld 132 2 6,mv 133 10,st 2 4 132,mv 5 133] .ret
def x55_11 : ACode := .seq g55_11 (.cond (.t 130) a55_11 x55_12)
def g55_10 : ACode := .ops [bi 124 .eql 30 (cs [99,111,110,99,97,116]),mv 123 124] []
def a55_10 : ACode := sq [ld 125 2 6,mv 126 10,mv 127 126,og 128 (.move (.t 8)) 127 true,pa 129 127 128,st 2 4 125,mv 5 129] .ret
def x55_10 : ACode := .seq g55_10 (.cond (.t 123) a55_10 x55_11)
def g55_9 : ACode := .ops [bi 110 .eql 30 (cs [99,111,110,115]),mv 109 110] []
def a55_9 : ACode := sq [ld 112 2 7,oo 113 (.call false (cl 36) [.t 112,ci 7,ci 0]),mv 111 113,ex 114 0 111,ex 115 1 111,oo 11 (.alloc none [.im (.int .i64 0),.nils]),st 2 11 114,mv 12 115] (.seq (.ops [ld 116 2 7,mv 117 12,mv 118 117,og 119 (.load (some 2) (.t 6)) 118 true,og 120 (.load (some 2) (.t 11)) 118 true,og 121 (.call false (cl 16) [.t 119,.t 120]) 118 true,pa 122 118 121,st 2 4 116,mv 5 122] [(0,5)]) .ret)
def x55_9 : ACode := .seq g55_9 (.cond (.t 109) a55_9 x55_10)
def g55_8 : ACode := .ops [bi 101 .eql 30 (cs [108,105,115,116]),mv 100 101] []
def a55_8 : ACode := sq [mv 102 1,oo 103 (.slice 2 (.t 102) none (some (ci 1)) none),oo 104 (.build [.im (.int .i64 0),.nils] [(0,(1,ci 7)),(1,(1,.t 103))]),mv 105 1,oo 106 (.mkfunc 83 [.t 6]),oo 107 (.call false (cl 48) [.t 105,.t 106]),oo 108 (.un .not (.t 107)),st 2 4 104,mv 5 108] .ret
def x55_8 : ACode := .seq g55_8 (.cond (.t 100) a55_8 x55_9)
def g55_7 : ACode := .ops [bi 97 .eql 30 (cs [112,97,105,114]),mv 96 97] []
def a55_7 : ACode := sq [mv 98 1,oo 99 (.build [.im (.int .i64 0),.nils] [(0,(1,ci 6)),(1,(1,.t 98))]),st 2 4 99,mc 5 (cb true)] .ret
def x55_7 : ACode := .seq g55_7 (.cond (.t 96) a55_7 x55_8)
def g55_6 : ACode := .ops [bi 84 .eql 30 (cs [105,102]),mv 83 84] []
def a55_6 : ACode := .seq (.ops [ld 85 2 7,fa 86 0 6,l0 87 86,bi 88 .eql 87 (ci 1),mv 89 88,og 90 (.move (.t 1)) 89 true,og 91 (.indexSl 2 (.t 90) (ci 1)) 89 true,og 92 (.load (some 2) (.t 91)) 89 true,og 93 (.load (some 2) (.t 7)) 89 true,og 94 (.call false (cl 16) [.t 92,.t 93]) 89 true,pa 95 89 94,st 2 4 85,mv 5 95] [(0,9)]) .ret
def x55_6 : ACode := .seq g55_6 (.cond (.t 83) a55_6 x55_7)
def g55_5 : ACode := .ops [bi 78 .eql 30 (cs [110,111,116]),mv 77 78] []
def a55_5 : ACode := .seq (.ops [ld 79 2 6,fa 80 0 6,l0 81 80,bi 82 .eql 81 (ci 1),st 2 4 79,mv 5 82] [(2,4)]) .ret
def x55_5 : ACode := .seq g55_5 (.cond (.t 77) a55_5 x55_6)
def g55_4 : ACode := sq [bi 71 .eql 30 (cs [97,110,100]),mv 70 71] (.cond (.t 70) .skip (.ops [bi 72 .eql 30 (cs [111,114]),mv 70 72] []))
def a55_4 : ACode := .seq (.ops [ld 73 2 6,mv 74 1,oo 75 (.bslice false 1 2 [.im (.int .i64 0)] [(0,ci 1),(1,ci 1)]),oo 76 (.call false (cl 82) [.t 74,.t 75]),st 2 4 73,mv 5 76] [(0,3)]) .ret
def x55_4 : ACode := .seq g55_4 (.cond (.t 70) a55_4 x55_5)
def g55_3 : ACode := sq [bi 66 .eql 30 (cs [101,113]),mv 65 66] (.cond (.t 65) .skip (.ops [bi 67 .eql 30 (cs [108,116]),mv 65 67] []))
def a55_3 : ACode := sq [oo 68 (.call false (cl 49) [ci 1]),mv 69 8,st 2 4 68,mv 5 69] .ret
def x55_3 : ACode := .seq g55_3 (.cond (.t 65) a55_3 x55_4)
def g55_2 : ACode := sq [bi 59 .eql 30 (cs [100,105,118]),mv 58 59] (.cond (.t 58) .skip (.ops [bi 60 .eql 30 (cs [109,111,100]),mv 58 60] []))
def a55_2 : ACode := .seq (.ops [ld 61 2 6,mv 62 1,oo 63 (.bslice false 1 2 [.im (.int .i64 0)] [(0,ci 2),(1,ci 2)]),oo 64 (.call false (cl 82) [.t 62,.t 63]),st 2 4 61,mv 5 64] [(0,3)]) .ret
def x55_2 : ACode := .seq g55_2 (.cond (.t 58) a55_2 x55_3)
def g55_1 : ACode := .ops [bi 48 .eql 30 (cs [110,101,103]),mv 47 48] []
def a55_1 : ACode := .seq (.ops [ld 49 2 6,fa 50 0 6,l0 51 50,bi 52 .eql 51 (ci 2),mv 53 52,og 54 (.fieldAddr 0 (.t 6)) 53 false,og 55 (.load none (.t 54)) 53 false,og 56 (.bin .eql (.t 55) (ci 5)) 53 false,po 57 53 56,st 2 4 49,mv 5 57] [(6,9)]) .ret
def x55_1 : ACode := .seq g55_1 (.cond (.t 47) a55_1 x55_2)
def g55_0 : ACode := sq [bi 32 .eql 30 (cs [97,100,100]),mv 31 32] (.cond (.t 31) .skip (sq [bi 33 .eql 30 (cs [115,117,98]),mv 31 33] (.cond (.t 31) .skip (.ops [bi 34 .eql 30 (cs [109,117,108]),mv 31 34] []))))
def a55_0 : ACode := .seq (.ops [ld 35 2 6,mv 36 8,mv 37 36,og 38 (.fieldAddr 0 (.t 6)) 37 true,og 39 (.load none (.t 38)) 37 true,og 40 (.bin .eql (.t 39) (ci 2)) 37 true,og 41 (.move (.t 40)) 37 true,og 42 (.fieldAddr 0 (.t 6)) 41 false,og 43 (.load none (.t 42)) 41 false,og 44 (.bin .eql (.t 43) (ci 5)) 41 false,og 45 (.pick (.t 41) (cb true) (.t 44)) 37 true,pa 46 37 45,st 2 4 35,mv 5 46] [(8,12)]) .ret
def x55_0 : ACode := .seq g55_0 (.cond (.t 31) a55_0 x55_1)
def lits55 : List (List (List UInt8)) := [[[97, 100, 100], [115, 117, 98], [109, 117, 108]], [[110, 101, 103]], [[100, 105, 118], [109, 111, 100]], [[101, 113], [108, 116]], [[97, 110, 100], [111, 114]], [[110, 111, 116]], [[105, 102]], [[112, 97, 105, 114]], [[108, 105, 115, 116]], [[99, 111, 110, 115]], [[99, 111, 110, 99, 97, 116]], [[115, 111, 114, 116]], [[108, 101, 110]], [[97, 116]], [[114, 97, 110, 103, 101]], [[115, 111, 109, 101]]]
theorem n55_0 (e0 : decide (op = [97, 100, 100]) = false) (e1 : decide (op = [115, 117, 98]) = false) (e2 : decide (op = [109, 117, 108]) = false) (hlen : tm.length = 165) (hs : tm.getD 30 undefA = .im (.str op)) :
  ∃ tm', exec0 L Λ x55_0 tm H K = exec0 L Λ x55_1 tm' H K ∧ tm'.length = 165 ∧ Same [0,1,4,5,6,7,8,9,10,30] tm tm' := by
 simp only [x55_0,g55_0,B0,B1,B2,List.replicate,reduceCtorEq,lenA,seval,hlen,hs,e0,e1,e2]
 refine ⟨_, rfl, by simp only [List.length_set,hlen], fun r hr => ?_⟩
 simp only [List.mem_cons,List.not_mem_nil,or_false] at hr
 rcases hr with rfl | rfl | rfl | rfl | rfl | rfl | rfl | rfl | rfl | rfl <;> simp only [B3,seval,hlen]
theorem n55_1 (e0 : decide (op = [110, 101, 103]) = false) (hlen : tm.length = 165) (hs : tm.getD 30 undefA = .im (.str op)) :
  ∃ tm', exec0 L Λ x55_1 tm H K = exec0 L Λ x55_2 tm' H K ∧ tm'.length = 165 ∧ Same [0,1,4,5,6,7,8,9,10,30] tm tm' := by
 simp only [x55_1,g55_1,B0,B1,B2,List.replicate,reduceCtorEq,lenA,seval,hlen,hs,e0]
 refine ⟨_, rfl, by simp only [List.length_set,hlen], fun r hr => ?_⟩
 simp only [List.mem_cons,List.not_mem_nil,or_false] at hr
 rcases hr with rfl | rfl | rfl | rfl | rfl | rfl | rfl | rfl | rfl | rfl <;> simp only [B3,seval,hlen]
theorem n55_2 (e0 : decide (op = [100, 105, 118]) = false) (e1 : decide (op = [109, 111, 100]) = false) (hlen : tm.length = 165) (hs : tm.getD 30 undefA = .im (.str op)) :
  ∃ tm', exec0 L Λ x55_2 tm H K = exec0 L Λ x55_3 tm' H K ∧ tm'.length = 165 ∧ Same [0,1,4,5,6,7,8,9,10,30] tm tm' := by
 simp only [x55_2,g55_2,B0,B1,B2,List.replicate,reduceCtorEq,lenA,seval,hlen,hs,e0,e1]
 refine ⟨_, rfl, by simp only [List.length_set,hlen], fun r hr => ?_⟩
 simp only [List.mem_cons,List.not_mem_nil,or_false] at hr
 rcases hr with rfl | rfl | rfl | rfl | rfl | rfl | rfl | rfl | rfl | rfl <;> simp only [B3,seval,hlen]
theorem n55_3 (e0 : decide (op = [101, 113]) = false) (e1 : decide (op = [108, 116]) = false) (hlen : tm.length = 165) (hs : tm.getD 30 undefA = .im (.str op)) :
  ∃ tm', exec0 L Λ x55_3 tm H K = exec0 L Λ x55_4 tm' H K ∧ tm'.length = 165 ∧ Same [0,1,4,5,6,7,8,9,10,30] tm tm' := by
 simp only [x55_3,g55_3,B0,B1,B2,List.replicate,reduceCtorEq,lenA,seval,hlen,hs,e0,e1]
 refine ⟨_, rfl, by simp only [List.length_set,hlen], fun r hr => ?_⟩
 simp only [List.mem_cons,List.not_mem_nil,or_false] at hr
 rcases hr with rfl | rfl | rfl | rfl | rfl | rfl | rfl | rfl | rfl | rfl <;> simp only [B3,seval,hlen]
theorem n55_4 (e0 : decide (op = [97, 110, 100]) = false) (e1 : decide (op = [111, 114]) = false) (hlen : tm.length = 165) (hs : tm.getD 30 undefA = .im (.str op)) :
  ∃ tm', exec0 L Λ x55_4 tm H K = exec0 L Λ x55_5 tm' H K ∧ tm'.length = 165 ∧ Same [0,1,4,5,6,7,8,9,10,30] tm tm' := by
 simp only [x55_4,g55_4,B0,B1,B2,List.replicate,reduceCtorEq,lenA,seval,hlen,hs,e0,e1]
 refine ⟨_, rfl, by simp only [List.length_set,hlen], fun r hr => ?_⟩
 simp only [List.mem_cons,List.not_mem_nil,or_false] at hr
 rcases hr with rfl | rfl | rfl | rfl | rfl | rfl | rfl | rfl | rfl | rfl <;> simp only [B3,seval,hlen]
theorem n55_5 (e0 : decide (op = [110, 111, 116]) = false) (hlen : tm.length = 165) (hs : tm.getD 30 undefA = .im (.str op)) :
  ∃ tm', exec0 L Λ x55_5 tm H K = exec0 L Λ x55_6 tm' H K ∧ tm'.length = 165 ∧ Same [0,1,4,5,6,7,8,9,10,30] tm tm' := by
 simp only [x55_5,g55_5,B0,B1,B2,List.replicate,reduceCtorEq,lenA,seval,hlen,hs,e0]
 refine ⟨_, rfl, by simp only [List.length_set,hlen], fun r hr => ?_⟩
 simp only [List.mem_cons,List.not_mem_nil,or_false] at hr
 rcases hr with rfl | rfl | rfl | rfl | rfl | rfl | rfl | rfl | rfl | rfl <;> simp only [B3,seval,hlen]
theorem n55_6 (e0 : decide (op = [105, 102]) = false) (hlen : tm.length = 165) (hs : tm.getD 30 undefA = .im (.str op)) :
  ∃ tm', exec0 L Λ x55_6 tm H K = exec0 L Λ x55_7 tm' H K ∧ tm'.length = 165 ∧ Same [0,1,4,5,6,7,8,9,10,30] tm tm' := by
 simp only [x55_6,g55_6,B0,B1,B2,List.replicate,reduceCtorEq,lenA,seval,hlen,hs,e0]
 refine ⟨_, rfl, by simp only [List.length_set,hlen], fun r hr => ?_⟩
 simp only [List.mem_cons,List.not_mem_nil,or_false] at hr
 rcases hr with rfl | rfl | rfl | rfl | rfl | rfl | rfl | rfl | rfl | rfl <;> simp only [B3,seval,hlen]
theorem n55_7 (e0 : decide (op = [112, 97, 105, 114]) = false) (hlen : tm.length = 165) (hs : tm.getD 30 undefA = .im (.str op)) :
  ∃ tm', exec0 L Λ x55_7 tm H K = exec0 L Λ x55_8 tm' H K ∧ tm'.length = 165 ∧ Same [0,1,4,5,6,7,8,9,10,30] tm tm' := by
 simp only [x55_7,g55_7,B0,B1,B2,List.replicate,reduceCtorEq,lenA,seval,hlen,hs,e0]
 refine ⟨_, rfl, by simp only [List.length_set,hlen], fun r hr => ?_⟩
 simp only [List.mem_cons,List.not_mem_nil,or_false] at hr
 rcases hr with rfl | rfl | rfl | rfl | rfl | rfl | rfl | rfl | rfl | rfl <;> simp only [B3,seval,hlen]
theorem n55_8 (e0 : decide (op = [108, 105, 115, 116]) = false) (hlen : tm.length = 165) (hs : tm.getD 30 undefA = .im (.str op)) :
  ∃ tm', exec0 L Λ x55_8 tm H K = exec0 L Λ x55_9 tm' H K ∧ tm'.length = 165 ∧ Same [0,1,4,5,6,7,8,9,10,30] tm tm' := by
 simp only [x55_8,g55_8,B0,B1,B2,List.replicate,reduceCtorEq,lenA,seval,hlen,hs,e0]
 refine ⟨_, rfl, by simp only [List.length_set,hlen], fun r hr => ?_⟩
 simp only [List.mem_cons,List.not_mem_nil,or_false] at hr
 rcases hr with rfl | rfl | rfl | rfl | rfl | rfl | rfl | rfl | rfl | rfl <;> simp only [B3,seval,hlen]
theorem n55_9 (e0 : decide (op = [99, 111, 110, 115]) = false) (hlen : tm.length = 165) (hs : tm.getD 30 undefA = .im (.str op)) :
  ∃ tm', exec0 L Λ x55_9 tm H K = exec0 L Λ x55_10 tm' H K ∧ tm'.length = 165 ∧ Same [0,1,4,5,6,7,8,9,10,30] tm tm' := by
 simp only [x55_9,g55_9,B0,B1,B2,List.replicate,reduceCtorEq,lenA,seval,hlen,hs,e0]
 refine ⟨_, rfl, by simp only [List.length_set,hlen], fun r hr => ?_⟩
 simp only [List.mem_cons,List.not_mem_nil,or_false] at hr
 rcases hr with rfl | rfl | rfl | rfl | rfl | rfl | rfl | rfl | rfl | rfl <;> simp only [B3,seval,hlen]
theorem n55_10 (e0 : decide (op = [99, 111, 110, 99, 97, 116]) = false) (hlen : tm.length = 165) (hs : tm.getD 30 undefA = .im (.str op)) :
  ∃ tm', exec0 L Λ x55_10 tm H K = exec0 L Λ x55_11 tm' H K ∧ tm'.length = 165 ∧ Same [0,1,4,5,6,7,8,9,10,30] tm tm' := by
 simp only [x55_10,g55_10,B0,B1,B2,List.replicate,reduceCtorEq,lenA,seval,hlen,hs,e0]
 refine ⟨_, rfl, by simp only [List.length_set,hlen], fun r hr => ?_⟩
 simp only [List.mem_cons,List.not_mem_nil,or_false] at hr
 rcases hr with rfl | rfl | rfl | rfl | rfl | rfl | rfl | rfl | rfl | rfl <;> simp only [B3,seval,hlen]
theorem n55_11 (e0 : decide (op = [115, 111, 114, 116]) = false) (hlen : tm.length = 165) (hs : tm.getD 30 undefA = .im (.str op)) :
  ∃ tm', exec0 L Λ x55_11 tm H K = exec0 L Λ x55_12 tm' H K ∧ tm'.length = 165 ∧ Same [0,1,4,5,6,7,8,9,10,30] tm tm' := by
 simp only [x55_11,g55_11,B0,B1,B2,List.replicate,reduceCtorEq,lenA,seval,hlen,hs,e0]
 refine ⟨_, rfl, by simp only [List.length_set,hlen], fun r hr => ?_⟩
 simp only [List.mem_cons,List.not_mem_nil,or_false] at hr
 rcases hr with rfl | rfl | rfl | rfl | rfl | rfl | rfl | rfl | rfl | rfl <;> simp only [B3,seval,hlen]
theorem n55_12 (e0 : decide (op = [108, 101, 110]) = false) (hlen : tm.length = 165) (hs : tm.getD 30 undefA = .im (.str op)) :
  ∃ tm', exec0 L Λ x55_12 tm H K = exec0 L Λ x55_13 tm' H K ∧ tm'.length = 165 ∧ Same [0,1,4,5,6,7,8,9,10,30] tm tm' := by
 simp only [x55_12,g55_12,B0,B1,B2,List.replicate,reduceCtorEq,lenA,seval,hlen,hs,e0]
 refine ⟨_, rfl, by simp only [List.length_set,hlen], fun r hr => ?_⟩
 simp only [List.mem_cons,List.not_mem_nil,or_false] at hr
 rcases hr with rfl | rfl | rfl | rfl | rfl | rfl | rfl | rfl | rfl | rfl <;> simp only [B3,seval,hlen]
theorem n55_13 (e0 : decide (op = [97, 116]) = false) (hlen : tm.length = 165) (hs : tm.getD 30 undefA = .im (.str op)) :
  ∃ tm', exec0 L Λ x55_13 tm H K = exec0 L Λ x55_14 tm' H K ∧ tm'.length = 165 ∧ Same [0,1,4,5,6,7,8,9,10,30] tm tm' := by
 simp only [x55_13,g55_13,B0,B1,B2,List.replicate,reduceCtorEq,lenA,seval,hlen,hs,e0]
 refine ⟨_, rfl, by simp only [List.length_set,hlen], fun r hr => ?_⟩
 simp only [List.mem_cons,List.not_mem_nil,or_false] at hr
 rcases hr with rfl | rfl | rfl | rfl | rfl | rfl | rfl | rfl | rfl | rfl <;> simp only [B3,seval,hlen]
theorem n55_14 (e0 : decide (op = [114, 97, 110, 103, 101]) = false) (hlen : tm.length = 165) (hs : tm.getD 30 undefA = .im (.str op)) :
  ∃ tm', exec0 L Λ x55_14 tm H K = exec0 L Λ x55_15 tm' H K ∧ tm'.length = 165 ∧ Same [0,1,4,5,6,7,8,9,10,30] tm tm' := by
 simp only [x55_14,g55_14,B0,B1,B2,List.replicate,reduceCtorEq,lenA,seval,hlen,hs,e0]
 refine ⟨_, rfl, by simp only [List.length_set,hlen], fun r hr => ?_⟩
 simp only [List.mem_cons,List.not_mem_nil,or_false] at hr
 rcases hr with rfl | rfl | rfl | rfl | rfl | rfl | rfl | rfl | rfl | rfl <;> simp only [B3,seval,hlen]
theorem n55_15 (e0 : decide (op = [115, 111, 109, 101]) = false) (hlen : tm.length = 165) (hs : tm.getD 30 undefA = .im (.str op)) :
  ∃ tm', exec0 L Λ x55_15 tm H K = exec0 L Λ x55_16 tm' H K ∧ tm'.length = 165 ∧ Same [0,1,4,5,6,7,8,9,10,30] tm tm' := by
 simp only [x55_15,g55_15,B0,B1,B2,List.replicate,reduceCtorEq,lenA,seval,hlen,hs,e0]
 refine ⟨_, rfl, by simp only [List.length_set,hlen], fun r hr => ?_⟩
 simp only [List.mem_cons,List.not_mem_nil,or_false] at hr
 rcases hr with rfl | rfl | rfl | rfl | rfl | rfl | rfl | rfl | rfl | rfl <;> simp only [B3,seval,hlen]
theorem to55_0 (hlen : tm.length = 165) (hs : tm.getD 30 undefA = .im (.str op)) (h : ∀ g ∈ lits55.take 0, ∀ w ∈ g, op ≠ w) :
  ∃ tm', exec0 L Λ x55_0 tm H K = exec0 L Λ x55_0 tm' H K ∧ tm'.length = 165 ∧ Same [0,1,4,5,6,7,8,9,10,30] tm tm' := ⟨tm, rfl, hlen, fun _ _ => rfl⟩
theorem to55_1 (hlen : tm.length = 165) (hs : tm.getD 30 undefA = .im (.str op)) (h : ∀ g ∈ lits55.take 1, ∀ w ∈ g, op ≠ w) :
  ∃ tm', exec0 L Λ x55_0 tm H K = exec0 L Λ x55_1 tm' H K ∧ tm'.length = 165 ∧ Same [0,1,4,5,6,7,8,9,10,30] tm tm' := by
 obtain ⟨t1, h1, h2, h3⟩ := to55_0 (op := op) (H := H) K hlen hs (fun g hg => h g (List.mem_of_mem_take (show g ∈ (lits55.take 1).take 0 by rw [List.take_take]; exact hg)))
 obtain ⟨t2, k1, k2, k3⟩ := n55_0 (op := op) (H := H) K (decide_eq_false (h [[97, 100, 100], [115, 117, 98], [109, 117, 108]] (by simp [lits55]) [97, 100, 100] (by simp))) (decide_eq_false (h [[97, 100, 100], [115, 117, 98], [109, 117, 108]] (by simp [lits55]) [115, 117, 98] (by simp))) (decide_eq_false (h [[97, 100, 100], [115, 117, 98], [109, 117, 108]] (by simp [lits55]) [109, 117, 108] (by simp))) h2 ((h3 30 (by simp)).trans hs)
 exact ⟨t2, h1.trans k1, k2, h3.trans k3⟩
theorem to55_2 (hlen : tm.length = 165) (hs : tm.getD 30 undefA = .im (.str op)) (h : ∀ g ∈ lits55.take 2, ∀ w ∈ g, op ≠ w) :
  ∃ tm', exec0 L Λ x55_0 tm H K = exec0 L Λ x55_2 tm' H K ∧ tm'.length = 165 ∧ Same [0,1,4,5,6,7,8,9,10,30] tm tm' := by
 obtain ⟨t1, h1, h2, h3⟩ := to55_1 (op := op) (H := H) K hlen hs (fun g hg => h g (List.mem_of_mem_take (show g ∈ (lits55.take 2).take 1 by rw [List.take_take]; exact hg)))
 obtain ⟨t2, k1, k2, k3⟩ := n55_1 (op := op) (H := H) K (decide_eq_false (h [[110, 101, 103]] (by simp [lits55]) [110, 101, 103] (by simp))) h2 ((h3 30 (by simp)).trans hs)
 exact ⟨t2, h1.trans k1, k2, h3.trans k3⟩
theorem to55_3 (hlen : tm.length = 165) (hs : tm.getD 30 undefA = .im (.str op)) (h : ∀ g ∈ lits55.take 3, ∀ w ∈ g, op ≠ w) :
  ∃ tm', exec0 L Λ x55_0 tm H K = exec0 L Λ x55_3 tm' H K ∧ tm'.length = 165 ∧ Same [0,1,4,5,6,7,8,9,10,30] tm tm' := by
 obtain ⟨t1, h1, h2, h3⟩ := to55_2 (op := op) (H := H) K hlen hs (fun g hg => h g (List.mem_of_mem_take (show g ∈ (lits55.take 3).take 2 by rw [List.take_take]; exact hg)))
 obtain ⟨t2, k1, k2, k3⟩ := n55_2 (op := op) (H := H) K (decide_eq_false (h [[100, 105, 118], [109, 111, 100]] (by simp [lits55]) [100, 105, 118] (by simp))) (decide_eq_false (h [[100, 105, 118], [109, 111, 100]] (by simp [lits55]) [109, 111, 100] (by simp))) h2 ((h3 30 (by simp)).trans hs)
 exact ⟨t2, h1.trans k1, k2, h3.trans k3⟩
theorem to55_4 (hlen : tm.length = 165) (hs : tm.getD 30 undefA = .im (.str op)) (h : ∀ g ∈ lits55.take 4, ∀ w ∈ g, op ≠ w) :
  ∃ tm', exec0 L Λ x55_0 tm H K = exec0 L Λ x55_4 tm' H K ∧ tm'.length = 165 ∧ Same [0,1,4,5,6,7,8,9,10,30] tm tm' := by
 obtain ⟨t1, h1, h2, h3⟩ := to55_3 (op := op) (H := H) K hlen hs (fun g hg => h g (List.mem_of_mem_take (show g ∈ (lits55.take 4).take 3 by rw [List.take_take]; exact hg)))
 obtain ⟨t2, k1, k2, k3⟩ := n55_3 (op := op) (H := H) K (decide_eq_false (h [[101, 113], [108, 116]] (by simp [lits55]) [101, 113] (by simp))) (decide_eq_false (h [[101, 113], [108, 116]] (by simp [lits55]) [108, 116] (by simp))) h2 ((h3 30 (by simp)).trans hs)
 exact ⟨t2, h1.trans k1, k2, h3.trans k3⟩
theorem to55_5 (hlen : tm.length = 165) (hs : tm.getD 30 undefA = .im (.str op)) (h : ∀ g ∈ lits55.take 5, ∀ w ∈ g, op ≠ w) :
  ∃ tm', exec0 L Λ x55_0 tm H K = exec0 L Λ x55_5 tm' H K ∧ tm'.length = 165 ∧ Same [0,1,4,5,6,7,8,9,10,30] tm tm' := by
 obtain ⟨t1, h1, h2, h3⟩ := to55_4 (op := op) (H := H) K hlen hs (fun g hg => h g (List.mem_of_mem_take (show g ∈ (lits55.take 5).take 4 by rw [List.take_take]; exact hg)))
 obtain ⟨t2, k1, k2, k3⟩ := n55_4 (op := op) (H := H) K (decide_eq_false (h [[97, 110, 100], [111, 114]] (by simp [lits55]) [97, 110, 100] (by simp))) (decide_eq_false (h [[97, 110, 100], [111, 114]] (by simp [lits55]) [111, 114] (by simp))) h2 ((h3 30 (by simp)).trans hs)
 exact ⟨t2, h1.trans k1, k2, h3.trans k3⟩
theorem to55_6 (hlen : tm.length = 165) (hs : tm.getD 30 undefA = .im (.str op)) (h : ∀ g ∈ lits55.take 6, ∀ w ∈ g, op ≠ w) :
  ∃ tm', exec0 L Λ x55_0 tm H K = exec0 L Λ x55_6 tm' H K ∧ tm'.length = 165 ∧ Same [0,1,4,5,6,7,8,9,10,30] tm tm' := by
 obtain ⟨t1, h1, h2, h3⟩ := to55_5 (op := op) (H := H) K hlen hs (fun g hg => h g (List.mem_of_mem_take (show g ∈ (lits55.take 6).take 5 by rw [List.take_take]; exact hg)))
 obtain ⟨t2, k1, k2, k3⟩ := n55_5 (op := op) (H := H) K (decide_eq_false (h [[110, 111, 116]] (by simp [lits55]) [110, 111, 116] (by simp))) h2 ((h3 30 (by simp)).trans hs)
 exact ⟨t2, h1.trans k1, k2, h3.trans k3⟩
theorem to55_7 (hlen : tm.length = 165) (hs : tm.getD 30 undefA = .im (.str op)) (h : ∀ g ∈ lits55.take 7, ∀ w ∈ g, op ≠ w) :
  ∃ tm', exec0 L Λ x55_0 tm H K = exec0 L Λ x55_7 tm' H K ∧ tm'.length = 165 ∧ Same [0,1,4,5,6,7,8,9,10,30] tm tm' := by
 obtain ⟨t1, h1, h2, h3⟩ := to55_6 (op := op) (H := H) K hlen hs (fun g hg => h g (List.mem_of_mem_take (show g ∈ (lits55.take 7).take 6 by rw [List.take_take]; exact hg)))
 obtain ⟨t2, k1, k2, k3⟩ := n55_6 (op := op) (H := H) K (decide_eq_false (h [[105, 102]] (by simp [lits55]) [105, 102] (by simp))) h2 ((h3 30 (by simp)).trans hs)
 exact ⟨t2, h1.trans k1, k2, h3.trans k3⟩
theorem to55_8 (hlen : tm.length = 165) (hs : tm.getD 30 undefA = .im (.str op)) (h : ∀ g ∈ lits55.take 8, ∀ w ∈ g, op ≠ w) :
  ∃ tm', exec0 L Λ x55_0 tm H K = exec0 L Λ x55_8 tm' H K ∧ tm'.length = 165 ∧ Same [0,1,4,5,6,7,8,9,10,30] tm tm' := by
 obtain ⟨t1, h1, h2, h3⟩ := to55_7 (op := op) (H := H) K hlen hs (fun g hg => h g (List.mem_of_mem_take (show g ∈ (lits55.take 8).take 7 by rw [List.take_take]; exact hg)))
 obtain ⟨t2, k1, k2, k3⟩ := n55_7 (op := op) (H := H) K (decide_eq_false (h [[112, 97, 105, 114]] (by simp [lits55]) [112, 97, 105, 114] (by simp))) h2 ((h3 30 (by simp)).trans hs)
 exact ⟨t2, h1.trans k1, k2, h3.trans k3⟩
theorem to55_9 (hlen : tm.length = 165) (hs : tm.getD 30 undefA = .im (.str op)) (h : ∀ g ∈ lits55.take 9, ∀ w ∈ g, op ≠ w) :
  ∃ tm', exec0 L Λ x55_0 tm H K = exec0 L Λ x55_9 tm' H K ∧ tm'.length = 165 ∧ Same [0,1,4,5,6,7,8,9,10,30] tm tm' := by
 obtain ⟨t1, h1, h2, h3⟩ := to55_8 (op := op) (H := H) K hlen hs (fun g hg => h g (List.mem_of_mem_take (show g ∈ (lits55.take 9).take 8 by rw [List.take_take]; exact hg)))
 obtain ⟨t2, k1, k2, k3⟩ := n55_8 (op := op) (H := H) K (decide_eq_false (h [[108, 105, 115, 116]] (by simp [lits55]) [108, 105, 115, 116] (by simp))) h2 ((h3 30 (by simp)).trans hs)
 exact ⟨t2, h1.trans k1, k2, h3.trans k3⟩
theorem to55_10 (hlen : tm.length = 165) (hs : tm.getD 30 undefA = .im (.str op)) (h : ∀ g ∈ lits55.take 10, ∀ w ∈ g, op ≠ w) :
  ∃ tm', exec0 L Λ x55_0 tm H K = exec0 L Λ x55_10 tm' H K ∧ tm'.length = 165 ∧ Same [0,1,4,5,6,7,8,9,10,30] tm tm' := by
 obtain ⟨t1, h1, h2, h3⟩ := to55_9 (op := op) (H := H) K hlen hs (fun g hg => h g (List.mem_of_mem_take (show g ∈ (lits55.take 10).take 9 by rw [List.take_take]; exact hg)))
 obtain ⟨t2, k1, k2, k3⟩ := n55_9 (op := op) (H := H) K (decide_eq_false (h [[99, 111, 110, 115]] (by simp [lits55]) [99, 111, 110, 115] (by simp))) h2 ((h3 30 (by simp)).trans hs)
 exact ⟨t2, h1.trans k1, k2, h3.trans k3⟩
theorem to55_11 (hlen : tm.length = 165) (hs : tm.getD 30 undefA = .im (.str op)) (h : ∀ g ∈ lits55.take 11, ∀ w ∈ g, op ≠ w) :
  ∃ tm', exec0 L Λ x55_0 tm H K = exec0 L Λ x55_11 tm' H K ∧ tm'.length = 165 ∧ Same [0,1,4,5,6,7,8,9,10,30] tm tm' := by
 obtain ⟨t1, h1, h2, h3⟩ := to55_10 (op := op) (H := H) K hlen hs (fun g hg => h g (List.mem_of_mem_take (show g ∈ (lits55.take 11).take 10 by rw [List.take_take]; exact hg)))
 obtain ⟨t2, k1, k2, k3⟩ := n55_10 (op := op) (H := H) K (decide_eq_false (h [[99, 111, 110, 99, 97, 116]] (by simp [lits55]) [99, 111, 110, 99, 97, 116] (by simp))) h2 ((h3 30 (by simp)).trans hs)
 exact ⟨t2, h1.trans k1, k2, h3.trans k3⟩
theorem to55_12 (hlen : tm.length = 165) (hs : tm.getD 30 undefA = .im (.str op)) (h : ∀ g ∈ lits55.take 12, ∀ w ∈ g, op ≠ w) :
  ∃ tm', exec0 L Λ x55_0 tm H K = exec0 L Λ x55_12 tm' H K ∧ tm'.length = 165 ∧ Same [0,1,4,5,6,7,8,9,10,30] tm tm' := by
 obtain ⟨t1, h1, h2, h3⟩ := to55_11 (op := op) (H := H) K hlen hs (fun g hg => h g (List.mem_of_mem_take (show g ∈ (lits55.take 12).take 11 by rw [List.take_take]; exact hg)))
 obtain ⟨t2, k1, k2, k3⟩ := n55_11 (op := op) (H := H) K (decide_eq_false (h [[115, 111, 114, 116]] (by simp [lits55]) [115, 111, 114, 116] (by simp))) h2 ((h3 30 (by simp)).trans hs)
 exact ⟨t2, h1.trans k1, k2, h3.trans k3⟩
theorem to55_13 (hlen : tm.length = 165) (hs : tm.getD 30 undefA = .im (.str op)) (h : ∀ g ∈ lits55.take 13, ∀ w ∈ g, op ≠ w) :
  ∃ tm', exec0 L Λ x55_0 tm H K = exec0 L Λ x55_13 tm' H K ∧ tm'.length = 165 ∧ Same [0,1,4,5,6,7,8,9,10,30] tm tm' := by
 obtain ⟨t1, h1, h2, h3⟩ := to55_12 (op := op) (H := H) K hlen hs (fun g hg => h g (List.mem_of_mem_take (show g ∈ (lits55.take 13).take 12 by rw [List.take_take]; exact hg)))
 obtain ⟨t2, k1, k2, k3⟩ := n55_12 (op := op) (H := H) K (decide_eq_false (h [[108, 101, 110]] (by simp [lits55]) [108, 101, 110] (by simp))) h2 ((h3 30 (by simp)).trans hs)
 exact ⟨t2, h1.trans k1, k2, h3.trans k3⟩
theorem to55_14 (hlen : tm.length = 165) (hs : tm.getD 30 undefA = .im (.str op)) (h : ∀ g ∈ lits55.take 14, ∀ w ∈ g, op ≠ w) :
  ∃ tm', exec0 L Λ x55_0 tm H K = exec0 L Λ x55_14 tm' H K ∧ tm'.length = 165 ∧ Same [0,1,4,5,6,7,8,9,10,30] tm tm' := by
 obtain ⟨t1, h1, h2, h3⟩ := to55_13 (op := op) (H := H) K hlen hs (fun g hg => h g (List.mem_of_mem_take (show g ∈ (lits55.take 14).take 13 by rw [List.take_take]; exact hg)))
 obtain ⟨t2, k1, k2, k3⟩ := n55_13 (op := op) (H := H) K (decide_eq_false (h [[97, 116]] (by simp [lits55]) [97, 116] (by simp))) h2 ((h3 30 (by simp)).trans hs)
 exact ⟨t2, h1.trans k1, k2, h3.trans k3⟩
theorem to55_15 (hlen : tm.length = 165) (hs : tm.getD 30 undefA = .im (.str op)) (h : ∀ g ∈ lits55.take 15, ∀ w ∈ g, op ≠ w) :
  ∃ tm', exec0 L Λ x55_0 tm H K = exec0 L Λ x55_15 tm' H K ∧ tm'.length = 165 ∧ Same [0,1,4,5,6,7,8,9,10,30] tm tm' := by
 obtain ⟨t1, h1, h2, h3⟩ := to55_14 (op := op) (H := H) K hlen hs (fun g hg => h g (List.mem_of_mem_take (show g ∈ (lits55.take 15).take 14 by rw [List.take_take]; exact hg)))
 obtain ⟨t2, k1, k2, k3⟩ := n55_14 (op := op) (H := H) K (decide_eq_false (h [[114, 97, 110, 103, 101]] (by simp [lits55]) [114, 97, 110, 103, 101] (by simp))) h2 ((h3 30 (by simp)).trans hs)
 exact ⟨t2, h1.trans k1, k2, h3.trans k3⟩
theorem to55_16 (hlen : tm.length = 165) (hs : tm.getD 30 undefA = .im (.str op)) (h : ∀ g ∈ lits55.take 16, ∀ w ∈ g, op ≠ w) :
  ∃ tm', exec0 L Λ x55_0 tm H K = exec0 L Λ x55_16 tm' H K ∧ tm'.length = 165 ∧ Same [0,1,4,5,6,7,8,9,10,30] tm tm' := by
 obtain ⟨t1, h1, h2, h3⟩ := to55_15 (op := op) (H := H) K hlen hs (fun g hg => h g (List.mem_of_mem_take (show g ∈ (lits55.take 16).take 15 by rw [List.take_take]; exact hg)))
 obtain ⟨t2, k1, k2, k3⟩ := n55_15 (op := op) (H := H) K (decide_eq_false (h [[115, 111, 109, 101]] (by simp [lits55]) [115, 111, 109, 101] (by simp))) h2 ((h3 30 (by simp)).trans hs)
 exact ⟨t2, h1.trans k1, k2, h3.trans k3⟩
def h55_6 : ACode := .ops [mv 160 0,mv 161 1,oo 162 (.call false (cl 84) [.t 160,.t 161]),ex 163 0 162,ex 164 1 162,st 2 4 163,mv 5 164] []
def h55_7 : ACode := .ret
theorem f55_code : f55 = ⟨165, [(4, (some (some 2))), (5, none)], (.seq h55_0 (.seq h55_1 (.seq h55_2 (.seq h55_3 (.seq h55_4 (.seq (.seq h55_5 (.block 0 x55_0)) (.seq h55_6 h55_7))))))), false⟩ := rfl
def h84_0 : ACode := .ops [oo 4 (.alloc none [.im (.int .i64 0),.nils]),mc 5 (cb false)] []
def h84_1 : ACode := .ops [mv 11 1,oo 12 (.indexSl 2 (.t 11) (ci 0)),ld 13 2 12,oo 6 (.alloc none [.im (.int .i64 0),.nils]),st 2 6 13] []
def h84_2 : ACode := .ops [fa 14 0 6,l0 15 14,bi 16 .eql 15 (ci 3),mv 17 16,og 18 (.fieldAddr 0 (.t 6)) 17 false,og 19 (.load none (.t 18)) 17 false,og 20 (.bin .eql (.t 19) (ci 4)) 17 false,po 21 17 20,mv 7 21] []
def h84_3 : ACode := .ops [mv 22 0] []
def x84_12 : ACode := .skip
def g84_11 : ACode := .ops [bi 107 .eql 22 (cs [99,111,110,106]),mv 106 107] []
def a84_11 : ACode := .seq (.ops [ld 108 2 6,fa 109 0 6,l0 110 109,bi 111 .eql 110 (ci 5),st 2 4 108,mv 5 111] [(2,4)]) .ret
def x84_11 : ACode := .seq g84_11 (.cond (.t 106) a84_11 x84_12)
def g84_10 : ACode := sq [bi 100 .eql 22 (cs [114,101]),mv 99 100] (.cond (.t 99) .skip (.ops [bi 101 .eql 22 (cs [105,109]),mv 99 101] []))
def a84_10 : ACode := .seq (.ops [oo 102 (.call false (cl 49) [ci 2]),fa 103 0 6,l0 104 103,bi 105 .eql 104 (ci 5),st 2 4 102,mv 5 105] [(2,0),(2,4)]) .ret
def x84_10 : ACode := .seq g84_10 (.cond (.t 99) a84_10 x84_11)
def g84_9 : ACode := .ops [bi 94 .eql 22 (cs [112,111,105,110,116]),mv 93 94] []
def a84_9 : ACode := sq [oo 95 (.call false (cl 49) [ci 5]),mv 96 1,oo 97 (.bslice false 1 2 [.im (.int .i64 0)] [(0,ci 2),(1,ci 2)]),oo 98 (.call false (cl 82) [.t 96,.t 97]),st 2 4 95,mv 5 98] .ret
def x84_9 : ACode := .seq g84_9 (.cond (.t 93) a84_9 x84_10)
def g84_8 : ACode := .ops [bi 88 .eql 22 (cs [115,104,111,119]),mv 87 88] []
def a84_8 : ACode := .seq (.ops [oo 89 (.call false (cl 49) [ci 3]),fa 90 0 6,l0 91 90,bi 92 .eql 91 (ci 2),st 2 4 89,mv 5 92] [(2,0),(2,4)]) .ret
def x84_8 : ACode := .seq g84_8 (.cond (.t 87) a84_8 x84_9)
def g84_7 : ACode := .ops [bi 82 .eql 22 (cs [116,101,120,116]),mv 81 82] []
def a84_7 : ACode := .seq (.ops [oo 83 (.call false (cl 49) [ci 3]),fa 84 0 6,l0 85 84,bi 86 .eql 85 (ci 4),st 2 4 83,mv 5 86] [(2,0),(2,4)]) .ret
def x84_7 : ACode := .seq g84_7 (.cond (.t 81) a84_7 x84_8)
def g84_6 : ACode := .ops [bi 76 .eql 22 (cs [98,121,116,101,115]),mv 75 76] []
def a84_6 : ACode := .seq (.ops [oo 77 (.call false (cl 49) [ci 4]),fa 78 0 6,l0 79 78,bi 80 .eql 79 (ci 3),st 2 4 77,mv 5 80] [(2,0),(2,4)]) .ret
def x84_6 : ACode := .seq g84_6 (.cond (.t 75) a84_6 x84_7)
def g84_5 : ACode := .ops [bi 66 .eql 22 (cs [99,117,116]),mv 65 66] []
def a84_5 : ACode := .seq (.ops [ld 67 2 6,mv 68 7,mv 69 68,og 70 (.move (.t 1)) 69 true,og 71 (.slice 2 (.t 70) (some (ci 1)) none none) 69 true,og 72 (.bslice false 1 2 [.im (.int .i64 0)] [(0,ci 2),(1,ci 2)]) 69 true,og 73 (.call false (cl 82) [.t 71,.t 72]) 69 true,pa 74 69 73,st 2 4 67,mv 5 74] [(0,6)]) .ret
def x84_5 : ACode := .seq g84_5 (.cond (.t 65) a84_5 x84_6)
def g84_4 : ACode := .ops [bi 62 .eql 22 (cs [115,105,122,101]),mv 61 62] []
def a84_4 : ACode := sq [oo 63 (.call false (cl 49) [ci 2]),mv 64 7,st 2 4 63,mv 5 64] .ret
def x84_4 : ACode := .seq g84_4 (.cond (.t 61) a84_4 x84_5)
def g84_3 : ACode := .ops [bi 56 .eql 22 (cs [106,111,105,110]),mv 55 56] []
def a84_3 : ACode := .seq (.ops [ld 57 2 6,mv 58 1,oo 59 (.bslice false 1 2 [.im (.int .i64 0)] [(0,ci 3),(1,ci 3)]),oo 60 (.call false (cl 82) [.t 58,.t 59]),st 2 4 57,mv 5 60] [(0,3)]) .ret
def x84_3 : ACode := .seq g84_3 (.cond (.t 55) a84_3 x84_4)
def g84_2 : ACode := .ops [bi 40 .eql 22 (cs [111,114,95,101,108,115,101]),mv 39 40] []
def a84_2 : ACode := sq [ld 42 2 6,oo 43 (.call false (cl 36) [.t 42,ci 9,ci 0]),mv 41 43,ex 44 0 41,ex 45 1 41,oo 9 (.alloc none [.im (.int .i64 0),.nils]),st 2 9 44,mv 10 45] (.seq (.ops [ld 46 2 9,mv 47 10,mv 48 47,og 49 (.load (some 2) (.t 9)) 48 true,og 50 (.move (.t 1)) 48 true,og 51 (.indexSl 2 (.t 50) (ci 1)) 48 true,og 52 (.load (some 2) (.t 51)) 48 true,og 53 (.call false (cl 16) [.t 49,.t 52]) 48 true,pa 54 48 53,st 2 4 46,mv 5 54] [(0,7)]) .ret)
def x84_2 : ACode := .seq g84_2 (.cond (.t 39) a84_2 x84_3)
def g84_1 : ACode := .ops [bi 34 .eql 22 (cs [105,115,95,115,111,109,101]),mv 33 34] []
def a84_1 : ACode := .seq (.ops [oo 35 (.call false (cl 49) [ci 1]),fa 36 0 6,l0 37 36,bi 38 .eql 37 (ci 9),st 2 4 35,mv 5 38] [(2,0),(2,4)]) .ret
def x84_1 : ACode := .seq g84_1 (.cond (.t 33) a84_1 x84_2)
def g84_0 : ACode := sq [bi 24 .eql 22 (cs [102,105,114,115,116]),mv 23 24] (.cond (.t 23) .skip (.ops [bi 25 .eql 22 (cs [115,101,99,111,110,100]),mv 23 25] []))
def a84_0 : ACode := sq [mc 8 (ci 0)] (.seq (sq [mv 26 0,bi 27 .eql 26 (cs [115,101,99,111,110,100])] (.cond (.t 27) (.ops [mc 8 (ci 1)] []) .skip)) (sq [ld 28 2 6,mv 29 8,oo 30 (.call false (cl 36) [.t 28,ci 6,.t 29]),ex 31 0 30,ex 32 1 30,st 2 4 31,mv 5 32] .ret))
def x84_0 : ACode := .seq g84_0 (.cond (.t 23) a84_0 x84_1)
def lits84 : List (List (List UInt8)) := [[[102, 105, 114, 115, 116], [115, 101, 99, 111, 110, 100]], [[105, 115, 95, 115, 111, 109, 101]], [[111, 114, 95, 101, 108, 115, 101]], [[106, 111, 105, 110]], [[115, 105, 122, 101]], [[99, 117, 116]], [[98, 121, 116, 101, 115]], [[116, 101, 120, 116]], [[115, 104, 111, 119]], [[112, 111, 105, 110, 116]], [[114, 101], [105, 109]], [[99, 111, 110, 106]]]
theorem n84_0 (e0 : decide (op = [102, 105, 114, 115, 116]) = false) (e1 : decide (op = [115, 101, 99, 111, 110, 100]) = false) (hlen : tm.length = 113) (hs : tm.getD 22 undefA = .im (.str op)) :
  ∃ tm', exec0 L Λ x84_0 tm H K = exec0 L Λ x84_1 tm' H K ∧ tm'.length = 113 ∧ Same [0,1,4,5,6,7,22] tm tm' := by
 simp only [x84_0,g84_0,B0,B1,B2,List.replicate,reduceCtorEq,lenA,seval,hlen,hs,e0,e1]
 refine ⟨_, rfl, by simp only [List.length_set,hlen], fun r hr => ?_⟩
 simp only [List.mem_cons,List.not_mem_nil,or_false] at hr
 rcases hr with rfl | rfl | rfl | rfl | rfl | rfl | rfl <;> simp only [B3,seval,hlen]
theorem n84_1 (e0 : decide (op = [105, 115, 95, 115, 111, 109, 101]) = false) (hlen : tm.length = 113) (hs : tm.getD 22 undefA = .im (.str op)) :
  ∃ tm', exec0 L Λ x84_1 tm H K = exec0 L Λ x84_2 tm' H K ∧ tm'.length = 113 ∧ Same [0,1,4,5,6,7,22] tm tm' := by
 simp only [x84_1,g84_1,B0,B1,B2,List.replicate,reduceCtorEq,lenA,seval,hlen,hs,e0]
 refine ⟨_, rfl, by simp only [List.length_set,hlen], fun r hr => ?_⟩
 simp only [List.mem_cons,List.not_mem_nil,or_false] at hr
 rcases hr with rfl | rfl | rfl | rfl | rfl | rfl | rfl <;> simp only [B3,seval,hlen]
theorem n84_2 (e0 : decide (op = [111, 114, 95, 101, 108, 115, 101]) = false) (hlen : tm.length = 113) (hs : tm.getD 22 undefA = .im (.str op)) :
  ∃ tm', exec0 L Λ x84_2 tm H K = exec0 L Λ x84_3 tm' H K ∧ tm'.length = 113 ∧ Same [0,1,4,5,6,7,22] tm tm' := by
 simp only [x84_2,g84_2,B0,B1,B2,List.replicate,reduceCtorEq,lenA,seval,hlen,hs,e0]
 refine ⟨_, rfl, by simp only [List.length_set,hlen], fun r hr => ?_⟩
 simp only [List.mem_cons,List.not_mem_nil,or_false] at hr
 rcases hr with rfl | rfl | rfl | rfl | rfl | rfl | rfl <;> simp only [B3,seval,hlen]
theorem n84_3 (e0 : decide (op = [106, 111, 105, 110]) = false) (hlen : tm.length = 113) (hs : tm.getD 22 undefA = .im (.str op)) :
  ∃ tm', exec0 L Λ x84_3 tm H K = exec0 L Λ x84_4 tm' H K ∧ tm'.length = 113 ∧ Same [0,1,4,5,6,7,22] tm tm' := by
 simp only [x84_3,g84_3,B0,B1,B2,List.replicate,reduceCtorEq,lenA,seval,hlen,hs,e0]
 refine ⟨_, rfl, by simp only [List.length_set,hlen], fun r hr => ?_⟩
 simp only [List.mem_cons,List.not_mem_nil,or_false] at hr
 rcases hr with rfl | rfl | rfl | rfl | rfl | rfl | rfl <;> simp only [B3,seval,hlen]
theorem n84_4 (e0 : decide (op = [115, 105, 122, 101]) = false) (hlen : tm.length = 113) (hs : tm.getD 22 undefA = .im (.str op)) :
  ∃ tm', exec0 L Λ x84_4 tm H K = exec0 L Λ x84_5 tm' H K ∧ tm'.length = 113 ∧ Same [0,1,4,5,6,7,22] tm tm' := by
 simp only [x84_4,g84_4,B0,B1,B2,List.replicate,reduceCtorEq,lenA,seval,hlen,hs,e0]
 refine ⟨_, rfl, by simp only [List.length_set,hlen], fun r hr => ?_⟩
 simp only [List.mem_cons,List.not_mem_nil,or_false] at hr
 rcases hr with rfl | rfl | rfl | rfl | rfl | rfl | rfl <;> simp only [B3,seval,hlen]
theorem n84_5 (e0 : decide (op = [99, 117, 116]) = false) (hlen : tm.length = 113) (hs : tm.getD 22 undefA = .im (.str op)) :
  ∃ tm', exec0 L Λ x84_5 tm H K = exec0 L Λ x84_6 tm' H K ∧ tm'.length = 113 ∧ Same [0,1,4,5,6,7,22] tm tm' := by
 simp only [x84_5,g84_5,B0,B1,B2,List.replicate,reduceCtorEq,lenA,seval,hlen,hs,e0]
 refine ⟨_, rfl, by simp only [List.length_set,hlen], fun r hr => ?_⟩
 simp only [List.mem_cons,List.not_mem_nil,or_false] at hr
 rcases hr with rfl | rfl | rfl | rfl | rfl | rfl | rfl <;> simp only [B3,seval,hlen]
theorem n84_6 (e0 : decide (op = [98, 121, 116, 101, 115]) = false) (hlen : tm.length = 113) (hs : tm.getD 22 undefA = .im (.str op)) :
  ∃ tm', exec0 L Λ x84_6 tm H K = exec0 L Λ x84_7 tm' H K ∧ tm'.length = 113 ∧ Same [0,1,4,5,6,7,22] tm tm' := by
 simp only [x84_6,g84_6,B0,B1,B2,List.replicate,reduceCtorEq,lenA,seval,hlen,hs,e0]
 refine ⟨_, rfl, by simp only [List.length_set,hlen], fun r hr => ?_⟩
 simp only [List.mem_cons,List.not_mem_nil,or_false] at hr
 rcases hr with rfl | rfl | rfl | rfl | rfl | rfl | rfl <;> simp only [B3,seval,hlen]
theorem n84_7 (e0 : decide (op = [116, 101, 120, 116]) = false) (hlen : tm.length = 113) (hs : tm.getD 22 undefA = .im (.str op)) :
  ∃ tm', exec0 L Λ x84_7 tm H K = exec0 L Λ x84_8 tm' H K ∧ tm'.length = 113 ∧ Same [0,1,4,5,6,7,22] tm tm' := by
 simp only [x84_7,g84_7,B0,B1,B2,List.replicate,reduceCtorEq,lenA,seval,hlen,hs,e0]
 refine ⟨_, rfl, by simp only [List.length_set,hlen], fun r hr => ?_⟩
 simp only [List.mem_cons,List.not_mem_nil,or_false] at hr
 rcases hr with rfl | rfl | rfl | rfl | rfl | rfl | rfl <;> simp only [B3,seval,hlen]
theorem n84_8 (e0 : decide (op = [115, 104, 111, 119]) = false) (hlen : tm.length = 113) (hs : tm.getD 22 undefA = .im (.str op)) :
  ∃ tm', exec0 L Λ x84_8 tm H K = exec0 L Λ x84_9 tm' H K ∧ tm'.length = 113 ∧ Same [0,1,4,5,6,7,22] tm tm' := by
 simp only [x84_8,g84_8,B0,B1,B2,List.replicate,reduceCtorEq,lenA,seval,hlen,hs,e0]
 refine ⟨_, rfl, by simp only [List.length_set,hlen], fun r hr => ?_⟩
 simp only [List.mem_cons,List.not_mem_nil,or_false] at hr
 rcases hr with rfl | rfl | rfl | rfl | rfl | rfl | rfl <;> simp only [B3,seval,hlen]
theorem n84_9 (e0 : decide (op = [112, 111, 105, 110, 116]) = false) (hlen : tm.length = 113) (hs : tm.getD 22 undefA = .im (.str op)) :
  ∃ tm', exec0 L Λ x84_9 tm H K = exec0 L Λ x84_10 tm' H K ∧ tm'.length = 113 ∧ Same [0,1,4,5,6,7,22] tm tm' := by
 simp only [x84_9,g84_9,B0,B1,B2,List.replicate,reduceCtorEq,lenA,seval,hlen,hs,e0]
 refine ⟨_, rfl, by simp only [List.length_set,hlen], fun r hr => ?_⟩
 simp only [List.mem_cons,List.not_mem_nil,or_false] at hr
 rcases hr with rfl | rfl | rfl | rfl | rfl | rfl | rfl <;> simp only [B3,seval,hlen]
theorem n84_10 (e0 : decide (op = [114, 101]) = false) (e1 : decide (op = [105, 109]) = false) (hlen : tm.length = 113) (hs : tm.getD 22 undefA = .im (.str op)) :
  ∃ tm', exec0 L Λ x84_10 tm H K = exec0 L Λ x84_11 tm' H K ∧ tm'.length = 113 ∧ Same [0,1,4,5,6,7,22] tm tm' := by
 simp only [x84_10,g84_10,B0,B1,B2,List.replicate,reduceCtorEq,lenA,seval,hlen,hs,e0,e1]
 refine ⟨_, rfl, by simp only [List.length_set,hlen], fun r hr => ?_⟩
 simp only [List.mem_cons,List.not_mem_nil,or_false] at hr
 rcases hr with rfl | rfl | rfl | rfl | rfl | rfl | rfl <;> simp only [B3,seval,hlen]
theorem n84_11 (e0 : decide (op = [99, 111, 110, 106]) = false) (hlen : tm.length = 113) (hs : tm.getD 22 undefA = .im (.str op)) :
  ∃ tm', exec0 L Λ x84_11 tm H K = exec0 L Λ x84_12 tm' H K ∧ tm'.length = 113 ∧ Same [0,1,4,5,6,7,22] tm tm' := by
 simp only [x84_11,g84_11,B0,B1,B2,List.replicate,reduceCtorEq,lenA,seval,hlen,hs,e0]
 refine ⟨_, rfl, by simp only [List.length_set,hlen], fun r hr => ?_⟩
 simp only [List.mem_cons,List.not_mem_nil,or_false] at hr
 rcases hr with rfl | rfl | rfl | rfl | rfl | rfl | rfl <;> simp only [B3,seval,hlen]
theorem to84_0 (hlen : tm.length = 113) (hs : tm.getD 22 undefA = .im (.str op)) (h : ∀ g ∈ lits84.take 0, ∀ w ∈ g, op ≠ w) :
  ∃ tm', exec0 L Λ x84_0 tm H K = exec0 L Λ x84_0 tm' H K ∧ tm'.length = 113 ∧ Same [0,1,4,5,6,7,22] tm tm' := ⟨tm, rfl, hlen, fun _ _ => rfl⟩
theorem to84_1 (hlen : tm.length = 113) (hs : tm.getD 22 undefA = .im (.str op)) (h : ∀ g ∈ lits84.take 1, ∀ w ∈ g, op ≠ w) :
  ∃ tm', exec0 L Λ x84_0 tm H K = exec0 L Λ x84_1 tm' H K ∧ tm'.length = 113 ∧ Same [0,1,4,5,6,7,22] tm tm' := by
 obtain ⟨t1, h1, h2, h3⟩ := to84_0 (op := op) (H := H) K hlen hs (fun g hg => h g (List.mem_of_mem_take (show g ∈ (lits84.take 1).take 0 by rw [List.take_take]; exact hg)))
 obtain ⟨t2, k1, k2, k3⟩ := n84_0 (op := op) (H := H) K (decide_eq_false (h [[102, 105, 114, 115, 116], [115, 101, 99, 111, 110, 100]] (by simp [lits84]) [102, 105, 114, 115, 116] (by simp))) (decide_eq_false (h [[102, 105, 114, 115, 116], [115, 101, 99, 111, 110, 100]] (by simp [lits84]) [115, 101, 99, 111, 110, 100] (by simp))) h2 ((h3 22 (by simp)).trans hs)
 exact ⟨t2, h1.trans k1, k2, h3.trans k3⟩
theorem to84_2 (hlen : tm.length = 113) (hs : tm.getD 22 undefA = .im (.str op)) (h : ∀ g ∈ lits84.take 2, ∀ w ∈ g, op ≠ w) :
  ∃ tm', exec0 L Λ x84_0 tm H K = exec0 L Λ x84_2 tm' H K ∧ tm'.length = 113 ∧ Same [0,1,4,5,6,7,22] tm tm' := by
 obtain ⟨t1, h1, h2, h3⟩ := to84_1 (op := op) (H := H) K hlen hs (fun g hg => h g (List.mem_of_mem_take (show g ∈ (lits84.take 2).take 1 by rw [List.take_take]; exact hg)))
 obtain ⟨t2, k1, k2, k3⟩ := n84_1 (op := op) (H := H) K (decide_eq_false (h [[105, 115, 95, 115, 111, 109, 101]] (by simp [lits84]) [105, 115, 95, 115, 111, 109, 101] (by simp))) h2 ((h3 22 (by simp)).trans hs)
 exact ⟨t2, h1.trans k1, k2, h3.trans k3⟩
theorem to84_3 (hlen : tm.length = 113) (hs : tm.getD 22 undefA = .im (.str op)) (h : ∀ g ∈ lits84.take 3, ∀ w ∈ g, op ≠ w) :
  ∃ tm', exec0 L Λ x84_0 tm H K = exec0 L Λ x84_3 tm' H K ∧ tm'.length = 113 ∧ Same [0,1,4,5,6,7,22] tm tm' := by
 obtain ⟨t1, h1, h2, h3⟩ := to84_2 (op := op) (H := H) K hlen hs (fun g hg => h g (List.mem_of_mem_take (show g ∈ (lits84.take 3).take 2 by rw [List.take_take]; exact hg)))
 obtain ⟨t2, k1, k2, k3⟩ := n84_2 (op := op) (H := H) K (decide_eq_false (h [[111, 114, 95, 101, 108, 115, 101]] (by simp [lits84]) [111, 114, 95, 101, 108, 115, 101] (by simp))) h2 ((h3 22 (by simp)).trans hs)
 exact ⟨t2, h1.trans k1, k2, h3.trans k3⟩
theorem to84_4 (hlen : tm.length = 113) (hs : tm.getD 22 undefA = .im (.str op)) (h : ∀ g ∈ lits84.take 4, ∀ w ∈ g, op ≠ w) :
  ∃ tm', exec0 L Λ x84_0 tm H K = exec0 L Λ x84_4 tm' H K ∧ tm'.length = 113 ∧ Same [0,1,4,5,6,7,22] tm tm' := by
 obtain ⟨t1, h1, h2, h3⟩ := to84_3 (op := op) (H := H) K hlen hs (fun g hg => h g (List.mem_of_mem_take (show g ∈ (lits84.take 4).take 3 by rw [List.take_take]; exact hg)))
 obtain ⟨t2, k1, k2, k3⟩ := n84_3 (op := op) (H := H) K (decide_eq_false (h [[106, 111, 105, 110]] (by simp [lits84]) [106, 111, 105, 110] (by simp))) h2 ((h3 22 (by simp)).trans hs)
 exact ⟨t2, h1.trans k1, k2, h3.trans k3⟩
theorem to84_5 (hlen : tm.length = 113) (hs : tm.getD 22 undefA = .im (.str op)) (h : ∀ g ∈ lits84.take 5, ∀ w ∈ g, op ≠ w) :
  ∃ tm', exec0 L Λ x84_0 tm H K = exec0 L Λ x84_5 tm' H K ∧ tm'.length = 113 ∧ Same [0,1,4,5,6,7,22] tm tm' := by
 obtain ⟨t1, h1, h2, h3⟩ := to84_4 (op := op) (H := H) K hlen hs (fun g hg => h g (List.mem_of_mem_take (show g ∈ (lits84.take 5).take 4 by rw [List.take_take]; exact hg)))
 obtain ⟨t2, k1, k2, k3⟩ := n84_4 (op := op) (H := H) K (decide_eq_false (h [[115, 105, 122, 101]] (by simp [lits84]) [115, 105, 122, 101] (by simp))) h2 ((h3 22 (by simp)).trans hs)
 exact ⟨t2, h1.trans k1, k2, h3.trans k3⟩
theorem to84_6 (hlen : tm.length = 113) (hs : tm.getD 22 undefA = .im (.str op)) (h : ∀ g ∈ lits84.take 6, ∀ w ∈ g, op ≠ w) :
  ∃ tm', exec0 L Λ x84_0 tm H K = exec0 L Λ x84_6 tm' H K ∧ tm'.length = 113 ∧ Same [0,1,4,5,6,7,22] tm tm' := by
 obtain ⟨t1, h1, h2, h3⟩ := to84_5 (op := op) (H := H) K hlen hs (fun g hg => h g (List.mem_of_mem_take (show g ∈ (lits84.take 6).take 5 by rw [List.take_take]; exact hg)))
 obtain ⟨t2, k1, k2, k3⟩ := n84_5 (op := op) (H := H) K (decide_eq_false (h [[99, 117, 116]] (by simp [lits84]) [99, 117, 116] (by simp))) h2 ((h3 22 (by simp)).trans hs)
 exact ⟨t2, h1.trans k1, k2, h3.trans k3⟩
theorem to84_7 (hlen : tm.length = 113) (hs : tm.getD 22 undefA = .im (.str op)) (h : ∀ g ∈ lits84.take 7, ∀ w ∈ g, op ≠ w) :
  ∃ tm', exec0 L Λ x84_0 tm H K = exec0 L Λ x84_7 tm' H K ∧ tm'.length = 113 ∧ Same [0,1,4,5,6,7,22] tm tm' := by
 obtain ⟨t1, h1, h2, h3⟩ := to84_6 (op := op) (H := H) K hlen hs (fun g hg => h g (List.mem_of_mem_take (show g ∈ (lits84.take 7).take 6 by rw [List.take_take]; exact hg)))
 obtain ⟨t2, k1, k2, k3⟩ := n84_6 (op := op) (H := H) K (decide_eq_false (h [[98, 121, 116, 101, 115]] (by simp [lits84]) [98, 121, 116, 101, 115] (by simp))) h2 ((h3 22 (by simp)).trans hs)
 exact ⟨t2, h1.trans k1, k2, h3.trans k3⟩
theorem to84_8 (hlen : tm.length = 113) (hs : tm.getD 22 undefA = .im (.str op)) (h : ∀ g ∈ lits84.take 8, ∀ w ∈ g, op ≠ w) :
  ∃ tm', exec0 L Λ x84_0 tm H K = exec0 L Λ x84_8 tm' H K ∧ tm'.length = 113 ∧ Same [0,1,4,5,6,7,22] tm tm' := by
 obtain ⟨t1, h1, h2, h3⟩ := to84_7 (op := op) (H := H) K hlen hs (fun g hg => h g (List.mem_of_mem_take (show g ∈ (lits84.take 8).take 7 by rw [List.take_take]; exact hg)))
 obtain ⟨t2, k1, k2, k3⟩ := n84_7 (op := op) (H := H) K (decide_eq_false (h [[116, 101, 120, 116]] (by simp [lits84]) [116, 101, 120, 116] (by simp))) h2 ((h3 22 (by simp)).trans hs)
 exact ⟨t2, h1.trans k1, k2, h3.trans k3⟩
theorem to84_9 (hlen : tm.length = 113) (hs : tm.getD 22 undefA = .im (.str op)) (h : ∀ g ∈ lits84.take 9, ∀ w ∈ g, op ≠ w) :
  ∃ tm', exec0 L Λ x84_0 tm H K = exec0 L Λ x84_9 tm' H K ∧ tm'.length = 113 ∧ Same [0,1,4,5,6,7,22] tm tm' := by
 obtain ⟨t1, h1, h2, h3⟩ := to84_8 (op := op) (H := H) K hlen hs (fun g hg => h g (List.mem_of_mem_take (show g ∈ (lits84.take 9).take 8 by rw [List.take_take]; exact hg)))
 obtain ⟨t2, k1, k2, k3⟩ := n84_8 (op := op) (H := H) K (decide_eq_false (h [[115, 104, 111, 119]] (by simp [lits84]) [115, 104, 111, 119] (by simp))) h2 ((h3 22 (by simp)).trans hs)
 exact ⟨t2, h1.trans k1, k2, h3.trans k3⟩
theorem to84_10 (hlen : tm.length = 113) (hs : tm.getD 22 undefA = .im (.str op)) (h : ∀ g ∈ lits84.take 10, ∀ w ∈ g, op ≠ w) :
  ∃ tm', exec0 L Λ x84_0 tm H K = exec0 L Λ x84_10 tm' H K ∧ tm'.length = 113 ∧ Same [0,1,4,5,6,7,22] tm tm' := by
 obtain ⟨t1, h1, h2, h3⟩ := to84_9 (op := op) (H := H) K hlen hs (fun g hg => h g (List.mem_of_mem_take (show g ∈ (lits84.take 10).take 9 by rw [List.take_take]; exact hg)))
 obtain ⟨t2, k1, k2, k3⟩ := n84_9 (op := op) (H := H) K (decide_eq_false (h [[112, 111, 105, 110, 116]] (by simp [lits84]) [112, 111, 105, 110, 116] (by simp))) h2 ((h3 22 (by simp)).trans hs)
 exact ⟨t2, h1.trans k1, k2, h3.trans k3⟩
theorem to84_11 (hlen : tm.length = 113) (hs : tm.getD 22 undefA = .im (.str op)) (h : ∀ g ∈ lits84.take 11, ∀ w ∈ g, op ≠ w) :
  ∃ tm', exec0 L Λ x84_0 tm H K = exec0 L Λ x84_11 tm' H K ∧ tm'.length = 113 ∧ Same [0,1,4,5,6,7,22] tm tm' := by
 obtain ⟨t1, h1, h2, h3⟩ := to84_10 (op := op) (H := H) K hlen hs (fun g hg => h g (List.mem_of_mem_take (show g ∈ (lits84.take 11).take 10 by rw [List.take_take]; exact hg)))
 obtain ⟨t2, k1, k2, k3⟩ := n84_10 (op := op) (H := H) K (decide_eq_false (h [[114, 101], [105, 109]] (by simp [lits84]) [114, 101] (by simp))) (decide_eq_false (h [[114, 101], [105, 109]] (by simp [lits84]) [105, 109] (by simp))) h2 ((h3 22 (by simp)).trans hs)
 exact ⟨t2, h1.trans k1, k2, h3.trans k3⟩
theorem to84_12 (hlen : tm.length = 113) (hs : tm.getD 22 undefA = .im (.str op)) (h : ∀ g ∈ lits84.take 12, ∀ w ∈ g, op ≠ w) :
  ∃ tm', exec0 L Λ x84_0 tm H K = exec0 L Λ x84_12 tm' H K ∧ tm'.length = 113 ∧ Same [0,1,4,5,6,7,22] tm tm' := by
 obtain ⟨t1, h1, h2, h3⟩ := to84_11 (op := op) (H := H) K hlen hs (fun g hg => h g (List.mem_of_mem_take (show g ∈ (lits84.take 12).take 11 by rw [List.take_take]; exact hg)))
 obtain ⟨t2, k1, k2, k3⟩ := n84_11 (op := op) (H := H) K (decide_eq_false (h [[99, 111, 110, 106]] (by simp [lits84]) [99, 111, 110, 106] (by simp))) h2 ((h3 22 (by simp)).trans hs)
 exact ⟨t2, h1.trans k1, k2, h3.trans k3⟩
def h84_4 : ACode := .ops [oo 112 (.build [.im (.int .i64 0),.nils] []),st 2 4 112,mc 5 (cb false)] []
def h84_5 : ACode := .ret
theorem f84_code : f84 = ⟨113, [(4, (some (some 2))), (5, none)], (.seq h84_0 (.seq h84_1 (.seq h84_2 (.seq (.seq h84_3 (.block 0 x84_0)) (.seq h84_4 h84_5))))), false⟩ := rfl
def h29_0 : ACode := .ops [oo 3 (.box none (.t 1)),oo 4 (.alloc none [.im (.int .i64 0),.nils])] []
def h29_1 : ACode := .ops [fa 9 0 3,l0 10 9] []
def x29_9 : ACode := .skip
def g29_8 : ACode := sq [bi 70 .eql 10 (cs [108,101,116]),mv 69 70] (.cond (.t 69) .skip (sq [bi 71 .eql 10 (cs [109,97,112]),mv 69 71] (.cond (.t 69) .skip (sq [bi 72 .eql 10 (cs [102,105,108,116,101,114]),mv 69 72] (.cond (.t 69) .skip (.ops [bi 73 .eql 10 (cs [102,111,108,100]),mv 69 73] []))))))
def a29_8 : ACode := sq [mv 74 0,ld 75 6 3,oo 76 (.call false (cl 53) [.t 74,.t 75]),st 2 4 76] .ret
def x29_8 : ACode := .seq g29_8 (.cond (.t 69) a29_8 x29_9)
def g29_7 : ACode := .ops [bi 48 .eql 10 (cs [115,105,100,101]),mv 47 48] []
def a29_7 : ACode := .seq (sq [fa 49 1 3,l0 50 49,mv 51 0,nc 52 51,fa 53 0 52,fa 54 2 53,l0 55 54,oo 56 (.lenSl (.t 55)),bi 57 .geq 50 (.t 56)] (.cond (.t 57) (sq [mv 58 0,oo 59 (.call false (cl 52) [.t 58,ci 53]),st 2 4 59] .ret) .skip)) (sq [mv 60 0,nc 61 60,fa 62 0 61,fa 63 2 62,l0 64 63,fa 65 1 3,l0 66 65,oo 67 (.indexSl 2 (.t 64) (.t 66)),ld 68 2 67,st 2 4 68] .ret)
def x29_7 : ACode := .seq g29_7 (.cond (.t 47) a29_7 x29_8)
def g29_6 : ACode := .ops [bi 41 .eql 10 (cs [110,111,110,101]),mv 40 41] []
def a29_6 : ACode := sq [mv 42 0,fa 43 3 3,ld 44 2 43,oo 45 (.bslice false 2 1 [.im (.int .i64 0),.nils] [(0,.t 44)]),oo 46 (.call false (cl 51) [.t 42,ci 9,.t 45]),st 2 4 46] .ret
def x29_6 : ACode := .seq g29_6 (.cond (.t 40) a29_6 x29_7)
def g29_5 : ACode := .ops [bi 34 .eql 10 (cs [110,105,108]),mv 33 34] []
def a29_5 : ACode := sq [mv 35 0,fa 36 3 3,ld 37 2 36,oo 38 (.bslice false 2 1 [.im (.int .i64 0),.nils] [(0,.t 37)]),oo 39 (.call false (cl 51) [.t 35,ci 7,.t 38]),st 2 4 39] .ret
def x29_5 : ACode := .seq g29_5 (.cond (.t 33) a29_5 x29_6)
def g29_4 : ACode := .ops [bi 29 .eql 10 (cs [110,97,109,101]),mv 28 29] []
def a29_4 : ACode := sq [mv 30 0,ld 31 6 3,oo 32 (.call false (cl 50) [.t 30,.t 31]),st 2 4 32] .ret
def x29_4 : ACode := .seq g29_4 (.cond (.t 28) a29_4 x29_5)
def g29_3 : ACode := .ops [bi 22 .eql 10 (cs [105,116]),mv 21 22] []
def a29_3 : ACode := sq [mv 23 0,nc 24 23,fa 25 0 24,fa 26 0 25,ld 27 2 26,st 2 4 27] .ret
def x29_3 : ACode := .seq g29_3 (.cond (.t 21) a29_3 x29_4)
def g29_2 : ACode := sq [bi 18 .eql 10 (cs [116,114,117,101]),mv 17 18] (.cond (.t 17) .skip (.ops [bi 19 .eql 10 (cs [102,97,108,115,101]),mv 17 19] []))
def a29_2 : ACode := sq [oo 20 (.call false (cl 49) [ci 1]),st 2 4 20] .ret
def x29_2 : ACode := .seq g29_2 (.cond (.t 17) a29_2 x29_3)
def g29_1 : ACode := .ops [bi 15 .eql 10 (cs [116,101,120,116,95,111,102]),mv 14 15] []
def a29_1 : ACode := sq [oo 16 (.call false (cl 49) [ci 3]),st 2 4 16] .ret
def x29_1 : ACode := .seq g29_1 (.cond (.t 14) a29_1 x29_2)
def g29_0 : ACode := .ops [bi 12 .eql 10 (cs [105,110,116]),mv 11 12] []
def a29_0 : ACode := sq [oo 13 (.call false (cl 49) [ci 2]),st 2 4 13] .ret
def x29_0 : ACode := .seq g29_0 (.cond (.t 11) a29_0 x29_1)
def lits29 : List (List (List UInt8)) := [[[105, 110, 116]], [[116, 101, 120, 116, 95, 111, 102]], [[116, 114, 117, 101], [102, 97, 108, 115, 101]], [[105, 116]], [[110, 97, 109, 101]], [[110, 105, 108]], [[110, 111, 110, 101]], [[115, 105, 100, 101]], [[108, 101, 116], [109, 97, 112], [102, 105, 108, 116, 101, 114], [102, 111, 108, 100]]]
theorem n29_0 (e0 : decide (op = [105, 110, 116]) = false) (hlen : tm.length = 114) (hs : tm.getD 10 undefA = .im (.str op)) :
  ∃ tm', exec0 L Λ x29_0 tm H K = exec0 L Λ x29_1 tm' H K ∧ tm'.length = 114 ∧ Same [0,3,4,10] tm tm' := by
 simp only [x29_0,g29_0,B0,B1,B2,List.replicate,reduceCtorEq,lenA,seval,hlen,hs,e0]
 refine ⟨_, rfl, by simp only [List.length_set,hlen], fun r hr => ?_⟩
 simp only [List.mem_cons,List.not_mem_nil,or_false] at hr
 rcases hr with rfl | rfl | rfl | rfl <;> simp only [B3,seval,hlen]
theorem n29_1 (e0 : decide (op = [116, 101, 120, 116, 95, 111, 102]) = false) (hlen : tm.length = 114) (hs : tm.getD 10 undefA = .im (.str op)) :
  ∃ tm', exec0 L Λ x29_1 tm H K = exec0 L Λ x29_2 tm' H K ∧ tm'.length = 114 ∧ Same [0,3,4,10] tm tm' := by
 simp only [x29_1,g29_1,B0,B1,B2,List.replicate,reduceCtorEq,lenA,seval,hlen,hs,e0]
 refine ⟨_, rfl, by simp only [List.length_set,hlen], fun r hr => ?_⟩
 simp only [List.mem_cons,List.not_mem_nil,or_false] at hr
 rcases hr with rfl | rfl | rfl | rfl <;> simp only [B3,seval,hlen]
theorem n29_2 (e0 : decide (op = [116, 114, 117, 101]) = false) (e1 : decide (op = [102, 97, 108, 115, 101]) = false) (hlen : tm.length = 114) (hs : tm.getD 10 undefA = .im (.str op)) :
  ∃ tm', exec0 L Λ x29_2 tm H K = exec0 L Λ x29_3 tm' H K ∧ tm'.length = 114 ∧ Same [0,3,4,10] tm tm' := by
 simp only [x29_2,g29_2,B0,B1,B2,List.replicate,reduceCtorEq,lenA,seval,hlen,hs,e0,e1]
 refine ⟨_, rfl, by simp only [List.length_set,hlen], fun r hr => ?_⟩
 simp only [List.mem_cons,List.not_mem_nil,or_false] at hr
 rcases hr with rfl | rfl | rfl | rfl <;> simp only [B3,seval,hlen]
theorem n29_3 (e0 : decide (op = [105, 116]) = false) (hlen : tm.length = 114) (hs : tm.getD 10 undefA = .im (.str op)) :
  ∃ tm', exec0 L Λ x29_3 tm H K = exec0 L Λ x29_4 tm' H K ∧ tm'.length = 114 ∧ Same [0,3,4,10] tm tm' := by
 simp only [x29_3,g29_3,B0,B1,B2,List.replicate,reduceCtorEq,lenA,seval,hlen,hs,e0]
 refine ⟨_, rfl, by simp only [List.length_set,hlen], fun r hr => ?_⟩
 simp only [List.mem_cons,List.not_mem_nil,or_false] at hr
 rcases hr with rfl | rfl | rfl | rfl <;> simp only [B3,seval,hlen]
theorem n29_4 (e0 : decide (op = [110, 97, 109, 101]) = false) (hlen : tm.length = 114) (hs : tm.getD 10 undefA = .im (.str op)) :
  ∃ tm', exec0 L Λ x29_4 tm H K = exec0 L Λ x29_5 tm' H K ∧ tm'.length = 114 ∧ Same [0,3,4,10] tm tm' := by
 simp only [x29_4,g29_4,B0,B1,B2,List.replicate,reduceCtorEq,lenA,seval,hlen,hs,e0]
 refine ⟨_, rfl, by simp only [List.length_set,hlen], fun r hr => ?_⟩
 simp only [List.mem_cons,List.not_mem_nil,or_false] at hr
 rcases hr with rfl | rfl | rfl | rfl <;> simp only [B3,seval,hlen]
theorem n29_5 (e0 : decide (op = [110, 105, 108]) = false) (hlen : tm.length = 114) (hs : tm.getD 10 undefA = .im (.str op)) :
  ∃ tm', exec0 L Λ x29_5 tm H K = exec0 L Λ x29_6 tm' H K ∧ tm'.length = 114 ∧ Same [0,3,4,10] tm tm' := by
 simp only [x29_5,g29_5,B0,B1,B2,List.replicate,reduceCtorEq,lenA,seval,hlen,hs,e0]
 refine ⟨_, rfl, by simp only [List.length_set,hlen], fun r hr => ?_⟩
 simp only [List.mem_cons,List.not_mem_nil,or_false] at hr
 rcases hr with rfl | rfl | rfl | rfl <;> simp only [B3,seval,hlen]
theorem n29_6 (e0 : decide (op = [110, 111, 110, 101]) = false) (hlen : tm.length = 114) (hs : tm.getD 10 undefA = .im (.str op)) :
  ∃ tm', exec0 L Λ x29_6 tm H K = exec0 L Λ x29_7 tm' H K ∧ tm'.length = 114 ∧ Same [0,3,4,10] tm tm' := by
 simp only [x29_6,g29_6,B0,B1,B2,List.replicate,reduceCtorEq,lenA,seval,hlen,hs,e0]
 refine ⟨_, rfl, by simp only [List.length_set,hlen], fun r hr => ?_⟩
 simp only [List.mem_cons,List.not_mem_nil,or_false] at hr
 rcases hr with rfl | rfl | rfl | rfl <;> simp only [B3,seval,hlen]
theorem n29_7 (e0 : decide (op = [115, 105, 100, 101]) = false) (hlen : tm.length = 114) (hs : tm.getD 10 undefA = .im (.str op)) :
  ∃ tm', exec0 L Λ x29_7 tm H K = exec0 L Λ x29_8 tm' H K ∧ tm'.length = 114 ∧ Same [0,3,4,10] tm tm' := by
 simp only [x29_7,g29_7,B0,B1,B2,List.replicate,reduceCtorEq,lenA,seval,hlen,hs,e0]
 refine ⟨_, rfl, by simp only [List.length_set,hlen], fun r hr => ?_⟩
 simp only [List.mem_cons,List.not_mem_nil,or_false] at hr
 rcases hr with rfl | rfl | rfl | rfl <;> simp only [B3,seval,hlen]
theorem n29_8 (e0 : decide (op = [108, 101, 116]) = false) (e1 : decide (op = [109, 97, 112]) = false) (e2 : decide (op = [102, 105, 108, 116, 101, 114]) = false) (e3 : decide (op = [102, 111, 108, 100]) = false) (hlen : tm.length = 114) (hs : tm.getD 10 undefA = .im (.str op)) :
  ∃ tm', exec0 L Λ x29_8 tm H K = exec0 L Λ x29_9 tm' H K ∧ tm'.length = 114 ∧ Same [0,3,4,10] tm tm' := by
 simp only [x29_8,g29_8,B0,B1,B2,List.replicate,reduceCtorEq,lenA,seval,hlen,hs,e0,e1,e2,e3]
 refine ⟨_, rfl, by simp only [List.length_set,hlen], fun r hr => ?_⟩
 simp only [List.mem_cons,List.not_mem_nil,or_false] at hr
 rcases hr with rfl | rfl | rfl | rfl <;> simp only [B3,seval,hlen]
theorem to29_0 (hlen : tm.length = 114) (hs : tm.getD 10 undefA = .im (.str op)) (h : ∀ g ∈ lits29.take 0, ∀ w ∈ g, op ≠ w) :
  ∃ tm', exec0 L Λ x29_0 tm H K = exec0 L Λ x29_0 tm' H K ∧ tm'.length = 114 ∧ Same [0,3,4,10] tm tm' := ⟨tm, rfl, hlen, fun _ _ => rfl⟩
theorem to29_1 (hlen : tm.length = 114) (hs : tm.getD 10 undefA = .im (.str op)) (h : ∀ g ∈ lits29.take 1, ∀ w ∈ g, op ≠ w) :
  ∃ tm', exec0 L Λ x29_0 tm H K = exec0 L Λ x29_1 tm' H K ∧ tm'.length = 114 ∧ Same [0,3,4,10] tm tm' := by
 obtain ⟨t1, h1, h2, h3⟩ := to29_0 (op := op) (H := H) K hlen hs (fun g hg => h g (List.mem_of_mem_take (show g ∈ (lits29.take 1).take 0 by rw [List.take_take]; exact hg)))
 obtain ⟨t2, k1, k2, k3⟩ := n29_0 (op := op) (H := H) K (decide_eq_false (h [[105, 110, 116]] (by simp [lits29]) [105, 110, 116] (by simp))) h2 ((h3 10 (by simp)).trans hs)
 exact ⟨t2, h1.trans k1, k2, h3.trans k3⟩
theorem to29_2 (hlen : tm.length = 114) (hs : tm.getD 10 undefA = .im (.str op)) (h : ∀ g ∈ lits29.take 2, ∀ w ∈ g, op ≠ w) :
  ∃ tm', exec0 L Λ x29_0 tm H K = exec0 L Λ x29_2 tm' H K ∧ tm'.length = 114 ∧ Same [0,3,4,10] tm tm' := by
 obtain ⟨t1, h1, h2, h3⟩ := to29_1 (op := op) (H := H) K hlen hs (fun g hg => h g (List.mem_of_mem_take (show g ∈ (lits29.take 2).take 1 by rw [List.take_take]; exact hg)))
 obtain ⟨t2, k1, k2, k3⟩ := n29_1 (op := op) (H := H) K (decide_eq_false (h [[116, 101, 120, 116, 95, 111, 102]] (by simp [lits29]) [116, 101, 120, 116, 95, 111, 102] (by simp))) h2 ((h3 10 (by simp)).trans hs)
 exact ⟨t2, h1.trans k1, k2, h3.trans k3⟩
theorem to29_3 (hlen : tm.length = 114) (hs : tm.getD 10 undefA = .im (.str op)) (h : ∀ g ∈ lits29.take 3, ∀ w ∈ g, op ≠ w) :
  ∃ tm', exec0 L Λ x29_0 tm H K = exec0 L Λ x29_3 tm' H K ∧ tm'.length = 114 ∧ Same [0,3,4,10] tm tm' := by
 obtain ⟨t1, h1, h2, h3⟩ := to29_2 (op := op) (H := H) K hlen hs (fun g hg => h g (List.mem_of_mem_take (show g ∈ (lits29.take 3).take 2 by rw [List.take_take]; exact hg)))
 obtain ⟨t2, k1, k2, k3⟩ := n29_2 (op := op) (H := H) K (decide_eq_false (h [[116, 114, 117, 101], [102, 97, 108, 115, 101]] (by simp [lits29]) [116, 114, 117, 101] (by simp))) (decide_eq_false (h [[116, 114, 117, 101], [102, 97, 108, 115, 101]] (by simp [lits29]) [102, 97, 108, 115, 101] (by simp))) h2 ((h3 10 (by simp)).trans hs)
 exact ⟨t2, h1.trans k1, k2, h3.trans k3⟩
theorem to29_4 (hlen : tm.length = 114) (hs : tm.getD 10 undefA = .im (.str op)) (h : ∀ g ∈ lits29.take 4, ∀ w ∈ g, op ≠ w) :
  ∃ tm', exec0 L Λ x29_0 tm H K = exec0 L Λ x29_4 tm' H K ∧ tm'.length = 114 ∧ Same [0,3,4,10] tm tm' := by
 obtain ⟨t1, h1, h2, h3⟩ := to29_3 (op := op) (H := H) K hlen hs (fun g hg => h g (List.mem_of_mem_take (show g ∈ (lits29.take 4).take 3 by rw [List.take_take]; exact hg)))
 obtain ⟨t2, k1, k2, k3⟩ := n29_3 (op := op) (H := H) K (decide_eq_false (h [[105, 116]] (by simp [lits29]) [105, 116] (by simp))) h2 ((h3 10 (by simp)).trans hs)
 exact ⟨t2, h1.trans k1, k2, h3.trans k3⟩
theorem to29_5 (hlen : tm.length = 114) (hs : tm.getD 10 undefA = .im (.str op)) (h : ∀ g ∈ lits29.take 5, ∀ w ∈ g, op ≠ w) :
  ∃ tm', exec0 L Λ x29_0 tm H K = exec0 L Λ x29_5 tm' H K ∧ tm'.length = 114 ∧ Same [0,3,4,10] tm tm' := by
 obtain ⟨t1, h1, h2, h3⟩ := to29_4 (op := op) (H := H) K hlen hs (fun g hg => h g (List.mem_of_mem_take (show g ∈ (lits29.take 5).take 4 by rw [List.take_take]; exact hg)))
 obtain ⟨t2, k1, k2, k3⟩ := n29_4 (op := op) (H := H) K (decide_eq_false (h [[110, 97, 109, 101]] (by simp [lits29]) [110, 97, 109, 101] (by simp))) h2 ((h3 10 (by simp)).trans hs)
 exact ⟨t2, h1.trans k1, k2, h3.trans k3⟩
theorem to29_6 (hlen : tm.length = 114) (hs : tm.getD 10 undefA = .im (.str op)) (h : ∀ g ∈ lits29.take 6, ∀ w ∈ g, op ≠ w) :
  ∃ tm', exec0 L Λ x29_0 tm H K = exec0 L Λ x29_6 tm' H K ∧ tm'.length = 114 ∧ Same [0,3,4,10] tm tm' := by
 obtain ⟨t1, h1, h2, h3⟩ := to29_5 (op := op) (H := H) K hlen hs (fun g hg => h g (List.mem_of_mem_take (show g ∈ (lits29.take 6).take 5 by rw [List.take_take]; exact hg)))
 obtain ⟨t2, k1, k2, k3⟩ := n29_5 (op := op) (H := H) K (decide_eq_false (h [[110, 105, 108]] (by simp [lits29]) [110, 105, 108] (by simp))) h2 ((h3 10 (by simp)).trans hs)
 exact ⟨t2, h1.trans k1, k2, h3.trans k3⟩
theorem to29_7 (hlen : tm.length = 114) (hs : tm.getD 10 undefA = .im (.str op)) (h : ∀ g ∈ lits29.take 7, ∀ w ∈ g, op ≠ w) :
  ∃ tm', exec0 L Λ x29_0 tm H K = exec0 L Λ x29_7 tm' H K ∧ tm'.length = 114 ∧ Same [0,3,4,10] tm tm' := by
 obtain ⟨t1, h1, h2, h3⟩ := to29_6 (op := op) (H := H) K hlen hs (fun g hg => h g (List.mem_of_mem_take (show g ∈ (lits29.take 7).take 6 by rw [List.take_take]; exact hg)))
 obtain ⟨t2, k1, k2, k3⟩ := n29_6 (op := op) (H := H) K (decide_eq_false (h [[110, 111, 110, 101]] (by simp [lits29]) [110, 111, 110, 101] (by simp))) h2 ((h3 10 (by simp)).trans hs)
 exact ⟨t2, h1.trans k1, k2, h3.trans k3⟩
theorem to29_8 (hlen : tm.length = 114) (hs : tm.getD 10 undefA = .im (.str op)) (h : ∀ g ∈ lits29.take 8, ∀ w ∈ g, op ≠ w) :
  ∃ tm', exec0 L Λ x29_0 tm H K = exec0 L Λ x29_8 tm' H K ∧ tm'.length = 114 ∧ Same [0,3,4,10] tm tm' := by
 obtain ⟨t1, h1, h2, h3⟩ := to29_7 (op := op) (H := H) K hlen hs (fun g hg => h g (List.mem_of_mem_take (show g ∈ (lits29.take 8).take 7 by rw [List.take_take]; exact hg)))
 obtain ⟨t2, k1, k2, k3⟩ := n29_7 (op := op) (H := H) K (decide_eq_false (h [[115, 105, 100, 101]] (by simp [lits29]) [115, 105, 100, 101] (by simp))) h2 ((h3 10 (by simp)).trans hs)
 exact ⟨t2, h1.trans k1, k2, h3.trans k3⟩
theorem to29_9 (hlen : tm.length = 114) (hs : tm.getD 10 undefA = .im (.str op)) (h : ∀ g ∈ lits29.take 9, ∀ w ∈ g, op ≠ w) :
  ∃ tm', exec0 L Λ x29_0 tm H K = exec0 L Λ x29_9 tm' H K ∧ tm'.length = 114 ∧ Same [0,3,4,10] tm tm' := by
 obtain ⟨t1, h1, h2, h3⟩ := to29_8 (op := op) (H := H) K hlen hs (fun g hg => h g (List.mem_of_mem_take (show g ∈ (lits29.take 9).take 8 by rw [List.take_take]; exact hg)))
 obtain ⟨t2, k1, k2, k3⟩ := n29_8 (op := op) (H := H) K (decide_eq_false (h [[108, 101, 116], [109, 97, 112], [102, 105, 108, 116, 101, 114], [102, 111, 108, 100]] (by simp [lits29]) [108, 101, 116] (by simp))) (decide_eq_false (h [[108, 101, 116], [109, 97, 112], [102, 105, 108, 116, 101, 114], [102, 111, 108, 100]] (by simp [lits29]) [109, 97, 112] (by simp))) (decide_eq_false (h [[108, 101, 116], [109, 97, 112], [102, 105, 108, 116, 101, 114], [102, 111, 108, 100]] (by simp [lits29]) [102, 105, 108, 116, 101, 114] (by simp))) (decide_eq_false (h [[108, 101, 116], [109, 97, 112], [102, 105, 108, 116, 101, 114], [102, 111, 108, 100]] (by simp [lits29]) [102, 111, 108, 100] (by simp))) h2 ((h3 10 (by simp)).trans hs)
 exact ⟨t2, h1.trans k1, k2, h3.trans k3⟩
def h29_2 : ACode := .ops [oo 5 (.move (.c .nils))] []
def h29_3 : ACode := sq [fa 77 5 3,l0 78 77,oo 79 (.lenSl (.t 78)),mc 80 (ci 0)] (.block 1 c29_0)
def h29_4 : ACode := .ops [fa 98 0 3,l0 99 98,mv 100 5,oo 101 (.call false (cl 55) [.t 99,.t 100]),mv 97 101,ex 102 0 97,ex 103 1 97,oo 7 (.alloc none [.im (.int .i64 0),.nils]),st 2 7 102,mv 8 103] []
def h29_5 : ACode := sq [mv 104 8,oo 105 (.un .not (.t 104)),mv 106 105,og 107 (.load (some 2) (.t 7)) 106 false,og 108 (.call false (cl 33) [.t 107]) 106 false,og 109 (.bin .neq (.t 108) (ci 0)) 106 false,po 110 106 109] (.cond (.t 110) (sq [mv 111 0,oo 112 (.call false (cl 52) [.t 111,ci 50]),st 2 4 112] .ret) .skip)
def h29_6 : ACode := .ops [ld 113 2 7,st 2 4 113] []
def h29_7 : ACode := .ret
theorem f29_code : f29 = ⟨114, [(4, (some (some 2)))], (.seq h29_0 (.seq (.seq h29_1 (.block 0 x29_0)) (.seq h29_2 (.seq h29_3 (.seq h29_4 (.seq h29_5 (.seq h29_6 h29_7))))))), false⟩ := rfl
end Go.Abs.Seat
end
