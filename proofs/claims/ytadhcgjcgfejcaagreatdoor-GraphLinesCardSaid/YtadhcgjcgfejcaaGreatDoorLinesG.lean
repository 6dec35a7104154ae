/- Part 7 of what the claim rests on. -/
import Derived.Test.YtadhcgjcgfejcaaGreatDoorLinesA
import Derived.Test.YtadhcgjcgfejcaaGreatDoorLinesB
import Derived.Test.YtadhcgjcgfejcaaGreatDoorLinesC
import Derived.Test.YtadhcgjcgfejcaaGreatDoorLinesD
import Derived.Test.YtadhcgjcgfejcaaGreatDoorLinesE
import Derived.Test.YtadhcgjcgfejcaaGreatDoorLinesF
section
set_option linter.unusedVariables false
set_option linter.unusedSimpArgs false
namespace Go.Abs.Seat
open Go.Proofs
def cutB (c : UInt8) : List UInt8 → List UInt8 × List UInt8 × Bool
 | [] => ([], [], false)
 | x :: r => if x = c then ([], r, true) else (x :: (cutB c r).1, (cutB c r).2.1, (cutB c r).2.2)
theorem cut_idx (c : UInt8) : ∀ s : List UInt8, (Lib.indexByte s c = -1 ∧ cutB c s = (s, [], false)) ∨ ∃ i : Nat, Lib.indexByte s c = (i : Int) ∧ i < s.length ∧ cutB c s = (s.take i, s.drop (i + 1), true)
 | [] => .inl ⟨rfl, rfl⟩
 | x :: r => by
  unfold Lib.indexByte cutB
  by_cases e : x = c
  ·right
   rw [if_pos (by simpa using e), if_pos e]
   exact ⟨0, rfl, by simp, by simp⟩
  ·rw [if_neg (by simpa using e), if_neg e]
   rcases cut_idx c r with ⟨h1, h2⟩ | ⟨i, h1, hi, h2⟩
   ·left
    rw [h1, h2]
    exact ⟨rfl, rfl⟩
   ·right
    rw [h1, h2, if_neg (by simp)]
    exact ⟨i + 1, by push_cast; rfl, by simpa using hi, by simp⟩
theorem s66 (s : List UInt8) (c : UInt8) (hs : s.length ≤ 9223372036854775806) (H : Heap) : L 66 [.im (.str s), .im (.str [c])] H = some (.tup [.im (.str (cutB c s).1), .im (.str (cutB c s).2.1), .im (.bool (cutB c s).2.2)], H) := by
 have c94 : ∀ H, L 94 [.im (.str s), .im (.str [c])] H = some (.im (.int .i64 (Lib.indexByte s c)), H) := fun H => by
  unfold L
  rw [lim_none (by kernel_rfl)]
  simp [bld, atoiO, countO, itoaO, joinO, one1O, cloneO]
 have hlv : ∀ (a b : List UInt8) (d : Bool), leave H false (.tup [.im (.str a), .im (.str b), .im (.bool d)]) H = (.tup [.im (.str a), .im (.str b), .im (.bool d)], H) := fun a b d => by
  unfold leave
  have e : (if (false : Bool) = true then AV.tup [.im (.str a), .im (.str b), .im (.bool d)] else degrade (.tup [.im (.str a), .im (.str b), .im (.bool d)])) = .tup [.im (.str a), .im (.str b), .im (.bool d)] := by simp [degrade, degrade1, toDat]
  rw [e, if_pos ⟨by simp [refsLt, refsLts], heldIn_self H⟩]
  simp
 rw [leq F66]
 obtain ⟨hlen, hx⟩ := enter_at (f := f66) (args := [.im (.str s), .im (.str [c])]) (Nat.le_of_ble_eq_true rfl)
 have h0 := hx 0 _ rfl
 have h1 := hx 1 _ rfl
 generalize enterA f66 [.im (.str s), .im (.str [c])] = tm at *
 change tm.length = 23 at hlen
 rcases cut_idx c s with ⟨hi, hc⟩ | ⟨i, hi, hlt, hc⟩
 ·rw [hi] at c94
  rw [hc]
  have d : decide ((0 : Int) ≤ -1) = false := by decide
  simp only [f66,B0,B1,B2,List.replicate,reduceCtorEq,lenA,seval,B5,pairK,B4,stays,loadOf,endK,resA,tupA,hlen,h0,h1,c94,d,hlv]
 ·rw [hi] at c94
  rw [hc]
  have d : decide ((0 : Int) ≤ (i : Int)) = true := decide_eq_true (by omega)
  have hnn : (0 : Int) ≤ (i : Int) := by omega
  have hnn1 : (0 : Int) ≤ ((i + 1 : Nat) : Int) := by omega
  have hw : IntKind.i64.wrap ((i : Int) + 1) = ((i + 1 : Nat) : Int) := wrap_nat (by omega)
  have hz : 0 ≤ i := Nat.zero_le i
  have hil : i ≤ s.length := by omega
  have hil1 : i + 1 ≤ s.length := by omega
  have htk : (s.drop (i + 1)).take (s.length - (i + 1)) = s.drop (i + 1) := List.take_of_length_le (by simp)
  simp only [f66,B0,B1,B2,List.replicate,reduceCtorEq,lenA,seval,B5,pairK,B4,stays,loadOf,endK,resA,tupA,hlen,h0,h1,c94,d,boundA,intOfA,hnn,hnn1,hw,Int.toNat_natCast,hz,hil,hil1,Nat.sub_zero,htk,hlv]
  done
theorem s39 (s : List UInt8) (c : UInt8) (hs : s.length ≤ 9223372036854775806) (H : Heap) : L 39 [.im (.str s), .im (.str [c])] H = some (.tup [.im (.str (cutB c s).1), .im (.str (cutB c s).2.1), .im (.bool (cutB c s).2.2)], H) := by
 have c66 := fun H => s66 s c hs H
 have hlv : ∀ (a b : List UInt8) (d : Bool), leave H false (.tup [.im (.str a), .im (.str b), .im (.bool d)]) H = (.tup [.im (.str a), .im (.str b), .im (.bool d)], H) := fun a b d => by
  unfold leave
  have e : (if (false : Bool) = true then AV.tup [.im (.str a), .im (.str b), .im (.bool d)] else degrade (.tup [.im (.str a), .im (.str b), .im (.bool d)])) = .tup [.im (.str a), .im (.str b), .im (.bool d)] := by simp [degrade, degrade1, toDat]
  rw [e, if_pos ⟨by simp [refsLt, refsLts], heldIn_self H⟩]
  simp
 rw [leq F39]
 obtain ⟨hlen, hx⟩ := enter_at (f := f39) (args := [.im (.str s), .im (.str [c])]) (Nat.le_of_ble_eq_true rfl)
 have h0 := hx 0 _ rfl
 have h1 := hx 1 _ rfl
 generalize enterA f39 [.im (.str s), .im (.str [c])] = tm at *
 change tm.length = 13 at hlen
 simp only [f39,B0,B1,B2,List.replicate,reduceCtorEq,lenA,seval,B5,pairK,B4,stays,loadOf,endK,resA,tupA,hlen,h0,h1,c66,hlv]
def objQ (r : List UInt8) (b : Bool) : HO := .obj none [[.im (.str r), .im (.bool b)]]
theorem leave_q {d : Dat} {ir : Nat} {H : Heap} {r : List UInt8} {b : Bool} (hir : ir < H.length) : leave H false (.im d) (H.set ir (objQ r b)) = (.im d, H.set ir (objQ r b)) := by
 have h := leave_but (keep := false) (r := .im d) (o := objQ r b) (H' := H.set ir (objQ r b)) ((But.refl (n := H.length) (id := ir)).set _) (List.getElem?_set_self hir) (by simp [refsO, objQ, refsLts, refsLt]) (by simp [degrade, toDat, refsLt]) hir
 have e : (if false = true then AV.im d else degrade (.im d)) = .im d := by simp [degrade, toDat]
 rw [e] at h
 exact h
def partQ (last : Bool) (r : List UInt8) : List UInt8 × List UInt8 × Bool := if last = true then (r, r, false) else ((cutB 32 r).1, (cutB 32 r).2.1, !(cutB 32 r).2.2)
theorem s72 (ir : Nat) (r : List UInt8) (b last : Bool) (hs : r.length ≤ 9223372036854775806) (H : Heap) (hir : H[ir]? = some (objQ r b)) : L 72 [.ptr ir 0 0, .im (.bool last)] H = some (.im (.str (partQ last r).1), H.set ir (objQ (partQ last r).2.1 (b || (partQ last r).2.2))) := by
 have hlt : ir < H.length := (List.getElem?_eq_some_iff.1 hir).1
 have hlv := fun (d : Dat) (r : List UInt8) (b : Bool) => leave_q (d := d) (r := r) (b := b) hlt
 have c39 := fun H => s39 r 32 hs H
 rw [leq F72]
 obtain ⟨hlen, hx⟩ := enter_at (f := f72) (args := [.ptr ir 0 0, .im (.bool last)]) (Nat.le_of_ble_eq_true rfl)
 have h0 := hx 0 _ rfl
 have h1 := hx 1 _ rfl
 generalize enterA f72 [.ptr ir 0 0, .im (.bool last)] = tm at *
 change tm.length = 38 at hlen
 unfold objQ at *
 cases last with
 | true =>
  have e : H.set ir (.obj none [[.im (.str r), .im (.bool b)]]) = H := by
   obtain ⟨hl, he⟩ := List.getElem?_eq_some_iff.1 hir
   rw [← he, List.set_getElem_self]
  have hl0 := leave_same (H := H) (keep := false) (d := .str r)
  simp only [partQ,if_true,Bool.or_false,e]
  simp only [f72,B0,B1,B2,List.replicate,reduceCtorEq,lenA,seval,B5,pairK,B4,stays,loadOf,endK,resA,tupA,hlen,h0,h1,hir,hl0]
 | false =>
  have hgs : ∀ x, (H.set ir x)[ir]? = some x := fun x => List.getElem?_set_self hlt
  have hss : ∀ x y : HO, (H.set ir x).set ir y = H.set ir y := fun x y => List.set_set ..
  simp only [partQ,Bool.false_eq_true,if_false]
  generalize cutB 32 r = q at *
  obtain ⟨q1, q2, q3⟩ := q
  cases b <;> cases q3 <;>
   simp only [f72,B0,B1,B2,List.replicate,reduceCtorEq,lenA,seval,B5,pairK,B4,stays,loadOf,endK,resA,tupA,hlen,h0,h1,hir,c39,hgs,hss,hlv,Bool.or_self,Bool.or_true,Bool.true_or,Bool.or_false,Bool.not_true,Bool.not_false,Bool.false_or]
end Go.Abs.Seat
end
section
set_option linter.unusedVariables false
set_option linter.unusedSimpArgs false
namespace Go.Abs.Seat
open Go.Proofs
def numV (s : List UInt8) (d : Int) : Option Int := match Lib.atoiAll s with
 | .ok v => if v < 0 then none else if d < (s.length : Int) then none else if itoaN v = s then some v else none
 | Lib.NumEnd.syntax => none
 | .range => none
theorem atoi_le {s : List UInt8} {v : Int} (h : Lib.atoiAll s = .ok v) : -9223372036854775808 ≤ v ∧ v ≤ 9223372036854775807 := by
 unfold Lib.atoiAll at h
 split at h
 ·simp at h
 ·simp only at h
  split at h
  ·simp at h
  ·simp at h
  ·split at h
   ·simp at h
   ·split at h
    ·simp at h
    ·rename_i h1 h2
     simp only [Lib.NumEnd.ok.injEq] at h
     subst h
     split <;> omega
theorem s96 (ir : Nat) (r : List UInt8) (b : Bool) (s : List UInt8) (d : Int) (hs : s.length ≤ 70368744177664) (H : Heap) (hir : H[ir]? = some (objQ r b)) : L 96 [.ptr ir 0 0, .im (.str s), .im (.int .i64 d)] H = some (.im (.int .i64 ((numV s d).getD 0)), H.set ir (objQ r (b || (numV s d).isNone))) := by
 have hlt : ir < H.length := (List.getElem?_eq_some_iff.1 hir).1
 have hlv := fun d : Dat => (show leave H false (.im d) (H.set ir (.obj none [[.im (.str r), .im (.bool true)]])) = (.im d, H.set ir (.obj none [[.im (.str r), .im (.bool true)]])) from leave_q hlt)
 have hl0 := fun n : Int => leave_same (H := H) (keep := false) (d := .int .i64 n)
 have e0 : H.set ir (objQ r b) = H := by
  obtain ⟨hl, he⟩ := List.getElem?_eq_some_iff.1 hir
  rw [← he, List.set_getElem_self]
 have c119 : ∀ H, L 119 [.im (.str s)] H = match Lib.atoiAll s with
   | .ok v => some (.tup [.im (.int .i64 v), .im .nili], H)
   | Lib.NumEnd.syntax => some (.tup [.im (.int .i64 0), .im .ifc], H)
   | .range => some (.tup [.im (.int .i64 (Lib.atoiSat s)), .im .ifc], H) := fun H => by
  unfold L
  rw [lim_none (by kernel_rfl)]
  simp only [bld,atoiO,hs,if_true]
  cases Lib.atoiAll s <;> rfl
 rw [leq F96]
 obtain ⟨hlen, hx⟩ := enter_at (f := f96) (args := [.ptr ir 0 0, .im (.str s), .im (.int .i64 d)]) (Nat.le_of_ble_eq_true rfl)
 have h0 := hx 0 _ rfl
 have h1 := hx 1 _ rfl
 have h2 := hx 2 _ rfl
 generalize enterA f96 [.ptr ir 0 0, .im (.str s), .im (.int .i64 d)] = tm at *
 change tm.length = 36 at hlen
 have z1 : binZero true .neq (.im .ifc) (.im .nili) = some (.im (.bool true)) := rfl
 have z0 : binZero true .neq (.im .nili) (.im .nili) = some (.im (.bool false)) := rfl
 have ho : objQ r b = .obj none [[.im (.str r), .im (.bool b)]] := rfl
 have ho1 : objQ r true = .obj none [[.im (.str r), .im (.bool true)]] := rfl
 rcases ha : Lib.atoiAll s with v | _ | _
 ·simp only [ha] at c119
  have hb := atoi_le ha
  by_cases d1 : v < 0
  ·have hv : numV s d = none := by unfold numV; rw [ha]; simp only [if_pos d1]
   have e1 : decide (v < 0) = true := decide_eq_true d1
   rw [hv, Option.getD_none, Option.isNone_none, Bool.or_true, ho1]
   rw [ho] at hir
   simp only [f96,B0,B1,B2,List.replicate,reduceCtorEq,lenA,seval,B5,pairK,B4,stays,loadOf,endK,resA,tupA,hlen,h0,h1,h2,hir,c119,z0,e1,hlv]
  have e1 : decide (v < 0) = false := decide_eq_false d1
  by_cases d2 : d < (s.length : Int)
  ·have hv : numV s d = none := by unfold numV; rw [ha]; simp only [if_neg d1,if_pos d2]
   have e2 : decide (d < (s.length : Int)) = true := decide_eq_true d2
   rw [hv, Option.getD_none, Option.isNone_none, Bool.or_true, ho1]
   rw [ho] at hir
   simp only [f96,B0,B1,B2,List.replicate,reduceCtorEq,lenA,seval,B5,pairK,B4,stays,loadOf,endK,resA,tupA,hlen,h0,h1,h2,hir,c119,z0,e1,e2,hlv]
  have e2 : decide (d < (s.length : Int)) = false := decide_eq_false d2
  have c76 : ∀ H, L 76 [.im (.int .i64 v)] H = some (.im (.str (itoaN v)), H) := fun H => by
   unfold L
   rw [lim_none (by kernel_rfl)]
   simp [bld, atoiO, countO, itoaO, hb]
  by_cases d3 : itoaN v = s
  ·have hv : numV s d = some v := by unfold numV; rw [ha]; simp only [if_neg d1,if_neg d2,if_pos d3]
   have e3 : decide (itoaN v = s) = true := decide_eq_true d3
   rw [hv, Option.getD_some, Option.isNone_some, Bool.or_false, e0]
   rw [ho] at hir
   simp only [f96,B0,B1,B2,List.replicate,reduceCtorEq,lenA,seval,B5,pairK,B4,stays,loadOf,endK,resA,tupA,hlen,h0,h1,h2,hir,c119,c76,z0,e1,e2,e3,hl0]
  ·have hv : numV s d = none := by unfold numV; rw [ha]; simp only [if_neg d1,if_neg d2,if_neg d3]
   have e3 : decide (itoaN v = s) = false := decide_eq_false d3
   rw [hv, Option.getD_none, Option.isNone_none, Bool.or_true, ho1]
   rw [ho] at hir
   simp only [f96,B0,B1,B2,List.replicate,reduceCtorEq,lenA,seval,B5,pairK,B4,stays,loadOf,endK,resA,tupA,hlen,h0,h1,h2,hir,c119,c76,z0,e1,e2,e3,hlv]
 ·simp only [ha] at c119
  have hv : numV s d = none := by unfold numV; rw [ha]
  rw [hv, Option.getD_none, Option.isNone_none, Bool.or_true, ho1]
  rw [ho] at hir
  simp only [f96,B0,B1,B2,List.replicate,reduceCtorEq,lenA,seval,B5,pairK,B4,stays,loadOf,endK,resA,tupA,hlen,h0,h1,h2,hir,c119,z1,hlv]
 ·simp only [ha] at c119
  have hv : numV s d = none := by unfold numV; rw [ha]
  rw [hv, Option.getD_none, Option.isNone_none, Bool.or_true, ho1]
  rw [ho] at hir
  simp only [f96,B0,B1,B2,List.replicate,reduceCtorEq,lenA,seval,B5,pairK,B4,stays,loadOf,endK,resA,tupA,hlen,h0,h1,h2,hir,c119,z1,hlv]
end Go.Abs.Seat
end
section
set_option linter.unusedVariables false
set_option linter.unusedSimpArgs false
namespace Go.Abs.Seat
open Go.Proofs
theorem cut_len (c : UInt8) : ∀ s : List UInt8, (cutB c s).1.length ≤ s.length ∧ (cutB c s).2.1.length ≤ s.length
 | [] => ⟨Nat.le_refl _, Nat.le_refl _⟩
 | x :: r => by
  have := cut_len c r
  unfold cutB
  split <;> simp <;> omega
theorem part_len (last : Bool) (r : List UInt8) : (partQ last r).1.length ≤ r.length ∧ (partQ last r).2.1.length ≤ r.length := by
 unfold partQ
 split
 ·exact ⟨Nat.le_refl _, Nat.le_refl _⟩
 ·exact cut_len 32 r
theorem s71 (ir : Nat) (r : List UInt8) (b last : Bool) (hs : r.length ≤ 70368744177664) (H : Heap) (hir : H[ir]? = some (objQ r b)) : L 71 [.ptr ir 0 0, .im (.bool last)] H = some (.im (.int .i64 ((numV (partQ last r).1 7).getD 0)), H.set ir (objQ (partQ last r).2.1 ((b || (partQ last r).2.2) || (numV (partQ last r).1 7).isNone))) := by
 have hlt : ir < H.length := (List.getElem?_eq_some_iff.1 hir).1
 have hpl := part_len last r
 have c72 := s72 ir r b last (by omega) H hir
 have c96 := s96 ir (partQ last r).2.1 (b || (partQ last r).2.2) (partQ last r).1 7 (by omega) (H.set ir (objQ (partQ last r).2.1 (b || (partQ last r).2.2))) (List.getElem?_set_self hlt)
 rw [List.set_set] at c96
 have hlv := fun (d : Dat) (r : List UInt8) (b : Bool) => leave_q (d := d) (r := r) (b := b) hlt
 generalize partQ last r = q at *
 generalize numV q.1 7 = n at *
 rw [leq F71]
 obtain ⟨hlen, hx⟩ := enter_at (f := f71) (args := [.ptr ir 0 0, .im (.bool last)]) (Nat.le_of_ble_eq_true rfl)
 have h0 := hx 0 _ rfl
 have h1 := hx 1 _ rfl
 generalize enterA f71 [.ptr ir 0 0, .im (.bool last)] = tm at *
 change tm.length = 10 at hlen
 simp only [f71,B0,B1,B2,List.replicate,reduceCtorEq,lenA,seval,B5,pairK,B4,stays,loadOf,endK,resA,tupA,hlen,h0,h1,c72,c96,hlv]
theorem s68 (ir : Nat) (r : List UInt8) (b last : Bool) (hs : r.length ≤ 70368744177664) (H : Heap) (hir : H[ir]? = some (objQ r b)) : L 68 [.ptr ir 0 0, .im (.bool last)] H = some (.im (.sl 1 [[.int .i64 ((numV (partQ last r).1 3).getD 0)]]), H.set ir (objQ (partQ last r).2.1 ((b || (partQ last r).2.2) || (numV (partQ last r).1 3).isNone))) := by
 have hlt : ir < H.length := (List.getElem?_eq_some_iff.1 hir).1
 have hpl := part_len last r
 have c72 := s72 ir r b last (by omega) H hir
 have c96 := s96 ir (partQ last r).2.1 (b || (partQ last r).2.2) (partQ last r).1 3 (by omega) (H.set ir (objQ (partQ last r).2.1 (b || (partQ last r).2.2))) (List.getElem?_set_self hlt)
 rw [List.set_set] at c96
 have hlv := fun (d : Dat) (r : List UInt8) (b : Bool) => leave_q (d := d) (r := r) (b := b) hlt
 generalize partQ last r = q at *
 generalize numV q.1 3 = n at *
 rw [leq F68]
 obtain ⟨hlen, hx⟩ := enter_at (f := f68) (args := [.ptr ir 0 0, .im (.bool last)]) (Nat.le_of_ble_eq_true rfl)
 have h0 := hx 0 _ rfl
 have h1 := hx 1 _ rfl
 generalize enterA f68 [.ptr ir 0 0, .im (.bool last)] = tm at *
 change tm.length = 11 at hlen
 simp only [f68,B0,B1,B2,List.replicate,reduceCtorEq,lenA,seval,B5,pairK,B4,stays,loadOf,endK,resA,tupA,hlen,h0,h1,c72,c96,toDatss,toDats,toDat,hlv]
theorem s70 (ir : Nat) (r : List UInt8) (b : Bool) (hs : r.length ≤ 70368744177664) (H : Heap) (hir : H[ir]? = some (objQ r b)) : L 70 [.ptr ir 0 0] H = some (.im (.str r), H.set ir (objQ r (b || !textB r))) := by
 have hlt : ir < H.length := (List.getElem?_eq_some_iff.1 hir).1
 have c72 := s72 ir r b true (by omega) H hir
 have e0 : H.set ir (objQ r b) = H := by
  obtain ⟨hl, he⟩ := List.getElem?_eq_some_iff.1 hir
  rw [← he, List.set_getElem_self]
 simp only [partQ,if_true,Bool.or_false,e0] at c72
 have c82 := fun H => s82 r (by omega) H
 have hlv := fun (d : Dat) (b : Bool) => (show leave H false (.im d) (H.set ir (.obj none [[.im (.str r), .im (.bool b)]])) = (.im d, H.set ir (.obj none [[.im (.str r), .im (.bool b)]])) from leave_q hlt)
 unfold objQ at *
 generalize textB r = z at *
 rw [leq F70]
 obtain ⟨hlen, hx⟩ := enter_at (f := f70) (args := [.ptr ir 0 0]) (Nat.le_of_ble_eq_true rfl)
 have h0 := hx 0 _ rfl
 generalize enterA f70 [.ptr ir 0 0] = tm at *
 change tm.length = 19 at hlen
 cases b <;> cases z <;>
  simp only [f70,B0,B1,B2,List.replicate,reduceCtorEq,lenA,seval,B5,pairK,B4,stays,loadOf,endK,resA,tupA,hlen,h0,c72,c82,hir,hlv,Bool.or_self,Bool.or_true,Bool.true_or,Bool.or_false,Bool.not_true,Bool.not_false,Bool.false_or]
end Go.Abs.Seat
end
section
set_option linter.unusedVariables false
set_option linter.unusedSimpArgs false
namespace Go.Abs.Seat
open Go.Proofs
def splitL (c : UInt8) : List UInt8 → List (List UInt8)
 | [] => [[]]
 | x :: r => if x = c then [] :: splitL c r else (x :: (splitL c r).headD []) :: (splitL c r).tail
theorem splitL_cut (c : UInt8) : ∀ s : List UInt8, splitL c s = if (cutB c s).2.2 = true then (cutB c s).1 :: splitL c (cutB c s).2.1 else [(cutB c s).1]
 | [] => by simp [splitL, cutB]
 | x :: r => by
  have ih := splitL_cut c r
  rw [splitL, cutB]
  by_cases e : x = c
  ·rw [if_pos e, if_pos e]; simp
  ·rw [if_neg e, if_neg e, ih]
   by_cases h : (cutB c r).2.2 = true
   ·simp only [if_pos h,List.headD_cons,List.tail_cons]
   ·simp only [if_neg h,List.headD_cons,List.tail_cons]
theorem cut_count (c : UInt8) : ∀ s : List UInt8, (0 < s.count c → (cutB c s).2.2 = true ∧ (cutB c s).2.1.count c + 1 = s.count c) ∧ (s.count c = 0 → cutB c s = (s, [], false))
 | [] => by simp [cutB]
 | x :: r => by
  have ih := cut_count c r
  unfold cutB
  by_cases e : x = c
  ·subst e
   simp
  ·have hc : (x :: r).count c = r.count c := by rw [List.count_cons]; simp [e]
   rw [if_neg e, hc]
   refine ⟨fun h => ih.1 h, fun h => ?_⟩
   rw [ih.2 h]
def strsR (l : List (List UInt8)) : List (List AV) := l.map fun x => [.im (.str x)]
theorem strsR_set (l : List (List UInt8)) (i : Nat) (x : List UInt8) : (strsR l).set i [.im (.str x)] = strsR (l.set i x) := by
 unfold strsR
 rw [List.map_set]
theorem strsR_get {l : List (List UInt8)} {i : Nat} {x : List UInt8} (h : l[i]? = some x) : (strsR l)[i]? = some [.im (.str x)] := by
 unfold strsR
 rw [List.getElem?_map, h]
 rfl
theorem c94 (s : List UInt8) (c : UInt8) (H : Heap) : L 94 [.im (.str s), .im (.str [c])] H = some (.im (.int .i64 (Lib.indexByte s c)), H) := by
 unfold L
 rw [lim_none (by kernel_rfl)]
 simp [bld, atoiO, countO, itoaO, joinO, one1O, cloneO]
theorem s139 (s : List UInt8) (c : UInt8) (H : Heap) : L 139 [.im (.str s), .im (.str [c])] H = some (.im (.int .i64 (Lib.indexByte s c)), H) := by
 have c94 := fun H => c94 s c H
 rw [leq F139]
 obtain ⟨hlen, hx⟩ := enter_at (f := f139) (args := [.im (.str s), .im (.str [c])]) (Nat.le_of_ble_eq_true rfl)
 have h0 := hx 0 _ rfl
 have h1 := hx 1 _ rfl
 generalize enterA f139 [.im (.str s), .im (.str [c])] = tm at *
 change tm.length = 8 at hlen
 simp only [f139,B0,B1,B2,List.replicate,reduceCtorEq,lenA,seval,B5,pairK,B4,stays,loadOf,endK,resA,tupA,hlen,h0,h1,c94,leave_same]
theorem c138 (s : List UInt8) (c : UInt8) (H : Heap) : L 138 [.im (.str s), .im (.str [c])] H = some (.im (.int .i64 (s.count c : Int)), H) := by
 unfold L
 rw [lim_none (by kernel_rfl)]
 simp [bld, atoiO, countO, Lib.countByte]
theorem m120 (c : UInt8) (cnt id : Nat) (hcn : cnt ≤ 1000000) (H : Heap) (hid : id = H.length) :
  ∀ (k : Nat) (s : List UInt8) (i : Nat) (pre : List (List UInt8)) (tm : List AV), s.length ≤ 1000000 → s.count c = k → i + k = cnt → pre.length = i → tm.length = 66 → tm.getD 0 undefA = .im (.str s) → tm.getD 1 undefA = .im (.str [c]) → tm.getD 2 undefA = .im (.int .i64 0) → tm.getD 3 undefA = .im (.int .i64 (cnt : Int)) → tm.getD 9 undefA = .ms 1 id 0 (cnt + 1) → tm.getD 10 undefA = .im (.int .i64 (i : Int)) →
  ∃ e tm' H', Λ c120_0 tm (H ++ [.obj none (strsR (pre ++ List.replicate (k + 1) []))]) = some (e, tm', H') ∧ tm'.length = 66 ∧ e = .exit 0 ∧ tm'.getD 9 undefA = .ms 1 id 0 (cnt + 1) ∧ tm'.getD 10 undefA = .im (.int .i64 (cnt : Int)) ∧ ∃ (pre' : List (List UInt8)) (s' : List UInt8), tm'.getD 0 undefA = .im (.str s') ∧ pre'.length = cnt ∧ pre' ++ [s'] = pre ++ splitL c s ∧ H' = H ++ [.obj none (strsR (pre' ++ [[]]))]
 | 0, s, i, pre, tm, hs, hk, hi, hp, hlen, h0, h1, h2, h3, h9, h10 => by
  have hc : decide ((i : Int) < (cnt : Int)) = false := decide_eq_false (by omega)
  have hcut := (cut_count c s).2 hk
  have hsp : splitL c s = [s] := by rw [splitL_cut, hcut]; simp
  rw [l120_0]
  simp only [b120_0,B0,B1,B2,List.replicate,reduceCtorEq,lenA,seval,hlen,h0,h1,h2,h3,h9,h10,hc]
  refine ⟨_, _, _, rfl, by simp only [List.length_set,hlen], rfl, by simp only [B3,seval,hlen,h9], ?_, pre, s, by simp only [B3,seval,hlen,h0], by omega, by rw [hsp], rfl⟩
  simp only [B3,seval,hlen,h10]
  rw [show i = cnt by omega]
 | k + 1, s, i, pre, tm, hs, hk, hi, hp, hlen, h0, h1, h2, h3, h9, h10 => by
  have hc : decide ((i : Int) < (cnt : Int)) = true := decide_eq_true (by omega)
  obtain ⟨hc1, hc2⟩ := (cut_count c s).1 (by omega)
  have hci := cut_idx c s
  rcases hci with ⟨_, hci⟩ | ⟨m, hm, hml, hci⟩
  ·rw [hci] at hc1; simp at hc1
  have c139 := fun H => s139 s c H
  rw [hm] at c139
  have hsp : splitL c s = s.take m :: splitL c (s.drop (m + 1)) := by
   rw [splitL_cut, hci]; simp
  rw [hci] at hc2
  simp only at hc2
  have d0 : decide ((m : Int) < 0) = false := decide_eq_false (by omega)
  have hnn : (0 : Int) ≤ (m : Int) := by omega
  have hnn1 : (0 : Int) ≤ ((m + 1 : Nat) : Int) := by omega
  have hw0 : IntKind.i64.wrap ((m : Int) + 0) = (m : Int) := by
   simp [IntKind.wrap, IntKind.bits, IntKind.signed]; omega
  have hw1 : IntKind.i64.wrap ((m : Int) + 1) = ((m + 1 : Nat) : Int) := wrap_nat (by omega)
  have hwi : IntKind.i64.wrap ((i : Int) + 1) = ((i + 1 : Nat) : Int) := wrap_nat (by omega)
  have hz : 0 ≤ m := Nat.zero_le m
  have hil : m ≤ s.length := by omega
  have hil1 : m + 1 ≤ s.length := by omega
  have htk : (s.drop (m + 1)).take (s.length - (m + 1)) = s.drop (m + 1) := List.take_of_length_le (by simp)
  have hix := idx_nat (n := cnt + 1) (i := i) (by omega)
  have hge : (strsR (pre ++ List.replicate (k + 1 + 1) []))[i]? = some [.im (.str [])] := strsR_get (by
   rw [List.getElem?_append_right (by omega), hp, Nat.sub_self]; rfl)
  have hse : (pre ++ List.replicate (k + 1 + 1) []).set i (s.take m) = (pre ++ [s.take m]) ++ List.replicate (k + 1) [] := by
   rw [List.set_append_right _ _ (by omega), hp, Nat.sub_self, List.replicate_succ, List.set_cons_zero, List.append_assoc]; rfl
  have hgt : ∀ x : HO, (H ++ [x])[id]? = some x := fun x => by rw [hid, hget0]; rfl
  have hst : ∀ x y : HO, (H ++ [x]).set id y = H ++ [y] := fun x y => by rw [hid, hset0]; rfl
  have key := m120 c cnt id hcn H hid k (s.drop (m + 1)) (i + 1) (pre ++ [s.take m])
  generalize pre ++ List.replicate (k + 1 + 1) [] = Lx at *
  generalize (pre ++ [s.take m]) ++ List.replicate (k + 1) [] = Ly at *
  rw [l120_0]
  simp only [b120_0,B0,B1,B2,List.replicate,reduceCtorEq,lenA,seval,B5,pairK,B4,stays,loadOf,hlen,h0,h1,h2,h3,h9,h10,hc,c139,d0,boundA,intOfA,hnn,hnn1,hw0,hw1,hwi,Int.toNat_natCast,hz,hil,hil1,Nat.sub_zero,htk,hix,hgt,hge,strsR_set,hse,hst]
  refine ex_imp (key _ ?_ ?_ ?_ ?_ ?_ ?_ ?_ ?_ ?_ ?_ ?_) ?_
  ·simp; omega
  ·omega
  ·omega
  ·simp; omega
  ·simp only [List.length_set,hlen]
  iterate 6 simp only [B3,seval,hlen,h0,h1,h2,h3,h9]
  rintro e tm' H' ⟨hl', he, g9, g10, pre', s', g0, hpl, hps, hH⟩
  refine ⟨hl', he, g9, g10, pre', s', g0, hpl, ?_, hH⟩
  rw [hps, hsp, List.append_assoc]
  rfl
theorem splitL_ne (c : UInt8) (s : List UInt8) : splitL c s ≠ [] := by
 rw [splitL_cut]
 split <;> simp
theorem splitL_len (c : UInt8) : ∀ s : List UInt8, (splitL c s).length = s.count c + 1
 | [] => rfl
 | x :: r => by
  have ih := splitL_len c r
  rw [splitL]
  by_cases e : x = c
  ·subst e; rw [if_pos rfl]; simp [ih]
  ·have hc : (x :: r).count c = r.count c := by rw [List.count_cons]; simp [e]
   rw [if_neg e, hc]
   simp [ih]
theorem s120 (s : List UInt8) (c : UInt8) (hs : s.length ≤ 1000000) (H : Heap) : L 120 [.im (.str s), .im (.str [c]), .im (.int .i64 0), .im (.int .i64 (-1))] H = some (.ms 1 H.length 0 (splitL c s).length, H ++ [.obj none (strsR (splitL c s))]) := by
 have c138 := fun H => c138 s c H
 have hcl : s.count c ≤ s.length := List.count_le_length
 have key := fun tm => m120 c (s.count c) H.length (by omega) H rfl (s.count c) s 0 [] tm hs rfl (by omega) rfl
 simp only [List.nil_append] at key
 have hw1 : IntKind.i64.wrap ((s.count c : Int) + 1) = ((s.count c + 1 : Nat) : Int) := wrap_nat (by omega)
 have hw2 : IntKind.i64.wrap ((s.length : Int) + 1) = ((s.length + 1 : Nat) : Int) := wrap_nat (by omega)
 have hmin : minA (.im (.int .i64 ((s.count c + 1 : Nat) : Int))) (.im (.int .i64 ((s.length + 1 : Nat) : Int))) = some (.im (.int .i64 ((s.count c + 1 : Nat) : Int))) := by
  unfold minA
  simp only
  rw [if_neg (by omega)]
 have hnn : (0 : Int) ≤ ((s.count c + 1 : Nat) : Int) := by omega
 have hb1 : (16 : Int) * ((s.count c + 1 : Nat) : Int) ≤ 70368744177664 := by omega
 have hb2 : ((s.count c + 1 : Nat) : Int) ≤ 70368744177664 := by omega
 have hw3 : IntKind.i64.wrap (((s.count c + 1 : Nat) : Int) - 1) = (s.count c : Int) := by
  simp [IntKind.wrap, IntKind.bits, IntKind.signed]; omega
 have hrep : List.replicate (s.count c + 1) [AV.im (.str [])] = strsR (List.replicate (s.count c + 1) []) := by
  unfold strsR; rw [List.map_replicate]
 generalize hR : List.replicate (s.count c + 1) ([] : List UInt8) = R at *
 have hix := idx_nat (n := s.count c + 1) (i := s.count c) (by omega)
 have hlen0 := splitL_len c s
 generalize hn1 : s.count c + 1 = n1 at *
 have e1 : ((n1 : Nat) : Int).toNat = n1 := Int.toNat_natCast n1
 rw [leq F120]
 obtain ⟨hlen, hx⟩ := enter_at (f := f120) (args := [.im (.str s), .im (.str [c]), .im (.int .i64 0), .im (.int .i64 (-1))]) (Nat.le_of_ble_eq_true rfl)
 have h0 := hx 0 _ rfl
 have h1 := hx 1 _ rfl
 have h2 := hx 2 _ rfl
 have h3 := hx 3 _ rfl
 generalize enterA f120 [.im (.str s), .im (.str [c]), .im (.int .i64 0), .im (.int .i64 (-1))] = tm at *
 change tm.length = 66 at hlen
 simp only [f120,e120_0,B0,B1,B2,List.replicate,reduceCtorEq,lenA,seval,B5,pairK,B4,stays,loadOf,hlen,h0,h1,h2,h3,c138,hw1,hw2,hmin,intOfA,hnn,hb1,hb2,e1,hrep,hw3]
 generalize hr : thenL (Λ c120_0 _ _) _ = r
 refine Exists.elim (thenL_inv hr (key _ ?_ ?_ ?_ ?_ ?_ ?_ ?_)) ?_
 ·simp only [List.length_set,hlen]
 iterate 5 simp only [B3,seval,hlen,h0,h1,h2]
 ·simp only [B3,seval,hlen]; first | done | rfl
 clear hr key
 rintro e ⟨tm', H', ⟨hl', rfl, g9, g10, pre', s', g0, hpl, hps, rfl⟩, rfl⟩
 have hge : (strsR (pre' ++ [[]]))[s.count c]? = some [.im (.str [])] := strsR_get (by
  rw [List.getElem?_append_right (by omega), hpl, Nat.sub_self]; rfl)
 have hse : (pre' ++ [[]]).set (s.count c) s' = pre' ++ [s'] := by
  rw [List.set_append_right _ _ (by omega), hpl, Nat.sub_self]; rfl
 rw [hps] at hse
 generalize pre' ++ [[]] = Lx at *
 have hgt : ∀ x : HO, (H ++ [x])[H.length]? = some x := fun x => by rw [hget0]; rfl
 have hst : ∀ x y : HO, (H ++ [x]).set H.length y = H ++ [y] := fun x y => by rw [hset0]; rfl
 have hn0 : 0 ≤ n1 := Nat.zero_le _
 have hl0 : 0 < n1 := by omega
 have hwz : IntKind.i64.wrap ((s.count c : Int) + 1) = (n1 : Int) := hw1
 have hlv : ∀ es, leave H false (.ms 1 H.length 0 n1) (H ++ [.obj none es]) = (.ms 1 H.length 0 n1, H ++ [.obj none es]) := fun es => by
  unfold leave
  have e : (if (false : Bool) = true then AV.ms 1 H.length 0 n1 else degrade (.ms 1 H.length 0 n1)) = .ms 1 H.length 0 n1 := by simp [degrade, toDat]
  rw [e, if_neg (by simp [refsLt])]
  rfl
 rw [hlen0]
 simp only [B0,B1,B2,List.replicate,reduceCtorEq,lenA,seval,B5,pairK,B4,stays,loadOf,endK,resA,tupA,hl',g0,g9,g10,hix,hgt,hge,strsR_set,hse,hst,boundA,intOfA,hwz,hnn,e1,sliceA,hn0,Nat.sub_zero,hlv]
end Go.Abs.Seat
end
section
set_option linter.unusedVariables false
set_option linter.unusedSimpArgs false
namespace Go.Abs.Seat
open Go.Proofs
theorem s97 (s : List UInt8) (c : UInt8) (hs : s.length ≤ 1000000) (H : Heap) : L 97 [.im (.str s), .im (.str [c])] H = some (.ms 1 H.length 0 (splitL c s).length, H ++ [.obj none (strsR (splitL c s))]) := by
 have c120 := fun H => s120 s c hs H
 have hlv : ∀ n es, leave H false (.ms 1 H.length 0 n) (H ++ [.obj none es]) = (.ms 1 H.length 0 n, H ++ [.obj none es]) := fun n es => by
  unfold leave
  have e : (if (false : Bool) = true then AV.ms 1 H.length 0 n else degrade (.ms 1 H.length 0 n)) = .ms 1 H.length 0 n := by simp [degrade, toDat]
  rw [e, if_neg (by simp [refsLt])]
  rfl
 generalize splitL c s = l at *
 rw [leq F97]
 obtain ⟨hlen, hx⟩ := enter_at (f := f97) (args := [.im (.str s), .im (.str [c])]) (Nat.le_of_ble_eq_true rfl)
 have h0 := hx 0 _ rfl
 have h1 := hx 1 _ rfl
 generalize enterA f97 [.im (.str s), .im (.str [c])] = tm at *
 change tm.length = 8 at hlen
 simp only [f97,B0,B1,B2,List.replicate,reduceCtorEq,lenA,seval,B5,pairK,B4,stays,loadOf,endK,resA,tupA,hlen,h0,h1,c120,hlv]
theorem gath_swapG {ty : TypeId} {s n : Nat} {v : AV} {A A' M : Heap} {es : List (List Dat)} (hA : A.length = n) (hA' : A'.length = n) (h : Gath ty s n v (A ++ M) es) : Gath ty s n v (A' ++ M) es := by
 rcases h with h | ⟨h1, tok, h2, h3, h4⟩
 ·exact .inl h
 ·refine .inr ⟨h1, tok, h2, h3, ?_⟩
  rw [List.getElem?_append_right (by omega)] at h4 ⊢
  rw [hA', ← hA]
  exact h4
def valN (x : List UInt8) : Int := (numV x 3).getD 0
def badN (x : List UInt8) : Bool := (numV x 3).isNone
theorem m69 (l : List (List UInt8)) (rest : List UInt8) (id ir N : Nat) (hne : ir ≠ id) (hl : l.length ≤ 1000000) (hxl : ∀ x ∈ l, x.length ≤ 70368744177664) :
  ∀ (k i : Nat), i + k = l.length → ∀ (A M : Heap) (b : Bool) (tm : List AV) (v : AV), A.length = N → A[ir]? = some (objQ rest b) → A[id]? = some (.obj none (strsR l)) → Gath 3 1 N v (A ++ M) (rowsI ((l.take i).map valN)) → tm.length = 46 → tm.getD 0 undefA = .ptr ir 0 0 → tm.getD 8 undefA = v → tm.getD 20 undefA = .ms 1 id 0 l.length → tm.getD 21 undefA = .im (.int .i64 (l.length : Int)) → tm.getD 22 undefA = .im (.int .i64 (i : Int)) →
  ∃ e tm' H', Λ c69_0 tm (A ++ M) = some (e, tm', H') ∧ tm'.length = 46 ∧ e = .exit 0 ∧ tm'.getD 0 undefA = .ptr ir 0 0 ∧ ∃ M', H' = A.set ir (objQ rest (b || (l.drop i).any badN)) ++ M' ∧ Gath 3 1 N (tm'.getD 8 undefA) (A ++ M') (rowsI (l.map valN))
 | 0, i, hi, A, M, b, tm, v, hN, hr, hd, hG, hlen, h0, h8, h20, h21, h22 => by
  have hc : decide ((i : Int) < (l.length : Int)) = false := decide_eq_false (by omega)
  have e : l.drop i = [] := by rw [List.drop_eq_nil_iff]; omega
  rw [List.take_of_length_le (by omega)] at hG
  rw [l69_0, e]
  simp only [b69_0,B0,B1,B2,List.replicate,reduceCtorEq,lenA,seval,hlen,h0,h8,h20,h21,h22,hc]
  refine ⟨_, _, _, rfl, by simp only [List.length_set,hlen], rfl, by simp only [B3,seval,hlen,h0], M, ?_, by simp only [B3,seval,hlen,h8]; exact hG⟩
  rw [List.any_nil, Bool.or_false]
  obtain ⟨hl, he⟩ := List.getElem?_eq_some_iff.1 hr
  rw [← he, List.set_getElem_self]
 | k + 1, i, hi, A, M, b, tm, v, hN, hr, hd, hG, hlen, h0, h8, h20, h21, h22 => by
  have hlt : i < l.length := by omega
  obtain ⟨w, hwi⟩ : ∃ w, l[i]? = some w := ⟨_, List.getElem?_eq_getElem hlt⟩
  have e : l.drop i = w :: l.drop (i + 1) := by
   rw [List.drop_eq_getElem_cons hlt]
   congr 1
   rw [List.getElem?_eq_getElem hlt] at hwi
   exact Option.some.inj hwi
  have hirl : ir < A.length := (List.getElem?_eq_some_iff.1 hr).1
  have hidl : id < A.length := (List.getElem?_eq_some_iff.1 hd).1
  have hc' : decide ((i : Int) < (l.length : Int)) = true := decide_eq_true (by omega)
  have hix := idx_nat (n := l.length) (i := i) hlt
  have hgw : (strsR l)[i]? = some [.im (.str w)] := strsR_get hwi
  have hwr := wrap_nat (i := i) (by omega)
  have hgi : ∀ M, (A ++ M)[id]? = some (.obj none (strsR l)) := fun M => by rw [get_app hidl]; exact hd
  have c96 := s96 ir rest b w 3 (hxl w (List.mem_of_getElem? hwi)) (A ++ M) (by rw [get_app hirl]; exact hr)
  rw [set_app hirl] at c96
  have hG1 : Gath 3 1 N v (A.set ir (objQ rest (b || badN w)) ++ M) (rowsI ((l.take i).map valN)) := gath_swapG hN (by rw [List.length_set]; exact hN) hG
  have hNe : N = (A.set ir (objQ rest (b || badN w))).length := by rw [List.length_set, hN]
  rw [hNe] at hG1
  have hrl := rowsI_len ((l.take i).map valN)
  obtain ⟨v', M', hap, hG', hok, _⟩ := hG1.push (bytes := 8) [.int .i64 (valN w)] (by rw [hrl]; simp; omega) (by decide)
  rw [← hNe] at hG'
  have htk : rowsI ((l.take (i + 1)).map valN) = rowsI ((l.take i).map valN) ++ [[.int .i64 (valN w)]] := by
   rw [List.take_add_one, hwi]; simp [rowsI]
  rw [← htk] at hG'
  have key := fun tm => m69 l rest id ir N hne hl hxl k (i + 1) (by omega) (A.set ir (objQ rest (b || badN w))) M' (b || badN w) tm v' (by rw [List.length_set]; exact hN) (List.getElem?_set_self hirl) (by rw [List.getElem?_set_ne hne]; exact hd) hG'
  simp only [List.set_set] at key
  rw [e, List.any_cons, ← Bool.or_assoc]
  rw [l69_0]
  unfold valN at hap
  unfold badN at hap
  unfold badN at key
  have hfin : ∀ (M'' : Heap) (v'' : AV), Gath 3 1 N v'' (A.set ir (objQ rest (b || (numV w 3).isNone)) ++ M'') (rowsI (l.map valN)) → Gath 3 1 N v'' (A ++ M'') (rowsI (l.map valN)) := fun M'' v'' h => gath_swapG (by rw [List.length_set]; exact hN) hN h
  simp only [b69_0,B0,B1,B2,List.replicate,reduceCtorEq,lenA,seval,B5,pairK,B4,stays,loadOf,hlen,h0,h8,h20,h21,h22,hc',hix,hgi,hgw,hwr,c96,toDatss,toDats,toDat,elems,hap]
  refine ex_imp (key _ ?_ ?_ ?_ ?_ ?_ ?_) ?_
  ·simp only [List.length_set,hlen]
  iterate 5 simp only [B3,seval,hlen,h0,h20,h21]
  rintro e tm' H' ⟨hl', he, g0, M'', hH, hG''⟩
  exact ⟨hl', he, g0, M'', hH, hfin _ _ hG''⟩
end Go.Abs.Seat
end
section
set_option linter.unusedVariables false
set_option linter.unusedSimpArgs false
namespace Go.Abs.Seat
open Go.Proofs
theorem m79a (l : List Int) (tok : Nat) (hn : l.length ≤ 1000000) (x y : Int) (H : Heap) :
  ∀ (m i : Nat), 1 ≤ i → m = l.length - i → ∀ (tm : List AV), tm.length = 34 → tm.getD 0 undefA = .asl 1 (rowsI l) tok → tm.getD 1 undefA = .im (.int .i64 x) → tm.getD 2 undefA = .im (.int .i64 y) → tm.getD 7 undefA = .im (.int .i64 (i : Int)) →
  ∃ e tm' H', Λ c79_0 tm H = some (e, tm', H') ∧ (tm'.length = 34 ∧ H' = H ∧ ((e = .exit 0 ∧ risesF l m i = true ∧ tm'.getD 0 undefA = .asl 1 (rowsI l) tok ∧ tm'.getD 1 undefA = .im (.int .i64 x) ∧ tm'.getD 2 undefA = .im (.int .i64 y)) ∨ (e = .ret ∧ risesF l m i = false ∧ tm'.getD 6 undefA = .im (.bool false))))
 | 0, i, h1i, hi, tm, hlen, h0, h1, h2, h7 => by
  have hml := rowsI_len l
  have hc : decide ((i : Int) < (l.length : Int)) = false := decide_eq_false (by omega)
  rw [l79_0]
  simp only [b79_0,B0,B1,B2,List.replicate,reduceCtorEq,lenA,seval,hlen,h0,h1,h2,h7,hml,hc]
  exact ⟨_, _, _, rfl, by simp only [List.length_set,hlen], rfl, .inl ⟨rfl, rfl, by simp only [B3,seval,hlen,h0], by simp only [B3,seval,hlen,h1], by simp only [B3,seval,hlen,h2]⟩⟩
 | m + 1, i, h1i, hi, tm, hlen, h0, h1, h2, h7 => by
  have hlt : i < l.length := by omega
  have hml := rowsI_len l
  have hc' : decide ((i : Int) < (l.length : Int)) = true := decide_eq_true (by omega)
  have hix := idx_nat (n := l.length) (i := i) hlt
  have hix2 := idx_nat (n := l.length) (i := i - 1) (by omega)
  have hg : ∀ j, j < l.length → (rowsI l)[j]? = some [.int .i64 (l.getD j 0)] := fun j hj => by
   unfold rowsI
   rw [List.getElem?_map, List.getElem?_eq_getElem hj, List.getD_eq_getElem?_getD, List.getElem?_eq_getElem hj]
   rfl
  have hgw := hg i hlt
  have hgv := hg (i - 1) (by omega)
  have hwr := wrap_nat (i := i) (by omega)
  have hws : IntKind.i64.wrap ((i : Int) - 1) = ((i - 1 : Nat) : Int) := by
   rw [wrap_small _ (by omega)]; omega
  have key := m79a l tok hn x y H m (i + 1) (by omega) (by omega)
  rw [l79_0]
  simp only [risesF]
  cases b : decide (l.getD i 0 ≤ l.getD (i - 1) 0) with
  | true =>
   generalize hz : (if true = true then false else risesF l m (i + 1)) = z
   rw [if_pos rfl] at hz
   simp only [b79_0,B0,B1,B2,List.replicate,reduceCtorEq,lenA,seval,B5,pairK,B4,stays,loadOf,hlen,h0,h1,h2,h7,hc',hml,hix,hix2,hgw,hgv,hwr,hws,b]
   exact ⟨_, _, _, rfl, by simp only [List.length_set,hlen], rfl, .inr ⟨rfl, hz.symm, by simp only [B3,seval,hlen]⟩⟩
  | false =>
   rw [if_neg Bool.false_ne_true]
   simp only [b79_0,B0,B1,B2,List.replicate,reduceCtorEq,lenA,seval,B5,pairK,B4,stays,loadOf,hlen,h0,h1,h2,h7,hc',hml,hix,hix2,hgw,hgv,hwr,hws,b]
   refine key _ ?_ ?_ ?_ ?_ ?_
   all_goals simp only [B3,seval,hlen,h0,h1,h2,h7]
   all_goals rfl
theorem s79a (l : List Int) (tok : Nat) (hn : l.length ≤ 1000000) (x y : Int) (H : Heap) : L 79 [.asl 1 (rowsI l) tok, .im (.int .i64 x), .im (.int .i64 y)] H = some (.im (.bool (risesB l x y)), H) := by
 have hml := rowsI_len l
 have key := m79a l tok hn x y H (l.length - 1) 1 (by decide) rfl
 unfold risesB
 rw [leq F79]
 obtain ⟨hlen, ha⟩ := enter_at (f := f79) (args := [.asl 1 (rowsI l) tok, .im (.int .i64 x), .im (.int .i64 y)]) (Nat.le_of_ble_eq_true rfl)
 have h0 := ha 0 _ rfl
 have h1 := ha 1 _ rfl
 have h2 := ha 2 _ rfl
 generalize enterA f79 [.asl 1 (rowsI l) tok, .im (.int .i64 x), .im (.int .i64 y)] = tm at *
 change tm.length = 34 at hlen
 simp only [f79,e79_0,B0,B1,B2,List.replicate,reduceCtorEq,lenA,seval,B5,pairK,B4,stays,loadOf,hlen,h0,h1,h2]
 generalize hr : thenL (Λ c79_0 _ _) _ = r
 refine Exists.elim (thenL_inv hr (key _ ?_ ?_ ?_ ?_ ?_)) ?_
 ·simp only [List.length_set,hlen]
 iterate 3 simp only [B3,seval,hlen,h0,h1,h2]
 ·simp only [B3,seval,hlen]; first | done | rfl
 clear hr key
 rintro e ⟨tm', H', ⟨hl', rfl, hm⟩, rfl⟩
 rcases hm with ⟨rfl, hz, g0, g1, g2⟩ | ⟨rfl, hz, g6⟩
 ·rw [hz]
  cases q1 : decide (x ≤ (l.length : Int)) <;> cases q2 : decide ((l.length : Int) ≤ y) <;>
   simp only [B0,B1,B2,List.replicate,reduceCtorEq,lenA,seval,B5,pairK,B4,stays,loadOf,endK,resA,tupA,hl',g0,g1,g2,hml,q1,q2,leave_same,Bool.and_self,Bool.and_false,Bool.false_and]
 ·rw [hz]
  simp only [B0,B1,B2,List.replicate,reduceCtorEq,lenA,seval,B5,pairK,B4,stays,loadOf,endK,resA,tupA,hl',g6,leave_same,Bool.false_and]
def placesQ (last none : Bool) (r : List UInt8) : List Int × List UInt8 × Bool :=
 if none = true ∧ (partQ last r).1 = [45] then ([], (partQ last r).2.1, (partQ last r).2.2)
 else ((splitL 44 (partQ last r).1).map valN, (partQ last r).2.1, ((partQ last r).2.2 || (splitL 44 (partQ last r).1).any badN) || !risesB ((splitL 44 (partQ last r).1).map valN) 1 4)
theorem splitL_mem (c : UInt8) : ∀ (s : List UInt8) (x : List UInt8), x ∈ splitL c s → x.length ≤ s.length
 | [], x, h => by simp [splitL] at h; subst h; simp
 | y :: r, x, h => by
  have ih := splitL_mem c r
  rw [splitL] at h
  split at h
  ·rcases List.mem_cons.1 h with rfl | h
   ·simp
   ·have := ih x h; simp; omega
  ·rcases List.mem_cons.1 h with rfl | h
   ·obtain ⟨a, l, e⟩ := List.exists_cons_of_ne_nil (splitL_ne c r)
    have := ih a (by rw [e]; exact .head _)
    rw [e]; simp; omega
   ·have := ih x (List.mem_of_mem_tail h); simp; omega
theorem s69 (ir : Nat) (r : List UInt8) (b last none : Bool) (hs : r.length ≤ 900000) (H : Heap) (hir : H[ir]? = some (objQ r b)) : L 69 [.ptr ir 0 0, .im (.bool last), .im (.bool none)] H = some (.im (slI (placesQ last none r).1), H.set ir (objQ (placesQ last none r).2.1 (b || (placesQ last none r).2.2))) := by
 have hlt : ir < H.length := (List.getElem?_eq_some_iff.1 hir).1
 have hpl := part_len last r
 have c72 := s72 ir r b last (by omega) H hir
 have hsp := splitL_len 44 (partQ last r).1
 have hcl : (partQ last r).1.count 44 ≤ (partQ last r).1.length := List.count_le_length
 have c97 := fun H => s97 (partQ last r).1 44 (by omega) H
 have hmem := splitL_mem 44 (partQ last r).1
 have hne := splitL_ne 44 (partQ last r).1
 have hlv0 : ∀ (r : List UInt8) (b : Bool), leave H false .nils (H.set ir (objQ r b)) = (.im (.sl 0 []), H.set ir (objQ r b)) := fun r b => by
  have h := leave_but (keep := false) (r := .nils) (o := objQ r b) (H' := H.set ir (objQ r b)) ((But.refl (n := H.length) (id := ir)).set _) (List.getElem?_set_self hlt) (by simp [refsO, objQ, refsLts, refsLt]) (by simp [degrade, toDat, refsLt]) hlt
  have e : (if false = true then AV.nils else degrade .nils) = .im (.sl 0 []) := by simp [degrade, toDat]
  rw [e] at h
  exact h
 unfold placesQ
 generalize partQ last r = q at *
 obtain ⟨q1, q2, q3⟩ := q
 simp only at hpl hsp hcl c97 hmem hne c72 ⊢
 rw [leq F69]
 obtain ⟨hlen, hx⟩ := enter_at (f := f69) (args := [.ptr ir 0 0, .im (.bool last), .im (.bool none)]) (Nat.le_of_ble_eq_true rfl)
 have h0 := hx 0 _ rfl
 have h1 := hx 1 _ rfl
 have h2 := hx 2 _ rfl
 generalize enterA f69 [.ptr ir 0 0, .im (.bool last), .im (.bool none)] = tm at *
 change tm.length = 46 at hlen
 by_cases hc : none = true ∧ q1 = [45]
 ·obtain ⟨rfl, rfl⟩ := hc
  have hs0 : slI [] = .sl 0 [] := rfl
  have d : decide (([45] : List UInt8) = [45]) = true := rfl
  simp only [true_and,if_true,hs0,and_self]
  simp only [f69,B0,B1,B2,List.replicate,reduceCtorEq,lenA,seval,B5,pairK,B4,stays,loadOf,endK,resA,tupA,hlen,h0,h1,h2,c72,d,hlv0]
 rw [if_neg hc]
 generalize splitL 44 q1 = l at *
 have kk := fun tm => m69 l q2 H.length ir (H.length + 1) (by omega) (by omega) (fun x hx => by have := hmem x hx; omega) l.length 0 (by omega) (H.set ir (objQ q2 (b || q3)) ++ [.obj Option.none (strsR l)]) [] (b || q3) tm .nils (by simp) (by rw [get_app (by simpa using hlt)]; exact List.getElem?_set_self hlt) (by have := hget0 (H := H.set ir (objQ q2 (b || q3))) (l := [HO.obj Option.none (strsR l)]); rw [List.length_set] at this; exact this) (.inl ⟨by simp [rowsI], rfl⟩)
 simp only [List.append_nil,List.drop_zero] at kk
 rw [set_app (by simpa using hlt), List.set_set] at kk
 have hln : ∀ x : HO, (H.set ir x).length = H.length := fun x => List.length_set ..
 have d1 : none = true → decide (q1 = [45]) = false := fun h => decide_eq_false (fun e => hc ⟨h, e⟩)
 have hnm : (l.map valN).length ≤ 1000000 := by rw [List.length_map]; omega
 have hnn : l.map valN ≠ [] := by simpa using hne
 have hsn : slI (l.map valN) = .sl 1 (rowsI (l.map valN)) := by unfold slI; rw [if_neg (by simpa [rowsI] using hne)]
 have hfin : ∀ (tm' : List AV) (M' : Heap), tm'.length = 46 → tm'.getD 0 undefA = .ptr ir 0 0 → Gath 3 1 (H.length + 1) (tm'.getD 8 undefA) (H.set ir (objQ q2 (b || q3)) ++ [.obj Option.none (strsR l)] ++ M') (rowsI (l.map valN)) →
   ∃ tok, tm'.getD 8 undefA = .asl 1 (rowsI (l.map valN)) tok := fun tm' M' _ _ hG => by
  rcases hG with ⟨h, _⟩ | ⟨_, tok, _, h, _⟩
  ·exact absurd h (by simpa [rowsI] using hne)
  ·exact ⟨tok, h⟩
 have hlv : ∀ (tok : Nat) (bb : Bool) (K : Heap), leave H false (.asl 1 (rowsI (l.map valN)) tok) (H.set ir (.obj Option.none [[.im (.str q2), .im (.bool bb)]]) ++ K) = (.im (slI (l.map valN)), H.set ir (.obj Option.none [[.im (.str q2), .im (.bool bb)]])) := fun tok bb K => by
  have h := leave_but (keep := false) (r := .asl 1 (rowsI (l.map valN)) tok) (o := .obj Option.none [[.im (.str q2), .im (.bool bb)]]) (H' := H.set ir (.obj Option.none [[.im (.str q2), .im (.bool bb)]]) ++ K) (((But.refl (n := H.length) (id := ir)).set _).app (Nat.le_refl _) K) (by rw [get_app (by simpa using hlt)]; exact List.getElem?_set_self hlt) (by simp [refsO, refsLts, refsLt]) (by simp [degrade, toDat, refsLt]) hlt
  have e : (if false = true then AV.asl 1 (rowsI (l.map valN)) tok else degrade (.asl 1 (rowsI (l.map valN)) tok)) = .im (slI (l.map valN)) := by simp [degrade, toDat, hsn]
  rw [e] at h
  exact h
 have c79 := fun tok J => s79a (l.map valN) tok hnm 1 4 J
 have hgr : ∀ (bb : Bool) K, (H.set ir (.obj Option.none [[.im (.str q2), .im (.bool bb)]]) ++ K)[ir]? = some (.obj Option.none [[.im (.str q2), .im (.bool bb)]]) := fun bb K => by
  rw [get_app (by simpa using hlt)]; exact List.getElem?_set_self hlt
 have hsr : ∀ (bb : Bool) K y, (H.set ir (.obj Option.none [[.im (.str q2), .im (.bool bb)]]) ++ K).set ir y = H.set ir y ++ K := fun bb K y => by
  rw [set_app (by simpa using hlt), List.set_set]
 unfold objQ at *
 cases none with
 | true =>
  have d1 := d1 rfl
  simp only [f69,e69_0,B0,B1,B2,List.replicate,reduceCtorEq,lenA,seval,B5,pairK,B4,stays,loadOf,hlen,h0,h1,h2,c72,d1,c97,hln]
  generalize hr : thenL (Λ c69_0 _ _) _ = r
  refine Exists.elim (thenL_inv hr (kk _ ?_ ?_ ?_ ?_ ?_ ?_)) ?_
  ·simp only [List.length_set,hlen]
  iterate 4 simp only [B3,seval,hlen,h0]
  ·simp only [B3,seval,hlen]; first | done | rfl
  clear hr kk
  rintro e ⟨tm', H', ⟨hl', rfl, g0, M', rfl, hG⟩, rfl⟩
  obtain ⟨tok, g8⟩ := hfin tm' M' hl' g0 hG
  rw [List.append_assoc, ← Bool.or_assoc, ← Bool.or_assoc]
  generalize (b || q3 || l.any badN) = bb at *
  generalize risesB (l.map valN) 1 4 = z at *
  cases bb <;> cases z <;>
   simp only [B0,B1,B2,List.replicate,reduceCtorEq,lenA,seval,B5,pairK,B4,stays,loadOf,endK,resA,tupA,hl',g0,g8,hgr,hsr,c79,hlv,Bool.or_self,Bool.or_true,Bool.true_or,Bool.or_false,Bool.not_true,Bool.not_false,Bool.false_or]
 | false =>
  simp only [f69,e69_0,B0,B1,B2,List.replicate,reduceCtorEq,lenA,seval,B5,pairK,B4,stays,loadOf,hlen,h0,h1,h2,c72,c97,hln]
  generalize hr : thenL (Λ c69_0 _ _) _ = r
  refine Exists.elim (thenL_inv hr (kk _ ?_ ?_ ?_ ?_ ?_ ?_)) ?_
  ·simp only [List.length_set,hlen]
  iterate 4 simp only [B3,seval,hlen,h0]
  ·simp only [B3,seval,hlen]; first | done | rfl
  clear hr kk
  rintro e ⟨tm', H', ⟨hl', rfl, g0, M', rfl, hG⟩, rfl⟩
  obtain ⟨tok, g8⟩ := hfin tm' M' hl' g0 hG
  rw [List.append_assoc, ← Bool.or_assoc, ← Bool.or_assoc]
  generalize (b || q3 || l.any badN) = bb at *
  generalize risesB (l.map valN) 1 4 = z at *
  cases bb <;> cases z <;>
   simp only [B0,B1,B2,List.replicate,reduceCtorEq,lenA,seval,B5,pairK,B4,stays,loadOf,endK,resA,tupA,hl',g0,g8,hgr,hsr,c79,hlv,Bool.or_self,Bool.or_true,Bool.true_or,Bool.or_false,Bool.not_true,Bool.not_false,Bool.false_or]
end Go.Abs.Seat
end
section
set_option linter.unusedVariables false
set_option linter.unusedSimpArgs false
namespace Go.Abs.Seat
open Go.Proofs
def datW (w : Word) : List Dat := [.int .i64 w.1, .str w.2.1, .int .i64 w.2.2]
def zeroW : Word := (0, [], 0)
def Asks (p : Word → Bool) (g : FuncId) (cap : List AV) (n idw : Nat) (H : Heap) (rows : List Word) : Prop :=
 ∀ w ∈ rows, ∀ H' : Heap, (∀ i, i < n → i ≠ idw → H'[i]? = H[i]?) → n ≤ H'.length → L g ([.im (.agg (datW w))] ++ cap) H' = some (.im (.bool (p w)), H')
theorem drop_cons {α : Type} {l : List α} {i : Nat} (h : i < l.length) : ∃ w, l[i]? = some w ∧ l.drop i = w :: l.drop (i + 1) := by
 refine ⟨_, List.getElem?_eq_getElem h, ?_⟩
 rw [List.drop_eq_getElem_cons h]
theorem l125g (rows : List Word) (rest : List Word) (idw : Nat) (H : Heap) (hw : H[idw]? = some (.obj none ((rows ++ rest).map encW))) (p : Word → Bool) (g : FuncId) (cap : List AV) (hp : Asks p g cap H.length idw H rows) (hn : rows.length ≤ 9223372036854775807) :
  ∀ (m i : Nat), i + m = rows.length → ∀ tm : List AV, tm.length = 19 → tm.getD 0 undefA = .ms 3 idw 0 rows.length → tm.getD 1 undefA = .clo g cap → tm.getD 6 undefA = .ms 3 idw 0 rows.length → tm.getD 7 undefA = .im (.int .i64 rows.length) → tm.getD 8 undefA = .im (.int .i64 i) →
  ∃ e tm' H', Λ c125_0 tm H = some (e, tm', H') ∧ tm'.length = 19 ∧ H' = H ∧ match (rows.drop i).findIdx? p with
   | some j => e = .ret ∧ tm'.getD 4 undefA = .im (.int .i64 ((i + j : Nat) : Int))
   | none => e = .exit 0
 | 0, i, hi, tm, hlen, h0, h1, h6, h7, h8 => by
  have e : rows.drop i = [] := by rw [List.drop_eq_nil_iff]; omega
  have hc : decide ((i : Int) < (rows.length : Int)) = false := decide_eq_false (by omega)
  rw [e, l125_0]
  simp only [b125_0,B0,B1,B2,List.replicate,reduceCtorEq,lenA,seval,hlen,h0,h1,h6,h7,h8,hc,List.findIdx?_nil]
  exact ⟨_, _, _, rfl, by simp only [List.length_set,hlen], rfl, rfl⟩
 | m + 1, i, hi, tm, hlen, h0, h1, h6, h7, h8 => by
  have hlt : i < rows.length := by omega
  obtain ⟨w, hwi, e⟩ := drop_cons hlt
  have hc : decide ((i : Int) < (rows.length : Int)) = true := decide_eq_true (by omega)
  have hix := idx_nat hlt
  have hget : ((rows ++ rest).map encW)[i]? = some (encW w) := by rw [List.getElem?_map, List.getElem?_append_left hlt, hwi]; rfl
  have hcall := hp w (List.mem_of_getElem? hwi) H (fun _ _ _ => rfl) (Nat.le_refl _)
  have hwr := wrap_nat (i := i) (by omega)
  have key := l125g rows rest idw H hw p g cap hp hn m (i + 1) (by omega)
  rw [e, List.findIdx?_cons, l125_0]
  simp only [datW,List.cons_append,List.nil_append] at hcall
  cases hk : p w with
  | true =>
   rw [hk] at hcall
   simp only [b125_0,B0,B1,B2,List.replicate,reduceCtorEq,lenA,seval,hlen,h0,h1,h6,h7,h8,hc,hix,hw,hget,encW,hcall]
   exact ⟨_, _, _, rfl, by simp only [List.length_set,hlen], rfl, rfl, by simp only [B3,seval,hlen]⟩
  | false =>
   rw [hk] at hcall
   simp only [b125_0,B0,B1,B2,List.replicate,reduceCtorEq,lenA,seval,hlen,h0,h1,h6,h7,h8,hc,hix,hw,hget,encW,hcall,hwr]
   cases hf : (rows.drop (i + 1)).findIdx? p with
   | none =>
    simp only [hf] at key
    simp only [Option.map_none]
    apply key
    all_goals simp only [B3,seval,hlen,h0,h1,h6,h7]
   | some j =>
    simp only [hf] at key
    simp only [Option.map_some]
    rw [show i + (j + 1) = i + 1 + j by omega]
    apply key
    all_goals simp only [B3,seval,hlen,h0,h1,h6,h7]
theorem s125g (rows : List Word) (rest : List Word) (idw : Nat) (H : Heap) (hw : H[idw]? = some (.obj none ((rows ++ rest).map encW))) (p : Word → Bool) (g : FuncId) (cap : List AV) (hp : Asks p g cap H.length idw H rows) (hn : rows.length ≤ 9223372036854775807) :
  L 125 [.ms 3 idw 0 rows.length, .clo g cap] H = some (.im (.int .i64 (match rows.findIdx? p with | some j => ((j : Nat) : Int) | none => -1)), H) := by
 rw [leq F125]
 obtain ⟨hlen, ha⟩ := enter_at (f := f125) (args := [.ms 3 idw 0 rows.length, .clo g cap]) (Nat.le_of_ble_eq_true rfl)
 have h0 := ha 0 _ rfl
 have h1 := ha 1 _ rfl
 generalize enterA f125 [.ms 3 idw 0 rows.length, .clo g cap] = tm at *
 change tm.length = 19 at hlen
 have key := l125g rows rest idw H hw p g cap hp hn rows.length 0 (by omega)
 have z : ((0 : Nat) : Int) = 0 := rfl
 simp only [List.drop_zero,Nat.zero_add,z] at key
 simp only [f125,e125_0,B0,B1,B2,List.replicate,reduceCtorEq,lenA,seval,hlen,h0,h1]
 refine thenL_of (key _ ?_ ?_ ?_ ?_ ?_ ?_) ?_
 iterate 6 simp only [B3,seval,hlen,h0,h1]
 rintro e tm' H' ⟨hl', rfl, hm⟩
 cases hf : rows.findIdx? p with
 | none =>
  simp only [hf] at hm
  subst hm
  simp only [B0,B1,B2,List.replicate,reduceCtorEq,lenA,seval,endK,resA,tupA,hl',leave_same]
 | some j =>
  simp only [hf] at hm
  obtain ⟨rfl, h4⟩ := hm
  simp only [B0,B1,B2,List.replicate,reduceCtorEq,lenA,seval,endK,resA,tupA,hl',leave_same,h4]
theorem l132 (rows rest : List Word) (idw n : Nat) (H0 : Heap) (hnn : n ≤ H0.length) (hidw : idw < n) (p : Word → Bool) (g : FuncId) (cap : List AV) (hp : Asks p g cap n idw H0 rows) (hn : rows.length ≤ 9223372036854775806) :
  ∀ (m j : Nat), j + m = rows.length → ∀ (tm : List AV) (H : Heap) (fl cw : List Word), But n idw H0 H → (rows.take j).filter (fun w => !p w) = fl → fl.length ≤ j → cw.take fl.length = fl → cw.drop j = rows.drop j ++ rest → cw.length = rows.length + rest.length → H[idw]? = some (.obj none (cw.map encW)) →
  tm.length = 42 → tm.getD 0 undefA = .ms 3 idw 0 rows.length → tm.getD 1 undefA = .clo g cap → tm.getD 5 undefA = .im (.int .i64 (fl.length : Int)) → tm.getD 6 undefA = .im (.int .i64 j) →
  ∃ e tm' H', Λ c132_0 tm H = some (e, tm', H') ∧ tm'.length = 42 ∧ e = .exit 0 ∧ But n idw H0 H' ∧ tm'.getD 0 undefA = .ms 3 idw 0 rows.length ∧ ∃ fl' cw' : List Word, rows.filter (fun w => !p w) = fl' ∧ tm'.getD 5 undefA = .im (.int .i64 (fl'.length : Int)) ∧
   fl'.length ≤ rows.length ∧ cw'.take fl'.length = fl' ∧ cw'.drop rows.length = rest ∧ cw'.length = rows.length + rest.length ∧ H'[idw]? = some (.obj none (cw'.map encW))
 | 0, j, hj, tm, H, fl, cw, hb, hfl, hle, htake, hdrop, hcw, ho, hlen, h0, h1, h5, h6 => by
  have hj' : j = rows.length := by omega
  subst hj'
  have hc : decide ((rows.length : Int) < (rows.length : Int)) = false := decide_eq_false (by omega)
  rw [List.take_length] at hfl
  rw [List.drop_length, List.nil_append] at hdrop
  rw [l132_0]
  simp only [b132_0,B0,B1,B2,List.replicate,reduceCtorEq,lenA,seval,hlen,h0,h1,h5,h6,hc]
  exact ⟨_, _, _, rfl, by simp only [List.length_set,hlen], rfl, hb, by simp only [B3,seval,hlen,h0], fl, cw, hfl, by simp only [B3,seval,hlen,h5], hle, htake, hdrop, hcw, ho⟩
 | m + 1, j, hj, tm, H, fl, cw, hb, hfl, hle, htake, hdrop, hcw, ho, hlen, h0, h1, h5, h6 => by
  have hlt : j < rows.length := by omega
  obtain ⟨w, hwi, e⟩ := drop_cons hlt
  have hc : decide ((j : Int) < (rows.length : Int)) = true := decide_eq_true (by omega)
  have hix := idx_nat hlt
  have htk : rows.take (j + 1) = rows.take j ++ [w] := by rw [List.take_add_one, hwi]; rfl
  have hcj : cw[j]? = some w := by
   have : (cw.drop j)[0]? = some w := by rw [hdrop, e]; rfl
   rwa [List.getElem?_drop, Nat.add_zero] at this
  have hcl : j < cw.length := (List.getElem?_eq_some_iff.1 hcj).1
  have hget : (cw.map encW)[j]? = some (encW w) := by rw [List.getElem?_map, hcj]; rfl
  have hlt2 : idw < H.length := by have := hb.1; omega
  have hb1 := hb.app hnn [.obj none [encW w]]
  have hcall := hp w (List.mem_of_getElem? hwi) (H ++ [.obj none [encW w]]) (fun i hi hne => hb1.2 i hi hne) (by have := hb1.1; omega)
  have hwr := wrap_nat (i := j) (by omega)
  have key := l132 rows rest idw n H0 hnn hidw p g cap hp hn m (j + 1) (by omega)
  rw [htk, List.filter_append, hfl] at key
  have hoa : ∀ M : Heap, (H ++ M)[idw]? = some (.obj none (cw.map encW)) := fun M => by rw [List.getElem?_append_left hlt2]; exact ho
  have hd1 : cw.drop (j + 1) = rows.drop (j + 1) ++ rest := by
   have := congrArg (List.drop 1) hdrop
   rw [List.drop_drop, e] at this
   simpa using this
  rw [l132_0]
  simp only [datW,encW,List.cons_append,List.nil_append] at hcall hget hb1
  cases hk : p w with
  | true =>
   rw [hk] at hcall
   have hf : ([w].filter fun w => !p w) = [] := by simp [hk]
   rw [hf, List.append_nil] at key
   simp only [b132_0,B0,B1,B2,List.replicate,reduceCtorEq,lenA,seval,hlen,h0,h1,h5,h6,hc,hix,ho,hget,hcall,hwr]
   refine ex_imp (key _ _ fl cw hb1 rfl (by omega) htake hd1 hcw (hoa _) ?_ ?_ ?_ ?_ ?_) fun _ _ _ h => h
   all_goals simp only [B3,seval,hlen,h0,h1,h5]
  | false =>
   rw [hk] at hcall
   have hf : ([w].filter fun w => !p w) = [w] := by simp [hk]
   rw [hf] at key
   have hix5 := idx_nat (i := fl.length) (n := rows.length) (by omega)
   have hwr5 := wrap_nat (i := fl.length) (by omega)
   have hg5 : (cw.map encW)[fl.length]? = some (encW (cw[fl.length]'(by omega))) := by
    rw [List.getElem?_map, List.getElem?_eq_getElem (by omega)]; rfl
   have hset : (cw.map encW).set fl.length (encW w) = (cw.set fl.length w).map encW := by rw [List.map_set]
   generalize cw[fl.length]'(by omega) = u at hg5
   have hb2 := hb1.set (.obj none ((cw.map encW).set fl.length (encW w)))
   rw [hset] at hb2
   simp only [encW] at hset hg5
   simp only [b132_0,B0,B1,B2,List.replicate,reduceCtorEq,lenA,seval,hlen,h0,h1,h5,h6,hc,hix,ho,hget,hcall,hwr,hix5,hwr5,hoa,hg5,hset]
   refine ex_imp (key _ _ (fl ++ [w]) (cw.set fl.length w) hb2 rfl (by simp; omega) ?_ ?_ (by simpa using hcw) ?_ ?_ ?_ ?_ ?_ ?_) fun _ _ _ h => h
   ·rw [List.length_append, List.length_singleton, List.take_add_one, List.take_set_of_le (Nat.le_refl _), htake, List.getElem?_set_self (by omega)]
    rfl
   ·rw [List.drop_set_of_lt (by omega)]; exact hd1
   ·rw [List.getElem?_set_self (by simp; omega)]
   ·simp only [B3,seval,hlen]
   ·simp only [B3,seval,hlen,h0]
   ·simp only [B3,seval,hlen,h1]
   ·simp only [B3,seval,hlen,List.length_append,List.length_cons,List.length_nil,Nat.zero_add]
   ·simp only [B3,seval,hlen]
def msOf (idw k : Nat) : AV := .ms 3 idw 0 k
theorem refs_words (n : Nat) (cw : List Word) : refsO n (.obj none (cw.map encW)) = true := by
 simp only [refsO,List.all_eq_true,List.mem_map]
 rintro e ⟨w, _, rfl⟩
 rfl
theorem s132 (rows rest : List Word) (idw : Nat) (H : Heap) (hw : H[idw]? = some (.obj none ((rows ++ rest).map encW))) (p : Word → Bool) (g : FuncId) (cap : List AV) (hp : Asks p g cap H.length idw H rows) (hn : rows.length ≤ 9223372036854775806) (hne : rows ≠ []) :
  ∃ rest' : List Word, L 132 [.ms 3 idw 0 rows.length, .clo g cap] H = some (msOf idw (rows.filter fun w => !p w).length, H.set idw (.obj none (((rows.filter fun w => !p w) ++ rest').map encW))) := by
 have hidw := (List.getElem?_eq_some_iff.1 hw).1
 have h76 := s125g rows rest idw H hw p g cap hp (by omega)
 rw [leq F132]
 have hK : ∀ (tm : List AV) (H' : Heap) (v : AV) (o : HO), tm.length = 42 → tm.getD 4 undefA = v → But H.length idw H H' → H'[idw]? = some o → refsO H.length o = true → refsLt H.length v = true → endK f132 H .ret tm H' = some (v, H.set idw o) := fun tm H' v o hl h hb ho hro hr => by
  have := leave_but (keep := true) (r := v) hb ho hro (by simpa using hr) hidw
  simp only [endK,f132,resA,h,tupA,this,if_true]
 have hcode : f132.code = f132.code := rfl
 conv at hcode => rhs; simp only [f132]
 rw [hcode]
 clear hcode
 generalize endK f132 H = K at *
 obtain ⟨hlen, ha⟩ := enter_at (f := f132) (args := [.ms 3 idw 0 rows.length, .clo g cap]) (Nat.le_of_ble_eq_true rfl)
 have h0 := ha 0 _ rfl
 have h1 := ha 1 _ rfl
 generalize enterA f132 [.ms 3 idw 0 rows.length, .clo g cap] = tm at *
 change tm.length = 42 at hlen
 cases hf : rows.findIdx? p with
 | none =>
  rw [hf] at h76
  have hall : rows.filter (fun w => !p w) = rows := by
   rw [List.findIdx?_eq_none_iff] at hf
   rw [List.filter_eq_self]
   intro a ha
   simp [hf a ha]
  rw [hall]
  refine ⟨rest, ?_⟩
  have hpos : 0 < rows.length := List.length_pos_iff.2 hne
  simp only [B0,B1,B2,List.replicate,reduceCtorEq,lenA,seval,hlen,h0,h1,h76]
  refine hK _ _ _ _ (by simp only [List.length_set,hlen]) (by simp only [B3,seval,hlen,msOf]) But.refl hw (refs_words _ _) ?_
  simp only [msOf,refsLt,hidw,decide_true]
 | some j =>
  rw [hf] at h76
  obtain ⟨hjl, hpj, hbefore⟩ := List.findIdx?_eq_some_iff_getElem.1 hf
  have hfl : (rows.take (j + 1)).filter (fun w => !p w) = rows.take j := by
   rw [List.take_add_one, List.getElem?_eq_getElem hjl, List.filter_append]
   simp only [Option.toList_some,List.filter_cons,hpj,Bool.not_true,Bool.false_eq_true,if_false,List.filter_nil,List.append_nil]
   rw [List.filter_eq_self]
   intro a ha
   obtain ⟨i, hi, rfl⟩ := List.getElem_of_mem ha
   simp only [List.length_take] at hi
   rw [List.getElem_take]
   have := hbefore i (by omega)
   simpa using this
  have htl : (rows.take j).length = j := by simp; omega
  have hne1 : decide (((j : Nat) : Int) = -1) = false := decide_eq_false (by omega)
  have hwr := wrap_nat (i := j) (by omega)
  have key := l132 rows rest idw H.length H (Nat.le_refl _) hidw p g cap hp hn (rows.length - (j + 1)) (j + 1) (by omega)
  simp only [e132_0,B0,B1,B2,List.replicate,reduceCtorEq,lenA,seval,hlen,h0,h1,h76,hne1,hwr]
  refine thenL_ex (fun r => ∃ rest' : List Word, r = some (msOf idw (rows.filter fun w => !p w).length, H.set idw (.obj none (((rows.filter fun w => !p w) ++ rest').map encW)))) (key _ _ (rows.take j) (rows ++ rest) But.refl hfl (by omega) ?_ ?_ (by simp) hw ?_ ?_ ?_ ?_ ?_) ?_
  ·rw [htl, List.take_append_of_le_length (by omega)]
  ·rw [List.drop_append_of_le_length (by omega)]
  ·simp only [B3,seval,hlen]
  ·simp only [B3,seval,hlen,h0]
  ·simp only [B3,seval,hlen,h1]
  ·simp only [B3,seval,hlen,htl]
  ·simp only [B3,seval,hlen]
  rintro e tm1 H1 ⟨hl1, rfl, hb, a0, fl, cw, hfl', a5, hle, htk, hdr, hcw, ho⟩
  rw [hfl']
  have hlt : fl.length < rows.length := by
   have h1 : fl.length < rows.length := by
    rw [← hfl']
    have := List.length_filter_lt_length_iff_exists (p := fun w => !p w) (l := rows)
    rw [this]
    exact ⟨rows[j], List.getElem_mem hjl, by simp [hpj]⟩
   exact h1
  have hcl : rows.length ≤ cw.length := by omega
  have hnn : (0 : Int) ≤ (fl.length : Int) := Int.natCast_nonneg _
  have hc1 : fl.length + (rows.length - fl.length) ≤ cw.length := by omega
  have hmap : List.take fl.length (cw.map encW) ++ (List.replicate (rows.length - fl.length) [.im (.int .i64 0), .im (.str []), .im (.int .i64 0)] ++ List.drop (fl.length + (rows.length - fl.length)) (cw.map encW)) = (fl ++ (List.replicate (rows.length - fl.length) zeroW ++ rest)).map encW := by
   rw [← List.map_take, htk, ← List.map_drop, show fl.length + (rows.length - fl.length) = rows.length by omega, hdr, List.map_append, List.map_append, List.map_replicate]
   rfl
  have hsl1 : sliceA 3 (.ms 3 idw 0 rows.length) fl.length (fun n => some n) none = some (.ms 3 idw fl.length (rows.length - fl.length)) := by
   simp only [sliceA]
   rw [if_pos ⟨by omega, by omega, trivial⟩, if_pos (.inl hlt), Nat.zero_add]
  have hsl2 : sliceA 3 (.ms 3 idw 0 rows.length) 0 (fun n => some fl.length) none = some (msOf idw fl.length) := by
   simp only [sliceA]
   rw [if_pos ⟨by omega, by omega, trivial⟩, if_pos (Or.inr trivial), Nat.zero_add, Nat.sub_zero]
   rfl
  simp only [B0,B1,B2,List.replicate,reduceCtorEq,lenA,seval,boundA,intOfA,hl1,a0,a5,hnn,Int.toNat_natCast,hsl1,hsl2,ho,List.length_map,hc1,hmap]
  refine ⟨List.replicate (rows.length - fl.length) zeroW ++ rest, ?_⟩
  have hlt1 : idw < H1.length := by have := hb.1; omega
  refine hK _ _ _ _ ?_ ?_ (hb.set _) (List.getElem?_set_self hlt1) (refs_words _ _) ?_
  ·simp only [List.length_set,hl1]
  ·simp only [B3,seval,hl1]
  ·simp [msOf, refsLt, hidw]
end Go.Abs.Seat
end
section
set_option linter.unusedVariables false
set_option linter.unusedSimpArgs false
namespace Go.Abs.Seat
open Go.Proofs
def w117_0 : ACode := (.seq (.seq (.ops [⟨some 13,.move (.t 6),none⟩,⟨some 14,.lenSl (.t 13),none⟩,⟨some 15,.move (.c (.im (.int .i64 0))),none⟩] []) (.block 0 c117_0)) (.seq (.seq (.ops [⟨some 26,.load none (.t 2),none⟩,⟨some 27,.nilCheck (.t 26),none⟩,⟨some 28,.fieldAddr 1 (.t 27),none⟩,⟨some 29,.load none (.t 28),none⟩,⟨some 30,.load none (.t 2),none⟩,⟨some 31,.nilCheck (.t 30),none⟩,⟨some 32,.fieldAddr 0 (.t 31),none⟩,⟨some 33,.load none (.t 32),none⟩,⟨some 34,.lenStr (.t 33),none⟩,⟨some 35,.bin .lss (.t 29) (.t 34),none⟩] []) (.cond (.t 35) (.seq (.ops [⟨some 36,.move (.t 6),none⟩,⟨some 37,.mkfunc 134 [(.t 7),(.t 2)],none⟩,⟨some 38,.call false (.c (.clo 132 [])) [(.t 36),(.t 37)],none⟩,⟨some 6,.move (.t 38),none⟩] []) (.seq (.ops [⟨some 39,.move (.t 6),none⟩,⟨some 40,.lenSl (.t 39),none⟩,⟨some 41,.bin .gtr (.t 40) (.c (.im (.int .i64 0))),none⟩] []) (.cond (.t 41) (.seq (.ops [⟨some 42,.load none (.t 2),none⟩,⟨some 43,.nilCheck (.t 42),none⟩,⟨some 44,.fieldAddr 1 (.t 43),none⟩,⟨some 45,.load none (.t 44),none⟩,⟨some 46,.bin .add (.t 45) (.c (.im (.int .i64 1))),none⟩,⟨some 47,.nilCheck (.t 42),none⟩,⟨some 48,.fieldAddr 1 (.t 47),none⟩,⟨none,.store 1 (.t 48) (.t 46),none⟩] []) (.seq (.ops [⟨some 49,.load none (.t 7),none⟩,⟨some 50,.bin .add (.t 49) (.c (.im (.int .i64 1))),none⟩,⟨none,.store 1 (.t 7) (.t 50),none⟩] []) (.goto 0))) .skip))) .skip)) (.seq (.ops [⟨some 51,.build [(.im (.int .i64 0)),(.im (.str [])),(.im (.int .i64 0))] [],none⟩,⟨none,.store 3 (.t 4) (.t 51),none⟩,⟨some 5,.move (.c (.im (.bool false))),none⟩] []) .ret)))
def s117b : ACode := (.seq (.ops [⟨some 10,.call false (.c (.clo 121 [])) [],none⟩,⟨some 11,.mkfunc 133 [(.t 3)],none⟩,⟨some 12,.call false (.c (.clo 132 [])) [(.t 10),(.t 11)],none⟩,⟨some 6,.move (.t 12),none⟩] []) (.seq (.ops [⟨some 7,.alloc none [(.im (.int .i64 0))],none⟩,⟨none,.store 1 (.t 7) (.c (.im (.int .i64 0))),none⟩] []) (.seq (.label 0) w117_0)))
theorem s117b_eq : c117_1 = .scope s117b s117b := rfl
noncomputable def K117 (e : AEx) (tm : List AV) (H : Heap) : Option Out := match e with
  | .goto l => match findA s117b l with
   | some rest => Λ (.scope s117b rest) tm H
   | none => none
  | .normal => some (.normal, tm, H)
  | .exit i => some (.exit i, tm, H)
  | .ret => some (.ret, tm, H)
theorem K117_ret (tm : List AV) (H : Heap) : K117 .ret tm H = some (.ret, tm, H) := _root_.id rfl
theorem c117_1_eq (tm : List AV) (H : Heap) : Λ c117_1 tm H = exec0 L Λ s117b tm H K117 := by
 rw [s117b_eq]; exact scope_eq
def g117_0 : ACode := .scope s117b (.seq .skip w117_0)
theorem K117_goto0 (tm : List AV) (H : Heap) : K117 (.goto 0) tm H = Λ g117_0 tm H := by
 have h : findA s117b 0 = some (.seq .skip w117_0) := rfl
 simp only [K117,h,g117_0]
theorem g117_0_eq (tm : List AV) (H : Heap) : Λ g117_0 tm H = exec0 L Λ w117_0 tm H K117 := by
 rw [g117_0]; exact scope_eq
end Go.Abs.Seat
end
section
set_option linter.unusedVariables false
set_option linter.unusedSimpArgs false
namespace Go.Abs.Seat
open Go.Proofs
def outW (d : Int) (w : Word) : Bool := decide (0 < w.2.2) && decide (d = 1)
theorem s133 (w : Word) (idd : Nat) (d : Int) (H : Heap) (hd : H[idd]? = some (.obj none [[.im (.int .i64 d)]])) : L 133 [.im (.agg (datW w)), .ptr idd 0 0] H = some (.im (.bool (outW d w)), H) := by
 have hda : ∀ M : Heap, (H ++ M)[idd]? = some (.obj none [[.im (.int .i64 d)]]) := fun M => by rw [get_app (List.getElem?_eq_some_iff.1 hd).1]; exact hd
 simp only [datW]
 rw [leq F133]
 obtain ⟨hlen, ha⟩ := enter_at (f := f133) (args := [.im (.agg [.int .i64 w.1, .str w.2.1, .int .i64 w.2.2]), .ptr idd 0 0]) (Nat.le_of_ble_eq_true rfl)
 have h0 := ha 0 _ rfl
 have h1 := ha 1 _ rfl
 generalize enterA f133 [.im (.agg [.int .i64 w.1, .str w.2.1, .int .i64 w.2.2]), .ptr idd 0 0] = tm at *
 change tm.length = 11 at hlen
 unfold outW
 rcases Bool.eq_false_or_eq_true (decide (0 < w.2.2)) with hb | hb
 ·simp only [f133,B0,B1,B2,List.replicate,reduceCtorEq,lenA,seval,endK,resA,tupA,hlen,h0,h1,hda,hb,leave_app,Bool.true_and]
 ·simp only [f133,B0,B1,B2,List.replicate,reduceCtorEq,lenA,seval,endK,resA,tupA,hlen,h0,h1,hda,hb,leave_app,Bool.false_and]
theorem byte_eq (a c : UInt8) : decide (((a.toNat : Nat) : Int) = ((c.toNat : Nat) : Int)) = decide (a = c) := by
 congr 1
 simp only [Int.ofNat_inj,UInt8.toNat_inj]
theorem s134 (w : Word) (idn ia ir n : Nat) (s : List UInt8) (k : Nat) (a c : UInt8) (H : Heap) (hn : H[idn]? = some (.obj none [[.im (.int .i64 (n : Int))]])) (hia : H[ia]? = some (.obj none [[.ptr ir 0 0]])) (hir : H[ir]? = some (.obj none [[.im (.str s), .im (.int .i64 (k : Int))]]))
  (ha : w.2.1[n]? = some a) (hc : s[k]? = some c) : L 134 [.im (.agg (datW w)), .ptr idn 0 0, .ptr ia 0 0] H = some (.im (.bool (!decide (a = c))), H) := by
 have hna : ∀ M : Heap, (H ++ M)[idn]? = some (.obj none [[.im (.int .i64 (n : Int))]]) := fun M => by rw [get_app (List.getElem?_eq_some_iff.1 hn).1]; exact hn
 have hia' : ∀ M : Heap, (H ++ M)[ia]? = some (.obj none [[.ptr ir 0 0]]) := fun M => by rw [get_app (List.getElem?_eq_some_iff.1 hia).1]; exact hia
 have hir' : ∀ M : Heap, (H ++ M)[ir]? = some (.obj none [[.im (.str s), .im (.int .i64 (k : Int))]]) := fun M => by rw [get_app (List.getElem?_eq_some_iff.1 hir).1]; exact hir
 have p1 : (0 : Int) ≤ (n : Int) := Int.natCast_nonneg n
 have p2 : (0 : Int) ≤ (k : Int) := Int.natCast_nonneg k
 simp only [datW]
 rw [leq F134]
 obtain ⟨hlen, hg⟩ := enter_at (f := f134) (args := [.im (.agg [.int .i64 w.1, .str w.2.1, .int .i64 w.2.2]), .ptr idn 0 0, .ptr ia 0 0]) (Nat.le_of_ble_eq_true rfl)
 have h0 := hg 0 _ rfl
 have h1 := hg 1 _ rfl
 have h2 := hg 2 _ rfl
 generalize enterA f134 [.im (.agg [.int .i64 w.1, .str w.2.1, .int .i64 w.2.2]), .ptr idn 0 0, .ptr ia 0 0] = tm at *
 change tm.length = 19 at hlen
 simp only [f134,B0,B1,B2,List.replicate,reduceCtorEq,lenA,seval,endK,resA,tupA,intOfA,byteDat,Int.toNat_natCast,hlen,h0,h1,h2,hna,hia',hir',p1,p2,ha,hc,byte_eq,leave_app]
def wordGo (r : List UInt8) : Nat → List Word → Nat → Nat × Option Word
 | 0, may, n => (n, may.find? fun w => decide (w.2.1.length = n))
 | k + 1, may, n => match may.find? (fun w => decide (w.2.1.length = n)) with
  | some w => (n, some w)
  | none => match r[n]? with
   | none => (n, none)
   | some c => if may.filter (fun w => decide (w.2.1[n]? = some c)) = [] then (n, none) else wordGo r k (may.filter fun w => decide (w.2.1[n]? = some c)) (n + 1)
theorem l117 (may rest : List Word) (idw idn b : Nat) (n : Nat) (hlt : may.length ≤ 9223372036854775806) (hbw : b ≠ idw) (hbn : b ≠ idn) (H : Heap) (x y z : AV) (hw : H[idw]? = some (.obj none ((may ++ rest).map encW))) (hn : H[idn]? = some (.obj none [[.im (.int .i64 (n : Int))]])) (hb : H[b]? = some (.obj none [[x, y, z]])) :
  ∀ (m i : Nat), i + m = may.length → ∀ (tm : List AV) (M : Heap), tm.length = 52 → tm.getD 4 undefA = .ptr b 0 0 → tm.getD 7 undefA = .ptr idn 0 0 → tm.getD 13 undefA = .ms 3 idw 0 may.length → tm.getD 14 undefA = .im (.int .i64 may.length) → tm.getD 15 undefA = .im (.int .i64 i) →
  ∃ e tm' H', Λ c117_0 tm (H ++ M) = some (e, tm', H') ∧ tm'.length = 52 ∧ (∀ j, j = 2 ∨ j = 4 ∨ j = 6 ∨ j = 7 → tm'.getD j undefA = tm.getD j undefA) ∧ match (may.drop i).find? (fun w => decide (w.2.1.length = n)) with
   | some w => e = .ret ∧ tm'.getD 5 undefA = .im (.bool true) ∧ ∃ M', H' = H.set b (.obj none [encW w]) ++ M'
   | none => e = .exit 0 ∧ ∃ M', H' = H ++ M'
 | 0, i, hi, tm, M, hlen, h4, h7, h13, h14, h15 => by
  have e : may.drop i = [] := by rw [List.drop_eq_nil_iff]; omega
  have hc : decide ((i : Int) < (may.length : Int)) = false := decide_eq_false (by omega)
  rw [e, l117_0]
  simp only [b117_0,B0,B1,B2,List.replicate,reduceCtorEq,lenA,seval,hlen,h4,h7,h13,h14,h15,hc,List.find?_nil]
  exact ⟨_, _, _, rfl, by simp only [List.length_set,hlen], by rintro j (rfl | rfl | rfl | rfl) <;> simp only [B3,seval,hlen], rfl, _, rfl⟩
 | m + 1, i, hi, tm, M, hlen, h4, h7, h13, h14, h15 => by
  have hil : i < may.length := by omega
  obtain ⟨w, hwi, e⟩ := drop_cons hil
  have hc : decide ((i : Int) < (may.length : Int)) = true := decide_eq_true (by omega)
  have hix := idx_nat hil
  have hget : ((may ++ rest).map encW)[i]? = some (encW w) := by rw [List.getElem?_map, List.getElem?_append_left hil, hwi]; rfl
  have hwr := wrap_nat (i := i) (by omega)
  have key := l117 may rest idw idn b n hlt hbw hbn H x y z hw hn hb m (i + 1) (by omega)
  have hbl := (List.getElem?_eq_some_iff.1 hb).1
  have ga : ∀ (j : Nat) (o : HO), H[j]? = some o → ∀ M : Heap, (H ++ M)[j]? = some o := fun j o h M => by rw [get_app (List.getElem?_eq_some_iff.1 h).1]; exact h
  have hset : ∀ (M : Heap) (o : HO), (H ++ M).set b o = H.set b o ++ M := fun M o => set_app hbl
  have hwM := ga _ _ hw
  have hnM := ga _ _ hn
  have hbM := ga _ _ hb
  have hdl : decide (((w.2.1.length : Nat) : Int) = (n : Int)) = decide (w.2.1.length = n) := by congr 1; simp only [Int.ofNat_inj]
  have hap : ∀ o : HO, H ++ M ++ [o] = H ++ (M ++ [o]) := fun o => List.append_assoc ..
  have hgg : ∀ o : HO, (H ++ (M ++ [o]))[(H ++ M).length]? = some o := fun o => by rw [← hap, Go.Abs.hget0]; rfl
  have hss : ∀ o o' : HO, (H ++ (M ++ [o])).set (H ++ M).length o' = H ++ (M ++ [o']) := fun o o' => by rw [← hap, hset0, List.set_cons_zero, hap]
  rw [e, List.find?_cons, l117_0]
  generalize hhl : (H ++ M).length = hl at *
  simp only [encW] at hget
  cases hk : decide (w.2.1.length = n) with
  | true =>
   rw [hk] at hdl
   simp only [b117_0,B0,B1,B2,List.replicate,reduceCtorEq,lenA,seval,hlen,h4,h7,h13,h14,h15,hc,hix,hwM,hget,hnM,hhl,hap,hgg,hss,hbM,hdl,hset]
   exact ⟨_, _, _, rfl, by simp only [List.length_set,hlen], by rintro j (rfl | rfl | rfl | rfl) <;> simp only [B3,seval,hlen], rfl, by simp only [B3,seval,hlen], _, rfl⟩
  | false =>
   rw [hk] at hdl
   simp only [b117_0,B0,B1,B2,List.replicate,reduceCtorEq,lenA,seval,hlen,h4,h7,h13,h14,h15,hc,hix,hwM,hget,hnM,hhl,hap,hgg,hss,hbM,hdl,hset,hwr]
   refine ex_imp (key _ _ ?_ ?_ ?_ ?_ ?_ ?_) ?_
   iterate 6 simp only [B3,seval,hlen,h4,h7,h13,h14]
   rintro e tm' H' ⟨hl', g, hm⟩
   refine ⟨hl', ?_, hm⟩
   rintro j (rfl | rfl | rfl | rfl)
   all_goals (rw [g _ (by simp)]; simp only [B3,seval,hlen])
def wordRes (o : Option Word) : Word := match o with
 | some w => w
 | none => zeroW
theorem g117 (s : List UInt8) (at0 ir N : Nat) (H0 : Heap) (hN : N = H0.length) (hir : ir < N) (hs : s.length ≤ 9223372036854775807) (hat : at0 ≤ s.length) :
  ∀ (k : Nat) (may rest : List Word) (n : Nat), may ≠ [] → may.length ≤ 8 → (∀ w ∈ may, n ≤ w.2.1.length ∧ w.2.1.length ≤ n + k) → at0 + n ≤ s.length →
  ∀ (tm : List AV) (H : Heap) (x y z : AV), tm.length = 52 → tm.getD 2 undefA = .ptr N 0 0 → tm.getD 4 undefA = .ptr (N + 2) 0 0 → tm.getD 6 undefA = .ms 3 (N + 3) 0 may.length → tm.getD 7 undefA = .ptr (N + 4) 0 0 →
  H[N]? = some (.obj none [[.ptr ir 0 0]]) → H[N + 2]? = some (.obj none [[x, y, z]]) → H[N + 3]? = some (.obj none ((may ++ rest).map encW)) → H[N + 4]? = some (.obj none [[.im (.int .i64 (n : Int))]]) → H[ir]? = some (.obj none [[.im (.str s), .im (.int .i64 ((at0 + n : Nat) : Int))]]) → But N ir H0 H →
  ∃ tm' H', Λ g117_0 tm H = some (.ret, tm', H') ∧ tm'.length = 52 ∧ tm'.getD 4 undefA = .ptr (N + 2) 0 0 ∧ tm'.getD 5 undefA = .im (.bool (wordGo (s.drop at0) k may n).2.isSome) ∧ H'[N + 2]? = some (.obj none [encW (wordRes (wordGo (s.drop at0) k may n).2)]) ∧
   H'[ir]? = some (.obj none [[.im (.str s), .im (.int .i64 ((at0 + (wordGo (s.drop at0) k may n).1 : Nat) : Int))]]) ∧ But N ir H0 H' := by
 intro k
 induction k with
 | zero =>
  intro may rest n hne hm8 hlens han tm H x y z hlen h2 h4 h6 h7 oN o2 o3 o4 oir hbut
  have key := l117 may rest (N + 3) (N + 4) (N + 2) n (by omega) (by omega) (by omega) H x y z o3 o4 o2 may.length 0 (by omega)
  have zz : ((0 : Nat) : Int) = 0 := rfl
  simp only [List.drop_zero,zz] at key
  have key0 := fun tm => key tm []
  simp only [List.append_nil] at key0
  have hHl : N + 4 < H.length := (List.getElem?_eq_some_iff.1 o4).1
  rw [g117_0_eq]
  simp only [w117_0,e117_0,B0,B1,B2,List.replicate,reduceCtorEq,lenA,seval,hlen,h2,h4,h6,h7]
  generalize hr : thenL _ _ = r
  refine Exists.elim (thenL_inv hr (key0 _ ?_ ?_ ?_ ?_ ?_ ?_)) ?_
  iterate 6 simp only [B3,seval,hlen,h4,h6,h7]
  clear hr
  rintro e ⟨tm1, H1, ⟨hl1, g, hm⟩, rfl⟩
  have g4 := g 4 (by simp)
  simp only [B3,seval,hlen,h4] at g4
  clear g
  simp only [wordGo]
  cases hf : may.find? (fun w => decide (w.2.1.length = n)) with
  | some w =>
   rw [hf] at hm
   obtain ⟨rfl, g5, M', rfl⟩ := hm
   simp only [B0,B1,B2,List.replicate,reduceCtorEq,lenA,seval,K117_ret]
   have hlt : ∀ i, i ≤ N + 4 → ∀ o : HO, (H.set (N + 2) o ++ M')[i]? = (H.set (N + 2) o)[i]? := fun i hi o => get_app (by simp; omega)
   refine ⟨_, _, rfl, hl1, g4, g5, ?_, ?_, ?_⟩
   ·rw [hlt _ (by omega), List.getElem?_set_self (by omega)]; rfl
   ·rw [hlt _ (by omega), List.getElem?_set_ne (by omega)]; exact oir
   ·refine ⟨by have := hbut.1; simp; omega, fun i hi hne => ?_⟩
    rw [hlt _ (by omega), List.getElem?_set_ne (by omega)]; exact hbut.2 i hi hne
  | none =>
   obtain ⟨w, hw⟩ := List.exists_mem_of_ne_nil _ hne
   have := List.find?_eq_none.1 hf w hw
   have h2 := hlens w hw
   simp at this
   omega
 | succ k ih =>
  intro may rest n hne hm8 hlens han tm H x y z hlen h2 h4 h6 h7 oN o2 o3 o4 oir hbut
  have key := l117 may rest (N + 3) (N + 4) (N + 2) n (by omega) (by omega) (by omega) H x y z o3 o4 o2 may.length 0 (by omega)
  have zz : ((0 : Nat) : Int) = 0 := rfl
  simp only [List.drop_zero,zz] at key
  have key0 := fun tm => key tm []
  simp only [List.append_nil] at key0
  have hHl : N + 4 < H.length := (List.getElem?_eq_some_iff.1 o4).1
  rw [g117_0_eq]
  simp only [w117_0,e117_0,B0,B1,B2,List.replicate,reduceCtorEq,lenA,seval,hlen,h2,h4,h6,h7]
  generalize hr : thenL _ _ = r
  refine Exists.elim (thenL_inv hr (key0 _ ?_ ?_ ?_ ?_ ?_ ?_)) ?_
  iterate 6 simp only [B3,seval,hlen,h4,h6,h7]
  clear hr
  rintro e ⟨tm1, H1, ⟨hl1, g, hm⟩, rfl⟩
  have g2 := g 2 (by simp)
  have g4 := g 4 (by simp)
  have g6 := g 6 (by simp)
  have g7 := g 7 (by simp)
  simp only [B3,seval,hlen,h2,h4,h6,h7] at g2 g4 g6 g7
  clear g key key0
  simp only [wordGo]
  cases hf : may.find? (fun w => decide (w.2.1.length = n)) with
  | some w =>
   rw [hf] at hm
   obtain ⟨rfl, g5, M', rfl⟩ := hm
   simp only [B0,B1,B2,List.replicate,reduceCtorEq,lenA,seval,K117_ret]
   have hlt : ∀ i, i ≤ N + 4 → ∀ o : HO, (H.set (N + 2) o ++ M')[i]? = (H.set (N + 2) o)[i]? := fun i hi o => get_app (by simp; omega)
   refine ⟨_, _, rfl, hl1, g4, g5, ?_, ?_, ?_⟩
   ·rw [hlt _ (by omega), List.getElem?_set_self (by omega)]; rfl
   ·rw [hlt _ (by omega), List.getElem?_set_ne (by omega)]; exact oir
   ·refine ⟨by have := hbut.1; simp; omega, fun i hi hne => ?_⟩
    rw [hlt _ (by omega), List.getElem?_set_ne (by omega)]; exact hbut.2 i hi hne
  | none =>
   rw [hf] at hm
   obtain ⟨rfl, M', rfl⟩ := hm
   have ga : ∀ (j : Nat) (o : HO), H[j]? = some o → (H ++ M')[j]? = some o := fun j o h => by rw [get_app (List.getElem?_eq_some_iff.1 h).1]; exact h
   replace oN := ga _ _ oN
   replace o2 := ga _ _ o2
   replace o3 := ga _ _ o3
   replace o4 := ga _ _ o4
   replace oir := ga _ _ oir
   replace hbut := hbut.app (by omega) M'
   have hHl : N + 4 < (H ++ M').length := by simp; omega
   clear ga
   generalize H ++ M' = Hc at *
   have hdr : (s.drop at0)[n]? = s[at0 + n]? := List.getElem?_drop
   rw [hdr]
   have fin : ∀ (tm2 : List AV) (H2 : Heap) (n2 : Nat), n2 = n → tm2.length = 52 → tm2.getD 4 undefA = .ptr (N + 2) 0 0 → tm2.getD 5 undefA = .im (.bool false) → H2[N + 2]? = some (.obj none [encW zeroW]) → H2[ir]? = some (.obj none [[.im (.str s), .im (.int .i64 ((at0 + n : Nat) : Int))]]) → But N ir H0 H2 →
     ∃ tm' H', some (AEx.ret, tm2, H2) = some (AEx.ret, tm', H') ∧ tm'.length = 52 ∧ tm'.getD 4 undefA = .ptr (N + 2) 0 0 ∧ tm'.getD 5 undefA = .im (.bool (Option.isSome (none : Option Word))) ∧ H'[N + 2]? = some (.obj none [encW (wordRes none)]) ∧ H'[ir]? = some (.obj none [[.im (.str s), .im (.int .i64 ((at0 + n2 : Nat) : Int))]]) ∧ But N ir H0 H' :=
    fun tm2 H2 n2 hn2 a b c d e f => ⟨tm2, H2, rfl, a, b, c, d, by rw [hn2]; exact e, f⟩
   by_cases hat' : at0 + n < s.length
   ·have hc : decide ((((at0 + n : Nat) : Nat) : Int) < (s.length : Int)) = true := decide_eq_true (by omega)
    have hsc : s[at0 + n]? = some s[at0 + n] := List.getElem?_eq_getElem hat'
    generalize s[at0 + n] = c at hsc
    rw [hsc]
    simp only
    have hasks : Asks (fun w => !decide (w.2.1[n]? = some c)) 134 [.ptr (N + 4) 0 0, .ptr N 0 0] Hc.length (N + 3) Hc may := by
     intro w hw H' hH' hl'
     have h1 := hlens w hw
     have h2 := List.find?_eq_none.1 hf w hw
     simp at h2
     have hwa : w.2.1[n]? = some (w.2.1[n]'(by omega)) := List.getElem?_eq_getElem (by omega)
     generalize w.2.1[n]'(by omega) = a at hwa
     have := s134 w (N + 4) N ir n s (at0 + n) a c H' (by rw [hH' _ (by omega) (by omega)]; exact o4) (by rw [hH' _ (by omega) (by omega)]; exact oN) (by rw [hH' _ (by omega) (by omega)]; exact oir) hwa hsc
     simp only [List.cons_append,List.nil_append]
     rw [this, hwa]
     simp only [Option.some.injEq]
    obtain ⟨rest', h98⟩ := s132 may rest (N + 3) Hc o3 _ 134 _ hasks (by omega) hne
    simp only [Bool.not_not] at h98
    have hmem : ∀ w ∈ may.filter (fun w => decide (w.2.1[n]? = some c)), w ∈ may ∧ w.2.1[n]? = some c := fun w hw => by simpa using hw
    have hfl : (may.filter fun w => decide (w.2.1[n]? = some c)).length ≤ may.length := List.length_filter_le _ _
    generalize may.filter (fun w => decide (w.2.1[n]? = some c)) = may' at *
    have oN' : ∀ o, (Hc.set (N + 3) o)[N]? = some (.obj none [[.ptr ir 0 0]]) := fun o => by rw [List.getElem?_set_ne (by omega)]; exact oN
    have o2' : ∀ o, (Hc.set (N + 3) o)[N + 2]? = some (.obj none [[x, y, z]]) := fun o => by rw [List.getElem?_set_ne (by omega)]; exact o2
    have oir' : ∀ o, (Hc.set (N + 3) o)[ir]? = some (.obj none [[.im (.str s), .im (.int .i64 ((at0 + n : Nat) : Int))]]) := fun o => by rw [List.getElem?_set_ne (by omega)]; exact oir
    have o4' : ∀ o, (Hc.set (N + 3) o)[N + 4]? = some (.obj none [[.im (.int .i64 (n : Int))]]) := fun o => by rw [List.getElem?_set_ne (by omega)]; exact o4
    by_cases hm0 : may' = []
    ·subst hm0
     simp only [if_true]
     simp only [List.length_nil,msOf,List.nil_append] at h98
     have z0 : (((0 : Nat) : Nat) : Int) = 0 := rfl
     simp only [B0,B1,B2,List.replicate,reduceCtorEq,lenA,seval,hl1,g2,g4,g6,g7,oN,oir,hc,h98,lenA,z0,o2',Int.reduceLT,K117_ret,decide_false]
     refine fin _ _ n rfl ?_ ?_ ?_ ?_ ?_ ?_
     ·simp only [List.length_set,hl1]
     ·simp only [B3,seval,hl1,g4]
     ·simp only [B3,seval,hl1]
     ·rw [List.getElem?_set_self (by simp; omega)]; rfl
     ·rw [List.getElem?_set_ne (by omega)]; exact oir' _
     ·refine ⟨by have := hbut.1; simp; omega, fun i hi hne => ?_⟩
      rw [List.getElem?_set_ne (by omega), List.getElem?_set_ne (by omega)]; exact hbut.2 i hi hne
    ·simp only [if_neg hm0]
     have hpos : 0 < may'.length := List.length_pos_iff.2 hm0
     have hpos' : decide ((0 : Int) < (may'.length : Int)) = true := decide_eq_true (by omega)
     simp only [msOf] at h98
     have hwr := wrap_nat (i := at0 + n) (by omega)
     have hwrn := wrap_nat (i := n) (by omega)
     have hno : N + 4 ≠ ir := by omega
     have o4'' : ∀ o o', ((Hc.set (N + 3) o).set ir o')[N + 4]? = some (.obj none [[.im (.int .i64 (n : Int))]]) := fun o o' => by rw [List.getElem?_set_ne (by omega)]; exact o4' o
     simp only [B0,B1,B2,List.replicate,reduceCtorEq,lenA,seval,hl1,g2,g4,g6,g7,oN,oN',oir,oir',o4',o4'',hc,h98,lenA,hpos',hwr,hwrn,K117_goto0]
     refine ih may' rest' (n + 1) hm0 (by omega) ?_ (by omega) _ _ x y z ?_ ?_ ?_ ?_ ?_ ?_ ?_ ?_ ?_ ?_ ?_
     ·intro w hw
      obtain ⟨h1, h2⟩ := hmem w hw
      have := hlens w h1
      have := (List.getElem?_eq_some_iff.1 h2).1
      omega
     ·simp only [List.length_set,hl1]
     ·simp only [B3,seval,hl1,g2]
     ·simp only [B3,seval,hl1,g4]
     ·simp only [B3,seval,hl1]
     ·simp only [B3,seval,hl1,g7]
     ·rw [List.getElem?_set_ne (by omega), List.getElem?_set_ne (by omega)]; exact oN' _
     ·rw [List.getElem?_set_ne (by omega), List.getElem?_set_ne (by omega)]; exact o2' _
     ·rw [List.getElem?_set_ne (by omega), List.getElem?_set_ne (by omega), List.getElem?_set_self (by omega)]
     ·rw [List.getElem?_set_self (by simp; omega)]
     ·rw [List.getElem?_set_ne (by omega), List.getElem?_set_self (by simp; omega)]; rfl
     ·refine ⟨by have := hbut.1; simp; omega, fun i hi hne => ?_⟩
      rw [List.getElem?_set_ne (by omega), List.getElem?_set_ne (by omega), List.getElem?_set_ne (by omega)]; exact hbut.2 i hi hne
   ·have hc : decide ((((at0 + n : Nat) : Nat) : Int) < (s.length : Int)) = false := decide_eq_false (by omega)
    have hsc : s[at0 + n]? = none := List.getElem?_eq_none (by omega)
    rw [hsc]
    simp only [B0,B1,B2,List.replicate,reduceCtorEq,lenA,seval,hl1,g2,g4,g6,g7,oN,oir,hc,o2,K117_ret]
    refine fin _ _ n rfl ?_ ?_ ?_ ?_ ?_ ?_
    ·simp only [List.length_set,hl1]
    ·simp only [B3,seval,hl1,g4]
    ·simp only [B3,seval,hl1]
    ·rw [List.getElem?_set_self (by omega)]; rfl
    ·rw [List.getElem?_set_ne (by omega)]; exact oir
    ·refine ⟨by have := hbut.1; simp; omega, fun i hi hne => ?_⟩
     rw [List.getElem?_set_ne (by omega)]; exact hbut.2 i hi hne
def mayW (d : Int) : List Word := words.filter fun w => !outW d w
def word69 (s : List UInt8) (at0 : Nat) (d : Int) : Nat × Option Word := wordGo (s.drop at0) 8 (mayW d) 0
theorem mayW_ne (d : Int) : mayW d ≠ [] := by
 have : ((1 : Int), ([98, 111, 111, 108] : List UInt8), (0 : Int)) ∈ mayW d := by
  simp only [mayW,List.mem_filter]
  exact ⟨by decide, by simp [outW]⟩
 exact List.ne_nil_of_mem this
theorem mayW_len (d : Int) : (mayW d).length ≤ 8 := List.length_filter_le _ _
theorem s117 (s : List UInt8) (at0 ir : Nat) (d : Int) (H : Heap) (hir : H[ir]? = some (.obj none [[.im (.str s), .im (.int .i64 (at0 : Int))]])) (hs : s.length ≤ 9223372036854775807) (hat : at0 ≤ s.length) :
  L 117 [.ptr ir 0 0, .im (.int .i64 d)] H = some (.tup [.im (.agg (datW (wordRes (word69 s at0 d).2))), .im (.bool (word69 s at0 d).2.isSome)], H.set ir (.obj none [[.im (.str s), .im (.int .i64 ((at0 + (word69 s at0 d).1 : Nat) : Int))]])) := by
 have hirl := (List.getElem?_eq_some_iff.1 hir).1
 rw [leq F117]
 have hK : ∀ (tm : List AV) (H' : Heap) (w : Word) (b : Bool) (o : HO), tm.length = 52 → tm.getD 4 undefA = .ptr (H.length + 2) 0 0 → tm.getD 5 undefA = .im (.bool b) → H'[H.length + 2]? = some (.obj none [encW w]) → But H.length ir H H' → H'[ir]? = some o → refsO H.length o = true →
   endK f117 H .ret tm H' = some (.tup [.im (.agg (datW w)), .im (.bool b)], H.set ir o) := fun tm H' w b o hl h4 h5 h2 hb ho hro => by
  have := leave_but (keep := false) (r := .tup [.im (.agg (datW w)), .im (.bool b)]) hb ho hro (by simp [degrade, degrade1, toDat, refsLt, refsLts]) hirl
  simp only [Bool.false_eq_true,if_false] at this
  have hd : degrade (.tup [.im (.agg (datW w)), .im (.bool b)]) = .tup [.im (.agg (datW w)), .im (.bool b)] := by simp [degrade, degrade1, toDat]
  rw [hd] at this
  simp only [encW] at h2
  simp only [datW] at this
  simp only [endK,f117,B0,B1,B2,List.replicate,reduceCtorEq,lenA,seval,resA,tupA,h4,h5,h2,this,datW]
 have hcode : f117.code = f117.code := rfl
 conv at hcode => rhs; simp only [f117]
 rw [hcode]
 clear hcode
 generalize endK f117 H = K at *
 obtain ⟨hlen, ha⟩ := enter_at (f := f117) (args := [.ptr ir 0 0, .im (.int .i64 d)]) (Nat.le_of_ble_eq_true rfl)
 have h0 := ha 0 _ rfl
 have h1 := ha 1 _ rfl
 generalize enterA f117 [.ptr ir 0 0, .im (.int .i64 d)] = tm at *
 change tm.length = 52 at hlen
 have hN : H.length = H.length := rfl
 have hda : ∀ M : Heap, (H ++ M)[ir]? = some (.obj none [[.im (.str s), .im (.int .i64 (at0 : Int))]]) := fun M => by rw [get_app hirl]; exact hir
 have hx : (H ++ [.obj none [[.ptr ir 0 0]], .obj none [[.im (.int .i64 d)]], .obj none [[.im (.int .i64 0), .im (.str []), .im (.int .i64 0)]], HO.obj none ((words ++ []).map encW)]).length = H.length + 4 := by simp
 obtain ⟨rest', h98⟩ := s132 words [] (H.length + 3) (H ++ [.obj none [[.ptr ir 0 0]], .obj none [[.im (.int .i64 d)]], .obj none [[.im (.int .i64 0), .im (.str []), .im (.int .i64 0)]], HO.obj none ((words ++ []).map encW)])
  (by rw [hget]; rfl) (outW d) 133 [.ptr (H.length + 1) 0 0] (by
   intro w hw H' hH' hl'
   rw [hx] at hH'
   exact s133 w (H.length + 1) d H' (by rw [hH' _ (by omega) (by omega), hget]; rfl)) (by decide) (by decide)
 have hfm : words.filter (fun w => !outW d w) = mayW d := rfl
 have hw8 : words.length = 8 := rfl
 have hpos : 0 < (mayW d).length := List.length_pos_iff.2 (mayW_ne d)
 rw [hfm, hw8] at h98
 simp only [msOf,List.append_nil] at h98
 have hmem : ∀ w ∈ mayW d, w ∈ words := fun w hw => (List.mem_filter.1 hw).1
 have hml := mayW_len d
 simp only [e117_1,c117_1_eq,s117b,B0,B1,B2,List.replicate,reduceCtorEq,lenA,seval,hlen,h0,h1,s121,h98]
 rw [← g117_0_eq]
 generalize hr : thenL _ _ = r
 have key := g117 s at0 ir H.length H rfl hirl hs hat 8 (mayW d) rest' 0 (mayW_ne d) hml (fun w hw => by have := word_len w (hmem w hw); omega) (by omega)
 refine Exists.elim (thenL_inv hr (ret_ex (key _ _ (.im (.int .i64 0)) (.im (.str [])) (.im (.int .i64 0)) ?_ ?_ ?_ ?_ ?_ ?_ ?_ ?_ ?_ ?_ ?_))) ?_
 ·simp only [List.length_set,hlen]
 iterate 4 simp only [B3,seval,hlen]
 ·rw [hget0]; rfl
 ·rw [hget]; rfl
 ·rw [hget]; rfl
 ·rw [hget]; rfl
 ·exact hda _
 ·exact But.refl.app (Nat.le_refl _) _
 ·rintro e ⟨tm1, H1, ⟨rfl, hl1, g4, g5, g2, gir, hb⟩, rfl⟩
  exact hK _ _ _ _ _ hl1 g4 g5 g2 hb gir rfl
end Go.Abs.Seat
end
section
set_option linter.unusedVariables false
set_option linter.unusedSimpArgs false
namespace Go.Abs.Seat
open Go.Proofs
def signB (s : List UInt8) (k : Nat) (c : UInt8) : Bool := decide (s[k]? = some c)
def objR (s : List UInt8) (k : Nat) : HO := .obj none [[.im (.str s), .im (.int .i64 (k : Int))]]
theorem s118 (s : List UInt8) (k ir : Nat) (c : UInt8) (H : Heap) (hir : H[ir]? = some (objR s k)) (hs : s.length ≤ 9223372036854775807) :
  L 118 [.ptr ir 0 0, .im (byteDat c)] H = some (.im (.bool (signB s k c)), H.set ir (objR s (if signB s k c = true then k + 1 else k))) := by
 have hirl := (List.getElem?_eq_some_iff.1 hir).1
 have p2 : (0 : Int) ≤ (k : Int) := Int.natCast_nonneg k
 have hl0 : leave H false (.im (.bool false)) H = (.im (.bool false), H) := leave_same
 have hl1 : ∀ o : HO, refsO H.length o = true → leave H false (.im (.bool true)) (H.set ir o) = (.im (.bool true), H.set ir o) := fun o ho => by
  have := leave_but (keep := false) (r := .im (.bool true)) (But.refl.set o) (List.getElem?_set_self hirl) ho rfl hirl
  simpa [degrade, toDat] using this
 have hl1' := hl1 (objR s (k + 1)) rfl
 simp only [objR,byteDat] at hir hl1' ⊢
 rw [leq F118]
 obtain ⟨hlen, ha⟩ := enter_at (f := f118) (args := [.ptr ir 0 0, .im (.int .u8 (c.toNat : Int))]) (Nat.le_of_ble_eq_true rfl)
 have h0 := ha 0 _ rfl
 have h1 := ha 1 _ rfl
 generalize enterA f118 [.ptr ir 0 0, .im (.int .u8 (c.toNat : Int))] = tm at *
 change tm.length = 35 at hlen
 by_cases hk : k < s.length
 ·have hc : decide ((k : Int) < (s.length : Int)) = true := decide_eq_true (by omega)
  have hsk : s[k]? = some s[k] := List.getElem?_eq_getElem hk
  generalize s[k] = a at hsk
  have hwr := wrap_nat (i := k) (by omega)
  unfold signB
  rw [hsk]
  by_cases hac : a = c
  ·have hd : decide (((a.toNat : Nat) : Int) = ((c.toNat : Nat) : Int)) = true := by rw [byte_eq]; exact decide_eq_true hac
   have hd2 : decide (some a = some c) = true := decide_eq_true (by rw [hac])
   rw [hd2]
   simp only [f118,B0,B1,B2,List.replicate,reduceCtorEq,lenA,seval,endK,resA,tupA,intOfA,byteDat,Int.toNat_natCast,hlen,h0,h1,hir,hc,p2,hsk,hd,hwr,hl1']
  ·have hd : decide (((a.toNat : Nat) : Int) = ((c.toNat : Nat) : Int)) = false := by rw [byte_eq]; exact decide_eq_false hac
   have hd2 : decide (some a = some c) = false := decide_eq_false (by simpa using hac)
   rw [hd2]
   rw [show (if false = true then k + 1 else k) = k from rfl, set_same hir]
   simp only [f118,B0,B1,B2,List.replicate,reduceCtorEq,lenA,seval,endK,resA,tupA,intOfA,byteDat,Int.toNat_natCast,hlen,h0,h1,hir,hc,p2,hsk,hd,hwr,hl0]
 ·have hc : decide ((k : Int) < (s.length : Int)) = false := decide_eq_false (by omega)
  have hsk : s[k]? = none := List.getElem?_eq_none (by omega)
  unfold signB
  rw [hsk]
  have hd2 : decide (none = some c) = false := decide_eq_false (by simp)
  rw [hd2]
  rw [show (if false = true then k + 1 else k) = k from rfl, set_same hir]
  simp only [f118,B0,B1,B2,List.replicate,reduceCtorEq,lenA,seval,endK,resA,tupA,hlen,h0,h1,hir,hc,hl0]
def mkT (k : Int) (args : List KT) : KT := .mk k (if args.length = 0 then 0 else 2) args
def zeroT : KT := mkT 0 []
def readL (rd : Nat → Nat × KT × Bool) (s : List UInt8) : Nat → Nat → Nat → List KT → Nat × Option (List KT)
 | 0, i, k, acc => (k, some acc)
 | m + 1, i, k, acc => if signB s k (sepB i) = true then (if (rd (k + 1)).2.2 = true then readL rd s m (i + 1) (rd (k + 1)).1 (acc ++ [(rd (k + 1)).2.1]) else ((rd (k + 1)).1, none)) else (k, none)
def readP (s : List UInt8) : Nat → Nat → Nat × KT × Bool
 | 0, k => (k, zeroT, false)
 | d + 1, k => match word69 s k ((d : Int) + 1) with
  |(n, none) => (k + n, zeroT, false)
  |(n, some w) => match readL (readP s d) s w.2.2.toNat 0 (k + n) [] with
   |(k', none) => (k', zeroT, false)
   |(k', some l) => if w.2.2 = 0 then (k', mkT w.1 l, true) else (if signB s k' 41 = true then (k' + 1, mkT w.1 l, true) else (k', mkT w.1 l, false))
theorem sign_lt {s : List UInt8} {k : Nat} {c : UInt8} (h : signB s k c = true) : k < s.length := by
 have := of_decide_eq_true h
 exact (List.getElem?_eq_some_iff.1 this).1
end Go.Abs.Seat
end
section
set_option linter.unusedVariables false
set_option linter.unusedSimpArgs false
namespace Go.Abs.Seat
open Go.Proofs
theorem l95 (s : List UInt8) (ir N : Nat) (H0 : Heap) (hN : N = H0.length) (hir : ir < N) (hs : s.length ≤ 9223372036854775807) (d d' : Int) (hd : IntKind.i64.wrap (d - 1) = d') (rd : Nat → Nat × KT × Bool)
  (cnt : Nat) (hrd : 0 < cnt → ∀ (k : Nat) (H : Heap), k ≤ s.length → H[ir]? = some (objR s k) → L 95 [.ptr ir 0 0, .im (.int .i64 d')] H = some (.tup [.im (.agg (encT (rd k).2.1)), .im (.bool (rd k).2.2)], H.set ir (objR s (rd k).1)))
  (hle : 0 < cnt → ∀ k, k ≤ s.length → (rd k).1 ≤ s.length) (hcnt : cnt ≤ 2) (kk : Int) (W : HO) :
  ∀ (m i : Nat), i + m = cnt → ∀ (tm : List AV) (H : Heap) (k : Nat) (acc : List KT) (v x y : AV), k ≤ s.length → acc.length = i → tm.length = 60 → tm.getD 0 undefA = .ptr ir 0 0 → tm.getD 1 undefA = .im (.int .i64 d) → tm.getD 4 undefA = .ptr N 0 0 → tm.getD 6 undefA = .ptr (N + 1) 0 0 → tm.getD 8 undefA = .ptr (N + 2) 0 0 →
  tm.getD 25 undefA = .im (.int .i64 (cnt : Int)) → tm.getD 26 undefA = .im (.int .i64 (i : Int)) → H[N]? = some (.obj none [[x, y]]) → H[N + 1]? = some W → H[N + 2]? = some (.obj none [[.im (.int .i64 kk), v]]) → Gath 62 2 (N + 3) v H (acc.map encT) → H[ir]? = some (objR s k) → But N ir H0 H → N + 3 ≤ H.length →
  ∃ e tm' H', Λ c95_0 tm H = some (e, tm', H') ∧ tm'.length = 60 ∧ tm'.getD 0 undefA = .ptr ir 0 0 ∧ tm'.getD 4 undefA = .ptr N 0 0 ∧ tm'.getD 6 undefA = .ptr (N + 1) 0 0 ∧ tm'.getD 8 undefA = .ptr (N + 2) 0 0 ∧ But N ir H0 H' ∧ H'[N + 1]? = some W ∧ N + 3 ≤ H'.length ∧
   H'[ir]? = some (objR s (readL rd s m i k acc).1) ∧ (readL rd s m i k acc).1 ≤ s.length ∧ match (readL rd s m i k acc).2 with
    | none => e = .ret ∧ H'[N]? = some (.obj none [[.im (.int .i64 0), .nils]]) ∧ tm'.getD 5 undefA = .im (.bool false)
    | some l => e = .exit 0 ∧ (∃ x y, H'[N]? = some (.obj none [[x, y]])) ∧ (∃ v', H'[N + 2]? = some (.obj none [[.im (.int .i64 kk), v']]) ∧ Gath 62 2 (N + 3) v' H' (l.map encT)) ∧ l.length = cnt
 | 0, i, hi, tm, H, k, acc, v, x, y, hk, hacc, hlen, h0, h1, h4, h6, h8, h25, h26, oN, o1, o2, hG, oir, hb, hHl => by
  have hc : decide ((i : Int) < (cnt : Int)) = false := decide_eq_false (by omega)
  rw [l95_0]
  simp only [readL,b95_0,B0,B1,B2,List.replicate,reduceCtorEq,lenA,seval,hlen,h25,h26,hc]
  exact ⟨_, _, _, rfl, by simp only [List.length_set,hlen], by simp only [B3,seval,hlen,h0], by simp only [B3,seval,hlen,h4], by simp only [B3,seval,hlen,h6], by simp only [B3,seval,hlen,h8], hb, o1, hHl, oir, hk, rfl, ⟨_, _, oN⟩, ⟨_, o2, hG⟩, by omega⟩
 | m + 1, i, hi, tm, H, k, acc, v, x, y, hk, hacc, hlen, h0, h1, h4, h6, h8, h25, h26, oN, o1, o2, hG, oir, hb, hHl => by
  have hc : decide ((i : Int) < (cnt : Int)) = true := decide_eq_true (by omega)
  have hnn : (0 : Int) ≤ (i : Int) := Int.natCast_nonneg i
  have hwr := wrap_nat (i := i) (by omega)
  have hsep : ([40, 44] : List UInt8)[i]? = some (sepB i) := by
   have : i = 0 ∨ i = 1 := by omega
   rcases this with rfl | rfl <;> rfl
  have h70 := s118 s k ir (sepB i) H oir hs
  simp only [byteDat] at h70
  have hirH : ir < H.length := by omega
  rw [l95_0]
  simp only [readL]
  by_cases hsg : signB s k (sepB i) = true
  ·simp only [hsg,if_true] at h70 ⊢
   have hk1 : k + 1 ≤ s.length := sign_lt hsg
   have oir1 : (H.set ir (objR s (k + 1)))[ir]? = some (objR s (k + 1)) := List.getElem?_set_self hirH
   have h45 := hrd (by omega) (k + 1) _ hk1 oir1
   rw [List.set_set] at h45
   have hle1 := hle (by omega) (k + 1) hk1
   generalize hrk : rd (k + 1) = q at *
   obtain ⟨k2, t, ok⟩ := q
   simp only at h45 hle1 ⊢
   have gs : ∀ (j : Nat) (o o' : HO), j ≠ ir → H[j]? = some o → (H.set ir o')[j]? = some o := fun j o o' hne h => by rw [List.getElem?_set_ne (fun e => hne e.symm)]; exact h
   have oN1 := gs N _ (objR s k2) (by omega) oN
   have o11 := gs (N + 1) _ (objR s k2) (by omega) o1
   have o21 := gs (N + 2) _ (objR s k2) (by omega) o2
   have oir2 : (H.set ir (objR s k2))[ir]? = some (objR s k2) := List.getElem?_set_self hirH
   have hb2 := hb.set (objR s k2)
   have hG2 := hG.set_obj oir (objR s k2)
   have hHl2 : N + 3 ≤ (H.set ir (objR s k2)).length := by simpa using hHl
   generalize H.set ir (objR s k2) = H2 at *
   have ga : ∀ (j : Nat) (o : HO) (M : Heap), H2[j]? = some o → (H2 ++ M)[j]? = some o := fun j o M h => by rw [get_app (List.getElem?_eq_some_iff.1 h).1]; exact h
   obtain ⟨k', s', ts⟩ := t
   simp only [encT] at h45
   cases ok with
   | true =>
    have hGx := (hG2.more [.obj none [[.im (.int .i64 k'), .im (.sl s' (encTs ts))]]]).grow (bytes := 32) (by simp; omega) (encT (.mk k' s' ts)) (by simp; omega) (by decide)
    obtain ⟨tok, H3, hap, hG3, hl3, hlow3, hob3⟩ := hGx
    simp only [encT] at hap
    have oN2 := ga _ _ [.obj none [[.im (.int .i64 k'), .im (.sl s' (encTs ts))]]] oN1
    have o12 := ga _ _ [.obj none [[.im (.int .i64 k'), .im (.sl s' (encTs ts))]]] o11
    have o22 := ga _ _ [.obj none [[.im (.int .i64 k'), .im (.sl s' (encTs ts))]]] o21
    have o23 := hob3 _ _ _ o22
    have oir3 := ga _ _ [.obj none [[.im (.int .i64 k'), .im (.sl s' (encTs ts))]]] oir2
    have hid : decide True = true := rfl
    have key := l95 s ir N H0 hN hir hs d d' hd rd cnt hrd hle hcnt kk W m (i + 1) (by omega)
    simp only [b95_0,B0,B1,B2,List.replicate,reduceCtorEq,lenA,seval,intOfA,byteDat,elems,toDatss,toDats,toDat,Int.toNat_natCast,hlen,h0,h1,h4,h6,h8,h25,h26,hc,hnn,hsep,hd,h70,h45,o22,hap,o23,hwr]
    have hnir : N + 2 ≠ ir := by omega
    have oH3 : ∀ j, j < N + 3 → j ≠ N + 2 → ∀ o o', (H2 ++ [.obj none [[.im (.int .i64 k'), .im (.sl s' (encTs ts))]]])[j]? = some o → (H3.set (N + 2) o')[j]? = some o := fun j hj hj2 o o' h => by
     rw [List.getElem?_set_ne (fun e => hj2 e.symm), hlow3 j hj]; exact h
    have hmap : acc.map encT ++ [encT (.mk k' s' ts)] = (acc ++ [KT.mk k' s' ts]).map encT := by simp
    have hN2 : N + 2 < H3.length := by simp at hl3; omega
    refine ex_imp (key _ _ k2 (acc ++ [.mk k' s' ts]) (.asl 2 (acc.map encT ++ [encT (.mk k' s' ts)]) tok) x y hle1 (by simp; omega) ?_ ?_ ?_ ?_ ?_ ?_ ?_ ?_ ?_ ?_ ?_ ?_ ?_ ?_ ?_) fun _ _ _ h => h
    ·simp only [List.length_set,hlen]
    iterate 7 simp only [B3,seval,hlen,h0,h1,h4,h6,h8,h25]
    ·exact oH3 N (by omega) (by omega) _ _ oN2
    ·exact oH3 (N + 1) (by omega) (by omega) _ _ o12
    ·rw [List.getElem?_set_self hN2]; simp only [encT]
    ·rw [← hmap]; exact hG3.set_obj o23 _
    ·exact oH3 ir (by omega) (by omega) _ _ oir3
    ·have hb4 := hb2.app (by omega) [.obj none [[.im (.int .i64 k'), .im (.sl s' (encTs ts))]]]
     refine ⟨by have := hb4.1; simp; omega, fun j hj hne => ?_⟩
     rw [List.getElem?_set_ne (by omega), hlow3 j (by omega)]; exact hb4.2 j hj hne
    ·simp; omega
   | false =>
    simp only [Bool.false_eq_true,if_false]
    have hb4 := hb2.app (by omega) [.obj none [[.im (.int .i64 k'), .im (.sl s' (encTs ts))]]]
    have oN2 := ga _ _ [.obj none [[.im (.int .i64 k'), .im (.sl s' (encTs ts))]]] oN1
    have o12 := ga _ _ [.obj none [[.im (.int .i64 k'), .im (.sl s' (encTs ts))]]] o11
    have oir3 := ga _ _ [.obj none [[.im (.int .i64 k'), .im (.sl s' (encTs ts))]]] oir2
    simp only [b95_0,B0,B1,B2,List.replicate,reduceCtorEq,lenA,seval,intOfA,byteDat,Int.toNat_natCast,hlen,h0,h1,h4,h6,h8,h25,h26,hc,hnn,hsep,hd,h70,h45,oN2,hwr]
    refine ⟨_, _, _, rfl, ?_, ?_, ?_, ?_, ?_, ?_, ?_, ?_, ?_, hle1, rfl, ?_, ?_⟩
    ·simp only [List.length_set,hlen]
    iterate 4 simp only [B3,seval,hlen,h0,h4,h6,h8]
    ·refine ⟨by have := hb4.1; simp at this ⊢; omega, fun j hj hne => ?_⟩
     rw [List.getElem?_set_ne (by omega)]; exact hb4.2 j hj hne
    ·rw [List.getElem?_set_ne (by omega)]; exact o12
    ·simp; omega
    ·rw [List.getElem?_set_ne (by omega)]; exact oir3
    ·rw [List.getElem?_set_self (by simp; omega)]
    ·simp only [B3,seval,hlen]
  ·have hsg' : signB s k (sepB i) = false := by simpa using hsg
   rw [hsg'] at h70 ⊢
   simp only [Bool.false_eq_true,if_false] at h70 ⊢
   rw [set_same oir] at h70
   simp only [b95_0,B0,B1,B2,List.replicate,reduceCtorEq,lenA,seval,intOfA,byteDat,Int.toNat_natCast,hlen,h0,h1,h4,h6,h8,h25,h26,hc,hnn,hsep,h70,oN,hwr]
   refine ⟨_, _, _, rfl, ?_, ?_, ?_, ?_, ?_, ?_, ?_, ?_, ?_, hk, rfl, ?_, ?_⟩
   ·simp only [List.length_set,hlen]
   iterate 4 simp only [B3,seval,hlen,h0,h4,h6,h8]
   ·refine ⟨by have := hb.1; simp at this ⊢; omega, fun j hj hne => ?_⟩
    rw [List.getElem?_set_ne (by omega)]; exact hb.2 j hj hne
   ·rw [List.getElem?_set_ne (by omega)]; exact o1
   ·simp; omega
   ·rw [List.getElem?_set_ne (by omega)]; exact oir
   ·rw [List.getElem?_set_self (by omega)]
   ·simp only [B3,seval,hlen]
end Go.Abs.Seat
end
section
set_option linter.unusedVariables false
set_option linter.unusedSimpArgs false
namespace Go.Abs.Seat
open Go.Proofs
theorem wordGo_some : ∀ (r : List UInt8) (k : Nat) (may : List Word) (n : Nat), n ≤ r.length → n ≤ (wordGo r k may n).1 ∧ (wordGo r k may n).1 ≤ r.length ∧ ∀ w, (wordGo r k may n).2 = some w → w ∈ may
 | r, 0, may, n, h => ⟨Nat.le_refl _, h, fun w hw => List.mem_of_find?_eq_some hw⟩
 | r, k + 1, may, n, h => by
  simp only [wordGo]
  cases hf : may.find? (fun w => decide (w.2.1.length = n)) with
  | some w =>
   refine ⟨Nat.le_refl _, h, fun w' hw => ?_⟩
   simp only [Option.some.injEq] at hw
   subst hw
   exact List.mem_of_find?_eq_some hf
  | none =>
   cases hr : r[n]? with
   | none => exact ⟨Nat.le_refl _, h, fun w' hw => by simp at hw⟩
   | some c =>
    have hn := (List.getElem?_eq_some_iff.1 hr).1
    simp only
    split
    ·exact ⟨Nat.le_refl _, h, fun w' hw => by simp at hw⟩
    ·obtain ⟨h1, h2, h3⟩ := wordGo_some r k (may.filter fun w => decide (w.2.1[n]? = some c)) (n + 1) hn
     exact ⟨by omega, h2, fun w' hw => (List.mem_filter.1 (h3 w' hw)).1⟩
theorem word69_le {s : List UInt8} {k : Nat} {d : Int} (hk : k ≤ s.length) : k + (word69 s k d).1 ≤ s.length ∧ ∀ w, (word69 s k d).2 = some w → w ∈ mayW d := by
 obtain ⟨_, h1, h2⟩ := wordGo_some (s.drop k) 8 (mayW d) 0 (Nat.zero_le _)
 rw [List.length_drop] at h1
 exact ⟨by unfold word69; omega, h2⟩
theorem words_cnt : ∀ w ∈ words, 0 ≤ w.2.2 ∧ w.2.2 ≤ 2 := by decide
theorem mayW_cnt {d : Int} {w : Word} (h : w ∈ mayW d) : 0 ≤ w.2.2 ∧ w.2.2 ≤ 2 ∧ (d = 1 → w.2.2 = 0) := by
 obtain ⟨h1, h2⟩ := List.mem_filter.1 h
 obtain ⟨h3, h4⟩ := words_cnt w h1
 refine ⟨h3, h4, fun hd => ?_⟩
 subst hd
 simp [outW] at h2
 omega
theorem readL_le (rd : Nat → Nat × KT × Bool) (s : List UInt8) (hrd : ∀ k, k ≤ s.length → (rd k).1 ≤ s.length) : ∀ (m i k : Nat) (acc : List KT), k ≤ s.length → (readL rd s m i k acc).1 ≤ s.length
 | 0, i, k, acc, h => h
 | m + 1, i, k, acc, h => by
  simp only [readL]
  split
  ·rename_i hs
   have := hrd (k + 1) (sign_lt hs)
   split
   ·exact readL_le rd s hrd m (i + 1) _ _ this
   ·exact this
  ·exact h
theorem readP_le (s : List UInt8) : ∀ (d k : Nat), k ≤ s.length → (readP s d k).1 ≤ s.length
 | 0, k, h => h
 | d + 1, k, h => by
  obtain ⟨h1, h2⟩ := word69_le (d := (d : Int) + 1) h
  simp only [readP]
  cases hw : word69 s k ((d : Int) + 1) with
  | mk n o =>
   rw [hw] at h1
   cases o with
   | none => exact h1
   | some w =>
    have h3 := readL_le (readP s d) s (fun k hk => readP_le s d k hk) w.2.2.toNat 0 (k + n) [] h1
    simp only
    cases hl : readL (readP s d) s w.2.2.toNat 0 (k + n) [] with
    | mk k' ol =>
     rw [hl] at h3
     cases ol with
     | none => exact h3
     | some l =>
      simp only
      split
      ·exact h3
      ·split
       ·rename_i hs; exact sign_lt hs
       ·exact h3
theorem s95k {H H' : Heap} {tm : List AV} {ir k n : Nat} {s : List UInt8} {kk : Int} {v : AV} {l : List KT} {b : Bool} (hir : ir < H.length) (h4 : tm.getD 4 undefA = .ptr H.length 0 0) (h5 : tm.getD 5 undefA = .im (.bool b)) (hN : H'[H.length]? = some (.obj none [[.im (.int .i64 kk), v]]))
  (hG : Gath 62 2 n v H' (l.map encT)) (hb : But H.length ir H H') (ho : H'[ir]? = some (objR s k)) : endK f95 H .ret tm H' = some (.tup [.im (.agg (encT (mkT kk l))), .im (.bool b)], H.set ir (objR s k)) := by
 have hr : ∀ v, (v = .nils ∧ l.map encT = [] ∨ ∃ tok, v = .asl 2 (l.map encT) tok ∧ l.map encT ≠ []) → leave H false (.tup [.agg [.im (.int .i64 kk), v], .im (.bool b)]) H' = (.tup [.im (.agg (encT (mkT kk l))), .im (.bool b)], H.set ir (objR s k)) := by
  intro v hv
  have hd : degrade (.tup [.agg [.im (.int .i64 kk), v], .im (.bool b)]) = .tup [.im (.agg (encT (mkT kk l))), .im (.bool b)] := by
   rcases hv with ⟨rfl, hl⟩ | ⟨tok, rfl, hl⟩
   ·have hl0 : l = [] := by simpa using hl
    subst hl0
    simp [degrade, degrade1, toDat, toDats, mkT, encT, encTs]
   ·have hl0 : l.length ≠ 0 := by simpa using hl
    simp only [degrade,degrade1,toDat,toDats,mkT,encT,encTs_map,if_neg hl0,List.map_cons,List.map_nil]
  have := leave_but (keep := false) (r := .tup [.agg [.im (.int .i64 kk), v], .im (.bool b)]) hb ho rfl (by simp only [Bool.false_eq_true,if_false,hd,refsLt,refsLts,Bool.and_self]) hir
  simpa only [Bool.false_eq_true, if_false, hd] using this
 have hfr : f95.results = [(4, some (some 2)), (5, none)] := rfl
 have hfk : f95.keep = false := rfl
 rcases hG with ⟨he, rfl⟩ | ⟨he, tok, _, rfl, _⟩
 ·have := hr _ (.inl ⟨rfl, he⟩)
  simp only [endK,hfr,hfk,B0,B1,B2,List.replicate,reduceCtorEq,lenA,seval,resA,tupA,h4,h5,hN,this]
 ·have := hr _ (.inr ⟨tok, rfl, he⟩)
  simp only [endK,hfr,hfk,B0,B1,B2,List.replicate,reduceCtorEq,lenA,seval,resA,tupA,h4,h5,hN,this]
theorem s95step (s : List UInt8) (ir : Nat) (hs : s.length ≤ 9223372036854775807) (d : Nat) (hd : d < 1000)
  (hrec : 0 < d → ∀ (k : Nat) (H : Heap), k ≤ s.length → H[ir]? = some (objR s k) → L 95 [.ptr ir 0 0, .im (.int .i64 (d : Int))] H = some (.tup [.im (.agg (encT (readP s d k).2.1)), .im (.bool (readP s d k).2.2)], H.set ir (objR s (readP s d k).1)))
  (k : Nat) (H : Heap) (hk : k ≤ s.length) (oir : H[ir]? = some (objR s k)) :
  L 95 [.ptr ir 0 0, .im (.int .i64 ((d : Int) + 1))] H = some (.tup [.im (.agg (encT (readP s (d + 1) k).2.1)), .im (.bool (readP s (d + 1) k).2.2)], H.set ir (objR s (readP s (d + 1) k).1)) := by
 have hir := (List.getElem?_eq_some_iff.1 oir).1
 have hoa : (H ++ [HO.obj none [[.im (.int .i64 0), .nils]]])[ir]? = some (objR s k) := by rw [get_app hir]; exact oir
 have h69 := s117 s k ir ((d : Int) + 1) _ hoa hs hk
 obtain ⟨hle, hmay⟩ := word69_le (d := (d : Int) + 1) hk
 have hb1 : But H.length ir H ((H ++ [HO.obj none [[.im (.int .i64 0), .nils]]]).set ir (objR s (k + (word69 s k ((d : Int) + 1)).1))) := (But.refl.app (Nat.le_refl _) _).set _
 have hx : ((H ++ [HO.obj none [[.im (.int .i64 0), .nils]]]).set ir (objR s (k + (word69 s k ((d : Int) + 1)).1))).length = H.length + 1 := by simp
 have hxN : ((H ++ [HO.obj none [[.im (.int .i64 0), .nils]]]).set ir (objR s (k + (word69 s k ((d : Int) + 1)).1)))[H.length]? = some (.obj none [[.im (.int .i64 0), .nils]]) := by rw [List.getElem?_set_ne (by omega), hget0]; rfl
 have hxr : ((H ++ [HO.obj none [[.im (.int .i64 0), .nils]]]).set ir (objR s (k + (word69 s k ((d : Int) + 1)).1)))[ir]? = some (objR s (k + (word69 s k ((d : Int) + 1)).1)) := by rw [List.getElem?_set_self (by simp; omega)]
 rw [leq F95]
 have hK := @s95k H
 have hcode : f95.code = f95.code := rfl
 conv at hcode => rhs; simp only [f95]
 rw [hcode]
 clear hcode
 generalize endK f95 H = K at *
 obtain ⟨hlen, ha⟩ := enter_at (f := f95) (args := [.ptr ir 0 0, .im (.int .i64 ((d : Int) + 1))]) (Nat.le_of_ble_eq_true rfl)
 have h0 := ha 0 _ rfl
 have h1 := ha 1 _ rfl
 generalize enterA f95 [.ptr ir 0 0, .im (.int .i64 ((d : Int) + 1))] = tm at *
 change tm.length = 60 at hlen
 simp only [readP]
 change L 117 _ _ = some (_, List.set _ ir (objR s (k + _))) at h69
 generalize hw : word69 s k ((d : Int) + 1) = q at *
 obtain ⟨n, ow⟩ := q
 simp only at hle hmay h69 hb1 hx hxN hxr ⊢
 generalize (H ++ [HO.obj none [[.im (.int .i64 0), .nils]]]).set ir (objR s (k + n)) = Hx at *
 have hxa : ∀ (j : Nat) (o : HO) (M : Heap), Hx[j]? = some o → (Hx ++ M)[j]? = some o := fun j o M h => by rw [get_app (List.getElem?_eq_some_iff.1 h).1]; exact h
 have hNa := hxa _ _ [HO.obj none [(encW (wordRes ow))]] hxN
 cases ow with
 | none =>
  simp only [wordRes,Option.isSome_none,datW] at h69
  simp only [wordRes,encW,zeroW] at hNa
  simp only [B0,B1,B2,List.replicate,reduceCtorEq,lenA,seval,hlen,h0,h1,h69,zeroW,hNa]
  have hb2 := hb1.app (Nat.le_refl _) [HO.obj none [[.im (.int .i64 0), .im (.str []), .im (.int .i64 0)]]]
  refine hK hir ?_ ?_ (v := .nils) (n := 0) ?_ (l := []) (.inl ⟨rfl, rfl⟩) ?_ ?_
  ·simp only [B3,seval,hlen]
  ·simp only [B3,seval,hlen]
  ·rw [List.getElem?_set_self (by simp; omega)]
  ·refine ⟨by have := hb2.1; simp at this ⊢; omega, fun j hj hne => ?_⟩
   rw [List.getElem?_set_ne (by omega)]; exact hb2.2 j hj hne
  ·rw [List.getElem?_set_ne (by omega), get_app (by omega)]; exact hxr
 | some w =>
  obtain ⟨hc0, hc2, hc1⟩ := mayW_cnt (hmay w rfl)
  have hcnt : ((w.2.2.toNat : Nat) : Int) = w.2.2 := by omega
  simp only [wordRes,Option.isSome_some,datW] at h69
  simp only [wordRes,encW] at hNa
  have hwrap := Go.Abs.Seat.wrap_small ((d : Int) + 1 - 1) (by omega)
  have hdd : (d : Int) + 1 - 1 = d := by omega
  rw [hdd] at hwrap
  have key := l95 s ir H.length H rfl hir hs ((d : Int) + 1) (d : Int) (by rw [hdd]; exact hwrap) (readP s d) w.2.2.toNat (fun hp => hrec (by
   rcases Nat.eq_zero_or_pos d with h | h
   ·subst h
    have := hc1 rfl
    omega
   ·exact h)) (fun _ k hk => readP_le s d k hk) (by omega) w.1 (.obj none [encW w]) w.2.2.toNat 0 (by omega)
  have zz : ((0 : Nat) : Int) = 0 := rfl
  rw [hcnt, zz] at key
  simp only [e95_0,B0,B1,B2,List.replicate,reduceCtorEq,lenA,seval,hlen,h0,h1,h69]
  generalize hr : thenL _ _ = r
  refine Exists.elim (thenL_inv hr (key _ _ (k + n) [] .nils (.im (.int .i64 0)) .nils hle rfl ?_ ?_ ?_ ?_ ?_ ?_ ?_ ?_ ?_ ?_ ?_ (.inl ⟨rfl, rfl⟩) ?_ ?_ ?_)) ?_
  ·simp only [List.length_set,hlen]
  ·simp only [B3,seval,hlen,h0]
  ·simp only [B3,seval,hlen,h1]
  ·simp only [B3,seval,hlen]
  ·simp only [B3,seval,hlen,hx]
  ·simp only [B3,seval,hlen,hx,Nat.add_assoc,Nat.reduceAdd]
  ·simp only [B3,seval,hlen]
  ·simp only [B3,seval,hlen]
  ·exact hxa _ _ _ hxN
  ·rw [← hx, hget0]; rfl
  ·rw [show H.length + 2 = Hx.length + 1 by omega, hget]; rfl
  ·exact hxa _ _ _ hxr
  ·exact hb1.app (Nat.le_refl _) _
  ·simp; omega
  clear hr
  rintro e ⟨tm1, H1, ⟨hl1, g0, g4, g6, g8, gb, gW, gl, gir, gle, hm⟩, rfl⟩
  generalize readL (readP s d) s w.2.2.toNat 0 (k + n) [] = q at *
  obtain ⟨k', ol⟩ := q
  simp only at gir gle hm ⊢
  cases ol with
  | none =>
   obtain ⟨rfl, oN, g5⟩ := hm
   simp only [b_ret,k_ret]
   exact hK hir g4 g5 oN (n := 0) (l := []) (.inl ⟨rfl, rfl⟩) gb gir
  | some l =>
   obtain ⟨rfl, ⟨x, y, oN⟩, ⟨v', o2, hG⟩, hll⟩ := hm
   simp only [encW] at gW
   have hgr : ∀ o, refsO H.length (objR s o) = true := fun o => rfl
   have hgo : HO.obj none [[.im (.str s), .im (.int .i64 (k' : Int))]] = objR s k' := rfl
   have h70 := s118 s k' ir 41 H1 gir hs
   simp only [byteDat,show (((41 : UInt8).toNat : Nat) : Int) = 41 from rfl] at h70
   have hld : ∀ o', loadAt (H1.set ir o') (some 2) (.ptr (H.length + 2) 0 0) = loadAt H1 (some 2) (.ptr (H.length + 2) 0 0) := fun o' => by
    simp only [loadAt,List.getElem?_set_ne (show ir ≠ H.length + 2 by omega)]
   have hbN : ∀ o, But H.length ir H (H1.set H.length o) := fun o => ⟨by have := gb.1; simpa using this, fun j hj hne => by rw [List.getElem?_set_ne (by omega)]; exact gb.2 j hj hne⟩
   have hlN : H.length < H1.length := by omega
   have hlr : ir < H1.length := by omega
   by_cases hw0 : w.2.2 = 0
   ·have hd0 : decide (w.2.2 = 0) = true := decide_eq_true hw0
    simp only [if_pos hw0]
    have hG' := hG
    rcases hG with ⟨he, rfl⟩ | ⟨he, tok, _, rfl, _⟩
    all_goals simp only [B0,B1,B2,List.replicate,reduceCtorEq,lenA,seval,B5,pairK,B4,stays,loadOf,hl1,g0,g4,g6,g8,gW,o2,oN,hd0]
    all_goals refine hK hir ?_ ?_ (List.getElem?_set_self hlN) (hG'.set_obj oN _) (hbN _) ?_
    ·simp only [B3,seval,hl1,g4]
    ·simp only [B3,seval,hl1]
    ·rw [List.getElem?_set_ne (by omega)]; exact gir
    ·simp only [B3,seval,hl1,g4]
    ·simp only [B3,seval,hl1]
    ·rw [List.getElem?_set_ne (by omega)]; exact gir
   ·have hd0 : decide (w.2.2 = 0) = false := decide_eq_false hw0
    simp only [if_neg hw0]
    have hG' := hG
    have oN' : ∀ o', (H1.set ir o')[H.length]? = some (.obj none [[x, y]]) := fun o' => by rw [List.getElem?_set_ne (by omega)]; exact oN
    have o2' : ∀ o', (H1.set ir o')[H.length + 2]? = some (.obj none [[.im (.int .i64 w.1), v']]) := fun o' => by rw [List.getElem?_set_ne (by omega)]; exact o2
    have hbN' : ∀ o o', But H.length ir H ((H1.set ir o').set H.length o) := fun o o' => ⟨by have := gb.1; simpa using this, fun j hj hne => by rw [List.getElem?_set_ne (by omega), List.getElem?_set_ne (by omega)]; exact gb.2 j hj hne⟩
    cases hsg : signB s k' 41 with
    | true =>
     rw [hsg] at h70
     simp only [if_true] at h70 ⊢
     rcases hG with ⟨he, rfl⟩ | ⟨he, tok, _, rfl, _⟩
     all_goals simp only [B0,B1,B2,List.replicate,reduceCtorEq,lenA,seval,B5,pairK,B4,stays,loadOf,hl1,g0,g4,g6,g8,gW,o2,o2',oN',hd0,h70]
     all_goals refine hK hir ?_ ?_ (List.getElem?_set_self (by simp; omega)) ((hG'.set_obj gir _).set_obj (oN' _) _) (hbN' _ _) ?_
     ·simp only [B3,seval,hl1,g4]
     ·simp only [B3,seval,hl1]
     ·rw [List.getElem?_set_ne (by omega), List.getElem?_set_self hlr]
     ·simp only [B3,seval,hl1,g4]
     ·simp only [B3,seval,hl1]
     ·rw [List.getElem?_set_ne (by omega), List.getElem?_set_self hlr]
    | false =>
     rw [hsg] at h70
     simp only [Bool.false_eq_true,if_false] at h70 ⊢
     rcases hG with ⟨he, rfl⟩ | ⟨he, tok, _, rfl, _⟩
     all_goals simp only [B0,B1,B2,List.replicate,reduceCtorEq,lenA,seval,B5,pairK,B4,stays,loadOf,hl1,g0,g4,g6,g8,gW,o2,o2',oN',hd0,h70]
     all_goals refine hK hir ?_ ?_ (List.getElem?_set_self (by simp; omega)) ((hG'.set_obj gir _).set_obj (oN' _) _) (hbN' _ _) ?_
     ·simp only [B3,seval,hl1,g4]
     ·simp only [B3,seval,hl1]
     ·rw [List.getElem?_set_ne (by omega), List.getElem?_set_self hlr]
     ·simp only [B3,seval,hl1,g4]
     ·simp only [B3,seval,hl1]
     ·rw [List.getElem?_set_ne (by omega), List.getElem?_set_self hlr]
theorem s95 (s : List UInt8) (ir : Nat) (hs : s.length ≤ 9223372036854775807) : ∀ (d : Nat), d < 1000 → ∀ (k : Nat) (H : Heap), k ≤ s.length → H[ir]? = some (objR s k) →
  L 95 [.ptr ir 0 0, .im (.int .i64 ((d : Int) + 1))] H = some (.tup [.im (.agg (encT (readP s (d + 1) k).2.1)), .im (.bool (readP s (d + 1) k).2.2)], H.set ir (objR s (readP s (d + 1) k).1)) := by
 intro d
 induction d with
 | zero => exact fun _ k H hk ho => s95step s ir hs 0 (by omega) (fun h => absurd h (by omega)) k H hk ho
 | succ d ih => exact fun hd k H hk ho => s95step s ir hs (d + 1) hd (fun _ => ih (by omega)) k H hk ho
end Go.Abs.Seat
end
section
set_option linter.unusedVariables false
set_option linter.unusedSimpArgs false
namespace Go.Abs.Seat
open Go.Proofs
def parseP (s : List UInt8) : KT × Nat × Int :=
 if (readP s 6 0).2.2 = true ∧ ¬ (readP s 6 0).1 < s.length then ((readP s 6 0).2.1, 0, 0) else (zeroT, (readP s 6 0).1, 40)
theorem s67 (s : List UInt8) (hs : s.length ≤ 9223372036854775807) (H : Heap) : L 67 [.im (.str s)] H = some (.tup [.im (.agg (encT (parseP s).1)), .im (.int .i64 ((parseP s).2.1 : Int)), .im (.int .i64 (parseP s).2.2)], H) := by
 have h45 := s95 s (H.length + 1) hs 5 (by decide) 0 (H ++ [HO.obj none [[.im (.int .i64 0), .nils]], objR s 0]) (Nat.zero_le _) (by rw [hget]; rfl)
 rw [hset, show (((5 : Nat) : Int) + 1) = 6 from rfl] at h45
 simp only [List.set_cons_succ,List.set_cons_zero] at h45
 unfold parseP
 generalize readP s (5 + 1) 0 = q at h45 ⊢
 obtain ⟨p, t, ok⟩ := q
 obtain ⟨k', s', ts⟩ := t
 have z0 : ((0 : Nat) : Int) = 0 := rfl
 simp only [encT,objR,z0] at h45
 have hlv : ∀ (M : Heap) (a b : Int), leave H false (.tup [.im (.agg [.int .i64 k', .sl s' (encTs ts)]), .im (.int .i64 a), .im (.int .i64 b)]) (H ++ M) = (.tup [.im (.agg [.int .i64 k', .sl s' (encTs ts)]), .im (.int .i64 a), .im (.int .i64 b)], H) := fun M a b => leave_deg (by simp [degrade, degrade1, toDat]) (by simp [refsLt, refsLts])
 have hlz : ∀ (M : Heap) (a b : Int), leave H false (.tup [.agg [.im (.int .i64 0), .nils], .im (.int .i64 a), .im (.int .i64 b)]) (H ++ M) = (.tup [.im (.agg [.int .i64 0, .sl 0 []]), .im (.int .i64 a), .im (.int .i64 b)], H) := fun M a b => leave_deg (by simp [degrade, degrade1, toDat, toDats]) (by simp [refsLt, refsLts])
 rw [leq F67]
 obtain ⟨hlen, ha⟩ := enter_at (f := f67) (args := [.im (.str s)]) (Nat.le_of_ble_eq_true rfl)
 have h0 := ha 0 _ rfl
 generalize enterA f67 [.im (.str s)] = tm at *
 change tm.length = 32 at hlen
 have hne : (H.length + 1 = H.length) = False := by simp
 simp only
 cases ok with
 | true =>
  by_cases hp : p < s.length
  ·have hc : decide ((p : Int) < (s.length : Int)) = true := decide_eq_true (by omega)
   rw [if_neg (by simp [hp])]
   simp only [f67,zeroT,mkT,List.length_nil,if_true,encT,encTs,B0,B1,B2,List.replicate,reduceCtorEq,lenA,seval,B5,pairK,B4,stays,loadOf,endK,resA,tupA,hlen,h0,h45,hc,hlz]
  ·have hc : decide ((p : Int) < (s.length : Int)) = false := decide_eq_false (by omega)
   rw [if_pos (by simp [hp])]
   simp only [f67,encT,B0,B1,B2,List.replicate,reduceCtorEq,lenA,seval,B5,pairK,B4,stays,loadOf,endK,resA,tupA,hlen,h0,h45,hc,hlv,z0]
 | false =>
  rw [if_neg (by simp)]
  simp only [f67,zeroT,mkT,List.length_nil,if_true,encT,encTs,B0,B1,B2,List.replicate,reduceCtorEq,lenA,seval,B5,pairK,B4,stays,loadOf,endK,resA,tupA,hlen,h0,h45,hlz]
end Go.Abs.Seat
end
section
set_option linter.unusedVariables false
set_option linter.unusedSimpArgs false
namespace Go.Abs.Seat
open Go.Proofs
def one1 (last : Bool) (s : List UInt8 × Bool) : Int × (List UInt8 × Bool) := ((numV (partQ last s.1).1 3).getD 0, ((partQ last s.1).2.1, (s.2 || (partQ last s.1).2.2) || (numV (partQ last s.1).1 3).isNone))
def num1 (last : Bool) (s : List UInt8 × Bool) : Int × (List UInt8 × Bool) := ((numV (partQ last s.1).1 7).getD 0, ((partQ last s.1).2.1, (s.2 || (partQ last s.1).2.2) || (numV (partQ last s.1).1 7).isNone))
def pls (last none : Bool) (s : List UInt8 × Bool) : List Int × (List UInt8 × Bool) := ((placesQ last none s.1).1, ((placesQ last none s.1).2.1, s.2 || (placesQ last none s.1).2.2))
def prt (s : List UInt8 × Bool) : List UInt8 × (List UInt8 × Bool) := ((partQ false s.1).1, ((partQ false s.1).2.1, s.2 || (partQ false s.1).2.2))
theorem one1_len {last : Bool} {s : List UInt8 × Bool} {n : Nat} (h : s.1.length ≤ n) : (one1 last s).2.1.length ≤ n := Nat.le_trans (part_len last s.1).2 h
theorem num1_len {last : Bool} {s : List UInt8 × Bool} {n : Nat} (h : s.1.length ≤ n) : (num1 last s).2.1.length ≤ n := Nat.le_trans (part_len last s.1).2 h
theorem prt_len {s : List UInt8 × Bool} {n : Nat} (h : s.1.length ≤ n) : (prt s).2.1.length ≤ n := Nat.le_trans (part_len false s.1).2 h
theorem pls_len {last none : Bool} {s : List UInt8 × Bool} {n : Nat} (h : s.1.length ≤ n) : (pls last none s).2.1.length ≤ n := by
 unfold pls placesQ
 split
 ·exact Nat.le_trans (part_len last s.1).2 h
 ·exact Nat.le_trans (part_len last s.1).2 h
section
variable (H : Heap) (x : HO) (s : List UInt8 × Bool) (y : Heap) (hs : s.1.length ≤ 900000)
theorem q_get : (H ++ x :: objQ s.1 s.2 :: y)[H.length + 1]? = some (objQ s.1 s.2) := by rw [hget 1]; rfl
theorem q_set (z : HO) : (H ++ x :: objQ s.1 s.2 :: y).set (H.length + 1) z = H ++ x :: z :: y := by rw [hset 1]; rfl
include hs
theorem r68 (last : Bool) : L 68 [.ptr (H.length + 1) 0 0, .im (.bool last)] (H ++ x :: objQ s.1 s.2 :: y) = some (.im (.sl 1 [[.int .i64 (one1 last s).1]]), H ++ x :: objQ (one1 last s).2.1 (one1 last s).2.2 :: y) := by
 have h := s68 (H.length + 1) s.1 s.2 last (by omega) _ (q_get H x s y)
 rw [q_set] at h
 exact h
theorem r71 (last : Bool) : L 71 [.ptr (H.length + 1) 0 0, .im (.bool last)] (H ++ x :: objQ s.1 s.2 :: y) = some (.im (.int .i64 (num1 last s).1), H ++ x :: objQ (num1 last s).2.1 (num1 last s).2.2 :: y) := by
 have h := s71 (H.length + 1) s.1 s.2 last (by omega) _ (q_get H x s y)
 rw [q_set] at h
 exact h
theorem r69 (last none : Bool) : L 69 [.ptr (H.length + 1) 0 0, .im (.bool last), .im (.bool none)] (H ++ x :: objQ s.1 s.2 :: y) = some (.im (slI (pls last none s).1), H ++ x :: objQ (pls last none s).2.1 (pls last none s).2.2 :: y) := by
 have h := s69 (H.length + 1) s.1 s.2 last none (by omega) _ (q_get H x s y)
 rw [q_set] at h
 exact h
theorem r70 : L 70 [.ptr (H.length + 1) 0 0] (H ++ x :: objQ s.1 s.2 :: y) = some (.im (.str s.1), H ++ x :: objQ s.1 (s.2 || !textB s.1) :: y) := by
 have h := s70 (H.length + 1) s.1 s.2 (by omega) _ (q_get H x s y)
 rw [q_set] at h
 exact h
theorem r72 : L 72 [.ptr (H.length + 1) 0 0, .im (.bool false)] (H ++ x :: objQ s.1 s.2 :: y) = some (.im (.str (prt s).1), H ++ x :: objQ (prt s).2.1 (prt s).2.2 :: y) := by
 have h := s72 (H.length + 1) s.1 s.2 false (by omega) _ (q_get H x s y)
 rw [q_set] at h
 exact h
end
def zG : GN := ⟨0, [], 0, [], 0, [], zeroT, 0, 0, 0, 0, 0, 0, 0, false⟩
def slN (l : List Int) : Nat := if rowsI l = [] then 0 else 1
theorem slI_eq (l : List Int) : slI l = .sl (slN l) (rowsI l) := rfl
def wSource : List UInt8 := [115, 111, 117, 114, 99, 101]
def wEach : List UInt8 := [101, 97, 99, 104]
def wWindow : List UInt8 := [119, 105, 110, 100, 111, 119]
def wGroup : List UInt8 := [103, 114, 111, 117, 112]
def wFlatten : List UInt8 := [102, 108, 97, 116, 116, 101, 110]
def wSink : List UInt8 := [115, 105, 110, 107]
def rdSource (s : List UInt8 × Bool) : GN × Bool := ({ zG with op := 1, ty := (parseP s.1).1 }, !(s.2 || !decide ((parseP s.1).2.2 = 0)))
def rdEach (s : List UInt8 × Bool) : GN × Bool :=
 ({ zG with op := 2, ins := [(one1 false s).1], si := 1, side := (pls false true (one1 false s).2).1, ss := slN (pls false true (one1 false s).2).1, txt := (pls false true (one1 false s).2).2.1 }, !((pls false true (one1 false s).2).2.2 || !textB (pls false true (one1 false s).2).2.1))
def n4 (s : List UInt8 × Bool) : List UInt8 × Bool := (num1 false s).2
def rdWindow (s : List UInt8 × Bool) : GN × Bool :=
 ({ zG with op := 3, ins := [(one1 false s).1], si := 1, fk := (num1 false (one1 false s).2).1, fs := (num1 false (n4 (one1 false s).2)).1, fp := (num1 false (n4 (n4 (one1 false s).2))).1, fo := (num1 true (n4 (n4 (n4 (one1 false s).2)))).1 }, !(num1 true (n4 (n4 (n4 (one1 false s).2)))).2.2)
def hw3 (s : List UInt8 × Bool) : List UInt8 × (List UInt8 × Bool) := prt (n4 (n4 (n4 (one1 false s).2)))
def rdGroup (s : List UInt8 × Bool) : GN × Bool :=
 ({ zG with op := 4, ins := [(one1 false s).1], si := 1, te := (num1 false (one1 false s).2).1, tl := (num1 false (n4 (one1 false s).2)).1, tt := (num1 false (n4 (n4 (one1 false s).2))).1, acc := decide ((hw3 s).1 = [97, 99, 99]), txt := (hw3 s).2.1 }, !(((hw3 s).2.2 || (!decide ((hw3 s).1 = [97, 99, 99]) && !decide ((hw3 s).1 = [100, 105, 115]))) || !textB (hw3 s).2.1))
def rdFlatten (s : List UInt8 × Bool) : GN × Bool := ({ zG with op := 5, ins := (pls true false s).1, si := slN (pls true false s).1 }, !(pls true false s).2.2)
def rdSink (s : List UInt8 × Bool) : GN × Bool := ({ zG with op := 6, ins := [(one1 true s).1], si := 1 }, !(one1 true s).2.2)
def readW (w : List UInt8) (s : List UInt8 × Bool) : GN × Bool :=
 if w = wSource then rdSource s else
 if w = wEach then rdEach s else
 if w = wWindow then rdWindow s else
 if w = wGroup then rdGroup s else
 if w = wFlatten then rdFlatten s else
 if w = wSink then rdSink s else
 (zG, false)
def readG (line : List UInt8) : GN × Bool := readW (cutB 32 line).1 ((cutB 32 line).2.1, !(cutB 32 line).2.2)
theorem leave_read {H M : Heap} {a : AV} {b : Bool} {d : Dat} (ha : toDat a = some d) : leave H false (.tup [a, .im (.bool b)]) (H ++ M) = (.tup [.im d, .im (.bool b)], H) := leave_two ha rfl
set_option maxHeartbeats 1000000 in
theorem s40_Source (line : List UInt8) (hs : line.length ≤ 900000) (hw : (cutB 32 line).1 = wSource) (H : Heap) : L 40 [.im (.str line)] H = some (.tup [.im (.agg (encG (rdSource ((cutB 32 line).2.1, !(cutB 32 line).2.2)).1)), .im (.bool (rdSource ((cutB 32 line).2.1, !(cutB 32 line).2.2)).2)], H) := by
 have c39 := fun H => s39 line 32 (by omega) H
 have hcl := cut_len 32 line
 have dSource : decide (wSource = [115, 111, 117, 114, 99, 101]) = true := by decide
 generalize cutB 32 line = q at *
 obtain ⟨q1, q2, q3⟩ := q
 simp only at hw hcl c39 ⊢
 subst hw
 obtain ⟨b0, hb0⟩ : ∃ b0, (!q3) = b0 := ⟨_, rfl⟩
 rw [hb0]
 have hsl : (q2, b0).1.length ≤ 900000 := by simp only; omega
 have hx0 : ∃ x0, x0 = HO.obj none [[.im (.int .i64 0), .nils, .nils, .im (.str []), .im (.int .i64 0), .nils, .im (.int .i64 0), .im (.int .i64 0), .im (.int .i64 0), .im (.int .i64 0), .im (.int .i64 0), .im (.int .i64 0), .im (.int .i64 0), .im (.bool false)]] := ⟨_, rfl⟩
 obtain ⟨x0, hx0⟩ := hx0
 have c67 := fun H => s67 q2 (by simp only at hsl; omega) H
 simp only [encT_eq] at c67
 have hlv : ∀ (b : Bool) M, leave H false (.tup [.agg [.im (.int .i64 1), .nils, .nils, .im (.str []), .im (.int .i64 (parseP q2).1.k), .im (.sl (parseP q2).1.s (encTs (parseP q2).1.args)), .im (.int .i64 0), .im (.int .i64 0), .im (.int .i64 0), .im (.int .i64 0), .im (.int .i64 0), .im (.int .i64 0), .im (.int .i64 0), .im (.bool false)], .im (.bool b)]) (H ++ M) = (.tup [.im (.agg (encG (rdSource (q2, b0)).1)), .im (.bool b)], H) := fun b M => leave_read (by simp only [toDat,toDats]; rfl)
 rw [leq F40]
 obtain ⟨hlen, hx⟩ := enter_at (f := f40) (args := [.im (.str line)]) (Nat.le_of_ble_eq_true rfl)
 have h0 := hx 0 _ rfl
 generalize enterA f40 [.im (.str line)] = tm at *
 change tm.length = 124 at hlen
 have hr2 : (rdSource (q2, b0)).2 = !(b0 || !decide ((parseP q2).2.2 = 0)) := rfl
 rw [hr2]
 generalize (parseP q2).2.2 = en at *
 cases he : decide (en = 0) <;> cases b0 <;>
  simp only [f40,B0,B1,B2,List.replicate,reduceCtorEq,lenA,seval,B5,pairK,B4,stays,loadOf,endK,resA,tupA,hlen,h0,c39,c67,hb0,dSource,he,hlv,Bool.or_self,Bool.or_true,Bool.true_or,Bool.or_false,Bool.false_or,Bool.not_true,Bool.not_false]
set_option maxHeartbeats 1000000 in
theorem s40_Each (line : List UInt8) (hs : line.length ≤ 900000) (hw : (cutB 32 line).1 = wEach) (H : Heap) : L 40 [.im (.str line)] H = some (.tup [.im (.agg (encG (rdEach ((cutB 32 line).2.1, !(cutB 32 line).2.2)).1)), .im (.bool (rdEach ((cutB 32 line).2.1, !(cutB 32 line).2.2)).2)], H) := by
 have c39 := fun H => s39 line 32 (by omega) H
 have hcl := cut_len 32 line
 have dSource : decide (wEach = [115, 111, 117, 114, 99, 101]) = false := by decide
 have dEach : decide (wEach = [101, 97, 99, 104]) = true := by decide
 generalize cutB 32 line = q at *
 obtain ⟨q1, q2, q3⟩ := q
 simp only at hw hcl c39 ⊢
 subst hw
 obtain ⟨b0, hb0⟩ : ∃ b0, (!q3) = b0 := ⟨_, rfl⟩
 rw [hb0]
 have hsl : (q2, b0).1.length ≤ 900000 := by simp only; omega
 have hx0 : ∃ x0, x0 = HO.obj none [[.im (.int .i64 0), .nils, .nils, .im (.str []), .im (.int .i64 0), .nils, .im (.int .i64 0), .im (.int .i64 0), .im (.int .i64 0), .im (.int .i64 0), .im (.int .i64 0), .im (.int .i64 0), .im (.int .i64 0), .im (.bool false)]] := ⟨_, rfl⟩
 obtain ⟨x0, hx0⟩ := hx0
 have f0 := fun y => r68 H x0 (q2, b0) y hsl false
 have f1 := fun y => r69 H x0 (one1 false (q2, b0)).2 y (one1_len hsl) false true
 have f2 := fun y => r70 H x0 (pls false true (one1 false (q2, b0)).2).2 y (pls_len (one1_len hsl))
 simp only [objQ,hx0,slI_eq] at f0 f1 f2
 have hlv : ∀ (b : Bool) M, leave H false (.tup [.agg [.im (.int .i64 2), .im (.sl 1 [[.int .i64 (one1 false (q2, b0)).1]]), .im (.sl (slN (pls false true (one1 false (q2, b0)).2).1) (rowsI (pls false true (one1 false (q2, b0)).2).1)), .im (.str (pls false true (one1 false (q2, b0)).2).2.1), .im (.int .i64 0), .nils, .im (.int .i64 0), .im (.int .i64 0), .im (.int .i64 0), .im (.int .i64 0), .im (.int .i64 0), .im (.int .i64 0), .im (.int .i64 0), .im (.bool false)], .im (.bool b)]) (H ++ M) = (.tup [.im (.agg (encG (rdEach (q2, b0)).1)), .im (.bool b)], H) := fun b M => leave_read (by simp only [toDat,toDats]; rfl)
 rw [leq F40]
 obtain ⟨hlen, hx⟩ := enter_at (f := f40) (args := [.im (.str line)]) (Nat.le_of_ble_eq_true rfl)
 have h0 := hx 0 _ rfl
 generalize enterA f40 [.im (.str line)] = tm at *
 change tm.length = 124 at hlen
 have hr2 : (rdEach (q2, b0)).2 = !((pls false true (one1 false (q2, b0)).2).2.2 || !textB (pls false true (one1 false (q2, b0)).2).2.1) := rfl
 rw [hr2]
 simp only [f40,B0,B1,B2,List.replicate,reduceCtorEq,lenA,seval,B5,pairK,B4,stays,loadOf,endK,resA,tupA,hlen,h0,c39,hb0,f0,f1,f2,dSource,dEach,hlv]
set_option maxHeartbeats 1000000 in
theorem s40_Window (line : List UInt8) (hs : line.length ≤ 900000) (hw : (cutB 32 line).1 = wWindow) (H : Heap) : L 40 [.im (.str line)] H = some (.tup [.im (.agg (encG (rdWindow ((cutB 32 line).2.1, !(cutB 32 line).2.2)).1)), .im (.bool (rdWindow ((cutB 32 line).2.1, !(cutB 32 line).2.2)).2)], H) := by
 have c39 := fun H => s39 line 32 (by omega) H
 have hcl := cut_len 32 line
 have dSource : decide (wWindow = [115, 111, 117, 114, 99, 101]) = false := by decide
 have dEach : decide (wWindow = [101, 97, 99, 104]) = false := by decide
 have dWindow : decide (wWindow = [119, 105, 110, 100, 111, 119]) = true := by decide
 generalize cutB 32 line = q at *
 obtain ⟨q1, q2, q3⟩ := q
 simp only at hw hcl c39 ⊢
 subst hw
 obtain ⟨b0, hb0⟩ : ∃ b0, (!q3) = b0 := ⟨_, rfl⟩
 rw [hb0]
 have hsl : (q2, b0).1.length ≤ 900000 := by simp only; omega
 have hx0 : ∃ x0, x0 = HO.obj none [[.im (.int .i64 0), .nils, .nils, .im (.str []), .im (.int .i64 0), .nils, .im (.int .i64 0), .im (.int .i64 0), .im (.int .i64 0), .im (.int .i64 0), .im (.int .i64 0), .im (.int .i64 0), .im (.int .i64 0), .im (.bool false)]] := ⟨_, rfl⟩
 obtain ⟨x0, hx0⟩ := hx0
 have f0 := fun y => r68 H x0 (q2, b0) y hsl false
 have f1 := fun y => r71 H x0 (one1 false (q2, b0)).2 y (one1_len hsl) false
 have f2 := fun y => r71 H x0 (num1 false (one1 false (q2, b0)).2).2 y (num1_len (one1_len hsl)) false
 have f3 := fun y => r71 H x0 (num1 false (num1 false (one1 false (q2, b0)).2).2).2 y (num1_len (num1_len (one1_len hsl))) false
 have f4 := fun y => r71 H x0 (num1 false (num1 false (num1 false (one1 false (q2, b0)).2).2).2).2 y (num1_len (num1_len (num1_len (one1_len hsl)))) true
 simp only [objQ,hx0,slI_eq] at f0 f1 f2 f3 f4
 have hlv : ∀ (b : Bool) M, leave H false (.tup [.agg [.im (.int .i64 3), .im (.sl 1 [[.int .i64 (one1 false (q2, b0)).1]]), .nils, .im (.str []), .im (.int .i64 0), .nils, .im (.int .i64 (num1 false (one1 false (q2, b0)).2).1), .im (.int .i64 (num1 false (num1 false (one1 false (q2, b0)).2).2).1), .im (.int .i64 (num1 false (num1 false (num1 false (one1 false (q2, b0)).2).2).2).1), .im (.int .i64 (num1 true (num1 false (num1 false (num1 false (one1 false (q2, b0)).2).2).2).2).1), .im (.int .i64 0), .im (.int .i64 0), .im (.int .i64 0), .im (.bool false)], .im (.bool b)]) (H ++ M) = (.tup [.im (.agg (encG (rdWindow (q2, b0)).1)), .im (.bool b)], H) := fun b M => leave_read (by simp only [toDat,toDats]; rfl)
 rw [leq F40]
 obtain ⟨hlen, hx⟩ := enter_at (f := f40) (args := [.im (.str line)]) (Nat.le_of_ble_eq_true rfl)
 have h0 := hx 0 _ rfl
 generalize enterA f40 [.im (.str line)] = tm at *
 change tm.length = 124 at hlen
 have hr2 : (rdWindow (q2, b0)).2 = !(num1 true (num1 false (num1 false (num1 false (one1 false (q2, b0)).2).2).2).2).2.2 := rfl
 rw [hr2]
 simp only [f40,B0,B1,B2,List.replicate,reduceCtorEq,lenA,seval,B5,pairK,B4,stays,loadOf,endK,resA,tupA,hlen,h0,c39,hb0,f0,f1,f2,f3,f4,dSource,dEach,dWindow,hlv]
set_option maxHeartbeats 1000000 in
theorem s40_Group (line : List UInt8) (hs : line.length ≤ 900000) (hw : (cutB 32 line).1 = wGroup) (H : Heap) : L 40 [.im (.str line)] H = some (.tup [.im (.agg (encG (rdGroup ((cutB 32 line).2.1, !(cutB 32 line).2.2)).1)), .im (.bool (rdGroup ((cutB 32 line).2.1, !(cutB 32 line).2.2)).2)], H) := by
 have c39 := fun H => s39 line 32 (by omega) H
 have hcl := cut_len 32 line
 have dSource : decide (wGroup = [115, 111, 117, 114, 99, 101]) = false := by decide
 have dEach : decide (wGroup = [101, 97, 99, 104]) = false := by decide
 have dWindow : decide (wGroup = [119, 105, 110, 100, 111, 119]) = false := by decide
 have dGroup : decide (wGroup = [103, 114, 111, 117, 112]) = true := by decide
 generalize cutB 32 line = q at *
 obtain ⟨q1, q2, q3⟩ := q
 simp only at hw hcl c39 ⊢
 subst hw
 obtain ⟨b0, hb0⟩ : ∃ b0, (!q3) = b0 := ⟨_, rfl⟩
 rw [hb0]
 have hsl : (q2, b0).1.length ≤ 900000 := by simp only; omega
 have hx0 : ∃ x0, x0 = HO.obj none [[.im (.int .i64 0), .nils, .nils, .im (.str []), .im (.int .i64 0), .nils, .im (.int .i64 0), .im (.int .i64 0), .im (.int .i64 0), .im (.int .i64 0), .im (.int .i64 0), .im (.int .i64 0), .im (.int .i64 0), .im (.bool false)]] := ⟨_, rfl⟩
 obtain ⟨x0, hx0⟩ := hx0
 have f0 := fun y => r68 H x0 (q2, b0) y hsl false
 have f1 := fun y => r71 H x0 (one1 false (q2, b0)).2 y (one1_len hsl) false
 have f2 := fun y => r71 H x0 (num1 false (one1 false (q2, b0)).2).2 y (num1_len (one1_len hsl)) false
 have f3 := fun y => r71 H x0 (num1 false (num1 false (one1 false (q2, b0)).2).2).2 y (num1_len (num1_len (one1_len hsl))) false
 have f4 := fun y => r72 H x0 (num1 false (num1 false (num1 false (one1 false (q2, b0)).2).2).2).2 y (num1_len (num1_len (num1_len (one1_len hsl))))
 have f5 := fun (b : Bool) y => r70 H x0 ((prt (num1 false (num1 false (num1 false (one1 false (q2, b0)).2).2).2).2).2.1, b) y (prt_len (num1_len (num1_len (num1_len (one1_len hsl)))))
 simp only [objQ,hx0] at f0 f1 f2 f3 f4 f5
 have hr : rdGroup (q2, b0) = ({ zG with op := 4, ins := [(one1 false (q2, b0)).1], si := 1, te := (num1 false (one1 false (q2, b0)).2).1, tl := (num1 false (num1 false (one1 false (q2, b0)).2).2).1, tt := (num1 false (num1 false (num1 false (one1 false (q2, b0)).2).2).2).1, acc := decide ((prt (num1 false (num1 false (num1 false (one1 false (q2, b0)).2).2).2).2).1 = [97, 99, 99]), txt := (prt (num1 false (num1 false (num1 false (one1 false (q2, b0)).2).2).2).2).2.1 }, !(((prt (num1 false (num1 false (num1 false (one1 false (q2, b0)).2).2).2).2).2.2 || (!decide ((prt (num1 false (num1 false (num1 false (one1 false (q2, b0)).2).2).2).2).1 = [97, 99, 99]) && !decide ((prt (num1 false (num1 false (num1 false (one1 false (q2, b0)).2).2).2).2).1 = [100, 105, 115]))) || !textB (prt (num1 false (num1 false (num1 false (one1 false (q2, b0)).2).2).2).2).2.1)) := rfl
 rw [hr]
 generalize prt (num1 false (num1 false (num1 false (one1 false (q2, b0)).2).2).2).2 = p at *
 obtain ⟨p1, p2, p3⟩ := p
 simp only at f4 f5 ⊢
 generalize hza : decide (p1 = [97, 99, 99]) = za at *
 generalize hzd : decide (p1 = [100, 105, 115]) = zd at *
 have hlv : ∀ (b : Bool) M, leave H false (.tup [.agg [.im (.int .i64 4), .im (.sl 1 [[.int .i64 (one1 false (q2, b0)).1]]), .nils, .im (.str p2), .im (.int .i64 0), .nils, .im (.int .i64 0), .im (.int .i64 0), .im (.int .i64 0), .im (.int .i64 0), .im (.int .i64 (num1 false (one1 false (q2, b0)).2).1), .im (.int .i64 (num1 false (num1 false (one1 false (q2, b0)).2).2).1), .im (.int .i64 (num1 false (num1 false (num1 false (one1 false (q2, b0)).2).2).2).1), .im (.bool za)], .im (.bool b)]) (H ++ M) = (.tup [.im (.agg (encG { zG with op := 4, ins := [(one1 false (q2, b0)).1], si := 1, te := (num1 false (one1 false (q2, b0)).2).1, tl := (num1 false (num1 false (one1 false (q2, b0)).2).2).1, tt := (num1 false (num1 false (num1 false (one1 false (q2, b0)).2).2).2).1, acc := za, txt := p2 })), .im (.bool b)], H) := fun b M => leave_read (by simp only [toDat,toDats]; rfl)
 rw [leq F40]
 obtain ⟨hlen, hx⟩ := enter_at (f := f40) (args := [.im (.str line)]) (Nat.le_of_ble_eq_true rfl)
 have h0 := hx 0 _ rfl
 generalize enterA f40 [.im (.str line)] = tm at *
 change tm.length = 124 at hlen
 cases za <;> cases zd <;> cases p3 <;>
  simp only [f40,B0,B1,B2,List.replicate,reduceCtorEq,lenA,seval,B5,pairK,B4,stays,loadOf,endK,resA,tupA,hlen,h0,c39,hb0,f0,f1,f2,f3,f4,f5,hza,hzd,dSource,dEach,dWindow,dGroup,hlv,Bool.or_self,Bool.or_true,Bool.true_or,Bool.or_false,Bool.false_or,Bool.not_true,Bool.not_false,Bool.and_self,Bool.and_true,Bool.true_and,Bool.and_false,Bool.false_and]
set_option maxHeartbeats 1000000 in
theorem s40_Flatten (line : List UInt8) (hs : line.length ≤ 900000) (hw : (cutB 32 line).1 = wFlatten) (H : Heap) : L 40 [.im (.str line)] H = some (.tup [.im (.agg (encG (rdFlatten ((cutB 32 line).2.1, !(cutB 32 line).2.2)).1)), .im (.bool (rdFlatten ((cutB 32 line).2.1, !(cutB 32 line).2.2)).2)], H) := by
 have c39 := fun H => s39 line 32 (by omega) H
 have hcl := cut_len 32 line
 have dSource : decide (wFlatten = [115, 111, 117, 114, 99, 101]) = false := by decide
 have dEach : decide (wFlatten = [101, 97, 99, 104]) = false := by decide
 have dWindow : decide (wFlatten = [119, 105, 110, 100, 111, 119]) = false := by decide
 have dGroup : decide (wFlatten = [103, 114, 111, 117, 112]) = false := by decide
 have dFlatten : decide (wFlatten = [102, 108, 97, 116, 116, 101, 110]) = true := by decide
 generalize cutB 32 line = q at *
 obtain ⟨q1, q2, q3⟩ := q
 simp only at hw hcl c39 ⊢
 subst hw
 obtain ⟨b0, hb0⟩ : ∃ b0, (!q3) = b0 := ⟨_, rfl⟩
 rw [hb0]
 have hsl : (q2, b0).1.length ≤ 900000 := by simp only; omega
 have hx0 : ∃ x0, x0 = HO.obj none [[.im (.int .i64 0), .nils, .nils, .im (.str []), .im (.int .i64 0), .nils, .im (.int .i64 0), .im (.int .i64 0), .im (.int .i64 0), .im (.int .i64 0), .im (.int .i64 0), .im (.int .i64 0), .im (.int .i64 0), .im (.bool false)]] := ⟨_, rfl⟩
 obtain ⟨x0, hx0⟩ := hx0
 have f0 := fun y => r69 H x0 (q2, b0) y hsl true false
 simp only [objQ,hx0,slI_eq] at f0
 have hlv : ∀ (b : Bool) M, leave H false (.tup [.agg [.im (.int .i64 5), .im (.sl (slN (pls true false (q2, b0)).1) (rowsI (pls true false (q2, b0)).1)), .nils, .im (.str []), .im (.int .i64 0), .nils, .im (.int .i64 0), .im (.int .i64 0), .im (.int .i64 0), .im (.int .i64 0), .im (.int .i64 0), .im (.int .i64 0), .im (.int .i64 0), .im (.bool false)], .im (.bool b)]) (H ++ M) = (.tup [.im (.agg (encG (rdFlatten (q2, b0)).1)), .im (.bool b)], H) := fun b M => leave_read (by simp only [toDat,toDats]; rfl)
 rw [leq F40]
 obtain ⟨hlen, hx⟩ := enter_at (f := f40) (args := [.im (.str line)]) (Nat.le_of_ble_eq_true rfl)
 have h0 := hx 0 _ rfl
 generalize enterA f40 [.im (.str line)] = tm at *
 change tm.length = 124 at hlen
 have hr2 : (rdFlatten (q2, b0)).2 = !(pls true false (q2, b0)).2.2 := rfl
 rw [hr2]
 simp only [f40,B0,B1,B2,List.replicate,reduceCtorEq,lenA,seval,B5,pairK,B4,stays,loadOf,endK,resA,tupA,hlen,h0,c39,hb0,f0,dSource,dEach,dWindow,dGroup,dFlatten,hlv]
set_option maxHeartbeats 1000000 in
theorem s40_Sink (line : List UInt8) (hs : line.length ≤ 900000) (hw : (cutB 32 line).1 = wSink) (H : Heap) : L 40 [.im (.str line)] H = some (.tup [.im (.agg (encG (rdSink ((cutB 32 line).2.1, !(cutB 32 line).2.2)).1)), .im (.bool (rdSink ((cutB 32 line).2.1, !(cutB 32 line).2.2)).2)], H) := by
 have c39 := fun H => s39 line 32 (by omega) H
 have hcl := cut_len 32 line
 have dSource : decide (wSink = [115, 111, 117, 114, 99, 101]) = false := by decide
 have dEach : decide (wSink = [101, 97, 99, 104]) = false := by decide
 have dWindow : decide (wSink = [119, 105, 110, 100, 111, 119]) = false := by decide
 have dGroup : decide (wSink = [103, 114, 111, 117, 112]) = false := by decide
 have dFlatten : decide (wSink = [102, 108, 97, 116, 116, 101, 110]) = false := by decide
 have dSink : decide (wSink = [115, 105, 110, 107]) = true := by decide
 generalize cutB 32 line = q at *
 obtain ⟨q1, q2, q3⟩ := q
 simp only at hw hcl c39 ⊢
 subst hw
 obtain ⟨b0, hb0⟩ : ∃ b0, (!q3) = b0 := ⟨_, rfl⟩
 rw [hb0]
 have hsl : (q2, b0).1.length ≤ 900000 := by simp only; omega
 have hx0 : ∃ x0, x0 = HO.obj none [[.im (.int .i64 0), .nils, .nils, .im (.str []), .im (.int .i64 0), .nils, .im (.int .i64 0), .im (.int .i64 0), .im (.int .i64 0), .im (.int .i64 0), .im (.int .i64 0), .im (.int .i64 0), .im (.int .i64 0), .im (.bool false)]] := ⟨_, rfl⟩
 obtain ⟨x0, hx0⟩ := hx0
 have f0 := fun y => r68 H x0 (q2, b0) y hsl true
 simp only [objQ,hx0,slI_eq] at f0
 have hlv : ∀ (b : Bool) M, leave H false (.tup [.agg [.im (.int .i64 6), .im (.sl 1 [[.int .i64 (one1 true (q2, b0)).1]]), .nils, .im (.str []), .im (.int .i64 0), .nils, .im (.int .i64 0), .im (.int .i64 0), .im (.int .i64 0), .im (.int .i64 0), .im (.int .i64 0), .im (.int .i64 0), .im (.int .i64 0), .im (.bool false)], .im (.bool b)]) (H ++ M) = (.tup [.im (.agg (encG (rdSink (q2, b0)).1)), .im (.bool b)], H) := fun b M => leave_read (by simp only [toDat,toDats]; rfl)
 rw [leq F40]
 obtain ⟨hlen, hx⟩ := enter_at (f := f40) (args := [.im (.str line)]) (Nat.le_of_ble_eq_true rfl)
 have h0 := hx 0 _ rfl
 generalize enterA f40 [.im (.str line)] = tm at *
 change tm.length = 124 at hlen
 have hr2 : (rdSink (q2, b0)).2 = !(one1 true (q2, b0)).2.2 := rfl
 rw [hr2]
 simp only [f40,B0,B1,B2,List.replicate,reduceCtorEq,lenA,seval,B5,pairK,B4,stays,loadOf,endK,resA,tupA,hlen,h0,c39,hb0,f0,dSource,dEach,dWindow,dGroup,dFlatten,dSink,hlv]
theorem s40_none (line : List UInt8) (hs : line.length ≤ 900000) (hSource : (cutB 32 line).1 ≠ wSource) (hEach : (cutB 32 line).1 ≠ wEach) (hWindow : (cutB 32 line).1 ≠ wWindow) (hGroup : (cutB 32 line).1 ≠ wGroup) (hFlatten : (cutB 32 line).1 ≠ wFlatten) (hSink : (cutB 32 line).1 ≠ wSink) (H : Heap) : L 40 [.im (.str line)] H = some (.tup [.im (.agg (encG zG)), .im (.bool false)], H) := by
 have c39 := fun H => s39 line 32 (by omega) H
 generalize cutB 32 line = q at *
 obtain ⟨q1, q2, q3⟩ := q
 simp only at hSource hEach hWindow hGroup hFlatten hSink c39
 have dSource : decide (q1 = [115, 111, 117, 114, 99, 101]) = false := decide_eq_false hSource
 have dEach : decide (q1 = [101, 97, 99, 104]) = false := decide_eq_false hEach
 have dWindow : decide (q1 = [119, 105, 110, 100, 111, 119]) = false := decide_eq_false hWindow
 have dGroup : decide (q1 = [103, 114, 111, 117, 112]) = false := decide_eq_false hGroup
 have dFlatten : decide (q1 = [102, 108, 97, 116, 116, 101, 110]) = false := decide_eq_false hFlatten
 have dSink : decide (q1 = [115, 105, 110, 107]) = false := decide_eq_false hSink
 have hlv : ∀ (b : Bool) M, leave H false (.tup [.agg [.im (.int .i64 0), .nils, .nils, .im (.str []), .im (.int .i64 0), .nils, .im (.int .i64 0), .im (.int .i64 0), .im (.int .i64 0), .im (.int .i64 0), .im (.int .i64 0), .im (.int .i64 0), .im (.int .i64 0), .im (.bool false)], .im (.bool b)]) (H ++ M) = (.tup [.im (.agg (encG zG)), .im (.bool b)], H) := fun b M => leave_read (by simp only [toDat,toDats]; rfl)
 rw [leq F40]
 obtain ⟨hlen, hx⟩ := enter_at (f := f40) (args := [.im (.str line)]) (Nat.le_of_ble_eq_true rfl)
 have h0 := hx 0 _ rfl
 generalize enterA f40 [.im (.str line)] = tm at *
 change tm.length = 124 at hlen
 simp only [f40,B0,B1,B2,List.replicate,reduceCtorEq,lenA,seval,B5,pairK,B4,stays,loadOf,endK,resA,tupA,hlen,h0,c39,dSource,dEach,dWindow,dGroup,dFlatten,dSink,hlv]
theorem s40 (line : List UInt8) (hs : line.length ≤ 900000) (H : Heap) : L 40 [.im (.str line)] H = some (.tup [.im (.agg (encG (readG line).1)), .im (.bool (readG line).2)], H) := by
 unfold readG readW
 by_cases hSource : (cutB 32 line).1 = wSource
 ·rw [if_pos hSource]; exact s40_Source line hs hSource H
 rw [if_neg hSource]
 by_cases hEach : (cutB 32 line).1 = wEach
 ·rw [if_pos hEach]; exact s40_Each line hs hEach H
 rw [if_neg hEach]
 by_cases hWindow : (cutB 32 line).1 = wWindow
 ·rw [if_pos hWindow]; exact s40_Window line hs hWindow H
 rw [if_neg hWindow]
 by_cases hGroup : (cutB 32 line).1 = wGroup
 ·rw [if_pos hGroup]; exact s40_Group line hs hGroup H
 rw [if_neg hGroup]
 by_cases hFlatten : (cutB 32 line).1 = wFlatten
 ·rw [if_pos hFlatten]; exact s40_Flatten line hs hFlatten H
 rw [if_neg hFlatten]
 by_cases hSink : (cutB 32 line).1 = wSink
 ·rw [if_pos hSink]; exact s40_Sink line hs hSink H
 rw [if_neg hSink]
 exact s40_none line hs hSource hEach hWindow hGroup hFlatten hSink H
end Go.Abs.Seat
end
section
set_option linter.unusedVariables false
set_option linter.unusedSimpArgs false
namespace Go.Abs.Seat
open Go.Proofs
def In64 (n : Int) : Prop := -9223372036854775808 ≤ n ∧ n ≤ 9223372036854775807
structure LineOk (g : GN) : Prop where
 ok : GOk g
 il : g.ins.length ≤ 1000
 ir : ∀ k ∈ g.ins, In64 k
 sl : g.side.length ≤ 1000
 sr : ∀ k ∈ g.side, In64 k
 xl : g.txt.length ≤ 100000
 fk : In64 g.fk
 fs : In64 g.fs
 fp : In64 g.fp
 fo : In64 g.fo
 te : In64 g.te
 tl : In64 g.tl
 tt : In64 g.tt
 ty : g.op = 1 → rightT g.ty 6 = true
 op : 1 ≤ g.op ∧ g.op ≤ 6
def howG (b : Bool) : List UInt8 := if b = true then [97, 99, 99] else [100, 105, 115]
def partsG (g : GN) : List (List UInt8) :=
 if g.op = 1 then [wSource, showT g.ty]
 else if g.op = 2 then [wEach, commasL g.ins, commasL g.side, g.txt]
 else if g.op = 3 then [wWindow, commasL g.ins, itoaN g.fk, itoaN g.fs, itoaN g.fp, itoaN g.fo]
 else if g.op = 4 then [wGroup, commasL g.ins, itoaN g.te, itoaN g.tl, itoaN g.tt, howG g.acc, g.txt]
 else if g.op = 5 then [wFlatten, commasL g.ins]
 else [wSink, commasL g.ins]
def lineG (g : GN) : List UInt8 := Lib.join (partsG g) [32] ++ [10]
theorem join_le (l : List (List UInt8)) (h : ∀ x ∈ l, x.length ≤ 1000000) (hl : l.length ≤ 7) : (Lib.join l [32]).length ≤ 1000000000 := by
 have := join_len 32 1000000 l h
 have h2 : l.length * (1000000 + 1) ≤ 7 * (1000000 + 1) := Nat.mul_le_mul_right _ hl
 omega
theorem add_nl (x : List UInt8) (h : x.length ≤ 1000000000) : binA .add (.im (.str x)) (.im (.str [10])) = some (.im (.str (x ++ [10]))) := by
 have : x.length + 1 ≤ 4611686018427387904 := by omega
 simp [binA, binStr, this]
theorem s46_1 (g : GN) (h : LineOk g) (hop : g.op = 1) (H : Heap) : L 46 [.im (.agg (encG g))] H = some (.im (.str (lineG g)), H) := by
 have hpg : lineG g = Lib.join [[115, 111, 117, 114, 99, 101], showT g.ty] [32] ++ [10] := by
  unfold lineG partsG
  rw [if_pos hop]
  rfl
 have hc1 := commasL_len g.ins
 have hc2 := commasL_len g.side
 have hi := itoaN_len
 have hil := h.il
 have hsl := h.sl
 have hxl := h.xl
 have hsh := show_len g.ty 6 (h.ty hop)
 have hsh2 : (showT g.ty).length ≤ 409600 := hsh
 have hle := join_le [[115, 111, 117, 114, 99, 101], showT g.ty] (by
  intro x hx
  simp only [List.mem_cons,List.not_mem_nil,or_false] at hx
  rcases hx with rfl | rfl <;> first | (simp; done) | omega | (have := hi g.fk; omega) | (have := hi g.fs; omega) | (have := hi g.fp; omega) | (have := hi g.fo; omega) | (have := hi g.te; omega) | (have := hi g.tl; omega) | (have := hi g.tt; omega)) (by simp)
 have cj := fun J => c77 [[115, 111, 117, 114, 99, 101], showT g.ty] [32] (.im (.sl 1 [[.str [115, 111, 117, 114, 99, 101]], [.str (showT g.ty)]])) 1 rfl (by simp) hle J
 have hadd := add_nl _ hle
 rw [hpg]
 generalize Lib.join [[115, 111, 117, 114, 99, 101], showT g.ty] [32] = tx at *
 have c74 := fun J => s74 g.ins g.si h.ok.si (by omega) (fun k hk => h.ir k hk) J
 have c75 := fun J => s75 g.ty h.ok.ty J
 unfold checkT at c75
 rw [h.ty hop] at c75
 simp only [encT_eq,if_true] at c75
 have d1 : decide (g.op = 1) = true := decide_eq_true hop
 rw [leq F46]
 obtain ⟨hlen, hx⟩ := enter_at (f := f46) (args := [.im (.agg (encG g))]) (Nat.le_of_ble_eq_true rfl)
 have h0 := hx 0 _ rfl
 generalize enterA f46 [.im (.agg (encG g))] = tm at *
 have hE : encG g = [.int .i64 g.op, .sl g.si (rowsI g.ins), .sl g.ss (rowsI g.side), .str g.txt, .int .i64 g.ty.k, .sl g.ty.s (encTs g.ty.args), .int .i64 g.fk, .int .i64 g.fs, .int .i64 g.fp, .int .i64 g.fo, .int .i64 g.te, .int .i64 g.tl, .int .i64 g.tt, .bool g.acc] := rfl
 rw [hE] at h0
 change tm.length = 85 at hlen
 simp only [f46,B0,B1,B2,List.replicate,reduceCtorEq,lenA,seval,B5,pairK,B4,stays,loadOf,endK,resA,tupA,hlen,h0,c74,c75,d1,toDatss,toDats,toDat,cj,hadd,leave_app]
theorem s46_2 (g : GN) (h : LineOk g) (hop : g.op = 2) (H : Heap) : L 46 [.im (.agg (encG g))] H = some (.im (.str (lineG g)), H) := by
 have hpg : lineG g = Lib.join [[101, 97, 99, 104], commasL g.ins, commasL g.side, g.txt] [32] ++ [10] := by
  unfold lineG partsG
  rw [if_neg (by omega)]; rw [if_pos hop]
  rfl
 have hc1 := commasL_len g.ins
 have hc2 := commasL_len g.side
 have hi := itoaN_len
 have hil := h.il
 have hsl := h.sl
 have hxl := h.xl
 have hle := join_le [[101, 97, 99, 104], commasL g.ins, commasL g.side, g.txt] (by
  intro x hx
  simp only [List.mem_cons,List.not_mem_nil,or_false] at hx
  rcases hx with rfl | rfl | rfl | rfl <;> first | (simp; done) | omega | (have := hi g.fk; omega) | (have := hi g.fs; omega) | (have := hi g.fp; omega) | (have := hi g.fo; omega) | (have := hi g.te; omega) | (have := hi g.tl; omega) | (have := hi g.tt; omega)) (by simp)
 have cj := fun J => c77 [[101, 97, 99, 104], commasL g.ins, commasL g.side, g.txt] [32] (.im (.sl 1 [[.str [101, 97, 99, 104]], [.str (commasL g.ins)], [.str (commasL g.side)], [.str g.txt]])) 1 rfl (by simp) hle J
 have hadd := add_nl _ hle
 rw [hpg]
 generalize Lib.join [[101, 97, 99, 104], commasL g.ins, commasL g.side, g.txt] [32] = tx at *
 have c74 := fun J => s74 g.ins g.si h.ok.si (by omega) (fun k hk => h.ir k hk) J
 have c74b := fun J => s74 g.side g.ss h.ok.ss (by omega) (fun k hk => h.sr k hk) J
 have d1 : decide (g.op = 1) = false := decide_eq_false (by omega)
 have d2 : decide (g.op = 2) = true := decide_eq_true hop
 rw [leq F46]
 obtain ⟨hlen, hx⟩ := enter_at (f := f46) (args := [.im (.agg (encG g))]) (Nat.le_of_ble_eq_true rfl)
 have h0 := hx 0 _ rfl
 generalize enterA f46 [.im (.agg (encG g))] = tm at *
 have hE : encG g = [.int .i64 g.op, .sl g.si (rowsI g.ins), .sl g.ss (rowsI g.side), .str g.txt, .int .i64 g.ty.k, .sl g.ty.s (encTs g.ty.args), .int .i64 g.fk, .int .i64 g.fs, .int .i64 g.fp, .int .i64 g.fo, .int .i64 g.te, .int .i64 g.tl, .int .i64 g.tt, .bool g.acc] := rfl
 rw [hE] at h0
 change tm.length = 85 at hlen
 simp only [f46,B0,B1,B2,List.replicate,reduceCtorEq,lenA,seval,B5,pairK,B4,stays,loadOf,endK,resA,tupA,hlen,h0,c74,c74b,d1,d2,toDatss,toDats,toDat,cj,hadd,leave_app]
theorem s46_3 (g : GN) (h : LineOk g) (hop : g.op = 3) (H : Heap) : L 46 [.im (.agg (encG g))] H = some (.im (.str (lineG g)), H) := by
 have hpg : lineG g = Lib.join [[119, 105, 110, 100, 111, 119], commasL g.ins, itoaN g.fk, itoaN g.fs, itoaN g.fp, itoaN g.fo] [32] ++ [10] := by
  unfold lineG partsG
  rw [if_neg (by omega)]; rw [if_neg (by omega)]; rw [if_pos hop]
  rfl
 have hc1 := commasL_len g.ins
 have hc2 := commasL_len g.side
 have hi := itoaN_len
 have hil := h.il
 have hsl := h.sl
 have hxl := h.xl
 have hle := join_le [[119, 105, 110, 100, 111, 119], commasL g.ins, itoaN g.fk, itoaN g.fs, itoaN g.fp, itoaN g.fo] (by
  intro x hx
  simp only [List.mem_cons,List.not_mem_nil,or_false] at hx
  rcases hx with rfl | rfl | rfl | rfl | rfl | rfl <;> first | (simp; done) | omega | (have := hi g.fk; omega) | (have := hi g.fs; omega) | (have := hi g.fp; omega) | (have := hi g.fo; omega) | (have := hi g.te; omega) | (have := hi g.tl; omega) | (have := hi g.tt; omega)) (by simp)
 have cj := fun J => c77 [[119, 105, 110, 100, 111, 119], commasL g.ins, itoaN g.fk, itoaN g.fs, itoaN g.fp, itoaN g.fo] [32] (.im (.sl 1 [[.str [119, 105, 110, 100, 111, 119]], [.str (commasL g.ins)], [.str (itoaN g.fk)], [.str (itoaN g.fs)], [.str (itoaN g.fp)], [.str (itoaN g.fo)]])) 1 rfl (by simp) hle J
 have hadd := add_nl _ hle
 rw [hpg]
 generalize Lib.join [[119, 105, 110, 100, 111, 119], commasL g.ins, itoaN g.fk, itoaN g.fs, itoaN g.fp, itoaN g.fo] [32] = tx at *
 have c74 := fun J => s74 g.ins g.si h.ok.si (by omega) (fun k hk => h.ir k hk) J
 have ifk := fun J => c76 g.fk h.fk.1 h.fk.2 J
 have ifs := fun J => c76 g.fs h.fs.1 h.fs.2 J
 have ifp := fun J => c76 g.fp h.fp.1 h.fp.2 J
 have ifo := fun J => c76 g.fo h.fo.1 h.fo.2 J
 have d1 : decide (g.op = 1) = false := decide_eq_false (by omega)
 have d2 : decide (g.op = 2) = false := decide_eq_false (by omega)
 have d3 : decide (g.op = 3) = true := decide_eq_true hop
 rw [leq F46]
 obtain ⟨hlen, hx⟩ := enter_at (f := f46) (args := [.im (.agg (encG g))]) (Nat.le_of_ble_eq_true rfl)
 have h0 := hx 0 _ rfl
 generalize enterA f46 [.im (.agg (encG g))] = tm at *
 have hE : encG g = [.int .i64 g.op, .sl g.si (rowsI g.ins), .sl g.ss (rowsI g.side), .str g.txt, .int .i64 g.ty.k, .sl g.ty.s (encTs g.ty.args), .int .i64 g.fk, .int .i64 g.fs, .int .i64 g.fp, .int .i64 g.fo, .int .i64 g.te, .int .i64 g.tl, .int .i64 g.tt, .bool g.acc] := rfl
 rw [hE] at h0
 change tm.length = 85 at hlen
 simp only [f46,B0,B1,B2,List.replicate,reduceCtorEq,lenA,seval,B5,pairK,B4,stays,loadOf,endK,resA,tupA,hlen,h0,c74,ifk,ifs,ifp,ifo,d1,d2,d3,toDatss,toDats,toDat,cj,hadd,leave_app]
theorem s46_4a (g : GN) (h : LineOk g) (hop : g.op = 4) (ha : g.acc = true) (H : Heap) : L 46 [.im (.agg (encG g))] H = some (.im (.str (lineG g)), H) := by
 have hpg : lineG g = Lib.join [[103, 114, 111, 117, 112], commasL g.ins, itoaN g.te, itoaN g.tl, itoaN g.tt, [97, 99, 99], g.txt] [32] ++ [10] := by
  unfold lineG partsG
  rw [if_neg (by omega)]; rw [if_neg (by omega)]; rw [if_neg (by omega)]; rw [if_pos hop]
  rw [ha]; rfl
 have hc1 := commasL_len g.ins
 have hc2 := commasL_len g.side
 have hi := itoaN_len
 have hil := h.il
 have hsl := h.sl
 have hxl := h.xl
 have hle := join_le [[103, 114, 111, 117, 112], commasL g.ins, itoaN g.te, itoaN g.tl, itoaN g.tt, [97, 99, 99], g.txt] (by
  intro x hx
  simp only [List.mem_cons,List.not_mem_nil,or_false] at hx
  rcases hx with rfl | rfl | rfl | rfl | rfl | rfl | rfl <;> first | (simp; done) | omega | (have := hi g.fk; omega) | (have := hi g.fs; omega) | (have := hi g.fp; omega) | (have := hi g.fo; omega) | (have := hi g.te; omega) | (have := hi g.tl; omega) | (have := hi g.tt; omega)) (by simp)
 have cj := fun J => c77 [[103, 114, 111, 117, 112], commasL g.ins, itoaN g.te, itoaN g.tl, itoaN g.tt, [97, 99, 99], g.txt] [32] (.im (.sl 1 [[.str [103, 114, 111, 117, 112]], [.str (commasL g.ins)], [.str (itoaN g.te)], [.str (itoaN g.tl)], [.str (itoaN g.tt)], [.str [97, 99, 99]], [.str g.txt]])) 1 rfl (by simp) hle J
 have hadd := add_nl _ hle
 rw [hpg]
 generalize Lib.join [[103, 114, 111, 117, 112], commasL g.ins, itoaN g.te, itoaN g.tl, itoaN g.tt, [97, 99, 99], g.txt] [32] = tx at *
 have c74 := fun J => s74 g.ins g.si h.ok.si (by omega) (fun k hk => h.ir k hk) J
 have ite := fun J => c76 g.te h.te.1 h.te.2 J
 have itl := fun J => c76 g.tl h.tl.1 h.tl.2 J
 have itt := fun J => c76 g.tt h.tt.1 h.tt.2 J
 have d1 : decide (g.op = 1) = false := decide_eq_false (by omega)
 have d2 : decide (g.op = 2) = false := decide_eq_false (by omega)
 have d3 : decide (g.op = 3) = false := decide_eq_false (by omega)
 have d4 : decide (g.op = 4) = true := decide_eq_true hop
 rw [leq F46]
 obtain ⟨hlen, hx⟩ := enter_at (f := f46) (args := [.im (.agg (encG g))]) (Nat.le_of_ble_eq_true rfl)
 have h0 := hx 0 _ rfl
 generalize enterA f46 [.im (.agg (encG g))] = tm at *
 have hE : encG g = [.int .i64 g.op, .sl g.si (rowsI g.ins), .sl g.ss (rowsI g.side), .str g.txt, .int .i64 g.ty.k, .sl g.ty.s (encTs g.ty.args), .int .i64 g.fk, .int .i64 g.fs, .int .i64 g.fp, .int .i64 g.fo, .int .i64 g.te, .int .i64 g.tl, .int .i64 g.tt, .bool g.acc] := rfl
 rw [hE] at h0
 change tm.length = 85 at hlen
 simp only [f46,B0,B1,B2,List.replicate,reduceCtorEq,lenA,seval,B5,pairK,B4,stays,loadOf,endK,resA,tupA,hlen,h0,c74,ite,itl,itt,ha,d1,d2,d3,d4,toDatss,toDats,toDat,cj,hadd,leave_app]
theorem s46_4d (g : GN) (h : LineOk g) (hop : g.op = 4) (ha : g.acc = false) (H : Heap) : L 46 [.im (.agg (encG g))] H = some (.im (.str (lineG g)), H) := by
 have hpg : lineG g = Lib.join [[103, 114, 111, 117, 112], commasL g.ins, itoaN g.te, itoaN g.tl, itoaN g.tt, [100, 105, 115], g.txt] [32] ++ [10] := by
  unfold lineG partsG
  rw [if_neg (by omega)]; rw [if_neg (by omega)]; rw [if_neg (by omega)]; rw [if_pos hop]
  rw [ha]; rfl
 have hc1 := commasL_len g.ins
 have hc2 := commasL_len g.side
 have hi := itoaN_len
 have hil := h.il
 have hsl := h.sl
 have hxl := h.xl
 have hle := join_le [[103, 114, 111, 117, 112], commasL g.ins, itoaN g.te, itoaN g.tl, itoaN g.tt, [100, 105, 115], g.txt] (by
  intro x hx
  simp only [List.mem_cons,List.not_mem_nil,or_false] at hx
  rcases hx with rfl | rfl | rfl | rfl | rfl | rfl | rfl <;> first | (simp; done) | omega | (have := hi g.fk; omega) | (have := hi g.fs; omega) | (have := hi g.fp; omega) | (have := hi g.fo; omega) | (have := hi g.te; omega) | (have := hi g.tl; omega) | (have := hi g.tt; omega)) (by simp)
 have cj := fun J => c77 [[103, 114, 111, 117, 112], commasL g.ins, itoaN g.te, itoaN g.tl, itoaN g.tt, [100, 105, 115], g.txt] [32] (.im (.sl 1 [[.str [103, 114, 111, 117, 112]], [.str (commasL g.ins)], [.str (itoaN g.te)], [.str (itoaN g.tl)], [.str (itoaN g.tt)], [.str [100, 105, 115]], [.str g.txt]])) 1 rfl (by simp) hle J
 have hadd := add_nl _ hle
 rw [hpg]
 generalize Lib.join [[103, 114, 111, 117, 112], commasL g.ins, itoaN g.te, itoaN g.tl, itoaN g.tt, [100, 105, 115], g.txt] [32] = tx at *
 have c74 := fun J => s74 g.ins g.si h.ok.si (by omega) (fun k hk => h.ir k hk) J
 have ite := fun J => c76 g.te h.te.1 h.te.2 J
 have itl := fun J => c76 g.tl h.tl.1 h.tl.2 J
 have itt := fun J => c76 g.tt h.tt.1 h.tt.2 J
 have d1 : decide (g.op = 1) = false := decide_eq_false (by omega)
 have d2 : decide (g.op = 2) = false := decide_eq_false (by omega)
 have d3 : decide (g.op = 3) = false := decide_eq_false (by omega)
 have d4 : decide (g.op = 4) = true := decide_eq_true hop
 rw [leq F46]
 obtain ⟨hlen, hx⟩ := enter_at (f := f46) (args := [.im (.agg (encG g))]) (Nat.le_of_ble_eq_true rfl)
 have h0 := hx 0 _ rfl
 generalize enterA f46 [.im (.agg (encG g))] = tm at *
 have hE : encG g = [.int .i64 g.op, .sl g.si (rowsI g.ins), .sl g.ss (rowsI g.side), .str g.txt, .int .i64 g.ty.k, .sl g.ty.s (encTs g.ty.args), .int .i64 g.fk, .int .i64 g.fs, .int .i64 g.fp, .int .i64 g.fo, .int .i64 g.te, .int .i64 g.tl, .int .i64 g.tt, .bool g.acc] := rfl
 rw [hE] at h0
 change tm.length = 85 at hlen
 simp only [f46,B0,B1,B2,List.replicate,reduceCtorEq,lenA,seval,B5,pairK,B4,stays,loadOf,endK,resA,tupA,hlen,h0,c74,ite,itl,itt,ha,d1,d2,d3,d4,toDatss,toDats,toDat,cj,hadd,leave_app]
theorem s46_5 (g : GN) (h : LineOk g) (hop : g.op = 5) (H : Heap) : L 46 [.im (.agg (encG g))] H = some (.im (.str (lineG g)), H) := by
 have hpg : lineG g = Lib.join [[102, 108, 97, 116, 116, 101, 110], commasL g.ins] [32] ++ [10] := by
  unfold lineG partsG
  rw [if_neg (by omega)]; rw [if_neg (by omega)]; rw [if_neg (by omega)]; rw [if_neg (by omega)]; rw [if_pos hop]
  rfl
 have hc1 := commasL_len g.ins
 have hc2 := commasL_len g.side
 have hi := itoaN_len
 have hil := h.il
 have hsl := h.sl
 have hxl := h.xl
 have hle := join_le [[102, 108, 97, 116, 116, 101, 110], commasL g.ins] (by
  intro x hx
  simp only [List.mem_cons,List.not_mem_nil,or_false] at hx
  rcases hx with rfl | rfl <;> first | (simp; done) | omega | (have := hi g.fk; omega) | (have := hi g.fs; omega) | (have := hi g.fp; omega) | (have := hi g.fo; omega) | (have := hi g.te; omega) | (have := hi g.tl; omega) | (have := hi g.tt; omega)) (by simp)
 have cj := fun J => c77 [[102, 108, 97, 116, 116, 101, 110], commasL g.ins] [32] (.im (.sl 1 [[.str [102, 108, 97, 116, 116, 101, 110]], [.str (commasL g.ins)]])) 1 rfl (by simp) hle J
 have hadd := add_nl _ hle
 rw [hpg]
 generalize Lib.join [[102, 108, 97, 116, 116, 101, 110], commasL g.ins] [32] = tx at *
 have c74 := fun J => s74 g.ins g.si h.ok.si (by omega) (fun k hk => h.ir k hk) J
 have d1 : decide (g.op = 1) = false := decide_eq_false (by omega)
 have d2 : decide (g.op = 2) = false := decide_eq_false (by omega)
 have d3 : decide (g.op = 3) = false := decide_eq_false (by omega)
 have d4 : decide (g.op = 4) = false := decide_eq_false (by omega)
 have d5 : decide (g.op = 5) = true := decide_eq_true hop
 rw [leq F46]
 obtain ⟨hlen, hx⟩ := enter_at (f := f46) (args := [.im (.agg (encG g))]) (Nat.le_of_ble_eq_true rfl)
 have h0 := hx 0 _ rfl
 generalize enterA f46 [.im (.agg (encG g))] = tm at *
 have hE : encG g = [.int .i64 g.op, .sl g.si (rowsI g.ins), .sl g.ss (rowsI g.side), .str g.txt, .int .i64 g.ty.k, .sl g.ty.s (encTs g.ty.args), .int .i64 g.fk, .int .i64 g.fs, .int .i64 g.fp, .int .i64 g.fo, .int .i64 g.te, .int .i64 g.tl, .int .i64 g.tt, .bool g.acc] := rfl
 rw [hE] at h0
 change tm.length = 85 at hlen
 simp only [f46,B0,B1,B2,List.replicate,reduceCtorEq,lenA,seval,B5,pairK,B4,stays,loadOf,endK,resA,tupA,hlen,h0,c74,d1,d2,d3,d4,d5,toDatss,toDats,toDat,cj,hadd,leave_app]
theorem s46_6 (g : GN) (h : LineOk g) (hop : g.op = 6) (H : Heap) : L 46 [.im (.agg (encG g))] H = some (.im (.str (lineG g)), H) := by
 have hpg : lineG g = Lib.join [[115, 105, 110, 107], commasL g.ins] [32] ++ [10] := by
  unfold lineG partsG
  rw [if_neg (by omega)]; rw [if_neg (by omega)]; rw [if_neg (by omega)]; rw [if_neg (by omega)]; rw [if_neg (by omega)]; skip
  rfl
 have hc1 := commasL_len g.ins
 have hc2 := commasL_len g.side
 have hi := itoaN_len
 have hil := h.il
 have hsl := h.sl
 have hxl := h.xl
 have hle := join_le [[115, 105, 110, 107], commasL g.ins] (by
  intro x hx
  simp only [List.mem_cons,List.not_mem_nil,or_false] at hx
  rcases hx with rfl | rfl <;> first | (simp; done) | omega | (have := hi g.fk; omega) | (have := hi g.fs; omega) | (have := hi g.fp; omega) | (have := hi g.fo; omega) | (have := hi g.te; omega) | (have := hi g.tl; omega) | (have := hi g.tt; omega)) (by simp)
 have cj := fun J => c77 [[115, 105, 110, 107], commasL g.ins] [32] (.im (.sl 1 [[.str [115, 105, 110, 107]], [.str (commasL g.ins)]])) 1 rfl (by simp) hle J
 have hadd := add_nl _ hle
 rw [hpg]
 generalize Lib.join [[115, 105, 110, 107], commasL g.ins] [32] = tx at *
 have c74 := fun J => s74 g.ins g.si h.ok.si (by omega) (fun k hk => h.ir k hk) J
 have d1 : decide (g.op = 1) = false := decide_eq_false (by omega)
 have d2 : decide (g.op = 2) = false := decide_eq_false (by omega)
 have d3 : decide (g.op = 3) = false := decide_eq_false (by omega)
 have d4 : decide (g.op = 4) = false := decide_eq_false (by omega)
 have d5 : decide (g.op = 5) = false := decide_eq_false (by omega)
 have d6 : decide (g.op = 6) = true := decide_eq_true hop
 rw [leq F46]
 obtain ⟨hlen, hx⟩ := enter_at (f := f46) (args := [.im (.agg (encG g))]) (Nat.le_of_ble_eq_true rfl)
 have h0 := hx 0 _ rfl
 generalize enterA f46 [.im (.agg (encG g))] = tm at *
 have hE : encG g = [.int .i64 g.op, .sl g.si (rowsI g.ins), .sl g.ss (rowsI g.side), .str g.txt, .int .i64 g.ty.k, .sl g.ty.s (encTs g.ty.args), .int .i64 g.fk, .int .i64 g.fs, .int .i64 g.fp, .int .i64 g.fo, .int .i64 g.te, .int .i64 g.tl, .int .i64 g.tt, .bool g.acc] := rfl
 rw [hE] at h0
 change tm.length = 85 at hlen
 simp only [f46,B0,B1,B2,List.replicate,reduceCtorEq,lenA,seval,B5,pairK,B4,stays,loadOf,endK,resA,tupA,hlen,h0,c74,d1,d2,d3,d4,d5,d6,toDatss,toDats,toDat,cj,hadd,leave_app]
theorem s46 (g : GN) (h : LineOk g) (H : Heap) : L 46 [.im (.agg (encG g))] H = some (.im (.str (lineG g)), H) := by
 have hop := h.op
 rcases (by omega : g.op = 1 ∨ g.op = 2 ∨ g.op = 3 ∨ g.op = 4 ∨ g.op = 5 ∨ g.op = 6) with e | e | e | e | e | e
 ·exact s46_1 g h e H
 ·exact s46_2 g h e H
 ·exact s46_3 g h e H
 ·cases ha : g.acc with
  | true => exact s46_4a g h e ha H
  | false => exact s46_4d g h e ha H
 ·exact s46_5 g h e H
 ·exact s46_6 g h e H
end Go.Abs.Seat
end
section
set_option linter.unusedVariables false
set_option linter.unusedSimpArgs false
namespace Go.Abs.Seat
open Go.Proofs
def showL : List GN → List UInt8
 | [] => []
 | g :: l => lineG g ++ showL l
theorem parts_le (g : GN) (h : LineOk g) : (∀ x ∈ partsG g, x.length ≤ 1000000) ∧ (partsG g).length ≤ 7 := by
 have hc1 := commasL_len g.ins
 have hc2 := commasL_len g.side
 have hi := itoaN_len
 have hil := h.il
 have hsl := h.sl
 have hxl := h.xl
 have hh : (howG g.acc).length ≤ 3 := by unfold howG; split <;> simp
 have hb : ∀ n : Int, (itoaN n).length ≤ 1000000 := fun n => Nat.le_trans (hi n) (by decide)
 have q1 : (commasL g.ins).length ≤ 1000000 := by omega
 have q2 : (commasL g.side).length ≤ 1000000 := by omega
 have q3 : g.txt.length ≤ 1000000 := by omega
 have q4 : (howG g.acc).length ≤ 1000000 := by omega
 have q5 : g.op = 1 → (showT g.ty).length ≤ 1000000 := fun e => by
  have := show_len g.ty 6 (h.ty e)
  have e2 : (100 * 4 ^ 6 : Nat) = 409600 := rfl
  omega
 have c : ∀ w ∈ [wSource, wEach, wWindow, wGroup, wFlatten, wSink], w.length ≤ 1000000 := by decide
 unfold partsG
 split
 ·rename_i e
  exact ⟨fun x hx => by simp only [List.mem_cons,List.not_mem_nil,or_false] at hx; rcases hx with rfl | rfl; exact c _ (by simp); exact q5 e, by simp⟩
 split
 ·exact ⟨fun x hx => by simp only [List.mem_cons,List.not_mem_nil,or_false] at hx; rcases hx with rfl | rfl | rfl | rfl; exact c _ (by simp); exact q1; exact q2; exact q3, by simp⟩
 split
 ·exact ⟨fun x hx => by simp only [List.mem_cons,List.not_mem_nil,or_false] at hx; rcases hx with rfl | rfl | rfl | rfl | rfl | rfl; exact c _ (by simp); exact q1; exact hb _; exact hb _; exact hb _; exact hb _, by simp⟩
 split
 ·exact ⟨fun x hx => by simp only [List.mem_cons,List.not_mem_nil,or_false] at hx; rcases hx with rfl | rfl | rfl | rfl | rfl | rfl | rfl; exact c _ (by simp); exact q1; exact hb _; exact hb _; exact hb _; exact q4; exact q3, by simp⟩
 split
 ·exact ⟨fun x hx => by simp only [List.mem_cons,List.not_mem_nil,or_false] at hx; rcases hx with rfl | rfl; exact c _ (by simp); exact q1, by simp⟩
 ·exact ⟨fun x hx => by simp only [List.mem_cons,List.not_mem_nil,or_false] at hx; rcases hx with rfl | rfl; exact c _ (by simp); exact q1, by simp⟩
theorem lineG_len (g : GN) (h : LineOk g) : (lineG g).length ≤ 1000000001 := by
 have := join_le (partsG g) (parts_le g h).1 (parts_le g h).2
 unfold lineG
 simp; omega
theorem showL_len : ∀ l : List GN, (∀ g ∈ l, LineOk g) → (showL l).length ≤ l.length * 1000000001
 | [], _ => by simp [showL]
 | g :: l, h => by
  have h1 := lineG_len g (h g (.head _))
  have ih := showL_len l (fun x hx => h x (.tail _ hx))
  simp only [showL,List.length_append,List.length_cons]
  omega
theorem showL_ne {l : List GN} (h : l ≠ []) : showL l ≠ [] := by
 cases l with
 | nil => exact absurd rfl h
 | cons g l => simp [showL, lineG]
theorem m15 (p : List GN) (s : Nat) (hs : p = [] ∨ s = 14) (hn : p.length ≤ 32) (hok : ∀ g ∈ p, LineOk g) (n id : Nat) :
  ∀ (m i : Nat), i + m = p.length → ∀ (tm : List AV) (Hc : Heap) (txt : List UInt8), txt.length + (showL (p.drop i)).length + 100 ≤ 2 ^ 46 → HoldE (92, 2) 5 n Hc id [] txt →
  tm.length = 29 → tm.getD 6 undefA = .ptr id 0 0 → tm.getD 18 undefA = .im (.sl s (p.map encG)) → tm.getD 19 undefA = .im (.int .i64 (p.length : Int)) → tm.getD 20 undefA = .im (.int .i64 (i : Int)) →
  ∃ e tm' H', Λ c15_0 tm Hc = some (e, tm', H') ∧ tm'.length = 29 ∧ e = .exit 0 ∧ tm'.getD 6 undefA = .ptr id 0 0 ∧ HoldE (92, 2) 5 n H' id [] (txt ++ showL (p.drop i)) ∧ Keeps n id Hc H'
 | 0, i, hi, tm, Hc, txt, hb, hH, hlen, h6, h18, h19, h20 => by
  have e : p.drop i = [] := by rw [List.drop_eq_nil_iff]; omega
  have hc : decide ((i : Int) < (p.length : Int)) = false := decide_eq_false (by omega)
  rw [l15_0, e]
  simp only [b15_0,B0,B1,B2,List.replicate,reduceCtorEq,lenA,seval,hlen,h6,h18,h19,h20,hc]
  exact ⟨_, _, _, rfl, by simp only [List.length_set,hlen], rfl, by simp only [B3,seval,hlen,h6], by simpa only [showL, List.append_nil] using hH, Keeps.refl _ _ _⟩
 | m + 1, i, hi, tm, Hc, txt, hb, hH, hlen, h6, h18, h19, h20 => by
  have hlt : i < p.length := by omega
  obtain ⟨w, hwi⟩ : ∃ w, p[i]? = some w := ⟨_, List.getElem?_eq_getElem hlt⟩
  have e : p.drop i = w :: p.drop (i + 1) := by
   rw [List.drop_eq_getElem_cons hlt]
   congr 1
   rw [List.getElem?_eq_getElem hlt] at hwi
   exact Option.some.inj hwi
  have hs2 : s = 14 := by
   rcases hs with hs | hs
   ·subst hs; simp at hlt
   ·exact hs
  subst hs2
  have hw := hok w (List.mem_of_getElem? hwi)
  have hml : (p.map encG).length = p.length := List.length_map ..
  have hc' : decide ((i : Int) < (p.length : Int)) = true := decide_eq_true (by omega)
  have hix := idx_nat (n := p.length) (i := i) hlt
  have hgw : (p.map encG)[i]? = some (encG w) := by rw [List.getElem?_map, hwi]; rfl
  have hwr := wrap_nat (i := i) (by omega)
  have c46 := fun J => s46 w hw J
  have key := m15 p 14 hs hn hok n id m (i + 1) (by omega)
  rw [e] at hb
  simp only [showL,List.length_append] at hb
  have hH1 := hH.more [.obj none [(encG w).map .im]]
  obtain ⟨H2, hcall, hH2, hK2⟩ := s45 (ty := (92, 2)) (by decide) hH1 (lineG w) (by omega)
  have hidlt : id < Hc.length := by obtain ⟨_, _, h, _⟩ := hH; exact (List.getElem?_eq_some_iff.1 h).1
  have hK := hK2.down
  have hE : encG w = [.int .i64 w.op, .sl w.si (rowsI w.ins), .sl w.ss (rowsI w.side), .str w.txt, .int .i64 w.ty.k, .sl w.ty.s (encTs w.ty.args), .int .i64 w.fk, .int .i64 w.fs, .int .i64 w.fp, .int .i64 w.fo, .int .i64 w.te, .int .i64 w.tl, .int .i64 w.tt, .bool w.acc] := rfl
  rw [hE] at hgw c46 hcall
  simp only [List.map_cons,List.map_nil] at hcall
  rw [l15_0, e]
  generalize hlw : lineG w = lw at *
  simp only [b15_0,B0,B1,B2,List.replicate,reduceCtorEq,lenA,seval,B5,pairK,B4,stays,loadOf,hlen,h6,h18,h19,h20,hc',hml,hix,hgw,hwr,c46,hcall]
  refine ex_imp (key _ H2 (txt ++ lw) (by simp; omega) hH2 ?_ ?_ ?_ ?_ ?_) ?_
  ·simp only [List.length_set,hlen]
  iterate 4 simp only [B3,seval,hlen,h6,h18,h19]
  rintro e tm' H' ⟨hl', he, g6, gH, gK⟩
  refine ⟨hl', he, g6, ?_, hK.trans gK⟩
  simp only [showL,hlw]
  simpa only [List.append_assoc] using gH
theorem s15 (p : List GN) (s : Nat) (hs : p = [] ∨ s = 14) (hpo : ∀ g ∈ p, GOk g ∧ g.ins.length ≤ 1000000 ∧ g.side.length ≤ 1000000) (hf : (checkB p).2 = 0) (hok : ∀ g ∈ p, LineOk g) (H : Heap) : L 15 [.im (.agg [.sl s (p.map encG)])] H = some (.tup [.im (.str (showL p)), .im (.int .i64 0)], H) := by
 have hpl : 1 ≤ p.length ∧ p.length ≤ 32 := by
  unfold checkB at hf
  split at hf
  ·simp at hf
  ·omega
 have hml : (p.map encG).length = p.length := List.length_map ..
 have c16 := fun H => s16 p s hs (by omega) hpo H
 rw [hf] at c16
 have hlen := showL_len p hok
 have hne := showL_ne (l := p) (by intro h; rw [h] at hpl; simp at hpl)
 have key := fun tm => m15 p s hs hpl.2 hok (H.length + 2) (H.length + 1) p.length 0 (by omega) tm (H ++ [.obj none [[.im (.sl s (p.map encG))]], .obj (some (92, 2)) [[.im .nilp, .nils]]]) [] (by simp only [List.drop_zero,List.length_nil]; omega) ⟨.im .nilp, .nils, by rw [Go.Abs.hget]; rfl, .inl rfl, .inl ⟨rfl, rfl⟩, by simp⟩
 rw [List.drop_zero, List.nil_append] at key
 rw [leq F15]
 obtain ⟨hln, hx⟩ := enter_at (f := f15) (args := [.im (.agg [.sl s (p.map encG)])]) (Nat.le_of_ble_eq_true rfl)
 have h0 := hx 0 _ rfl
 generalize enterA f15 [.im (.agg [.sl s (p.map encG)])] = tm at *
 change tm.length = 29 at hln
 simp only [f15,e15_0,B0,B1,B2,List.replicate,reduceCtorEq,lenA,seval,B5,pairK,B4,stays,loadOf,hln,h0,c16,hml]
 generalize hr : thenL (Λ c15_0 _ _) _ = r
 refine Exists.elim (thenL_inv hr (key _ ?_ ?_ ?_ ?_ ?_)) ?_
 ·simp only [List.length_set,hln]
 iterate 3 simp only [B3,seval,hln]
 ·simp only [B3,seval,hln]; first | done | rfl
 clear hr key
 rintro e ⟨tm', H2, ⟨hl', rfl, g6, ⟨a0, v, hid, _, hG, _⟩, hK⟩, rfl⟩
 rcases hG with ⟨hes, _⟩ | ⟨_, tok, htok, rfl, hhw⟩
 ·exact absurd (by simpa using hes) hne
 generalize showL p = txt at *
 have h47 : L 47 [.ptr (H.length + 1) 0 0] H2 = some (.im (.str txt), H2.set tok (.hw 5 (txt.length + 1))) := by
  rw [L26]
  simp only [stE,hid,hhw,bytesE_of]
  rw [if_pos ⟨by decide, trivial, by simp, trivial, List.length_pos_iff.2 hne, by omega⟩]
  simp
 have hheld : heldIn H (H2.set tok (.hw 5 (txt.length + 1))) := fun i hi => by
  left
  rw [List.getElem?_set_ne (by omega), hK.2.2 i (by omega) (by simp; omega) (by omega), List.getElem?_append_left hi]
 have htake : (H2.set tok (.hw 5 (txt.length + 1))).take H.length = H := by
  apply List.ext_getElem?
  intro i
  rw [List.getElem?_take]
  split
  ·rename_i hi
   rcases hheld i hi with h | ⟨o, h, _⟩
   ·exact h
   ·rw [List.getElem?_set_ne (by omega), hK.2.2 i (by omega) (by simp; omega) (by omega), List.getElem?_append_left hi]
  ·rename_i hi
   rw [List.getElem?_eq_none (by omega)]
 have hlv : leave H false (.tup [.im (.str txt), .im (.int .i64 0)]) (H2.set tok (.hw 5 (txt.length + 1))) = (.tup [.im (.str txt), .im (.int .i64 0)], H) := by
  unfold leave
  have e : (if (false : Bool) = true then AV.tup [.im (.str txt), .im (.int .i64 0)] else degrade (.tup [.im (.str txt), .im (.int .i64 0)])) = .tup [.im (.str txt), .im (.int .i64 0)] := by simp [degrade, degrade1, toDat]
  rw [e, if_pos ⟨by simp only [refsLt,refsLts,Bool.and_self], hheld⟩, htake]
 simp only [B0,B1,B2,List.replicate,reduceCtorEq,lenA,seval,B5,pairK,B4,stays,loadOf,endK,resA,tupA,hl',g6,h47,hlv]
end Go.Abs.Seat
end
section
set_option linter.unusedVariables false
set_option linter.unusedSimpArgs false
namespace Go.Abs.Seat
open Go.Proofs
theorem btw_iff {n lo hi : Int} : btw n lo hi = true ↔ lo ≤ n ∧ n ≤ hi := by
 unfold btw
 simp
theorem in64 {n : Int} (h0 : -1000000000 ≤ n) (h1 : n ≤ 1000000000) : In64 n := ⟨by omega, by omega⟩
theorem fnB_in {k s p o : Int} (h : fnB k s p o = true) : In64 k ∧ In64 s ∧ In64 p ∧ In64 o := by
 unfold fnB at h
 split at h
 ·simp at h; exact ⟨in64 (by omega) (by omega), in64 (by omega) (by omega), in64 (by omega) (by omega), in64 (by omega) (by omega)⟩
 split at h
 ·simp [btw_iff] at h; exact ⟨in64 (by omega) (by omega), in64 (by omega) (by omega), in64 (by omega) (by omega), in64 (by omega) (by omega)⟩
 split at h
 ·simp [btw_iff] at h; exact ⟨in64 (by omega) (by omega), in64 (by omega) (by omega), in64 (by omega) (by omega), in64 (by omega) (by omega)⟩
 split at h
 ·simp [btw_iff] at h; exact ⟨in64 (by omega) (by omega), in64 (by omega) (by omega), in64 (by omega) (by omega), in64 (by omega) (by omega)⟩
 ·cases h
theorem fnZ_in {g : GN} (h : fnZ g = true) : In64 g.fk ∧ In64 g.fs ∧ In64 g.fp ∧ In64 g.fo := by
 simp [fnZ] at h
 exact ⟨in64 (by omega) (by omega), in64 (by omega) (by omega), in64 (by omega) (by omega), in64 (by omega) (by omega)⟩
theorem trigB_in {e l t : Int} (h : trigB e l t = true) : In64 e ∧ In64 l ∧ In64 t := by
 simp [trigB, btw_iff] at h
 exact ⟨in64 (by omega) (by omega), in64 (by omega) (by omega), in64 (by omega) (by omega)⟩
theorem trZ_in {g : GN} (h : trZ g = true) : In64 g.te ∧ In64 g.tl ∧ In64 g.tt := by
 simp [trZ] at h
 exact ⟨in64 (by omega) (by omega), in64 (by omega) (by omega), in64 (by omega) (by omega)⟩
theorem textB_len {s : List UInt8} (h : textB s = true) : s.length ≤ 1000 := by
 simp [textB] at h
 omega
theorem form_in {g : GN} (h : formB g = true) : g.txt.length ≤ 1000 ∧ (In64 g.fk ∧ In64 g.fs ∧ In64 g.fp ∧ In64 g.fo) ∧ (In64 g.te ∧ In64 g.tl ∧ In64 g.tt) ∧ (g.op = 1 → rightT g.ty 6 = true) := by
 unfold formB at h
 split at h
 ·rename_i e
  simp only [Bool.and_eq_true,decide_eq_true_eq] at h
  refine ⟨by rw [h.1.1.1]; simp, fnZ_in h.1.2, trZ_in h.2, fun _ => ?_⟩
  have := h.1.1.2
  unfold checkT at this
  split at this
  ·assumption
  ·simp at this
 split at h
 ·simp only [Bool.and_eq_true,decide_eq_true_eq] at h
  exact ⟨textB_len h.1.1.1, fnZ_in h.1.2, trZ_in h.2, fun e => absurd e (by omega)⟩
 split at h
 ·simp only [Bool.and_eq_true,decide_eq_true_eq] at h
  exact ⟨by rw [h.1.1.1]; simp, fnB_in h.1.2, trZ_in h.2, fun e => absurd e (by omega)⟩
 split at h
 ·simp only [Bool.and_eq_true,decide_eq_true_eq] at h
  exact ⟨textB_len h.1.1.1, fnZ_in h.1.2, trigB_in h.2, fun e => absurd e (by omega)⟩
 ·simp only [Bool.and_eq_true,decide_eq_true_eq] at h
  exact ⟨by rw [h.1.1.1]; simp, fnZ_in h.1.2, trZ_in h.2, fun e => absurd e (by omega)⟩
theorem rises_len {l : List Int} {x y : Int} (h : risesB l x y = true) : (l.length : Int) ≤ y := by
 simp [risesB] at h
 omega
theorem bad_in {p : List GN} {i : Nat} {l : List Int} (h : (!l.any (badB p (i : Int))) = true) (hi : i ≤ 32) : ∀ k ∈ l, In64 k := fun k hk => by
 simp only [Bool.not_eq_true'] at h
 have := List.any_eq_false.1 h k hk
 unfold badB at this
 split at this
 ·simp at this
 ·split at this
  ·simp at this
  ·exact in64 (by omega) (by omega)
theorem inputs_in {p : List GN} {i : Nat} {g : GN} (h : inputsB p i g = true) (hi : i ≤ 32) : g.ins.length ≤ 4 ∧ g.side.length ≤ 4 ∧ (∀ k ∈ g.ins, In64 k) ∧ (∀ k ∈ g.side, In64 k) := by
 unfold inputsB at h
 simp only [Bool.and_eq_true] at h
 obtain ⟨⟨⟨h1, h2⟩, h3⟩, h4⟩ := h
 refine ⟨?_, ?_, bad_in h3 hi, bad_in h4 hi⟩
 ·split at h1
  ·have := rises_len h1; omega
  ·split at h1
   ·have := rises_len h1; omega
   ·have := rises_len h1; omega
 ·have := rises_len h2
  split at this <;> omega
theorem checkF_all (p : List GN) : ∀ (l : List GN) (i : Nat), (checkF p l i).2 = 0 → ((checkF p l i).1 = 0) ∧ ∀ j g, l[j]? = some g → (1 ≤ g.op ∧ g.op ≤ 6) ∧ inputsB p (i + j) g = true ∧ formB g = true
 | [], i, h => ⟨rfl, fun j g hg => by simp at hg⟩
 | x :: l, i, h => by
  unfold checkF at h ⊢
  split at h
  ·simp at h
  ·rename_i ho
   split at h
   ·rename_i hin
    split at h
    ·rename_i hf
     obtain ⟨h1, h2⟩ := checkF_all p l (i + 1) h
     rw [if_neg ho, if_pos hin, if_pos hf]
     refine ⟨h1, fun j g hg => ?_⟩
     cases j with
     | zero =>
      simp only [List.getElem?_cons_zero,Option.some.injEq] at hg
      subst hg
      exact ⟨by omega, hin, hf⟩
     | succ j =>
      have := h2 j g (by simpa using hg)
      rwa [show i + 1 + j = i + (j + 1) by omega] at this
    ·simp at h
   ·simp at h
theorem fine_all {p : List GN} (h : (checkB p).2 = 0) : (checkB p).1 = 0 ∧ p.length ≤ 32 ∧ ∀ j g, p[j]? = some g → (1 ≤ g.op ∧ g.op ≤ 6) ∧ inputsB p j g = true ∧ formB g = true := by
 unfold checkB at h ⊢
 split at h
 ·simp at h
 ·rename_i hl
  rw [if_neg hl]
  obtain ⟨h1, h2⟩ := checkF_all p p 0 h
  exact ⟨h1, by omega, fun j g hg => by have := h2 j g hg; rwa [Nat.zero_add] at this⟩
theorem fine_line {p : List GN} (h : (checkB p).2 = 0) (hok : ∀ g ∈ p, GOk g) : ∀ g ∈ p, LineOk g := fun g hg => by
 obtain ⟨j, hj⟩ := List.mem_iff_getElem?.1 hg
 obtain ⟨_, hl, hall⟩ := fine_all h
 obtain ⟨ho, hi, hf⟩ := hall j g hj
 have hjl := (List.getElem?_eq_some_iff.1 hj).1
 obtain ⟨i1, i2, i3, i4⟩ := inputs_in hi (by omega)
 obtain ⟨f1, ⟨f2, f3, f4, f5⟩, ⟨f6, f7, f8⟩, f9⟩ := form_in hf
 exact ⟨hok g hg, by omega, i3, by omega, i4, by omega, f2, f3, f4, f5, f6, f7, f8, f9, ho⟩
end Go.Abs.Seat
end
section
set_option linter.unusedVariables false
set_option linter.unusedSimpArgs false
namespace Go.Abs.Seat
open Go.Proofs
theorem okTs_of {l : List KT} (h : ∀ a ∈ l, okT a) : okTs l := by
 induction l with
 | nil => simp only [okTs]
 | cons a l ih => simp only [okTs]; exact ⟨h a (.head _), ih fun x hx => h x (.tail _ hx)⟩
theorem mkT_ok (k : Int) (l : List KT) (h : ∀ a ∈ l, okT a) (hl : l.length ≤ 1000000) : okT (mkT k l) := by
 unfold mkT
 simp only [okT]
 refine ⟨?_, by omega, okTs_of h⟩
 cases l with
 | nil => exact .inl rfl
 | cons a l => right; rw [if_neg (by simp)]
theorem zeroT_ok : okT zeroT := mkT_ok 0 [] (fun _ h => by cases h) (by simp)
theorem readL_ok (rd : Nat → Nat × KT × Bool) (h : ∀ k, okT (rd k).2.1) (s : List UInt8) : ∀ (m i k : Nat) (acc : List KT), (∀ a ∈ acc, okT a) → ∀ l, (readL rd s m i k acc).2 = some l → (∀ a ∈ l, okT a) ∧ l.length ≤ acc.length + m
 | 0, i, k, acc, ha, l, hl => by
  simp only [readL,Option.some.injEq] at hl
  subst hl
  exact ⟨ha, Nat.le_refl _⟩
 | m + 1, i, k, acc, ha, l, hl => by
  simp only [readL] at hl
  split at hl
  ·split at hl
   ·obtain ⟨h1, h2⟩ := readL_ok rd h s m (i + 1) _ _ (fun a hm => by
     rcases List.mem_append.1 hm with hm | hm
     ·exact ha a hm
     ·rw [List.mem_singleton.1 hm]; exact h _) l hl
    exact ⟨h1, by simp at h2; omega⟩
   ·cases hl
  ·cases hl
theorem readP_okT (s : List UInt8) : ∀ d k : Nat, okT (readP s d k).2.1
 | 0, k => zeroT_ok
 | d + 1, k => by
  have ih := readP_okT s d
  simp only [readP]
  split
  ·exact zeroT_ok
  ·rename_i n w hw
   have hwm : w.2.2.toNat ≤ 2 := by
    have hs := (wordGo_some (s.drop k) 8 (mayW ((d : Int) + 1)) 0 (Nat.zero_le _)).2.2 w (by unfold word69 at hw; rw [hw])
    have := mayW_cnt hs
    omega
   split
   ·exact zeroT_ok
   ·rename_i k' l hl
    obtain ⟨h1, h2⟩ := readL_ok (readP s d) ih s w.2.2.toNat 0 (k + n) [] (fun _ h => by cases h) l (by rw [hl])
    have hm := mkT_ok w.1 l h1 (by simp at h2; omega)
    split
    ·exact hm
    ·split <;> exact hm
theorem parseP_okT (s : List UInt8) : okT (parseP s).1 := by
 unfold parseP
 split
 ·exact readP_okT s 6 0
 ·exact zeroT_ok
def RdOk (g : GN) : Prop := GOk g ∧ g.ins.length ≤ 1000000 ∧ g.side.length ≤ 1000000
theorem slN_s (l : List Int) : l = [] ∨ slN l = 1 := slI_s l
theorem zG_ok : RdOk zG := ⟨⟨zeroT_ok, .inl rfl, .inl rfl, by simp [zG], by simp [zG], by simp [zG]⟩, by simp [zG], by simp [zG]⟩
theorem pls_count {last none : Bool} {s : List UInt8 × Bool} {n : Nat} (h : s.1.length ≤ n) : (pls last none s).1.length ≤ n + 1 := by
 unfold pls placesQ
 have hp := (part_len last s.1).1
 split
 ·simp
 ·simp only [List.length_map,splitL_len]
  have := List.count_le_length (a := (44 : UInt8)) (l := (partQ last s.1).1)
  omega
theorem readG_ok (line : List UInt8) (hs : line.length ≤ 900000) : RdOk (readG line).1 := by
 have hcl := (cut_len 32 line).2
 have h0 : ((cutB 32 line).2.1, !(cutB 32 line).2.2).1.length ≤ 900000 := by simp only; omega
 unfold readG readW
 generalize ((cutB 32 line).2.1, !(cutB 32 line).2.2) = s at *
 split
 ·exact ⟨⟨parseP_okT _, .inl rfl, .inl rfl, by simp [rdSource, zG], by simp [rdSource, zG], by simp [rdSource, zG]⟩, by simp [rdSource, zG], by simp [rdSource, zG]⟩
 split
 ·have h1 := one1_len (last := false) h0
  have h2 := pls_count (last := false) (none := true) h1
  have h3 := pls_len (last := false) (none := true) h1
  exact ⟨⟨zeroT_ok, .inr rfl, slN_s _, by simp [rdEach, zG], by simp only [rdEach]; omega, by simp only [rdEach]; omega⟩, by simp [rdEach, zG], by simp only [rdEach]; omega⟩
 split
 ·exact ⟨⟨zeroT_ok, .inr rfl, .inl rfl, by simp [rdWindow, zG], by simp [rdWindow, zG], by simp [rdWindow, zG]⟩, by simp [rdWindow, zG], by simp [rdWindow, zG]⟩
 split
 ·have h5 : (hw3 s).2.1.length ≤ 900000 := prt_len (num1_len (num1_len (num1_len (one1_len h0))))
  exact ⟨⟨zeroT_ok, .inr rfl, .inl rfl, by simp [rdGroup, zG], by simp [rdGroup, zG], by simp only [rdGroup]; omega⟩, by simp [rdGroup, zG], by simp [rdGroup, zG]⟩
 split
 ·have h2 := pls_count (last := true) (none := false) h0
  exact ⟨⟨zeroT_ok, slN_s _, .inl rfl, by simp only [rdFlatten]; omega, by simp [rdFlatten, zG], by simp [rdFlatten, zG]⟩, by simp only [rdFlatten]; omega, by simp [rdFlatten, zG]⟩
 split
 ·exact ⟨⟨zeroT_ok, .inr rfl, .inl rfl, by simp [rdSink, zG], by simp [rdSink, zG], by simp [rdSink, zG]⟩, by simp [rdSink, zG], by simp [rdSink, zG]⟩
 ·exact zG_ok
def parseF : Nat → List UInt8 → List GN → List GN × Bool
 | 0, _, acc => (acc, true)
 | f + 1, s, acc => if s = [] then (acc, true) else if (cutB 10 s).2.2 = true ∧ (readG (cutB 10 s).1).2 = true then parseF f (cutB 10 s).2.1 (acc ++ [(readG (cutB 10 s).1).1]) else (acc, false)
def parseG (s : List UInt8) : List GN × Int × Int :=
 if (parseF (s.length + 1) s []).2 = true then
  (if (checkB (parseF (s.length + 1) s []).1).2 = 0 then ((parseF (s.length + 1) s []).1, 0, 0) else ([], (checkB (parseF (s.length + 1) s []).1).1, (checkB (parseF (s.length + 1) s []).1).2))
 else ([], ((parseF (s.length + 1) s []).1.length : Int), 40)
theorem cut_less (c : UInt8) : ∀ s : List UInt8, s ≠ [] → (cutB c s).2.1.length < s.length
 | [], h => absurd rfl h
 | x :: r, _ => by
  have := (cut_len c r).2
  unfold cutB
  split
  ·simp
  ·simp; omega
end Go.Abs.Seat
end
section
set_option linter.unusedVariables false
set_option linter.unusedSimpArgs false
namespace Go.Abs.Seat
open Go.Proofs
theorem m11 (N : Nat) : ∀ (f : Nat) (s : List UInt8) (acc : List GN) (A M : Heap) (tm : List AV) (v : AV), acc.length + s.length ≤ 900000 → s.length < f → N < A.length → A[N]? = some (.obj none [[v]]) → Gath 83 14 A.length v (A ++ M) (acc.map encG) → tm.length = 52 → tm.getD 0 undefA = .im (.str s) → tm.getD 2 undefA = .ptr N 0 0 → tm.getD 5 undefA = .im (.int .i64 (acc.length : Int)) →
  ∃ e tm' H', Λ c11_0 tm (A ++ M) = some (e, tm', H') ∧ (tm'.length = 52 ∧ tm'.getD 2 undefA = .ptr N 0 0 ∧ ((e = .exit 0 ∧ (parseF f s acc).2 = true ∧ ∃ v' M', H' = A.set N (.obj none [[v']]) ++ M' ∧ Gath 83 14 A.length v' (A ++ M') ((parseF f s acc).1.map encG)) ∨ (e = .ret ∧ (parseF f s acc).2 = false ∧ tm'.getD 3 undefA = .im (.int .i64 ((parseF f s acc).1.length : Int)) ∧ tm'.getD 4 undefA = .im (.int .i64 40) ∧ ∃ M', H' = A.set N (.obj none [[.nils]]) ++ M')))
 | 0, s, acc, A, M, tm, v, hl, hf, _, _, _, _, _, _, _ => absurd hf (by omega)
 | f + 1, s, acc, A, M, tm, v, hl, hf, hN, hv, hG, hlen, h0, h2, h5 => by
  have hgid : ∀ K, (A ++ K)[N]? = some (.obj none [[v]]) := fun K => by rw [get_app hN]; exact hv
  have hsid : ∀ K x, (A ++ K).set N x = A.set N x ++ K := fun K x => set_app hN
  by_cases he : s = []
  ·have d : decide (s = []) = true := decide_eq_true he
   generalize hz : parseF (f + 1) s acc = z
   unfold parseF at hz
   rw [if_pos he] at hz
   rw [l11_0]
   simp only [b11_0,B0,B1,B2,List.replicate,reduceCtorEq,lenA,seval,hlen,h0,h2,h5,d]
   refine ⟨_, _, _, rfl, by simp only [List.length_set,hlen], by simp only [B3,seval,hlen,h2], .inl ⟨rfl, by rw [← hz], v, M, ?_, by rw [← hz]; exact hG⟩⟩
   obtain ⟨hl, he⟩ := List.getElem?_eq_some_iff.1 hv
   rw [← he, List.set_getElem_self]
  have d : decide (s = []) = false := decide_eq_false he
  have hcl := cut_len 10 s
  have hless := cut_less 10 s he
  have c39 := fun H => s39 s 10 (by omega) H
  have c40 := fun H => s40 (cutB 10 s).1 (by omega) H
  generalize hcq : cutB 10 s = q at *
  obtain ⟨line, rest, ok⟩ := q
  simp only at hcl hless c39 c40
  generalize hrw : readG line = rw_ at *
  obtain ⟨w, fine⟩ := rw_
  simp only at c40
  have hE : encG w = [.int .i64 w.op, .sl w.si (rowsI w.ins), .sl w.ss (rowsI w.side), .str w.txt, .int .i64 w.ty.k, .sl w.ty.s (encTs w.ty.args), .int .i64 w.fk, .int .i64 w.fs, .int .i64 w.fp, .int .i64 w.fo, .int .i64 w.te, .int .i64 w.tl, .int .i64 w.tt, .bool w.acc] := rfl
  rw [hE] at c40
  have hset0 : ∀ o o' : HO, (A ++ (M ++ [o])).set (A.length + M.length) o' = A ++ (M ++ [o']) := fun o o' => by
   rw [← List.append_assoc, ← List.append_assoc, ← List.length_append, Go.Abs.hset0]; rfl
  have hgetA : ∀ o K, (A ++ (M ++ o :: K))[A.length + M.length]? = some o := fun o K => by
   rw [← List.append_assoc, ← List.length_append, Go.Abs.hget0]; rfl
  have hnl : ∀ x : HO, (A.set N x).length = A.length := fun x => List.length_set ..
  generalize hz : parseF (f + 1) s acc = z
  unfold parseF at hz
  rw [if_neg he, hcq] at hz
  simp only [hrw] at hz
  rw [l11_0]
  by_cases hgo : ok = true ∧ fine = true
  ·obtain ⟨rfl, rfl⟩ := hgo
   rw [if_pos ⟨rfl, rfl⟩] at hz
   obtain ⟨ob, hob⟩ : ∃ ob, HO.obj none [[.im (.int .i64 w.op), .im (.sl w.si (rowsI w.ins)), .im (.sl w.ss (rowsI w.side)), .im (.str w.txt), .im (.int .i64 w.ty.k), .im (.sl w.ty.s (encTs w.ty.args)), .im (.int .i64 w.fk), .im (.int .i64 w.fs), .im (.int .i64 w.fp), .im (.int .i64 w.fo), .im (.int .i64 w.te), .im (.int .i64 w.tl), .im (.int .i64 w.tt), .im (.bool w.acc)]] = ob := ⟨_, rfl⟩
   have hG1 := hG.more [ob]
   simp only [List.append_assoc,List.cons_append,List.nil_append] at hG1
   obtain ⟨v', M', hap, hG', hokv, _⟩ := hG1.push (bytes := 168) (encG w) (by simp; omega) (by decide)
   have hcv : cellsOf v' = [v'] := by
    rcases hG' with ⟨_, rfl⟩ | ⟨_, _, _, rfl, _⟩ <;> rfl
   rw [show acc.map encG ++ [encG w] = (acc ++ [w]).map encG by simp] at hG'
   have key := fun tm => m11 N f rest (acc ++ [w]) (A.set N (.obj none [[v']])) M' tm v' (by simp; omega) (by omega) (by rw [hnl]; exact hN) (List.getElem?_set_self hN)
   simp only [List.set_set,hnl] at key
   have key := fun tm => key tm (gath_swapG rfl (hnl _) hG')
   simp only [hz] at key
   have hfin : ∀ v'' M'' (es : List (List Dat)), Gath 83 14 A.length v'' (A.set N (.obj none [[v']]) ++ M'') es → Gath 83 14 A.length v'' (A ++ M'') es := fun v'' M'' es h => gath_swapG (hnl _) rfl h
   have hwr : IntKind.i64.wrap ((acc.length : Int) + 1) = ((acc ++ [w]).length : Int) := by rw [wrap_nat (by omega)]; simp
   rw [hE] at hap
   rw [← hob] at hap
   have helR : ∀ (J : Heap) r, elems J 14 (.im (.sl 14 [r])) = some [r] := fun _ _ => rfl
   simp only [b11_0,B0,B1,B2,List.replicate,reduceCtorEq,lenA,seval,B5,pairK,B4,stays,loadOf,hlen,h0,h2,h5,d,c39,c40,hset0,hgetA,hgid,hsid,dgA,toDat,toDats,toDatss,helR,hap,hcv,hokv,hwr]
   refine ex_imp (key _ ?_ ?_ ?_ ?_) ?_
   ·simp only [List.length_set,hlen]
   iterate 2 simp only [B3,seval,hlen,h2]
   ·simp only [B3,seval,hlen,List.length_append,List.length_cons,List.length_nil]
   rintro e tm' H' ⟨hl', g2, hm⟩
   refine ⟨hl', g2, ?_⟩
   rcases hm with ⟨he, hz, v'', M'', hH, hG''⟩ | ⟨he, hz, g3, g4, M'', hH⟩
   ·exact .inl ⟨he, hz, v'', M'', hH, hfin _ _ _ hG''⟩
   ·exact .inr ⟨he, hz, g3, g4, M'', hH⟩
  ·rw [if_neg hgo] at hz
   have hres : ∀ (tm' : List AV) (K : Heap), tm'.length = 52 → tm'.getD 2 undefA = .ptr N 0 0 → tm'.getD 3 undefA = .im (.int .i64 (acc.length : Int)) → tm'.getD 4 undefA = .im (.int .i64 40) →
     ∃ e tm'' H', some (AEx.ret, tm', A.set N (.obj none [[.nils]]) ++ K) = some (e, tm'', H') ∧ (tm''.length = 52 ∧ tm''.getD 2 undefA = .ptr N 0 0 ∧ ((e = .exit 0 ∧ z.2 = true ∧ ∃ v' M', H' = A.set N (.obj none [[v']]) ++ M' ∧ Gath 83 14 A.length v' (A ++ M') (z.1.map encG)) ∨ (e = .ret ∧ z.2 = false ∧ tm''.getD 3 undefA = .im (.int .i64 (z.1.length : Int)) ∧ tm''.getD 4 undefA = .im (.int .i64 40) ∧ ∃ M', H' = A.set N (.obj none [[.nils]]) ++ M'))) := fun tm' K a b c d => ⟨_, _, _, rfl, a, b, .inr ⟨rfl, by rw [← hz], by rw [← hz]; exact c, d, K, rfl⟩⟩
   cases ok with
   | false =>
    simp only [b11_0,B0,B1,B2,List.replicate,reduceCtorEq,lenA,seval,B5,pairK,B4,stays,loadOf,hlen,h0,h2,h5,d,c39,c40,hset0,hgetA,hgid,hsid,dgA,toDat,toDats]
    refine hres _ _ ?_ ?_ ?_ ?_
    ·simp only [List.length_set,hlen]
    ·simp only [B3,seval,hlen,h2]
    ·simp only [B3,seval,hlen]
    ·simp only [B3,seval,hlen]
   | true =>
    cases fine with
    | true => exact absurd ⟨rfl, rfl⟩ hgo
    | false =>
     simp only [b11_0,B0,B1,B2,List.replicate,reduceCtorEq,lenA,seval,B5,pairK,B4,stays,loadOf,hlen,h0,h2,h5,d,c39,c40,hset0,hgetA,hgid,hsid,dgA,toDat,toDats]
     refine hres _ _ ?_ ?_ ?_ ?_
     ·simp only [List.length_set,hlen]
     ·simp only [B3,seval,hlen,h2]
     ·simp only [B3,seval,hlen]
     ·simp only [B3,seval,hlen]
theorem parseF_ok : ∀ (f : Nat) (s : List UInt8) (acc : List GN), s.length ≤ 900000 → (∀ g ∈ acc, RdOk g) → (∀ g ∈ (parseF f s acc).1, RdOk g) ∧ (parseF f s acc).1.length ≤ acc.length + s.length
 | 0, s, acc, hs, h => ⟨h, by unfold parseF; simp⟩
 | f + 1, s, acc, hs, h => by
  unfold parseF
  split
  ·exact ⟨h, by simp⟩
  ·rename_i he
   split
   ·have hcl := cut_len 10 s
    have hless := cut_less 10 s he
    obtain ⟨h1, h2⟩ := parseF_ok f (cutB 10 s).2.1 (acc ++ [(readG (cutB 10 s).1).1]) (by omega) (fun g hg => by
     rcases List.mem_append.1 hg with hg | hg
     ·exact h g hg
     ·rw [List.mem_singleton.1 hg]; exact readG_ok _ (by omega))
    exact ⟨h1, by simp at h2; omega⟩
   ·exact ⟨h, by simp⟩
theorem leave_three {H M : Heap} {a b c : AV} {d d' d'' : Dat} (ha : toDat a = some d) (hb : toDat b = some d') (hc : toDat c = some d'') : leave H false (.tup [a, b, c]) (H ++ M) = (.tup [.im d, .im d', .im d''], H) := by
 unfold leave
 have e : (if (false : Bool) = true then AV.tup [a, b, c] else degrade (.tup [a, b, c])) = .tup [.im d, .im d', .im d''] := by simp [degrade, degrade1, toDat, ha, hb, hc]
 rw [e, if_pos ⟨by simp only [refsLt,refsLts,Bool.and_self], heldIn_app H M⟩, htake]
def slG (l : List GN) : Dat := .sl (if l = [] then 0 else 14) (l.map encG)
theorem slG_s (l : List GN) : l = [] ∨ (if l = [] then 0 else 14) = 14 := by
 cases l with
 | nil => exact .inl rfl
 | cons x l => right; rw [if_neg (by simp)]
theorem gathG {n : Nat} {v : AV} {J : Heap} {l : List GN} (h : Gath 83 14 n v J (l.map encG)) : toDat v = some (slG l) := by
 rw [h.dat]
 unfold slG
 simp only [List.map_eq_nil_iff]
theorem s11 (s : List UInt8) (hs : s.length ≤ 800000) (H : Heap) : L 11 [.im (.str s)] H = some (.tup [.im (.agg [slG (parseG s).1]), .im (.int .i64 (parseG s).2.1), .im (.int .i64 (parseG s).2.2)], H) := by
 have key := fun tm => m11 H.length (s.length + 1) s [] (H ++ [.obj none [[.nils]]]) [] tm .nils (by simp; omega) (by omega) (by simp) (by rw [hget0]; rfl) (.inl ⟨rfl, rfl⟩)
 simp only [hset0,List.append_nil] at key
 obtain ⟨hpo, hpl⟩ := parseF_ok (s.length + 1) s [] (by omega) (fun _ h => by cases h)
 unfold parseG
 generalize parseF (s.length + 1) s [] = r at *
 obtain ⟨l, fine⟩ := r
 simp only at key hpo hpl ⊢
 have c16 := fun J => s16 l _ (slG_s l) (by simp at hpl; omega) hpo J
 change ∀ J, L 16 [.im (.agg [slG l])] J = _ at c16
 have hg0 : ∀ (x : HO) M, (H ++ x :: M)[H.length]? = some x := fun x M => by rw [hget0]; rfl
 have hs0 : ∀ (x y : HO) M, (H ++ x :: M).set H.length y = H ++ y :: M := fun x y M => by rw [hset0]; rfl
 have hlvN : ∀ (a f : Int) M, leave H false (.tup [.agg [.nils], .im (.int .i64 a), .im (.int .i64 f)]) (H ++ M) = (.tup [.im (.agg [slG []]), .im (.int .i64 a), .im (.int .i64 f)], H) := fun a f M => leave_three rfl rfl rfl
 rw [leq F11]
 obtain ⟨hlen, hx⟩ := enter_at (f := f11) (args := [.im (.str s)]) (Nat.le_of_ble_eq_true rfl)
 have h0 := hx 0 _ rfl
 generalize enterA f11 [.im (.str s)] = tm at *
 change tm.length = 52 at hlen
 simp only [f11,e11_0,B0,B1,B2,List.replicate,reduceCtorEq,lenA,seval,B5,pairK,B4,stays,loadOf,hlen,h0]
 generalize hr : thenL (Λ c11_0 _ _) _ = r
 refine Exists.elim (thenL_inv hr (key _ ?_ ?_ ?_ ?_)) ?_
 ·simp only [List.length_set,hlen]
 iterate 2 simp only [B3,seval,hlen,h0]
 ·simp only [B3,seval,hlen]; first | done | rfl
 clear hr key
 rintro e ⟨tm', H', ⟨hl', g2, hm⟩, rfl⟩
 rcases hm with ⟨rfl, hz, v', M', rfl, hG⟩ | ⟨rfl, hz, g3, g4, M', rfl⟩
 ·subst hz
  rw [if_pos rfl]
  have hd := gathG hG
  have hda : toDat (.agg [v']) = some (.agg [slG l]) := by simp [toDat, toDats, hd]
  have htm : toIms [v'] = none := by rcases hG with ⟨_, rfl⟩ | ⟨_, _, _, rfl, _⟩ <;> rfl
  have hcv : cellsOf v' = [v'] ∧ cellOk v' = true := by rcases hG with ⟨_, rfl⟩ | ⟨_, _, _, rfl, _⟩ <;> exact ⟨rfl, rfl⟩
  have hdg : dgA true (.agg [v']) = .im (.agg [slG l]) := by simp [dgA, hda]
  have hlv : ∀ (a f : Int) M, leave H false (.tup [.agg [v'], .im (.int .i64 a), .im (.int .i64 f)]) (H ++ M) = (.tup [.im (.agg [slG l]), .im (.int .i64 a), .im (.int .i64 f)], H) := fun a f M => leave_three hda rfl rfl
  by_cases hf : (checkB l).2 = 0
  ·rw [if_pos hf]
   rw [hf] at c16
   simp only [B0,B1,B2,List.replicate,reduceCtorEq,lenA,seval,B5,pairK,B4,stays,loadOf,endK,resA,tupA,hl',g2,hg0,hs0,htm,hcv.1,hcv.2,hdg,c16,hlv]
  ·rw [if_neg hf]
   have d : decide ((checkB l).2 = 0) = false := decide_eq_false hf
   simp only [B0,B1,B2,List.replicate,reduceCtorEq,lenA,seval,B5,pairK,B4,stays,loadOf,endK,resA,tupA,hl',g2,hg0,hs0,htm,hcv.1,hcv.2,hdg,c16,d,hlvN]
 ·subst hz
  rw [if_neg Bool.false_ne_true]
  simp only [B0,B1,B2,List.replicate,reduceCtorEq,lenA,seval,B5,pairK,B4,stays,loadOf,endK,resA,tupA,hl',g2,g3,g4,hg0,hs0,hlvN]
end Go.Abs.Seat
end
section
set_option linter.unusedVariables false
set_option linter.unusedSimpArgs false
namespace Go.Abs.Seat
open Go.Proofs
def lcp : List UInt8 → List UInt8 → Nat
 | a :: w, b :: r => if b = a then lcp w r + 1 else 0
 | _, _ => 0
end Go.Abs.Seat
end
section
set_option linter.unusedVariables false
set_option linter.unusedSimpArgs false
namespace Go.Abs.Seat
open Go.Proofs
theorem lcp_le : ∀ (w r : List UInt8), lcp w r ≤ r.length ∧ lcp w r ≤ w.length
 | [], r => by cases r <;> simp [lcp]
 | a :: w, [] => by simp [lcp]
 | a :: w, b :: r => by
  have := lcp_le w r
  simp only [lcp]
  split <;> simp <;> omega
end Go.Abs.Seat
end
section
set_option linter.unusedVariables false
set_option linter.unusedSimpArgs false
namespace Go.Abs.Seat
open Go.Proofs
theorem lcp_ge : ∀ (n : Nat) (w r : List UInt8), n ≤ lcp w r ↔ (w.take n = r.take n ∧ n ≤ w.length ∧ n ≤ r.length)
 | 0, w, r => by simp
 | n + 1, [], r => by cases r <;> simp [lcp]
 | n + 1, a :: w, [] => by simp [lcp]
 | n + 1, a :: w, b :: r => by
  have := lcp_ge n w r
  simp only [lcp,List.take_succ_cons,List.cons.injEq,List.length_cons]
  by_cases h : b = a
  ·rw [if_pos h]
   constructor
   ·intro h1
    obtain ⟨h2, h3, h4⟩ := this.1 (by omega)
    exact ⟨⟨h.symm, h2⟩, by omega, by omega⟩
   ·rintro ⟨⟨_, h2⟩, h3, h4⟩
    have := this.2 ⟨h2, by omega, by omega⟩
    omega
  ·rw [if_neg h]
   constructor
   ·intro h1; omega
   ·rintro ⟨⟨h2, _⟩, _⟩; exact absurd h2.symm h
theorem take_more {w r : List UInt8} {n : Nat} {c : UInt8} (hr : r[n]? = some c) : w.take (n + 1) = r.take (n + 1) ↔ (w.take n = r.take n ∧ w[n]? = some c) := by
 have hn := (List.getElem?_eq_some_iff.1 hr).1
 rw [List.take_add_one, List.take_add_one, hr]
 constructor
 ·intro h
  cases hw : w[n]? with
  | none =>
   rw [hw] at h
   have := congrArg List.length h
   simp at this
   omega
  | some x =>
   rw [hw] at h
   have hwn := (List.getElem?_eq_some_iff.1 hw).1
   obtain ⟨h1, h2⟩ := List.append_inj h (by simp; omega)
   simp at h2
   exact ⟨h1, by rw [h2]⟩
 ·rintro ⟨h1, h2⟩
  rw [h1, h2]
theorem wordGo_spec (M : List Word) (r : List UInt8) : ∀ (k n : Nat) (may : List Word), may = M.filter (fun w => decide (w.2.1.take n = r.take n)) → may ≠ [] → (∀ w ∈ may, n ≤ w.2.1.length ∧ w.2.1.length ≤ n + k) → n ≤ r.length → (∀ w ∈ M, w.2.1 <+: r → n ≤ w.2.1.length) →
  match wordGo r k may n with
  |(n', some w) => w ∈ M ∧ w.2.1.length = n' ∧ w.2.1 <+: r
  |(n', none) => (∀ w ∈ M, ¬ w.2.1 <+: r) ∧ (∀ w ∈ M, lcp w.2.1 r ≤ n') ∧ ∃ w ∈ M, n' ≤ lcp w.2.1 r
 | 0, n, may, hm, hne, hl, hn, hpre => by
  simp only [wordGo]
  cases hf : may.find? (fun w => decide (w.2.1.length = n)) with
  | some w =>
   have h1 := List.mem_of_find?_eq_some hf
   have h2 := List.find?_some hf
   rw [hm] at h1
   obtain ⟨h3, h4⟩ := List.mem_filter.1 h1
   simp only [decide_eq_true_eq] at h2 h4
   refine ⟨h3, h2, ?_⟩
   rw [List.prefix_iff_eq_take, h2, ← h4, ← h2, List.take_length]
  | none =>
   obtain ⟨w, hw⟩ := List.exists_mem_of_ne_nil _ hne
   have h1 := List.find?_eq_none.1 hf w hw
   have h2 := hl w hw
   simp at h1
   omega
 | k + 1, n, may, hm, hne, hl, hn, hpre => by
  simp only [wordGo]
  cases hf : may.find? (fun w => decide (w.2.1.length = n)) with
  | some w =>
   have h1 := List.mem_of_find?_eq_some hf
   have h2 := List.find?_some hf
   rw [hm] at h1
   obtain ⟨h3, h4⟩ := List.mem_filter.1 h1
   simp only [decide_eq_true_eq] at h2 h4
   refine ⟨h3, h2, ?_⟩
   rw [List.prefix_iff_eq_take, h2, ← h4, ← h2, List.take_length]
  | none =>
   have hno : ∀ w ∈ may, w.2.1.length ≠ n := fun w hw => by
    have := List.find?_eq_none.1 hf w hw
    simpa using this
   have hpre' : ∀ w ∈ M, w.2.1 <+: r → n + 1 ≤ w.2.1.length := by
    intro w hw hp
    have h1 := hpre w hw hp
    by_cases he : w.2.1.length = n
    ·have : w ∈ may := by
      rw [hm, List.mem_filter]
      refine ⟨hw, decide_eq_true ?_⟩
      rw [List.prefix_iff_eq_take] at hp
      rw [← he, List.take_length]
      exact hp
     exact absurd he (hno w this)
    ·omega
   have hex : ∃ w ∈ M, n ≤ lcp w.2.1 r := by
    obtain ⟨w, hw⟩ := List.exists_mem_of_ne_nil _ hne
    have h2 := hl w hw
    rw [hm] at hw
    obtain ⟨h3, h4⟩ := List.mem_filter.1 hw
    exact ⟨w, h3, (lcp_ge n w.2.1 r).2 ⟨of_decide_eq_true h4, h2.1, hn⟩⟩
   cases hr : r[n]? with
   | none =>
    have hrn : r.length ≤ n := List.getElem?_eq_none_iff.1 hr
    refine ⟨fun w hw hp => ?_, fun w hw => ?_, hex⟩
    ·have h1 := hpre' w hw hp
     have := hp.length_le
     omega
    ·have := (lcp_le w.2.1 r).1
     omega
   | some c =>
    have hrn := (List.getElem?_eq_some_iff.1 hr).1
    have hm' : may.filter (fun w => decide (w.2.1[n]? = some c)) = M.filter (fun w => decide (w.2.1.take (n + 1) = r.take (n + 1))) := by
     rw [hm, List.filter_filter]
     congr 1
     funext w
     rw [Bool.eq_iff_iff]
     simp only [Bool.and_eq_true,decide_eq_true_eq]
     rw [take_more hr]
     exact ⟨fun h => ⟨h.2, h.1⟩, fun h => ⟨h.2, h.1⟩⟩
    simp only
    by_cases he : may.filter (fun w => decide (w.2.1[n]? = some c)) = []
    ·rw [if_pos he]
     rw [hm'] at he
     have hnone : ∀ w ∈ M, w.2.1.take (n + 1) ≠ r.take (n + 1) := fun w hw h => by
      have := List.filter_eq_nil_iff.1 he w hw
      simp [h] at this
     refine ⟨fun w hw hp => ?_, fun w hw => ?_, hex⟩
     ·have h1 := hpre' w hw hp
      apply hnone w hw
      obtain ⟨t, rfl⟩ := hp
      rw [List.take_append_of_le_length h1]
     ·by_cases h : lcp w.2.1 r ≤ n
      ·exact h
      ·exact absurd ((lcp_ge (n + 1) w.2.1 r).1 (by omega)).1 (hnone w hw)
    ·rw [if_neg he]
     refine wordGo_spec M r k (n + 1) _ hm' he ?_ hrn hpre'
     intro w hw
     have h1 := (List.mem_filter.1 hw).1
     have h2 := hl w h1
     have h3 := hno w h1
     omega
theorem words_free : ∀ w ∈ words, ∀ v ∈ words, w.2.1 <+: v.2.1 → w = v := by decide
end Go.Abs.Seat
end
section
set_option linter.unusedVariables false
set_option linter.unusedSimpArgs false
namespace Go.Abs.Seat
open Go.Proofs
theorem right_iff (k : Int) (s : Nat) (args : List KT) (d : Int) : rightT (.mk k s args) d = true ↔ (∃ w ∈ words, w.1 = k ∧ (args.length : Int) = w.2.2) ∧ 1 ≤ d ∧ (∀ a ∈ args, rightT a (d - 1) = true) := by
 have hk : ∀ i, kidx k = some i → ∃ w ∈ words, w.1 = k ∧ kcnt i = w.2.2 := by
  intro i hi
  unfold kidx at hi
  obtain ⟨h1, h2, _⟩ := List.findIdx?_eq_some_iff_getElem.1 hi
  refine ⟨words[i], List.getElem_mem h1, of_decide_eq_true h2, ?_⟩
  have : ∀ j, (h : j < words.length) → kcnt j = words[j].2.2 := by decide
  exact this i h1
 have hk2 : ∀ w ∈ words, w.1 = k → ∃ i, kidx k = some i ∧ kcnt i = w.2.2 := by
  intro w hw hwk
  have : ∀ w ∈ words, ∃ i, i < 8 ∧ kidx w.1 = some i ∧ kcnt i = w.2.2 := by decide
  obtain ⟨i, _, h1, h2⟩ := this w hw
  exact ⟨i, by rw [← hwk]; exact h1, h2⟩
 simp only [rightT]
 constructor
 ·intro h
  split at h
  ·rename_i i hi
   split at h
   ·simp at h
   ·split at h
    ·rename_i hl
     obtain ⟨w, hw, h1, h2⟩ := hk i hi
     refine ⟨⟨w, hw, h1, by rw [← h2]; exact hl⟩, by omega, fun a ha => ?_⟩
     rw [rightNot_any] at h
     simp only [Bool.not_eq_true',List.any_eq_false,Bool.not_eq_true',Bool.not_eq_false] at h
     have := h a ha
     simpa using this
    ·simp at h
  ·simp at h
 ·rintro ⟨⟨w, hw, h1, h2⟩, h3, h4⟩
  obtain ⟨i, hi, hc⟩ := hk2 w hw h1
  rw [hi]
  simp only
  rw [if_neg (by omega), if_pos (by rw [hc]; exact h2), rightNot_any]
  simp only [Bool.not_eq_true',List.any_eq_false,Bool.not_eq_true',Bool.not_eq_false]
  intro a ha
  simp [h4 a ha]
theorem gath_of (w : Word) (hw : w ∈ words) : kgath w.1 words = w.2.1 := by
 have : ∀ w ∈ words, kgath w.1 words = w.2.1 := by decide
 exact this w hw
theorem readL_back (s : List UInt8) (rd : Nat → Nat × KT × Bool) : ∀ (l : List KT) (i k : Nat) (acc : List KT) (rest : List UInt8), (∀ a ∈ l, ∀ k rest, s.drop k = showT a ++ rest → rd k = (k + (showT a).length, cloneT a, true)) → s.drop k = showTs l (sepB i) ++ rest → readL rd s l.length i k acc = (k + (showTs l (sepB i)).length, some (acc ++ cloneTs l))
 | [], i, k, acc, rest, _, _ => by simp [readL, showTs, cloneTs]
 | a :: l, i, k, acc, rest, h, hd => by
  have hb : sepB (i + 1) = 44 := by simp [sepB]
  simp only [showTs,List.cons_append,List.append_assoc] at hd
  have hsk : s[k]? = some (sepB i) := by
   have : (s.drop k)[0]? = some (sepB i) := by rw [hd]; rfl
   rwa [List.getElem?_drop, Nat.add_zero] at this
  have hsg : signB s k (sepB i) = true := decide_eq_true hsk
  have hd1 : s.drop (k + 1) = showT a ++ (showTs l 44 ++ rest) := by
   have := congrArg (List.drop 1) hd
   rwa [List.drop_drop, List.drop_one, List.tail_cons] at this
  have hra := h a (by simp) (k + 1) _ hd1
  have hd2 : s.drop (k + 1 + (showT a).length) = showTs l (sepB (i + 1)) ++ rest := by
   have := congrArg (List.drop (showT a).length) hd1
   rwa [List.drop_drop, List.drop_left, ← hb] at this
  have ih := readL_back s rd l (i + 1) (k + 1 + (showT a).length) (acc ++ [cloneT a]) rest (fun x hx => h x (by simp [hx])) hd2
  simp only [List.length_cons,readL,hsg,if_true,hra,ih,hb,showTs,cloneTs,List.length_append,List.append_assoc,List.cons_append,List.nil_append]
  congr 1
  omega
theorem readP_back (s : List UInt8) : ∀ (d : Nat) (t : KT) (k : Nat) (rest : List UInt8), rightT t (d : Int) = true → s.drop k = showT t ++ rest → readP s d k = (k + (showT t).length, cloneT t, true)
 | 0, .mk kk ss args, k, rest, hr, hd => by
  rw [right_iff] at hr
  have := hr.2.1
  omega
 | d + 1, .mk kk ss args, k, rest, hr, hd => by
  rw [right_iff] at hr
  obtain ⟨⟨w, hw, rfl, hlen⟩, _, hargs⟩ := hr
  rw [show (((d + 1 : Nat) : Int)) - 1 = (d : Int) by omega] at hargs
  simp only [showT,gath_of w hw,List.append_assoc] at hd
  have hc := words_cnt w hw
  have hmay : w ∈ mayW ((d : Int) + 1) := by
   simp only [mayW,List.mem_filter,Bool.not_eq_true']
   refine ⟨hw, ?_⟩
   unfold outW
   by_cases h0 : 0 < w.2.2
   ·have hne : args ≠ [] := by
     intro h; subst h; simp at hlen; omega
    obtain ⟨a, ha⟩ := List.exists_mem_of_ne_nil _ hne
    have := hargs a ha
    obtain ⟨ka, sa, la⟩ := a
    rw [right_iff] at this
    have hd1 : decide ((d : Int) + 1 = 1) = false := decide_eq_false (by omega)
    rw [hd1, Bool.and_false]
   ·rw [decide_eq_false h0, Bool.false_and]
  have hwp : w.2.1 <+: s.drop k := by rw [hd]; exact List.prefix_append _ _
  have hspec := wordGo_spec (mayW ((d : Int) + 1)) (s.drop k) 8 0 (mayW ((d : Int) + 1)) (List.filter_eq_self.2 (fun w _ => by simp)).symm (mayW_ne _) (fun w hw => by have := word_len w (List.mem_filter.1 hw).1; omega) (Nat.zero_le _) (fun _ _ _ => Nat.zero_le _)
  simp only [readP]
  unfold word69
  generalize wordGo (s.drop k) 8 (mayW ((d : Int) + 1)) 0 = q at *
  obtain ⟨n, ow⟩ := q
  cases ow with
  | none => exact absurd hwp (hspec.1 w hmay)
  | some v =>
   obtain ⟨hv, hn, hvp⟩ := hspec
   have hvw := (List.mem_filter.1 hv).1
   have hvv : v = w := by
    rcases List.prefix_or_prefix_of_prefix hvp hwp with h | h
    ·exact words_free v hvw w hw h
    ·exact (words_free w hw v hvw h).symm
   subst hvv
   subst hn
   have hd1 : s.drop (k + v.2.1.length) = showTs args 40 ++ ((if args.length = 0 then [] else [41]) ++ rest) := by
    have := congrArg (List.drop v.2.1.length) hd
    rwa [List.drop_drop, List.drop_left] at this
   have hl := readL_back s (readP s d) args 0 (k + v.2.1.length) [] _ (fun a ha k rest h => readP_back s d a k rest (hargs a ha) h) hd1
   have hlt : v.2.2.toNat = args.length := by omega
   have hsep : sepB 0 = 40 := rfl
   simp only
   rw [hlt, hl]
   simp only [List.nil_append,hsep]
   have hcl : (cloneTs args).length = args.length := by rw [cloneTs_map]; simp
   have hmk : mkT v.1 (cloneTs args) = cloneT (.mk v.1 ss args) := by
    simp only [mkT,cloneT,hcl]
   by_cases h0 : v.2.2 = 0
   ·have hl0 : args.length = 0 := by omega
    rw [if_pos h0, hmk]
    simp only [showT,gath_of v hw,hl0,if_true,List.append_nil,List.length_append]
    congr 1
    omega
   ·have hl0 : args.length ≠ 0 := by omega
    rw [if_neg h0, hmk]
    rw [if_neg hl0] at hd1
    have hs41 : signB s (k + v.2.1.length + (showTs args 40).length) 41 = true := by
     have h1 := congrArg (List.drop (showTs args 40).length) hd1
     rw [List.drop_drop, List.drop_left] at h1
     have : (s.drop (k + v.2.1.length + (showTs args 40).length))[0]? = some 41 := by rw [h1]; rfl
     rw [List.getElem?_drop, Nat.add_zero] at this
     exact decide_eq_true this
    rw [hs41]
    simp only [if_true,showT,gath_of v hw,if_neg hl0,List.length_append,List.length_cons,List.length_nil]
    congr 1
    omega
theorem parse_show (t : KT) (h : rightT t 6 = true) : parseP (showT t) = (cloneT t, 0, 0) := by
 have := readP_back (showT t) 6 t 0 [] h (by simp)
 unfold parseP
 rw [this]
 simp
end Go.Abs.Seat
end
section
set_option linter.unusedVariables false
set_option linter.unusedSimpArgs false
namespace Go.Abs.Seat
open Go.Proofs
theorem commas_one (v : Int) : commasL [v] = itoaN v := by
 unfold commasL
 rw [if_neg (by simp)]
 simp [Lib.join_one]
end Go.Abs.Seat
end
section
set_option linter.unusedVariables false
set_option linter.unusedSimpArgs false
namespace Go.Abs.Seat
open Go.Proofs
theorem digC (u : Nat) (h : u < 10) : (UInt8.ofNat (48 + u)).toNat = 48 + u := by
 rw [UInt8.toNat_ofNat']
 omega
theorem digN_all : ∀ (f u : Nat), ∀ c ∈ digN f u, 48 ≤ c.toNat ∧ c.toNat ≤ 57
 | 0, u, c, h => by simp [digN] at h
 | f + 1, u, c, h => by
  unfold digN at h
  split at h
  ·rename_i hu
   simp only [List.mem_cons,List.not_mem_nil,or_false] at h
   subst h
   rw [digC u hu]; omega
  ·simp only [List.mem_append,List.mem_cons,List.not_mem_nil,or_false] at h
   rcases h with h | rfl
   ·exact digN_all f _ c h
   ·rw [digC (u % 10) (by omega)]; omega
theorem digN_short : ∀ (j f u : Nat), u < 10 ^ j → 0 < j → (digN f u).length ≤ j
 | 0, f, u, _, h => by omega
 | j + 1, 0, u, _, _ => by simp [digN]
 | j + 1, f + 1, u, hu, _ => by
  unfold digN
  split
  ·simp
  ·rename_i h
   have hj : 0 < j := by
    rcases Nat.eq_zero_or_pos j with rfl | h1
    ·simp only [Nat.zero_add,Nat.pow_one] at hu; omega
    ·exact h1
   have := digN_short j f (u / 10) (by rw [Nat.pow_succ] at hu; omega) hj
   simp; omega
theorem pu_snoc (c : UInt8) (hc : 48 ≤ c.toNat ∧ c.toNat ≤ 57) : ∀ (l : List UInt8) (acc v : Nat), Lib.parseUint10 acc l = .ok v → v < 100000000000000000 → Lib.parseUint10 acc (l ++ [c]) = .ok (v * 10 + (c.toNat - 48))
 | [], acc, v, h, hv => by
  simp only [Lib.parseUint10,Lib.NumEnd.ok.injEq] at h
  subst h
  simp only [List.nil_append,Lib.parseUint10]
  rw [if_pos hc, if_neg (by omega), if_neg (by omega)]
 | x :: l, acc, v, h, hv => by
  simp only [List.cons_append,Lib.parseUint10] at h ⊢
  split at h
  ·rename_i h1
   rw [if_pos h1]
   split at h
   ·cases h
   ·rename_i h2
    rw [if_neg h2]
    split at h
    ·cases h
    ·rename_i h3
     rw [if_neg h3]
     exact pu_snoc c hc l _ v h hv
  ·cases h
theorem pu_digN : ∀ (f u : Nat), u < 10 ^ f → 0 < f → u < 100000000000000000 → Lib.parseUint10 0 (digN f u) = .ok u
 | 0, u, _, h, _ => by omega
 | f + 1, u, hu, _, hv => by
  unfold digN
  split
  ·rename_i h
   simp only [Lib.parseUint10,digC u h]
   rw [if_pos (by omega), if_neg (by omega), if_neg (by omega)]
   congr 1; omega
  ·rename_i h
   have hf : 0 < f := by
    rcases Nat.eq_zero_or_pos f with rfl | h1
    ·simp only [Nat.zero_add,Nat.pow_one] at hu; omega
    ·exact h1
   have ih := pu_digN f (u / 10) (by rw [Nat.pow_succ] at hu; omega) hf (by omega)
   have hc := digC (u % 10) (by omega)
   rw [pu_snoc _ (by rw [hc]; omega) _ _ _ ih (by omega), hc]
   congr 1; omega
theorem itoa_small {n : Int} (h0 : 0 ≤ n) : itoaN n = digN 20 n.toNat := by
 unfold itoaN
 rw [if_neg (by omega)]
theorem itoa_chars {n : Int} (h0 : 0 ≤ n) : ∀ c ∈ itoaN n, 48 ≤ c.toNat ∧ c.toNat ≤ 57 := by
 rw [itoa_small h0]
 exact digN_all 20 _
theorem itoa_ne (n : Int) : itoaN n ≠ [] := by
 unfold itoaN
 split
 ·simp
 ·unfold digN; split <;> simp
theorem atoi_itoa {n : Int} (h0 : 0 ≤ n) (h1 : n < 100000000000000000) : Lib.atoiAll (itoaN n) = .ok n := by
 have hp := pu_digN 20 n.toNat (by omega) (by decide) (by omega)
 rw [← itoa_small h0] at hp
 have hc := itoa_chars h0
 obtain ⟨c, l, e⟩ := List.exists_cons_of_ne_nil (itoa_ne n)
 rw [e] at hp hc ⊢
 have := hc c (.head _)
 have e1 : ¬ c.toNat = 43 := by omega
 have e2 : ¬ c.toNat = 45 := by omega
 have e3 : ¬ (9223372036854775808 ≤ n.toNat) := by omega
 have e4 : (c :: l = []) = False := by simp
 unfold Lib.atoiAll Lib.parseMag
 simp only [e1,e2,or_self,e4,if_false,hp,e3,not_false_eq_true,and_false,false_and,Lib.NumEnd.ok.injEq]
 omega
theorem num_back {n d : Int} {j : Nat} (h0 : 0 ≤ n) (h1 : n < 10 ^ j) (hj0 : 0 < j) (hj : (j : Int) ≤ d) (hj2 : j ≤ 17) : numV (itoaN n) d = some n := by
 have hp : (10 : Int) ^ j ≤ 10 ^ 17 := by exact_mod_cast Nat.pow_le_pow_right (by decide) hj2
 have hn : n.toNat < 10 ^ j := by
  have : ((10 ^ j : Nat) : Int) = (10 : Int) ^ j := by push_cast; rfl
  omega
 have hl := digN_short j 20 n.toNat hn hj0
 rw [← itoa_small h0] at hl
 unfold numV
 rw [atoi_itoa h0 (by
  have : (10 : Int) ^ 17 = 100000000000000000 := rfl
  omega)]
 simp only
 rw [if_neg (by omega), if_neg (by omega)]
 simp
theorem cut_at (c : UInt8) : ∀ (a r : List UInt8), c ∉ a → cutB c (a ++ c :: r) = (a, r, true)
 | [], r, _ => by simp [cutB]
 | x :: a, r, h => by
  have hx : ¬ x = c := fun e => h (by rw [e]; exact .head _)
  rw [List.cons_append, cutB, if_neg hx, cut_at c a r (fun hm => h (.tail _ hm))]
theorem cut_none (c : UInt8) : ∀ a : List UInt8, c ∉ a → cutB c a = (a, [], false)
 | [], _ => rfl
 | x :: a, h => by
  have hx : ¬ x = c := fun e => h (by rw [e]; exact .head _)
  rw [cutB, if_neg hx, cut_none c a (fun hm => h (.tail _ hm))]
theorem split_join (c : UInt8) : ∀ l : List (List UInt8), l ≠ [] → (∀ x ∈ l, c ∉ x) → splitL c (Lib.join l [c]) = l
 | [], h, _ => absurd rfl h
 | [x], _, h => by
  rw [Lib.join_one, splitL_cut, cut_none c x (h x (.head _))]
  simp
 | x :: y :: l, _, h => by
  have ih := split_join c (y :: l) (by simp) (fun z hz => h z (.tail _ hz))
  rw [join_two, splitL_cut]
  have := cut_at c x (Lib.join (y :: l) [c]) (h x (.head _))
  simp only [List.cons_append,List.nil_append]
  rw [this]
  simp only [if_true,ih]
theorem dig_not {n : Int} (h0 : 0 ≤ n) {c : UInt8} (hc : c.toNat < 48 ∨ 57 < c.toNat) : c ∉ itoaN n := fun h => by
 have := itoa_chars h0 c h
 omega
theorem join_chars (P : UInt8 → Prop) (sep : UInt8) (hs : P sep) : ∀ l : List (List UInt8), (∀ x ∈ l, ∀ c ∈ x, P c) → ∀ c ∈ Lib.join l [sep], P c
 | [], _, c, h => by rw [Lib.join_nil] at h; cases h
 | [x], hx, c, h => by rw [Lib.join_one] at h; exact hx x (.head _) c h
 | x :: y :: l, hx, c, h => by
  rw [join_two] at h
  simp only [List.mem_append,List.mem_cons,List.not_mem_nil,or_false] at h
  rcases h with h | rfl | h
  ·exact hx x (.head _) c h
  ·exact hs
  ·exact join_chars P sep hs (y :: l) (fun z hz => hx z (.tail _ hz)) c h
theorem commas_chars {l : List Int} (h : ∀ k ∈ l, 0 ≤ k) : ∀ c ∈ commasL l, (48 ≤ c.toNat ∧ c.toNat ≤ 57) ∨ c = 44 ∨ c = 45 := by
 unfold commasL
 split
 ·intro c hc
  simp at hc
  exact .inr (.inr hc)
 ·refine join_chars _ 44 (.inr (.inl rfl)) _ (fun x hx c hc => ?_)
  obtain ⟨n, hn, rfl⟩ := List.mem_map.1 hx
  exact .inl (itoa_chars (h n hn) c hc)
theorem commas_not {l : List Int} (h : ∀ k ∈ l, 0 ≤ k) {c : UInt8} (hc : c.toNat < 44 ∨ 57 < c.toNat) : c ∉ commasL l := fun hm => by
 rcases commas_chars h c hm with h1 | rfl | rfl
 ·omega
 ·simp at hc
 ·simp at hc
theorem one_back_f {n : Int} {r : List UInt8} {b : Bool} (h0 : 0 ≤ n) (h1 : n < 1000) : one1 false (itoaN n ++ 32 :: r, b) = (n, (r, b)) := by
 unfold one1 partQ
 simp only [Bool.false_eq_true,if_false]
 rw [cut_at 32 (itoaN n) r (dig_not h0 (.inl (by decide)))]
 simp only [num_back (d := 3) (j := 3) h0 (by simpa using h1) (by decide) (by decide) (by decide)]
 simp
theorem one_back_t {n : Int} {b : Bool} (h0 : 0 ≤ n) (h1 : n < 1000) : (one1 true (itoaN n, b)).1 = n ∧ (one1 true (itoaN n, b)).2.2 = b := by
 unfold one1 partQ
 simp only [if_true,num_back (d := 3) (j := 3) h0 (by simpa using h1) (by decide) (by decide) (by decide)]
 simp
theorem num_back_f {n : Int} {r : List UInt8} {b : Bool} (h0 : 0 ≤ n) (h1 : n < 10000000) : num1 false (itoaN n ++ 32 :: r, b) = (n, (r, b)) := by
 unfold num1 partQ
 simp only [Bool.false_eq_true,if_false]
 rw [cut_at 32 (itoaN n) r (dig_not h0 (.inl (by decide)))]
 simp only [num_back (d := 7) (j := 7) h0 (by simpa using h1) (by decide) (by decide) (by decide)]
 simp
theorem num_back_t {n : Int} {b : Bool} (h0 : 0 ≤ n) (h1 : n < 10000000) : (num1 true (itoaN n, b)).1 = n ∧ (num1 true (itoaN n, b)).2.2 = b := by
 unfold num1 partQ
 simp only [if_true,num_back (d := 7) (j := 7) h0 (by simpa using h1) (by decide) (by decide) (by decide)]
 simp
theorem vals_back : ∀ l : List Int, (∀ k ∈ l, 0 ≤ k ∧ k < 1000) → (l.map itoaN).map valN = l ∧ (l.map itoaN).any badN = false
 | [], _ => ⟨rfl, rfl⟩
 | k :: l, h => by
  obtain ⟨h1, h2⟩ := h k (.head _)
  obtain ⟨i1, i2⟩ := vals_back l (fun x hx => h x (.tail _ hx))
  have hn := num_back (d := 3) (j := 3) h1 (by simpa using h2) (by decide) (by decide) (by decide)
  simp only [List.map_cons,List.any_cons,i1,i2,valN,badN,hn]
  exact ⟨rfl, rfl⟩
theorem places_back {last none : Bool} {r : List UInt8} {l : List Int} (hp : (partQ last r).1 = commasL l) (hl : ∀ k ∈ l, 0 ≤ k ∧ k < 1000) (hr : l ≠ [] → risesB l 1 4 = true) (hn : l = [] → none = true) : placesQ last none r = (l, (partQ last r).2.1, (partQ last r).2.2) := by
 unfold placesQ
 rw [hp]
 by_cases he : l = []
 ·rw [if_pos ⟨hn he, by rw [he]; rfl⟩, he]
 ·have hsp : splitL 44 (commasL l) = l.map itoaN := by
   unfold commasL
   rw [if_neg he]
   exact split_join 44 _ (by simpa using he) (fun x hx => by obtain ⟨n, hn, rfl⟩ := List.mem_map.1 hx; exact dig_not (hl n hn).1 (.inl (by decide)))
  obtain ⟨v1, v2⟩ := vals_back l hl
  have hne : commasL l ≠ [45] := fun e => by
   obtain ⟨k, l', rfl⟩ := List.exists_cons_of_ne_nil he
   have hk := (hl k (.head _)).1
   have hm : (45 : UInt8) ∈ commasL (k :: l') := by rw [e]; exact .head _
   obtain ⟨a, t, ea⟩ := List.exists_cons_of_ne_nil (itoa_ne k)
   have ha := itoa_chars hk a (by rw [ea]; exact .head _)
   unfold commasL at e
   rw [if_neg (by simp), List.map_cons, Lib.join_cons, ea] at e
   injection e with e1 e2
   rw [e1] at ha
   exact absurd ha.1 (by decide)
  rw [if_neg (fun h => hne h.2), hsp, v1, v2, hr he]
  simp
end Go.Abs.Seat
end
section
set_option linter.unusedVariables false
set_option linter.unusedSimpArgs false
namespace Go.Abs.Seat
open Go.Proofs
mutual
theorem show_chars : ∀ (t : KT), ∀ c ∈ showT t, 32 ≤ c.toNat ∧ c.toNat ≤ 126
 | .mk k s args, c, h => by
  have hw : ∀ w ∈ words, ∀ c ∈ w.2.1, 32 ≤ c.toNat ∧ c.toNat ≤ 126 := by decide
  have hg : ∀ (k : Int) (l : List Word), (∀ w ∈ l, ∀ c ∈ w.2.1, 32 ≤ c.toNat ∧ c.toNat ≤ 126) → ∀ c ∈ kgath k l, 32 ≤ c.toNat ∧ c.toNat ≤ 126 := by
   intro k l
   induction l with
   | nil => intro _ c h; simp [kgath] at h
   | cons a l ih =>
    intro hl c hc
    rw [kgath] at hc
    rcases List.mem_append.1 hc with hc | hc
    ·split at hc
     ·exact hl a (.head _) c hc
     ·cases hc
    ·exact ih (fun w hw => hl w (.tail _ hw)) c hc
  have ih := show_charss args
  rw [showT] at h
  rcases List.mem_append.1 h with h | h
  ·exact hg k words hw c h
  rcases List.mem_append.1 h with h | h
  ·exact ih 40 (by decide) c h
  ·split at h
   ·cases h
   ·rw [List.mem_singleton.1 h]; decide
theorem show_charss : ∀ (l : List KT) (a : UInt8), 32 ≤ a.toNat ∧ a.toNat ≤ 126 → ∀ c ∈ showTs l a, 32 ≤ c.toNat ∧ c.toNat ≤ 126
 | [], a, ha, c, h => by simp [showTs] at h
 | t :: l, a, ha, c, h => by
  have h1 := show_chars t
  have h2 := show_charss l 44 (by decide)
  simp only [showTs,List.mem_append,List.mem_cons,List.not_mem_nil,or_false] at h
  rcases h with h | h | h
  ·rw [h]; exact ha
  ·exact h1 c h
  ·exact h2 c h
end
theorem text_chars {s : List UInt8} (h : textB s = true) : ∀ c ∈ s, 32 ≤ c.toNat ∧ c.toNat ≤ 126 := fun c hc => by
 unfold textB at h
 simp only [Bool.and_eq_true,Bool.not_eq_true'] at h
 have := List.any_eq_false.1 h.2 c hc
 unfold oddC at this
 simp only [Bool.or_eq_true,decide_eq_true_eq,not_or] at this
 omega
theorem rises_one {l : List Int} (h : risesB l 1 1 = true) : ∃ k, l = [k] := by
 simp [risesB] at h
 have : l.length = 1 := by omega
 exact List.length_eq_one_iff.1 this
theorem rises_none {l : List Int} {x : Int} (h : risesB l x 0 = true) : l = [] := by
 unfold risesB at h
 simp only [Bool.and_eq_true,decide_eq_true_eq] at h
 exact List.length_eq_zero_iff.1 (by omega)
theorem rises_four {l : List Int} (h : risesB l 0 4 = true) (hne : l ≠ []) : risesB l 1 4 = true := by
 have := List.length_pos_iff.2 hne
 simp [risesB] at h ⊢
 exact ⟨h.1, by omega, h.2⟩
structure Like (g g' : GN) : Prop where
 op : g'.op = g.op
 ins : g'.ins = g.ins
 side : g'.side = g.side
 txt : g'.txt = g.txt
 fk : g'.fk = g.fk
 fs : g'.fs = g.fs
 fp : g'.fp = g.fp
 fo : g'.fo = g.fo
 te : g'.te = g.te
 tl : g'.tl = g.tl
 tt : g'.tt = g.tt
 acc : g.op = 4 ∨ trZ g = true → g'.acc = g.acc
 ty : g'.ty = if g.op = 1 then cloneT g.ty else zeroT
def lineB (g : GN) : List UInt8 := Lib.join (partsG g) [32]
structure Right (g : GN) : Prop where
 op : 1 ≤ g.op ∧ g.op ≤ 6
 ir : ∀ k ∈ g.ins, 0 ≤ k ∧ k < 1000
 sr : ∀ k ∈ g.side, 0 ≤ k ∧ k < 1000
 i1 : (if g.op = 1 then risesB g.ins 0 0 else if g.op = 5 then risesB g.ins 1 4 else risesB g.ins 1 1) = true
 s1 : risesB g.side 0 (if g.op = 2 then 4 else 0) = true
 fm : formB g = true
theorem word_cut (w r : List UInt8) (h : (32 : UInt8) ∉ w) : cutB 32 (w ++ 32 :: r) = (w, r, true) := cut_at 32 w r h
theorem fnZ_eq {g : GN} (h : fnZ g = true) : g.fk = 0 ∧ g.fs = 0 ∧ g.fp = 0 ∧ g.fo = 0 := by
 simp [fnZ] at h
 exact h
theorem trZ_eq {g : GN} (h : trZ g = true) : g.te = 0 ∧ g.tl = 0 ∧ g.tt = 0 ∧ g.acc = false := by
 simp [trZ] at h
 exact h
theorem fnB_range {k s p o : Int} (h : fnB k s p o = true) : (0 ≤ k ∧ k < 10000000) ∧ (0 ≤ s ∧ s < 10000000) ∧ (0 ≤ p ∧ p < 10000000) ∧ (0 ≤ o ∧ o < 10000000) := by
 unfold fnB at h
 split at h
 ·simp at h; omega
 split at h
 ·simp [btw_iff] at h; omega
 split at h
 ·simp [btw_iff] at h; omega
 split at h
 ·simp [btw_iff] at h; omega
 ·cases h
theorem trigB_range {e l t : Int} (h : trigB e l t = true) : (0 ≤ e ∧ e < 10000000) ∧ (0 ≤ l ∧ l < 10000000) ∧ (0 ≤ t ∧ t < 10000000) := by
 simp [trigB, btw_iff] at h
 omega
theorem rw_Source (s : List UInt8 × Bool) : readW wSource s = rdSource s := by
 unfold readW
 rw [if_pos rfl]
theorem rw_Each (s : List UInt8 × Bool) : readW wEach s = rdEach s := by
 unfold readW
 rw [if_neg (by decide)]; rw [if_pos rfl]
theorem rw_Window (s : List UInt8 × Bool) : readW wWindow s = rdWindow s := by
 unfold readW
 rw [if_neg (by decide)]; rw [if_neg (by decide)]; rw [if_pos rfl]
theorem rw_Group (s : List UInt8 × Bool) : readW wGroup s = rdGroup s := by
 unfold readW
 rw [if_neg (by decide)]; rw [if_neg (by decide)]; rw [if_neg (by decide)]; rw [if_pos rfl]
theorem rw_Flatten (s : List UInt8 × Bool) : readW wFlatten s = rdFlatten s := by
 unfold readW
 rw [if_neg (by decide)]; rw [if_neg (by decide)]; rw [if_neg (by decide)]; rw [if_neg (by decide)]; rw [if_pos rfl]
theorem rw_Sink (s : List UInt8 × Bool) : readW wSink s = rdSink s := by
 unfold readW
 rw [if_neg (by decide)]; rw [if_neg (by decide)]; rw [if_neg (by decide)]; rw [if_neg (by decide)]; rw [if_neg (by decide)]; rw [if_pos rfl]
theorem read_back (g : GN) (h : Right g) : (readG (lineB g)).2 = true ∧ Like g (readG (lineB g)).1 := by
 obtain ⟨hop, hir, hsr, hi1, hs1, hfm⟩ := h
 unfold formB at hfm
 rcases (by omega : g.op = 1 ∨ g.op = 2 ∨ g.op = 3 ∨ g.op = 4 ∨ g.op = 5 ∨ g.op = 6) with e | e | e | e | e | e
 ·rw [if_pos e] at hi1 hfm
  rw [if_neg (by omega)] at hs1
  have hins := rises_none hi1
  have hside := rises_none hs1
  simp only [Bool.and_eq_true,decide_eq_true_eq] at hfm
  obtain ⟨⟨⟨f1, f2⟩, f3⟩, f4⟩ := hfm
  have z1 := fnZ_eq f3
  have z2 := trZ_eq f4
  have hr : rightT g.ty 6 = true := by
   unfold checkT at f2
   split at f2
   ·assumption
   ·simp at f2
  have hl : lineB g = wSource ++ 32 :: showT g.ty := by
   unfold lineB partsG
   rw [if_pos e, join_two, Lib.join_one]; rfl
  have hp := parse_show g.ty hr
  rw [hl]
  unfold readG
  rw [word_cut wSource _ (by decide)]
  simp only [rw_Source,rdSource,hp,Bool.not_true,decide_true,Bool.or_self,Bool.not_false]
  exact ⟨trivial, e.symm, hins.symm, hside.symm, f1.symm, z1.1.symm, z1.2.1.symm, z1.2.2.1.symm, z1.2.2.2.symm, z2.1.symm, z2.2.1.symm, z2.2.2.1.symm, fun _ => z2.2.2.2.symm, by rw [if_pos e]⟩
 ·rw [if_neg (by omega), if_neg (by omega)] at hi1
  rw [if_pos e] at hs1
  rw [if_neg (by omega), if_pos e] at hfm
  obtain ⟨k, hk⟩ := rises_one hi1
  have hkr := hir k (by rw [hk]; exact .head _)
  simp only [Bool.and_eq_true,decide_eq_true_eq] at hfm
  obtain ⟨⟨⟨f1, f2⟩, f3⟩, f4⟩ := hfm
  have z1 := fnZ_eq f3
  have z2 := trZ_eq f4
  have hl : lineB g = wEach ++ 32 :: (itoaN k ++ 32 :: (commasL g.side ++ 32 :: g.txt)) := by
   unfold lineB partsG
   rw [if_neg (by omega), if_pos e, hk, commas_one]
   simp only [join_two,Lib.join_one]; rfl
  have hpq : partQ false (commasL g.side ++ 32 :: g.txt) = (commasL g.side, g.txt, false) := by
   unfold partQ
   rw [cut_at 32 _ _ (commas_not (fun k hk => (hsr k hk).1) (.inl (by decide)))]
   rfl
  have hpl := places_back (last := false) (none := true) (r := commasL g.side ++ 32 :: g.txt) (l := g.side) (by rw [hpq]) hsr (rises_four hs1) (fun _ => rfl)
  rw [hpq] at hpl
  rw [hl]
  unfold readG
  rw [word_cut wEach _ (by decide)]
  simp only [rw_Each,rdEach,one_back_f hkr.1 hkr.2,pls,hpl,Bool.not_true,Bool.or_self,f1]
  exact ⟨rfl, e.symm, hk.symm, rfl, rfl, z1.1.symm, z1.2.1.symm, z1.2.2.1.symm, z1.2.2.2.symm, z2.1.symm, z2.2.1.symm, z2.2.2.1.symm, fun _ => z2.2.2.2.symm, by rw [if_neg (by omega)]; rfl⟩
 ·rw [if_neg (by omega), if_neg (by omega)] at hi1
  rw [if_neg (by omega)] at hs1
  rw [if_neg (by omega), if_neg (by omega), if_pos e] at hfm
  obtain ⟨k, hk⟩ := rises_one hi1
  have hkr := hir k (by rw [hk]; exact .head _)
  have hside := rises_none hs1
  simp only [Bool.and_eq_true,decide_eq_true_eq] at hfm
  obtain ⟨⟨⟨f1, f2⟩, f3⟩, f4⟩ := hfm
  obtain ⟨n1, n2, n3, n4'⟩ := fnB_range f3
  have z2 := trZ_eq f4
  have hl : lineB g = wWindow ++ 32 :: (itoaN k ++ 32 :: (itoaN g.fk ++ 32 :: (itoaN g.fs ++ 32 :: (itoaN g.fp ++ 32 :: itoaN g.fo)))) := by
   unfold lineB partsG
   rw [if_neg (by omega), if_neg (by omega), if_pos e, hk, commas_one]
   simp only [join_two,Lib.join_one]; rfl
  have ht := num_back_t (b := false) n4'.1 n4'.2
  rw [hl]
  unfold readG
  rw [word_cut wWindow _ (by decide)]
  simp only [rw_Window,rdWindow,n4,one_back_f hkr.1 hkr.2,num_back_f n1.1 n1.2,num_back_f n2.1 n2.2,num_back_f n3.1 n3.2,ht.2,Bool.not_true]
  exact ⟨rfl, e.symm, hk.symm, hside.symm, f1.symm, rfl, rfl, rfl, ht.1, z2.1.symm, z2.2.1.symm, z2.2.2.1.symm, fun _ => z2.2.2.2.symm, by rw [if_neg (by omega)]; rfl⟩
 ·rw [if_neg (by omega), if_neg (by omega)] at hi1
  rw [if_neg (by omega)] at hs1
  rw [if_neg (by omega), if_neg (by omega), if_neg (by omega), if_pos e] at hfm
  obtain ⟨k, hk⟩ := rises_one hi1
  have hkr := hir k (by rw [hk]; exact .head _)
  have hside := rises_none hs1
  simp only [Bool.and_eq_true,decide_eq_true_eq] at hfm
  obtain ⟨⟨⟨f1, f2⟩, f3⟩, f4⟩ := hfm
  have z1 := fnZ_eq f3
  obtain ⟨n1, n2, n3⟩ := trigB_range f4
  have hl : lineB g = wGroup ++ 32 :: (itoaN k ++ 32 :: (itoaN g.te ++ 32 :: (itoaN g.tl ++ 32 :: (itoaN g.tt ++ 32 :: (howG g.acc ++ 32 :: g.txt))))) := by
   unfold lineB partsG
   rw [if_neg (by omega), if_neg (by omega), if_neg (by omega), if_pos e, hk, commas_one]
   simp only [join_two,Lib.join_one]; rfl
  have hhow : (32 : UInt8) ∉ howG g.acc := by unfold howG; split <;> decide
  have hpr : prt (howG g.acc ++ 32 :: g.txt, false) = (howG g.acc, (g.txt, false)) := by
   unfold prt partQ
   simp only [Bool.false_eq_true,if_false]
   rw [cut_at 32 _ _ hhow]
   rfl
  have ha : decide (howG g.acc = [97, 99, 99]) = g.acc ∧ (!g.acc && !decide (howG g.acc = [100, 105, 115])) = false := by
   cases g.acc <;> decide
  rw [hl]
  unfold readG
  rw [word_cut wGroup _ (by decide)]
  have h3 : hw3 (itoaN k ++ 32 :: (itoaN g.te ++ 32 :: (itoaN g.tl ++ 32 :: (itoaN g.tt ++ 32 :: (howG g.acc ++ 32 :: g.txt)))), false) = (howG g.acc, (g.txt, false)) := by
   unfold hw3 n4
   rw [one_back_f hkr.1 hkr.2, num_back_f n1.1 n1.2, num_back_f n2.1 n2.2, num_back_f n3.1 n3.2]
   exact hpr
  simp only [rw_Group,rdGroup,h3,n4,one_back_f hkr.1 hkr.2,num_back_f n1.1 n1.2,num_back_f n2.1 n2.2,num_back_f n3.1 n3.2,ha.1,ha.2,f1,Bool.not_true,Bool.or_self]
  exact ⟨rfl, e.symm, hk.symm, hside.symm, rfl, z1.1.symm, z1.2.1.symm, z1.2.2.1.symm, z1.2.2.2.symm, rfl, rfl, rfl, fun _ => rfl, by rw [if_neg (by omega)]; rfl⟩
 ·rw [if_neg (by omega), if_pos e] at hi1
  rw [if_neg (by omega)] at hs1
  rw [if_neg (by omega), if_neg (by omega), if_neg (by omega), if_neg (by omega)] at hfm
  have hside := rises_none hs1
  simp only [Bool.and_eq_true,decide_eq_true_eq] at hfm
  obtain ⟨⟨⟨f1, f2⟩, f3⟩, f4⟩ := hfm
  have z1 := fnZ_eq f3
  have z2 := trZ_eq f4
  have hne : g.ins ≠ [] := fun he => by rw [he] at hi1; simp [risesB] at hi1
  have hl : lineB g = wFlatten ++ 32 :: commasL g.ins := by
   unfold lineB partsG
   rw [if_neg (by omega), if_neg (by omega), if_neg (by omega), if_neg (by omega), if_pos e]
   simp only [join_two,Lib.join_one]; rfl
  have hpl := places_back (last := true) (none := false) (r := commasL g.ins) (l := g.ins) rfl hir (fun _ => hi1) (fun he => absurd he hne)
  rw [hl]
  unfold readG
  rw [word_cut wFlatten _ (by decide)]
  simp only [rw_Flatten,rdFlatten,pls,hpl,partQ,if_true,Bool.not_true,Bool.or_self]
  exact ⟨rfl, e.symm, rfl, hside.symm, f1.symm, z1.1.symm, z1.2.1.symm, z1.2.2.1.symm, z1.2.2.2.symm, z2.1.symm, z2.2.1.symm, z2.2.2.1.symm, fun _ => z2.2.2.2.symm, by rw [if_neg (by omega)]; rfl⟩
 ·rw [if_neg (by omega), if_neg (by omega)] at hi1
  rw [if_neg (by omega)] at hs1
  rw [if_neg (by omega), if_neg (by omega), if_neg (by omega), if_neg (by omega)] at hfm
  obtain ⟨k, hk⟩ := rises_one hi1
  have hkr := hir k (by rw [hk]; exact .head _)
  have hside := rises_none hs1
  simp only [Bool.and_eq_true,decide_eq_true_eq] at hfm
  obtain ⟨⟨⟨f1, f2⟩, f3⟩, f4⟩ := hfm
  have z1 := fnZ_eq f3
  have z2 := trZ_eq f4
  have hl : lineB g = wSink ++ 32 :: itoaN k := by
   unfold lineB partsG
   rw [if_neg (by omega), if_neg (by omega), if_neg (by omega), if_neg (by omega), if_neg (by omega), hk, commas_one]
   simp only [join_two,Lib.join_one]; rfl
  have ht := one_back_t (b := false) hkr.1 hkr.2
  rw [hl]
  unfold readG
  rw [word_cut wSink _ (by decide)]
  simp only [rw_Sink,rdSink,ht.2,Bool.not_true]
  exact ⟨rfl, e.symm, by rw [hk]; show [(one1 true (itoaN k, false)).1] = [k]; rw [ht.1], hside.symm, f1.symm, z1.1.symm, z1.2.1.symm, z1.2.2.1.symm, z1.2.2.2.symm, z2.1.symm, z2.2.1.symm, z2.2.2.1.symm, fun _ => z2.2.2.2.symm, by rw [if_neg (by omega)]; rfl⟩
end Go.Abs.Seat
end
section
set_option linter.unusedVariables false
set_option linter.unusedSimpArgs false
namespace Go.Abs.Seat
open Go.Proofs
def Plain (c : UInt8) : Prop := 32 ≤ c.toNat ∧ c.toNat ≤ 126
theorem nums_plain {n : Int} (h : 0 ≤ n) : ∀ c ∈ itoaN n, Plain c := fun c hc => by
 have := itoa_chars h c hc
 exact ⟨by omega, by omega⟩
theorem commas_plain {l : List Int} (h : ∀ k ∈ l, 0 ≤ k) : ∀ c ∈ commasL l, Plain c := fun c hc => by
 rcases commas_chars h c hc with h1 | rfl | rfl
 ·exact ⟨by omega, by omega⟩
 ·exact ⟨by decide, by decide⟩
 ·exact ⟨by decide, by decide⟩
theorem words_plain : ∀ w ∈ [wSource, wEach, wWindow, wGroup, wFlatten, wSink], ∀ c ∈ w, 32 ≤ c.toNat ∧ c.toNat ≤ 126 := by decide
theorem how_plain (b : Bool) : ∀ c ∈ howG b, Plain c := by
 have : ∀ b, ∀ c ∈ howG b, 32 ≤ c.toNat ∧ c.toNat ≤ 126 := by decide
 exact this b
theorem line_plain (g : GN) (h : Right g) : ∀ c ∈ lineB g, Plain c := by
 obtain ⟨hop, hir, hsr, hi1, hs1, hfm⟩ := h
 have q1 := commas_plain (fun k hk => (hir k hk).1)
 have q2 := commas_plain (fun k hk => (hsr k hk).1)
 have qw := words_plain
 unfold lineB
 refine join_chars Plain 32 ⟨by decide, by decide⟩ _ ?_
 unfold formB at hfm
 unfold partsG
 split
 ·rename_i e
  intro x hx
  simp only [List.mem_cons,List.not_mem_nil,or_false] at hx
  rcases hx with rfl | rfl
  ·exact qw _ (by simp)
  ·exact show_chars g.ty
 split
 ·rename_i e0 e
  rw [if_neg e0, if_pos e] at hfm
  simp only [Bool.and_eq_true] at hfm
  intro x hx
  simp only [List.mem_cons,List.not_mem_nil,or_false] at hx
  rcases hx with rfl | rfl | rfl | rfl
  ·exact qw _ (by simp)
  ·exact q1
  ·exact q2
  ·exact text_chars hfm.1.1.1
 split
 ·rename_i e0 e1 e
  rw [if_neg e0, if_neg e1, if_pos e] at hfm
  simp only [Bool.and_eq_true] at hfm
  obtain ⟨n1, n2, n3, n4'⟩ := fnB_range hfm.1.2
  intro x hx
  simp only [List.mem_cons,List.not_mem_nil,or_false] at hx
  rcases hx with rfl | rfl | rfl | rfl | rfl | rfl
  ·exact qw _ (by simp)
  ·exact q1
  ·exact nums_plain n1.1
  ·exact nums_plain n2.1
  ·exact nums_plain n3.1
  ·exact nums_plain n4'.1
 split
 ·rename_i e0 e1 e2 e
  rw [if_neg e0, if_neg e1, if_neg e2, if_pos e] at hfm
  simp only [Bool.and_eq_true] at hfm
  obtain ⟨n1, n2, n3⟩ := trigB_range hfm.2
  intro x hx
  simp only [List.mem_cons,List.not_mem_nil,or_false] at hx
  rcases hx with rfl | rfl | rfl | rfl | rfl | rfl | rfl
  ·exact qw _ (by simp)
  ·exact q1
  ·exact nums_plain n1.1
  ·exact nums_plain n2.1
  ·exact nums_plain n3.1
  ·exact how_plain _
  ·exact text_chars hfm.1.1.1
 split
 ·intro x hx
  simp only [List.mem_cons,List.not_mem_nil,or_false] at hx
  rcases hx with rfl | rfl
  ·exact qw _ (by simp)
  ·exact q1
 ·intro x hx
  simp only [List.mem_cons,List.not_mem_nil,or_false] at hx
  rcases hx with rfl | rfl
  ·exact qw _ (by simp)
  ·exact q1
theorem line_ten (g : GN) (h : Right g) : (10 : UInt8) ∉ lineB g := fun hm => by
 have := (line_plain g h 10 hm).1
 exact absurd this (by decide)
theorem lineG_eq (g : GN) : lineG g = lineB g ++ [10] := rfl
def backG (g : GN) : GN := (readG (lineB g)).1
theorem parseF_show : ∀ (P : List GN) (f : Nat) (acc : List GN), (∀ g ∈ P, Right g) → (showL P).length < f → parseF f (showL P) acc = (acc ++ P.map backG, true)
 | [], f + 1, acc, _, _ => by simp [parseF, showL]
 | [], 0, acc, _, h => absurd h (by simp [showL])
 | g :: l, 0, acc, _, h => absurd h (by omega)
 | g :: l, f + 1, acc, hr, hf => by
  have hg := hr g (.head _)
  have hb := read_back g hg
  have hs : showL (g :: l) = lineB g ++ 10 :: showL l := by
   rw [showL, lineG_eq]; simp
  rw [hs] at hf ⊢
  unfold parseF
  rw [if_neg (by simp), cut_at 10 _ _ (line_ten g hg)]
  simp only [hb.1,and_self,if_true]
  rw [parseF_show l f (acc ++ [(readG (lineB g)).1]) (fun x hx => hr x (.tail _ hx)) (by simp at hf; omega)]
  simp [backG]
theorem form_like {g g' : GN} (hl : Like g g') (hf : formB g = true) : formB g' = true := by
 obtain ⟨o1, o2, o3, o4, o5, o6, o7, o8, o9, o10, o11, o12, o13⟩ := hl
 have hz : trZ g = true → trZ g' = true := fun h => by
  have ha := o12 (.inr h)
  unfold trZ at h ⊢
  rw [o9, o10, o11, ha]; exact h
 have hz2 : fnZ g = true → fnZ g' = true := fun h => by
  unfold fnZ at h ⊢
  rw [o5, o6, o7, o8]; exact h
 have hty : g.op ≠ 1 → tyZ g' = true := fun h => by
  unfold tyZ
  rw [o13, if_neg h]; rfl
 unfold formB at hf ⊢
 rw [o1, o4]
 split at hf
 ·rename_i e
  rw [if_pos e]
  simp only [Bool.and_eq_true,decide_eq_true_eq] at hf ⊢
  refine ⟨⟨⟨hf.1.1.1, ?_⟩, hz2 hf.1.2⟩, hz hf.2⟩
  have := hf.1.1.2
  unfold checkT at this ⊢
  rw [o13, if_pos e, clone_right]; exact this
 rename_i e0
 rw [if_neg e0]
 split at hf
 ·rename_i e
  rw [if_pos e]
  simp only [Bool.and_eq_true] at hf ⊢
  exact ⟨⟨⟨hf.1.1.1, hty e0⟩, hz2 hf.1.2⟩, hz hf.2⟩
 rename_i e1
 rw [if_neg e1]
 split at hf
 ·rename_i e
  rw [if_pos e]
  simp only [Bool.and_eq_true] at hf ⊢
  refine ⟨⟨⟨hf.1.1.1, hty e0⟩, ?_⟩, hz hf.2⟩
  rw [o5, o6, o7, o8]; exact hf.1.2
 rename_i e2
 rw [if_neg e2]
 split at hf
 ·rename_i e
  rw [if_pos e]
  simp only [Bool.and_eq_true] at hf ⊢
  refine ⟨⟨⟨hf.1.1.1, hty e0⟩, hz2 hf.1.2⟩, ?_⟩
  rw [o9, o10, o11]; exact hf.2
 rename_i e3
 rw [if_neg e3]
 simp only [Bool.and_eq_true] at hf ⊢
 exact ⟨⟨⟨hf.1.1.1, hty e0⟩, hz2 hf.1.2⟩, hz hf.2⟩
theorem bad_congr {p p' : List GN} {i : Nat} (h : ∀ m : Nat, m < i → opAt p m = opAt p' m) (l : List Int) : l.any (badB p (i : Int)) = l.any (badB p' (i : Int)) := by
 induction l with
 | nil => rfl
 | cons k l ih =>
  rw [List.any_cons, List.any_cons, ih]
  congr 1
  unfold badB
  split
  ·rfl
  ·split
   ·rfl
   ·rw [h k.toNat (by omega)]
theorem inputs_congr {p p' : List GN} {i : Nat} {g g' : GN} (h : ∀ m : Nat, m < i → opAt p m = opAt p' m) (ho : g'.op = g.op) (hi : g'.ins = g.ins) (hs : g'.side = g.side) : inputsB p' i g' = inputsB p i g := by
 unfold inputsB
 rw [ho, hi, hs, bad_congr h, bad_congr h]
theorem checkF_of (p : List GN) : ∀ (l : List GN) (i : Nat), (∀ j g, l[j]? = some g → (1 ≤ g.op ∧ g.op ≤ 6) ∧ inputsB p (i + j) g = true ∧ formB g = true) → checkF p l i = (0, 0)
 | [], i, h => rfl
 | x :: l, i, h => by
  obtain ⟨h1, h2, h3⟩ := h 0 x rfl
  rw [Nat.add_zero] at h2
  unfold checkF
  rw [if_neg (by omega), if_pos h2, if_pos h3]
  exact checkF_of p l (i + 1) (fun j g hg => by
   have := h (j + 1) g (by simpa using hg)
   rwa [show i + (j + 1) = i + 1 + j by omega] at this)
theorem checkB_of {p : List GN} (h1 : 1 ≤ p.length) (h2 : p.length ≤ 32) (h : ∀ j g, p[j]? = some g → (1 ≤ g.op ∧ g.op ≤ 6) ∧ inputsB p j g = true ∧ formB g = true) : checkB p = (0, 0) := by
 unfold checkB
 rw [if_neg (by omega)]
 exact checkF_of p p 0 (fun j g hg => by rw [Nat.zero_add]; exact h j g hg)
theorem fine_len {p : List GN} (h : (checkB p).2 = 0) : 1 ≤ p.length := by
 unfold checkB at h
 split at h
 ·simp at h
 ·omega
theorem fine_right {p : List GN} (h : (checkB p).2 = 0) : ∀ g ∈ p, Right g := fun g hg => by
 obtain ⟨j, hj⟩ := List.mem_iff_getElem?.1 hg
 obtain ⟨_, hl, hall⟩ := fine_all h
 obtain ⟨ho, hi, hf⟩ := hall j g hj
 have hjl := (List.getElem?_eq_some_iff.1 hj).1
 have hd := inputs_down hi
 have hi' := hi
 unfold inputsB at hi'
 simp only [Bool.and_eq_true] at hi'
 refine ⟨ho, fun k hk => ?_, fun k hk => ?_, hi'.1.1.1, hi'.1.1.2, hf⟩
 ·have := hd k (by unfold ksG; exact List.mem_append_left _ hk); omega
 ·have := hd k (by unfold ksG; exact List.mem_append_right _ hk); omega
theorem parse_showL {p : List GN} (h : (checkB p).2 = 0) : parseG (showL p) = (p.map backG, 0, 0) := by
 have hr := fine_right h
 obtain ⟨_, hl, hall⟩ := fine_all h
 have hf := parseF_show p ((showL p).length + 1) [] hr (by omega)
 rw [List.nil_append] at hf
 have hop : ∀ m : Nat, opAt p m = opAt (p.map backG) m := fun m => by
  unfold opAt
  rw [List.getElem?_map]
  cases hm : p[m]? with
  | none => rfl
  | some g => simp only [Option.map_some]; exact ((read_back g (hr g (List.mem_of_getElem? hm))).2.op).symm
 have hc : checkB (p.map backG) = (0, 0) := checkB_of (by rw [List.length_map]; exact fine_len h) (by rw [List.length_map]; exact hl) (fun j g' hg' => by
  rw [List.getElem?_map] at hg'
  cases hg : p[j]? with
  | none => rw [hg] at hg'; simp at hg'
  | some g =>
   rw [hg] at hg'
   simp only [Option.map_some,Option.some.injEq] at hg'
   subst hg'
   obtain ⟨ho, hi, hfm⟩ := hall j g hg
   have hlk : Like g (backG g) := (read_back g (hr g (List.mem_of_getElem? hg))).2
   exact ⟨by rw [hlk.op]; exact ho, by rw [inputs_congr (fun m _ => hop m) hlk.op hlk.ins hlk.side]; exact hi, form_like hlk hfm⟩)
 unfold parseG
 rw [hf]
 simp only [if_true,hc]
theorem check_take {p : List GN} (h : (checkB p).2 = 0) {k : Nat} (h1 : 1 ≤ k) (h2 : k ≤ p.length) : checkB (p.take k) = (0, 0) := by
 obtain ⟨_, hl, hall⟩ := fine_all h
 refine checkB_of (by rw [List.length_take]; omega) (by rw [List.length_take]; omega) (fun j g hg => ?_)
 have hjk : j < k := by
  have := (List.getElem?_eq_some_iff.1 hg).1
  rw [List.length_take] at this
  omega
 rw [List.getElem?_take_of_lt hjk] at hg
 obtain ⟨ho, hi, hf⟩ := hall j g hg
 refine ⟨ho, ?_, hf⟩
 rw [inputs_congr (p := p) (fun m hm => ?_) rfl rfl rfl]
 ·exact hi
 ·unfold opAt
  rw [List.getElem?_take_of_lt (by omega)]
theorem showL_app : ∀ a b : List GN, showL (a ++ b) = showL a ++ showL b
 | [], b => rfl
 | g :: a, b => by
  simp only [List.cons_append,showL,showL_app a b,List.append_assoc]
theorem showL_count : ∀ p : List GN, (∀ g ∈ p, Right g) → (showL p).count 10 = p.length
 | [], _ => rfl
 | g :: p, h => by
  have ih := showL_count p (fun x hx => h x (.tail _ hx))
  have h0 : (lineB g).count 10 = 0 := List.count_eq_zero.2 (line_ten g (h g (.head _)))
  simp only [showL,lineG_eq,List.count_append,ih,h0,List.length_cons]
  simp; omega
theorem showL_low : ∀ p : List GN, (∀ g ∈ p, Right g) → ∀ c ∈ showL p, c.toNat < 128
 | [], _, c, h => by cases h
 | g :: p, h, c, hc => by
  simp only [showL,lineG_eq,List.mem_append,List.mem_singleton] at hc
  rcases hc with (hc | rfl) | hc
  ·have := (line_plain g (h g (.head _)) c hc).2; omega
  ·decide
  ·exact showL_low p (fun x hx => h x (.tail _ hx)) c hc
end Go.Abs.Seat
end
section
set_option linter.unusedVariables false
set_option linter.unusedSimpArgs false
namespace Go.Abs.Seat
open Go.Proofs
mutual
theorem clone_show : ∀ (t : KT), showT (cloneT t) = showT t
 | .mk k s args => by
  have hl : (cloneTs args).length = args.length := by rw [cloneTs_map]; simp
  rw [cloneT, showT, showT, clone_shows args 40, hl]
theorem clone_shows : ∀ (l : List KT) (c : UInt8), showTs (cloneTs l) c = showTs l c
 | [], c => rfl
 | a :: l, c => by rw [cloneTs, showTs, showTs, clone_show a, clone_shows l 44]
end
mutual
theorem show_smallT : ∀ (t : KT) (left d : Int), 0 ≤ left → (smallT t left d).1 = true → ((showT t).length : Int) + 1 + 66 * (smallT t left d).2 ≤ 66 * left
 | .mk k s args, left, d, h0, h => by
  have hg := kgath_len k words word_len
  have hw8 : words.length = 8 := rfl
  simp only [smallT] at h ⊢
  split at h
  ·cases h
  ·rename_i hc
   rw [if_neg hc]
   have ih := show_smallTs args (left - 1) (d - 1) 40 (by omega) h
   rw [showT]
   simp only [List.length_append]
   have h1 : (if args.length = 0 then ([] : List UInt8) else [41]).length ≤ 1 := by split <;> simp
   omega
theorem show_smallTs : ∀ (l : List KT) (left d : Int) (c : UInt8), 0 ≤ left → (smallTs l left d).1 = true → ((showTs l c).length : Int) + 66 * (smallTs l left d).2 ≤ 66 * left
 | [], left, d, c, h0, h => by simp [showTs, smallTs]
 | a :: l, left, d, c, h0, h => by
  have hst : smallTs (a :: l) left d = if (smallT a left d).1 = true then smallTs l (smallT a left d).2 d else (false, (smallT a left d).2) := rfl
  rw [hst] at h ⊢
  split at h
  ·rename_i ha
   rw [if_pos ha]
   have q1 := show_smallT a left d h0 ha
   have q2 := smallT_left a left d h0
   have q3 := show_smallTs l _ d 44 (q2.2.2 ha) h
   rw [showTs]
   simp only [List.length_cons,List.length_append]
   omega
  ·cases h
end
def typesLen : List GN → Nat
 | [] => 0
 | g :: l => (showT g.ty).length + typesLen l
theorem types_small : ∀ (l : List GN) (left : Int), 0 ≤ left → smallG l left = true → (typesLen l : Int) ≤ 66 * left
 | [], left, h0, _ => by simp [typesLen]; omega
 | g :: l, left, h0, h => by
  unfold smallG at h
  split at h
  ·cases h
  ·split at h
   ·rename_i hs
    have q1 := show_smallT g.ty left 30 h0 hs
    have q2 := smallT_left g.ty left 30 h0
    have q3 := types_small l _ (q2.2.2 hs) h
    simp only [typesLen]
    omega
   ·cases h
theorem types_pipe : ∀ l : List GN, typesLen (l.map pipeG) = typesLen l
 | [] => rfl
 | g :: l => by
  have : showT (pipeG g).ty = showT g.ty := clone_show g.ty
  simp only [List.map_cons,typesLen,this,types_pipe l]
theorem join_sum : ∀ (l : List (List UInt8)), (Lib.join l [32]).length ≤ (l.map fun x => x.length + 1).sum
 | [] => by simp [Lib.join_nil]
 | [x] => by rw [Lib.join_one]; simp
 | x :: y :: l => by
  have ih := join_sum (y :: l)
  rw [join_two]
  simp only [List.map_cons,List.sum_cons,List.length_append,List.length_cons,List.length_nil] at ih ⊢
  omega
theorem line_short (g : GN) (h : Right g) : (lineG g).length ≤ (showT g.ty).length + 2000 := by
 have hi := itoaN_len
 have hc1 := commasL_len g.ins
 have hc2 := commasL_len g.side
 have hh : (howG g.acc).length ≤ 3 := by unfold howG; split <;> simp
 have hw : ∀ w ∈ [wSource, wEach, wWindow, wGroup, wFlatten, wSink], w.length ≤ 7 := by decide
 have i1 := hi g.fk; have i2 := hi g.fs; have i3 := hi g.fp; have i4 := hi g.fo
 have i5 := hi g.te; have i6 := hi g.tl; have i7 := hi g.tt
 obtain ⟨hop, hir, hsr, hi1, hs1, hfm⟩ := h
 have hil : g.ins.length ≤ 4 := by
  split at hi1
  ·have := rises_len hi1; omega
  ·split at hi1
   ·have := rises_len hi1; omega
   ·have := rises_len hi1; omega
 have hsl : g.side.length ≤ 4 := by
  have := rises_len hs1
  split at this <;> omega
 have hx := (form_in hfm).1
 have w1 := hw wSource (by simp); have w2 := hw wEach (by simp); have w3 := hw wWindow (by simp)
 have w4 := hw wGroup (by simp); have w5 := hw wFlatten (by simp); have w6 := hw wSink (by simp)
 have hj := join_sum (partsG g)
 rw [lineG_eq]
 unfold lineB
 simp only [List.length_append,List.length_cons,List.length_nil]
 refine Nat.le_trans (Nat.add_le_add_right hj 1) ?_
 unfold partsG
 split
 ·simp only [List.map_cons,List.map_nil,List.sum_cons,List.sum_nil]; omega
 split
 ·simp only [List.map_cons,List.map_nil,List.sum_cons,List.sum_nil]; omega
 split
 ·simp only [List.map_cons,List.map_nil,List.sum_cons,List.sum_nil]; omega
 split
 ·simp only [List.map_cons,List.map_nil,List.sum_cons,List.sum_nil]; omega
 split
 ·simp only [List.map_cons,List.map_nil,List.sum_cons,List.sum_nil]; omega
 ·simp only [List.map_cons,List.map_nil,List.sum_cons,List.sum_nil]; omega
theorem showL_short : ∀ p : List GN, (∀ g ∈ p, Right g) → (showL p).length ≤ typesLen p + p.length * 2000
 | [], _ => by simp [showL, typesLen]
 | g :: p, h => by
  have h1 := line_short g (h g (.head _))
  have ih := showL_short p (fun x hx => h x (.tail _ hx))
  simp only [showL,typesLen,List.length_append,List.length_cons]
  omega
end Go.Abs.Seat
end
section
set_option linter.unusedVariables false
set_option linter.unusedSimpArgs false
namespace Go.Abs.Seat
open Go.Proofs
theorem s15_bad (p : List GN) (s : Nat) (hs : p = [] ∨ s = 14) (hn : p.length ≤ 1000000) (hpo : ∀ g ∈ p, GOk g ∧ g.ins.length ≤ 1000000 ∧ g.side.length ≤ 1000000) (hf : (checkB p).2 ≠ 0) (H : Heap) : L 15 [.im (.agg [.sl s (p.map encG)])] H = some (.tup [.im (.str []), .im (.int .i64 (checkB p).2)], H) := by
 have c16 := fun H => s16 p s hs hn hpo H
 have d : decide ((checkB p).2 = 0) = false := decide_eq_false hf
 have hlv : ∀ (f : Int) (M : Heap), leave H false (.tup [.im (.str []), .im (.int .i64 f)]) (H ++ M) = (.tup [.im (.str []), .im (.int .i64 f)], H) := fun f M => leave_two rfl rfl
 rw [leq F15]
 obtain ⟨hln, hx⟩ := enter_at (f := f15) (args := [.im (.agg [.sl s (p.map encG)])]) (Nat.le_of_ble_eq_true rfl)
 have h0 := hx 0 _ rfl
 generalize enterA f15 [.im (.agg [.sl s (p.map encG)])] = tm at *
 change tm.length = 29 at hln
 simp only [f15,B0,B1,B2,List.replicate,reduceCtorEq,lenA,seval,B5,pairK,B4,stays,loadOf,endK,resA,tupA,hln,h0,c16,d,hlv]
theorem m6 (s : List UInt8) (hs : s.length ≤ 1000000000000) (hlow : ∀ c ∈ s, c.toNat < 128) (H : Heap) :
  ∀ (m p : Nat), p + m = s.length → ∀ (n : Nat) (tm : List AV), n ≤ p → tm.length = 107 → tm.getD 5 undefA = .im (.str s) → tm.getD 9 undefA = .im (.int .i64 (n : Int)) → tm.getD 50 undefA = .ptr H.length 0 0 →
  ∃ e tm' H', Λ c6_0 tm (H ++ [.it s p]) = some (e, tm', H') ∧ tm'.length = 107 ∧ e = .exit 0 ∧ (∃ M, H' = H ++ M) ∧ tm'.getD 9 undefA = .im (.int .i64 ((n + (s.drop p).count 10 : Nat) : Int)) ∧ Kp [0, 1, 5, 7, 8] tm tm'
 | 0, p, hp, n, tm, hn, hlen, h5, h9, h50 => by
  have e : s.drop p = [] := by rw [List.drop_eq_nil_iff]; omega
  have hlt : (p < s.length) = False := eq_false (by omega)
  rw [e, l6_0]
  simp only [b6_0,B0,B1,B2,List.replicate,reduceCtorEq,lenA,seval,B5,pairK,B4,stays,loadOf,hlen,h5,h9,h50,hlt]
  exact ⟨_, _, _, rfl, by simp only [List.length_set,hlen], rfl, ⟨_, rfl⟩, by simp only [B3,seval,hlen,h9]; rfl, Kp.set (by decide) (Kp.set (by decide) Kp.refl)⟩
 | m + 1, p, hp, n, tm, hn, hlen, h5, h9, h50 => by
  have hlt' : p < s.length := by omega
  have hlt : (p < s.length) = True := eq_true hlt'
  obtain ⟨c, hc⟩ : ∃ c, s[p]? = some c := ⟨_, List.getElem?_eq_getElem hlt'⟩
  have e : s.drop p = c :: s.drop (p + 1) := by
   rw [List.drop_eq_getElem_cons hlt']
   congr 1
   rw [List.getElem?_eq_getElem hlt'] at hc
   exact Option.some.inj hc
  have hd := dec_low hc (hlow c (List.mem_of_getElem? hc))
  have hnn : (0 : Int) ≤ (p : Int) := by omega
  have hwr := wrap_nat (i := n) (by omega)
  have key := m6 s hs hlow H m (p + 1) (by omega)
  rw [e, l6_0]
  by_cases h10 : c = 10
  ·have db : decide (((c.toNat : Nat) : Int) = 10) = true := by rw [h10]; rfl
   have hcn : n + (c :: s.drop (p + 1)).count 10 = (n + 1) + (s.drop (p + 1)).count 10 := by rw [h10, List.count_cons]; simp; omega
   rw [hcn]
   simp only [b6_0,B0,B1,B2,List.replicate,reduceCtorEq,lenA,seval,B5,pairK,B4,stays,loadOf,hlen,h5,h9,h50,hlt,hd,intOfA,hnn,Int.toNat_natCast,hc,byteDat,db,hwr]
   refine ex_imp (key (n + 1) _ (by omega) ?_ ?_ ?_ ?_) ?_
   ·simp only [List.length_set,hlen]
   iterate 3 simp only [B3,seval,hlen,h5,h50]
   rintro e tm' H' ⟨hl', he, hM, g9, hk⟩
   refine ⟨hl', he, hM, g9, Kp.trans ?_ hk⟩
   ((repeat with_reducible refine Kp.set (by decide) ?_); exact Kp.refl)
  ·have hne : c.toNat ≠ 10 := fun he => h10 (UInt8.toNat_inj.1 he)
   have db : decide (((c.toNat : Nat) : Int) = 10) = false := decide_eq_false (by omega)
   have hcn : n + (c :: s.drop (p + 1)).count 10 = n + (s.drop (p + 1)).count 10 := by rw [List.count_cons]; simp [h10]
   rw [hcn]
   simp only [b6_0,B0,B1,B2,List.replicate,reduceCtorEq,lenA,seval,B5,pairK,B4,stays,loadOf,hlen,h5,h9,h50,hlt,hd,intOfA,hnn,Int.toNat_natCast,hc,byteDat,db]
   refine ex_imp (key n _ (by omega) ?_ ?_ ?_ ?_) ?_
   ·simp only [List.length_set,hlen]
   iterate 3 simp only [B3,seval,hlen,h5,h9,h50]
   rintro e tm' H' ⟨hl', he, hM, g9, hk⟩
   refine ⟨hl', he, hM, g9, Kp.trans ?_ hk⟩
   ((repeat with_reducible refine Kp.set (by decide) ?_); exact Kp.refl)
theorem law6 (l : List GN) (s : Nat) (hs : l = [] ∨ s = 14) (hok : ∀ g ∈ l, GOk g) (hn : l.length ≤ 9223372036854775807) (k : Int) (H : Heap) : L 6 [.im (.sl s (l.map encG)), .im (.int .i64 k)] H = some (.im (.bool true), H) := by
 have c17 := fun H => s17 l s hs hok hn H
 have hml : (l.map encG).length = l.length := List.length_map ..
 rw [leq F6]
 obtain ⟨hlen, hx⟩ := enter_at (f := f6) (args := [.im (.sl s (l.map encG)), .im (.int .i64 k)]) (Nat.le_of_ble_eq_true rfl)
 have h0 := hx 0 _ rfl
 have h1 := hx 1 _ rfl
 generalize enterA f6 [.im (.sl s (l.map encG)), .im (.int .i64 k)] = tm at *
 change tm.length = 107 at hlen
 cases hb : smallsB l with
 | false =>
  rw [hb] at c17
  simp only [f6,B0,B1,B2,List.replicate,reduceCtorEq,lenA,seval,B5,pairK,B4,stays,loadOf,endK,resA,tupA,hlen,h0,h1,hml,dgA,toDat,toDats,c17,s10,leave_app,leave_same]
 | true =>
 rw [hb] at c17
 by_cases d1 : k < 1
 ·have d1 : decide (k < 1) = true := decide_eq_true d1
  simp only [f6,B0,B1,B2,List.replicate,reduceCtorEq,lenA,seval,B5,pairK,B4,stays,loadOf,endK,resA,tupA,hlen,h0,h1,hml,dgA,toDat,toDats,c17,d1,s10,leave_app,leave_same]
 have e1 : decide (k < 1) = false := decide_eq_false d1
 by_cases d2 : (l.length : Int) < k
 ·have d2 : decide ((l.length : Int) < k) = true := decide_eq_true d2
  simp only [f6,B0,B1,B2,List.replicate,reduceCtorEq,lenA,seval,B5,pairK,B4,stays,loadOf,endK,resA,tupA,hlen,h0,h1,hml,dgA,toDat,toDats,c17,e1,d2,s10,leave_app,leave_same]
 have e2 : decide ((l.length : Int) < k) = false := decide_eq_false d2
 obtain ⟨q, rfl⟩ : ∃ q : Nat, k = (q : Int) := ⟨k.toNat, by omega⟩
 obtain ⟨hl1, hsm⟩ := smalls_ok hb
 have hslim : ∀ g ∈ l, slimG g := fun g hg => ⟨hok g hg, (hsm g hg).1, Nat.le_trans (hsm g hg).2.1 (by decide), Nat.le_trans (hsm g hg).2.2.1 (by decide)⟩
 have c21 := fun H => s21 l s hs (Nat.le_trans hl1 (by decide)) hslim H
 have hP := pipe_ok hok hsm
 have hPs : l.map pipeG = [] ∨ (if l = [] then 0 else 14) = 14 := by
  cases l with
  | nil => exact .inl rfl
  | cons x l => right; rw [if_neg (by simp)]
 obtain ⟨P, hPl⟩ : ∃ P, P = l.map pipeG := ⟨_, rfl⟩
 have hPlen : P.length = l.length := by rw [hPl, List.length_map]
 rw [← hPl] at c21 hP hPs
 generalize (if l = [] then 0 else 14) = sp at *
 by_cases hf : (checkB P).2 = 0
 ·have hc15 := fun H => s15 P sp hPs hP hf (fine_line hf (fun g hg => (hP g hg).1)) H
  have hs14 : s = 14 := by
   rcases hs with h | h
   ·subst h; simp at d2; omega
   ·exact h
  subst hs14
  have hql : q ≤ l.length := by omega
  have hq1 : 1 ≤ q := by omega
  have hnn : (0 : Int) ≤ (q : Int) := by omega
  have hz : 0 ≤ q := Nat.zero_le q
  have hqm : q ≤ (l.map encG).length := by rw [hml]; exact hql
  have htk : ((l.map encG).take q) = (l.take q).map encG := List.map_take.symm
  have hlt : (l.take q).length ≤ 1000000 := by rw [List.length_take]; omega
  have c21b := fun H => s21 (l.take q) 14 (.inr rfl) hlt (fun g hg => hslim g (List.mem_of_mem_take hg)) H
  have hPt : (l.take q).map pipeG = P.take q := by rw [hPl, List.map_take]
  have hPts : P.take q = [] ∨ (if l.take q = [] then 0 else 14) = 14 := by
   by_cases he : l.take q = []
   ·left; rw [← hPt, he]; rfl
   ·right; rw [if_neg he]
  rw [hPt] at c21b
  generalize (if l.take q = [] then 0 else 14) = sq at *
  have hfq := check_take hf hq1 (by omega)
  have hPq : ∀ g ∈ P.take q, GOk g ∧ g.ins.length ≤ 1000000 ∧ g.side.length ≤ 1000000 := fun g hg => hP g (List.mem_of_mem_take hg)
  have hfq2 : (checkB (P.take q)).2 = 0 := by rw [hfq]
  have c15b := fun H => s15 (P.take q) sq hPts hPq hfq2 (fine_line hfq2 (fun g hg => (hPq g hg).1)) H
  have hsplit : showL P = showL (P.take q) ++ showL (P.drop q) := by rw [← showL_app, List.take_append_drop]
  have hr := fine_right hf
  have hcount := showL_count P hr
  have hlow := showL_low P hr
  have hshort := showL_len (P.take q) (fine_line hfq2 (fun g hg => (hPq g hg).1))
  have hlong := showL_len P (fine_line hf (fun g hg => (hP g hg).1))
  have hTl : (showL P).length ≤ 800000 := by
   have h1 := showL_short P hr
   have h2 := types_pipe l
   rw [← hPl] at h2
   have h3 : (typesLen l : Int) ≤ 66 * 5000 := by
    unfold smallsB at hb
    split at hb
    ·cases hb
    ·exact types_small l 5000 (by decide) hb
   have h4 := (fine_all hf).2.1
   omega
  have hpg := parse_showL hfq2
  have hQl : ((P.take q).map backG).length = q := by rw [List.length_map, List.length_take]; omega
  have hUl : (showL (P.take q)).length ≤ (showL P).length := by rw [hsplit]; simp
  have c11 := fun H => s11 (showL (P.take q)) (by omega) H
  rw [hpg] at c11
  have k6 := fun tm => m6 (showL P) (by omega) hlow H (showL P).length 0 (by omega) 0 tm (Nat.le_refl _)
  rw [List.drop_zero, Nat.zero_add, hcount] at k6
  generalize hT : showL P = T at *
  generalize hU : showL (P.take q) = U at *
  have hTU : T.take U.length = U := by rw [hsplit]; simp
  unfold slG at c11
  generalize hQ : (P.take q).map backG = Q at *
  generalize (if Q = [] then 0 else 14) = sQ at *
  have hQm : (Q.map encG).length = q := by rw [List.length_map, hQl]
  have hUn : (0 : Int) ≤ (U.length : Int) := by omega
  have hUz : 0 ≤ U.length := Nat.zero_le _
  simp only [f6,e6_0,B0,B1,B2,List.replicate,reduceCtorEq,lenA,seval,B5,pairK,B4,stays,loadOf,hlen,h0,h1,hml,dgA,toDat,toDats,c17,e1,e2,c21,hc15,boundA,intOfA,hnn,Int.toNat_natCast,sliceA,hz,hqm,hql,Nat.sub_zero,htk,c21b,c15b]
  generalize hrr : thenL (Λ c6_0 _ _) _ = r
  refine Exists.elim (thenL_inv hrr (k6 _ ?_ ?_ ?_ ?_)) ?_
  ·simp only [List.length_set,hlen]
  iterate 3 simp only [B3,seval,hlen]
  clear hrr k6
  rintro e ⟨tm', H', ⟨hl', rfl, ⟨M, rfl⟩, g9, hk⟩, rfl⟩
  have q0 := hk 0 (by decide)
  have q1 := hk 1 (by decide)
  have q5 := hk 5 (by decide)
  have q7 := hk 7 (by decide)
  have q8 := hk 8 (by decide)
  simp only [B3,seval,hlen,h0,h1] at q0 q1 q5 q7 q8
  have dn : decide (((P.length : Nat) : Int) = (l.length : Int)) = true := decide_eq_true (by omega)
  have du : decide ((U.length : Int) ≤ (T.length : Int)) = true := decide_eq_true (by omega)
  have dq : decide ((q : Int) = (q : Int)) = true := decide_eq_true rfl
  have dU : decide (U = U) = true := decide_eq_true rfl
  have hgM : ∀ o, (H ++ (M ++ [o]))[H.length + M.length]? = some o := fun o => by
   rw [← List.append_assoc, ← List.length_append, Go.Abs.hget0]; rfl
  have hsM : ∀ o o' : HO, (H ++ (M ++ [o])).set (H.length + M.length) o' = H ++ (M ++ [o']) := fun o o' => by
   rw [← List.append_assoc, ← List.append_assoc, ← List.length_append, Go.Abs.hset0]; rfl
  simp only [B0,B1,B2,List.replicate,reduceCtorEq,lenA,seval,B5,pairK,B4,stays,loadOf,endK,resA,tupA,hl',q0,q1,q5,q7,q8,g9,dgA,toDat,toDats,c11,hgM,hsM,dn,du,boundA,intOfA,hUn,Int.toNat_natCast,hUz,hUl,Nat.sub_zero,hTU,dU,hQm,hml,dq,s10,leave_app]
 ·have d : decide ((checkB P).2 = 0) = false := decide_eq_false hf
  have c15 := fun H => s15_bad P sp hPs (by omega) hP hf H
  have de : decide (([] : List UInt8) = []) = true := rfl
  simp only [f6,B0,B1,B2,List.replicate,reduceCtorEq,lenA,seval,B5,pairK,B4,stays,loadOf,endK,resA,tupA,hlen,h0,h1,hml,dgA,toDat,toDats,c17,e1,e2,c21,c15,d,de,s10,leave_app,leave_same]
end Go.Abs.Seat
end
