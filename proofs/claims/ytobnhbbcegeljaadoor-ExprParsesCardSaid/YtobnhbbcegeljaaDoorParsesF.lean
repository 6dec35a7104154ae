/- Part 6 of what the claim rests on. -/
import Derived.Test.YtobnhbbcegeljaaDoorParsesA
import Derived.Test.YtobnhbbcegeljaaDoorParsesB
import Derived.Test.YtobnhbbcegeljaaDoorParsesC
import Derived.Test.YtobnhbbcegeljaaDoorParsesD
import Derived.Test.YtobnhbbcegeljaaDoorParsesE
section
set_option linter.unusedVariables false
set_option linter.unusedSimpArgs false
namespace Go.Abs.Seat
open Go.Proofs
def hexW : List UInt8 := [48, 49, 50, 51, 52, 53, 54, 55, 56, 57, 97, 98, 99, 100, 101, 102]
theorem hex_nib : ∀ c : UInt8, Lib.indexByte hexW c = nibZ (c.toNat : Int) := by
 have h : ∀ n : Fin 256, Lib.indexByte hexW (UInt8.ofNat n.val) = nibZ ((UInt8.ofNat n.val).toNat : Int) := by decide +kernel
 intro c
 have := h ⟨c.toNat, c.toNat_lt⟩
 simpa using this
theorem L80 (args : List AV) (H : Heap) : L 80 args H = idxO 80 (strO 60 26 Tryd.okB 5 fun _ _ _ => none) 80 args H := by
 have h : F 80 = none := by kernel_rfl
 exact lim_none h args H
theorem s80 (s : List UInt8) (c : UInt8) (H : Heap) : L 80 [.im (.str s), .im (.int .u8 (c.toNat : Int))] H = some (.im (.int .i64 (Lib.indexByte s c)), H) := by
 have e : ((c.toNat : Int).toNat).toUInt8 = c := by simp
 rw [L80]
 have : idxO 80 (strO 60 26 Tryd.okB 5 fun _ _ _ => none) 80 [.im (.str s), .im (.int .u8 (c.toNat : Int))] H = some (.im (.int .i64 (Lib.indexByte s ((c.toNat : Int).toNat).toUInt8)), H) := rfl
 rw [this, e]
theorem s69 (s : List UInt8) (c : UInt8) (H : Heap) : L 69 [.im (.str s), .im (.int .u8 (c.toNat : Int))] H = some (.im (.int .i64 (Lib.indexByte s c)), H) := by
 have c1 := fun H => s80 s c H
 rw [leq F69]
 obtain ⟨hlen, ha⟩ := enter_at (f := f69) (args := [.im (.str s), .im (.int .u8 (c.toNat : Int))]) (Nat.le_of_ble_eq_true rfl)
 have h0 := ha 0 _ rfl
 have h1 := ha 1 _ rfl
 generalize enterA f69 [.im (.str s), .im (.int .u8 (c.toNat : Int))] = tm at *
 change tm.length = 8 at hlen
 simp only [f69,B0,B1,B2,List.replicate,Nat.reduceAdd,Nat.reduceSub,Nat.reduceLeDiff,Nat.reduceLT,Nat.reduceEqDiff,reduceCtorEq,Int.reduceEq,Int.reduceLT,Int.reduceLE,lenA,endK,resA,tupA,hlen,h0,h1,c1,leave_same]
theorem s68 (c : UInt8) (H : Heap) : L 68 [.im (.int .u8 (c.toNat : Int))] H = some (.im (.int .i64 (nibZ (c.toNat : Int))), H) := by
 have c1 := fun H => s69 hexW c H
 rw [hex_nib] at c1
 simp only [hexW] at c1
 rw [leq F68]
 obtain ⟨hlen, ha⟩ := enter_at (f := f68) (args := [.im (.int .u8 (c.toNat : Int))]) (Nat.le_of_ble_eq_true rfl)
 have h0 := ha 0 _ rfl
 generalize enterA f68 [.im (.int .u8 (c.toNat : Int))] = tm at *
 change tm.length = 5 at hlen
 simp only [f68,B0,B1,B2,List.replicate,Nat.reduceAdd,Nat.reduceSub,Nat.reduceLeDiff,Nat.reduceLT,Nat.reduceEqDiff,reduceCtorEq,Int.reduceEq,Int.reduceLT,Int.reduceLE,lenA,endK,resA,tupA,hlen,h0,c1,leave_same]
theorem nib_range (n : Int) : -1 ≤ nibZ n ∧ nibZ n < 16 := by
 unfold nibZ digZ
 split
 ·rename_i h
  simp only [Bool.and_eq_true,decide_eq_true_eq] at h
  omega
 ·split
  ·rename_i h
   simp only [Bool.and_eq_true,decide_eq_true_eq] at h
   omega
  ·omega
theorem nib0 : nibZ ((0 : UInt8).toNat : Int) = -1 := by decide
def shut (h : Int) : Bool := decide (h < 0) || (decide (h = 3) || (decide (h = 4) || decide (h = 6)))
def escP (b : List UInt8) (p : Nat) : Int × Nat × Bool :=
 if shut (nibZ ((peekB b p).toNat : Int)) = true then (0, p, true)
 else if (decide (nibZ ((peekB b (p + 1)).toNat : Int) < 0) || plnZ (16 * nibZ ((peekB b p).toNat : Int) + nibZ ((peekB b (p + 1)).toNat : Int))) = true then (0, p + 1, true)
 else (16 * nibZ ((peekB b p).toNat : Int) + nibZ ((peekB b (p + 1)).toNat : Int), p + 2, false)
theorem shl_all : ∀ h : Fin 16, binShift .shl .i64 (h.val : Int) 4 = some (.int .i64 (16 * (h.val : Int))) := by
 have hx : ∀ h : Fin 16, IntKind.i64.wrap ((h.val : Int) * 2 ^ 4) = 16 * (h.val : Int) := by decide +kernel
 intro h
 have : binShift .shl .i64 (h.val : Int) 4 = some (.int .i64 (IntKind.i64.wrap ((h.val : Int) * 2 ^ 4))) := rfl
 rw [this, hx]
theorem b_pack (h l : Int) (hh : 0 ≤ h ∧ h < 16) (hl : -1 ≤ l ∧ l < 16) : ∃ x y, binA .shl (.im (.int .i64 h)) (.im (.int .u64 4)) = some (.im (.int .i64 (16 * h))) ∧ binA .and (.im (.int .i64 l)) (.im (.int .i64 15)) = some (.im (.int .i64 x)) ∧
  binA .or (.im (.int .i64 (16 * h))) (.im (.int .i64 x)) = some (.im (.int .i64 y)) ∧ (0 ≤ l → IntKind.u8.wrap y = 16 * h + l) := by
 have h1 := shl_all ⟨h.toNat, by omega⟩
 simp only [Int.toNat_of_nonneg hh.1] at h1
 have hand : ∀ l : Fin 16, IntKind.i64.wrap (((BitVec.ofInt IntKind.i64.bits (l.val : Int)) &&& (BitVec.ofInt IntKind.i64.bits 15)).toNat : Int) = (l.val : Int) := by decide +kernel
 have hor : ∀ (h x : Fin 16), IntKind.u8.wrap (IntKind.i64.wrap (((BitVec.ofInt IntKind.i64.bits (16 * (h.val : Int))) ||| (BitVec.ofInt IntKind.i64.bits (x.val : Int))).toNat : Int)) = 16 * (h.val : Int) + (x.val : Int) := by decide +kernel
 refine ⟨_, _, ?_, rfl, rfl, fun hl0 => ?_⟩
 ·simp only [binA,isShift,if_true,h1]
 ·have e1 := hand ⟨l.toNat, by omega⟩
  simp only [Int.toNat_of_nonneg hl0] at e1
  rw [e1]
  have e2 := hor ⟨h.toNat, by omega⟩ ⟨l.toNat, by omega⟩
  simp only [Int.toNat_of_nonneg hl0,Int.toNat_of_nonneg hh.1] at e2
  exact e2
theorem s52 (b : List UInt8) (p ir : Nat) (H : Heap) (hir : H[ir]? = some (objS b p false)) (hb : b.length ≤ 4611686018427387904) (hp : p ≤ b.length) :
  L 52 [.ptr ir 0 0] H = some (.im (.int .u8 (escP b p).1), H.set ir (objS b (escP b p).2.1 (escP b p).2.2)) := by
 have hirl := (List.getElem?_eq_some_iff.1 hir).1
 have hset : ∀ o, (H.set ir o)[ir]? = some o := fun o => List.getElem?_set_self hirl
 have hself : H.set ir (objS b p false) = H := set_same hir
 have c1 := s29 b p ir false H hir hb
 have c2 := s29 b (p + 1) ir false (H.set ir (objS b (p + 1) false)) (hset _) hb
 have c3 := fun H => s68 (peekB b p) H
 have c4 := fun H => s68 (peekB b (p + 1)) H
 have hlv : ∀ q bd n, leave H false (.im (.int .u8 n)) (H.set ir (objS b q bd)) = (.im (.int .u8 n), H.set ir (objS b q bd)) := fun q bd n => leave_S hir rfl rfl
 have z1 : decide (((peekB b p).toNat : Int) = 0) = decide (peekB b p = 0) := byte_eq _ 0
 have z2 : decide (((peekB b (p + 1)).toNat : Int) = 0) = decide (peekB b (p + 1) = 0) := byte_eq _ 0
 have hlt := peek_lt (b := b) (p := p)
 have hlt2 := peek_lt (b := b) (p := p + 1)
 have r1 := nib_range ((peekB b p).toNat : Int)
 have r2 := nib_range ((peekB b (p + 1)).toNat : Int)
 have n1 : peekB b p = 0 → nibZ ((peekB b p).toNat : Int) = -1 := fun h => by rw [h]; exact nib0
 have n2 : peekB b (p + 1) = 0 → nibZ ((peekB b (p + 1)).toNat : Int) = -1 := fun h => by rw [h]; exact nib0
 rw [leq F52]
 obtain ⟨hlen, ha⟩ := enter_at (f := f52) (args := [.ptr ir 0 0]) (Nat.le_of_ble_eq_true rfl)
 have h0 := ha 0 _ rfl
 generalize enterA f52 [.ptr ir 0 0] = tm at *
 change tm.length = 69 at hlen
 unfold escP
 generalize peekB b p = c at *
 generalize peekB b (p + 1) = d at *
 generalize nibZ (c.toNat : Int) = h at *
 generalize nibZ (d.toNat : Int) = l at *
 simp only [objS] at *
 rcases Bool.eq_false_or_eq_true (shut h) with hs | hs
 ·rw [hs, if_pos rfl]
  unfold shut at hs
  rcases Bool.eq_false_or_eq_true (decide (c = 0)) with e0 | e0
  ·rw [e0] at z1
   simp only [f52,B0,B1,B2,List.replicate,Nat.reduceAdd,Nat.reduceSub,Nat.reduceLeDiff,Nat.reduceLT,Nat.reduceEqDiff,reduceCtorEq,Int.reduceEq,Int.reduceLT,Int.reduceLE,lenA,endK,resA,tupA,hlen,h0,hir,c1,c3,z1,hlv]
  ·rw [e0] at z1
   rcases Bool.eq_false_or_eq_true (decide (h < 0)) with e1 | e1
   ·simp only [f52,B0,B1,B2,List.replicate,Nat.reduceAdd,Nat.reduceSub,Nat.reduceLeDiff,Nat.reduceLT,Nat.reduceEqDiff,reduceCtorEq,Int.reduceEq,Int.reduceLT,Int.reduceLE,lenA,endK,resA,tupA,hlen,h0,hir,c1,c3,z1,e1,hlv]
   ·rcases Bool.eq_false_or_eq_true (decide (h = 3)) with e2 | e2
    ·simp only [f52,B0,B1,B2,List.replicate,Nat.reduceAdd,Nat.reduceSub,Nat.reduceLeDiff,Nat.reduceLT,Nat.reduceEqDiff,reduceCtorEq,Int.reduceEq,Int.reduceLT,Int.reduceLE,lenA,endK,resA,tupA,hlen,h0,hir,c1,c3,z1,e1,e2,hlv]
    ·rcases Bool.eq_false_or_eq_true (decide (h = 4)) with e3 | e3
     ·simp only [f52,B0,B1,B2,List.replicate,Nat.reduceAdd,Nat.reduceSub,Nat.reduceLeDiff,Nat.reduceLT,Nat.reduceEqDiff,reduceCtorEq,Int.reduceEq,Int.reduceLT,Int.reduceLE,lenA,endK,resA,tupA,hlen,h0,hir,c1,c3,z1,e1,e2,e3,hlv]
     ·rw [e1, e2, e3] at hs
      simp only [Bool.false_or] at hs
      simp only [f52,B0,B1,B2,List.replicate,Nat.reduceAdd,Nat.reduceSub,Nat.reduceLeDiff,Nat.reduceLT,Nat.reduceEqDiff,reduceCtorEq,Int.reduceEq,Int.reduceLT,Int.reduceLE,lenA,endK,resA,tupA,hlen,h0,hir,c1,c3,z1,e1,e2,e3,hs,hlv]
 ·rw [hs, if_neg (by simp)]
  unfold shut at hs
  simp only [Bool.or_eq_false_iff] at hs
  obtain ⟨e1, e2, e3, e4⟩ := hs
  have hh : 0 ≤ h ∧ h < 16 := ⟨by have := of_decide_eq_false e1; omega, r1.2⟩
  have hc0 : c ≠ 0 := fun e => by have := n1 e; omega
  have e0 : decide (c = 0) = false := decide_eq_false hc0
  rw [e0] at z1
  have hp1 := hlt hc0
  have hwr := wrap_nat (i := p) (by omega)
  have hwr2 := wrap_nat (i := p + 1) (by omega)
  obtain ⟨x, y, b1, b2, b3, b4⟩ := b_pack h l hh r2
  rcases Bool.eq_false_or_eq_true (decide (l < 0)) with f1 | f1
  ·rw [f1, Bool.true_or, if_pos rfl]
   rcases Bool.eq_false_or_eq_true (decide (d = 0)) with f0 | f0
   ·rw [f0] at z2
    simp only [f52,B0,B1,B2,List.replicate,Nat.reduceAdd,Nat.reduceSub,Nat.reduceLeDiff,Nat.reduceLT,Nat.reduceEqDiff,reduceCtorEq,Int.reduceEq,Int.reduceLT,Int.reduceLE,lenA,endK,resA,tupA,hlen,h0,hir,c1,c2,c3,c4,z1,z2,e1,e2,e3,e4,f1,b1,b2,b3,hset,hwr,List.set_set,hlv]
   ·rw [f0] at z2
    simp only [f52,B0,B1,B2,List.replicate,Nat.reduceAdd,Nat.reduceSub,Nat.reduceLeDiff,Nat.reduceLT,Nat.reduceEqDiff,reduceCtorEq,Int.reduceEq,Int.reduceLT,Int.reduceLE,lenA,endK,resA,tupA,hlen,h0,hir,c1,c2,c3,c4,z1,z2,e1,e2,e3,e4,f1,b1,b2,b3,hset,hwr,List.set_set,hlv]
  ·have hl0 : 0 ≤ l := by have := of_decide_eq_false f1; omega
   have hd0 : d ≠ 0 := fun e => by have := n2 e; omega
   have f0 : decide (d = 0) = false := decide_eq_false hd0
   rw [f0] at z2
   have b4 := b4 hl0
   have hp2 := hlt2 hd0
   have c5 := fun H => s51 (16 * h + l) H
   rw [f1, Bool.false_or]
   rcases Bool.eq_false_or_eq_true (plnZ (16 * h + l)) with g | g
   ·rw [g] at c5
    rw [g, if_pos rfl]
    simp only [f52,B0,B1,B2,List.replicate,Nat.reduceAdd,Nat.reduceSub,Nat.reduceLeDiff,Nat.reduceLT,Nat.reduceEqDiff,reduceCtorEq,Int.reduceEq,Int.reduceLT,Int.reduceLE,lenA,endK,resA,tupA,hlen,h0,hir,c1,c2,c3,c4,c5,z1,z2,e1,e2,e3,e4,f1,b1,b2,b3,b4,hset,hwr,List.set_set,hlv]
   ·rw [g] at c5
    rw [g, if_neg (by simp)]
    simp only [f52,B0,B1,B2,List.replicate,Nat.reduceAdd,Nat.reduceSub,Nat.reduceLeDiff,Nat.reduceLT,Nat.reduceEqDiff,reduceCtorEq,Int.reduceEq,Int.reduceLT,Int.reduceLE,lenA,endK,resA,tupA,hlen,h0,hir,c1,c2,c3,c4,c5,z1,z2,e1,e2,e3,e4,f1,b1,b2,b3,b4,hset,hwr,hwr2,List.set_set,hlv]
end Go.Abs.Seat
end
section
set_option linter.unusedVariables false
set_option linter.unusedSimpArgs false
namespace Go.Abs.Seat
open Go.Proofs
def textW : List UInt8 := [116, 101, 120, 116, 95, 111, 102]
def strN (b : List UInt8) : Nat → List UInt8 → Nat → List UInt8 × Nat × Bool
 | 0, out, p => ([], p, true)
 | f + 1, out, p => if peekB b p = 34 then (out, p + 1, false)
  else if (decide (out.length = 256) || (!plnZ ((peekB b p).toNat : Int) && !decide (peekB b p = 92))) = true then ([], p, true)
  else if peekB b p = 92 then (if (escP b (p + 1)).2.2 = true then ([], (escP b (p + 1)).2.1, true) else strN b f (out ++ [UInt8.ofNat (escP b (p + 1)).1.toNat]) (escP b (p + 1)).2.1)
  else strN b f (out ++ [peekB b p]) (p + 1)
def strP (b : List UInt8) (p : Nat) : NT × Nat × Bool :=
 match strN b (b.length + 1 - p) [] p with
 |(_, q, true) => (zeroN, q, true)
 |(t, q, false) => (mkN textW 0 t zeroT [], q, false)
theorem bytesOf_map' : ∀ l : List UInt8, bytesOf (l.map fun b => [byteDat b]) = some l
 | [] => rfl
 | b :: l => by
  have h := bytesOf_map' l
  simp only [List.map_cons,byteDat,bytesOf]
  simp only [byteDat] at h
  rw [h]
  simp
theorem el_byte {H : Heap} {c : UInt8} : elems H 1 (.im (.sl 1 [[.int .u8 (c.toNat : Int)]])) = some [[byteDat c]] := by simp [elems, byteDat]
theorem tD_byte (n : Int) : toDatss [[AV.im (.int .u8 n)]] = some [[.int .u8 n]] := _root_.id rfl
theorem esc_byte (b : List UInt8) (p : Nat) : (((UInt8.ofNat (escP b p).1.toNat).toNat : Nat) : Int) = (escP b p).1 := by
 have h : 0 ≤ (escP b p).1 ∧ (escP b p).1 < 256 := by
  unfold escP
  split
  ·simp
  ·rename_i hs
   split
   ·simp
   ·rename_i hl
    simp only [Bool.not_eq_true,Bool.or_eq_false_iff] at hl hs
    have r1 := nib_range ((peekB b p).toNat : Int)
    have r2 := nib_range ((peekB b (p + 1)).toNat : Int)
    unfold shut at hs
    simp only [Bool.or_eq_false_iff] at hs
    have h1 := of_decide_eq_false hs.1
    have h2 := of_decide_eq_false hl.1
    simp only
    omega
 rw [UInt8.toNat_ofNat']
 omega
theorem esc_le {b : List UInt8} {p : Nat} (hp : p ≤ b.length) : p ≤ (escP b p).2.1 ∧ (escP b p).2.1 ≤ b.length := by
 unfold escP
 split
 ·exact ⟨Nat.le_refl _, hp⟩
 ·rename_i hs
  have hc : p < b.length := peek_lt fun e => by rw [e, nib0] at hs; exact hs rfl
  split
  ·exact ⟨by simp, by simp; omega⟩
  ·rename_i hl
   have hd : p + 1 < b.length := peek_lt fun e => by rw [e, nib0] at hl; exact hl rfl
   exact ⟨by simp, by simp; omega⟩
theorem l30 (b : List UInt8) (hb : b.length ≤ 4611686018427387904) (ir N : Nat) (hirN : ir < N) (H0 : Heap) (hN : N = H0.length) :
  ∀ (f : Nat) (out : List UInt8) (p : Nat) (tm : List AV) (Hc : Heap) (v : AV) (t : List UInt8) (q : Nat) (bad : Bool), strN b f out p = (t, q, bad) → b.length < p + f → p ≤ b.length → out.length ≤ 256 → tm.length = 58 → tm.getD 0 undefA = .ptr ir 0 0 → tm.getD 2 undefA = .ptr N 0 0 → tm.getD 3 undefA = v →
   Gath 5 1 (N + 1) v Hc (out.map fun b => [byteDat b]) → N + 1 ≤ Hc.length → Hc[ir]? = some (objS b p false) → Hc[N]? = some zO → But N ir H0 Hc →
  ∃ e tm' H', Λ g30_0 tm Hc = some (e, tm', H') ∧ (e = .ret ∧ tm'.length = 58 ∧ tm'.getD 2 undefA = .ptr N 0 0 ∧ H'[N]? = some (if bad = true then zO else nO textW t 0) ∧ H'[ir]? = some (objS b q bad) ∧ But N ir H0 H') := by
 intro f
 induction f with
 | zero => intro out p tm Hc v t q bad hS hf hp; omega
 | succ f ih =>
  intro out p tm Hc v t q bad hS hf hp ho hlen h0 h2 h3 hG hHl hir hz hbut
  have hirl := (List.getElem?_eq_some_iff.1 hir).1
  have hset : ∀ o, (Hc.set ir o)[ir]? = some o := fun o => List.getElem?_set_self hirl
  have hsetN : ∀ o, (Hc.set ir o)[N]? = some zO := fun o => by rw [List.getElem?_set_ne (by omega)]; exact hz
  have hgN : ∀ (X : Heap) o, N < X.length → (X.set N o)[N]? = some o := fun X o h => List.getElem?_set_self h
  have hgI : ∀ (X : Heap) o, (X.set N o)[ir]? = X[ir]? := fun X o => List.getElem?_set_ne (by omega)
  have bset : ∀ (X : Heap) o, But N ir H0 X → But N ir H0 (X.set ir o) := fun X o h => h.set o
  have bsetN : ∀ (X : Heap) o, But N ir H0 X → But N ir H0 (X.set N o) := fun X o h => ⟨by have := h.1; simpa using this, fun i hi hne => by rw [List.getElem?_set_ne (by omega)]; exact h.2 i hi hne⟩
  have c1 := s29 b p ir false Hc hir hb
  have hvc : v = AV.nils ∧ out = [] ∨ ∃ tok, v = .asl 1 (out.map fun b => [byteDat b]) tok := by
   rcases hG with ⟨he, rfl⟩ | ⟨_, tok, _, rfl, _⟩
   ·exact .inl ⟨rfl, by simpa using he⟩
   ·exact .inr ⟨tok, rfl⟩
  have hlA : lenA v = some out.length := by
   rcases hvc with ⟨rfl, rfl⟩ | ⟨tok, rfl⟩
   ·rfl
   ·simp [lenA]
  have hlt := peek_lt (b := b) (p := p)
  have z34 : decide (((peekB b p).toNat : Int) = 34) = decide (peekB b p = 34) := byte_eq _ 34
  have z92 : decide (((peekB b p).toNat : Int) = 92) = decide (peekB b p = 92) := byte_eq _ 92
  have cpl := fun H => s51 ((peekB b p).toNat : Int) H
  have hcast : decide ((out.length : Int) = 256) = decide (out.length = 256) := by
   by_cases h : out.length = 256
   ·rw [decide_eq_true h, decide_eq_true (by omega)]
   ·rw [decide_eq_false h, decide_eq_false (by omega)]
  have pl0 : plnZ ((0 : UInt8).toNat : Int) = false := by decide
  unfold strN at hS
  generalize hpk : peekB b p = c at *
  by_cases hq : c = 34
  ·-- the end
   have hcp := hlt (by rw [hq]; decide)
   have hwr := wrap_nat (i := p) (by omega)
   rw [decide_eq_true hq] at z34
   rw [if_pos hq] at hS
   simp only [Prod.mk.injEq] at hS
   obtain ⟨rfl, rfl, rfl⟩ := hS
   simp only [Bool.false_eq_true,if_false]
   rw [g30_0_eq]
   simp only [objS,zO,nO,textW] at *
   rcases hvc with ⟨rfl, rfl⟩ | ⟨tok, rfl⟩
   all_goals simp only [w30_0,B0,B1,B2,List.replicate,Nat.reduceAdd,Nat.reduceSub,Nat.reduceLeDiff,Nat.reduceLT,Nat.reduceEqDiff,reduceCtorEq,Int.reduceEq,Int.reduceLT,Int.reduceLE,lenA,bytesOf_map',hlen,h0,h2,h3,c1,z34,hwr,hir,hset,hsetN,K30_ret]
   all_goals refine ⟨_, _, _, rfl, rfl, by simp only [List.length_set,hlen], by simp only [B3,Nat.reduceLT,Nat.reduceEqDiff,hlen,h2], hgN _ _ (by simp; omega), ?_, bsetN _ _ (bset _ _ hbut)⟩
   all_goals rw [hgI]; exact hset _
  ·rw [decide_eq_false hq] at z34
   rw [if_neg hq] at hS
   rcases Bool.eq_false_or_eq_true (decide (out.length = 256) || (!plnZ (c.toNat : Int) && !decide (c = 92))) with hbd | hbd
   ·-- refused
    rw [hbd, if_pos rfl] at hS
    simp only [Prod.mk.injEq] at hS
    obtain ⟨rfl, rfl, rfl⟩ := hS
    simp only [if_true]
    rw [g30_0_eq]
    simp only [objS,zO] at *
    rcases Bool.eq_false_or_eq_true (decide (out.length = 256)) with e1 | e1
    ·simp only [w30_0,B0,B1,B2,List.replicate,Nat.reduceAdd,Nat.reduceSub,Nat.reduceLeDiff,Nat.reduceLT,Nat.reduceEqDiff,reduceCtorEq,Int.reduceEq,Int.reduceLT,Int.reduceLE,hlA,hlen,h0,h2,h3,c1,z34,hcast,e1,hir,hset,hsetN,K30_ret]
     refine ⟨_, _, _, rfl, rfl, by simp only [List.length_set,hlen], by simp only [B3,Nat.reduceLT,Nat.reduceEqDiff,hlen,h2], hgN _ _ (by simp; omega), ?_, bsetN _ _ (bset _ _ hbut)⟩
     rw [hgI]; exact hset _
    ·rw [e1, Bool.false_or, Bool.and_eq_true] at hbd
     obtain ⟨e2, e3⟩ := hbd
     have e2' : plnZ (c.toNat : Int) = false := by simpa using e2
     have e3' : decide (c = 92) = false := by simpa using e3
     rw [e2'] at cpl
     rw [e3'] at z92
     simp only [w30_0,B0,B1,B2,List.replicate,Nat.reduceAdd,Nat.reduceSub,Nat.reduceLeDiff,Nat.reduceLT,Nat.reduceEqDiff,reduceCtorEq,Int.reduceEq,Int.reduceLT,Int.reduceLE,hlA,hlen,h0,h2,h3,c1,z34,hcast,e1,cpl,z92,hir,hset,hsetN,K30_ret]
     refine ⟨_, _, _, rfl, rfl, by simp only [List.length_set,hlen], by simp only [B3,Nat.reduceLT,Nat.reduceEqDiff,hlen,h2], hgN _ _ (by simp; omega), ?_, bsetN _ _ (bset _ _ hbut)⟩
     rw [hgI]; exact hset _
   ·rw [hbd, if_neg (by simp)] at hS
    rw [Bool.or_eq_false_iff] at hbd
    obtain ⟨e1, e23⟩ := hbd
    have hcp : p < b.length := by
     refine hlt fun e => ?_
     subst e
     rw [pl0] at e23
     simp at e23
    have hol : out.length < 256 := by have := of_decide_eq_false e1; omega
    have hwr := wrap_nat (i := p) (by omega)
    by_cases h92 : c = 92
    ·-- an escape
     rw [if_pos h92] at hS
     rw [decide_eq_true h92] at z92
     have hesc := s52 b (p + 1) ir (Hc.set ir (objS b (p + 1) false)) (hset _) hb (by omega)
     have hel := esc_le (b := b) (p := p + 1) (by omega)
     have hby := esc_byte b (p + 1)
     generalize escP b (p + 1) = E at *
     obtain ⟨ev1, ev2, ev3⟩ := E
     simp only at hS hesc hel hby
     rw [← hby] at hesc
     generalize UInt8.ofNat ev1.toNat = ec at *
     simp only [List.set_set] at hesc
     obtain ⟨tok, H4, hap, hG4, hl4, hlow4, hob4⟩ := (hG.set_obj (id := ir) (t := none) (by simpa only [objS] using hir) (objS b ev2 ev3)).grow (bytes := 1) (by simpa using hHl) [byteDat ec] (by simp; omega) (by decide)
     have g4i : H4[ir]? = some (objS b ev2 ev3) := hob4 _ _ _ (by simpa only [objS] using hset (objS b ev2 ev3))
     have g4n : H4[N]? = some zO := hob4 _ _ _ (hsetN _)
     have bH4 : But N ir H0 H4 := ⟨by have := hbut.1; simp at hl4; omega, fun i hi hne => by rw [hlow4 i (by omega), List.getElem?_set_ne (fun e => hne e.symm)]; exact hbut.2 i hi hne⟩
     have pl92 : (plnZ ((92 : UInt8).toNat : Int)) = false := by decide
     rw [h92, pl92] at cpl
     have hob' : ∀ (bd : Bool), ev3 = bd → H4[ir]? = some (.obj none [[.im (.str b), .im (.int .i64 (ev2 : Int)), .im (.bool bd)]]) := fun bd h => by rw [← h]; exact g4i
     rw [h92] at c1 z34
     cases ev3 with
     | true =>
      rw [if_pos rfl] at hS
      simp only [Prod.mk.injEq] at hS
      obtain ⟨rfl, rfl, rfl⟩ := hS
      simp only [if_true]
      rw [g30_0_eq]
      simp only [objS,zO] at *
      rw [h92] at z92
      simp only [w30_0,B0,B1,B2,List.replicate,Nat.reduceAdd,Nat.reduceSub,Nat.reduceLeDiff,Nat.reduceLT,Nat.reduceEqDiff,reduceCtorEq,Int.reduceEq,Int.reduceLT,Int.reduceLE,hlA,hlen,h0,h2,h3,c1,z34,hcast,e1,cpl,z92,hir,hset,hsetN,hwr,hesc,tD_byte,el_byte,hap,g4i,g4n,K30_ret]
      refine ⟨_, _, _, rfl, rfl, by simp only [List.length_set,hlen], by simp only [B3,Nat.reduceLT,Nat.reduceEqDiff,hlen,h2], hgN _ _ ((List.getElem?_eq_some_iff.1 g4n).1), ?_, bsetN _ _ bH4⟩
      rw [hgI]; exact g4i
     | false =>
      rw [if_neg (by simp)] at hS
      have key := fun tm1 => ih (out ++ [ec]) ev2 tm1 H4 (.asl 1 ((out ++ [ec]).map fun b => [byteDat b]) tok) t q bad hS (by omega) (by omega) (by simp; omega)
      simp only [List.map_append,List.map_cons,List.map_nil] at key
      rw [g30_0_eq]
      simp only [objS,zO] at *
      rw [h92] at z92
      simp only [w30_0,B0,B1,B2,List.replicate,Nat.reduceAdd,Nat.reduceSub,Nat.reduceLeDiff,Nat.reduceLT,Nat.reduceEqDiff,reduceCtorEq,Int.reduceEq,Int.reduceLT,Int.reduceLE,hlA,hlen,h0,h2,h3,c1,z34,hcast,e1,cpl,z92,hir,hset,hsetN,hwr,hesc,tD_byte,el_byte,hap,g4i,g4n,K30_goto0]
      refine ex_imp (key _ ?_ ?_ ?_ ?_ hG4 (by have := (List.getElem?_eq_some_iff.1 g4n).1; omega) g4i g4n bH4) fun _ _ _ h => h
      all_goals simp only [B3,Nat.reduceLT,Nat.reduceEqDiff,hlen,h0,h2]
    ·rw [if_neg h92] at hS
     have e2 : plnZ (c.toNat : Int) = true := by
      rw [decide_eq_false h92] at e23
      simpa using e23
     rw [e2] at cpl
     rw [decide_eq_false h92] at z92
     obtain ⟨tok, H4, hap, hG4, hl4, hlow4, hob4⟩ := (hG.set_obj (id := ir) (t := none) (by simpa only [objS] using hir) (objS b (p + 1) false)).grow (bytes := 1) (by simpa using hHl) [byteDat c] (by simp; omega) (by decide)
     have g4i : H4[ir]? = some (objS b (p + 1) false) := hob4 _ _ _ (by simpa only [objS] using hset (objS b (p + 1) false))
     have g4n : H4[N]? = some zO := hob4 _ _ _ (hsetN _)
     have bH4 : But N ir H0 H4 := ⟨by have := hbut.1; simp at hl4; omega, fun i hi hne => by rw [hlow4 i (by omega), List.getElem?_set_ne (fun e => hne e.symm)]; exact hbut.2 i hi hne⟩
     have key := fun tm1 => ih (out ++ [c]) (p + 1) tm1 H4 (.asl 1 ((out ++ [c]).map fun b => [byteDat b]) tok) t q bad hS (by omega) (by omega) (by simp; omega)
     simp only [List.map_append,List.map_cons,List.map_nil] at key
     rw [g30_0_eq]
     simp only [objS,zO] at *
     simp only [w30_0,B0,B1,B2,List.replicate,Nat.reduceAdd,Nat.reduceSub,Nat.reduceLeDiff,Nat.reduceLT,Nat.reduceEqDiff,reduceCtorEq,Int.reduceEq,Int.reduceLT,Int.reduceLE,hlA,hlen,h0,h2,h3,c1,z34,hcast,e1,cpl,z92,hir,hset,hsetN,hwr,tD_byte,el_byte,hap,g4i,g4n,K30_goto0]
     refine ex_imp (key _ ?_ ?_ ?_ ?_ hG4 (by have := (List.getElem?_eq_some_iff.1 g4n).1; omega) g4i g4n bH4) fun _ _ _ h => h
     all_goals simp only [B3,Nat.reduceLT,Nat.reduceEqDiff,hlen,h0,h2]
theorem s30 (b : List UInt8) (p ir : Nat) (H : Heap) (hir : H[ir]? = some (objS b p false)) (hb : b.length ≤ 4611686018427387904) (hp : p ≤ b.length) :
  L 30 [.ptr ir 0 0] H = some (.im (.agg (encN (strP b p).1)), H.set ir (objS b (strP b p).2.1 (strP b p).2.2)) := by
 have hirl := (List.getElem?_eq_some_iff.1 hir).1
 have g0 : (H ++ [zO])[ir]? = some (objS b p false) := by rw [get_app hirl]; exact hir
 have gN : (H ++ [zO])[H.length]? = some zO := by simp
 rw [leq F30]
 obtain ⟨hlen, ha⟩ := enter_at (f := f30) (args := [.ptr ir 0 0]) (Nat.le_of_ble_eq_true rfl)
 have h0 := ha 0 _ rfl
 generalize enterA f30 [.ptr ir 0 0] = tm at *
 change tm.length = 58 at hlen
 unfold strP
 cases hS : strN b (b.length + 1 - p) [] p with
 | mk t qb =>
  obtain ⟨q, bad⟩ := qb
  have key := fun tm1 => l30 b hb ir H.length hirl H rfl (b.length + 1 - p) [] p tm1 (H ++ [zO]) .nils t q bad hS (by omega) hp (by simp)
  simp only [f30,e30_0,c30_0_eq,s30b,B0,B1,B2,List.replicate,Nat.reduceAdd,Nat.reduceSub,Nat.reduceLeDiff,Nat.reduceLT,Nat.reduceEqDiff,reduceCtorEq,Int.reduceEq,Int.reduceLT,Int.reduceLE,lenA,hlen,h0]
  rw [← g30_0_eq]
  generalize hr2 : thenL (Λ g30_0 _ _) _ = r
  refine Exists.elim (thenL_inv hr2 (key _ ?_ ?_ ?_ ?_ (.inl ⟨rfl, rfl⟩) (by simp) g0 gN (But.refl.app (Nat.le_refl _) _))) ?_
  iterate 4 simp only [B3,Nat.reduceLT,Nat.reduceEqDiff,hlen,h0]
  clear hr2 key
  rintro e ⟨tm1, H1, ⟨rfl, k1, k2, k3, k4, k5⟩, rfl⟩
  cases bad with
  | true =>
   simp only [if_true] at k3
   have hlv := leave_but (keep := false) (r := .agg [.im (.str []), .im (.int .i64 0), .im (.str []), .im (.int .i64 0), .nils, .nils]) k5 k4 rfl rfl hirl
   simp only [zeroN,enc_flat]
   simp only [zO] at k3
   simp only [B0,B1,B2,List.replicate,Nat.reduceAdd,Nat.reduceSub,Nat.reduceLeDiff,Nat.reduceLT,Nat.reduceEqDiff,reduceCtorEq,Int.reduceEq,Int.reduceLT,Int.reduceLE,lenA,endK,resA,tupA,k1,k2,k3]
   exact congrArg some hlv
  | false =>
   simp only [Bool.false_eq_true,if_false] at k3
   have hlv := leave_but (keep := false) (r := .agg [.im (.str textW), .im (.int .i64 0), .im (.str t), .im (.int .i64 0), .nils, .nils]) k5 k4 rfl rfl hirl
   simp only [enc_flat]
   simp only [nO] at k3
   simp only [B0,B1,B2,List.replicate,Nat.reduceAdd,Nat.reduceSub,Nat.reduceLeDiff,Nat.reduceLT,Nat.reduceEqDiff,reduceCtorEq,Int.reduceEq,Int.reduceLT,Int.reduceLE,lenA,endK,resA,tupA,k1,k2,k3]
   exact congrArg some hlv
end Go.Abs.Seat
end
section
set_option linter.unusedVariables false
set_option linter.unusedSimpArgs false
namespace Go.Abs.Seat
open Go.Proofs
def mayN (h : Int) : Nat → Nat → Bool → Bool
 | 0, _, m => m
 | f + 1, l, m => mayN h f (l + 1) (m || !plnZ (16 * h + (l : Int)))
theorem may_shut (h : Int) (hh : 0 ≤ h ∧ h < 16) : mayN h 16 0 false = !shut h := by
 have : ∀ x : Fin 16, mayN (x.val : Int) 16 0 false = !shut (x.val : Int) := by decide +kernel
 have := this ⟨h.toNat, by omega⟩
 simpa only [Int.toNat_of_nonneg hh.1] using this
theorem l36a (h : Int) (hh : 0 ≤ h ∧ h < 16) (H : Heap) :
  ∀ (f l : Nat) (m : Bool) (tm : List AV), l + f = 16 → tm.length = 109 → tm.getD 9 undefA = .im (.int .i64 h) → tm.getD 10 undefA = .im (.bool m) → tm.getD 11 undefA = .im (.int .i64 (l : Int)) →
  ∃ e tm' H', Λ c36_0 tm H = some (e, tm', H') ∧ (e = .exit 2 ∧ tm'.length = 109 ∧ H' = H ∧ tm'.getD 10 undefA = .im (.bool (mayN h f l m)) ∧ ∀ i, i < 10 → tm'.getD i undefA = tm.getD i undefA)
 | 0, l, m, tm, hl, hlen, h9, h10, h11 => by
  have hc : decide ((l : Int) < 16) = false := decide_eq_false (by omega)
  rw [l36_0]
  simp only [b36_0,B0,B1,B2,List.replicate,Nat.reduceAdd,Nat.reduceSub,Nat.reduceLeDiff,Nat.reduceLT,Nat.reduceEqDiff,reduceCtorEq,Int.reduceEq,Int.reduceLT,Int.reduceLE,lenA,hlen,h9,h10,h11,hc]
  refine ⟨_, _, _, rfl, rfl, by simp only [List.length_set,hlen], rfl, by simp only [B3,Nat.reduceLT,Nat.reduceEqDiff,hlen,h10,mayN], fun i hi => ?_⟩
  repeat rw [gs_ne (by omega)]
 | f + 1, l, m, tm, hl, hlen, h9, h10, h11 => by
  have hc : decide ((l : Int) < 16) = true := decide_eq_true (by omega)
  have hc2 : decide (0 ≤ h) = true := decide_eq_true hh.1
  have hwr := wrap_nat (i := l) (by omega)
  have w1 : IntKind.i64.wrap (16 * h) = 16 * h := Go.Abs.Seat.wrap_small _ (by omega)
  have w2 : IntKind.i64.wrap (16 * h + (l : Int)) = 16 * h + (l : Int) := Go.Abs.Seat.wrap_small _ (by omega)
  have c1 := fun H => s56 (16 * h + (l : Int)) H
  rw [mayN]
  cases m with
  | true =>
   have key := fun tm1 => l36a h hh H f (l + 1) true tm1 (by omega)
   rw [l36_0, Bool.true_or]
   simp only [b36_0,B0,B1,B2,List.replicate,Nat.reduceAdd,Nat.reduceSub,Nat.reduceLeDiff,Nat.reduceLT,Nat.reduceEqDiff,reduceCtorEq,Int.reduceEq,Int.reduceLT,Int.reduceLE,lenA,hlen,h9,h10,h11,hc,hc2,hwr]
   refine ex_imp (key _ ?_ ?_ ?_ ?_) fun _ _ _ ⟨q1, q2, q3, q4, q5⟩ => ⟨q1, q2, q3, q4, fun i hi => ?_⟩
   iterate 4 simp only [B3,Nat.reduceLT,Nat.reduceEqDiff,hlen,h9]
   rw [q5 i hi]
   repeat rw [gs_ne (by omega)]
  | false =>
   have key := fun tm1 => l36a h hh H f (l + 1) (!plnZ (16 * h + (l : Int))) tm1 (by omega)
   rw [l36_0, Bool.false_or]
   simp only [b36_0,B0,B1,B2,List.replicate,Nat.reduceAdd,Nat.reduceSub,Nat.reduceLeDiff,Nat.reduceLT,Nat.reduceEqDiff,reduceCtorEq,Int.reduceEq,Int.reduceLT,Int.reduceLE,lenA,hlen,h9,h10,h11,hc,hc2,hwr,w1,w2,c1]
   refine ex_imp (key _ ?_ ?_ ?_ ?_) fun _ _ _ ⟨q1, q2, q3, q4, q5⟩ => ⟨q1, q2, q3, q4, fun i hi => ?_⟩
   iterate 4 simp only [B3,Nat.reduceLT,Nat.reduceEqDiff,hlen,h9]
   rw [q5 i hi]
   repeat rw [gs_ne (by omega)]
theorem l36n (h : Int) (hh : h < 0) (H : Heap) (m : Bool) (tm : List AV) (hlen : tm.length = 109) (h9 : tm.getD 9 undefA = .im (.int .i64 h)) (h10 : tm.getD 10 undefA = .im (.bool m)) (h11 : tm.getD 11 undefA = .im (.int .i64 0)) :
  ∃ e tm' H', Λ c36_0 tm H = some (e, tm', H') ∧ (e = .exit 2 ∧ tm'.length = 109 ∧ H' = H ∧ tm'.getD 10 undefA = .im (.bool m) ∧ ∀ i, i < 10 → tm'.getD i undefA = tm.getD i undefA) := by
 have hc2 : decide (0 ≤ h) = false := decide_eq_false (by omega)
 rw [l36_0]
 simp only [b36_0,B0,B1,B2,List.replicate,Nat.reduceAdd,Nat.reduceSub,Nat.reduceLeDiff,Nat.reduceLT,Nat.reduceEqDiff,reduceCtorEq,Int.reduceEq,Int.reduceLT,Int.reduceLE,lenA,hlen,h9,h10,h11,hc2]
 refine ⟨_, _, _, rfl, rfl, by simp only [List.length_set,hlen], rfl, by simp only [B3,Nat.reduceLT,Nat.reduceEqDiff,hlen,h10], fun i hi => ?_⟩
 repeat rw [gs_ne (by omega)]
theorem l36b (h : Int) (hh : -1 ≤ h ∧ h < 16) (H : Heap) (tm : List AV) (hlen : tm.length = 109) (h9 : tm.getD 9 undefA = .im (.int .i64 h)) (h10 : tm.getD 10 undefA = .im (.bool false)) (h11 : tm.getD 11 undefA = .im (.int .i64 0)) :
  ∃ e tm' H', Λ c36_0 tm H = some (e, tm', H') ∧ (e = .exit 2 ∧ tm'.length = 109 ∧ H' = H ∧ tm'.getD 10 undefA = .im (.bool (!shut h)) ∧ ∀ i, i < 10 → tm'.getD i undefA = tm.getD i undefA) := by
 by_cases hn : h < 0
 ·have : shut h = true := by unfold shut; rw [decide_eq_true hn]; rfl
  rw [this]
  exact l36n h hn H false tm hlen h9 h10 h11
 ·have := l36a h ⟨by omega, hh.2⟩ H 16 0 false tm rfl hlen h9 h10 h11
  rwa [may_shut h ⟨by omega, hh.2⟩] at this
theorem l36 (b : List UInt8) (hb : b.length ≤ 4611686018427387904) (N : Nat) (H0 : Heap) (hN : N = H0.length) :
  ∀ (f : Nat) (out : List UInt8) (p : Nat) (tm : List AV) (Hc : Heap) (v : AV) (t : List UInt8) (q : Nat) (bad : Bool), strN b f out p = (t, q, bad) → b.length < p + f → p ≤ b.length → out.length ≤ 256 → tm.length = 109 → tm.getD 0 undefA = .im (.str b) → tm.getD 1 undefA = .im (.int .i64 (p : Int)) → tm.getD 7 undefA = v →
   Gath 5 1 N v Hc (out.map fun b => [byteDat b]) → N ≤ Hc.length → (∀ i, i < N → Hc[i]? = H0[i]?) →
  ∃ e tm' H', Λ c36_1 tm Hc = some (e, tm', H') ∧ (tm'.length = 109 ∧ N ≤ H'.length ∧ (∀ i, i < N → H'[i]? = H0[i]?) ∧ ((e = .ret ∧ tm'.getD 4 undefA = .im (.str t) ∧ tm'.getD 5 undefA = .im (.int .i64 (q : Int)) ∧ tm'.getD 6 undefA = .im (.bool (!bad))) ∨
   (e = .exit 0 ∧ bad = true ∧ t = [] ∧ tm'.getD 1 undefA = .im (.int .i64 (q : Int))))) := by
 intro f
 induction f with
 | zero => intro out p tm Hc v t q bad hS hf hp; omega
 | succ f ih =>
  intro out p tm Hc v t q bad hS hf hp ho hlen h0 h1 h7 hG hHl hlow
  have p2 : (0 : Int) ≤ (p : Int) := Int.natCast_nonneg p
  have p3 : (0 : Int) ≤ ((p + 1 : Nat) : Int) := Int.natCast_nonneg _
  have p4 : (0 : Int) ≤ ((p + 2 : Nat) : Int) := Int.natCast_nonneg _
  have hvc : v = AV.nils ∧ out = [] ∨ ∃ tok, v = .asl 1 (out.map fun b => [byteDat b]) tok := by
   rcases hG with ⟨he, rfl⟩ | ⟨_, tok, _, rfl, _⟩
   ·exact .inl ⟨rfl, by simpa using he⟩
   ·exact .inr ⟨tok, rfl⟩
  have hlA : lenA v = some out.length := by
   rcases hvc with ⟨rfl, rfl⟩ | ⟨tok, rfl⟩
   ·rfl
   ·simp [lenA]
  have hcast : decide ((out.length : Int) = 256) = decide (out.length = 256) := by
   by_cases h : out.length = 256
   ·rw [decide_eq_true h, decide_eq_true (by omega)]
   ·rw [decide_eq_false h, decide_eq_false (by omega)]
  have pl0 : plnZ ((0 : UInt8).toNat : Int) = false := by decide
  by_cases hk : p < b.length
  ·have hc : decide ((p : Int) < (b.length : Int)) = true := decide_eq_true (by omega)
   have hsk := peek_some hk
   have z34 : decide (((peekB b p).toNat : Int) = 34) = decide (peekB b p = 34) := byte_eq _ 34
   have z92 : decide (((peekB b p).toNat : Int) = 92) = decide (peekB b p = 92) := byte_eq _ 92
   have wi : IntKind.i64.wrap ((peekB b p).toNat : Int) = ((peekB b p).toNat : Int) := Go.Abs.Seat.wrap_small _ (by have := (peekB b p).toNat_lt; omega)
   have cpl := fun H => s56 ((peekB b p).toNat : Int) H
   have hwr := wrap_nat (i := p) (by omega)
   have hwr1 := wrap_nat (i := p + 1) (by omega)
   have hwr2 := wrap_nat (i := p + 2) (by omega)
   unfold strN at hS
   generalize hpk : peekB b p = c at *
   have hbd : byteDat c = .int .u8 (c.toNat : Int) := rfl
   by_cases hq : c = 34
   ·rw [decide_eq_true hq] at z34
    rw [if_pos hq] at hS
    simp only [Prod.mk.injEq] at hS
    obtain ⟨rfl, rfl, hbad⟩ := hS
    rw [l36_1]
    rcases hvc with ⟨rfl, rfl⟩ | ⟨tok, rfl⟩
    all_goals simp only [b36_1,B0,B1,B2,List.replicate,Nat.reduceAdd,Nat.reduceSub,Nat.reduceLeDiff,Nat.reduceLT,Nat.reduceEqDiff,reduceCtorEq,Int.reduceEq,Int.reduceLT,Int.reduceLE,lenA,bytesOf_map',intOfA,hbd,Int.toNat_natCast,hlen,h0,h1,h7,hc,p2,hsk,z34,hwr]
    all_goals exact ⟨_, _, _, rfl, by simp only [List.length_set,hlen], hHl, hlow, .inl ⟨rfl, by simp only [B3,Nat.reduceLT,Nat.reduceEqDiff,hlen], by simp only [B3,Nat.reduceLT,Nat.reduceEqDiff,hlen], by simp only [B3,Nat.reduceLT,Nat.reduceEqDiff,hlen,← hbad,Bool.not_false]⟩⟩
   ·rw [decide_eq_false hq] at z34
    rw [if_neg hq] at hS
    rcases Bool.eq_false_or_eq_true (decide (out.length = 256) || (!plnZ (c.toNat : Int) && !decide (c = 92))) with hbd2 | hbd2
    ·rw [hbd2, if_pos rfl] at hS
     simp only [Prod.mk.injEq] at hS
     obtain ⟨rfl, rfl, hbad⟩ := hS
     rcases Bool.eq_false_or_eq_true (decide (out.length = 256)) with e1 | e1
     ·rw [l36_1]
      simp only [b36_1,B0,B1,B2,List.replicate,Nat.reduceAdd,Nat.reduceSub,Nat.reduceLeDiff,Nat.reduceLT,Nat.reduceEqDiff,reduceCtorEq,Int.reduceEq,Int.reduceLT,Int.reduceLE,hlA,intOfA,hbd,Int.toNat_natCast,hlen,h0,h1,h7,hc,p2,hsk,z34,hcast,e1]
      exact ⟨_, _, _, rfl, by simp only [List.length_set,hlen], hHl, hlow, .inl ⟨rfl, by simp only [B3,Nat.reduceLT,Nat.reduceEqDiff,hlen], by simp only [B3,Nat.reduceLT,Nat.reduceEqDiff,hlen], by simp only [B3,Nat.reduceLT,Nat.reduceEqDiff,hlen,← hbad,Bool.not_true]⟩⟩
     ·rw [e1, Bool.false_or, Bool.and_eq_true] at hbd2
      obtain ⟨e2, e3⟩ := hbd2
      have e2' : plnZ (c.toNat : Int) = false := by simpa using e2
      have e3' : decide (c = 92) = false := by simpa using e3
      rw [e2'] at cpl
      rw [e3'] at z92
      rw [l36_1]
      simp only [b36_1,B0,B1,B2,List.replicate,Nat.reduceAdd,Nat.reduceSub,Nat.reduceLeDiff,Nat.reduceLT,Nat.reduceEqDiff,reduceCtorEq,Int.reduceEq,Int.reduceLT,Int.reduceLE,hlA,intOfA,hbd,Int.toNat_natCast,hlen,h0,h1,h7,hc,p2,hsk,z34,hcast,e1,wi,cpl,z92]
      exact ⟨_, _, _, rfl, by simp only [List.length_set,hlen], hHl, hlow, .inl ⟨rfl, by simp only [B3,Nat.reduceLT,Nat.reduceEqDiff,hlen], by simp only [B3,Nat.reduceLT,Nat.reduceEqDiff,hlen], by simp only [B3,Nat.reduceLT,Nat.reduceEqDiff,hlen,← hbad,Bool.not_true]⟩⟩
    ·rw [hbd2, if_neg (by simp)] at hS
     rw [Bool.or_eq_false_iff] at hbd2
     obtain ⟨e1, e23⟩ := hbd2
     have hol : out.length < 256 := by have := of_decide_eq_false e1; omega
     by_cases h92 : c = 92
     ·rw [if_pos h92] at hS
      rw [decide_eq_true h92] at z92
      have pl92 : (plnZ (c.toNat : Int)) = false := by rw [h92]; decide
      rw [pl92] at cpl
      have hby := esc_byte b (p + 1)
      have c56 := fun (n : Int) (H : Heap) => s56 n H
      unfold escP at hS hby
      by_cases hk1 : p + 1 < b.length
      ·have hc1 : decide ((b.length : Int) ≤ ((p + 1 : Nat) : Int)) = false := decide_eq_false (by omega)
       have hsk1 := peek_some hk1
       have n1 := fun H => s57 ((peekB b (p + 1)).toNat : Int) ⟨Int.natCast_nonneg _, by have := (peekB b (p + 1)).toNat_lt; omega⟩ H
       have r1 := nib_range ((peekB b (p + 1)).toNat : Int)
       generalize hpk1 : peekB b (p + 1) = d at *
       have hbd1 : byteDat d = .int .u8 (d.toNat : Int) := rfl
       generalize nibZ (d.toNat : Int) = h at *
       have ka := fun tm1 => l36b h r1 Hc tm1
       rw [l36_1]
       simp only [b36_1,e36_0,B0,B1,B2,List.replicate,Nat.reduceAdd,Nat.reduceSub,Nat.reduceLeDiff,Nat.reduceLT,Nat.reduceEqDiff,reduceCtorEq,Int.reduceEq,Int.reduceLT,Int.reduceLE,hlA,intOfA,hbd,hbd1,Int.toNat_natCast,hlen,h0,h1,h7,hc,p2,p3,hsk,z34,hcast,e1,wi,cpl,z92,hwr,hc1,hsk1,n1]
       generalize hr2 : thenL (Λ c36_0 _ _) _ = r
       refine Exists.elim (thenL_inv hr2 (ka _ ?_ ?_ ?_ ?_)) ?_
       iterate 4 simp only [B3,Nat.reduceLT,Nat.reduceEqDiff,hlen]
       clear hr2 ka
       rintro e ⟨tm1, H1, ⟨rfl, k1, hH1, k2, k3⟩, rfl⟩
       have hH1' := hH1.symm
       subst hH1'
       have g0 := k3 0 (by decide)
       have g1 := k3 1 (by decide)
       have g7 := k3 7 (by decide)
       have g9 := k3 9 (by decide)
       simp only [B3,Nat.reduceLT,Nat.reduceEqDiff,hlen,h0,h1,h7] at g0 g1 g7 g9
       clear k3
       rcases Bool.eq_false_or_eq_true (shut h) with hs | hs
       ·rw [hs] at k2
        simp only [hs,if_true,Prod.mk.injEq] at hS
        obtain ⟨rfl, rfl, hbad⟩ := hS
        simp only [B0,B1,B2,List.replicate,Nat.reduceAdd,Nat.reduceSub,Nat.reduceLeDiff,Nat.reduceLT,Nat.reduceEqDiff,reduceCtorEq,Int.reduceEq,Int.reduceLT,Int.reduceLE,lenA,k1,g0,g1,g7,g9,k2]
        exact ⟨_, _, _, rfl, by simp only [List.length_set,k1], hHl, hlow, .inl ⟨rfl, by simp only [B3,Nat.reduceLT,Nat.reduceEqDiff,k1], by simp only [B3,Nat.reduceLT,Nat.reduceEqDiff,k1], by simp only [B3,Nat.reduceLT,Nat.reduceEqDiff,k1,← hbad,Bool.not_true]⟩⟩
       ·simp only [hs,Bool.false_eq_true,if_false] at hS hby
        rw [hs] at k2
        have hh : 0 ≤ h := by
         unfold shut at hs
         simp only [Bool.or_eq_false_iff] at hs
         have := of_decide_eq_false hs.1
         omega
        by_cases hk2 : p + 2 < b.length
        ·have hc2 : decide ((b.length : Int) ≤ ((p + 2 : Nat) : Int)) = false := decide_eq_false (by omega)
         have hsk2 := peek_some hk2
         have n2 := fun H => s57 ((peekB b (p + 2)).toNat : Int) ⟨Int.natCast_nonneg _, by have := (peekB b (p + 2)).toNat_lt; omega⟩ H
         have r2 := nib_range ((peekB b (p + 2)).toNat : Int)
         have pe : p + 1 + 1 = p + 2 := rfl
         rw [pe] at hS hby
         generalize hpk2 : peekB b (p + 2) = d2 at *
         have hbd3 : byteDat d2 = .int .u8 (d2.toNat : Int) := rfl
         generalize nibZ (d2.toNat : Int) = l at *
         have w1 : IntKind.i64.wrap (16 * h) = 16 * h := Go.Abs.Seat.wrap_small _ (by omega)
         have w2 : IntKind.i64.wrap (16 * h + l) = 16 * h + l := Go.Abs.Seat.wrap_small _ (by omega)
         have pw : ((p + 1 + 1 : Nat) : Int) = ((p + 2 : Nat) : Int) := rfl
         rcases Bool.eq_false_or_eq_true (decide (l < 0)) with f1 | f1
         ·rw [f1, Bool.true_or] at hS
          simp only [if_true,Prod.mk.injEq] at hS
          obtain ⟨rfl, rfl, hbad⟩ := hS
          simp only [B0,B1,B2,List.replicate,Nat.reduceAdd,Nat.reduceSub,Nat.reduceLeDiff,Nat.reduceLT,Nat.reduceEqDiff,reduceCtorEq,Int.reduceEq,Int.reduceLT,Int.reduceLE,lenA,intOfA,hbd3,Int.toNat_natCast,k1,g0,g1,g7,g9,k2,hwr1,pw,hc2,p4,hsk2,n2,f1]
          exact ⟨_, _, _, rfl, by simp only [List.length_set,k1], hHl, hlow, .inl ⟨rfl, by simp only [B3,Nat.reduceLT,Nat.reduceEqDiff,k1], by simp only [B3,Nat.reduceLT,Nat.reduceEqDiff,k1], by simp only [B3,Nat.reduceLT,Nat.reduceEqDiff,k1,← hbad,Bool.not_true]⟩⟩
         ·rw [f1, Bool.false_or] at hS hby
          have hl0 : 0 ≤ l := by have := of_decide_eq_false f1; omega
          have c5 := fun H => s56 (16 * h + l) H
          rcases Bool.eq_false_or_eq_true (plnZ (16 * h + l)) with gg | gg
          ·rw [gg] at hS c5
           simp only [if_true,Prod.mk.injEq] at hS
           obtain ⟨rfl, rfl, hbad⟩ := hS
           simp only [B0,B1,B2,List.replicate,Nat.reduceAdd,Nat.reduceSub,Nat.reduceLeDiff,Nat.reduceLT,Nat.reduceEqDiff,reduceCtorEq,Int.reduceEq,Int.reduceLT,Int.reduceLE,lenA,intOfA,hbd3,Int.toNat_natCast,k1,g0,g1,g7,g9,k2,hwr1,pw,hc2,p4,hsk2,n2,f1,w1,w2,c5]
           exact ⟨_, _, _, rfl, by simp only [List.length_set,k1], hHl, hlow, .inl ⟨rfl, by simp only [B3,Nat.reduceLT,Nat.reduceEqDiff,k1], by simp only [B3,Nat.reduceLT,Nat.reduceEqDiff,k1], by simp only [B3,Nat.reduceLT,Nat.reduceEqDiff,k1,← hbad,Bool.not_true]⟩⟩
          ·rw [gg] at hS c5 hby
           simp only [Bool.false_eq_true,if_false] at hS hby
           have w3 : IntKind.u8.wrap (16 * h + l) = 16 * h + l := u8w (by omega)
           generalize UInt8.ofNat (16 * h + l).toNat = ec at *
           obtain ⟨tok, H4, hap, hG4, hl4, hlow4, hob4⟩ := hG.grow (bytes := 1) hHl [byteDat ec] (by simp; omega) (by decide)
           have el1 : elems Hc 1 (.im (.sl 1 [[.int .u8 (16 * h + l)]])) = some [[byteDat ec]] := by rw [← hby]; exact el_byte
           have key := fun tm1 => ih (out ++ [ec]) (p + 3) tm1 H4 (.asl 1 ((out ++ [ec]).map fun b => [byteDat b]) tok) t q bad hS (by omega) (by omega) (by simp; omega)
           simp only [List.map_append,List.map_cons,List.map_nil] at key
           have pw3 : ((p + 2 + 1 : Nat) : Int) = ((p + 3 : Nat) : Int) := rfl
           simp only [B0,B1,B2,List.replicate,Nat.reduceAdd,Nat.reduceSub,Nat.reduceLeDiff,Nat.reduceLT,Nat.reduceEqDiff,reduceCtorEq,Int.reduceEq,Int.reduceLT,Int.reduceLE,lenA,intOfA,hbd3,Int.toNat_natCast,k1,g0,g1,g7,g9,k2,hwr1,hwr2,pw,pw3,hc2,p4,hsk2,n2,f1,w1,w2,w3,c5,tD_byte,el1,hap]
           refine ex_imp (key _ ?_ ?_ ?_ ?_ hG4 (by omega) (fun i hi => (hlow4 i hi).trans (hlow i hi))) fun _ _ _ h => h
           all_goals simp only [B3,Nat.reduceLT,Nat.reduceEqDiff,k1,g0]
        ·have hc2 : decide ((b.length : Int) ≤ ((p + 2 : Nat) : Int)) = true := decide_eq_true (by omega)
         have hz2 : peekB b (p + 2) = 0 := by unfold peekB; rw [List.getElem?_eq_none (by omega)]; rfl
         have pe : p + 1 + 1 = p + 2 := rfl
         have pw : ((p + 1 + 1 : Nat) : Int) = ((p + 2 : Nat) : Int) := rfl
         rw [pe, hz2, nib0] at hS
         simp only [show decide ((-1 : Int) < 0) = true from rfl,Bool.true_or,if_true,Prod.mk.injEq] at hS
         obtain ⟨rfl, rfl, hbad⟩ := hS
         simp only [B0,B1,B2,List.replicate,Nat.reduceAdd,Nat.reduceSub,Nat.reduceLeDiff,Nat.reduceLT,Nat.reduceEqDiff,reduceCtorEq,Int.reduceEq,Int.reduceLT,Int.reduceLE,lenA,k1,g0,g1,g7,g9,k2,hwr1,pw,hc2]
         exact ⟨_, _, _, rfl, by simp only [List.length_set,k1], hHl, hlow, .inl ⟨rfl, by simp only [B3,Nat.reduceLT,Nat.reduceEqDiff,k1], by simp only [B3,Nat.reduceLT,Nat.reduceEqDiff,k1], by simp only [B3,Nat.reduceLT,Nat.reduceEqDiff,k1,← hbad,Bool.not_true]⟩⟩
      ·have hc1 : decide ((b.length : Int) ≤ ((p + 1 : Nat) : Int)) = true := decide_eq_true (by omega)
       have hz1 : peekB b (p + 1) = 0 := by unfold peekB; rw [List.getElem?_eq_none (by omega)]; rfl
       rw [hz1, nib0] at hS
       have hsh : shut (-1) = true := rfl
       rw [hsh] at hS
       simp only [if_true,Prod.mk.injEq] at hS
       obtain ⟨rfl, rfl, hbad⟩ := hS
       rw [l36_1]
       simp only [b36_1,B0,B1,B2,List.replicate,Nat.reduceAdd,Nat.reduceSub,Nat.reduceLeDiff,Nat.reduceLT,Nat.reduceEqDiff,reduceCtorEq,Int.reduceEq,Int.reduceLT,Int.reduceLE,hlA,intOfA,hbd,Int.toNat_natCast,hlen,h0,h1,h7,hc,p2,hsk,z34,hcast,e1,wi,cpl,z92,hwr,hc1]
       exact ⟨_, _, _, rfl, by simp only [List.length_set,hlen], hHl, hlow, .inl ⟨rfl, by simp only [B3,Nat.reduceLT,Nat.reduceEqDiff,hlen], by simp only [B3,Nat.reduceLT,Nat.reduceEqDiff,hlen], by simp only [B3,Nat.reduceLT,Nat.reduceEqDiff,hlen,← hbad,Bool.not_true]⟩⟩
     ·rw [if_neg h92] at hS
      have e2 : plnZ (c.toNat : Int) = true := by
       rw [decide_eq_false h92] at e23
       simpa using e23
      rw [e2] at cpl
      rw [decide_eq_false h92] at z92
      obtain ⟨tok, H4, hap, hG4, hl4, hlow4, hob4⟩ := hG.grow (bytes := 1) hHl [byteDat c] (by simp; omega) (by decide)
      have key := fun tm1 => ih (out ++ [c]) (p + 1) tm1 H4 (.asl 1 ((out ++ [c]).map fun b => [byteDat b]) tok) t q bad hS (by omega) (by omega) (by simp; omega)
      simp only [List.map_append,List.map_cons,List.map_nil,hbd] at key
      simp only [hbd] at hap hG4
      rw [l36_1]
      simp only [b36_1,B0,B1,B2,List.replicate,Nat.reduceAdd,Nat.reduceSub,Nat.reduceLeDiff,Nat.reduceLT,Nat.reduceEqDiff,reduceCtorEq,Int.reduceEq,Int.reduceLT,Int.reduceLE,hlA,intOfA,hbd,Int.toNat_natCast,hlen,h0,h1,h7,hc,p2,hsk,z34,hcast,e1,wi,cpl,z92,hwr,tD_byte,el_byte,hbd,hap]
      refine ex_imp (key _ ?_ ?_ ?_ ?_ hG4 (by omega) (fun i hi => (hlow4 i hi).trans (hlow i hi))) fun _ _ _ h => h
      all_goals simp only [B3,Nat.reduceLT,Nat.reduceEqDiff,hlen,h0]
  ·have hc : decide ((p : Int) < (b.length : Int)) = false := decide_eq_false (by omega)
   have hz : peekB b p = 0 := by unfold peekB; rw [List.getElem?_eq_none (by omega)]; rfl
   have hS' : ([], p, true) = (t, q, bad) := by
    rw [← hS]
    unfold strN
    rw [hz, if_neg (by decide), pl0]
    simp
   simp only [Prod.mk.injEq] at hS'
   obtain ⟨ht, rfl, hbad⟩ := hS'
   rw [l36_1]
   simp only [b36_1,B0,B1,B2,List.replicate,Nat.reduceAdd,Nat.reduceSub,Nat.reduceLeDiff,Nat.reduceLT,Nat.reduceEqDiff,reduceCtorEq,Int.reduceEq,Int.reduceLT,Int.reduceLE,lenA,hlen,h0,h1,hc]
   exact ⟨_, _, _, rfl, by simp only [List.length_set,hlen], hHl, hlow, .inr ⟨rfl, hbad.symm, ht.symm, by simp only [B3,Nat.reduceLT,Nat.reduceEqDiff,hlen,h1]⟩⟩
theorem s36 (b : List UInt8) (hb : b.length ≤ 4611686018427387904) (p : Nat) (hp : p ≤ b.length) (H : Heap) (t : List UInt8) (q : Nat) (bad : Bool) (hS : strN b (b.length + 1 - p) [] p = (t, q, bad)) :
  L 36 [.im (.str b), .im (.int .i64 (p : Int))] H = some (.tup [.im (.str t), .im (.int .i64 (q : Int)), .im (.bool (!bad))], H) := by
 have key := fun tm1 => l36 b hb H.length H rfl (b.length + 1 - p) [] p tm1 H .nils t q bad hS (by omega) hp (by simp)
 rw [leq F36]
 obtain ⟨hlen, ha⟩ := enter_at (f := f36) (args := [.im (.str b), .im (.int .i64 (p : Int))]) (Nat.le_of_ble_eq_true rfl)
 have h0 := ha 0 _ rfl
 have h1 := ha 1 _ rfl
 generalize enterA f36 [.im (.str b), .im (.int .i64 (p : Int))] = tm at *
 change tm.length = 109 at hlen
 simp only [f36,e36_1,B0,B1,B2,List.replicate,Nat.reduceAdd,Nat.reduceSub,Nat.reduceLeDiff,Nat.reduceLT,Nat.reduceEqDiff,reduceCtorEq,Int.reduceEq,Int.reduceLT,Int.reduceLE,lenA,hlen,h0,h1]
 generalize hr2 : thenL (Λ c36_1 _ _) _ = r
 refine Exists.elim (thenL_inv hr2 (key _ ?_ ?_ ?_ ?_ (.inl ⟨rfl, rfl⟩) (Nat.le_refl _) (fun _ _ => rfl))) ?_
 iterate 4 simp only [B3,Nat.reduceLT,Nat.reduceEqDiff,hlen,h0,h1]
 clear hr2 key
 have hlv : ∀ (H1 : Heap) s q k, H.length ≤ H1.length → (∀ i, i < H.length → H1[i]? = H[i]?) → leave H false (.tup [.im (.str s), .im (.int .i64 q), .im (.bool k)]) H1 = (.tup [.im (.str s), .im (.int .i64 q), .im (.bool k)], H) := fun H1 s q k h1 h2 => leave_low rfl rfl h1 h2
 rintro e ⟨tm1, H1, ⟨k1, k2, k3, ⟨rfl, k4, k5, k6⟩ | ⟨rfl, rfl, rfl, k4⟩⟩, rfl⟩
 ·simp only [B0,B1,B2,List.replicate,Nat.reduceAdd,Nat.reduceSub,Nat.reduceLeDiff,Nat.reduceLT,Nat.reduceEqDiff,reduceCtorEq,Int.reduceEq,Int.reduceLT,Int.reduceLE,lenA,endK,resA,tupA,k1,k4,k5,k6,hlv H1 _ _ _ k2 k3]
 ·simp only [B0,B1,B2,List.replicate,Nat.reduceAdd,Nat.reduceSub,Nat.reduceLeDiff,Nat.reduceLT,Nat.reduceEqDiff,reduceCtorEq,Int.reduceEq,Int.reduceLT,Int.reduceLE,lenA,endK,resA,tupA,k1,k4,hlv H1 _ _ _ k2 k3,Bool.not_true]
end Go.Abs.Seat
end
section
set_option linter.unusedVariables false
set_option linter.unusedSimpArgs false
namespace Go.Abs.Seat
open Go.Proofs
def begB (w r : List UInt8) : Bool := decide (w.length ≤ r.length) && decide (r.take w.length = w)
theorem s84 (w r : List UInt8) (H : Heap) : L 84 [.im (.str w), .im (.str r)] H = some (.im (.bool (begB w r)), H) := by
 have hnn : (0 : Int) ≤ (w.length : Int) := Int.natCast_nonneg _
 rw [leq F84]
 obtain ⟨hlen, ha⟩ := enter_at (f := f84) (args := [.im (.str w), .im (.str r)]) (Nat.le_of_ble_eq_true rfl)
 have h0 := ha 0 _ rfl
 have h1 := ha 1 _ rfl
 generalize enterA f84 [.im (.str w), .im (.str r)] = tm at *
 change tm.length = 18 at hlen
 unfold begB
 by_cases h : w.length ≤ r.length
 ·have hc : decide ((w.length : Int) ≤ (r.length : Int)) = true := decide_eq_true (by omega)
  have hd : decide (w.length ≤ r.length) = true := decide_eq_true h
  have hz : 0 ≤ w.length ∧ w.length ≤ r.length := ⟨Nat.zero_le _, h⟩
  simp only [f84,B0,B1,B2,List.replicate,Nat.reduceAdd,Nat.reduceSub,Nat.reduceLeDiff,Nat.reduceLT,Nat.reduceEqDiff,reduceCtorEq,Int.reduceEq,Int.reduceLT,Int.reduceLE,lenA,endK,resA,tupA,boundA,intOfA,Int.toNat_natCast,hnn,hlen,h0,h1,hc,hd,hz,Nat.sub_zero,Bool.true_and,leave_same,Nat.zero_le,h]
 ·have hc : decide ((w.length : Int) ≤ (r.length : Int)) = false := decide_eq_false (by omega)
  have hd : decide (w.length ≤ r.length) = false := decide_eq_false h
  simp only [f84,B0,B1,B2,List.replicate,Nat.reduceAdd,Nat.reduceSub,Nat.reduceLeDiff,Nat.reduceLT,Nat.reduceEqDiff,reduceCtorEq,Int.reduceEq,Int.reduceLT,Int.reduceLE,lenA,endK,resA,tupA,hlen,h0,h1,hc,hd,Bool.false_and,leave_same]
theorem l71a (s : List UInt8) (N : Nat) (hs : s.length ≤ 9223372036854775807) (d d' : Int) (hd : IntKind.i64.wrap (d - 1) = d') (rd : Nat → Nat × KT × Bool) (kd : Int) (cnt : Nat) (hck : cntK kd = (cnt : Int))
  (hrd : 0 < cnt → ∀ (k : Nat) (H : Heap), k ≤ s.length → L 71 [.im (.str s), .im (.int .i64 (k : Int)), .im (.int .i64 d')] H = some (.tup [.im (.agg (encT (rd k).2.1)), .im (.int .i64 ((rd k).1 : Int)), .im (.bool (rd k).2.2)], H))
  (hle : 0 < cnt → ∀ k, k ≤ s.length → (rd k).1 ≤ s.length) (hcnt : cnt ≤ 2) :
  ∀ (m i : Nat), i + m = cnt → ∀ (tm : List AV) (H : Heap) (k : Nat) (acc : List KT) (v x y : AV), k ≤ s.length → acc.length = i → tm.length = 163 → tm.getD 0 undefA = .im (.str s) → tm.getD 1 undefA = .im (.int .i64 (k : Int)) → tm.getD 2 undefA = .im (.int .i64 d) → tm.getD 6 undefA = .ptr N 0 0 → tm.getD 9 undefA = .im (.int .i64 kd) → tm.getD 11 undefA = .ptr (N + 1) 0 0 →
  tm.getD 12 undefA = .im (.int .i64 (i : Int)) → H[N]? = some (.obj none [[x, y]]) → H[N + 1]? = some (.obj none [[.im (.int .i64 kd), v]]) → Gath 34 2 (N + 2) v H (acc.map encT) → N + 2 ≤ H.length →
  ∃ e tm' H', Λ c71_2 tm H = some (e, tm', H') ∧ tm'.length = 163 ∧ tm'.getD 0 undefA = .im (.str s) ∧ tm'.getD 6 undefA = .ptr N 0 0 ∧ tm'.getD 9 undefA = .im (.int .i64 kd) ∧ tm'.getD 11 undefA = .ptr (N + 1) 0 0 ∧ (∀ i, i < N → H'[i]? = H[i]?) ∧ N + 2 ≤ H'.length ∧
   (readL rd s m i k acc).1 ≤ s.length ∧ match (readL rd s m i k acc).2 with
    | none => e = .ret ∧ H'[N]? = some (.obj none [[.im (.int .i64 0), .nils]]) ∧ tm'.getD 7 undefA = .im (.int .i64 ((readL rd s m i k acc).1 : Int)) ∧ tm'.getD 8 undefA = .im (.bool false)
    | some l => e = .exit 2 ∧ tm'.getD 1 undefA = .im (.int .i64 ((readL rd s m i k acc).1 : Int)) ∧ H'[N]? = some (.obj none [[x, y]]) ∧ (∃ v', H'[N + 1]? = some (.obj none [[.im (.int .i64 kd), v']]) ∧ Gath 34 2 (N + 2) v' H' (l.map encT)) ∧ l.length = cnt
 | 0, i, hi, tm, H, k, acc, v, x, y, hk, hacc, hlen, h0, h1, h2, h6, h9, h11, h12, oN, o1, hG, hHl => by
  have hc : decide ((i : Int) < (cnt : Int)) = false := decide_eq_false (by omega)
  have h23 := s83 kd
  rw [hck] at h23
  rw [l71_2]
  simp only [readL,b71_2,B0,B1,B2,List.replicate,Nat.reduceAdd,Nat.reduceSub,Nat.reduceLeDiff,Nat.reduceLT,Nat.reduceEqDiff,reduceCtorEq,Int.reduceEq,Int.reduceLT,Int.reduceLE,lenA,hlen,h9,h12,h23,hc]
  exact ⟨_, _, _, rfl, by simp only [List.length_set,hlen], by simp only [B3,Nat.reduceLT,Nat.reduceEqDiff,hlen,h0], by simp only [B3,Nat.reduceLT,Nat.reduceEqDiff,hlen,h6], by simp only [B3,Nat.reduceLT,Nat.reduceEqDiff,hlen,h9], by simp only [B3,Nat.reduceLT,Nat.reduceEqDiff,hlen,h11], fun _ _ => rfl, hHl, hk, rfl, by simp only [B3,Nat.reduceLT,Nat.reduceEqDiff,hlen,h1], oN, ⟨_, o1, hG⟩, by omega⟩
 | m + 1, i, hi, tm, H, k, acc, v, x, y, hk, hacc, hlen, h0, h1, h2, h6, h9, h11, h12, oN, o1, hG, hHl => by
  have hc : decide ((i : Int) < (cnt : Int)) = true := decide_eq_true (by omega)
  have hnn : (0 : Int) ≤ (k : Int) := Int.natCast_nonneg k
  have hwr := wrap_nat (i := i) (by omega)
  have h23 := s83 kd
  rw [hck] at h23
  have hcase : (decide ((0 : Int) < (i : Int)) = false ∧ ((sepB i).toNat : Int) = 40) ∨ (decide ((0 : Int) < (i : Int)) = true ∧ ((sepB i).toNat : Int) = 44) := by
   have : i = 0 ∨ i = 1 := by omega
   rcases this with rfl | rfl
   ·exact .inl ⟨rfl, rfl⟩
   ·exact .inr ⟨rfl, rfl⟩
  rw [l71_2]
  simp only [readL]
  by_cases hsg : signB s k (sepB i) = true
  ·simp only [hsg,if_true]
   have hk1 : k < s.length := sign_lt hsg
   have hge : decide ((s.length : Int) ≤ (k : Int)) = false := decide_eq_false (by omega)
   have hsk : s[k]? = some (sepB i) := of_decide_eq_true hsg
   have hwk := wrap_nat (i := k) (by omega)
   have h46 := fun H => hrd (by omega) (k + 1) H hk1
   have hle1 := hle (by omega) (k + 1) hk1
   generalize hrk : rd (k + 1) = q at *
   obtain ⟨k2, t, ok⟩ := q
   simp only at h46 hle1 ⊢
   obtain ⟨k', s', ts⟩ := t
   simp only [encT] at h46
   have ga : ∀ (j : Nat) (o : HO) (M : Heap), H[j]? = some o → (H ++ M)[j]? = some o := fun j o M h => by rw [get_app (List.getElem?_eq_some_iff.1 h).1]; exact h
   have oN1 := ga _ _ [HO.obj none [[.im (.int .i64 k'), .im (.sl s' (encTs ts))]]] oN
   have o11 := ga _ _ [HO.obj none [[.im (.int .i64 k'), .im (.sl s' (encTs ts))]]] o1
   cases ok with
   | true =>
    have hGx := (hG.more [HO.obj none [[.im (.int .i64 k'), .im (.sl s' (encTs ts))]]]).grow (bytes := 32) (by simp; omega) (encT (.mk k' s' ts)) (by simp; omega) (by decide)
    obtain ⟨tok, H3, hap, hG3, hl3, hlow3, hob3⟩ := hGx
    simp only [encT] at hap
    have o13 := hob3 _ _ _ o11
    have oN3 := hob3 _ _ _ oN1
    have hl3' : H.length + 1 ≤ H3.length := by simpa using hl3
    have key := l71a s N hs d d' hd rd kd cnt hck hrd hle hcnt m (i + 1) (by omega)
    have hmap : acc.map encT ++ [encT (.mk k' s' ts)] = (acc ++ [KT.mk k' s' ts]).map encT := by simp
    rcases hcase with ⟨hg, hb40⟩ | ⟨hg, hb40⟩
    all_goals simp only [b71_2,B0,B1,B2,List.replicate,Nat.reduceAdd,Nat.reduceSub,Nat.reduceLeDiff,Nat.reduceLT,Nat.reduceEqDiff,reduceCtorEq,Int.reduceEq,Int.reduceLT,Int.reduceLE,lenA,intOfA,byteDat,elems,toDatss,toDats,toDat,Int.toNat_natCast,hlen,h0,h1,h2,h6,h9,h11,h12,hc,hg,hnn,h23,hge,hsk,hb40,hwk,hd,h46,o11,hap,o13,hwr]
    all_goals refine ex_imp (key _ _ k2 (acc ++ [.mk k' s' ts]) (.asl 2 (acc.map encT ++ [encT (.mk k' s' ts)]) tok) x y hle1 (by simp; omega) ?_ ?_ ?_ ?_ ?_ ?_ ?_ ?_ ?_ ?_ ?_ ?_) ?_
    all_goals first
     |(simp only [B3,Nat.reduceLT,Nat.reduceEqDiff,hlen,h0,h1,h2,h6,h9,h11]; done)
     |(rw [List.getElem?_set_ne (by omega)]; exact oN3)
     |(rw [List.getElem?_set_self (by omega)]; simp only [encT])
     |(rw [← hmap]; exact hG3.set_obj o13 _)
     |(simp only [List.length_set]; omega)
     |(rintro e tm' H' ⟨a1, a2, a3, a4, a5, a6, a7⟩
       refine ⟨a1, a2, a3, a4, a5, fun j hj => ?_, a7⟩
       rw [a6 j hj, List.getElem?_set_ne (by omega), hlow3 j (by omega), get_app (by omega)])
   | false =>
    simp only [Bool.false_eq_true,if_false]
    rcases hcase with ⟨hg, hb40⟩ | ⟨hg, hb40⟩
    all_goals simp only [b71_2,B0,B1,B2,List.replicate,Nat.reduceAdd,Nat.reduceSub,Nat.reduceLeDiff,Nat.reduceLT,Nat.reduceEqDiff,reduceCtorEq,Int.reduceEq,Int.reduceLT,Int.reduceLE,lenA,intOfA,byteDat,Int.toNat_natCast,hlen,h0,h1,h2,h6,h9,h11,h12,hc,hg,hnn,h23,hge,hsk,hb40,hwk,hd,h46,oN1,hwr]
    all_goals refine ⟨_, _, _, rfl, ?_, ?_, ?_, ?_, ?_, ?_, ?_, hle1, rfl, ?_, ?_, ?_⟩
    all_goals first
     |(simp only [B3,Nat.reduceLT,Nat.reduceEqDiff,hlen,h0,h6,h9,h11]; done)
     |(intro j hj; rw [List.getElem?_set_ne (by omega), get_app (by omega)])
     |(rw [List.getElem?_set_self (by simp; omega)]; done)
     |(simp; omega)
  ·have hsg' : signB s k (sepB i) = false := by simpa using hsg
   rw [hsg']
   simp only [Bool.false_eq_true,if_false]
   by_cases hk1 : k < s.length
   ·have hge : decide ((s.length : Int) ≤ (k : Int)) = false := decide_eq_false (by omega)
    have hsk : s[k]? = some s[k] := List.getElem?_eq_getElem hk1
    generalize s[k] = a at hsk
    have hne : decide (((a.toNat : Nat) : Int) = (((sepB i).toNat : Nat) : Int)) = false := by
     rw [byte_eq]
     refine decide_eq_false fun h => ?_
     rw [signB, hsk, h] at hsg'
     simp at hsg'
    rcases hcase with ⟨hg, hb40⟩ | ⟨hg, hb40⟩
    all_goals rw [hb40] at hne
    all_goals simp only [b71_2,B0,B1,B2,List.replicate,Nat.reduceAdd,Nat.reduceSub,Nat.reduceLeDiff,Nat.reduceLT,Nat.reduceEqDiff,reduceCtorEq,Int.reduceEq,Int.reduceLT,Int.reduceLE,lenA,intOfA,byteDat,Int.toNat_natCast,hlen,h0,h1,h2,h6,h9,h11,h12,hc,hg,hnn,h23,hge,hsk,hne,oN,hwr]
    all_goals refine ⟨_, _, _, rfl, ?_, ?_, ?_, ?_, ?_, ?_, ?_, hk, rfl, ?_, ?_, ?_⟩
    all_goals first
     |(simp only [B3,Nat.reduceLT,Nat.reduceEqDiff,hlen,h0,h6,h9,h11]; done)
     |(intro j hj; rw [List.getElem?_set_ne (by omega)]; done)
     |(rw [List.getElem?_set_self (by omega)]; done)
     |(simp; omega)
   ·have hge : decide ((s.length : Int) ≤ (k : Int)) = true := decide_eq_true (by omega)
    rcases hcase with ⟨hg, hb40⟩ | ⟨hg, hb40⟩
    all_goals simp only [b71_2,B0,B1,B2,List.replicate,Nat.reduceAdd,Nat.reduceSub,Nat.reduceLeDiff,Nat.reduceLT,Nat.reduceEqDiff,reduceCtorEq,Int.reduceEq,Int.reduceLT,Int.reduceLE,lenA,intOfA,byteDat,Int.toNat_natCast,hlen,h0,h1,h2,h6,h9,h11,h12,hc,hg,hnn,h23,hge,oN,hwr]
    all_goals refine ⟨_, _, _, rfl, ?_, ?_, ?_, ?_, ?_, ?_, ?_, hk, rfl, ?_, ?_, ?_⟩
    all_goals first
     |(simp only [B3,Nat.reduceLT,Nat.reduceEqDiff,hlen,h0,h6,h9,h11]; done)
     |(intro j hj; rw [List.getElem?_set_ne (by omega)]; done)
     |(rw [List.getElem?_set_self (by omega)]; done)
     |(simp; omega)
end Go.Abs.Seat
end
section
set_option linter.unusedVariables false
set_option linter.unusedSimpArgs false
namespace Go.Abs.Seat
open Go.Proofs
def lcp : List UInt8 → List UInt8 → Nat
 | a :: w, b :: r => if b = a then lcp w r + 1 else 0
 | _, _ => 0
theorem wordK_len (k : Int) : (wordK k).length ≤ 8 := by
 rcases kidx_cases k with (rfl | rfl | rfl | rfl | rfl | rfl | rfl | rfl) | h
 all_goals first
  | decide
  |(unfold wordK; rw [h]; simp)
theorem lcp_nil (w : List UInt8) : lcp w [] = 0 := by cases w <;> rfl
theorem l71l (s w : List UInt8) (k : Nat) (hw8 : w.length ≤ 8) (hk : k ≤ s.length) (hs : s.length ≤ 4611686018427387904) (H : Heap) :
  ∀ (m n : Nat), n + m = w.length → ∀ (tm : List AV), tm.length = 163 → tm.getD 0 undefA = .im (.str s) → tm.getD 1 undefA = .im (.int .i64 (k : Int)) → tm.getD 19 undefA = .im (.str w) → tm.getD 20 undefA = .im (.int .i64 (n : Int)) →
  ∃ e tm' H', Λ c71_0 tm H = some (e, tm', H') ∧ e = .exit 6 ∧ H' = H ∧ tm'.length = 163 ∧ (∀ j, j = 0 ∨ j = 1 ∨ j = 2 ∨ j = 6 ∨ j = 17 ∨ j = 18 → tm'.getD j undefA = tm.getD j undefA) ∧ tm'.getD 20 undefA = .im (.int .i64 ((n + lcp (w.drop n) (s.drop (k + n)) : Nat) : Int))
 | 0, n, hn, tm, hlen, h0, h1, h19, h20 => by
  have e : w.drop n = [] := by rw [List.drop_eq_nil_iff]; omega
  have hc : decide ((n : Int) < (w.length : Int)) = false := decide_eq_false (by omega)
  rw [e, l71_0]
  simp only [b71_0,B0,B1,B2,List.replicate,Nat.reduceAdd,Nat.reduceSub,Nat.reduceLeDiff,Nat.reduceLT,Nat.reduceEqDiff,reduceCtorEq,Int.reduceEq,Int.reduceLT,Int.reduceLE,lenA,hlen,h0,h1,h19,h20,hc,lcp]
  exact ⟨_, _, _, rfl, rfl, rfl, by simp only [List.length_set,hlen], by rintro j (rfl | rfl | rfl | rfl | rfl | rfl) <;> simp only [B3,Nat.reduceLT,Nat.reduceEqDiff,hlen], by simp only [B3,Nat.reduceLT,Nat.reduceEqDiff,hlen,h20]⟩
 | m + 1, n, hn, tm, hlen, h0, h1, h19, h20 => by
  have hlt : n < w.length := by omega
  obtain ⟨a, hwa, e⟩ := drop_cons hlt
  have hc : decide ((n : Int) < (w.length : Int)) = true := decide_eq_true (by omega)
  have hadd : IntKind.i64.wrap ((k : Int) + (n : Int)) = ((k + n : Nat) : Int) := by
   rw [Go.Abs.Seat.wrap_small _ (by omega)]; omega
  have hnn : (0 : Int) ≤ (n : Int) := Int.natCast_nonneg n
  have hkn : (0 : Int) ≤ ((k + n : Nat) : Int) := Int.natCast_nonneg _
  have hwr := wrap_nat (i := n) (by omega)
  rw [e, l71_0]
  by_cases hl : k + n < s.length
  ·obtain ⟨b, hsb, e2⟩ := drop_cons hl
   have hc2 : decide (((k + n : Nat) : Int) < (s.length : Int)) = true := decide_eq_true (by omega)
   rw [e2]
   simp only [lcp]
   by_cases hab : b = a
   ·have hd : decide (((b.toNat : Nat) : Int) = ((a.toNat : Nat) : Int)) = true := by rw [byte_eq]; exact decide_eq_true hab
    have key := l71l s w k hw8 hk hs H m (n + 1) (by omega)
    simp only [b71_0,B0,B1,B2,List.replicate,Nat.reduceAdd,Nat.reduceSub,Nat.reduceLeDiff,Nat.reduceLT,Nat.reduceEqDiff,reduceCtorEq,Int.reduceEq,Int.reduceLT,Int.reduceLE,lenA,intOfA,byteDat,Int.toNat_natCast,hlen,h0,h1,h19,h20,hc,hadd,hc2,hnn,hkn,hwa,hsb,hd,hwr,if_pos hab]
    refine ex_imp (key _ ?_ ?_ ?_ ?_ ?_) ?_
    iterate 5 simp only [B3,Nat.reduceLT,Nat.reduceEqDiff,hlen,h0,h1,h19]
    rintro e tm' H' ⟨he, hH, hl', g, g20⟩
    refine ⟨he, hH, hl', ?_, ?_⟩
    ·rintro j (rfl | rfl | rfl | rfl | rfl | rfl)
     all_goals (rw [g _ (by simp)]; simp only [B3,Nat.reduceLT,Nat.reduceEqDiff,hlen])
    ·rw [g20, show n + 1 + lcp (w.drop (n + 1)) (s.drop (k + (n + 1))) = n + (lcp (w.drop (n + 1)) (s.drop (k + n + 1)) + 1) by rw [Nat.add_assoc k]; omega]
   ·have hd : decide (((b.toNat : Nat) : Int) = ((a.toNat : Nat) : Int)) = false := by rw [byte_eq]; exact decide_eq_false hab
    simp only [b71_0,B0,B1,B2,List.replicate,Nat.reduceAdd,Nat.reduceSub,Nat.reduceLeDiff,Nat.reduceLT,Nat.reduceEqDiff,reduceCtorEq,Int.reduceEq,Int.reduceLT,Int.reduceLE,lenA,intOfA,byteDat,Int.toNat_natCast,hlen,h0,h1,h19,h20,hc,hadd,hc2,hnn,hkn,hwa,hsb,hd,if_neg hab]
    exact ⟨_, _, _, rfl, rfl, rfl, by simp only [List.length_set,hlen], by rintro j (rfl | rfl | rfl | rfl | rfl | rfl) <;> simp only [B3,Nat.reduceLT,Nat.reduceEqDiff,hlen], by simp only [B3,Nat.reduceLT,Nat.reduceEqDiff,hlen,h20]⟩
  ·have e2 : s.drop (k + n) = [] := by rw [List.drop_eq_nil_iff]; omega
   have hc2 : decide (((k + n : Nat) : Int) < (s.length : Int)) = false := decide_eq_false (by omega)
   rw [e2, lcp_nil]
   simp only [b71_0,B0,B1,B2,List.replicate,Nat.reduceAdd,Nat.reduceSub,Nat.reduceLeDiff,Nat.reduceLT,Nat.reduceEqDiff,reduceCtorEq,Int.reduceEq,Int.reduceLT,Int.reduceLE,lenA,hlen,h0,h1,h19,h20,hc,hadd,hc2]
   exact ⟨_, _, _, rfl, rfl, rfl, by simp only [List.length_set,hlen], by rintro j (rfl | rfl | rfl | rfl | rfl | rfl) <;> simp only [B3,Nat.reduceLT,Nat.reduceEqDiff,hlen], by simp only [B3,Nat.reduceLT,Nat.reduceEqDiff,hlen,h20]⟩
def skipK (d kd : Int) : Bool := decide (wordK kd = []) || (decide (d = 1) && decide (0 < cntK kd))
def bestL (d : Int) (r : List UInt8) : List Int → Nat → Nat
 | [], b => b
 | kd :: l, b => bestL d r l (if skipK d kd = true then b else if b < lcp (wordK kd) r then lcp (wordK kd) r else b)
def kindsF : Nat → Nat → List Int
 | 0, _ => []
 | m + 1, i => (i : Int) :: kindsF m (i + 1)
theorem l71b (s : List UInt8) (k : Nat) (d : Int) (hk : k ≤ s.length) (hs : s.length ≤ 4611686018427387904) (H : Heap) :
  ∀ (m i : Nat), i + m = 10 → ∀ (tm : List AV) (b : Nat), tm.length = 163 → tm.getD 0 undefA = .im (.str s) → tm.getD 1 undefA = .im (.int .i64 (k : Int)) → tm.getD 2 undefA = .im (.int .i64 d) → tm.getD 17 undefA = .im (.int .i64 (b : Int)) → tm.getD 18 undefA = .im (.int .i64 (i : Int)) →
  ∃ e tm' H', Λ c71_1 tm H = some (e, tm', H') ∧ e = .exit 4 ∧ H' = H ∧ tm'.length = 163 ∧ tm'.getD 1 undefA = .im (.int .i64 (k : Int)) ∧ tm'.getD 6 undefA = tm.getD 6 undefA ∧ tm'.getD 17 undefA = .im (.int .i64 ((bestL d (s.drop k) (kindsF m i) b : Nat) : Int))
 | 0, i, hi, tm, b, hlen, h0, h1, h2, h17, h18 => by
  have hc : decide ((i : Int) ≤ 9) = false := decide_eq_false (by omega)
  rw [l71_1]
  simp only [b71_1,B0,B1,B2,List.replicate,Nat.reduceAdd,Nat.reduceSub,Nat.reduceLeDiff,Nat.reduceLT,Nat.reduceEqDiff,reduceCtorEq,Int.reduceEq,Int.reduceLT,Int.reduceLE,lenA,hlen,h0,h1,h17,h18,hc,kindsF,bestL]
  exact ⟨_, _, _, rfl, rfl, rfl, by simp only [List.length_set,hlen], by simp only [B3,Nat.reduceLT,Nat.reduceEqDiff,hlen,h1], by simp only [B3,Nat.reduceLT,Nat.reduceEqDiff,hlen], by simp only [B3,Nat.reduceLT,Nat.reduceEqDiff,hlen,h17]⟩
 | m + 1, i, hi, tm, b, hlen, h0, h1, h2, h17, h18 => by
  have hc : decide ((i : Int) ≤ 9) = true := decide_eq_true (by omega)
  have h22 := s82 (i : Int)
  have h23 := s83 (i : Int)
  have hwr := wrap_nat (i := i) (by omega)
  have hw8 := wordK_len (i : Int)
  have key := l71b s k d hk hs H m (i + 1) (by omega)
  rw [l71_1]
  simp only [kindsF,bestL]
  cases hsk : skipK d (i : Int) with
  | true =>
   simp only [if_true]
   have hcase : (decide (wordK (i : Int) = []) = true) ∨ (decide (wordK (i : Int) = []) = false ∧ decide (d = 1) = true ∧ decide (0 < cntK (i : Int)) = true) := by
    unfold skipK at hsk
    generalize decide (wordK (i : Int) = []) = x1 at *
    generalize decide (d = 1) = x2 at *
    generalize decide (0 < cntK (i : Int)) = x3 at *
    revert hsk
    cases x1 <;> cases x2 <;> cases x3 <;> simp
   rcases hcase with e1 | ⟨e1, e2, e3⟩
   ·simp only [b71_1,B0,B1,B2,List.replicate,Nat.reduceAdd,Nat.reduceSub,Nat.reduceLeDiff,Nat.reduceLT,Nat.reduceEqDiff,reduceCtorEq,Int.reduceEq,Int.reduceLT,Int.reduceLE,lenA,hlen,h0,h1,h2,h17,h18,hc,h22,e1,hwr]
    refine ex_imp (key _ b ?_ ?_ ?_ ?_ ?_ ?_) ?_
    iterate 6 simp only [B3,Nat.reduceLT,Nat.reduceEqDiff,hlen,h0,h1,h2,h17]
    rintro e tm' H' ⟨a1, a2, a3, a4, a5, a6⟩
    exact ⟨a1, a2, a3, a4, by rw [a5]; simp only [B3,Nat.reduceLT,Nat.reduceEqDiff,hlen], a6⟩
   ·simp only [b71_1,B0,B1,B2,List.replicate,Nat.reduceAdd,Nat.reduceSub,Nat.reduceLeDiff,Nat.reduceLT,Nat.reduceEqDiff,reduceCtorEq,Int.reduceEq,Int.reduceLT,Int.reduceLE,lenA,hlen,h0,h1,h2,h17,h18,hc,h22,h23,e1,e2,e3,hwr]
    refine ex_imp (key _ b ?_ ?_ ?_ ?_ ?_ ?_) ?_
    iterate 6 simp only [B3,Nat.reduceLT,Nat.reduceEqDiff,hlen,h0,h1,h2,h17]
    rintro e tm' H' ⟨a1, a2, a3, a4, a5, a6⟩
    exact ⟨a1, a2, a3, a4, by rw [a5]; simp only [B3,Nat.reduceLT,Nat.reduceEqDiff,hlen], a6⟩
  | false =>
   simp only [Bool.false_eq_true,if_false]
   have hcase : decide (wordK (i : Int) = []) = false ∧ (decide (d = 1) = false ∨ (decide (d = 1) = true ∧ decide (0 < cntK (i : Int)) = false)) := by
    unfold skipK at hsk
    generalize decide (wordK (i : Int) = []) = x1 at *
    generalize decide (d = 1) = x2 at *
    generalize decide (0 < cntK (i : Int)) = x3 at *
    revert hsk
    cases x1 <;> cases x2 <;> cases x3 <;> simp
   have keyl := l71l s (wordK (i : Int)) k hw8 hk hs H (wordK (i : Int)).length 0 (by omega)
   have zz : ((0 : Nat) : Int) = 0 := rfl
   simp only [zz,Nat.add_zero,Nat.zero_add,List.drop_zero] at keyl
   generalize wordK (i : Int) = wk at *
   obtain ⟨e1, hcase⟩ := hcase
   rcases hcase with e2 | ⟨e2, e3⟩
   all_goals first
    | simp only [b71_1,e71_0,B0,B1,B2,List.replicate,Nat.reduceAdd,Nat.reduceSub,Nat.reduceLeDiff,Nat.reduceLT,Nat.reduceEqDiff,reduceCtorEq,Int.reduceEq,Int.reduceLT,Int.reduceLE,lenA,hlen,h0,h1,h2,h17,h18,hc,h22,h23,e1,e2,e3,hwr]
    | simp only [b71_1,e71_0,B0,B1,B2,List.replicate,Nat.reduceAdd,Nat.reduceSub,Nat.reduceLeDiff,Nat.reduceLT,Nat.reduceEqDiff,reduceCtorEq,Int.reduceEq,Int.reduceLT,Int.reduceLE,lenA,hlen,h0,h1,h2,h17,h18,hc,h22,h23,e1,e2,hwr]
   all_goals generalize hr : thenL _ _ = r
   all_goals refine Exists.elim (thenL_inv hr (keyl _ ?_ ?_ ?_ ?_ ?_)) ?_
   all_goals first
    |(simp only [B3,Nat.reduceLT,Nat.reduceEqDiff,hlen,h0,h1]; done)
    | skip
   all_goals clear hr
   all_goals rintro e ⟨tm1, H1, ⟨rfl, rfl, hl1, g, g20⟩, rfl⟩
   all_goals have g0 := g 0 (by simp)
   all_goals have g1 := g 1 (by simp)
   all_goals have g2 := g 2 (by simp)
   all_goals have g6 := g 6 (by simp)
   all_goals have g17 := g 17 (by simp)
   all_goals have g18 := g 18 (by simp)
   all_goals simp only [B3,Nat.reduceLT,Nat.reduceEqDiff,hlen,h0,h1,h2,h17,h18] at g0 g1 g2 g6 g17 g18
   all_goals clear g
   all_goals generalize lcp wk (s.drop k) = lc at *
   all_goals by_cases hlc : b < lc
   all_goals first
    |(have e5 : decide ((b : Int) < (lc : Int)) = true := decide_eq_true (by omega)
      simp only [if_pos hlc]
      simp only [B0,B1,B2,List.replicate,Nat.reduceAdd,Nat.reduceSub,Nat.reduceLeDiff,Nat.reduceLT,Nat.reduceEqDiff,reduceCtorEq,Int.reduceEq,Int.reduceLT,Int.reduceLE,lenA,hl1,g0,g1,g2,g17,g18,g20,e5,hwr]
      refine ex_imp (key _ lc ?_ ?_ ?_ ?_ ?_ ?_) ?_)
    |(have e5 : decide ((b : Int) < (lc : Int)) = false := decide_eq_false (by omega)
      simp only [if_neg hlc]
      simp only [B0,B1,B2,List.replicate,Nat.reduceAdd,Nat.reduceSub,Nat.reduceLeDiff,Nat.reduceLT,Nat.reduceEqDiff,reduceCtorEq,Int.reduceEq,Int.reduceLT,Int.reduceLE,lenA,hl1,g0,g1,g2,g17,g18,g20,e5,hwr]
      refine ex_imp (key _ b ?_ ?_ ?_ ?_ ?_ ?_) ?_)
   all_goals first
    |(simp only [B3,Nat.reduceLT,Nat.reduceEqDiff,hl1,g0,g1,g2,g17]; done)
    |(rintro e tm' H' ⟨a1, a2, a3, a4, a5, a6⟩
      exact ⟨a1, a2, a3, a4, by rw [a5]; simp only [B3,Nat.reduceLT,Nat.reduceEqDiff,hl1,g6], a6⟩)
end Go.Abs.Seat
end
section
set_option linter.unusedVariables false
set_option linter.unusedSimpArgs false
namespace Go.Abs.Seat
open Go.Proofs
def okK (d : Int) (r : List UInt8) (kd : Int) : Bool := !skipK d kd && begB (wordK kd) r
def scanK (rd : Nat → Nat × KT × Bool) (s : List UInt8) (k : Nat) (kd : Int) : Nat × KT × Bool :=
 match readL rd s (cntK kd).toNat 0 (k + (wordK kd).length) [] with
 |(k', none) => (k', zeroT, false)
 |(k', some l) => if cntK kd = 0 then (k', mkT kd l, true) else (if signB s k' 41 = true then (k' + 1, mkT kd l, true) else (k', zeroT, false))
def scanP (s : List UInt8) : Nat → Nat → Nat × KT × Bool
 | 0, k => (k, zeroT, false)
 | d + 1, k => match (kindsF 9 1).find? (okK ((d : Int) + 1) (s.drop k)) with
  | some kd => scanK (scanP s d) s k kd
  | none => (k + bestL ((d : Int) + 1) (s.drop k) (kindsF 9 1) 0, zeroT, false)
theorem cntK_le (k : Int) : 0 ≤ cntK k ∧ cntK k ≤ 2 := by
 rcases kidx_cases k with (rfl | rfl | rfl | rfl | rfl | rfl | rfl | rfl) | h
 all_goals first
  | decide
  |(unfold cntK; rw [h]; simp)
theorem begB_len {w r : List UInt8} (h : begB w r = true) : w.length ≤ r.length := by
 unfold begB at h
 simp only [Bool.and_eq_true,decide_eq_true_eq] at h
 exact h.1
theorem scanK_le (rd : Nat → Nat × KT × Bool) (s : List UInt8) (hrd : ∀ k, k ≤ s.length → (rd k).1 ≤ s.length) (k : Nat) (kd : Int) (hk : k + (wordK kd).length ≤ s.length) : (scanK rd s k kd).1 ≤ s.length := by
 have h3 := readL_le rd s hrd (cntK kd).toNat 0 (k + (wordK kd).length) [] hk
 unfold scanK
 generalize readL rd s (cntK kd).toNat 0 (k + (wordK kd).length) [] = q at *
 obtain ⟨k', ol⟩ := q
 cases ol with
 | none => exact h3
 | some l =>
  simp only
  split
  ·exact h3
  ·split
   ·rename_i hs; exact sign_lt hs
   ·exact h3
theorem lcp_le : ∀ (w r : List UInt8), lcp w r ≤ r.length ∧ lcp w r ≤ w.length
 | [], r => by cases r <;> simp [lcp]
 | a :: w, [] => by simp [lcp]
 | a :: w, b :: r => by
  have := lcp_le w r
  simp only [lcp]
  split <;> simp <;> omega
theorem bestL_le (d : Int) (r : List UInt8) : ∀ (l : List Int) (b : Nat), b ≤ r.length → bestL d r l b ≤ r.length
 | [], b, h => h
 | kd :: l, b, h => by
  have := (lcp_le (wordK kd) r).1
  simp only [bestL]
  apply bestL_le d r l
  repeat' split
  all_goals omega
theorem find_ok {d : Int} {r : List UInt8} {kd : Int} {l : List Int} (h : l.find? (okK d r) = some kd) : okK d r kd = true := by
 have := List.find?_some h
 exact this
theorem scanP_le (s : List UInt8) : ∀ (d k : Nat), k ≤ s.length → (scanP s d k).1 ≤ s.length
 | 0, k, h => h
 | d + 1, k, h => by
  simp only [scanP]
  cases hf : (kindsF 9 1).find? (okK ((d : Int) + 1) (s.drop k)) with
  | none =>
   have := bestL_le ((d : Int) + 1) (s.drop k) (kindsF 9 1) 0 (Nat.zero_le _)
   rw [List.length_drop] at this
   simp only
   omega
  | some kd =>
   have h1 := find_ok hf
   simp only [okK,Bool.and_eq_true] at h1
   have h2 := begB_len h1.2
   rw [List.length_drop] at h2
   simp only
   exact scanK_le _ s (fun k hk => scanP_le s d k hk) k kd (by omega)
set_option maxHeartbeats 1000000 in
theorem l71o (s : List UInt8) (N : Nat) (hs : s.length ≤ 4611686018427387904) (d : Nat) (hd : d < 1000)
  (hrec : 0 < d → ∀ (k : Nat) (H : Heap), k ≤ s.length → L 71 [.im (.str s), .im (.int .i64 (k : Int)), .im (.int .i64 (d : Int))] H = some (.tup [.im (.agg (encT (scanP s d k).2.1)), .im (.int .i64 ((scanP s d k).1 : Int)), .im (.bool (scanP s d k).2.2)], H))
  (k : Nat) (hk : k ≤ s.length) (H : Heap) (oN : H[N]? = some (.obj none [[.im (.int .i64 0), .nils]])) (hHl : H.length = N + 1) :
  ∀ (m i : Nat), i + m = 10 → ∀ (tm : List AV), tm.length = 163 → tm.getD 0 undefA = .im (.str s) → tm.getD 1 undefA = .im (.int .i64 (k : Int)) → tm.getD 2 undefA = .im (.int .i64 ((d : Int) + 1)) → tm.getD 6 undefA = .ptr N 0 0 → tm.getD 9 undefA = .im (.int .i64 (i : Int)) →
  ∃ e tm' H', Λ c71_3 tm H = some (e, tm', H') ∧ tm'.length = 163 ∧ tm'.getD 6 undefA = .ptr N 0 0 ∧ match (kindsF m i).find? (okK ((d : Int) + 1) (s.drop k)) with
   | none => e = .exit 0 ∧ H' = H ∧ tm'.getD 0 undefA = .im (.str s) ∧ tm'.getD 1 undefA = .im (.int .i64 (k : Int)) ∧ tm'.getD 2 undefA = .im (.int .i64 ((d : Int) + 1))
   | some kd => e = .ret ∧ (∀ i, i < N → H'[i]? = H[i]?) ∧ N + 1 ≤ H'.length ∧ tm'.getD 7 undefA = .im (.int .i64 ((scanK (scanP s d) s k kd).1 : Int)) ∧ tm'.getD 8 undefA = .im (.bool (scanK (scanP s d) s k kd).2.2) ∧
     ∃ kk l v n, (scanK (scanP s d) s k kd).2.1 = mkT kk l ∧ H'[N]? = some (.obj none [[.im (.int .i64 kk), v]]) ∧ Gath 34 2 n v H' (l.map encT)
 | 0, i, hi, tm, hlen, h0, h1, h2, h6, h9 => by
  have hc : decide ((i : Int) ≤ 9) = false := decide_eq_false (by omega)
  rw [l71_3]
  simp only [b71_3,B0,B1,B2,List.replicate,Nat.reduceAdd,Nat.reduceSub,Nat.reduceLeDiff,Nat.reduceLT,Nat.reduceEqDiff,reduceCtorEq,Int.reduceEq,Int.reduceLT,Int.reduceLE,lenA,hlen,h9,hc,kindsF,List.find?_nil]
  exact ⟨_, _, _, rfl, by simp only [List.length_set,hlen], by simp only [B3,Nat.reduceLT,Nat.reduceEqDiff,hlen,h6], rfl, rfl, by simp only [B3,Nat.reduceLT,Nat.reduceEqDiff,hlen,h0], by simp only [B3,Nat.reduceLT,Nat.reduceEqDiff,hlen,h1], by simp only [B3,Nat.reduceLT,Nat.reduceEqDiff,hlen,h2]⟩
 | m + 1, i, hi, tm, hlen, h0, h1, h2, h6, h9 => by
  have hc : decide ((i : Int) ≤ 9) = true := decide_eq_true (by omega)
  have h22 := s82 (i : Int)
  have h23 := s83 (i : Int)
  have hwr := wrap_nat (i := i) (by omega)
  have hw8 := wordK_len (i : Int)
  have key := l71o s N hs d hd hrec k hk H oN hHl m (i + 1) (by omega)
  have hkk : (0 : Int) ≤ (k : Int) := Int.natCast_nonneg k
  have hsl : k ≤ s.length ∧ s.length ≤ s.length := ⟨hk, Nat.le_refl _⟩
  have htk : List.take (s.length - k) (s.drop k) = s.drop k := List.take_of_length_le (by simp)
  have h71 := s84 (wordK (i : Int)) (s.drop k) H
  rw [l71_3]
  simp only [kindsF,List.find?_cons]
  cases hok : okK ((d : Int) + 1) (s.drop k) (i : Int) with
  | false =>
   simp only
   have hcase : (decide (wordK (i : Int) = []) = true) ∨ (decide (wordK (i : Int) = []) = false ∧ decide ((d : Int) + 1 = 1) = true ∧ decide (0 < cntK (i : Int)) = true) ∨ (decide (wordK (i : Int) = []) = false ∧ decide ((d : Int) + 1 = 1) = true ∧ decide (0 < cntK (i : Int)) = false ∧ begB (wordK (i : Int)) (s.drop k) = false) ∨ (decide (wordK (i : Int) = []) = false ∧ decide ((d : Int) + 1 = 1) = false ∧ begB (wordK (i : Int)) (s.drop k) = false) := by
    unfold okK skipK at hok
    generalize decide (wordK (i : Int) = []) = x1 at *
    generalize decide ((d : Int) + 1 = 1) = x2 at *
    generalize decide (0 < cntK (i : Int)) = x3 at *
    generalize begB (wordK (i : Int)) (s.drop k) = x4 at *
    revert hok
    cases x1 <;> cases x2 <;> cases x3 <;> cases x4 <;> simp
   generalize begB (wordK (i : Int)) (s.drop k) = x4 at *
   generalize wordK (i : Int) = wk at *
   rcases hcase with e1 | ⟨e1, e2, e3⟩ | ⟨e1, e2, e3, rfl⟩ | ⟨e1, e2, rfl⟩
   all_goals first
    | simp only [b71_3,B0,B1,B2,List.replicate,Nat.reduceAdd,Nat.reduceSub,Nat.reduceLeDiff,Nat.reduceLT,Nat.reduceEqDiff,reduceCtorEq,Int.reduceEq,Int.reduceLT,Int.reduceLE,lenA,boundA,intOfA,Int.toNat_natCast,hkk,hsl,htk,hlen,h0,h1,h2,h6,h9,hc,h22,h23,h71,e1,e2,e3,hwr]
    | simp only [b71_3,B0,B1,B2,List.replicate,Nat.reduceAdd,Nat.reduceSub,Nat.reduceLeDiff,Nat.reduceLT,Nat.reduceEqDiff,reduceCtorEq,Int.reduceEq,Int.reduceLT,Int.reduceLE,lenA,boundA,intOfA,Int.toNat_natCast,hkk,hsl,htk,hlen,h0,h1,h2,h6,h9,hc,h22,h23,h71,e1,e2,hwr]
    | simp only [b71_3,B0,B1,B2,List.replicate,Nat.reduceAdd,Nat.reduceSub,Nat.reduceLeDiff,Nat.reduceLT,Nat.reduceEqDiff,reduceCtorEq,Int.reduceEq,Int.reduceLT,Int.reduceLE,lenA,hlen,h0,h1,h2,h6,h9,hc,h22,h23,e1,hwr]
   all_goals refine ex_imp (key _ ?_ ?_ ?_ ?_ ?_ ?_) fun _ _ _ h => h
   all_goals simp only [B3,Nat.reduceLT,Nat.reduceEqDiff,hlen,h0,h1,h2,h6]
  | true =>
   simp only
   have hcase : decide (wordK (i : Int) = []) = false ∧ begB (wordK (i : Int)) (s.drop k) = true ∧ (decide ((d : Int) + 1 = 1) = false ∨ (decide ((d : Int) + 1 = 1) = true ∧ decide (0 < cntK (i : Int)) = false)) := by
    unfold okK skipK at hok
    generalize decide (wordK (i : Int) = []) = x1 at *
    generalize decide ((d : Int) + 1 = 1) = x2 at *
    generalize decide (0 < cntK (i : Int)) = x3 at *
    generalize begB (wordK (i : Int)) (s.drop k) = x4 at *
    revert hok
    cases x1 <;> cases x2 <;> cases x3 <;> cases x4 <;> simp
   obtain ⟨e1, e4, hcase⟩ := hcase
   have hwl := begB_len e4
   rw [List.length_drop] at hwl
   rw [e4] at h71
   have hadd : IntKind.i64.wrap ((k : Int) + ((wordK (i : Int)).length : Int)) = ((k + (wordK (i : Int)).length : Nat) : Int) := by
    rw [Go.Abs.Seat.wrap_small _ (by omega)]; omega
   obtain ⟨hc0, hc2⟩ := cntK_le (i : Int)
   have hck : cntK (i : Int) = (((cntK (i : Int)).toNat : Nat) : Int) := by omega
   have hdd : (d : Int) + 1 - 1 = d := by omega
   have keya := l71a s N (by omega) ((d : Int) + 1) (d : Int) (by rw [hdd]; exact Go.Abs.Seat.wrap_small _ (by omega)) (scanP s d) (i : Int) (cntK (i : Int)).toNat hck (fun hp => hrec (by
    rcases hcase with h | ⟨h, h'⟩
    ·have := of_decide_eq_false h; omega
    ·have := of_decide_eq_false h'; omega)) (fun _ k hk => scanP_le s d k hk) (by omega) (cntK (i : Int)).toNat 0 (by omega)
   have zz : ((0 : Nat) : Int) = 0 := rfl
   rw [zz] at keya
   have hwlk : k + (wordK (i : Int)).length ≤ s.length := by omega
   unfold scanK
   generalize wordK (i : Int) = wk at *
   have hlenN : (H ++ [HO.obj none [[.im (.int .i64 (i : Int)), .nils]]])[N + 1]? = some (.obj none [[.im (.int .i64 (i : Int)), .nils]]) := by rw [← hHl, hget0]; rfl
   have hptr : H.length = N + 1 := hHl
   rcases hcase with e2 | ⟨e2, e3⟩
   ·simp only [b71_3,e71_2,B0,B1,B2,List.replicate,Nat.reduceAdd,Nat.reduceSub,Nat.reduceLeDiff,Nat.reduceLT,Nat.reduceEqDiff,reduceCtorEq,Int.reduceEq,Int.reduceLT,Int.reduceLE,lenA,boundA,intOfA,Int.toNat_natCast,hkk,hsl,htk,hlen,h0,h1,h2,h6,h9,hc,h22,h23,h71,e1,e2,hadd]
    generalize hr : thenL _ _ = r
    refine Exists.elim (thenL_inv hr (keya _ _ (k + wk.length) [] .nils (.im (.int .i64 0)) .nils hwlk rfl ?_ ?_ ?_ ?_ ?_ ?_ ?_ ?_ ?_ ?_ (.inl ⟨rfl, rfl⟩) ?_)) ?_
    iterate 8 simp only [B3,Nat.reduceLT,Nat.reduceEqDiff,hlen,h0,h1,h2,h6,h9,hHl]
    ·rw [get_app (by omega)]; exact oN
    ·exact hlenN
    ·simp; omega
    clear hr keya key
    rintro e ⟨tm1, H1, ⟨hl1, g0, g6, g9, g11, gb, gl, gle, hm⟩, rfl⟩
    generalize readL (scanP s d) s (cntK (i : Int)).toNat 0 (k + wk.length) [] = q at *
    obtain ⟨k', ol⟩ := q
    simp only at gle hm ⊢
    have gb' : ∀ j, j < N → H1[j]? = H[j]? := fun j hj => by rw [gb j hj, get_app (by omega)]
    cases ol with
    | none =>
     obtain ⟨rfl, oN1, g7, g8⟩ := hm
     simp only [b_ret,k_ret]
     exact ⟨_, _, _, rfl, hl1, g6, rfl, gb', by omega, g7, g8, 0, [], .nils, 0, rfl, oN1, .inl ⟨rfl, rfl⟩⟩
    | some l =>
     obtain ⟨rfl, g1, oN1, ⟨v', o1, hG⟩, hll⟩ := hm
     have hlN : N < H1.length := by omega
     have hkk' : (0 : Int) ≤ (k' : Int) := Int.natCast_nonneg k'
     by_cases hc0' : cntK (i : Int) = 0
     ·have hd0 : decide (0 < cntK (i : Int)) = false := decide_eq_false (by omega)
      simp only [if_pos hc0']
      have hG' := hG
      rcases hG with ⟨he, rfl⟩ | ⟨he, tok, _, rfl, _⟩
      all_goals simp only [B0,B1,B2,List.replicate,Nat.reduceAdd,Nat.reduceSub,Nat.reduceLeDiff,Nat.reduceLT,Nat.reduceEqDiff,reduceCtorEq,Int.reduceEq,Int.reduceLT,Int.reduceLE,lenA,hl1,g0,g1,g6,g9,g11,h23,hd0,oN1,o1]
      all_goals refine ⟨_, _, _, rfl, ?_, ?_, rfl, ?_, ?_, ?_, ?_, (i : Int), l, _, N + 2, rfl, List.getElem?_set_self hlN, hG'.set_obj oN1 _⟩
      all_goals first
       |(simp only [B3,Nat.reduceLT,Nat.reduceEqDiff,hl1,g6]; done)
       |(intro j hj; rw [List.getElem?_set_ne (by omega)]; exact gb' j hj)
       |(simp only [List.length_set]; omega)
     ·have hd0 : decide (0 < cntK (i : Int)) = true := decide_eq_true (by omega)
      simp only [if_neg hc0']
      cases hsg : signB s k' 41 with
      | true =>
       simp only [if_true]
       have hk1 := sign_lt hsg
       have hge : decide ((s.length : Int) ≤ (k' : Int)) = false := decide_eq_false (by omega)
       have hsk : s[k']? = some 41 := of_decide_eq_true hsg
       have hb41 : ((((41 : UInt8).toNat : Nat) : Int)) = 41 := rfl
       have hwk := wrap_nat (i := k') (by omega)
       have hG' := hG
       rcases hG with ⟨he, rfl⟩ | ⟨he, tok, _, rfl, _⟩
       all_goals simp only [B0,B1,B2,List.replicate,Nat.reduceAdd,Nat.reduceSub,Nat.reduceLeDiff,Nat.reduceLT,Nat.reduceEqDiff,reduceCtorEq,Int.reduceEq,Int.reduceLT,Int.reduceLE,lenA,intOfA,byteDat,Int.toNat_natCast,hkk',hb41,hl1,g0,g1,g6,g9,g11,h23,hd0,hge,hsk,hwk,oN1,o1]
       all_goals refine ⟨_, _, _, rfl, ?_, ?_, rfl, ?_, ?_, ?_, ?_, (i : Int), l, _, N + 2, rfl, List.getElem?_set_self hlN, hG'.set_obj oN1 _⟩
       all_goals first
        |(simp only [B3,Nat.reduceLT,Nat.reduceEqDiff,hl1,g6]; done)
        |(intro j hj; rw [List.getElem?_set_ne (by omega)]; exact gb' j hj)
        |(simp only [List.length_set]; omega)
      | false =>
       simp only [Bool.false_eq_true,if_false]
       by_cases hk1 : k' < s.length
       ·have hge : decide ((s.length : Int) ≤ (k' : Int)) = false := decide_eq_false (by omega)
        have hsk : s[k']? = some s[k'] := List.getElem?_eq_getElem hk1
        generalize s[k'] = a at hsk
        have hne : decide (((a.toNat : Nat) : Int) = 41) = false := by
         have := byte_eq a 41
         rw [show (((41 : UInt8).toNat : Nat) : Int) = 41 from rfl] at this
         rw [this]
         refine decide_eq_false fun h => ?_
         rw [signB, hsk, h] at hsg
         simp at hsg
        simp only [B0,B1,B2,List.replicate,Nat.reduceAdd,Nat.reduceSub,Nat.reduceLeDiff,Nat.reduceLT,Nat.reduceEqDiff,reduceCtorEq,Int.reduceEq,Int.reduceLT,Int.reduceLE,lenA,intOfA,byteDat,Int.toNat_natCast,hkk',hl1,g0,g1,g6,g9,g11,h23,hd0,hge,hsk,hne,oN1,o1]
        refine ⟨_, _, _, rfl, ?_, ?_, rfl, ?_, ?_, ?_, ?_, 0, [], .nils, 0, rfl, List.getElem?_set_self hlN, .inl ⟨rfl, rfl⟩⟩
        all_goals first
         |(simp only [B3,Nat.reduceLT,Nat.reduceEqDiff,hl1,g6]; done)
         |(intro j hj; rw [List.getElem?_set_ne (by omega)]; exact gb' j hj)
         |(simp only [List.length_set]; omega)
       ·have hge : decide ((s.length : Int) ≤ (k' : Int)) = true := decide_eq_true (by omega)
        simp only [B0,B1,B2,List.replicate,Nat.reduceAdd,Nat.reduceSub,Nat.reduceLeDiff,Nat.reduceLT,Nat.reduceEqDiff,reduceCtorEq,Int.reduceEq,Int.reduceLT,Int.reduceLE,lenA,hl1,g0,g1,g6,g9,g11,h23,hd0,hge,oN1,o1]
        refine ⟨_, _, _, rfl, ?_, ?_, rfl, ?_, ?_, ?_, ?_, 0, [], .nils, 0, rfl, List.getElem?_set_self hlN, .inl ⟨rfl, rfl⟩⟩
        all_goals first
         |(simp only [B3,Nat.reduceLT,Nat.reduceEqDiff,hl1,g6]; done)
         |(intro j hj; rw [List.getElem?_set_ne (by omega)]; exact gb' j hj)
         |(simp only [List.length_set]; omega)
   ·simp only [b71_3,e71_2,B0,B1,B2,List.replicate,Nat.reduceAdd,Nat.reduceSub,Nat.reduceLeDiff,Nat.reduceLT,Nat.reduceEqDiff,reduceCtorEq,Int.reduceEq,Int.reduceLT,Int.reduceLE,lenA,boundA,intOfA,Int.toNat_natCast,hkk,hsl,htk,hlen,h0,h1,h2,h6,h9,hc,h22,h23,h71,e1,e2,e3,hadd]
    generalize hr : thenL _ _ = r
    refine Exists.elim (thenL_inv hr (keya _ _ (k + wk.length) [] .nils (.im (.int .i64 0)) .nils hwlk rfl ?_ ?_ ?_ ?_ ?_ ?_ ?_ ?_ ?_ ?_ (.inl ⟨rfl, rfl⟩) ?_)) ?_
    iterate 8 simp only [B3,Nat.reduceLT,Nat.reduceEqDiff,hlen,h0,h1,h2,h6,h9,hHl]
    ·rw [get_app (by omega)]; exact oN
    ·exact hlenN
    ·simp; omega
    clear hr keya key
    rintro e ⟨tm1, H1, ⟨hl1, g0, g6, g9, g11, gb, gl, gle, hm⟩, rfl⟩
    generalize readL (scanP s d) s (cntK (i : Int)).toNat 0 (k + wk.length) [] = q at *
    obtain ⟨k', ol⟩ := q
    simp only at gle hm ⊢
    have gb' : ∀ j, j < N → H1[j]? = H[j]? := fun j hj => by rw [gb j hj, get_app (by omega)]
    cases ol with
    | none =>
     obtain ⟨rfl, oN1, g7, g8⟩ := hm
     simp only [b_ret,k_ret]
     exact ⟨_, _, _, rfl, hl1, g6, rfl, gb', by omega, g7, g8, 0, [], .nils, 0, rfl, oN1, .inl ⟨rfl, rfl⟩⟩
    | some l =>
     obtain ⟨rfl, g1, oN1, ⟨v', o1, hG⟩, hll⟩ := hm
     have hlN : N < H1.length := by omega
     have hkk' : (0 : Int) ≤ (k' : Int) := Int.natCast_nonneg k'
     by_cases hc0' : cntK (i : Int) = 0
     ·have hd0 : decide (0 < cntK (i : Int)) = false := decide_eq_false (by omega)
      simp only [if_pos hc0']
      have hG' := hG
      rcases hG with ⟨he, rfl⟩ | ⟨he, tok, _, rfl, _⟩
      all_goals simp only [B0,B1,B2,List.replicate,Nat.reduceAdd,Nat.reduceSub,Nat.reduceLeDiff,Nat.reduceLT,Nat.reduceEqDiff,reduceCtorEq,Int.reduceEq,Int.reduceLT,Int.reduceLE,lenA,hl1,g0,g1,g6,g9,g11,h23,hd0,oN1,o1]
      all_goals refine ⟨_, _, _, rfl, ?_, ?_, rfl, ?_, ?_, ?_, ?_, (i : Int), l, _, N + 2, rfl, List.getElem?_set_self hlN, hG'.set_obj oN1 _⟩
      all_goals first
       |(simp only [B3,Nat.reduceLT,Nat.reduceEqDiff,hl1,g6]; done)
       |(intro j hj; rw [List.getElem?_set_ne (by omega)]; exact gb' j hj)
       |(simp only [List.length_set]; omega)
     ·have hd0 : decide (0 < cntK (i : Int)) = true := decide_eq_true (by omega)
      simp only [if_neg hc0']
      cases hsg : signB s k' 41 with
      | true =>
       simp only [if_true]
       have hk1 := sign_lt hsg
       have hge : decide ((s.length : Int) ≤ (k' : Int)) = false := decide_eq_false (by omega)
       have hsk : s[k']? = some 41 := of_decide_eq_true hsg
       have hb41 : ((((41 : UInt8).toNat : Nat) : Int)) = 41 := rfl
       have hwk := wrap_nat (i := k') (by omega)
       have hG' := hG
       rcases hG with ⟨he, rfl⟩ | ⟨he, tok, _, rfl, _⟩
       all_goals simp only [B0,B1,B2,List.replicate,Nat.reduceAdd,Nat.reduceSub,Nat.reduceLeDiff,Nat.reduceLT,Nat.reduceEqDiff,reduceCtorEq,Int.reduceEq,Int.reduceLT,Int.reduceLE,lenA,intOfA,byteDat,Int.toNat_natCast,hkk',hb41,hl1,g0,g1,g6,g9,g11,h23,hd0,hge,hsk,hwk,oN1,o1]
       all_goals refine ⟨_, _, _, rfl, ?_, ?_, rfl, ?_, ?_, ?_, ?_, (i : Int), l, _, N + 2, rfl, List.getElem?_set_self hlN, hG'.set_obj oN1 _⟩
       all_goals first
        |(simp only [B3,Nat.reduceLT,Nat.reduceEqDiff,hl1,g6]; done)
        |(intro j hj; rw [List.getElem?_set_ne (by omega)]; exact gb' j hj)
        |(simp only [List.length_set]; omega)
      | false =>
       simp only [Bool.false_eq_true,if_false]
       by_cases hk1 : k' < s.length
       ·have hge : decide ((s.length : Int) ≤ (k' : Int)) = false := decide_eq_false (by omega)
        have hsk : s[k']? = some s[k'] := List.getElem?_eq_getElem hk1
        generalize s[k'] = a at hsk
        have hne : decide (((a.toNat : Nat) : Int) = 41) = false := by
         have := byte_eq a 41
         rw [show (((41 : UInt8).toNat : Nat) : Int) = 41 from rfl] at this
         rw [this]
         refine decide_eq_false fun h => ?_
         rw [signB, hsk, h] at hsg
         simp at hsg
        simp only [B0,B1,B2,List.replicate,Nat.reduceAdd,Nat.reduceSub,Nat.reduceLeDiff,Nat.reduceLT,Nat.reduceEqDiff,reduceCtorEq,Int.reduceEq,Int.reduceLT,Int.reduceLE,lenA,intOfA,byteDat,Int.toNat_natCast,hkk',hl1,g0,g1,g6,g9,g11,h23,hd0,hge,hsk,hne,oN1,o1]
        refine ⟨_, _, _, rfl, ?_, ?_, rfl, ?_, ?_, ?_, ?_, 0, [], .nils, 0, rfl, List.getElem?_set_self hlN, .inl ⟨rfl, rfl⟩⟩
        all_goals first
         |(simp only [B3,Nat.reduceLT,Nat.reduceEqDiff,hl1,g6]; done)
         |(intro j hj; rw [List.getElem?_set_ne (by omega)]; exact gb' j hj)
         |(simp only [List.length_set]; omega)
       ·have hge : decide ((s.length : Int) ≤ (k' : Int)) = true := decide_eq_true (by omega)
        simp only [B0,B1,B2,List.replicate,Nat.reduceAdd,Nat.reduceSub,Nat.reduceLeDiff,Nat.reduceLT,Nat.reduceEqDiff,reduceCtorEq,Int.reduceEq,Int.reduceLT,Int.reduceLE,lenA,hl1,g0,g1,g6,g9,g11,h23,hd0,hge,oN1,o1]
        refine ⟨_, _, _, rfl, ?_, ?_, rfl, ?_, ?_, ?_, ?_, 0, [], .nils, 0, rfl, List.getElem?_set_self hlN, .inl ⟨rfl, rfl⟩⟩
        all_goals first
         |(simp only [B3,Nat.reduceLT,Nat.reduceEqDiff,hl1,g6]; done)
         |(intro j hj; rw [List.getElem?_set_ne (by omega)]; exact gb' j hj)
         |(simp only [List.length_set]; omega)
end Go.Abs.Seat
end
section
set_option linter.unusedVariables false
set_option linter.unusedSimpArgs false
namespace Go.Abs.Seat
open Go.Proofs
theorem s71k {H H' : Heap} {tm : List AV} {n : Nat} {p : Int} {kk : Int} {v : AV} {l : List KT} {b : Bool} (h6 : tm.getD 6 undefA = .ptr H.length 0 0) (h7 : tm.getD 7 undefA = .im (.int .i64 p)) (h8 : tm.getD 8 undefA = .im (.bool b)) (hN : H'[H.length]? = some (.obj none [[.im (.int .i64 kk), v]]))
  (hG : Gath 34 2 n v H' (l.map encT)) (hb : ∀ i, i < H.length → H'[i]? = H[i]?) (hl : H.length ≤ H'.length) : endK f71 H .ret tm H' = some (.tup [.im (.agg (encT (mkT kk l))), .im (.int .i64 p), .im (.bool b)], H) := by
 have hr : ∀ v, (v = .nils ∧ l.map encT = [] ∨ ∃ tok, v = .asl 2 (l.map encT) tok ∧ l.map encT ≠ []) → leave H false (.tup [.agg [.im (.int .i64 kk), v], .im (.int .i64 p), .im (.bool b)]) H' = (.tup [.im (.agg (encT (mkT kk l))), .im (.int .i64 p), .im (.bool b)], H) := by
  intro v hv
  have hd : degrade (.tup [.agg [.im (.int .i64 kk), v], .im (.int .i64 p), .im (.bool b)]) = .tup [.im (.agg (encT (mkT kk l))), .im (.int .i64 p), .im (.bool b)] := by
   rcases hv with ⟨rfl, hl⟩ | ⟨tok, rfl, hl⟩
   ·have hl0 : l = [] := by simpa using hl
    subst hl0
    simp [degrade, degrade1, toDat, toDats, mkT, encT, encTs]
   ·have hl0 : l.length ≠ 0 := by simpa using hl
    simp only [degrade,degrade1,toDat,toDats,mkT,encT,encTs_map,if_neg hl0,List.map_cons,List.map_nil]
  exact leave_low hd (by simp [refsLt, refsLts]) hl hb
 have hfr : f71.results = [(6, some (some 2)), (7, none), (8, none)] := rfl
 have hfk : f71.keep = false := rfl
 rcases hG with ⟨he, rfl⟩ | ⟨he, tok, _, rfl, _⟩
 ·have := hr _ (.inl ⟨rfl, he⟩)
  simp only [endK,hfr,hfk,B0,B1,B2,List.replicate,Nat.reduceAdd,Nat.reduceSub,Nat.reduceLeDiff,Nat.reduceLT,Nat.reduceEqDiff,reduceCtorEq,Int.reduceEq,Int.reduceLT,Int.reduceLE,lenA,resA,tupA,h6,h7,h8,hN,this]
 ·have := hr _ (.inr ⟨tok, rfl, he⟩)
  simp only [endK,hfr,hfk,B0,B1,B2,List.replicate,Nat.reduceAdd,Nat.reduceSub,Nat.reduceLeDiff,Nat.reduceLT,Nat.reduceEqDiff,reduceCtorEq,Int.reduceEq,Int.reduceLT,Int.reduceLE,lenA,resA,tupA,h6,h7,h8,hN,this]
theorem s71step (s : List UInt8) (hs : s.length ≤ 4611686018427387904) (d : Nat) (hd : d < 1000)
  (hrec : 0 < d → ∀ (k : Nat) (H : Heap), k ≤ s.length → L 71 [.im (.str s), .im (.int .i64 (k : Int)), .im (.int .i64 (d : Int))] H = some (.tup [.im (.agg (encT (scanP s d k).2.1)), .im (.int .i64 ((scanP s d k).1 : Int)), .im (.bool (scanP s d k).2.2)], H))
  (k : Nat) (H : Heap) (hk : k ≤ s.length) :
  L 71 [.im (.str s), .im (.int .i64 (k : Int)), .im (.int .i64 ((d : Int) + 1))] H = some (.tup [.im (.agg (encT (scanP s (d + 1) k).2.1)), .im (.int .i64 ((scanP s (d + 1) k).1 : Int)), .im (.bool (scanP s (d + 1) k).2.2)], H) := by
 have hoN : (H ++ [HO.obj none [[.im (.int .i64 0), .nils]]])[H.length]? = some (.obj none [[.im (.int .i64 0), .nils]]) := by rw [hget0]; rfl
 have key := l71o s H.length hs d hd hrec k hk (H ++ [HO.obj none [[.im (.int .i64 0), .nils]]]) hoN (by simp) 9 1 (by omega)
 have keyb := l71b s k ((d : Int) + 1) hk hs (H ++ [HO.obj none [[.im (.int .i64 0), .nils]]]) 9 1 (by omega)
 have z1 : ((1 : Nat) : Int) = 1 := rfl
 have z0 : ((0 : Nat) : Int) = 0 := rfl
 rw [z1] at key keyb
 replace keyb := fun tm => keyb tm 0
 simp only [z0] at keyb
 have hK := @s71k H
 rw [leq F71]
 have hcode : f71.code = f71.code := rfl
 conv at hcode => rhs; simp only [f71]
 rw [hcode]
 clear hcode
 generalize endK f71 H = K at *
 obtain ⟨hlen, ha⟩ := enter_at (f := f71) (args := [.im (.str s), .im (.int .i64 (k : Int)), .im (.int .i64 ((d : Int) + 1))]) (Nat.le_of_ble_eq_true rfl)
 have h0 := ha 0 _ rfl
 have h1 := ha 1 _ rfl
 have h2 := ha 2 _ rfl
 generalize enterA f71 [.im (.str s), .im (.int .i64 (k : Int)), .im (.int .i64 ((d : Int) + 1))] = tm at *
 change tm.length = 163 at hlen
 have hga : ∀ i, i < H.length → (H ++ [HO.obj none [[.im (.int .i64 0), .nils]]])[i]? = H[i]? := fun i hi => get_app hi
 have hgl : H.length + 1 ≤ (H ++ [HO.obj none [[.im (.int .i64 0), .nils]]]).length := by simp
 simp only [scanP,e71_3,e71_1,B0,B1,B2,List.replicate,Nat.reduceAdd,Nat.reduceSub,Nat.reduceLeDiff,Nat.reduceLT,Nat.reduceEqDiff,reduceCtorEq,Int.reduceEq,Int.reduceLT,Int.reduceLE,lenA,hlen,h0,h1,h2]
 generalize H ++ [HO.obj none [[.im (.int .i64 0), .nils]]] = H1 at *
 generalize hr : thenL _ _ = r
 refine Exists.elim (thenL_inv hr (key _ ?_ ?_ ?_ ?_ ?_ ?_)) ?_
 iterate 6 simp only [B3,Nat.reduceLT,Nat.reduceEqDiff,hlen,h0,h1,h2]
 clear hr key
 rintro e ⟨tm1, H2, ⟨hl1, g6, hm⟩, rfl⟩
 cases hf : (kindsF 9 1).find? (okK ((d : Int) + 1) (s.drop k)) with
 | some kd =>
  rw [hf] at hm
  obtain ⟨rfl, gb, gl, g7, g8, kk, l, v, n, he, oN, hG⟩ := hm
  simp only [b_ret,k_ret,he]
  exact hK g6 g7 g8 oN hG (fun i hi => by rw [gb i hi]; exact hga i hi) (by omega)
 | none =>
  rw [hf] at hm
  obtain ⟨rfl, rfl, g0, g1, g2⟩ := hm
  simp only [B0,B1,B2,List.replicate,Nat.reduceAdd,Nat.reduceSub,Nat.reduceLeDiff,Nat.reduceLT,Nat.reduceEqDiff,reduceCtorEq,Int.reduceEq,Int.reduceLT,Int.reduceLE,lenA,e71_1,hl1,g0,g1,g2,g6]
  generalize hr : thenL _ _ = r
  refine Exists.elim (thenL_inv hr (keyb _ ?_ ?_ ?_ ?_ ?_ ?_)) ?_
  iterate 6 simp only [B3,Nat.reduceLT,Nat.reduceEqDiff,hl1,g0,g1,g2]
  clear hr keyb
  rintro e ⟨tm2, H3, ⟨rfl, rfl, hl2, a1, a6, a17⟩, rfl⟩
  simp only [B3,Nat.reduceLT,Nat.reduceEqDiff,hl1,g6] at a6
  have hbl := bestL_le ((d : Int) + 1) (s.drop k) (kindsF 9 1) 0 (Nat.zero_le _)
  rw [List.length_drop] at hbl
  generalize bestL ((d : Int) + 1) (s.drop k) (kindsF 9 1) 0 = bl at *
  have hadd : IntKind.i64.wrap ((k : Int) + (bl : Int)) = ((k + bl : Nat) : Int) := by
   rw [Go.Abs.Seat.wrap_small _ (by omega)]; omega
  simp only [B0,B1,B2,List.replicate,Nat.reduceAdd,Nat.reduceSub,Nat.reduceLeDiff,Nat.reduceLT,Nat.reduceEqDiff,reduceCtorEq,Int.reduceEq,Int.reduceLT,Int.reduceLE,lenA,hl2,a1,a6,a17,hoN,hadd]
  refine hK (kk := 0) (v := .nils) (l := []) (n := 0) ?_ ?_ ?_ (List.getElem?_set_self (by omega)) (.inl ⟨rfl, rfl⟩) ?_ ?_
  ·simp only [B3,Nat.reduceLT,Nat.reduceEqDiff,hl2,a6]
  ·simp only [B3,Nat.reduceLT,Nat.reduceEqDiff,hl2]
  ·simp only [B3,Nat.reduceLT,Nat.reduceEqDiff,hl2]
  ·intro i hi
   rw [List.getElem?_set_ne (by omega)]; exact hga i hi
  ·simp only [List.length_set]; omega
theorem s71 (s : List UInt8) (hs : s.length ≤ 4611686018427387904) : ∀ (d : Nat), d < 1000 → ∀ (k : Nat) (H : Heap), k ≤ s.length →
  L 71 [.im (.str s), .im (.int .i64 (k : Int)), .im (.int .i64 ((d : Int) + 1))] H = some (.tup [.im (.agg (encT (scanP s (d + 1) k).2.1)), .im (.int .i64 ((scanP s (d + 1) k).1 : Int)), .im (.bool (scanP s (d + 1) k).2.2)], H) := by
 intro d
 induction d with
 | zero => exact fun _ k H hk => s71step s hs 0 (by omega) (fun h => absurd h (by omega)) k H hk
 | succ d ih => exact fun hd k H hk => s71step s hs (d + 1) hd (fun _ => ih (by omega)) k H hk
def parseR (s : List UInt8) : KT × Nat × Bool :=
 if (scanP s 6 0).2.2 = true ∧ ¬ (scanP s 6 0).1 < s.length then ((scanP s 6 0).2.1, 0, true) else (zeroT, (scanP s 6 0).1, false)
theorem s59 (s : List UInt8) (hs : s.length ≤ 4611686018427387904) (H : Heap) : L 59 [.im (.str s)] H = some (.tup [.im (.agg (encT (parseR s).1)), .im (.int .i64 ((parseR s).2.1 : Int)), .im (.bool (parseR s).2.2)], H) := by
 have h46 := fun H => s71 s hs 5 (by decide) 0 H (Nat.zero_le _)
 rw [show (((5 : Nat) : Int) + 1) = 6 from rfl] at h46
 unfold parseR
 generalize scanP s (5 + 1) 0 = q at h46 ⊢
 obtain ⟨p, t, ok⟩ := q
 obtain ⟨k', s', ts⟩ := t
 have z0 : ((0 : Nat) : Int) = 0 := rfl
 simp only [encT,z0] at h46
 have hlv : ∀ (M : Heap) (a : Int) (b : Bool), leave H false (.tup [.im (.agg [.int .i64 k', .sl s' (encTs ts)]), .im (.int .i64 a), .im (.bool b)]) (H ++ M) = (.tup [.im (.agg [.int .i64 k', .sl s' (encTs ts)]), .im (.int .i64 a), .im (.bool b)], H) := fun M a b => leave_deg (by simp [degrade, degrade1, toDat]) (by simp [refsLt, refsLts])
 have hlz : ∀ (M : Heap) (a : Int) (b : Bool), leave H false (.tup [.agg [.im (.int .i64 0), .nils], .im (.int .i64 a), .im (.bool b)]) (H ++ M) = (.tup [.im (.agg [.int .i64 0, .sl 0 []]), .im (.int .i64 a), .im (.bool b)], H) := fun M a b => leave_deg (by simp [degrade, degrade1, toDat, toDats]) (by simp [refsLt, refsLts])
 rw [leq F59]
 obtain ⟨hlen, ha⟩ := enter_at (f := f59) (args := [.im (.str s)]) (Nat.le_of_ble_eq_true rfl)
 have h0 := ha 0 _ rfl
 generalize enterA f59 [.im (.str s)] = tm at *
 change tm.length = 25 at hlen
 simp only
 cases ok with
 | true =>
  by_cases hp : p < s.length
  ·have hc : decide ((p : Int) < (s.length : Int)) = true := decide_eq_true (by omega)
   rw [if_neg (by simp [hp])]
   simp only [f59,zeroT,mkT,List.length_nil,if_true,encT,encTs,B0,B1,B2,List.replicate,Nat.reduceAdd,Nat.reduceSub,Nat.reduceLeDiff,Nat.reduceLT,Nat.reduceEqDiff,reduceCtorEq,Int.reduceEq,Int.reduceLT,Int.reduceLE,lenA,endK,resA,tupA,hlen,h0,h46,hc,hlz]
  ·have hc : decide ((p : Int) < (s.length : Int)) = false := decide_eq_false (by omega)
   rw [if_pos (by simp [hp])]
   simp only [f59,encT,B0,B1,B2,List.replicate,Nat.reduceAdd,Nat.reduceSub,Nat.reduceLeDiff,Nat.reduceLT,Nat.reduceEqDiff,reduceCtorEq,Int.reduceEq,Int.reduceLT,Int.reduceLE,lenA,endK,resA,tupA,hlen,h0,h46,hc,hlv,z0]
 | false =>
  rw [if_neg (by simp)]
  simp only [f59,zeroT,mkT,List.length_nil,if_true,encT,encTs,B0,B1,B2,List.replicate,Nat.reduceAdd,Nat.reduceSub,Nat.reduceLeDiff,Nat.reduceLT,Nat.reduceEqDiff,reduceCtorEq,Int.reduceEq,Int.reduceLT,Int.reduceLE,lenA,endK,resA,tupA,hlen,h0,h46,hlz]
end Go.Abs.Seat
end
section
set_option linter.unusedVariables false
set_option linter.unusedSimpArgs false
namespace Go.Abs.Seat
open Go.Proofs
mutual
def slim : KT → Prop
 | .mk _ _ args => args.length ≤ 1000000 ∧ slims args
def slims : List KT → Prop
 | [] => True
 | a :: l => slim a ∧ slims l
end
theorem slims_mem : ∀ {l : List KT}, slims l → ∀ a ∈ l, slim a
 | [], _, a, h => by simp at h
 | b :: l, h, a, hm => by
  simp only [slims] at h
  rcases List.mem_cons.1 hm with rfl | hm
  ·exact h.1
  ·exact slims_mem h.2 a hm
mutual
theorem narrow_slim : ∀ t : KT, narrow t → slim t
 | .mk _ _ args, h => by
  simp only [narrow] at h
  simp only [slim]
  exact ⟨by omega, narrows_slims args h.2⟩
theorem narrows_slims : ∀ l : List KT, narrows l → slims l
 | [], _ => by simp only [slims]
 | a :: l, h => by
  simp only [narrows] at h
  simp only [slims]
  exact ⟨narrow_slim a h.1, narrows_slims l h.2⟩
end
theorem l23 (args : List KT) (s : Nat) (hs : args = [] ∨ s = 2) (hn : args.length ≤ 1000000) (H0 : Heap)
  (hc : ∀ a ∈ args, ∀ H, L 23 [.im (.agg (encT a))] H = some (.im (.agg (encT (cloneT a))), H)) :
  ∀ (m i : Nat), i + m = args.length → ∀ (tm : List AV) (M : Heap) (v : AV), Gath 34 2 H0.length v (H0 ++ M) ((args.take i).map fun a => encT (cloneT a)) → tm.length = 23 → tm.getD 3 undefA = v → tm.getD 7 undefA = .im (.sl s (args.map encT)) → tm.getD 8 undefA = .im (.int .i64 args.length) → tm.getD 9 undefA = .im (.int .i64 i) →
  ∃ e tm' H', Λ c23_0 tm (H0 ++ M) = some (e, tm', H') ∧ tm'.length = 23 ∧ e = .exit 0 ∧ tm'.getD 1 undefA = tm.getD 1 undefA ∧ tm'.getD 2 undefA = tm.getD 2 undefA ∧ ∃ M', H' = H0 ++ M' ∧ Gath 34 2 H0.length (tm'.getD 3 undefA) (H0 ++ M') (args.map fun a => encT (cloneT a))
 | 0, i, hi, tm, M, v, hG, hlen, h3, h7, h8, h9 => by
  have hc : decide ((i : Int) < (args.length : Int)) = false := decide_eq_false (by omega)
  rw [l23_0]
  simp only [b23_0,exec0,xreg,xops,wantedA,aopc,aop,ev,putA,endK,resA,tupA,List.length_cons,List.length_nil,List.replicate,List.cons_append,List.nil_append,List.append_nil,List.append_assoc,gs_same,gs_ne,gq_same,gq_ne,List.length_set,List.map_cons,List.map_nil,cellsOf,List.all_cons,List.all_nil,cellOk,boxTy,Bool.and_true,Bool.and_self,if_true,ite_true,ite_false,loadAt,storeAt,setAt,hget,hget0,hset,hset0,List.getElem?_cons_zero,List.getElem?_cons_succ,List.set_cons_zero,List.set_cons_succ,Nat.add_zero,Nat.zero_add,Nat.reduceAdd,Nat.reduceSub,Nat.reduceLeDiff,Nat.reduceLT,Nat.reduceEqDiff,Nat.le_refl,and_self,and_true,true_and,mkAgg,toIms,List.drop_zero,List.drop_succ_cons,List.take_succ_cons,List.take_zero,List.length_append,binA,isShift,binInt,binBool,unA,Bool.false_eq_true,if_false,partA,fillA,fillE,List.take_nil,Nat.zero_ne_one,Nat.one_ne_zero,not_false_eq_true,ne_eq,Nat.succ_ne_self,reduceCtorEq,Int.reduceEq,Int.reduceLT,Int.reduceLE,decide_true,decide_false,lenA,beq_self_eq_true,beq_true,beq_false,Bool.not_true,Bool.not_false,hlen,h3,h7,h8,h9,hc]
  have e : args.take i = args := List.take_of_length_le (by omega)
  rw [e] at hG
  exact ⟨_, _, _, rfl, by simp only [List.length_set,hlen], rfl, by simp only [B3,Nat.reduceLT,Nat.reduceEqDiff,hlen], by simp only [B3,Nat.reduceLT,Nat.reduceEqDiff,hlen], M, rfl, by simp only [B3,Nat.reduceLT,Nat.reduceEqDiff,hlen,h3]; exact hG⟩
 | m + 1, i, hi, tm, M, v, hG, hlen, h3, h7, h8, h9 => by
  have hlt : i < args.length := by omega
  obtain ⟨w, hwi⟩ : ∃ w, args[i]? = some w := ⟨_, List.getElem?_eq_getElem hlt⟩
  have hs2 : s = 2 := by
   rcases hs with hs | hs
   ·subst hs; simp at hlt
   ·exact hs
  subst hs2
  have hc' : decide ((i : Int) < (args.length : Int)) = true := decide_eq_true (by omega)
  have hix := idx_nat (n := (args.map encT).length) (i := i) (by simpa using hlt)
  have hgw : (args.map encT)[i]? = some (encT w) := by rw [List.getElem?_map, hwi]; rfl
  have hcall := hc w (List.mem_of_getElem? hwi)
  have hwr := wrap_nat (i := i) (by omega)
  have key := l23 args 2 hs hn H0 hc m (i + 1) (by omega)
  have hG2 := hG.more [.obj none [(encT w).map .im]]
  rw [List.append_assoc] at hG2
  obtain ⟨v', M', hap, hG', hok, _⟩ := hG2.push (bytes := 32) (encT (cloneT w)) (by simp; omega) (by decide)
  have htk : (args.take (i + 1)).map (fun a => encT (cloneT a)) = (args.take i).map (fun a => encT (cloneT a)) ++ [encT (cloneT w)] := by
   rw [List.take_add_one, hwi]; simp
  rw [← htk] at hG'
  have hset0 : ∀ o o' : HO, (H0 ++ (M ++ [o])).set (H0.length + M.length) o' = H0 ++ (M ++ [o']) := fun o o' => by
   rw [← List.append_assoc, ← List.append_assoc, ← List.length_append, Go.Abs.hset0]; rfl
  have hgetA : ∀ o, (H0 ++ (M ++ [o]))[H0.length + M.length]? = some o := fun o => by
   rw [← List.append_assoc, ← List.length_append, Go.Abs.hget0]; rfl
  rw [l23_0]
  generalize hcw : cloneT w = cw at *
  obtain ⟨k, s', ts⟩ := w
  obtain ⟨k2, s2, ts2⟩ := cw
  simp only [encT,List.map_cons,List.map_nil] at hcall hgw hap
  simp only [b23_0,exec0,xreg,xops,wantedA,aopc,aop,ev,putA,endK,resA,tupA,List.length_cons,List.length_nil,List.replicate,List.cons_append,List.nil_append,List.append_nil,List.append_assoc,gs_same,gs_ne,gq_same,gq_ne,List.length_set,List.map_cons,List.map_nil,cellsOf,List.all_cons,List.all_nil,cellOk,boxTy,Bool.and_true,Bool.and_self,if_true,ite_true,ite_false,loadAt,storeAt,setAt,hget,hget0,hset,hset0,List.getElem?_cons_zero,List.getElem?_cons_succ,List.set_cons_zero,List.set_cons_succ,Nat.add_zero,Nat.zero_add,Nat.reduceAdd,Nat.reduceSub,Nat.reduceLeDiff,Nat.reduceLT,Nat.reduceEqDiff,Nat.le_refl,and_self,and_true,true_and,mkAgg,toIms,List.drop_zero,List.drop_succ_cons,List.take_succ_cons,List.take_zero,List.length_append,binA,isShift,binInt,binBool,unA,Bool.false_eq_true,if_false,partA,fillA,fillE,List.take_nil,Nat.zero_ne_one,Nat.one_ne_zero,not_false_eq_true,ne_eq,Nat.succ_ne_self,reduceCtorEq,Int.reduceEq,Int.reduceLT,Int.reduceLE,decide_true,decide_false,lenA,beq_self_eq_true,beq_true,beq_false,Bool.not_true,Bool.not_false,hlen,h3,h7,h8,h9,hc',hix,hgw,hcall,hwr,hgetA,hset0,toDatss,toDats,toDat,elems,hap]
  refine ex_imp (key _ M' v' hG' ?_ ?_ ?_ ?_ ?_) ?_
  iterate 5 simp only [B3,Nat.reduceLT,Nat.reduceEqDiff,hlen,h3,h7,h8,h9]
  rintro e tm' H' ⟨hl', he, g1, g2, hM⟩
  refine ⟨hl', he, ?_, ?_, hM⟩
  ·rw [g1]; simp only [B3,Nat.reduceLT,Nat.reduceEqDiff,hlen]
  ·rw [g2]; simp only [B3,Nat.reduceLT,Nat.reduceEqDiff,hlen]
theorem s23 : ∀ (t : KT), okT t → slim t → ∀ H, L 23 [.im (.agg (encT t))] H = some (.im (.agg (encT (cloneT t))), H)
 | .mk k s args, hok, hnw, H => by
  simp only [okT] at hok
  obtain ⟨hs, _, hoks⟩ := hok
  simp only [slim] at hnw
  obtain ⟨hn, hnws⟩ := hnw
  have hc : ∀ a ∈ args, ∀ H, L 23 [.im (.agg (encT a))] H = some (.im (.agg (encT (cloneT a))), H) := fun a ha H => s23 a (okTs_mem hoks a ha) (slims_mem hnws a ha) H
  have key := l23 args s hs (by omega) (H ++ [.obj none [[.im (.int .i64 k), .im (.sl s (encTs args))]], .obj none [[.im (.int .i64 0), .nils]]]) hc args.length 0 (by omega)
  have z : ((0 : Nat) : Int) = 0 := rfl
  simp only [z] at key
  have hel : (encTs args).length = args.length := by rw [encTs_map]; simp
  simp only [encT]
  rw [leq F23]
  obtain ⟨hlen, ha⟩ := enter_at (f := f23) (args := [.im (.agg [.int .i64 k, .sl s (encTs args)])]) (Nat.le_of_ble_eq_true rfl)
  have h0 := ha 0 _ rfl
  generalize enterA f23 [.im (.agg [.int .i64 k, .sl s (encTs args)])] = tm at *
  change tm.length = 23 at hlen
  simp only [f23,e23_0,exec0,xreg,xops,wantedA,aopc,aop,ev,putA,endK,resA,tupA,List.length_cons,List.length_nil,List.replicate,List.cons_append,List.nil_append,List.append_nil,List.append_assoc,gs_same,gs_ne,gq_same,gq_ne,List.length_set,List.map_cons,List.map_nil,cellsOf,List.all_cons,List.all_nil,cellOk,boxTy,Bool.and_true,Bool.and_self,if_true,ite_true,ite_false,loadAt,storeAt,setAt,hget,hget0,hset,hset0,List.getElem?_cons_zero,List.getElem?_cons_succ,List.set_cons_zero,List.set_cons_succ,Nat.add_zero,Nat.zero_add,Nat.reduceAdd,Nat.reduceSub,Nat.reduceLeDiff,Nat.reduceLT,Nat.reduceEqDiff,Nat.le_refl,and_self,and_true,true_and,mkAgg,toIms,List.drop_zero,List.drop_succ_cons,List.take_succ_cons,List.take_zero,List.length_append,binA,isShift,binInt,binBool,unA,Bool.false_eq_true,if_false,partA,fillA,fillE,List.take_nil,Nat.zero_ne_one,Nat.one_ne_zero,not_false_eq_true,ne_eq,Nat.succ_ne_self,reduceCtorEq,Int.reduceEq,Int.reduceLT,Int.reduceLE,decide_true,decide_false,lenA,beq_self_eq_true,beq_true,beq_false,Bool.not_true,Bool.not_false,hlen,h0,hel]
  have key := fun tm => key tm [] .nils (.inl ⟨rfl, rfl⟩)
  simp only [List.append_nil] at key
  refine thenL_of (key _ ?_ ?_ ?_ ?_ ?_) ?_
  iterate 5 simp only [B3,Nat.reduceLT,Nat.reduceEqDiff,hlen,h0,encTs_map]
  rintro e tm' H' ⟨hl', rfl, g1, g2, M, rfl, hG⟩
  simp only [B3,Nat.reduceLT,Nat.reduceEqDiff,hlen] at g1 g2
  have hm : encTs (cloneTs args) = args.map fun a => encT (cloneT a) := by rw [encTs_map, cloneTs_map, List.map_map]; rfl
  rcases hG with ⟨hes, hv⟩ | ⟨hes, tok, _, hv, _⟩
  ·have ha0 : args = [] := by simpa using hes
   have e1 : toDat (.agg [.im (.int .i64 k), .nils]) = some (.agg (encT (cloneT (.mk k s args)))) := by
    simp [toDat, toDats, cloneT, encT, ha0, encTs, cloneTs]
   have hlv := fun L' => leave_one (H := H) (M := L') e1
   simp only [cloneT,encT] at hlv ⊢
   simp only [exec0,xreg,xops,wantedA,aopc,aop,ev,putA,endK,resA,tupA,List.length_cons,List.length_nil,List.replicate,List.cons_append,List.nil_append,List.append_nil,List.append_assoc,gs_same,gs_ne,gq_same,gq_ne,List.length_set,List.map_cons,List.map_nil,cellsOf,List.all_cons,List.all_nil,cellOk,boxTy,Bool.and_true,Bool.and_self,if_true,ite_true,ite_false,loadAt,storeAt,setAt,hget,hget0,hset,hset0,List.getElem?_cons_zero,List.getElem?_cons_succ,List.set_cons_zero,List.set_cons_succ,Nat.add_zero,Nat.zero_add,Nat.reduceAdd,Nat.reduceSub,Nat.reduceLeDiff,Nat.reduceLT,Nat.reduceEqDiff,Nat.le_refl,and_self,and_true,true_and,mkAgg,toIms,List.drop_zero,List.drop_succ_cons,List.take_succ_cons,List.take_zero,List.length_append,binA,isShift,binInt,binBool,unA,Bool.false_eq_true,if_false,partA,fillA,fillE,List.take_nil,Nat.zero_ne_one,Nat.one_ne_zero,not_false_eq_true,ne_eq,Nat.succ_ne_self,reduceCtorEq,Int.reduceEq,Int.reduceLT,Int.reduceLE,decide_true,decide_false,lenA,beq_self_eq_true,beq_true,beq_false,Bool.not_true,Bool.not_false,hl',g1,g2,hv,toDatss,toDats,toDat,hlv]
  ·have ha0 : args.length ≠ 0 := by simpa using hes
   have e1 : toDat (.agg [.im (.int .i64 k), .asl 2 (args.map fun a => encT (cloneT a)) tok]) = some (.agg (encT (cloneT (.mk k s args)))) := by
    simp only [toDat,toDats,cloneT,encT,if_neg ha0,hm]
   have hlv := fun L' => leave_one (H := H) (M := L') e1
   simp only [cloneT,encT] at hlv ⊢
   simp only [exec0,xreg,xops,wantedA,aopc,aop,ev,putA,endK,resA,tupA,List.length_cons,List.length_nil,List.replicate,List.cons_append,List.nil_append,List.append_nil,List.append_assoc,gs_same,gs_ne,gq_same,gq_ne,List.length_set,List.map_cons,List.map_nil,cellsOf,List.all_cons,List.all_nil,cellOk,boxTy,Bool.and_true,Bool.and_self,if_true,ite_true,ite_false,loadAt,storeAt,setAt,hget,hget0,hset,hset0,List.getElem?_cons_zero,List.getElem?_cons_succ,List.set_cons_zero,List.set_cons_succ,Nat.add_zero,Nat.zero_add,Nat.reduceAdd,Nat.reduceSub,Nat.reduceLeDiff,Nat.reduceLT,Nat.reduceEqDiff,Nat.le_refl,and_self,and_true,true_and,mkAgg,toIms,List.drop_zero,List.drop_succ_cons,List.take_succ_cons,List.take_zero,List.length_append,binA,isShift,binInt,binBool,unA,Bool.false_eq_true,if_false,partA,fillA,fillE,List.take_nil,Nat.zero_ne_one,Nat.one_ne_zero,not_false_eq_true,ne_eq,Nat.succ_ne_self,reduceCtorEq,Int.reduceEq,Int.reduceLT,Int.reduceLE,decide_true,decide_false,lenA,beq_self_eq_true,beq_true,beq_false,Bool.not_true,Bool.not_false,hl',g1,g2,hv,toDatss,toDats,toDat,hlv]
termination_by t => SizeOf.sizeOf t
decreasing_by
 have := List.sizeOf_lt_of_mem ha
 simp only [KT.mk.sizeOf_spec]
 omega
end Go.Abs.Seat
end
section
set_option linter.unusedVariables false
set_option linter.unusedSimpArgs false
namespace Go.Abs.Seat
open Go.Proofs
mutual
def sameT : KT → KT → Bool
 | .mk k _ xs, .mk k' _ ys => decide (k = k') && (decide (xs.length = ys.length) && sameTs xs ys)
def sameTs : List KT → List KT → Bool
 | a :: xs, b :: ys => sameT a b && sameTs xs ys
 | _, _ => true
end
theorem l22 (xs ys : List KT) (s s' : Nat) (hs : xs = [] ∨ s = 2) (hs' : ys = [] ∨ s' = 2) (hl : xs.length = ys.length) (hn : xs.length ≤ 9223372036854775807) (ka kb : Int) (ia ib : Nat) (H : Heap) (oa : H[ia]? = some (.obj none [[.im (.int .i64 ka), .im (.sl s (xs.map encT))]])) (ob : H[ib]? = some (.obj none [[.im (.int .i64 kb), .im (.sl s' (ys.map encT))]]))
  (hc : ∀ a ∈ xs, ∀ b ∈ ys, L 22 [.im (.agg (encT a)), .im (.agg (encT b))] H = some (.im (.bool (sameT a b)), H)) :
  ∀ (m i : Nat), i + m = xs.length → ∀ tm : List AV, tm.length = 39 → tm.getD 2 undefA = .ptr ia 0 0 → tm.getD 3 undefA = .ptr ib 0 0 → tm.getD 5 undefA = .im (.int .i64 (i : Int)) →
  ∃ e tm' H', Λ c22_0 tm H = some (e, tm', H') ∧ tm'.length = 39 ∧ H' = H ∧ ((sameTs (xs.drop i) (ys.drop i) = true ∧ e = .exit 0) ∨ (sameTs (xs.drop i) (ys.drop i) = false ∧ e = .ret ∧ tm'.getD 4 undefA = .im (.bool false)))
 | 0, i, hi, tm, hlen, h2, h3, h5 => by
  have e : xs.drop i = [] := by rw [List.drop_eq_nil_iff]; omega
  have hc' : decide ((i : Int) < (xs.length : Int)) = false := decide_eq_false (by omega)
  rw [e, l22_0]
  simp only [b22_0,B0,B1,B2,List.replicate,Nat.reduceAdd,Nat.reduceSub,Nat.reduceLeDiff,Nat.reduceLT,Nat.reduceEqDiff,reduceCtorEq,Int.reduceEq,Int.reduceLT,Int.reduceLE,lenA,hlen,h2,h3,h5,oa,List.length_map,hc',sameTs]
  exact ⟨_, _, _, rfl, by simp only [List.length_set,hlen], rfl, by simp⟩
 | m + 1, i, hi, tm, hlen, h2, h3, h5 => by
  have hlt : i < xs.length := by omega
  have hltb : i < ys.length := by omega
  obtain ⟨a, hai, ea⟩ := drop_cons hlt
  obtain ⟨b, hbi, eb⟩ := drop_cons hltb
  have hs2 : s = 2 := by
   rcases hs with hs | hs
   ·subst hs; simp at hlt
   ·exact hs
  have hs2' : s' = 2 := by
   rcases hs' with hs | hs
   ·subst hs; simp at hltb
   ·exact hs
  subst hs2 hs2'
  have hc' : decide ((i : Int) < (xs.length : Int)) = true := decide_eq_true (by omega)
  have hixa := idx_nat (n := xs.length) (i := i) hlt
  have hixb := idx_nat (n := ys.length) (i := i) hltb
  have hga : (xs.map encT)[i]? = some (encT a) := by rw [List.getElem?_map, hai]; rfl
  have hgb : (ys.map encT)[i]? = some (encT b) := by rw [List.getElem?_map, hbi]; rfl
  have hcall := hc a (List.mem_of_getElem? hai) b (List.mem_of_getElem? hbi)
  have hwr := wrap_nat (i := i) (by omega)
  have key := l22 xs ys 2 2 hs hs' hl hn ka kb ia ib H oa ob hc m (i + 1) (by omega)
  rw [ea, eb, l22_0]
  simp only [sameTs]
  generalize sameT a b = sb at *
  obtain ⟨k1, s1, ts1⟩ := a
  obtain ⟨k2, s2, ts2⟩ := b
  simp only [encT] at hcall hga hgb
  cases sb with
  | true =>
   simp only [b22_0,B0,B1,B2,List.replicate,Nat.reduceAdd,Nat.reduceSub,Nat.reduceLeDiff,Nat.reduceLT,Nat.reduceEqDiff,reduceCtorEq,Int.reduceEq,Int.reduceLT,Int.reduceLE,lenA,hlen,h2,h3,h5,oa,ob,List.length_map,hc',hixa,hixb,hga,hgb,hcall,hwr,Bool.true_and]
   refine ex_imp (key _ ?_ ?_ ?_ ?_) fun _ _ _ h => h
   all_goals simp only [B3,Nat.reduceLT,Nat.reduceEqDiff,hlen,h2,h3]
  | false =>
   simp only [b22_0,B0,B1,B2,List.replicate,Nat.reduceAdd,Nat.reduceSub,Nat.reduceLeDiff,Nat.reduceLT,Nat.reduceEqDiff,reduceCtorEq,Int.reduceEq,Int.reduceLT,Int.reduceLE,lenA,hlen,h2,h3,h5,oa,ob,List.length_map,hc',hixa,hixb,hga,hgb,hcall,hwr,Bool.false_and]
   exact ⟨_, _, _, rfl, by simp only [List.length_set,hlen], rfl, by simp only [B3,Nat.reduceLT,Nat.reduceEqDiff,hlen,true_and,and_true,and_self,or_true]⟩
theorem s22 : ∀ (a b : KT), okT a → okT b → ∀ H, L 22 [.im (.agg (encT a)), .im (.agg (encT b))] H = some (.im (.bool (sameT a b)), H)
 | .mk ka s xs, .mk kb s' ys, ha, hb, H => by
  simp only [okT] at ha hb
  obtain ⟨hs, hn, hoa⟩ := ha
  obtain ⟨hs', hn', hob⟩ := hb
  have hc : ∀ H : Heap, ∀ a ∈ xs, ∀ b ∈ ys, L 22 [.im (.agg (encT a)), .im (.agg (encT b))] H = some (.im (.bool (sameT a b)), H) := fun H a ha b hb => s22 a b (okTs_mem hoa a ha) (okTs_mem hob b hb) H
  simp only [encT,encTs_map,sameT]
  rw [leq F22]
  obtain ⟨hlen, hg⟩ := enter_at (f := f22) (args := [.im (.agg [.int .i64 ka, .sl s (xs.map encT)]), .im (.agg [.int .i64 kb, .sl s' (ys.map encT)])]) (Nat.le_of_ble_eq_true rfl)
  have h0 := hg 0 _ rfl
  have h1 := hg 1 _ rfl
  generalize enterA f22 [.im (.agg [.int .i64 ka, .sl s (xs.map encT)]), .im (.agg [.int .i64 kb, .sl s' (ys.map encT)])] = tm at *
  change tm.length = 39 at hlen
  by_cases hk : ka = kb
  ·have hdk : decide (ka = kb) = true := decide_eq_true hk
   by_cases hl : xs.length = ys.length
   ·have hdl : decide ((xs.length : Int) = (ys.length : Int)) = true := decide_eq_true (by omega)
    have hdl' : decide (xs.length = ys.length) = true := decide_eq_true hl
    have key := l22 xs ys s s' hs hs' hl hn ka kb H.length (H.length + 1) (H ++ [HO.obj none [[.im (.int .i64 ka), .im (.sl s (xs.map encT))]], HO.obj none [[.im (.int .i64 kb), .im (.sl s' (ys.map encT))]]]) (by rw [hget0]; rfl) (by rw [hget]; rfl) (hc _) xs.length 0 (by omega)
    have z : ((0 : Nat) : Int) = 0 := rfl
    simp only [z,List.drop_zero] at key
    simp only [f22,e22_0,B0,B1,B2,List.replicate,Nat.reduceAdd,Nat.reduceSub,Nat.reduceLeDiff,Nat.reduceLT,Nat.reduceEqDiff,reduceCtorEq,Int.reduceEq,Int.reduceLT,Int.reduceLE,lenA,hlen,h0,h1,List.length_map,hdk,hdl,hdl',Bool.true_and]
    generalize hr : thenL _ _ = r
    refine Exists.elim (thenL_inv hr (key _ ?_ ?_ ?_ ?_)) ?_
    iterate 4 simp only [B3,Nat.reduceLT,Nat.reduceEqDiff,hlen]
    clear hr key
    rintro e ⟨tm1, H1, ⟨hl1, rfl, hm⟩, rfl⟩
    rcases hm with ⟨he, rfl⟩ | ⟨he, rfl, g4⟩
    ·rw [he]
     simp only [B0,B1,B2,List.replicate,Nat.reduceAdd,Nat.reduceSub,Nat.reduceLeDiff,Nat.reduceLT,Nat.reduceEqDiff,reduceCtorEq,Int.reduceEq,Int.reduceLT,Int.reduceLE,lenA,endK,resA,tupA,hl1,leave_app]
    ·rw [he]
     simp only [B0,B1,B2,List.replicate,Nat.reduceAdd,Nat.reduceSub,Nat.reduceLeDiff,Nat.reduceLT,Nat.reduceEqDiff,reduceCtorEq,Int.reduceEq,Int.reduceLT,Int.reduceLE,lenA,endK,resA,tupA,hl1,g4,leave_app]
   ·have hdl : decide ((xs.length : Int) = (ys.length : Int)) = false := decide_eq_false (by omega)
    have hdl' : decide (xs.length = ys.length) = false := decide_eq_false hl
    simp only [f22,B0,B1,B2,List.replicate,Nat.reduceAdd,Nat.reduceSub,Nat.reduceLeDiff,Nat.reduceLT,Nat.reduceEqDiff,reduceCtorEq,Int.reduceEq,Int.reduceLT,Int.reduceLE,lenA,endK,resA,tupA,hlen,h0,h1,List.length_map,hdk,hdl,hdl',Bool.true_and,Bool.false_and,leave_app]
  ·have hdk : decide (ka = kb) = false := decide_eq_false hk
   simp only [f22,B0,B1,B2,List.replicate,Nat.reduceAdd,Nat.reduceSub,Nat.reduceLeDiff,Nat.reduceLT,Nat.reduceEqDiff,reduceCtorEq,Int.reduceEq,Int.reduceLT,Int.reduceLE,lenA,endK,resA,tupA,hlen,h0,h1,hdk,Bool.false_and,leave_app]
termination_by a => SizeOf.sizeOf a
decreasing_by
 have := List.sizeOf_lt_of_mem ha
 simp only [KT.mk.sizeOf_spec]
 omega
end Go.Abs.Seat
end
section
set_option linter.unusedVariables false
set_option linter.unusedSimpArgs false
namespace Go.Abs.Seat
open Go.Proofs
theorem lcp_ge : ∀ (n : Nat) (w r : List UInt8), n ≤ lcp w r ↔ (w.take n = r.take n ∧ n ≤ w.length ∧ n ≤ r.length)
 | 0, w, r => by simp
 | n + 1, [], r => by cases r <;> simp [lcp]
 | n + 1, a :: w, [] => by simp [lcp]
 | n + 1, a :: w, b :: r => by
  have := lcp_ge n w r
  simp only [lcp,List.take_succ_cons,List.cons.injEq,List.length_cons]
  by_cases h : b = a
  ·rw [if_pos h]
   constructor
   ·intro h1
    obtain ⟨h2, h3, h4⟩ := this.1 (by omega)
    exact ⟨⟨h.symm, h2⟩, by omega, by omega⟩
   ·rintro ⟨⟨_, h2⟩, h3, h4⟩
    have := this.2 ⟨h2, by omega, by omega⟩
    omega
  ·rw [if_neg h]
   constructor
   ·intro h1; omega
   ·rintro ⟨⟨h2, _⟩, _⟩; exact absurd h2.symm h
theorem begB_prefix {w r : List UInt8} : begB w r = true ↔ w <+: r := by
 unfold begB
 rw [List.prefix_iff_eq_take, Bool.and_eq_true, decide_eq_true_eq, decide_eq_true_eq]
 constructor
 ·rintro ⟨_, h⟩; exact h.symm
 ·intro h
  refine ⟨?_, h.symm⟩
  have := congrArg List.length h
  simp at this
  omega
theorem take_more {w r : List UInt8} {n : Nat} {c : UInt8} (hr : r[n]? = some c) : w.take (n + 1) = r.take (n + 1) ↔ (w.take n = r.take n ∧ w[n]? = some c) := by
 have hn := (List.getElem?_eq_some_iff.1 hr).1
 rw [List.take_add_one, List.take_add_one, hr]
 constructor
 ·intro h
  cases hw : w[n]? with
  | none =>
   rw [hw] at h
   have := congrArg List.length h
   simp at this
   omega
  | some x =>
   rw [hw] at h
   have hwn := (List.getElem?_eq_some_iff.1 hw).1
   obtain ⟨h1, h2⟩ := List.append_inj h (by simp; omega)
   simp at h2
   exact ⟨h1, by rw [h2]⟩
 ·rintro ⟨h1, h2⟩
  rw [h1, h2]
theorem wordGo_spec (M : List Word) (r : List UInt8) : ∀ (k n : Nat) (may : List Word), may = M.filter (fun w => decide (w.2.1.take n = r.take n)) → may ≠ [] → (∀ w ∈ may, n ≤ w.2.1.length ∧ w.2.1.length ≤ n + k) → n ≤ r.length → (∀ w ∈ M, w.2.1 <+: r → n ≤ w.2.1.length) →
  match wordGo r k may n with
  |(n', some w) => w ∈ M ∧ w.2.1.length = n' ∧ w.2.1 <+: r
  |(n', none) => (∀ w ∈ M, ¬ w.2.1 <+: r) ∧ (∀ w ∈ M, lcp w.2.1 r ≤ n') ∧ ∃ w ∈ M, n' ≤ lcp w.2.1 r
 | 0, n, may, hm, hne, hl, hn, hpre => by
  simp only [wordGo]
  cases hf : may.find? (fun w => decide (w.2.1.length = n)) with
  | some w =>
   have h1 := List.mem_of_find?_eq_some hf
   have h2 := List.find?_some hf
   rw [hm] at h1
   obtain ⟨h3, h4⟩ := List.mem_filter.1 h1
   simp only [decide_eq_true_eq] at h2 h4
   refine ⟨h3, h2, ?_⟩
   rw [List.prefix_iff_eq_take, h2, ← h4, ← h2, List.take_length]
  | none =>
   obtain ⟨w, hw⟩ := List.exists_mem_of_ne_nil _ hne
   have h1 := List.find?_eq_none.1 hf w hw
   have h2 := hl w hw
   simp at h1
   omega
 | k + 1, n, may, hm, hne, hl, hn, hpre => by
  simp only [wordGo]
  cases hf : may.find? (fun w => decide (w.2.1.length = n)) with
  | some w =>
   have h1 := List.mem_of_find?_eq_some hf
   have h2 := List.find?_some hf
   rw [hm] at h1
   obtain ⟨h3, h4⟩ := List.mem_filter.1 h1
   simp only [decide_eq_true_eq] at h2 h4
   refine ⟨h3, h2, ?_⟩
   rw [List.prefix_iff_eq_take, h2, ← h4, ← h2, List.take_length]
  | none =>
   have hno : ∀ w ∈ may, w.2.1.length ≠ n := fun w hw => by
    have := List.find?_eq_none.1 hf w hw
    simpa using this
   have hpre' : ∀ w ∈ M, w.2.1 <+: r → n + 1 ≤ w.2.1.length := by
    intro w hw hp
    have h1 := hpre w hw hp
    by_cases he : w.2.1.length = n
    ·have : w ∈ may := by
      rw [hm, List.mem_filter]
      refine ⟨hw, decide_eq_true ?_⟩
      rw [List.prefix_iff_eq_take] at hp
      rw [← he, List.take_length]
      exact hp
     exact absurd he (hno w this)
    ·omega
   have hex : ∃ w ∈ M, n ≤ lcp w.2.1 r := by
    obtain ⟨w, hw⟩ := List.exists_mem_of_ne_nil _ hne
    have h2 := hl w hw
    rw [hm] at hw
    obtain ⟨h3, h4⟩ := List.mem_filter.1 hw
    exact ⟨w, h3, (lcp_ge n w.2.1 r).2 ⟨of_decide_eq_true h4, h2.1, hn⟩⟩
   cases hr : r[n]? with
   | none =>
    have hrn : r.length ≤ n := List.getElem?_eq_none_iff.1 hr
    refine ⟨fun w hw hp => ?_, fun w hw => ?_, hex⟩
    ·have h1 := hpre' w hw hp
     have := hp.length_le
     omega
    ·have := (lcp_le w.2.1 r).1
     omega
   | some c =>
    have hrn := (List.getElem?_eq_some_iff.1 hr).1
    have hm' : may.filter (fun w => decide (w.2.1[n]? = some c)) = M.filter (fun w => decide (w.2.1.take (n + 1) = r.take (n + 1))) := by
     rw [hm, List.filter_filter]
     congr 1
     funext w
     rw [Bool.eq_iff_iff]
     simp only [Bool.and_eq_true,decide_eq_true_eq]
     rw [take_more hr]
     exact ⟨fun h => ⟨h.2, h.1⟩, fun h => ⟨h.2, h.1⟩⟩
    simp only
    by_cases he : may.filter (fun w => decide (w.2.1[n]? = some c)) = []
    ·rw [if_pos he]
     rw [hm'] at he
     have hnone : ∀ w ∈ M, w.2.1.take (n + 1) ≠ r.take (n + 1) := fun w hw h => by
      have := List.filter_eq_nil_iff.1 he w hw
      simp [h] at this
     refine ⟨fun w hw hp => ?_, fun w hw => ?_, hex⟩
     ·have h1 := hpre' w hw hp
      apply hnone w hw
      obtain ⟨t, rfl⟩ := hp
      rw [List.take_append_of_le_length h1]
     ·by_cases h : lcp w.2.1 r ≤ n
      ·exact h
      ·exact absurd ((lcp_ge (n + 1) w.2.1 r).1 (by omega)).1 (hnone w hw)
    ·rw [if_neg he]
     refine wordGo_spec M r k (n + 1) _ hm' he ?_ hrn hpre'
     intro w hw
     have h1 := (List.mem_filter.1 hw).1
     have h2 := hl w h1
     have h3 := hno w h1
     omega
theorem bestL_ge (d : Int) (r : List UInt8) : ∀ (l : List Int) (b : Nat), b ≤ bestL d r l b ∧ ∀ kd ∈ l, skipK d kd = false → lcp (wordK kd) r ≤ bestL d r l b
 | [], b => ⟨Nat.le_refl _, by simp⟩
 | kd :: l, b => by
  simp only [bestL]
  have h := fun b => bestL_ge d r l b
  cases hs : skipK d kd with
  | true =>
   simp only [if_true]
   refine ⟨(h b).1, fun x hx hsx => ?_⟩
   rcases List.mem_cons.1 hx with rfl | hx
   ·rw [hs] at hsx; simp at hsx
   ·exact (h b).2 x hx hsx
  | false =>
   simp only [Bool.false_eq_true,if_false]
   by_cases hlt : b < lcp (wordK kd) r
   ·rw [if_pos hlt]
    have := h (lcp (wordK kd) r)
    refine ⟨by omega, fun x hx hsx => ?_⟩
    rcases List.mem_cons.1 hx with rfl | hx
    ·exact this.1
    ·exact this.2 x hx hsx
   ·rw [if_neg hlt]
    have := h b
    refine ⟨this.1, fun x hx hsx => ?_⟩
    rcases List.mem_cons.1 hx with rfl | hx
    ·omega
    ·exact this.2 x hx hsx
theorem bestL_upto (d : Int) (r : List UInt8) (n : Nat) : ∀ (l : List Int) (b : Nat), b ≤ n → (∀ kd ∈ l, skipK d kd = false → lcp (wordK kd) r ≤ n) → bestL d r l b ≤ n
 | [], b, h, _ => h
 | kd :: l, b, h, hl => by
  simp only [bestL]
  apply bestL_upto d r n l
  ·cases hs : skipK d kd with
   | true => simpa using h
   | false =>
    have := hl kd (by simp) hs
    simp only [Bool.false_eq_true,if_false]
    split
    ·exact this
    ·exact h
  ·exact fun x hx => hl x (by simp [hx])
theorem kind_word : ∀ w ∈ words, w.1 ∈ kindsF 9 1 ∧ wordK w.1 = w.2.1 ∧ cntK w.1 = w.2.2 := by decide
theorem word_kind : ∀ kd ∈ kindsF 9 1, wordK kd = [] ∨ ∃ w ∈ words, w.1 = kd := by decide
theorem words_free : ∀ w ∈ words, ∀ v ∈ words, w.2.1 <+: v.2.1 → w = v := by decide
theorem words_full : ∀ w ∈ words, w.2.1 ≠ [] := by decide
theorem skip_word {d : Int} {w : Word} (hw : w ∈ words) : skipK d w.1 = outW d w := by
 obtain ⟨_, h1, h2⟩ := kind_word w hw
 unfold skipK outW
 rw [h1, h2, decide_eq_false (words_full w hw), Bool.false_or, Bool.and_comm]
theorem find_uniq {α : Type} {p : α → Bool} {x : α} : ∀ {l : List α}, x ∈ l → p x = true → (∀ y ∈ l, p y = true → y = x) → l.find? p = some x
 | [], h, _, _ => by simp at h
 | y :: l, h, hp, hu => by
  rw [List.find?_cons]
  cases hy : p y with
  | true => rw [hu y (by simp) hy]
  | false =>
   rcases List.mem_cons.1 h with rfl | h
   ·rw [hp] at hy; simp at hy
   ·exact find_uniq h hp fun z hz => hu z (by simp [hz])
theorem word_find (s : List UInt8) (k : Nat) (d : Int) : match word69 s k d with
  |(n, some w) => (kindsF 9 1).find? (okK d (s.drop k)) = some w.1 ∧ n = (wordK w.1).length ∧ w.2.2 = cntK w.1
  |(n, none) => (kindsF 9 1).find? (okK d (s.drop k)) = none ∧ n = bestL d (s.drop k) (kindsF 9 1) 0 := by
 have key := wordGo_spec (mayW d) (s.drop k) 8 0 (mayW d) (List.filter_eq_self.2 (fun w _ => by simp)).symm (mayW_ne d) (fun w hw => by have := word_len w (List.mem_filter.1 hw).1; omega) (Nat.zero_le _) (fun _ _ _ => Nat.zero_le _)
 unfold word69
 generalize s.drop k = r at *
 generalize wordGo r 8 (mayW d) 0 = q at *
 obtain ⟨n, ow⟩ := q
 have hmay : ∀ w, w ∈ mayW d ↔ w ∈ words ∧ skipK d w.1 = false := fun w => by
  simp only [mayW,List.mem_filter,Bool.not_eq_true']
  exact ⟨fun h => ⟨h.1, by rw [skip_word h.1]; exact h.2⟩, fun h => ⟨h.1, by rw [← skip_word h.1]; exact h.2⟩⟩
 have hok : ∀ kd ∈ kindsF 9 1, okK d r kd = true → ∃ w ∈ mayW d, w.1 = kd ∧ w.2.1 <+: r := by
  intro kd hkd ho
  simp only [okK,Bool.and_eq_true,Bool.not_eq_true'] at ho
  rcases word_kind kd hkd with h | ⟨w, hw, rfl⟩
  ·have := ho.1
   simp [skipK, h] at this
  ·refine ⟨w, (hmay w).2 ⟨hw, ho.1⟩, rfl, ?_⟩
   rw [← (kind_word w hw).2.1]
   exact begB_prefix.1 ho.2
 cases ow with
 | some w =>
  obtain ⟨h1, h2, h3⟩ := key
  obtain ⟨hw, hsk⟩ := (hmay w).1 h1
  obtain ⟨g1, g2, g3⟩ := kind_word w hw
  refine ⟨find_uniq g1 ?_ ?_, by rw [g2, h2], g3.symm⟩
  ·simp only [okK,hsk,Bool.not_false,Bool.true_and]
   rw [g2]
   exact begB_prefix.2 h3
  ·intro y hy hoy
   obtain ⟨v, hv, rfl, hvp⟩ := hok y hy hoy
   have hvw := ((hmay v).1 hv).1
   rcases List.prefix_or_prefix_of_prefix h3 hvp with h | h
   ·rw [words_free w hw v hvw h]
   ·rw [words_free v hvw w hw h]
 | none =>
  obtain ⟨h1, h2, h3⟩ := key
  refine ⟨?_, ?_⟩
  ·rw [List.find?_eq_none]
   intro kd hkd ho
   obtain ⟨w, hw, _, hp⟩ := hok kd hkd ho
   exact h1 w hw hp
  ·obtain ⟨w, hw, hn⟩ := h3
   obtain ⟨hww, hsk⟩ := (hmay w).1 hw
   obtain ⟨g1, g2, g3⟩ := kind_word w hww
   have ha := (bestL_ge d r (kindsF 9 1) 0).2 w.1 g1 hsk
   rw [g2] at ha
   have hb := bestL_upto d r n (kindsF 9 1) 0 (Nat.zero_le _) (fun kd hkd hs => by
    rcases word_kind kd hkd with h | ⟨v, hv, rfl⟩
    ·simp [skipK, h] at hs
    ·rw [(kind_word v hv).2.1]
     exact h2 v ((hmay v).2 ⟨hv, hs⟩))
   omega
def Alike (a b : Nat × KT × Bool) : Prop := a.1 = b.1 ∧ a.2.2 = b.2.2 ∧ (a.2.2 = true → a.2.1 = b.2.1)
theorem readL_alike (s : List UInt8) (rd rd' : Nat → Nat × KT × Bool) (h : ∀ k, Alike (rd k) (rd' k)) : ∀ (m i k : Nat) (acc : List KT), readL rd s m i k acc = readL rd' s m i k acc
 | 0, i, k, acc => rfl
 | m + 1, i, k, acc => by
  obtain ⟨h1, h2, h3⟩ := h (k + 1)
  simp only [readL]
  split
  ·rw [← h2]
   by_cases ho : (rd (k + 1)).2.2 = true
   ·rw [if_pos ho, if_pos ho, h1, h3 ho]
    exact readL_alike s rd rd' h m (i + 1) _ _
   ·rw [if_neg ho, if_neg ho, h1]
  ·rfl
theorem read_scan (s : List UInt8) : ∀ (d k : Nat), Alike (readP s d k) (scanP s d k)
 | 0, k => ⟨rfl, rfl, fun _ => rfl⟩
 | d + 1, k => by
  have hw := word_find s k ((d : Int) + 1)
  simp only [readP,scanP]
  generalize word69 s k ((d : Int) + 1) = q at *
  obtain ⟨n, ow⟩ := q
  cases ow with
  | none =>
   obtain ⟨h1, h2⟩ := hw
   rw [h1, h2]
   exact ⟨rfl, rfl, fun _ => rfl⟩
  | some w =>
   obtain ⟨h1, h2, h3⟩ := hw
   rw [h1]
   simp only [scanK]
   rw [readL_alike s (readP s d) (scanP s d) (fun k => read_scan s d k), h2, h3]
   generalize readL (scanP s d) s (cntK w.1).toNat 0 (k + (wordK w.1).length) [] = q
   obtain ⟨k', ol⟩ := q
   cases ol with
   | none => exact ⟨rfl, rfl, fun _ => rfl⟩
   | some l =>
    simp only
    split
    ·exact ⟨rfl, rfl, fun _ => rfl⟩
    ·split
     ·exact ⟨rfl, rfl, fun _ => rfl⟩
     ·exact ⟨rfl, rfl, fun h => by simp at h⟩
end Go.Abs.Seat
end
section
set_option linter.unusedVariables false
set_option linter.unusedSimpArgs false
namespace Go.Abs.Seat
open Go.Proofs
mutual
theorem same_clone : ∀ t : KT, sameT (cloneT t) t = true
 | .mk k s args => by
  have hl : (cloneTs args).length = args.length := by rw [cloneTs_map]; simp
  simp only [cloneT,sameT,hl,same_clones args,decide_true,Bool.and_self]
theorem same_clones : ∀ l : List KT, sameTs (cloneTs l) l = true
 | [] => rfl
 | a :: l => by simp only [cloneTs,sameTs,same_clone a,same_clones l,Bool.and_self]
end
def goodT (t : KT) : Prop := okT t ∧ narrow t
theorem okTs_of : ∀ {l : List KT}, (∀ a ∈ l, okT a) → okTs l
 | [], _ => by simp only [okTs]
 | a :: l, h => by simp only [okTs]; exact ⟨h a (by simp), okTs_of fun x hx => h x (by simp [hx])⟩
theorem narrows_of : ∀ {l : List KT}, (∀ a ∈ l, narrow a) → narrows l
 | [], _ => by simp only [narrows]
 | a :: l, h => by simp only [narrows]; exact ⟨h a (by simp), narrows_of fun x hx => h x (by simp [hx])⟩
theorem good_mk (k : Int) (l : List KT) (hl : l.length ≤ 2) (h : ∀ a ∈ l, goodT a) : goodT (mkT k l) := by
 unfold goodT mkT
 simp only [okT,narrow]
 refine ⟨⟨?_, by omega, okTs_of fun a ha => (h a ha).1⟩, hl, narrows_of fun a ha => (h a ha).2⟩
 by_cases h0 : l.length = 0
 ·left; exact List.length_eq_zero_iff.1 h0
 ·right; rw [if_neg h0]
theorem good_zero : goodT zeroT := good_mk 0 [] (by simp) (by simp)
theorem readL_good (s : List UInt8) (rd : Nat → Nat × KT × Bool) (h : ∀ k, goodT (rd k).2.1) : ∀ (m i k : Nat) (acc l : List KT), (∀ a ∈ acc, goodT a) → (readL rd s m i k acc).2 = some l → (∀ a ∈ l, goodT a) ∧ l.length = acc.length + m
 | 0, i, k, acc, l, hacc, he => by
  simp only [readL,Option.some.injEq] at he
  subst he
  exact ⟨hacc, by omega⟩
 | m + 1, i, k, acc, l, hacc, he => by
  simp only [readL] at he
  split at he
  ·split at he
   ·have := readL_good s rd h m (i + 1) _ _ l (by
     intro a ha
     rcases List.mem_append.1 ha with ha | ha
     ·exact hacc a ha
     ·rw [List.mem_singleton.1 ha]; exact h _) he
    refine ⟨this.1, ?_⟩
    rw [this.2]
    simp
    omega
   ·simp at he
  ·simp at he
theorem readP_good (s : List UInt8) : ∀ (d k : Nat), goodT (readP s d k).2.1
 | 0, k => good_zero
 | d + 1, k => by
  have hmay : ∀ w, (word69 s k ((d : Int) + 1)).2 = some w → w ∈ words := fun w hw => by
   unfold word69 at hw
   by_cases hk : k ≤ s.length
   ·exact (List.mem_filter.1 ((wordGo_some (s.drop k) 8 (mayW ((d : Int) + 1)) 0 (Nat.zero_le _)).2.2 w hw)).1
   ·exact (List.mem_filter.1 ((wordGo_some (s.drop k) 8 (mayW ((d : Int) + 1)) 0 (Nat.zero_le _)).2.2 w hw)).1
  simp only [readP]
  generalize word69 s k ((d : Int) + 1) = q at *
  obtain ⟨n, ow⟩ := q
  cases ow with
  | none => exact good_zero
  | some w =>
   have hc := words_cnt w (hmay w rfl)
   simp only
   have hg := fun l => readL_good s (readP s d) (fun k => readP_good s d k) w.2.2.toNat 0 (k + n) [] l (by simp)
   generalize readL (readP s d) s w.2.2.toNat 0 (k + n) [] = q at *
   obtain ⟨k', ol⟩ := q
   cases ol with
   | none => exact good_zero
   | some l =>
    obtain ⟨h1, h2⟩ := hg l rfl
    simp only [List.length_nil,Nat.zero_add] at h2
    have h3 := good_mk w.1 l (by omega) h1
    simp only
    split
    ·exact h3
    ·split
     ·exact h3
     ·exact h3
theorem parse_alike (s : List UInt8) : ((parseR s).2.2 = true ∧ parseP s = ((parseR s).1, 0, 0) ∧ (parseR s).2.1 = 0 ∧ goodT (parseR s).1) ∨ ((parseR s).2.2 = false ∧ parseP s = (zeroT, (parseR s).2.1, 40) ∧ (parseR s).1 = zeroT) := by
 obtain ⟨h1, h2, h3⟩ := read_scan s 6 0
 have hg := readP_good s 6 0
 unfold parseP parseR
 by_cases ho : (scanP s 6 0).2.2 = true ∧ ¬ (scanP s 6 0).1 < s.length
 ·left
  have ho' : (readP s 6 0).2.2 = true ∧ ¬ (readP s 6 0).1 < s.length := by rw [h1, h2]; exact ho
  rw [if_pos ho, if_pos ho', h3 ho'.1]
  rw [h3 ho'.1] at hg
  exact ⟨rfl, rfl, rfl, hg⟩
 ·right
  have ho' : ¬ ((readP s 6 0).2.2 = true ∧ ¬ (readP s 6 0).1 < s.length) := by rw [h1, h2]; exact ho
  rw [if_neg ho, if_neg ho', h1]
  exact ⟨rfl, rfl, rfl⟩
end Go.Abs.Seat
end
section
set_option linter.unusedVariables false
set_option linter.unusedSimpArgs false
namespace Go.Abs.Seat
open Go.Proofs
theorem wordGo_loc (r r' : List UInt8) : ∀ (k : Nat) (may : List Word) (n : Nat), (∀ i, n ≤ i → i < (wordGo r k may n).1 → r'[i]? = r[i]?) → ((wordGo r k may n).2.isSome = true ∨ r'[(wordGo r k may n).1]? = r[(wordGo r k may n).1]? ∨ r'[(wordGo r k may n).1]? = none) → wordGo r' k may n = wordGo r k may n
 | 0, may, n, _, _ => rfl
 | k + 1, may, n, ha, hf => by
  simp only [wordGo] at ha hf ⊢
  cases hm : may.find? (fun w => decide (w.2.1.length = n)) with
  | some w => rfl
  | none =>
   rw [hm] at ha hf
   simp only at ha hf ⊢
   cases hr : r[n]? with
   | none =>
    rw [hr] at ha hf
    simp only [Option.isSome_none,Bool.false_eq_true,false_or,hr,or_self] at hf
    rw [hf]
   | some c =>
    rw [hr] at ha hf
    simp only at ha hf ⊢
    by_cases he : may.filter (fun w => decide (w.2.1[n]? = some c)) = []
    ·rw [if_pos he] at ha hf ⊢
     simp only [Option.isSome_none,Bool.false_eq_true,false_or,hr] at hf
     rcases hf with hf | hf
     ·rw [hf]
      simp only [if_pos he]
     ·rw [hf]
    ·rw [if_neg he] at ha hf ⊢
     have hlt : n + 1 ≤ (wordGo r k (may.filter fun w => decide (w.2.1[n]? = some c)) (n + 1)).1 := (wordGo_some r k _ (n + 1) (List.getElem?_eq_some_iff.1 hr).1).1
     rw [ha n (Nat.le_refl _) (by omega), hr]
     simp only [if_neg he]
     exact wordGo_loc r r' k _ (n + 1) (fun i h1 h2 => ha i (by omega) h2) hf
def Loc (s s' : List UInt8) (q q' : Nat × KT × Bool) : Prop := (∀ i, i < q.1 → s'[i]? = s[i]?) → (q.2.2 = true ∨ s'[q.1]? = s[q.1]? ∨ s'[q.1]? = none) → q'.1 = q.1 ∧ q'.2.2 = q.2.2 ∧ (q.2.2 = true → q'.2.1 = q.2.1)
theorem sign_loc {s s' : List UInt8} {k : Nat} {c : UInt8} (h : s'[k]? = s[k]?) : signB s' k c = signB s k c := by unfold signB; rw [h]
theorem sign_none {s : List UInt8} {k : Nat} {c : UInt8} (h : s[k]? = none) : signB s k c = false := by unfold signB; rw [h]; simp
theorem readL_up (rd : Nat → Nat × KT × Bool) (s : List UInt8) (h : ∀ k, k ≤ (rd k).1) : ∀ (m i k : Nat) (acc : List KT), k ≤ (readL rd s m i k acc).1
 | 0, i, k, acc => Nat.le_refl _
 | m + 1, i, k, acc => by
  have h1 := h (k + 1)
  simp only [readL]
  split
  ·split
   ·have := readL_up rd s h m (i + 1) (rd (k + 1)).1 (acc ++ [(rd (k + 1)).2.1])
    omega
   ·simp only; omega
  ·exact Nat.le_refl _
theorem readL_loc (s s' : List UInt8) (rd rd' : Nat → Nat × KT × Bool) (hup : ∀ k, k ≤ (rd k).1) (h : ∀ k, Loc s s' (rd k) (rd' k)) :
  ∀ (m i k : Nat) (acc : List KT), (∀ j, j < (readL rd s m i k acc).1 → s'[j]? = s[j]?) → ((readL rd s m i k acc).2.isSome = true ∨ s'[(readL rd s m i k acc).1]? = s[(readL rd s m i k acc).1]? ∨ s'[(readL rd s m i k acc).1]? = none) → readL rd' s' m i k acc = readL rd s m i k acc
 | 0, i, k, acc, _, _ => rfl
 | m + 1, i, k, acc, ha, hf => by
  have h1 := hup (k + 1)
  simp only [readL] at ha hf ⊢
  cases hs : signB s k (sepB i) with
  | false =>
   rw [hs] at ha hf
   simp only [Bool.false_eq_true,if_false,Option.isSome_none,false_or] at ha hf ⊢
   have : signB s' k (sepB i) = false := by
    rcases hf with hf | hf
    ·rw [sign_loc hf, hs]
    ·exact sign_none hf
   rw [this]
   simp
  | true =>
   rw [hs] at ha hf
   simp only [if_true] at ha hf ⊢
   by_cases ho : (rd (k + 1)).2.2 = true
   ·rw [if_pos ho] at ha hf ⊢
    have hu := readL_up rd s hup m (i + 1) (rd (k + 1)).1 (acc ++ [(rd (k + 1)).2.1])
    rw [sign_loc (ha k (by omega)), hs]
    obtain ⟨a1, a2, a3⟩ := h (k + 1) (fun j hj => ha j (by omega)) (.inl ho)
    simp only [if_true]
    rw [a2, if_pos ho, a1, a3 ho]
    exact readL_loc s s' rd rd' hup h m (i + 1) _ _ ha hf
   ·rw [if_neg ho] at ha hf ⊢
    simp only [Option.isSome_none,Bool.false_eq_true,false_or] at ha hf
    rw [sign_loc (ha k (by omega)), hs]
    obtain ⟨a1, a2, a3⟩ := h (k + 1) ha (.inr hf)
    simp only [if_true]
    rw [a2, if_neg ho, a1]
theorem readP_up (s : List UInt8) : ∀ (d k : Nat), k ≤ (readP s d k).1
 | 0, k => Nat.le_refl _
 | d + 1, k => by
  simp only [readP]
  generalize word69 s k ((d : Int) + 1) = q
  obtain ⟨n, ow⟩ := q
  cases ow with
  | none => simp only; omega
  | some w =>
   simp only
   have h3 := readL_up (readP s d) s (fun k => readP_up s d k) w.2.2.toNat 0 (k + n) []
   generalize readL (readP s d) s w.2.2.toNat 0 (k + n) [] = q at *
   obtain ⟨k', ol⟩ := q
   simp only at h3
   cases ol with
   | none => simp only; omega
   | some l =>
    simp only
    split
    ·simp only; omega
    ·split <;> (simp only; omega)
theorem readP_loc (s s' : List UInt8) : ∀ (d k : Nat), Loc s s' (readP s d k) (readP s' d k)
 | 0, k => fun _ _ => ⟨rfl, rfl, fun _ => rfl⟩
 | d + 1, k => by
  intro ha hf
  have hw := wordGo_loc (s.drop k) (s'.drop k) 8 (mayW ((d : Int) + 1)) 0
  simp only [readP] at ha hf ⊢
  unfold word69 at ha hf ⊢
  generalize hq : wordGo (s.drop k) 8 (mayW ((d : Int) + 1)) 0 = q at *
  obtain ⟨n, ow⟩ := q
  simp only [List.getElem?_drop] at hw
  cases ow with
  | none =>
   simp only [Bool.false_eq_true,false_or] at ha hf hw ⊢
   rw [hw (fun i _ hi => ha (k + i) (by omega)) (.inr hf)]
   exact ⟨rfl, rfl, fun _ => rfl⟩
  | some w =>
   have h3 := readL_up (readP s d) s (fun k => readP_up s d k) w.2.2.toNat 0 (k + n) []
   have hl := readL_loc s s' (readP s d) (readP s' d) (fun k => readP_up s d k) (fun k => readP_loc s s' d k) w.2.2.toNat 0 (k + n) []
   simp only [Option.isSome_some,true_or,forall_const] at ha hf hw ⊢
   generalize readL (readP s d) s w.2.2.toNat 0 (k + n) [] = q at *
   obtain ⟨k', ol⟩ := q
   simp only at h3 hl
   cases ol with
   | none =>
    simp only [Bool.false_eq_true,false_or,Option.isSome_none] at ha hf hl ⊢
    rw [hw (fun i _ hi => ha (k + i) (by omega))]
    simp only
    rw [hl ha hf]
    exact ⟨rfl, rfl, fun _ => rfl⟩
   | some l =>
    simp only [Option.isSome_some,true_or,forall_const] at ha hf hl ⊢
    by_cases h0 : w.2.2 = 0
    ·simp only [if_pos h0] at ha hf ⊢
     rw [hw (fun i _ hi => ha (k + i) (by omega))]
     simp only
     rw [hl ha]
     simp [h0]
    ·simp only [if_neg h0] at ha hf ⊢
     cases hs : signB s k' 41 with
     | true =>
      rw [hs] at ha hf
      simp only [if_true] at ha hf ⊢
      rw [hw (fun i _ hi => ha (k + i) (by omega))]
      simp only
      rw [hl (fun j hj => ha j (by omega))]
      simp only [if_neg h0]
      rw [sign_loc (ha k' (by omega)), hs]
      exact ⟨rfl, rfl, fun _ => rfl⟩
     | false =>
      rw [hs] at ha hf
      simp only [Bool.false_eq_true,if_false,false_or] at ha hf ⊢
      rw [hw (fun i _ hi => ha (k + i) (by omega))]
      simp only
      rw [hl ha]
      simp only [if_neg h0]
      have : signB s' k' 41 = false := by
       rcases hf with hf | hf
       ·rw [sign_loc hf, hs]
       ·exact sign_none hf
      rw [this]
      exact ⟨rfl, rfl, fun h => by simp at h⟩
end Go.Abs.Seat
end
section
set_option linter.unusedVariables false
set_option linter.unusedSimpArgs false
namespace Go.Abs.Seat
open Go.Proofs
def sigW : List UInt8 := [40, 41, 44]
def tyC (c : UInt8) : Bool := letZ (c.toNat : Int) || decide (0 ≤ Lib.indexByte sigW c)
def tyAt (s : List UInt8) (i : Nat) : Bool := match s[i]? with | some c => tyC c | none => false
theorem words_ty : ∀ w ∈ words, ∀ c ∈ w.2.1, tyC c = true := by decide
theorem wordGo_ty (r : List UInt8) : ∀ (k : Nat) (may : List Word) (n : Nat), (∀ w ∈ may, ∀ c ∈ w.2.1, tyC c = true) → ∀ i, n ≤ i → i < (wordGo r k may n).1 → tyAt r i = true
 | 0, may, n, hm, i, h1, h2 => by simp only [wordGo] at h2; omega
 | k + 1, may, n, hm, i, h1, h2 => by
  simp only [wordGo] at h2
  split at h2
  ·simp only at h2; omega
  ·split at h2
   ·simp only at h2; omega
   ·rename_i c hc
    split at h2
    ·simp only at h2; omega
    ·rename_i hne
     by_cases hi : i = n
     ·subst hi
      obtain ⟨w, hw⟩ := List.exists_mem_of_ne_nil _ hne
      rw [List.mem_filter] at hw
      have h3 := of_decide_eq_true hw.2
      unfold tyAt
      rw [hc]
      exact hm w hw.1 c (List.mem_of_getElem? h3)
     ·exact wordGo_ty r k _ (n + 1) (fun w hw => hm w (List.mem_filter.1 hw).1) i (by omega) h2
theorem sign_ty {s : List UInt8} {k : Nat} {c : UInt8} (hc : tyC c = true) (h : signB s k c = true) : tyAt s k = true := by
 have := of_decide_eq_true h
 unfold tyAt
 rw [this]
 exact hc
theorem sep_ty (i : Nat) : tyC (sepB i) = true := by
 unfold sepB
 split <;> decide
theorem readL_ty (s : List UInt8) (rd : Nat → Nat × KT × Bool) (h : ∀ k i, k ≤ i → i < (rd k).1 → tyAt s i = true) : ∀ (m i k : Nat) (acc : List KT) (j : Nat), k ≤ j → j < (readL rd s m i k acc).1 → tyAt s j = true
 | 0, i, k, acc, j, h1, h2 => by simp only [readL] at h2; omega
 | m + 1, i, k, acc, j, h1, h2 => by
  simp only [readL] at h2
  split at h2
  ·rename_i hs
   by_cases hj : j = k
   ·subst hj; exact sign_ty (sep_ty i) hs
   ·by_cases hj2 : j < (rd (k + 1)).1
    ·exact h (k + 1) j (by omega) hj2
    ·split at h2
     ·exact readL_ty s rd h m (i + 1) _ _ j (by omega) h2
     ·simp only at h2; omega
  ·simp only at h2; omega
theorem readP_ty (s : List UInt8) : ∀ (d k i : Nat), k ≤ i → i < (readP s d k).1 → tyAt s i = true
 | 0, k, i, h1, h2 => by simp only [readP] at h2; omega
 | d + 1, k, i, h1, h2 => by
  have hw := wordGo_ty (s.drop k) 8 (mayW ((d : Int) + 1)) 0 (fun w hw => words_ty w (List.mem_filter.1 hw).1)
  simp only [readP] at h2
  change ∀ j, 0 ≤ j → j < (word69 s k ((d : Int) + 1)).1 → _ at hw
  generalize word69 s k ((d : Int) + 1) = q at hw h2
  obtain ⟨n, ow⟩ := q
  simp only at hw
  have hw' : i < k + n → tyAt s i = true := fun hi => by
   have := hw (i - k) (Nat.zero_le _) (by omega)
   unfold tyAt at this ⊢
   rwa [List.getElem?_drop, Nat.add_sub_cancel' h1] at this
  cases ow with
  | none => simp only at h2; exact hw' h2
  | some w =>
   simp only at h2
   by_cases hi : i < k + n
   ·exact hw' hi
   have h3 := readL_ty s (readP s d) (fun k i => readP_ty s d k i) w.2.2.toNat 0 (k + n) [] i (by omega)
   generalize readL (readP s d) s w.2.2.toNat 0 (k + n) [] = q at *
   obtain ⟨k', ol⟩ := q
   simp only at h3
   cases ol with
   | none => simp only at h2; exact h3 h2
   | some l =>
    simp only at h2
    split at h2
    ·exact h3 h2
    ·split at h2
     ·rename_i hs
      simp only at h2
      by_cases hj : i = k'
      ·subst hj; exact sign_ty (by decide) hs
      ·exact h3 (by omega)
     ·exact h3 h2
theorem read_cut (s : List UInt8) (n : Nat) (hn : n = s.length ∨ n < s.length ∧ tyAt s n = false) :
  (readP (s.take n) 6 0).1 = (readP s 6 0).1 ∧ (readP (s.take n) 6 0).2.2 = (readP s 6 0).2.2 ∧ ((readP s 6 0).2.2 = true → (readP (s.take n) 6 0).2.1 = (readP s 6 0).2.1) ∧ (readP s 6 0).1 ≤ n := by
 have hle := readP_le s 6 0 (Nat.zero_le _)
 have hk : (readP s 6 0).1 ≤ n := by
  rcases hn with rfl | ⟨h1, h2⟩
  ·exact hle
  ·rcases Nat.lt_or_ge n (readP s 6 0).1 with h | h
   ·rw [readP_ty s 6 0 n (Nat.zero_le _) h] at h2; simp at h2
   ·exact h
 obtain ⟨h1, h2, h3⟩ := readP_loc s (s.take n) 6 0 (fun i hi => by rw [List.getElem?_take, if_pos (by omega)]) (by
  right
  by_cases h : (readP s 6 0).1 < n
  ·left; rw [List.getElem?_take, if_pos h]
  ·right; rw [List.getElem?_take, if_neg h])
 exact ⟨h1, h2, h3, hk⟩
def spanN (b : List UInt8) : Nat → Nat → Nat
 | 0, p => p
 | f + 1, p => if tyAt b p = true then spanN b f (p + 1) else p
def spanB (b : List UInt8) (p : Nat) : Nat := spanN b (b.length - p) p
theorem spanN_le (b : List UInt8) : ∀ f p, p ≤ spanN b f p
 | 0, p => Nat.le_refl _
 | f + 1, p => by
  unfold spanN
  split
  ·have := spanN_le b f (p + 1); omega
  ·exact Nat.le_refl _
theorem ty_lt {b : List UInt8} {p : Nat} (h : tyAt b p = true) : p < b.length := by
 rcases Nat.lt_or_ge p b.length with h1 | h1
 ·exact h1
 ·unfold tyAt at h; rw [List.getElem?_eq_none h1] at h; simp at h
theorem spanN_end (b : List UInt8) : ∀ f p, p ≤ b.length → b.length ≤ p + f → spanN b f p = b.length ∨ spanN b f p < b.length ∧ tyAt b (spanN b f p) = false
 | 0, p, h1, h2 => .inl (by simp only [spanN]; omega)
 | f + 1, p, h1, h2 => by
  unfold spanN
  split
  ·rename_i h
   exact spanN_end b f (p + 1) (ty_lt h) (by omega)
  ·rename_i h
   rcases Nat.lt_or_ge p b.length with h3 | h3
   ·exact .inr ⟨h3, by simpa using h⟩
   ·exact .inl (by omega)
theorem span_le (b : List UInt8) (p : Nat) : p ≤ spanB b p := spanN_le b _ p
theorem span_len {b : List UInt8} {p : Nat} (h : p ≤ b.length) : spanB b p ≤ b.length := by
 rcases spanN_end b (b.length - p) p h (by omega) with h | h
 ·unfold spanB; omega
 ·unfold spanB; omega
def typP (b : List UInt8) (p : Nat) : KT × Nat × Bool :=
 if (parseP ((b.drop p).take (spanB b p - p))).2.2 = 0 then ((parseP ((b.drop p).take (spanB b p - p))).1, spanB b p, false)
 else ((parseP ((b.drop p).take (parseP ((b.drop p).take (spanB b p - p))).2.1)).1, p + (parseP ((b.drop p).take (spanB b p - p))).2.1, !decide ((parseP ((b.drop p).take (parseP ((b.drop p).take (spanB b p - p))).2.1)).2.2 = 0))
def typR (b : List UInt8) (p : Nat) : KT × Nat × Bool :=
 if (parseR (b.drop p)).2.2 = true then ((parseR (b.drop p)).1, b.length, true)
 else ((parseR ((b.drop p).take (parseR (b.drop p)).2.1)).1, p + (parseR (b.drop p)).2.1, (parseR ((b.drop p).take (parseR (b.drop p)).2.1)).2.2)
theorem parse_same (s : List UInt8) : (parseP s).1 = (parseR s).1 ∧ (parseP s).2.1 = (parseR s).2.1 ∧ decide ((parseP s).2.2 = 0) = (parseR s).2.2 := by
 rcases parse_alike s with ⟨h1, h2, h3, h4⟩ | ⟨h1, h2, h3⟩
 ·rw [h2, h1, h3]; exact ⟨rfl, rfl, rfl⟩
 ·rw [h2, h1, h3]; exact ⟨rfl, rfl, rfl⟩
theorem typ_same (b : List UInt8) (p : Nat) (hp : p ≤ b.length) : typP b p = ((typR b p).1, (typR b p).2.1, !(typR b p).2.2) := by
 have hs := span_len hp
 have hs1 := span_le b p
 have he := spanN_end b (b.length - p) p hp (by omega)
 change spanB b p = b.length ∨ spanB b p < b.length ∧ tyAt b (spanB b p) = false at he
 have hcut := read_cut (b.drop p) (spanB b p - p) (by
  rw [List.length_drop]
  rcases he with h | ⟨h, h2⟩
  ·left; omega
  ·right
   refine ⟨by omega, ?_⟩
   unfold tyAt at h2 ⊢
   rwa [List.getElem?_drop, Nat.add_sub_cancel' hs1])
 obtain ⟨c1, c2, c3, c4⟩ := hcut
 have hl : ((b.drop p).take (spanB b p - p)).length = spanB b p - p := by simp; omega
 have hl2 : (b.drop p).length = b.length - p := by simp
 have e1 : parseP ((b.drop p).take (spanB b p - p)) = if (readP (b.drop p) 6 0).2.2 = true ∧ ¬ (readP (b.drop p) 6 0).1 < spanB b p - p then ((readP (b.drop p) 6 0).2.1, 0, 0) else (zeroT, (readP (b.drop p) 6 0).1, 40) := by
  unfold parseP
  rw [c1, c2, hl]
  by_cases h : (readP (b.drop p) 6 0).2.2 = true ∧ ¬ (readP (b.drop p) 6 0).1 < spanB b p - p
  ·rw [if_pos h, if_pos h, c3 h.1]
  ·rw [if_neg h, if_neg h]
 have e2 : parseP (b.drop p) = if (readP (b.drop p) 6 0).2.2 = true ∧ ¬ (readP (b.drop p) 6 0).1 < b.length - p then ((readP (b.drop p) 6 0).2.1, 0, 0) else (zeroT, (readP (b.drop p) 6 0).1, 40) := by
  unfold parseP
  rw [hl2]
 have hr : typR b p = if (parseP (b.drop p)).2.2 = 0 then ((parseP (b.drop p)).1, b.length, true) else ((parseP ((b.drop p).take (parseP (b.drop p)).2.1)).1, p + (parseP (b.drop p)).2.1, decide ((parseP ((b.drop p).take (parseP (b.drop p)).2.1)).2.2 = 0)) := by
  unfold typR
  obtain ⟨a1, a2, a3⟩ := parse_same (b.drop p)
  obtain ⟨b1, b2, b3⟩ := parse_same ((b.drop p).take (parseP (b.drop p)).2.1)
  rw [← a3, ← a2, ← a1, ← b1, ← b3]
  simp only [decide_eq_true_eq]
 have hback : (readP (b.drop p) 6 0).2.2 = true → parseP ((b.drop p).take (readP (b.drop p) 6 0).1) = ((readP (b.drop p) 6 0).2.1, 0, 0) := fun ho => by
  obtain ⟨h1, h2, h3⟩ := readP_loc (b.drop p) ((b.drop p).take (readP (b.drop p) 6 0).1) 6 0 (fun i hi => by rw [List.getElem?_take, if_pos hi]) (.inl ho)
  unfold parseP
  rw [h1, h2, h3 ho, if_pos ⟨ho, by simp; omega⟩]
 generalize hq : readP (b.drop p) 6 0 = q at *
 obtain ⟨k, t, ok⟩ := q
 simp only at c4 hback e1 e2
 have d40 : ¬ ((40 : Int) = 0) := by decide
 unfold typP
 cases ok with
 | false =>
  simp only [Bool.false_eq_true,false_and,if_false] at e1 e2
  rw [hr, e1, e2]
  simp only [d40,if_false]
 | true =>
  have hback := hback rfl
  simp only [true_and] at e1 e2
  by_cases h1 : k < spanB b p - p
  ·rw [if_neg (fun h => h h1)] at e1
   rw [if_neg (fun h => h (by omega))] at e2
   rw [hr, e1, e2]
   simp only [d40,if_false]
  ·rw [if_pos h1] at e1
   by_cases h2 : k < b.length - p
   ·rw [if_neg (fun h => h h2)] at e2
    have : spanB b p = p + k := by omega
    rw [hr, e1, e2]
    simp only [d40,if_false,if_true,hback,this,decide_true,Bool.not_true]
   ·rw [if_pos h2] at e2
    have : spanB b p = b.length := by omega
    rw [hr, e1, e2]
    simp only [if_true,this,Bool.not_true]
end Go.Abs.Seat
end
section
set_option linter.unusedVariables false
set_option linter.unusedSimpArgs false
namespace Go.Abs.Seat
open Go.Proofs
theorem parseR_le (s : List UInt8) : (parseR s).2.1 ≤ s.length := by
 have h := parse_same s
 rw [← h.2.1]
 unfold parseP
 split
 ·exact Nat.zero_le _
 ·exact readP_le s 6 0 (Nat.zero_le _)
theorem parseP_le (s : List UInt8) : (parseP s).2.1 ≤ s.length := by
 rw [(parse_same s).2.1]; exact parseR_le s
theorem s41 (b : List UInt8) (p : Nat) (hb : b.length ≤ 2305843009213693952) (hp : p ≤ b.length) (H : Heap) :
  L 41 [.im (.str b), .im (.int .i64 (p : Int))] H = some (.tup [.im (.agg (encT (typR b p).1)), .im (.int .i64 ((typR b p).2.1 : Int)), .im (.bool (typR b p).2.2)], H) := by
 have c1 := fun H => s59 (b.drop p) (by simp; omega) H
 have hle := parseR_le (b.drop p)
 rw [List.length_drop] at hle
 have c2 := fun H => s59 ((b.drop p).take (parseR (b.drop p)).2.1) (by simp; omega) H
 have p2 : (0 : Int) ≤ (p : Int) := Int.natCast_nonneg p
 have ht : (b.drop p).take (b.length - p) = b.drop p := List.take_of_length_le (by simp)
 unfold typR
 generalize parseR (b.drop p) = q at *
 obtain ⟨t, n, ok⟩ := q
 obtain ⟨k', s', ts⟩ := t
 simp only at c1 c2 hle
 have hw1 : IntKind.i64.wrap ((p : Int) + (n : Int)) = ((p + n : Nat) : Int) := by rw [Go.Abs.Seat.wrap_small _ (by omega)]; omega
 have hsub : p + n - p = n := by omega
 have hcc : p ≤ p + n ∧ p + n ≤ b.length := ⟨by omega, by omega⟩
 have hcb : p ≤ b.length ∧ b.length ≤ b.length := ⟨hp, Nat.le_refl _⟩
 generalize parseR ((b.drop p).take n) = q2 at *
 obtain ⟨t2, n2, ok2⟩ := q2
 obtain ⟨k2, s2, ts2⟩ := t2
 simp only [encT] at c1 c2
 have hlv : ∀ (M : Heap) (k : Int) (s : Nat) (ts : List KT) (a : Int) (bb : Bool), leave H false (.tup [.im (.agg [.int .i64 k, .sl s (encTs ts)]), .im (.int .i64 a), .im (.bool bb)]) (H ++ M) = (.tup [.im (.agg [.int .i64 k, .sl s (encTs ts)]), .im (.int .i64 a), .im (.bool bb)], H) := fun M k s ts a bb => leave_deg (by simp [degrade, degrade1, toDat, toDats]) (by simp [refsLt, refsLts])
 rw [leq F41]
 obtain ⟨hlen, ha⟩ := enter_at (f := f41) (args := [.im (.str b), .im (.int .i64 (p : Int))]) (Nat.le_of_ble_eq_true rfl)
 have h0 := ha 0 _ rfl
 have h1 := ha 1 _ rfl
 generalize enterA f41 [.im (.str b), .im (.int .i64 (p : Int))] = tm at *
 change tm.length = 52 at hlen
 cases ok with
 | true =>
  rw [if_pos rfl]
  simp only [encT,f41,B0,B1,B2,List.replicate,Nat.reduceAdd,Nat.reduceSub,Nat.reduceLeDiff,Nat.reduceLT,Nat.reduceEqDiff,reduceCtorEq,Int.reduceEq,Int.reduceLT,Int.reduceLE,lenA,endK,resA,tupA,boundA,intOfA,Int.toNat_natCast,hlen,h0,h1,p2,hp,hcb,ht,c1,hlv]
 | false =>
  rw [if_neg (by simp)]
  simp only [encT,f41,B0,B1,B2,List.replicate,Nat.reduceAdd,Nat.reduceSub,Nat.reduceLeDiff,Nat.reduceLT,Nat.reduceEqDiff,reduceCtorEq,Int.reduceEq,Int.reduceLT,Int.reduceLE,lenA,endK,resA,tupA,boundA,intOfA,Int.natCast_nonneg,Int.toNat_natCast,hlen,h0,h1,p2,hp,hcb,ht,hw1,hcc,hsub,c1,c2,hlv]
section
variable {H : Heap} {ir : Nat}
theorem hq_get (o : HO) (i : Nat) (M : Heap) : (H.set ir o ++ M)[H.length + i]? = M[i]? := by rw [List.getElem?_append_right (by simp)]; simp
theorem hq_get0 (o : HO) (M : Heap) : (H.set ir o ++ M)[H.length]? = M[0]? := hq_get o 0 M
theorem hq_set (o x : HO) (i : Nat) (M : Heap) : (H.set ir o ++ M).set (H.length + i) x = H.set ir o ++ M.set i x := by rw [List.set_append_right _ _ (by simp)]; simp
theorem hq_set0 (o x : HO) (M : Heap) : (H.set ir o ++ M).set H.length x = H.set ir o ++ M.set 0 x := hq_set o x 0 M
end
abbrev tyO : HO := .obj none [[.im (.int .i64 0), .nils]]
theorem l54 (b : List UInt8) (hb : b.length ≤ 4611686018427387904) (ir q : Nat) (bad : Bool) (H : Heap) (hir : H[ir]? = some (objS b q bad)) :
  ∀ (f p : Nat) (tm : List AV), b.length ≤ p + f → p ≤ b.length → tm.length = 106 → tm.getD 0 undefA = .ptr ir 0 0 → tm.getD 3 undefA = .im (.int .i64 (p : Int)) →
  ∃ e tm' H', Λ c54_0 tm H = some (e, tm', H') ∧ (e = .exit 0 ∧ tm'.length = 106 ∧ tm'.getD 0 undefA = .ptr ir 0 0 ∧ tm'.getD 2 undefA = tm.getD 2 undefA ∧ tm'.getD 3 undefA = .im (.int .i64 ((spanN b f p : Nat) : Int)) ∧ H' = H)
 | 0, p, tm, hf, hp, hlen, h0, h3 => by
  have hc : decide ((p : Int) < (b.length : Int)) = false := decide_eq_false (by omega)
  simp only [objS] at hir
  rw [l54_0]
  simp only [b54_0,B0,B1,B2,List.replicate,Nat.reduceAdd,Nat.reduceSub,Nat.reduceLeDiff,Nat.reduceLT,Nat.reduceEqDiff,reduceCtorEq,Int.reduceEq,Int.reduceLT,Int.reduceLE,lenA,hlen,h0,h3,hc,hir]
  exact ⟨_, _, _, rfl, rfl, by simp only [List.length_set,hlen], by simp only [B3,Nat.reduceLT,Nat.reduceEqDiff,hlen,h0], by simp only [B3,Nat.reduceLT,Nat.reduceEqDiff,hlen], by simp only [B3,Nat.reduceLT,Nat.reduceEqDiff,hlen,h3,spanN], rfl⟩
 | f + 1, p, tm, hf, hp, hlen, h0, h3 => by
  have p2 : (0 : Int) ≤ (p : Int) := Int.natCast_nonneg p
  by_cases hk : p < b.length
  ·have hc : decide ((p : Int) < (b.length : Int)) = true := decide_eq_true (by omega)
   have hsk : b[p]? = some b[p] := List.getElem?_eq_getElem hk
   have hwr := wrap_nat (i := p) (by omega)
   have key := fun tm1 => l54 b hb ir q bad H hir f (p + 1) tm1 (by omega) (by omega)
   unfold spanN tyAt
   simp only [hsk]
   generalize b[p] = a at hsk
   have c1 := fun H => s69 sigW a H
   obtain ⟨ix, hix⟩ : ∃ ix, Lib.indexByte sigW a = ix := ⟨_, rfl⟩
   have htc : tyC a = ((decide ((97 : Int) ≤ (a.toNat : Int)) && decide ((a.toNat : Int) ≤ 122)) || decide ((0 : Int) ≤ ix)) := by unfold tyC letZ; rw [hix]
   simp only [hix] at c1
   simp only [sigW] at c1
   simp only [htc]
   clear htc hix
   simp only [objS] at hir
   rcases Bool.eq_false_or_eq_true (decide ((97 : Int) ≤ (a.toNat : Int))) with e1 | e1
   ·rcases Bool.eq_false_or_eq_true (decide ((a.toNat : Int) ≤ 122)) with e2 | e2
    ·rw [e1, e2]
     simp only [Bool.and_self,Bool.true_or,if_true]
     rw [l54_0]
     simp only [b54_0,B0,B1,B2,List.replicate,Nat.reduceAdd,Nat.reduceSub,Nat.reduceLeDiff,Nat.reduceLT,Nat.reduceEqDiff,reduceCtorEq,Int.reduceEq,Int.reduceLT,Int.reduceLE,lenA,intOfA,byteDat,Int.toNat_natCast,hlen,h0,h3,hc,hir,p2,hsk,e1,e2,hwr]
     refine ex_imp (key _ ?_ ?_ ?_) fun _ _ _ h => ?_
     iterate 3 simp only [B3,Nat.reduceLT,Nat.reduceEqDiff,hlen,h0]
     simpa only [B3, Nat.reduceLT, Nat.reduceEqDiff, hlen] using h
    ·rcases Bool.eq_false_or_eq_true (decide ((0 : Int) ≤ ix)) with e3 | e3
     ·rw [e1, e2, e3]
      simp only [Bool.and_false,Bool.false_or,if_true]
      rw [l54_0]
      simp only [b54_0,B0,B1,B2,List.replicate,Nat.reduceAdd,Nat.reduceSub,Nat.reduceLeDiff,Nat.reduceLT,Nat.reduceEqDiff,reduceCtorEq,Int.reduceEq,Int.reduceLT,Int.reduceLE,lenA,intOfA,byteDat,Int.toNat_natCast,hlen,h0,h3,hc,hir,p2,hsk,e1,e2,e3,c1,hwr]
      refine ex_imp (key _ ?_ ?_ ?_) fun _ _ _ h => ?_
      iterate 3 simp only [B3,Nat.reduceLT,Nat.reduceEqDiff,hlen,h0]
      simpa only [B3, Nat.reduceLT, Nat.reduceEqDiff, hlen] using h
     ·rw [e1, e2, e3]
      simp only [Bool.and_false,Bool.false_or,Bool.false_eq_true,if_false]
      rw [l54_0]
      simp only [b54_0,B0,B1,B2,List.replicate,Nat.reduceAdd,Nat.reduceSub,Nat.reduceLeDiff,Nat.reduceLT,Nat.reduceEqDiff,reduceCtorEq,Int.reduceEq,Int.reduceLT,Int.reduceLE,lenA,intOfA,byteDat,Int.toNat_natCast,hlen,h0,h3,hc,hir,p2,hsk,e1,e2,e3,c1]
      exact ⟨_, _, _, rfl, rfl, by simp only [List.length_set,hlen], by simp only [B3,Nat.reduceLT,Nat.reduceEqDiff,hlen,h0], by simp only [B3,Nat.reduceLT,Nat.reduceEqDiff,hlen], by simp only [B3,Nat.reduceLT,Nat.reduceEqDiff,hlen,h3], rfl⟩
   ·rcases Bool.eq_false_or_eq_true (decide ((0 : Int) ≤ ix)) with e3 | e3
    ·rw [e1, e3]
     simp only [Bool.false_and,Bool.false_or,if_true]
     rw [l54_0]
     simp only [b54_0,B0,B1,B2,List.replicate,Nat.reduceAdd,Nat.reduceSub,Nat.reduceLeDiff,Nat.reduceLT,Nat.reduceEqDiff,reduceCtorEq,Int.reduceEq,Int.reduceLT,Int.reduceLE,lenA,intOfA,byteDat,Int.toNat_natCast,hlen,h0,h3,hc,hir,p2,hsk,e1,e3,c1,hwr]
     refine ex_imp (key _ ?_ ?_ ?_) fun _ _ _ h => ?_
     iterate 3 simp only [B3,Nat.reduceLT,Nat.reduceEqDiff,hlen,h0]
     simpa only [B3, Nat.reduceLT, Nat.reduceEqDiff, hlen] using h
    ·rw [e1, e3]
     simp only [Bool.false_and,Bool.false_or,Bool.false_eq_true,if_false]
     rw [l54_0]
     simp only [b54_0,B0,B1,B2,List.replicate,Nat.reduceAdd,Nat.reduceSub,Nat.reduceLeDiff,Nat.reduceLT,Nat.reduceEqDiff,reduceCtorEq,Int.reduceEq,Int.reduceLT,Int.reduceLE,lenA,intOfA,byteDat,Int.toNat_natCast,hlen,h0,h3,hc,hir,p2,hsk,e1,e3,c1]
     exact ⟨_, _, _, rfl, rfl, by simp only [List.length_set,hlen], by simp only [B3,Nat.reduceLT,Nat.reduceEqDiff,hlen,h0], by simp only [B3,Nat.reduceLT,Nat.reduceEqDiff,hlen], by simp only [B3,Nat.reduceLT,Nat.reduceEqDiff,hlen,h3], rfl⟩
  ·have hc : decide ((p : Int) < (b.length : Int)) = false := decide_eq_false (by omega)
   have hsk : b[p]? = none := List.getElem?_eq_none (by omega)
   unfold spanN tyAt
   simp only [hsk,Bool.false_eq_true,if_false]
   simp only [objS] at hir
   rw [l54_0]
   simp only [b54_0,B0,B1,B2,List.replicate,Nat.reduceAdd,Nat.reduceSub,Nat.reduceLeDiff,Nat.reduceLT,Nat.reduceEqDiff,reduceCtorEq,Int.reduceEq,Int.reduceLT,Int.reduceLE,lenA,hlen,h0,h3,hc,hir]
   exact ⟨_, _, _, rfl, rfl, by simp only [List.length_set,hlen], by simp only [B3,Nat.reduceLT,Nat.reduceEqDiff,hlen,h0], by simp only [B3,Nat.reduceLT,Nat.reduceEqDiff,hlen], by simp only [B3,Nat.reduceLT,Nat.reduceEqDiff,hlen,h3], rfl⟩
theorem s54 (b : List UInt8) (p ir : Nat) (H : Heap) (hir : H[ir]? = some (objS b p false)) (hb : b.length ≤ 2305843009213693952) (hp : p ≤ b.length) :
  L 54 [.ptr ir 0 0] H = some (.im (.agg (encT (typP b (skipB b p)).1)), H.set ir (objS b (typP b (skipB b p)).2.1 (typP b (skipB b p)).2.2)) := by
 have hirl := (List.getElem?_eq_some_iff.1 hir).1
 have hle := skip_len hp
 have c1 : ∀ M, L 19 [.ptr ir 0 0] (H ++ M) = some (.tup [], H.set ir (objS b (skipB b p) false) ++ M) := fun M => by
  rw [s19 b p ir false (H ++ M) (by rw [get_app hirl]; exact hir) (by omega) hp, List.set_append_left _ _ hirl]
 generalize skipB b p = q at *
 have g1 := hp_get (H := H) hirl
 have g4 := hp_set (H := H) hirl
 have hsl := span_len hle
 have hsg := span_le b q
 have key := fun M tm1 => l54 b (by omega) ir q false (H.set ir (objS b q false) ++ M) (g1 _ _) (b.length - q) q tm1 (by omega) hle
 have hspd : spanN b (b.length - q) q = spanB b q := rfl
 simp only [hspd] at key
 have d1 := fun H => s70 ((b.drop q).take (spanB b q - q)) (by simp; omega) H
 have hpl := parseP_le ((b.drop q).take (spanB b q - q))
 have hln : ((b.drop q).take (spanB b q - q)).length = spanB b q - q := by simp; omega
 rw [hln] at hpl
 have d2 := fun H => s70 ((b.drop q).take (parseP ((b.drop q).take (spanB b q - q))).2.1) (by simp; omega) H
 have hlv : ∀ (q : Nat) (bd : Bool) (M : Heap) (k : Int) (s : Nat) (ts : List KT), leave H false (.im (.agg [.int .i64 k, .sl s (encTs ts)])) (H.set ir (objS b q bd) ++ M) = (.im (.agg [.int .i64 k, .sl s (encTs ts)]), H.set ir (objS b q bd)) := fun q bd M k s ts => leave_SM hir (by simp [degrade, toDat]) (by simp [refsLt])
 unfold typP
 generalize parseP ((b.drop q).take (spanB b q - q)) = r1 at *
 obtain ⟨t, n, e⟩ := r1
 obtain ⟨k', s', ts⟩ := t
 simp only at d1 d2 hpl
 generalize parseP ((b.drop q).take n) = r2 at *
 obtain ⟨t2, n2, e2⟩ := r2
 obtain ⟨k2, s2, ts2⟩ := t2
 generalize hsp : spanB b q = sp at *
 have hcc : q ≤ sp ∧ sp ≤ b.length := ⟨hsg, hsl⟩
 have hcn : q ≤ q + n ∧ q + n ≤ b.length := ⟨by omega, by omega⟩
 have hsub : q + n - q = n := by omega
 have hw1 : IntKind.i64.wrap ((q : Int) + (n : Int)) = ((q + n : Nat) : Int) := by rw [Go.Abs.Seat.wrap_small _ (by omega)]; omega
 rw [leq F54]
 obtain ⟨hlen, ha⟩ := enter_at (f := f54) (args := [.ptr ir 0 0]) (Nat.le_of_ble_eq_true rfl)
 have h0 := ha 0 _ rfl
 generalize enterA f54 [.ptr ir 0 0] = tm at *
 change tm.length = 106 at hlen
 simp only [objS,encT] at *
 simp only [f54,e54_0,B0,B1,B2,List.replicate,Nat.reduceAdd,Nat.reduceSub,Nat.reduceLeDiff,Nat.reduceLT,Nat.reduceEqDiff,reduceCtorEq,Int.reduceEq,Int.reduceLT,Int.reduceLE,lenA,hlen,h0,c1,g1]
 generalize hr : thenL (Λ c54_0 _ _) _ = r
 refine Exists.elim (thenL_inv hr (key _ _ ?_ ?_ ?_)) ?_
 iterate 3 simp only [B3,Nat.reduceLT,Nat.reduceEqDiff,hlen,h0]
 clear hr key
 rintro e1 ⟨tm1, H1, ⟨rfl, k1, k2', k3, k4, rfl⟩, rfl⟩
 simp only [B3,Nat.reduceLT,Nat.reduceEqDiff,hlen,List.length_set] at k3
 rcases Bool.eq_false_or_eq_true (decide (e = 0)) with e1 | e1
 ·rw [if_pos (of_decide_eq_true e1)]
  simp only [B0,B1,B2,List.replicate,Nat.reduceAdd,Nat.reduceSub,Nat.reduceLeDiff,Nat.reduceLT,Nat.reduceEqDiff,reduceCtorEq,Int.reduceEq,Int.reduceLT,Int.reduceLE,lenA,z_ops,z_nil,z_cons,z_guard,z_some,z_drop,z_do,z_not,z_not0,pairK,forall_eq_or_imp,stays,loadOf,List.reverse_cons,List.reverse_nil,List.mem_cons,List.not_mem_nil,or_false,forall_eq,true_or,or_true,Bool.true_and,endK,resA,tupA,boundA,intOfA,Int.natCast_nonneg,Int.toNat_natCast,k1,k2',k3,k4,g1,g4,hq_get,hq_get0,hq_set,hq_set0,hcc,d1,e1,hlv]
  rfl
 ·rw [if_neg (of_decide_eq_false e1)]
  simp only [B0,B1,B2,List.replicate,Nat.reduceAdd,Nat.reduceSub,Nat.reduceLeDiff,Nat.reduceLT,Nat.reduceEqDiff,reduceCtorEq,Int.reduceEq,Int.reduceLT,Int.reduceLE,lenA,z_ops,z_nil,z_cons,z_guard,z_some,z_drop,z_do,z_not,z_not0,pairK,forall_eq_or_imp,stays,loadOf,List.reverse_cons,List.reverse_nil,List.mem_cons,List.not_mem_nil,or_false,forall_eq,true_or,or_true,Bool.true_and,endK,resA,tupA,boundA,intOfA,Int.natCast_nonneg,Int.toNat_natCast,k1,k2',k3,k4,g1,g4,hq_get,hq_get0,hq_set,hq_set0,hcc,hcn,hsub,hw1,d1,d2,e1,hlv]
  rcases Bool.eq_false_or_eq_true (decide (e2 = 0)) with e3 | e3 <;> rw [e3] <;> rfl
end Go.Abs.Seat
end
section
set_option linter.unusedVariables false
set_option linter.unusedSimpArgs false
namespace Go.Abs.Seat
open Go.Proofs
abbrev St := Int × KT × List NT
def isE (c : UInt8) : Bool := !decide (c = 100) && (!decide (c = 116) && !decide (c = 110))
def itemX (rd : Nat → NT × Nat × Bool) (b : List UInt8) (c : UInt8) (st : St) (p : Nat) : St × Nat × Bool :=
 if c = 100 then (if digZ ((peekB b (skipB b p)).toNat : Int) = true then ((((peekB b (skipB b p)).toNat : Int) - 48, st.2.1, st.2.2), skipB b p + 1, false) else (st, skipB b p, true))
 else if c = 116 then ((st.1, (typP b (skipB b p)).1, st.2.2), (typP b (skipB b p)).2.1, (typP b (skipB b p)).2.2)
 else if c = 110 then ((st.1, st.2.1, st.2.2 ++ [(nameP b p).1]), (nameP b p).2.1, (nameP b p).2.2)
 else ((st.1, st.2.1, st.2.2 ++ [(rd p).1]), (rd p).2.1, (rd p).2.2)
def moreX (b : List UInt8) (lst : Bool) (st : St) (q : Nat) : Bool := lst && (decide (st.2.2.length < 64) && decide (peekB b (skipB b q) = 44))
def goX (rd : Nat → NT × Nat × Bool) (b : List UInt8) (lst : Bool) : Nat → UInt8 → List UInt8 → St → Nat → St × Nat × Bool
 | _, _, [], st, p => (st, p, false)
 | 0, _, _, st, p => (st, p, false)
 | f + 1, mark, c :: cs, st, p =>
  if (signP b p false mark).2 = true then (st, (signP b p false mark).1, true)
  else if (itemX rd b c st (signP b p false mark).1).2.2 = true then itemX rd b c st (signP b p false mark).1
  else if moreX b lst (itemX rd b c st (signP b p false mark).1).1 (itemX rd b c st (signP b p false mark).1).2.1 = true
   then goX rd b lst f 44 (c :: cs) (itemX rd b c st (signP b p false mark).1).1 (itemX rd b c st (signP b p false mark).1).2.1
   else goX rd b lst f 44 cs (itemX rd b c st (signP b p false mark).1).1 (itemX rd b c st (signP b p false mark).1).2.1
def callX (rd : Nat → NT × Nat × Bool) (b w ps : List UInt8) (p : Nat) : NT × Nat × Bool :=
 if (goX rd b (decide (ps = [43])) 70 40 ps (0, zeroT, []) p).2.2 = true then (zeroN, (goX rd b (decide (ps = [43])) 70 40 ps (0, zeroT, []) p).2.1, true)
 else (mkN w (goX rd b (decide (ps = [43])) 70 40 ps (0, zeroT, []) p).1.1 [] (goX rd b (decide (ps = [43])) 70 40 ps (0, zeroT, []) p).1.2.1 (goX rd b (decide (ps = [43])) 70 40 ps (0, zeroT, []) p).1.2.2,
  (signP b (goX rd b (decide (ps = [43])) 70 40 ps (0, zeroT, []) p).2.1 false 41).1, (signP b (goX rd b (decide (ps = [43])) 70 40 ps (0, zeroT, []) p).2.1 false 41).2)
def exprX (b : List UInt8) : Nat → Nat → NT × Nat × Bool
 | 0, p => (zeroN, p, true)
 | d + 1, p =>
  if peekB b (skipB b p) = 34 then strP b (skipB b p + 1)
  else if (decide (peekB b (skipB b p) = 45) || digZ ((peekB b (skipB b p)).toNat : Int)) = true then numP b (skipB b p)
  else if letZ ((peekB b (skipB b p)).toNat : Int) = false then (zeroN, skipB b p, true)
  else if longB b (skipB b p) = true then (zeroN, runB b (skipB b p), true)
  else match shapeT (wordB b (skipB b p)) with
   | none => (mkN nameW 0 (wordB b (skipB b p)) zeroT [], runB b (skipB b p), false)
   | some ps => if ps = [] then (mkN (wordB b (skipB b p)) 0 [] zeroT [], runB b (skipB b p), false)
    else if d = 0 ∧ ps ≠ [100] ∧ ps ≠ [116] then (zeroN, runB b (skipB b p), true)
    else callX (exprX b d) b (wordB b (skipB b p)) ps (runB b (skipB b p))
theorem skipN_skip (b : List UInt8) : ∀ f p, b.length ≤ p + f → p ≤ b.length → b[skipN b f p]? ≠ some 32
 | 0, p, h, h2 => by
  simp only [skipN]
  rw [List.getElem?_eq_none (by omega)]; simp
 | f + 1, p, h, h2 => by
  unfold skipN
  split
  ·rename_i hs
   have := (List.getElem?_eq_some_iff.1 hs).1
   exact skipN_skip b f (p + 1) (by omega) (by omega)
  ·assumption
theorem skip_ne {b : List UInt8} {p : Nat} (h : p ≤ b.length) : b[skipB b p]? ≠ some 32 := skipN_skip b _ p (by omega) h
theorem skip_at {b : List UInt8} {p : Nat} (h : b[p]? ≠ some 32) : skipB b p = p := by
 unfold skipB
 cases b.length - p with
 | zero => rfl
 | succ f => unfold skipN; rw [if_neg h]
theorem skip_skip {b : List UInt8} {p : Nat} (h : p ≤ b.length) : skipB b (skipB b p) = skipB b p := skip_at (skip_ne h)
theorem sign_skip {b : List UInt8} {p : Nat} (h : p ≤ b.length) (c : UInt8) : signP b (skipB b p) false c = signP b p false c := by
 unfold signP
 simp only [Bool.false_eq_true,if_false,skip_skip h]
theorem sign_len {b : List UInt8} {p : Nat} {bad : Bool} {c : UInt8} (h : p ≤ b.length) (hc : c ≠ 0) : (signP b p bad c).1 ≤ b.length := by
 unfold signP
 split
 ·exact h
 ·split
  ·rename_i hk
   have := peek_lt (b := b) (p := skipB b p) (by rw [hk]; exact hc)
   simp only; omega
  ·exact skip_len h
theorem strN_len (b : List UInt8) : ∀ f out p, p ≤ b.length → (strN b f out p).2.1 ≤ b.length
 | 0, out, p, h => h
 | f + 1, out, p, h => by
  unfold strN
  split
  ·rename_i hk
   have := peek_lt (b := b) (p := p) (by rw [hk]; decide)
   simp only; omega
  ·split
   ·exact h
   ·rename_i hb
    have hp : p < b.length := by
     rcases Nat.lt_or_ge p b.length with h1 | h1
     ·exact h1
     ·exfalso; apply hb
      have h0 : peekB b p = 0 := by unfold peekB; rw [List.getElem?_eq_none h1]; rfl
      rw [h0]
      simp [plnZ]
    split
    ·have := esc_le (b := b) (p := p + 1) (by omega)
     split
     ·exact this.2
     ·exact strN_len b f _ _ this.2
    ·exact strN_len b f _ _ (by omega)
theorem strP_len {b : List UInt8} {p : Nat} (h : p ≤ b.length) : (strP b p).2.1 ≤ b.length := by
 have := strN_len b (b.length + 1 - p) [] p h
 unfold strP
 split
 all_goals rename_i hs; rw [hs] at this; exact this
theorem numN_len (b : List UInt8) (most : Nat) : ∀ f n p, p ≤ b.length → (numN b most f n p).2.1 ≤ b.length
 | 0, n, p, h => h
 | f + 1, n, p, h => by
  unfold numN
  split
  ·rename_i hd
   have := peek_lt (b := b) (p := p) (fun e => by rw [e, dig0] at hd; simp at hd)
   split
   ·exact numN_len b most f _ _ (by omega)
   ·exact h
  ·exact h
theorem numP_len {b : List UInt8} {p : Nat} (h : p < b.length) : (numP b p).2.1 ≤ b.length := by
 unfold numP
 simp only
 have hp1 : (if decide (peekB b p = 45) = true then p + 1 else p) ≤ b.length := by split <;> omega
 generalize (if decide (peekB b p = 45) = true then p + 1 else p) = p1 at *
 split
 ·exact hp1
 ·rename_i hd
  have := peek_lt (b := b) (p := p1) (fun e => by apply hd; rw [e, dig0]; rfl)
  have := numN_len b (mostN (decide (peekB b p = 45))) (b.length - (p1 + 1)) ((peekB b p1).toNat - 48) (p1 + 1) (by omega)
  split
  all_goals rename_i hs; rw [hs] at this; exact this
theorem nameP_len {b : List UInt8} {p : Nat} (h : p ≤ b.length) : (nameP b p).2.1 ≤ b.length := by
 have := run_len (skip_len h)
 unfold nameP
 split
 ·exact this
 ·split <;> exact this
theorem typP_len {b : List UInt8} {p : Nat} (h : p ≤ b.length) : (typP b p).2.1 ≤ b.length := by
 have h1 := span_len h
 have h2 := span_le b p
 have h3 := parseP_le ((b.drop p).take (spanB b p - p))
 simp only [List.length_take,List.length_drop] at h3
 unfold typP
 split
 ·exact h1
 ·simp only; omega
theorem item_len {rd : Nat → NT × Nat × Bool} {b : List UInt8} (hrd : ∀ p, p ≤ b.length → (rd p).2.1 ≤ b.length) (c : UInt8) (st : St) {p : Nat} (h : p ≤ b.length) : (itemX rd b c st p).2.1 ≤ b.length := by
 unfold itemX
 split
 ·split
  ·rename_i hd
   have := peek_lt (b := b) (p := skipB b p) (fun e => by rw [e, dig0] at hd; simp at hd)
   simp only; omega
  ·exact skip_len h
 ·split
  ·exact typP_len (skip_len h)
  ·split
   ·exact nameP_len h
   ·exact hrd p h
theorem go_len {rd : Nat → NT × Nat × Bool} {b : List UInt8} (hrd : ∀ p, p ≤ b.length → (rd p).2.1 ≤ b.length) (lst : Bool) : ∀ (f : Nat) (mark : UInt8) (cs : List UInt8) (st : St) (p : Nat), mark ≠ 0 → p ≤ b.length → (goX rd b lst f mark cs st p).2.1 ≤ b.length
 | 0, mark, [], st, p, hm, h => by unfold goX; exact h
 | f + 1, mark, [], st, p, hm, h => by unfold goX; exact h
 | 0, mark, c :: cs, st, p, hm, h => by unfold goX; exact h
 | f + 1, mark, c :: cs, st, p, hm, h => by
  have h1 := sign_len (bad := false) h hm
  have h2 := item_len hrd c st h1
  unfold goX
  split
  ·exact h1
  ·split
   ·exact h2
   ·split
    ·exact go_len hrd lst f 44 _ _ _ (by decide) h2
    ·exact go_len hrd lst f 44 _ _ _ (by decide) h2
theorem call_len {rd : Nat → NT × Nat × Bool} {b : List UInt8} (hrd : ∀ p, p ≤ b.length → (rd p).2.1 ≤ b.length) (w ps : List UInt8) {p : Nat} (h : p ≤ b.length) : (callX rd b w ps p).2.1 ≤ b.length := by
 have h1 := go_len hrd (decide (ps = [43])) 70 40 ps (0, zeroT, []) p (by decide) h
 unfold callX
 split
 ·exact h1
 ·exact sign_len h1 (by decide)
theorem expr_len (b : List UInt8) : ∀ (d p : Nat), p ≤ b.length → (exprX b d p).2.1 ≤ b.length
 | 0, p, h => h
 | d + 1, p, h => by
  have h1 := skip_len h
  have h2 := run_len h1
  unfold exprX
  split
  ·rename_i hk
   have := peek_lt (b := b) (p := skipB b p) (by rw [hk]; decide)
   exact strP_len (by omega)
  ·split
   ·rename_i hk
    have : peekB b (skipB b p) ≠ 0 := fun e => by rw [e, dig0] at hk; simp at hk
    exact numP_len (peek_lt this)
   ·split
    ·exact h1
    ·split
     ·exact h2
     ·split
      ·exact h2
      ·split
       ·exact h2
       ·split
        ·exact h2
        ·exact call_len (fun p h => expr_len b d p h) _ _ h2
def okPs (ps : List UInt8) : Bool := decide (ps.length ≤ 5) && (decide (ps = [43]) || !ps.contains 43) && (decide (ps = [100]) || decide (ps = [116]) || !(ps.contains 100 || ps.contains 116)) && !ps.contains 108
theorem shapes_ok : ∀ e ∈ shapes, okPs e.2 = true := by decide
theorem shape_ok {w p : List UInt8} (h : shapeT w = some p) : okPs p = true := shapes_ok (w, p) (lookup_mem h)
end Go.Abs.Seat
end
section
set_option linter.unusedVariables false
set_option linter.unusedSimpArgs false
set_option maxRecDepth 10000
namespace Go.Abs.Seat
def T35 : ACode := (.seq (.ops [⟨some 14,.move (.t 11),none⟩,⟨some 15,.move (.t 2),none⟩,⟨some 16,.lenStr (.t 15),none⟩,⟨some 17,.bin .lss (.t 14) (.t 16),none⟩,⟨some 18,.move (.t 17),none⟩,⟨some 19,.move (.t 0),some (18,true)⟩,⟨some 20,.nilCheck (.t 19),some (18,true)⟩,⟨some 21,.fieldAddr 2 (.t 20),some (18,true)⟩,⟨some 22,.load none (.t 21),some (18,true)⟩,⟨some 23,.un .not (.t 22),some (18,true)⟩,⟨some 24,.pick (.t 18) (.t 23) (.c (.im (.bool false))),none⟩] []) (.cond (.t 24) .skip (.exit 0)))
def S35 : ACode := (.ops [⟨some 27,.move (.t 0),none⟩,⟨some 28,.move (.t 10),none⟩,⟨some 29,.call (.c (.clo 53 [])) [(.t 27),(.t 28)],none⟩] [])
def M35 : ACode := (.ops [⟨some 10,.move (.c (.im (.int .u8 44))),none⟩] [])
def B35 : ACode := (.seq (.ops [⟨some 30,.move (.t 0),none⟩,⟨some 31,.nilCheck (.t 30),none⟩,⟨some 32,.fieldAddr 2 (.t 31),none⟩,⟨some 33,.load none (.t 32),none⟩] []) (.cond (.t 33) (.exit 0) .skip))
def sw35 : ACode := (.seq (.ops [⟨some 34,.move (.t 2),none⟩,⟨some 35,.move (.t 11),none⟩,⟨some 36,.indexStr (.t 34) (.t 35),none⟩] []) (.block 2 (.seq (.ops [⟨some 47,.bin .eql (.t 36) (.c (.im (.int .u8 100))),none⟩,⟨some 46,.move (.t 47),none⟩] []) (.cond (.t 46) (.seq (.ops [⟨some 48,.move (.t 0),none⟩,⟨some 49,.call (.c (.clo 19 [])) [(.t 48)],none⟩] []) (.seq (.seq (.ops [⟨some 50,.move (.t 0),none⟩,⟨some 51,.call (.c (.clo 29 [])) [(.t 50)],none⟩,⟨some 52,.i2i .i64 (.t 51),none⟩,⟨some 53,.bin .sub (.t 52) (.c (.im (.int .i64 48))),none⟩,⟨some 54,.fieldAddr 1 (.t 9),none⟩,⟨none,.store 1 (.t 54) (.t 53),none⟩] []) (.seq (.ops [⟨some 55,.fieldAddr 1 (.t 9),none⟩,⟨some 56,.load none (.t 55),none⟩,⟨some 57,.bin .lss (.t 56) (.c (.im (.int .i64 0))),none⟩,⟨some 58,.move (.t 57),none⟩,⟨some 59,.fieldAddr 1 (.t 9),some (58,false)⟩,⟨some 60,.load none (.t 59),some (58,false)⟩,⟨some 61,.bin .gtr (.t 60) (.c (.im (.int .i64 9))),some (58,false)⟩,⟨some 62,.pick (.t 58) (.c (.im (.bool true))) (.t 61),none⟩] []) (.cond (.t 62) (.seq (.ops [⟨some 63,.move (.t 0),none⟩,⟨some 64,.nilCheck (.t 63),none⟩,⟨some 65,.fieldAddr 2 (.t 64),none⟩,⟨none,.store 1 (.t 65) (.c (.im (.bool true))),none⟩] []) (.exit 2)) .skip))) (.ops [⟨some 66,.move (.t 0),none⟩,⟨some 67,.nilCheck (.t 66),none⟩,⟨some 68,.fieldAddr 1 (.t 67),none⟩,⟨some 69,.load none (.t 68),none⟩,⟨some 70,.bin .add (.t 69) (.c (.im (.int .i64 1))),none⟩,⟨some 71,.nilCheck (.t 66),none⟩,⟨some 72,.fieldAddr 1 (.t 71),none⟩,⟨none,.store 1 (.t 72) (.t 70),none⟩] []))) (.seq (.ops [⟨some 74,.bin .eql (.t 36) (.c (.im (.int .u8 116))),none⟩,⟨some 73,.move (.t 74),none⟩] []) (.cond (.t 73) (.ops [⟨some 75,.move (.t 0),none⟩,⟨some 76,.call (.c (.clo 54 [])) [(.t 75)],none⟩,⟨some 77,.fieldAddr 3 (.t 9),none⟩,⟨none,.store 2 (.t 77) (.t 76),none⟩] []) (.seq (.ops [⟨some 79,.bin .eql (.t 36) (.c (.im (.int .u8 110))),none⟩,⟨some 78,.move (.t 79),none⟩] []) (.cond (.t 78) (.ops [⟨some 80,.fieldAddr 5 (.t 9),none⟩,⟨some 81,.load none (.t 80),none⟩,⟨some 82,.move (.t 0),none⟩,⟨some 83,.call (.c (.clo 55 [])) [(.t 82)],none⟩,⟨some 84,.bslice false 6 1 [(.im (.str [])),(.im (.int .i64 0)),(.im (.str [])),(.im (.int .i64 0)),.nils,.nils] [(0,(.t 83))],none⟩,⟨some 85,.append 27 96 6 (.t 81) (.t 84),none⟩,⟨some 86,.fieldAddr 5 (.t 9),none⟩,⟨none,.store 1 (.t 86) (.t 85),none⟩] [(1,3)]) (.ops [⟨some 37,.fieldAddr 5 (.t 9),none⟩,⟨some 38,.load none (.t 37),none⟩,⟨some 39,.move (.t 0),none⟩,⟨some 40,.move (.t 3),none⟩,⟨some 41,.bin .sub (.t 40) (.c (.im (.int .i64 1))),none⟩,⟨some 42,.call (.c (.clo 18 [])) [(.t 39),(.t 41)],none⟩,⟨some 43,.bslice false 6 1 [(.im (.str [])),(.im (.int .i64 0)),(.im (.str [])),(.im (.int .i64 0)),.nils,.nils] [(0,(.t 42))],none⟩,⟨some 44,.append 27 96 6 (.t 38) (.t 43),none⟩,⟨some 45,.fieldAddr 5 (.t 9),none⟩,⟨none,.store 1 (.t 45) (.t 44),none⟩] [(1,5)])))))))))
def tl35 : ACode := (.seq (.ops [⟨some 87,.move (.t 2),none⟩,⟨some 88,.bin .eql (.t 87) (.c (.im (.str [43]))),none⟩,⟨some 89,.move (.t 88),none⟩,⟨some 90,.move (.t 0),some (89,true)⟩,⟨some 91,.nilCheck (.t 90),some (89,true)⟩,⟨some 92,.fieldAddr 2 (.t 91),some (89,true)⟩,⟨some 93,.load none (.t 92),some (89,true)⟩,⟨some 94,.un .not (.t 93),some (89,true)⟩,⟨some 95,.pick (.t 89) (.t 94) (.c (.im (.bool false))),none⟩,⟨some 96,.move (.t 95),none⟩,⟨some 97,.fieldAddr 5 (.t 9),some (96,true)⟩,⟨some 98,.load none (.t 97),some (96,true)⟩,⟨some 99,.lenSl (.t 98),some (96,true)⟩,⟨some 100,.bin .lss (.t 99) (.c (.im (.int .i64 64))),some (96,true)⟩,⟨some 101,.pick (.t 96) (.t 100) (.c (.im (.bool false))),none⟩] []) (.cond (.t 101) (.seq (.ops [⟨some 102,.move (.t 0),none⟩,⟨some 103,.call (.c (.clo 19 [])) [(.t 102)],none⟩] []) (.seq (.ops [⟨some 104,.move (.t 0),none⟩,⟨some 105,.call (.c (.clo 29 [])) [(.t 104)],none⟩,⟨some 106,.bin .eql (.t 105) (.c (.im (.int .u8 44))),none⟩] []) (.cond (.t 106) (.ops [⟨some 107,.move (.t 11),none⟩,⟨some 108,.bin .sub (.t 107) (.c (.im (.int .i64 1))),none⟩,⟨some 11,.move (.t 108),none⟩] []) .skip))) .skip))
def I35 : ACode := (.ops [⟨some 25,.move (.t 11),none⟩,⟨some 26,.bin .add (.t 25) (.c (.im (.int .i64 1))),none⟩,⟨some 11,.move (.t 26),none⟩] [])
def A20 : ACode := (.ops [⟨some 134,.move (.t 0),none⟩,⟨some 135,.move (.t 1),none⟩,⟨some 136,.bin .add (.t 135) (.c (.im (.int .i64 1))),none⟩,⟨some 137,.call (.c (.clo 21 [])) [(.t 134),(.t 136)],none⟩,⟨some 1,.move (.t 137),none⟩] [])
def B20 : ACode := (.ops [⟨some 22,.move (.c (.im (.int .u8 101))),none⟩] [])
def C20 : ACode := (.seq (.ops [⟨some 138,.move (.t 18),none⟩,⟨some 139,.bin .neq (.t 138) (.c (.im (.str [108]))),none⟩] []) (.cond (.t 139) (.ops [⟨some 140,.move (.t 18),none⟩,⟨some 141,.move (.t 21),none⟩,⟨some 142,.indexStr (.t 140) (.t 141),none⟩,⟨some 22,.move (.t 142),none⟩] []) .skip))
def sw20 : ACode := (.seq (.ops [⟨some 143,.move (.t 22),none⟩] []) (.block 2 (.seq (.ops [⟨some 165,.bin .eql (.t 143) (.c (.im (.int .u8 100))),none⟩,⟨some 164,.move (.t 165),none⟩] []) (.cond (.t 164) (.seq (.seq (.ops [⟨some 166,.move (.t 1),none⟩,⟨some 167,.move (.t 0),none⟩,⟨some 168,.lenStr (.t 167),none⟩,⟨some 169,.bin .geq (.t 166) (.t 168),none⟩,⟨some 170,.move (.t 169),none⟩,⟨some 171,.move (.t 0),some (170,false)⟩,⟨some 172,.move (.t 1),some (170,false)⟩,⟨some 173,.indexStr (.t 171) (.t 172),some (170,false)⟩,⟨some 174,.call (.c (.clo 37 [])) [(.t 173)],some (170,false)⟩,⟨some 175,.un .not (.t 174),some (170,false)⟩,⟨some 176,.pick (.t 170) (.c (.im (.bool true))) (.t 175),none⟩] []) (.cond (.t 176) (.seq (.ops [⟨some 177,.build [(.im (.str [])),(.im (.int .i64 0)),(.im (.str [])),(.im (.int .i64 0)),.nils,.nils] [],none⟩,⟨some 178,.move (.t 1),none⟩,⟨none,.store 6 (.t 6) (.t 177),none⟩,⟨some 7,.move (.t 178),none⟩,⟨some 8,.move (.c (.im (.bool false))),none⟩] []) .ret) .skip)) (.seq (.ops [⟨some 179,.move (.t 0),none⟩,⟨some 180,.move (.t 1),none⟩,⟨some 181,.indexStr (.t 179) (.t 180),none⟩,⟨some 182,.bin .sub (.t 181) (.c (.im (.int .u8 48))),none⟩,⟨some 183,.i2i .i64 (.t 182),none⟩,⟨some 184,.fieldAddr 1 (.t 20),none⟩,⟨none,.store 1 (.t 184) (.t 183),none⟩] []) (.ops [⟨some 185,.move (.t 1),none⟩,⟨some 186,.bin .add (.t 185) (.c (.im (.int .i64 1))),none⟩,⟨some 1,.move (.t 186),none⟩] []))) (.seq (.ops [⟨some 188,.bin .eql (.t 143) (.c (.im (.int .u8 116))),none⟩,⟨some 187,.move (.t 188),none⟩] []) (.cond (.t 187) (.seq (.ops [⟨some 190,.move (.t 0),none⟩,⟨some 191,.move (.t 1),none⟩,⟨some 192,.call (.c (.clo 41 [])) [(.t 190),(.t 191)],none⟩,⟨some 189,.move (.t 192),none⟩,⟨some 193,.extract 0 (.t 189),none⟩,⟨some 194,.extract 1 (.t 189),none⟩,⟨some 195,.extract 2 (.t 189),none⟩,⟨some 23,.alloc none [(.im (.int .i64 0)),.nils],none⟩,⟨none,.store 2 (.t 23) (.t 193),none⟩,⟨some 24,.move (.t 194),none⟩,⟨some 25,.move (.t 195),none⟩] []) (.seq (.seq (.ops [⟨some 196,.move (.t 25),none⟩,⟨some 197,.un .not (.t 196),none⟩] []) (.cond (.t 197) (.seq (.ops [⟨some 198,.build [(.im (.str [])),(.im (.int .i64 0)),(.im (.str [])),(.im (.int .i64 0)),.nils,.nils] [],none⟩,⟨some 199,.move (.t 24),none⟩,⟨none,.store 6 (.t 6) (.t 198),none⟩,⟨some 7,.move (.t 199),none⟩,⟨some 8,.move (.c (.im (.bool false))),none⟩] []) .ret) .skip)) (.seq (.ops [⟨some 200,.load (some 2) (.t 23),none⟩,⟨some 201,.fieldAddr 3 (.t 20),none⟩,⟨none,.store 2 (.t 201) (.t 200),none⟩] []) (.ops [⟨some 202,.move (.t 24),none⟩,⟨some 1,.move (.t 202),none⟩] [])))) (.seq (.ops [⟨some 204,.bin .eql (.t 143) (.c (.im (.int .u8 110))),none⟩,⟨some 203,.move (.t 204),none⟩] []) (.cond (.t 203) (.seq (.ops [⟨some 206,.move (.t 0),none⟩,⟨some 207,.move (.t 1),none⟩,⟨some 208,.call (.c (.clo 39 [])) [(.t 206),(.t 207)],none⟩,⟨some 205,.move (.t 208),none⟩,⟨some 209,.extract 0 (.t 205),none⟩,⟨some 210,.extract 1 (.t 205),none⟩,⟨some 211,.extract 2 (.t 205),none⟩,⟨some 26,.move (.t 209),none⟩,⟨some 27,.move (.t 210),none⟩,⟨some 28,.move (.t 211),none⟩] []) (.seq (.seq (.ops [⟨some 212,.move (.t 28),none⟩,⟨some 213,.un .not (.t 212),none⟩] []) (.cond (.t 213) (.seq (.ops [⟨some 214,.build [(.im (.str [])),(.im (.int .i64 0)),(.im (.str [])),(.im (.int .i64 0)),.nils,.nils] [],none⟩,⟨some 215,.move (.t 27),none⟩,⟨none,.store 6 (.t 6) (.t 214),none⟩,⟨some 7,.move (.t 215),none⟩,⟨some 8,.move (.c (.im (.bool false))),none⟩] []) .ret) .skip)) (.seq (.seq (.ops [⟨some 216,.move (.t 26),none⟩,⟨some 217,.call (.c (.clo 42 [])) [(.t 216)],none⟩,⟨some 218,.un .not (.t 217),none⟩] []) (.cond (.t 218) (.seq (.ops [⟨some 219,.build [(.im (.str [])),(.im (.int .i64 0)),(.im (.str [])),(.im (.int .i64 0)),.nils,.nils] [],none⟩,⟨some 220,.move (.t 27),none⟩,⟨none,.store 6 (.t 6) (.t 219),none⟩,⟨some 7,.move (.t 220),none⟩,⟨some 8,.move (.c (.im (.bool false))),none⟩] []) .ret) .skip)) (.seq (.ops [⟨some 221,.fieldAddr 5 (.t 20),none⟩,⟨some 222,.load none (.t 221),none⟩,⟨some 223,.move (.t 26),none⟩,⟨some 224,.build [(.im (.str [])),(.im (.int .i64 0)),(.im (.str [])),(.im (.int .i64 0)),.nils,.nils] [(0,(1,(.c (.im (.str [110,97,109,101]))))),(2,(1,(.t 223)))],none⟩,⟨some 225,.bslice false 6 1 [(.im (.str [])),(.im (.int .i64 0)),(.im (.str [])),(.im (.int .i64 0)),.nils,.nils] [(0,(.t 224))],none⟩,⟨some 226,.append 37 96 6 (.t 222) (.t 225),none⟩,⟨some 227,.fieldAddr 5 (.t 20),none⟩,⟨none,.store 1 (.t 227) (.t 226),none⟩] []) (.ops [⟨some 228,.move (.t 27),none⟩,⟨some 1,.move (.t 228),none⟩] []))))) (.seq (.ops [⟨some 145,.move (.t 0),none⟩,⟨some 146,.move (.t 1),none⟩,⟨some 147,.move (.t 2),none⟩,⟨some 148,.bin .sub (.t 147) (.c (.im (.int .i64 1))),none⟩,⟨some 149,.call (.c (.clo 20 [])) [(.t 145),(.t 146),(.t 148)],none⟩,⟨some 144,.move (.t 149),none⟩,⟨some 150,.extract 0 (.t 144),none⟩,⟨some 151,.extract 1 (.t 144),none⟩,⟨some 152,.extract 2 (.t 144),none⟩,⟨some 29,.alloc none [(.im (.str [])),(.im (.int .i64 0)),(.im (.str [])),(.im (.int .i64 0)),.nils,.nils],none⟩,⟨none,.store 6 (.t 29) (.t 150),none⟩,⟨some 30,.move (.t 151),none⟩,⟨some 31,.move (.t 152),none⟩] []) (.seq (.seq (.ops [⟨some 153,.move (.t 31),none⟩,⟨some 154,.un .not (.t 153),none⟩] []) (.cond (.t 154) (.seq (.ops [⟨some 155,.build [(.im (.str [])),(.im (.int .i64 0)),(.im (.str [])),(.im (.int .i64 0)),.nils,.nils] [],none⟩,⟨some 156,.move (.t 30),none⟩,⟨none,.store 6 (.t 6) (.t 155),none⟩,⟨some 7,.move (.t 156),none⟩,⟨some 8,.move (.c (.im (.bool false))),none⟩] []) .ret) .skip)) (.seq (.ops [⟨some 157,.fieldAddr 5 (.t 20),none⟩,⟨some 158,.load none (.t 157),none⟩,⟨some 159,.load (some 6) (.t 29),none⟩,⟨some 160,.bslice false 6 1 [(.im (.str [])),(.im (.int .i64 0)),(.im (.str [])),(.im (.int .i64 0)),.nils,.nils] [(0,(.t 159))],none⟩,⟨some 161,.append 37 96 6 (.t 158) (.t 160),none⟩,⟨some 162,.fieldAddr 5 (.t 20),none⟩,⟨none,.store 1 (.t 162) (.t 161),none⟩] []) (.ops [⟨some 163,.move (.t 30),none⟩,⟨some 1,.move (.t 163),none⟩] []))))))))))))
def tl20 : ACode := (.seq (.ops [⟨some 229,.move (.t 0),none⟩,⟨some 230,.move (.t 1),none⟩,⟨some 231,.call (.c (.clo 21 [])) [(.t 229),(.t 230)],none⟩,⟨some 1,.move (.t 231),none⟩] []) (.seq (.seq (.ops [⟨some 232,.move (.t 1),none⟩,⟨some 233,.move (.t 0),none⟩,⟨some 234,.lenStr (.t 233),none⟩,⟨some 235,.bin .lss (.t 232) (.t 234),none⟩,⟨some 236,.move (.t 235),none⟩,⟨some 237,.move (.t 0),some (236,true)⟩,⟨some 238,.move (.t 1),some (236,true)⟩,⟨some 239,.indexStr (.t 237) (.t 238),some (236,true)⟩,⟨some 240,.bin .eql (.t 239) (.c (.im (.int .u8 44))),some (236,true)⟩,⟨some 241,.pick (.t 236) (.t 240) (.c (.im (.bool false))),none⟩,⟨some 242,.move (.t 241),none⟩,⟨some 243,.move (.t 18),some (242,true)⟩,⟨some 244,.bin .eql (.t 243) (.c (.im (.str [108]))),some (242,true)⟩,⟨some 245,.move (.t 244),some (242,true)⟩,⟨some 246,.move (.t 21),some (245,true)⟩,⟨some 247,.bin .lss (.t 246) (.c (.im (.int .i64 63))),some (245,true)⟩,⟨some 248,.pick (.t 245) (.t 247) (.c (.im (.bool false))),some (242,true)⟩,⟨some 249,.move (.t 248),some (242,true)⟩,⟨some 250,.move (.t 18),some (249,false)⟩,⟨some 251,.bin .neq (.t 250) (.c (.im (.str [108]))),some (249,false)⟩,⟨some 252,.move (.t 251),some (249,false)⟩,⟨some 253,.move (.t 21),some (252,true)⟩,⟨some 254,.bin .add (.t 253) (.c (.im (.int .i64 1))),some (252,true)⟩,⟨some 255,.move (.t 18),some (252,true)⟩,⟨some 256,.lenStr (.t 255),some (252,true)⟩,⟨some 257,.bin .lss (.t 254) (.t 256),some (252,true)⟩,⟨some 258,.pick (.t 252) (.t 257) (.c (.im (.bool false))),some (249,false)⟩,⟨some 259,.pick (.t 249) (.c (.im (.bool true))) (.t 258),some (242,true)⟩,⟨some 260,.pick (.t 242) (.t 259) (.c (.im (.bool false))),none⟩] []) (.cond (.t 260) (.exit 1) .skip)) (.seq (.seq (.ops [⟨some 261,.move (.t 1),none⟩,⟨some 262,.move (.t 0),none⟩,⟨some 263,.lenStr (.t 262),none⟩,⟨some 264,.bin .lss (.t 261) (.t 263),none⟩,⟨some 265,.move (.t 264),none⟩,⟨some 266,.move (.t 0),some (265,true)⟩,⟨some 267,.move (.t 1),some (265,true)⟩,⟨some 268,.indexStr (.t 266) (.t 267),some (265,true)⟩,⟨some 269,.bin .eql (.t 268) (.c (.im (.int .u8 41))),some (265,true)⟩,⟨some 270,.pick (.t 265) (.t 269) (.c (.im (.bool false))),none⟩,⟨some 271,.move (.t 270),none⟩,⟨some 272,.move (.t 18),some (271,true)⟩,⟨some 273,.bin .eql (.t 272) (.c (.im (.str [108]))),some (271,true)⟩,⟨some 274,.move (.t 273),some (271,true)⟩,⟨some 275,.move (.t 21),some (274,false)⟩,⟨some 276,.bin .add (.t 275) (.c (.im (.int .i64 1))),some (274,false)⟩,⟨some 277,.move (.t 18),some (274,false)⟩,⟨some 278,.lenStr (.t 277),some (274,false)⟩,⟨some 279,.bin .eql (.t 276) (.t 278),some (274,false)⟩,⟨some 280,.pick (.t 274) (.c (.im (.bool true))) (.t 279),some (271,true)⟩,⟨some 281,.pick (.t 271) (.t 280) (.c (.im (.bool false))),none⟩] []) (.cond (.t 281) (.seq (.ops [⟨some 282,.load (some 6) (.t 20),none⟩,⟨some 283,.move (.t 1),none⟩,⟨some 284,.bin .add (.t 283) (.c (.im (.int .i64 1))),none⟩,⟨none,.store 6 (.t 6) (.t 282),none⟩,⟨some 7,.move (.t 284),none⟩,⟨some 8,.move (.c (.im (.bool true))),none⟩] []) .ret) .skip)) (.seq (.ops [⟨some 285,.build [(.im (.str [])),(.im (.int .i64 0)),(.im (.str [])),(.im (.int .i64 0)),.nils,.nils] [],none⟩,⟨some 286,.move (.t 1),none⟩,⟨none,.store 6 (.t 6) (.t 285),none⟩,⟨some 7,.move (.t 286),none⟩,⟨some 8,.move (.c (.im (.bool false))),none⟩] []) .ret))))
def I20 : ACode := (.ops [⟨some 132,.move (.t 21),none⟩,⟨some 133,.bin .add (.t 132) (.c (.im (.int .i64 1))),none⟩,⟨some 21,.move (.t 133),none⟩] [])
theorem cut35 : b35_0 = .seq T35 (.seq (.block 1 (.seq S35 (.seq M35 (.seq B35 (.seq sw35 tl35))))) I35) := _root_.id rfl
theorem cut20 : b20_0 = .seq (.block 1 (.seq A20 (.seq B20 (.seq C20 (.seq sw20 tl20))))) I20 := _root_.id rfl
end Go.Abs.Seat
end
section
set_option linter.unusedVariables false
set_option linter.unusedSimpArgs false
namespace Go.Abs.Seat
open Go.Proofs
def TyA (ty : KT) (k : Int) (y : AV) : Prop := (ty = zeroT ∧ k = 0 ∧ y = .nils) ∨ ∃ s args, ty = .mk k s args ∧ y = .im (.sl s (encTs args))
def NodeAt (tid : TypeId) (n id : Nat) (w : List UInt8) (st : St) (H : Heap) : Prop :=
 ∃ (k : Int) (y v : AV), H[id]? = some (.obj none [[.im (.str w), .im (.int .i64 st.1), .im (.str []), .im (.int .i64 k), y, v]]) ∧ TyA st.2.1 k y ∧ Gath tid 6 n v H (st.2.2.map encN)
theorem NodeAt.set {tid : TypeId} {n id ir : Nat} {w : List UInt8} {st : St} {H : Heap} {t : Option (TypeId × Nat)} {xs : List (List AV)} (h : NodeAt tid n id w st H) (hne : ir ≠ id) (ho : H[ir]? = some (.obj t xs)) (x : HO) : NodeAt tid n id w st (H.set ir x) := by
 obtain ⟨k, y, v, h1, h2, h3⟩ := h
 exact ⟨k, y, v, by rw [List.getElem?_set_ne hne]; exact h1, h2, h3.set_obj ho x⟩
theorem NodeAt.more {tid : TypeId} {n id : Nat} {w : List UInt8} {st : St} {H : Heap} (h : NodeAt tid n id w st H) (M : Heap) : NodeAt tid n id w st (H ++ M) := by
 obtain ⟨k, y, v, h1, h2, h3⟩ := h
 exact ⟨k, y, v, by rw [get_app (List.getElem?_eq_some_iff.1 h1).1]; exact h1, h2, h3.more M⟩
def Regs (l : List Nat) (tm tm' : List AV) : Prop := ∀ j ∈ l, tm'.getD j undefA = tm.getD j undefA
def But2 (n ir id : Nat) (H H' : Heap) : Prop := H.length ≤ H'.length ∧ ∀ i, i < n → i ≠ ir → i ≠ id → H'[i]? = H[i]?
theorem s19' {H : Heap} {ir : Nat} (hirl : ir < H.length) {b : List UInt8} (hb : b.length ≤ 4611686018427387904) {p : Nat} (hp : p ≤ b.length) (bad : Bool) : L 19 [.ptr ir 0 0] (H.set ir (objS b p bad)) = some (.tup [], H.set ir (objS b (skipB b p) bad)) := by
 rw [s19 b p ir bad _ (List.getElem?_set_self hirl) hb hp, List.set_set]
theorem s29' {H : Heap} {ir : Nat} (hirl : ir < H.length) {b : List UInt8} (hb : b.length ≤ 4611686018427387904) (p : Nat) (bad : Bool) : L 29 [.ptr ir 0 0] (H.set ir (objS b p bad)) = some (.im (.int .u8 ((peekB b p).toNat : Int)), H.set ir (objS b p bad)) :=
 s29 b p ir bad _ (List.getElem?_set_self hirl) hb
def Did {R : Type} (b w : List UInt8) (ir N : Nat) (tm : List AV) (H : Heap) (K : AEx → List AV → Heap → Option R) (o : Option R) (r : St × Nat × Bool) : Prop :=
 ∃ tm' H' st', o = K .normal tm' H' ∧ tm'.length = 112 ∧ Regs [0, 1, 2, 3, 8, 9, 10, 11] tm tm' ∧ But2 (N + 2) ir (N + 1) H H' ∧ H'[ir]? = some (objS b r.2.1 r.2.2) ∧ NodeAt 27 (N + 2) (N + 1) w st' H' ∧ (r.2.2 = false → st' = r.1)
theorem sw35_e (b : List UInt8) (hb : b.length ≤ 2305843009213693952) (ir N : Nat) (hne : ir ≠ N + 1) (w ps : List UInt8) (i : Nat) (c : UInt8) (hc : ps[i]? = some c) (d d' : Int) (hd : IntKind.i64.wrap (d - 1) = d') (rd : Nat → NT × Nat × Bool) (he : isE c = true)
  (p : Nat) (hp : p ≤ b.length) (st : St) (hst : st.2.2.length ≤ 100) (tm : List AV) (H : Heap) (hlen : tm.length = 112) (h0 : tm.getD 0 undefA = .ptr ir 0 0) (h2 : tm.getD 2 undefA = .im (.str ps)) (h3 : tm.getD 3 undefA = .im (.int .i64 d)) (h9 : tm.getD 9 undefA = .ptr (N + 1) 0 0) (h11 : tm.getD 11 undefA = .im (.int .i64 (i : Int)))
  (hir : H[ir]? = some (objS b p false)) (hnd : NodeAt 27 (N + 2) (N + 1) w st H) (hN : N + 2 ≤ H.length) (hirN : ir < N + 2)
  (hcall : ∃ nd, L 18 [.ptr ir 0 0, .im (.int .i64 d')] H = some (.im (.agg (encN nd)), H.set ir (objS b (rd p).2.1 (rd p).2.2)) ∧ ((rd p).2.2 = false → nd = (rd p).1)) {R : Type} (K : AEx → List AV → Heap → Option R) :
  Did b w ir N tm H K (exec0 L Λ sw35 tm H K) (itemX rd b c st p) := by
 have hirl := (List.getElem?_eq_some_iff.1 hir).1
 obtain ⟨nd, hcl, hnn⟩ := hcall
 obtain ⟨k, y, v, o1, hty, hG⟩ := hnd
 have hitem : itemX rd b c st p = ((st.1, st.2.1, st.2.2 ++ [(rd p).1]), (rd p).2.1, (rd p).2.2) := by
  unfold isE at he
  simp only [Bool.and_eq_true,Bool.not_eq_true',decide_eq_false_iff_not] at he
  unfold itemX
  rw [if_neg he.1, if_neg he.2.1, if_neg he.2.2]
 have n100 : decide ((c.toNat : Int) = 100) = false := by
  refine (byte_eq c 100).trans ?_; unfold isE at he; simp only [Bool.and_eq_true,Bool.not_eq_true'] at he; exact he.1
 have n116 : decide ((c.toNat : Int) = 116) = false := by
  refine (byte_eq c 116).trans ?_; unfold isE at he; simp only [Bool.and_eq_true,Bool.not_eq_true'] at he; exact he.2.1
 have n110 : decide ((c.toNat : Int) = 110) = false := by
  refine (byte_eq c 110).trans ?_; unfold isE at he; simp only [Bool.and_eq_true,Bool.not_eq_true'] at he; exact he.2.2
 have p2 : (0 : Int) ≤ (i : Int) := Int.natCast_nonneg i
 rw [hitem]
 generalize (rd p).2.1 = q at *
 generalize (rd p).2.2 = bad at *
 generalize (rd p).1 = nx at *
 unfold Did
 have oir2 : (H.set ir (objS b q bad))[ir]? = some (objS b q bad) := List.getElem?_set_self hirl
 have o12 : (H.set ir (objS b q bad))[N + 1]? = some (.obj none [[.im (.str w), .im (.int .i64 st.1), .im (.str []), .im (.int .i64 k), y, v]]) := by rw [List.getElem?_set_ne hne]; exact o1
 have hG2 := hG.set_obj hir (objS b q bad)
 have hb2 : ∀ j, j ≠ ir → (H.set ir (objS b q bad))[j]? = H[j]? := fun j hj => List.getElem?_set_ne (fun e => hj e.symm)
 have hl2 : (H.set ir (objS b q bad)).length = H.length := by simp
 generalize H.set ir (objS b q bad) = H2 at *
 obtain ⟨op, ni, txt, ty, ns, kids⟩ := nd
 obtain ⟨tk, ts, targs⟩ := ty
 have hGx := hG2.grow (bytes := 96) (by omega) (encN (.mk op ni txt (.mk tk ts targs) ns kids)) (by simp; omega) (by decide)
 obtain ⟨tok, H3, hap, hG3, hl3, hlow3, hob3⟩ := hGx
 have o13 := hob3 _ _ _ o12
 have o1l := (List.getElem?_eq_some_iff.1 o13).1
 simp only [encN] at hcl hap
 simp only [sw35,B0,B1,B2,List.replicate,Nat.reduceAdd,Nat.reduceSub,Nat.reduceLeDiff,Nat.reduceLT,Nat.reduceEqDiff,reduceCtorEq,Int.reduceEq,Int.reduceLT,Int.reduceLE,lenA,z_ops,z_nil,z_cons,z_guard,z_some,z_drop,z_do,z_not,z_not0,pairK,forall_eq_or_imp,stays,loadOf,List.reverse_cons,List.reverse_nil,List.mem_cons,List.not_mem_nil,or_false,forall_eq,true_or,or_true,Bool.true_and,intOfA,byteDat,elems,toDatss,toDats,toDat,Int.toNat_natCast,hlen,h0,h2,h3,h9,h11,hc,p2,n100,n116,n110,hd,hcl,o1,o12,o13,hap]
 refine ⟨_, _, (st.1, st.2.1, st.2.2 ++ [.mk op ni txt (.mk tk ts targs) ns kids]), rfl, by simp only [List.length_set,hlen], ?_, ?_, ?_, ?_, ?_⟩
 ·intro j hj
  simp only [List.mem_cons,List.not_mem_nil,or_false] at hj
  rcases hj with rfl | rfl | rfl | rfl | rfl | rfl | rfl | rfl <;> simp only [B3,Nat.reduceLT,Nat.reduceEqDiff,hlen]
 ·refine ⟨by simp; omega, fun j hj h1 h2 => ?_⟩
  rw [List.getElem?_set_ne (fun e => h2 e.symm), hlow3 j hj, hb2 j h1]
 ·rw [List.getElem?_set_ne (fun e => hne e.symm), hlow3 ir hirN, oir2]
 ·refine ⟨k, y, _, List.getElem?_set_self o1l, hty, ?_⟩
  rw [show (st.2.2 ++ [NT.mk op ni txt (.mk tk ts targs) ns kids]).map encN = st.2.2.map encN ++ [encN (.mk op ni txt (.mk tk ts targs) ns kids)] by simp]
  simp only [encN] at hG3 ⊢
  exact hG3.set_obj o13 _
 ·intro hbad
  rw [hnn hbad]
theorem sw35_n (b : List UInt8) (hb : b.length ≤ 2305843009213693952) (ir N : Nat) (hne : ir ≠ N + 1) (w ps : List UInt8) (i : Nat) (c : UInt8) (hc : ps[i]? = some c) (rd : Nat → NT × Nat × Bool) (he : c = 110)
  (p : Nat) (hp : p ≤ b.length) (st : St) (hst : st.2.2.length ≤ 100) (tm : List AV) (H : Heap) (hlen : tm.length = 112) (h0 : tm.getD 0 undefA = .ptr ir 0 0) (h2 : tm.getD 2 undefA = .im (.str ps)) (h9 : tm.getD 9 undefA = .ptr (N + 1) 0 0) (h11 : tm.getD 11 undefA = .im (.int .i64 (i : Int)))
  (hir : H[ir]? = some (objS b p false)) (hnd : NodeAt 27 (N + 2) (N + 1) w st H) (hN : N + 2 ≤ H.length) (hirN : ir < N + 2)
  {R : Type} (K : AEx → List AV → Heap → Option R) :
  Did b w ir N tm H K (exec0 L Λ sw35 tm H K) (itemX rd b c st p) := by
 have hirl := (List.getElem?_eq_some_iff.1 hir).1
 have hcl := s55 b p ir H hir (by omega) hp
 obtain ⟨k, y, v, o1, hty, hG⟩ := hnd
 have hitem : itemX rd b c st p = ((st.1, st.2.1, st.2.2 ++ [(nameP b p).1]), (nameP b p).2.1, (nameP b p).2.2) := by
  unfold itemX
  rw [if_neg (by rw [he]; decide), if_neg (by rw [he]; decide), if_pos he]
 have n100 : decide ((c.toNat : Int) = 100) = false := by rw [he]; rfl
 have n116 : decide ((c.toNat : Int) = 116) = false := by rw [he]; rfl
 have n110 : decide ((c.toNat : Int) = 110) = true := by rw [he]; rfl
 have p2 : (0 : Int) ≤ (i : Int) := Int.natCast_nonneg i
 rw [hitem]
 generalize (nameP b p).2.1 = q at *
 generalize (nameP b p).2.2 = bad at *
 generalize (nameP b p).1 = nd at *
 unfold Did
 have oir2 : (H.set ir (objS b q bad))[ir]? = some (objS b q bad) := List.getElem?_set_self hirl
 have o12 : (H.set ir (objS b q bad))[N + 1]? = some (.obj none [[.im (.str w), .im (.int .i64 st.1), .im (.str []), .im (.int .i64 k), y, v]]) := by rw [List.getElem?_set_ne hne]; exact o1
 have hG2 := hG.set_obj hir (objS b q bad)
 have hb2 : ∀ j, j ≠ ir → (H.set ir (objS b q bad))[j]? = H[j]? := fun j hj => List.getElem?_set_ne (fun e => hj e.symm)
 have hl2 : (H.set ir (objS b q bad)).length = H.length := by simp
 generalize H.set ir (objS b q bad) = H2 at *
 obtain ⟨op, ni, txt, ty, ns, kids⟩ := nd
 obtain ⟨tk, ts, targs⟩ := ty
 have hGx := hG2.grow (bytes := 96) (by omega) (encN (.mk op ni txt (.mk tk ts targs) ns kids)) (by simp; omega) (by decide)
 obtain ⟨tok, H3, hap, hG3, hl3, hlow3, hob3⟩ := hGx
 have o13 := hob3 _ _ _ o12
 have o1l := (List.getElem?_eq_some_iff.1 o13).1
 simp only [encN] at hcl hap
 simp only [sw35,B0,B1,B2,List.replicate,Nat.reduceAdd,Nat.reduceSub,Nat.reduceLeDiff,Nat.reduceLT,Nat.reduceEqDiff,reduceCtorEq,Int.reduceEq,Int.reduceLT,Int.reduceLE,lenA,z_ops,z_nil,z_cons,z_guard,z_some,z_drop,z_do,z_not,z_not0,pairK,forall_eq_or_imp,stays,loadOf,List.reverse_cons,List.reverse_nil,List.mem_cons,List.not_mem_nil,or_false,forall_eq,true_or,or_true,Bool.true_and,intOfA,byteDat,elems,toDatss,toDats,toDat,Int.toNat_natCast,hlen,h0,h2,h9,h11,hc,p2,n100,n116,n110,hcl,o1,o12,o13,hap]
 refine ⟨_, _, (st.1, st.2.1, st.2.2 ++ [.mk op ni txt (.mk tk ts targs) ns kids]), rfl, by simp only [List.length_set,hlen], ?_, ?_, ?_, ?_, ?_⟩
 ·intro j hj
  simp only [List.mem_cons,List.not_mem_nil,or_false] at hj
  rcases hj with rfl | rfl | rfl | rfl | rfl | rfl | rfl | rfl <;> simp only [B3,Nat.reduceLT,Nat.reduceEqDiff,hlen]
 ·refine ⟨by simp; omega, fun j hj h1 h2 => ?_⟩
  rw [List.getElem?_set_ne (fun e => h2 e.symm), hlow3 j hj, hb2 j h1]
 ·rw [List.getElem?_set_ne (fun e => hne e.symm), hlow3 ir hirN, oir2]
 ·refine ⟨k, y, _, List.getElem?_set_self o1l, hty, ?_⟩
  rw [show (st.2.2 ++ [NT.mk op ni txt (.mk tk ts targs) ns kids]).map encN = st.2.2.map encN ++ [encN (.mk op ni txt (.mk tk ts targs) ns kids)] by simp]
  simp only [encN] at hG3 ⊢
  exact hG3.set_obj o13 _
 ·exact fun _ => rfl
theorem sw35_t (b : List UInt8) (hb : b.length ≤ 2305843009213693952) (ir N : Nat) (hne : ir ≠ N + 1) (w ps : List UInt8) (i : Nat) (c : UInt8) (hc : ps[i]? = some c) (rd : Nat → NT × Nat × Bool) (he : c = 116)
  (p : Nat) (hp : p ≤ b.length) (st : St) (hst : st.2.2.length ≤ 100) (tm : List AV) (H : Heap) (hlen : tm.length = 112) (h0 : tm.getD 0 undefA = .ptr ir 0 0) (h2 : tm.getD 2 undefA = .im (.str ps)) (h9 : tm.getD 9 undefA = .ptr (N + 1) 0 0) (h11 : tm.getD 11 undefA = .im (.int .i64 (i : Int)))
  (hir : H[ir]? = some (objS b p false)) (hnd : NodeAt 27 (N + 2) (N + 1) w st H) (hN : N + 2 ≤ H.length) (hirN : ir < N + 2)
  {R : Type} (K : AEx → List AV → Heap → Option R) :
  Did b w ir N tm H K (exec0 L Λ sw35 tm H K) (itemX rd b c st p) := by
 have hirl := (List.getElem?_eq_some_iff.1 hir).1
 have hcl := s54 b p ir H hir hb hp
 obtain ⟨k, y, v, o1, hty, hG⟩ := hnd
 have hitem : itemX rd b c st p = ((st.1, (typP b (skipB b p)).1, st.2.2), (typP b (skipB b p)).2.1, (typP b (skipB b p)).2.2) := by
  unfold itemX
  rw [if_neg (by rw [he]; decide), if_pos he]
 have n100 : decide ((c.toNat : Int) = 100) = false := by rw [he]; rfl
 have n116 : decide ((c.toNat : Int) = 116) = true := by rw [he]; rfl
 have p2 : (0 : Int) ≤ (i : Int) := Int.natCast_nonneg i
 rw [hitem]
 generalize (typP b (skipB b p)).2.1 = q at *
 generalize (typP b (skipB b p)).2.2 = bad at *
 generalize (typP b (skipB b p)).1 = ty at *
 unfold Did
 have oir2 : (H.set ir (objS b q bad))[ir]? = some (objS b q bad) := List.getElem?_set_self hirl
 have o12 : (H.set ir (objS b q bad))[N + 1]? = some (.obj none [[.im (.str w), .im (.int .i64 st.1), .im (.str []), .im (.int .i64 k), y, v]]) := by rw [List.getElem?_set_ne hne]; exact o1
 have hG2 := hG.set_obj hir (objS b q bad)
 have hb2 : ∀ j, j ≠ ir → (H.set ir (objS b q bad))[j]? = H[j]? := fun j hj => List.getElem?_set_ne (fun e => hj e.symm)
 have hl2 : (H.set ir (objS b q bad)).length = H.length := by simp
 generalize H.set ir (objS b q bad) = H2 at *
 obtain ⟨tk, ts, targs⟩ := ty
 simp only [encT] at hcl
 simp only [sw35,B0,B1,B2,List.replicate,Nat.reduceAdd,Nat.reduceSub,Nat.reduceLeDiff,Nat.reduceLT,Nat.reduceEqDiff,reduceCtorEq,Int.reduceEq,Int.reduceLT,Int.reduceLE,lenA,z_ops,z_nil,z_cons,z_guard,z_some,z_drop,z_do,z_not,z_not0,pairK,forall_eq_or_imp,stays,loadOf,List.reverse_cons,List.reverse_nil,List.mem_cons,List.not_mem_nil,or_false,forall_eq,true_or,or_true,Bool.true_and,intOfA,byteDat,Int.toNat_natCast,hlen,h0,h2,h9,h11,hc,p2,n100,n116,hcl,o12]
 refine ⟨_, _, (st.1, .mk tk ts targs, st.2.2), rfl, by simp only [List.length_set,hlen], ?_, ?_, ?_, ?_, fun _ => rfl⟩
 ·intro j hj
  simp only [List.mem_cons,List.not_mem_nil,or_false] at hj
  rcases hj with rfl | rfl | rfl | rfl | rfl | rfl | rfl | rfl <;> simp only [B3,Nat.reduceLT,Nat.reduceEqDiff,hlen]
 ·refine ⟨by simp; omega, fun j hj h1 h2 => ?_⟩
  rw [List.getElem?_set_ne (fun e => h2 e.symm), hb2 j h1]
 ·rw [List.getElem?_set_ne (fun e => hne e.symm), oir2]
 ·exact ⟨tk, _, v, List.getElem?_set_self (by omega), .inr ⟨ts, targs, rfl, rfl⟩, hG2.set_obj o12 _⟩
theorem sw35_d (b : List UInt8) (hb : b.length ≤ 2305843009213693952) (ir N : Nat) (hne : ir ≠ N + 1) (w ps : List UInt8) (i : Nat) (c : UInt8) (hc : ps[i]? = some c) (rd : Nat → NT × Nat × Bool) (he : c = 100)
  (p : Nat) (hp : p ≤ b.length) (st : St) (hst : st.2.2.length ≤ 100) (tm : List AV) (H : Heap) (hlen : tm.length = 112) (h0 : tm.getD 0 undefA = .ptr ir 0 0) (h2 : tm.getD 2 undefA = .im (.str ps)) (h9 : tm.getD 9 undefA = .ptr (N + 1) 0 0) (h11 : tm.getD 11 undefA = .im (.int .i64 (i : Int)))
  (hir : H[ir]? = some (objS b p false)) (hnd : NodeAt 27 (N + 2) (N + 1) w st H) (hN : N + 2 ≤ H.length) (hirN : ir < N + 2)
  {R : Type} (K : AEx → List AV → Heap → Option R) :
  Did b w ir N tm H K (exec0 L Λ sw35 tm H K) (itemX rd b c st p) := by
 have hirl := (List.getElem?_eq_some_iff.1 hir).1
 have hself : H = H.set ir (objS b p false) := (set_same hir).symm
 have c1 := s19' (b := b) hirl (by omega) hp false
 rw [← hself] at c1
 have c2 := s29' (b := b) hirl (by omega) (skipB b p) false
 obtain ⟨k, y, v, o1, hty, hG⟩ := hnd
 have n100 : decide ((c.toNat : Int) = 100) = true := by rw [he]; rfl
 have p2 : (0 : Int) ≤ (i : Int) := Int.natCast_nonneg i
 have hq := skip_len hp
 have hwr := wrap_nat (i := skipB b p) (by omega)
 have hc256 : (peekB b (skipB b p)).toNat < 256 := (peekB b (skipB b p)).toNat_lt
 have hsub : IntKind.i64.wrap (((peekB b (skipB b p)).toNat : Int) - 48) = ((peekB b (skipB b p)).toNat : Int) - 48 := Go.Abs.Seat.wrap_small _ (by omega)
 have hid : IntKind.i64.wrap ((peekB b (skipB b p)).toNat : Int) = ((peekB b (skipB b p)).toNat : Int) := Go.Abs.Seat.wrap_small _ (by omega)
 unfold itemX
 rw [if_pos he]
 generalize skipB b p = q at *
 generalize peekB b q = a at *
 have f1 : ∀ o, (H.set ir o)[N + 1]? = some (.obj none [[.im (.str w), .im (.int .i64 st.1), .im (.str []), .im (.int .i64 k), y, v]]) := fun o => by rw [List.getElem?_set_ne hne]; exact o1
 have f2 : ∀ o x, ((H.set ir o).set (N + 1) x)[ir]? = some o := fun o x => by rw [List.getElem?_set_ne (fun e => hne e.symm)]; exact List.getElem?_set_self hirl
 have f3 : ∀ o x, ((H.set ir o).set (N + 1) x)[N + 1]? = some x := fun o x => List.getElem?_set_self (by simp; omega)
 have f4 : ∀ o x o', ((H.set ir o).set (N + 1) x).set ir o' = (H.set ir o').set (N + 1) x := fun o x o' => by rw [List.set_comm _ _ (fun e => hne e.symm), List.set_set]
 have hfin : ∀ (q' : Nat) (bd : Bool) (z : Int), But2 (N + 2) ir (N + 1) H ((H.set ir (objS b q' bd)).set (N + 1) (.obj none [[.im (.str w), .im (.int .i64 z), .im (.str []), .im (.int .i64 k), y, v]])) ∧
   ((H.set ir (objS b q' bd)).set (N + 1) (.obj none [[.im (.str w), .im (.int .i64 z), .im (.str []), .im (.int .i64 k), y, v]]))[ir]? = some (objS b q' bd) ∧
   NodeAt 27 (N + 2) (N + 1) w (z, st.2.1, st.2.2) ((H.set ir (objS b q' bd)).set (N + 1) (.obj none [[.im (.str w), .im (.int .i64 z), .im (.str []), .im (.int .i64 k), y, v]])) := fun q' bd z =>
  ⟨⟨by simp, fun j hj h1 h2 => by rw [List.getElem?_set_ne (fun e => h2 e.symm), List.getElem?_set_ne (fun e => h1 e.symm)]⟩, f2 _ _, ⟨k, y, v, f3 _ _, hty, (hG.set_obj hir _).set_obj (f1 _) _⟩⟩
 simp only [objS] at c1 c2 hir f1 f2 f3 f4
 unfold Did
 rcases Bool.eq_false_or_eq_true (digZ (a.toNat : Int)) with hd | hd
 ·have hr := dig_range hd
  have e1 : decide ((a.toNat : Int) - 48 < 0) = false := decide_eq_false (by omega)
  have e2 : decide (9 < (a.toNat : Int) - 48) = false := decide_eq_false (by omega)
  rw [hd, if_pos rfl]
  simp only [sw35,B0,B1,B2,List.replicate,Nat.reduceAdd,Nat.reduceSub,Nat.reduceLeDiff,Nat.reduceLT,Nat.reduceEqDiff,reduceCtorEq,Int.reduceEq,Int.reduceLT,Int.reduceLE,lenA,z_ops,z_nil,z_cons,z_guard,z_some,z_drop,z_do,z_not,z_not0,pairK,forall_eq_or_imp,stays,loadOf,List.reverse_cons,List.reverse_nil,List.mem_cons,List.not_mem_nil,or_false,forall_eq,true_or,or_true,Bool.true_and,intOfA,byteDat,Int.toNat_natCast,hlen,h0,h2,h9,h11,hc,p2,n100,c1,c2,f1,f2,f3,f4,hid,hsub,e1,e2,hwr]
  obtain ⟨k1, k2, k3⟩ := hfin (q + 1) false ((a.toNat : Int) - 48)
  refine ⟨_, _, (((a.toNat : Int) - 48), st.2.1, st.2.2), rfl, by simp only [List.length_set,hlen], ?_, k1, k2, k3, fun _ => rfl⟩
  intro j hj
  simp only [List.mem_cons,List.not_mem_nil,or_false] at hj
  rcases hj with rfl | rfl | rfl | rfl | rfl | rfl | rfl | rfl <;> simp only [B3,Nat.reduceLT,Nat.reduceEqDiff,hlen]
 ·rw [hd, if_neg (by simp)]
  obtain ⟨k1, k2, k3⟩ := hfin q true ((a.toNat : Int) - 48)
  rcases dig_not hd with hd | hd
  ·have e1 : decide ((a.toNat : Int) - 48 < 0) = true := decide_eq_true (by omega)
   simp only [sw35,B0,B1,B2,List.replicate,Nat.reduceAdd,Nat.reduceSub,Nat.reduceLeDiff,Nat.reduceLT,Nat.reduceEqDiff,reduceCtorEq,Int.reduceEq,Int.reduceLT,Int.reduceLE,lenA,z_ops,z_nil,z_cons,z_guard,z_some,z_drop,z_do,z_not,z_not0,pairK,forall_eq_or_imp,stays,loadOf,List.reverse_cons,List.reverse_nil,List.mem_cons,List.not_mem_nil,or_false,forall_eq,true_or,or_true,Bool.true_and,intOfA,byteDat,Int.toNat_natCast,hlen,h0,h2,h9,h11,hc,p2,n100,c1,c2,f1,f2,f3,f4,hid,hsub,e1]
   refine ⟨_, _, (((a.toNat : Int) - 48), st.2.1, st.2.2), rfl, by simp only [List.length_set,hlen], ?_, k1, k2, k3, fun h => by simp at h⟩
   intro j hj
   simp only [List.mem_cons,List.not_mem_nil,or_false] at hj
   rcases hj with rfl | rfl | rfl | rfl | rfl | rfl | rfl | rfl <;> simp only [B3,Nat.reduceLT,Nat.reduceEqDiff,hlen]
  ·have e1 : decide ((a.toNat : Int) - 48 < 0) = false := decide_eq_false (by omega)
   have e2 : decide (9 < (a.toNat : Int) - 48) = true := decide_eq_true (by omega)
   simp only [sw35,B0,B1,B2,List.replicate,Nat.reduceAdd,Nat.reduceSub,Nat.reduceLeDiff,Nat.reduceLT,Nat.reduceEqDiff,reduceCtorEq,Int.reduceEq,Int.reduceLT,Int.reduceLE,lenA,z_ops,z_nil,z_cons,z_guard,z_some,z_drop,z_do,z_not,z_not0,pairK,forall_eq_or_imp,stays,loadOf,List.reverse_cons,List.reverse_nil,List.mem_cons,List.not_mem_nil,or_false,forall_eq,true_or,or_true,Bool.true_and,intOfA,byteDat,Int.toNat_natCast,hlen,h0,h2,h9,h11,hc,p2,n100,c1,c2,f1,f2,f3,f4,hid,hsub,e1,e2]
   refine ⟨_, _, (((a.toNat : Int) - 48), st.2.1, st.2.2), rfl, by simp only [List.length_set,hlen], ?_, k1, k2, k3, fun h => by simp at h⟩
   intro j hj
   simp only [List.mem_cons,List.not_mem_nil,or_false] at hj
   rcases hj with rfl | rfl | rfl | rfl | rfl | rfl | rfl | rfl <;> simp only [B3,Nat.reduceLT,Nat.reduceEqDiff,hlen]
theorem did_elim {R : Type} {b w : List UInt8} {ir N : Nat} {tm : List AV} {H : Heap} {K : AEx → List AV → Heap → Option R} {o : Option R} {r : St × Nat × Bool} {P : Option R → Prop} (h : Did b w ir N tm H K o r)
  (hP : ∀ tm' H' st', tm'.length = 112 → Regs [0, 1, 2, 3, 8, 9, 10, 11] tm tm' → But2 (N + 2) ir (N + 1) H H' → H'[ir]? = some (objS b r.2.1 r.2.2) → NodeAt 27 (N + 2) (N + 1) w st' H' → (r.2.2 = false → st' = r.1) → P (K .normal tm' H')) : P o := by
 obtain ⟨tm', H', st', rfl, h1, h2, h3, h4, h5, h6⟩ := h
 exact hP tm' H' st' h1 h2 h3 h4 h5 h6
theorem sw35_all (b : List UInt8) (hb : b.length ≤ 2305843009213693952) (ir N : Nat) (hne : ir ≠ N + 1) (w ps : List UInt8) (i : Nat) (c : UInt8) (hc : ps[i]? = some c) (d d' : Int) (hd : IntKind.i64.wrap (d - 1) = d') (rd : Nat → NT × Nat × Bool)
  (p : Nat) (hp : p ≤ b.length) (st : St) (hst : st.2.2.length ≤ 100) (tm : List AV) (H : Heap) (hlen : tm.length = 112) (h0 : tm.getD 0 undefA = .ptr ir 0 0) (h2 : tm.getD 2 undefA = .im (.str ps)) (h3 : tm.getD 3 undefA = .im (.int .i64 d)) (h9 : tm.getD 9 undefA = .ptr (N + 1) 0 0) (h11 : tm.getD 11 undefA = .im (.int .i64 (i : Int)))
  (hir : H[ir]? = some (objS b p false)) (hnd : NodeAt 27 (N + 2) (N + 1) w st H) (hN : N + 2 ≤ H.length) (hirN : ir < N + 2)
  (hcall : isE c = true → ∃ nd, L 18 [.ptr ir 0 0, .im (.int .i64 d')] H = some (.im (.agg (encN nd)), H.set ir (objS b (rd p).2.1 (rd p).2.2)) ∧ ((rd p).2.2 = false → nd = (rd p).1)) {R : Type} (K : AEx → List AV → Heap → Option R) :
  Did b w ir N tm H K (exec0 L Λ sw35 tm H K) (itemX rd b c st p) := by
 by_cases h100 : c = 100
 ·exact sw35_d b hb ir N hne w ps i c hc rd h100 p hp st hst tm H hlen h0 h2 h9 h11 hir hnd hN hirN K
 by_cases h116 : c = 116
 ·exact sw35_t b hb ir N hne w ps i c hc rd h116 p hp st hst tm H hlen h0 h2 h9 h11 hir hnd hN hirN K
 by_cases h110 : c = 110
 ·exact sw35_n b hb ir N hne w ps i c hc rd h110 p hp st hst tm H hlen h0 h2 h9 h11 hir hnd hN hirN K
 have he : isE c = true := by unfold isE; rw [decide_eq_false h100, decide_eq_false h116, decide_eq_false h110]; rfl
 exact sw35_e b hb ir N hne w ps i c hc d d' hd rd he p hp st hst tm H hlen h0 h2 h3 h9 h11 hir hnd hN hirN (hcall he) K
end Go.Abs.Seat
end
section
set_option linter.unusedVariables false
set_option linter.unusedSimpArgs false
namespace Go.Abs.Seat
open Go.Proofs
theorem gath_len {tid : TypeId} {s n : Nat} {v : AV} {H : Heap} {es : List (List Dat)} (h : Gath tid s n v H es) : lenA v = some es.length := by
 rcases h with ⟨rfl, rfl⟩ | ⟨h1, tok, h2, rfl, h4⟩ <;> rfl
theorem tl35_all (b : List UInt8) (hb : b.length ≤ 2305843009213693952) (ir N : Nat) (hne : ir ≠ N + 1) (w ps : List UInt8) (i : Nat) (hi : i ≤ 100) (q : Nat) (hq : q ≤ b.length) (bad : Bool) (st : St) (tm : List AV) (H : Heap) (hlen : tm.length = 112) (h0 : tm.getD 0 undefA = .ptr ir 0 0) (h2 : tm.getD 2 undefA = .im (.str ps)) (h9 : tm.getD 9 undefA = .ptr (N + 1) 0 0) (h11 : tm.getD 11 undefA = .im (.int .i64 (i : Int)))
  (hir : H[ir]? = some (objS b q bad)) (hnd : NodeAt 27 (N + 2) (N + 1) w st H) {R : Type} (K : AEx → List AV → Heap → Option R) :
  ∃ tm' H' q', exec0 L Λ tl35 tm H K = K .normal tm' H' ∧ H' = H.set ir (objS b q' bad) ∧ tm'.length = 112 ∧ Regs [0, 1, 2, 3, 8, 9, 10] tm tm' ∧ tm'.getD 11 undefA = .im (.int .i64 (if (!bad && moreX b (decide (ps = [43])) st q) = true then (i : Int) - 1 else (i : Int))) ∧ (bad = true → q' = q) ∧ (q' = q ∨ q' = skipB b q) := by
 have hirl := (List.getElem?_eq_some_iff.1 hir).1
 have hself : H = H.set ir (objS b q bad) := (set_same hir).symm
 obtain ⟨k, y, v, o1, hty, hG⟩ := hnd
 have hlv := gath_len hG
 rw [List.length_map] at hlv
 have c1 := s19' (b := b) hirl (by omega) hq bad
 rw [← hself] at c1
 have c2 := s29' (b := b) hirl (by omega) (skipB b q) bad
 have hsub : IntKind.i64.wrap ((i : Int) - 1) = (i : Int) - 1 := Go.Abs.Seat.wrap_small _ (by omega)
 have e64 : decide ((st.2.2.length : Int) < 64) = decide (st.2.2.length < 64) := by
  by_cases h : st.2.2.length < 64
  ·rw [decide_eq_true h, decide_eq_true (by omega)]
  ·rw [decide_eq_false h, decide_eq_false (by omega)]
 have e44 : decide (((peekB b (skipB b q)).toNat : Int) = 44) = decide (peekB b (skipB b q) = 44) := byte_eq _ 44
 unfold moreX
 simp only [objS] at hir c1 c2
 rcases Bool.eq_false_or_eq_true (decide (ps = [43])) with e1 | e1
 ·cases bad with
  | true =>
   simp only [Bool.not_true,Bool.false_and,Bool.false_eq_true,if_false]
   simp only [tl35,B0,B1,B2,List.replicate,Nat.reduceAdd,Nat.reduceSub,Nat.reduceLeDiff,Nat.reduceLT,Nat.reduceEqDiff,reduceCtorEq,Int.reduceEq,Int.reduceLT,Int.reduceLE,z_ops,z_nil,z_cons,z_guard,z_some,z_drop,z_do,z_not,z_not0,pairK,forall_eq_or_imp,stays,loadOf,List.reverse_cons,List.reverse_nil,List.mem_cons,List.not_mem_nil,or_false,forall_eq,true_or,or_true,Bool.true_and,hlen,h0,h2,h9,h11,hir,e1]
   refine ⟨_, _, q, rfl, hself, by simp only [List.length_set,hlen], ?_, ?_, fun _ => rfl, .inl rfl⟩
   ·intro j hj
    simp only [List.mem_cons,List.not_mem_nil,or_false] at hj
    rcases hj with rfl | rfl | rfl | rfl | rfl | rfl | rfl <;> simp only [B3,Nat.reduceLT,Nat.reduceEqDiff,hlen]
   ·simp only [B3,Nat.reduceLT,Nat.reduceEqDiff,hlen,h11]
  | false =>
   rcases Bool.eq_false_or_eq_true (decide (st.2.2.length < 64)) with e2 | e2
   ·rcases Bool.eq_false_or_eq_true (decide (peekB b (skipB b q) = 44)) with e3 | e3
    ·simp only [e1,e2,e3,Bool.not_false,Bool.and_self,if_true]
     simp only [tl35,B0,B1,B2,List.replicate,Nat.reduceAdd,Nat.reduceSub,Nat.reduceLeDiff,Nat.reduceLT,Nat.reduceEqDiff,reduceCtorEq,Int.reduceEq,Int.reduceLT,Int.reduceLE,z_ops,z_nil,z_cons,z_guard,z_some,z_drop,z_do,z_not,z_not0,pairK,forall_eq_or_imp,stays,loadOf,List.reverse_cons,List.reverse_nil,List.mem_cons,List.not_mem_nil,or_false,forall_eq,true_or,or_true,Bool.true_and,hlen,h0,h2,h9,h11,hir,o1,hlv,e64,e44,e1,e2,e3,c1,c2,hsub]
     refine ⟨_, _, skipB b q, rfl, rfl, by simp only [List.length_set,hlen], ?_, ?_, fun h => by simp at h, .inr rfl⟩
     ·intro j hj
      simp only [List.mem_cons,List.not_mem_nil,or_false] at hj
      rcases hj with rfl | rfl | rfl | rfl | rfl | rfl | rfl <;> simp only [B3,Nat.reduceLT,Nat.reduceEqDiff,hlen]
     ·simp only [B3,Nat.reduceLT,Nat.reduceEqDiff,hlen,h11]
    ·simp only [e1,e2,e3,Bool.not_false,Bool.and_self,Bool.and_false,Bool.false_eq_true,if_false]
     simp only [tl35,B0,B1,B2,List.replicate,Nat.reduceAdd,Nat.reduceSub,Nat.reduceLeDiff,Nat.reduceLT,Nat.reduceEqDiff,reduceCtorEq,Int.reduceEq,Int.reduceLT,Int.reduceLE,z_ops,z_nil,z_cons,z_guard,z_some,z_drop,z_do,z_not,z_not0,pairK,forall_eq_or_imp,stays,loadOf,List.reverse_cons,List.reverse_nil,List.mem_cons,List.not_mem_nil,or_false,forall_eq,true_or,or_true,Bool.true_and,hlen,h0,h2,h9,h11,hir,o1,hlv,e64,e44,e1,e2,e3,c1,c2,hsub]
     refine ⟨_, _, skipB b q, rfl, rfl, by simp only [List.length_set,hlen], ?_, ?_, fun h => by simp at h, .inr rfl⟩
     ·intro j hj
      simp only [List.mem_cons,List.not_mem_nil,or_false] at hj
      rcases hj with rfl | rfl | rfl | rfl | rfl | rfl | rfl <;> simp only [B3,Nat.reduceLT,Nat.reduceEqDiff,hlen]
     ·simp only [B3,Nat.reduceLT,Nat.reduceEqDiff,hlen,h11]
   ·simp only [e1,e2,Bool.not_false,Bool.and_self,Bool.false_and,Bool.and_false,Bool.false_eq_true,if_false]
    simp only [tl35,B0,B1,B2,List.replicate,Nat.reduceAdd,Nat.reduceSub,Nat.reduceLeDiff,Nat.reduceLT,Nat.reduceEqDiff,reduceCtorEq,Int.reduceEq,Int.reduceLT,Int.reduceLE,z_ops,z_nil,z_cons,z_guard,z_some,z_drop,z_do,z_not,z_not0,pairK,forall_eq_or_imp,stays,loadOf,List.reverse_cons,List.reverse_nil,List.mem_cons,List.not_mem_nil,or_false,forall_eq,true_or,or_true,Bool.true_and,hlen,h0,h2,h9,h11,hir,o1,hlv,e64,e1,e2]
    refine ⟨_, _, q, rfl, hself, by simp only [List.length_set,hlen], ?_, ?_, fun h => rfl, .inl rfl⟩
    ·intro j hj
     simp only [List.mem_cons,List.not_mem_nil,or_false] at hj
     rcases hj with rfl | rfl | rfl | rfl | rfl | rfl | rfl <;> simp only [B3,Nat.reduceLT,Nat.reduceEqDiff,hlen]
    ·simp only [B3,Nat.reduceLT,Nat.reduceEqDiff,hlen,h11]
 ·simp only [e1,Bool.false_and,Bool.and_false,Bool.false_eq_true,if_false]
  simp only [tl35,B0,B1,B2,List.replicate,Nat.reduceAdd,Nat.reduceSub,Nat.reduceLeDiff,Nat.reduceLT,Nat.reduceEqDiff,reduceCtorEq,Int.reduceEq,Int.reduceLT,Int.reduceLE,z_ops,z_nil,z_cons,z_guard,z_some,z_drop,z_do,z_not,z_not0,pairK,forall_eq_or_imp,stays,loadOf,List.reverse_cons,List.reverse_nil,List.mem_cons,List.not_mem_nil,or_false,forall_eq,true_or,or_true,Bool.true_and,hlen,h0,h2,h9,h11,hir,e1]
  refine ⟨_, _, q, rfl, hself, by simp only [List.length_set,hlen], ?_, ?_, fun h => rfl, .inl rfl⟩
  ·intro j hj
   simp only [List.mem_cons,List.not_mem_nil,or_false] at hj
   rcases hj with rfl | rfl | rfl | rfl | rfl | rfl | rfl <;> simp only [B3,Nat.reduceLT,Nat.reduceEqDiff,hlen]
  ·simp only [B3,Nat.reduceLT,Nat.reduceEqDiff,hlen,h11]
theorem tl35_elim {R : Type} {P : Option R → Prop} {b : List UInt8} {ir : Nat} {ps : List UInt8} {i q : Nat} {bad : Bool} {st : St} {tm : List AV} {H : Heap} {K : AEx → List AV → Heap → Option R}
  (h : ∃ tm' H' q', exec0 L Λ tl35 tm H K = K .normal tm' H' ∧ H' = H.set ir (objS b q' bad) ∧ tm'.length = 112 ∧ Regs [0, 1, 2, 3, 8, 9, 10] tm tm' ∧ tm'.getD 11 undefA = .im (.int .i64 (if (!bad && moreX b (decide (ps = [43])) st q) = true then (i : Int) - 1 else (i : Int))) ∧ (bad = true → q' = q) ∧ (q' = q ∨ q' = skipB b q))
  (hP : ∀ tm' q', tm'.length = 112 → Regs [0, 1, 2, 3, 8, 9, 10] tm tm' → tm'.getD 11 undefA = .im (.int .i64 (if (!bad && moreX b (decide (ps = [43])) st q) = true then (i : Int) - 1 else (i : Int))) → (bad = true → q' = q) → (q' = q ∨ q' = skipB b q) → P (K .normal tm' (H.set ir (objS b q' bad)))) : P (exec0 L Λ tl35 tm H K) := by
 obtain ⟨tm', H', q', h1, rfl, h2, h3, h4, h5, h6⟩ := h
 rw [h1]
 exact hP tm' q' h2 h3 h4 h5 h6
theorem But2.refl {n ir id : Nat} {H : Heap} : But2 n ir id H H := ⟨Nat.le_refl _, fun _ _ _ _ => rfl⟩
theorem But2.trans {n ir id : Nat} {A B C : Heap} (h : But2 n ir id A B) (h2 : But2 n ir id B C) : But2 n ir id A C :=
 ⟨Nat.le_trans h.1 h2.1, fun i a b c => (h2.2 i a b c).trans (h.2 i a b c)⟩
theorem But2.set {n ir id : Nat} {A : Heap} (o : HO) : But2 n ir id A (A.set ir o) := ⟨by simp, fun i _ h _ => List.getElem?_set_ne (fun e => h e.symm)⟩
theorem Regs.trans {l : List Nat} {a b c : List AV} (h : Regs l a b) (h2 : Regs l b c) : Regs l a c := fun j hj => (h2 j hj).trans (h j hj)
theorem Regs.sub {l l' : List Nat} {a b : List AV} (h : Regs l a b) (hl : ∀ j ∈ l', j ∈ l) : Regs l' a b := fun j hj => h j (hl j hj)
def Gone (b w : List UInt8) (ir N : Nat) (tm : List AV) (H : Heap) (r : St × Nat × Bool) (e : AEx) (tm' : List AV) (H' : Heap) : Prop :=
 e = .exit 0 ∧ tm'.length = 112 ∧ Regs [0, 1, 2, 3, 8, 9] tm tm' ∧ But2 (N + 2) ir (N + 1) H H' ∧ ∃ q' st', H'[ir]? = some (objS b q' r.2.2) ∧ NodeAt 27 (N + 2) (N + 1) w st' H' ∧ q' ≤ b.length ∧ (r.2.2 = true → q' = r.2.1) ∧ (r.2.2 = false → st' = r.1 ∧ ∀ c, signP b q' false c = signP b r.2.1 false c)
theorem Gone.before {b w : List UInt8} {ir N : Nat} {tm tm0 : List AV} {H H0 : Heap} {r : St × Nat × Bool} {e : AEx} {tm' : List AV} {H' : Heap} (h : Gone b w ir N tm H r e tm' H') (ht : Regs [0, 1, 2, 3, 8, 9] tm0 tm) (hh : But2 (N + 2) ir (N + 1) H0 H) : Gone b w ir N tm0 H0 r e tm' H' :=
 ⟨h.1, h.2.1, ht.trans h.2.2.1, hh.trans h.2.2.2.1, h.2.2.2.2⟩
theorem l35_stop {b w ps : List UInt8} {ir N : Nat} {z : Int} {tm : List AV} {H : Heap} {q : Nat} {st : St} {r : St × Nat × Bool} (hr : r.2 = (q, true)) (hq : q ≤ b.length) (hlen : tm.length = 112) (h0 : tm.getD 0 undefA = .ptr ir 0 0) (h2 : tm.getD 2 undefA = .im (.str ps)) (h11 : tm.getD 11 undefA = .im (.int .i64 z)) (hir : H[ir]? = some (objS b q true)) (hnd : NodeAt 27 (N + 2) (N + 1) w st H) :
  ∃ e tm' H', Λ c35_0 tm H = some (e, tm', H') ∧ Gone b w ir N tm H r e tm' H' := by
 have hir' := hir
 simp only [objS] at hir
 have fin : ∀ tm', tm'.length = 112 → Regs [0, 1, 2, 3, 8, 9] tm tm' → Gone b w ir N tm H r (.exit 0) tm' H := fun tm' h1 h2 => by
  refine ⟨rfl, h1, h2, .refl, q, st, ?_, hnd, hq, fun _ => by rw [hr], fun h => by rw [hr] at h; simp at h⟩
  rw [hr]; exact hir'
 rw [l35_0, cut35]
 rcases Bool.eq_false_or_eq_true (decide (z < (ps.length : Int))) with e1 | e1
 all_goals simp only [T35,B0,B1,B2,List.replicate,Nat.reduceAdd,Nat.reduceSub,Nat.reduceLeDiff,Nat.reduceLT,Nat.reduceEqDiff,reduceCtorEq,Int.reduceEq,Int.reduceLT,Int.reduceLE,lenA,hlen,h0,h2,h11,hir,e1]
 all_goals refine ⟨_, _, _, rfl, fin _ (by simp only [List.length_set,hlen]) ?_⟩
 all_goals
  intro j hj
  simp only [List.mem_cons,List.not_mem_nil,or_false] at hj
  rcases hj with rfl | rfl | rfl | rfl | rfl | rfl <;> simp only [B3,Nat.reduceLT,Nat.reduceEqDiff,hlen]
theorem item_kids (rd : Nat → NT × Nat × Bool) (b : List UInt8) (c : UInt8) (st : St) (p : Nat) : (itemX rd b c st p).1.2.2.length ≤ st.2.2.length + 1 := by
 unfold itemX
 split
 ·split <;> simp
 ·split
  ·simp
  ·split <;> simp
theorem item_kids2 (rd : Nat → NT × Nat × Bool) (b : List UInt8) (c : UInt8) (st : St) (p : Nat) : st.2.2.length ≤ (itemX rd b c st p).1.2.2.length := by
 unfold itemX
 split
 ·split <;> simp
 ·split
  ·simp
  ·split <;> simp
theorem item_kids3 (rd : Nat → NT × Nat × Bool) (b : List UInt8) (c : UInt8) (st : St) (p : Nat) (hc : c = 43) : (itemX rd b c st p).1.2.2.length = st.2.2.length + 1 := by
 unfold itemX
 rw [if_neg (by rw [hc]; decide), if_neg (by rw [hc]; decide), if_neg (by rw [hc]; decide)]
 simp
theorem l35 (b : List UInt8) (hb : b.length ≤ 2305843009213693952) (ir N : Nat) (hirN : ir < N) (w ps : List UInt8) (hps : ps.length ≤ 5) (d d' : Int) (hd : IntKind.i64.wrap (d - 1) = d') (rd : Nat → NT × Nat × Bool) (hrdl : ∀ p, p ≤ b.length → (rd p).2.1 ≤ b.length)
  (hcall : ∀ c ∈ ps, isE c = true → ∀ (p : Nat) (H : Heap), p ≤ b.length → H[ir]? = some (objS b p false) → ∃ nd, L 18 [.ptr ir 0 0, .im (.int .i64 d')] H = some (.im (.agg (encN nd)), H.set ir (objS b (rd p).2.1 (rd p).2.2)) ∧ ((rd p).2.2 = false → nd = (rd p).1)) :
  ∀ (f : Nat) (mark : UInt8) (i : Nat) (cs : List UInt8) (st : St) (p p' : Nat) (tm : List AV) (H : Heap), mark ≠ 0 → ps.drop i = cs → i ≤ ps.length → cs.length + (64 - st.2.2.length) ≤ f → st.2.2.length + cs.length ≤ 69 → p ≤ b.length → p' ≤ b.length → (∀ c, signP b p' false c = signP b p false c) →
   tm.length = 112 → tm.getD 0 undefA = .ptr ir 0 0 → tm.getD 2 undefA = .im (.str ps) → tm.getD 3 undefA = .im (.int .i64 d) → tm.getD 9 undefA = .ptr (N + 1) 0 0 → tm.getD 10 undefA = .im (.int .u8 (mark.toNat : Int)) → tm.getD 11 undefA = .im (.int .i64 (i : Int)) →
   H[ir]? = some (objS b p' false) → NodeAt 27 (N + 2) (N + 1) w st H → N + 2 ≤ H.length →
   ∃ e tm' H', Λ c35_0 tm H = some (e, tm', H') ∧ Gone b w ir N tm H (goX rd b (decide (ps = [43])) f mark cs st p) e tm' H'
 | f, mark, i, [], st, p, p', tm, H, hm, hcs, hi, hf, hk, hp, hp', hpp, hlen, h0, h2, h3, h9, h10, h11, hir, hnd, hN => by
  have hil : ps.length ≤ i := List.drop_eq_nil_iff.1 hcs
  have e1 : decide ((i : Int) < (ps.length : Int)) = false := decide_eq_false (by omega)
  have hgo : goX rd b (decide (ps = [43])) f mark [] st p = (st, p, false) := by cases f <;> rfl
  rw [hgo]
  have hir' := hir
  simp only [objS] at hir
  rw [l35_0, cut35]
  simp only [T35,B0,B1,B2,List.replicate,Nat.reduceAdd,Nat.reduceSub,Nat.reduceLeDiff,Nat.reduceLT,Nat.reduceEqDiff,reduceCtorEq,Int.reduceEq,Int.reduceLT,Int.reduceLE,lenA,hlen,h0,h2,h11,hir,e1]
  refine ⟨_, _, _, rfl, rfl, by simp only [List.length_set,hlen], ?_, .refl, p', st, hir', hnd, hp', fun h => by simp at h, fun _ => ⟨rfl, hpp⟩⟩
  intro j hj
  simp only [List.mem_cons,List.not_mem_nil,or_false] at hj
  rcases hj with rfl | rfl | rfl | rfl | rfl | rfl <;> simp only [B3,Nat.reduceLT,Nat.reduceEqDiff,hlen]
 | 0, mark, i, c :: cs, st, p, p', tm, H, hm, hcs, hi, hf, hk, hp, hp', hpp, hlen, h0, h2, h3, h9, h10, h11, hir, hnd, hN => by simp at hf
 | f + 1, mark, i, c :: cs, st, p, p', tm, H, hm, hcs, hi, hf, hk, hp, hp', hpp, hlen, h0, h2, h3, h9, h10, h11, hir, hnd, hN => by
  have hil : i < ps.length := by
   rcases Nat.lt_or_ge i ps.length with h | h
   ·exact h
   ·rw [List.drop_of_length_le h] at hcs; simp at hcs
  have hci : ps[i]? = some c := by
   have := List.getElem?_drop (xs := ps) (i := i) (j := 0)
   rw [hcs] at this; simpa using this.symm
  have hcs' : ps.drop (i + 1) = cs := by
   rw [← List.drop_drop, hcs]; rfl
  have hcm : c ∈ ps := List.mem_of_getElem? hci
  have hirl := (List.getElem?_eq_some_iff.1 hir).1
  have e1 : decide ((i : Int) < (ps.length : Int)) = true := decide_eq_true (by omega)
  have c1 := s53 b p' ir false mark H hm hir (by omega) hp'
  rw [hpp mark] at c1
  have hsl := sign_len (bad := false) (c := mark) hp hm
  have hir' := hir
  simp only [objS] at hir
  rw [l35_0, cut35]
  generalize hR : goX rd b (decide (ps = [43])) (f + 1) mark (c :: cs) st p = r
  unfold goX at hR
  generalize hsg : signP b p false mark = sg at *
  obtain ⟨q, bad⟩ := sg
  simp only at c1 hsl hR
  cases bad with
  | true =>
   rw [if_pos rfl] at hR
   subst hR
   have hg : (H.set ir (objS b q true))[ir]? = some (objS b q true) := List.getElem?_set_self hirl
   have hg' := hg
   simp only [objS] at hg' c1
   simp only [T35,S35,M35,B35,B0,B1,B2,List.replicate,Nat.reduceAdd,Nat.reduceSub,Nat.reduceLeDiff,Nat.reduceLT,Nat.reduceEqDiff,reduceCtorEq,Int.reduceEq,Int.reduceLT,Int.reduceLE,lenA,hlen,h0,h2,h10,h11,hir,e1,c1,hg']
   refine ⟨_, _, _, rfl, rfl, by simp only [List.length_set,hlen], ?_, .set _, q, st, hg, hnd.set (by omega) hir' _, hsl, fun _ => rfl, fun h => by simp at h⟩
   intro j hj
   simp only [List.mem_cons,List.not_mem_nil,or_false] at hj
   rcases hj with rfl | rfl | rfl | rfl | rfl | rfl <;> simp only [B3,Nat.reduceLT,Nat.reduceEqDiff,hlen]
  | false =>
   rw [if_neg (by simp)] at hR
   have hg : (H.set ir (objS b q false))[ir]? = some (objS b q false) := List.getElem?_set_self hirl
   have hg' := hg
   have hnd1 : NodeAt 27 (N + 2) (N + 1) w st (H.set ir (objS b q false)) := hnd.set (by omega) hir' _
   have hN1 : N + 2 ≤ (H.set ir (objS b q false)).length := by simpa using hN
   have hcl := fun he => hcall c hcm he q _ hsl hg
   have hB1 : But2 (N + 2) ir (N + 1) H (H.set ir (objS b q false)) := .set _
   have hkd := item_kids rd b c st q
   have hkd2 := item_kids2 rd b c st q
   have hkd3 := item_kids3 rd b c st q
   have hil2 := item_len hrdl c st hsl
   have ih := fun st1 q1 q2 i' cs' tm1 H1 h1 h2 h3 h4 => l35 b hb ir N hirN w ps hps d d' hd rd hrdl hcall f 44 i' cs' st1 q1 q2 tm1 H1 (by decide) h1 h2 h3 h4
   generalize H.set ir (objS b q false) = H1 at *
   have hD := fun (tmX : List AV) a1 a2 a3 a4 a5 a6 (K : AEx → List AV → Heap → Option Out) => sw35_all b hb ir N (by omega) w ps i c hci d d' hd rd q hsl st (by simp at hk; omega) tmX H1 a1 a2 a3 a4 a5 a6 hg hnd1 hN1 (by omega) hcl K
   simp only [objS] at hg'
   simp only [T35,S35,M35,B35,B0,B1,B2,List.replicate,Nat.reduceAdd,Nat.reduceSub,Nat.reduceLeDiff,Nat.reduceLT,Nat.reduceEqDiff,reduceCtorEq,Int.reduceEq,Int.reduceLT,Int.reduceLE,lenA,hlen,h0,h2,h10,h11,hir,e1,c1,hg']
   refine did_elim (P := fun o => ∃ e tm' H', o = some (e, tm', H') ∧ Gone b w ir N tm H r e tm' H') (hD _ ?_ ?_ ?_ ?_ ?_ ?_ _) ?_
   iterate 6 simp only [B3,Nat.reduceLT,Nat.reduceEqDiff,hlen,h0,h2,h3,h9,h11]
   intro tm1 H2 st1 l1 r1 b1 i1 n1 q1
   have a0 := r1 0 (by simp)
   have a2 := r1 2 (by simp)
   have a3 := r1 3 (by simp)
   have a9 := r1 9 (by simp)
   have a10 := r1 10 (by simp)
   have a11 := r1 11 (by simp)
   have rr : Regs [0, 1, 2, 3, 8, 9] tm tm1 := fun j hj => by
    refine (r1 j (by simp only [List.mem_cons,List.not_mem_nil,or_false] at hj ⊢; omega)).trans ?_
    simp only [List.mem_cons,List.not_mem_nil,or_false] at hj
    rcases hj with rfl | rfl | rfl | rfl | rfl | rfl <;> simp only [B3,Nat.reduceLT,Nat.reduceEqDiff,hlen]
   simp only [B3,Nat.reduceLT,Nat.reduceEqDiff,hlen,h0] at a0
   simp only [B3,Nat.reduceLT,Nat.reduceEqDiff,hlen,h2] at a2
   simp only [B3,Nat.reduceLT,Nat.reduceEqDiff,hlen,h3] at a3
   simp only [B3,Nat.reduceLT,Nat.reduceEqDiff,hlen,h9] at a9
   simp only [B3,Nat.reduceLT,Nat.reduceEqDiff,hlen] at a10
   simp only [B3,Nat.reduceLT,Nat.reduceEqDiff,hlen,h11] at a11
   clear r1 hD hcl
   generalize itemX rd b c st q = it at *
   obtain ⟨stx, qx, bx⟩ := it
   simp only at hkd hkd2 hkd3 hil2 i1 q1 hR
   have htl := fun (K : AEx → List AV → Heap → Option Out) => tl35_all b hb ir N (by omega) w ps i (by omega) qx hil2 bx st1 tm1 H2 l1 a0 a2 a9 a11 i1 n1 K
   simp only [k_normal]
   refine tl35_elim (P := fun o => ∃ e tm' H', o = some (e, tm', H') ∧ Gone b w ir N tm H r e tm' H') (htl _) ?_
   intro tm2 q2 l2 r2 e11 hq1 hq2
   have i2 : (H2.set ir (objS b q2 bx))[ir]? = some (objS b q2 bx) := List.getElem?_set_self (List.getElem?_eq_some_iff.1 i1).1
   have n2 : NodeAt 27 (N + 2) (N + 1) w st1 (H2.set ir (objS b q2 bx)) := n1.set (by omega) i1 _
   have b2 : But2 (N + 2) ir (N + 1) H (H2.set ir (objS b q2 bx)) := hB1.trans (b1.trans (.set _))
   have rr2 : Regs [0, 1, 2, 3, 8, 9] tm tm2 := rr.trans (r2.sub (by simp))
   have a0 := (r2 0 (by simp)).trans a0
   have a2 := (r2 2 (by simp)).trans a2
   have a3 := (r2 3 (by simp)).trans a3
   have a9 := (r2 9 (by simp)).trans a9
   have a10 := (r2 10 (by simp)).trans a10
   have hN2 := b2.1
   generalize H2.set ir (objS b q2 bx) = H3 at *
   have w1 : IntKind.i64.wrap ((i : Int) - 1 + 1) = (i : Int) := by rw [Go.Abs.Seat.wrap_small _ (by omega)]; omega
   have w2 := wrap_nat (i := i) (by omega)
   have rI : ∀ x y z, Regs [0, 1, 2, 3, 8, 9] tm ((((tm2.set 25 x).set 26 y).set 11 z)) := fun x y z => rr2.trans fun j hj => by
    simp only [List.mem_cons,List.not_mem_nil,or_false] at hj
    rcases hj with rfl | rfl | rfl | rfl | rfl | rfl <;> simp only [B3,Nat.reduceLT,Nat.reduceEqDiff,l2]
   cases bx with
   | true =>
    have hq2' := hq1 rfl
    subst hq2'
    rw [if_pos rfl] at hR
    simp only [Bool.not_true,Bool.false_and,Bool.false_eq_true,if_false] at e11
    simp only [I35,B0,B1,B2,List.replicate,Nat.reduceAdd,Nat.reduceSub,Nat.reduceLeDiff,Nat.reduceLT,Nat.reduceEqDiff,reduceCtorEq,Int.reduceEq,Int.reduceLT,Int.reduceLE,lenA,l2,e11,w2]
    refine ex_imp (l35_stop (z := ((i + 1 : Nat) : Int)) (b := b) (w := w) (ps := ps) (ir := ir) (N := N) (q := q2) (st := st1) (r := r) (by rw [← hR]) hil2 ?_ ?_ ?_ ?_ i2 n2) fun _ _ _ h => h.before (rI _ _ _) b2
    ·simp only [List.length_set,l2]
    all_goals simp only [B3,Nat.reduceLT,Nat.reduceEqDiff,l2,a0,a2]
   | false =>
    rw [if_neg (by simp)] at hR
    have hst1 := q1 rfl
    subst hst1
    have hq2l : q2 ≤ b.length := by
     rcases hq2 with h | h
     ·omega
     ·rw [h]; exact skip_len hil2
    have hqq : ∀ c, signP b q2 false c = signP b qx false c := fun c => by
     rcases hq2 with h | h
     ·rw [h]
     ·rw [h]; exact sign_skip hil2 c
    simp only [Bool.not_false,Bool.true_and] at e11
    have hz : ((44 : UInt8).toNat : Int) = 44 := rfl
    rcases Bool.eq_false_or_eq_true (moreX b (decide (ps = [43])) st1 qx) with hm1 | hm1
    ·rw [hm1, if_pos rfl] at e11
     rw [hm1, if_pos rfl] at hR
     have hlt : st1.2.2.length < 64 := by
      unfold moreX at hm1
      simp only [Bool.and_eq_true,decide_eq_true_eq] at hm1
      exact hm1.2.1
     have hlst : ps = [43] := by
      unfold moreX at hm1
      simp only [Bool.and_eq_true,decide_eq_true_eq] at hm1
      exact hm1.1
     subst hR
     simp only [I35,B0,B1,B2,List.replicate,Nat.reduceAdd,Nat.reduceSub,Nat.reduceLeDiff,Nat.reduceLT,Nat.reduceEqDiff,reduceCtorEq,Int.reduceEq,Int.reduceLT,Int.reduceLE,lenA,l2,e11,w1]
     refine ex_imp (ih st1 qx q2 i (c :: cs) _ H3 hcs hi ?_ ?_ hil2 hq2l hqq ?_ ?_ ?_ ?_ ?_ ?_ ?_ i2 n2 (by omega)) fun _ _ _ h => h.before (rI _ _ _) b2
     ·have := hkd3 (by rw [hlst] at hcm; simpa using hcm)
      simp only [List.length_cons] at hf ⊢; omega
     ·have : (c :: cs).length ≤ 5 := by rw [← hcs, List.length_drop]; omega
      omega
     ·simp only [List.length_set,l2]
     all_goals simp only [B3,Nat.reduceLT,Nat.reduceEqDiff,l2,a0,a2,a3,a9,a10,hz]
    ·rw [hm1, if_neg (by simp)] at e11
     rw [hm1, if_neg (by simp)] at hR
     subst hR
     simp only [I35,B0,B1,B2,List.replicate,Nat.reduceAdd,Nat.reduceSub,Nat.reduceLeDiff,Nat.reduceLT,Nat.reduceEqDiff,reduceCtorEq,Int.reduceEq,Int.reduceLT,Int.reduceLE,lenA,l2,e11,w2]
     refine ex_imp (ih st1 qx q2 (i + 1) cs _ H3 hcs' (by omega) (by simp at hf; omega) (by simp at hk; omega) hil2 hq2l hqq ?_ ?_ ?_ ?_ ?_ ?_ ?_ i2 n2 (by omega)) fun _ _ _ h => h.before (rI _ _ _) b2
     ·simp only [List.length_set,l2]
     all_goals simp only [B3,Nat.reduceLT,Nat.reduceEqDiff,l2,a0,a2,a3,a9,a10,hz]
end Go.Abs.Seat
end
section
set_option linter.unusedVariables false
set_option linter.unusedSimpArgs false
namespace Go.Abs.Seat
open Go.Proofs
def VA (v : AV) (kids : List NT) : Prop := (v = .nils ∧ kids = []) ∨ ∃ tok, v = .asl 6 (kids.map encN) tok ∧ kids ≠ []
theorem gath_va {tid : TypeId} {n : Nat} {v : AV} {H : Heap} {kids : List NT} (h : Gath tid 6 n v H (kids.map encN)) : VA v kids := by
 rcases h with ⟨he, rfl⟩ | ⟨he, tok, _, rfl, _⟩
 ·exact .inl ⟨rfl, by simpa using he⟩
 ·exact .inr ⟨tok, rfl, by simpa using he⟩
theorem node_deg {w : List UInt8} {i k : Int} {y v : AV} {ty : KT} {kids : List NT} (hy : TyA ty k y) (hv : VA v kids) : degrade (.agg [.im (.str w), .im (.int .i64 i), .im (.str []), .im (.int .i64 k), y, v]) = .im (.agg (encN (mkN w i [] ty kids))) := by
 have hv' : toDat v = some (.sl (if kids.length = 0 then 0 else 6) (encNs kids)) := by
  rcases hv with ⟨rfl, rfl⟩ | ⟨tok, rfl, hne⟩
  ·rfl
  ·rw [if_neg (by simpa using hne), encNs_map]; rfl
 rcases hy with ⟨rfl, rfl, rfl⟩ | ⟨s, args, rfl, rfl⟩
 ·simp only [degrade,toDat,toDats,hv',mkN,zeroT,mkT,encN,encTs,List.length_nil,if_true]
 ·simp only [degrade,toDat,toDats,hv',mkN,encN]
theorem endK_35 {H H' : Heap} {tm : List AV} {ir q : Nat} {b w : List UInt8} {i k : Int} {y v : AV} {ty : KT} {kids : List NT} {bad : Bool} (hir : ir < H.length) (h8 : tm.getD 8 undefA = .ptr H.length 0 0) (hN : H'[H.length]? = some (.obj none [[.im (.str w), .im (.int .i64 i), .im (.str []), .im (.int .i64 k), y, v]]))
  (hy : TyA ty k y) (hv : VA v kids) (hb : But H.length ir H H') (ho : H'[ir]? = some (objS b q bad)) : endK f35 H .ret tm H' = some (.im (.agg (encN (mkN w i [] ty kids))), H.set ir (objS b q bad)) := by
 have hd := node_deg (w := w) (i := i) hy hv
 have hfr : f35.results = [(8, some (some 6))] := rfl
 have hfk : f35.keep = false := rfl
 have hr := leave_but (keep := false) (r := .agg [.im (.str w), .im (.int .i64 i), .im (.str []), .im (.int .i64 k), y, v]) hb ho rfl (by simp only [Bool.false_eq_true,if_false,hd,refsLt]) hir
 simp only [Bool.false_eq_true,if_false,hd] at hr
 rcases hy with ⟨rfl, rfl, rfl⟩ | ⟨s, args, rfl, rfl⟩ <;> rcases hv with ⟨rfl, rfl⟩ | ⟨tok, rfl, hne⟩
 all_goals
  simp only [endK,hfr,hfk,B0,B1,B2,List.replicate,Nat.reduceAdd,Nat.reduceSub,Nat.reduceLeDiff,Nat.reduceLT,Nat.reduceEqDiff,reduceCtorEq,Int.reduceEq,Int.reduceLT,Int.reduceLE,lenA,resA,tupA,h8,hN]
  rw [hr]
theorem s35 (b : List UInt8) (hb : b.length ≤ 2305843009213693952) (ir : Nat) (w ps : List UInt8) (hps : ps.length ≤ 5) (d d' : Int) (hd : IntKind.i64.wrap (d - 1) = d') (rd : Nat → NT × Nat × Bool) (hrdl : ∀ p, p ≤ b.length → (rd p).2.1 ≤ b.length)
  (hcall : ∀ c ∈ ps, isE c = true → ∀ (p : Nat) (H : Heap), p ≤ b.length → H[ir]? = some (objS b p false) → ∃ nd, L 18 [.ptr ir 0 0, .im (.int .i64 d')] H = some (.im (.agg (encN nd)), H.set ir (objS b (rd p).2.1 (rd p).2.2)) ∧ ((rd p).2.2 = false → nd = (rd p).1))
  (p : Nat) (hp : p ≤ b.length) (H : Heap) (hir : H[ir]? = some (objS b p false)) :
  ∃ nd, L 35 [.ptr ir 0 0, .im (.str w), .im (.str ps), .im (.int .i64 d)] H = some (.im (.agg (encN nd)), H.set ir (objS b (callX rd b w ps p).2.1 (callX rd b w ps p).2.2)) ∧ ((callX rd b w ps p).2.2 = false → nd = (callX rd b w ps p).1) := by
 have hirl := (List.getElem?_eq_some_iff.1 hir).1
 have key := fun tm1 H1 => l35 b hb ir H.length hirl w ps hps d d' hd rd hrdl hcall 70 40 0 ps (0, zeroT, []) p p tm1 H1 (by decide) rfl (Nat.zero_le _) (by simp; omega) (by simp; omega) hp hp (fun _ => rfl)
 simp only [zc0] at key
 have z40 : ((40 : UInt8).toNat : Int) = 40 := rfl
 rw [z40] at key
 unfold callX
 generalize goX rd b (decide (ps = [43])) 70 40 ps (0, zeroT, []) p = r at *
 rw [leq F35]
 have hK := @endK_35 H
 have hcode : f35.code = f35.code := rfl
 conv at hcode => rhs; simp only [f35]
 rw [hcode]
 clear hcode
 generalize endK f35 H = K at *
 obtain ⟨hlen, ha⟩ := enter_at (f := f35) (args := [.ptr ir 0 0, .im (.str w), .im (.str ps), .im (.int .i64 d)]) (Nat.le_of_ble_eq_true rfl)
 have h0 := ha 0 _ rfl
 have h1 := ha 1 _ rfl
 have h2 := ha 2 _ rfl
 have h3 := ha 3 _ rfl
 generalize enterA f35 [.ptr ir 0 0, .im (.str w), .im (.str ps), .im (.int .i64 d)] = tm at *
 change tm.length = 112 at hlen
 simp only [e35_0,B0,B1,B2,List.replicate,Nat.reduceAdd,Nat.reduceSub,Nat.reduceLeDiff,Nat.reduceLT,Nat.reduceEqDiff,reduceCtorEq,Int.reduceEq,Int.reduceLT,Int.reduceLE,lenA,hlen,h0,h1,h2,h3]
 generalize hr2 : thenL (Λ c35_0 _ _) _ = ro
 refine Exists.elim (thenL_inv hr2 (key _ _ ?_ ?_ ?_ ?_ ?_ ?_ ?_ ?_ ?_ ?_)) ?_
 ·simp only [List.length_set,hlen]
 iterate 6 simp only [B3,Nat.reduceLT,Nat.reduceEqDiff,hlen,h0,h1,h2,h3]
 ·rw [get_app hirl]; exact hir
 ·exact ⟨0, .nils, .nils, by rw [hget]; rfl, .inl ⟨rfl, rfl, rfl⟩, .inl ⟨rfl, rfl⟩⟩
 ·simp
 clear key
 rintro e ⟨tm1, H1, ⟨rfl, l1, r1, b1, q', st', i1, n1, hq', hbad, hgood⟩, rfl⟩
 have a0 := r1 0 (by simp)
 have a8 := r1 8 (by simp)
 have a9 := r1 9 (by simp)
 simp only [B3,Nat.reduceLT,Nat.reduceEqDiff,hlen,h0] at a0
 simp only [B3,Nat.reduceLT,Nat.reduceEqDiff,hlen] at a8
 simp only [B3,Nat.reduceLT,Nat.reduceEqDiff,hlen] at a9
 clear hr2 r1
 have hN0 : H1[H.length]? = some (.obj none [[.im (.str []), .im (.int .i64 0), .im (.str []), .im (.int .i64 0), .nils, .nils]]) := by
  rw [b1.2 H.length (by omega) (by omega) (by omega), hget0]; rfl
 have hB1 : But H.length ir H H1 := ⟨by have := b1.1; simp at this; omega, fun j hj hne => by rw [b1.2 j (by omega) hne (by omega), get_app (by omega)]⟩
 have c5 := s53 b q' ir r.2.2 41 H1 (by decide) i1 (by omega) hq'
 have hsg : (signP b q' r.2.2 41).1 = (if r.2.2 = true then r.2.1 else (signP b r.2.1 false 41).1) ∧ (signP b q' r.2.2 41).2 = (if r.2.2 = true then true else (signP b r.2.1 false 41).2) := by
  rcases Bool.eq_false_or_eq_true r.2.2 with e | e
  ·rw [e, hbad e]; simp [signP]
  ·rw [e, (hgood e).2 41]; simp
 have i2 : (H1.set ir (objS b (signP b q' r.2.2 41).1 (signP b q' r.2.2 41).2))[ir]? = some (objS b (signP b q' r.2.2 41).1 (signP b q' r.2.2 41).2) := List.getElem?_set_self (List.getElem?_eq_some_iff.1 i1).1
 have n2 := n1.set (by omega) i1 (objS b (signP b q' r.2.2 41).1 (signP b q' r.2.2 41).2)
 have hN2 : (H1.set ir (objS b (signP b q' r.2.2 41).1 (signP b q' r.2.2 41).2))[H.length]? = some (.obj none [[.im (.str []), .im (.int .i64 0), .im (.str []), .im (.int .i64 0), .nils, .nils]]) := by
  rw [List.getElem?_set_ne (by omega)]; exact hN0
 have hB2 := hB1.set (objS b (signP b q' r.2.2 41).1 (signP b q' r.2.2 41).2)
 have z41 : ((41 : UInt8).toNat : Int) = 41 := rfl
 rw [z41] at c5
 rw [hsg.1, hsg.2] at c5 i2 n2 hN2 hB2
 generalize hgq : (if r.2.2 = true then r.2.1 else (signP b r.2.1 false 41).1) = qf at *
 generalize hgb : (if r.2.2 = true then true else (signP b r.2.1 false 41).2) = bf at *
 generalize H1.set ir (objS b qf bf) = H2 at *
 obtain ⟨k, y, v, o1, hty, hG⟩ := n2
 have hva := gath_va hG
 have hB3 : ∀ o, But H.length ir H (H2.set H.length o) := fun o => ⟨by have := hB2.1; simpa using this, fun j hj hne => by rw [List.getElem?_set_ne (by omega)]; exact hB2.2 j hj hne⟩
 have hres : ∀ (tm' : List AV), tm'.getD 8 undefA = .ptr H.length 0 0 → K .ret tm' (H2.set H.length (.obj none [[.im (.str w), .im (.int .i64 st'.1), .im (.str []), .im (.int .i64 k), y, v]])) = some (.im (.agg (encN (mkN w st'.1 [] st'.2.1 st'.2.2))), H.set ir (objS b qf bf)) := fun tm' h =>
  hK hirl h (List.getElem?_set_self (List.getElem?_eq_some_iff.1 hN2).1) hty hva (hB3 _) (by rw [List.getElem?_set_ne (by omega)]; exact i2)
 refine ⟨mkN w st'.1 [] st'.2.1 st'.2.2, ?_, ?_⟩
 ·rw [show (if r.2.2 = true then (zeroN, r.2.1, true) else (mkN w r.1.1 [] r.1.2.1 r.1.2.2, (signP b r.2.1 false 41).1, (signP b r.2.1 false 41).2)).2.1 = qf by rw [← hgq]; split <;> rfl,
   show (if r.2.2 = true then (zeroN, r.2.1, true) else (mkN w r.1.1 [] r.1.2.1 r.1.2.2, (signP b r.2.1 false 41).1, (signP b r.2.1 false 41).2)).2.2 = bf by rw [← hgb]; split <;> rfl]
  rcases hty with ⟨hh1, hh2, rfl⟩ | ⟨s, args, hh1, rfl⟩ <;> rcases hva with ⟨rfl, hh3⟩ | ⟨tok, rfl, hh3⟩
  all_goals simp only [B0,B1,B2,List.replicate,Nat.reduceAdd,Nat.reduceSub,Nat.reduceLeDiff,Nat.reduceLT,Nat.reduceEqDiff,reduceCtorEq,Int.reduceEq,Int.reduceLT,Int.reduceLE,lenA,l1,a0,a8,a9,c5,o1,hN2]
  all_goals exact hres _ (by simp only [B3,Nat.reduceLT,Nat.reduceEqDiff,l1,a8])
 ·intro hb2
  have he : r.2.2 = false := by
   rcases Bool.eq_false_or_eq_true r.2.2 with e | e
   ·rw [if_pos e] at hb2; simp at hb2
   ·exact e
  rw [if_neg (by rw [he]; simp), (hgood he).1]
def Exp (b : List UInt8) (ir : Nat) (d : Nat) : Prop := ∀ (p : Nat) (H : Heap), p ≤ b.length → H[ir]? = some (objS b p false) →
 ∃ nd, L 18 [.ptr ir 0 0, .im (.int .i64 (d : Int))] H = some (.im (.agg (encN nd)), H.set ir (objS b (exprX b d p).2.1 (exprX b d p).2.2)) ∧ ((exprX b d p).2.2 = false → nd = (exprX b d p).1)
theorem dig_none {n : Int} (h : digZ n = false) (h2 : letZ n = false) : n < 48 ∨ (57 < n ∧ n < 97) ∨ 122 < n := by
 have := dig_not h
 unfold letZ at h2
 simp only [Bool.and_eq_false_iff,decide_eq_false_iff_not] at h2
 omega
theorem let_range {n : Int} (h : letZ n = true) : 97 ≤ n ∧ n ≤ 122 := by
 unfold letZ at h
 simp only [Bool.and_eq_true,decide_eq_true_eq] at h
 exact h
set_option maxHeartbeats 2000000 in
theorem s18step (b : List UInt8) (hb : b.length ≤ 2305843009213693952) (ir d : Nat) (hd : d < 1000) (hrec : 0 < d → Exp b ir d) : Exp b ir (d + 1) := by
 intro p H hp hir
 have hirl := (List.getElem?_eq_some_iff.1 hir).1
 have hq := skip_len hp
 have c1 : ∀ M, L 19 [.ptr ir 0 0] (H ++ M) = some (.tup [], H.set ir (objS b (skipB b p) false) ++ M) := fun M => by
  rw [s19 b p ir false (H ++ M) (by rw [get_app hirl]; exact hir) (by omega) hp, List.set_append_left _ _ hirl]
 have g1 := hp_get (H := H) hirl
 have g4 := hp_set (H := H) hirl
 have c2 : ∀ q bad M, L 29 [.ptr ir 0 0] (H.set ir (objS b q bad) ++ M) = some (.im (.int .u8 ((peekB b q).toNat : Int)), H.set ir (objS b q bad) ++ M) := fun q bad M => s29 b q ir bad _ (g1 _ _) (by omega)
 have c3 : ∀ q M, q ≤ b.length → L 30 [.ptr ir 0 0] (H.set ir (objS b q false) ++ M) = some (.im (.agg (encN (strP b q).1)), H.set ir (objS b (strP b q).2.1 (strP b q).2.2) ++ M) := fun q M hq => by
  rw [s30 b q ir _ (g1 _ _) (by omega) hq, g4]
 have c4 : ∀ q M, q < b.length → L 31 [.ptr ir 0 0] (H.set ir (objS b q false) ++ M) = some (.im (.agg (encN (numP b q).1)), H.set ir (objS b (numP b q).2.1 (numP b q).2.2) ++ M) := fun q M hq => by
  rw [s31 b q ir _ (g1 _ _) (by omega) hq, g4]
 have c5 : ∀ q M, q ≤ b.length → L 32 [.ptr ir 0 0] (H.set ir (objS b q false) ++ M) = some (.im (.str (wordB b q)), H.set ir (objS b (runB b q) false) ++ M) := fun q M hq => by
  rw [s32 b q ir false _ (g1 _ _) (by omega) hq, g4]
 have hlv : ∀ (q : Nat) (bd : Bool) (M : Heap) (op txt : List UInt8) (i k : Int) (s s2 : Nat) (args : List KT) (kids : List NT), leave H false (.im (.agg [.str op, .int .i64 i, .str txt, .int .i64 k, .sl s (encTs args), .sl s2 (encNs kids)])) (H.set ir (objS b q bd) ++ M) = (.im (.agg [.str op, .int .i64 i, .str txt, .int .i64 k, .sl s (encTs args), .sl s2 (encNs kids)]), H.set ir (objS b q bd)) := fun q bd M op txt i k s s2 args kids => leave_SM hir (by simp [degrade, toDat]) (by simp [refsLt])
 have hlz := leave_N hir
 rw [leq F18]
 obtain ⟨hlen, ha⟩ := enter_at (f := f18) (args := [.ptr ir 0 0, .im (.int .i64 ((d : Int) + 1))]) (Nat.le_of_ble_eq_true rfl)
 have h0 := ha 0 _ rfl
 have h1 := ha 1 _ rfl
 have zd : (((d + 1 : Nat) : Nat) : Int) = (d : Int) + 1 := by omega
 rw [zd]
 generalize enterA f18 [.ptr ir 0 0, .im (.int .i64 ((d : Int) + 1))] = tm at *
 change tm.length = 104 at hlen
 unfold exprX
 have hcq := c2 (skipB b p) false
 have hpl := peek_lt (b := b) (p := skipB b p)
 generalize hc : peekB b (skipB b p) = c at *
 generalize skipB b p = q at *
 have b34 := byte_eq c 34
 have b45 := byte_eq c 45
 change decide ((c.toNat : Int) = 34) = _ at b34
 change decide ((c.toNat : Int) = 45) = _ at b45
 have hwr := wrap_nat (i := q) (by omega)
 by_cases k34 : c = 34
 ·rw [if_pos k34]
  have e1 : decide ((c.toNat : Int) = 34) = true := b34.trans (decide_eq_true k34)
  have hq1 : q < b.length := hpl (by rw [k34]; decide)
  have c3' := c3 (q + 1) [zO] (by omega)
  generalize strP b (q + 1) = r at *
  obtain ⟨nd, qr, bad⟩ := r
  obtain ⟨op, ni, txt, ty, ns, kids⟩ := nd
  obtain ⟨tk, ts, targs⟩ := ty
  simp only [encN] at c3'
  refine ⟨.mk op ni txt (.mk tk ts targs) ns kids, ?_, fun _ => rfl⟩
  simp only [objS,zO] at *
  simp only [f18,B0,B1,B2,List.replicate,Nat.reduceAdd,Nat.reduceSub,Nat.reduceLeDiff,Nat.reduceLT,Nat.reduceEqDiff,reduceCtorEq,Int.reduceEq,Int.reduceLT,Int.reduceLE,lenA,endK,resA,tupA,hlen,h0,h1,c1,hcq,g1,g4,e1,hwr,c3',hq_get0,hq_set0,encN,hlv]
 rw [if_neg k34]
 have e1 : decide ((c.toNat : Int) = 34) = false := b34.trans (decide_eq_false k34)
 rcases Bool.eq_false_or_eq_true (decide (c = 45)) with k45 | k45
 ·rw [k45, Bool.true_or, if_pos rfl]
  rw [k45] at b45
  have hq1 : q < b.length := hpl (by rw [of_decide_eq_true k45]; decide)
  have c4' := c4 q [zO] hq1
  generalize numP b q = r at *
  obtain ⟨nd, qr, bad⟩ := r
  obtain ⟨op, ni, txt, ty, ns, kids⟩ := nd
  obtain ⟨tk, ts, targs⟩ := ty
  simp only [encN] at c4'
  refine ⟨.mk op ni txt (.mk tk ts targs) ns kids, ?_, fun _ => rfl⟩
  simp only [objS,zO] at *
  simp only [f18,B0,B1,B2,List.replicate,Nat.reduceAdd,Nat.reduceSub,Nat.reduceLeDiff,Nat.reduceLT,Nat.reduceEqDiff,reduceCtorEq,Int.reduceEq,Int.reduceLT,Int.reduceLE,lenA,endK,resA,tupA,hlen,h0,h1,c1,hcq,g1,g4,e1,b45,c4',hq_get0,hq_set0,encN,hlv]
 rw [k45] at b45
 rcases Bool.eq_false_or_eq_true (digZ (c.toNat : Int)) with kd | kd
 ·have hr := dig_range kd
  have e2 : decide ((48 : Int) ≤ (c.toNat : Int)) = true := decide_eq_true hr.1
  have e3 : decide ((c.toNat : Int) ≤ 57) = true := decide_eq_true hr.2
  rw [k45, kd, Bool.false_or, if_pos rfl]
  have hq1 : q < b.length := hpl (fun e => by rw [e, dig0] at kd; simp at kd)
  have c4' := c4 q [zO] hq1
  generalize numP b q = r at *
  obtain ⟨nd, qr, bad⟩ := r
  obtain ⟨op, ni, txt, ty, ns, kids⟩ := nd
  obtain ⟨tk, ts, targs⟩ := ty
  simp only [encN] at c4'
  refine ⟨.mk op ni txt (.mk tk ts targs) ns kids, ?_, fun _ => rfl⟩
  simp only [objS,zO] at *
  simp only [f18,B0,B1,B2,List.replicate,Nat.reduceAdd,Nat.reduceSub,Nat.reduceLeDiff,Nat.reduceLT,Nat.reduceEqDiff,reduceCtorEq,Int.reduceEq,Int.reduceLT,Int.reduceLE,lenA,endK,resA,tupA,hlen,h0,h1,c1,hcq,g1,g4,e1,b45,e2,e3,c4',hq_get0,hq_set0,encN,hlv]
 rw [k45, kd, Bool.false_or, if_neg (by simp)]
 rcases Bool.eq_false_or_eq_true (letZ (c.toNat : Int)) with kl | kl
 ·rw [if_neg (by rw [kl]; simp)]
  have hr := let_range kl
  have e2 : decide ((48 : Int) ≤ (c.toNat : Int)) = true := decide_eq_true (by omega)
  have e3 : decide ((c.toNat : Int) ≤ 57) = false := decide_eq_false (by omega)
  have e4 : decide ((c.toNat : Int) < 97) = false := decide_eq_false (by omega)
  have e5 : decide (122 < (c.toNat : Int)) = false := decide_eq_false (by omega)
  have hq1 : q < b.length := hpl (fun e => by rw [e, let0] at kl; simp at kl)
  have hwl := wordB_len (b := b) (p := q) (by omega)
  have hrl := run_len (b := b) (p := q) (by omega)
  have c5' := c5 q [zO] (by omega)
  have c6 := fun H => s33 (wordB b q) H
  have c7 := c2 (runB b q) false
  have c8 := fun H => s34 ((peekB b (runB b q)).toNat : Int) H
  have hcall : ∀ ps, okPs ps = true → ¬ (d = 0 ∧ ps ≠ [100] ∧ ps ≠ [116]) → ∃ nd, L 35 [.ptr ir 0 0, .im (.str (wordB b q)), .im (.str ps), .im (.int .i64 ((d : Int) + 1))] (H.set ir (objS b (runB b q) false) ++ [zO]) = some (.im (.agg (encN nd)), H.set ir (objS b (callX (exprX b d) b (wordB b q) ps (runB b q)).2.1 (callX (exprX b d) b (wordB b q) ps (runB b q)).2.2) ++ [zO]) ∧ ((callX (exprX b d) b (wordB b q) ps (runB b q)).2.2 = false → nd = (callX (exprX b d) b (wordB b q) ps (runB b q)).1) := fun ps hok hnd => by
   have hpl5 : ps.length ≤ 5 := by
    unfold okPs at hok
    simp only [Bool.and_eq_true,decide_eq_true_eq] at hok
    exact hok.1.1.1
   have := s35 b hb ir (wordB b q) ps hpl5 ((d : Int) + 1) (d : Int) (by rw [show (d : Int) + 1 - 1 = d by omega]; exact Go.Abs.Seat.wrap_small _ (by omega)) (exprX b d) (fun p h => expr_len b d p h) (fun c hc he p H hp hir => by
    by_cases hd0 : d = 0
    ·exfalso
     have : ps = [100] ∨ ps = [116] := by
      by_cases h1 : ps = [100]
      ·exact .inl h1
      ·exact .inr (Classical.byContradiction fun h2 => hnd ⟨hd0, h1, h2⟩)
     rcases this with h | h
     ·rw [h] at hc; simp at hc; rw [hc] at he; exact absurd he (by decide)
     ·rw [h] at hc; simp at hc; rw [hc] at he; exact absurd he (by decide)
    ·exact hrec (by omega) p H hp hir) (runB b q) hrl (H.set ir (objS b (runB b q) false) ++ [zO]) (g1 _ _)
   simpa only [g4] using this
  unfold longB
  generalize wordB b q = w at *
  generalize runB b q = e at *
  have e16 : decide ((w.length : Int) = 16) = decide (e - q = 16) := by
   rw [hwl]
   by_cases h : e - q = 16
   ·rw [decide_eq_true h, decide_eq_true (by omega)]
   ·rw [decide_eq_false h, decide_eq_false (by omega)]
  rcases Bool.eq_false_or_eq_true (decide (e - q = 16)) with l16 | l16
  ·rw [l16] at e16
   rw [l16, Bool.true_and]
   rcases Bool.eq_false_or_eq_true (namZ ((peekB b e).toNat : Int)) with nm | nm
   ·rw [nm] at c8
    rw [nm, if_pos rfl]
    refine ⟨zeroN, ?_, fun _ => rfl⟩
    simp only [zeroN,enc_flat]
    simp only [objS,zO] at *
    simp only [f18,B0,B1,B2,List.replicate,Nat.reduceAdd,Nat.reduceSub,Nat.reduceLeDiff,Nat.reduceLT,Nat.reduceEqDiff,reduceCtorEq,Int.reduceEq,Int.reduceLT,Int.reduceLE,lenA,endK,resA,tupA,hlen,h0,h1,c1,hcq,g1,g4,e1,b45,e2,e3,e4,e5,c5',c6,c7,c8,e16,hq_get0,hq_set0,hlz]
   ·rw [nm] at c8
    rw [nm, if_neg (by simp)]
    cases hs : shapeT w with
    | none =>
     rw [hs] at c6
     simp only [Option.getD_none,Option.isSome_none] at c6
     refine ⟨mkN nameW 0 w zeroT [], ?_, fun _ => rfl⟩
     simp only [enc_flat,nameW]
     simp only [objS,zO] at *
     simp only [f18,B0,B1,B2,List.replicate,Nat.reduceAdd,Nat.reduceSub,Nat.reduceLeDiff,Nat.reduceLT,Nat.reduceEqDiff,reduceCtorEq,Int.reduceEq,Int.reduceLT,Int.reduceLE,lenA,endK,resA,tupA,hlen,h0,h1,c1,hcq,g1,g4,e1,b45,e2,e3,e4,e5,c5',c6,c7,c8,e16,hq_get0,hq_set0,hlz]
    | some ps =>
     rw [hs] at c6
     simp only [Option.getD_some,Option.isSome_some] at c6 ⊢
     have hok := shape_ok hs
     by_cases hps : ps = []
     ·rw [if_pos hps]
      have p0 : decide (ps = []) = true := decide_eq_true hps
      refine ⟨mkN w 0 [] zeroT [], ?_, fun _ => rfl⟩
      simp only [enc_flat]
      simp only [objS,zO] at *
      simp only [f18,B0,B1,B2,List.replicate,Nat.reduceAdd,Nat.reduceSub,Nat.reduceLeDiff,Nat.reduceLT,Nat.reduceEqDiff,reduceCtorEq,Int.reduceEq,Int.reduceLT,Int.reduceLE,lenA,endK,resA,tupA,hlen,h0,h1,c1,hcq,g1,g4,e1,b45,e2,e3,e4,e5,c5',c6,c7,c8,e16,p0,hq_get0,hq_set0,hlz]
     ·rw [if_neg hps]
      have p0 : decide (ps = []) = false := decide_eq_false hps
      by_cases hdf : d = 0 ∧ ps ≠ [100] ∧ ps ≠ [116]
      ·rw [if_pos hdf]
       have e6' : decide ((d : Int) + 1 = 1) = true := decide_eq_true (by omega)
       have p1 : decide (ps = [100]) = false := decide_eq_false hdf.2.1
       have p2 : decide (ps = [116]) = false := decide_eq_false hdf.2.2
       refine ⟨zeroN, ?_, fun _ => rfl⟩
       simp only [zeroN,enc_flat]
       simp only [objS,zO] at *
       simp only [f18,B0,B1,B2,List.replicate,Nat.reduceAdd,Nat.reduceSub,Nat.reduceLeDiff,Nat.reduceLT,Nat.reduceEqDiff,reduceCtorEq,Int.reduceEq,Int.reduceLT,Int.reduceLE,lenA,endK,resA,tupA,hlen,h0,h1,c1,hcq,g1,g4,e1,b45,e2,e3,e4,e5,c5',c6,c7,c8,e16,p0,p1,p2,e6',hq_get0,hq_set0,hlz]
      ·rw [if_neg hdf]
       obtain ⟨nd, hcl, hnn⟩ := hcall ps hok hdf
       refine ⟨nd, ?_, hnn⟩
       clear hnn
       generalize callX (exprX b d) b w ps e = r at *
       obtain ⟨nr, qr, bad⟩ := r
       obtain ⟨op, ni, txt, ty, ns, kids⟩ := nd
       obtain ⟨tk, ts, targs⟩ := ty
       simp only [encN] at hcl
       simp only [objS,zO] at *
       by_cases hd0 : d = 0
       ·have e6' : decide ((d : Int) + 1 = 1) = true := decide_eq_true (by omega)
        by_cases h100 : ps = [100]
        ·have p1 : decide (ps = [100]) = true := decide_eq_true h100
         simp only [f18,B0,B1,B2,List.replicate,Nat.reduceAdd,Nat.reduceSub,Nat.reduceLeDiff,Nat.reduceLT,Nat.reduceEqDiff,reduceCtorEq,Int.reduceEq,Int.reduceLT,Int.reduceLE,lenA,endK,resA,tupA,hlen,h0,h1,c1,hcq,g1,g4,e1,b45,e2,e3,e4,e5,c5',c6,c7,c8,e16,p0,p1,e6',hcl,hq_get0,hq_set0,encN,hlv]
        ·have p1 : decide (ps = [100]) = false := decide_eq_false h100
         have p2 : decide (ps = [116]) = true := decide_eq_true (Classical.byContradiction fun h => hdf ⟨hd0, h100, h⟩)
         simp only [f18,B0,B1,B2,List.replicate,Nat.reduceAdd,Nat.reduceSub,Nat.reduceLeDiff,Nat.reduceLT,Nat.reduceEqDiff,reduceCtorEq,Int.reduceEq,Int.reduceLT,Int.reduceLE,lenA,endK,resA,tupA,hlen,h0,h1,c1,hcq,g1,g4,e1,b45,e2,e3,e4,e5,c5',c6,c7,c8,e16,p0,p1,p2,e6',hcl,hq_get0,hq_set0,encN,hlv]
       ·have e6' : decide ((d : Int) + 1 = 1) = false := decide_eq_false (by omega)
        simp only [f18,B0,B1,B2,List.replicate,Nat.reduceAdd,Nat.reduceSub,Nat.reduceLeDiff,Nat.reduceLT,Nat.reduceEqDiff,reduceCtorEq,Int.reduceEq,Int.reduceLT,Int.reduceLE,lenA,endK,resA,tupA,hlen,h0,h1,c1,hcq,g1,g4,e1,b45,e2,e3,e4,e5,c5',c6,c7,c8,e16,p0,e6',hcl,hq_get0,hq_set0,encN,hlv]
  ·rw [l16] at e16
   rw [l16, Bool.false_and, if_neg (by simp)]
   cases hs : shapeT w with
   | none =>
    rw [hs] at c6
    simp only [Option.getD_none,Option.isSome_none] at c6
    refine ⟨mkN nameW 0 w zeroT [], ?_, fun _ => rfl⟩
    simp only [enc_flat,nameW]
    simp only [objS,zO] at *
    simp only [f18,B0,B1,B2,List.replicate,Nat.reduceAdd,Nat.reduceSub,Nat.reduceLeDiff,Nat.reduceLT,Nat.reduceEqDiff,reduceCtorEq,Int.reduceEq,Int.reduceLT,Int.reduceLE,lenA,endK,resA,tupA,hlen,h0,h1,c1,hcq,g1,g4,e1,b45,e2,e3,e4,e5,c5',c6,c7,c8,e16,hq_get0,hq_set0,hlz]
   | some ps =>
    rw [hs] at c6
    simp only [Option.getD_some,Option.isSome_some] at c6 ⊢
    have hok := shape_ok hs
    by_cases hps : ps = []
    ·rw [if_pos hps]
     have p0 : decide (ps = []) = true := decide_eq_true hps
     refine ⟨mkN w 0 [] zeroT [], ?_, fun _ => rfl⟩
     simp only [enc_flat]
     simp only [objS,zO] at *
     simp only [f18,B0,B1,B2,List.replicate,Nat.reduceAdd,Nat.reduceSub,Nat.reduceLeDiff,Nat.reduceLT,Nat.reduceEqDiff,reduceCtorEq,Int.reduceEq,Int.reduceLT,Int.reduceLE,lenA,endK,resA,tupA,hlen,h0,h1,c1,hcq,g1,g4,e1,b45,e2,e3,e4,e5,c5',c6,c7,c8,e16,p0,hq_get0,hq_set0,hlz]
    ·rw [if_neg hps]
     have p0 : decide (ps = []) = false := decide_eq_false hps
     by_cases hdf : d = 0 ∧ ps ≠ [100] ∧ ps ≠ [116]
     ·rw [if_pos hdf]
      have e6' : decide ((d : Int) + 1 = 1) = true := decide_eq_true (by omega)
      have p1 : decide (ps = [100]) = false := decide_eq_false hdf.2.1
      have p2 : decide (ps = [116]) = false := decide_eq_false hdf.2.2
      refine ⟨zeroN, ?_, fun _ => rfl⟩
      simp only [zeroN,enc_flat]
      simp only [objS,zO] at *
      simp only [f18,B0,B1,B2,List.replicate,Nat.reduceAdd,Nat.reduceSub,Nat.reduceLeDiff,Nat.reduceLT,Nat.reduceEqDiff,reduceCtorEq,Int.reduceEq,Int.reduceLT,Int.reduceLE,lenA,endK,resA,tupA,hlen,h0,h1,c1,hcq,g1,g4,e1,b45,e2,e3,e4,e5,c5',c6,c7,c8,e16,p0,p1,p2,e6',hq_get0,hq_set0,hlz]
     ·rw [if_neg hdf]
      obtain ⟨nd, hcl, hnn⟩ := hcall ps hok hdf
      refine ⟨nd, ?_, hnn⟩
      clear hnn
      generalize callX (exprX b d) b w ps e = r at *
      obtain ⟨nr, qr, bad⟩ := r
      obtain ⟨op, ni, txt, ty, ns, kids⟩ := nd
      obtain ⟨tk, ts, targs⟩ := ty
      simp only [encN] at hcl
      simp only [objS,zO] at *
      by_cases hd0 : d = 0
      ·have e6' : decide ((d : Int) + 1 = 1) = true := decide_eq_true (by omega)
       by_cases h100 : ps = [100]
       ·have p1 : decide (ps = [100]) = true := decide_eq_true h100
        simp only [f18,B0,B1,B2,List.replicate,Nat.reduceAdd,Nat.reduceSub,Nat.reduceLeDiff,Nat.reduceLT,Nat.reduceEqDiff,reduceCtorEq,Int.reduceEq,Int.reduceLT,Int.reduceLE,lenA,endK,resA,tupA,hlen,h0,h1,c1,hcq,g1,g4,e1,b45,e2,e3,e4,e5,c5',c6,c7,c8,e16,p0,p1,e6',hcl,hq_get0,hq_set0,encN,hlv]
       ·have p1 : decide (ps = [100]) = false := decide_eq_false h100
        have p2 : decide (ps = [116]) = true := decide_eq_true (Classical.byContradiction fun h => hdf ⟨hd0, h100, h⟩)
        simp only [f18,B0,B1,B2,List.replicate,Nat.reduceAdd,Nat.reduceSub,Nat.reduceLeDiff,Nat.reduceLT,Nat.reduceEqDiff,reduceCtorEq,Int.reduceEq,Int.reduceLT,Int.reduceLE,lenA,endK,resA,tupA,hlen,h0,h1,c1,hcq,g1,g4,e1,b45,e2,e3,e4,e5,c5',c6,c7,c8,e16,p0,p1,p2,e6',hcl,hq_get0,hq_set0,encN,hlv]
      ·have e6' : decide ((d : Int) + 1 = 1) = false := decide_eq_false (by omega)
       simp only [f18,B0,B1,B2,List.replicate,Nat.reduceAdd,Nat.reduceSub,Nat.reduceLeDiff,Nat.reduceLT,Nat.reduceEqDiff,reduceCtorEq,Int.reduceEq,Int.reduceLT,Int.reduceLE,lenA,endK,resA,tupA,hlen,h0,h1,c1,hcq,g1,g4,e1,b45,e2,e3,e4,e5,c5',c6,c7,c8,e16,p0,e6',hcl,hq_get0,hq_set0,encN,hlv]
 ·rw [if_pos kl]
  refine ⟨zeroN, ?_, fun _ => rfl⟩
  simp only [zeroN,enc_flat]
  simp only [objS,zO] at *
  rcases dig_none kd kl with hn | ⟨hn, hn2⟩ | hn
  ·have e2 : decide ((48 : Int) ≤ (c.toNat : Int)) = false := decide_eq_false (by omega)
   have e4 : decide ((c.toNat : Int) < 97) = true := decide_eq_true (by omega)
   simp only [f18,B0,B1,B2,List.replicate,Nat.reduceAdd,Nat.reduceSub,Nat.reduceLeDiff,Nat.reduceLT,Nat.reduceEqDiff,reduceCtorEq,Int.reduceEq,Int.reduceLT,Int.reduceLE,lenA,endK,resA,tupA,hlen,h0,h1,c1,hcq,g1,g4,e1,b45,e2,e4,hq_get0,hq_set0,hlz]
  ·have e2 : decide ((48 : Int) ≤ (c.toNat : Int)) = true := decide_eq_true (by omega)
   have e3 : decide ((c.toNat : Int) ≤ 57) = false := decide_eq_false (by omega)
   have e4 : decide ((c.toNat : Int) < 97) = true := decide_eq_true (by omega)
   simp only [f18,B0,B1,B2,List.replicate,Nat.reduceAdd,Nat.reduceSub,Nat.reduceLeDiff,Nat.reduceLT,Nat.reduceEqDiff,reduceCtorEq,Int.reduceEq,Int.reduceLT,Int.reduceLE,lenA,endK,resA,tupA,hlen,h0,h1,c1,hcq,g1,g4,e1,b45,e2,e3,e4,hq_get0,hq_set0,hlz]
  ·have e2 : decide ((48 : Int) ≤ (c.toNat : Int)) = true := decide_eq_true (by omega)
   have e3 : decide ((c.toNat : Int) ≤ 57) = false := decide_eq_false (by omega)
   have e4 : decide ((c.toNat : Int) < 97) = false := decide_eq_false (by omega)
   have e5 : decide (122 < (c.toNat : Int)) = true := decide_eq_true (by omega)
   simp only [f18,B0,B1,B2,List.replicate,Nat.reduceAdd,Nat.reduceSub,Nat.reduceLeDiff,Nat.reduceLT,Nat.reduceEqDiff,reduceCtorEq,Int.reduceEq,Int.reduceLT,Int.reduceLE,lenA,endK,resA,tupA,hlen,h0,h1,c1,hcq,g1,g4,e1,b45,e2,e3,e4,e5,hq_get0,hq_set0,hlz]
theorem s18 (b : List UInt8) (hb : b.length ≤ 2305843009213693952) (ir : Nat) : ∀ d, d < 1000 → Exp b ir (d + 1)
 | 0, _ => s18step b hb ir 0 (by omega) (fun h => absurd h (by omega))
 | d + 1, h => s18step b hb ir (d + 1) (by omega) (fun _ => s18 b hb ir d (by omega))
end Go.Abs.Seat
end
section
set_option linter.unusedVariables false
set_option linter.unusedSimpArgs false
namespace Go.Abs.Seat
open Go.Proofs
def readX (s : List UInt8) : NT × Nat × Bool :=
 if (exprX s 24 0).2.2 = true then (zeroN, (exprX s 24 0).2.1, true)
 else if skipB s (exprX s 24 0).2.1 < s.length then (zeroN, skipB s (exprX s 24 0).2.1, true) else ((exprX s 24 0).1, 0, false)
def parseX (s : List UInt8) : NT × Nat × Int :=
 if 4096 < s.length then (zeroN, 0, 42) else ((readX s).1, (readX s).2.1, if (readX s).2.2 = true then 40 else 0)
theorem s9 (s : List UInt8) (H : Heap) : L 9 [.im (.str s)] H = some (.tup [.im (.agg (encN (parseX s).1)), .im (.int .i64 ((parseX s).2.1 : Int)), .im (.int .i64 (parseX s).2.2)], H) := by
 have hlz : ∀ (M : Heap) (a b : Int), leave H false (.tup [.agg [.im (.str []), .im (.int .i64 0), .im (.str []), .im (.int .i64 0), .nils, .nils], .im (.int .i64 a), .im (.int .i64 b)]) (H ++ M) = (.tup [.im (.agg (encN zeroN)), .im (.int .i64 a), .im (.int .i64 b)], H) := fun M a b => leave_deg (by simp [degrade, degrade1, toDat, toDats, zeroN, mkN, zeroT, mkT, encN, encTs, encNs]) (by simp [refsLt, refsLts])
 have hlv : ∀ (M : Heap) (op txt : List UInt8) (i k : Int) (s s2 : Nat) (args : List KT) (kids : List NT) (a b : Int), leave H false (.tup [.im (.agg [.str op, .int .i64 i, .str txt, .int .i64 k, .sl s (encTs args), .sl s2 (encNs kids)]), .im (.int .i64 a), .im (.int .i64 b)]) (H ++ M) = (.tup [.im (.agg [.str op, .int .i64 i, .str txt, .int .i64 k, .sl s (encTs args), .sl s2 (encNs kids)]), .im (.int .i64 a), .im (.int .i64 b)], H) := fun M op txt i k s s2 args kids a b => leave_deg (by simp [degrade, degrade1, toDat]) (by simp [refsLt, refsLts])
 rw [leq F9]
 obtain ⟨hlen, ha⟩ := enter_at (f := f9) (args := [.im (.str s)]) (Nat.le_of_ble_eq_true rfl)
 have h0 := ha 0 _ rfl
 generalize enterA f9 [.im (.str s)] = tm at *
 change tm.length = 41 at hlen
 unfold parseX
 by_cases hl : 4096 < s.length
 ·have e1 : decide (4096 < (s.length : Int)) = true := decide_eq_true (by omega)
  rw [if_pos hl]
  simp only [f9,B0,B1,B2,List.replicate,Nat.reduceAdd,Nat.reduceSub,Nat.reduceLeDiff,Nat.reduceLT,Nat.reduceEqDiff,reduceCtorEq,Int.reduceEq,Int.reduceLT,Int.reduceLE,lenA,endK,resA,tupA,hlen,h0,e1,hlz,zc0]
 ·have e1 : decide (4096 < (s.length : Int)) = false := decide_eq_false (by omega)
  rw [if_neg hl]
  have c1 := s18 s (by omega) (H.length + 1) 23 (by decide) 0 (H ++ [zO, objS s 0 false]) (Nat.zero_le _) (by rw [hget]; rfl)
  obtain ⟨nd, c1, hnn⟩ := c1
  rw [hset, show (((23 + 1 : Nat) : Nat) : Int) = 24 from rfl] at c1
  simp only [List.set_cons_succ,List.set_cons_zero,Nat.reduceAdd] at c1
  have hq := expr_len s 24 0 (Nat.zero_le _)
  have hq2 := skip_len hq
  have c2 := fun (o : HO) => s19 s (exprX s 24 0).2.1 (H.length + 1) false (H ++ [o, objS s (exprX s 24 0).2.1 false]) (by rw [hget]; rfl) (by omega) hq
  simp only [hset,List.set_cons_succ,List.set_cons_zero] at c2
  unfold readX
  generalize exprX s 24 0 = r at *
  obtain ⟨nr, q, bad⟩ := r
  simp only at c1 c2 hnn hq hq2 ⊢
  obtain ⟨op, ni, txt, ty, ns, kids⟩ := nd
  obtain ⟨tk, ts, targs⟩ := ty
  simp only [encN,objS,zc0] at c1
  cases bad with
  | true =>
   simp only [if_true]
   simp only [objS,zO] at *
   simp only [f9,B0,B1,B2,List.replicate,Nat.reduceAdd,Nat.reduceSub,Nat.reduceLeDiff,Nat.reduceLT,Nat.reduceEqDiff,reduceCtorEq,Int.reduceEq,Int.reduceLT,Int.reduceLE,lenA,z_ops,z_nil,z_cons,z_guard,z_some,z_drop,z_do,z_not,z_not0,pairK,forall_eq_or_imp,stays,loadOf,List.reverse_cons,List.reverse_nil,List.mem_cons,List.not_mem_nil,or_false,forall_eq,true_or,or_true,Bool.true_and,endK,resA,tupA,hlen,h0,e1,c1,hlz,zc0]
  | false =>
   rw [← hnn rfl]
   simp only [Bool.false_eq_true,if_false]
   by_cases hlt : skipB s q < s.length
   ·have e2 : decide (((skipB s q : Nat) : Int) < (s.length : Int)) = true := decide_eq_true (by omega)
    simp only [if_pos hlt,if_true]
    simp only [objS,zO] at *
    simp only [f9,B0,B1,B2,List.replicate,Nat.reduceAdd,Nat.reduceSub,Nat.reduceLeDiff,Nat.reduceLT,Nat.reduceEqDiff,reduceCtorEq,Int.reduceEq,Int.reduceLT,Int.reduceLE,lenA,z_ops,z_nil,z_cons,z_guard,z_some,z_drop,z_do,z_not,z_not0,pairK,forall_eq_or_imp,stays,loadOf,List.reverse_cons,List.reverse_nil,List.mem_cons,List.not_mem_nil,or_false,forall_eq,true_or,or_true,Bool.true_and,endK,resA,tupA,hlen,h0,e1,e2,c1,c2,hlz,zc0]
   ·have e2 : decide (((skipB s q : Nat) : Int) < (s.length : Int)) = false := decide_eq_false (by omega)
    simp only [if_neg hlt,Bool.false_eq_true,if_false]
    simp only [objS,zO] at *
    simp only [f9,B0,B1,B2,List.replicate,Nat.reduceAdd,Nat.reduceSub,Nat.reduceLeDiff,Nat.reduceLT,Nat.reduceEqDiff,reduceCtorEq,Int.reduceEq,Int.reduceLT,Int.reduceLE,lenA,z_ops,z_nil,z_cons,z_guard,z_some,z_drop,z_do,z_not,z_not0,pairK,forall_eq_or_imp,stays,loadOf,List.reverse_cons,List.reverse_nil,List.mem_cons,List.not_mem_nil,or_false,forall_eq,true_or,or_true,Bool.true_and,endK,resA,tupA,hlen,h0,e1,e2,c1,c2,hlv,encN,zc0]
end Go.Abs.Seat
end
