/- Part 6 of what the claim rests on. -/
import Derived.Test.YthkimdejhkpdeaaGetsA
import Derived.Test.YthkimdejhkpdeaaGetsB
import Derived.Test.YthkimdejhkpdeaaGetsC
import Derived.Test.YthkimdejhkpdeaaGetsD
import Derived.Test.YthkimdejhkpdeaaGetsE
section
set_option linter.unusedVariables false
set_option linter.unusedSimpArgs false
/- What the coder's functions come to: the reader's one, refuse, part, more; least. -/
set_option linter.unusedVariables false
set_option linter.unusedSimpArgs false
namespace Go.Abs.Seat
open Go.Proofs

/-- A reader's state: the place, the size, the error. -/
structure RS where
  p : Nat
  z : Int
  e : Int

/-- Bytes as a slice's elements. -/
def bytesC (b : List UInt8) : List (List Dat) := b.map fun c => [byteDat c]
theorem bytesC_len (b : List UInt8) : (bytesC b).length = b.length := by simp [bytesC]
theorem bytesC_get {b : List UInt8} {i : Nat} {c : UInt8} (h : b[i]? = some c) : (bytesC b)[i]? = some [.int .u8 (c.toNat : Int)] := by
  unfold bytesC; rw [List.getElem?_map, h]; rfl

def objC (s : Nat) (b : List UInt8) (r : RS) : HO := .obj none [[.im (.sl s (bytesC b)), .im (.int .i64 (r.p : Int)), .im (.int .i64 r.z), .im (.int .i64 r.e)]]

/-- One byte that is at most this. -/
def oneR (b : List UInt8) (r : RS) (m : Nat) : UInt8 × RS :=
  if r.e = 0 then
    match b[r.p]? with
    | none => (0, ⟨r.p, r.z, 30⟩)
    | some c => if m < c.toNat then (0, ⟨r.p, r.z, 31⟩) else (c, ⟨r.p + 1, r.z, r.e⟩)
  else (0, r)

def refuseR (r : RS) : RS := if r.e = 0 then ⟨r.p - 1, r.z, 31⟩ else r

theorem leave_objC {H : Heap} {ir s : Nat} {b : List UInt8} {r r' : RS} {v v' : AV} (hir : H[ir]? = some (objC s b r)) (hd : degrade v = v') (hv : refsLt H.length v' = true) : leave H false v (H.set ir (objC s b r')) = (v', H.set ir (objC s b r')) := by
  have hl := (List.getElem?_eq_some_iff.1 hir).1
  have := leave_but (keep := false) (r := v) (H := H) (H' := H.set ir (objC s b r')) (But.refl.set _) (List.getElem?_set_self hl) rfl (by simpa [hd] using hv) hl
  simpa [hd] using this

theorem s92 (b : List UInt8) (s ir m : Nat) (r : RS) (hm : m < 256) (hs : b = [] ∨ s = 1) (hb : b.length ≤ 4611686018427387904) (hp : r.p ≤ b.length) (H : Heap) (hir : H[ir]? = some (objC s b r)) :
    L 92 [.ptr ir 0 0, .im (.int .u8 (m : Int))] H = some (.im (byteDat (oneR b r m).1), H.set ir (objC s b (oneR b r m).2)) := by
  have hirl := (List.getElem?_eq_some_iff.1 hir).1
  have hlv := fun (p : Nat) (z e c : Int) => leave_objC (r' := ⟨p, z, e⟩) (v := .im (.int .u8 c)) (v' := .im (.int .u8 c)) hir rfl rfl
  have hsame : H.set ir (objC s b r) = H := set_same hir
  have hl0 : leave H false (.im (.int .u8 0)) H = (.im (.int .u8 0), H) := leave_same
  have hbl := bytesC_len b
  obtain ⟨p, z, e⟩ := r
  have hix := fun (h : p < b.length) => idx_nat h
  have hnn : (0 : Int) ≤ (p : Int) := Int.natCast_nonneg p
  simp only at hp
  rw [leq F92]
  obtain ⟨hlen, ha⟩ := enter_at (f := f92) (args := [.ptr ir 0 0, .im (.int .u8 (m : Int))]) (Nat.le_of_ble_eq_true rfl)
  have h0 := ha 0 _ rfl
  have h1 := ha 1 _ rfl
  generalize enterA f92 [.ptr ir 0 0, .im (.int .u8 (m : Int))] = tm at *
  change tm.length = 59 at hlen
  unfold oneR
  simp only
  by_cases he : e = 0
  · subst he
    simp only [if_true]
    by_cases hpl : p < b.length
    · have hc : decide ((b.length : Int) ≤ (p : Int)) = false := decide_eq_false (by omega)
      have hbp : b[p]? = some b[p] := List.getElem?_eq_getElem hpl
      have hs1 : s = 1 := by
        rcases hs with h | h
        · subst h; simp at hpl
        · exact h
      subst hs1
      generalize b[p] = c at hbp
      have hget := bytesC_get hbp
      have hix1 := idx_nat (n := b.length) (i := p) hpl
      rw [hbp]
      simp only
      by_cases hmc : m < c.toNat
      · have hc2 : decide ((m : Int) < ((c.toNat : Nat) : Int)) = true := decide_eq_true (by omega)
        rw [if_pos hmc]
        simp only [objC] at hir hlv ⊢
        simp only [f92, x_seq, x_block, x_skip, x_label, x_cond, x_exit, x_goto, x_ret, k_normal, k_exit, k_goto, k_ret, b_normal, b_exit, b_goto, b_ret, wantedA, aop, ev, putA, List.length_cons, List.length_nil, List.replicate, List.cons_append, List.nil_append, List.append_nil, List.append_assoc, gs_same, gs_ne, gq_same, gq_ne, List.length_set, List.map_cons, List.map_nil, cellsOf, List.all_cons, List.all_nil, cellOk, boxTy, Bool.and_true, Bool.and_self, if_true, ite_true, ite_false, loadAt, storeAt, setAt, hget, hget0, hset, hset0, List.getElem?_cons_zero, List.getElem?_cons_succ, List.set_cons_zero, List.set_cons_succ, Nat.add_zero, Nat.zero_add, Nat.reduceAdd, Nat.reduceSub, Nat.reduceLeDiff, Nat.reduceLT, Nat.reduceEqDiff, Nat.le_refl, and_self, and_true, true_and, mkAgg, toIms, List.drop_zero, List.drop_succ_cons, List.take_succ_cons, List.take_zero, List.length_append, binBool, unA, Bool.false_eq_true, if_false, partA, fillA, fillE, List.take_nil, Nat.zero_ne_one, Nat.one_ne_zero, not_false_eq_true, ne_eq, Nat.succ_ne_self, reduceCtorEq, Int.reduceEq, Int.reduceLT, Int.reduceLE, decide_true, decide_false, lenA, beq_self_eq_true, beq_true, beq_false, Bool.not_true, Bool.not_false, b_lss, b_gtr, b_leq, b_geq, b_eql, b_neq, b_add, b_sub, b_mul, s_eql, s_neq, y_ops, y_nil, y_cons, y_guard, y_some, y_drop, y_do, y_not, y_not0, c_call, c_clo, c_move, c_pick, c_alloc, c_box, c_build, c_bslice, c_load, c_store, c_nilCheck, c_bin, c_binB, c_un, c_i2i, c_i2f, c_f2i, c_s2b, c_b2s, c_strId, c_mkfunc, c_mkslice, c_slice, c_sliceStr, c_fieldAddr, c_field, c_indexSl, c_indexArr, c_elemArr, c_indexStr, c_extract, c_lenStr, c_lenSl, c_append, c_real, c_imag, c_complex, c_min, c_max, c_clear, endK, resA, tupA, hlen, h0, h1, hir, hbl, hc, hix1, hget, byteDat, hc2, hlv]
        rfl
      · have hc2 : decide ((m : Int) < ((c.toNat : Nat) : Int)) = false := decide_eq_false (by omega)
        rw [if_neg hmc]
        have hwr := wrap_nat (i := p) (by omega)
        have hwm : IntKind.i64.wrap (((p + 1 : Nat) : Int) - 1) = (p : Int) := by rw [Go.Abs.Seat.wrap_small _ (by omega)]; omega
        simp only [objC] at hir hlv ⊢
        have hg2 : ∀ o, (H.set ir o)[ir]? = some o := fun o => List.getElem?_set_self hirl
        simp only [f92, x_seq, x_block, x_skip, x_label, x_cond, x_exit, x_goto, x_ret, k_normal, k_exit, k_goto, k_ret, b_normal, b_exit, b_goto, b_ret, wantedA, aop, ev, putA, List.length_cons, List.length_nil, List.replicate, List.cons_append, List.nil_append, List.append_nil, List.append_assoc, gs_same, gs_ne, gq_same, gq_ne, List.length_set, List.map_cons, List.map_nil, cellsOf, List.all_cons, List.all_nil, cellOk, boxTy, Bool.and_true, Bool.and_self, if_true, ite_true, ite_false, loadAt, storeAt, setAt, hget, hget0, hset, hset0, List.getElem?_cons_zero, List.getElem?_cons_succ, List.set_cons_zero, List.set_cons_succ, Nat.add_zero, Nat.zero_add, Nat.reduceAdd, Nat.reduceSub, Nat.reduceLeDiff, Nat.reduceLT, Nat.reduceEqDiff, Nat.le_refl, and_self, and_true, true_and, mkAgg, toIms, List.drop_zero, List.drop_succ_cons, List.take_succ_cons, List.take_zero, List.length_append, binBool, unA, Bool.false_eq_true, if_false, partA, fillA, fillE, List.take_nil, Nat.zero_ne_one, Nat.one_ne_zero, not_false_eq_true, ne_eq, Nat.succ_ne_self, reduceCtorEq, Int.reduceEq, Int.reduceLT, Int.reduceLE, decide_true, decide_false, lenA, beq_self_eq_true, beq_true, beq_false, Bool.not_true, Bool.not_false, b_lss, b_gtr, b_leq, b_geq, b_eql, b_neq, b_add, b_sub, b_mul, s_eql, s_neq, y_ops, y_nil, y_cons, y_guard, y_some, y_drop, y_do, y_not, y_not0, c_call, c_clo, c_move, c_pick, c_alloc, c_box, c_build, c_bslice, c_load, c_store, c_nilCheck, c_bin, c_binB, c_un, c_i2i, c_i2f, c_f2i, c_s2b, c_b2s, c_strId, c_mkfunc, c_mkslice, c_slice, c_sliceStr, c_fieldAddr, c_field, c_indexSl, c_indexArr, c_elemArr, c_indexStr, c_extract, c_lenStr, c_lenSl, c_append, c_real, c_imag, c_complex, c_min, c_max, c_clear, endK, resA, tupA, hlen, h0, h1, hir, hbl, hc, hix1, hget, byteDat, hc2, hwr, hg2, hwm, hlv]
    · have hc : decide ((b.length : Int) ≤ (p : Int)) = true := decide_eq_true (by omega)
      have hbp : b[p]? = none := List.getElem?_eq_none (by omega)
      rw [hbp]
      simp only [objC] at hir hlv ⊢
      simp only [f92, x_seq, x_block, x_skip, x_label, x_cond, x_exit, x_goto, x_ret, k_normal, k_exit, k_goto, k_ret, b_normal, b_exit, b_goto, b_ret, wantedA, aop, ev, putA, List.length_cons, List.length_nil, List.replicate, List.cons_append, List.nil_append, List.append_nil, List.append_assoc, gs_same, gs_ne, gq_same, gq_ne, List.length_set, List.map_cons, List.map_nil, cellsOf, List.all_cons, List.all_nil, cellOk, boxTy, Bool.and_true, Bool.and_self, if_true, ite_true, ite_false, loadAt, storeAt, setAt, hget, hget0, hset, hset0, List.getElem?_cons_zero, List.getElem?_cons_succ, List.set_cons_zero, List.set_cons_succ, Nat.add_zero, Nat.zero_add, Nat.reduceAdd, Nat.reduceSub, Nat.reduceLeDiff, Nat.reduceLT, Nat.reduceEqDiff, Nat.le_refl, and_self, and_true, true_and, mkAgg, toIms, List.drop_zero, List.drop_succ_cons, List.take_succ_cons, List.take_zero, List.length_append, binBool, unA, Bool.false_eq_true, if_false, partA, fillA, fillE, List.take_nil, Nat.zero_ne_one, Nat.one_ne_zero, not_false_eq_true, ne_eq, Nat.succ_ne_self, reduceCtorEq, Int.reduceEq, Int.reduceLT, Int.reduceLE, decide_true, decide_false, lenA, beq_self_eq_true, beq_true, beq_false, Bool.not_true, Bool.not_false, b_lss, b_gtr, b_leq, b_geq, b_eql, b_neq, b_add, b_sub, b_mul, s_eql, s_neq, y_ops, y_nil, y_cons, y_guard, y_some, y_drop, y_do, y_not, y_not0, c_call, c_clo, c_move, c_pick, c_alloc, c_box, c_build, c_bslice, c_load, c_store, c_nilCheck, c_bin, c_binB, c_un, c_i2i, c_i2f, c_f2i, c_s2b, c_b2s, c_strId, c_mkfunc, c_mkslice, c_slice, c_sliceStr, c_fieldAddr, c_field, c_indexSl, c_indexArr, c_elemArr, c_indexStr, c_extract, c_lenStr, c_lenSl, c_append, c_real, c_imag, c_complex, c_min, c_max, c_clear, endK, resA, tupA, hlen, h0, h1, hir, hbl, hc, byteDat, hlv]
      rfl
  · have hde : decide (e = 0) = false := decide_eq_false he
    rw [if_neg he]
    simp only
    rw [hsame]
    simp only [objC] at hir
    simp only [f92, x_seq, x_block, x_skip, x_label, x_cond, x_exit, x_goto, x_ret, k_normal, k_exit, k_goto, k_ret, b_normal, b_exit, b_goto, b_ret, wantedA, aop, ev, putA, List.length_cons, List.length_nil, List.replicate, List.cons_append, List.nil_append, List.append_nil, List.append_assoc, gs_same, gs_ne, gq_same, gq_ne, List.length_set, List.map_cons, List.map_nil, cellsOf, List.all_cons, List.all_nil, cellOk, boxTy, Bool.and_true, Bool.and_self, if_true, ite_true, ite_false, loadAt, storeAt, setAt, hget, hget0, hset, hset0, List.getElem?_cons_zero, List.getElem?_cons_succ, List.set_cons_zero, List.set_cons_succ, Nat.add_zero, Nat.zero_add, Nat.reduceAdd, Nat.reduceSub, Nat.reduceLeDiff, Nat.reduceLT, Nat.reduceEqDiff, Nat.le_refl, and_self, and_true, true_and, mkAgg, toIms, List.drop_zero, List.drop_succ_cons, List.take_succ_cons, List.take_zero, List.length_append, binBool, unA, Bool.false_eq_true, if_false, partA, fillA, fillE, List.take_nil, Nat.zero_ne_one, Nat.one_ne_zero, not_false_eq_true, ne_eq, Nat.succ_ne_self, reduceCtorEq, Int.reduceEq, Int.reduceLT, Int.reduceLE, decide_true, decide_false, lenA, beq_self_eq_true, beq_true, beq_false, Bool.not_true, Bool.not_false, b_lss, b_gtr, b_leq, b_geq, b_eql, b_neq, b_add, b_sub, b_mul, s_eql, s_neq, y_ops, y_nil, y_cons, y_guard, y_some, y_drop, y_do, y_not, y_not0, c_call, c_clo, c_move, c_pick, c_alloc, c_box, c_build, c_bslice, c_load, c_store, c_nilCheck, c_bin, c_binB, c_un, c_i2i, c_i2f, c_f2i, c_s2b, c_b2s, c_strId, c_mkfunc, c_mkslice, c_slice, c_sliceStr, c_fieldAddr, c_field, c_indexSl, c_indexArr, c_elemArr, c_indexStr, c_extract, c_lenStr, c_lenSl, c_append, c_real, c_imag, c_complex, c_min, c_max, c_clear, endK, resA, tupA, hlen, h0, h1, hir, hde, byteDat, hl0]
    rfl

theorem s110 (b : List UInt8) (s ir : Nat) (r : RS) (hb : b.length ≤ 4611686018427387904) (hp : r.p ≤ b.length) (hp1 : r.e = 0 → 1 ≤ r.p) (H : Heap) (hir : H[ir]? = some (objC s b r)) :
    L 110 [.ptr ir 0 0] H = some (.tup [], H.set ir (objC s b (refuseR r))) := by
  have hirl := (List.getElem?_eq_some_iff.1 hir).1
  have hlv := fun (p : Nat) (z e : Int) => leave_objC (r' := ⟨p, z, e⟩) (v := .tup []) (v' := .tup []) hir rfl rfl
  have hsame : H.set ir (objC s b r) = H := set_same hir
  have hl0 : leave H false (.tup []) H = (.tup [], H) := by
    have := leave_low (H := H) (H' := H) (r := .tup []) (r' := .tup []) rfl rfl (Nat.le_refl _) (fun _ _ => rfl)
    exact this
  obtain ⟨p, z, e⟩ := r
  simp only at hp hp1
  rw [leq F110]
  obtain ⟨hlen, ha⟩ := enter_at (f := f110) (args := [.ptr ir 0 0]) (Nat.le_of_ble_eq_true rfl)
  have h0 := ha 0 _ rfl
  generalize enterA f110 [.ptr ir 0 0] = tm at *
  change tm.length = 17 at hlen
  unfold refuseR
  by_cases he : e = 0
  · subst he
    have := hp1 rfl
    have hwm : IntKind.i64.wrap ((p : Int) - 1) = ((p - 1 : Nat) : Int) := by rw [Go.Abs.Seat.wrap_small _ (by omega)]; omega
    have hg2 : ∀ o, (H.set ir o)[ir]? = some o := fun o => List.getElem?_set_self hirl
    simp only [objC] at hir hlv ⊢
    simp only [f110, x_seq, x_block, x_skip, x_label, x_cond, x_exit, x_goto, x_ret, k_normal, k_exit, k_goto, k_ret, b_normal, b_exit, b_goto, b_ret, wantedA, aop, ev, putA, List.length_cons, List.length_nil, List.replicate, List.cons_append, List.nil_append, List.append_nil, List.append_assoc, gs_same, gs_ne, gq_same, gq_ne, List.length_set, List.map_cons, List.map_nil, cellsOf, List.all_cons, List.all_nil, cellOk, boxTy, Bool.and_true, Bool.and_self, if_true, ite_true, ite_false, loadAt, storeAt, setAt, hget, hget0, hset, hset0, List.getElem?_cons_zero, List.getElem?_cons_succ, List.set_cons_zero, List.set_cons_succ, Nat.add_zero, Nat.zero_add, Nat.reduceAdd, Nat.reduceSub, Nat.reduceLeDiff, Nat.reduceLT, Nat.reduceEqDiff, Nat.le_refl, and_self, and_true, true_and, mkAgg, toIms, List.drop_zero, List.drop_succ_cons, List.take_succ_cons, List.take_zero, List.length_append, binBool, unA, Bool.false_eq_true, if_false, partA, fillA, fillE, List.take_nil, Nat.zero_ne_one, Nat.one_ne_zero, not_false_eq_true, ne_eq, Nat.succ_ne_self, reduceCtorEq, Int.reduceEq, Int.reduceLT, Int.reduceLE, decide_true, decide_false, lenA, beq_self_eq_true, beq_true, beq_false, Bool.not_true, Bool.not_false, b_lss, b_gtr, b_leq, b_geq, b_eql, b_neq, b_add, b_sub, b_mul, s_eql, s_neq, y_ops, y_nil, y_cons, y_guard, y_some, y_drop, y_do, y_not, y_not0, c_call, c_clo, c_move, c_pick, c_alloc, c_box, c_build, c_bslice, c_load, c_store, c_nilCheck, c_bin, c_binB, c_un, c_i2i, c_i2f, c_f2i, c_s2b, c_b2s, c_strId, c_mkfunc, c_mkslice, c_slice, c_sliceStr, c_fieldAddr, c_field, c_indexSl, c_indexArr, c_elemArr, c_indexStr, c_extract, c_lenStr, c_lenSl, c_append, c_real, c_imag, c_complex, c_min, c_max, c_clear, endK, resA, tupA, hlen, h0, hir, hwm, hg2, List.set_set, hlv]
  · have hde : decide (e = 0) = false := decide_eq_false he
    simp only [if_neg he]
    rw [hsame]
    simp only [objC] at hir
    simp only [f110, x_seq, x_block, x_skip, x_label, x_cond, x_exit, x_goto, x_ret, k_normal, k_exit, k_goto, k_ret, b_normal, b_exit, b_goto, b_ret, wantedA, aop, ev, putA, List.length_cons, List.length_nil, List.replicate, List.cons_append, List.nil_append, List.append_nil, List.append_assoc, gs_same, gs_ne, gq_same, gq_ne, List.length_set, List.map_cons, List.map_nil, cellsOf, List.all_cons, List.all_nil, cellOk, boxTy, Bool.and_true, Bool.and_self, if_true, ite_true, ite_false, loadAt, storeAt, setAt, hget, hget0, hset, hset0, List.getElem?_cons_zero, List.getElem?_cons_succ, List.set_cons_zero, List.set_cons_succ, Nat.add_zero, Nat.zero_add, Nat.reduceAdd, Nat.reduceSub, Nat.reduceLeDiff, Nat.reduceLT, Nat.reduceEqDiff, Nat.le_refl, and_self, and_true, true_and, mkAgg, toIms, List.drop_zero, List.drop_succ_cons, List.take_succ_cons, List.take_zero, List.length_append, binBool, unA, Bool.false_eq_true, if_false, partA, fillA, fillE, List.take_nil, Nat.zero_ne_one, Nat.one_ne_zero, not_false_eq_true, ne_eq, Nat.succ_ne_self, reduceCtorEq, Int.reduceEq, Int.reduceLT, Int.reduceLE, decide_true, decide_false, lenA, beq_self_eq_true, beq_true, beq_false, Bool.not_true, Bool.not_false, b_lss, b_gtr, b_leq, b_geq, b_eql, b_neq, b_add, b_sub, b_mul, s_eql, s_neq, y_ops, y_nil, y_cons, y_guard, y_some, y_drop, y_do, y_not, y_not0, c_call, c_clo, c_move, c_pick, c_alloc, c_box, c_build, c_bslice, c_load, c_store, c_nilCheck, c_bin, c_binB, c_un, c_i2i, c_i2f, c_f2i, c_s2b, c_b2s, c_strId, c_mkfunc, c_mkslice, c_slice, c_sliceStr, c_fieldAddr, c_field, c_indexSl, c_indexArr, c_elemArr, c_indexStr, c_extract, c_lenStr, c_lenSl, c_append, c_real, c_imag, c_complex, c_min, c_max, c_clear, endK, resA, tupA, hlen, h0, hir, hde, hl0]

end Go.Abs.Seat
end
section
set_option linter.unusedVariables false
set_option linter.unusedSimpArgs false
/- The abstract reading of Go code, thirty-eighth part: shifts and bits of numbers that are not below nought. -/
namespace Go.Abs
theorem wrap_i64 {n : Nat} (h : n < 9223372036854775808) : IntKind.i64.wrap (n : Int) = n := by
  simp [IntKind.wrap, IntKind.bits, IntKind.signed]
  omega
theorem wrap_u64 (n : Nat) : IntKind.u64.wrap (n : Int) = ((n % 18446744073709551616 : Nat) : Int) := by
  simp [IntKind.wrap, IntKind.bits, IntKind.signed]
theorem b_shl16 (x : Nat) (h : x < 70368744177664) : binA .shl (.im (.int .i64 (x : Int))) (.im (.int .u64 16)) = some (.im (.int .i64 ((x * 65536 : Nat) : Int))) := by
  have e : (x : Int) * 2 ^ (Min.min (16 : Int).toNat IntKind.i64.bits) = ((x * 65536 : Nat) : Int) := by
    have : Min.min (16 : Int).toNat IntKind.i64.bits = 16 := rfl
    rw [this]; omega
  simp only [binA, isShift, if_true, binShift]
  rw [if_neg (by decide), e, wrap_i64 (by omega)]
theorem b_shl8 (x : Nat) (h : x < 70368744177664) : binA .shl (.im (.int .i64 (x : Int))) (.im (.int .u64 8)) = some (.im (.int .i64 ((x * 256 : Nat) : Int))) := by
  have e : (x : Int) * 2 ^ (Min.min (8 : Int).toNat IntKind.i64.bits) = ((x * 256 : Nat) : Int) := by
    have : Min.min (8 : Int).toNat IntKind.i64.bits = 8 := rfl
    rw [this]; omega
  simp only [binA, isShift, if_true, binShift]
  rw [if_neg (by decide), e, wrap_i64 (by omega)]
theorem b_shl8u (x : Nat) : binA .shl (.im (.int .u64 (x : Int))) (.im (.int .u64 8)) = some (.im (.int .u64 ((x * 256 % 18446744073709551616 : Nat) : Int))) := by
  have e : (x : Int) * 2 ^ (Min.min (8 : Int).toNat IntKind.u64.bits) = ((x * 256 : Nat) : Int) := by
    have : Min.min (8 : Int).toNat IntKind.u64.bits = 8 := rfl
    rw [this]; omega
  simp only [binA, isShift, if_true, binShift]
  rw [if_neg (by decide), e, wrap_u64]
theorem b_or (x y : Nat) (hx : x < 4611686018427387904) (hy : y < 4611686018427387904) : binA .or (.im (.int .i64 (x : Int))) (.im (.int .i64 (y : Int))) = some (.im (.int .i64 ((x ||| y : Nat) : Int))) := by
  have h : (BitVec.ofInt IntKind.i64.bits (x : Int) ||| BitVec.ofInt IntKind.i64.bits (y : Int)).toNat = x ||| y := by
    rw [BitVec.ofInt_natCast, BitVec.ofInt_natCast, BitVec.toNat_or, BitVec.toNat_ofNat, BitVec.toNat_ofNat, Nat.mod_eq_of_lt, Nat.mod_eq_of_lt]
    · exact Nat.lt_trans hy (by decide)
    · exact Nat.lt_trans hx (by decide)
  have hlt : x ||| y < 2 ^ 62 := Nat.or_lt_two_pow hx hy
  simp only [binA, isShift, Bool.false_eq_true, if_false, if_true, binInt, h]
  rw [wrap_i64 (by omega)]
theorem b_oru (x y : Nat) (hx : x < 18446744073709551616) (hy : y < 18446744073709551616) : binA .or (.im (.int .u64 (x : Int))) (.im (.int .u64 (y : Int))) = some (.im (.int .u64 ((x ||| y : Nat) : Int))) := by
  have h : (BitVec.ofInt IntKind.u64.bits (x : Int) ||| BitVec.ofInt IntKind.u64.bits (y : Int)).toNat = x ||| y := by
    rw [BitVec.ofInt_natCast, BitVec.ofInt_natCast, BitVec.toNat_or, BitVec.toNat_ofNat, BitVec.toNat_ofNat, Nat.mod_eq_of_lt, Nat.mod_eq_of_lt]
    · exact hy
    · exact hx
  have hlt : x ||| y < 2 ^ 64 := Nat.or_lt_two_pow hx hy
  simp only [binA, isShift, Bool.false_eq_true, if_false, if_true, binInt, h]
  rw [wrap_u64, Nat.mod_eq_of_lt hlt]
/-- Disjoint bits. -/
theorem or_add (x y n : Nat) (hy : y < 2 ^ n) : (x * 2 ^ n) ||| y = x * 2 ^ n + y := by
  rw [Nat.mul_comm, Nat.two_pow_add_eq_or_of_lt hy]
end Go.Abs
end
section
set_option linter.unusedVariables false
set_option linter.unusedSimpArgs false
/- What the coder's functions come to: least, part, more. -/
set_option linter.unusedVariables false
set_option linter.unusedSimpArgs false
namespace Go.Abs.Seat
open Go.Proofs

theorem lenA_sl {s : Nat} {es : List (List Dat)} : lenA (.im (.sl s es)) = some es.length := _root_.id rfl

mutual
/-- The least size of a value of a type. -/
def leastT : KT → Int
  | .mk k _ args => if k = 6 then 1 + leastTs args else 1
def leastTs : List KT → Int
  | [] => 0
  | a :: l => leastT a + leastTs l
end

theorem rightNot_false {l : List KT} {d : Int} (h : rightNot l d = false) : ∀ a ∈ l, rightT a d = true := by
  rw [rightNot_any] at h
  intro a ha
  have := List.any_eq_false.1 h a ha
  simpa using this

theorem right_len {k : Int} {s : Nat} {args : List KT} {d : Int} (h : rightT (.mk k s args) d = true) : (args.length : Int) = cntK k ∧ 1 ≤ d ∧ ∀ a ∈ args, rightT a (d - 1) = true := by
  simp only [rightT] at h
  split at h
  · rename_i i hi
    split at h
    · simp at h
    · split at h
      · rename_i hl
        refine ⟨by unfold cntK; rw [hi]; exact hl, by omega, rightNot_false (by simpa using h)⟩
      · simp at h
  · simp at h

theorem len2 {α : Type} {l : List α} (h : l.length = 2) : ∃ a b, l = [a, b] := by
  match l, h with
  | [a, b], _ => exact ⟨a, b, rfl⟩
theorem len1 {α : Type} {l : List α} (h : l.length = 1) : ∃ a, l = [a] := by
  match l, h with
  | [a], _ => exact ⟨a, rfl⟩

theorem least_le : ∀ (d : Nat) (t : KT), rightT t (d : Int) = true → 1 ≤ leastT t ∧ leastT t ≤ 3 ^ d
  | 0, .mk k s args, h => by
    have := (right_len h).2.1
    omega
  | d + 1, .mk k s args, h => by
    obtain ⟨h1, _, h3⟩ := right_len h
    have hp : (1 : Int) ≤ 3 ^ d := by
      have : (1 : Nat) ≤ 3 ^ d := Nat.one_le_pow _ _ (by decide)
      exact_mod_cast this
    have hpow : (3 : Int) ^ (d + 1) = 3 * 3 ^ d := by rw [Int.pow_succ]; omega
    simp only [leastT]
    split
    · rename_i hk
      subst hk
      obtain ⟨a, b, rfl⟩ := len2 (l := args) (by have : cntK 6 = 2 := by decide
                                                 omega)
      have ha := least_le d a (by have := h3 a (by simp); rwa [show (((d + 1 : Nat) : Int)) - 1 = (d : Int) by omega] at this)
      have hb := least_le d b (by have := h3 b (by simp); rwa [show (((d + 1 : Nat) : Int)) - 1 = (d : Int) by omega] at this)
      simp only [leastTs]
      omega
    · omega

theorem pow3 : ∀ d : Nat, d < 8 → (3 : Int) ^ d ≤ 2187 := by decide
theorem pow36 : ∀ d : Nat, d < 7 → (3 : Int) ^ d ≤ 729 := by decide

theorem s65 : ∀ (d : Nat) (t : KT), d ≤ 7 → okT t → rightT t (d : Int) = true → ∀ H, L 65 [.im (.agg (encT t))] H = some (.im (.int .i64 (leastT t)), H)
  | 0, .mk k s args, hd, hok, h, H => by
    have := (right_len h).2.1
    omega
  | d + 1, .mk k s args, hd, hok, h, H => by
    obtain ⟨h1, _, h3⟩ := right_len h
    simp only [okT] at hok
    obtain ⟨hs, hn, hoks⟩ := hok
    have hlv : ∀ (M : Heap) (n : Int), leave H false (.im (.int .i64 n)) (H ++ M) = (.im (.int .i64 n), H) := fun M n => leave_app
    simp only [encT, leastT, encTs_map]
    rw [leq F65]
    obtain ⟨hlen, ha⟩ := enter_at (f := f65) (args := [.im (.agg [.int .i64 k, .sl s (args.map encT)])]) (Nat.le_of_ble_eq_true rfl)
    have h0 := ha 0 _ rfl
    generalize enterA f65 [.im (.agg [.int .i64 k, .sl s (args.map encT)])] = tm at *
    change tm.length = 18 at hlen
    by_cases hk : k = 6
    · subst hk
      obtain ⟨a, b, rfl⟩ := len2 (l := args) (by have : cntK 6 = 2 := by decide
                                                 omega)
      have hs2 : s = 2 := by
        rcases hs with hs | hs
        · simp at hs
        · exact hs
      subst hs2
      have hra : rightT a (d : Int) = true := by have := h3 a (by simp); rwa [show (((d + 1 : Nat) : Int)) - 1 = (d : Int) by omega] at this
      have hrb : rightT b (d : Int) = true := by have := h3 b (by simp); rwa [show (((d + 1 : Nat) : Int)) - 1 = (d : Int) by omega] at this
      have ca := s65 d a (by omega) (okTs_mem hoks a (by simp)) hra
      have cb := s65 d b (by omega) (okTs_mem hoks b (by simp)) hrb
      have la := least_le d a hra
      have lb := least_le d b hrb
      have hp := pow3 d (by omega)
      simp only [leastTs, if_true]
      generalize leastT a = xa at *
      generalize leastT b = xb at *
      have hw1 := Go.Abs.Seat.wrap_small (1 + xa) (by omega)
      have hw2 := Go.Abs.Seat.wrap_small (1 + xa + xb) (by omega)
      have hi0 : idx (.im (.int .i64 0)) 2 = some 0 := rfl
      have hi1 : idx (.im (.int .i64 1)) 2 = some 1 := rfl
      obtain ⟨k1, s1, ts1⟩ := a
      obtain ⟨k2, s2, ts2⟩ := b
      simp only [encT] at ca cb
      simp only [List.map_cons, List.map_nil, encT] at h0
      simp only [f65, x_seq, x_block, x_skip, x_label, x_cond, x_exit, x_goto, x_ret, k_normal, k_exit, k_goto, k_ret, b_normal, b_exit, b_goto, b_ret, wantedA, aop, ev, putA, List.length_cons, List.length_nil, List.replicate, List.cons_append, List.nil_append, List.append_nil, List.append_assoc, gs_same, gs_ne, gq_same, gq_ne, List.length_set, List.map_cons, List.map_nil, cellsOf, List.all_cons, List.all_nil, cellOk, boxTy, Bool.and_true, Bool.and_self, if_true, ite_true, ite_false, loadAt, storeAt, setAt, hget, hget0, hset, hset0, List.getElem?_cons_zero, List.getElem?_cons_succ, List.set_cons_zero, List.set_cons_succ, Nat.add_zero, Nat.zero_add, Nat.reduceAdd, Nat.reduceSub, Nat.reduceLeDiff, Nat.reduceLT, Nat.reduceEqDiff, Nat.le_refl, and_self, and_true, true_and, mkAgg, toIms, List.drop_zero, List.drop_succ_cons, List.take_succ_cons, List.take_zero, List.length_append, binBool, unA, Bool.false_eq_true, if_false, partA, fillA, fillE, List.take_nil, Nat.zero_ne_one, Nat.one_ne_zero, not_false_eq_true, ne_eq, Nat.succ_ne_self, reduceCtorEq, Int.reduceEq, Int.reduceLT, Int.reduceLE, decide_true, decide_false, lenA, beq_self_eq_true, beq_true, beq_false, Bool.not_true, Bool.not_false, b_lss, b_gtr, b_leq, b_geq, b_eql, b_neq, b_add, b_sub, b_mul, s_eql, s_neq, y_ops, y_nil, y_cons, y_guard, y_some, y_drop, y_do, y_not, y_not0, c_call, c_clo, c_move, c_pick, c_alloc, c_box, c_build, c_bslice, c_load, c_store, c_nilCheck, c_bin, c_binB, c_un, c_i2i, c_i2f, c_f2i, c_s2b, c_b2s, c_strId, c_mkfunc, c_mkslice, c_slice, c_sliceStr, c_fieldAddr, c_field, c_indexSl, c_indexArr, c_elemArr, c_indexStr, c_extract, c_lenStr, c_lenSl, c_append, c_real, c_imag, c_complex, c_min, c_max, c_clear, z_ops, z_nil, z_cons, z_guard, z_some, z_drop, z_do, z_not, z_not0, pairK, forall_eq_or_imp, stays, loadOf, List.reverse_cons, List.reverse_nil, List.mem_cons, List.not_mem_nil, or_false, forall_eq, true_or, or_true, Bool.true_and, endK, resA, tupA, hlen, h0, hi0, hi1, ca, cb, hw1, hw2, hlv]
      rw [show 1 + xa + xb = 1 + (xa + (xb + 0)) by omega]
    · have hdk : decide (k = 6) = false := decide_eq_false hk
      simp only [if_neg hk]
      simp only [f65, x_seq, x_block, x_skip, x_label, x_cond, x_exit, x_goto, x_ret, k_normal, k_exit, k_goto, k_ret, b_normal, b_exit, b_goto, b_ret, wantedA, aop, ev, putA, List.length_cons, List.length_nil, List.replicate, List.cons_append, List.nil_append, List.append_nil, List.append_assoc, gs_same, gs_ne, gq_same, gq_ne, List.length_set, List.map_cons, List.map_nil, cellsOf, List.all_cons, List.all_nil, cellOk, boxTy, Bool.and_true, Bool.and_self, if_true, ite_true, ite_false, loadAt, storeAt, setAt, hget, hget0, hset, hset0, List.getElem?_cons_zero, List.getElem?_cons_succ, List.set_cons_zero, List.set_cons_succ, Nat.add_zero, Nat.zero_add, Nat.reduceAdd, Nat.reduceSub, Nat.reduceLeDiff, Nat.reduceLT, Nat.reduceEqDiff, Nat.le_refl, and_self, and_true, true_and, mkAgg, toIms, List.drop_zero, List.drop_succ_cons, List.take_succ_cons, List.take_zero, List.length_append, binBool, unA, Bool.false_eq_true, if_false, partA, fillA, fillE, List.take_nil, Nat.zero_ne_one, Nat.one_ne_zero, not_false_eq_true, ne_eq, Nat.succ_ne_self, reduceCtorEq, Int.reduceEq, Int.reduceLT, Int.reduceLE, decide_true, decide_false, lenA, beq_self_eq_true, beq_true, beq_false, Bool.not_true, Bool.not_false, b_lss, b_gtr, b_leq, b_geq, b_eql, b_neq, b_add, b_sub, b_mul, s_eql, s_neq, y_ops, y_nil, y_cons, y_guard, y_some, y_drop, y_do, y_not, y_not0, c_call, c_clo, c_move, c_pick, c_alloc, c_box, c_build, c_bslice, c_load, c_store, c_nilCheck, c_bin, c_binB, c_un, c_i2i, c_i2f, c_f2i, c_s2b, c_b2s, c_strId, c_mkfunc, c_mkslice, c_slice, c_sliceStr, c_fieldAddr, c_field, c_indexSl, c_indexArr, c_elemArr, c_indexStr, c_extract, c_lenStr, c_lenSl, c_append, c_real, c_imag, c_complex, c_min, c_max, c_clear, endK, resA, tupA, hlen, h0, hdk, hlv]

/-- Three bytes, as a number. -/
def partR (b : List UInt8) (r : RS) : Int × RS :=
  ((((oneR b r 31).1.toNat * 65536 + (oneR b (oneR b r 31).2 255).1.toNat * 256 + (oneR b (oneR b (oneR b r 31).2 255).2 255).1.toNat : Nat) : Int) - 1048576, (oneR b (oneR b (oneR b r 31).2 255).2 255).2)

theorem oneR_p {b : List UInt8} {r : RS} {m : Nat} (hp : r.p ≤ b.length) : (oneR b r m).2.p ≤ b.length ∧ r.p ≤ (oneR b r m).2.p ∧ (oneR b r m).2.z = r.z ∧ ((oneR b r m).1.toNat ≤ m) ∧ ((oneR b r m).1 ≠ 0 → r.e = 0 ∧ (oneR b r m).2.e = 0 ∧ (oneR b r m).2.p = r.p + 1) := by
  unfold oneR
  split
  · rename_i he
    cases hb : b[r.p]? with
    | none => exact ⟨hp, Nat.le_refl _, rfl, by simp, fun h => absurd rfl h⟩
    | some c =>
      have := (List.getElem?_eq_some_iff.1 hb).1
      simp only
      split
      · exact ⟨hp, Nat.le_refl _, rfl, by simp, fun h => absurd rfl h⟩
      · exact ⟨this, by simp, rfl, by simp only; omega, fun _ => ⟨he, he, rfl⟩⟩
  · exact ⟨hp, Nat.le_refl _, rfl, by simp, fun h => absurd rfl h⟩

theorem s94 (b : List UInt8) (s ir : Nat) (r : RS) (hs : b = [] ∨ s = 1) (hb : b.length ≤ 4611686018427387904) (hp : r.p ≤ b.length) (H : Heap) (hir : H[ir]? = some (objC s b r)) :
    L 94 [.ptr ir 0 0] H = some (.im (.int .i64 (partR b r).1), H.set ir (objC s b (partR b r).2)) := by
  have hirl := (List.getElem?_eq_some_iff.1 hir).1
  have c1 := s92 b s ir 31 r (by decide) hs hb hp H hir
  obtain ⟨p1, _, _, m1, _⟩ := oneR_p (m := 31) hp
  unfold partR
  generalize oneR b r 31 = q1 at *
  obtain ⟨v1, r1⟩ := q1
  simp only at p1 m1 c1 ⊢
  have c2 := s92 b s ir 255 r1 (by decide) hs hb p1 (H.set ir (objC s b r1)) (List.getElem?_set_self hirl)
  obtain ⟨p2, _, _, m2, _⟩ := oneR_p (m := 255) p1
  generalize oneR b r1 255 = q2 at *
  obtain ⟨v2, r2⟩ := q2
  simp only at p2 m2 c2 ⊢
  rw [List.set_set] at c2
  have c3 := s92 b s ir 255 r2 (by decide) hs hb p2 (H.set ir (objC s b r2)) (List.getElem?_set_self hirl)
  obtain ⟨_, _, _, m3, _⟩ := oneR_p (m := 255) p2
  generalize oneR b r2 255 = q3 at *
  obtain ⟨v3, r3⟩ := q3
  simp only at m3 c3 ⊢
  rw [List.set_set] at c3
  have hlv := leave_objC (r' := r3) (v := .im (.int .i64 (((v1.toNat * 65536 + v2.toNat * 256 + v3.toNat : Nat) : Int) - 1048576))) (v' := .im (.int .i64 (((v1.toNat * 65536 + v2.toNat * 256 + v3.toNat : Nat) : Int) - 1048576))) hir rfl rfl
  have w1 : IntKind.i64.wrap ((v1.toNat : Nat) : Int) = ((v1.toNat : Nat) : Int) := wrap_i64 (by omega)
  have w2 : IntKind.i64.wrap ((v2.toNat : Nat) : Int) = ((v2.toNat : Nat) : Int) := wrap_i64 (by omega)
  have w3 : IntKind.i64.wrap ((v3.toNat : Nat) : Int) = ((v3.toNat : Nat) : Int) := wrap_i64 (by omega)
  have a1 := b_shl16 v1.toNat (by omega)
  have a2 := b_shl8 v2.toNat (by omega)
  have a3 := b_or (v1.toNat * 65536) (v2.toNat * 256) (by omega) (by omega)
  rw [or_add v1.toNat (v2.toNat * 256) 16 (by omega)] at a3
  have a4 := b_or (v1.toNat * 2 ^ 16 + v2.toNat * 256) v3.toNat (by omega) (by omega)
  have a5 := or_add (v1.toNat * 256 + v2.toNat) v3.toNat 8 (by omega)
  rw [show (v1.toNat * 256 + v2.toNat) * 2 ^ 8 = v1.toNat * 2 ^ 16 + v2.toNat * 256 by omega] at a5
  rw [a5, show v1.toNat * 2 ^ 16 = v1.toNat * 65536 from rfl] at a4
  rw [show v1.toNat * 2 ^ 16 = v1.toNat * 65536 from rfl] at a3
  have w4 := Go.Abs.Seat.wrap_small (((v1.toNat * 65536 + v2.toNat * 256 + v3.toNat : Nat) : Int) - 1048576) (by omega)
  simp only [byteDat] at c1 c2 c3
  rw [leq F94]
  obtain ⟨hlen, ha⟩ := enter_at (f := f94) (args := [.ptr ir 0 0]) (Nat.le_of_ble_eq_true rfl)
  have h0 := ha 0 _ rfl
  generalize enterA f94 [.ptr ir 0 0] = tm at *
  change tm.length = 19 at hlen
  have k31 : ((31 : Nat) : Int) = 31 := rfl
  have k255 : ((255 : Nat) : Int) = 255 := rfl
  rw [k31] at c1
  rw [k255] at c2 c3
  simp only [f94, x_seq, x_block, x_skip, x_label, x_cond, x_exit, x_goto, x_ret, k_normal, k_exit, k_goto, k_ret, b_normal, b_exit, b_goto, b_ret, wantedA, aop, ev, putA, List.length_cons, List.length_nil, List.replicate, List.cons_append, List.nil_append, List.append_nil, List.append_assoc, gs_same, gs_ne, gq_same, gq_ne, List.length_set, List.map_cons, List.map_nil, cellsOf, List.all_cons, List.all_nil, cellOk, boxTy, Bool.and_true, Bool.and_self, if_true, ite_true, ite_false, loadAt, storeAt, setAt, hget, hget0, hset, hset0, List.getElem?_cons_zero, List.getElem?_cons_succ, List.set_cons_zero, List.set_cons_succ, Nat.add_zero, Nat.zero_add, Nat.reduceAdd, Nat.reduceSub, Nat.reduceLeDiff, Nat.reduceLT, Nat.reduceEqDiff, Nat.le_refl, and_self, and_true, true_and, mkAgg, toIms, List.drop_zero, List.drop_succ_cons, List.take_succ_cons, List.take_zero, List.length_append, binBool, unA, Bool.false_eq_true, if_false, partA, fillA, fillE, List.take_nil, Nat.zero_ne_one, Nat.one_ne_zero, not_false_eq_true, ne_eq, Nat.succ_ne_self, reduceCtorEq, Int.reduceEq, Int.reduceLT, Int.reduceLE, decide_true, decide_false, lenA, beq_self_eq_true, beq_true, beq_false, Bool.not_true, Bool.not_false, b_lss, b_gtr, b_leq, b_geq, b_eql, b_neq, b_add, b_sub, b_mul, s_eql, s_neq, y_ops, y_nil, y_cons, y_guard, y_some, y_drop, y_do, y_not, y_not0, c_call, c_clo, c_move, c_pick, c_alloc, c_box, c_build, c_bslice, c_load, c_store, c_nilCheck, c_bin, c_binB, c_un, c_i2i, c_i2f, c_f2i, c_s2b, c_b2s, c_strId, c_mkfunc, c_mkslice, c_slice, c_sliceStr, c_fieldAddr, c_field, c_indexSl, c_indexArr, c_elemArr, c_indexStr, c_extract, c_lenStr, c_lenSl, c_append, c_real, c_imag, c_complex, c_min, c_max, c_clear, endK, resA, tupA, hlen, h0, c1, c2, c3, w1, w2, w3, a1, a2, a3, a4, w4, hlv]

/-- Does a value of a type come? -/
def moreR (b : List UInt8) (r : RS) (l : Int) (room : Nat) : Bool × RS :=
  if (oneR b r 1).1 = 0 then (false, (oneR b r 1).2)
  else if room = 0 ∨ 2000 < (oneR b r 1).2.z + l then (false, ⟨(oneR b r 1).2.p - 1, (oneR b r 1).2.z + l, 31⟩)
  else (true, ⟨(oneR b r 1).2.p, (oneR b r 1).2.z + l, 0⟩)

theorem s95 (b : List UInt8) (s ir room d : Nat) (r : RS) (t : KT) (hd : d ≤ 6) (hok : okT t) (hrt : rightT t (d : Int) = true) (hz : 0 ≤ r.z ∧ r.z ≤ 1000000) (hroom : room ≤ 1000) (hs : b = [] ∨ s = 1) (hb : b.length ≤ 4611686018427387904) (hp : r.p ≤ b.length) (H : Heap) (hir : H[ir]? = some (objC s b r)) :
    L 95 [.ptr ir 0 0, .im (.agg (encT t)), .im (.int .i64 (room : Int))] H = some (.im (.bool (moreR b r (leastT t) room).1), H.set ir (objC s b (moreR b r (leastT t) room).2)) := by
  have hirl := (List.getElem?_eq_some_iff.1 hir).1
  have hl1 := least_le d t hrt
  have hpow := pow36 d (by omega)
  have c65 := s65 d t (by omega) hok hrt
  generalize leastT t = l at *
  have hga : ∀ M : Heap, (H ++ M)[ir]? = some (objC s b r) := fun M => by rw [get_app hirl]; exact hir
  obtain ⟨k', s', ts⟩ := t
  simp only [encT] at c65 ⊢
  have c1 := s92 b s ir 1 r (by decide) hs hb hp (H ++ [HO.obj none [[.im (.int .i64 k'), .im (.sl s' (encTs ts))]]]) (hga _)
  rw [set_app hirl, show ((1 : Nat) : Int) = 1 from rfl] at c1
  obtain ⟨p1, _, z1, m1, e1⟩ := oneR_p (m := 1) hp
  unfold moreR
  generalize oneR b r 1 = q1 at *
  obtain ⟨v1, ⟨p, z, e⟩⟩ := q1
  simp only at p1 m1 c1 e1 z1 ⊢
  subst z1
  have hlv : ∀ (M : Heap) (q : Nat) (w x : Int) (v : Bool), leave H false (.im (.bool v)) (H.set ir (objC s b ⟨q, w, x⟩) ++ M) = (.im (.bool v), H.set ir (objC s b ⟨q, w, x⟩)) := fun M q w x v => by
    have := leave_but (keep := false) (r := .im (.bool v)) (H := H) (H' := H.set ir (objC s b ⟨q, w, x⟩) ++ M) ((But.refl.set _).app (Nat.le_refl _) M) (by rw [get_app (by simpa using hirl)]; exact List.getElem?_set_self hirl) rfl rfl hirl
    simpa [degrade, toDat] using this
  rw [leq F95]
  obtain ⟨hlen, ha⟩ := enter_at (f := f95) (args := [.ptr ir 0 0, .im (.agg [.int .i64 k', .sl s' (encTs ts)]), .im (.int .i64 (room : Int))]) (Nat.le_of_ble_eq_true rfl)
  have h0 := ha 0 _ rfl
  have h1 := ha 1 _ rfl
  have h2 := ha 2 _ rfl
  generalize enterA f95 [.ptr ir 0 0, .im (.agg [.int .i64 k', .sl s' (encTs ts)]), .im (.int .i64 (room : Int))] = tm at *
  change tm.length = 35 at hlen
  have hby : decide (((v1.toNat : Nat) : Int) = 0) = decide (v1 = 0) := byte_eq v1 0
  simp only [byteDat] at c1
  by_cases hv : v1 = 0
  · rw [decide_eq_true hv] at hby
    simp only [if_pos hv]
    simp only [f95, x_seq, x_block, x_skip, x_label, x_cond, x_exit, x_goto, x_ret, k_normal, k_exit, k_goto, k_ret, b_normal, b_exit, b_goto, b_ret, wantedA, aop, ev, putA, List.length_cons, List.length_nil, List.replicate, List.cons_append, List.nil_append, List.append_nil, List.append_assoc, gs_same, gs_ne, gq_same, gq_ne, List.length_set, List.map_cons, List.map_nil, cellsOf, List.all_cons, List.all_nil, cellOk, boxTy, Bool.and_true, Bool.and_self, if_true, ite_true, ite_false, loadAt, storeAt, setAt, hget, hget0, hset, hset0, List.getElem?_cons_zero, List.getElem?_cons_succ, List.set_cons_zero, List.set_cons_succ, Nat.add_zero, Nat.zero_add, Nat.reduceAdd, Nat.reduceSub, Nat.reduceLeDiff, Nat.reduceLT, Nat.reduceEqDiff, Nat.le_refl, and_self, and_true, true_and, mkAgg, toIms, List.drop_zero, List.drop_succ_cons, List.take_succ_cons, List.take_zero, List.length_append, binBool, unA, Bool.false_eq_true, if_false, partA, fillA, fillE, List.take_nil, Nat.zero_ne_one, Nat.one_ne_zero, not_false_eq_true, ne_eq, Nat.succ_ne_self, reduceCtorEq, Int.reduceEq, Int.reduceLT, Int.reduceLE, decide_true, decide_false, lenA, beq_self_eq_true, beq_true, beq_false, Bool.not_true, Bool.not_false, b_lss, b_gtr, b_leq, b_geq, b_eql, b_neq, b_add, b_sub, b_mul, s_eql, s_neq, y_ops, y_nil, y_cons, y_guard, y_some, y_drop, y_do, y_not, y_not0, c_call, c_clo, c_move, c_pick, c_alloc, c_box, c_build, c_bslice, c_load, c_store, c_nilCheck, c_bin, c_binB, c_un, c_i2i, c_i2f, c_f2i, c_s2b, c_b2s, c_strId, c_mkfunc, c_mkslice, c_slice, c_sliceStr, c_fieldAddr, c_field, c_indexSl, c_indexArr, c_elemArr, c_indexStr, c_extract, c_lenStr, c_lenSl, c_append, c_real, c_imag, c_complex, c_min, c_max, c_clear, endK, resA, tupA, hlen, h0, h1, h2, c1, hby, hlv]
  · rw [decide_eq_false hv] at hby
    obtain ⟨_, rfl, he3⟩ := e1 hv
    simp only [if_neg hv]
    have hw := Go.Abs.Seat.wrap_small (r.z + l) (by omega)
    have hg1 : ∀ (q : Nat) (w x : Int) (M : Heap), (H.set ir (objC s b ⟨q, w, x⟩) ++ M)[ir]? = some (objC s b ⟨q, w, x⟩) := fun q w x M => by rw [get_app (by simpa using hirl)]; exact List.getElem?_set_self hirl
    have hs1 : ∀ (q : Nat) (w x : Int) (M : Heap) (o : HO), (H.set ir (objC s b ⟨q, w, x⟩) ++ M).set ir o = H.set ir o ++ M := fun q w x M o => by rw [set_app (by simpa using hirl), List.set_set]
    have hgx : ∀ (q : Nat) (w x : Int) (y : HO), (H.set ir (objC s b ⟨q, w, x⟩) ++ [y])[H.length]? = some y := fun q w x y => by
      have := Go.Abs.hget0 (H := H.set ir (objC s b ⟨q, w, x⟩)) (l := [y])
      rwa [List.length_set] at this
    have c110 := fun (M : Heap) => s110 b s ir ⟨p, r.z + l, 0⟩ hb p1 (fun _ => by simp only; omega) (H.set ir (objC s b ⟨p, r.z + l, 0⟩) ++ M) (hg1 _ _ _ _)
    simp only [hs1, refuseR, if_true] at c110
    by_cases hroom0 : room = 0
    · subst hroom0
      simp only [true_or, if_true]
      have z0 : ((0 : Nat) : Int) = 0 := rfl
      rw [z0] at h2
      simp only [objC] at hg1 hs1 hgx c110 hlv c1 ⊢
      simp only [f95, x_seq, x_block, x_skip, x_label, x_cond, x_exit, x_goto, x_ret, k_normal, k_exit, k_goto, k_ret, b_normal, b_exit, b_goto, b_ret, wantedA, aop, ev, putA, List.length_cons, List.length_nil, List.replicate, List.cons_append, List.nil_append, List.append_nil, List.append_assoc, gs_same, gs_ne, gq_same, gq_ne, List.length_set, List.map_cons, List.map_nil, cellsOf, List.all_cons, List.all_nil, cellOk, boxTy, Bool.and_true, Bool.and_self, if_true, ite_true, ite_false, loadAt, storeAt, setAt, hget, hget0, hset, hset0, List.getElem?_cons_zero, List.getElem?_cons_succ, List.set_cons_zero, List.set_cons_succ, Nat.add_zero, Nat.zero_add, Nat.reduceAdd, Nat.reduceSub, Nat.reduceLeDiff, Nat.reduceLT, Nat.reduceEqDiff, Nat.le_refl, and_self, and_true, true_and, mkAgg, toIms, List.drop_zero, List.drop_succ_cons, List.take_succ_cons, List.take_zero, List.length_append, binBool, unA, Bool.false_eq_true, if_false, partA, fillA, fillE, List.take_nil, Nat.zero_ne_one, Nat.one_ne_zero, not_false_eq_true, ne_eq, Nat.succ_ne_self, reduceCtorEq, Int.reduceEq, Int.reduceLT, Int.reduceLE, decide_true, decide_false, lenA, beq_self_eq_true, beq_true, beq_false, Bool.not_true, Bool.not_false, b_lss, b_gtr, b_leq, b_geq, b_eql, b_neq, b_add, b_sub, b_mul, s_eql, s_neq, y_ops, y_nil, y_cons, y_guard, y_some, y_drop, y_do, y_not, y_not0, c_call, c_clo, c_move, c_pick, c_alloc, c_box, c_build, c_bslice, c_load, c_store, c_nilCheck, c_bin, c_binB, c_un, c_i2i, c_i2f, c_f2i, c_s2b, c_b2s, c_strId, c_mkfunc, c_mkslice, c_slice, c_sliceStr, c_fieldAddr, c_field, c_indexSl, c_indexArr, c_elemArr, c_indexStr, c_extract, c_lenStr, c_lenSl, c_append, c_real, c_imag, c_complex, c_min, c_max, c_clear, z_ops, z_nil, z_cons, z_guard, z_some, z_drop, z_do, z_not, z_not0, pairK, forall_eq_or_imp, stays, loadOf, List.reverse_cons, List.reverse_nil, List.mem_cons, List.not_mem_nil, or_false, forall_eq, true_or, or_true, Bool.true_and, endK, resA, tupA, hlen, h0, h1, h2, c1, hby, hg1, hs1, hgx, c65, hw, c110, hlv]
    · have hr0 : decide ((room : Int) = 0) = false := decide_eq_false (by omega)
      by_cases hbig : 2000 < r.z + l
      · have hb0 : decide (2000 < r.z + l) = true := decide_eq_true hbig
        simp only [hroom0, hbig, or_true, if_true]
        simp only [objC] at hg1 hs1 hgx c110 hlv c1 ⊢
        simp only [f95, x_seq, x_block, x_skip, x_label, x_cond, x_exit, x_goto, x_ret, k_normal, k_exit, k_goto, k_ret, b_normal, b_exit, b_goto, b_ret, wantedA, aop, ev, putA, List.length_cons, List.length_nil, List.replicate, List.cons_append, List.nil_append, List.append_nil, List.append_assoc, gs_same, gs_ne, gq_same, gq_ne, List.length_set, List.map_cons, List.map_nil, cellsOf, List.all_cons, List.all_nil, cellOk, boxTy, Bool.and_true, Bool.and_self, if_true, ite_true, ite_false, loadAt, storeAt, setAt, hget, hget0, hset, hset0, List.getElem?_cons_zero, List.getElem?_cons_succ, List.set_cons_zero, List.set_cons_succ, Nat.add_zero, Nat.zero_add, Nat.reduceAdd, Nat.reduceSub, Nat.reduceLeDiff, Nat.reduceLT, Nat.reduceEqDiff, Nat.le_refl, and_self, and_true, true_and, mkAgg, toIms, List.drop_zero, List.drop_succ_cons, List.take_succ_cons, List.take_zero, List.length_append, binBool, unA, Bool.false_eq_true, if_false, partA, fillA, fillE, List.take_nil, Nat.zero_ne_one, Nat.one_ne_zero, not_false_eq_true, ne_eq, Nat.succ_ne_self, reduceCtorEq, Int.reduceEq, Int.reduceLT, Int.reduceLE, decide_true, decide_false, lenA, beq_self_eq_true, beq_true, beq_false, Bool.not_true, Bool.not_false, b_lss, b_gtr, b_leq, b_geq, b_eql, b_neq, b_add, b_sub, b_mul, s_eql, s_neq, y_ops, y_nil, y_cons, y_guard, y_some, y_drop, y_do, y_not, y_not0, c_call, c_clo, c_move, c_pick, c_alloc, c_box, c_build, c_bslice, c_load, c_store, c_nilCheck, c_bin, c_binB, c_un, c_i2i, c_i2f, c_f2i, c_s2b, c_b2s, c_strId, c_mkfunc, c_mkslice, c_slice, c_sliceStr, c_fieldAddr, c_field, c_indexSl, c_indexArr, c_elemArr, c_indexStr, c_extract, c_lenStr, c_lenSl, c_append, c_real, c_imag, c_complex, c_min, c_max, c_clear, z_ops, z_nil, z_cons, z_guard, z_some, z_drop, z_do, z_not, z_not0, pairK, forall_eq_or_imp, stays, loadOf, List.reverse_cons, List.reverse_nil, List.mem_cons, List.not_mem_nil, or_false, forall_eq, true_or, or_true, Bool.true_and, endK, resA, tupA, hlen, h0, h1, h2, c1, hby, hg1, hs1, hgx, c65, hw, c110, hr0, hb0, hlv]
      · have hb0 : decide (2000 < r.z + l) = false := decide_eq_false hbig
        simp only [hroom0, hbig, or_self, if_false]
        simp only [objC] at hg1 hs1 hgx hlv c1 ⊢
        simp only [f95, x_seq, x_block, x_skip, x_label, x_cond, x_exit, x_goto, x_ret, k_normal, k_exit, k_goto, k_ret, b_normal, b_exit, b_goto, b_ret, wantedA, aop, ev, putA, List.length_cons, List.length_nil, List.replicate, List.cons_append, List.nil_append, List.append_nil, List.append_assoc, gs_same, gs_ne, gq_same, gq_ne, List.length_set, List.map_cons, List.map_nil, cellsOf, List.all_cons, List.all_nil, cellOk, boxTy, Bool.and_true, Bool.and_self, if_true, ite_true, ite_false, loadAt, storeAt, setAt, hget, hget0, hset, hset0, List.getElem?_cons_zero, List.getElem?_cons_succ, List.set_cons_zero, List.set_cons_succ, Nat.add_zero, Nat.zero_add, Nat.reduceAdd, Nat.reduceSub, Nat.reduceLeDiff, Nat.reduceLT, Nat.reduceEqDiff, Nat.le_refl, and_self, and_true, true_and, mkAgg, toIms, List.drop_zero, List.drop_succ_cons, List.take_succ_cons, List.take_zero, List.length_append, binBool, unA, Bool.false_eq_true, if_false, partA, fillA, fillE, List.take_nil, Nat.zero_ne_one, Nat.one_ne_zero, not_false_eq_true, ne_eq, Nat.succ_ne_self, reduceCtorEq, Int.reduceEq, Int.reduceLT, Int.reduceLE, decide_true, decide_false, lenA, beq_self_eq_true, beq_true, beq_false, Bool.not_true, Bool.not_false, b_lss, b_gtr, b_leq, b_geq, b_eql, b_neq, b_add, b_sub, b_mul, s_eql, s_neq, y_ops, y_nil, y_cons, y_guard, y_some, y_drop, y_do, y_not, y_not0, c_call, c_clo, c_move, c_pick, c_alloc, c_box, c_build, c_bslice, c_load, c_store, c_nilCheck, c_bin, c_binB, c_un, c_i2i, c_i2f, c_f2i, c_s2b, c_b2s, c_strId, c_mkfunc, c_mkslice, c_slice, c_sliceStr, c_fieldAddr, c_field, c_indexSl, c_indexArr, c_elemArr, c_indexStr, c_extract, c_lenStr, c_lenSl, c_append, c_real, c_imag, c_complex, c_min, c_max, c_clear, z_ops, z_nil, z_cons, z_guard, z_some, z_drop, z_do, z_not, z_not0, pairK, forall_eq_or_imp, stays, loadOf, List.reverse_cons, List.reverse_nil, List.mem_cons, List.not_mem_nil, or_false, forall_eq, true_or, or_true, Bool.true_and, endK, resA, tupA, hlen, h0, h1, h2, c1, hby, hg1, hs1, hgx, c65, hw, hr0, hb0, hlv]

end Go.Abs.Seat
end
section
set_option linter.unusedVariables false
set_option linter.unusedSimpArgs false
/- The scopes of functions, with the code behind their labels by name. -/
set_option linter.unusedVariables false
namespace Go.Abs.Seat
open Go.Proofs
def w93_1 : ACode := (.seq (.seq (.ops [⟨(some 38), (.move (.t 0)), none⟩, ⟨(some 39), (.nilCheck (.t 38)), none⟩, ⟨(some 40), (.fieldAddr 3 (.t 39)), none⟩, ⟨(some 41), (.load none (.t 40)), none⟩, ⟨(some 42), (.bin .eql (.t 41) (.c (.im (.int .i64 0)))), none⟩] []) (.cond (.t 42) (.goto 0) .skip)) (.seq (.ops [⟨(some 2), (.move (.c (.im (.str [])))), none⟩] []) .ret))
def w93_0 : ACode := (.seq (.ops [⟨(some 5), (.move (.t 0)), none⟩, ⟨(some 6), (.call (.c (.clo 92 [])) [(.t 5), (.c (.im (.int .u8 255)))]), none⟩, ⟨(some 4), (.move (.t 6)), none⟩] []) (.seq (.seq (.ops [⟨(some 7), (.move (.t 4)), none⟩, ⟨(some 8), (.bin .neq (.t 7) (.c (.im (.int .u8 0)))), none⟩] []) (.cond (.t 8) (.seq (.seq (.ops [⟨(some 9), (.move (.t 3)), none⟩, ⟨(some 10), (.lenSl (.t 9)), none⟩, ⟨(some 11), (.bin .eql (.t 10) (.c (.im (.int .i64 256)))), none⟩] []) (.cond (.t 11) (.ops [⟨(some 12), (.move (.t 0)), none⟩, ⟨(some 13), (.call (.c (.clo 110 [])) [(.t 12)]), none⟩] []) .skip)) (.seq (.ops [⟨(some 14), (.move (.t 3)), none⟩, ⟨(some 15), (.move (.t 4)), none⟩, ⟨(some 16), (.bslice false 1 1 [(.im (.int .u8 0))] [(0, (.t 15))]), none⟩, ⟨(some 17), (.append 5 1 1 (.t 14) (.t 16)), none⟩, ⟨(some 3), (.move (.t 17)), none⟩] []) (.goto 1))) .skip)) (.seq (.seq (.ops [⟨(some 18), (.move (.t 0)), none⟩, ⟨(some 19), (.call (.c (.clo 92 [])) [(.t 18), (.c (.im (.int .u8 255)))]), none⟩, ⟨(some 4), (.move (.t 19)), none⟩] []) (.block 0 (.seq (.ops [⟨(some 21), (.move (.t 4)), none⟩, ⟨(some 22), (.bin .eql (.t 21) (.c (.im (.int .u8 0)))), none⟩, ⟨(some 20), (.move (.t 22)), none⟩] []) (.cond (.t 20) (.seq (.ops [⟨(some 23), (.move (.t 3)), none⟩, ⟨(some 24), (.b2s (.t 23)), none⟩, ⟨(some 2), (.move (.t 24)), none⟩] []) .ret) (.seq (.ops [⟨(some 26), (.move (.t 4)), none⟩, ⟨(some 27), (.bin .neq (.t 26) (.c (.im (.int .u8 255)))), none⟩, ⟨(some 28), (.move (.t 27)), none⟩, ⟨(some 29), (.move (.t 3)), (some (28, false))⟩, ⟨(some 30), (.lenSl (.t 29)), (some (28, false))⟩, ⟨(some 31), (.bin .eql (.t 30) (.c (.im (.int .i64 256)))), (some (28, false))⟩, ⟨(some 32), (.pick (.t 28) (.c (.im (.bool true))) (.t 31)), none⟩, ⟨(some 25), (.move (.t 32)), none⟩] []) (.cond (.t 25) (.ops [⟨(some 33), (.move (.t 0)), none⟩, ⟨(some 34), (.call (.c (.clo 110 [])) [(.t 33)]), none⟩] []) .skip)))))) (.seq (.ops [⟨(some 35), (.move (.t 3)), none⟩, ⟨(some 36), (.bslice false 1 1 [(.im (.int .u8 0))] [(0, (.c (.im (.int .u8 0))))]), none⟩, ⟨(some 37), (.append 5 1 1 (.t 35) (.t 36)), none⟩, ⟨(some 3), (.move (.t 37)), none⟩] []) (.seq (.label 1) w93_1)))))
def s93b : ACode := (.seq (.ops [⟨(some 3), (.move (.c .nils)), none⟩] []) (.seq (.label 0) w93_0))
theorem s93b_eq : c93_0 = .scope s93b s93b := rfl
noncomputable def K93 (e : AEx) (tm : List AV) (H : Heap) : Option Out := match e with
    | .goto l => match findA s93b l with
      | some rest => Λ (.scope s93b rest) tm H
      | none => none
    | .normal => some (.normal, tm, H)
    | .exit i => some (.exit i, tm, H)
    | .ret => some (.ret, tm, H)
theorem K93_normal (tm : List AV) (H : Heap) : K93 .normal tm H = some (.normal, tm, H) := _root_.id rfl
theorem K93_ret (tm : List AV) (H : Heap) : K93 .ret tm H = some (.ret, tm, H) := _root_.id rfl
theorem K93_exit (i : Nat) (tm : List AV) (H : Heap) : K93 (.exit i) tm H = some (.exit i, tm, H) := _root_.id rfl
theorem c93_0_eq (tm : List AV) (H : Heap) : Λ c93_0 tm H = exec0 L Λ s93b tm H K93 := by
  rw [s93b_eq]; exact scope_eq
def g93_0 : ACode := .scope s93b (.seq .skip w93_0)
theorem K93_goto0 (tm : List AV) (H : Heap) : K93 (.goto 0) tm H = Λ g93_0 tm H := by
  have h : findA s93b 0 = some (.seq .skip w93_0) := rfl
  simp only [K93, h, g93_0]
theorem g93_0_eq (tm : List AV) (H : Heap) : Λ g93_0 tm H = exec0 L Λ w93_0 tm H K93 := by
  rw [g93_0]; exact scope_eq
def g93_1 : ACode := .scope s93b (.seq .skip w93_1)
theorem K93_goto1 (tm : List AV) (H : Heap) : K93 (.goto 1) tm H = Λ g93_1 tm H := by
  have h : findA s93b 1 = some (.seq .skip w93_1) := rfl
  simp only [K93, h, g93_1]
theorem g93_1_eq (tm : List AV) (H : Heap) : Λ g93_1 tm H = exec0 L Λ w93_1 tm H K93 := by
  rw [g93_1]; exact scope_eq
end Go.Abs.Seat
end
section
set_option linter.unusedVariables false
set_option linter.unusedSimpArgs false
/- What the coder's functions come to: the reader's text. -/
set_option linter.unusedVariables false
set_option linter.unusedSimpArgs false
namespace Go.Abs.Seat
open Go.Proofs

/-- A text, behind what has been read of it. -/
def textR (b : List UInt8) : Nat → RS → List UInt8 → List UInt8 × RS
  | 0, r, out => ([], r)
  | f + 1, r, out =>
    if (oneR b r 255).1 ≠ 0 then
      (if (if out.length = 256 then refuseR (oneR b r 255).2 else (oneR b r 255).2).e = 0 then textR b f (if out.length = 256 then refuseR (oneR b r 255).2 else (oneR b r 255).2) (out ++ [(oneR b r 255).1]) else ([], if out.length = 256 then refuseR (oneR b r 255).2 else (oneR b r 255).2))
    else if (oneR b (oneR b r 255).2 255).1 = 0 then (out, (oneR b (oneR b r 255).2 255).2)
    else
      (if (if (oneR b (oneR b r 255).2 255).1 ≠ 255 ∨ out.length = 256 then refuseR (oneR b (oneR b r 255).2 255).2 else (oneR b (oneR b r 255).2 255).2).e = 0 then textR b f (if (oneR b (oneR b r 255).2 255).1 ≠ 255 ∨ out.length = 256 then refuseR (oneR b (oneR b r 255).2 255).2 else (oneR b (oneR b r 255).2 255).2) (out ++ [0]) else ([], if (oneR b (oneR b r 255).2 255).1 ≠ 255 ∨ out.length = 256 then refuseR (oneR b (oneR b r 255).2 255).2 else (oneR b (oneR b r 255).2 255).2))

theorem bytesOf_map : ∀ l : List UInt8, bytesOf (l.map fun b => [byteDat b]) = some l
  | [] => rfl
  | b :: l => by
    have h := bytesOf_map l
    simp only [List.map_cons, byteDat, bytesOf]
    simp only [byteDat] at h
    rw [h]
    simp

theorem g93 (b : List UInt8) (s ir n : Nat) (H0 : Heap) (hn : n = H0.length) (hirn : ir < n) (hs : b = [] ∨ s = 1) (hb : b.length ≤ 4611686018427387904) :
    ∀ (f : Nat) (r : RS) (out : List UInt8) (tm : List AV) (H : Heap) (v : AV), b.length < r.p + f → r.p ≤ b.length → out.length ≤ 256 → tm.length = 43 → tm.getD 0 undefA = .ptr ir 0 0 → tm.getD 3 undefA = v → Gath 5 1 n v H (out.map fun b => [byteDat b]) → H[ir]? = some (objC s b r) → But n ir H0 H →
    ∃ tm' H', Λ g93_0 tm H = some (.ret, tm', H') ∧ tm'.length = 43 ∧ tm'.getD 2 undefA = .im (.str (textR b f r out).1) ∧ H'[ir]? = some (objC s b (textR b f r out).2) ∧ But n ir H0 H' := by
  intro f
  induction f with
  | zero => intro r out tm H v hf hp _ _ _ _ _ _ _; omega
  | succ f ih =>
    intro r out tm H v hf hp ho hlen h0 h3 hG oir hbut
    have hirH : ir < H.length := (List.getElem?_eq_some_iff.1 oir).1
    have c1 := s92 b s ir 255 r (by decide) hs hb hp H oir
    obtain ⟨p1, p1', z1, m1, e1⟩ := oneR_p (m := 255) hp
    have k255 : ((255 : Nat) : Int) = 255 := rfl
    rw [k255] at c1
    simp only [textR]
    generalize hq1 : oneR b r 255 = q1 at *
    obtain ⟨v1, r1⟩ := q1
    simp only at p1 p1' c1 m1 e1 ⊢
    have oir1 : (H.set ir (objC s b r1))[ir]? = some (objC s b r1) := List.getElem?_set_self hirH
    have hb1 := hbut.set (objC s b r1)
    have hG1 := hG.set_obj oir (objC s b r1)
    have hby : decide (((v1.toNat : Nat) : Int) = 0) = decide (v1 = 0) := byte_eq v1 0
    simp only [byteDat] at c1
    have hlenA : ∀ v, (v = AV.nils ∧ out = [] ∨ ∃ tok, v = .asl 1 (out.map fun b => [byteDat b]) tok) → lenA v = some out.length := by
      rintro v (⟨rfl, rfl⟩ | ⟨tok, rfl⟩)
      · rfl
      · simp [lenA]
    have hvc : v = AV.nils ∧ out = [] ∨ ∃ tok, v = .asl 1 (out.map fun b => [byteDat b]) tok := by
      rcases hG with ⟨he, rfl⟩ | ⟨_, tok, _, rfl, _⟩
      · exact .inl ⟨rfl, by simpa using he⟩
      · exact .inr ⟨tok, rfl⟩
    have hlA := hlenA v hvc
    have hnH : n ≤ H.length := by have := hbut.1; omega
    -- the rest behind label 1
    have tail : ∀ (tm1 : List AV) (H1 : Heap) (r' : RS) (out' : List UInt8) (v' : AV), (r'.e = 0 → b.length < r'.p + f) → r'.p ≤ b.length → (r'.e = 0 → out'.length ≤ 256) → tm1.length = 43 → tm1.getD 0 undefA = .ptr ir 0 0 → tm1.getD 3 undefA = v' → Gath 5 1 n v' H1 (out'.map fun b => [byteDat b]) → H1[ir]? = some (objC s b r') → But n ir H0 H1 →
        ∃ tm' H', Λ g93_1 tm1 H1 = some (.ret, tm', H') ∧ tm'.length = 43 ∧ tm'.getD 2 undefA = .im (.str (if r'.e = 0 then textR b f r' out' else ([], r')).1) ∧ H'[ir]? = some (objC s b (if r'.e = 0 then textR b f r' out' else ([], r')).2) ∧ But n ir H0 H' := by
      intro tm1 H1 r' out' v' hf' hp' ho' hlen' h0' h3' hG' oir' hbut'
      rw [g93_1_eq]
      by_cases he : r'.e = 0
      · have hde : decide (r'.e = 0) = true := decide_eq_true he
        simp only [if_pos he]
        simp only [objC] at oir'
        simp only [w93_1, x_seq, x_block, x_skip, x_label, x_cond, x_exit, x_goto, x_ret, k_normal, k_exit, k_goto, k_ret, b_normal, b_exit, b_goto, b_ret, wantedA, aop, ev, putA, List.length_cons, List.length_nil, List.replicate, List.cons_append, List.nil_append, List.append_nil, List.append_assoc, gs_same, gs_ne, gq_same, gq_ne, List.length_set, List.map_cons, List.map_nil, cellsOf, List.all_cons, List.all_nil, cellOk, boxTy, Bool.and_true, Bool.and_self, if_true, ite_true, ite_false, loadAt, storeAt, setAt, hget, hget0, hset, hset0, List.getElem?_cons_zero, List.getElem?_cons_succ, List.set_cons_zero, List.set_cons_succ, Nat.add_zero, Nat.zero_add, Nat.reduceAdd, Nat.reduceSub, Nat.reduceLeDiff, Nat.reduceLT, Nat.reduceEqDiff, Nat.le_refl, and_self, and_true, true_and, mkAgg, toIms, List.drop_zero, List.drop_succ_cons, List.take_succ_cons, List.take_zero, List.length_append, binBool, unA, Bool.false_eq_true, if_false, partA, fillA, fillE, List.take_nil, Nat.zero_ne_one, Nat.one_ne_zero, not_false_eq_true, ne_eq, Nat.succ_ne_self, reduceCtorEq, Int.reduceEq, Int.reduceLT, Int.reduceLE, decide_true, decide_false, beq_self_eq_true, beq_true, beq_false, Bool.not_true, Bool.not_false, b_lss, b_gtr, b_leq, b_geq, b_eql, b_neq, b_add, b_sub, b_mul, s_eql, s_neq, y_ops, y_nil, y_cons, y_guard, y_some, y_drop, y_do, y_not, y_not0, c_call, c_clo, c_move, c_pick, c_alloc, c_box, c_build, c_bslice, c_load, c_store, c_nilCheck, c_bin, c_binB, c_un, c_i2i, c_i2f, c_f2i, c_s2b, c_b2s, c_strId, c_mkfunc, c_mkslice, c_slice, c_sliceStr, c_fieldAddr, c_field, c_indexSl, c_indexArr, c_elemArr, c_indexStr, c_extract, c_lenStr, c_lenSl, c_append, c_real, c_imag, c_complex, c_min, c_max, c_clear, hlen', h0', oir', hde, K93_goto0]
        exact ih r' out' _ _ v' (hf' he) hp' (ho' he) (by simp only [List.length_set, hlen']) (by simp only [gs_same, gs_ne, List.length_set, Nat.reduceLT, Nat.reduceEqDiff, not_false_eq_true, hlen', h0']) (by simp only [gs_same, gs_ne, List.length_set, Nat.reduceLT, Nat.reduceEqDiff, not_false_eq_true, hlen', h3']) hG' (by simpa only [objC] using oir') hbut'
      · have hde : decide (r'.e = 0) = false := decide_eq_false he
        simp only [if_neg he]
        have oir2 := oir'
        simp only [objC] at oir'
        simp only [w93_1, x_seq, x_block, x_skip, x_label, x_cond, x_exit, x_goto, x_ret, k_normal, k_exit, k_goto, k_ret, b_normal, b_exit, b_goto, b_ret, wantedA, aop, ev, putA, List.length_cons, List.length_nil, List.replicate, List.cons_append, List.nil_append, List.append_nil, List.append_assoc, gs_same, gs_ne, gq_same, gq_ne, List.length_set, List.map_cons, List.map_nil, cellsOf, List.all_cons, List.all_nil, cellOk, boxTy, Bool.and_true, Bool.and_self, if_true, ite_true, ite_false, loadAt, storeAt, setAt, hget, hget0, hset, hset0, List.getElem?_cons_zero, List.getElem?_cons_succ, List.set_cons_zero, List.set_cons_succ, Nat.add_zero, Nat.zero_add, Nat.reduceAdd, Nat.reduceSub, Nat.reduceLeDiff, Nat.reduceLT, Nat.reduceEqDiff, Nat.le_refl, and_self, and_true, true_and, mkAgg, toIms, List.drop_zero, List.drop_succ_cons, List.take_succ_cons, List.take_zero, List.length_append, binBool, unA, Bool.false_eq_true, if_false, partA, fillA, fillE, List.take_nil, Nat.zero_ne_one, Nat.one_ne_zero, not_false_eq_true, ne_eq, Nat.succ_ne_self, reduceCtorEq, Int.reduceEq, Int.reduceLT, Int.reduceLE, decide_true, decide_false, beq_self_eq_true, beq_true, beq_false, Bool.not_true, Bool.not_false, b_lss, b_gtr, b_leq, b_geq, b_eql, b_neq, b_add, b_sub, b_mul, s_eql, s_neq, y_ops, y_nil, y_cons, y_guard, y_some, y_drop, y_do, y_not, y_not0, c_call, c_clo, c_move, c_pick, c_alloc, c_box, c_build, c_bslice, c_load, c_store, c_nilCheck, c_bin, c_binB, c_un, c_i2i, c_i2f, c_f2i, c_s2b, c_b2s, c_strId, c_mkfunc, c_mkslice, c_slice, c_sliceStr, c_fieldAddr, c_field, c_indexSl, c_indexArr, c_elemArr, c_indexStr, c_extract, c_lenStr, c_lenSl, c_append, c_real, c_imag, c_complex, c_min, c_max, c_clear, hlen', h0', oir', hde, K93_ret]
        exact ⟨_, _, rfl, by simp only [List.length_set, hlen'], by simp only [gs_same, gs_ne, List.length_set, Nat.reduceLT, Nat.reduceEqDiff, not_false_eq_true, hlen'], oir2, hbut'⟩
    by_cases hv : v1 = 0
    · -- a nought, or the end
      rw [decide_eq_true hv] at hby
      have hv' : ¬ (v1 ≠ 0) := fun h => h hv
      simp only [if_neg hv']
      have c2 := s92 b s ir 255 r1 (by decide) hs hb p1 _ oir1
      obtain ⟨p2, p2', z2, m2, e2⟩ := oneR_p (m := 255) p1
      rw [k255, List.set_set] at c2
      generalize hq2 : oneR b r1 255 = q2 at *
      obtain ⟨v2, r2⟩ := q2
      simp only at p2 p2' c2 m2 e2 ⊢
      have oir2 : (H.set ir (objC s b r2))[ir]? = some (objC s b r2) := List.getElem?_set_self hirH
      have hb2 := hbut.set (objC s b r2)
      have hG2 := hG.set_obj oir (objC s b r2)
      have hby2 : decide (((v2.toNat : Nat) : Int) = 0) = decide (v2 = 0) := byte_eq v2 0
      have hby3 : decide (((v2.toNat : Nat) : Int) = 255) = decide (v2 = 255) := byte_eq v2 255
      simp only [byteDat] at c2
      rw [g93_0_eq]
      by_cases hv2 : v2 = 0
      · rw [decide_eq_true hv2] at hby2
        simp only [if_pos hv2]
        have hstr : ∀ v, (v = AV.nils ∧ out = [] ∨ ∃ tok, v = .asl 1 (out.map fun b => [byteDat b]) tok) → ∀ H' : Heap, (match v with
            | .im (.sl s es) => if s = 1 then match bytesOf es with
                | some b => some (AV.im (.str b), H')
                | none => none
              else none
            | .asl s es _ => if s = 1 then match bytesOf es with
                | some b => some (AV.im (.str b), H')
                | none => none
              else none
            | .nils => some (.im (.str []), H')
            | _ => none) = some (.im (.str out), H') := by
          rintro v (⟨rfl, rfl⟩ | ⟨tok, rfl⟩) H'
          · rfl
          · simp [bytesOf_map]
        rcases hvc with ⟨rfl, rfl⟩ | ⟨tok, rfl⟩
        · simp only [w93_0, x_seq, x_block, x_skip, x_label, x_cond, x_exit, x_goto, x_ret, k_normal, k_exit, k_goto, k_ret, b_normal, b_exit, b_goto, b_ret, wantedA, aop, ev, putA, List.length_cons, List.length_nil, List.replicate, List.cons_append, List.nil_append, List.append_nil, List.append_assoc, gs_same, gs_ne, gq_same, gq_ne, List.length_set, List.map_cons, List.map_nil, cellsOf, List.all_cons, List.all_nil, cellOk, boxTy, Bool.and_true, Bool.and_self, if_true, ite_true, ite_false, loadAt, storeAt, setAt, hget, hget0, hset, hset0, List.getElem?_cons_zero, List.getElem?_cons_succ, List.set_cons_zero, List.set_cons_succ, Nat.add_zero, Nat.zero_add, Nat.reduceAdd, Nat.reduceSub, Nat.reduceLeDiff, Nat.reduceLT, Nat.reduceEqDiff, Nat.le_refl, and_self, and_true, true_and, mkAgg, toIms, List.drop_zero, List.drop_succ_cons, List.take_succ_cons, List.take_zero, List.length_append, binBool, unA, Bool.false_eq_true, if_false, partA, fillA, fillE, List.take_nil, Nat.zero_ne_one, Nat.one_ne_zero, not_false_eq_true, ne_eq, Nat.succ_ne_self, reduceCtorEq, Int.reduceEq, Int.reduceLT, Int.reduceLE, decide_true, decide_false, beq_self_eq_true, beq_true, beq_false, Bool.not_true, Bool.not_false, b_lss, b_gtr, b_leq, b_geq, b_eql, b_neq, b_add, b_sub, b_mul, s_eql, s_neq, y_ops, y_nil, y_cons, y_guard, y_some, y_drop, y_do, y_not, y_not0, c_call, c_clo, c_move, c_pick, c_alloc, c_box, c_build, c_bslice, c_load, c_store, c_nilCheck, c_bin, c_binB, c_un, c_i2i, c_i2f, c_f2i, c_s2b, c_b2s, c_strId, c_mkfunc, c_mkslice, c_slice, c_sliceStr, c_fieldAddr, c_field, c_indexSl, c_indexArr, c_elemArr, c_indexStr, c_extract, c_lenStr, c_lenSl, c_append, c_real, c_imag, c_complex, c_min, c_max, c_clear, hlen, h0, h3, c1, c2, hby, hby2, K93_ret]
          exact ⟨_, _, rfl, by simp only [List.length_set, hlen], by simp only [gs_same, gs_ne, List.length_set, Nat.reduceLT, Nat.reduceEqDiff, not_false_eq_true, hlen], oir2, hb2⟩
        · simp only [w93_0, x_seq, x_block, x_skip, x_label, x_cond, x_exit, x_goto, x_ret, k_normal, k_exit, k_goto, k_ret, b_normal, b_exit, b_goto, b_ret, wantedA, aop, ev, putA, List.length_cons, List.length_nil, List.replicate, List.cons_append, List.nil_append, List.append_nil, List.append_assoc, gs_same, gs_ne, gq_same, gq_ne, List.length_set, List.map_cons, List.map_nil, cellsOf, List.all_cons, List.all_nil, cellOk, boxTy, Bool.and_true, Bool.and_self, if_true, ite_true, ite_false, loadAt, storeAt, setAt, hget, hget0, hset, hset0, List.getElem?_cons_zero, List.getElem?_cons_succ, List.set_cons_zero, List.set_cons_succ, Nat.add_zero, Nat.zero_add, Nat.reduceAdd, Nat.reduceSub, Nat.reduceLeDiff, Nat.reduceLT, Nat.reduceEqDiff, Nat.le_refl, and_self, and_true, true_and, mkAgg, toIms, List.drop_zero, List.drop_succ_cons, List.take_succ_cons, List.take_zero, List.length_append, binBool, unA, Bool.false_eq_true, if_false, partA, fillA, fillE, List.take_nil, Nat.zero_ne_one, Nat.one_ne_zero, not_false_eq_true, ne_eq, Nat.succ_ne_self, reduceCtorEq, Int.reduceEq, Int.reduceLT, Int.reduceLE, decide_true, decide_false, beq_self_eq_true, beq_true, beq_false, Bool.not_true, Bool.not_false, b_lss, b_gtr, b_leq, b_geq, b_eql, b_neq, b_add, b_sub, b_mul, s_eql, s_neq, y_ops, y_nil, y_cons, y_guard, y_some, y_drop, y_do, y_not, y_not0, c_call, c_clo, c_move, c_pick, c_alloc, c_box, c_build, c_bslice, c_load, c_store, c_nilCheck, c_bin, c_binB, c_un, c_i2i, c_i2f, c_f2i, c_s2b, c_b2s, c_strId, c_mkfunc, c_mkslice, c_slice, c_sliceStr, c_fieldAddr, c_field, c_indexSl, c_indexArr, c_elemArr, c_indexStr, c_extract, c_lenStr, c_lenSl, c_append, c_real, c_imag, c_complex, c_min, c_max, c_clear, hlen, h0, h3, c1, c2, hby, hby2, bytesOf_map, K93_ret]
          exact ⟨_, _, rfl, by simp only [List.length_set, hlen], by simp only [gs_same, gs_ne, List.length_set, Nat.reduceLT, Nat.reduceEqDiff, not_false_eq_true, hlen], oir2, hb2⟩
      · rw [decide_eq_false hv2] at hby2
        obtain ⟨he1, he2, hp2⟩ := e2 hv2
        simp only [if_neg hv2]
        by_cases hbad : v2 ≠ 255 ∨ out.length = 256
        · simp only [if_pos hbad]
          have c110 := s110 b s ir r2 hb p2 (fun _ => by omega) _ oir2
          rw [List.set_set] at c110
          have oir3 : (H.set ir (objC s b (refuseR r2)))[ir]? = some (objC s b (refuseR r2)) := List.getElem?_set_self hirH
          have hb3 := hbut.set (objC s b (refuseR r2))
          have hG3 := hG.set_obj oir (objC s b (refuseR r2))
          obtain ⟨tok, H4, hap, hG4, hl4, hlow4, hob4⟩ := hG3.grow (bytes := 1) (by simpa using hnH) [byteDat 0] (by simp; omega) (by decide)
          have hap' : appendA (H.set ir (objC s b (refuseR r2))) 5 1 1 v [[.int .u8 0]] = some (.asl 1 (out.map (fun b => [byteDat b]) ++ [[.int .u8 0]]) tok, H4) := hap
          have oir4 : H4[ir]? = some (objC s b (refuseR r2)) := hob4 _ _ _ oir3
          have hb4 : But n ir H0 H4 := ⟨by have := hb3.1; omega, fun i hi hne => by rw [hlow4 i hi]; exact hb3.2 i hi hne⟩
          have hee : (refuseR r2).e ≠ 0 := by unfold refuseR; rw [if_pos he2]; exact (by decide : (31 : Int) ≠ 0)
          have hpp : (refuseR r2).p ≤ b.length := by unfold refuseR; rw [if_pos he2]; simp only; omega
          have ht := fun tm1 a1 a2 a3 => tail tm1 H4 (refuseR r2) (out ++ [0]) (.asl 1 (out.map (fun b => [byteDat b]) ++ [[.int .u8 0]]) tok) (fun h => absurd h hee) hpp (fun h => absurd h hee) a1 a2 a3 (by simpa [byteDat] using hG4) oir4 hb4
          by_cases h255 : v2 = 255
          · have ho256 : out.length = 256 := by
              rcases hbad with h | h
              · exact absurd h255 h
              · exact h
            rw [decide_eq_true h255] at hby3
            have hdl : decide ((out.length : Int) = 256) = true := decide_eq_true (by omega)
            simp only [w93_0, x_seq, x_block, x_skip, x_label, x_cond, x_exit, x_goto, x_ret, k_normal, k_exit, k_goto, k_ret, b_normal, b_exit, b_goto, b_ret, wantedA, aop, ev, putA, List.length_cons, List.length_nil, List.replicate, List.cons_append, List.nil_append, List.append_nil, List.append_assoc, gs_same, gs_ne, gq_same, gq_ne, List.length_set, List.map_cons, List.map_nil, cellsOf, List.all_cons, List.all_nil, cellOk, boxTy, Bool.and_true, Bool.and_self, if_true, ite_true, ite_false, loadAt, storeAt, setAt, hget, hget0, hset, hset0, List.getElem?_cons_zero, List.getElem?_cons_succ, List.set_cons_zero, List.set_cons_succ, Nat.add_zero, Nat.zero_add, Nat.reduceAdd, Nat.reduceSub, Nat.reduceLeDiff, Nat.reduceLT, Nat.reduceEqDiff, Nat.le_refl, and_self, and_true, true_and, mkAgg, toIms, List.drop_zero, List.drop_succ_cons, List.take_succ_cons, List.take_zero, List.length_append, binBool, unA, Bool.false_eq_true, if_false, partA, fillA, fillE, List.take_nil, Nat.zero_ne_one, Nat.one_ne_zero, not_false_eq_true, ne_eq, Nat.succ_ne_self, reduceCtorEq, Int.reduceEq, Int.reduceLT, Int.reduceLE, decide_true, decide_false, beq_self_eq_true, beq_true, beq_false, Bool.not_true, Bool.not_false, b_lss, b_gtr, b_leq, b_geq, b_eql, b_neq, b_add, b_sub, b_mul, s_eql, s_neq, y_ops, y_nil, y_cons, y_guard, y_some, y_drop, y_do, y_not, y_not0, c_call, c_clo, c_move, c_pick, c_alloc, c_box, c_build, c_bslice, c_load, c_store, c_nilCheck, c_bin, c_binB, c_un, c_i2i, c_i2f, c_f2i, c_s2b, c_b2s, c_strId, c_mkfunc, c_mkslice, c_slice, c_sliceStr, c_fieldAddr, c_field, c_indexSl, c_indexArr, c_elemArr, c_indexStr, c_extract, c_lenStr, c_lenSl, c_append, c_real, c_imag, c_complex, c_min, c_max, c_clear, elems, toDatss, toDats, toDat, hlen, h0, h3, c1, c2, hby, hby2, hby3, hlA, hdl, c110, hap']
            rw [← g93_1_eq]
            exact ht _ (by simp only [List.length_set, hlen]) (by simp only [gs_same, gs_ne, List.length_set, Nat.reduceLT, Nat.reduceEqDiff, not_false_eq_true, hlen, h0]) (by simp only [gs_same, gs_ne, List.length_set, Nat.reduceLT, Nat.reduceEqDiff, not_false_eq_true, hlen])
          · rw [decide_eq_false h255] at hby3
            simp only [w93_0, x_seq, x_block, x_skip, x_label, x_cond, x_exit, x_goto, x_ret, k_normal, k_exit, k_goto, k_ret, b_normal, b_exit, b_goto, b_ret, wantedA, aop, ev, putA, List.length_cons, List.length_nil, List.replicate, List.cons_append, List.nil_append, List.append_nil, List.append_assoc, gs_same, gs_ne, gq_same, gq_ne, List.length_set, List.map_cons, List.map_nil, cellsOf, List.all_cons, List.all_nil, cellOk, boxTy, Bool.and_true, Bool.and_self, if_true, ite_true, ite_false, loadAt, storeAt, setAt, hget, hget0, hset, hset0, List.getElem?_cons_zero, List.getElem?_cons_succ, List.set_cons_zero, List.set_cons_succ, Nat.add_zero, Nat.zero_add, Nat.reduceAdd, Nat.reduceSub, Nat.reduceLeDiff, Nat.reduceLT, Nat.reduceEqDiff, Nat.le_refl, and_self, and_true, true_and, mkAgg, toIms, List.drop_zero, List.drop_succ_cons, List.take_succ_cons, List.take_zero, List.length_append, binBool, unA, Bool.false_eq_true, if_false, partA, fillA, fillE, List.take_nil, Nat.zero_ne_one, Nat.one_ne_zero, not_false_eq_true, ne_eq, Nat.succ_ne_self, reduceCtorEq, Int.reduceEq, Int.reduceLT, Int.reduceLE, decide_true, decide_false, beq_self_eq_true, beq_true, beq_false, Bool.not_true, Bool.not_false, b_lss, b_gtr, b_leq, b_geq, b_eql, b_neq, b_add, b_sub, b_mul, s_eql, s_neq, y_ops, y_nil, y_cons, y_guard, y_some, y_drop, y_do, y_not, y_not0, c_call, c_clo, c_move, c_pick, c_alloc, c_box, c_build, c_bslice, c_load, c_store, c_nilCheck, c_bin, c_binB, c_un, c_i2i, c_i2f, c_f2i, c_s2b, c_b2s, c_strId, c_mkfunc, c_mkslice, c_slice, c_sliceStr, c_fieldAddr, c_field, c_indexSl, c_indexArr, c_elemArr, c_indexStr, c_extract, c_lenStr, c_lenSl, c_append, c_real, c_imag, c_complex, c_min, c_max, c_clear, elems, toDatss, toDats, toDat, hlen, h0, h3, c1, c2, hby, hby2, hby3, c110, hap']
            rw [← g93_1_eq]
            exact ht _ (by simp only [List.length_set, hlen]) (by simp only [gs_same, gs_ne, List.length_set, Nat.reduceLT, Nat.reduceEqDiff, not_false_eq_true, hlen, h0]) (by simp only [gs_same, gs_ne, List.length_set, Nat.reduceLT, Nat.reduceEqDiff, not_false_eq_true, hlen])
        · simp only [if_neg hbad]
          have h255 : v2 = 255 := by
            by_cases h : v2 = 255
            · exact h
            · exact absurd (.inl h) hbad
          have ho256 : out.length ≠ 256 := fun h => hbad (.inr h)
          rw [decide_eq_true h255] at hby3
          have hdl : decide ((out.length : Int) = 256) = false := decide_eq_false (by omega)
          obtain ⟨tok, H4, hap, hG4, hl4, hlow4, hob4⟩ := hG2.grow (bytes := 1) (by simpa using hnH) [byteDat 0] (by simp; omega) (by decide)
          have hap' : appendA (H.set ir (objC s b r2)) 5 1 1 v [[.int .u8 0]] = some (.asl 1 (out.map (fun b => [byteDat b]) ++ [[.int .u8 0]]) tok, H4) := hap
          have oir4 : H4[ir]? = some (objC s b r2) := hob4 _ _ _ oir2
          have hb4 : But n ir H0 H4 := ⟨by have := hb2.1; omega, fun i hi hne => by rw [hlow4 i hi]; exact hb2.2 i hi hne⟩
          have ht := fun tm1 a1 a2 a3 => tail tm1 H4 r2 (out ++ [0]) (.asl 1 (out.map (fun b => [byteDat b]) ++ [[.int .u8 0]]) tok) (fun _ => by omega) p2 (fun _ => by simp; omega) a1 a2 a3 (by simpa [byteDat] using hG4) oir4 hb4
          simp only [w93_0, x_seq, x_block, x_skip, x_label, x_cond, x_exit, x_goto, x_ret, k_normal, k_exit, k_goto, k_ret, b_normal, b_exit, b_goto, b_ret, wantedA, aop, ev, putA, List.length_cons, List.length_nil, List.replicate, List.cons_append, List.nil_append, List.append_nil, List.append_assoc, gs_same, gs_ne, gq_same, gq_ne, List.length_set, List.map_cons, List.map_nil, cellsOf, List.all_cons, List.all_nil, cellOk, boxTy, Bool.and_true, Bool.and_self, if_true, ite_true, ite_false, loadAt, storeAt, setAt, hget, hget0, hset, hset0, List.getElem?_cons_zero, List.getElem?_cons_succ, List.set_cons_zero, List.set_cons_succ, Nat.add_zero, Nat.zero_add, Nat.reduceAdd, Nat.reduceSub, Nat.reduceLeDiff, Nat.reduceLT, Nat.reduceEqDiff, Nat.le_refl, and_self, and_true, true_and, mkAgg, toIms, List.drop_zero, List.drop_succ_cons, List.take_succ_cons, List.take_zero, List.length_append, binBool, unA, Bool.false_eq_true, if_false, partA, fillA, fillE, List.take_nil, Nat.zero_ne_one, Nat.one_ne_zero, not_false_eq_true, ne_eq, Nat.succ_ne_self, reduceCtorEq, Int.reduceEq, Int.reduceLT, Int.reduceLE, decide_true, decide_false, beq_self_eq_true, beq_true, beq_false, Bool.not_true, Bool.not_false, b_lss, b_gtr, b_leq, b_geq, b_eql, b_neq, b_add, b_sub, b_mul, s_eql, s_neq, y_ops, y_nil, y_cons, y_guard, y_some, y_drop, y_do, y_not, y_not0, c_call, c_clo, c_move, c_pick, c_alloc, c_box, c_build, c_bslice, c_load, c_store, c_nilCheck, c_bin, c_binB, c_un, c_i2i, c_i2f, c_f2i, c_s2b, c_b2s, c_strId, c_mkfunc, c_mkslice, c_slice, c_sliceStr, c_fieldAddr, c_field, c_indexSl, c_indexArr, c_elemArr, c_indexStr, c_extract, c_lenStr, c_lenSl, c_append, c_real, c_imag, c_complex, c_min, c_max, c_clear, elems, toDatss, toDats, toDat, hlen, h0, h3, c1, c2, hby, hby2, hby3, hlA, hdl, hap']
          rw [← g93_1_eq]
          exact ht _ (by simp only [List.length_set, hlen]) (by simp only [gs_same, gs_ne, List.length_set, Nat.reduceLT, Nat.reduceEqDiff, not_false_eq_true, hlen, h0]) (by simp only [gs_same, gs_ne, List.length_set, Nat.reduceLT, Nat.reduceEqDiff, not_false_eq_true, hlen])
    · rw [decide_eq_false hv] at hby
      obtain ⟨he1, he2, hp2⟩ := e1 hv
      simp only [ne_eq, hv, not_false_eq_true, if_true]
      rw [g93_0_eq]
      by_cases ho256 : out.length = 256
      · have hdl : decide ((out.length : Int) = 256) = true := decide_eq_true (by omega)
        simp only [if_pos ho256]
        have c110 := s110 b s ir r1 hb p1 (fun _ => by omega) _ oir1
        rw [List.set_set] at c110
        have oir3 : (H.set ir (objC s b (refuseR r1)))[ir]? = some (objC s b (refuseR r1)) := List.getElem?_set_self hirH
        have hb3 := hbut.set (objC s b (refuseR r1))
        have hG3 := hG.set_obj oir (objC s b (refuseR r1))
        obtain ⟨tok, H4, hap, hG4, hl4, hlow4, hob4⟩ := hG3.grow (bytes := 1) (by simpa using hnH) [byteDat v1] (by simp; omega) (by decide)
        have hap' : appendA (H.set ir (objC s b (refuseR r1))) 5 1 1 v [[.int .u8 (v1.toNat : Int)]] = some (.asl 1 (out.map (fun b => [byteDat b]) ++ [[.int .u8 (v1.toNat : Int)]]) tok, H4) := hap
        have oir4 : H4[ir]? = some (objC s b (refuseR r1)) := hob4 _ _ _ oir3
        have hb4 : But n ir H0 H4 := ⟨by have := hb3.1; omega, fun i hi hne => by rw [hlow4 i hi]; exact hb3.2 i hi hne⟩
        have hee : (refuseR r1).e ≠ 0 := by unfold refuseR; rw [if_pos he2]; exact (by decide : (31 : Int) ≠ 0)
        have hpp : (refuseR r1).p ≤ b.length := by unfold refuseR; rw [if_pos he2]; simp only; omega
        have ht := fun tm1 a1 a2 a3 => tail tm1 H4 (refuseR r1) (out ++ [v1]) (.asl 1 (out.map (fun b => [byteDat b]) ++ [[.int .u8 (v1.toNat : Int)]]) tok) (fun h => absurd h hee) hpp (fun h => absurd h hee) a1 a2 a3 (by simpa [byteDat] using hG4) oir4 hb4
        simp only [w93_0, x_seq, x_block, x_skip, x_label, x_cond, x_exit, x_goto, x_ret, k_normal, k_exit, k_goto, k_ret, b_normal, b_exit, b_goto, b_ret, wantedA, aop, ev, putA, List.length_cons, List.length_nil, List.replicate, List.cons_append, List.nil_append, List.append_nil, List.append_assoc, gs_same, gs_ne, gq_same, gq_ne, List.length_set, List.map_cons, List.map_nil, cellsOf, List.all_cons, List.all_nil, cellOk, boxTy, Bool.and_true, Bool.and_self, if_true, ite_true, ite_false, loadAt, storeAt, setAt, hget, hget0, hset, hset0, List.getElem?_cons_zero, List.getElem?_cons_succ, List.set_cons_zero, List.set_cons_succ, Nat.add_zero, Nat.zero_add, Nat.reduceAdd, Nat.reduceSub, Nat.reduceLeDiff, Nat.reduceLT, Nat.reduceEqDiff, Nat.le_refl, and_self, and_true, true_and, mkAgg, toIms, List.drop_zero, List.drop_succ_cons, List.take_succ_cons, List.take_zero, List.length_append, binBool, unA, Bool.false_eq_true, if_false, partA, fillA, fillE, List.take_nil, Nat.zero_ne_one, Nat.one_ne_zero, not_false_eq_true, ne_eq, Nat.succ_ne_self, reduceCtorEq, Int.reduceEq, Int.reduceLT, Int.reduceLE, decide_true, decide_false, beq_self_eq_true, beq_true, beq_false, Bool.not_true, Bool.not_false, b_lss, b_gtr, b_leq, b_geq, b_eql, b_neq, b_add, b_sub, b_mul, s_eql, s_neq, y_ops, y_nil, y_cons, y_guard, y_some, y_drop, y_do, y_not, y_not0, c_call, c_clo, c_move, c_pick, c_alloc, c_box, c_build, c_bslice, c_load, c_store, c_nilCheck, c_bin, c_binB, c_un, c_i2i, c_i2f, c_f2i, c_s2b, c_b2s, c_strId, c_mkfunc, c_mkslice, c_slice, c_sliceStr, c_fieldAddr, c_field, c_indexSl, c_indexArr, c_elemArr, c_indexStr, c_extract, c_lenStr, c_lenSl, c_append, c_real, c_imag, c_complex, c_min, c_max, c_clear, elems, toDatss, toDats, toDat, hlen, h0, h3, c1, hby, hlA, hdl, c110, hap', K93_goto1]
        exact ht _ (by simp only [List.length_set, hlen]) (by simp only [gs_same, gs_ne, List.length_set, Nat.reduceLT, Nat.reduceEqDiff, not_false_eq_true, hlen, h0]) (by simp only [gs_same, gs_ne, List.length_set, Nat.reduceLT, Nat.reduceEqDiff, not_false_eq_true, hlen])
      · have hdl : decide ((out.length : Int) = 256) = false := decide_eq_false (by omega)
        simp only [if_neg ho256]
        obtain ⟨tok, H4, hap, hG4, hl4, hlow4, hob4⟩ := hG1.grow (bytes := 1) (by simpa using hnH) [byteDat v1] (by simp; omega) (by decide)
        have hap' : appendA (H.set ir (objC s b r1)) 5 1 1 v [[.int .u8 (v1.toNat : Int)]] = some (.asl 1 (out.map (fun b => [byteDat b]) ++ [[.int .u8 (v1.toNat : Int)]]) tok, H4) := hap
        have oir4 : H4[ir]? = some (objC s b r1) := hob4 _ _ _ oir1
        have hb4 : But n ir H0 H4 := ⟨by have := hb1.1; omega, fun i hi hne => by rw [hlow4 i hi]; exact hb1.2 i hi hne⟩
        have ht := fun tm1 a1 a2 a3 => tail tm1 H4 r1 (out ++ [v1]) (.asl 1 (out.map (fun b => [byteDat b]) ++ [[.int .u8 (v1.toNat : Int)]]) tok) (fun _ => by omega) p1 (fun _ => by simp; omega) a1 a2 a3 (by simpa [byteDat] using hG4) oir4 hb4
        simp only [w93_0, x_seq, x_block, x_skip, x_label, x_cond, x_exit, x_goto, x_ret, k_normal, k_exit, k_goto, k_ret, b_normal, b_exit, b_goto, b_ret, wantedA, aop, ev, putA, List.length_cons, List.length_nil, List.replicate, List.cons_append, List.nil_append, List.append_nil, List.append_assoc, gs_same, gs_ne, gq_same, gq_ne, List.length_set, List.map_cons, List.map_nil, cellsOf, List.all_cons, List.all_nil, cellOk, boxTy, Bool.and_true, Bool.and_self, if_true, ite_true, ite_false, loadAt, storeAt, setAt, hget, hget0, hset, hset0, List.getElem?_cons_zero, List.getElem?_cons_succ, List.set_cons_zero, List.set_cons_succ, Nat.add_zero, Nat.zero_add, Nat.reduceAdd, Nat.reduceSub, Nat.reduceLeDiff, Nat.reduceLT, Nat.reduceEqDiff, Nat.le_refl, and_self, and_true, true_and, mkAgg, toIms, List.drop_zero, List.drop_succ_cons, List.take_succ_cons, List.take_zero, List.length_append, binBool, unA, Bool.false_eq_true, if_false, partA, fillA, fillE, List.take_nil, Nat.zero_ne_one, Nat.one_ne_zero, not_false_eq_true, ne_eq, Nat.succ_ne_self, reduceCtorEq, Int.reduceEq, Int.reduceLT, Int.reduceLE, decide_true, decide_false, beq_self_eq_true, beq_true, beq_false, Bool.not_true, Bool.not_false, b_lss, b_gtr, b_leq, b_geq, b_eql, b_neq, b_add, b_sub, b_mul, s_eql, s_neq, y_ops, y_nil, y_cons, y_guard, y_some, y_drop, y_do, y_not, y_not0, c_call, c_clo, c_move, c_pick, c_alloc, c_box, c_build, c_bslice, c_load, c_store, c_nilCheck, c_bin, c_binB, c_un, c_i2i, c_i2f, c_f2i, c_s2b, c_b2s, c_strId, c_mkfunc, c_mkslice, c_slice, c_sliceStr, c_fieldAddr, c_field, c_indexSl, c_indexArr, c_elemArr, c_indexStr, c_extract, c_lenStr, c_lenSl, c_append, c_real, c_imag, c_complex, c_min, c_max, c_clear, elems, toDatss, toDats, toDat, hlen, h0, h3, c1, hby, hlA, hdl, hap', K93_goto1]
        exact ht _ (by simp only [List.length_set, hlen]) (by simp only [gs_same, gs_ne, List.length_set, Nat.reduceLT, Nat.reduceEqDiff, not_false_eq_true, hlen, h0]) (by simp only [gs_same, gs_ne, List.length_set, Nat.reduceLT, Nat.reduceEqDiff, not_false_eq_true, hlen])

end Go.Abs.Seat
end
section
set_option linter.unusedVariables false
set_option linter.unusedSimpArgs false
/- What the coder's functions come to: values; the reference's getText. -/
set_option linter.unusedVariables false
set_option linter.unusedSimpArgs false
namespace Go.Abs.Seat
open Go.Proofs

/-- A value: its kind, its int, its text, its point's parts, its list; s: how many cells an element takes (of none, it does not count). -/
inductive VT where
  | mk (k i : Int) (txt : List UInt8) (fa fb : Nat) (s : Nat) (l : List VT)

mutual
def encV : VT → List Dat
  | .mk k i txt fa fb s l => [.int .i64 k, .int .i64 i, .str txt, .cpx .f64 fa fb, .sl s (encVs l)]
def encVs : List VT → List (List Dat)
  | [] => []
  | a :: l => encV a :: encVs l
end
theorem encVs_map : ∀ l : List VT, encVs l = l.map encV
  | [] => rfl
  | a :: l => by simp only [encVs, List.map_cons, encVs_map l]

def mkV (k i : Int) (txt : List UInt8) (fa fb : Nat) (l : List VT) : VT := .mk k i txt fa fb (if l.length = 0 then 0 else 5) l
def zeroV : VT := mkV 0 0 [] 0 0 []

/-- The reference's getText. -/
def getT (b : List UInt8) : Nat → Nat → List UInt8 → List UInt8 × Nat × Int
  | 0, p, out => ([], p, 30)
  | f + 1, p, out => match b[p]? with
    | none => ([], p, 30)
    | some c => if c ≠ 0 then (if out.length = 256 then ([], p, 31) else getT b f (p + 1) (out ++ [c]))
      else match b[p + 1]? with
        | none => ([], p + 1, 30)
        | some c2 => if c2 = 0 then (out, p + 2, 0) else if c2 ≠ 255 ∨ out.length = 256 then ([], p + 1, 31) else getT b f (p + 2) (out ++ [0])

theorem l96 (b : List UInt8) (s N : Nat) (k : Int) (hs : b = [] ∨ s = 1) (hb : b.length ≤ 4611686018427387904) :
    ∀ (f p : Nat) (out : List UInt8) (tm : List AV) (H : Heap) (v x y z u w : AV), b.length < p + f → out.length ≤ 256 → tm.length = 74 → tm.getD 1 undefA = .im (.sl s (bytesC b)) → tm.getD 2 undefA = .im (.int .i64 (p : Int)) → tm.getD 3 undefA = .ptr N 0 0 → tm.getD 6 undefA = .ptr (N + 1) 0 0 → tm.getD 9 undefA = v →
      Gath 5 1 (N + 2) v H (out.map fun b => [byteDat b]) → N + 2 ≤ H.length → H[N]? = some (.obj none [[.im (.int .i64 k), .im (.int .i64 0), .im (.str []), .im (.cpx .f64 0 0), .nils]]) → H[N + 1]? = some (.obj none [[x, y, z, u, w]]) →
    ∃ e tm' H', Λ c96_0 tm H = some (e, tm', H') ∧ tm'.length = 74 ∧ tm'.getD 6 undefA = .ptr (N + 1) 0 0 ∧ (∀ i, i < N → H'[i]? = H[i]?) ∧ N + 2 ≤ H'.length ∧
      ((e = .exit 0 ∧ (getT b f p out).1 = [] ∧ (getT b f p out).2.2 = 30 ∧ tm'.getD 2 undefA = .im (.int .i64 ((getT b f p out).2.1 : Int)) ∧ H'[N + 1]? = some (.obj none [[x, y, z, u, w]])) ∨
       (e = .ret ∧ tm'.getD 7 undefA = .im (.int .i64 ((getT b f p out).2.1 : Int)) ∧ tm'.getD 8 undefA = .im (.int .i64 (getT b f p out).2.2) ∧ H'[N + 1]? = some (.obj none [[.im (.int .i64 (if (getT b f p out).2.2 = 0 then k else 0)), .im (.int .i64 0), .im (.str (getT b f p out).1), .im (.cpx .f64 0 0), .nils]]))) := by
  intro f
  induction f with
  | zero =>
    intro p out tm H v x y z u w hf ho hlen h1 h2 h3 h6 h9 hG hHl oN o1
    have hc : decide ((p : Int) < (b.length : Int)) = false := decide_eq_false (by omega)
    rw [l96_0]
    simp only [b96_0, x_seq, x_block, x_skip, x_label, x_cond, x_exit, x_goto, x_ret, k_normal, k_exit, k_goto, k_ret, b_normal, b_exit, b_goto, b_ret, wantedA, aop, ev, putA, List.length_cons, List.length_nil, List.replicate, List.cons_append, List.nil_append, List.append_nil, List.append_assoc, gs_same, gs_ne, gq_same, gq_ne, List.length_set, List.map_cons, List.map_nil, cellsOf, List.all_cons, List.all_nil, cellOk, boxTy, Bool.and_true, Bool.and_self, if_true, ite_true, ite_false, loadAt, storeAt, setAt, hget, hget0, hset, hset0, List.getElem?_cons_zero, List.getElem?_cons_succ, List.set_cons_zero, List.set_cons_succ, Nat.add_zero, Nat.zero_add, Nat.reduceAdd, Nat.reduceSub, Nat.reduceLeDiff, Nat.reduceLT, Nat.reduceEqDiff, Nat.le_refl, and_self, and_true, true_and, mkAgg, toIms, List.drop_zero, List.drop_succ_cons, List.take_succ_cons, List.take_zero, List.length_append, binBool, unA, Bool.false_eq_true, if_false, partA, fillA, fillE, List.take_nil, Nat.zero_ne_one, Nat.one_ne_zero, not_false_eq_true, ne_eq, Nat.succ_ne_self, reduceCtorEq, Int.reduceEq, Int.reduceLT, Int.reduceLE, decide_true, decide_false, beq_self_eq_true, beq_true, beq_false, Bool.not_true, Bool.not_false, b_lss, b_gtr, b_leq, b_geq, b_eql, b_neq, b_add, b_sub, b_mul, s_eql, s_neq, y_ops, y_nil, y_cons, y_guard, y_some, y_drop, y_do, y_not, y_not0, c_call, c_clo, c_move, c_pick, c_alloc, c_box, c_build, c_bslice, c_load, c_store, c_nilCheck, c_bin, c_binB, c_un, c_i2i, c_i2f, c_f2i, c_s2b, c_b2s, c_strId, c_mkfunc, c_mkslice, c_slice, c_sliceStr, c_fieldAddr, c_field, c_indexSl, c_indexArr, c_elemArr, c_indexStr, c_extract, c_lenStr, c_lenSl, c_append, c_real, c_imag, c_complex, c_min, c_max, c_clear, lenA_sl, hlen, h1, h2, h6, bytesC_len, hc]
    exact ⟨_, _, _, rfl, by simp only [List.length_set, hlen], by simp only [gs_same, gs_ne, List.length_set, Nat.reduceLT, Nat.reduceEqDiff, not_false_eq_true, hlen, h6], fun _ _ => rfl, hHl, .inl ⟨rfl, rfl, rfl, by simp only [gs_same, gs_ne, List.length_set, Nat.reduceLT, Nat.reduceEqDiff, not_false_eq_true, hlen, h2, getT], o1⟩⟩
  | succ f ih =>
    intro p out tm H v x y z u w hf ho hlen h1 h2 h3 h6 h9 hG hHl oN o1
    have hvc : v = AV.nils ∧ out = [] ∨ ∃ tok, v = .asl 1 (out.map fun b => [byteDat b]) tok := by
      rcases hG with ⟨he, rfl⟩ | ⟨_, tok, _, rfl, _⟩
      · exact .inl ⟨rfl, by simpa using he⟩
      · exact .inr ⟨tok, rfl⟩
    have hlA : lenA v = some out.length := by
      rcases hvc with ⟨rfl, rfl⟩ | ⟨tok, rfl⟩
      · rfl
      · simp [lenA]
    rw [l96_0]
    simp only [getT]
    by_cases hp : p < b.length
    · have hc : decide ((p : Int) < (b.length : Int)) = true := decide_eq_true (by omega)
      have hs1 : s = 1 := by
        rcases hs with h | h
        · subst h; simp at hp
        · exact h
      subst hs1
      have hbp : b[p]? = some b[p] := List.getElem?_eq_getElem hp
      generalize b[p] = c at hbp
      have hget := bytesC_get hbp
      have hix := idx_nat (n := b.length) (i := p) hp
      have hby : decide (((c.toNat : Nat) : Int) = 0) = decide (c = 0) := byte_eq c 0
      have hwr := wrap_nat (i := p) (by omega)
      simp only [hbp]
      by_cases hcz : c = 0
      · rw [decide_eq_true hcz] at hby
        have hcz' : ¬ (c ≠ 0) := fun h => h hcz
        simp only [if_neg hcz']
        by_cases hp1 : p + 1 < b.length
        · have hge : decide ((b.length : Int) ≤ ((p + 1 : Nat) : Int)) = false := decide_eq_false (by omega)
          have hbp1 : b[p + 1]? = some b[p + 1] := List.getElem?_eq_getElem hp1
          generalize b[p + 1] = c2 at hbp1
          have hget1 := bytesC_get hbp1
          have hix1 := idx_nat (n := b.length) (i := p + 1) hp1
          have hby2 : decide (((c2.toNat : Nat) : Int) = 0) = decide (c2 = 0) := byte_eq c2 0
          have hby3 : decide (((c2.toNat : Nat) : Int) = 255) = decide (c2 = 255) := byte_eq c2 255
          have hwr2 : IntKind.i64.wrap ((p : Int) + 2) = ((p + 2 : Nat) : Int) := by rw [Go.Abs.Seat.wrap_small _ (by omega)]; omega
          simp only [hbp1]
          have fin : ∀ (tm1 : List AV) (H1 : Heap) (o : HO), H1 = H.set (N + 1) o → (∀ i, i < N → H1[i]? = H[i]?) ∧ N + 2 ≤ H1.length ∧ H1[N + 1]? = some o := fun tm1 H1 o h => by
            subst h
            exact ⟨fun i hi => List.getElem?_set_ne (by omega), by simpa using hHl, List.getElem?_set_self (by omega)⟩
          by_cases hc2 : c2 = 0
          · rw [decide_eq_true hc2] at hby2
            simp only [if_pos hc2]
            have oN' : ∀ o, (H.set N o)[N]? = some o := fun o => List.getElem?_set_self (by omega)
            have o1' : ∀ o, (H.set N o)[N + 1]? = some (.obj none [[x, y, z, u, w]]) := fun o => by rw [List.getElem?_set_ne (by omega)]; exact o1
            rcases hvc with ⟨rfl, rfl⟩ | ⟨tok, rfl⟩
            all_goals simp only [b96_0, x_seq, x_block, x_skip, x_label, x_cond, x_exit, x_goto, x_ret, k_normal, k_exit, k_goto, k_ret, b_normal, b_exit, b_goto, b_ret, wantedA, aop, ev, putA, List.length_cons, List.length_nil, List.replicate, List.cons_append, List.nil_append, List.append_nil, List.append_assoc, gs_same, gs_ne, gq_same, gq_ne, List.length_set, List.map_cons, List.map_nil, cellsOf, List.all_cons, List.all_nil, cellOk, boxTy, Bool.and_true, Bool.and_self, if_true, ite_true, ite_false, loadAt, storeAt, setAt, hget, hget0, hset, hset0, List.getElem?_cons_zero, List.getElem?_cons_succ, List.set_cons_zero, List.set_cons_succ, Nat.add_zero, Nat.zero_add, Nat.reduceAdd, Nat.reduceSub, Nat.reduceLeDiff, Nat.reduceLT, Nat.reduceEqDiff, Nat.le_refl, and_self, and_true, true_and, mkAgg, toIms, List.drop_zero, List.drop_succ_cons, List.take_succ_cons, List.take_zero, List.length_append, binBool, unA, Bool.false_eq_true, if_false, partA, fillA, fillE, List.take_nil, Nat.zero_ne_one, Nat.one_ne_zero, not_false_eq_true, ne_eq, Nat.succ_ne_self, reduceCtorEq, Int.reduceEq, Int.reduceLT, Int.reduceLE, decide_true, decide_false, beq_self_eq_true, beq_true, beq_false, Bool.not_true, Bool.not_false, b_lss, b_gtr, b_leq, b_geq, b_eql, b_neq, b_add, b_sub, b_mul, s_eql, s_neq, y_ops, y_nil, y_cons, y_guard, y_some, y_drop, y_do, y_not, y_not0, c_call, c_clo, c_move, c_pick, c_alloc, c_box, c_build, c_bslice, c_load, c_store, c_nilCheck, c_bin, c_binB, c_un, c_i2i, c_i2f, c_f2i, c_s2b, c_b2s, c_strId, c_mkfunc, c_mkslice, c_slice, c_sliceStr, c_fieldAddr, c_field, c_indexSl, c_indexArr, c_elemArr, c_indexStr, c_extract, c_lenStr, c_lenSl, c_append, c_real, c_imag, c_complex, c_min, c_max, c_clear, lenA_sl, bytesOf_map, hlen, h1, h2, h3, h6, h9, bytesC_len, hc, hix, hget, hby, hwr, hge, hix1, hget1, hby2, oN, oN', o1', hwr2]
            all_goals refine ⟨_, _, _, rfl, by simp only [List.length_set, hlen], by simp only [gs_same, gs_ne, List.length_set, Nat.reduceLT, Nat.reduceEqDiff, not_false_eq_true, hlen, h6], fun i hi => ?_, ?_, .inr ⟨rfl, by simp only [gs_same, gs_ne, List.length_set, Nat.reduceLT, Nat.reduceEqDiff, not_false_eq_true, hlen], by simp only [gs_same, gs_ne, List.length_set, Nat.reduceLT, Nat.reduceEqDiff, not_false_eq_true, hlen], ?_⟩⟩
            all_goals first
              | (rw [List.getElem?_set_ne (by omega), List.getElem?_set_ne (by omega)]; done)
              | (rw [List.getElem?_set_self (by simp; omega)]; done)
              | (rw [List.getElem?_set_self (by simp; omega)]; rfl)
              | (simp; omega)
          · rw [decide_eq_false hc2] at hby2
            simp only [if_neg hc2]
            by_cases hbad : c2 ≠ 255 ∨ out.length = 256
            · simp only [if_pos hbad]
              by_cases h255 : c2 = 255
              · have ho256 : out.length = 256 := by
                  rcases hbad with h | h
                  · exact absurd h255 h
                  · exact h
                rw [decide_eq_true h255] at hby3
                have hdl : decide ((out.length : Int) = 256) = true := decide_eq_true (by omega)
                simp only [b96_0, x_seq, x_block, x_skip, x_label, x_cond, x_exit, x_goto, x_ret, k_normal, k_exit, k_goto, k_ret, b_normal, b_exit, b_goto, b_ret, wantedA, aop, ev, putA, List.length_cons, List.length_nil, List.replicate, List.cons_append, List.nil_append, List.append_nil, List.append_assoc, gs_same, gs_ne, gq_same, gq_ne, List.length_set, List.map_cons, List.map_nil, cellsOf, List.all_cons, List.all_nil, cellOk, boxTy, Bool.and_true, Bool.and_self, if_true, ite_true, ite_false, loadAt, storeAt, setAt, hget, hget0, hset, hset0, List.getElem?_cons_zero, List.getElem?_cons_succ, List.set_cons_zero, List.set_cons_succ, Nat.add_zero, Nat.zero_add, Nat.reduceAdd, Nat.reduceSub, Nat.reduceLeDiff, Nat.reduceLT, Nat.reduceEqDiff, Nat.le_refl, and_self, and_true, true_and, mkAgg, toIms, List.drop_zero, List.drop_succ_cons, List.take_succ_cons, List.take_zero, List.length_append, binBool, unA, Bool.false_eq_true, if_false, partA, fillA, fillE, List.take_nil, Nat.zero_ne_one, Nat.one_ne_zero, not_false_eq_true, ne_eq, Nat.succ_ne_self, reduceCtorEq, Int.reduceEq, Int.reduceLT, Int.reduceLE, decide_true, decide_false, beq_self_eq_true, beq_true, beq_false, Bool.not_true, Bool.not_false, b_lss, b_gtr, b_leq, b_geq, b_eql, b_neq, b_add, b_sub, b_mul, s_eql, s_neq, y_ops, y_nil, y_cons, y_guard, y_some, y_drop, y_do, y_not, y_not0, c_call, c_clo, c_move, c_pick, c_alloc, c_box, c_build, c_bslice, c_load, c_store, c_nilCheck, c_bin, c_binB, c_un, c_i2i, c_i2f, c_f2i, c_s2b, c_b2s, c_strId, c_mkfunc, c_mkslice, c_slice, c_sliceStr, c_fieldAddr, c_field, c_indexSl, c_indexArr, c_elemArr, c_indexStr, c_extract, c_lenStr, c_lenSl, c_append, c_real, c_imag, c_complex, c_min, c_max, c_clear, lenA_sl, hlen, h1, h2, h3, h6, h9, bytesC_len, hc, hix, hget, hby, hwr, hge, hix1, hget1, hby2, hby3, hlA, hdl, o1]
                obtain ⟨f1, f2, f3⟩ := fin tm _ _ rfl
                exact ⟨_, _, _, rfl, by simp only [List.length_set, hlen], by simp only [gs_same, gs_ne, List.length_set, Nat.reduceLT, Nat.reduceEqDiff, not_false_eq_true, hlen, h6], f1, f2, .inr ⟨rfl, by simp only [gs_same, gs_ne, List.length_set, Nat.reduceLT, Nat.reduceEqDiff, not_false_eq_true, hlen], by simp only [gs_same, gs_ne, List.length_set, Nat.reduceLT, Nat.reduceEqDiff, not_false_eq_true, hlen], f3⟩⟩
              · rw [decide_eq_false h255] at hby3
                simp only [b96_0, x_seq, x_block, x_skip, x_label, x_cond, x_exit, x_goto, x_ret, k_normal, k_exit, k_goto, k_ret, b_normal, b_exit, b_goto, b_ret, wantedA, aop, ev, putA, List.length_cons, List.length_nil, List.replicate, List.cons_append, List.nil_append, List.append_nil, List.append_assoc, gs_same, gs_ne, gq_same, gq_ne, List.length_set, List.map_cons, List.map_nil, cellsOf, List.all_cons, List.all_nil, cellOk, boxTy, Bool.and_true, Bool.and_self, if_true, ite_true, ite_false, loadAt, storeAt, setAt, hget, hget0, hset, hset0, List.getElem?_cons_zero, List.getElem?_cons_succ, List.set_cons_zero, List.set_cons_succ, Nat.add_zero, Nat.zero_add, Nat.reduceAdd, Nat.reduceSub, Nat.reduceLeDiff, Nat.reduceLT, Nat.reduceEqDiff, Nat.le_refl, and_self, and_true, true_and, mkAgg, toIms, List.drop_zero, List.drop_succ_cons, List.take_succ_cons, List.take_zero, List.length_append, binBool, unA, Bool.false_eq_true, if_false, partA, fillA, fillE, List.take_nil, Nat.zero_ne_one, Nat.one_ne_zero, not_false_eq_true, ne_eq, Nat.succ_ne_self, reduceCtorEq, Int.reduceEq, Int.reduceLT, Int.reduceLE, decide_true, decide_false, beq_self_eq_true, beq_true, beq_false, Bool.not_true, Bool.not_false, b_lss, b_gtr, b_leq, b_geq, b_eql, b_neq, b_add, b_sub, b_mul, s_eql, s_neq, y_ops, y_nil, y_cons, y_guard, y_some, y_drop, y_do, y_not, y_not0, c_call, c_clo, c_move, c_pick, c_alloc, c_box, c_build, c_bslice, c_load, c_store, c_nilCheck, c_bin, c_binB, c_un, c_i2i, c_i2f, c_f2i, c_s2b, c_b2s, c_strId, c_mkfunc, c_mkslice, c_slice, c_sliceStr, c_fieldAddr, c_field, c_indexSl, c_indexArr, c_elemArr, c_indexStr, c_extract, c_lenStr, c_lenSl, c_append, c_real, c_imag, c_complex, c_min, c_max, c_clear, lenA_sl, hlen, h1, h2, h3, h6, h9, bytesC_len, hc, hix, hget, hby, hwr, hge, hix1, hget1, hby2, hby3, o1]
                obtain ⟨f1, f2, f3⟩ := fin tm _ _ rfl
                exact ⟨_, _, _, rfl, by simp only [List.length_set, hlen], by simp only [gs_same, gs_ne, List.length_set, Nat.reduceLT, Nat.reduceEqDiff, not_false_eq_true, hlen, h6], f1, f2, .inr ⟨rfl, by simp only [gs_same, gs_ne, List.length_set, Nat.reduceLT, Nat.reduceEqDiff, not_false_eq_true, hlen], by simp only [gs_same, gs_ne, List.length_set, Nat.reduceLT, Nat.reduceEqDiff, not_false_eq_true, hlen], f3⟩⟩
            · simp only [if_neg hbad]
              have h255 : c2 = 255 := by
                by_cases h : c2 = 255
                · exact h
                · exact absurd (.inl h) hbad
              have ho256 : out.length ≠ 256 := fun h => hbad (.inr h)
              rw [decide_eq_true h255] at hby3
              have hdl : decide ((out.length : Int) = 256) = false := decide_eq_false (by omega)
              obtain ⟨tok, H4, hap, hG4, hl4, hlow4, hob4⟩ := hG.grow (bytes := 1) hHl [byteDat 0] (by simp; omega) (by decide)
              have hap' : appendA H 5 1 1 v [[.int .u8 0]] = some (.asl 1 (out.map (fun b => [byteDat b]) ++ [[.int .u8 0]]) tok, H4) := hap
              simp only [b96_0, x_seq, x_block, x_skip, x_label, x_cond, x_exit, x_goto, x_ret, k_normal, k_exit, k_goto, k_ret, b_normal, b_exit, b_goto, b_ret, wantedA, aop, ev, putA, List.length_cons, List.length_nil, List.replicate, List.cons_append, List.nil_append, List.append_nil, List.append_assoc, gs_same, gs_ne, gq_same, gq_ne, List.length_set, List.map_cons, List.map_nil, cellsOf, List.all_cons, List.all_nil, cellOk, boxTy, Bool.and_true, Bool.and_self, if_true, ite_true, ite_false, loadAt, storeAt, setAt, hget, hget0, hset, hset0, List.getElem?_cons_zero, List.getElem?_cons_succ, List.set_cons_zero, List.set_cons_succ, Nat.add_zero, Nat.zero_add, Nat.reduceAdd, Nat.reduceSub, Nat.reduceLeDiff, Nat.reduceLT, Nat.reduceEqDiff, Nat.le_refl, and_self, and_true, true_and, mkAgg, toIms, List.drop_zero, List.drop_succ_cons, List.take_succ_cons, List.take_zero, List.length_append, binBool, unA, Bool.false_eq_true, if_false, partA, fillA, fillE, List.take_nil, Nat.zero_ne_one, Nat.one_ne_zero, not_false_eq_true, ne_eq, Nat.succ_ne_self, reduceCtorEq, Int.reduceEq, Int.reduceLT, Int.reduceLE, decide_true, decide_false, beq_self_eq_true, beq_true, beq_false, Bool.not_true, Bool.not_false, b_lss, b_gtr, b_leq, b_geq, b_eql, b_neq, b_add, b_sub, b_mul, s_eql, s_neq, y_ops, y_nil, y_cons, y_guard, y_some, y_drop, y_do, y_not, y_not0, c_call, c_clo, c_move, c_pick, c_alloc, c_box, c_build, c_bslice, c_load, c_store, c_nilCheck, c_bin, c_binB, c_un, c_i2i, c_i2f, c_f2i, c_s2b, c_b2s, c_strId, c_mkfunc, c_mkslice, c_slice, c_sliceStr, c_fieldAddr, c_field, c_indexSl, c_indexArr, c_elemArr, c_indexStr, c_extract, c_lenStr, c_lenSl, c_append, c_real, c_imag, c_complex, c_min, c_max, c_clear, lenA_sl, elems, toDatss, toDats, toDat, hlen, h1, h2, h3, h6, h9, bytesC_len, hc, hix, hget, hby, hwr, hge, hix1, hget1, hby2, hby3, hlA, hdl, hap', hwr2]
              refine ex_imp (ih (p + 2) (out ++ [0]) _ H4 (.asl 1 (out.map (fun b => [byteDat b]) ++ [[.int .u8 0]]) tok) x y z u w (by omega) (by simp; omega) ?_ ?_ ?_ ?_ ?_ ?_ (by simpa [byteDat] using hG4) (by omega) (hob4 _ _ _ oN) (hob4 _ _ _ o1)) ?_
              iterate 6 simp only [gs_same, gs_ne, List.length_set, Nat.reduceLT, Nat.reduceEqDiff, not_false_eq_true, hlen, h1, h3, h6]
              rintro e tm' H' ⟨a1, a2, a3, a4, a5⟩
              exact ⟨a1, a2, fun i hi => by rw [a3 i hi, hlow4 i (by omega)], a4, a5⟩
        · have hge : decide ((b.length : Int) ≤ ((p + 1 : Nat) : Int)) = true := decide_eq_true (by omega)
          have hbp1 : b[p + 1]? = none := List.getElem?_eq_none (by omega)
          simp only [hbp1]
          simp only [b96_0, x_seq, x_block, x_skip, x_label, x_cond, x_exit, x_goto, x_ret, k_normal, k_exit, k_goto, k_ret, b_normal, b_exit, b_goto, b_ret, wantedA, aop, ev, putA, List.length_cons, List.length_nil, List.replicate, List.cons_append, List.nil_append, List.append_nil, List.append_assoc, gs_same, gs_ne, gq_same, gq_ne, List.length_set, List.map_cons, List.map_nil, cellsOf, List.all_cons, List.all_nil, cellOk, boxTy, Bool.and_true, Bool.and_self, if_true, ite_true, ite_false, loadAt, storeAt, setAt, hget, hget0, hset, hset0, List.getElem?_cons_zero, List.getElem?_cons_succ, List.set_cons_zero, List.set_cons_succ, Nat.add_zero, Nat.zero_add, Nat.reduceAdd, Nat.reduceSub, Nat.reduceLeDiff, Nat.reduceLT, Nat.reduceEqDiff, Nat.le_refl, and_self, and_true, true_and, mkAgg, toIms, List.drop_zero, List.drop_succ_cons, List.take_succ_cons, List.take_zero, List.length_append, binBool, unA, Bool.false_eq_true, if_false, partA, fillA, fillE, List.take_nil, Nat.zero_ne_one, Nat.one_ne_zero, not_false_eq_true, ne_eq, Nat.succ_ne_self, reduceCtorEq, Int.reduceEq, Int.reduceLT, Int.reduceLE, decide_true, decide_false, beq_self_eq_true, beq_true, beq_false, Bool.not_true, Bool.not_false, b_lss, b_gtr, b_leq, b_geq, b_eql, b_neq, b_add, b_sub, b_mul, s_eql, s_neq, y_ops, y_nil, y_cons, y_guard, y_some, y_drop, y_do, y_not, y_not0, c_call, c_clo, c_move, c_pick, c_alloc, c_box, c_build, c_bslice, c_load, c_store, c_nilCheck, c_bin, c_binB, c_un, c_i2i, c_i2f, c_f2i, c_s2b, c_b2s, c_strId, c_mkfunc, c_mkslice, c_slice, c_sliceStr, c_fieldAddr, c_field, c_indexSl, c_indexArr, c_elemArr, c_indexStr, c_extract, c_lenStr, c_lenSl, c_append, c_real, c_imag, c_complex, c_min, c_max, c_clear, lenA_sl, hlen, h1, h2, h3, h6, h9, bytesC_len, hc, hix, hget, hby, hwr, hge, o1]
          exact ⟨_, _, _, rfl, by simp only [List.length_set, hlen], by simp only [gs_same, gs_ne, List.length_set, Nat.reduceLT, Nat.reduceEqDiff, not_false_eq_true, hlen, h6], fun i hi => List.getElem?_set_ne (by omega), by simpa using hHl, .inr ⟨rfl, by simp only [gs_same, gs_ne, List.length_set, Nat.reduceLT, Nat.reduceEqDiff, not_false_eq_true, hlen], by simp only [gs_same, gs_ne, List.length_set, Nat.reduceLT, Nat.reduceEqDiff, not_false_eq_true, hlen], by rw [List.getElem?_set_self (by omega)]⟩⟩
      · rw [decide_eq_false hcz] at hby
        simp only [ne_eq, hcz, not_false_eq_true, if_true]
        by_cases ho256 : out.length = 256
        · have hdl : decide ((out.length : Int) = 256) = true := decide_eq_true (by omega)
          simp only [if_pos ho256]
          simp only [b96_0, x_seq, x_block, x_skip, x_label, x_cond, x_exit, x_goto, x_ret, k_normal, k_exit, k_goto, k_ret, b_normal, b_exit, b_goto, b_ret, wantedA, aop, ev, putA, List.length_cons, List.length_nil, List.replicate, List.cons_append, List.nil_append, List.append_nil, List.append_assoc, gs_same, gs_ne, gq_same, gq_ne, List.length_set, List.map_cons, List.map_nil, cellsOf, List.all_cons, List.all_nil, cellOk, boxTy, Bool.and_true, Bool.and_self, if_true, ite_true, ite_false, loadAt, storeAt, setAt, hget, hget0, hset, hset0, List.getElem?_cons_zero, List.getElem?_cons_succ, List.set_cons_zero, List.set_cons_succ, Nat.add_zero, Nat.zero_add, Nat.reduceAdd, Nat.reduceSub, Nat.reduceLeDiff, Nat.reduceLT, Nat.reduceEqDiff, Nat.le_refl, and_self, and_true, true_and, mkAgg, toIms, List.drop_zero, List.drop_succ_cons, List.take_succ_cons, List.take_zero, List.length_append, binBool, unA, Bool.false_eq_true, if_false, partA, fillA, fillE, List.take_nil, Nat.zero_ne_one, Nat.one_ne_zero, not_false_eq_true, ne_eq, Nat.succ_ne_self, reduceCtorEq, Int.reduceEq, Int.reduceLT, Int.reduceLE, decide_true, decide_false, beq_self_eq_true, beq_true, beq_false, Bool.not_true, Bool.not_false, b_lss, b_gtr, b_leq, b_geq, b_eql, b_neq, b_add, b_sub, b_mul, s_eql, s_neq, y_ops, y_nil, y_cons, y_guard, y_some, y_drop, y_do, y_not, y_not0, c_call, c_clo, c_move, c_pick, c_alloc, c_box, c_build, c_bslice, c_load, c_store, c_nilCheck, c_bin, c_binB, c_un, c_i2i, c_i2f, c_f2i, c_s2b, c_b2s, c_strId, c_mkfunc, c_mkslice, c_slice, c_sliceStr, c_fieldAddr, c_field, c_indexSl, c_indexArr, c_elemArr, c_indexStr, c_extract, c_lenStr, c_lenSl, c_append, c_real, c_imag, c_complex, c_min, c_max, c_clear, lenA_sl, hlen, h1, h2, h3, h6, h9, bytesC_len, hc, hix, hget, hby, hlA, hdl, o1]
          exact ⟨_, _, _, rfl, by simp only [List.length_set, hlen], by simp only [gs_same, gs_ne, List.length_set, Nat.reduceLT, Nat.reduceEqDiff, not_false_eq_true, hlen, h6], fun i hi => List.getElem?_set_ne (by omega), by simpa using hHl, .inr ⟨rfl, by simp only [gs_same, gs_ne, List.length_set, Nat.reduceLT, Nat.reduceEqDiff, not_false_eq_true, hlen], by simp only [gs_same, gs_ne, List.length_set, Nat.reduceLT, Nat.reduceEqDiff, not_false_eq_true, hlen], by rw [List.getElem?_set_self (by omega)]⟩⟩
        · have hdl : decide ((out.length : Int) = 256) = false := decide_eq_false (by omega)
          simp only [if_neg ho256]
          obtain ⟨tok, H4, hap, hG4, hl4, hlow4, hob4⟩ := hG.grow (bytes := 1) hHl [byteDat c] (by simp; omega) (by decide)
          have hap' : appendA H 5 1 1 v [[.int .u8 (c.toNat : Int)]] = some (.asl 1 (out.map (fun b => [byteDat b]) ++ [[.int .u8 (c.toNat : Int)]]) tok, H4) := hap
          simp only [b96_0, x_seq, x_block, x_skip, x_label, x_cond, x_exit, x_goto, x_ret, k_normal, k_exit, k_goto, k_ret, b_normal, b_exit, b_goto, b_ret, wantedA, aop, ev, putA, List.length_cons, List.length_nil, List.replicate, List.cons_append, List.nil_append, List.append_nil, List.append_assoc, gs_same, gs_ne, gq_same, gq_ne, List.length_set, List.map_cons, List.map_nil, cellsOf, List.all_cons, List.all_nil, cellOk, boxTy, Bool.and_true, Bool.and_self, if_true, ite_true, ite_false, loadAt, storeAt, setAt, hget, hget0, hset, hset0, List.getElem?_cons_zero, List.getElem?_cons_succ, List.set_cons_zero, List.set_cons_succ, Nat.add_zero, Nat.zero_add, Nat.reduceAdd, Nat.reduceSub, Nat.reduceLeDiff, Nat.reduceLT, Nat.reduceEqDiff, Nat.le_refl, and_self, and_true, true_and, mkAgg, toIms, List.drop_zero, List.drop_succ_cons, List.take_succ_cons, List.take_zero, List.length_append, binBool, unA, Bool.false_eq_true, if_false, partA, fillA, fillE, List.take_nil, Nat.zero_ne_one, Nat.one_ne_zero, not_false_eq_true, ne_eq, Nat.succ_ne_self, reduceCtorEq, Int.reduceEq, Int.reduceLT, Int.reduceLE, decide_true, decide_false, beq_self_eq_true, beq_true, beq_false, Bool.not_true, Bool.not_false, b_lss, b_gtr, b_leq, b_geq, b_eql, b_neq, b_add, b_sub, b_mul, s_eql, s_neq, y_ops, y_nil, y_cons, y_guard, y_some, y_drop, y_do, y_not, y_not0, c_call, c_clo, c_move, c_pick, c_alloc, c_box, c_build, c_bslice, c_load, c_store, c_nilCheck, c_bin, c_binB, c_un, c_i2i, c_i2f, c_f2i, c_s2b, c_b2s, c_strId, c_mkfunc, c_mkslice, c_slice, c_sliceStr, c_fieldAddr, c_field, c_indexSl, c_indexArr, c_elemArr, c_indexStr, c_extract, c_lenStr, c_lenSl, c_append, c_real, c_imag, c_complex, c_min, c_max, c_clear, lenA_sl, elems, toDatss, toDats, toDat, hlen, h1, h2, h3, h6, h9, bytesC_len, hc, hix, hget, hby, hwr, hlA, hdl, hap']
          refine ex_imp (ih (p + 1) (out ++ [c]) _ H4 (.asl 1 (out.map (fun b => [byteDat b]) ++ [[.int .u8 (c.toNat : Int)]]) tok) x y z u w (by omega) (by simp; omega) ?_ ?_ ?_ ?_ ?_ ?_ (by simpa [byteDat] using hG4) (by omega) (hob4 _ _ _ oN) (hob4 _ _ _ o1)) ?_
          iterate 6 simp only [gs_same, gs_ne, List.length_set, Nat.reduceLT, Nat.reduceEqDiff, not_false_eq_true, hlen, h1, h3, h6]
          rintro e tm' H' ⟨a1, a2, a3, a4, a5⟩
          exact ⟨a1, a2, fun i hi => by rw [a3 i hi, hlow4 i (by omega)], a4, a5⟩
    · have hc : decide ((p : Int) < (b.length : Int)) = false := decide_eq_false (by omega)
      have hbp : b[p]? = none := List.getElem?_eq_none (by omega)
      simp only [hbp]
      simp only [b96_0, x_seq, x_block, x_skip, x_label, x_cond, x_exit, x_goto, x_ret, k_normal, k_exit, k_goto, k_ret, b_normal, b_exit, b_goto, b_ret, wantedA, aop, ev, putA, List.length_cons, List.length_nil, List.replicate, List.cons_append, List.nil_append, List.append_nil, List.append_assoc, gs_same, gs_ne, gq_same, gq_ne, List.length_set, List.map_cons, List.map_nil, cellsOf, List.all_cons, List.all_nil, cellOk, boxTy, Bool.and_true, Bool.and_self, if_true, ite_true, ite_false, loadAt, storeAt, setAt, hget, hget0, hset, hset0, List.getElem?_cons_zero, List.getElem?_cons_succ, List.set_cons_zero, List.set_cons_succ, Nat.add_zero, Nat.zero_add, Nat.reduceAdd, Nat.reduceSub, Nat.reduceLeDiff, Nat.reduceLT, Nat.reduceEqDiff, Nat.le_refl, and_self, and_true, true_and, mkAgg, toIms, List.drop_zero, List.drop_succ_cons, List.take_succ_cons, List.take_zero, List.length_append, binBool, unA, Bool.false_eq_true, if_false, partA, fillA, fillE, List.take_nil, Nat.zero_ne_one, Nat.one_ne_zero, not_false_eq_true, ne_eq, Nat.succ_ne_self, reduceCtorEq, Int.reduceEq, Int.reduceLT, Int.reduceLE, decide_true, decide_false, beq_self_eq_true, beq_true, beq_false, Bool.not_true, Bool.not_false, b_lss, b_gtr, b_leq, b_geq, b_eql, b_neq, b_add, b_sub, b_mul, s_eql, s_neq, y_ops, y_nil, y_cons, y_guard, y_some, y_drop, y_do, y_not, y_not0, c_call, c_clo, c_move, c_pick, c_alloc, c_box, c_build, c_bslice, c_load, c_store, c_nilCheck, c_bin, c_binB, c_un, c_i2i, c_i2f, c_f2i, c_s2b, c_b2s, c_strId, c_mkfunc, c_mkslice, c_slice, c_sliceStr, c_fieldAddr, c_field, c_indexSl, c_indexArr, c_elemArr, c_indexStr, c_extract, c_lenStr, c_lenSl, c_append, c_real, c_imag, c_complex, c_min, c_max, c_clear, lenA_sl, hlen, h1, h2, h6, bytesC_len, hc]
      exact ⟨_, _, _, rfl, by simp only [List.length_set, hlen], by simp only [gs_same, gs_ne, List.length_set, Nat.reduceLT, Nat.reduceEqDiff, not_false_eq_true, hlen, h6], fun _ _ => rfl, hHl, .inl (by simp only [gs_same, gs_ne, List.length_set, Nat.reduceLT, Nat.reduceEqDiff, not_false_eq_true, hlen, h2, o1, and_self, true_and])⟩

end Go.Abs.Seat
end
section
set_option linter.unusedVariables false
set_option linter.unusedSimpArgs false
/- The abstract reading of Go code, thirty-ninth part: whole numbers as floats, and back. -/
namespace Go.Abs

theorem log2_of {n L : Nat} (h1 : 2 ^ L ≤ n) (h2 : n < 2 ^ (L + 1)) : n.log2 = L := by
  have hn : n ≠ 0 := by
    have : 0 < 2 ^ L := Nat.two_pow_pos _
    omega
  have a : L ≤ n.log2 := (Nat.le_log2 hn).2 h1
  have b : n.log2 < L + 1 := (Nat.log2_lt hn).2 h2
  omega

/-- Writing, with the format's numbers as names. -/
theorem nearest_gen (f : Ieee.Format) (neg : Bool) (mag L x B I : Nat) (hfb : f.fractionBits = 52) (hlp : f.leastPlace = -1074) (hbin : f.binade = B) (hinf : f.infRung = I) (hm0 : mag ≠ 0) (hlog : mag.log2 = L) (hL : L ≤ 52) (hx : mag * 2 ^ (52 - L) = x) (hle : (L + 1022) * B + x ≤ I) :
    f.nearest neg mag 0 = f.word neg ((L + 1022) * B + x) := by
  have hlast : max ((0 : Int) + mag.log2 - f.fractionBits) f.leastPlace = (L : Int) - 52 := by
    rw [hlog, hlp, hfb]; omega
  have hcut : Ieee.Toward.even.cut neg (mag <<< ((0 : Int) - ((L : Int) - 52)).toNat) (((L : Int) - 52) - 0).toNat = x := by
    have e1 : ((0 : Int) - ((L : Int) - 52)).toNat = 52 - L := by omega
    have e2 : (((L : Int) - 52) - 0).toNat = 0 := by omega
    rw [e1, e2, Nat.shiftLeft_eq, hx]
    simp [Ieee.Toward.cut, Nat.mod_one]
  have e3 : ((L : Int) - 52 - -1074).toNat = L + 1022 := by omega
  unfold Ieee.Format.nearest
  rw [if_neg hm0]
  simp only [hlast, hcut, hbin, hinf]
  rw [hlp, e3, Nat.min_eq_left hle]

/-- Reading, with the format's numbers as names. -/
theorem read_gen (f : Ieee.Format) (neg : Bool) (E x B I S : Nat) (hlp : f.leastPlace = -1074) (hbin : f.binade = B) (hinf : f.infRung = I) (hsw : f.signWeight = S) (hB : 0 < B) (hx1 : B ≤ x) (hx2 : x < 2 * B) (hI : E * B + x < I) (hS : I < S) :
    f.read (f.word neg (E * B + x)) = .number neg x ((E : Int) - 1074) := by
  have hw1 : ((f.word neg (E * B + x)) / S % 2 == 1) = neg := by
    unfold Ieee.Format.word
    rw [hsw]
    cases neg with
    | true =>
      have : (S + (E * B + x)) / S = 1 := by
        rw [Nat.add_div_left _ (by omega), Nat.div_eq_of_lt (by omega)]
      simp only [if_true]
      rw [this]; rfl
    | false =>
      have : (E * B + x) / S = 0 := Nat.div_eq_of_lt (by omega)
      simp only [Bool.false_eq_true, if_false]
      rw [this]; rfl
  have hw2 : (f.word neg (E * B + x)) % S = E * B + x := by
    unfold Ieee.Format.word
    rw [hsw]
    cases neg with
    | true =>
      simp only [if_true]
      rw [Nat.add_mod_left, Nat.mod_eq_of_lt (by omega)]
    | false =>
      simp only [Bool.false_eq_true, if_false]
      rw [Nat.mod_eq_of_lt (by omega)]
  obtain ⟨y, rfl⟩ : ∃ y, x = B + y := ⟨x - B, by omega⟩
  have hy : y < B := by omega
  have e4 : (E * B + (B + y)) % B = y := by
    rw [show E * B + (B + y) = y + B * (E + 1) by rw [Nat.mul_add, Nat.mul_comm B E]; omega, Nat.add_mul_mod_self_left, Nat.mod_eq_of_lt hy]
  have e5 : (E * B + (B + y)) / B = E + 1 := by
    rw [show E * B + (B + y) = y + B * (E + 1) by rw [Nat.mul_add, Nat.mul_comm B E]; omega, Nat.add_mul_div_left _ _ hB, Nat.div_eq_of_lt hy]; omega
  unfold Ieee.Format.read
  simp only [hsw, hw1, hw2, hbin, hinf]
  rw [if_neg (by have : 0 ≤ E * B := Nat.zero_le _
                 omega), if_pos hI, e4, e5, hlp]
  have e6 : (-1074 : Int) + ((E + 1 - 1 : Nat) : Int) = (E : Int) - 1074 := by omega
  rw [e6]

/-- A magnitude of L + 1 binary digits, written and read. -/
theorem mag_back (neg : Bool) (mag L : Nat) (hL : L ≤ 52) (h1 : 2 ^ L ≤ mag) (h2 : mag < 2 ^ (L + 1)) :
    Ieee.double.read (Ieee.double.nearest neg mag 0) = .number neg (mag * 2 ^ (52 - L)) ((L : Int) - 52) := by
  have hlog := log2_of h1 h2
  have hpow : 2 ^ L * 2 ^ (52 - L) = 2 ^ 52 := by rw [← Nat.pow_add]; congr 1; omega
  have hpow2 : 2 ^ (L + 1) * 2 ^ (52 - L) = 2 ^ 53 := by rw [← Nat.pow_add]; congr 1; omega
  have hpos : 0 < 2 ^ (52 - L) := Nat.two_pow_pos _
  have hk1 : 2 ^ 52 ≤ mag * 2 ^ (52 - L) := by rw [← hpow]; exact Nat.mul_le_mul_right _ h1
  have hk2 : mag * 2 ^ (52 - L) < 2 ^ 53 := by rw [← hpow2]; exact Nat.mul_lt_mul_of_pos_right h2 hpos
  have hm0 : mag ≠ 0 := by
    have : 0 < 2 ^ L := Nat.two_pow_pos _
    omega
  have hlp : Ieee.double.leastPlace = -1074 := by decide
  have hfb : Ieee.double.fractionBits = 52 := rfl
  obtain ⟨B, hbin⟩ : ∃ B, Ieee.double.binade = B := ⟨_, rfl⟩
  obtain ⟨I, hinf⟩ : ∃ I, Ieee.double.infRung = I := ⟨_, rfl⟩
  obtain ⟨S, hsw⟩ : ∃ S, Ieee.double.signWeight = S := ⟨_, rfl⟩
  have hB : B = 4503599627370496 := by rw [← hbin]; decide
  have hI : I = 9218868437227405312 := by rw [← hinf]; decide
  have hS : S = 9223372036854775808 := by rw [← hsw]; decide
  generalize hx : mag * 2 ^ (52 - L) = x at *
  have hle : (L + 1022) * B + x < I := by rw [hB, hI]; omega
  rw [nearest_gen Ieee.double neg mag L x B I hfb hlp hbin hinf hm0 hlog hL hx (Nat.le_of_lt hle)]
  rw [read_gen Ieee.double neg (L + 1022) x B I S hlp hbin hinf hsw (by omega) (by omega) (by omega) hle (by omega)]
  have e : ((L + 1022 : Nat) : Int) - 1074 = (L : Int) - 52 := by omega
  rw [e]

theorem toInt_mag (neg : Bool) (mag L : Nat) (hL : L ≤ 52) (h1 : 2 ^ L ≤ mag) (h2 : mag < 2 ^ (L + 1)) :
    (Ieee.Datum.number neg (mag * 2 ^ (52 - L)) ((L : Int) - 52)).toInt .zero = some (Ieee.signed neg mag 0) := by
  have hlog : (mag * 2 ^ (52 - L)).log2 = 52 := by
    have hpow : 2 ^ L * 2 ^ (52 - L) = 2 ^ 52 := by rw [← Nat.pow_add]; congr 1; omega
    have hpow2 : 2 ^ (L + 1) * 2 ^ (52 - L) = 2 ^ 53 := by rw [← Nat.pow_add]; congr 1; omega
    exact log2_of (by rw [← hpow]; exact Nat.mul_le_mul_right _ h1) (by rw [← hpow2]; exact Nat.mul_lt_mul_of_pos_right h2 (Nat.two_pow_pos _))
  unfold Ieee.Datum.toInt Ieee.Datum.integral
  simp only
  have e1 : ((L : Int) - 52).toNat = 0 := by omega
  have e2 : (-((L : Int) - 52)).toNat = 52 - L := by omega
  rw [e1, e2, Nat.shiftLeft_zero]
  have hcut : Ieee.Toward.zero.cut neg (mag * 2 ^ (52 - L)) (52 - L) = mag := by
    unfold Ieee.Toward.cut
    simp only
    rw [hlog, Nat.shiftLeft_eq, Nat.one_mul, show min (52 - L) (52 + 2) = 52 - L by omega, Nat.mul_div_cancel _ (Nat.two_pow_pos _)]
    simp
  rw [hcut]

theorem signed_zero (neg : Bool) (mag : Nat) : Ieee.signed neg mag 0 = if neg then -(mag : Int) else (mag : Int) := by
  unfold Ieee.signed
  simp

theorem float_back (n : Int) (h : -9007199254740992 < n ∧ n < 9007199254740992) : ((FloatKind.f64.decode (FloatKind.f64.nearest n)).toInt .zero) = some n := by
  by_cases h0 : n = 0
  · subst h0; decide
  · have hm0 : n.natAbs ≠ 0 := by omega
    have h1 : 2 ^ n.natAbs.log2 ≤ n.natAbs := (Nat.le_log2 hm0).1 (Nat.le_refl _)
    have h2 : n.natAbs < 2 ^ (n.natAbs.log2 + 1) := (Nat.log2_lt hm0).1 (Nat.lt_succ_self _)
    have hL : n.natAbs.log2 ≤ 52 := by
      have : n.natAbs.log2 < 53 := (Nat.log2_lt hm0).2 (by omega)
      omega
    have e : FloatKind.f64.nearest n = Ieee.double.nearest (decide (n < 0)) n.natAbs 0 := rfl
    have e2 : ∀ x, FloatKind.f64.decode x = Ieee.double.read x := fun _ => rfl
    rw [e, e2, mag_back (decide (n < 0)) n.natAbs _ hL h1 h2, toInt_mag _ _ _ hL h1 h2, signed_zero]
    by_cases hn : n < 0
    · simp [hn]; omega
    · simp [hn]; omega
end Go.Abs
end
section
set_option linter.unusedVariables false
set_option linter.unusedSimpArgs false
/- What the coder's functions come to: points; values held against their likes. -/
set_option linter.unusedVariables false
set_option linter.unusedSimpArgs false
namespace Go.Abs.Seat
open Go.Proofs

/-! ### points -/

/-- A whole number in a point's range. -/
def wrapZ (n : Int) : Int := if 1048576 ≤ n % 2097152 then n % 2097152 - 2097152 else n % 2097152
theorem wrapZ_le (n : Int) : -1048576 ≤ wrapZ n ∧ wrapZ n < 1048576 := by unfold wrapZ; split <;> omega
def flZ (n : Int) : Nat := FloatKind.f64.nearest (wrapZ n)
def pointV (re im : Int) : VT := mkV 5 0 [] (flZ re) (flZ im) []

theorem b_and21 (n : Int) (h : -9223372036854775808 ≤ n ∧ n < 9223372036854775808) : binA .and (.im (.int .i64 n)) (.im (.int .i64 2097151)) = some (.im (.int .i64 (n % 2097152))) := by
  have h2 : (BitVec.ofInt IntKind.i64.bits n &&& BitVec.ofInt IntKind.i64.bits 2097151).toNat = (n % 2097152).toNat := by
    rw [BitVec.toNat_and, BitVec.toNat_ofInt, BitVec.toNat_ofInt]
    have e1 : ((2097151 : Int) % ((2 ^ IntKind.i64.bits : Nat) : Int)).toNat = 2 ^ 21 - 1 := by decide
    rw [e1, Nat.and_two_pow_sub_one_eq_mod]
    have e2 : ((2 ^ IntKind.i64.bits : Nat) : Int) = 18446744073709551616 := by decide
    rw [e2]
    omega
  simp only [binA, isShift, Bool.false_eq_true, if_false, if_true, binInt, h2]
  rw [wrap_i64 (by omega)]
  congr 3
  omega

theorem s54 (n : Int) (h : -9223372036854775808 ≤ n ∧ n < 9223372036854775808) (H : Heap) : L 54 [.im (.int .i64 n)] H = some (.im (.flt .f64 (flZ n)), H) := by
  have h2 := b_and21 n h
  have hlv : ∀ x : Nat, leave H false (.im (.flt .f64 x)) H = (.im (.flt .f64 x), H) := fun x => leave_same
  have hw : IntKind.i64.wrap (n % 2097152 - 2097152) = n % 2097152 - 2097152 := Go.Abs.Seat.wrap_small _ (by omega)
  rw [leq F54]
  obtain ⟨hlen, ha⟩ := enter_at (f := f54) (args := [.im (.int .i64 n)]) (Nat.le_of_ble_eq_true rfl)
  have h0 := ha 0 _ rfl
  generalize enterA f54 [.im (.int .i64 n)] = tm at *
  change tm.length = 11 at hlen
  unfold flZ wrapZ
  by_cases hc : 1048576 ≤ n % 2097152
  · have hd : decide (1048576 ≤ n % 2097152) = true := decide_eq_true hc
    rw [if_pos hc]
    simp only [f54, x_seq, x_block, x_skip, x_label, x_cond, x_exit, x_goto, x_ret, k_normal, k_exit, k_goto, k_ret, b_normal, b_exit, b_goto, b_ret, wantedA, aop, ev, putA, List.length_cons, List.length_nil, List.replicate, List.cons_append, List.nil_append, List.append_nil, List.append_assoc, gs_same, gs_ne, gq_same, gq_ne, List.length_set, List.map_cons, List.map_nil, cellsOf, List.all_cons, List.all_nil, cellOk, boxTy, Bool.and_true, Bool.and_self, if_true, ite_true, ite_false, loadAt, storeAt, setAt, hget, hget0, hset, hset0, List.getElem?_cons_zero, List.getElem?_cons_succ, List.set_cons_zero, List.set_cons_succ, Nat.add_zero, Nat.zero_add, Nat.reduceAdd, Nat.reduceSub, Nat.reduceLeDiff, Nat.reduceLT, Nat.reduceEqDiff, Nat.le_refl, and_self, and_true, true_and, mkAgg, toIms, List.drop_zero, List.drop_succ_cons, List.take_succ_cons, List.take_zero, List.length_append, binBool, unA, Bool.false_eq_true, if_false, partA, fillA, fillE, List.take_nil, Nat.zero_ne_one, Nat.one_ne_zero, not_false_eq_true, ne_eq, Nat.succ_ne_self, reduceCtorEq, Int.reduceEq, Int.reduceLT, Int.reduceLE, decide_true, decide_false, lenA, beq_self_eq_true, beq_true, beq_false, Bool.not_true, Bool.not_false, b_lss, b_gtr, b_leq, b_geq, b_eql, b_neq, b_add, b_sub, b_mul, s_eql, s_neq, y_ops, y_nil, y_cons, y_guard, y_some, y_drop, y_do, y_not, y_not0, c_call, c_clo, c_move, c_pick, c_alloc, c_box, c_build, c_bslice, c_load, c_store, c_nilCheck, c_bin, c_binB, c_un, c_i2i, c_i2f, c_f2i, c_s2b, c_b2s, c_strId, c_mkfunc, c_mkslice, c_slice, c_sliceStr, c_fieldAddr, c_field, c_indexSl, c_indexArr, c_elemArr, c_indexStr, c_extract, c_lenStr, c_lenSl, c_append, c_real, c_imag, c_complex, c_min, c_max, c_clear, endK, resA, tupA, hlen, h0, h2, hd, hw, hlv]
  · have hd : decide (1048576 ≤ n % 2097152) = false := decide_eq_false hc
    rw [if_neg hc]
    simp only [f54, x_seq, x_block, x_skip, x_label, x_cond, x_exit, x_goto, x_ret, k_normal, k_exit, k_goto, k_ret, b_normal, b_exit, b_goto, b_ret, wantedA, aop, ev, putA, List.length_cons, List.length_nil, List.replicate, List.cons_append, List.nil_append, List.append_nil, List.append_assoc, gs_same, gs_ne, gq_same, gq_ne, List.length_set, List.map_cons, List.map_nil, cellsOf, List.all_cons, List.all_nil, cellOk, boxTy, Bool.and_true, Bool.and_self, if_true, ite_true, ite_false, loadAt, storeAt, setAt, hget, hget0, hset, hset0, List.getElem?_cons_zero, List.getElem?_cons_succ, List.set_cons_zero, List.set_cons_succ, Nat.add_zero, Nat.zero_add, Nat.reduceAdd, Nat.reduceSub, Nat.reduceLeDiff, Nat.reduceLT, Nat.reduceEqDiff, Nat.le_refl, and_self, and_true, true_and, mkAgg, toIms, List.drop_zero, List.drop_succ_cons, List.take_succ_cons, List.take_zero, List.length_append, binBool, unA, Bool.false_eq_true, if_false, partA, fillA, fillE, List.take_nil, Nat.zero_ne_one, Nat.one_ne_zero, not_false_eq_true, ne_eq, Nat.succ_ne_self, reduceCtorEq, Int.reduceEq, Int.reduceLT, Int.reduceLE, decide_true, decide_false, lenA, beq_self_eq_true, beq_true, beq_false, Bool.not_true, Bool.not_false, b_lss, b_gtr, b_leq, b_geq, b_eql, b_neq, b_add, b_sub, b_mul, s_eql, s_neq, y_ops, y_nil, y_cons, y_guard, y_some, y_drop, y_do, y_not, y_not0, c_call, c_clo, c_move, c_pick, c_alloc, c_box, c_build, c_bslice, c_load, c_store, c_nilCheck, c_bin, c_binB, c_un, c_i2i, c_i2f, c_f2i, c_s2b, c_b2s, c_strId, c_mkfunc, c_mkslice, c_slice, c_sliceStr, c_fieldAddr, c_field, c_indexSl, c_indexArr, c_elemArr, c_indexStr, c_extract, c_lenStr, c_lenSl, c_append, c_real, c_imag, c_complex, c_min, c_max, c_clear, endK, resA, tupA, hlen, h0, h2, hd, hlv]

theorem s24 (re im : Int) (hr : -9223372036854775808 ≤ re ∧ re < 9223372036854775808) (hi : -9223372036854775808 ≤ im ∧ im < 9223372036854775808) (H : Heap) : L 24 [.im (.int .i64 re), .im (.int .i64 im)] H = some (.im (.agg (encV (pointV re im))), H) := by
  have c1 := fun H => s54 re hr H
  have c2 := fun H => s54 im hi H
  have hlv : ∀ (M : Heap) (a b : Nat), leave H false (.agg [.im (.int .i64 5), .im (.int .i64 0), .im (.str []), .im (.cpx .f64 a b), .nils]) (H ++ M) = (.im (.agg [.int .i64 5, .int .i64 0, .str [], .cpx .f64 a b, .sl 0 []]), H) := fun M a b => leave_deg (by simp [degrade, toDat, toDats]) (by simp [refsLt])
  rw [leq F24]
  obtain ⟨hlen, ha⟩ := enter_at (f := f24) (args := [.im (.int .i64 re), .im (.int .i64 im)]) (Nat.le_of_ble_eq_true rfl)
  have h0 := ha 0 _ rfl
  have h1 := ha 1 _ rfl
  generalize enterA f24 [.im (.int .i64 re), .im (.int .i64 im)] = tm at *
  change tm.length = 11 at hlen
  unfold pointV mkV
  generalize flZ re = a at *
  generalize flZ im = b at *
  simp only [f24, x_seq, x_block, x_skip, x_label, x_cond, x_exit, x_goto, x_ret, k_normal, k_exit, k_goto, k_ret, b_normal, b_exit, b_goto, b_ret, wantedA, aop, ev, putA, List.length_cons, List.length_nil, List.replicate, List.cons_append, List.nil_append, List.append_nil, List.append_assoc, gs_same, gs_ne, gq_same, gq_ne, List.length_set, List.map_cons, List.map_nil, cellsOf, List.all_cons, List.all_nil, cellOk, boxTy, Bool.and_true, Bool.and_self, if_true, ite_true, ite_false, loadAt, storeAt, setAt, hget, hget0, hset, hset0, List.getElem?_cons_zero, List.getElem?_cons_succ, List.set_cons_zero, List.set_cons_succ, Nat.add_zero, Nat.zero_add, Nat.reduceAdd, Nat.reduceSub, Nat.reduceLeDiff, Nat.reduceLT, Nat.reduceEqDiff, Nat.le_refl, and_self, and_true, true_and, mkAgg, toIms, List.drop_zero, List.drop_succ_cons, List.take_succ_cons, List.take_zero, List.length_append, binBool, unA, Bool.false_eq_true, if_false, partA, fillA, fillE, List.take_nil, Nat.zero_ne_one, Nat.one_ne_zero, not_false_eq_true, ne_eq, Nat.succ_ne_self, reduceCtorEq, Int.reduceEq, Int.reduceLT, Int.reduceLE, decide_true, decide_false, lenA, beq_self_eq_true, beq_true, beq_false, Bool.not_true, Bool.not_false, b_lss, b_gtr, b_leq, b_geq, b_eql, b_neq, b_add, b_sub, b_mul, s_eql, s_neq, y_ops, y_nil, y_cons, y_guard, y_some, y_drop, y_do, y_not, y_not0, c_call, c_clo, c_move, c_pick, c_alloc, c_box, c_build, c_bslice, c_load, c_store, c_nilCheck, c_bin, c_binB, c_un, c_i2i, c_i2f, c_f2i, c_s2b, c_b2s, c_strId, c_mkfunc, c_mkslice, c_slice, c_sliceStr, c_fieldAddr, c_field, c_indexSl, c_indexArr, c_elemArr, c_indexStr, c_extract, c_lenStr, c_lenSl, c_append, c_real, c_imag, c_complex, c_min, c_max, c_clear, endK, resA, tupA, hlen, h0, h1, c1, c2, hlv, encV, encVs, List.length_nil, if_true]

theorem s111 (n : Int) (h : -9223372036854775808 ≤ n ∧ n < 9223372036854775808) (H : Heap) : L 111 [.im (.int .i64 n)] H = some (.im (.int .i64 (wrapZ n)), H) := by
  have hlv : ∀ x : Int, leave H false (.im (.int .i64 x)) H = (.im (.int .i64 x), H) := fun x => leave_same
  have hrem : binA .rem (.im (.int .i64 n)) (.im (.int .i64 2097152)) = some (.im (.int .i64 (n.tmod 2097152))) := by
    simp only [binA, isShift, Bool.false_eq_true, if_false, if_true, binInt]
    rw [if_neg (by decide)]
  have ht : n.tmod 2097152 = n % 2097152 ∨ (n.tmod 2097152 = n % 2097152 - 2097152 ∧ n.tmod 2097152 < 0) := by
    have h0 := Int.tmod_eq_emod (a := n) (b := 2097152)
    by_cases hcnd : 0 ≤ n ∨ (2097152 : Int) ∣ n
    · rw [if_pos hcnd] at h0; left; omega
    · rw [if_neg hcnd] at h0; right; omega
  have hb : -2097152 < n.tmod 2097152 ∧ n.tmod 2097152 < 2097152 := by
    have h0 := Int.tmod_eq_emod (a := n) (b := 2097152)
    by_cases hcnd : 0 ≤ n ∨ (2097152 : Int) ∣ n
    · rw [if_pos hcnd] at h0; omega
    · rw [if_neg hcnd] at h0; omega
  rw [leq F111]
  obtain ⟨hlen, ha⟩ := enter_at (f := f111) (args := [.im (.int .i64 n)]) (Nat.le_of_ble_eq_true rfl)
  have h0 := ha 0 _ rfl
  generalize enterA f111 [.im (.int .i64 n)] = tm at *
  change tm.length = 15 at hlen
  have fin : ∀ m : Int, m = n % 2097152 → (decide (1048576 ≤ m) = true → IntKind.i64.wrap (m - 2097152) = wrapZ n) ∧ (decide (1048576 ≤ m) = false → m = wrapZ n) := by
    intro m hm
    subst hm
    constructor
    · intro hd
      have hd := of_decide_eq_true hd
      unfold wrapZ
      rw [if_pos hd, Go.Abs.Seat.wrap_small _ (by omega)]
    · intro hd
      have hd := of_decide_eq_false hd
      unfold wrapZ
      rw [if_neg hd]
  by_cases hneg : n.tmod 2097152 < 0
  · have hd1 : decide (n.tmod 2097152 < 0) = true := decide_eq_true hneg
    have hw1 : IntKind.i64.wrap (n.tmod 2097152 + 2097152) = n % 2097152 := by rw [Go.Abs.Seat.wrap_small _ (by omega)]; omega
    obtain ⟨f1, f2⟩ := fin _ rfl
    cases hd2 : decide (1048576 ≤ n % 2097152) with
    | true =>
      have f1 := f1 hd2
      simp only [f111, x_seq, x_block, x_skip, x_label, x_cond, x_exit, x_goto, x_ret, k_normal, k_exit, k_goto, k_ret, b_normal, b_exit, b_goto, b_ret, wantedA, aop, ev, putA, List.length_cons, List.length_nil, List.replicate, List.cons_append, List.nil_append, List.append_nil, List.append_assoc, gs_same, gs_ne, gq_same, gq_ne, List.length_set, List.map_cons, List.map_nil, cellsOf, List.all_cons, List.all_nil, cellOk, boxTy, Bool.and_true, Bool.and_self, if_true, ite_true, ite_false, loadAt, storeAt, setAt, hget, hget0, hset, hset0, List.getElem?_cons_zero, List.getElem?_cons_succ, List.set_cons_zero, List.set_cons_succ, Nat.add_zero, Nat.zero_add, Nat.reduceAdd, Nat.reduceSub, Nat.reduceLeDiff, Nat.reduceLT, Nat.reduceEqDiff, Nat.le_refl, and_self, and_true, true_and, mkAgg, toIms, List.drop_zero, List.drop_succ_cons, List.take_succ_cons, List.take_zero, List.length_append, binBool, unA, Bool.false_eq_true, if_false, partA, fillA, fillE, List.take_nil, Nat.zero_ne_one, Nat.one_ne_zero, not_false_eq_true, ne_eq, Nat.succ_ne_self, reduceCtorEq, Int.reduceEq, Int.reduceLT, Int.reduceLE, decide_true, decide_false, lenA, beq_self_eq_true, beq_true, beq_false, Bool.not_true, Bool.not_false, b_lss, b_gtr, b_leq, b_geq, b_eql, b_neq, b_add, b_sub, b_mul, s_eql, s_neq, y_ops, y_nil, y_cons, y_guard, y_some, y_drop, y_do, y_not, y_not0, c_call, c_clo, c_move, c_pick, c_alloc, c_box, c_build, c_bslice, c_load, c_store, c_nilCheck, c_bin, c_binB, c_un, c_i2i, c_i2f, c_f2i, c_s2b, c_b2s, c_strId, c_mkfunc, c_mkslice, c_slice, c_sliceStr, c_fieldAddr, c_field, c_indexSl, c_indexArr, c_elemArr, c_indexStr, c_extract, c_lenStr, c_lenSl, c_append, c_real, c_imag, c_complex, c_min, c_max, c_clear, endK, resA, tupA, hlen, h0, hrem, hd1, hw1, hd2, f1, hlv]
    | false =>
      have f2 := f2 hd2
      simp only [f111, x_seq, x_block, x_skip, x_label, x_cond, x_exit, x_goto, x_ret, k_normal, k_exit, k_goto, k_ret, b_normal, b_exit, b_goto, b_ret, wantedA, aop, ev, putA, List.length_cons, List.length_nil, List.replicate, List.cons_append, List.nil_append, List.append_nil, List.append_assoc, gs_same, gs_ne, gq_same, gq_ne, List.length_set, List.map_cons, List.map_nil, cellsOf, List.all_cons, List.all_nil, cellOk, boxTy, Bool.and_true, Bool.and_self, if_true, ite_true, ite_false, loadAt, storeAt, setAt, hget, hget0, hset, hset0, List.getElem?_cons_zero, List.getElem?_cons_succ, List.set_cons_zero, List.set_cons_succ, Nat.add_zero, Nat.zero_add, Nat.reduceAdd, Nat.reduceSub, Nat.reduceLeDiff, Nat.reduceLT, Nat.reduceEqDiff, Nat.le_refl, and_self, and_true, true_and, mkAgg, toIms, List.drop_zero, List.drop_succ_cons, List.take_succ_cons, List.take_zero, List.length_append, binBool, unA, Bool.false_eq_true, if_false, partA, fillA, fillE, List.take_nil, Nat.zero_ne_one, Nat.one_ne_zero, not_false_eq_true, ne_eq, Nat.succ_ne_self, reduceCtorEq, Int.reduceEq, Int.reduceLT, Int.reduceLE, decide_true, decide_false, lenA, beq_self_eq_true, beq_true, beq_false, Bool.not_true, Bool.not_false, b_lss, b_gtr, b_leq, b_geq, b_eql, b_neq, b_add, b_sub, b_mul, s_eql, s_neq, y_ops, y_nil, y_cons, y_guard, y_some, y_drop, y_do, y_not, y_not0, c_call, c_clo, c_move, c_pick, c_alloc, c_box, c_build, c_bslice, c_load, c_store, c_nilCheck, c_bin, c_binB, c_un, c_i2i, c_i2f, c_f2i, c_s2b, c_b2s, c_strId, c_mkfunc, c_mkslice, c_slice, c_sliceStr, c_fieldAddr, c_field, c_indexSl, c_indexArr, c_elemArr, c_indexStr, c_extract, c_lenStr, c_lenSl, c_append, c_real, c_imag, c_complex, c_min, c_max, c_clear, endK, resA, tupA, hlen, h0, hrem, hd1, hw1, hd2, hlv]
      rw [f2]
  · have hd1 : decide (n.tmod 2097152 < 0) = false := decide_eq_false hneg
    have he : n.tmod 2097152 = n % 2097152 := by omega
    obtain ⟨f1, f2⟩ := fin _ rfl
    rw [he] at hd1 hrem
    cases hd2 : decide (1048576 ≤ n % 2097152) with
    | true =>
      have f1 := f1 hd2
      simp only [f111, x_seq, x_block, x_skip, x_label, x_cond, x_exit, x_goto, x_ret, k_normal, k_exit, k_goto, k_ret, b_normal, b_exit, b_goto, b_ret, wantedA, aop, ev, putA, List.length_cons, List.length_nil, List.replicate, List.cons_append, List.nil_append, List.append_nil, List.append_assoc, gs_same, gs_ne, gq_same, gq_ne, List.length_set, List.map_cons, List.map_nil, cellsOf, List.all_cons, List.all_nil, cellOk, boxTy, Bool.and_true, Bool.and_self, if_true, ite_true, ite_false, loadAt, storeAt, setAt, hget, hget0, hset, hset0, List.getElem?_cons_zero, List.getElem?_cons_succ, List.set_cons_zero, List.set_cons_succ, Nat.add_zero, Nat.zero_add, Nat.reduceAdd, Nat.reduceSub, Nat.reduceLeDiff, Nat.reduceLT, Nat.reduceEqDiff, Nat.le_refl, and_self, and_true, true_and, mkAgg, toIms, List.drop_zero, List.drop_succ_cons, List.take_succ_cons, List.take_zero, List.length_append, binBool, unA, Bool.false_eq_true, if_false, partA, fillA, fillE, List.take_nil, Nat.zero_ne_one, Nat.one_ne_zero, not_false_eq_true, ne_eq, Nat.succ_ne_self, reduceCtorEq, Int.reduceEq, Int.reduceLT, Int.reduceLE, decide_true, decide_false, lenA, beq_self_eq_true, beq_true, beq_false, Bool.not_true, Bool.not_false, b_lss, b_gtr, b_leq, b_geq, b_eql, b_neq, b_add, b_sub, b_mul, s_eql, s_neq, y_ops, y_nil, y_cons, y_guard, y_some, y_drop, y_do, y_not, y_not0, c_call, c_clo, c_move, c_pick, c_alloc, c_box, c_build, c_bslice, c_load, c_store, c_nilCheck, c_bin, c_binB, c_un, c_i2i, c_i2f, c_f2i, c_s2b, c_b2s, c_strId, c_mkfunc, c_mkslice, c_slice, c_sliceStr, c_fieldAddr, c_field, c_indexSl, c_indexArr, c_elemArr, c_indexStr, c_extract, c_lenStr, c_lenSl, c_append, c_real, c_imag, c_complex, c_min, c_max, c_clear, endK, resA, tupA, hlen, h0, hrem, hd1, hd2, f1, hlv]
    | false =>
      have f2 := f2 hd2
      simp only [f111, x_seq, x_block, x_skip, x_label, x_cond, x_exit, x_goto, x_ret, k_normal, k_exit, k_goto, k_ret, b_normal, b_exit, b_goto, b_ret, wantedA, aop, ev, putA, List.length_cons, List.length_nil, List.replicate, List.cons_append, List.nil_append, List.append_nil, List.append_assoc, gs_same, gs_ne, gq_same, gq_ne, List.length_set, List.map_cons, List.map_nil, cellsOf, List.all_cons, List.all_nil, cellOk, boxTy, Bool.and_true, Bool.and_self, if_true, ite_true, ite_false, loadAt, storeAt, setAt, hget, hget0, hset, hset0, List.getElem?_cons_zero, List.getElem?_cons_succ, List.set_cons_zero, List.set_cons_succ, Nat.add_zero, Nat.zero_add, Nat.reduceAdd, Nat.reduceSub, Nat.reduceLeDiff, Nat.reduceLT, Nat.reduceEqDiff, Nat.le_refl, and_self, and_true, true_and, mkAgg, toIms, List.drop_zero, List.drop_succ_cons, List.take_succ_cons, List.take_zero, List.length_append, binBool, unA, Bool.false_eq_true, if_false, partA, fillA, fillE, List.take_nil, Nat.zero_ne_one, Nat.one_ne_zero, not_false_eq_true, ne_eq, Nat.succ_ne_self, reduceCtorEq, Int.reduceEq, Int.reduceLT, Int.reduceLE, decide_true, decide_false, lenA, beq_self_eq_true, beq_true, beq_false, Bool.not_true, Bool.not_false, b_lss, b_gtr, b_leq, b_geq, b_eql, b_neq, b_add, b_sub, b_mul, s_eql, s_neq, y_ops, y_nil, y_cons, y_guard, y_some, y_drop, y_do, y_not, y_not0, c_call, c_clo, c_move, c_pick, c_alloc, c_box, c_build, c_bslice, c_load, c_store, c_nilCheck, c_bin, c_binB, c_un, c_i2i, c_i2f, c_f2i, c_s2b, c_b2s, c_strId, c_mkfunc, c_mkslice, c_slice, c_sliceStr, c_fieldAddr, c_field, c_indexSl, c_indexArr, c_elemArr, c_indexStr, c_extract, c_lenStr, c_lenSl, c_append, c_real, c_imag, c_complex, c_min, c_max, c_clear, endK, resA, tupA, hlen, h0, hrem, hd1, hd2, hlv]
      rw [f2]

theorem s97 (re im : Int) (hr : -9223372036854775808 ≤ re ∧ re < 9223372036854775808) (hi : -9223372036854775808 ≤ im ∧ im < 9223372036854775808) (H : Heap) : L 97 [.im (.int .i64 re), .im (.int .i64 im)] H = some (.im (.agg (encV (pointV re im))), H) := by
  have c1 := fun H => s111 re hr H
  have c2 := fun H => s111 im hi H
  have hlv : ∀ (M : Heap) (a b : Nat), leave H false (.agg [.im (.int .i64 5), .im (.int .i64 0), .im (.str []), .im (.cpx .f64 a b), .nils]) (H ++ M) = (.im (.agg [.int .i64 5, .int .i64 0, .str [], .cpx .f64 a b, .sl 0 []]), H) := fun M a b => leave_deg (by simp [degrade, toDat, toDats]) (by simp [refsLt])
  rw [leq F97]
  obtain ⟨hlen, ha⟩ := enter_at (f := f97) (args := [.im (.int .i64 re), .im (.int .i64 im)]) (Nat.le_of_ble_eq_true rfl)
  have h0 := ha 0 _ rfl
  have h1 := ha 1 _ rfl
  generalize enterA f97 [.im (.int .i64 re), .im (.int .i64 im)] = tm at *
  change tm.length = 13 at hlen
  unfold pointV mkV flZ
  simp only [f97, x_seq, x_block, x_skip, x_label, x_cond, x_exit, x_goto, x_ret, k_normal, k_exit, k_goto, k_ret, b_normal, b_exit, b_goto, b_ret, wantedA, aop, ev, putA, List.length_cons, List.length_nil, List.replicate, List.cons_append, List.nil_append, List.append_nil, List.append_assoc, gs_same, gs_ne, gq_same, gq_ne, List.length_set, List.map_cons, List.map_nil, cellsOf, List.all_cons, List.all_nil, cellOk, boxTy, Bool.and_true, Bool.and_self, if_true, ite_true, ite_false, loadAt, storeAt, setAt, hget, hget0, hset, hset0, List.getElem?_cons_zero, List.getElem?_cons_succ, List.set_cons_zero, List.set_cons_succ, Nat.add_zero, Nat.zero_add, Nat.reduceAdd, Nat.reduceSub, Nat.reduceLeDiff, Nat.reduceLT, Nat.reduceEqDiff, Nat.le_refl, and_self, and_true, true_and, mkAgg, toIms, List.drop_zero, List.drop_succ_cons, List.take_succ_cons, List.take_zero, List.length_append, binBool, unA, Bool.false_eq_true, if_false, partA, fillA, fillE, List.take_nil, Nat.zero_ne_one, Nat.one_ne_zero, not_false_eq_true, ne_eq, Nat.succ_ne_self, reduceCtorEq, Int.reduceEq, Int.reduceLT, Int.reduceLE, decide_true, decide_false, lenA, beq_self_eq_true, beq_true, beq_false, Bool.not_true, Bool.not_false, b_lss, b_gtr, b_leq, b_geq, b_eql, b_neq, b_add, b_sub, b_mul, s_eql, s_neq, y_ops, y_nil, y_cons, y_guard, y_some, y_drop, y_do, y_not, y_not0, c_call, c_clo, c_move, c_pick, c_alloc, c_box, c_build, c_bslice, c_load, c_store, c_nilCheck, c_bin, c_binB, c_un, c_i2i, c_i2f, c_f2i, c_s2b, c_b2s, c_strId, c_mkfunc, c_mkslice, c_slice, c_sliceStr, c_fieldAddr, c_field, c_indexSl, c_indexArr, c_elemArr, c_indexStr, c_extract, c_lenStr, c_lenSl, c_append, c_real, c_imag, c_complex, c_min, c_max, c_clear, endK, resA, tupA, hlen, h0, h1, c1, c2, hlv, encV, encVs, List.length_nil, if_true]

/-! ### values and their likes -/

theorem s88 (n : Int) (H : Heap) : L 88 [.im (.int .i64 n), .im (.int .i64 n)] H = some (.im (.int .i64 0), H) := by
  have hlv : ∀ x : Int, leave H false (.im (.int .i64 x)) H = (.im (.int .i64 x), H) := fun x => leave_same
  have hd : decide (n < n) = false := decide_eq_false (by omega)
  rw [leq F88]
  obtain ⟨hlen, ha⟩ := enter_at (f := f88) (args := [.im (.int .i64 n), .im (.int .i64 n)]) (Nat.le_of_ble_eq_true rfl)
  have h0 := ha 0 _ rfl
  have h1 := ha 1 _ rfl
  generalize enterA f88 [.im (.int .i64 n), .im (.int .i64 n)] = tm at *
  change tm.length = 11 at hlen
  simp only [f88, x_seq, x_block, x_skip, x_label, x_cond, x_exit, x_goto, x_ret, k_normal, k_exit, k_goto, k_ret, b_normal, b_exit, b_goto, b_ret, wantedA, aop, ev, putA, List.length_cons, List.length_nil, List.replicate, List.cons_append, List.nil_append, List.append_nil, List.append_assoc, gs_same, gs_ne, gq_same, gq_ne, List.length_set, List.map_cons, List.map_nil, cellsOf, List.all_cons, List.all_nil, cellOk, boxTy, Bool.and_true, Bool.and_self, if_true, ite_true, ite_false, loadAt, storeAt, setAt, hget, hget0, hset, hset0, List.getElem?_cons_zero, List.getElem?_cons_succ, List.set_cons_zero, List.set_cons_succ, Nat.add_zero, Nat.zero_add, Nat.reduceAdd, Nat.reduceSub, Nat.reduceLeDiff, Nat.reduceLT, Nat.reduceEqDiff, Nat.le_refl, and_self, and_true, true_and, mkAgg, toIms, List.drop_zero, List.drop_succ_cons, List.take_succ_cons, List.take_zero, List.length_append, binBool, unA, Bool.false_eq_true, if_false, partA, fillA, fillE, List.take_nil, Nat.zero_ne_one, Nat.one_ne_zero, not_false_eq_true, ne_eq, Nat.succ_ne_self, reduceCtorEq, Int.reduceEq, Int.reduceLT, Int.reduceLE, decide_true, decide_false, lenA, beq_self_eq_true, beq_true, beq_false, Bool.not_true, Bool.not_false, b_lss, b_gtr, b_leq, b_geq, b_eql, b_neq, b_add, b_sub, b_mul, s_eql, s_neq, y_ops, y_nil, y_cons, y_guard, y_some, y_drop, y_do, y_not, y_not0, c_call, c_clo, c_move, c_pick, c_alloc, c_box, c_build, c_bslice, c_load, c_store, c_nilCheck, c_bin, c_binB, c_un, c_i2i, c_i2f, c_f2i, c_s2b, c_b2s, c_strId, c_mkfunc, c_mkslice, c_slice, c_sliceStr, c_fieldAddr, c_field, c_indexSl, c_indexArr, c_elemArr, c_indexStr, c_extract, c_lenStr, c_lenSl, c_append, c_real, c_imag, c_complex, c_min, c_max, c_clear, endK, resA, tupA, hlen, h0, h1, hd, hlv]

theorem l89 (a : List UInt8) (hn : a.length ≤ 4611686018427387904) (H : Heap) : ∀ (m i : Nat), i + m = a.length → ∀ tm : List AV, tm.length = 39 → tm.getD 0 undefA = .im (.str a) → tm.getD 1 undefA = .im (.str a) → tm.getD 5 undefA = .im (.int .i64 (i : Int)) →
    ∃ e tm' H', Λ c89_0 tm H = some (e, tm', H') ∧ e = .exit 0 ∧ H' = H ∧ tm'.length = 39 ∧ tm'.getD 0 undefA = .im (.str a) ∧ tm'.getD 1 undefA = .im (.str a)
  | 0, i, hi, tm, hlen, h0, h1, h5 => by
    have hc : decide ((i : Int) < (a.length : Int)) = false := decide_eq_false (by omega)
    rw [l89_0]
    simp only [b89_0, x_seq, x_block, x_skip, x_label, x_cond, x_exit, x_goto, x_ret, k_normal, k_exit, k_goto, k_ret, b_normal, b_exit, b_goto, b_ret, wantedA, aop, ev, putA, List.length_cons, List.length_nil, List.replicate, List.cons_append, List.nil_append, List.append_nil, List.append_assoc, gs_same, gs_ne, gq_same, gq_ne, List.length_set, List.map_cons, List.map_nil, cellsOf, List.all_cons, List.all_nil, cellOk, boxTy, Bool.and_true, Bool.and_self, if_true, ite_true, ite_false, loadAt, storeAt, setAt, hget, hget0, hset, hset0, List.getElem?_cons_zero, List.getElem?_cons_succ, List.set_cons_zero, List.set_cons_succ, Nat.add_zero, Nat.zero_add, Nat.reduceAdd, Nat.reduceSub, Nat.reduceLeDiff, Nat.reduceLT, Nat.reduceEqDiff, Nat.le_refl, and_self, and_true, true_and, mkAgg, toIms, List.drop_zero, List.drop_succ_cons, List.take_succ_cons, List.take_zero, List.length_append, binBool, unA, Bool.false_eq_true, if_false, partA, fillA, fillE, List.take_nil, Nat.zero_ne_one, Nat.one_ne_zero, not_false_eq_true, ne_eq, Nat.succ_ne_self, reduceCtorEq, Int.reduceEq, Int.reduceLT, Int.reduceLE, decide_true, decide_false, lenA, beq_self_eq_true, beq_true, beq_false, Bool.not_true, Bool.not_false, b_lss, b_gtr, b_leq, b_geq, b_eql, b_neq, b_add, b_sub, b_mul, s_eql, s_neq, y_ops, y_nil, y_cons, y_guard, y_some, y_drop, y_do, y_not, y_not0, c_call, c_clo, c_move, c_pick, c_alloc, c_box, c_build, c_bslice, c_load, c_store, c_nilCheck, c_bin, c_binB, c_un, c_i2i, c_i2f, c_f2i, c_s2b, c_b2s, c_strId, c_mkfunc, c_mkslice, c_slice, c_sliceStr, c_fieldAddr, c_field, c_indexSl, c_indexArr, c_elemArr, c_indexStr, c_extract, c_lenStr, c_lenSl, c_append, c_real, c_imag, c_complex, c_min, c_max, c_clear, hlen, h0, h1, h5, hc]
    exact ⟨_, _, _, rfl, rfl, rfl, by simp only [List.length_set, hlen], by simp only [gs_same, gs_ne, List.length_set, Nat.reduceLT, Nat.reduceEqDiff, not_false_eq_true, hlen, h0], by simp only [gs_same, gs_ne, List.length_set, Nat.reduceLT, Nat.reduceEqDiff, not_false_eq_true, hlen, h1]⟩
  | m + 1, i, hi, tm, hlen, h0, h1, h5 => by
    have hc : decide ((i : Int) < (a.length : Int)) = true := decide_eq_true (by omega)
    have hai : a[i]? = some (a[i]'(by omega)) := List.getElem?_eq_getElem (by omega)
    generalize a[i]'(by omega) = c at hai
    have hnn : (0 : Int) ≤ (i : Int) := Int.natCast_nonneg i
    have hwr := wrap_nat (i := i) (by omega)
    have key := l89 a hn H m (i + 1) (by omega)
    rw [l89_0]
    simp only [b89_0, x_seq, x_block, x_skip, x_label, x_cond, x_exit, x_goto, x_ret, k_normal, k_exit, k_goto, k_ret, b_normal, b_exit, b_goto, b_ret, wantedA, aop, ev, putA, List.length_cons, List.length_nil, List.replicate, List.cons_append, List.nil_append, List.append_nil, List.append_assoc, gs_same, gs_ne, gq_same, gq_ne, List.length_set, List.map_cons, List.map_nil, cellsOf, List.all_cons, List.all_nil, cellOk, boxTy, Bool.and_true, Bool.and_self, if_true, ite_true, ite_false, loadAt, storeAt, setAt, hget, hget0, hset, hset0, List.getElem?_cons_zero, List.getElem?_cons_succ, List.set_cons_zero, List.set_cons_succ, Nat.add_zero, Nat.zero_add, Nat.reduceAdd, Nat.reduceSub, Nat.reduceLeDiff, Nat.reduceLT, Nat.reduceEqDiff, Nat.le_refl, and_self, and_true, true_and, mkAgg, toIms, List.drop_zero, List.drop_succ_cons, List.take_succ_cons, List.take_zero, List.length_append, binBool, unA, Bool.false_eq_true, if_false, partA, fillA, fillE, List.take_nil, Nat.zero_ne_one, Nat.one_ne_zero, not_false_eq_true, ne_eq, Nat.succ_ne_self, reduceCtorEq, Int.reduceEq, Int.reduceLT, Int.reduceLE, decide_true, decide_false, lenA, beq_self_eq_true, beq_true, beq_false, Bool.not_true, Bool.not_false, b_lss, b_gtr, b_leq, b_geq, b_eql, b_neq, b_add, b_sub, b_mul, s_eql, s_neq, y_ops, y_nil, y_cons, y_guard, y_some, y_drop, y_do, y_not, y_not0, c_call, c_clo, c_move, c_pick, c_alloc, c_box, c_build, c_bslice, c_load, c_store, c_nilCheck, c_bin, c_binB, c_un, c_i2i, c_i2f, c_f2i, c_s2b, c_b2s, c_strId, c_mkfunc, c_mkslice, c_slice, c_sliceStr, c_fieldAddr, c_field, c_indexSl, c_indexArr, c_elemArr, c_indexStr, c_extract, c_lenStr, c_lenSl, c_append, c_real, c_imag, c_complex, c_min, c_max, c_clear, intOfA, byteDat, Int.toNat_natCast, hlen, h0, h1, h5, hc, hnn, hai, hwr]
    refine ex_imp (key _ ?_ ?_ ?_ ?_) fun _ _ _ h => h
    all_goals simp only [gs_same, gs_ne, List.length_set, Nat.reduceLT, Nat.reduceEqDiff, not_false_eq_true, hlen, h0, h1]

theorem s89 (a : List UInt8) (hn : a.length ≤ 4611686018427387904) (H : Heap) : L 89 [.im (.str a), .im (.str a)] H = some (.im (.int .i64 0), H) := by
  have hlv : ∀ x : Int, leave H false (.im (.int .i64 x)) H = (.im (.int .i64 x), H) := fun x => leave_same
  have key := l89 a hn H a.length 0 (by omega)
  have z : ((0 : Nat) : Int) = 0 := rfl
  rw [z] at key
  rw [leq F89]
  obtain ⟨hlen, ha⟩ := enter_at (f := f89) (args := [.im (.str a), .im (.str a)]) (Nat.le_of_ble_eq_true rfl)
  have h0 := ha 0 _ rfl
  have h1 := ha 1 _ rfl
  generalize enterA f89 [.im (.str a), .im (.str a)] = tm at *
  change tm.length = 39 at hlen
  simp only [f89, e89_0, x_seq, x_block, x_skip, x_label, x_cond, x_exit, x_goto, x_ret, k_normal, k_exit, k_goto, k_ret, b_normal, b_exit, b_goto, b_ret, wantedA, aop, ev, putA, List.length_cons, List.length_nil, List.replicate, List.cons_append, List.nil_append, List.append_nil, List.append_assoc, gs_same, gs_ne, gq_same, gq_ne, List.length_set, List.map_cons, List.map_nil, cellsOf, List.all_cons, List.all_nil, cellOk, boxTy, Bool.and_true, Bool.and_self, if_true, ite_true, ite_false, loadAt, storeAt, setAt, hget, hget0, hset, hset0, List.getElem?_cons_zero, List.getElem?_cons_succ, List.set_cons_zero, List.set_cons_succ, Nat.add_zero, Nat.zero_add, Nat.reduceAdd, Nat.reduceSub, Nat.reduceLeDiff, Nat.reduceLT, Nat.reduceEqDiff, Nat.le_refl, and_self, and_true, true_and, mkAgg, toIms, List.drop_zero, List.drop_succ_cons, List.take_succ_cons, List.take_zero, List.length_append, binBool, unA, Bool.false_eq_true, if_false, partA, fillA, fillE, List.take_nil, Nat.zero_ne_one, Nat.one_ne_zero, not_false_eq_true, ne_eq, Nat.succ_ne_self, reduceCtorEq, Int.reduceEq, Int.reduceLT, Int.reduceLE, decide_true, decide_false, lenA, beq_self_eq_true, beq_true, beq_false, Bool.not_true, Bool.not_false, b_lss, b_gtr, b_leq, b_geq, b_eql, b_neq, b_add, b_sub, b_mul, s_eql, s_neq, y_ops, y_nil, y_cons, y_guard, y_some, y_drop, y_do, y_not, y_not0, c_call, c_clo, c_move, c_pick, c_alloc, c_box, c_build, c_bslice, c_load, c_store, c_nilCheck, c_bin, c_binB, c_un, c_i2i, c_i2f, c_f2i, c_s2b, c_b2s, c_strId, c_mkfunc, c_mkslice, c_slice, c_sliceStr, c_fieldAddr, c_field, c_indexSl, c_indexArr, c_elemArr, c_indexStr, c_extract, c_lenStr, c_lenSl, c_append, c_real, c_imag, c_complex, c_min, c_max, c_clear, hlen, h0, h1]
  generalize hr : thenL _ _ = r
  refine Exists.elim (thenL_inv hr (key _ ?_ ?_ ?_ ?_)) ?_
  iterate 4 simp only [gs_same, gs_ne, List.length_set, Nat.reduceLT, Nat.reduceEqDiff, not_false_eq_true, hlen, h0, h1]
  clear hr key
  rintro e ⟨tm1, H1, ⟨rfl, rfl, hl1, a0, a1⟩, rfl⟩
  simp only [x_seq, x_block, x_skip, x_label, x_cond, x_exit, x_goto, x_ret, k_normal, k_exit, k_goto, k_ret, b_normal, b_exit, b_goto, b_ret, wantedA, aop, ev, putA, List.length_cons, List.length_nil, List.replicate, List.cons_append, List.nil_append, List.append_nil, List.append_assoc, gs_same, gs_ne, gq_same, gq_ne, List.length_set, List.map_cons, List.map_nil, cellsOf, List.all_cons, List.all_nil, cellOk, boxTy, Bool.and_true, Bool.and_self, if_true, ite_true, ite_false, loadAt, storeAt, setAt, hget, hget0, hset, hset0, List.getElem?_cons_zero, List.getElem?_cons_succ, List.set_cons_zero, List.set_cons_succ, Nat.add_zero, Nat.zero_add, Nat.reduceAdd, Nat.reduceSub, Nat.reduceLeDiff, Nat.reduceLT, Nat.reduceEqDiff, Nat.le_refl, and_self, and_true, true_and, mkAgg, toIms, List.drop_zero, List.drop_succ_cons, List.take_succ_cons, List.take_zero, List.length_append, binBool, unA, Bool.false_eq_true, if_false, partA, fillA, fillE, List.take_nil, Nat.zero_ne_one, Nat.one_ne_zero, not_false_eq_true, ne_eq, Nat.succ_ne_self, reduceCtorEq, Int.reduceEq, Int.reduceLT, Int.reduceLE, decide_true, decide_false, lenA, beq_self_eq_true, beq_true, beq_false, Bool.not_true, Bool.not_false, b_lss, b_gtr, b_leq, b_geq, b_eql, b_neq, b_add, b_sub, b_mul, s_eql, s_neq, y_ops, y_nil, y_cons, y_guard, y_some, y_drop, y_do, y_not, y_not0, c_call, c_clo, c_move, c_pick, c_alloc, c_box, c_build, c_bslice, c_load, c_store, c_nilCheck, c_bin, c_binB, c_un, c_i2i, c_i2f, c_f2i, c_s2b, c_b2s, c_strId, c_mkfunc, c_mkslice, c_slice, c_sliceStr, c_fieldAddr, c_field, c_indexSl, c_indexArr, c_elemArr, c_indexStr, c_extract, c_lenStr, c_lenSl, c_append, c_real, c_imag, c_complex, c_min, c_max, c_clear, endK, resA, tupA, hl1, a0, a1, s88, hlv]

end Go.Abs.Seat
end
section
set_option linter.unusedVariables false
set_option linter.unusedSimpArgs false
/- What the coder's functions come to: a value held against itself. -/
set_option linter.unusedVariables false
set_option linter.unusedSimpArgs false
namespace Go.Abs.Seat
open Go.Proofs

/-- Is it a point's part? -/
def okF (a : Nat) : Prop := ∃ n : Int, -1048576 ≤ n ∧ n < 1048576 ∧ a = FloatKind.f64.nearest n

mutual
def okV : VT → Prop
  | .mk _ _ txt fa fb s l => (l = [] ∨ s = 5) ∧ l.length ≤ 1000000 ∧ txt.length ≤ 4611686018427387904 ∧ okF fa ∧ okF fb ∧ okVs l
def okVs : List VT → Prop
  | [] => True
  | a :: l => okV a ∧ okVs l
end
theorem okVs_mem : ∀ {l : List VT}, okVs l → ∀ a ∈ l, okV a
  | [], _, a, h => by simp at h
  | b :: l, h, a, hm => by
    simp only [okVs] at h
    rcases List.mem_cons.1 hm with rfl | hm
    · exact h.1
    · exact okVs_mem h.2 a hm
theorem okVs_of : ∀ {l : List VT}, (∀ a ∈ l, okV a) → okVs l
  | [], _ => by simp only [okVs]
  | a :: l, h => by simp only [okVs]; exact ⟨h a (by simp), okVs_of fun x hx => h x (by simp [hx])⟩

theorem f2i_ok {a : Nat} (h : okF a) : ∃ n : Int, (FloatKind.f64.decode a).toInt .zero = some n ∧ -9223372036854775808 ≤ n ∧ n ≤ 9223372036854775807 := by
  obtain ⟨n, h1, h2, rfl⟩ := h
  exact ⟨n, float_back n (by omega), by omega, by omega⟩

theorem l61 (l : List VT) (s : Nat) (hs : l = [] ∨ s = 5) (hn : l.length ≤ 1000000) (ia ib : Nat) (x1 x2 x3 x4 y1 y2 y3 y4 : AV) (H : Heap) (oa : H[ia]? = some (.obj none [[x1, x2, x3, x4, .im (.sl s (l.map encV))]])) (ob : H[ib]? = some (.obj none [[y1, y2, y3, y4, .im (.sl s (l.map encV))]]))
    (hc : ∀ a ∈ l, L 61 [.im (.agg (encV a)), .im (.agg (encV a))] H = some (.im (.int .i64 0), H)) :
    ∀ (m i : Nat), i + m = l.length → ∀ tm : List AV, tm.length = 94 → tm.getD 2 undefA = .ptr ia 0 0 → tm.getD 3 undefA = .ptr ib 0 0 → tm.getD 6 undefA = .im (.int .i64 (i : Int)) →
    ∃ e tm' H', Λ c61_0 tm H = some (e, tm', H') ∧ e = .exit 1 ∧ H' = H ∧ tm'.length = 94 ∧ tm'.getD 2 undefA = .ptr ia 0 0 ∧ tm'.getD 3 undefA = .ptr ib 0 0
  | 0, i, hi, tm, hlen, h2, h3, h6 => by
    have hc' : decide ((i : Int) < (l.length : Int)) = false := decide_eq_false (by omega)
    rw [l61_0]
    simp only [b61_0, x_seq, x_block, x_skip, x_label, x_cond, x_exit, x_goto, x_ret, k_normal, k_exit, k_goto, k_ret, b_normal, b_exit, b_goto, b_ret, wantedA, aop, ev, putA, List.length_cons, List.length_nil, List.replicate, List.cons_append, List.nil_append, List.append_nil, List.append_assoc, gs_same, gs_ne, gq_same, gq_ne, List.length_set, List.map_cons, List.map_nil, cellsOf, List.all_cons, List.all_nil, cellOk, boxTy, Bool.and_true, Bool.and_self, if_true, ite_true, ite_false, loadAt, storeAt, setAt, hget, hget0, hset, hset0, List.getElem?_cons_zero, List.getElem?_cons_succ, List.set_cons_zero, List.set_cons_succ, Nat.add_zero, Nat.zero_add, Nat.reduceAdd, Nat.reduceSub, Nat.reduceLeDiff, Nat.reduceLT, Nat.reduceEqDiff, Nat.le_refl, and_self, and_true, true_and, mkAgg, toIms, List.drop_zero, List.drop_succ_cons, List.take_succ_cons, List.take_zero, List.length_append, binBool, unA, Bool.false_eq_true, if_false, partA, fillA, fillE, List.take_nil, Nat.zero_ne_one, Nat.one_ne_zero, not_false_eq_true, ne_eq, Nat.succ_ne_self, reduceCtorEq, Int.reduceEq, Int.reduceLT, Int.reduceLE, decide_true, decide_false, beq_self_eq_true, beq_true, beq_false, Bool.not_true, Bool.not_false, b_lss, b_gtr, b_leq, b_geq, b_eql, b_neq, b_add, b_sub, b_mul, s_eql, s_neq, y_ops, y_nil, y_cons, y_guard, y_some, y_drop, y_do, y_not, y_not0, c_call, c_clo, c_move, c_pick, c_alloc, c_box, c_build, c_bslice, c_load, c_store, c_nilCheck, c_bin, c_binB, c_un, c_i2i, c_i2f, c_f2i, c_s2b, c_b2s, c_strId, c_mkfunc, c_mkslice, c_slice, c_sliceStr, c_fieldAddr, c_field, c_indexSl, c_indexArr, c_elemArr, c_indexStr, c_extract, c_lenStr, c_lenSl, c_append, c_real, c_imag, c_complex, c_min, c_max, c_clear, lenA_sl, hlen, h2, h3, h6, oa, List.length_map, hc']
    exact ⟨_, _, _, rfl, rfl, rfl, by simp only [List.length_set, hlen], by simp only [gs_same, gs_ne, List.length_set, Nat.reduceLT, Nat.reduceEqDiff, not_false_eq_true, hlen, h2], by simp only [gs_same, gs_ne, List.length_set, Nat.reduceLT, Nat.reduceEqDiff, not_false_eq_true, hlen, h3]⟩
  | m + 1, i, hi, tm, hlen, h2, h3, h6 => by
    have hlt : i < l.length := by omega
    obtain ⟨a, hai, ea⟩ := drop_cons hlt
    have hs5 : s = 5 := by
      rcases hs with hs | hs
      · subst hs; simp at hlt
      · exact hs
    subst hs5
    have hc' : decide ((i : Int) < (l.length : Int)) = true := decide_eq_true (by omega)
    have hix := idx_nat (n := l.length) (i := i) hlt
    have hga : (l.map encV)[i]? = some (encV a) := by rw [List.getElem?_map, hai]; rfl
    have hcall := hc a (List.mem_of_getElem? hai)
    have hwr := wrap_nat (i := i) (by omega)
    have key := l61 l 5 hs hn ia ib x1 x2 x3 x4 y1 y2 y3 y4 H oa ob hc m (i + 1) (by omega)
    rw [l61_0]
    obtain ⟨k, i', txt, fa, fb, s', l'⟩ := a
    simp only [encV] at hcall hga
    simp only [b61_0, x_seq, x_block, x_skip, x_label, x_cond, x_exit, x_goto, x_ret, k_normal, k_exit, k_goto, k_ret, b_normal, b_exit, b_goto, b_ret, wantedA, aop, ev, putA, List.length_cons, List.length_nil, List.replicate, List.cons_append, List.nil_append, List.append_nil, List.append_assoc, gs_same, gs_ne, gq_same, gq_ne, List.length_set, List.map_cons, List.map_nil, cellsOf, List.all_cons, List.all_nil, cellOk, boxTy, Bool.and_true, Bool.and_self, if_true, ite_true, ite_false, loadAt, storeAt, setAt, hget, hget0, hset, hset0, List.getElem?_cons_zero, List.getElem?_cons_succ, List.set_cons_zero, List.set_cons_succ, Nat.add_zero, Nat.zero_add, Nat.reduceAdd, Nat.reduceSub, Nat.reduceLeDiff, Nat.reduceLT, Nat.reduceEqDiff, Nat.le_refl, and_self, and_true, true_and, mkAgg, toIms, List.drop_zero, List.drop_succ_cons, List.take_succ_cons, List.take_zero, List.length_append, binBool, unA, Bool.false_eq_true, if_false, partA, fillA, fillE, List.take_nil, Nat.zero_ne_one, Nat.one_ne_zero, not_false_eq_true, ne_eq, Nat.succ_ne_self, reduceCtorEq, Int.reduceEq, Int.reduceLT, Int.reduceLE, decide_true, decide_false, beq_self_eq_true, beq_true, beq_false, Bool.not_true, Bool.not_false, b_lss, b_gtr, b_leq, b_geq, b_eql, b_neq, b_add, b_sub, b_mul, s_eql, s_neq, y_ops, y_nil, y_cons, y_guard, y_some, y_drop, y_do, y_not, y_not0, c_call, c_clo, c_move, c_pick, c_alloc, c_box, c_build, c_bslice, c_load, c_store, c_nilCheck, c_bin, c_binB, c_un, c_i2i, c_i2f, c_f2i, c_s2b, c_b2s, c_strId, c_mkfunc, c_mkslice, c_slice, c_sliceStr, c_fieldAddr, c_field, c_indexSl, c_indexArr, c_elemArr, c_indexStr, c_extract, c_lenStr, c_lenSl, c_append, c_real, c_imag, c_complex, c_min, c_max, c_clear, lenA_sl, hlen, h2, h3, h6, oa, ob, List.length_map, hc', hix, hga, hcall, hwr]
    refine ex_imp (key _ ?_ ?_ ?_ ?_) fun _ _ _ h => h
    all_goals simp only [gs_same, gs_ne, List.length_set, Nat.reduceLT, Nat.reduceEqDiff, not_false_eq_true, hlen, h2, h3]

theorem s61 : ∀ (v : VT), okV v → ∀ H, L 61 [.im (.agg (encV v)), .im (.agg (encV v))] H = some (.im (.int .i64 0), H)
  | .mk k i txt fa fb s l, hok, H => by
    simp only [okV] at hok
    obtain ⟨hs, hn, htx, hfa, hfb, hl⟩ := hok
    have hc : ∀ H : Heap, ∀ a ∈ l, L 61 [.im (.agg (encV a)), .im (.agg (encV a))] H = some (.im (.int .i64 0), H) := fun H a ha => s61 a (okVs_mem hl a ha) H
    obtain ⟨na, hna, hna1, hna2⟩ := f2i_ok hfa
    obtain ⟨nb, hnb, hnb1, hnb2⟩ := f2i_ok hfb
    have hmin : IntKind.i64.min = -9223372036854775808 := rfl
    have hmax : IntKind.i64.max = 9223372036854775807 := rfl
    have hlv : ∀ (M : Heap) (n : Int), leave H false (.im (.int .i64 n)) (H ++ M) = (.im (.int .i64 n), H) := fun M n => leave_app
    have h89 := fun H => s89 txt htx H
    simp only [encV, encVs_map]
    rw [leq F61]
    obtain ⟨hlen, hg⟩ := enter_at (f := f61) (args := [.im (.agg [.int .i64 k, .int .i64 i, .str txt, .cpx .f64 fa fb, .sl s (l.map encV)]), .im (.agg [.int .i64 k, .int .i64 i, .str txt, .cpx .f64 fa fb, .sl s (l.map encV)])]) (Nat.le_of_ble_eq_true rfl)
    have h0 := hg 0 _ rfl
    have h1 := hg 1 _ rfl
    generalize enterA f61 [.im (.agg [.int .i64 k, .int .i64 i, .str txt, .cpx .f64 fa fb, .sl s (l.map encV)]), .im (.agg [.int .i64 k, .int .i64 i, .str txt, .cpx .f64 fa fb, .sl s (l.map encV)])] = tm at *
    change tm.length = 94 at hlen
    by_cases k1 : k = 1
    · subst k1
      simp only [f61, x_seq, x_block, x_skip, x_label, x_cond, x_exit, x_goto, x_ret, k_normal, k_exit, k_goto, k_ret, b_normal, b_exit, b_goto, b_ret, wantedA, aop, ev, putA, List.length_cons, List.length_nil, List.replicate, List.cons_append, List.nil_append, List.append_nil, List.append_assoc, gs_same, gs_ne, gq_same, gq_ne, List.length_set, List.map_cons, List.map_nil, cellsOf, List.all_cons, List.all_nil, cellOk, boxTy, Bool.and_true, Bool.and_self, if_true, ite_true, ite_false, loadAt, storeAt, setAt, hget, hget0, hset, hset0, List.getElem?_cons_zero, List.getElem?_cons_succ, List.set_cons_zero, List.set_cons_succ, Nat.add_zero, Nat.zero_add, Nat.reduceAdd, Nat.reduceSub, Nat.reduceLeDiff, Nat.reduceLT, Nat.reduceEqDiff, Nat.le_refl, and_self, and_true, true_and, mkAgg, toIms, List.drop_zero, List.drop_succ_cons, List.take_succ_cons, List.take_zero, List.length_append, binBool, unA, Bool.false_eq_true, if_false, partA, fillA, fillE, List.take_nil, Nat.zero_ne_one, Nat.one_ne_zero, not_false_eq_true, ne_eq, Nat.succ_ne_self, reduceCtorEq, Int.reduceEq, Int.reduceLT, Int.reduceLE, decide_true, decide_false, beq_self_eq_true, beq_true, beq_false, Bool.not_true, Bool.not_false, b_lss, b_gtr, b_leq, b_geq, b_eql, b_neq, b_add, b_sub, b_mul, s_eql, s_neq, y_ops, y_nil, y_cons, y_guard, y_some, y_drop, y_do, y_not, y_not0, c_call, c_clo, c_move, c_pick, c_alloc, c_box, c_build, c_bslice, c_load, c_store, c_nilCheck, c_bin, c_binB, c_un, c_i2i, c_i2f, c_f2i, c_s2b, c_b2s, c_strId, c_mkfunc, c_mkslice, c_slice, c_sliceStr, c_fieldAddr, c_field, c_indexSl, c_indexArr, c_elemArr, c_indexStr, c_extract, c_lenStr, c_lenSl, c_append, c_real, c_imag, c_complex, c_min, c_max, c_clear, endK, resA, tupA, hlen, h0, h1, s88, hlv]
    have d1 : decide (k = 1) = false := decide_eq_false k1
    by_cases k2 : k = 2
    · subst k2
      simp only [f61, x_seq, x_block, x_skip, x_label, x_cond, x_exit, x_goto, x_ret, k_normal, k_exit, k_goto, k_ret, b_normal, b_exit, b_goto, b_ret, wantedA, aop, ev, putA, List.length_cons, List.length_nil, List.replicate, List.cons_append, List.nil_append, List.append_nil, List.append_assoc, gs_same, gs_ne, gq_same, gq_ne, List.length_set, List.map_cons, List.map_nil, cellsOf, List.all_cons, List.all_nil, cellOk, boxTy, Bool.and_true, Bool.and_self, if_true, ite_true, ite_false, loadAt, storeAt, setAt, hget, hget0, hset, hset0, List.getElem?_cons_zero, List.getElem?_cons_succ, List.set_cons_zero, List.set_cons_succ, Nat.add_zero, Nat.zero_add, Nat.reduceAdd, Nat.reduceSub, Nat.reduceLeDiff, Nat.reduceLT, Nat.reduceEqDiff, Nat.le_refl, and_self, and_true, true_and, mkAgg, toIms, List.drop_zero, List.drop_succ_cons, List.take_succ_cons, List.take_zero, List.length_append, binBool, unA, Bool.false_eq_true, if_false, partA, fillA, fillE, List.take_nil, Nat.zero_ne_one, Nat.one_ne_zero, not_false_eq_true, ne_eq, Nat.succ_ne_self, reduceCtorEq, Int.reduceEq, Int.reduceLT, Int.reduceLE, decide_true, decide_false, beq_self_eq_true, beq_true, beq_false, Bool.not_true, Bool.not_false, b_lss, b_gtr, b_leq, b_geq, b_eql, b_neq, b_add, b_sub, b_mul, s_eql, s_neq, y_ops, y_nil, y_cons, y_guard, y_some, y_drop, y_do, y_not, y_not0, c_call, c_clo, c_move, c_pick, c_alloc, c_box, c_build, c_bslice, c_load, c_store, c_nilCheck, c_bin, c_binB, c_un, c_i2i, c_i2f, c_f2i, c_s2b, c_b2s, c_strId, c_mkfunc, c_mkslice, c_slice, c_sliceStr, c_fieldAddr, c_field, c_indexSl, c_indexArr, c_elemArr, c_indexStr, c_extract, c_lenStr, c_lenSl, c_append, c_real, c_imag, c_complex, c_min, c_max, c_clear, endK, resA, tupA, hlen, h0, h1, s88, hlv]
    have d2 : decide (k = 2) = false := decide_eq_false k2
    by_cases k3 : k = 3
    · subst k3
      simp only [f61, x_seq, x_block, x_skip, x_label, x_cond, x_exit, x_goto, x_ret, k_normal, k_exit, k_goto, k_ret, b_normal, b_exit, b_goto, b_ret, wantedA, aop, ev, putA, List.length_cons, List.length_nil, List.replicate, List.cons_append, List.nil_append, List.append_nil, List.append_assoc, gs_same, gs_ne, gq_same, gq_ne, List.length_set, List.map_cons, List.map_nil, cellsOf, List.all_cons, List.all_nil, cellOk, boxTy, Bool.and_true, Bool.and_self, if_true, ite_true, ite_false, loadAt, storeAt, setAt, hget, hget0, hset, hset0, List.getElem?_cons_zero, List.getElem?_cons_succ, List.set_cons_zero, List.set_cons_succ, Nat.add_zero, Nat.zero_add, Nat.reduceAdd, Nat.reduceSub, Nat.reduceLeDiff, Nat.reduceLT, Nat.reduceEqDiff, Nat.le_refl, and_self, and_true, true_and, mkAgg, toIms, List.drop_zero, List.drop_succ_cons, List.take_succ_cons, List.take_zero, List.length_append, binBool, unA, Bool.false_eq_true, if_false, partA, fillA, fillE, List.take_nil, Nat.zero_ne_one, Nat.one_ne_zero, not_false_eq_true, ne_eq, Nat.succ_ne_self, reduceCtorEq, Int.reduceEq, Int.reduceLT, Int.reduceLE, decide_true, decide_false, beq_self_eq_true, beq_true, beq_false, Bool.not_true, Bool.not_false, b_lss, b_gtr, b_leq, b_geq, b_eql, b_neq, b_add, b_sub, b_mul, s_eql, s_neq, y_ops, y_nil, y_cons, y_guard, y_some, y_drop, y_do, y_not, y_not0, c_call, c_clo, c_move, c_pick, c_alloc, c_box, c_build, c_bslice, c_load, c_store, c_nilCheck, c_bin, c_binB, c_un, c_i2i, c_i2f, c_f2i, c_s2b, c_b2s, c_strId, c_mkfunc, c_mkslice, c_slice, c_sliceStr, c_fieldAddr, c_field, c_indexSl, c_indexArr, c_elemArr, c_indexStr, c_extract, c_lenStr, c_lenSl, c_append, c_real, c_imag, c_complex, c_min, c_max, c_clear, endK, resA, tupA, hlen, h0, h1, h89, hlv]
    have d3 : decide (k = 3) = false := decide_eq_false k3
    by_cases k4 : k = 4
    · subst k4
      simp only [f61, x_seq, x_block, x_skip, x_label, x_cond, x_exit, x_goto, x_ret, k_normal, k_exit, k_goto, k_ret, b_normal, b_exit, b_goto, b_ret, wantedA, aop, ev, putA, List.length_cons, List.length_nil, List.replicate, List.cons_append, List.nil_append, List.append_nil, List.append_assoc, gs_same, gs_ne, gq_same, gq_ne, List.length_set, List.map_cons, List.map_nil, cellsOf, List.all_cons, List.all_nil, cellOk, boxTy, Bool.and_true, Bool.and_self, if_true, ite_true, ite_false, loadAt, storeAt, setAt, hget, hget0, hset, hset0, List.getElem?_cons_zero, List.getElem?_cons_succ, List.set_cons_zero, List.set_cons_succ, Nat.add_zero, Nat.zero_add, Nat.reduceAdd, Nat.reduceSub, Nat.reduceLeDiff, Nat.reduceLT, Nat.reduceEqDiff, Nat.le_refl, and_self, and_true, true_and, mkAgg, toIms, List.drop_zero, List.drop_succ_cons, List.take_succ_cons, List.take_zero, List.length_append, binBool, unA, Bool.false_eq_true, if_false, partA, fillA, fillE, List.take_nil, Nat.zero_ne_one, Nat.one_ne_zero, not_false_eq_true, ne_eq, Nat.succ_ne_self, reduceCtorEq, Int.reduceEq, Int.reduceLT, Int.reduceLE, decide_true, decide_false, beq_self_eq_true, beq_true, beq_false, Bool.not_true, Bool.not_false, b_lss, b_gtr, b_leq, b_geq, b_eql, b_neq, b_add, b_sub, b_mul, s_eql, s_neq, y_ops, y_nil, y_cons, y_guard, y_some, y_drop, y_do, y_not, y_not0, c_call, c_clo, c_move, c_pick, c_alloc, c_box, c_build, c_bslice, c_load, c_store, c_nilCheck, c_bin, c_binB, c_un, c_i2i, c_i2f, c_f2i, c_s2b, c_b2s, c_strId, c_mkfunc, c_mkslice, c_slice, c_sliceStr, c_fieldAddr, c_field, c_indexSl, c_indexArr, c_elemArr, c_indexStr, c_extract, c_lenStr, c_lenSl, c_append, c_real, c_imag, c_complex, c_min, c_max, c_clear, endK, resA, tupA, hlen, h0, h1, h89, hlv]
    have d4 : decide (k = 4) = false := decide_eq_false k4
    by_cases k5 : k = 5
    · subst k5
      have ca : -9223372036854775808 ≤ na ∧ na ≤ 9223372036854775807 := ⟨hna1, hna2⟩
      have cb : -9223372036854775808 ≤ nb ∧ nb ≤ 9223372036854775807 := ⟨hnb1, hnb2⟩
      simp only [f61, x_seq, x_block, x_skip, x_label, x_cond, x_exit, x_goto, x_ret, k_normal, k_exit, k_goto, k_ret, b_normal, b_exit, b_goto, b_ret, wantedA, aop, ev, putA, List.length_cons, List.length_nil, List.replicate, List.cons_append, List.nil_append, List.append_nil, List.append_assoc, gs_same, gs_ne, gq_same, gq_ne, List.length_set, List.map_cons, List.map_nil, cellsOf, List.all_cons, List.all_nil, cellOk, boxTy, Bool.and_true, Bool.and_self, if_true, ite_true, ite_false, loadAt, storeAt, setAt, hget, hget0, hset, hset0, List.getElem?_cons_zero, List.getElem?_cons_succ, List.set_cons_zero, List.set_cons_succ, Nat.add_zero, Nat.zero_add, Nat.reduceAdd, Nat.reduceSub, Nat.reduceLeDiff, Nat.reduceLT, Nat.reduceEqDiff, Nat.le_refl, and_self, and_true, true_and, mkAgg, toIms, List.drop_zero, List.drop_succ_cons, List.take_succ_cons, List.take_zero, List.length_append, binBool, unA, Bool.false_eq_true, if_false, partA, fillA, fillE, List.take_nil, Nat.zero_ne_one, Nat.one_ne_zero, not_false_eq_true, ne_eq, Nat.succ_ne_self, reduceCtorEq, Int.reduceEq, Int.reduceLT, Int.reduceLE, decide_true, decide_false, beq_self_eq_true, beq_true, beq_false, Bool.not_true, Bool.not_false, b_lss, b_gtr, b_leq, b_geq, b_eql, b_neq, b_add, b_sub, b_mul, s_eql, s_neq, y_ops, y_nil, y_cons, y_guard, y_some, y_drop, y_do, y_not, y_not0, c_call, c_clo, c_move, c_pick, c_alloc, c_box, c_build, c_bslice, c_load, c_store, c_nilCheck, c_bin, c_binB, c_un, c_i2i, c_i2f, c_f2i, c_s2b, c_b2s, c_strId, c_mkfunc, c_mkslice, c_slice, c_sliceStr, c_fieldAddr, c_field, c_indexSl, c_indexArr, c_elemArr, c_indexStr, c_extract, c_lenStr, c_lenSl, c_append, c_real, c_imag, c_complex, c_min, c_max, c_clear, endK, resA, tupA, hlen, h0, h1, hna, hnb, hmin, hmax, ca, cb, s88, hlv]
    have d5 : decide (k = 5) = false := decide_eq_false k5
    have key := l61 l s hs hn H.length (H.length + 1) (.im (.int .i64 k)) (.im (.int .i64 i)) (.im (.str txt)) (.im (.cpx .f64 fa fb)) (.im (.int .i64 k)) (.im (.int .i64 i)) (.im (.str txt)) (.im (.cpx .f64 fa fb))
      (H ++ [HO.obj none [[.im (.int .i64 k), .im (.int .i64 i), .im (.str txt), .im (.cpx .f64 fa fb), .im (.sl s (l.map encV))]], HO.obj none [[.im (.int .i64 k), .im (.int .i64 i), .im (.str txt), .im (.cpx .f64 fa fb), .im (.sl s (l.map encV))]]])
      (by rw [hget0]; rfl) (by rw [hget]; rfl) (hc _) l.length 0 (by omega)
    have z : ((0 : Nat) : Int) = 0 := rfl
    rw [z] at key
    simp only [f61, e61_0, x_seq, x_block, x_skip, x_label, x_cond, x_exit, x_goto, x_ret, k_normal, k_exit, k_goto, k_ret, b_normal, b_exit, b_goto, b_ret, wantedA, aop, ev, putA, List.length_cons, List.length_nil, List.replicate, List.cons_append, List.nil_append, List.append_nil, List.append_assoc, gs_same, gs_ne, gq_same, gq_ne, List.length_set, List.map_cons, List.map_nil, cellsOf, List.all_cons, List.all_nil, cellOk, boxTy, Bool.and_true, Bool.and_self, if_true, ite_true, ite_false, loadAt, storeAt, setAt, hget, hget0, hset, hset0, List.getElem?_cons_zero, List.getElem?_cons_succ, List.set_cons_zero, List.set_cons_succ, Nat.add_zero, Nat.zero_add, Nat.reduceAdd, Nat.reduceSub, Nat.reduceLeDiff, Nat.reduceLT, Nat.reduceEqDiff, Nat.le_refl, and_self, and_true, true_and, mkAgg, toIms, List.drop_zero, List.drop_succ_cons, List.take_succ_cons, List.take_zero, List.length_append, binBool, unA, Bool.false_eq_true, if_false, partA, fillA, fillE, List.take_nil, Nat.zero_ne_one, Nat.one_ne_zero, not_false_eq_true, ne_eq, Nat.succ_ne_self, reduceCtorEq, Int.reduceEq, Int.reduceLT, Int.reduceLE, decide_true, decide_false, beq_self_eq_true, beq_true, beq_false, Bool.not_true, Bool.not_false, b_lss, b_gtr, b_leq, b_geq, b_eql, b_neq, b_add, b_sub, b_mul, s_eql, s_neq, y_ops, y_nil, y_cons, y_guard, y_some, y_drop, y_do, y_not, y_not0, c_call, c_clo, c_move, c_pick, c_alloc, c_box, c_build, c_bslice, c_load, c_store, c_nilCheck, c_bin, c_binB, c_un, c_i2i, c_i2f, c_f2i, c_s2b, c_b2s, c_strId, c_mkfunc, c_mkslice, c_slice, c_sliceStr, c_fieldAddr, c_field, c_indexSl, c_indexArr, c_elemArr, c_indexStr, c_extract, c_lenStr, c_lenSl, c_append, c_real, c_imag, c_complex, c_min, c_max, c_clear, hlen, h0, h1, d1, d2, d3, d4, d5]
    generalize hr : thenL _ _ = r
    refine Exists.elim (thenL_inv hr (key _ ?_ ?_ ?_ ?_)) ?_
    iterate 4 simp only [gs_same, gs_ne, List.length_set, Nat.reduceLT, Nat.reduceEqDiff, not_false_eq_true, hlen]
    clear hr key
    rintro e ⟨tm1, H1, ⟨rfl, rfl, hl1, g2, g3⟩, rfl⟩
    simp only [x_seq, x_block, x_skip, x_label, x_cond, x_exit, x_goto, x_ret, k_normal, k_exit, k_goto, k_ret, b_normal, b_exit, b_goto, b_ret, wantedA, aop, ev, putA, List.length_cons, List.length_nil, List.replicate, List.cons_append, List.nil_append, List.append_nil, List.append_assoc, gs_same, gs_ne, gq_same, gq_ne, List.length_set, List.map_cons, List.map_nil, cellsOf, List.all_cons, List.all_nil, cellOk, boxTy, Bool.and_true, Bool.and_self, if_true, ite_true, ite_false, loadAt, storeAt, setAt, hget, hget0, hset, hset0, List.getElem?_cons_zero, List.getElem?_cons_succ, List.set_cons_zero, List.set_cons_succ, Nat.add_zero, Nat.zero_add, Nat.reduceAdd, Nat.reduceSub, Nat.reduceLeDiff, Nat.reduceLT, Nat.reduceEqDiff, Nat.le_refl, and_self, and_true, true_and, mkAgg, toIms, List.drop_zero, List.drop_succ_cons, List.take_succ_cons, List.take_zero, List.length_append, binBool, unA, Bool.false_eq_true, if_false, partA, fillA, fillE, List.take_nil, Nat.zero_ne_one, Nat.one_ne_zero, not_false_eq_true, ne_eq, Nat.succ_ne_self, reduceCtorEq, Int.reduceEq, Int.reduceLT, Int.reduceLE, decide_true, decide_false, beq_self_eq_true, beq_true, beq_false, Bool.not_true, Bool.not_false, b_lss, b_gtr, b_leq, b_geq, b_eql, b_neq, b_add, b_sub, b_mul, s_eql, s_neq, y_ops, y_nil, y_cons, y_guard, y_some, y_drop, y_do, y_not, y_not0, c_call, c_clo, c_move, c_pick, c_alloc, c_box, c_build, c_bslice, c_load, c_store, c_nilCheck, c_bin, c_binB, c_un, c_i2i, c_i2f, c_f2i, c_s2b, c_b2s, c_strId, c_mkfunc, c_mkslice, c_slice, c_sliceStr, c_fieldAddr, c_field, c_indexSl, c_indexArr, c_elemArr, c_indexStr, c_extract, c_lenStr, c_lenSl, c_append, c_real, c_imag, c_complex, c_min, c_max, c_clear, lenA_sl, endK, resA, tupA, hl1, g2, g3, List.length_map, s88, hlv]
termination_by v => SizeOf.sizeOf v
decreasing_by
  have := List.sizeOf_lt_of_mem ha
  simp only [VT.mk.sizeOf_spec]
  omega

theorem s35 (v : VT) (hok : okV v) (H : Heap) : L 35 [.im (.agg (encV v)), .im (.agg (encV v))] H = some (.im (.bool true), H) := by
  have h61 := s61 v hok
  obtain ⟨k, i, txt, fa, fb, s, l⟩ := v
  simp only [encV] at h61 ⊢
  rw [leq F35]
  obtain ⟨hlen, hg⟩ := enter_at (f := f35) (args := [.im (.agg [.int .i64 k, .int .i64 i, .str txt, .cpx .f64 fa fb, .sl s (encVs l)]), .im (.agg [.int .i64 k, .int .i64 i, .str txt, .cpx .f64 fa fb, .sl s (encVs l)])]) (Nat.le_of_ble_eq_true rfl)
  have h0 := hg 0 _ rfl
  have h1 := hg 1 _ rfl
  generalize enterA f35 [.im (.agg [.int .i64 k, .int .i64 i, .str txt, .cpx .f64 fa fb, .sl s (encVs l)]), .im (.agg [.int .i64 k, .int .i64 i, .str txt, .cpx .f64 fa fb, .sl s (encVs l)])] = tm at *
  change tm.length = 16 at hlen
  simp only [f35, x_seq, x_block, x_skip, x_label, x_cond, x_exit, x_goto, x_ret, k_normal, k_exit, k_goto, k_ret, b_normal, b_exit, b_goto, b_ret, wantedA, aop, ev, putA, List.length_cons, List.length_nil, List.replicate, List.cons_append, List.nil_append, List.append_nil, List.append_assoc, gs_same, gs_ne, gq_same, gq_ne, List.length_set, List.map_cons, List.map_nil, cellsOf, List.all_cons, List.all_nil, cellOk, boxTy, Bool.and_true, Bool.and_self, if_true, ite_true, ite_false, loadAt, storeAt, setAt, hget, hget0, hset, hset0, List.getElem?_cons_zero, List.getElem?_cons_succ, List.set_cons_zero, List.set_cons_succ, Nat.add_zero, Nat.zero_add, Nat.reduceAdd, Nat.reduceSub, Nat.reduceLeDiff, Nat.reduceLT, Nat.reduceEqDiff, Nat.le_refl, and_self, and_true, true_and, mkAgg, toIms, List.drop_zero, List.drop_succ_cons, List.take_succ_cons, List.take_zero, List.length_append, binBool, unA, Bool.false_eq_true, if_false, partA, fillA, fillE, List.take_nil, Nat.zero_ne_one, Nat.one_ne_zero, not_false_eq_true, ne_eq, Nat.succ_ne_self, reduceCtorEq, Int.reduceEq, Int.reduceLT, Int.reduceLE, decide_true, decide_false, beq_self_eq_true, beq_true, beq_false, Bool.not_true, Bool.not_false, b_lss, b_gtr, b_leq, b_geq, b_eql, b_neq, b_add, b_sub, b_mul, s_eql, s_neq, y_ops, y_nil, y_cons, y_guard, y_some, y_drop, y_do, y_not, y_not0, c_call, c_clo, c_move, c_pick, c_alloc, c_box, c_build, c_bslice, c_load, c_store, c_nilCheck, c_bin, c_binB, c_un, c_i2i, c_i2f, c_f2i, c_s2b, c_b2s, c_strId, c_mkfunc, c_mkslice, c_slice, c_sliceStr, c_fieldAddr, c_field, c_indexSl, c_indexArr, c_elemArr, c_indexStr, c_extract, c_lenStr, c_lenSl, c_append, c_real, c_imag, c_complex, c_min, c_max, c_clear, endK, resA, tupA, hlen, h0, h1, h61, leave_app]

end Go.Abs.Seat
end
section
set_option linter.unusedVariables false
set_option linter.unusedSimpArgs false
/- The fixed answer of the coder's laws, reckoned; at every heap. -/
namespace Go.Abs.Seat
open Go.Proofs

set_option maxRecDepth 100000 in
theorem awake38 : runC (bldA 101 49 94 5) T2 400 38 [] [] = some (.im (.bool true), []) := by kernel_rfl

theorem s38 (H : Heap) : L 38 [] H = some (.im (.bool true), H) := lim_any Tok2 Tno2 awake38 H

end Go.Abs.Seat
end
section
set_option linter.unusedVariables false
set_option linter.unusedSimpArgs false
/- What the coder's functions come to: the smaller ones. -/
set_option linter.unusedVariables false
set_option linter.unusedSimpArgs false
namespace Go.Abs.Seat
open Go.Proofs

theorem s93 (b : List UInt8) (s ir : Nat) (r : RS) (hs : b = [] ∨ s = 1) (hb : b.length ≤ 4611686018427387904) (hp : r.p ≤ b.length) (H : Heap) (hir : H[ir]? = some (objC s b r)) :
    L 93 [.ptr ir 0 0] H = some (.im (.str (textR b (b.length + 1) r []).1), H.set ir (objC s b (textR b (b.length + 1) r []).2)) := by
  have hirl := (List.getElem?_eq_some_iff.1 hir).1
  have key := g93 b s ir H.length H rfl hirl hs hb (b.length + 1) r []
  rw [leq F93]
  have hK : ∀ (tm : List AV) (H' : Heap) (t : List UInt8) (r' : RS), tm.getD 2 undefA = .im (.str t) → H'[ir]? = some (objC s b r') → But H.length ir H H' → endK f93 H .ret tm H' = some (.im (.str t), H.set ir (objC s b r')) := fun tm H' t r' h2 ho hb => by
    have := leave_but (keep := false) (r := .im (.str t)) hb ho rfl rfl hirl
    simp only [degrade, toDat, Bool.false_eq_true, if_false] at this
    simp only [endK, f93, resA, tupA, h2, this]
  have hcode : f93.code = f93.code := rfl
  conv at hcode => rhs; simp only [f93]
  rw [hcode]
  clear hcode
  generalize endK f93 H = K at *
  obtain ⟨hlen, ha⟩ := enter_at (f := f93) (args := [.ptr ir 0 0]) (Nat.le_of_ble_eq_true rfl)
  have h0 := ha 0 _ rfl
  generalize enterA f93 [.ptr ir 0 0] = tm at *
  change tm.length = 43 at hlen
  simp only [e93_0, c93_0_eq, s93b, x_seq, x_block, x_skip, x_label, x_cond, x_exit, x_goto, x_ret, k_normal, k_exit, k_goto, k_ret, b_normal, b_exit, b_goto, b_ret, wantedA, aop, ev, putA, List.length_cons, List.length_nil, List.replicate, List.cons_append, List.nil_append, List.append_nil, List.append_assoc, gs_same, gs_ne, gq_same, gq_ne, List.length_set, List.map_cons, List.map_nil, cellsOf, List.all_cons, List.all_nil, cellOk, boxTy, Bool.and_true, Bool.and_self, if_true, ite_true, ite_false, loadAt, storeAt, setAt, hget, hget0, hset, hset0, List.getElem?_cons_zero, List.getElem?_cons_succ, List.set_cons_zero, List.set_cons_succ, Nat.add_zero, Nat.zero_add, Nat.reduceAdd, Nat.reduceSub, Nat.reduceLeDiff, Nat.reduceLT, Nat.reduceEqDiff, Nat.le_refl, and_self, and_true, true_and, mkAgg, toIms, List.drop_zero, List.drop_succ_cons, List.take_succ_cons, List.take_zero, List.length_append, binBool, unA, Bool.false_eq_true, if_false, partA, fillA, fillE, List.take_nil, Nat.zero_ne_one, Nat.one_ne_zero, not_false_eq_true, ne_eq, Nat.succ_ne_self, reduceCtorEq, Int.reduceEq, Int.reduceLT, Int.reduceLE, decide_true, decide_false, beq_self_eq_true, beq_true, beq_false, Bool.not_true, Bool.not_false, b_lss, b_gtr, b_leq, b_geq, b_eql, b_neq, b_add, b_sub, b_mul, s_eql, s_neq, y_ops, y_nil, y_cons, y_guard, y_some, y_drop, y_do, y_not, y_not0, c_call, c_clo, c_move, c_pick, c_alloc, c_box, c_build, c_bslice, c_load, c_store, c_nilCheck, c_bin, c_binB, c_un, c_i2i, c_i2f, c_f2i, c_s2b, c_b2s, c_strId, c_mkfunc, c_mkslice, c_slice, c_sliceStr, c_fieldAddr, c_field, c_indexSl, c_indexArr, c_elemArr, c_indexStr, c_extract, c_lenStr, c_lenSl, c_append, c_real, c_imag, c_complex, c_min, c_max, c_clear, hlen, h0]
  rw [← g93_0_eq]
  generalize hr : thenL _ _ = r'
  refine Exists.elim (thenL_inv hr (ret_ex (key _ H .nils (by omega) hp (by simp) ?_ ?_ ?_ (.inl ⟨rfl, rfl⟩) hir But.refl))) ?_
  iterate 3 simp only [gs_same, gs_ne, List.length_set, Nat.reduceLT, Nat.reduceEqDiff, not_false_eq_true, hlen, h0]
  rintro e ⟨tm1, H1, ⟨rfl, hl1, g2, gir, hbt⟩, rfl⟩
  exact hK _ _ _ _ g2 gir hbt

theorem s39 (b : List UInt8) (s : Nat) (hs : b = [] ∨ s = 1) (hb : b.length ≤ 1000000) (H : Heap) : L 39 [.im (.sl s (bytesC b))] H = some (.im (.sl (if b = [] then 0 else 1) (bytesC b)), H) := by
  rw [leq F39]
  obtain ⟨hlen, ha⟩ := enter_at (f := f39) (args := [.im (.sl s (bytesC b))]) (Nat.le_of_ble_eq_true rfl)
  have h0 := ha 0 _ rfl
  generalize enterA f39 [.im (.sl s (bytesC b))] = tm at *
  change tm.length = 7 at hlen
  cases b with
  | nil =>
    have hlv := leave_low (H := H) (H' := H) (r := .nils) (r' := .im (.sl 0 [])) rfl rfl (Nat.le_refl _) (fun _ _ => rfl)
    simp only [if_true]
    have hbn : bytesC [] = [] := rfl
    rw [hbn] at h0 ⊢
    simp only [f39, x_seq, x_block, x_skip, x_label, x_cond, x_exit, x_goto, x_ret, k_normal, k_exit, k_goto, k_ret, b_normal, b_exit, b_goto, b_ret, wantedA, aop, ev, putA, List.length_cons, List.length_nil, List.replicate, List.cons_append, List.nil_append, List.append_nil, List.append_assoc, gs_same, gs_ne, gq_same, gq_ne, List.length_set, List.map_cons, List.map_nil, cellsOf, List.all_cons, List.all_nil, cellOk, boxTy, Bool.and_true, Bool.and_self, if_true, ite_true, ite_false, loadAt, storeAt, setAt, hget, hget0, hset, hset0, List.getElem?_cons_zero, List.getElem?_cons_succ, List.set_cons_zero, List.set_cons_succ, Nat.add_zero, Nat.zero_add, Nat.reduceAdd, Nat.reduceSub, Nat.reduceLeDiff, Nat.reduceLT, Nat.reduceEqDiff, Nat.le_refl, and_self, and_true, true_and, mkAgg, toIms, List.drop_zero, List.drop_succ_cons, List.take_succ_cons, List.take_zero, List.length_append, binBool, unA, Bool.false_eq_true, if_false, partA, fillA, fillE, List.take_nil, Nat.zero_ne_one, Nat.one_ne_zero, not_false_eq_true, ne_eq, Nat.succ_ne_self, reduceCtorEq, Int.reduceEq, Int.reduceLT, Int.reduceLE, decide_true, decide_false, beq_self_eq_true, beq_true, beq_false, Bool.not_true, Bool.not_false, b_lss, b_gtr, b_leq, b_geq, b_eql, b_neq, b_add, b_sub, b_mul, s_eql, s_neq, y_ops, y_nil, y_cons, y_guard, y_some, y_drop, y_do, y_not, y_not0, c_call, c_clo, c_move, c_pick, c_alloc, c_box, c_build, c_bslice, c_load, c_store, c_nilCheck, c_bin, c_binB, c_un, c_i2i, c_i2f, c_f2i, c_s2b, c_b2s, c_strId, c_mkfunc, c_mkslice, c_slice, c_sliceStr, c_fieldAddr, c_field, c_indexSl, c_indexArr, c_elemArr, c_indexStr, c_extract, c_lenStr, c_lenSl, c_append, c_real, c_imag, c_complex, c_min, c_max, c_clear, endK, resA, tupA, elems, appendA, hlen, h0, hlv]
  | cons c b =>
    have hs1 : s = 1 := by
      rcases hs with h | h
      · simp at h
      · exact h
    subst hs1
    have hbn : bytesC (c :: b) = [byteDat c] :: bytesC b := rfl
    rw [hbn] at h0 ⊢
    have hlb := bytesC_len b
    have hcond : ((bytesC b).length + 1) * 1 ≤ 2 ^ 46 ∧ 0 < 1 := ⟨by rw [hlb]; simp at hb ⊢; omega, by decide⟩
    have hlv : leave H false (.asl 1 ([byteDat c] :: bytesC b) H.length) (H ++ [.hw 5 ((bytesC b).length + 1)]) = (.im (.sl 1 ([byteDat c] :: bytesC b)), H) := leave_deg rfl rfl
    have happ : appendA H 5 1 1 .nils ([byteDat c] :: bytesC b) = some (.asl 1 ([byteDat c] :: bytesC b) H.length, H ++ [.hw 5 ((bytesC b).length + 1)]) := by
      simp only [appendA]; rw [if_pos hcond]
    have hne : (c :: b = []) = False := by simp
    simp only [hne, if_false]
    simp only [f39, x_seq, x_block, x_skip, x_label, x_cond, x_exit, x_goto, x_ret, k_normal, k_exit, k_goto, k_ret, b_normal, b_exit, b_goto, b_ret, wantedA, aop, ev, putA, List.length_cons, List.length_nil, List.replicate, List.cons_append, List.nil_append, List.append_nil, List.append_assoc, gs_same, gs_ne, gq_same, gq_ne, List.length_set, List.map_cons, List.map_nil, cellsOf, List.all_cons, List.all_nil, cellOk, boxTy, Bool.and_true, Bool.and_self, if_true, ite_true, ite_false, loadAt, storeAt, setAt, hget, hget0, hset, hset0, List.getElem?_cons_zero, List.getElem?_cons_succ, List.set_cons_zero, List.set_cons_succ, Nat.add_zero, Nat.zero_add, Nat.reduceAdd, Nat.reduceSub, Nat.reduceLeDiff, Nat.reduceLT, Nat.reduceEqDiff, Nat.le_refl, and_self, and_true, true_and, mkAgg, toIms, List.drop_zero, List.drop_succ_cons, List.take_succ_cons, List.take_zero, List.length_append, binBool, unA, Bool.false_eq_true, if_false, partA, fillA, fillE, List.take_nil, Nat.zero_ne_one, Nat.one_ne_zero, not_false_eq_true, ne_eq, Nat.succ_ne_self, reduceCtorEq, Int.reduceEq, Int.reduceLT, Int.reduceLE, decide_true, decide_false, beq_self_eq_true, beq_true, beq_false, Bool.not_true, Bool.not_false, b_lss, b_gtr, b_leq, b_geq, b_eql, b_neq, b_add, b_sub, b_mul, s_eql, s_neq, y_ops, y_nil, y_cons, y_guard, y_some, y_drop, y_do, y_not, y_not0, c_call, c_clo, c_move, c_pick, c_alloc, c_box, c_build, c_bslice, c_load, c_store, c_nilCheck, c_bin, c_binB, c_un, c_i2i, c_i2f, c_f2i, c_s2b, c_b2s, c_strId, c_mkfunc, c_mkslice, c_slice, c_sliceStr, c_fieldAddr, c_field, c_indexSl, c_indexArr, c_elemArr, c_indexStr, c_extract, c_lenStr, c_lenSl, c_append, c_real, c_imag, c_complex, c_min, c_max, c_clear, endK, resA, tupA, elems, happ, hlen, h0, hlv]

theorem s44 (b : List UInt8) (s s' : Nat) (hs : b = [] ∨ s = 1) (hs' : b = [] ∨ s' = 1) (H : Heap) : L 44 [.im (.sl s (bytesC b)), .im (.sl s' (bytesC b))] H = some (.im (.bool true), H) := by
  have hbo : bytesOf (bytesC b) = some b := bytesOf_map b
  have c1 : (s = 1 ∨ bytesC b = []) = True := by
    rcases hs with rfl | rfl
    · simp [bytesC]
    · simp
  have c2 : (s' = 1 ∨ bytesC b = []) = True := by
    rcases hs' with rfl | rfl
    · simp [bytesC]
    · simp
  rw [leq F44]
  obtain ⟨hlen, ha⟩ := enter_at (f := f44) (args := [.im (.sl s (bytesC b)), .im (.sl s' (bytesC b))]) (Nat.le_of_ble_eq_true rfl)
  have h0 := ha 0 _ rfl
  have h1 := ha 1 _ rfl
  generalize enterA f44 [.im (.sl s (bytesC b)), .im (.sl s' (bytesC b))] = tm at *
  change tm.length = 10 at hlen
  simp only [f44, x_seq, x_block, x_skip, x_label, x_cond, x_exit, x_goto, x_ret, k_normal, k_exit, k_goto, k_ret, b_normal, b_exit, b_goto, b_ret, wantedA, aop, ev, putA, List.length_cons, List.length_nil, List.replicate, List.cons_append, List.nil_append, List.append_nil, List.append_assoc, gs_same, gs_ne, gq_same, gq_ne, List.length_set, List.map_cons, List.map_nil, cellsOf, List.all_cons, List.all_nil, cellOk, boxTy, Bool.and_true, Bool.and_self, if_true, ite_true, ite_false, loadAt, storeAt, setAt, hget, hget0, hset, hset0, List.getElem?_cons_zero, List.getElem?_cons_succ, List.set_cons_zero, List.set_cons_succ, Nat.add_zero, Nat.zero_add, Nat.reduceAdd, Nat.reduceSub, Nat.reduceLeDiff, Nat.reduceLT, Nat.reduceEqDiff, Nat.le_refl, and_self, and_true, true_and, mkAgg, toIms, List.drop_zero, List.drop_succ_cons, List.take_succ_cons, List.take_zero, List.length_append, binBool, unA, Bool.false_eq_true, if_false, partA, fillA, fillE, List.take_nil, Nat.zero_ne_one, Nat.one_ne_zero, not_false_eq_true, ne_eq, Nat.succ_ne_self, reduceCtorEq, Int.reduceEq, Int.reduceLT, Int.reduceLE, decide_true, decide_false, beq_self_eq_true, beq_true, beq_false, Bool.not_true, Bool.not_false, b_lss, b_gtr, b_leq, b_geq, b_eql, b_neq, b_add, b_sub, b_mul, s_eql, s_neq, y_ops, y_nil, y_cons, y_guard, y_some, y_drop, y_do, y_not, y_not0, c_call, c_clo, c_move, c_pick, c_alloc, c_box, c_build, c_bslice, c_load, c_store, c_nilCheck, c_bin, c_binB, c_un, c_i2i, c_i2f, c_f2i, c_s2b, c_b2s, c_strId, c_mkfunc, c_mkslice, c_slice, c_sliceStr, c_fieldAddr, c_field, c_indexSl, c_indexArr, c_elemArr, c_indexStr, c_extract, c_lenStr, c_lenSl, c_append, c_real, c_imag, c_complex, c_min, c_max, c_clear, endK, resA, tupA, hlen, h0, h1, c1, c2, hbo, leave_same]

theorem l31 (args : List KT) (s : Nat) (hs : args = [] ∨ s = 2) (hn : args.length ≤ 9223372036854775807) (d : Int) (hd : 1 ≤ d ∧ d ≤ 100) (k : Int) (id : Nat) (H : Heap) (oa : H[id]? = some (.obj none [[.im (.int .i64 k), .im (.sl s (args.map encT))]]))
    (hc : ∀ a ∈ args, L 31 [.im (.agg (encT a)), .im (.int .i64 (d - 1))] H = some (.im (.bool (rightT a (d - 1))), H)) :
    ∀ (m i : Nat), i + m = args.length → ∀ tm : List AV, tm.length = 39 → tm.getD 1 undefA = .im (.int .i64 d) → tm.getD 2 undefA = .ptr id 0 0 → tm.getD 5 undefA = .im (.int .i64 (i : Int)) →
    ∃ e tm' H', Λ c31_0 tm H = some (e, tm', H') ∧ tm'.length = 39 ∧ H' = H ∧ ((rightNot (args.drop i) (d - 1) = false ∧ e = .exit 0) ∨ (rightNot (args.drop i) (d - 1) = true ∧ e = .ret ∧ tm'.getD 4 undefA = .im (.bool false)))
  | 0, i, hi, tm, hlen, h1, h2, h5 => by
    have e : args.drop i = [] := by rw [List.drop_eq_nil_iff]; omega
    have hc' : decide ((i : Int) < (args.length : Int)) = false := decide_eq_false (by omega)
    rw [e, l31_0]
    simp only [b31_0, x_seq, x_block, x_skip, x_label, x_cond, x_exit, x_goto, x_ret, k_normal, k_exit, k_goto, k_ret, b_normal, b_exit, b_goto, b_ret, wantedA, aop, ev, putA, List.length_cons, List.length_nil, List.replicate, List.cons_append, List.nil_append, List.append_nil, List.append_assoc, gs_same, gs_ne, gq_same, gq_ne, List.length_set, List.map_cons, List.map_nil, cellsOf, List.all_cons, List.all_nil, cellOk, boxTy, Bool.and_true, Bool.and_self, if_true, ite_true, ite_false, loadAt, storeAt, setAt, hget, hget0, hset, hset0, List.getElem?_cons_zero, List.getElem?_cons_succ, List.set_cons_zero, List.set_cons_succ, Nat.add_zero, Nat.zero_add, Nat.reduceAdd, Nat.reduceSub, Nat.reduceLeDiff, Nat.reduceLT, Nat.reduceEqDiff, Nat.le_refl, and_self, and_true, true_and, mkAgg, toIms, List.drop_zero, List.drop_succ_cons, List.take_succ_cons, List.take_zero, List.length_append, binBool, unA, Bool.false_eq_true, if_false, partA, fillA, fillE, List.take_nil, Nat.zero_ne_one, Nat.one_ne_zero, not_false_eq_true, ne_eq, Nat.succ_ne_self, reduceCtorEq, Int.reduceEq, Int.reduceLT, Int.reduceLE, decide_true, decide_false, beq_self_eq_true, beq_true, beq_false, Bool.not_true, Bool.not_false, b_lss, b_gtr, b_leq, b_geq, b_eql, b_neq, b_add, b_sub, b_mul, s_eql, s_neq, y_ops, y_nil, y_cons, y_guard, y_some, y_drop, y_do, y_not, y_not0, c_call, c_clo, c_move, c_pick, c_alloc, c_box, c_build, c_bslice, c_load, c_store, c_nilCheck, c_bin, c_binB, c_un, c_i2i, c_i2f, c_f2i, c_s2b, c_b2s, c_strId, c_mkfunc, c_mkslice, c_slice, c_sliceStr, c_fieldAddr, c_field, c_indexSl, c_indexArr, c_elemArr, c_indexStr, c_extract, c_lenStr, c_lenSl, c_append, c_real, c_imag, c_complex, c_min, c_max, c_clear, lenA_sl, hlen, h1, h2, h5, oa, List.length_map, hc']
    exact ⟨_, _, _, rfl, by simp only [List.length_set, hlen], rfl, .inl ⟨rfl, rfl⟩⟩
  | m + 1, i, hi, tm, hlen, h1, h2, h5 => by
    have hlt : i < args.length := by omega
    obtain ⟨a, hai, ea⟩ := drop_cons hlt
    have hs2 : s = 2 := by
      rcases hs with hs | hs
      · subst hs; simp at hlt
      · exact hs
    subst hs2
    have hc' : decide ((i : Int) < (args.length : Int)) = true := decide_eq_true (by omega)
    have hix := idx_nat (n := args.length) (i := i) hlt
    have hga : (args.map encT)[i]? = some (encT a) := by rw [List.getElem?_map, hai]; rfl
    have hcall := hc a (List.mem_of_getElem? hai)
    have hwr := wrap_nat (i := i) (by omega)
    have hwd := Go.Abs.Seat.wrap_small (d - 1) (by omega)
    have key := l31 args 2 hs hn d hd k id H oa hc m (i + 1) (by omega)
    rw [ea, l31_0]
    simp only [rightNot]
    generalize rightT a (d - 1) = ra at *
    obtain ⟨k1, s1, ts1⟩ := a
    simp only [encT] at hcall hga
    cases ra with
    | true =>
      simp only [b31_0, x_seq, x_block, x_skip, x_label, x_cond, x_exit, x_goto, x_ret, k_normal, k_exit, k_goto, k_ret, b_normal, b_exit, b_goto, b_ret, wantedA, aop, ev, putA, List.length_cons, List.length_nil, List.replicate, List.cons_append, List.nil_append, List.append_nil, List.append_assoc, gs_same, gs_ne, gq_same, gq_ne, List.length_set, List.map_cons, List.map_nil, cellsOf, List.all_cons, List.all_nil, cellOk, boxTy, Bool.and_true, Bool.and_self, if_true, ite_true, ite_false, loadAt, storeAt, setAt, hget, hget0, hset, hset0, List.getElem?_cons_zero, List.getElem?_cons_succ, List.set_cons_zero, List.set_cons_succ, Nat.add_zero, Nat.zero_add, Nat.reduceAdd, Nat.reduceSub, Nat.reduceLeDiff, Nat.reduceLT, Nat.reduceEqDiff, Nat.le_refl, and_self, and_true, true_and, mkAgg, toIms, List.drop_zero, List.drop_succ_cons, List.take_succ_cons, List.take_zero, List.length_append, binBool, unA, Bool.false_eq_true, if_false, partA, fillA, fillE, List.take_nil, Nat.zero_ne_one, Nat.one_ne_zero, not_false_eq_true, ne_eq, Nat.succ_ne_self, reduceCtorEq, Int.reduceEq, Int.reduceLT, Int.reduceLE, decide_true, decide_false, beq_self_eq_true, beq_true, beq_false, Bool.not_true, Bool.not_false, b_lss, b_gtr, b_leq, b_geq, b_eql, b_neq, b_add, b_sub, b_mul, s_eql, s_neq, y_ops, y_nil, y_cons, y_guard, y_some, y_drop, y_do, y_not, y_not0, c_call, c_clo, c_move, c_pick, c_alloc, c_box, c_build, c_bslice, c_load, c_store, c_nilCheck, c_bin, c_binB, c_un, c_i2i, c_i2f, c_f2i, c_s2b, c_b2s, c_strId, c_mkfunc, c_mkslice, c_slice, c_sliceStr, c_fieldAddr, c_field, c_indexSl, c_indexArr, c_elemArr, c_indexStr, c_extract, c_lenStr, c_lenSl, c_append, c_real, c_imag, c_complex, c_min, c_max, c_clear, lenA_sl, hlen, h1, h2, h5, oa, List.length_map, hc', hix, hga, hcall, hwr, hwd, Bool.false_or]
      refine ex_imp (key _ ?_ ?_ ?_ ?_) fun _ _ _ h => h
      all_goals simp only [gs_same, gs_ne, List.length_set, Nat.reduceLT, Nat.reduceEqDiff, not_false_eq_true, hlen, h1, h2]
    | false =>
      simp only [b31_0, x_seq, x_block, x_skip, x_label, x_cond, x_exit, x_goto, x_ret, k_normal, k_exit, k_goto, k_ret, b_normal, b_exit, b_goto, b_ret, wantedA, aop, ev, putA, List.length_cons, List.length_nil, List.replicate, List.cons_append, List.nil_append, List.append_nil, List.append_assoc, gs_same, gs_ne, gq_same, gq_ne, List.length_set, List.map_cons, List.map_nil, cellsOf, List.all_cons, List.all_nil, cellOk, boxTy, Bool.and_true, Bool.and_self, if_true, ite_true, ite_false, loadAt, storeAt, setAt, hget, hget0, hset, hset0, List.getElem?_cons_zero, List.getElem?_cons_succ, List.set_cons_zero, List.set_cons_succ, Nat.add_zero, Nat.zero_add, Nat.reduceAdd, Nat.reduceSub, Nat.reduceLeDiff, Nat.reduceLT, Nat.reduceEqDiff, Nat.le_refl, and_self, and_true, true_and, mkAgg, toIms, List.drop_zero, List.drop_succ_cons, List.take_succ_cons, List.take_zero, List.length_append, binBool, unA, Bool.false_eq_true, if_false, partA, fillA, fillE, List.take_nil, Nat.zero_ne_one, Nat.one_ne_zero, not_false_eq_true, ne_eq, Nat.succ_ne_self, reduceCtorEq, Int.reduceEq, Int.reduceLT, Int.reduceLE, decide_true, decide_false, beq_self_eq_true, beq_true, beq_false, Bool.not_true, Bool.not_false, b_lss, b_gtr, b_leq, b_geq, b_eql, b_neq, b_add, b_sub, b_mul, s_eql, s_neq, y_ops, y_nil, y_cons, y_guard, y_some, y_drop, y_do, y_not, y_not0, c_call, c_clo, c_move, c_pick, c_alloc, c_box, c_build, c_bslice, c_load, c_store, c_nilCheck, c_bin, c_binB, c_un, c_i2i, c_i2f, c_f2i, c_s2b, c_b2s, c_strId, c_mkfunc, c_mkslice, c_slice, c_sliceStr, c_fieldAddr, c_field, c_indexSl, c_indexArr, c_elemArr, c_indexStr, c_extract, c_lenStr, c_lenSl, c_append, c_real, c_imag, c_complex, c_min, c_max, c_clear, lenA_sl, hlen, h1, h2, h5, oa, List.length_map, hc', hix, hga, hcall, hwr, hwd, Bool.true_or]
      exact ⟨_, _, _, rfl, by simp only [List.length_set, hlen], rfl, by simp only [gs_same, gs_ne, List.length_set, Nat.reduceLT, Nat.reduceEqDiff, not_false_eq_true, hlen, true_and, and_true, and_self, or_true]⟩

theorem rightT_eq (k : Int) (s : Nat) (args : List KT) (d : Int) : rightT (.mk k s args) d = (decide (wordK k ≠ []) && (decide (1 ≤ d) && (decide ((args.length : Int) = cntK k) && !rightNot args (d - 1)))) := by
  have hw : ∀ i, kidx k = some i → wordK k ≠ [] := by
    intro i hi h
    rw [word_none h] at hi
    simp at hi
  simp only [rightT]
  cases hi : kidx k with
  | none =>
    have : wordK k = [] := by unfold wordK; rw [hi]
    simp [this]
  | some i =>
    have h1 := hw i hi
    have h2 : cntK k = kcnt i := by unfold cntK; rw [hi]
    simp only [h1, ne_eq, not_false_eq_true, decide_true, Bool.true_and, h2]
    by_cases hd : d < 1
    · have : decide (1 ≤ d) = false := decide_eq_false (by omega)
      rw [if_pos hd, this]; rfl
    · have : decide (1 ≤ d) = true := decide_eq_true (by omega)
      rw [if_neg hd, this]
      by_cases hl : (args.length : Int) = kcnt i
      · rw [if_pos hl, decide_eq_true hl]; simp
      · rw [if_neg hl, decide_eq_false hl]; simp

theorem s31 : ∀ (t : KT), okT t → ∀ (d : Int), 0 ≤ d → d ≤ 100 → ∀ H, L 31 [.im (.agg (encT t)), .im (.int .i64 d)] H = some (.im (.bool (rightT t d)), H)
  | .mk k s args, hok, d, hd0, hd1, H => by
    simp only [okT] at hok
    obtain ⟨hs, hn, hoks⟩ := hok
    have hc : ∀ H : Heap, 1 ≤ d → ∀ a ∈ args, L 31 [.im (.agg (encT a)), .im (.int .i64 (d - 1))] H = some (.im (.bool (rightT a (d - 1))), H) := fun H hd a ha => s31 a (okTs_mem hoks a ha) (d - 1) (by omega) (by omega) H
    have h22 := s22 k
    have h23 := s23 k
    rw [rightT_eq]
    simp only [encT, encTs_map]
    rw [leq F31]
    obtain ⟨hlen, hg⟩ := enter_at (f := f31) (args := [.im (.agg [.int .i64 k, .sl s (args.map encT)]), .im (.int .i64 d)]) (Nat.le_of_ble_eq_true rfl)
    have h0 := hg 0 _ rfl
    have h1 := hg 1 _ rfl
    generalize enterA f31 [.im (.agg [.int .i64 k, .sl s (args.map encT)]), .im (.int .i64 d)] = tm at *
    change tm.length = 39 at hlen
    by_cases hd : d = 0
    · subst hd
      have e1 : decide ((1 : Int) ≤ 0) = false := by decide
      rw [e1, Bool.false_and, Bool.and_false]
      simp only [f31, x_seq, x_block, x_skip, x_label, x_cond, x_exit, x_goto, x_ret, k_normal, k_exit, k_goto, k_ret, b_normal, b_exit, b_goto, b_ret, wantedA, aop, ev, putA, List.length_cons, List.length_nil, List.replicate, List.cons_append, List.nil_append, List.append_nil, List.append_assoc, gs_same, gs_ne, gq_same, gq_ne, List.length_set, List.map_cons, List.map_nil, cellsOf, List.all_cons, List.all_nil, cellOk, boxTy, Bool.and_true, Bool.and_self, if_true, ite_true, ite_false, loadAt, storeAt, setAt, hget, hget0, hset, hset0, List.getElem?_cons_zero, List.getElem?_cons_succ, List.set_cons_zero, List.set_cons_succ, Nat.add_zero, Nat.zero_add, Nat.reduceAdd, Nat.reduceSub, Nat.reduceLeDiff, Nat.reduceLT, Nat.reduceEqDiff, Nat.le_refl, and_self, and_true, true_and, mkAgg, toIms, List.drop_zero, List.drop_succ_cons, List.take_succ_cons, List.take_zero, List.length_append, binBool, unA, Bool.false_eq_true, if_false, partA, fillA, fillE, List.take_nil, Nat.zero_ne_one, Nat.one_ne_zero, not_false_eq_true, ne_eq, Nat.succ_ne_self, reduceCtorEq, Int.reduceEq, Int.reduceLT, Int.reduceLE, decide_true, decide_false, beq_self_eq_true, beq_true, beq_false, Bool.not_true, Bool.not_false, b_lss, b_gtr, b_leq, b_geq, b_eql, b_neq, b_add, b_sub, b_mul, s_eql, s_neq, y_ops, y_nil, y_cons, y_guard, y_some, y_drop, y_do, y_not, y_not0, c_call, c_clo, c_move, c_pick, c_alloc, c_box, c_build, c_bslice, c_load, c_store, c_nilCheck, c_bin, c_binB, c_un, c_i2i, c_i2f, c_f2i, c_s2b, c_b2s, c_strId, c_mkfunc, c_mkslice, c_slice, c_sliceStr, c_fieldAddr, c_field, c_indexSl, c_indexArr, c_elemArr, c_indexStr, c_extract, c_lenStr, c_lenSl, c_append, c_real, c_imag, c_complex, c_min, c_max, c_clear, z_ops, z_nil, z_cons, z_guard, z_some, z_drop, z_do, z_not, z_not0, pairK, forall_eq_or_imp, stays, loadOf, List.reverse_cons, List.reverse_nil, List.mem_cons, List.not_mem_nil, or_false, forall_eq, true_or, or_true, Bool.true_and, lenA_sl, endK, resA, tupA, hlen, h0, h1, leave_app]
    · have e0 : decide (d = 0) = false := decide_eq_false hd
      have e1 : decide (1 ≤ d) = true := decide_eq_true (by omega)
      rw [e1, Bool.true_and]
      by_cases hw : wordK k = []
      · have e2 : decide (wordK k = []) = true := decide_eq_true hw
        have e3 : decide (wordK k ≠ []) = false := decide_eq_false (fun h => h hw)
        rw [e3, Bool.false_and]
        simp only [f31, x_seq, x_block, x_skip, x_label, x_cond, x_exit, x_goto, x_ret, k_normal, k_exit, k_goto, k_ret, b_normal, b_exit, b_goto, b_ret, wantedA, aop, ev, putA, List.length_cons, List.length_nil, List.replicate, List.cons_append, List.nil_append, List.append_nil, List.append_assoc, gs_same, gs_ne, gq_same, gq_ne, List.length_set, List.map_cons, List.map_nil, cellsOf, List.all_cons, List.all_nil, cellOk, boxTy, Bool.and_true, Bool.and_self, if_true, ite_true, ite_false, loadAt, storeAt, setAt, hget, hget0, hset, hset0, List.getElem?_cons_zero, List.getElem?_cons_succ, List.set_cons_zero, List.set_cons_succ, Nat.add_zero, Nat.zero_add, Nat.reduceAdd, Nat.reduceSub, Nat.reduceLeDiff, Nat.reduceLT, Nat.reduceEqDiff, Nat.le_refl, and_self, and_true, true_and, mkAgg, toIms, List.drop_zero, List.drop_succ_cons, List.take_succ_cons, List.take_zero, List.length_append, binBool, unA, Bool.false_eq_true, if_false, partA, fillA, fillE, List.take_nil, Nat.zero_ne_one, Nat.one_ne_zero, not_false_eq_true, ne_eq, Nat.succ_ne_self, reduceCtorEq, Int.reduceEq, Int.reduceLT, Int.reduceLE, decide_true, decide_false, beq_self_eq_true, beq_true, beq_false, Bool.not_true, Bool.not_false, b_lss, b_gtr, b_leq, b_geq, b_eql, b_neq, b_add, b_sub, b_mul, s_eql, s_neq, y_ops, y_nil, y_cons, y_guard, y_some, y_drop, y_do, y_not, y_not0, c_call, c_clo, c_move, c_pick, c_alloc, c_box, c_build, c_bslice, c_load, c_store, c_nilCheck, c_bin, c_binB, c_un, c_i2i, c_i2f, c_f2i, c_s2b, c_b2s, c_strId, c_mkfunc, c_mkslice, c_slice, c_sliceStr, c_fieldAddr, c_field, c_indexSl, c_indexArr, c_elemArr, c_indexStr, c_extract, c_lenStr, c_lenSl, c_append, c_real, c_imag, c_complex, c_min, c_max, c_clear, z_ops, z_nil, z_cons, z_guard, z_some, z_drop, z_do, z_not, z_not0, pairK, forall_eq_or_imp, stays, loadOf, List.reverse_cons, List.reverse_nil, List.mem_cons, List.not_mem_nil, or_false, forall_eq, true_or, or_true, Bool.true_and, lenA_sl, endK, resA, tupA, hlen, h0, h1, e0, h22, e2, leave_app]
      · have e2 : decide (wordK k = []) = false := decide_eq_false hw
        have e3 : decide (wordK k ≠ []) = true := decide_eq_true hw
        rw [e3, Bool.true_and]
        by_cases hl : (args.length : Int) = cntK k
        · have e4 : decide ((args.length : Int) = cntK k) = true := decide_eq_true hl
          rw [e4, Bool.true_and]
          have key := l31 args s hs hn d ⟨by omega, hd1⟩ k H.length (H ++ [HO.obj none [[.im (.int .i64 k), .im (.sl s (args.map encT))]]]) (by rw [hget0]; rfl) (hc _ (by omega)) args.length 0 (by omega)
          have z : ((0 : Nat) : Int) = 0 := rfl
          rw [z, List.drop_zero] at key
          simp only [f31, e31_0, x_seq, x_block, x_skip, x_label, x_cond, x_exit, x_goto, x_ret, k_normal, k_exit, k_goto, k_ret, b_normal, b_exit, b_goto, b_ret, wantedA, aop, ev, putA, List.length_cons, List.length_nil, List.replicate, List.cons_append, List.nil_append, List.append_nil, List.append_assoc, gs_same, gs_ne, gq_same, gq_ne, List.length_set, List.map_cons, List.map_nil, cellsOf, List.all_cons, List.all_nil, cellOk, boxTy, Bool.and_true, Bool.and_self, if_true, ite_true, ite_false, loadAt, storeAt, setAt, hget, hget0, hset, hset0, List.getElem?_cons_zero, List.getElem?_cons_succ, List.set_cons_zero, List.set_cons_succ, Nat.add_zero, Nat.zero_add, Nat.reduceAdd, Nat.reduceSub, Nat.reduceLeDiff, Nat.reduceLT, Nat.reduceEqDiff, Nat.le_refl, and_self, and_true, true_and, mkAgg, toIms, List.drop_zero, List.drop_succ_cons, List.take_succ_cons, List.take_zero, List.length_append, binBool, unA, Bool.false_eq_true, if_false, partA, fillA, fillE, List.take_nil, Nat.zero_ne_one, Nat.one_ne_zero, not_false_eq_true, ne_eq, Nat.succ_ne_self, reduceCtorEq, Int.reduceEq, Int.reduceLT, Int.reduceLE, decide_true, decide_false, beq_self_eq_true, beq_true, beq_false, Bool.not_true, Bool.not_false, b_lss, b_gtr, b_leq, b_geq, b_eql, b_neq, b_add, b_sub, b_mul, s_eql, s_neq, y_ops, y_nil, y_cons, y_guard, y_some, y_drop, y_do, y_not, y_not0, c_call, c_clo, c_move, c_pick, c_alloc, c_box, c_build, c_bslice, c_load, c_store, c_nilCheck, c_bin, c_binB, c_un, c_i2i, c_i2f, c_f2i, c_s2b, c_b2s, c_strId, c_mkfunc, c_mkslice, c_slice, c_sliceStr, c_fieldAddr, c_field, c_indexSl, c_indexArr, c_elemArr, c_indexStr, c_extract, c_lenStr, c_lenSl, c_append, c_real, c_imag, c_complex, c_min, c_max, c_clear, z_ops, z_nil, z_cons, z_guard, z_some, z_drop, z_do, z_not, z_not0, pairK, forall_eq_or_imp, stays, loadOf, List.reverse_cons, List.reverse_nil, List.mem_cons, List.not_mem_nil, or_false, forall_eq, true_or, or_true, Bool.true_and, lenA_sl, List.length_map, hlen, h0, h1, e0, h22, e2, h23, e4]
          generalize hr : thenL _ _ = r
          refine Exists.elim (thenL_inv hr (key _ ?_ ?_ ?_ ?_)) ?_
          iterate 4 simp only [gs_same, gs_ne, List.length_set, Nat.reduceLT, Nat.reduceEqDiff, not_false_eq_true, hlen, h1]
          clear hr key
          rintro e ⟨tm1, H1, ⟨hl1, rfl, hm⟩, rfl⟩
          rcases hm with ⟨he, rfl⟩ | ⟨he, rfl, g4⟩
          · rw [he]
            simp only [x_seq, x_block, x_skip, x_label, x_cond, x_exit, x_goto, x_ret, k_normal, k_exit, k_goto, k_ret, b_normal, b_exit, b_goto, b_ret, wantedA, aop, ev, putA, List.length_cons, List.length_nil, List.replicate, List.cons_append, List.nil_append, List.append_nil, List.append_assoc, gs_same, gs_ne, gq_same, gq_ne, List.length_set, List.map_cons, List.map_nil, cellsOf, List.all_cons, List.all_nil, cellOk, boxTy, Bool.and_true, Bool.and_self, if_true, ite_true, ite_false, loadAt, storeAt, setAt, hget, hget0, hset, hset0, List.getElem?_cons_zero, List.getElem?_cons_succ, List.set_cons_zero, List.set_cons_succ, Nat.add_zero, Nat.zero_add, Nat.reduceAdd, Nat.reduceSub, Nat.reduceLeDiff, Nat.reduceLT, Nat.reduceEqDiff, Nat.le_refl, and_self, and_true, true_and, mkAgg, toIms, List.drop_zero, List.drop_succ_cons, List.take_succ_cons, List.take_zero, List.length_append, binBool, unA, Bool.false_eq_true, if_false, partA, fillA, fillE, List.take_nil, Nat.zero_ne_one, Nat.one_ne_zero, not_false_eq_true, ne_eq, Nat.succ_ne_self, reduceCtorEq, Int.reduceEq, Int.reduceLT, Int.reduceLE, decide_true, decide_false, beq_self_eq_true, beq_true, beq_false, Bool.not_true, Bool.not_false, b_lss, b_gtr, b_leq, b_geq, b_eql, b_neq, b_add, b_sub, b_mul, s_eql, s_neq, y_ops, y_nil, y_cons, y_guard, y_some, y_drop, y_do, y_not, y_not0, c_call, c_clo, c_move, c_pick, c_alloc, c_box, c_build, c_bslice, c_load, c_store, c_nilCheck, c_bin, c_binB, c_un, c_i2i, c_i2f, c_f2i, c_s2b, c_b2s, c_strId, c_mkfunc, c_mkslice, c_slice, c_sliceStr, c_fieldAddr, c_field, c_indexSl, c_indexArr, c_elemArr, c_indexStr, c_extract, c_lenStr, c_lenSl, c_append, c_real, c_imag, c_complex, c_min, c_max, c_clear, endK, resA, tupA, hl1, leave_app]
          · rw [he]
            simp only [x_seq, x_block, x_skip, x_label, x_cond, x_exit, x_goto, x_ret, k_normal, k_exit, k_goto, k_ret, b_normal, b_exit, b_goto, b_ret, wantedA, aop, ev, putA, List.length_cons, List.length_nil, List.replicate, List.cons_append, List.nil_append, List.append_nil, List.append_assoc, gs_same, gs_ne, gq_same, gq_ne, List.length_set, List.map_cons, List.map_nil, cellsOf, List.all_cons, List.all_nil, cellOk, boxTy, Bool.and_true, Bool.and_self, if_true, ite_true, ite_false, loadAt, storeAt, setAt, hget, hget0, hset, hset0, List.getElem?_cons_zero, List.getElem?_cons_succ, List.set_cons_zero, List.set_cons_succ, Nat.add_zero, Nat.zero_add, Nat.reduceAdd, Nat.reduceSub, Nat.reduceLeDiff, Nat.reduceLT, Nat.reduceEqDiff, Nat.le_refl, and_self, and_true, true_and, mkAgg, toIms, List.drop_zero, List.drop_succ_cons, List.take_succ_cons, List.take_zero, List.length_append, binBool, unA, Bool.false_eq_true, if_false, partA, fillA, fillE, List.take_nil, Nat.zero_ne_one, Nat.one_ne_zero, not_false_eq_true, ne_eq, Nat.succ_ne_self, reduceCtorEq, Int.reduceEq, Int.reduceLT, Int.reduceLE, decide_true, decide_false, beq_self_eq_true, beq_true, beq_false, Bool.not_true, Bool.not_false, b_lss, b_gtr, b_leq, b_geq, b_eql, b_neq, b_add, b_sub, b_mul, s_eql, s_neq, y_ops, y_nil, y_cons, y_guard, y_some, y_drop, y_do, y_not, y_not0, c_call, c_clo, c_move, c_pick, c_alloc, c_box, c_build, c_bslice, c_load, c_store, c_nilCheck, c_bin, c_binB, c_un, c_i2i, c_i2f, c_f2i, c_s2b, c_b2s, c_strId, c_mkfunc, c_mkslice, c_slice, c_sliceStr, c_fieldAddr, c_field, c_indexSl, c_indexArr, c_elemArr, c_indexStr, c_extract, c_lenStr, c_lenSl, c_append, c_real, c_imag, c_complex, c_min, c_max, c_clear, endK, resA, tupA, hl1, g4, leave_app]
        · have e4 : decide ((args.length : Int) = cntK k) = false := decide_eq_false hl
          rw [e4, Bool.false_and]
          simp only [f31, x_seq, x_block, x_skip, x_label, x_cond, x_exit, x_goto, x_ret, k_normal, k_exit, k_goto, k_ret, b_normal, b_exit, b_goto, b_ret, wantedA, aop, ev, putA, List.length_cons, List.length_nil, List.replicate, List.cons_append, List.nil_append, List.append_nil, List.append_assoc, gs_same, gs_ne, gq_same, gq_ne, List.length_set, List.map_cons, List.map_nil, cellsOf, List.all_cons, List.all_nil, cellOk, boxTy, Bool.and_true, Bool.and_self, if_true, ite_true, ite_false, loadAt, storeAt, setAt, hget, hget0, hset, hset0, List.getElem?_cons_zero, List.getElem?_cons_succ, List.set_cons_zero, List.set_cons_succ, Nat.add_zero, Nat.zero_add, Nat.reduceAdd, Nat.reduceSub, Nat.reduceLeDiff, Nat.reduceLT, Nat.reduceEqDiff, Nat.le_refl, and_self, and_true, true_and, mkAgg, toIms, List.drop_zero, List.drop_succ_cons, List.take_succ_cons, List.take_zero, List.length_append, binBool, unA, Bool.false_eq_true, if_false, partA, fillA, fillE, List.take_nil, Nat.zero_ne_one, Nat.one_ne_zero, not_false_eq_true, ne_eq, Nat.succ_ne_self, reduceCtorEq, Int.reduceEq, Int.reduceLT, Int.reduceLE, decide_true, decide_false, beq_self_eq_true, beq_true, beq_false, Bool.not_true, Bool.not_false, b_lss, b_gtr, b_leq, b_geq, b_eql, b_neq, b_add, b_sub, b_mul, s_eql, s_neq, y_ops, y_nil, y_cons, y_guard, y_some, y_drop, y_do, y_not, y_not0, c_call, c_clo, c_move, c_pick, c_alloc, c_box, c_build, c_bslice, c_load, c_store, c_nilCheck, c_bin, c_binB, c_un, c_i2i, c_i2f, c_f2i, c_s2b, c_b2s, c_strId, c_mkfunc, c_mkslice, c_slice, c_sliceStr, c_fieldAddr, c_field, c_indexSl, c_indexArr, c_elemArr, c_indexStr, c_extract, c_lenStr, c_lenSl, c_append, c_real, c_imag, c_complex, c_min, c_max, c_clear, z_ops, z_nil, z_cons, z_guard, z_some, z_drop, z_do, z_not, z_not0, pairK, forall_eq_or_imp, stays, loadOf, List.reverse_cons, List.reverse_nil, List.mem_cons, List.not_mem_nil, or_false, forall_eq, true_or, or_true, Bool.true_and, lenA_sl, List.length_map, endK, resA, tupA, hlen, h0, h1, e0, h22, e2, h23, e4, leave_app]
termination_by t => SizeOf.sizeOf t
decreasing_by
  have := List.sizeOf_lt_of_mem ha
  simp only [KT.mk.sizeOf_spec]
  omega

end Go.Abs.Seat
end
