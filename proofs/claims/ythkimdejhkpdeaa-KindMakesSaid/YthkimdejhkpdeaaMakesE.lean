/- Part 5 of what the claim rests on. -/
import Derived.Test.YthkimdejhkpdeaaMakesA
import Derived.Test.YthkimdejhkpdeaaMakesB
import Derived.Test.YthkimdejhkpdeaaMakesC
import Derived.Test.YthkimdejhkpdeaaMakesD
section
/- What the seat's functions come to: Word, Count, clone, Make. -/
set_option linter.unusedVariables false
set_option linter.unusedSimpArgs false
namespace Go.Abs.Seat
open Go.Proofs

/-- How a kind is written; of none: nothing. -/
def wordK (k : Int) : List UInt8 := match kidx k with
  | some i => match words[i]? with
    | some w => w.2.1
    | none => []
  | none => []
/-- How many types a kind takes. -/
def cntK (k : Int) : Int := match kidx k with
  | some i => kcnt i
  | none => 0

theorem kidx_none {k : Int} (h1 : k ≠ 1) (h2 : k ≠ 2) (h3 : k ≠ 3) (h4 : k ≠ 4) (h5 : k ≠ 5) (h6 : k ≠ 6) (h7 : k ≠ 7) (h9 : k ≠ 9) : kidx k = none := by
  have e : ∀ j : Int, k ≠ j → decide (j = k) = false := fun j h => decide_eq_false (Ne.symm h)
  simp only [kidx, words, List.findIdx?_cons, List.findIdx?_nil, e 1 h1, e 2 h2, e 3 h3, e 4 h4, e 5 h5, e 6 h6, e 7 h7, e 9 h9, Bool.false_eq_true, if_false, Option.map_none]

theorem s22 (k : Int) (H : Heap) : L 22 [.im (.int .i64 k)] H = some (.im (.str (wordK k)), H) := by
  rw [leq F22]
  obtain ⟨hlen, ha⟩ := enter_at (f := f22) (args := [.im (.int .i64 k)]) (Nat.le_of_ble_eq_true rfl)
  have h0 := ha 0 _ rfl
  generalize enterA f22 [.im (.int .i64 k)] = tm at *
  change tm.length = 20 at hlen
  by_cases h1 : k = 1
  · subst h1
    simp only [f22, exec0, xreg, xops, wantedA, aopc, aop, ev, putA, endK, resA, tupA, List.length_cons, List.length_nil, List.replicate, List.cons_append, List.nil_append, List.append_nil, List.append_assoc, gs_same, gs_ne, gq_same, gq_ne, List.length_set, List.map_cons, List.map_nil, cellsOf, List.all_cons, List.all_nil, cellOk, boxTy, Bool.and_true, Bool.and_self, if_true, ite_true, ite_false, loadAt, storeAt, setAt, hget, hget0, hset, hset0, List.getElem?_cons_zero, List.getElem?_cons_succ, List.set_cons_zero, List.set_cons_succ, Nat.add_zero, Nat.zero_add, Nat.reduceAdd, Nat.reduceSub, Nat.reduceLeDiff, Nat.reduceLT, Nat.reduceEqDiff, Nat.le_refl, and_self, and_true, true_and, mkAgg, toIms, List.drop_zero, List.drop_succ_cons, List.take_succ_cons, List.take_zero, List.length_append, binA, isShift, binInt, binBool, unA, Bool.false_eq_true, if_false, partA, fillA, fillE, List.take_nil, Nat.zero_ne_one, Nat.one_ne_zero, not_false_eq_true, ne_eq, Nat.succ_ne_self, reduceCtorEq, Int.reduceEq, Int.reduceLT, Int.reduceLE, decide_true, decide_false, lenA, beq_self_eq_true, beq_true, beq_false, Bool.not_true, Bool.not_false, hlen, h0, leave_same]
    rfl
  by_cases h2 : k = 2
  · subst h2
    simp only [f22, exec0, xreg, xops, wantedA, aopc, aop, ev, putA, endK, resA, tupA, List.length_cons, List.length_nil, List.replicate, List.cons_append, List.nil_append, List.append_nil, List.append_assoc, gs_same, gs_ne, gq_same, gq_ne, List.length_set, List.map_cons, List.map_nil, cellsOf, List.all_cons, List.all_nil, cellOk, boxTy, Bool.and_true, Bool.and_self, if_true, ite_true, ite_false, loadAt, storeAt, setAt, hget, hget0, hset, hset0, List.getElem?_cons_zero, List.getElem?_cons_succ, List.set_cons_zero, List.set_cons_succ, Nat.add_zero, Nat.zero_add, Nat.reduceAdd, Nat.reduceSub, Nat.reduceLeDiff, Nat.reduceLT, Nat.reduceEqDiff, Nat.le_refl, and_self, and_true, true_and, mkAgg, toIms, List.drop_zero, List.drop_succ_cons, List.take_succ_cons, List.take_zero, List.length_append, binA, isShift, binInt, binBool, unA, Bool.false_eq_true, if_false, partA, fillA, fillE, List.take_nil, Nat.zero_ne_one, Nat.one_ne_zero, not_false_eq_true, ne_eq, Nat.succ_ne_self, reduceCtorEq, Int.reduceEq, Int.reduceLT, Int.reduceLE, decide_true, decide_false, lenA, beq_self_eq_true, beq_true, beq_false, Bool.not_true, Bool.not_false, hlen, h0, leave_same]
    rfl
  by_cases h3 : k = 3
  · subst h3
    simp only [f22, exec0, xreg, xops, wantedA, aopc, aop, ev, putA, endK, resA, tupA, List.length_cons, List.length_nil, List.replicate, List.cons_append, List.nil_append, List.append_nil, List.append_assoc, gs_same, gs_ne, gq_same, gq_ne, List.length_set, List.map_cons, List.map_nil, cellsOf, List.all_cons, List.all_nil, cellOk, boxTy, Bool.and_true, Bool.and_self, if_true, ite_true, ite_false, loadAt, storeAt, setAt, hget, hget0, hset, hset0, List.getElem?_cons_zero, List.getElem?_cons_succ, List.set_cons_zero, List.set_cons_succ, Nat.add_zero, Nat.zero_add, Nat.reduceAdd, Nat.reduceSub, Nat.reduceLeDiff, Nat.reduceLT, Nat.reduceEqDiff, Nat.le_refl, and_self, and_true, true_and, mkAgg, toIms, List.drop_zero, List.drop_succ_cons, List.take_succ_cons, List.take_zero, List.length_append, binA, isShift, binInt, binBool, unA, Bool.false_eq_true, if_false, partA, fillA, fillE, List.take_nil, Nat.zero_ne_one, Nat.one_ne_zero, not_false_eq_true, ne_eq, Nat.succ_ne_self, reduceCtorEq, Int.reduceEq, Int.reduceLT, Int.reduceLE, decide_true, decide_false, lenA, beq_self_eq_true, beq_true, beq_false, Bool.not_true, Bool.not_false, hlen, h0, leave_same]
    rfl
  by_cases h4 : k = 4
  · subst h4
    simp only [f22, exec0, xreg, xops, wantedA, aopc, aop, ev, putA, endK, resA, tupA, List.length_cons, List.length_nil, List.replicate, List.cons_append, List.nil_append, List.append_nil, List.append_assoc, gs_same, gs_ne, gq_same, gq_ne, List.length_set, List.map_cons, List.map_nil, cellsOf, List.all_cons, List.all_nil, cellOk, boxTy, Bool.and_true, Bool.and_self, if_true, ite_true, ite_false, loadAt, storeAt, setAt, hget, hget0, hset, hset0, List.getElem?_cons_zero, List.getElem?_cons_succ, List.set_cons_zero, List.set_cons_succ, Nat.add_zero, Nat.zero_add, Nat.reduceAdd, Nat.reduceSub, Nat.reduceLeDiff, Nat.reduceLT, Nat.reduceEqDiff, Nat.le_refl, and_self, and_true, true_and, mkAgg, toIms, List.drop_zero, List.drop_succ_cons, List.take_succ_cons, List.take_zero, List.length_append, binA, isShift, binInt, binBool, unA, Bool.false_eq_true, if_false, partA, fillA, fillE, List.take_nil, Nat.zero_ne_one, Nat.one_ne_zero, not_false_eq_true, ne_eq, Nat.succ_ne_self, reduceCtorEq, Int.reduceEq, Int.reduceLT, Int.reduceLE, decide_true, decide_false, lenA, beq_self_eq_true, beq_true, beq_false, Bool.not_true, Bool.not_false, hlen, h0, leave_same]
    rfl
  by_cases h5 : k = 5
  · subst h5
    simp only [f22, exec0, xreg, xops, wantedA, aopc, aop, ev, putA, endK, resA, tupA, List.length_cons, List.length_nil, List.replicate, List.cons_append, List.nil_append, List.append_nil, List.append_assoc, gs_same, gs_ne, gq_same, gq_ne, List.length_set, List.map_cons, List.map_nil, cellsOf, List.all_cons, List.all_nil, cellOk, boxTy, Bool.and_true, Bool.and_self, if_true, ite_true, ite_false, loadAt, storeAt, setAt, hget, hget0, hset, hset0, List.getElem?_cons_zero, List.getElem?_cons_succ, List.set_cons_zero, List.set_cons_succ, Nat.add_zero, Nat.zero_add, Nat.reduceAdd, Nat.reduceSub, Nat.reduceLeDiff, Nat.reduceLT, Nat.reduceEqDiff, Nat.le_refl, and_self, and_true, true_and, mkAgg, toIms, List.drop_zero, List.drop_succ_cons, List.take_succ_cons, List.take_zero, List.length_append, binA, isShift, binInt, binBool, unA, Bool.false_eq_true, if_false, partA, fillA, fillE, List.take_nil, Nat.zero_ne_one, Nat.one_ne_zero, not_false_eq_true, ne_eq, Nat.succ_ne_self, reduceCtorEq, Int.reduceEq, Int.reduceLT, Int.reduceLE, decide_true, decide_false, lenA, beq_self_eq_true, beq_true, beq_false, Bool.not_true, Bool.not_false, hlen, h0, leave_same]
    rfl
  by_cases h6 : k = 6
  · subst h6
    simp only [f22, exec0, xreg, xops, wantedA, aopc, aop, ev, putA, endK, resA, tupA, List.length_cons, List.length_nil, List.replicate, List.cons_append, List.nil_append, List.append_nil, List.append_assoc, gs_same, gs_ne, gq_same, gq_ne, List.length_set, List.map_cons, List.map_nil, cellsOf, List.all_cons, List.all_nil, cellOk, boxTy, Bool.and_true, Bool.and_self, if_true, ite_true, ite_false, loadAt, storeAt, setAt, hget, hget0, hset, hset0, List.getElem?_cons_zero, List.getElem?_cons_succ, List.set_cons_zero, List.set_cons_succ, Nat.add_zero, Nat.zero_add, Nat.reduceAdd, Nat.reduceSub, Nat.reduceLeDiff, Nat.reduceLT, Nat.reduceEqDiff, Nat.le_refl, and_self, and_true, true_and, mkAgg, toIms, List.drop_zero, List.drop_succ_cons, List.take_succ_cons, List.take_zero, List.length_append, binA, isShift, binInt, binBool, unA, Bool.false_eq_true, if_false, partA, fillA, fillE, List.take_nil, Nat.zero_ne_one, Nat.one_ne_zero, not_false_eq_true, ne_eq, Nat.succ_ne_self, reduceCtorEq, Int.reduceEq, Int.reduceLT, Int.reduceLE, decide_true, decide_false, lenA, beq_self_eq_true, beq_true, beq_false, Bool.not_true, Bool.not_false, hlen, h0, leave_same]
    rfl
  by_cases h7 : k = 7
  · subst h7
    simp only [f22, exec0, xreg, xops, wantedA, aopc, aop, ev, putA, endK, resA, tupA, List.length_cons, List.length_nil, List.replicate, List.cons_append, List.nil_append, List.append_nil, List.append_assoc, gs_same, gs_ne, gq_same, gq_ne, List.length_set, List.map_cons, List.map_nil, cellsOf, List.all_cons, List.all_nil, cellOk, boxTy, Bool.and_true, Bool.and_self, if_true, ite_true, ite_false, loadAt, storeAt, setAt, hget, hget0, hset, hset0, List.getElem?_cons_zero, List.getElem?_cons_succ, List.set_cons_zero, List.set_cons_succ, Nat.add_zero, Nat.zero_add, Nat.reduceAdd, Nat.reduceSub, Nat.reduceLeDiff, Nat.reduceLT, Nat.reduceEqDiff, Nat.le_refl, and_self, and_true, true_and, mkAgg, toIms, List.drop_zero, List.drop_succ_cons, List.take_succ_cons, List.take_zero, List.length_append, binA, isShift, binInt, binBool, unA, Bool.false_eq_true, if_false, partA, fillA, fillE, List.take_nil, Nat.zero_ne_one, Nat.one_ne_zero, not_false_eq_true, ne_eq, Nat.succ_ne_self, reduceCtorEq, Int.reduceEq, Int.reduceLT, Int.reduceLE, decide_true, decide_false, lenA, beq_self_eq_true, beq_true, beq_false, Bool.not_true, Bool.not_false, hlen, h0, leave_same]
    rfl
  by_cases h9 : k = 9
  · subst h9
    simp only [f22, exec0, xreg, xops, wantedA, aopc, aop, ev, putA, endK, resA, tupA, List.length_cons, List.length_nil, List.replicate, List.cons_append, List.nil_append, List.append_nil, List.append_assoc, gs_same, gs_ne, gq_same, gq_ne, List.length_set, List.map_cons, List.map_nil, cellsOf, List.all_cons, List.all_nil, cellOk, boxTy, Bool.and_true, Bool.and_self, if_true, ite_true, ite_false, loadAt, storeAt, setAt, hget, hget0, hset, hset0, List.getElem?_cons_zero, List.getElem?_cons_succ, List.set_cons_zero, List.set_cons_succ, Nat.add_zero, Nat.zero_add, Nat.reduceAdd, Nat.reduceSub, Nat.reduceLeDiff, Nat.reduceLT, Nat.reduceEqDiff, Nat.le_refl, and_self, and_true, true_and, mkAgg, toIms, List.drop_zero, List.drop_succ_cons, List.take_succ_cons, List.take_zero, List.length_append, binA, isShift, binInt, binBool, unA, Bool.false_eq_true, if_false, partA, fillA, fillE, List.take_nil, Nat.zero_ne_one, Nat.one_ne_zero, not_false_eq_true, ne_eq, Nat.succ_ne_self, reduceCtorEq, Int.reduceEq, Int.reduceLT, Int.reduceLE, decide_true, decide_false, lenA, beq_self_eq_true, beq_true, beq_false, Bool.not_true, Bool.not_false, hlen, h0, leave_same]
    rfl
  have e : wordK k = [] := by unfold wordK; rw [kidx_none h1 h2 h3 h4 h5 h6 h7 h9]
  simp only [f22, exec0, xreg, xops, wantedA, aopc, aop, ev, putA, endK, resA, tupA, List.length_cons, List.length_nil, List.replicate, List.cons_append, List.nil_append, List.append_nil, List.append_assoc, gs_same, gs_ne, gq_same, gq_ne, List.length_set, List.map_cons, List.map_nil, cellsOf, List.all_cons, List.all_nil, cellOk, boxTy, Bool.and_true, Bool.and_self, if_true, ite_true, ite_false, loadAt, storeAt, setAt, hget, hget0, hset, hset0, List.getElem?_cons_zero, List.getElem?_cons_succ, List.set_cons_zero, List.set_cons_succ, Nat.add_zero, Nat.zero_add, Nat.reduceAdd, Nat.reduceSub, Nat.reduceLeDiff, Nat.reduceLT, Nat.reduceEqDiff, Nat.le_refl, and_self, and_true, true_and, mkAgg, toIms, List.drop_zero, List.drop_succ_cons, List.take_succ_cons, List.take_zero, List.length_append, binA, isShift, binInt, binBool, unA, Bool.false_eq_true, if_false, partA, fillA, fillE, List.take_nil, Nat.zero_ne_one, Nat.one_ne_zero, not_false_eq_true, ne_eq, Nat.succ_ne_self, reduceCtorEq, Int.reduceEq, Int.reduceLT, Int.reduceLE, decide_true, decide_false, lenA, beq_self_eq_true, beq_true, beq_false, Bool.not_true, Bool.not_false, hlen, h0, h1, h2, h3, h4, h5, h6, h7, h9, leave_same, e]

theorem s23 (k : Int) (H : Heap) : L 23 [.im (.int .i64 k)] H = some (.im (.int .i64 (cntK k)), H) := by
  rw [leq F23]
  obtain ⟨hlen, ha⟩ := enter_at (f := f23) (args := [.im (.int .i64 k)]) (Nat.le_of_ble_eq_true rfl)
  have h0 := ha 0 _ rfl
  generalize enterA f23 [.im (.int .i64 k)] = tm at *
  change tm.length = 11 at hlen
  by_cases h6 : k = 6
  · subst h6
    simp only [f23, exec0, xreg, xops, wantedA, aopc, aop, ev, putA, endK, resA, tupA, List.length_cons, List.length_nil, List.replicate, List.cons_append, List.nil_append, List.append_nil, List.append_assoc, gs_same, gs_ne, gq_same, gq_ne, List.length_set, List.map_cons, List.map_nil, cellsOf, List.all_cons, List.all_nil, cellOk, boxTy, Bool.and_true, Bool.and_self, if_true, ite_true, ite_false, loadAt, storeAt, setAt, hget, hget0, hset, hset0, List.getElem?_cons_zero, List.getElem?_cons_succ, List.set_cons_zero, List.set_cons_succ, Nat.add_zero, Nat.zero_add, Nat.reduceAdd, Nat.reduceSub, Nat.reduceLeDiff, Nat.reduceLT, Nat.reduceEqDiff, Nat.le_refl, and_self, and_true, true_and, mkAgg, toIms, List.drop_zero, List.drop_succ_cons, List.take_succ_cons, List.take_zero, List.length_append, binA, isShift, binInt, binBool, unA, Bool.false_eq_true, if_false, partA, fillA, fillE, List.take_nil, Nat.zero_ne_one, Nat.one_ne_zero, not_false_eq_true, ne_eq, Nat.succ_ne_self, reduceCtorEq, Int.reduceEq, Int.reduceLT, Int.reduceLE, decide_true, decide_false, lenA, beq_self_eq_true, beq_true, beq_false, Bool.not_true, Bool.not_false, hlen, h0, leave_same]
    rfl
  by_cases h7 : k = 7
  · subst h7
    simp only [f23, exec0, xreg, xops, wantedA, aopc, aop, ev, putA, endK, resA, tupA, List.length_cons, List.length_nil, List.replicate, List.cons_append, List.nil_append, List.append_nil, List.append_assoc, gs_same, gs_ne, gq_same, gq_ne, List.length_set, List.map_cons, List.map_nil, cellsOf, List.all_cons, List.all_nil, cellOk, boxTy, Bool.and_true, Bool.and_self, if_true, ite_true, ite_false, loadAt, storeAt, setAt, hget, hget0, hset, hset0, List.getElem?_cons_zero, List.getElem?_cons_succ, List.set_cons_zero, List.set_cons_succ, Nat.add_zero, Nat.zero_add, Nat.reduceAdd, Nat.reduceSub, Nat.reduceLeDiff, Nat.reduceLT, Nat.reduceEqDiff, Nat.le_refl, and_self, and_true, true_and, mkAgg, toIms, List.drop_zero, List.drop_succ_cons, List.take_succ_cons, List.take_zero, List.length_append, binA, isShift, binInt, binBool, unA, Bool.false_eq_true, if_false, partA, fillA, fillE, List.take_nil, Nat.zero_ne_one, Nat.one_ne_zero, not_false_eq_true, ne_eq, Nat.succ_ne_self, reduceCtorEq, Int.reduceEq, Int.reduceLT, Int.reduceLE, decide_true, decide_false, lenA, beq_self_eq_true, beq_true, beq_false, Bool.not_true, Bool.not_false, hlen, h0, leave_same]
    rfl
  by_cases h9 : k = 9
  · subst h9
    simp only [f23, exec0, xreg, xops, wantedA, aopc, aop, ev, putA, endK, resA, tupA, List.length_cons, List.length_nil, List.replicate, List.cons_append, List.nil_append, List.append_nil, List.append_assoc, gs_same, gs_ne, gq_same, gq_ne, List.length_set, List.map_cons, List.map_nil, cellsOf, List.all_cons, List.all_nil, cellOk, boxTy, Bool.and_true, Bool.and_self, if_true, ite_true, ite_false, loadAt, storeAt, setAt, hget, hget0, hset, hset0, List.getElem?_cons_zero, List.getElem?_cons_succ, List.set_cons_zero, List.set_cons_succ, Nat.add_zero, Nat.zero_add, Nat.reduceAdd, Nat.reduceSub, Nat.reduceLeDiff, Nat.reduceLT, Nat.reduceEqDiff, Nat.le_refl, and_self, and_true, true_and, mkAgg, toIms, List.drop_zero, List.drop_succ_cons, List.take_succ_cons, List.take_zero, List.length_append, binA, isShift, binInt, binBool, unA, Bool.false_eq_true, if_false, partA, fillA, fillE, List.take_nil, Nat.zero_ne_one, Nat.one_ne_zero, not_false_eq_true, ne_eq, Nat.succ_ne_self, reduceCtorEq, Int.reduceEq, Int.reduceLT, Int.reduceLE, decide_true, decide_false, lenA, beq_self_eq_true, beq_true, beq_false, Bool.not_true, Bool.not_false, hlen, h0, leave_same]
    rfl
  have e : cntK k = 0 := by
    by_cases h1 : k = 1
    · subst h1; rfl
    by_cases h2 : k = 2
    · subst h2; rfl
    by_cases h3 : k = 3
    · subst h3; rfl
    by_cases h4 : k = 4
    · subst h4; rfl
    by_cases h5 : k = 5
    · subst h5; rfl
    unfold cntK; rw [kidx_none h1 h2 h3 h4 h5 h6 h7 h9]
  simp only [f23, exec0, xreg, xops, wantedA, aopc, aop, ev, putA, endK, resA, tupA, List.length_cons, List.length_nil, List.replicate, List.cons_append, List.nil_append, List.append_nil, List.append_assoc, gs_same, gs_ne, gq_same, gq_ne, List.length_set, List.map_cons, List.map_nil, cellsOf, List.all_cons, List.all_nil, cellOk, boxTy, Bool.and_true, Bool.and_self, if_true, ite_true, ite_false, loadAt, storeAt, setAt, hget, hget0, hset, hset0, List.getElem?_cons_zero, List.getElem?_cons_succ, List.set_cons_zero, List.set_cons_succ, Nat.add_zero, Nat.zero_add, Nat.reduceAdd, Nat.reduceSub, Nat.reduceLeDiff, Nat.reduceLT, Nat.reduceEqDiff, Nat.le_refl, and_self, and_true, true_and, mkAgg, toIms, List.drop_zero, List.drop_succ_cons, List.take_succ_cons, List.take_zero, List.length_append, binA, isShift, binInt, binBool, unA, Bool.false_eq_true, if_false, partA, fillA, fillE, List.take_nil, Nat.zero_ne_one, Nat.one_ne_zero, not_false_eq_true, ne_eq, Nat.succ_ne_self, reduceCtorEq, Int.reduceEq, Int.reduceLT, Int.reduceLE, decide_true, decide_false, lenA, beq_self_eq_true, beq_true, beq_false, Bool.not_true, Bool.not_false, hlen, h0, h6, h7, h9, leave_same, e]

/-! ### clone -/

mutual
def narrow : KT → Prop
  | .mk _ _ args => args.length ≤ 2 ∧ narrows args
def narrows : List KT → Prop
  | [] => True
  | a :: l => narrow a ∧ narrows l
end
theorem narrows_mem : ∀ {l : List KT}, narrows l → ∀ a ∈ l, narrow a
  | [], _, a, h => by simp at h
  | b :: l, h, a, hm => by
    simp only [narrows] at h
    rcases List.mem_cons.1 hm with rfl | hm
    · exact h.1
    · exact narrows_mem h.2 a hm

mutual
def cloneT : KT → KT
  | .mk k _ args => .mk k (if args.length = 0 then 0 else 2) (cloneTs args)
def cloneTs : List KT → List KT
  | [] => []
  | a :: l => cloneT a :: cloneTs l
end
theorem cloneTs_map : ∀ l : List KT, cloneTs l = l.map cloneT
  | [] => rfl
  | a :: l => by simp only [cloneTs, List.map_cons, cloneTs_map l]

theorem l53 (args : List KT) (s : Nat) (hs : args = [] ∨ s = 2) (hn : args.length ≤ 1000) (H0 : Heap)
    (hc : ∀ a ∈ args, ∀ H, L 53 [.im (.agg (encT a))] H = some (.im (.agg (encT (cloneT a))), H)) :
    ∀ (m i : Nat), i + m = args.length → ∀ (tm : List AV) (M : Heap) (v : AV), Gath 25 2 H0.length v (H0 ++ M) ((args.take i).map fun a => encT (cloneT a)) → tm.length = 23 → tm.getD 3 undefA = v → tm.getD 7 undefA = .im (.sl s (args.map encT)) → tm.getD 8 undefA = .im (.int .i64 args.length) → tm.getD 9 undefA = .im (.int .i64 i) →
    ∃ e tm' H', Λ c53_0 tm (H0 ++ M) = some (e, tm', H') ∧ tm'.length = 23 ∧ e = .exit 0 ∧ tm'.getD 1 undefA = tm.getD 1 undefA ∧ tm'.getD 2 undefA = tm.getD 2 undefA ∧ ∃ M', H' = H0 ++ M' ∧ Gath 25 2 H0.length (tm'.getD 3 undefA) (H0 ++ M') (args.map fun a => encT (cloneT a))
  | 0, i, hi, tm, M, v, hG, hlen, h3, h7, h8, h9 => by
    have hc : decide ((i : Int) < (args.length : Int)) = false := decide_eq_false (by omega)
    rw [l53_0]
    simp only [b53_0, exec0, xreg, xops, wantedA, aopc, aop, ev, putA, endK, resA, tupA, List.length_cons, List.length_nil, List.replicate, List.cons_append, List.nil_append, List.append_nil, List.append_assoc, gs_same, gs_ne, gq_same, gq_ne, List.length_set, List.map_cons, List.map_nil, cellsOf, List.all_cons, List.all_nil, cellOk, boxTy, Bool.and_true, Bool.and_self, if_true, ite_true, ite_false, loadAt, storeAt, setAt, hget, hget0, hset, hset0, List.getElem?_cons_zero, List.getElem?_cons_succ, List.set_cons_zero, List.set_cons_succ, Nat.add_zero, Nat.zero_add, Nat.reduceAdd, Nat.reduceSub, Nat.reduceLeDiff, Nat.reduceLT, Nat.reduceEqDiff, Nat.le_refl, and_self, and_true, true_and, mkAgg, toIms, List.drop_zero, List.drop_succ_cons, List.take_succ_cons, List.take_zero, List.length_append, binA, isShift, binInt, binBool, unA, Bool.false_eq_true, if_false, partA, fillA, fillE, List.take_nil, Nat.zero_ne_one, Nat.one_ne_zero, not_false_eq_true, ne_eq, Nat.succ_ne_self, reduceCtorEq, Int.reduceEq, Int.reduceLT, Int.reduceLE, decide_true, decide_false, lenA, beq_self_eq_true, beq_true, beq_false, Bool.not_true, Bool.not_false, hlen, h3, h7, h8, h9, hc]
    have e : args.take i = args := List.take_of_length_le (by omega)
    rw [e] at hG
    exact ⟨_, _, _, rfl, by simp only [List.length_set, hlen], rfl, by simp only [gs_same, gs_ne, List.length_set, Nat.reduceLT, Nat.reduceEqDiff, not_false_eq_true, hlen], by simp only [gs_same, gs_ne, List.length_set, Nat.reduceLT, Nat.reduceEqDiff, not_false_eq_true, hlen], M, rfl, by simp only [gs_same, gs_ne, List.length_set, Nat.reduceLT, Nat.reduceEqDiff, not_false_eq_true, hlen, h3]; exact hG⟩
  | m + 1, i, hi, tm, M, v, hG, hlen, h3, h7, h8, h9 => by
    have hlt : i < args.length := by omega
    obtain ⟨w, hwi⟩ : ∃ w, args[i]? = some w := ⟨_, List.getElem?_eq_getElem hlt⟩
    have hs2 : s = 2 := by
      rcases hs with hs | hs
      · subst hs; simp at hlt
      · exact hs
    subst hs2
    have hc' : decide ((i : Int) < (args.length : Int)) = true := decide_eq_true (by omega)
    have hix := idx_nat (n := (args.map encT).length) (i := i) (by simpa using hlt)
    have hgw : (args.map encT)[i]? = some (encT w) := by rw [List.getElem?_map, hwi]; rfl
    have hcall := hc w (List.mem_of_getElem? hwi)
    have hwr := wrap_nat (i := i) (by omega)
    have key := l53 args 2 hs hn H0 hc m (i + 1) (by omega)
    have hG2 := hG.more [.obj none [(encT w).map .im]]
    rw [List.append_assoc] at hG2
    obtain ⟨v', M', hap, hG', hok, _⟩ := hG2.push (bytes := 32) (encT (cloneT w)) (by simp; omega) (by decide)
    have htk : (args.take (i + 1)).map (fun a => encT (cloneT a)) = (args.take i).map (fun a => encT (cloneT a)) ++ [encT (cloneT w)] := by
      rw [List.take_add_one, hwi]; simp
    rw [← htk] at hG'
    have hset0 : ∀ o o' : HO, (H0 ++ (M ++ [o])).set (H0.length + M.length) o' = H0 ++ (M ++ [o']) := fun o o' => by
      rw [← List.append_assoc, ← List.append_assoc, ← List.length_append, Go.Abs.hset0]; rfl
    have hgetA : ∀ o, (H0 ++ (M ++ [o]))[H0.length + M.length]? = some o := fun o => by
      rw [← List.append_assoc, ← List.length_append, Go.Abs.hget0]; rfl
    rw [l53_0]
    generalize hcw : cloneT w = cw at *
    obtain ⟨k, s', ts⟩ := w
    obtain ⟨k2, s2, ts2⟩ := cw
    simp only [encT, List.map_cons, List.map_nil] at hcall hgw hap
    simp only [b53_0, exec0, xreg, xops, wantedA, aopc, aop, ev, putA, endK, resA, tupA, List.length_cons, List.length_nil, List.replicate, List.cons_append, List.nil_append, List.append_nil, List.append_assoc, gs_same, gs_ne, gq_same, gq_ne, List.length_set, List.map_cons, List.map_nil, cellsOf, List.all_cons, List.all_nil, cellOk, boxTy, Bool.and_true, Bool.and_self, if_true, ite_true, ite_false, loadAt, storeAt, setAt, hget, hget0, hset, hset0, List.getElem?_cons_zero, List.getElem?_cons_succ, List.set_cons_zero, List.set_cons_succ, Nat.add_zero, Nat.zero_add, Nat.reduceAdd, Nat.reduceSub, Nat.reduceLeDiff, Nat.reduceLT, Nat.reduceEqDiff, Nat.le_refl, and_self, and_true, true_and, mkAgg, toIms, List.drop_zero, List.drop_succ_cons, List.take_succ_cons, List.take_zero, List.length_append, binA, isShift, binInt, binBool, unA, Bool.false_eq_true, if_false, partA, fillA, fillE, List.take_nil, Nat.zero_ne_one, Nat.one_ne_zero, not_false_eq_true, ne_eq, Nat.succ_ne_self, reduceCtorEq, Int.reduceEq, Int.reduceLT, Int.reduceLE, decide_true, decide_false, lenA, beq_self_eq_true, beq_true, beq_false, Bool.not_true, Bool.not_false, hlen, h3, h7, h8, h9, hc', hix, hgw, hcall, hwr, hgetA, hset0, toDatss, toDats, toDat, elems, hap]
    refine ex_imp (key _ M' v' hG' ?_ ?_ ?_ ?_ ?_) ?_
    iterate 5 simp only [gs_same, gs_ne, List.length_set, Nat.reduceLT, Nat.reduceEqDiff, not_false_eq_true, hlen, h3, h7, h8, h9]
    rintro e tm' H' ⟨hl', he, g1, g2, hM⟩
    refine ⟨hl', he, ?_, ?_, hM⟩
    · rw [g1]; simp only [gs_same, gs_ne, List.length_set, Nat.reduceLT, Nat.reduceEqDiff, not_false_eq_true, hlen]
    · rw [g2]; simp only [gs_same, gs_ne, List.length_set, Nat.reduceLT, Nat.reduceEqDiff, not_false_eq_true, hlen]

theorem s53 : ∀ (t : KT), okT t → narrow t → ∀ H, L 53 [.im (.agg (encT t))] H = some (.im (.agg (encT (cloneT t))), H)
  | .mk k s args, hok, hnw, H => by
    simp only [okT] at hok
    obtain ⟨hs, _, hoks⟩ := hok
    simp only [narrow] at hnw
    obtain ⟨hn, hnws⟩ := hnw
    have hc : ∀ a ∈ args, ∀ H, L 53 [.im (.agg (encT a))] H = some (.im (.agg (encT (cloneT a))), H) := fun a ha H => s53 a (okTs_mem hoks a ha) (narrows_mem hnws a ha) H
    have key := l53 args s hs (by omega) (H ++ [.obj none [[.im (.int .i64 k), .im (.sl s (encTs args))]], .obj none [[.im (.int .i64 0), .nils]]]) hc args.length 0 (by omega)
    have z : ((0 : Nat) : Int) = 0 := rfl
    simp only [z] at key
    have hel : (encTs args).length = args.length := by rw [encTs_map]; simp
    simp only [encT]
    rw [leq F53]
    obtain ⟨hlen, ha⟩ := enter_at (f := f53) (args := [.im (.agg [.int .i64 k, .sl s (encTs args)])]) (Nat.le_of_ble_eq_true rfl)
    have h0 := ha 0 _ rfl
    generalize enterA f53 [.im (.agg [.int .i64 k, .sl s (encTs args)])] = tm at *
    change tm.length = 23 at hlen
    simp only [f53, e53_0, exec0, xreg, xops, wantedA, aopc, aop, ev, putA, endK, resA, tupA, List.length_cons, List.length_nil, List.replicate, List.cons_append, List.nil_append, List.append_nil, List.append_assoc, gs_same, gs_ne, gq_same, gq_ne, List.length_set, List.map_cons, List.map_nil, cellsOf, List.all_cons, List.all_nil, cellOk, boxTy, Bool.and_true, Bool.and_self, if_true, ite_true, ite_false, loadAt, storeAt, setAt, hget, hget0, hset, hset0, List.getElem?_cons_zero, List.getElem?_cons_succ, List.set_cons_zero, List.set_cons_succ, Nat.add_zero, Nat.zero_add, Nat.reduceAdd, Nat.reduceSub, Nat.reduceLeDiff, Nat.reduceLT, Nat.reduceEqDiff, Nat.le_refl, and_self, and_true, true_and, mkAgg, toIms, List.drop_zero, List.drop_succ_cons, List.take_succ_cons, List.take_zero, List.length_append, binA, isShift, binInt, binBool, unA, Bool.false_eq_true, if_false, partA, fillA, fillE, List.take_nil, Nat.zero_ne_one, Nat.one_ne_zero, not_false_eq_true, ne_eq, Nat.succ_ne_self, reduceCtorEq, Int.reduceEq, Int.reduceLT, Int.reduceLE, decide_true, decide_false, lenA, beq_self_eq_true, beq_true, beq_false, Bool.not_true, Bool.not_false, hlen, h0, hel]
    have key := fun tm => key tm [] .nils (.inl ⟨rfl, rfl⟩)
    simp only [List.append_nil] at key
    refine thenL_of (key _ ?_ ?_ ?_ ?_ ?_) ?_
    iterate 5 simp only [gs_same, gs_ne, List.length_set, Nat.reduceLT, Nat.reduceEqDiff, not_false_eq_true, hlen, h0, encTs_map]
    rintro e tm' H' ⟨hl', rfl, g1, g2, M, rfl, hG⟩
    simp only [gs_same, gs_ne, List.length_set, Nat.reduceLT, Nat.reduceEqDiff, not_false_eq_true, hlen] at g1 g2
    have hm : encTs (cloneTs args) = args.map fun a => encT (cloneT a) := by rw [encTs_map, cloneTs_map, List.map_map]; rfl
    rcases hG with ⟨hes, hv⟩ | ⟨hes, tok, _, hv, _⟩
    · have ha0 : args = [] := by simpa using hes
      have e1 : toDat (.agg [.im (.int .i64 k), .nils]) = some (.agg (encT (cloneT (.mk k s args)))) := by
        simp [toDat, toDats, cloneT, encT, ha0, encTs, cloneTs]
      have hlv := fun L' => leave_one (H := H) (M := L') e1
      simp only [cloneT, encT] at hlv ⊢
      simp only [exec0, xreg, xops, wantedA, aopc, aop, ev, putA, endK, resA, tupA, List.length_cons, List.length_nil, List.replicate, List.cons_append, List.nil_append, List.append_nil, List.append_assoc, gs_same, gs_ne, gq_same, gq_ne, List.length_set, List.map_cons, List.map_nil, cellsOf, List.all_cons, List.all_nil, cellOk, boxTy, Bool.and_true, Bool.and_self, if_true, ite_true, ite_false, loadAt, storeAt, setAt, hget, hget0, hset, hset0, List.getElem?_cons_zero, List.getElem?_cons_succ, List.set_cons_zero, List.set_cons_succ, Nat.add_zero, Nat.zero_add, Nat.reduceAdd, Nat.reduceSub, Nat.reduceLeDiff, Nat.reduceLT, Nat.reduceEqDiff, Nat.le_refl, and_self, and_true, true_and, mkAgg, toIms, List.drop_zero, List.drop_succ_cons, List.take_succ_cons, List.take_zero, List.length_append, binA, isShift, binInt, binBool, unA, Bool.false_eq_true, if_false, partA, fillA, fillE, List.take_nil, Nat.zero_ne_one, Nat.one_ne_zero, not_false_eq_true, ne_eq, Nat.succ_ne_self, reduceCtorEq, Int.reduceEq, Int.reduceLT, Int.reduceLE, decide_true, decide_false, lenA, beq_self_eq_true, beq_true, beq_false, Bool.not_true, Bool.not_false, hl', g1, g2, hv, toDatss, toDats, toDat, hlv]
    · have ha0 : args.length ≠ 0 := by simpa using hes
      have e1 : toDat (.agg [.im (.int .i64 k), .asl 2 (args.map fun a => encT (cloneT a)) tok]) = some (.agg (encT (cloneT (.mk k s args)))) := by
        simp only [toDat, toDats, cloneT, encT, if_neg ha0, hm]
      have hlv := fun L' => leave_one (H := H) (M := L') e1
      simp only [cloneT, encT] at hlv ⊢
      simp only [exec0, xreg, xops, wantedA, aopc, aop, ev, putA, endK, resA, tupA, List.length_cons, List.length_nil, List.replicate, List.cons_append, List.nil_append, List.append_nil, List.append_assoc, gs_same, gs_ne, gq_same, gq_ne, List.length_set, List.map_cons, List.map_nil, cellsOf, List.all_cons, List.all_nil, cellOk, boxTy, Bool.and_true, Bool.and_self, if_true, ite_true, ite_false, loadAt, storeAt, setAt, hget, hget0, hset, hset0, List.getElem?_cons_zero, List.getElem?_cons_succ, List.set_cons_zero, List.set_cons_succ, Nat.add_zero, Nat.zero_add, Nat.reduceAdd, Nat.reduceSub, Nat.reduceLeDiff, Nat.reduceLT, Nat.reduceEqDiff, Nat.le_refl, and_self, and_true, true_and, mkAgg, toIms, List.drop_zero, List.drop_succ_cons, List.take_succ_cons, List.take_zero, List.length_append, binA, isShift, binInt, binBool, unA, Bool.false_eq_true, if_false, partA, fillA, fillE, List.take_nil, Nat.zero_ne_one, Nat.one_ne_zero, not_false_eq_true, ne_eq, Nat.succ_ne_self, reduceCtorEq, Int.reduceEq, Int.reduceLT, Int.reduceLE, decide_true, decide_false, lenA, beq_self_eq_true, beq_true, beq_false, Bool.not_true, Bool.not_false, hl', g1, g2, hv, toDatss, toDats, toDat, hlv]
termination_by t => SizeOf.sizeOf t
decreasing_by
  have := List.sizeOf_lt_of_mem ha
  simp only [KT.mk.sizeOf_spec]
  omega

end Go.Abs.Seat
end
section
/- What the seat's functions come to: Make. -/
set_option linter.unusedVariables false
set_option linter.unusedSimpArgs false
namespace Go.Abs.Seat
open Go.Proofs

theorem kcnt_le : ∀ i, i < 8 → kcnt i ≤ 2 := by decide

mutual
theorem right_narrow : ∀ (t : KT) (d : Int), rightT t d = true → narrow t
  | .mk k s args, d, h => by
    simp only [rightT] at h
    split at h
    · rename_i i hi
      split at h
      · simp at h
      · split at h
        · rename_i hl
          have := kcnt_le i (kidx_lt hi).1
          simp only [narrow]
          exact ⟨by omega, right_narrows args (d - 1) (by simpa using h)⟩
        · simp at h
    · simp at h
theorem right_narrows : ∀ (l : List KT) (d : Int), rightNot l d = false → narrows l
  | [], d, h => by simp only [narrows]
  | a :: l, d, h => by
    simp only [rightNot, Bool.or_eq_false_iff, Bool.not_eq_false'] at h
    simp only [narrows]
    exact ⟨right_narrow a d h.1, right_narrows l d h.2⟩
end

/-- Make. -/
theorem s21 (k : Int) (s : Nat) (args : List KT) (hok : okT (.mk k s args)) (H : Heap) : L 21 [.im (.int .i64 k), .im (.sl s (encTs args))] H =
    some (.tup [.im (.agg (if rightT (.mk k s args) 6 = true then encT (cloneT (.mk k s args)) else [.int .i64 0, .sl 0 []])), .im (.int .i64 (checkT (.mk k s args)))], H) := by
  have h19 := fun H => s19 (.mk k s args) hok H
  have h53 := fun (h : rightT (.mk k s args) 6 = true) H => s53 (.mk k s args) hok (right_narrow _ 6 h) H
  simp only [encT] at h19 h53
  rw [leq F21]
  obtain ⟨hlen, ha⟩ := enter_at (f := f21) (args := [.im (.int .i64 k), .im (.sl s (encTs args))]) (Nat.le_of_ble_eq_true rfl)
  have h0 := ha 0 _ rfl
  have h1 := ha 1 _ rfl
  generalize enterA f21 [.im (.int .i64 k), .im (.sl s (encTs args))] = tm at *
  change tm.length = 19 at hlen
  unfold checkT at h19 ⊢
  rcases Bool.eq_false_or_eq_true (rightT (.mk k s args) 6) with hr | hr
  · have h53 := h53 hr
    simp only [hr, if_true] at h19 ⊢
    generalize hct : cloneT (.mk k s args) = ct at *
    obtain ⟨k2, s2, ts2⟩ := ct
    simp only [encT] at h53 ⊢
    have hlv := fun L' => leave_two (H := H) (M := L') (a := .im (.agg [.int .i64 k2, .sl s2 (encTs ts2)])) (b := .im (.int .i64 0)) rfl rfl
    simp only [f21, exec0, xreg, xops, wantedA, aopc, aop, ev, putA, endK, resA, tupA, List.length_cons, List.length_nil, List.replicate, List.cons_append, List.nil_append, List.append_nil, List.append_assoc, gs_same, gs_ne, gq_same, gq_ne, List.length_set, List.map_cons, List.map_nil, cellsOf, List.all_cons, List.all_nil, cellOk, boxTy, Bool.and_true, Bool.and_self, if_true, ite_true, ite_false, loadAt, storeAt, setAt, hget, hget0, hset, hset0, List.getElem?_cons_zero, List.getElem?_cons_succ, List.set_cons_zero, List.set_cons_succ, Nat.add_zero, Nat.zero_add, Nat.reduceAdd, Nat.reduceSub, Nat.reduceLeDiff, Nat.reduceLT, Nat.reduceEqDiff, Nat.le_refl, and_self, and_true, true_and, mkAgg, toIms, List.drop_zero, List.drop_succ_cons, List.take_succ_cons, List.take_zero, List.length_append, binA, isShift, binInt, binBool, unA, Bool.false_eq_true, if_false, partA, fillA, fillE, List.take_nil, Nat.zero_ne_one, Nat.one_ne_zero, not_false_eq_true, ne_eq, Nat.succ_ne_self, reduceCtorEq, Int.reduceEq, Int.reduceLT, Int.reduceLE, decide_true, decide_false, lenA, beq_self_eq_true, beq_true, beq_false, Bool.not_true, Bool.not_false, hlen, h0, h1, h19, h53, hlv]
  · simp only [hr, Bool.false_eq_true, if_false] at h19 ⊢
    have hlv := fun L' => leave_two (H := H) (M := L') (a := .agg [.im (.int .i64 0), .nils]) (b := .im (.int .i64 20)) rfl rfl
    simp only [f21, exec0, xreg, xops, wantedA, aopc, aop, ev, putA, endK, resA, tupA, List.length_cons, List.length_nil, List.replicate, List.cons_append, List.nil_append, List.append_nil, List.append_assoc, gs_same, gs_ne, gq_same, gq_ne, List.length_set, List.map_cons, List.map_nil, cellsOf, List.all_cons, List.all_nil, cellOk, boxTy, Bool.and_true, Bool.and_self, if_true, ite_true, ite_false, loadAt, storeAt, setAt, hget, hget0, hset, hset0, List.getElem?_cons_zero, List.getElem?_cons_succ, List.set_cons_zero, List.set_cons_succ, Nat.add_zero, Nat.zero_add, Nat.reduceAdd, Nat.reduceSub, Nat.reduceLeDiff, Nat.reduceLT, Nat.reduceEqDiff, Nat.le_refl, and_self, and_true, true_and, mkAgg, toIms, List.drop_zero, List.drop_succ_cons, List.take_succ_cons, List.take_zero, List.length_append, binA, isShift, binInt, binBool, unA, Bool.false_eq_true, if_false, partA, fillA, fillE, List.take_nil, Nat.zero_ne_one, Nat.one_ne_zero, not_false_eq_true, ne_eq, Nat.succ_ne_self, reduceCtorEq, Int.reduceEq, Int.reduceLT, Int.reduceLE, decide_true, decide_false, lenA, beq_self_eq_true, beq_true, beq_false, Bool.not_true, Bool.not_false, hlen, h0, h1, h19, hlv]

end Go.Abs.Seat
end
section
/- The abstract reading of Go code, twenty-eighth part: a strings.Builder in the heap. -/
namespace Go.Abs

/-- A builder at a place, what it holds. -/
def Hold (tB : TypeId) (tb : TypeId) (n : Nat) (H : Heap) (id : Nat) (txt : List UInt8) : Prop :=
  ∃ a0 v, H[id]? = some (.obj (some (tB, 2)) [[a0, v]]) ∧ (a0 = .im .nilp ∨ a0 = .ptr id 0 0) ∧ Gath tb 1 n v H (txt.map fun b => [byteDat b]) ∧ n ≤ H.length

/-- What a writer to the builder leaves as it was. -/
def Keeps (n id : Nat) (H H' : Heap) : Prop := H.length ≤ H'.length ∧ (∀ i ty es, i ≠ id → H[i]? = some (.obj ty es) → H'[i]? = some (.obj ty es)) ∧ ∀ i, i < n → i < H.length → i ≠ id → H'[i]? = H[i]?

theorem Keeps.refl (n id : Nat) (H : Heap) : Keeps n id H H := ⟨Nat.le_refl _, fun _ _ _ _ h => h, fun _ _ _ _ => rfl⟩
theorem Keeps.trans {n id : Nat} {A B C : Heap} (h : Keeps n id A B) (k : Keeps n id B C) : Keeps n id A C :=
  ⟨Nat.le_trans h.1 k.1, fun i ty es hi hA => k.2.1 i ty es hi (h.2.1 i ty es hi hA), fun i hn hl hi => (k.2.2 i hn (Nat.lt_of_lt_of_le hl h.1) hi).trans (h.2.2 i hn hl hi)⟩
theorem Keeps.app {n id : Nat} {A B : Heap} (h : Keeps n id A B) (M : Heap) : Keeps n id A (B ++ M) :=
  ⟨by simp; have := h.1; omega, fun i ty es hi hA => by
    have := h.2.1 i ty es hi hA
    rw [List.getElem?_append_left (List.getElem?_eq_some_iff.1 this).1]; exact this, fun i hn hl hi => by
    rw [List.getElem?_append_left (by have := h.1; omega)]; exact h.2.2 i hn hl hi⟩
/-- What was handed over with more on top. -/
theorem Keeps.down {n id : Nat} {A M B : Heap} (h : Keeps n id (A ++ M) B) : Keeps n id A B :=
  ⟨by have := h.1; simp at this; omega, fun i ty es hi hA => h.2.1 i ty es hi (by rw [List.getElem?_append_left (List.getElem?_eq_some_iff.1 hA).1]; exact hA), fun i hn hl hi => by
    rw [h.2.2 i hn (by simp; omega) hi, List.getElem?_append_left hl]⟩

theorem Hold.more {tB tb : TypeId} {n : Nat} {H : Heap} {id : Nat} {txt : List UInt8} (h : Hold tB tb n H id txt) (M : Heap) : Hold tB tb n (H ++ M) id txt := by
  obtain ⟨a0, v, h1, h2, h3, h4⟩ := h
  exact ⟨a0, v, by rw [List.getElem?_append_left (List.getElem?_eq_some_iff.1 h1).1]; exact h1, h2, h3.more M, by simp; omega⟩

/-- The end of a call that has written to the builder and hands back what bears no place: either way the builder is there, and what was kept is kept. -/
theorem leave_hold {tB tb : TypeId} {n : Nat} {H0 H : Heap} {id : Nat} {txt0 txt : List UInt8} {r r' : AV} (hd : degrade r = r') (h0 : Hold tB tb n H0 id txt0) (h : Hold tB tb n H id txt) (hk : Keeps n id H0 H) :
    ∃ H', leave H0 false r H = (r', H') ∧ Hold tB tb n H' id txt ∧ Keeps n id H0 H' := by
  unfold leave
  have e : (if (false : Bool) = true then r else degrade r) = r' := by simp [hd]
  rw [e]
  by_cases hc : refsLt H0.length r' = true ∧ heldIn H0 H
  · rw [if_pos hc]
    refine ⟨_, rfl, ?_, by simp only [List.length_take]; have := hk.1; omega, fun i ty es hi hA => ?_, fun i hn hl hi => by rw [List.getElem?_take, if_pos hl]; exact hk.2.2 i hn hl hi⟩
    · obtain ⟨a0, v, h1, h2, h3, h4⟩ := h
      obtain ⟨b0, u, g1, g2, g3, g4⟩ := h0
      have hlt := (List.getElem?_eq_some_iff.1 g1).1
      refine ⟨a0, v, by rw [List.getElem?_take, if_pos hlt]; exact h1, h2, ?_, by simp only [List.length_take]; have := hk.1; omega⟩
      rcases h3 with h3 | ⟨hne, tok, hn, hv, htok⟩
      · exact .inl h3
      · have ht : tok < H0.length := by
          rcases hc.2 id hlt with hs | ⟨o, ho, hro⟩
          · rw [h1, g1] at hs
            injection hs with hs
            injection hs with _ hs
            injection hs with hs _
            injection hs with _ hs
            injection hs with hs _
            subst hs
            rcases g3 with ⟨_, hu⟩ | ⟨_, tok', _, hu, htok'⟩
            · rw [hv] at hu; simp at hu
            · rw [hv] at hu
              injection hu with _ _ hu
              subst hu
              exact (List.getElem?_eq_some_iff.1 htok').1
          · rw [h1] at ho
            injection ho with ho
            subst ho
            simp only [refsO, List.all_cons, List.all_nil, refsLts, hv, refsLt, Bool.and_true, Bool.and_eq_true, decide_eq_true_eq] at hro
            exact hro.2
        exact .inr ⟨hne, tok, hn, hv, by rw [List.getElem?_take, if_pos ht]; exact htok⟩
    · have hlt := (List.getElem?_eq_some_iff.1 hA).1
      rw [List.getElem?_take, if_pos hlt]
      exact hk.2.1 i ty es hi hA
  · rw [if_neg hc]
    exact ⟨H, rfl, h, hk⟩

/-- Bytes appended to what the builder holds: the heap behind it, with the slice that is not stored yet. -/
theorem gath_bytes {tb : TypeId} {n : Nat} {v : AV} {H : Heap} {txt : List UInt8} (hn : n ≤ H.length) (h : Gath tb 1 n v H (txt.map fun b => [byteDat b])) (s : List UInt8) (hb : txt.length + s.length ≤ 2 ^ 46) :
    ∃ (v' : AV) (H' : Heap), appendA H tb 1 1 v (s.map fun b => [byteDat b]) = some (v', H') ∧ Gath tb 1 n v' H' ((txt ++ s).map fun b => [byteDat b]) ∧ cellsOf v' = [v'] ∧ cellOk v' = true ∧ H.length ≤ H'.length ∧ ∀ (i : Nat) (ty : Option (TypeId × Nat)) (es : List (List AV)), (H[i]? = some (HO.obj ty es) → H'[i]? = some (HO.obj ty es)) ∧ (i < n → H'[i]? = H[i]?) := by
  rcases h with ⟨hes, rfl⟩ | ⟨hne, tok, hnt, rfl, htok⟩
  · have : txt = [] := by simpa using hes
    subst this
    cases s with
    | nil => exact ⟨.nils, H, by simp only [List.map_nil, appendA], .inl ⟨rfl, rfl⟩, rfl, rfl, Nat.le_refl _, fun _ _ _ => ⟨fun h => h, fun _ => rfl⟩⟩
    | cons b s =>
      refine ⟨.asl 1 ((b :: s).map fun b => [byteDat b]) H.length, H ++ [.hw tb (s.length + 1)], ?_, .inr ⟨by simp, H.length, hn, rfl, by simp⟩, rfl, rfl, by simp, fun i ty es => ⟨fun hi => ?_, fun hi => List.getElem?_append_left (by omega)⟩⟩
      · simp only [appendA, List.map_cons, List.length_map]
        rw [if_pos ⟨by simp at hb; omega, by decide⟩]
      · rw [List.getElem?_append_left (List.getElem?_eq_some_iff.1 hi).1]; exact hi
  · have hlt := (List.getElem?_eq_some_iff.1 htok).1
    refine ⟨.asl 1 ((txt ++ s).map fun b => [byteDat b]) tok, H.set tok (.hw tb (txt.length + s.length)), ?_, .inr ⟨?_, tok, hnt, rfl, ?_⟩, rfl, rfl, by simp, fun i ty es => ⟨fun hi => ?_, fun hi => List.getElem?_set_ne (by omega)⟩⟩
    · simp only [appendA, htok, List.length_map]
      rw [if_pos ⟨trivial, trivial, by omega, by decide, trivial⟩, List.map_append]
    · simp at hne ⊢; intro h; exact absurd h hne
    · rw [List.getElem?_set_self hlt]; simp
    · have : tok ≠ i := fun e => by subst e; rw [htok] at hi; simp at hi
      rw [List.getElem?_set_ne this]; exact hi

end Go.Abs

namespace Go.Abs
theorem Gath.set_obj {ty : TypeId} {s n : Nat} {v : AV} {H : Heap} {es : List (List Dat)} (h : Gath ty s n v H es) {id : Nat} {t : Option (TypeId × Nat)} {xs : List (List AV)} (hid : H[id]? = some (HO.obj t xs)) (x : HO) : Gath ty s n v (H.set id x) es := by
  rcases h with h | ⟨h1, tok, h2, h3, h4⟩
  · exact .inl h
  · refine .inr ⟨h1, tok, h2, h3, ?_⟩
    have : id ≠ tok := fun e => by subst e; rw [hid] at h4; simp at h4
    rw [List.getElem?_set_ne this]; exact h4

theorem Keeps.set {n id : Nat} {A B : Heap} (h : Keeps n id A B) (x : HO) : Keeps n id A (B.set id x) :=
  ⟨by simpa using h.1, fun i ty es hi hA => by
    rw [List.getElem?_set_ne (fun e => hi e.symm)]; exact h.2.1 i ty es hi hA, fun i hn hl hi => by
    rw [List.getElem?_set_ne (fun e => hi e.symm)]; exact h.2.2 i hn hl hi⟩

/-- copyCheck at a builder. -/
theorem cc_hold {tB tb : TypeId} {n : Nat} {H : Heap} {id : Nat} {txt : List UInt8} (h : Hold tB tb n H id txt) :
    ∃ v H1, ccA tB [.ptr id 0 0] H = some (.tup [], H1) ∧ H1[id]? = some (.obj (some (tB, 2)) [[.ptr id 0 0, v]]) ∧ Gath tb 1 n v H1 (txt.map fun b => [byteDat b]) ∧ Keeps n id H H1 ∧ n ≤ H1.length := by
  obtain ⟨a0, v, h1, h2, h3, h4⟩ := h
  have hlt := (List.getElem?_eq_some_iff.1 h1).1
  rcases h2 with rfl | rfl
  · refine ⟨v, H.set id (.obj (some (tB, 2)) [[.ptr id 0 0, v]]), by simp only [ccA, h1, if_true], by rw [List.getElem?_set_self hlt], h3.set_obj h1 _, (Keeps.refl n id H).set _, by simpa using h4⟩
  · exact ⟨v, H, by simp only [ccA, h1, if_true], h1, h3, Keeps.refl n id H, h4⟩
end Go.Abs

namespace Go.Abs
theorem thenL_ex {R : Type} {o : Option Out} {K : AEx → List AV → Heap → Option R} {Q : AEx → List AV → Heap → Prop} (G : Option R → Prop) (h : ∃ e tm H, o = some (e, tm, H) ∧ Q e tm H) (hK : ∀ e tm H, Q e tm H → G (K e tm H)) : G (thenL o K) := by
  obtain ⟨e, tm, H, rfl, hq⟩ := h
  exact hK e tm H hq
end Go.Abs
end
section
/- What the seat's functions come to: WriteString, WriteByte. -/
set_option linter.unusedVariables false
set_option linter.unusedSimpArgs false
namespace Go.Abs.Seat
open Go.Proofs
variable {n : Nat}

theorem L101 (args : List AV) (H : Heap) : L 101 args H = ccA 94 args H := by
  have h : F 101 = none := by kernel_rfl
  exact lim_none h args H

theorem L49 (args : List AV) (H : Heap) : L 49 args H = stA 94 5 args H := by
  have h : F 49 = none := by kernel_rfl
  exact lim_none h args H

theorem s73 {H : Heap} {id : Nat} {txt : List UInt8} (h : Hold 94 5 n H id txt) (s : List UInt8) (hb : txt.length + s.length ≤ 2 ^ 46) :
    ∃ H', L 73 [.ptr id 0 0, .im (.str s)] H = some (.tup [.im (.int .i64 s.length), .im .nili], H') ∧ Hold 94 5 n H' id (txt ++ s) ∧ Keeps n id H H' := by
  obtain ⟨v, H1, hcc, hid, hG, hK, hn1⟩ := cc_hold h
  obtain ⟨v', H2, hap, hG2, hcs, hok, hl2, hk2⟩ := gath_bytes hn1 hG s hb
  have hid2 := (hk2 _ _ _).1 hid
  have hH3 : Hold 94 5 n (H2.set id (.obj (some (94, 2)) [[.ptr id 0 0, v']])) id (txt ++ s) :=
    ⟨_, v', by rw [List.getElem?_set_self (List.getElem?_eq_some_iff.1 hid2).1], .inr rfl, hG2.set_obj hid2 _, by simp; omega⟩
  have hK3 : Keeps n id H (H2.set id (.obj (some (94, 2)) [[.ptr id 0 0, v']])) :=
    (hK.trans ⟨hl2, fun i ty es _ hi => (hk2 i ty es).1 hi, fun i hi _ _ => (hk2 i none []).2 hi⟩).set _
  obtain ⟨H', hlv, hH', hK'⟩ := leave_hold (r := .tup [.im (.int .i64 s.length), .im .nili]) (r' := .tup [.im (.int .i64 s.length), .im .nili]) rfl h hH3 hK3
  refine ⟨H', ?_, hH', hK'⟩
  rw [leq F73]
  obtain ⟨hlen, ha⟩ := enter_at (f := f73) (args := [.ptr id 0 0, .im (.str s)]) (Nat.le_of_ble_eq_true rfl)
  have h0 := ha 0 _ rfl
  have h1 := ha 1 _ rfl
  generalize enterA f73 [.ptr id 0 0, .im (.str s)] = tm at *
  change tm.length = 19 at hlen
  have hel : elems H1 1 (.im (.str s)) = some (s.map fun b => [byteDat b]) := by simp [elems]
  simp only [exec0, xreg, xops, wantedA, aopc, aop, ev, putA, gs_same, gs_ne, List.length_set, hlen, Nat.reduceLT, Nat.reduceEqDiff, not_false_eq_true, if_true, h0, h1, List.map_cons, List.map_nil, List.append_nil, f73, L101, hcc, loadAt, hid, List.getElem?_cons_zero, List.getElem?_cons_succ, Nat.zero_add, Nat.reduceAdd, hel, hap, storeAt, hid2, hcs, List.length_cons, List.length_nil, Nat.reduceLeDiff, Nat.le_refl, List.all_cons, List.all_nil, hok, Bool.and_true, and_self, setAt, List.set_cons_zero, List.set_cons_succ, endK, resA, tupA, hlv]

theorem s74 {H : Heap} {id : Nat} {txt : List UInt8} (h : Hold 94 5 n H id txt) (b : UInt8) (hb : txt.length + 1 ≤ 2 ^ 46) :
    ∃ H', L 74 [.ptr id 0 0, .im (byteDat b)] H = some (.im .nili, H') ∧ Hold 94 5 n H' id (txt ++ [b]) ∧ Keeps n id H H' := by
  obtain ⟨v, H1, hcc, hid, hG, hK, hn1⟩ := cc_hold h
  obtain ⟨v', H2, hap, hG2, hcs, hok, hl2, hk2⟩ := gath_bytes hn1 hG [b] hb
  have hid2 := (hk2 _ _ _).1 hid
  have hH3 : Hold 94 5 n (H2.set id (.obj (some (94, 2)) [[.ptr id 0 0, v']])) id (txt ++ [b]) :=
    ⟨_, v', by rw [List.getElem?_set_self (List.getElem?_eq_some_iff.1 hid2).1], .inr rfl, hG2.set_obj hid2 _, by simp; omega⟩
  have hK3 : Keeps n id H (H2.set id (.obj (some (94, 2)) [[.ptr id 0 0, v']])) :=
    (hK.trans ⟨hl2, fun i ty es _ hi => (hk2 i ty es).1 hi, fun i hi _ _ => (hk2 i none []).2 hi⟩).set _
  obtain ⟨H', hlv, hH', hK'⟩ := leave_hold (r := .im .nili) (r' := .im .nili) rfl h hH3 hK3
  refine ⟨H', ?_, hH', hK'⟩
  rw [leq F74]
  obtain ⟨hlen, ha⟩ := enter_at (f := f74) (args := [.ptr id 0 0, .im (byteDat b)]) (Nat.le_of_ble_eq_true rfl)
  have h0 := ha 0 _ rfl
  have h1 := ha 1 _ rfl
  generalize enterA f74 [.ptr id 0 0, .im (byteDat b)] = tm at *
  change tm.length = 17 at hlen
  simp only [List.map_cons, List.map_nil, byteDat] at hap
  have hck : ∀ (k : IntKind) (n : Int), cellOk (.im (.int k n)) = true := fun _ _ => rfl
  have hci : ∀ (k : IntKind) (n : Int), cellsOf (.im (.int k n)) = [.im (.int k n)] := fun _ _ => rfl
  simp only [exec0, xreg, xops, wantedA, aopc, aop, ev, putA, gs_same, gs_ne, List.length_set, hlen, Nat.reduceLT, Nat.reduceEqDiff, not_false_eq_true, if_true, h0, h1, List.map_cons, List.map_nil, List.append_nil, f74, L101, hcc, loadAt, hid, List.getElem?_cons_zero, List.getElem?_cons_succ, Nat.zero_add, Nat.reduceAdd, elems, byteDat, hcs, hci, List.replicate, fillE, toDatss, toDats, toDat, hck, Bool.false_eq_true, if_false, hap, storeAt, hid2, List.length_cons, List.length_nil, Nat.reduceLeDiff, Nat.le_refl, List.all_cons, List.all_nil, hok, Bool.and_true, and_self, setAt, List.set_cons_zero, List.set_cons_succ, endK, resA, tupA, hlv]

end Go.Abs.Seat
end
section
/- What the seat's functions come to: show. -/
set_option linter.unusedVariables false
set_option linter.unusedSimpArgs false
namespace Go.Abs.Seat
open Go.Proofs
variable {n : Nat}

/-- The words of a kind, one behind the other. -/
def gath (k : Int) : List Word → List UInt8
  | [] => []
  | w :: l => (if w.1 = k then w.2.1 else []) ++ gath k l

theorem gath_len (k : Int) : ∀ l : List Word, (∀ w ∈ l, w.2.1.length ≤ 8) → (gath k l).length ≤ 8 * l.length
  | [], _ => by simp [gath]
  | w :: l, h => by
    have h1 := gath_len k l fun x hx => h x (by simp [hx])
    have h2 := h w (by simp)
    simp only [gath, List.length_append, List.length_cons]
    split <;> simp <;> omega

theorem word_len : ∀ w ∈ words, w.2.1.length ≤ 8 := by decide

theorem l48w (k : Int) (x : AV) (id idt idw : Nat) (hne : idt ≠ id) (hnw : idw ≠ id) (rows : List Word) (hr : ∀ w ∈ rows, w.2.1.length ≤ 8) (hrn : rows.length ≤ 1000) :
    ∀ (m i : Nat), i + m = rows.length → ∀ (tm : List AV) (Hc : Heap) (txt : List UInt8), txt.length + 8 * m ≤ 2 ^ 46 → Hold 94 5 n Hc id txt → Hc[idt]? = some (.obj none [[.im (.int .i64 k), x]]) → Hc[idw]? = some (.obj none (rows.map encW)) →
    tm.length = 46 → tm.getD 0 undefA = .ptr id 0 0 → tm.getD 3 undefA = .ptr idt 0 0 → tm.getD 8 undefA = .ms 3 idw 0 rows.length → tm.getD 9 undefA = .im (.int .i64 rows.length) → tm.getD 10 undefA = .im (.int .i64 i) →
    ∃ e tm' H', Λ c48_1 tm Hc = some (e, tm', H') ∧ tm'.length = 46 ∧ e = .exit 0 ∧ tm'.getD 0 undefA = .ptr id 0 0 ∧ tm'.getD 3 undefA = .ptr idt 0 0 ∧ Hold 94 5 n H' id (txt ++ gath k (rows.drop i)) ∧ Keeps n id Hc H'
  | 0, i, hi, tm, Hc, txt, hb, hH, ht, hw, hlen, h0, h3, h8, h9, h10 => by
    have e : rows.drop i = [] := by rw [List.drop_eq_nil_iff]; omega
    have hc : decide ((i : Int) < (rows.length : Int)) = false := decide_eq_false (by omega)
    rw [l48_1, e]
    simp only [b48_1, exec0, xreg, xops, wantedA, aopc, aop, ev, putA, endK, resA, tupA, List.length_cons, List.length_nil, List.replicate, List.cons_append, List.nil_append, List.append_nil, List.append_assoc, gs_same, gs_ne, gq_same, gq_ne, List.length_set, List.map_cons, List.map_nil, cellsOf, List.all_cons, List.all_nil, cellOk, boxTy, Bool.and_true, Bool.and_self, if_true, ite_true, ite_false, loadAt, storeAt, setAt, hget, hget0, hset, hset0, List.getElem?_cons_zero, List.getElem?_cons_succ, List.set_cons_zero, List.set_cons_succ, Nat.add_zero, Nat.zero_add, Nat.reduceAdd, Nat.reduceSub, Nat.reduceLeDiff, Nat.reduceLT, Nat.reduceEqDiff, Nat.le_refl, and_self, and_true, true_and, mkAgg, toIms, List.drop_zero, List.drop_succ_cons, List.take_succ_cons, List.take_zero, List.length_append, binA, isShift, binInt, binBool, unA, Bool.false_eq_true, if_false, partA, fillA, fillE, List.take_nil, Nat.zero_ne_one, Nat.one_ne_zero, not_false_eq_true, ne_eq, Nat.succ_ne_self, reduceCtorEq, Int.reduceEq, Int.reduceLT, Int.reduceLE, decide_true, decide_false, lenA, beq_self_eq_true, beq_true, beq_false, Bool.not_true, Bool.not_false, hlen, h0, h3, h8, h9, h10, hc]
    exact ⟨_, _, _, rfl, by simp only [List.length_set, hlen], rfl, by simp only [gs_same, gs_ne, List.length_set, Nat.reduceLT, Nat.reduceEqDiff, not_false_eq_true, hlen, h0], by simp only [gs_same, gs_ne, List.length_set, Nat.reduceLT, Nat.reduceEqDiff, not_false_eq_true, hlen, h3], by simpa only [gath, List.append_nil] using hH, Keeps.refl _ _ _⟩
  | m + 1, i, hi, tm, Hc, txt, hb, hH, ht, hw, hlen, h0, h3, h8, h9, h10 => by
    have hlt : i < rows.length := by omega
    obtain ⟨w, hwi⟩ : ∃ w, rows[i]? = some w := ⟨_, List.getElem?_eq_getElem hlt⟩
    have e : rows.drop i = w :: rows.drop (i + 1) := by
      rw [List.drop_eq_getElem_cons hlt]
      congr 1
      rw [List.getElem?_eq_getElem hlt] at hwi
      exact Option.some.inj hwi
    have hc : decide ((i : Int) < (rows.length : Int)) = true := decide_eq_true (by omega)
    have hix := idx_nat hlt
    have hgw : (rows.map encW)[i]? = some (encW w) := by rw [List.getElem?_map, hwi]; rfl
    have hwl := hr w (List.mem_of_getElem? hwi)
    have hwr := wrap_nat (i := i) (by omega)
    have hta : ∀ M : Heap, (Hc ++ M)[idt]? = some (.obj none [[.im (.int .i64 k), x]]) := fun M => by rw [get_app (List.getElem?_eq_some_iff.1 ht).1]; exact ht
    have key := l48w k x id idt idw hne hnw rows hr hrn m (i + 1) (by omega)
    have hH1 := hH.more [.obj none [encW w]]
    simp only [encW] at hH1 hgw
    rw [l48_1, e]
    by_cases hk : w.1 = k
    · have hd : decide (w.1 = k) = true := decide_eq_true hk
      obtain ⟨H2, hcall, hH2, hK2⟩ := s73 hH1 w.2.1 (by omega)
      have hK := hK2.down
      simp only [b48_1, exec0, xreg, xops, wantedA, aopc, aop, ev, putA, endK, resA, tupA, List.length_cons, List.length_nil, List.replicate, List.cons_append, List.nil_append, List.append_nil, List.append_assoc, gs_same, gs_ne, gq_same, gq_ne, List.length_set, List.map_cons, List.map_nil, cellsOf, List.all_cons, List.all_nil, cellOk, boxTy, Bool.and_true, Bool.and_self, if_true, ite_true, ite_false, loadAt, storeAt, setAt, hget, hget0, hset, hset0, List.getElem?_cons_zero, List.getElem?_cons_succ, List.set_cons_zero, List.set_cons_succ, Nat.add_zero, Nat.zero_add, Nat.reduceAdd, Nat.reduceSub, Nat.reduceLeDiff, Nat.reduceLT, Nat.reduceEqDiff, Nat.le_refl, and_self, and_true, true_and, mkAgg, toIms, List.drop_zero, List.drop_succ_cons, List.take_succ_cons, List.take_zero, List.length_append, binA, isShift, binInt, binBool, unA, Bool.false_eq_true, if_false, partA, fillA, fillE, List.take_nil, Nat.zero_ne_one, Nat.one_ne_zero, not_false_eq_true, ne_eq, Nat.succ_ne_self, reduceCtorEq, Int.reduceEq, Int.reduceLT, Int.reduceLE, decide_true, decide_false, lenA, beq_self_eq_true, beq_true, beq_false, Bool.not_true, Bool.not_false, hlen, h0, h3, h8, h9, h10, hc, hix, hw, hgw, hta, hd, hcall, hwr]
      refine ex_imp (key _ H2 (txt ++ w.2.1) (by simp; omega) hH2 (hK.2.1 _ _ _ hne ht) (hK.2.1 _ _ _ hnw hw) ?_ ?_ ?_ ?_ ?_ ?_) ?_
      iterate 6 simp only [gs_same, gs_ne, List.length_set, Nat.reduceLT, Nat.reduceEqDiff, not_false_eq_true, hlen, h0, h3, h8, h9]
      rintro e tm' H' ⟨hl', he, g0, g3, gH, gK⟩
      refine ⟨hl', he, g0, g3, ?_, hK.trans gK⟩
      simp only [gath, hk, if_true]
      rwa [List.append_assoc] at gH
    · have hd : decide (w.1 = k) = false := decide_eq_false hk
      have hK := (Keeps.refl n id Hc).app [.obj none [[.im (.int .i64 w.1), .im (.str w.2.1), .im (.int .i64 w.2.2)]]]
      simp only [b48_1, exec0, xreg, xops, wantedA, aopc, aop, ev, putA, endK, resA, tupA, List.length_cons, List.length_nil, List.replicate, List.cons_append, List.nil_append, List.append_nil, List.append_assoc, gs_same, gs_ne, gq_same, gq_ne, List.length_set, List.map_cons, List.map_nil, cellsOf, List.all_cons, List.all_nil, cellOk, boxTy, Bool.and_true, Bool.and_self, if_true, ite_true, ite_false, loadAt, storeAt, setAt, hget, hget0, hset, hset0, List.getElem?_cons_zero, List.getElem?_cons_succ, List.set_cons_zero, List.set_cons_succ, Nat.add_zero, Nat.zero_add, Nat.reduceAdd, Nat.reduceSub, Nat.reduceLeDiff, Nat.reduceLT, Nat.reduceEqDiff, Nat.le_refl, and_self, and_true, true_and, mkAgg, toIms, List.drop_zero, List.drop_succ_cons, List.take_succ_cons, List.take_zero, List.length_append, binA, isShift, binInt, binBool, unA, Bool.false_eq_true, if_false, partA, fillA, fillE, List.take_nil, Nat.zero_ne_one, Nat.one_ne_zero, not_false_eq_true, ne_eq, Nat.succ_ne_self, reduceCtorEq, Int.reduceEq, Int.reduceLT, Int.reduceLE, decide_true, decide_false, lenA, beq_self_eq_true, beq_true, beq_false, Bool.not_true, Bool.not_false, hlen, h0, h3, h8, h9, h10, hc, hix, hw, hgw, hta, hd, hwr]
      refine ex_imp (key _ _ txt (by omega) hH1 (hK.2.1 _ _ _ hne ht) (hK.2.1 _ _ _ hnw hw) ?_ ?_ ?_ ?_ ?_ ?_) ?_
      iterate 6 simp only [gs_same, gs_ne, List.length_set, Nat.reduceLT, Nat.reduceEqDiff, not_false_eq_true, hlen, h0, h3, h8, h9]
      rintro e tm' H' ⟨hl', he, g0, g3, gH, gK⟩
      refine ⟨hl', he, g0, g3, ?_, hK.trans gK⟩
      simp only [gath, hk, if_false, List.nil_append]
      exact gH

mutual
def showT : KT → List UInt8
  | .mk k _ args => gath k words ++ (showTs args 40 ++ if args.length = 0 then [] else [41])
def showTs : List KT → UInt8 → List UInt8
  | [], _ => []
  | a :: l, c => c :: (showT a ++ showTs l 44)
end

def sepB (i : Nat) : UInt8 := if i = 0 then 40 else 44

theorem l48a (args : List KT) (s : Nat) (hs : args = [] ∨ s = 2) (hn : args.length ≤ 2) (id : Nat)
    (hc : ∀ a ∈ args, ∀ (H : Heap) (txt : List UInt8), txt.length + (showT a).length + 100 ≤ 2 ^ 46 → Hold 94 5 n H id txt → ∃ H', L 48 [.ptr id 0 0, .im (.agg (encT a))] H = some (.tup [], H') ∧ Hold 94 5 n H' id (txt ++ showT a) ∧ Keeps n id H H') :
    ∀ (m i : Nat), i + m = args.length → ∀ (tm : List AV) (Hc : Heap) (txt : List UInt8), txt.length + (showTs (args.drop i) (sepB i)).length + 100 ≤ 2 ^ 46 → Hold 94 5 n Hc id txt →
    tm.length = 46 → tm.getD 0 undefA = .ptr id 0 0 → tm.getD 25 undefA = .im (.sl s (args.map encT)) → tm.getD 26 undefA = .im (.int .i64 args.length) → tm.getD 27 undefA = .im (.int .i64 i) →
    ∃ e tm' H', Λ c48_0 tm Hc = some (e, tm', H') ∧ tm'.length = 46 ∧ e = .exit 2 ∧ tm'.getD 0 undefA = .ptr id 0 0 ∧ tm'.getD 3 undefA = tm.getD 3 undefA ∧ Hold 94 5 n H' id (txt ++ showTs (args.drop i) (sepB i)) ∧ Keeps n id Hc H'
  | 0, i, hi, tm, Hc, txt, hb, hH, hlen, h0, h25, h26, h27 => by
    have e : args.drop i = [] := by rw [List.drop_eq_nil_iff]; omega
    have hc : decide ((i : Int) < (args.length : Int)) = false := decide_eq_false (by omega)
    rw [l48_0, e]
    simp only [b48_0, exec0, xreg, xops, wantedA, aopc, aop, ev, putA, endK, resA, tupA, List.length_cons, List.length_nil, List.replicate, List.cons_append, List.nil_append, List.append_nil, List.append_assoc, gs_same, gs_ne, gq_same, gq_ne, List.length_set, List.map_cons, List.map_nil, cellsOf, List.all_cons, List.all_nil, cellOk, boxTy, Bool.and_true, Bool.and_self, if_true, ite_true, ite_false, loadAt, storeAt, setAt, hget, hget0, hset, hset0, List.getElem?_cons_zero, List.getElem?_cons_succ, List.set_cons_zero, List.set_cons_succ, Nat.add_zero, Nat.zero_add, Nat.reduceAdd, Nat.reduceSub, Nat.reduceLeDiff, Nat.reduceLT, Nat.reduceEqDiff, Nat.le_refl, and_self, and_true, true_and, mkAgg, toIms, List.drop_zero, List.drop_succ_cons, List.take_succ_cons, List.take_zero, List.length_append, binA, isShift, binInt, binBool, unA, Bool.false_eq_true, if_false, partA, fillA, fillE, List.take_nil, Nat.zero_ne_one, Nat.one_ne_zero, not_false_eq_true, ne_eq, Nat.succ_ne_self, reduceCtorEq, Int.reduceEq, Int.reduceLT, Int.reduceLE, decide_true, decide_false, lenA, beq_self_eq_true, beq_true, beq_false, Bool.not_true, Bool.not_false, hlen, h0, h25, h26, h27, hc]
    exact ⟨_, _, _, rfl, by simp only [List.length_set, hlen], rfl, by simp only [gs_same, gs_ne, List.length_set, Nat.reduceLT, Nat.reduceEqDiff, not_false_eq_true, hlen, h0], by simp only [gs_same, gs_ne, List.length_set, Nat.reduceLT, Nat.reduceEqDiff, not_false_eq_true, hlen], by simpa only [showTs, List.append_nil] using hH, Keeps.refl _ _ _⟩
  | m + 1, i, hi, tm, Hc, txt, hb, hH, hlen, h0, h25, h26, h27 => by
    have hlt : i < args.length := by omega
    obtain ⟨w, hwi⟩ : ∃ w, args[i]? = some w := ⟨_, List.getElem?_eq_getElem hlt⟩
    have e : args.drop i = w :: args.drop (i + 1) := by
      rw [List.drop_eq_getElem_cons hlt]
      congr 1
      rw [List.getElem?_eq_getElem hlt] at hwi
      exact Option.some.inj hwi
    have hs2 : s = 2 := by
      rcases hs with hs | hs
      · subst hs; simp at hlt
      · exact hs
    subst hs2
    have hc' : decide ((i : Int) < (args.length : Int)) = true := decide_eq_true (by omega)
    have hix := idx_nat (n := (args.map encT).length) (i := i) (by simpa using hlt)
    have hix2 := idx_nat (n := 2) (i := i) (by omega)
    have hgw : (args.map encT)[i]? = some (encT w) := by rw [List.getElem?_map, hwi]; rfl
    have hwr := wrap_nat (i := i) (by omega)
    have key := l48a args 2 hs hn id hc m (i + 1) (by omega)
    rw [e] at hb
    simp only [showTs, List.length_cons, List.length_append] at hb
    have hsb : sepB (i + 1) = 44 := by simp [sepB]
    have hsep : ([40, 44] : List UInt8)[i]? = some (sepB i) := by
      have : i = 0 ∨ i = 1 := by omega
      rcases this with rfl | rfl <;> rfl
    have hH1 := hH.more [.obj none [(encT w).map .im]]
    obtain ⟨H2, hcall2, hH2, hK2⟩ := s74 hH1 (sepB i) (by omega)
    obtain ⟨H3, hcall3, hH3, hK3⟩ := hc w (List.mem_of_getElem? hwi) H2 (txt ++ [sepB i]) (by simp; omega) hH2
    have hloc := hK2.2.1 Hc.length none [(encT w).map .im]
    have hidlt : id < Hc.length := by obtain ⟨_, _, h, _⟩ := hH; exact (List.getElem?_eq_some_iff.1 h).1
    have hloc := hloc (by omega) (by rw [Go.Abs.hget0]; rfl)
    have hK := hK2.down.trans hK3
    rw [l48_0, e]
    generalize hsw : showT w = sw at *
    generalize hsbi : sepB i = c at *
    obtain ⟨k, s', ts⟩ := w
    simp only [encT, List.map_cons, List.map_nil, byteDat] at hcall2 hcall3 hgw hloc
    have hnn : (0 : Int) ≤ (i : Int) := Int.natCast_nonneg i
    simp only [b48_0, exec0, xreg, xops, wantedA, aopc, aop, ev, putA, endK, resA, tupA, List.length_cons, List.length_nil, List.replicate, List.cons_append, List.nil_append, List.append_nil, List.append_assoc, gs_same, gs_ne, gq_same, gq_ne, List.length_set, List.map_cons, List.map_nil, cellsOf, List.all_cons, List.all_nil, cellOk, boxTy, Bool.and_true, Bool.and_self, if_true, ite_true, ite_false, loadAt, storeAt, setAt, hget, hget0, hset, hset0, List.getElem?_cons_zero, List.getElem?_cons_succ, List.set_cons_zero, List.set_cons_succ, Nat.add_zero, Nat.zero_add, Nat.reduceAdd, Nat.reduceSub, Nat.reduceLeDiff, Nat.reduceLT, Nat.reduceEqDiff, Nat.le_refl, and_self, and_true, true_and, mkAgg, toIms, List.drop_zero, List.drop_succ_cons, List.take_succ_cons, List.take_zero, List.length_append, binA, isShift, binInt, binBool, unA, Bool.false_eq_true, if_false, partA, fillA, fillE, List.take_nil, Nat.zero_ne_one, Nat.one_ne_zero, not_false_eq_true, ne_eq, Nat.succ_ne_self, reduceCtorEq, Int.reduceEq, Int.reduceLT, Int.reduceLE, decide_true, decide_false, lenA, beq_self_eq_true, beq_true, beq_false, Bool.not_true, Bool.not_false, intOfA, hnn, Int.toNat_natCast, hlen, h0, h25, h26, h27, hc', hix, hix2, hgw, hwr, hsep, hcall2, hloc, hcall3, byteDat]
    refine ex_imp (key _ H3 (txt ++ [c] ++ sw) (by rw [hsb]; simp; omega) hH3 ?_ ?_ ?_ ?_ ?_) ?_
    iterate 5 simp only [gs_same, gs_ne, List.length_set, Nat.reduceLT, Nat.reduceEqDiff, not_false_eq_true, hlen, h0, h25, h26]
    rintro e tm' H' ⟨hl', he, g0, g3, gH, gK⟩
    refine ⟨hl', he, g0, ?_, ?_, hK.trans gK⟩
    · rw [g3]; simp only [gs_same, gs_ne, List.length_set, Nat.reduceLT, Nat.reduceEqDiff, not_false_eq_true, hlen]
    · rw [hsb] at gH
      simp only [showTs, hsw]
      simpa only [List.append_assoc, List.cons_append, List.nil_append] using gH

theorem s48 : ∀ (t : KT), okT t → narrow t → ∀ (id : Nat) (H : Heap) (txt : List UInt8), txt.length + (showT t).length + 100 ≤ 2 ^ 46 → Hold 94 5 n H id txt →
    ∃ H', L 48 [.ptr id 0 0, .im (.agg (encT t))] H = some (.tup [], H') ∧ Hold 94 5 n H' id (txt ++ showT t) ∧ Keeps n id H H'
  | .mk k s args, hok, hnw, id, H, txt, hb, hH => by
    simp only [okT] at hok
    obtain ⟨hs, _, hoks⟩ := hok
    simp only [narrow] at hnw
    obtain ⟨hn, hnws⟩ := hnw
    have hc : ∀ a ∈ args, ∀ (H : Heap) (txt : List UInt8), txt.length + (showT a).length + 100 ≤ 2 ^ 46 → Hold 94 5 n H id txt → ∃ H', L 48 [.ptr id 0 0, .im (.agg (encT a))] H = some (.tup [], H') ∧ Hold 94 5 n H' id (txt ++ showT a) ∧ Keeps n id H H' :=
      fun a ha H txt hb hH => s48 a (okTs_mem hoks a ha) (narrows_mem hnws a ha) id H txt hb hH
    have hidlt : id < H.length := by obtain ⟨_, _, h, _⟩ := hH; exact (List.getElem?_eq_some_iff.1 h).1
    simp only [showT, List.length_append] at hb
    have hgl := gath_len k words word_len
    have hw8 : words.length = 8 := rfl
    -- the words
    have hH1 := hH.more [.obj none [[.im (.int .i64 k), .im (.sl s (encTs args))]], .obj none (words.map encW)]
    have keyw := l48w (n := n) k (.im (.sl s (encTs args))) id H.length (H.length + 1) (by omega) (by omega) words word_len (by decide) 8 0 (by decide)
    have z : ((0 : Nat) : Int) = 0 := rfl
    have z8 : ((8 : Nat) : Int) = 8 := rfl
    simp only [z, hw8, List.drop_zero, z8] at keyw
    have hel : (encTs args).length = args.length := by rw [encTs_map]; simp
    have keya := l48a args s hs hn id hc args.length 0 (by omega)
    simp only [z, List.drop_zero] at keya
    have hsep0 : sepB 0 = 40 := rfl
    rw [hsep0] at keya
    simp only [encT]
    -- the end
    have fin : ∀ (H2 : Heap), Hold 94 5 n H2 id (txt ++ showT (.mk k s args)) → Keeps n id H H2 → ∃ H', leave H false (.tup []) H2 = (.tup [], H') ∧ Hold 94 5 n H' id (txt ++ showT (.mk k s args)) ∧ Keeps n id H H' :=
      fun H2 h1 h2 => leave_hold rfl hH h1 h2
    suffices hsuf : ∃ H2, Hold 94 5 n H2 id (txt ++ showT (.mk k s args)) ∧ Keeps n id H H2 ∧ L 48 [.ptr id 0 0, .im (.agg [.int .i64 k, .sl s (encTs args)])] H = some (leave H false (.tup []) H2) by
      obtain ⟨H2, h1, h2, h3⟩ := hsuf
      obtain ⟨H', e1, e2, e3⟩ := fin H2 h1 h2
      exact ⟨H', by rw [h3, e1], e2, e3⟩
    rw [leq F48]
    obtain ⟨hlen, ha⟩ := enter_at (f := f48) (args := [.ptr id 0 0, .im (.agg [.int .i64 k, .sl s (encTs args)])]) (Nat.le_of_ble_eq_true rfl)
    have h0 := ha 0 _ rfl
    have h1 := ha 1 _ rfl
    generalize enterA f48 [.ptr id 0 0, .im (.agg [.int .i64 k, .sl s (encTs args)])] = tm at *
    change tm.length = 46 at hlen
    simp only [f48, e48_0, e48_1, exec0, xreg, xops, wantedA, aopc, aop, ev, putA, endK, resA, tupA, List.length_cons, List.length_nil, List.replicate, List.cons_append, List.nil_append, List.append_nil, List.append_assoc, gs_same, gs_ne, gq_same, gq_ne, List.length_set, List.map_cons, List.map_nil, cellsOf, List.all_cons, List.all_nil, cellOk, boxTy, Bool.and_true, Bool.and_self, if_true, ite_true, ite_false, loadAt, storeAt, setAt, hget, hget0, hset, hset0, List.getElem?_cons_zero, List.getElem?_cons_succ, List.set_cons_zero, List.set_cons_succ, Nat.add_zero, Nat.zero_add, Nat.reduceAdd, Nat.reduceSub, Nat.reduceLeDiff, Nat.reduceLT, Nat.reduceEqDiff, Nat.le_refl, and_self, and_true, true_and, mkAgg, toIms, List.drop_zero, List.drop_succ_cons, List.take_succ_cons, List.take_zero, List.length_append, binA, isShift, binInt, binBool, unA, Bool.false_eq_true, if_false, partA, fillA, fillE, List.take_nil, Nat.zero_ne_one, Nat.one_ne_zero, not_false_eq_true, ne_eq, Nat.succ_ne_self, reduceCtorEq, Int.reduceEq, Int.reduceLT, Int.reduceLE, decide_true, decide_false, lenA, beq_self_eq_true, beq_true, beq_false, Bool.not_true, Bool.not_false, hlen, h0, h1, s72]
    refine thenL_ex (fun r => ∃ H2, Hold 94 5 n H2 id (txt ++ showT (.mk k s args)) ∧ Keeps n id H H2 ∧ r = some (leave H false (.tup []) H2)) (keyw _ _ txt (by omega) hH1 (by rw [Go.Abs.hget0]; rfl) (by rw [Go.Abs.hget]; rfl) ?_ ?_ ?_ ?_ ?_ ?_) ?_
    iterate 6 simp only [gs_same, gs_ne, List.length_set, Nat.reduceLT, Nat.reduceEqDiff, not_false_eq_true, hlen, h0, z8]
    rintro e tm1 H1 ⟨hl1, rfl, a0, a3, aH, aK⟩
    have hob1 : H1[H.length]? = some (.obj none [[.im (.int .i64 k), .im (.sl s (encTs args))]]) := aK.2.1 _ _ _ (by omega) (by rw [Go.Abs.hget0]; rfl)
    simp only [exec0, xreg, xops, wantedA, aopc, aop, ev, putA, endK, resA, tupA, List.length_cons, List.length_nil, List.replicate, List.cons_append, List.nil_append, List.append_nil, List.append_assoc, gs_same, gs_ne, gq_same, gq_ne, List.length_set, List.map_cons, List.map_nil, cellsOf, List.all_cons, List.all_nil, cellOk, boxTy, Bool.and_true, Bool.and_self, if_true, ite_true, ite_false, loadAt, storeAt, setAt, hget, hget0, hset, hset0, List.getElem?_cons_zero, List.getElem?_cons_succ, List.set_cons_zero, List.set_cons_succ, Nat.add_zero, Nat.zero_add, Nat.reduceAdd, Nat.reduceSub, Nat.reduceLeDiff, Nat.reduceLT, Nat.reduceEqDiff, Nat.le_refl, and_self, and_true, true_and, mkAgg, toIms, List.drop_zero, List.drop_succ_cons, List.take_succ_cons, List.take_zero, List.length_append, binA, isShift, binInt, binBool, unA, Bool.false_eq_true, if_false, partA, fillA, fillE, List.take_nil, Nat.zero_ne_one, Nat.one_ne_zero, not_false_eq_true, ne_eq, Nat.succ_ne_self, reduceCtorEq, Int.reduceEq, Int.reduceLT, Int.reduceLE, decide_true, decide_false, lenA, beq_self_eq_true, beq_true, beq_false, Bool.not_true, Bool.not_false, hl1, a0, a3, hob1, hel]
    refine thenL_ex (fun r => ∃ H2, Hold 94 5 n H2 id (txt ++ showT (.mk k s args)) ∧ Keeps n id H H2 ∧ r = some (leave H false (.tup []) H2)) (keya _ _ (txt ++ gath k words) (by simp; omega) aH ?_ ?_ ?_ ?_ ?_) ?_
    iterate 5 simp only [gs_same, gs_ne, List.length_set, Nat.reduceLT, Nat.reduceEqDiff, not_false_eq_true, hl1, a0, encTs_map]
    rintro e tm2 H2 ⟨hl2, rfl, b0, b3, bH, bK⟩
    have hob2 : H2[H.length]? = some (.obj none [[.im (.int .i64 k), .im (.sl s (encTs args))]]) := bK.2.1 _ _ _ (by omega) hob1
    have b3' : tm2.getD 3 undefA = .ptr H.length 0 0 := by rw [b3]; simp only [gs_same, gs_ne, List.length_set, Nat.reduceLT, Nat.reduceEqDiff, not_false_eq_true, hl1, a3]
    have hK2 : Keeps n id H H2 := aK.down.trans bK
    by_cases h0 : args.length = 0
    · have hd : decide ((0 : Int) < (args.length : Int)) = false := decide_eq_false (by omega)
      simp only [exec0, xreg, xops, wantedA, aopc, aop, ev, putA, endK, resA, tupA, List.length_cons, List.length_nil, List.replicate, List.cons_append, List.nil_append, List.append_nil, List.append_assoc, gs_same, gs_ne, gq_same, gq_ne, List.length_set, List.map_cons, List.map_nil, cellsOf, List.all_cons, List.all_nil, cellOk, boxTy, Bool.and_true, Bool.and_self, if_true, ite_true, ite_false, loadAt, storeAt, setAt, hget, hget0, hset, hset0, List.getElem?_cons_zero, List.getElem?_cons_succ, List.set_cons_zero, List.set_cons_succ, Nat.add_zero, Nat.zero_add, Nat.reduceAdd, Nat.reduceSub, Nat.reduceLeDiff, Nat.reduceLT, Nat.reduceEqDiff, Nat.le_refl, and_self, and_true, true_and, mkAgg, toIms, List.drop_zero, List.drop_succ_cons, List.take_succ_cons, List.take_zero, List.length_append, binA, isShift, binInt, binBool, unA, Bool.false_eq_true, if_false, partA, fillA, fillE, List.take_nil, Nat.zero_ne_one, Nat.one_ne_zero, not_false_eq_true, ne_eq, Nat.succ_ne_self, reduceCtorEq, Int.reduceEq, Int.reduceLT, Int.reduceLE, decide_true, decide_false, lenA, beq_self_eq_true, beq_true, beq_false, Bool.not_true, Bool.not_false, hl2, b0, b3', hob2, hel, hd]
      refine ⟨H2, ?_, hK2, rfl⟩
      simp only [showT, if_pos h0, List.append_nil]
      rwa [List.append_assoc] at bH
    · have hd : decide ((0 : Int) < (args.length : Int)) = true := decide_eq_true (by omega)
      obtain ⟨H3, hc3, cH, cK⟩ := s74 bH 41 (by simp only [List.length_append]; rw [if_neg h0] at hb; simp at hb; omega)
      simp only [byteDat, show (((41 : UInt8).toNat : Nat) : Int) = 41 from rfl] at hc3
      simp only [exec0, xreg, xops, wantedA, aopc, aop, ev, putA, endK, resA, tupA, List.length_cons, List.length_nil, List.replicate, List.cons_append, List.nil_append, List.append_nil, List.append_assoc, gs_same, gs_ne, gq_same, gq_ne, List.length_set, List.map_cons, List.map_nil, cellsOf, List.all_cons, List.all_nil, cellOk, boxTy, Bool.and_true, Bool.and_self, if_true, ite_true, ite_false, loadAt, storeAt, setAt, hget, hget0, hset, hset0, List.getElem?_cons_zero, List.getElem?_cons_succ, List.set_cons_zero, List.set_cons_succ, Nat.add_zero, Nat.zero_add, Nat.reduceAdd, Nat.reduceSub, Nat.reduceLeDiff, Nat.reduceLT, Nat.reduceEqDiff, Nat.le_refl, and_self, and_true, true_and, mkAgg, toIms, List.drop_zero, List.drop_succ_cons, List.take_succ_cons, List.take_zero, List.length_append, binA, isShift, binInt, binBool, unA, Bool.false_eq_true, if_false, partA, fillA, fillE, List.take_nil, Nat.zero_ne_one, Nat.one_ne_zero, not_false_eq_true, ne_eq, Nat.succ_ne_self, reduceCtorEq, Int.reduceEq, Int.reduceLT, Int.reduceLE, decide_true, decide_false, lenA, beq_self_eq_true, beq_true, beq_false, Bool.not_true, Bool.not_false, hl2, b0, b3', hob2, hel, hd, hc3]
      refine ⟨H3, ?_, hK2.trans cK, rfl⟩
      simp only [showT, if_neg h0]
      simpa only [List.append_assoc] using cH
termination_by t => SizeOf.sizeOf t
decreasing_by
  have := List.sizeOf_lt_of_mem ha
  simp only [KT.mk.sizeOf_spec]
  omega

end Go.Abs.Seat
end
section
/- What the seat's functions come to: Show. -/
set_option linter.unusedVariables false
set_option linter.unusedSimpArgs false
namespace Go.Abs.Seat
open Go.Proofs

theorem bytesE_of : ∀ l : List UInt8, bytesE (l.map fun b => [byteDat b]) = some l
  | [] => rfl
  | b :: l => by
    have h := bytesE_of l
    simp only [List.map_cons, byteDat, bytesE]
    simp only [byteDat] at h
    rw [h]
    have hb := b.toNat_lt
    simp only
    rw [if_pos ⟨by omega, by omega⟩]
    simp

mutual
theorem show_len : ∀ (t : KT) (d : Nat), rightT t d = true → (showT t).length ≤ 100 * 4 ^ d
  | .mk k s args, d, h => by
    have hg := gath_len k words word_len
    have hw8 : words.length = 8 := rfl
    simp only [rightT] at h
    split at h
    · rename_i i hi
      split at h
      · simp at h
      · rename_i hd
        obtain ⟨d, rfl⟩ : ∃ d', d = d' + 1 := ⟨d - 1, by omega⟩
        split at h
        · rename_i hl
          have h2 := kcnt_le i (kidx_lt hi).1
          have := show_lens args d 40 (by simpa using h)
          have hp : 0 < 4 ^ d := Nat.pos_of_ne_zero (by simp)
          have hm : args.length * (1 + 100 * 4 ^ d) ≤ 2 * (1 + 100 * 4 ^ d) := Nat.mul_le_mul_right _ (by omega)
          have he : 4 ^ (d + 1) = 4 * 4 ^ d := by rw [Nat.pow_succ]; omega
          simp only [showT, List.length_append]
          split <;> simp <;> omega
        · simp at h
    · simp at h
theorem show_lens : ∀ (l : List KT) (d : Nat) (c : UInt8), rightNot l d = false → (showTs l c).length ≤ l.length * (1 + 100 * 4 ^ d)
  | [], d, c, h => by simp [showTs]
  | a :: l, d, c, h => by
    simp only [rightNot, Bool.or_eq_false_iff, Bool.not_eq_false'] at h
    have h1 := show_len a d h.1
    have h2 := show_lens l d 44 h.2
    simp only [showTs, List.length_cons, List.length_append, Nat.add_mul]
    omega
end

theorem show_ne : ∀ (t : KT) (d : Int), rightT t d = true → showT t ≠ []
  | .mk k s args, d, h => by
    simp only [rightT] at h
    split at h
    · rename_i i hi
      simp only [showT]
      intro e
      have e2 := (List.append_eq_nil_iff.1 e).1
      have hi' := hi
      unfold kidx at hi'
      obtain ⟨h1, h2, _⟩ := List.findIdx?_eq_some_iff_getElem.1 hi'
      have key : ∀ w ∈ words, gath w.1 words ≠ [] := by decide
      have := key words[i] (List.getElem_mem h1)
      rw [of_decide_eq_true h2] at this
      exact this e2
    · simp at h

/-- Show. -/
theorem s17 (t : KT) (hok : okT t) (H : Heap) : L 17 [.im (.agg (encT t))] H = some (.tup [.im (.str (if rightT t 6 = true then showT t else [])), .im (.int .i64 (checkT t))], H) := by
  have h19 := fun H => s19 t hok H
  unfold checkT at h19 ⊢
  rcases Bool.eq_false_or_eq_true (rightT t 6) with hr | hr
  · simp only [hr, if_true] at h19 ⊢
    have hlen := show_len t 6 hr
    have hne := show_ne t 6 hr
    have h48 := s48 (n := H.length + 2) t hok (right_narrow t 6 hr) (H.length + 1) (H ++ [.obj none [(encT t).map .im], .obj (some (94, 2)) [[.im .nilp, .nils]]]) []
      (by simp; omega) ⟨.im .nilp, .nils, by rw [Go.Abs.hget]; rfl, .inl rfl, .inl ⟨rfl, rfl⟩, by simp⟩
    obtain ⟨H2, hc, ⟨a0, v, hid, _, hG, _⟩, hK⟩ := h48
    rw [List.nil_append] at hG
    rcases hG with ⟨hes, _⟩ | ⟨_, tok, htok, rfl, hhw⟩
    · exact absurd (by simpa using hes) hne
    · have h49 : L 49 [.ptr (H.length + 1) 0 0] H2 = some (.im (.str (showT t)), H2.set tok (.hw 5 ((showT t).length + 1))) := by
        rw [L49]
        simp only [stA, hid, hhw, bytesE_of]
        rw [if_pos ⟨trivial, trivial, by simp, trivial, List.length_pos_iff.2 hne, by omega⟩]
        simp
      have hheld : heldIn H (H2.set tok (.hw 5 ((showT t).length + 1))) := fun i hi => by
        left
        rw [List.getElem?_set_ne (by omega), hK.2.2 i (by omega) (by simp; omega) (by omega), List.getElem?_append_left hi]
      have htake : (H2.set tok (.hw 5 ((showT t).length + 1))).take H.length = H := by
        apply List.ext_getElem?
        intro i
        rw [List.getElem?_take]
        split
        · rename_i hi
          rcases hheld i hi with h | ⟨o, h, _⟩
          · exact h
          · rw [List.getElem?_set_ne (by omega), hK.2.2 i (by omega) (by simp; omega) (by omega), List.getElem?_append_left hi]
        · rename_i hi
          rw [List.getElem?_eq_none (by omega)]
      have hlv : leave H false (.tup [.im (.str (showT t)), .im (.int .i64 0)]) (H2.set tok (.hw 5 ((showT t).length + 1))) = (.tup [.im (.str (showT t)), .im (.int .i64 0)], H) := by
        unfold leave
        have e : (if (false : Bool) = true then AV.tup [.im (.str (showT t)), .im (.int .i64 0)] else degrade (.tup [.im (.str (showT t)), .im (.int .i64 0)])) = .tup [.im (.str (showT t)), .im (.int .i64 0)] := by simp [degrade, degrade1, toDat]
        rw [e, if_pos ⟨by simp only [refsLt, refsLts, Bool.and_self], hheld⟩, htake]
      generalize showT t = txt at *
      obtain ⟨k, s, ts⟩ := t
      simp only [encT, List.map_cons, List.map_nil] at h19 hc ⊢
      rw [leq F17]
      obtain ⟨hln, ha⟩ := enter_at (f := f17) (args := [.im (.agg [.int .i64 k, .sl s (encTs ts)])]) (Nat.le_of_ble_eq_true rfl)
      have h0 := ha 0 _ rfl
      generalize enterA f17 [.im (.agg [.int .i64 k, .sl s (encTs ts)])] = tm at *
      change tm.length = 18 at hln
      simp only [f17, exec0, xreg, xops, wantedA, aopc, aop, ev, putA, endK, resA, tupA, List.length_cons, List.length_nil, List.replicate, List.cons_append, List.nil_append, List.append_nil, List.append_assoc, gs_same, gs_ne, gq_same, gq_ne, List.length_set, List.map_cons, List.map_nil, cellsOf, List.all_cons, List.all_nil, cellOk, boxTy, Bool.and_true, Bool.and_self, if_true, ite_true, ite_false, loadAt, storeAt, setAt, hget, hget0, hset, hset0, List.getElem?_cons_zero, List.getElem?_cons_succ, List.set_cons_zero, List.set_cons_succ, Nat.add_zero, Nat.zero_add, Nat.reduceAdd, Nat.reduceSub, Nat.reduceLeDiff, Nat.reduceLT, Nat.reduceEqDiff, Nat.le_refl, and_self, and_true, true_and, mkAgg, toIms, List.drop_zero, List.drop_succ_cons, List.take_succ_cons, List.take_zero, List.length_append, binA, isShift, binInt, binBool, unA, Bool.false_eq_true, if_false, partA, fillA, fillE, List.take_nil, Nat.zero_ne_one, Nat.one_ne_zero, not_false_eq_true, ne_eq, Nat.succ_ne_self, reduceCtorEq, Int.reduceEq, Int.reduceLT, Int.reduceLE, decide_true, decide_false, lenA, beq_self_eq_true, beq_true, beq_false, Bool.not_true, Bool.not_false, hln, h0, h19, hc, h49, hlv]
  · simp only [hr, Bool.false_eq_true, if_false] at h19 ⊢
    obtain ⟨k, s, ts⟩ := t
    simp only [encT] at h19 ⊢
    rw [leq F17]
    obtain ⟨hln, ha⟩ := enter_at (f := f17) (args := [.im (.agg [.int .i64 k, .sl s (encTs ts)])]) (Nat.le_of_ble_eq_true rfl)
    have h0 := ha 0 _ rfl
    generalize enterA f17 [.im (.agg [.int .i64 k, .sl s (encTs ts)])] = tm at *
    change tm.length = 18 at hln
    simp only [f17, exec0, xreg, xops, wantedA, aopc, aop, ev, putA, endK, resA, tupA, List.length_cons, List.length_nil, List.replicate, List.cons_append, List.nil_append, List.append_nil, List.append_assoc, gs_same, gs_ne, gq_same, gq_ne, List.length_set, List.map_cons, List.map_nil, cellsOf, List.all_cons, List.all_nil, cellOk, boxTy, Bool.and_true, Bool.and_self, if_true, ite_true, ite_false, loadAt, storeAt, setAt, hget, hget0, hset, hset0, List.getElem?_cons_zero, List.getElem?_cons_succ, List.set_cons_zero, List.set_cons_succ, Nat.add_zero, Nat.zero_add, Nat.reduceAdd, Nat.reduceSub, Nat.reduceLeDiff, Nat.reduceLT, Nat.reduceEqDiff, Nat.le_refl, and_self, and_true, true_and, mkAgg, toIms, List.drop_zero, List.drop_succ_cons, List.take_succ_cons, List.take_zero, List.length_append, binA, isShift, binInt, binBool, unA, Bool.false_eq_true, if_false, partA, fillA, fillE, List.take_nil, Nat.zero_ne_one, Nat.one_ne_zero, not_false_eq_true, ne_eq, Nat.succ_ne_self, reduceCtorEq, Int.reduceEq, Int.reduceLT, Int.reduceLE, decide_true, decide_false, lenA, beq_self_eq_true, beq_true, beq_false, Bool.not_true, Bool.not_false, hln, h0, h19, leave_tup2]

end Go.Abs.Seat
end
section
/- The abstract reading of Go code, twenty-ninth part: a run does not know what lies below its heap. -/
namespace Go.Abs

mutual
/-- All places moved up. -/
def sh (n : Nat) : AV → AV
  | .im d => .im d
  | .nils => .nils
  | .asl s es tok => .asl s es (n + tok)
  | .ms s id off k => .ms s (n + id) off k
  | .ptr id i j => .ptr (n + id) i j
  | .agg cs => .agg (shs n cs)
  | .tup cs => .tup (shs n cs)
  | .clo f cs => .clo f (shs n cs)
  | .any => .any
def shs (n : Nat) : List AV → List AV
  | [] => []
  | a :: l => sh n a :: shs n l
end

theorem shs_map (n : Nat) : ∀ l : List AV, shs n l = l.map (sh n)
  | [] => rfl
  | a :: l => by simp only [shs, List.map_cons, shs_map n l]

def shO (n : Nat) : HO → HO
  | .obj t es => .obj t (es.map fun e => e.map (sh n))
  | .hw t k => .hw t k
def shH (n : Nat) (H : Heap) : Heap := H.map (shO n)

mutual
/-- Does it hold no place? -/
def closedA : AV → Bool
  | .im _ => true
  | .nils => true
  | .asl .. => false
  | .ms .. => false
  | .ptr .. => false
  | .agg cs => closedAs cs
  | .tup cs => closedAs cs
  | .clo _ cs => closedAs cs
  | .any => true
def closedAs : List AV → Bool
  | [] => true
  | a :: l => closedA a && closedAs l
end

section
variable {n : Nat}

mutual
theorem sh_closed : ∀ {a : AV}, closedA a = true → sh n a = a
  | .im _, _ => rfl
  | .nils, _ => rfl
  | .agg cs, h => by simp only [closedA] at h; simp only [sh, shs_closed h]
  | .tup cs, h => by simp only [closedA] at h; simp only [sh, shs_closed h]
  | .clo f cs, h => by simp only [closedA] at h; simp only [sh, shs_closed h]
  | .any, _ => rfl
theorem shs_closed : ∀ {l : List AV}, closedAs l = true → shs n l = l
  | [], _ => rfl
  | a :: l, h => by
    simp only [closedAs, Bool.and_eq_true] at h
    simp only [shs, sh_closed h.1, shs_closed h.2]
end

theorem sh_cells (a : AV) : cellsOf (sh n a) = (cellsOf a).map (sh n) := by
  cases a <;> simp [sh, cellsOf, shs_map]
  rename_i d
  cases d <;> simp [sh]

theorem sh_cellOk (a : AV) : cellOk (sh n a) = cellOk a := by
  cases a <;> simp [sh, cellOk]

theorem sh_toIms : ∀ cs : List AV, toIms (cs.map (sh n)) = toIms cs
  | [] => rfl
  | a :: l => by
    have ih := sh_toIms l
    cases a <;> simp [sh, toIms, ih]

theorem sh_mkAgg (cs : List AV) : mkAgg (cs.map (sh n)) = sh n (mkAgg cs) := by
  unfold mkAgg
  rw [sh_toIms]
  cases toIms cs <;> simp [sh, shs_map]

mutual
theorem sh_toDat : ∀ a : AV, toDat (sh n a) = toDat a
  | .im d => rfl
  | .nils => rfl
  | .asl .. => rfl
  | .ms .. => rfl
  | .ptr .. => rfl
  | .agg cs => by simp only [sh, toDat, sh_toDats cs]
  | .tup cs => rfl
  | .clo f cs => rfl
  | .any => rfl
theorem sh_toDats : ∀ l : List AV, toDats (shs n l) = toDats l
  | [] => rfl
  | a :: l => by simp only [shs, toDats, sh_toDat a, sh_toDats l]
end

theorem sh_toDatss : ∀ l : List (List AV), toDatss (l.map fun e => e.map (sh n)) = toDatss l
  | [] => rfl
  | a :: l => by
    have := sh_toDats (n := n) a
    rw [shs_map] at this
    simp only [List.map_cons, toDatss, this, sh_toDatss l]

theorem all_cellOk (l : List AV) : (l.map (sh n)).all cellOk = l.all cellOk := by
  rw [List.all_map]
  congr 1
  funext a
  exact sh_cellOk a

variable {H0 H : Heap}

theorem shH_get (hn : n = H0.length) (id : Nat) : (H0 ++ shH n H)[n + id]? = (H[id]?).map (shO n) := by
  subst hn
  rw [hget]
  simp [shH]

theorem shH_set (hn : n = H0.length) (id : Nat) (o : HO) : (H0 ++ shH n H).set (n + id) (shO n o) = H0 ++ shH n (H.set id o) := by
  subst hn
  rw [hset]
  simp [shH]

theorem shH_app (o : HO) : H0 ++ shH n H ++ [shO n o] = H0 ++ shH n (H ++ [o]) := by
  simp [shH]

theorem shH_len (hn : n = H0.length) : (H0 ++ shH n H).length = n + H.length := by
  simp [shH, hn]

theorem map_setAt : ∀ (e : List AV) (j : Nat) (cs : List AV), (setAt e j cs).map (sh n) = setAt (e.map (sh n)) j (cs.map (sh n))
  | e, j, [] => rfl
  | e, j, c :: cs => by
    simp only [setAt, List.map_cons]
    rw [map_setAt (e.set j c) (j + 1) cs, List.map_set]

theorem sh_load (hn : n = H0.length) {k : Option Nat} {a v : AV} (h : loadAt H k a = some v) : loadAt (H0 ++ shH n H) k (sh n a) = some (sh n v) := by
  unfold loadAt at h
  split at h
  · rename_i cs
    simp only [sh, loadAt]
    split at h
    · split at h
      · rename_i d hd
        injection h with h; subst h
        first | rfl | (rw [hd]; rfl)
      · simp at h
    · split at h
      · rename_i hk
        rw [if_pos hk]
        injection h with h; subst h
        rfl
      · simp at h
  · rename_i id i j
    simp only [sh, loadAt, shH_get hn]
    split at h
    · rename_i ty es he
      rw [he]
      simp only [Option.map_some, shO]
      split at h
      · rename_i e hi
        rw [List.getElem?_map, hi]
        simp only [Option.map_some]
        split at h
        · rw [List.getElem?_map, h]; rfl
        · split at h
          · rename_i hk
            rw [List.length_map, if_pos hk]
            injection h with h; subst h
            rw [← List.map_drop, ← List.map_take, sh_mkAgg]
          · simp at h
      · simp at h
    · simp at h
  · simp at h

theorem sh_store (hn : n = H0.length) {k : Nat} {a v : AV} {H' : Heap} (h : storeAt H k a v = some H') : storeAt (H0 ++ shH n H) k (sh n a) (sh n v) = some (H0 ++ shH n H') := by
  unfold storeAt at h
  split at h
  · rename_i id i j
    simp only [sh, storeAt, shH_get hn]
    split at h
    · rename_i ty es he
      rw [he]
      simp only [Option.map_some, shO]
      split at h
      · rename_i e hi
        rw [List.getElem?_map, hi]
        simp only [Option.map_some]
        simp only at h
        split at h
        · rename_i hc
          injection h with h; subst h
          rw [sh_cells, if_pos (by rw [List.length_map, List.length_map, all_cellOk]; exact hc)]
          rw [← shH_set hn]
          simp only [shO, List.map_set, map_setAt]
        · simp at h
      · simp at h
    · simp at h
  · simp at h

theorem sh_elems (hn : n = H0.length) {s : Nat} {a : AV} {ys : List (List Dat)} (h : elems H s a = some ys) : elems (H0 ++ shH n H) s (sh n a) = some ys := by
  unfold elems at h
  split at h
  · exact h
  · exact h
  · exact h
  · exact h
  · rename_i s' id off k
    simp only [sh, elems, shH_get hn]
    split at h
    · rename_i hs
      rw [if_pos hs]
      split at h
      · rename_i ty es he
        rw [he]
        simp only [Option.map_some, shO, List.length_map]
        split at h
        · rename_i hk
          rw [if_pos hk, ← List.map_drop, ← List.map_take, sh_toDatss]
          exact h
        · simp at h
      · simp at h
    · simp at h
  · simp at h

theorem sh_append (hn : n = H0.length) {ty : TypeId} {bytes s : Nat} {a v : AV} {ys : List (List Dat)} {H' : Heap} (h : appendA H ty bytes s a ys = some (v, H')) : appendA (H0 ++ shH n H) ty bytes s (sh n a) ys = some (sh n v, H0 ++ shH n H') := by
  unfold appendA at h
  split at h
  · simp only [sh, appendA]
    split at h
    · simp only [Option.some.injEq, Prod.mk.injEq] at h
      obtain ⟨rfl, rfl⟩ := h
      rfl
    · split at h
      · rename_i hc
        simp only [Option.some.injEq, Prod.mk.injEq] at h
        obtain ⟨rfl, rfl⟩ := h
        rw [if_pos hc, shH_len hn, ← shH_app]
        rfl
      · simp at h
  · rename_i s' es tok
    simp only [sh, appendA, shH_get hn]
    split at h
    · rename_i ty' k he
      rw [he]
      simp only [Option.map_some, shO]
      split at h
      · rename_i hc
        simp only [Option.some.injEq, Prod.mk.injEq] at h
        obtain ⟨rfl, rfl⟩ := h
        rw [if_pos hc, ← shH_set hn]
        rfl
      · simp at h
    · simp at h
  · simp at h

theorem sh_fillA : ∀ {parts : List (Nat × Nat × AV)} {cells cs : List AV}, fillA cells parts = some cs → fillA (cells.map (sh n)) (parts.map fun p => (p.1, p.2.1, sh n p.2.2)) = some (cs.map (sh n))
  | [], cells, cs, h => by
    simp only [fillA] at h
    injection h with h; subst h
    rfl
  | (off, size, v) :: rest, cells, cs, h => by
    simp only [fillA] at h
    split at h
    · rename_i hc
      simp only [List.map_cons, fillA, sh_cells]
      rw [if_pos (by rw [List.length_map, List.length_map, all_cellOk]; exact hc), ← map_setAt]
      exact sh_fillA h
    · simp at h

theorem sh_fillE {s : Nat} : ∀ {parts : List (Nat × AV)} {es cs : List (List AV)}, fillE s es parts = some cs → fillE s (es.map fun e => e.map (sh n)) (parts.map fun p => (p.1, sh n p.2)) = some (cs.map fun e => e.map (sh n))
  | [], es, cs, h => by
    simp only [fillE] at h
    injection h with h; subst h
    rfl
  | (i, v) :: rest, es, cs, h => by
    simp only [fillE] at h
    split at h
    · rename_i hc
      simp only [List.map_cons, fillE, sh_cells]
      rw [if_pos (by rw [List.length_map, List.length_map, all_cellOk]; exact hc)]
      have := sh_fillE h
      rwa [List.map_set] at this
    · simp at h

theorem sh_part {k : Option Nat} {cs : List AV} {off : Nat} {v : AV} (h : partA k cs off = some v) : partA k (cs.map (sh n)) off = some (sh n v) := by
  cases k with
  | none =>
    simp only [partA] at h ⊢
    rw [List.getElem?_map, h]; rfl
  | some m =>
    simp only [partA] at h ⊢
    split at h
    · rename_i hc
      injection h with h; subst h
      rw [List.length_map, if_pos hc, ← List.map_drop, ← List.map_take, sh_mkAgg]
    · simp at h

theorem sh_aggCells {a : AV} {cs : List AV} (h : aggCells a = some cs) : aggCells (sh n a) = some (cs.map (sh n)) := by
  unfold aggCells at h
  split at h
  · injection h with h; subst h
    simp [sh, aggCells]
  · injection h with h; subst h
    simp [sh, aggCells, shs_map]
  · simp at h

theorem sh_bin {op : BinOp} {a b v : AV} (h : binA op a b = some v) : binA op (sh n a) (sh n b) = some (sh n v) := by
  have hv : sh n v = v ∧ sh n a = a ∧ sh n b = b := by
    unfold binA at h
    split at h
    · refine ⟨?_, rfl, rfl⟩
      repeat' (split at h)
      all_goals first | (injection h with h; subst h; rfl) | (simp at h)
    · refine ⟨?_, rfl, rfl⟩
      repeat' (split at h)
      all_goals first | (injection h with h; subst h; rfl) | (simp at h)
    · refine ⟨?_, rfl, rfl⟩
      repeat' (split at h)
      all_goals first | (injection h with h; subst h; rfl) | (simp at h)
    · refine ⟨?_, rfl, rfl⟩
      repeat' (split at h)
      all_goals first | (injection h with h; subst h; rfl) | (simp at h)
    · simp at h
  rw [hv.1, hv.2.1, hv.2.2]; exact h

theorem sh_int (a : AV) : intOfA (sh n a) = intOfA a := by
  cases a <;> rfl

theorem sh_idx (a : AV) (k : Nat) : idx (sh n a) k = idx a k := by
  unfold idx
  rw [sh_int]

theorem sh_bool {op : BinOp} {a b v : AV} (h : binBool op a b = some v) : binBool op (sh n a) (sh n b) = some (sh n v) := by
  have hv : sh n v = v ∧ sh n a = a ∧ sh n b = b := by
    unfold binBool at h
    split at h
    · refine ⟨?_, rfl, rfl⟩
      split at h
      all_goals first | (injection h with h; subst h; rfl) | (simp at h)
    · simp at h
  rw [hv.1, hv.2.1, hv.2.2]; exact h

theorem sh_un {op : UnOp} {a v : AV} (h : unA op a = some v) : unA op (sh n a) = some (sh n v) := by
  have hv : sh n v = v ∧ sh n a = a := by
    unfold unA at h
    split at h
    all_goals first
      | (refine ⟨?_, rfl⟩
         repeat' (split at h)
         all_goals first | (injection h with h; subst h; rfl) | (simp at h))
      | (simp at h)
  rw [hv.1, hv.2]; exact h

theorem sh_min {a b v : AV} (h : minA a b = some v) : minA (sh n a) (sh n b) = some (sh n v) := by
  unfold minA at h
  split at h
  · injection h with h; subst h; rfl
  · simp at h

theorem sh_max {a b v : AV} (h : maxA a b = some v) : maxA (sh n a) (sh n b) = some (sh n v) := by
  unfold maxA at h
  split at h
  · injection h with h; subst h; rfl
  · simp at h

theorem sh_bound {ρ : AOpd → AV} (d : Nat) (x : Option AOpd) : boundA (fun x => sh n (ρ x)) d x = boundA ρ d x := by
  cases x with
  | none => rfl
  | some x => simp only [boundA, sh_int]

theorem sh_slice {s : Nat} {x v : AV} {lo : Nat} {hi : Nat → Option Nat} {mx : Option (Option Nat)} (h : sliceA s x lo hi mx = some v) : sliceA s (sh n x) lo hi mx = some (sh n v) := by
  unfold sliceA at h
  split at h
  all_goals first
    | (simp only [sh, sliceA]
       repeat' (split at h)
       all_goals first
         | (injection h with h; subst h; simp_all [sh])
         | (simp at h))
    | (simp at h)

theorem sh_len (a : AV) : lenA (sh n a) = lenA a := by
  cases a <;> rfl

end
end Go.Abs
end
section
/- The abstract reading of Go code, thirtieth part: an operation does not know what lies below its heap. -/
namespace Go.Abs

def closedOpd : AOpd → Bool
  | .t _ => true
  | .c a => closedA a

/-- Does an operation hold no place in its text? -/
def closedOp (op : AOp) : Bool := (opnds op).all closedOpd && match op with
  | .alloc _ z => closedAs z
  | .build z _ => closedAs z
  | .bslice _ _ _ z _ => closedAs z
  | .mkslice _ _ z _ _ => closedAs z
  | .clear _ z _ => closedAs z
  | _ => true

section
variable {n : Nat} {H0 H : Heap}

theorem map_closed {z : List AV} (h : closedAs z = true) : z.map (sh n) = z := by
  rw [← shs_map, shs_closed h]

theorem aop_sh (hn : n = H0.length) {ρ : AOpd → AV} {op : AOp} (hc : closedOp op = true) {v : AV} {H' : Heap} (h : aop H ρ op = some (v, H')) :
    aop (H0 ++ shH n H) (fun x => sh n (ρ x)) op = some (sh n v, H0 ++ shH n H') := by
  unfold closedOp at hc
  rw [Bool.and_eq_true] at hc
  have hz := hc.2
  cases op <;> simp only [aop] at h ⊢ <;> simp only at hz
  case move x => simp only [Option.some.injEq, Prod.mk.injEq] at h; obtain ⟨rfl, rfl⟩ := h; rfl
  case pick c a b =>
    cases hcc : ρ c <;> rw [hcc] at h <;> try (simp at h; done)
    rename_i d
    cases d <;> try (simp at h; done)
    simp only [sh] at h ⊢
    split at h <;> simp_all
  case alloc ty z =>
    simp only [Option.some.injEq, Prod.mk.injEq] at h
    obtain ⟨rfl, rfl⟩ := h
    rw [shH_len hn, ← shH_app]
    simp [sh, shO, map_closed hz]
  case box ty x =>
    split at h
    · rename_i hk
      simp only [Option.some.injEq, Prod.mk.injEq] at h
      obtain ⟨rfl, rfl⟩ := h
      rw [sh_cells, all_cellOk, if_pos hk, shH_len hn, ← shH_app]
      simp [sh, shO]
    · simp at h
  case build z parts =>
    split at h
    · rename_i cs hf
      simp only [Option.some.injEq, Prod.mk.injEq] at h
      obtain ⟨rfl, rfl⟩ := h
      have := sh_fillA (n := n) hf
      rw [map_closed hz, List.map_map] at this
      have e : (parts.map fun p => (p.1, p.2.1, sh n (ρ p.2.2))) = parts.map ((fun p => (p.1, p.2.1, sh n p.2.2)) ∘ fun p => (p.1, p.2.1, ρ p.2.2)) := rfl
      rw [e, this]
      simp only [sh_mkAgg]
    · simp at h
  case bslice mu s k z parts =>
    split at h
    · rename_i es hf
      have := sh_fillE (n := n) hf
      rw [List.map_map, List.map_replicate, map_closed hz] at this
      have e : (parts.map fun p => (p.1, sh n (ρ p.2))) = parts.map ((fun p => (p.1, sh n p.2)) ∘ fun p => (p.1, ρ p.2)) := rfl
      rw [e, this]
      simp only
      split at h
      · rename_i hm
        simp only [Option.some.injEq, Prod.mk.injEq] at h
        obtain ⟨rfl, rfl⟩ := h
        rw [if_pos hm, shH_len hn, ← shH_app]
        simp [sh, shO]
      · rename_i hm
        rw [if_neg hm, sh_toDatss]
        split at h
        · rename_i ds hd
          simp only [Option.some.injEq, Prod.mk.injEq] at h
          obtain ⟨rfl, rfl⟩ := h
          first | rfl | (rw [hd]; rfl)
        · simp at h
    · simp at h
  case load k x =>
    split at h
    · rename_i u hl
      simp only [Option.some.injEq, Prod.mk.injEq] at h
      obtain ⟨rfl, rfl⟩ := h
      rw [sh_load hn hl]
    · simp at h
  case store k x v =>
    split at h
    · rename_i u hl
      simp only [Option.some.injEq, Prod.mk.injEq] at h
      obtain ⟨rfl, rfl⟩ := h
      rw [sh_store hn hl]
      rfl
    · simp at h
  case nilCheck x =>
    split at h
    all_goals first
      | (rename_i hx
         simp only [Option.some.injEq, Prod.mk.injEq] at h
         obtain ⟨rfl, rfl⟩ := h
         rw [hx]; rfl)
      | (simp at h)
  case bin op x y =>
    split at h
    · rename_i u hl
      simp only [Option.some.injEq, Prod.mk.injEq] at h
      obtain ⟨rfl, rfl⟩ := h
      rw [sh_bin hl]
    · simp at h
  case binB op x y =>
    split at h
    · rename_i u hl
      simp only [Option.some.injEq, Prod.mk.injEq] at h
      obtain ⟨rfl, rfl⟩ := h
      rw [sh_bool hl]
    · simp at h
  case un op x =>
    split at h
    · rename_i u hl
      simp only [Option.some.injEq, Prod.mk.injEq] at h
      obtain ⟨rfl, rfl⟩ := h
      rw [sh_un hl]
    · simp at h
  case min x y =>
    split at h
    · rename_i u hl
      simp only [Option.some.injEq, Prod.mk.injEq] at h
      obtain ⟨rfl, rfl⟩ := h
      rw [sh_min hl]
    · simp at h
  case max x y =>
    split at h
    · rename_i u hl
      simp only [Option.some.injEq, Prod.mk.injEq] at h
      obtain ⟨rfl, rfl⟩ := h
      rw [sh_max hl]
    · simp at h
  case lenSl x =>
    split at h
    · rename_i u hl
      simp only [Option.some.injEq, Prod.mk.injEq] at h
      obtain ⟨rfl, rfl⟩ := h
      rw [sh_len, hl]; rfl
    · simp at h
  case mkfunc f cap =>
    simp only [Option.some.injEq, Prod.mk.injEq] at h
    obtain ⟨rfl, rfl⟩ := h
    simp [sh, shs_map]
  case append ty bytes s x y =>
    split at h
    · rename_i ys hl
      rw [sh_elems hn hl]
      exact sh_append hn h
    · simp at h
  case field off k x =>
    split at h
    · rename_i cs hl
      rw [sh_aggCells hl]
      simp only
      split at h
      · rename_i u hp
        simp only [Option.some.injEq, Prod.mk.injEq] at h
        obtain ⟨rfl, rfl⟩ := h
        rw [sh_part hp]
      · simp at h
    · simp at h
  case elemArr len size k x i =>
    split at h
    · rename_i cs hl
      rw [sh_aggCells hl, sh_idx]
      simp only
      split at h
      · rename_i m hm
        try rw [hm]
        try simp only
        split at h
        · rename_i u hp
          simp only [Option.some.injEq, Prod.mk.injEq] at h
          obtain ⟨rfl, rfl⟩ := h
          rw [sh_part hp]
        · simp at h
      · simp at h
    · simp at h
  case extract i x =>
    split at h
    · rename_i cs hx
      split at h
      · rename_i u hu
        simp only [Option.some.injEq, Prod.mk.injEq] at h
        obtain ⟨rfl, rfl⟩ := h
        rw [hx]
        simp only [sh, shs_map, List.getElem?_map, hu, Option.map_some]
      · simp at h
    · simp at h
  case slice s x lo hi mx =>
    have e : (fun m => boundA (fun x => sh n (ρ x)) m hi) = fun m => boundA ρ m hi := funext fun m => sh_bound m hi
    rw [sh_bound, e]
    cases mx with
    | none =>
      simp only at h ⊢
      split at h
      · split at h
        · rename_i u hu
          simp only [Option.some.injEq, Prod.mk.injEq] at h
          obtain ⟨rfl, rfl⟩ := h
          try simp only [*]
          rw [sh_slice hu]
        · simp at h
      · simp at h
    | some m =>
      simp only [sh_bound] at h ⊢
      split at h
      · split at h
        · rename_i u hu
          simp only [Option.some.injEq, Prod.mk.injEq] at h
          obtain ⟨rfl, rfl⟩ := h
          try simp only [*]
          rw [sh_slice hu]
        · simp at h
      · simp at h
  case mkslice bytes s z l c =>
    rw [sh_int, sh_int]
    split at h
    · rename_i a b ha hb
      try rw [ha, hb]
      try simp only
      split at h
      · rename_i hk
        simp only [Option.some.injEq, Prod.mk.injEq] at h
        obtain ⟨rfl, rfl⟩ := h
        rw [if_pos hk, shH_len hn, ← shH_app]
        simp [sh, shO, map_closed hz]
      · simp at h
    · simp at h
  case clear s z x =>
    cases hx : ρ x <;> rw [hx] at h <;> try (simp at h; done)
    · rename_i d
      cases d <;> try (simp at h; done)
      rename_i s' es
      cases es <;> simp at h
      obtain ⟨rfl, rfl⟩ := h
      simp only [sh]
      rfl
    · simp only [Option.some.injEq, Prod.mk.injEq] at h
      obtain ⟨rfl, rfl⟩ := h
      simp only [sh]
      rfl
    · rename_i s' id off k
      simp only [sh, shH_get hn] at h ⊢
      split at h
      · rename_i hs
        rw [if_pos hs]
        split at h
        · rename_i ty es he
          rw [he]
          simp only [Option.map_some, shO, List.length_map]
          split at h
          · rename_i hk
            simp only [Option.some.injEq, Prod.mk.injEq] at h
            obtain ⟨rfl, rfl⟩ := h
            rw [if_pos hk, ← shH_set hn]
            simp [shO, sh, undefA, shs, List.map_take, List.map_drop, map_closed hz]
          · simp at h
        · simp at h
      · simp at h
  case fieldAddr off x =>
    split at h
    all_goals first
      | (rename_i hx
         simp only [Option.some.injEq, Prod.mk.injEq] at h
         obtain ⟨rfl, rfl⟩ := h
         rw [hx]; rfl)
      | (simp at h)
  case indexSl s x i =>
    cases hx : ρ x <;> rw [hx] at h <;> try (simp at h; done)
    · rename_i d
      cases d <;> try (simp at h; done)
      simp only [sh, sh_idx] at h ⊢
      repeat' (split at h)
      all_goals first
        | (simp at h; done)
        | (simp only [Option.some.injEq, Prod.mk.injEq] at h
           obtain ⟨rfl, rfl⟩ := h
           simp_all [sh])
    · simp only [sh, sh_idx] at h ⊢
      repeat' (split at h)
      all_goals first
        | (simp at h; done)
        | (simp only [Option.some.injEq, Prod.mk.injEq] at h
           obtain ⟨rfl, rfl⟩ := h
           simp_all [sh])
    · simp only [sh, sh_idx] at h ⊢
      repeat' (split at h)
      all_goals first
        | (simp at h; done)
        | (simp only [Option.some.injEq, Prod.mk.injEq] at h
           obtain ⟨rfl, rfl⟩ := h
           simp_all [sh])
  case indexArr len size x i =>
    split at h
    · rename_i id p j hx
      split at h
      · rename_i m hm
        simp only [Option.some.injEq, Prod.mk.injEq] at h
        obtain ⟨rfl, rfl⟩ := h
        rw [hx]
        simp only [sh, sh_idx, hm]
      · simp at h
    · rename_i cs hx
      split at h
      · rename_i m hm
        simp only [Option.some.injEq, Prod.mk.injEq] at h
        obtain ⟨rfl, rfl⟩ := h
        rw [hx]
        simp only [sh, sh_idx, hm]
      · simp at h
    · simp at h
  case indexStr x i =>
    cases hx : ρ x <;> rw [hx] at h <;> try (simp at h; done)
    all_goals
      first
      | (rename_i d
         cases d <;> try (simp at h; done)
         simp only [sh, sh_idx, sh_int, sh_bound] at h ⊢
         repeat' (split at h)
         all_goals first
           | (simp at h; done)
           | (simp only [Option.some.injEq, Prod.mk.injEq] at h
              obtain ⟨rfl, rfl⟩ := h
              simp_all [sh]))
      | (simp only [sh, sh_idx, sh_int, sh_bound] at h ⊢
         repeat' (split at h)
         all_goals first
           | (simp at h; done)
           | (simp only [Option.some.injEq, Prod.mk.injEq] at h
              obtain ⟨rfl, rfl⟩ := h
              simp_all [sh]))
  case i2i k x =>
    cases hx : ρ x <;> rw [hx] at h <;> try (simp at h; done)
    all_goals
      first
      | (rename_i d
         cases d <;> try (simp at h; done)
         simp only [sh, sh_idx, sh_int, sh_bound] at h ⊢
         repeat' (split at h)
         all_goals first
           | (simp at h; done)
           | (simp only [Option.some.injEq, Prod.mk.injEq] at h
              obtain ⟨rfl, rfl⟩ := h
              simp_all [sh]))
      | (simp only [sh, sh_idx, sh_int, sh_bound] at h ⊢
         repeat' (split at h)
         all_goals first
           | (simp at h; done)
           | (simp only [Option.some.injEq, Prod.mk.injEq] at h
              obtain ⟨rfl, rfl⟩ := h
              simp_all [sh]))
  case i2f k x =>
    cases hx : ρ x <;> rw [hx] at h <;> try (simp at h; done)
    all_goals
      first
      | (rename_i d
         cases d <;> try (simp at h; done)
         simp only [sh, sh_idx, sh_int, sh_bound] at h ⊢
         repeat' (split at h)
         all_goals first
           | (simp at h; done)
           | (simp only [Option.some.injEq, Prod.mk.injEq] at h
              obtain ⟨rfl, rfl⟩ := h
              simp_all [sh]))
      | (simp only [sh, sh_idx, sh_int, sh_bound] at h ⊢
         repeat' (split at h)
         all_goals first
           | (simp at h; done)
           | (simp only [Option.some.injEq, Prod.mk.injEq] at h
              obtain ⟨rfl, rfl⟩ := h
              simp_all [sh]))
  case f2i k x =>
    cases hx : ρ x <;> rw [hx] at h <;> try (simp at h; done)
    all_goals
      first
      | (rename_i d
         cases d <;> try (simp at h; done)
         simp only [sh, sh_idx, sh_int, sh_bound] at h ⊢
         repeat' (split at h)
         all_goals first
           | (simp at h; done)
           | (simp only [Option.some.injEq, Prod.mk.injEq] at h
              obtain ⟨rfl, rfl⟩ := h
              simp_all [sh]))
      | (simp only [sh, sh_idx, sh_int, sh_bound] at h ⊢
         repeat' (split at h)
         all_goals first
           | (simp at h; done)
           | (simp only [Option.some.injEq, Prod.mk.injEq] at h
              obtain ⟨rfl, rfl⟩ := h
              simp_all [sh]))
  case s2b x =>
    cases hx : ρ x <;> rw [hx] at h <;> try (simp at h; done)
    all_goals
      first
      | (rename_i d
         cases d <;> try (simp at h; done)
         simp only [sh, sh_idx, sh_int, sh_bound] at h ⊢
         repeat' (split at h)
         all_goals first
           | (simp at h; done)
           | (simp only [Option.some.injEq, Prod.mk.injEq] at h
              obtain ⟨rfl, rfl⟩ := h
              simp_all [sh]))
      | (simp only [sh, sh_idx, sh_int, sh_bound] at h ⊢
         repeat' (split at h)
         all_goals first
           | (simp at h; done)
           | (simp only [Option.some.injEq, Prod.mk.injEq] at h
              obtain ⟨rfl, rfl⟩ := h
              simp_all [sh]))
  case b2s x =>
    cases hx : ρ x <;> rw [hx] at h <;> try (simp at h; done)
    all_goals
      first
      | (rename_i d
         cases d <;> try (simp at h; done)
         simp only [sh, sh_idx, sh_int, sh_bound] at h ⊢
         repeat' (split at h)
         all_goals first
           | (simp at h; done)
           | (simp only [Option.some.injEq, Prod.mk.injEq] at h
              obtain ⟨rfl, rfl⟩ := h
              simp_all [sh]))
      | (simp only [sh, sh_idx, sh_int, sh_bound] at h ⊢
         repeat' (split at h)
         all_goals first
           | (simp at h; done)
           | (simp only [Option.some.injEq, Prod.mk.injEq] at h
              obtain ⟨rfl, rfl⟩ := h
              simp_all [sh]))
  case strId x =>
    cases hx : ρ x <;> rw [hx] at h <;> try (simp at h; done)
    all_goals
      first
      | (rename_i d
         cases d <;> try (simp at h; done)
         simp only [sh, sh_idx, sh_int, sh_bound] at h ⊢
         repeat' (split at h)
         all_goals first
           | (simp at h; done)
           | (simp only [Option.some.injEq, Prod.mk.injEq] at h
              obtain ⟨rfl, rfl⟩ := h
              simp_all [sh]))
      | (simp only [sh, sh_idx, sh_int, sh_bound] at h ⊢
         repeat' (split at h)
         all_goals first
           | (simp at h; done)
           | (simp only [Option.some.injEq, Prod.mk.injEq] at h
              obtain ⟨rfl, rfl⟩ := h
              simp_all [sh]))
  case sliceStr x lo hi =>
    cases hx : ρ x <;> rw [hx] at h <;> try (simp at h; done)
    all_goals
      first
      | (rename_i d
         cases d <;> try (simp at h; done)
         simp only [sh, sh_idx, sh_int, sh_bound] at h ⊢
         repeat' (split at h)
         all_goals first
           | (simp at h; done)
           | (simp only [Option.some.injEq, Prod.mk.injEq] at h
              obtain ⟨rfl, rfl⟩ := h
              simp_all [sh]))
      | (simp only [sh, sh_idx, sh_int, sh_bound] at h ⊢
         repeat' (split at h)
         all_goals first
           | (simp at h; done)
           | (simp only [Option.some.injEq, Prod.mk.injEq] at h
              obtain ⟨rfl, rfl⟩ := h
              simp_all [sh]))
  case lenStr x =>
    cases hx : ρ x <;> rw [hx] at h <;> try (simp at h; done)
    all_goals
      first
      | (rename_i d
         cases d <;> try (simp at h; done)
         simp only [sh, sh_idx, sh_int, sh_bound] at h ⊢
         repeat' (split at h)
         all_goals first
           | (simp at h; done)
           | (simp only [Option.some.injEq, Prod.mk.injEq] at h
              obtain ⟨rfl, rfl⟩ := h
              simp_all [sh]))
      | (simp only [sh, sh_idx, sh_int, sh_bound] at h ⊢
         repeat' (split at h)
         all_goals first
           | (simp at h; done)
           | (simp only [Option.some.injEq, Prod.mk.injEq] at h
              obtain ⟨rfl, rfl⟩ := h
              simp_all [sh]))
  case real x =>
    cases hx : ρ x <;> rw [hx] at h <;> try (simp at h; done)
    all_goals
      first
      | (rename_i d
         cases d <;> try (simp at h; done)
         simp only [sh, sh_idx, sh_int, sh_bound] at h ⊢
         repeat' (split at h)
         all_goals first
           | (simp at h; done)
           | (simp only [Option.some.injEq, Prod.mk.injEq] at h
              obtain ⟨rfl, rfl⟩ := h
              simp_all [sh]))
      | (simp only [sh, sh_idx, sh_int, sh_bound] at h ⊢
         repeat' (split at h)
         all_goals first
           | (simp at h; done)
           | (simp only [Option.some.injEq, Prod.mk.injEq] at h
              obtain ⟨rfl, rfl⟩ := h
              simp_all [sh]))
  case imag x =>
    cases hx : ρ x <;> rw [hx] at h <;> try (simp at h; done)
    all_goals
      first
      | (rename_i d
         cases d <;> try (simp at h; done)
         simp only [sh, sh_idx, sh_int, sh_bound] at h ⊢
         repeat' (split at h)
         all_goals first
           | (simp at h; done)
           | (simp only [Option.some.injEq, Prod.mk.injEq] at h
              obtain ⟨rfl, rfl⟩ := h
              simp_all [sh]))
      | (simp only [sh, sh_idx, sh_int, sh_bound] at h ⊢
         repeat' (split at h)
         all_goals first
           | (simp at h; done)
           | (simp only [Option.some.injEq, Prod.mk.injEq] at h
              obtain ⟨rfl, rfl⟩ := h
              simp_all [sh]))
  case complex x y =>
    split at h
    · rename_i hx hy
      rw [hx, hy]
      simp only [sh]
      split at h
      · simp only [Option.some.injEq, Prod.mk.injEq] at h
        obtain ⟨rfl, rfl⟩ := h
        simp_all [sh]
      · simp at h
    · simp at h
  all_goals simp at h

end
end Go.Abs
end
section
/- The abstract reading of Go code, thirty-first part: code does not know what lies below its heap. -/
namespace Go.Abs

section
variable {n : Nat} {H0 : Heap}

theorem sh_load_eq (hn : n = H0.length) {H : Heap} {k : Option Nat} {a : AV} : loadAt (H0 ++ shH n H) k (sh n a) = (loadAt H k a).map (sh n) := by
  cases h : loadAt H k a with
  | some v => rw [sh_load hn h]; rfl
  | none =>
    rw [Option.map_none]
    cases a with
    | im d =>
      have : loadAt (H0 ++ shH n H) k (.im d) = loadAt H k (.im d) := by cases d <;> rfl
      simp only [sh]
      rw [this]; exact h
    | ptr id i j =>
      simp only [sh, loadAt, shH_get hn] at h ⊢
      cases hid : H[id]? with
      | none => rfl
      | some o =>
        rw [hid] at h
        cases o with
        | hw t m => rfl
        | obj ty es =>
          simp only [Option.map_some, shO, List.getElem?_map] at h ⊢
          cases he : es[i]? with
          | none => rfl
          | some e =>
            rw [he] at h
            simp only [Option.map_some] at h ⊢
            cases k with
            | none =>
              simp only at h ⊢
              rw [List.getElem?_map, h]; rfl
            | some m =>
              simp only [List.length_map] at h ⊢
              split at h
              · simp at h
              · rename_i hk
                rw [if_neg hk]
    | nils => rfl
    | asl s es t => rfl
    | ms s id o m => rfl
    | agg cs => rfl
    | tup cs => rfl
    | clo f cs => rfl
    | any => rfl

theorem ev_sh {tm : List AV} {x : AOpd} (h : closedOpd x = true) : ev (tm.map (sh n)) x = sh n (ev tm x) := by
  cases x with
  | t k =>
    simp only [ev, List.getD_eq_getElem?_getD, List.getElem?_map]
    cases tm[k]? with
    | none => simp [undefA, sh, shs]
    | some a => rfl
  | c a => simp only [ev]; exact (sh_closed h).symm

theorem wanted_sh {tm : List AV} (g : Option (Nat × Bool)) : wantedA (tm.map (sh n)) g = wantedA tm g := by
  cases g with
  | none => rfl
  | some p =>
    obtain ⟨d, b⟩ := p
    simp only [wantedA, List.getElem?_map]
    cases tm[d]? with
    | none => rfl
    | some a =>
      simp only [Option.map_some]
      cases a with
      | tup cs => cases cs <;> rfl
      | im d => rfl
      | nils => rfl
      | asl s es t => rfl
      | ms s id o m => rfl
      | agg cs => rfl
      | ptr i j k => rfl
      | clo f cs => rfl
      | any => rfl

theorem put_sh (tm : List AV) (d : Option Nat) (v : AV) : putA (tm.map (sh n)) d (sh n v) = (putA tm d v).map (sh n) := by
  cases d with
  | none => rfl
  | some d => simp only [putA, List.map_set]

/-- One oracle's answers, moved up, are the other one's. -/
def ShO (n : Nat) (H0 : Heap) (Φ Φ' : Oracle) : Prop := ∀ f args H v H', Φ f args H = some (v, H') → Φ' f (args.map (sh n)) (H0 ++ shH n H) = some (sh n v, H0 ++ shH n H')

theorem aopc_sh (hn : n = H0.length) {Φ Φ' : Oracle} (hΦ : ShO n H0 Φ Φ') {H : Heap} {tm : List AV} {op : AOp} (hc : closedOp op = true) {v : AV} {H' : Heap} (h : aopc Φ H tm op = some (v, H')) :
    aopc Φ' (H0 ++ shH n H) (tm.map (sh n)) op = some (sh n v, H0 ++ shH n H') := by
  have hop : ∀ x ∈ opnds op, closedOpd x = true := by
    unfold closedOp at hc
    rw [Bool.and_eq_true] at hc
    exact fun x hx => List.all_eq_true.1 hc.1 x hx
  by_cases hcall : ∃ f args, op = .call f args
  · obtain ⟨f, args, rfl⟩ := hcall
    simp only [aopc] at h ⊢
    have hf := ev_sh (n := n) (tm := tm) (hop f (by simp [opnds]))
    have ha : args.map (ev (tm.map (sh n))) = (args.map (ev tm)).map (sh n) := by
      rw [List.map_map]
      exact List.map_congr_left fun x hx => ev_sh (hop x (by simp [opnds, hx]))
    rw [hf]
    split at h
    · rename_i g cap hg
      rw [hg]
      simp only [sh, shs_map]
      rw [ha, ← List.map_append]
      exact hΦ _ _ _ _ _ h
    · simp at h
  · have e1 : ∀ Φ H tm, aopc Φ H tm op = aop H (ev tm) op := by
      intro Φ H tm
      cases op <;> first | rfl | (exact absurd ⟨_, _, rfl⟩ hcall)
    rw [e1] at h ⊢
    rw [aop_congr (ρ' := fun x => sh n (ev tm x)) _ (fun x hx => ev_sh (hop x hx))]
    exact aop_sh hn hc h

def closedOps (l : List AOper) : Bool := l.all fun o => closedOp o.op

def s2 (n : Nat) (H0 : Heap) (p : List AV × Heap) : List AV × Heap := (p.1.map (sh n), H0 ++ shH n p.2)

theorem xops_sh (hn : n = H0.length) {Φ Φ' : Oracle} (hΦ : ShO n H0 Φ Φ') {R : Type} {K : List (List AV × Heap) → List AV → Heap → Option R} {x : R} :
    ∀ {l : List AOper} {tr : List (List AV × Heap)} {tm : List AV} {H : Heap}, closedOps l = true → xops Φ l tr tm H K = some x →
    ∃ tr' tm' H', K tr' tm' H' = some x ∧ ∀ {R' : Type} (K' : List (List AV × Heap) → List AV → Heap → Option R'), xops Φ' l (tr.map (s2 n H0)) (tm.map (sh n)) (H0 ++ shH n H) K' = K' (tr'.map (s2 n H0)) (tm'.map (sh n)) (H0 ++ shH n H')
  | [], tr, tm, H, _, h => by
    simp only [xops] at h
    exact ⟨tr, tm, H, h, fun K' => by simp only [xops]⟩
  | o :: l, tr, tm, H, hc, h => by
    simp only [closedOps, List.all_cons, Bool.and_eq_true] at hc
    simp only [xops] at h
    split at h
    · rename_i hw
      split at h
      · rename_i v H1 hv
        obtain ⟨tr', tm', H', h1, h2⟩ := xops_sh hn hΦ hc.2 h
        refine ⟨tr', tm', H', h1, fun K' => ?_⟩
        simp only [xops, wanted_sh, hw, aopc_sh hn hΦ hc.1 hv, put_sh]
        exact h2 K'
      · simp at h
    · rename_i hw
      obtain ⟨tr', tm', H', h1, h2⟩ := xops_sh hn hΦ hc.2 h
      refine ⟨tr', tm', H', h1, fun K' => ?_⟩
      have hu : sh n undefA = undefA := rfl
      simp only [xops, wanted_sh, hw]
      rw [← hu, put_sh]
      exact h2 K'
    · simp at h

theorem stays_sh (hn : n = H0.length) {l : List AOper} (hc : closedOps l = true) {sts : List (List AV × Heap)} {p : Nat × Nat} (h : stays l sts p) : stays l (sts.map (s2 n H0)) p := by
  unfold stays at h ⊢
  simp only [List.getElem?_map]
  split at h
  · rename_i o s a b h1 h2 h3 h4
    simp only [h1, h2, h3, h4, Option.map_some, s2, wanted_sh]
    rcases h with h | h
    · exact .inl h
    · right
      split at h
      · rename_i k x hl
        have hx : closedOpd x = true := by
          have ho := List.all_eq_true.1 hc o (List.mem_of_getElem? h1)
          unfold closedOp at ho
          rw [Bool.and_eq_true] at ho
          refine List.all_eq_true.1 ho.1 x ?_
          cases hop : o.op <;> rw [hop] at hl <;> simp [loadOf] at hl
          simp [opnds, hl.2]
        first | rw [ev_sh hx, sh_load_eq hn, sh_load_eq hn, h] | (rw [hl]; simp only; rw [ev_sh hx, sh_load_eq hn, sh_load_eq hn, h])
      · exact h.elim
  · exact h.elim

theorem xreg_sh (hn : n = H0.length) {Φ Φ' : Oracle} (hΦ : ShO n H0 Φ Φ') {R : Type} {K : List AV → Heap → Option R} {x : R} {l : List AOper} {ps : List (Nat × Nat)} {tm : List AV} {H : Heap} (hc : closedOps l = true) (h : xreg Φ l ps tm H K = some x) :
    ∃ tm' H', K tm' H' = some x ∧ ∀ {R' : Type} (K' : List AV → Heap → Option R'), xreg Φ' l ps (tm.map (sh n)) (H0 ++ shH n H) K' = K' (tm'.map (sh n)) (H0 ++ shH n H') := by
  unfold xreg at h
  split at h
  · obtain ⟨tr', tm', H', h1, h2⟩ := xops_sh hn hΦ hc h
    exact ⟨tm', H', h1, fun K' => by simp only [xreg]; exact h2 _⟩
  · rename_i p ps
    obtain ⟨tr', tm', H', h1, h2⟩ := xops_sh hn hΦ hc h
    split at h1
    · rename_i hall
      refine ⟨tm', H', h1, fun K' => ?_⟩
      simp only [xreg]
      refine (h2 _).trans ?_
      rw [if_pos]
      intro q hq
      have h3 := stays_sh hn hc (hall q hq)
      rw [List.map_reverse, List.map_cons] at h3
      exact h3
    · simp at h1

end
end Go.Abs
end
section
/- The abstract reading of Go code, thirty-second part: calls do not know what lies below their heap. -/
namespace Go.Abs

def closedC : ACode → Bool
  | .skip => true
  | .ops l _ => closedOps l
  | .seq a b => closedC a && closedC b
  | .cond c a b => closedOpd c && closedC a && closedC b
  | .block _ a => closedC a
  | .loop a => closedC a
  | .exit _ => true
  | .scope a b => closedC a && closedC b
  | .label _ => true
  | .goto _ => true
  | .ret => true
  | .bad => true

theorem find_closed : ∀ {a r : ACode} {l : Nat}, closedC a = true → findA a l = some r → closedC r = true
  | .seq a b, r, l, hc, h => by
    simp only [closedC, Bool.and_eq_true] at hc
    simp only [findA] at h
    split at h
    · rename_i rest hr
      injection h with h; subst h
      simp only [closedC, Bool.and_eq_true]
      exact ⟨find_closed hc.1 hr, hc.2⟩
    · exact find_closed hc.2 h
  | .label _, r, l, hc, h => by
    simp only [findA] at h
    split at h
    · injection h with h; subst h; rfl
    · simp at h
  | .skip, r, l, hc, h => by simp [findA] at h
  | .ops _ _, r, l, hc, h => by simp [findA] at h
  | .cond _ _ _, r, l, hc, h => by simp [findA] at h
  | .block _ _, r, l, hc, h => by simp [findA] at h
  | .loop _, r, l, hc, h => by simp [findA] at h
  | .exit _, r, l, hc, h => by simp [findA] at h
  | .scope _ _, r, l, hc, h => by simp [findA] at h
  | .goto _, r, l, hc, h => by simp [findA] at h
  | .ret, r, l, hc, h => by simp [findA] at h
  | .bad, r, l, hc, h => by simp [findA] at h

section
variable {n : Nat} {H0 : Heap}

def shOut (n : Nat) (H0 : Heap) (o : Out) : Out := (o.1, o.2.1.map (sh n), H0 ++ shH n o.2.2)

theorem execF_sh (hn : n = H0.length) {Φ Φ' : Oracle} (hΦ : ShO n H0 Φ Φ') : ∀ {k : Nat} {c : ACode} {tm : List AV} {H : Heap} {o : Out}, closedC c = true → execF Φ k c tm H = some o → execF Φ' k c (tm.map (sh n)) (H0 ++ shH n H) = some (shOut n H0 o)
  | 0, _, _, _, _, _, h => by simp [execF] at h
  | k + 1, c, tm, H, o, hc, h => by
    have ih : ∀ {c : ACode} {tm : List AV} {H : Heap} {o : Out}, closedC c = true → execF Φ k c tm H = some o → execF Φ' k c (tm.map (sh n)) (H0 ++ shH n H) = some (shOut n H0 o) := fun hc h => execF_sh hn hΦ hc h
    cases c <;> simp only [execF] at h ⊢ <;> simp only [closedC, Bool.and_eq_true] at hc
    case ops l ps =>
      obtain ⟨tm', H', h1, h2⟩ := xreg_sh hn hΦ hc h
      injection h1 with h1
      subst h1
      exact h2 _
    case seq a b =>
      cases ha : execF Φ k a tm H with
      | none => rw [ha] at h; simp at h
      | some o1 =>
        rw [ha] at h
        rw [ih hc.1 ha]
        obtain ⟨e, tm1, H1⟩ := o1
        cases e with
        | normal => exact ih hc.2 h
        | exit i => injection h with h; subst h; rfl
        | goto l => injection h with h; subst h; rfl
        | ret => injection h with h; subst h; rfl
    case cond x a b =>
      rw [ev_sh hc.1.1]
      split at h
      · rename_i t ht
        rw [ht]
        simp only [sh]
        split at h
        · rename_i htt; rw [if_pos htt]; exact ih hc.1.2 h
        · rename_i htt; rw [if_neg htt]; exact ih hc.2 h
      · simp at h
    case block id a =>
      cases ha : execF Φ k a tm H with
      | none => rw [ha] at h; simp at h
      | some o1 =>
        rw [ha] at h
        rw [ih hc ha]
        obtain ⟨e, tm1, H1⟩ := o1
        cases e with
        | exit i =>
          simp only [shOut] at h ⊢
          split at h
          · rename_i hi; rw [if_pos hi]; injection h with h; subst h; rfl
          · rename_i hi; rw [if_neg hi]; injection h with h; subst h; rfl
        | normal => injection h with h; subst h; rfl
        | goto l => injection h with h; subst h; rfl
        | ret => injection h with h; subst h; rfl
    case loop a =>
      cases ha : execF Φ k a tm H with
      | none => rw [ha] at h; simp at h
      | some o1 =>
        rw [ha] at h
        rw [ih hc ha]
        obtain ⟨e, tm1, H1⟩ := o1
        cases e with
        | normal => exact ih (c := .loop a) (by simpa only [closedC] using hc) h
        | exit i => injection h with h; subst h; rfl
        | goto l => injection h with h; subst h; rfl
        | ret => injection h with h; subst h; rfl
    case scope body cur =>
      cases ha : execF Φ k cur tm H with
      | none => rw [ha] at h; simp at h
      | some o1 =>
        rw [ha] at h
        rw [ih hc.2 ha]
        obtain ⟨e, tm1, H1⟩ := o1
        cases e with
        | goto l =>
          simp only [shOut] at h ⊢
          cases hf : findA body l with
          | none => rw [hf] at h; simp at h
          | some r =>
            rw [hf] at h
            exact ih (c := .scope body r) (by simp only [closedC, Bool.and_eq_true]; exact ⟨hc.1, find_closed hc.1 hf⟩) h
        | normal => injection h with h; subst h; rfl
        | exit i => injection h with h; subst h; rfl
        | ret => injection h with h; subst h; rfl
    case bad => simp at h
    all_goals
      injection h with h; subst h; rfl

mutual
theorem sh_inj : ∀ {a b : AV}, sh n a = sh n b → a = b
  | .im d, b, h => by cases b <;> simp [sh] at h; rw [h]
  | .nils, b, h => by cases b <;> simp [sh] at h; rfl
  | .asl s es t, b, h => by cases b <;> simp [sh] at h; rw [h.1, h.2.1, h.2.2]
  | .ms s i o k, b, h => by cases b <;> simp [sh] at h; rw [h.1, h.2.1, h.2.2.1, h.2.2.2]
  | .ptr i j k, b, h => by cases b <;> simp [sh] at h; rw [h.1, h.2.1, h.2.2]
  | .agg cs, b, h => by
    cases b <;> simp [sh] at h
    rw [shs_inj h]
  | .tup cs, b, h => by
    cases b <;> simp [sh] at h
    rw [shs_inj h]
  | .clo f cs, b, h => by
    cases b <;> simp [sh] at h
    rw [h.1, shs_inj h.2]
  | .any, b, h => by cases b <;> simp [sh] at h; rfl
theorem shs_inj : ∀ {a b : List AV}, shs n a = shs n b → a = b
  | [], b, h => by cases b <;> simp [shs] at h; rfl
  | a :: l, b, h => by
    cases b <;> simp [shs] at h
    rw [sh_inj h.1, shs_inj h.2]
end

theorem map_inj {α β : Type} {f : α → β} (hf : ∀ {a b}, f a = f b → a = b) : ∀ {l m : List α}, l.map f = m.map f → l = m
  | [], m, h => by cases m <;> simp at h; rfl
  | a :: l, m, h => by
    cases m <;> simp at h
    rw [hf h.1, map_inj hf h.2]

theorem shO_inj {a b : HO} (h : shO n a = shO n b) : a = b := by
  cases a <;> cases b <;> simp [shO] at h
  · rw [h.1, map_inj (fun {x y} hxy => map_inj (fun {u v} huv => sh_inj huv) hxy) h.2]
  · rw [h.1, h.2]

mutual
theorem refs_sh (m : Nat) : ∀ a : AV, refsLt (n + m) (sh n a) = refsLt m a
  | .im _ => rfl
  | .nils => rfl
  | .asl s es t => by simp [sh, refsLt]
  | .ms s i o k => by simp [sh, refsLt]
  | .ptr i j k => by simp [sh, refsLt]
  | .agg cs => by simp only [sh, refsLt, refss_sh m cs]
  | .tup cs => by simp only [sh, refsLt, refss_sh m cs]
  | .clo f cs => by simp only [sh, refsLt, refss_sh m cs]
  | .any => rfl
theorem refss_sh (m : Nat) : ∀ l : List AV, refsLts (n + m) (shs n l) = refsLts m l
  | [] => rfl
  | a :: l => by simp only [shs, refsLts, refs_sh m a, refss_sh m l]
end

theorem refsO_sh (m : Nat) (o : HO) : refsO (n + m) (shO n o) = refsO m o := by
  cases o with
  | hw t k => rfl
  | obj t es =>
    simp only [shO, refsO, List.all_map]
    congr 1
    funext e
    have := refss_sh (n := n) m e
    rw [shs_map] at this
    exact this

theorem held_sh (hn : n = H0.length) {Ha Hb : Heap} : heldIn (H0 ++ shH n Ha) (H0 ++ shH n Hb) ↔ heldIn Ha Hb := by
  unfold heldIn
  rw [shH_len hn]
  constructor
  · intro h i hi
    have := h (n + i) (by omega)
    rw [shH_get hn, shH_get hn] at this
    rcases this with h1 | ⟨o, h1, h2⟩
    · left
      cases ha : Ha[i]? with
      | none => rw [ha] at h1; simp at h1; simpa using h1
      | some a =>
        cases hb : Hb[i]? with
        | none => rw [ha, hb] at h1; simp at h1
        | some b =>
          rw [ha, hb] at h1
          simp only [Option.map_some, Option.some.injEq] at h1
          rw [shO_inj h1]
    · right
      cases hb : Hb[i]? with
      | none => rw [hb] at h1; simp at h1
      | some b =>
        rw [hb] at h1
        simp only [Option.map_some, Option.some.injEq] at h1
        subst h1
        rw [refsO_sh] at h2
        exact ⟨b, rfl, h2⟩
  · intro h i hi
    by_cases hlt : i < n
    · left
      rw [List.getElem?_append_left (by omega), List.getElem?_append_left (by omega)]
    · obtain ⟨j, rfl⟩ : ∃ j, i = n + j := ⟨i - n, by omega⟩
      rw [shH_get hn, shH_get hn]
      rcases h j (by omega) with h1 | ⟨o, h1, h2⟩
      · left; rw [h1]
      · right; exact ⟨shO n o, by rw [h1]; rfl, by rw [refsO_sh]; exact h2⟩

theorem degrade_sh (a : AV) : degrade (sh n a) = sh n (degrade a) := by
  have h1 : ∀ a : AV, degrade1 (sh n a) = sh n (degrade1 a) := fun a => by
    unfold degrade1
    rw [sh_toDat]
    cases toDat a <;> rfl
  unfold degrade
  rw [sh_toDat]
  cases toDat a with
  | some d => rfl
  | none =>
    cases a <;> simp only [sh, shs_map, List.map_map] <;> try rfl
    congr 1
    exact List.map_congr_left fun x _ => h1 x

theorem leave_sh (hn : n = H0.length) {Ha H H' : Heap} {keep : Bool} {r r' : AV} (h : leave Ha keep r H = (r', H')) : leave (H0 ++ shH n Ha) keep (sh n r) (H0 ++ shH n H) = (sh n r', H0 ++ shH n H') := by
  unfold leave at h ⊢
  have e : (if keep = true then sh n r else degrade (sh n r)) = sh n (if keep = true then r else degrade r) := by
    split
    · rfl
    · exact degrade_sh r
  rw [e]
  generalize (if keep = true then r else degrade r) = r1 at h ⊢
  rw [shH_len hn]
  by_cases hc : refsLt Ha.length r1 = true ∧ heldIn Ha H
  · rw [if_pos hc] at h
    rw [if_pos ⟨by rw [refs_sh]; exact hc.1, (held_sh hn).2 hc.2⟩]
    obtain ⟨rfl, rfl⟩ := Prod.mk.inj h
    congr 1
    rw [hn, List.take_append, List.take_of_length_le (by omega), show H0.length + Ha.length - H0.length = Ha.length by omega]
    congr 1
    simp only [shH, List.map_take]
  · rw [if_neg hc] at h
    rw [if_neg fun x => hc ⟨by rw [← refs_sh (n := n)]; exact x.1, (held_sh hn).1 x.2⟩]
    obtain ⟨rfl, rfl⟩ := Prod.mk.inj h
    rfl

theorem resA_sh (hn : n = H0.length) {tm : List AV} {H : Heap} : ∀ {rs : List (Nat × Option (Option Nat))} {l : List AV}, resA tm H rs = some l → resA (tm.map (sh n)) (H0 ++ shH n H) rs = some (l.map (sh n))
  | [], l, h => by
    simp only [resA] at h; injection h with h; subst h; rfl
  | (t, none) :: rs, l, h => by
    simp only [resA] at h ⊢
    split at h
    · rename_i r hr
      injection h with h; subst h
      rw [resA_sh hn hr]
      have := ev_sh (n := n) (tm := tm) (x := .t t) rfl
      simp only [ev] at this
      simp only [this, List.map_cons]
    · simp at h
  | (t, some k) :: rs, l, h => by
    simp only [resA] at h ⊢
    have := ev_sh (n := n) (tm := tm) (x := .t t) rfl
    simp only [ev] at this
    rw [this]
    split at h
    · rename_i v r hv hr
      injection h with h; subst h
      rw [resA_sh hn hr, sh_load hn hv]
      rfl
    · simp at h

theorem tup_sh (l : List AV) : tupA (l.map (sh n)) = sh n (tupA l) := by
  match l with
  | [] => simp [tupA, sh, shs]
  | [a] => rfl
  | a :: b :: l => simp [tupA, sh, shs, shs_map]

theorem enter_sh (f : AFunc) (args : List AV) : enterA f (args.map (sh n)) = (enterA f args).map (sh n) := by
  simp [enterA, sh, undefA, shs]

theorem runF_sh (hn : n = H0.length) {Ψ : Oracle} (hΨ : ShO n H0 Ψ Ψ) {T : FuncId → Option AFunc} (hT : ∀ f af, T f = some af → closedC af.code = true) : ∀ k, ShO n H0 (runF Ψ T k) (runF Ψ T k)
  | 0 => fun f args H v H' h => by simp [runF] at h
  | k + 1 => fun f args H v H' h => by
    have ih := runF_sh hn hΨ hT k
    simp only [runF] at h ⊢
    cases hf : T f with
    | none => rw [hf] at h; exact hΨ _ _ _ _ _ h
    | some af =>
      rw [hf] at h
      simp only at h ⊢
      cases he : execF (runF Ψ T k) k af.code (enterA af args) H with
      | none => rw [he] at h; simp [endA] at h
      | some o =>
        rw [he] at h
        rw [enter_sh, execF_sh hn ih (hT f af hf) he]
        obtain ⟨e, tm, H1⟩ := o
        cases e with
        | normal =>
          simp only [endA, shOut] at h ⊢
          split at h
          · rename_i l hl
            injection h with h
            rw [resA_sh hn hl]
            simp only
            rw [tup_sh, leave_sh hn h]
          · simp at h
        | ret =>
          simp only [endA, shOut] at h ⊢
          split at h
          · rename_i l hl
            injection h with h
            rw [resA_sh hn hl]
            simp only
            rw [tup_sh, leave_sh hn h]
          · simp at h
        | exit i => simp [endA] at h
        | goto l => simp [endA] at h

end
end Go.Abs
end
section
/- The abstract reading of Go code, thirty-third part: a closed run that has been reckoned at the empty heap holds at every heap. -/
namespace Go.Abs

section
variable {n : Nat} {H0 : Heap}

theorem ccA_sh (hn : n = H0.length) {tB : TypeId} {args : List AV} {H : Heap} {v : AV} {H' : Heap} (h : ccA tB args H = some (v, H')) : ccA tB (args.map (sh n)) (H0 ++ shH n H) = some (sh n v, H0 ++ shH n H') := by
  unfold ccA at h
  split at h
  · rename_i _ _ id
    simp only [List.map_cons, List.map_nil, sh, ccA, shH_get hn]
    split at h
    · rename_i ty a0 a1 he
      rw [he]
      simp only [Option.map_some, shO, List.map_cons, List.map_nil]
      split at h
      · rename_i hty
        rw [if_pos hty]
        split at h
        · simp only [Option.some.injEq, Prod.mk.injEq] at h
          obtain ⟨rfl, rfl⟩ := h
          simp only [sh]
          rw [← shH_set hn]
          rfl
        · rename_i id'
          split at h
          · rename_i hid
            subst hid
            simp only [Option.some.injEq, Prod.mk.injEq] at h
            obtain ⟨rfl, rfl⟩ := h
            simp only [sh, if_true]
            rfl
          · simp at h
        · simp at h
      · simp at h
    · simp at h
  · simp at h

theorem stA_sh (hn : n = H0.length) {tB tb : TypeId} {args : List AV} {H : Heap} {v : AV} {H' : Heap} (h : stA tB tb args H = some (v, H')) : stA tB tb (args.map (sh n)) (H0 ++ shH n H) = some (sh n v, H0 ++ shH n H') := by
  unfold stA at h
  split at h
  · rename_i _ _ id
    simp only [List.map_cons, List.map_nil, sh, stA, shH_get hn]
    split at h
    · rename_i ty a0 s es tok he
      rw [he]
      simp only [Option.map_some, shO, List.map_cons, List.map_nil, sh, shH_get hn]
      split at h
      · rename_i ty' k l h1 h2
        rw [h1]
        simp only [Option.map_some, shO, h2]
        split at h
        · rename_i hc
          rw [if_pos hc]
          simp only [Option.some.injEq, Prod.mk.injEq] at h
          obtain ⟨rfl, rfl⟩ := h
          rw [← shH_set hn]
          rfl
        · simp at h
      · simp at h
    · simp at h
  · simp at h

theorem bldA_sh (hn : n = H0.length) (cc st : FuncId) (tB tb : TypeId) : ShO n H0 (bldA cc st tB tb) (bldA cc st tB tb) := fun f args H v H' h => by
  unfold bldA at h ⊢
  split at h
  · rename_i hf; rw [if_pos hf]; exact ccA_sh hn h
  · rename_i hf
    rw [if_neg hf]
    split at h
    · rename_i hg; rw [if_pos hg]; exact stA_sh hn h
    · simp at h
end

theorem runF_le {Ψ : Oracle} {T F : FuncId → Option AFunc} (hT : ∀ f af, T f = some af → F f = some af) (hn : ∀ f, T f = none → F f = none ∨ ∀ args H, Ψ f args H = none) : ∀ k, OLe (runF Ψ T k) (runF Ψ F k)
  | 0 => fun f args H x hx => by simp [runF] at hx
  | k + 1 => fun f args H x hx => by
    have ih := runF_le hT hn k
    simp only [runF] at hx ⊢
    cases hf : T f with
    | none =>
      rw [hf] at hx
      rcases hn f hf with h | h
      · rw [h]; exact hx
      · simp only [h] at hx; simp at hx
    | some af =>
      rw [hf] at hx
      rw [hT f af hf]
      simp only at hx ⊢
      cases he : execF (runF Ψ T k) k af.code (enterA af args) H with
      | none => rw [he] at hx; simp [endA] at hx
      | some o => rw [he] at hx; rw [execF_mono ih (Nat.le_refl _) he]; exact hx

/-- A closed run, reckoned at the empty heap: at every heap. -/
theorem lim_any {cc st : FuncId} {tB tb : TypeId} {T F : FuncId → Option AFunc} (hT : ∀ f af, T f = some af → F f = some af ∧ closedC af.code = true) (hn : ∀ f, T f = none → F f = none ∨ ∀ args H, bldA cc st tB tb f args H = none)
    {k : Nat} {f : FuncId} {d : Dat} (h : runC (bldA cc st tB tb) T k f [] [] = some (.im d, [])) (H : Heap) : Lim (bldA cc st tB tb) F f [] H = some (.im d, H) := by
  have h1 := runC_le (F := T) (fun f af hf => hf) (fun f hf => .inl hf) k _ _ _ _ h
  have h2 := runF_sh (n := H.length) (H0 := H) rfl (bldA_sh rfl cc st tB tb) (fun f af hf => (hT f af hf).2) k _ _ _ _ _ h1
  have h3 := runF_le (fun f af hf => (hT f af hf).1) hn k _ _ _ _ h2
  simp only [List.map_nil, shH, List.append_nil, sh] at h3
  exact lim_iff.2 ⟨k, h3⟩

end Go.Abs
end
section
/- The table's functions are the program's, and hold no place. -/
namespace Go.Abs.Seat
open Go.Proofs
set_option maxRecDepth 10000 in
theorem Tok (f : FuncId) (af : AFunc) (h : T f = some af) : F f = some af ∧ closedC af.code = true := by
  unfold T at h
  by_cases h3 : f = 3
  · subst h3; rw [if_pos rfl] at h; injection h with h; subst h; exact ⟨F3, by kernel_rfl⟩
  rw [if_neg h3] at h
  by_cases h4 : f = 4
  · subst h4; rw [if_pos rfl] at h; injection h with h; subst h; exact ⟨F4, by kernel_rfl⟩
  rw [if_neg h4] at h
  by_cases h5 : f = 5
  · subst h5; rw [if_pos rfl] at h; injection h with h; subst h; exact ⟨F5, by kernel_rfl⟩
  rw [if_neg h5] at h
  by_cases h6 : f = 6
  · subst h6; rw [if_pos rfl] at h; injection h with h; subst h; exact ⟨F6, by kernel_rfl⟩
  rw [if_neg h6] at h
  by_cases h11 : f = 11
  · subst h11; rw [if_pos rfl] at h; injection h with h; subst h; exact ⟨F11, by kernel_rfl⟩
  rw [if_neg h11] at h
  by_cases h12 : f = 12
  · subst h12; rw [if_pos rfl] at h; injection h with h; subst h; exact ⟨F12, by kernel_rfl⟩
  rw [if_neg h12] at h
  by_cases h13 : f = 13
  · subst h13; rw [if_pos rfl] at h; injection h with h; subst h; exact ⟨F13, by kernel_rfl⟩
  rw [if_neg h13] at h
  by_cases h14 : f = 14
  · subst h14; rw [if_pos rfl] at h; injection h with h; subst h; exact ⟨F14, by kernel_rfl⟩
  rw [if_neg h14] at h
  by_cases h15 : f = 15
  · subst h15; rw [if_pos rfl] at h; injection h with h; subst h; exact ⟨F15, by kernel_rfl⟩
  rw [if_neg h15] at h
  by_cases h16 : f = 16
  · subst h16; rw [if_pos rfl] at h; injection h with h; subst h; exact ⟨F16, by kernel_rfl⟩
  rw [if_neg h16] at h
  by_cases h17 : f = 17
  · subst h17; rw [if_pos rfl] at h; injection h with h; subst h; exact ⟨F17, by kernel_rfl⟩
  rw [if_neg h17] at h
  by_cases h18 : f = 18
  · subst h18; rw [if_pos rfl] at h; injection h with h; subst h; exact ⟨F18, by kernel_rfl⟩
  rw [if_neg h18] at h
  by_cases h19 : f = 19
  · subst h19; rw [if_pos rfl] at h; injection h with h; subst h; exact ⟨F19, by kernel_rfl⟩
  rw [if_neg h19] at h
  by_cases h20 : f = 20
  · subst h20; rw [if_pos rfl] at h; injection h with h; subst h; exact ⟨F20, by kernel_rfl⟩
  rw [if_neg h20] at h
  by_cases h21 : f = 21
  · subst h21; rw [if_pos rfl] at h; injection h with h; subst h; exact ⟨F21, by kernel_rfl⟩
  rw [if_neg h21] at h
  by_cases h22 : f = 22
  · subst h22; rw [if_pos rfl] at h; injection h with h; subst h; exact ⟨F22, by kernel_rfl⟩
  rw [if_neg h22] at h
  by_cases h23 : f = 23
  · subst h23; rw [if_pos rfl] at h; injection h with h; subst h; exact ⟨F23, by kernel_rfl⟩
  rw [if_neg h23] at h
  by_cases h45 : f = 45
  · subst h45; rw [if_pos rfl] at h; injection h with h; subst h; exact ⟨F45, by kernel_rfl⟩
  rw [if_neg h45] at h
  by_cases h46 : f = 46
  · subst h46; rw [if_pos rfl] at h; injection h with h; subst h; exact ⟨F46, by kernel_rfl⟩
  rw [if_neg h46] at h
  by_cases h47 : f = 47
  · subst h47; rw [if_pos rfl] at h; injection h with h; subst h; exact ⟨F47, by kernel_rfl⟩
  rw [if_neg h47] at h
  by_cases h48 : f = 48
  · subst h48; rw [if_pos rfl] at h; injection h with h; subst h; exact ⟨F48, by kernel_rfl⟩
  rw [if_neg h48] at h
  by_cases h50 : f = 50
  · subst h50; rw [if_pos rfl] at h; injection h with h; subst h; exact ⟨F50, by kernel_rfl⟩
  rw [if_neg h50] at h
  by_cases h51 : f = 51
  · subst h51; rw [if_pos rfl] at h; injection h with h; subst h; exact ⟨F51, by kernel_rfl⟩
  rw [if_neg h51] at h
  by_cases h52 : f = 52
  · subst h52; rw [if_pos rfl] at h; injection h with h; subst h; exact ⟨F52, by kernel_rfl⟩
  rw [if_neg h52] at h
  by_cases h53 : f = 53
  · subst h53; rw [if_pos rfl] at h; injection h with h; subst h; exact ⟨F53, by kernel_rfl⟩
  rw [if_neg h53] at h
  by_cases h69 : f = 69
  · subst h69; rw [if_pos rfl] at h; injection h with h; subst h; exact ⟨F69, by kernel_rfl⟩
  rw [if_neg h69] at h
  by_cases h70 : f = 70
  · subst h70; rw [if_pos rfl] at h; injection h with h; subst h; exact ⟨F70, by kernel_rfl⟩
  rw [if_neg h70] at h
  by_cases h71 : f = 71
  · subst h71; rw [if_pos rfl] at h; injection h with h; subst h; exact ⟨F71, by kernel_rfl⟩
  rw [if_neg h71] at h
  by_cases h72 : f = 72
  · subst h72; rw [if_pos rfl] at h; injection h with h; subst h; exact ⟨F72, by kernel_rfl⟩
  rw [if_neg h72] at h
  by_cases h73 : f = 73
  · subst h73; rw [if_pos rfl] at h; injection h with h; subst h; exact ⟨F73, by kernel_rfl⟩
  rw [if_neg h73] at h
  by_cases h74 : f = 74
  · subst h74; rw [if_pos rfl] at h; injection h with h; subst h; exact ⟨F74, by kernel_rfl⟩
  rw [if_neg h74] at h
  by_cases h75 : f = 75
  · subst h75; rw [if_pos rfl] at h; injection h with h; subst h; exact ⟨F75, by kernel_rfl⟩
  rw [if_neg h75] at h
  by_cases h76 : f = 76
  · subst h76; rw [if_pos rfl] at h; injection h with h; subst h; exact ⟨F76, by kernel_rfl⟩
  rw [if_neg h76] at h
  by_cases h77 : f = 77
  · subst h77; rw [if_pos rfl] at h; injection h with h; subst h; exact ⟨F77, by kernel_rfl⟩
  rw [if_neg h77] at h
  by_cases h78 : f = 78
  · subst h78; rw [if_pos rfl] at h; injection h with h; subst h; exact ⟨F78, by kernel_rfl⟩
  rw [if_neg h78] at h
  by_cases h79 : f = 79
  · subst h79; rw [if_pos rfl] at h; injection h with h; subst h; exact ⟨F79, by kernel_rfl⟩
  rw [if_neg h79] at h
  by_cases h98 : f = 98
  · subst h98; rw [if_pos rfl] at h; injection h with h; subst h; exact ⟨F98, by kernel_rfl⟩
  rw [if_neg h98] at h
  by_cases h99 : f = 99
  · subst h99; rw [if_pos rfl] at h; injection h with h; subst h; exact ⟨F99, by kernel_rfl⟩
  rw [if_neg h99] at h
  by_cases h100 : f = 100
  · subst h100; rw [if_pos rfl] at h; injection h with h; subst h; exact ⟨F100, by kernel_rfl⟩
  rw [if_neg h100] at h
  by_cases h102 : f = 102
  · subst h102; rw [if_pos rfl] at h; injection h with h; subst h; exact ⟨F102, by kernel_rfl⟩
  rw [if_neg h102] at h
  simp at h
theorem Tno (f : FuncId) (_ : T f = none) : F f = none ∨ ∀ args H, bldA 101 49 94 5 f args H = none := by
  by_cases h1 : f = 101
  · subst h1; left; kernel_rfl
  by_cases h2 : f = 49
  · subst h2; left; kernel_rfl
  right
  intro args H
  simp only [bldA, h1, h2, if_false]
end Go.Abs.Seat
end
section
/- The fixed answer, reckoned; at every heap. -/
namespace Go.Abs.Seat
open Go.Proofs

set_option maxRecDepth 100000 in
theorem awake0 : runC (bldA 101 49 94 5) T 400 11 [] [] = some (.im (.bool true), []) := by kernel_rfl

theorem s11 (H : Heap) : L 11 [] H = some (.im (.bool true), H) := lim_any Tok Tno awake0 H

end Go.Abs.Seat
end
section
/- The law KindMakes: its first loop. -/
set_option linter.unusedVariables false
set_option linter.unusedSimpArgs false
namespace Go.Abs.Seat
open Go.Proofs

mutual
theorem right_mono : ∀ (t : KT) (d : Int), rightT t d = true → rightT t (d + 1) = true
  | .mk k s args, d, h => by
    simp only [rightT] at h ⊢
    split at h
    · rename_i i hi
      split at h
      · simp at h
      · rename_i hd
        rw [if_neg (by omega)]
        split at h
        · rename_i hl
          rw [if_pos hl]
          have := right_monos args (d - 1) (by simpa using h)
          rw [show d + 1 - 1 = d - 1 + 1 by omega]
          simpa using this
        · simp at h
    · simp at h
theorem right_monos : ∀ (l : List KT) (d : Int), rightNot l d = false → rightNot l (d + 1) = false
  | [], d, h => by simp only [rightNot]
  | a :: l, d, h => by
    simp only [rightNot, Bool.or_eq_false_iff, Bool.not_eq_false'] at h ⊢
    exact ⟨right_mono a d h.1, right_monos l d h.2⟩
end

/-- What is made of types of which one is not right is not right. -/
theorem right_args {k : Int} {s : Nat} {args : List KT} {d : Int} (h : rightT (.mk k s args) (d + 1) = true) : ∀ a ∈ args, rightT a d = true := by
  intro a ha
  simp only [rightT] at h
  split at h
  · split at h
    · simp at h
    · split at h
      · rw [rightNot_any] at h
        simp only [Bool.not_eq_true', List.any_eq_false, Bool.not_eq_true', Bool.not_eq_false] at h
        have := h a ha
        rw [show d + 1 - 1 = d by omega] at this
        simpa using this
      · simp at h
  · simp at h

theorem l6a (k : Int) (s : Nat) (args : List KT) (hok : okT (.mk k s args)) :
    ∀ (m i : Nat), i + m = args.length → ∀ (tm : List AV) (H : Heap) (n : Int), tm.length = 152 → tm.getD 0 undefA = .im (.int .i64 k) → tm.getD 1 undefA = .im (.sl s (args.map encT)) → tm.getD 5 undefA = .im (.int .i64 n) →
    tm.getD 27 undefA = .im (.sl s (args.map encT)) → tm.getD 28 undefA = .im (.int .i64 args.length) → tm.getD 29 undefA = .im (.int .i64 i) →
    ∃ e tm' H', Λ c6_1 tm H = some (e, tm', H') ∧ tm'.length = 152 ∧ tm'.getD 0 undefA = .im (.int .i64 k) ∧ tm'.getD 1 undefA = .im (.sl s (args.map encT)) ∧ (∃ M, H' = H ++ M) ∧
      ((e = .ret ∧ tm'.getD 4 undefA = .im (.bool true)) ∨ (e = .exit 0 ∧ (∀ a ∈ args.drop i, rightT a 6 = true) ∧ tm'.getD 5 undefA = .im (.int .i64 (if i = args.length then n else max n (depthTs (args.drop i))))))
  | 0, i, hi, tm, H, n, hlen, h0, h1, h5, h27, h28, h29 => by
    have e : args.drop i = [] := by rw [List.drop_eq_nil_iff]; omega
    have hc : decide ((i : Int) < (args.length : Int)) = false := decide_eq_false (by omega)
    rw [l6_1, e]
    simp only [b6_1, exec0, xreg, xops, wantedA, aopc, aop, ev, putA, endK, resA, tupA, List.length_cons, List.length_nil, List.replicate, List.cons_append, List.nil_append, List.append_nil, List.append_assoc, gs_same, gs_ne, gq_same, gq_ne, List.length_set, List.map_cons, List.map_nil, cellsOf, List.all_cons, List.all_nil, cellOk, boxTy, Bool.and_true, Bool.and_self, if_true, ite_true, ite_false, loadAt, storeAt, setAt, hget, hget0, hset, hset0, List.getElem?_cons_zero, List.getElem?_cons_succ, List.set_cons_zero, List.set_cons_succ, Nat.add_zero, Nat.zero_add, Nat.reduceAdd, Nat.reduceSub, Nat.reduceLeDiff, Nat.reduceLT, Nat.reduceEqDiff, Nat.le_refl, and_self, and_true, true_and, mkAgg, toIms, List.drop_zero, List.drop_succ_cons, List.take_succ_cons, List.take_zero, List.length_append, binA, isShift, binInt, binBool, unA, Bool.false_eq_true, if_false, partA, fillA, fillE, List.take_nil, Nat.zero_ne_one, Nat.one_ne_zero, not_false_eq_true, ne_eq, Nat.succ_ne_self, reduceCtorEq, Int.reduceEq, Int.reduceLT, Int.reduceLE, decide_true, decide_false, lenA, beq_self_eq_true, beq_true, beq_false, Bool.not_true, Bool.not_false, hlen, h0, h1, h5, h27, h28, h29, hc]
    exact ⟨_, _, _, rfl, by simp only [List.length_set, hlen], by simp only [gs_same, gs_ne, List.length_set, Nat.reduceLT, Nat.reduceEqDiff, not_false_eq_true, hlen, h0], by simp only [gs_same, gs_ne, List.length_set, Nat.reduceLT, Nat.reduceEqDiff, not_false_eq_true, hlen, h1], ⟨[], by simp⟩, .inr ⟨rfl, by simp, by simp only [gs_same, gs_ne, List.length_set, Nat.reduceLT, Nat.reduceEqDiff, not_false_eq_true, hlen, h5, show i = args.length by omega, if_true]⟩⟩
  | m + 1, i, hi, tm, H, n, hlen, h0, h1, h5, h27, h28, h29 => by
    have hok' := hok
    simp only [okT] at hok'
    obtain ⟨hs, hn, hoks⟩ := hok'
    have hlt : i < args.length := by omega
    obtain ⟨w, hwi⟩ : ∃ w, args[i]? = some w := ⟨_, List.getElem?_eq_getElem hlt⟩
    have e : args.drop i = w :: args.drop (i + 1) := by
      rw [List.drop_eq_getElem_cons hlt]
      congr 1
      rw [List.getElem?_eq_getElem hlt] at hwi
      exact Option.some.inj hwi
    have hs2 : s = 2 := by
      rcases hs with hs | hs
      · subst hs; simp at hlt
      · exact hs
    subst hs2
    have hmem := List.mem_of_getElem? hwi
    have hc' : decide ((i : Int) < (args.length : Int)) = true := decide_eq_true (by omega)
    have hix := idx_nat (n := (args.map encT).length) (i := i) (by simpa using hlt)
    have hgw : (args.map encT)[i]? = some (encT w) := by rw [List.getElem?_map, hwi]; rfl
    have hwr := wrap_nat (i := i) (by omega)
    have h16 := s16 w (okTs_mem hoks w hmem)
    have h20 := s20 w (okTs_mem hoks w hmem)
    have h21 := s21 k 2 args hok
    rw [encTs_map] at h21
    have key := l6a k 2 args hok m (i + 1) (by omega)
    have hda := right_args (k := k) (s := 2) (args := args) (d := 5)
    rw [l6_1, if_neg (by omega), e]
    rcases Bool.eq_false_or_eq_true (smallT w 2000 30).1 with hsm | hsm
    · rcases Bool.eq_false_or_eq_true (rightT w 6) with hr | hr
      · simp only [checkT, hr, if_true] at h20
        simp only [hsm] at h16
        have hd : depthTs (w :: args.drop (i + 1)) = max (depthT w) (depthTs (args.drop (i + 1))) := by rw [depthTs]
        rw [hd]
        have hp2 : 0 ≤ depthT w := by
          cases w with
          | mk a b c =>
            have := depthTs_pos c
            simp only [depthT]; omega
        have hrw := hr
        generalize hdw : depthT w = dw at *
        have hall : ∀ a ∈ w :: args.drop (i + 1), rightT a 6 = true ∨ a ∈ args.drop (i + 1) := fun a ha => by
          rcases List.mem_cons.1 ha with rfl | h
          · exact .inl hrw
          · exact .inr h
        clear hda h21 hmem hdw hd hr hrw
        obtain ⟨k', s', ts⟩ := w
        simp only [encT] at h16 h20 hgw
        simp only [b6_1, exec0, xreg, xops, wantedA, aopc, aop, ev, putA, endK, resA, tupA, List.length_cons, List.length_nil, List.replicate, List.cons_append, List.nil_append, List.append_nil, List.append_assoc, gs_same, gs_ne, gq_same, gq_ne, List.length_set, List.map_cons, List.map_nil, cellsOf, List.all_cons, List.all_nil, cellOk, boxTy, Bool.and_true, Bool.and_self, if_true, ite_true, ite_false, loadAt, storeAt, setAt, hget, hget0, hset, hset0, List.getElem?_cons_zero, List.getElem?_cons_succ, List.set_cons_zero, List.set_cons_succ, Nat.add_zero, Nat.zero_add, Nat.reduceAdd, Nat.reduceSub, Nat.reduceLeDiff, Nat.reduceLT, Nat.reduceEqDiff, Nat.le_refl, and_self, and_true, true_and, mkAgg, toIms, List.drop_zero, List.drop_succ_cons, List.take_succ_cons, List.take_zero, List.length_append, binA, isShift, binInt, binBool, unA, Bool.false_eq_true, if_false, partA, fillA, fillE, List.take_nil, Nat.zero_ne_one, Nat.one_ne_zero, not_false_eq_true, ne_eq, Nat.succ_ne_self, reduceCtorEq, Int.reduceEq, Int.reduceLT, Int.reduceLE, decide_true, decide_false, lenA, beq_self_eq_true, beq_true, beq_false, Bool.not_true, Bool.not_false, hlen, h0, h1, h5, h27, h28, h29, hc', hix, hgw, h16, h20, hwr, max_ii]
        refine ex_imp (key _ _ (max n dw) ?_ ?_ ?_ ?_ ?_ ?_ ?_) ?_
        iterate 7 simp only [gs_same, gs_ne, List.length_set, Nat.reduceLT, Nat.reduceEqDiff, not_false_eq_true, hlen, h0, h1, h5, h27, h28, h29]
        rintro e tm' H' ⟨hl', g0, g1, ⟨M, hM⟩, hg⟩
        refine ⟨hl', g0, g1, ⟨_ :: M, by rw [hM, List.append_assoc]; rfl⟩, ?_⟩
        rcases hg with hg | ⟨he, hg1, hg2⟩
        · exact .inl hg
        · refine .inr ⟨he, fun a ha => (hall a ha).elim id (hg1 a), ?_⟩
          rw [hg2]
          have hp := depthTs_pos (args.drop (i + 1))
          split
          · rename_i he'
            have : args.drop (i + 1) = [] := by rw [List.drop_eq_nil_iff]; omega
            rw [this]
            simp only [depthTs]
            congr 2
            omega
          · congr 2
            omega
      · have hno : rightT (.mk k 2 args) 6 = false := by
          rcases Bool.eq_false_or_eq_true (rightT (.mk k 2 args) 6) with h | h
          · have := right_mono w 5 (hda h w hmem)
            rw [show (5 : Int) + 1 = 6 from rfl, hr] at this
            simp at this
          · exact h
        simp only [checkT, hr, Bool.false_eq_true, if_false] at h20
        simp only [hsm] at h16
        simp only [checkT, hno, Bool.false_eq_true, if_false] at h21
        clear hda hno hr
        obtain ⟨k', s', ts⟩ := w
        simp only [encT] at h16 h20 hgw
        simp only [b6_1, exec0, xreg, xops, wantedA, aopc, aop, ev, putA, endK, resA, tupA, List.length_cons, List.length_nil, List.replicate, List.cons_append, List.nil_append, List.append_nil, List.append_assoc, gs_same, gs_ne, gq_same, gq_ne, List.length_set, List.map_cons, List.map_nil, cellsOf, List.all_cons, List.all_nil, cellOk, boxTy, Bool.and_true, Bool.and_self, if_true, ite_true, ite_false, loadAt, storeAt, setAt, hget, hget0, hset, hset0, List.getElem?_cons_zero, List.getElem?_cons_succ, List.set_cons_zero, List.set_cons_succ, Nat.add_zero, Nat.zero_add, Nat.reduceAdd, Nat.reduceSub, Nat.reduceLeDiff, Nat.reduceLT, Nat.reduceEqDiff, Nat.le_refl, and_self, and_true, true_and, mkAgg, toIms, List.drop_zero, List.drop_succ_cons, List.take_succ_cons, List.take_zero, List.length_append, binA, isShift, binInt, binBool, unA, Bool.false_eq_true, if_false, partA, fillA, fillE, List.take_nil, Nat.zero_ne_one, Nat.one_ne_zero, not_false_eq_true, ne_eq, Nat.succ_ne_self, reduceCtorEq, Int.reduceEq, Int.reduceLT, Int.reduceLE, decide_true, decide_false, lenA, beq_self_eq_true, beq_true, beq_false, Bool.not_true, Bool.not_false, hlen, h0, h1, h5, h27, h28, h29, hc', hix, hgw, h16, h20, h21, s11, hwr]
        exact ⟨_, _, _, rfl, by simp only [List.length_set, hlen], by simp only [gs_same, gs_ne, List.length_set, Nat.reduceLT, Nat.reduceEqDiff, not_false_eq_true, hlen, h0], by simp only [gs_same, gs_ne, List.length_set, Nat.reduceLT, Nat.reduceEqDiff, not_false_eq_true, hlen, h1], ⟨_, rfl⟩, .inl ⟨rfl, by simp only [gs_same, gs_ne, List.length_set, Nat.reduceLT, Nat.reduceEqDiff, not_false_eq_true, hlen]⟩⟩
    · simp only [hsm] at h16
      clear hda
      obtain ⟨k', s', ts⟩ := w
      simp only [encT] at h16 hgw
      simp only [b6_1, exec0, xreg, xops, wantedA, aopc, aop, ev, putA, endK, resA, tupA, List.length_cons, List.length_nil, List.replicate, List.cons_append, List.nil_append, List.append_nil, List.append_assoc, gs_same, gs_ne, gq_same, gq_ne, List.length_set, List.map_cons, List.map_nil, cellsOf, List.all_cons, List.all_nil, cellOk, boxTy, Bool.and_true, Bool.and_self, if_true, ite_true, ite_false, loadAt, storeAt, setAt, hget, hget0, hset, hset0, List.getElem?_cons_zero, List.getElem?_cons_succ, List.set_cons_zero, List.set_cons_succ, Nat.add_zero, Nat.zero_add, Nat.reduceAdd, Nat.reduceSub, Nat.reduceLeDiff, Nat.reduceLT, Nat.reduceEqDiff, Nat.le_refl, and_self, and_true, true_and, mkAgg, toIms, List.drop_zero, List.drop_succ_cons, List.take_succ_cons, List.take_zero, List.length_append, binA, isShift, binInt, binBool, unA, Bool.false_eq_true, if_false, partA, fillA, fillE, List.take_nil, Nat.zero_ne_one, Nat.one_ne_zero, not_false_eq_true, ne_eq, Nat.succ_ne_self, reduceCtorEq, Int.reduceEq, Int.reduceLT, Int.reduceLE, decide_true, decide_false, lenA, beq_self_eq_true, beq_true, beq_false, Bool.not_true, Bool.not_false, hlen, h0, h1, h5, h27, h28, h29, hc', hix, hgw, h16, s11, hwr]
      exact ⟨_, _, _, rfl, by simp only [List.length_set, hlen], by simp only [gs_same, gs_ne, List.length_set, Nat.reduceLT, Nat.reduceEqDiff, not_false_eq_true, hlen, h0], by simp only [gs_same, gs_ne, List.length_set, Nat.reduceLT, Nat.reduceEqDiff, not_false_eq_true, hlen, h1], ⟨_, rfl⟩, .inl ⟨rfl, by simp only [gs_same, gs_ne, List.length_set, Nat.reduceLT, Nat.reduceEqDiff, not_false_eq_true, hlen]⟩⟩

end Go.Abs.Seat
end
section
/- The law KindMakes: its second loop. -/
set_option linter.unusedVariables false
set_option linter.unusedSimpArgs false
namespace Go.Abs.Seat
open Go.Proofs

theorem l6b (s : Nat) (args : List KT) (hs : args = [] ∨ s = 2) (hoks : okTs args) (hn : args.length ≤ 2) (hr : ∀ a ∈ args, rightT a 6 = true) :
    ∀ (m i : Nat), i + m = args.length → ∀ (tm : List AV) (H : Heap) (txt : List UInt8), txt.length + (showTs (args.drop i) (sepB i)).length ≤ 2 ^ 62 → tm.length = 152 → tm.getD 14 undefA = .im (.str txt) →
    tm.getD 96 undefA = .im (.sl s (args.map encT)) → tm.getD 97 undefA = .im (.int .i64 args.length) → tm.getD 98 undefA = .im (.int .i64 i) →
    ∃ e tm' H', Λ c6_0 tm H = some (e, tm', H') ∧ tm'.length = 152 ∧ e = .exit 2 ∧ (∀ j, j = 1 ∨ j = 5 ∨ j = 12 ∨ j = 13 ∨ j = 15 ∨ j = 16 → tm'.getD j undefA = tm.getD j undefA) ∧ (∃ M, H' = H ++ M) ∧
      tm'.getD 14 undefA = .im (.str (txt ++ showTs (args.drop i) (sepB i)))
  | 0, i, hi, tm, H, txt, hb, hlen, h14, h96, h97, h98 => by
    have e : args.drop i = [] := by rw [List.drop_eq_nil_iff]; omega
    have hc : decide ((i : Int) < (args.length : Int)) = false := decide_eq_false (by omega)
    rw [l6_0, e]
    simp only [b6_0, exec0, xreg, xops, wantedA, aopc, aop, ev, putA, endK, resA, tupA, List.length_cons, List.length_nil, List.replicate, List.cons_append, List.nil_append, List.append_nil, List.append_assoc, gs_same, gs_ne, gq_same, gq_ne, List.length_set, List.map_cons, List.map_nil, cellsOf, List.all_cons, List.all_nil, cellOk, boxTy, Bool.and_true, Bool.and_self, if_true, ite_true, ite_false, loadAt, storeAt, setAt, hget, hget0, hset, hset0, List.getElem?_cons_zero, List.getElem?_cons_succ, List.set_cons_zero, List.set_cons_succ, Nat.add_zero, Nat.zero_add, Nat.reduceAdd, Nat.reduceSub, Nat.reduceLeDiff, Nat.reduceLT, Nat.reduceEqDiff, Nat.le_refl, and_self, and_true, true_and, mkAgg, toIms, List.drop_zero, List.drop_succ_cons, List.take_succ_cons, List.take_zero, List.length_append, binA, isShift, binInt, binBool, unA, Bool.false_eq_true, if_false, partA, fillA, fillE, List.take_nil, Nat.zero_ne_one, Nat.one_ne_zero, not_false_eq_true, ne_eq, Nat.succ_ne_self, reduceCtorEq, Int.reduceEq, Int.reduceLT, Int.reduceLE, decide_true, decide_false, lenA, beq_self_eq_true, beq_true, beq_false, Bool.not_true, Bool.not_false, hlen, h14, h96, h97, h98, hc]
    exact ⟨_, _, _, rfl, by simp only [List.length_set, hlen], rfl, by rintro j (rfl | rfl | rfl | rfl | rfl | rfl) <;> simp only [gs_same, gs_ne, List.length_set, Nat.reduceLT, Nat.reduceEqDiff, not_false_eq_true, hlen], ⟨[], by simp⟩, by simp only [gs_same, gs_ne, List.length_set, Nat.reduceLT, Nat.reduceEqDiff, not_false_eq_true, hlen, h14, showTs, List.append_nil]⟩
  | m + 1, i, hi, tm, H, txt, hb, hlen, h14, h96, h97, h98 => by
    have hlt : i < args.length := by omega
    obtain ⟨w, hwi⟩ : ∃ w, args[i]? = some w := ⟨_, List.getElem?_eq_getElem hlt⟩
    have e : args.drop i = w :: args.drop (i + 1) := by
      rw [List.drop_eq_getElem_cons hlt]
      congr 1
      rw [List.getElem?_eq_getElem hlt] at hwi
      exact Option.some.inj hwi
    have hs2 : s = 2 := by
      rcases hs with hs | hs
      · subst hs; simp at hlt
      · exact hs
    subst hs2
    have hmem := List.mem_of_getElem? hwi
    have hc' : decide ((i : Int) < (args.length : Int)) = true := decide_eq_true (by omega)
    have hix := idx_nat (n := (args.map encT).length) (i := i) (by simpa using hlt)
    have hgw : (args.map encT)[i]? = some (encT w) := by rw [List.getElem?_map, hwi]; rfl
    have hwr := wrap_nat (i := i) (by omega)
    have h17 := s17 w (okTs_mem hoks w hmem)
    rw [hr w hmem] at h17
    simp only [if_true] at h17
    have key := l6b 2 args hs hoks hn hr m (i + 1) (by omega)
    have hsb : sepB (i + 1) = 44 := by simp [sepB]
    have hmin : minA (.im (.int .i64 i)) (.im (.int .i64 1)) = some (.im (.int .i64 i)) := by
      have h1 : ¬ ((1 : Int) < (i : Int)) := by omega
      simp only [minA, if_neg h1]
    have hix2 : ∀ es : List (List Dat), es.length = 2 → idx (.im (.int .i64 i)) es.length = some i := fun es he => idx_nat (by omega)
    have hsep : ([[.str [40]], [.str [44]]] : List (List Dat))[i]? = some [.str [sepB i]] := by
      have : i = 0 ∨ i = 1 := by omega
      rcases this with rfl | rfl <;> rfl
    have hsl : fillE 1 (List.replicate 2 [.im (.str [])]) [(0, .im (.str [40])), (1, .im (.str [44]))] = some [[.im (.str [40])], [.im (.str [44])]] := rfl
    have hds : toDatss [[.im (.str [40])], [.im (.str [44])]] = some [[.str [40]], [.str [44]]] := rfl
    rw [e] at hb
    simp only [showTs, List.length_cons, List.length_append] at hb
    rw [l6_0, e]
    generalize hsw : showT w = sw at *
    generalize hsbi : sepB i = c at *
    have hix2' : idx (.im (.int .i64 i)) 2 = some i := idx_nat (by omega)
    have hl1 : [c].length + sw.length ≤ 2 ^ 62 := by simp; omega
    have hl2 : txt.length + ([c] ++ sw).length ≤ 2 ^ 62 := by simp; omega
    have ha1 : binA .add (.im (.str [c])) (.im (.str sw)) = some (.im (.str ([c] ++ sw))) := by simp only [binA, binStr, if_pos hl1]
    have ha2 : binA .add (.im (.str txt)) (.im (.str ([c] ++ sw))) = some (.im (.str (txt ++ ([c] ++ sw)))) := by simp only [binA, binStr, if_pos hl2]
    have hlss : binA .lss (.im (.int .i64 i)) (.im (.int .i64 args.length)) = some (.im (.bool true)) := by simp only [binA, isShift, Bool.false_eq_true, if_false, if_true, binInt, hc']
    have hinc : binA .add (.im (.int .i64 i)) (.im (.int .i64 1)) = some (.im (.int .i64 ((i + 1 : Nat) : Int))) := by simp only [binA, isShift, Bool.false_eq_true, if_false, if_true, binInt, hwr]
    obtain ⟨k', s', ts⟩ := w
    simp only [encT] at h17 hgw
    simp only [b6_0, exec0, xreg, xops, wantedA, aopc, aop, ev, putA, gs_same, gs_ne, List.length_set, hlen, Nat.reduceLT, Nat.reduceEqDiff, not_false_eq_true, if_true, h14, h96, h97, h98, hlss, hix, hgw, loadAt, List.length_cons, List.length_nil, Nat.reduceAdd, Nat.reduceLeDiff, Nat.le_refl, List.take_succ_cons, List.take_zero, storeAt, hget0, List.getElem?_cons_zero, cellsOf, List.map_cons, List.map_nil, Nat.zero_add, List.all_cons, List.all_nil, cellOk, Bool.and_true, and_self, setAt, List.set_cons_zero, List.set_cons_succ, hset0, List.drop_zero, mkAgg, toIms, List.append_nil, h17, List.getElem?_cons_succ, hsl, Bool.false_eq_true, if_false, hds, hmin, hix2', hsep, ha1, ha2, hinc]
    refine ex_imp (key _ _ (txt ++ ([c] ++ sw)) (by rw [hsb]; simp; omega) ?_ ?_ ?_ ?_ ?_) ?_
    iterate 5 simp only [gs_same, gs_ne, List.length_set, Nat.reduceLT, Nat.reduceEqDiff, not_false_eq_true, hlen, h14, h96, h97, h98]
    rintro e tm' H' ⟨hl', he, g, ⟨M, hM⟩, hg⟩
    refine ⟨hl', he, ?_, ⟨_ :: M, by rw [hM, List.append_assoc]; rfl⟩, ?_⟩
    · rintro j (rfl | rfl | rfl | rfl | rfl | rfl)
      all_goals (rw [g _ (by simp)]; simp only [gs_same, gs_ne, List.length_set, Nat.reduceLT, Nat.reduceEqDiff, not_false_eq_true, hlen])
    · rw [hg, hsb]
      simp only [showTs, hsw, List.append_assoc, List.cons_append, List.nil_append]

end Go.Abs.Seat
end
section
/- The law KindMakes: what holds of types, no program in sight. -/
set_option linter.unusedVariables false
set_option linter.unusedSimpArgs false
namespace Go.Abs.Seat
open Go.Proofs

theorem kidx_cases (k : Int) : (k = 1 ∨ k = 2 ∨ k = 3 ∨ k = 4 ∨ k = 5 ∨ k = 6 ∨ k = 7 ∨ k = 9) ∨ kidx k = none := by
  by_cases h1 : k = 1
  · simp [h1]
  by_cases h2 : k = 2
  · simp [h2]
  by_cases h3 : k = 3
  · simp [h3]
  by_cases h4 : k = 4
  · simp [h4]
  by_cases h5 : k = 5
  · simp [h5]
  by_cases h6 : k = 6
  · simp [h6]
  by_cases h7 : k = 7
  · simp [h7]
  by_cases h9 : k = 9
  · simp [h9]
  exact .inr (kidx_none h1 h2 h3 h4 h5 h6 h7 h9)

theorem gath_word (k : Int) : gath k words = wordK k := by
  rcases kidx_cases k with (rfl | rfl | rfl | rfl | rfl | rfl | rfl | rfl) | h
  · rfl
  · rfl
  · rfl
  · rfl
  · rfl
  · rfl
  · rfl
  · rfl
  · have : ∀ l : List Word, l.findIdx? (fun w => decide (w.1 = k)) = none → gath k l = [] := by
      intro l
      induction l with
      | nil => intro _; rfl
      | cons w l ih =>
        intro hn
        rw [List.findIdx?_cons] at hn
        by_cases hw : w.1 = k
        · simp [hw] at hn
        · simp only [hw, decide_false, Bool.false_eq_true, if_false, Option.map_eq_none_iff] at hn
          simp only [gath, hw, if_false, ih hn, List.append_nil]
    rw [this words h]
    unfold wordK
    rw [h]

theorem word_none {k : Int} (h : wordK k = []) : kidx k = none := by
  rcases kidx_cases k with (rfl | rfl | rfl | rfl | rfl | rfl | rfl | rfl) | h'
  · exact absurd h (by decide)
  · exact absurd h (by decide)
  · exact absurd h (by decide)
  · exact absurd h (by decide)
  · exact absurd h (by decide)
  · exact absurd h (by decide)
  · exact absurd h (by decide)
  · exact absurd h (by decide)
  · exact h'

mutual
/-- What is right and not deeper than this is right for this. -/
theorem right_for : ∀ (t : KT) (d d' : Int), rightT t d = true → depthT t ≤ d' → rightT t d' = true
  | .mk k s args, d, d', h, hd => by
    simp only [depthT] at hd
    have hp := depthTs_pos args
    simp only [rightT] at h ⊢
    split at h
    · rename_i i hi
      split at h
      · simp at h
      · rw [if_neg (by omega)]
        split at h
        · rename_i hl
          rw [if_pos hl]
          have := right_fors args (d - 1) (d' - 1) (by simpa using h) (by omega)
          simpa using this
        · simp at h
    · simp at h
theorem right_fors : ∀ (l : List KT) (d d' : Int), rightNot l d = false → depthTs l ≤ d' → rightNot l d' = false
  | [], d, d', h, hd => by simp only [rightNot]
  | a :: l, d, d', h, hd => by
    simp only [rightNot, Bool.or_eq_false_iff, Bool.not_eq_false'] at h ⊢
    simp only [depthTs] at hd
    exact ⟨right_for a d d' h.1 (by omega), right_fors l d d' h.2 (by omega)⟩
end

/-- When is what is made right? -/
theorem right_made {k : Int} {s : Nat} {args : List KT} (hr : ∀ a ∈ args, rightT a 6 = true) : rightT (.mk k s args) 6 = true ↔ (wordK k ≠ [] ∧ (args.length : Int) = cntK k ∧ depthTs args + 1 ≤ 6) := by
  constructor
  · intro h
    have hd := right_depth _ _ h
    simp only [depthT] at hd
    refine ⟨fun hw => ?_, ?_, hd⟩
    · simp only [rightT, word_none hw] at h
      simp at h
    · simp only [rightT] at h
      split at h
      · rename_i i hi
        split at h
        · simp at h
        · split at h
          · rename_i hl
            unfold cntK
            rw [hi]
            exact hl
          · simp at h
      · simp at h
  · rintro ⟨hw, hl, hd⟩
    cases hi : kidx k with
    | none => exact absurd (by unfold wordK; rw [hi]) hw
    | some i =>
      simp only [rightT, hi]
      unfold cntK at hl
      rw [hi] at hl
      rw [if_neg (by decide), if_pos hl]
      have h6 : rightNot args 6 = false := by
        rw [rightNot_any, List.any_eq_false]
        intro a ha
        simp [hr a ha]
      have := right_fors args 6 (6 - 1) h6 (by omega)
      simpa using this

mutual
theorem clone_right : ∀ (t : KT) (d : Int), rightT (cloneT t) d = rightT t d
  | .mk k s args, d => by
    have hl : (cloneTs args).length = args.length := by rw [cloneTs_map]; simp
    simp only [cloneT, rightT, hl, clone_rights args (d - 1)]
theorem clone_rights : ∀ (l : List KT) (d : Int), rightNot (cloneTs l) d = rightNot l d
  | [], d => rfl
  | a :: l, d => by simp only [cloneTs, rightNot, clone_right a d, clone_rights l d]
end

mutual
theorem clone_depth : ∀ (t : KT), depthT (cloneT t) = depthT t
  | .mk k s args => by simp only [cloneT, depthT, clone_depths args]
theorem clone_depths : ∀ (l : List KT), depthTs (cloneTs l) = depthTs l
  | [] => rfl
  | a :: l => by simp only [cloneTs, depthTs, clone_depth a, clone_depths l]
end

mutual
theorem clone_show : ∀ (t : KT), showT (cloneT t) = showT t
  | .mk k s args => by
    have hl : (cloneTs args).length = args.length := by rw [cloneTs_map]; simp
    simp only [cloneT, showT, hl, clone_shows args]
theorem clone_shows : ∀ (l : List KT) (c : UInt8), showTs (cloneTs l) c = showTs l c
  | [], c => rfl
  | a :: l, c => by simp only [cloneTs, showTs, clone_show a, clone_shows l]
end

mutual
theorem clone_ok : ∀ (t : KT), okT t → okT (cloneT t)
  | .mk k s args, h => by
    have hl : (cloneTs args).length = args.length := by rw [cloneTs_map]; simp
    simp only [okT] at h
    simp only [cloneT, okT]
    refine ⟨?_, by omega, clone_oks args h.2.2⟩
    by_cases h0 : args.length = 0
    · left
      have : (cloneTs args).length = 0 := by omega
      exact List.length_eq_zero_iff.1 this
    · right; rw [if_neg h0]
theorem clone_oks : ∀ (l : List KT), okTs l → okTs (cloneTs l)
  | [], h => by simp only [cloneTs, okTs]
  | a :: l, h => by
    simp only [okTs] at h
    simp only [cloneTs, okTs]
    exact ⟨clone_ok a h.1, clone_oks l h.2⟩
end

end Go.Abs.Seat
end
section
/- The abstract reading of Go code, thirty-fourth part: what stands behind code, folded: so that simp does not go through it ahead of time. -/
namespace Go.Abs

section
variable {R : Type} {Φ : Oracle} {Λ : ACode → List AV → Heap → Option Out} {K : AEx → List AV → Heap → Option R} {tm : List AV} {H : Heap}

/-- Behind the first part of two. -/
noncomputable def seqK (Φ : Oracle) (Λ : ACode → List AV → Heap → Option Out) (b : ACode) (K : AEx → List AV → Heap → Option R) (e : AEx) (tm : List AV) (H : Heap) : Option R := match e with
  | .normal => exec0 Φ Λ b tm H K
  | .exit i => K (.exit i) tm H
  | .goto l => K (.goto l) tm H
  | .ret => K .ret tm H

/-- Behind a block. -/
def blockK (id : Nat) (K : AEx → List AV → Heap → Option R) (e : AEx) (tm : List AV) (H : Heap) : Option R := match e with
  | .exit i => if i = id then K .normal tm H else K (.exit i) tm H
  | .normal => K .normal tm H
  | .goto l => K (.goto l) tm H
  | .ret => K .ret tm H

theorem x_seq {a b : ACode} : exec0 Φ Λ (.seq a b) tm H K = exec0 Φ Λ a tm H (seqK Φ Λ b K) := _root_.id rfl
theorem x_block {id : Nat} {a : ACode} : exec0 Φ Λ (.block id a) tm H K = exec0 Φ Λ a tm H (blockK id K) := _root_.id rfl
theorem x_skip : exec0 Φ Λ .skip tm H K = K .normal tm H := _root_.id rfl
theorem x_label {l : Nat} : exec0 Φ Λ (.label l) tm H K = K .normal tm H := _root_.id rfl
theorem x_ops {l : List AOper} {ps : List (Nat × Nat)} : exec0 Φ Λ (.ops l ps) tm H K = xreg Φ l ps tm H (K .normal) := _root_.id rfl
theorem x_cond {c : AOpd} {a b : ACode} : exec0 Φ Λ (.cond c a b) tm H K = match ev tm c with
    | .im (.bool t) => if t = true then exec0 Φ Λ a tm H K else exec0 Φ Λ b tm H K
    | _ => none := _root_.id rfl
theorem x_exit {i : Nat} : exec0 Φ Λ (.exit i) tm H K = K (.exit i) tm H := _root_.id rfl
theorem x_goto {l : Nat} : exec0 Φ Λ (.goto l) tm H K = K (.goto l) tm H := _root_.id rfl
theorem x_ret : exec0 Φ Λ .ret tm H K = K .ret tm H := _root_.id rfl
theorem k_normal {b : ACode} : seqK Φ Λ b K .normal tm H = exec0 Φ Λ b tm H K := _root_.id rfl
theorem k_exit {b : ACode} {i : Nat} : seqK Φ Λ b K (.exit i) tm H = K (.exit i) tm H := _root_.id rfl
theorem k_goto {b : ACode} {l : Nat} : seqK Φ Λ b K (.goto l) tm H = K (.goto l) tm H := _root_.id rfl
theorem k_ret {b : ACode} : seqK Φ Λ b K .ret tm H = K .ret tm H := _root_.id rfl
theorem b_normal {id : Nat} : blockK id K .normal tm H = K .normal tm H := _root_.id rfl
theorem b_exit {id i : Nat} : blockK id K (.exit i) tm H = if i = id then K .normal tm H else K (.exit i) tm H := _root_.id rfl
theorem b_goto {id l : Nat} : blockK id K (.goto l) tm H = K (.goto l) tm H := _root_.id rfl
theorem b_ret {id : Nat} : blockK id K .ret tm H = K .ret tm H := _root_.id rfl
end
end Go.Abs
namespace Go.Abs
section
variable {k : IntKind} {x y : Int}
theorem b_lss : binA .lss (.im (.int k x)) (.im (.int k y)) = some (.im (.bool (decide (x < y)))) := by simp only [binA, isShift, binInt, Bool.false_eq_true, if_false, if_true]
theorem b_leq : binA .leq (.im (.int k x)) (.im (.int k y)) = some (.im (.bool (decide (x ≤ y)))) := by simp only [binA, isShift, binInt, Bool.false_eq_true, if_false, if_true]
theorem b_gtr : binA .gtr (.im (.int k x)) (.im (.int k y)) = some (.im (.bool (decide (y < x)))) := by simp only [binA, isShift, binInt, Bool.false_eq_true, if_false, if_true]
theorem b_geq : binA .geq (.im (.int k x)) (.im (.int k y)) = some (.im (.bool (decide (y ≤ x)))) := by simp only [binA, isShift, binInt, Bool.false_eq_true, if_false, if_true]
theorem b_eql : binA .eql (.im (.int k x)) (.im (.int k y)) = some (.im (.bool (decide (x = y)))) := by simp only [binA, isShift, binInt, Bool.false_eq_true, if_false, if_true]
theorem b_neq : binA .neq (.im (.int k x)) (.im (.int k y)) = some (.im (.bool (!decide (x = y)))) := by simp only [binA, isShift, binInt, Bool.false_eq_true, if_false, if_true]
theorem b_add : binA .add (.im (.int k x)) (.im (.int k y)) = some (.im (.int k (k.wrap (x + y)))) := by simp only [binA, isShift, binInt, Bool.false_eq_true, if_false, if_true]
theorem b_sub : binA .sub (.im (.int k x)) (.im (.int k y)) = some (.im (.int k (k.wrap (x - y)))) := by simp only [binA, isShift, binInt, Bool.false_eq_true, if_false, if_true]
theorem b_mul : binA .mul (.im (.int k x)) (.im (.int k y)) = some (.im (.int k (k.wrap (x * y)))) := by simp only [binA, isShift, binInt, Bool.false_eq_true, if_false, if_true]
end
section
variable {x y : List UInt8}
theorem s_eql : binA .eql (.im (.str x)) (.im (.str y)) = some (.im (.bool (decide (x = y)))) := rfl
theorem s_neq : binA .neq (.im (.str x)) (.im (.str y)) = some (.im (.bool (!decide (x = y)))) := rfl
theorem s_add (h : x.length + y.length ≤ 2 ^ 62) : binA .add (.im (.str x)) (.im (.str y)) = some (.im (.str (x ++ y))) := by simp only [binA, binStr, if_pos h]
end
end Go.Abs
end
section
/- The abstract reading of Go code, thirty-fifth part: running a region step by step, with what comes behind kept folded. -/
namespace Go.Abs
section
variable {R : Type} {Φ : Oracle} {Λ : ACode → List AV → Heap → Option Out}

/-- Operations in the order of the text, without the states behind. -/
def yops (Φ : Oracle) : List AOper → List AV → Heap → (List AV → Heap → Option R) → Option R
  | [], tm, H, K => K tm H
  | o :: os, tm, H, K => match wantedA tm o.guard with
    | some true => match aopc Φ H tm o.op with
      | some (v, H') => yops Φ os (putA tm o.dst v) H' K
      | none => none
    | some false => yops Φ os (putA tm o.dst undefA) H K
    | none => none

theorem xops_yops {K : List AV → Heap → Option R} : ∀ {os : List AOper} {tr : List (List AV × Heap)} {tm : List AV} {H : Heap}, xops Φ os tr tm H (fun _ tm H => K tm H) = yops Φ os tm H K
  | [], tr, tm, H => rfl
  | o :: os, tr, tm, H => by
    simp only [xops, yops]
    cases wantedA tm o.guard with
    | none => rfl
    | some b =>
      cases b with
      | false => exact xops_yops
      | true =>
        simp only
        cases aopc Φ H tm o.op with
        | none => rfl
        | some p => exact xops_yops

/-- Behind one operation. -/
def yK (Φ : Oracle) (os : List AOper) (dst : Option Nat) (tm : List AV) (K : List AV → Heap → Option R) : Option (AV × Heap) → Option R
  | some (v, H') => yops Φ os (putA tm dst v) H' K
  | none => none

/-- Behind the question whether an operation is to be done. -/
def yG (Φ : Oracle) (os : List AOper) (dst : Option Nat) (op : AOp) (tm : List AV) (H : Heap) (K : List AV → Heap → Option R) : Option Bool → Option R
  | some true => yK Φ os dst tm K (aopc Φ H tm op)
  | some false => yops Φ os (putA tm dst undefA) H K
  | none => none

variable {os : List AOper} {dst : Option Nat} {op : AOp} {tm : List AV} {H H' : Heap} {K : List AV → Heap → Option R} {v : AV} {g : Nat × Bool} {d : Nat} {b : Bool}

theorem y_ops {l : List AOper} {K : AEx → List AV → Heap → Option R} : exec0 Φ Λ (.ops l []) tm H K = yops Φ l tm H (K .normal) := by
  rw [x_ops]
  simp only [xreg]
  exact xops_yops
theorem y_nil : yops Φ [] tm H K = K tm H := _root_.id rfl
theorem y_cons : yops Φ (⟨dst, op, none⟩ :: os) tm H K = yK Φ os dst tm K (aopc Φ H tm op) := by
  simp only [yops, wantedA]
  cases aopc Φ H tm op <;> rfl
theorem y_guard : yops Φ (⟨dst, op, some g⟩ :: os) tm H K = yG Φ os dst op tm H K (wantedA tm (some g)) := by
  simp only [yops]
  cases wantedA tm (some g) with
  | none => rfl
  | some b => cases b <;> simp only [yG, yK] <;> first | rfl | (cases aopc Φ H tm op <;> rfl)
theorem y_some : yK Φ os (some d) tm K (some (v, H')) = yops Φ os (tm.set d v) H' K := _root_.id rfl
theorem y_drop : yK Φ os none tm K (some (v, H')) = yops Φ os tm H' K := _root_.id rfl
theorem y_do : yG Φ os dst op tm H K (some true) = yK Φ os dst tm K (aopc Φ H tm op) := _root_.id rfl
theorem y_not : yG Φ os (some d) op tm H K (some false) = yops Φ os (tm.set d (.tup [])) H K := _root_.id rfl
theorem y_not0 : yG Φ os none op tm H K (some false) = yops Φ os tm H K := _root_.id rfl
theorem w_bool {c : Bool} (h : tm[d]? = some (.im (.bool c))) : wantedA tm (some (d, b)) = some (c == b) := by
  simp only [wantedA, h]
theorem w_none (h : tm[d]? = some (.tup [])) : wantedA tm (some (d, b)) = some false := by
  simp only [wantedA, h]

/-! one operation -/
/-- A call of a closure. -/
def yC (Φ : Oracle) (H : Heap) (args : List AV) : AV → Option (AV × Heap)
  | .clo g cap => Φ g (args ++ cap) H
  | _ => none
theorem c_call {f : AOpd} {args : List AOpd} : aopc Φ H tm (.call f args) = yC Φ H (args.map (ev tm)) (ev tm f) := by
  simp only [aopc]
  cases ev tm f <;> rfl
theorem c_clo {f : FuncId} {args cap : List AV} : yC Φ H args (.clo f cap) = Φ f (args ++ cap) H := _root_.id rfl
theorem c_move {x : AOpd} : aopc Φ H tm (.move x) = aop H (ev tm) (.move x) := by simp only [aopc]
theorem c_pick {c a b : AOpd} : aopc Φ H tm (.pick c a b) = aop H (ev tm) (.pick c a b) := by simp only [aopc]
theorem c_alloc {ty : Option (TypeId × Nat)} {z : List AV} : aopc Φ H tm (.alloc ty z) = aop H (ev tm) (.alloc ty z) := by simp only [aopc]
theorem c_box {ty : Option TypeId} {x : AOpd} : aopc Φ H tm (.box ty x) = aop H (ev tm) (.box ty x) := by simp only [aopc]
theorem c_build {z : List AV} {parts : List (Nat × Nat × AOpd)} : aopc Φ H tm (.build z parts) = aop H (ev tm) (.build z parts) := by simp only [aopc]
theorem c_bslice {mu : Bool} {s n : Nat} {z : List AV} {parts : List (Nat × AOpd)} : aopc Φ H tm (.bslice mu s n z parts) = aop H (ev tm) (.bslice mu s n z parts) := by simp only [aopc]
theorem c_load {k : Option Nat} {x : AOpd} : aopc Φ H tm (.load k x) = aop H (ev tm) (.load k x) := by simp only [aopc]
theorem c_store {k : Nat} {x v : AOpd} : aopc Φ H tm (.store k x v) = aop H (ev tm) (.store k x v) := by simp only [aopc]
theorem c_nilCheck {x : AOpd} : aopc Φ H tm (.nilCheck x) = aop H (ev tm) (.nilCheck x) := by simp only [aopc]
theorem c_bin {op : BinOp} {x y : AOpd} : aopc Φ H tm (.bin op x y) = aop H (ev tm) (.bin op x y) := by simp only [aopc]
theorem c_binB {op : BinOp} {x y : AOpd} : aopc Φ H tm (.binB op x y) = aop H (ev tm) (.binB op x y) := by simp only [aopc]
theorem c_un {op : UnOp} {x : AOpd} : aopc Φ H tm (.un op x) = aop H (ev tm) (.un op x) := by simp only [aopc]
theorem c_i2i {k : IntKind} {x : AOpd} : aopc Φ H tm (.i2i k x) = aop H (ev tm) (.i2i k x) := by simp only [aopc]
theorem c_i2f {k : FloatKind} {x : AOpd} : aopc Φ H tm (.i2f k x) = aop H (ev tm) (.i2f k x) := by simp only [aopc]
theorem c_f2i {k : IntKind} {x : AOpd} : aopc Φ H tm (.f2i k x) = aop H (ev tm) (.f2i k x) := by simp only [aopc]
theorem c_s2b {x : AOpd} : aopc Φ H tm (.s2b x) = aop H (ev tm) (.s2b x) := by simp only [aopc]
theorem c_b2s {x : AOpd} : aopc Φ H tm (.b2s x) = aop H (ev tm) (.b2s x) := by simp only [aopc]
theorem c_strId {x : AOpd} : aopc Φ H tm (.strId x) = aop H (ev tm) (.strId x) := by simp only [aopc]
theorem c_mkfunc {f : FuncId} {cap : List AOpd} : aopc Φ H tm (.mkfunc f cap) = aop H (ev tm) (.mkfunc f cap) := by simp only [aopc]
theorem c_mkslice {bytes s : Nat} {z : List AV} {len cap : AOpd} : aopc Φ H tm (.mkslice bytes s z len cap) = aop H (ev tm) (.mkslice bytes s z len cap) := by simp only [aopc]
theorem c_slice {s : Nat} {x : AOpd} {lo hi mx : Option AOpd} : aopc Φ H tm (.slice s x lo hi mx) = aop H (ev tm) (.slice s x lo hi mx) := by simp only [aopc]
theorem c_sliceStr {x : AOpd} {lo hi : Option AOpd} : aopc Φ H tm (.sliceStr x lo hi) = aop H (ev tm) (.sliceStr x lo hi) := by simp only [aopc]
theorem c_fieldAddr {off : Nat} {x : AOpd} : aopc Φ H tm (.fieldAddr off x) = aop H (ev tm) (.fieldAddr off x) := by simp only [aopc]
theorem c_field {off : Nat} {k : Option Nat} {x : AOpd} : aopc Φ H tm (.field off k x) = aop H (ev tm) (.field off k x) := by simp only [aopc]
theorem c_indexSl {s : Nat} {x i : AOpd} : aopc Φ H tm (.indexSl s x i) = aop H (ev tm) (.indexSl s x i) := by simp only [aopc]
theorem c_indexArr {len size : Nat} {x i : AOpd} : aopc Φ H tm (.indexArr len size x i) = aop H (ev tm) (.indexArr len size x i) := by simp only [aopc]
theorem c_elemArr {len size : Nat} {k : Option Nat} {x i : AOpd} : aopc Φ H tm (.elemArr len size k x i) = aop H (ev tm) (.elemArr len size k x i) := by simp only [aopc]
theorem c_indexStr {x i : AOpd} : aopc Φ H tm (.indexStr x i) = aop H (ev tm) (.indexStr x i) := by simp only [aopc]
theorem c_extract {i : Nat} {x : AOpd} : aopc Φ H tm (.extract i x) = aop H (ev tm) (.extract i x) := by simp only [aopc]
theorem c_lenStr {x : AOpd} : aopc Φ H tm (.lenStr x) = aop H (ev tm) (.lenStr x) := by simp only [aopc]
theorem c_lenSl {x : AOpd} : aopc Φ H tm (.lenSl x) = aop H (ev tm) (.lenSl x) := by simp only [aopc]
theorem c_append {ty : TypeId} {bytes s : Nat} {x y : AOpd} : aopc Φ H tm (.append ty bytes s x y) = aop H (ev tm) (.append ty bytes s x y) := by simp only [aopc]
theorem c_real {x : AOpd} : aopc Φ H tm (.real x) = aop H (ev tm) (.real x) := by simp only [aopc]
theorem c_imag {x : AOpd} : aopc Φ H tm (.imag x) = aop H (ev tm) (.imag x) := by simp only [aopc]
theorem c_complex {x y : AOpd} : aopc Φ H tm (.complex x y) = aop H (ev tm) (.complex x y) := by simp only [aopc]
theorem c_min {x y : AOpd} : aopc Φ H tm (.min x y) = aop H (ev tm) (.min x y) := by simp only [aopc]
theorem c_max {x y : AOpd} : aopc Φ H tm (.max x y) = aop H (ev tm) (.max x y) := by simp only [aopc]
theorem c_clear {s : Nat} {z : List AV} {x : AOpd} : aopc Φ H tm (.clear s z x) = aop H (ev tm) (.clear s z x) := by simp only [aopc]
theorem c_bad  : aopc Φ H tm (.bad) = aop H (ev tm) (.bad) := by simp only [aopc]
end
end Go.Abs
end
section
/- Functions cut along their spine. -/
set_option linter.unusedVariables false
namespace Go.Abs.Seat
open Go.Proofs
def q6_12 : ACode := .ret
def q6_11 : ACode := .seq (.ops [⟨(some 128), (.move (.t 13)), none⟩, ⟨(some 129), (.bin .eql (.t 128) (.c (.im (.int .i64 0)))), none⟩, ⟨(some 130), (.move (.t 129)), none⟩, ⟨(some 131), (.move (.t 16)), (some (130, true))⟩, ⟨(some 132), (.bin .eql (.t 131) (.c (.im (.int .i64 0)))), (some (130, true))⟩, ⟨(some 133), (.pick (.t 130) (.t 132) (.c (.im (.bool false)))), none⟩, ⟨(some 134), (.move (.t 133)), none⟩, ⟨(some 135), (.move (.t 22)), (some (134, true))⟩, ⟨(some 136), (.bin .eql (.t 135) (.c (.im (.int .i64 0)))), (some (134, true))⟩, ⟨(some 137), (.pick (.t 134) (.t 136) (.c (.im (.bool false)))), none⟩, ⟨(some 138), (.move (.t 137)), none⟩, ⟨(some 139), (.move (.t 15)), (some (138, true))⟩, ⟨(some 140), (.move (.t 5)), (some (138, true))⟩, ⟨(some 141), (.bin .add (.t 140) (.c (.im (.int .i64 1)))), (some (138, true))⟩, ⟨(some 142), (.bin .eql (.t 139) (.t 141)), (some (138, true))⟩, ⟨(some 143), (.pick (.t 138) (.t 142) (.c (.im (.bool false)))), none⟩, ⟨(some 144), (.move (.t 143)), none⟩, ⟨(some 145), (.move (.t 21)), (some (144, true))⟩, ⟨(some 146), (.move (.t 14)), (some (144, true))⟩, ⟨(some 147), (.bin .eql (.t 145) (.t 146)), (some (144, true))⟩, ⟨(some 148), (.pick (.t 144) (.t 147) (.c (.im (.bool false)))), none⟩, ⟨(some 149), (.move (.t 148)), none⟩, ⟨(some 150), (.call (.c (.clo 11 [])) []), (some (149, true))⟩, ⟨(some 151), (.pick (.t 149) (.t 150) (.c (.im (.bool false)))), none⟩, ⟨(some 4), (.move (.t 151)), none⟩] []) q6_12
def q6_10 : ACode := .seq (.ops [⟨(some 124), (.load (some 2) (.t 12)), none⟩, ⟨(some 125), (.call (.c (.clo 17 [])) [(.t 124)]), none⟩, ⟨(some 123), (.move (.t 125)), none⟩, ⟨(some 126), (.extract 0 (.t 123)), none⟩, ⟨(some 127), (.extract 1 (.t 123)), none⟩, ⟨(some 21), (.move (.t 126)), none⟩, ⟨(some 22), (.move (.t 127)), none⟩] []) q6_11
def q6_9 : ACode := .seq (.seq (.ops [⟨(some 118), (.move (.t 1)), none⟩, ⟨(some 119), (.lenSl (.t 118)), none⟩, ⟨(some 120), (.bin .gtr (.t 119) (.c (.im (.int .i64 0)))), none⟩] []) (.cond (.t 120) (.ops [⟨(some 121), (.move (.t 14)), none⟩, ⟨(some 122), (.bin .add (.t 121) (.c (.im (.str [41])))), none⟩, ⟨(some 14), (.move (.t 122)), none⟩] []) .skip)) q6_10
def q6_8 : ACode := .seq (.seq (.ops [⟨(some 96), (.move (.t 1)), none⟩, ⟨(some 97), (.lenSl (.t 96)), none⟩, ⟨(some 98), (.move (.c (.im (.int .i64 0)))), none⟩] []) (.block 2 c6_0)) q6_9
def q6_7 : ACode := .seq (.ops [⟨(some 92), (.load (some 2) (.t 12)), none⟩, ⟨(some 93), (.call (.c (.clo 20 [])) [(.t 92)]), none⟩, ⟨(some 91), (.move (.t 93)), none⟩, ⟨(some 94), (.extract 0 (.t 91)), none⟩, ⟨(some 95), (.extract 1 (.t 91)), none⟩, ⟨(some 15), (.move (.t 94)), none⟩, ⟨(some 16), (.move (.t 95)), none⟩] []) q6_8
def q6_6 : ACode := .seq (.seq (.ops [⟨(some 67), (.move (.t 14)), none⟩, ⟨(some 68), (.bin .eql (.t 67) (.c (.im (.str [])))), none⟩, ⟨(some 69), (.move (.t 68)), none⟩, ⟨(some 70), (.move (.t 1)), (some (69, false))⟩, ⟨(some 71), (.lenSl (.t 70)), (some (69, false))⟩, ⟨(some 72), (.move (.t 0)), (some (69, false))⟩, ⟨(some 73), (.call (.c (.clo 23 [])) [(.t 72)]), (some (69, false))⟩, ⟨(some 74), (.bin .neq (.t 71) (.t 73)), (some (69, false))⟩, ⟨(some 75), (.pick (.t 69) (.c (.im (.bool true))) (.t 74)), none⟩, ⟨(some 76), (.move (.t 75)), none⟩, ⟨(some 77), (.move (.t 5)), (some (76, false))⟩, ⟨(some 78), (.bin .add (.t 77) (.c (.im (.int .i64 1)))), (some (76, false))⟩, ⟨(some 79), (.bin .gtr (.t 78) (.c (.im (.int .i64 6)))), (some (76, false))⟩, ⟨(some 80), (.pick (.t 76) (.c (.im (.bool true))) (.t 79)), none⟩] []) (.cond (.t 80) (.seq (.ops [⟨(some 81), (.move (.t 13)), none⟩, ⟨(some 82), (.bin .eql (.t 81) (.c (.im (.int .i64 20)))), none⟩, ⟨(some 83), (.move (.t 82)), none⟩, ⟨(some 84), (.fieldAddr 0 (.t 12)), (some (83, true))⟩, ⟨(some 85), (.load none (.t 84)), (some (83, true))⟩, ⟨(some 86), (.bin .eql (.t 85) (.c (.im (.int .i64 0)))), (some (83, true))⟩, ⟨(some 87), (.pick (.t 83) (.t 86) (.c (.im (.bool false)))), none⟩, ⟨(some 88), (.move (.t 87)), none⟩, ⟨(some 89), (.call (.c (.clo 11 [])) []), (some (88, true))⟩, ⟨(some 90), (.pick (.t 88) (.t 89) (.c (.im (.bool false)))), none⟩, ⟨(some 4), (.move (.t 90)), none⟩] []) .ret) .skip)) q6_7
def q6_5 : ACode := .seq (.ops [⟨(some 65), (.move (.t 0)), none⟩, ⟨(some 66), (.call (.c (.clo 22 [])) [(.t 65)]), none⟩, ⟨(some 14), (.move (.t 66)), none⟩] []) q6_6
def q6_4 : ACode := .seq (.ops [⟨(some 60), (.move (.t 0)), none⟩, ⟨(some 61), (.move (.t 1)), none⟩, ⟨(some 62), (.call (.c (.clo 21 [])) [(.t 60), (.t 61)]), none⟩, ⟨(some 59), (.move (.t 62)), none⟩, ⟨(some 63), (.extract 0 (.t 59)), none⟩, ⟨(some 64), (.extract 1 (.t 59)), none⟩, ⟨(some 12), (.alloc none [(.im (.int .i64 0)), .nils]), none⟩, ⟨none, (.store 2 (.t 12) (.t 63)), none⟩, ⟨(some 13), (.move (.t 64)), none⟩] []) q6_5
def q6_3 : ACode := .seq (.seq (.ops [⟨(some 27), (.move (.t 1)), none⟩, ⟨(some 28), (.lenSl (.t 27)), none⟩, ⟨(some 29), (.move (.c (.im (.int .i64 0)))), none⟩] []) (.block 0 c6_1)) q6_4
def q6_2 : ACode := .seq (.ops [⟨(some 5), (.move (.c (.im (.int .i64 0)))), none⟩] []) q6_3
def q6_1 : ACode := .seq (.seq (.ops [⟨(some 23), (.move (.t 1)), none⟩, ⟨(some 24), (.lenSl (.t 23)), none⟩, ⟨(some 25), (.bin .gtr (.t 24) (.c (.im (.int .i64 4)))), none⟩] []) (.cond (.t 25) (.seq (.ops [⟨(some 26), (.call (.c (.clo 11 [])) []), none⟩, ⟨(some 4), (.move (.t 26)), none⟩] []) .ret) .skip)) q6_2
theorem f6_q : f6 = ⟨152, [(4, none)], .seq (.ops [⟨(some 4), (.move (.c (.im (.bool false)))), none⟩] []) q6_1, false⟩ := rfl
end Go.Abs.Seat
end
section
/- The law KindMakes. -/
set_option linter.unusedVariables false
set_option linter.unusedSimpArgs false
namespace Go.Abs.Seat
open Go.Proofs

theorem leave_nil {H : Heap} {d : Dat} : leave [] false (.im d) H = (.im d, []) := leave_app (H := []) (L := H)

theorem depths_le : ∀ (l : List KT), (∀ a ∈ l, rightT a 6 = true) → depthTs l ≤ 6
  | [], _ => by simp [depthTs]
  | a :: l, h => by
    have h1 := right_depth a 6 (h a (by simp))
    have h2 := depths_le l fun x hx => h x (by simp [hx])
    simp only [depthTs]
    omega

/-- The end: all is as it should be. -/
theorem q6end {R : Type} (tm : List AV) (H : Heap) (K : AEx → List AV → Heap → Option R) (D : Int) (x : List UInt8) (hlen : tm.length = 152) (h5 : tm.getD 5 undefA = .im (.int .i64 D)) (h13 : tm.getD 13 undefA = .im (.int .i64 0))
    (h14 : tm.getD 14 undefA = .im (.str x)) (h15 : tm.getD 15 undefA = .im (.int .i64 (D + 1))) (h16 : tm.getD 16 undefA = .im (.int .i64 0)) (h21 : tm.getD 21 undefA = .im (.str x)) (h22 : tm.getD 22 undefA = .im (.int .i64 0)) (hw : IntKind.i64.wrap (D + 1) = D + 1) :
    ∃ tm', exec0 L Λ q6_11 tm H K = K .ret tm' H ∧ tm'.length = 152 ∧ tm'.getD 4 undefA = .im (.bool true) := by
  simp only [q6_11, q6_12, x_seq, x_block, x_skip, x_label, x_cond, x_exit, x_goto, x_ret, k_normal, k_exit, k_goto, k_ret, b_normal, b_exit, b_goto, b_ret, wantedA, aop, ev, putA, List.length_cons, List.length_nil, List.replicate, List.cons_append, List.nil_append, List.append_nil, List.append_assoc, gs_same, gs_ne, gq_same, gq_ne, List.length_set, List.map_cons, List.map_nil, cellsOf, List.all_cons, List.all_nil, cellOk, boxTy, Bool.and_true, Bool.and_self, if_true, ite_true, ite_false, loadAt, storeAt, setAt, hget, hget0, hset, hset0, List.getElem?_cons_zero, List.getElem?_cons_succ, List.set_cons_zero, List.set_cons_succ, Nat.add_zero, Nat.zero_add, Nat.reduceAdd, Nat.reduceSub, Nat.reduceLeDiff, Nat.reduceLT, Nat.reduceEqDiff, Nat.le_refl, and_self, and_true, true_and, mkAgg, toIms, List.drop_zero, List.drop_succ_cons, List.take_succ_cons, List.take_zero, List.length_append, binBool, unA, Bool.false_eq_true, if_false, partA, fillA, fillE, List.take_nil, Nat.zero_ne_one, Nat.one_ne_zero, not_false_eq_true, ne_eq, Nat.succ_ne_self, reduceCtorEq, Int.reduceEq, Int.reduceLT, Int.reduceLE, decide_true, decide_false, lenA, beq_self_eq_true, beq_true, beq_false, Bool.not_true, Bool.not_false, b_lss, b_gtr, b_leq, b_geq, b_eql, b_neq, b_add, b_sub, b_mul, s_eql, s_neq, y_ops, y_nil, y_cons, y_guard, y_some, y_drop, y_do, y_not, y_not0, c_call, c_clo, c_move, c_pick, c_alloc, c_box, c_build, c_bslice, c_load, c_store, c_nilCheck, c_bin, c_binB, c_un, c_i2i, c_i2f, c_f2i, c_s2b, c_b2s, c_strId, c_mkfunc, c_mkslice, c_slice, c_sliceStr, c_fieldAddr, c_field, c_indexSl, c_indexArr, c_elemArr, c_indexStr, c_extract, c_lenStr, c_lenSl, c_append, c_real, c_imag, c_complex, c_min, c_max, c_clear, hlen, h5, h13, h14, h15, h16, h21, h22, hw, s11]
  exact ⟨_, rfl, by simp only [List.length_set, hlen], by simp only [gs_same, gs_ne, List.length_set, Nat.reduceLT, Nat.reduceEqDiff, not_false_eq_true, hlen]⟩

/-- Behind the second loop. -/
theorem q6fin {R : Type} (tm : List AV) (H : Heap) (K : AEx → List AV → Heap → Option R) (D : Int) (x : List UInt8) (s : Nat) (args : List KT) (o : List Dat) (id : Nat) (hlen : tm.length = 152) (h1 : tm.getD 1 undefA = .im (.sl s (args.map encT))) (h5 : tm.getD 5 undefA = .im (.int .i64 D))
    (h12 : tm.getD 12 undefA = .ptr id 0 0) (a b : Dat) (ho : H[id]? = some (.obj none [[.im a, .im b]])) (h13 : tm.getD 13 undefA = .im (.int .i64 0))
    (h14 : tm.getD 14 undefA = .im (.str x)) (h15 : tm.getD 15 undefA = .im (.int .i64 (D + 1))) (h16 : tm.getD 16 undefA = .im (.int .i64 0)) (hw : IntKind.i64.wrap (D + 1) = D + 1) (hx : x.length + 1 ≤ 2 ^ 62)
    (h17 : ∀ H, L 17 [.im (.agg [a, b])] H = some (.tup [.im (.str (x ++ if args.length = 0 then [] else [41])), .im (.int .i64 0)], H)) :
    ∃ tm', exec0 L Λ q6_9 tm H K = K .ret tm' H ∧ tm'.length = 152 ∧ tm'.getD 4 undefA = .im (.bool true) := by
  by_cases hz : args.length = 0
  · have e5 : decide ((0 : Int) < (args.length : Int)) = false := decide_eq_false (by omega)
    simp only [if_pos hz, List.append_nil] at h17
    simp only [q6_9, q6_10, x_seq, x_block, x_skip, x_label, x_cond, x_exit, x_goto, x_ret, k_normal, k_exit, k_goto, k_ret, b_normal, b_exit, b_goto, b_ret, wantedA, aop, ev, putA, List.length_cons, List.length_nil, List.replicate, List.cons_append, List.nil_append, List.append_nil, List.append_assoc, gs_same, gs_ne, gq_same, gq_ne, List.length_set, List.map_cons, List.map_nil, cellsOf, List.all_cons, List.all_nil, cellOk, boxTy, Bool.and_true, Bool.and_self, if_true, ite_true, ite_false, loadAt, storeAt, setAt, hget, hget0, hset, hset0, List.getElem?_cons_zero, List.getElem?_cons_succ, List.set_cons_zero, List.set_cons_succ, Nat.add_zero, Nat.zero_add, Nat.reduceAdd, Nat.reduceSub, Nat.reduceLeDiff, Nat.reduceLT, Nat.reduceEqDiff, Nat.le_refl, and_self, and_true, true_and, mkAgg, toIms, List.drop_zero, List.drop_succ_cons, List.take_succ_cons, List.take_zero, List.length_append, binBool, unA, Bool.false_eq_true, if_false, partA, fillA, fillE, List.take_nil, Nat.zero_ne_one, Nat.one_ne_zero, not_false_eq_true, ne_eq, Nat.succ_ne_self, reduceCtorEq, Int.reduceEq, Int.reduceLT, Int.reduceLE, decide_true, decide_false, lenA, beq_self_eq_true, beq_true, beq_false, Bool.not_true, Bool.not_false, b_lss, b_gtr, b_leq, b_geq, b_eql, b_neq, b_add, b_sub, b_mul, s_eql, s_neq, y_ops, y_nil, y_cons, y_guard, y_some, y_drop, y_do, y_not, y_not0, c_call, c_clo, c_move, c_pick, c_alloc, c_box, c_build, c_bslice, c_load, c_store, c_nilCheck, c_bin, c_binB, c_un, c_i2i, c_i2f, c_f2i, c_s2b, c_b2s, c_strId, c_mkfunc, c_mkslice, c_slice, c_sliceStr, c_fieldAddr, c_field, c_indexSl, c_indexArr, c_elemArr, c_indexStr, c_extract, c_lenStr, c_lenSl, c_append, c_real, c_imag, c_complex, c_min, c_max, c_clear, hlen, h1, h12, ho, e5, h17, List.length_map]
    refine q6end _ _ K D x ?_ ?_ ?_ ?_ ?_ ?_ ?_ ?_ hw
    all_goals simp only [gs_same, gs_ne, List.length_set, Nat.reduceLT, Nat.reduceEqDiff, not_false_eq_true, hlen, h5, h13, h14, h15, h16]
  · have e5 : decide ((0 : Int) < (args.length : Int)) = true := decide_eq_true (by omega)
    simp only [if_neg hz] at h17
    have hadd : x.length + [(41 : UInt8)].length ≤ 2 ^ 62 := by simp only [List.length_cons, List.length_nil]; omega
    have hb : binA .add (.im (.str x)) (.im (.str [41])) = some (.im (.str (x ++ [41]))) := s_add hadd
    generalize x ++ [(41 : UInt8)] = y at *
    simp only [q6_9, q6_10, x_seq, x_block, x_skip, x_label, x_cond, x_exit, x_goto, x_ret, k_normal, k_exit, k_goto, k_ret, b_normal, b_exit, b_goto, b_ret, wantedA, aop, ev, putA, List.length_cons, List.length_nil, List.replicate, List.cons_append, List.nil_append, List.append_nil, List.append_assoc, gs_same, gs_ne, gq_same, gq_ne, List.length_set, List.map_cons, List.map_nil, cellsOf, List.all_cons, List.all_nil, cellOk, boxTy, Bool.and_true, Bool.and_self, if_true, ite_true, ite_false, loadAt, storeAt, setAt, hget, hget0, hset, hset0, List.getElem?_cons_zero, List.getElem?_cons_succ, List.set_cons_zero, List.set_cons_succ, Nat.add_zero, Nat.zero_add, Nat.reduceAdd, Nat.reduceSub, Nat.reduceLeDiff, Nat.reduceLT, Nat.reduceEqDiff, Nat.le_refl, and_self, and_true, true_and, mkAgg, toIms, List.drop_zero, List.drop_succ_cons, List.take_succ_cons, List.take_zero, List.length_append, binBool, unA, Bool.false_eq_true, if_false, partA, fillA, fillE, List.take_nil, Nat.zero_ne_one, Nat.one_ne_zero, not_false_eq_true, ne_eq, Nat.succ_ne_self, reduceCtorEq, Int.reduceEq, Int.reduceLT, Int.reduceLE, decide_true, decide_false, lenA, beq_self_eq_true, beq_true, beq_false, Bool.not_true, Bool.not_false, b_lss, b_gtr, b_leq, b_geq, b_eql, b_neq, b_add, b_sub, b_mul, s_eql, s_neq, y_ops, y_nil, y_cons, y_guard, y_some, y_drop, y_do, y_not, y_not0, c_call, c_clo, c_move, c_pick, c_alloc, c_box, c_build, c_bslice, c_load, c_store, c_nilCheck, c_bin, c_binB, c_un, c_i2i, c_i2f, c_f2i, c_s2b, c_b2s, c_strId, c_mkfunc, c_mkslice, c_slice, c_sliceStr, c_fieldAddr, c_field, c_indexSl, c_indexArr, c_elemArr, c_indexStr, c_extract, c_lenStr, c_lenSl, c_append, c_real, c_imag, c_complex, c_min, c_max, c_clear, hb, hlen, h1, h12, h14, ho, e5, h17, List.length_map]
    refine q6end _ _ K D y ?_ ?_ ?_ ?_ ?_ ?_ ?_ ?_ hw
    all_goals simp only [gs_same, gs_ne, List.length_set, Nat.reduceLT, Nat.reduceEqDiff, not_false_eq_true, hlen, h5, h13, h15, h16]

set_option maxRecDepth 100000 in
set_option maxHeartbeats 4000000 in
theorem s6 (k : Int) (s : Nat) (args : List KT) (hok : okT (.mk k s args)) : ∃ H', L 6 [.im (.int .i64 k), .im (.sl s (args.map encT))] [] = some (.im (.bool true), H') := by
  have hok' := hok
  simp only [okT] at hok'
  obtain ⟨hs, hn, hoks⟩ := hok'
  have h21 := s21 k s args hok
  rw [encTs_map] at h21
  have key := l6a k s args hok args.length 0 (by omega)
  have z : ((0 : Nat) : Int) = 0 := rfl
  simp only [List.drop_zero, z] at key
  rw [leq F6]
  have hK : ∀ (tm : List AV) (H : Heap), tm.length = 152 → tm.getD 4 undefA = .im (.bool true) → ∃ H', endK f6 [] .ret tm H = some (.im (.bool true), H') := fun tm H hl h => by
    simp only [endK, f6, resA, h, tupA, leave_nil]
    exact ⟨_, rfl⟩
  have hcode : f6.code = .seq (.ops [⟨(some 4), (.move (.c (.im (.bool false)))), none⟩] []) q6_1 := rfl
  rw [hcode]
  clear hcode
  generalize endK f6 [] = K6 at *
  obtain ⟨hlen, ha⟩ := enter_at (f := f6) (args := [.im (.int .i64 k), .im (.sl s (args.map encT))]) (Nat.le_of_ble_eq_true rfl)
  have h0 := ha 0 _ rfl
  have h1 := ha 1 _ rfl
  generalize enterA f6 [.im (.int .i64 k), .im (.sl s (args.map encT))] = tm at *
  change tm.length = 152 at hlen
  by_cases h4 : 4 < (args.length : Int)
  · have e1 : decide ((4 : Int) < (args.length : Int)) = true := decide_eq_true h4
    simp only [q6_1, x_seq, x_block, x_skip, x_label, x_cond, x_exit, x_goto, x_ret, k_normal, k_exit, k_goto, k_ret, b_normal, b_exit, b_goto, b_ret, wantedA, aop, ev, putA, List.length_cons, List.length_nil, List.replicate, List.cons_append, List.nil_append, List.append_nil, List.append_assoc, gs_same, gs_ne, gq_same, gq_ne, List.length_set, List.map_cons, List.map_nil, cellsOf, List.all_cons, List.all_nil, cellOk, boxTy, Bool.and_true, Bool.and_self, if_true, ite_true, ite_false, loadAt, storeAt, setAt, hget, hget0, hset, hset0, List.getElem?_cons_zero, List.getElem?_cons_succ, List.set_cons_zero, List.set_cons_succ, Nat.add_zero, Nat.zero_add, Nat.reduceAdd, Nat.reduceSub, Nat.reduceLeDiff, Nat.reduceLT, Nat.reduceEqDiff, Nat.le_refl, and_self, and_true, true_and, mkAgg, toIms, List.drop_zero, List.drop_succ_cons, List.take_succ_cons, List.take_zero, List.length_append, binBool, unA, Bool.false_eq_true, if_false, partA, fillA, fillE, List.take_nil, Nat.zero_ne_one, Nat.one_ne_zero, not_false_eq_true, ne_eq, Nat.succ_ne_self, reduceCtorEq, Int.reduceEq, Int.reduceLT, Int.reduceLE, decide_true, decide_false, lenA, beq_self_eq_true, beq_true, beq_false, Bool.not_true, Bool.not_false, b_lss, b_gtr, b_leq, b_geq, b_eql, b_neq, b_add, b_sub, b_mul, s_eql, s_neq, y_ops, y_nil, y_cons, y_guard, y_some, y_drop, y_do, y_not, y_not0, c_call, c_clo, c_move, c_pick, c_alloc, c_box, c_build, c_bslice, c_load, c_store, c_nilCheck, c_bin, c_binB, c_un, c_i2i, c_i2f, c_f2i, c_s2b, c_b2s, c_strId, c_mkfunc, c_mkslice, c_slice, c_sliceStr, c_fieldAddr, c_field, c_indexSl, c_indexArr, c_elemArr, c_indexStr, c_extract, c_lenStr, c_lenSl, c_append, c_real, c_imag, c_complex, c_min, c_max, c_clear, hlen, h0, h1, List.length_map, e1, s11]
    exact hK _ _ (by simp only [List.length_set, hlen]) (by simp only [gs_same, gs_ne, List.length_set, Nat.reduceLT, Nat.reduceEqDiff, not_false_eq_true, hlen])
  · have e1 : decide ((4 : Int) < (args.length : Int)) = false := decide_eq_false h4
    simp only [q6_1, q6_2, q6_3, e6_1, x_seq, x_block, x_skip, x_label, x_cond, x_exit, x_goto, x_ret, k_normal, k_exit, k_goto, k_ret, b_normal, b_exit, b_goto, b_ret, wantedA, aop, ev, putA, List.length_cons, List.length_nil, List.replicate, List.cons_append, List.nil_append, List.append_nil, List.append_assoc, gs_same, gs_ne, gq_same, gq_ne, List.length_set, List.map_cons, List.map_nil, cellsOf, List.all_cons, List.all_nil, cellOk, boxTy, Bool.and_true, Bool.and_self, if_true, ite_true, ite_false, loadAt, storeAt, setAt, hget, hget0, hset, hset0, List.getElem?_cons_zero, List.getElem?_cons_succ, List.set_cons_zero, List.set_cons_succ, Nat.add_zero, Nat.zero_add, Nat.reduceAdd, Nat.reduceSub, Nat.reduceLeDiff, Nat.reduceLT, Nat.reduceEqDiff, Nat.le_refl, and_self, and_true, true_and, mkAgg, toIms, List.drop_zero, List.drop_succ_cons, List.take_succ_cons, List.take_zero, List.length_append, binBool, unA, Bool.false_eq_true, if_false, partA, fillA, fillE, List.take_nil, Nat.zero_ne_one, Nat.one_ne_zero, not_false_eq_true, ne_eq, Nat.succ_ne_self, reduceCtorEq, Int.reduceEq, Int.reduceLT, Int.reduceLE, decide_true, decide_false, lenA, beq_self_eq_true, beq_true, beq_false, Bool.not_true, Bool.not_false, b_lss, b_gtr, b_leq, b_geq, b_eql, b_neq, b_add, b_sub, b_mul, s_eql, s_neq, y_ops, y_nil, y_cons, y_guard, y_some, y_drop, y_do, y_not, y_not0, c_call, c_clo, c_move, c_pick, c_alloc, c_box, c_build, c_bslice, c_load, c_store, c_nilCheck, c_bin, c_binB, c_un, c_i2i, c_i2f, c_f2i, c_s2b, c_b2s, c_strId, c_mkfunc, c_mkslice, c_slice, c_sliceStr, c_fieldAddr, c_field, c_indexSl, c_indexArr, c_elemArr, c_indexStr, c_extract, c_lenStr, c_lenSl, c_append, c_real, c_imag, c_complex, c_min, c_max, c_clear, hlen, h0, h1, List.length_map, e1]
    refine thenL_ex (fun r : Option (AV × Heap) => ∃ H' : Heap, r = some (AV.im (.bool true), H')) (key _ _ 0 ?_ ?_ ?_ ?_ ?_ ?_ ?_) ?_
    iterate 7 simp only [gs_same, gs_ne, List.length_set, Nat.reduceLT, Nat.reduceEqDiff, not_false_eq_true, hlen, h0, h1]
    rintro e tm1 H1 ⟨hl1, a0, a1, -, hcase⟩
    rcases hcase with ⟨rfl, a4⟩ | ⟨rfl, hall, a5⟩
    · simp only [b_ret, k_ret]
      exact hK _ _ hl1 a4
    · -- every type is right
      have hdep : (if 0 = args.length then (0 : Int) else max 0 (depthTs args)) = depthTs args := by
        have := depthTs_pos args
        split
        · rename_i h
          have : args = [] := List.length_eq_zero_iff.1 h.symm
          rw [this]; rfl
        · omega
      rw [hdep] at a5
      have hmade := right_made (k := k) (s := s) hall
      have h22 := s22 k
      have h23 := s23 k
      have hD6 := depths_le args hall
      have hwD := Go.Abs.Seat.wrap_small (depthTs args + 1) (by have := depthTs_pos args; omega)
      have hpos := depthTs_pos args
      generalize hD : depthTs args = D at *
      by_cases hr : rightT (.mk k s args) 6 = true
      · obtain ⟨hw, hl, hd⟩ := hmade.1 hr
        simp only [checkT, hr, if_true] at h21
        have e2 : decide (wordK k = []) = false := decide_eq_false hw
        have e3 : decide ((args.length : Int) = cntK k) = true := decide_eq_true hl
        have e4 : decide ((6 : Int) < D + 1) = false := decide_eq_false (by omega)
        have hslen := show_len _ 6 hr
        have hnar := right_narrow _ 6 hr
        simp only [narrow] at hnar
        have keyb := l6b s args hs hoks hnar.1 hall args.length 0 (by omega)
        simp only [z, List.drop_zero, sepB, if_true] at keyb
        have hsh : showT (.mk k s args) = wordK k ++ (showTs args 40 ++ if args.length = 0 then [] else [41]) := by rw [← gath_word]; rfl
        have hcr := clone_right (.mk k s args) 6
        have hcd := clone_depth (.mk k s args)
        have hcs := clone_show (.mk k s args)
        have hck := clone_ok (.mk k s args) hok
        rw [hr] at hcr
        rw [hsh] at hcs hslen
        simp only [depthT, hD] at hcd
        generalize cloneT (.mk k s args) = ct at *
        have h20 := s20 ct hck
        have h17 := s17 ct hck
        simp only [checkT, hcr, if_true, hcd, hcs] at h20 h17
        generalize wordK k = wk at *
        generalize hTs : showTs args 40 = sh at *
        simp only [List.length_append] at hslen
        obtain ⟨k2, s2, ts2⟩ := ct
        simp only [encT] at h20 h17 h21
        clear hcr hck hcs hcd
        simp only [q6_4, q6_5, q6_6, q6_7, q6_8, e6_0, x_seq, x_block, x_skip, x_label, x_cond, x_exit, x_goto, x_ret, k_normal, k_exit, k_goto, k_ret, b_normal, b_exit, b_goto, b_ret, wantedA, aop, ev, putA, List.length_cons, List.length_nil, List.replicate, List.cons_append, List.nil_append, List.append_nil, List.append_assoc, gs_same, gs_ne, gq_same, gq_ne, List.length_set, List.map_cons, List.map_nil, cellsOf, List.all_cons, List.all_nil, cellOk, boxTy, Bool.and_true, Bool.and_self, if_true, ite_true, ite_false, loadAt, storeAt, setAt, hget, hget0, hset, hset0, List.getElem?_cons_zero, List.getElem?_cons_succ, List.set_cons_zero, List.set_cons_succ, Nat.add_zero, Nat.zero_add, Nat.reduceAdd, Nat.reduceSub, Nat.reduceLeDiff, Nat.reduceLT, Nat.reduceEqDiff, Nat.le_refl, and_self, and_true, true_and, mkAgg, toIms, List.drop_zero, List.drop_succ_cons, List.take_succ_cons, List.take_zero, List.length_append, binBool, unA, Bool.false_eq_true, if_false, partA, fillA, fillE, List.take_nil, Nat.zero_ne_one, Nat.one_ne_zero, not_false_eq_true, ne_eq, Nat.succ_ne_self, reduceCtorEq, Int.reduceEq, Int.reduceLT, Int.reduceLE, decide_true, decide_false, lenA, beq_self_eq_true, beq_true, beq_false, Bool.not_true, Bool.not_false, b_lss, b_gtr, b_leq, b_geq, b_eql, b_neq, b_add, b_sub, b_mul, s_eql, s_neq, y_ops, y_nil, y_cons, y_guard, y_some, y_drop, y_do, y_not, y_not0, c_call, c_clo, c_move, c_pick, c_alloc, c_box, c_build, c_bslice, c_load, c_store, c_nilCheck, c_bin, c_binB, c_un, c_i2i, c_i2f, c_f2i, c_s2b, c_b2s, c_strId, c_mkfunc, c_mkslice, c_slice, c_sliceStr, c_fieldAddr, c_field, c_indexSl, c_indexArr, c_elemArr, c_indexStr, c_extract, c_lenStr, c_lenSl, c_append, c_real, c_imag, c_complex, c_min, c_max, c_clear, hl1, a0, a1, a5, h21, h22, h23, e2, e3, hwD, e4, h20, List.length_map]
        refine thenL_ex (fun r : Option (AV × Heap) => ∃ H' : Heap, r = some (AV.im (.bool true), H')) (keyb _ _ wk ?_ ?_ ?_ ?_ ?_ ?_) ?_
        · omega
        iterate 5 simp only [gs_same, gs_ne, List.length_set, Nat.reduceLT, Nat.reduceEqDiff, not_false_eq_true, hl1, a1, z]
        rintro e tm2 H2 ⟨hl2, rfl, g, ⟨M, rfl⟩, g14⟩
        have g1 := g 1 (by simp)
        have g5 := g 5 (by simp)
        have g12 := g 12 (by simp)
        have g13 := g 13 (by simp)
        have g15 := g 15 (by simp)
        have g16 := g 16 (by simp)
        simp only [gs_same, gs_ne, List.length_set, Nat.reduceLT, Nat.reduceEqDiff, not_false_eq_true, hl1, a1, a5] at g1 g5 g12 g13 g15 g16
        clear g
        have hx : wk ++ sh ++ (if args.length = 0 then [] else [41]) = wk ++ (sh ++ if args.length = 0 then [] else [41]) := by rw [List.append_assoc]
        rw [← hx] at h17
        obtain ⟨tm3, hfin, hl3, h43⟩ := q6fin tm2 (H1 ++ [HO.obj none [[.im (.int .i64 k2), .im (.sl s2 (encTs ts2))]]] ++ M) K6 D (wk ++ sh) s args [] H1.length hl2 g1 g5 g12 _ _ (by simp only [List.append_assoc, List.cons_append, List.nil_append, hget0, List.getElem?_cons_zero]) g13 g14 g15 g16 hwD (by simp; omega) h17
        simp only [b_exit, if_true, k_normal]
        rw [hfin]
        exact hK _ _ hl3 h43
      · have hr' : rightT (.mk k s args) 6 = false := by simpa using hr
        simp only [checkT, hr', Bool.false_eq_true, if_false] at h21
        by_cases hw : wordK k = []
        · have e2 : decide (wordK k = []) = true := decide_eq_true hw
          simp only [q6_4, q6_5, q6_6, x_seq, x_block, x_skip, x_label, x_cond, x_exit, x_goto, x_ret, k_normal, k_exit, k_goto, k_ret, b_normal, b_exit, b_goto, b_ret, wantedA, aop, ev, putA, List.length_cons, List.length_nil, List.replicate, List.cons_append, List.nil_append, List.append_nil, List.append_assoc, gs_same, gs_ne, gq_same, gq_ne, List.length_set, List.map_cons, List.map_nil, cellsOf, List.all_cons, List.all_nil, cellOk, boxTy, Bool.and_true, Bool.and_self, if_true, ite_true, ite_false, loadAt, storeAt, setAt, hget, hget0, hset, hset0, List.getElem?_cons_zero, List.getElem?_cons_succ, List.set_cons_zero, List.set_cons_succ, Nat.add_zero, Nat.zero_add, Nat.reduceAdd, Nat.reduceSub, Nat.reduceLeDiff, Nat.reduceLT, Nat.reduceEqDiff, Nat.le_refl, and_self, and_true, true_and, mkAgg, toIms, List.drop_zero, List.drop_succ_cons, List.take_succ_cons, List.take_zero, List.length_append, binBool, unA, Bool.false_eq_true, if_false, partA, fillA, fillE, List.take_nil, Nat.zero_ne_one, Nat.one_ne_zero, not_false_eq_true, ne_eq, Nat.succ_ne_self, reduceCtorEq, Int.reduceEq, Int.reduceLT, Int.reduceLE, decide_true, decide_false, lenA, beq_self_eq_true, beq_true, beq_false, Bool.not_true, Bool.not_false, b_lss, b_gtr, b_leq, b_geq, b_eql, b_neq, b_add, b_sub, b_mul, s_eql, s_neq, y_ops, y_nil, y_cons, y_guard, y_some, y_drop, y_do, y_not, y_not0, c_call, c_clo, c_move, c_pick, c_alloc, c_box, c_build, c_bslice, c_load, c_store, c_nilCheck, c_bin, c_binB, c_un, c_i2i, c_i2f, c_f2i, c_s2b, c_b2s, c_strId, c_mkfunc, c_mkslice, c_slice, c_sliceStr, c_fieldAddr, c_field, c_indexSl, c_indexArr, c_elemArr, c_indexStr, c_extract, c_lenStr, c_lenSl, c_append, c_real, c_imag, c_complex, c_min, c_max, c_clear, hl1, a0, a1, a5, h21, h22, h23, e2, s11]
          exact hK _ _ (by simp only [List.length_set, hl1]) (by simp only [gs_same, gs_ne, List.length_set, Nat.reduceLT, Nat.reduceEqDiff, not_false_eq_true, hl1])
        · have e2 : decide (wordK k = []) = false := decide_eq_false hw
          by_cases hl : (args.length : Int) = cntK k
          · have hd : ¬ D + 1 ≤ 6 := fun h => hr (hmade.2 ⟨hw, hl, h⟩)
            have e3 : decide ((args.length : Int) = cntK k) = true := decide_eq_true hl
            have e4 : decide ((6 : Int) < D + 1) = true := decide_eq_true (by omega)
            simp only [q6_4, q6_5, q6_6, x_seq, x_block, x_skip, x_label, x_cond, x_exit, x_goto, x_ret, k_normal, k_exit, k_goto, k_ret, b_normal, b_exit, b_goto, b_ret, wantedA, aop, ev, putA, List.length_cons, List.length_nil, List.replicate, List.cons_append, List.nil_append, List.append_nil, List.append_assoc, gs_same, gs_ne, gq_same, gq_ne, List.length_set, List.map_cons, List.map_nil, cellsOf, List.all_cons, List.all_nil, cellOk, boxTy, Bool.and_true, Bool.and_self, if_true, ite_true, ite_false, loadAt, storeAt, setAt, hget, hget0, hset, hset0, List.getElem?_cons_zero, List.getElem?_cons_succ, List.set_cons_zero, List.set_cons_succ, Nat.add_zero, Nat.zero_add, Nat.reduceAdd, Nat.reduceSub, Nat.reduceLeDiff, Nat.reduceLT, Nat.reduceEqDiff, Nat.le_refl, and_self, and_true, true_and, mkAgg, toIms, List.drop_zero, List.drop_succ_cons, List.take_succ_cons, List.take_zero, List.length_append, binBool, unA, Bool.false_eq_true, if_false, partA, fillA, fillE, List.take_nil, Nat.zero_ne_one, Nat.one_ne_zero, not_false_eq_true, ne_eq, Nat.succ_ne_self, reduceCtorEq, Int.reduceEq, Int.reduceLT, Int.reduceLE, decide_true, decide_false, lenA, beq_self_eq_true, beq_true, beq_false, Bool.not_true, Bool.not_false, b_lss, b_gtr, b_leq, b_geq, b_eql, b_neq, b_add, b_sub, b_mul, s_eql, s_neq, y_ops, y_nil, y_cons, y_guard, y_some, y_drop, y_do, y_not, y_not0, c_call, c_clo, c_move, c_pick, c_alloc, c_box, c_build, c_bslice, c_load, c_store, c_nilCheck, c_bin, c_binB, c_un, c_i2i, c_i2f, c_f2i, c_s2b, c_b2s, c_strId, c_mkfunc, c_mkslice, c_slice, c_sliceStr, c_fieldAddr, c_field, c_indexSl, c_indexArr, c_elemArr, c_indexStr, c_extract, c_lenStr, c_lenSl, c_append, c_real, c_imag, c_complex, c_min, c_max, c_clear, hl1, a0, a1, a5, h21, h22, h23, e2, e3, hwD, e4, List.length_map, s11]
            exact hK _ _ (by simp only [List.length_set, hl1]) (by simp only [gs_same, gs_ne, List.length_set, Nat.reduceLT, Nat.reduceEqDiff, not_false_eq_true, hl1])
          · have e3 : decide ((args.length : Int) = cntK k) = false := decide_eq_false hl
            simp only [q6_4, q6_5, q6_6, x_seq, x_block, x_skip, x_label, x_cond, x_exit, x_goto, x_ret, k_normal, k_exit, k_goto, k_ret, b_normal, b_exit, b_goto, b_ret, wantedA, aop, ev, putA, List.length_cons, List.length_nil, List.replicate, List.cons_append, List.nil_append, List.append_nil, List.append_assoc, gs_same, gs_ne, gq_same, gq_ne, List.length_set, List.map_cons, List.map_nil, cellsOf, List.all_cons, List.all_nil, cellOk, boxTy, Bool.and_true, Bool.and_self, if_true, ite_true, ite_false, loadAt, storeAt, setAt, hget, hget0, hset, hset0, List.getElem?_cons_zero, List.getElem?_cons_succ, List.set_cons_zero, List.set_cons_succ, Nat.add_zero, Nat.zero_add, Nat.reduceAdd, Nat.reduceSub, Nat.reduceLeDiff, Nat.reduceLT, Nat.reduceEqDiff, Nat.le_refl, and_self, and_true, true_and, mkAgg, toIms, List.drop_zero, List.drop_succ_cons, List.take_succ_cons, List.take_zero, List.length_append, binBool, unA, Bool.false_eq_true, if_false, partA, fillA, fillE, List.take_nil, Nat.zero_ne_one, Nat.one_ne_zero, not_false_eq_true, ne_eq, Nat.succ_ne_self, reduceCtorEq, Int.reduceEq, Int.reduceLT, Int.reduceLE, decide_true, decide_false, lenA, beq_self_eq_true, beq_true, beq_false, Bool.not_true, Bool.not_false, b_lss, b_gtr, b_leq, b_geq, b_eql, b_neq, b_add, b_sub, b_mul, s_eql, s_neq, y_ops, y_nil, y_cons, y_guard, y_some, y_drop, y_do, y_not, y_not0, c_call, c_clo, c_move, c_pick, c_alloc, c_box, c_build, c_bslice, c_load, c_store, c_nilCheck, c_bin, c_binB, c_un, c_i2i, c_i2f, c_f2i, c_s2b, c_b2s, c_strId, c_mkfunc, c_mkslice, c_slice, c_sliceStr, c_fieldAddr, c_field, c_indexSl, c_indexArr, c_elemArr, c_indexStr, c_extract, c_lenStr, c_lenSl, c_append, c_real, c_imag, c_complex, c_min, c_max, c_clear, hl1, a0, a1, a5, h21, h22, h23, e2, e3, List.length_map, s11]
            exact hK _ _ (by simp only [List.length_set, hl1]) (by simp only [gs_same, gs_ne, List.length_set, Nat.reduceLT, Nat.reduceEqDiff, not_false_eq_true, hl1])

end Go.Abs.Seat
end
