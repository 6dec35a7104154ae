/- Part 7 of what the claim rests on. -/
import Derived.Test.YthkimdejhkpdeaaPrefixA
import Derived.Test.YthkimdejhkpdeaaPrefixB
import Derived.Test.YthkimdejhkpdeaaPrefixC
import Derived.Test.YthkimdejhkpdeaaPrefixD
import Derived.Test.YthkimdejhkpdeaaPrefixE
import Derived.Test.YthkimdejhkpdeaaPrefixF
section
/- What the seat's functions come to: of (the law's copy of a type as the reference's). -/
set_option linter.unusedVariables false
set_option linter.unusedSimpArgs false
namespace Go.Abs.Seat
open Go.Proofs

mutual
def slim : KT → Prop
  | .mk _ _ args => args.length ≤ 1000000 ∧ slims args
def slims : List KT → Prop
  | [] => True
  | a :: l => slim a ∧ slims l
end
theorem slims_mem : ∀ {l : List KT}, slims l → ∀ a ∈ l, slim a
  | [], _, a, h => by simp at h
  | b :: l, h, a, hm => by
    simp only [slims] at h
    rcases List.mem_cons.1 hm with rfl | hm
    · exact h.1
    · exact slims_mem h.2 a hm
mutual
theorem narrow_slim : ∀ t : KT, narrow t → slim t
  | .mk _ _ args, h => by
    simp only [narrow] at h
    simp only [slim]
    exact ⟨by omega, narrows_slims args h.2⟩
theorem narrows_slims : ∀ l : List KT, narrows l → slims l
  | [], _ => by simp only [slims]
  | a :: l, h => by
    simp only [narrows] at h
    simp only [slims]
    exact ⟨narrow_slim a h.1, narrows_slims l h.2⟩
end

theorem l15 (args : List KT) (s : Nat) (hs : args = [] ∨ s = 2) (hn : args.length ≤ 1000000) (H0 : Heap)
    (hc : ∀ a ∈ args, ∀ H, L 15 [.im (.agg (encT a))] H = some (.im (.agg (encT (cloneT a))), H)) :
    ∀ (m i : Nat), i + m = args.length → ∀ (tm : List AV) (M : Heap) (v : AV), Gath 31 2 H0.length v (H0 ++ M) ((args.take i).map fun a => encT (cloneT a)) → tm.length = 23 → tm.getD 3 undefA = v → tm.getD 7 undefA = .im (.sl s (args.map encT)) → tm.getD 8 undefA = .im (.int .i64 args.length) → tm.getD 9 undefA = .im (.int .i64 i) →
    ∃ e tm' H', Λ c15_0 tm (H0 ++ M) = some (e, tm', H') ∧ tm'.length = 23 ∧ e = .exit 0 ∧ tm'.getD 1 undefA = tm.getD 1 undefA ∧ tm'.getD 2 undefA = tm.getD 2 undefA ∧ ∃ M', H' = H0 ++ M' ∧ Gath 31 2 H0.length (tm'.getD 3 undefA) (H0 ++ M') (args.map fun a => encT (cloneT a))
  | 0, i, hi, tm, M, v, hG, hlen, h3, h7, h8, h9 => by
    have hc : decide ((i : Int) < (args.length : Int)) = false := decide_eq_false (by omega)
    rw [l15_0]
    simp only [b15_0, exec0, xreg, xops, wantedA, aopc, aop, ev, putA, endK, resA, tupA, List.length_cons, List.length_nil, List.replicate, List.cons_append, List.nil_append, List.append_nil, List.append_assoc, gs_same, gs_ne, gq_same, gq_ne, List.length_set, List.map_cons, List.map_nil, cellsOf, List.all_cons, List.all_nil, cellOk, boxTy, Bool.and_true, Bool.and_self, if_true, ite_true, ite_false, loadAt, storeAt, setAt, hget, hget0, hset, hset0, List.getElem?_cons_zero, List.getElem?_cons_succ, List.set_cons_zero, List.set_cons_succ, Nat.add_zero, Nat.zero_add, Nat.reduceAdd, Nat.reduceSub, Nat.reduceLeDiff, Nat.reduceLT, Nat.reduceEqDiff, Nat.le_refl, and_self, and_true, true_and, mkAgg, toIms, List.drop_zero, List.drop_succ_cons, List.take_succ_cons, List.take_zero, List.length_append, binA, isShift, binInt, binBool, unA, Bool.false_eq_true, if_false, partA, fillA, fillE, List.take_nil, Nat.zero_ne_one, Nat.one_ne_zero, not_false_eq_true, ne_eq, Nat.succ_ne_self, reduceCtorEq, Int.reduceEq, Int.reduceLT, Int.reduceLE, decide_true, decide_false, lenA, beq_self_eq_true, beq_true, beq_false, Bool.not_true, Bool.not_false, hlen, h3, h7, h8, h9, hc]
    have e : args.take i = args := List.take_of_length_le (by omega)
    rw [e] at hG
    exact ⟨_, _, _, rfl, by simp only [List.length_set, hlen], rfl, by simp only [gs_same, gs_ne, List.length_set, Nat.reduceLT, Nat.reduceEqDiff, not_false_eq_true, hlen], by simp only [gs_same, gs_ne, List.length_set, Nat.reduceLT, Nat.reduceEqDiff, not_false_eq_true, hlen], M, rfl, by simp only [gs_same, gs_ne, List.length_set, Nat.reduceLT, Nat.reduceEqDiff, not_false_eq_true, hlen, h3]; exact hG⟩
  | m + 1, i, hi, tm, M, v, hG, hlen, h3, h7, h8, h9 => by
    have hlt : i < args.length := by omega
    obtain ⟨w, hwi⟩ : ∃ w, args[i]? = some w := ⟨_, List.getElem?_eq_getElem hlt⟩
    have hs2 : s = 2 := by
      rcases hs with hs | hs
      · subst hs; simp at hlt
      · exact hs
    subst hs2
    have hc' : decide ((i : Int) < (args.length : Int)) = true := decide_eq_true (by omega)
    have hix := idx_nat (n := (args.map encT).length) (i := i) (by simpa using hlt)
    have hgw : (args.map encT)[i]? = some (encT w) := by rw [List.getElem?_map, hwi]; rfl
    have hcall := hc w (List.mem_of_getElem? hwi)
    have hwr := wrap_nat (i := i) (by omega)
    have key := l15 args 2 hs hn H0 hc m (i + 1) (by omega)
    have hG2 := hG.more [.obj none [(encT w).map .im]]
    rw [List.append_assoc] at hG2
    obtain ⟨v', M', hap, hG', hok, _⟩ := hG2.push (bytes := 32) (encT (cloneT w)) (by simp; omega) (by decide)
    have htk : (args.take (i + 1)).map (fun a => encT (cloneT a)) = (args.take i).map (fun a => encT (cloneT a)) ++ [encT (cloneT w)] := by
      rw [List.take_add_one, hwi]; simp
    rw [← htk] at hG'
    have hset0 : ∀ o o' : HO, (H0 ++ (M ++ [o])).set (H0.length + M.length) o' = H0 ++ (M ++ [o']) := fun o o' => by
      rw [← List.append_assoc, ← List.append_assoc, ← List.length_append, Go.Abs.hset0]; rfl
    have hgetA : ∀ o, (H0 ++ (M ++ [o]))[H0.length + M.length]? = some o := fun o => by
      rw [← List.append_assoc, ← List.length_append, Go.Abs.hget0]; rfl
    rw [l15_0]
    generalize hcw : cloneT w = cw at *
    obtain ⟨k, s', ts⟩ := w
    obtain ⟨k2, s2, ts2⟩ := cw
    simp only [encT, List.map_cons, List.map_nil] at hcall hgw hap
    simp only [b15_0, exec0, xreg, xops, wantedA, aopc, aop, ev, putA, endK, resA, tupA, List.length_cons, List.length_nil, List.replicate, List.cons_append, List.nil_append, List.append_nil, List.append_assoc, gs_same, gs_ne, gq_same, gq_ne, List.length_set, List.map_cons, List.map_nil, cellsOf, List.all_cons, List.all_nil, cellOk, boxTy, Bool.and_true, Bool.and_self, if_true, ite_true, ite_false, loadAt, storeAt, setAt, hget, hget0, hset, hset0, List.getElem?_cons_zero, List.getElem?_cons_succ, List.set_cons_zero, List.set_cons_succ, Nat.add_zero, Nat.zero_add, Nat.reduceAdd, Nat.reduceSub, Nat.reduceLeDiff, Nat.reduceLT, Nat.reduceEqDiff, Nat.le_refl, and_self, and_true, true_and, mkAgg, toIms, List.drop_zero, List.drop_succ_cons, List.take_succ_cons, List.take_zero, List.length_append, binA, isShift, binInt, binBool, unA, Bool.false_eq_true, if_false, partA, fillA, fillE, List.take_nil, Nat.zero_ne_one, Nat.one_ne_zero, not_false_eq_true, ne_eq, Nat.succ_ne_self, reduceCtorEq, Int.reduceEq, Int.reduceLT, Int.reduceLE, decide_true, decide_false, lenA, beq_self_eq_true, beq_true, beq_false, Bool.not_true, Bool.not_false, hlen, h3, h7, h8, h9, hc', hix, hgw, hcall, hwr, hgetA, hset0, toDatss, toDats, toDat, elems, hap]
    refine ex_imp (key _ M' v' hG' ?_ ?_ ?_ ?_ ?_) ?_
    iterate 5 simp only [gs_same, gs_ne, List.length_set, Nat.reduceLT, Nat.reduceEqDiff, not_false_eq_true, hlen, h3, h7, h8, h9]
    rintro e tm' H' ⟨hl', he, g1, g2, hM⟩
    refine ⟨hl', he, ?_, ?_, hM⟩
    · rw [g1]; simp only [gs_same, gs_ne, List.length_set, Nat.reduceLT, Nat.reduceEqDiff, not_false_eq_true, hlen]
    · rw [g2]; simp only [gs_same, gs_ne, List.length_set, Nat.reduceLT, Nat.reduceEqDiff, not_false_eq_true, hlen]

theorem s15 : ∀ (t : KT), okT t → slim t → ∀ H, L 15 [.im (.agg (encT t))] H = some (.im (.agg (encT (cloneT t))), H)
  | .mk k s args, hok, hnw, H => by
    simp only [okT] at hok
    obtain ⟨hs, _, hoks⟩ := hok
    simp only [slim] at hnw
    obtain ⟨hn, hnws⟩ := hnw
    have hc : ∀ a ∈ args, ∀ H, L 15 [.im (.agg (encT a))] H = some (.im (.agg (encT (cloneT a))), H) := fun a ha H => s15 a (okTs_mem hoks a ha) (slims_mem hnws a ha) H
    have key := l15 args s hs (by omega) (H ++ [.obj none [[.im (.int .i64 k), .im (.sl s (encTs args))]], .obj none [[.im (.int .i64 0), .nils]]]) hc args.length 0 (by omega)
    have z : ((0 : Nat) : Int) = 0 := rfl
    simp only [z] at key
    have hel : (encTs args).length = args.length := by rw [encTs_map]; simp
    simp only [encT]
    rw [leq F15]
    obtain ⟨hlen, ha⟩ := enter_at (f := f15) (args := [.im (.agg [.int .i64 k, .sl s (encTs args)])]) (Nat.le_of_ble_eq_true rfl)
    have h0 := ha 0 _ rfl
    generalize enterA f15 [.im (.agg [.int .i64 k, .sl s (encTs args)])] = tm at *
    change tm.length = 23 at hlen
    simp only [f15, e15_0, exec0, xreg, xops, wantedA, aopc, aop, ev, putA, endK, resA, tupA, List.length_cons, List.length_nil, List.replicate, List.cons_append, List.nil_append, List.append_nil, List.append_assoc, gs_same, gs_ne, gq_same, gq_ne, List.length_set, List.map_cons, List.map_nil, cellsOf, List.all_cons, List.all_nil, cellOk, boxTy, Bool.and_true, Bool.and_self, if_true, ite_true, ite_false, loadAt, storeAt, setAt, hget, hget0, hset, hset0, List.getElem?_cons_zero, List.getElem?_cons_succ, List.set_cons_zero, List.set_cons_succ, Nat.add_zero, Nat.zero_add, Nat.reduceAdd, Nat.reduceSub, Nat.reduceLeDiff, Nat.reduceLT, Nat.reduceEqDiff, Nat.le_refl, and_self, and_true, true_and, mkAgg, toIms, List.drop_zero, List.drop_succ_cons, List.take_succ_cons, List.take_zero, List.length_append, binA, isShift, binInt, binBool, unA, Bool.false_eq_true, if_false, partA, fillA, fillE, List.take_nil, Nat.zero_ne_one, Nat.one_ne_zero, not_false_eq_true, ne_eq, Nat.succ_ne_self, reduceCtorEq, Int.reduceEq, Int.reduceLT, Int.reduceLE, decide_true, decide_false, lenA, beq_self_eq_true, beq_true, beq_false, Bool.not_true, Bool.not_false, hlen, h0, hel]
    have key := fun tm => key tm [] .nils (.inl ⟨rfl, rfl⟩)
    simp only [List.append_nil] at key
    refine thenL_of (key _ ?_ ?_ ?_ ?_ ?_) ?_
    iterate 5 simp only [gs_same, gs_ne, List.length_set, Nat.reduceLT, Nat.reduceEqDiff, not_false_eq_true, hlen, h0, encTs_map]
    rintro e tm' H' ⟨hl', rfl, g1, g2, M, rfl, hG⟩
    simp only [gs_same, gs_ne, List.length_set, Nat.reduceLT, Nat.reduceEqDiff, not_false_eq_true, hlen] at g1 g2
    have hm : encTs (cloneTs args) = args.map fun a => encT (cloneT a) := by rw [encTs_map, cloneTs_map, List.map_map]; rfl
    rcases hG with ⟨hes, hv⟩ | ⟨hes, tok, _, hv, _⟩
    · have ha0 : args = [] := by simpa using hes
      have e1 : toDat (.agg [.im (.int .i64 k), .nils]) = some (.agg (encT (cloneT (.mk k s args)))) := by
        simp [toDat, toDats, cloneT, encT, ha0, encTs, cloneTs]
      have hlv := fun L' => leave_one (H := H) (M := L') e1
      simp only [cloneT, encT] at hlv ⊢
      simp only [exec0, xreg, xops, wantedA, aopc, aop, ev, putA, endK, resA, tupA, List.length_cons, List.length_nil, List.replicate, List.cons_append, List.nil_append, List.append_nil, List.append_assoc, gs_same, gs_ne, gq_same, gq_ne, List.length_set, List.map_cons, List.map_nil, cellsOf, List.all_cons, List.all_nil, cellOk, boxTy, Bool.and_true, Bool.and_self, if_true, ite_true, ite_false, loadAt, storeAt, setAt, hget, hget0, hset, hset0, List.getElem?_cons_zero, List.getElem?_cons_succ, List.set_cons_zero, List.set_cons_succ, Nat.add_zero, Nat.zero_add, Nat.reduceAdd, Nat.reduceSub, Nat.reduceLeDiff, Nat.reduceLT, Nat.reduceEqDiff, Nat.le_refl, and_self, and_true, true_and, mkAgg, toIms, List.drop_zero, List.drop_succ_cons, List.take_succ_cons, List.take_zero, List.length_append, binA, isShift, binInt, binBool, unA, Bool.false_eq_true, if_false, partA, fillA, fillE, List.take_nil, Nat.zero_ne_one, Nat.one_ne_zero, not_false_eq_true, ne_eq, Nat.succ_ne_self, reduceCtorEq, Int.reduceEq, Int.reduceLT, Int.reduceLE, decide_true, decide_false, lenA, beq_self_eq_true, beq_true, beq_false, Bool.not_true, Bool.not_false, hl', g1, g2, hv, toDatss, toDats, toDat, hlv]
    · have ha0 : args.length ≠ 0 := by simpa using hes
      have e1 : toDat (.agg [.im (.int .i64 k), .asl 2 (args.map fun a => encT (cloneT a)) tok]) = some (.agg (encT (cloneT (.mk k s args)))) := by
        simp only [toDat, toDats, cloneT, encT, if_neg ha0, hm]
      have hlv := fun L' => leave_one (H := H) (M := L') e1
      simp only [cloneT, encT] at hlv ⊢
      simp only [exec0, xreg, xops, wantedA, aopc, aop, ev, putA, endK, resA, tupA, List.length_cons, List.length_nil, List.replicate, List.cons_append, List.nil_append, List.append_nil, List.append_assoc, gs_same, gs_ne, gq_same, gq_ne, List.length_set, List.map_cons, List.map_nil, cellsOf, List.all_cons, List.all_nil, cellOk, boxTy, Bool.and_true, Bool.and_self, if_true, ite_true, ite_false, loadAt, storeAt, setAt, hget, hget0, hset, hset0, List.getElem?_cons_zero, List.getElem?_cons_succ, List.set_cons_zero, List.set_cons_succ, Nat.add_zero, Nat.zero_add, Nat.reduceAdd, Nat.reduceSub, Nat.reduceLeDiff, Nat.reduceLT, Nat.reduceEqDiff, Nat.le_refl, and_self, and_true, true_and, mkAgg, toIms, List.drop_zero, List.drop_succ_cons, List.take_succ_cons, List.take_zero, List.length_append, binA, isShift, binInt, binBool, unA, Bool.false_eq_true, if_false, partA, fillA, fillE, List.take_nil, Nat.zero_ne_one, Nat.one_ne_zero, not_false_eq_true, ne_eq, Nat.succ_ne_self, reduceCtorEq, Int.reduceEq, Int.reduceLT, Int.reduceLE, decide_true, decide_false, lenA, beq_self_eq_true, beq_true, beq_false, Bool.not_true, Bool.not_false, hl', g1, g2, hv, toDatss, toDats, toDat, hlv]
termination_by t => SizeOf.sizeOf t
decreasing_by
  have := List.sizeOf_lt_of_mem ha
  simp only [KT.mk.sizeOf_spec]
  omega

end Go.Abs.Seat
end
section
/- What the functions come to: the reference's Same. -/
set_option linter.unusedVariables false
set_option linter.unusedSimpArgs false
namespace Go.Abs.Seat
open Go.Proofs

mutual
def sameT : KT → KT → Bool
  | .mk k _ xs, .mk k' _ ys => decide (k = k') && (decide (xs.length = ys.length) && sameTs xs ys)
def sameTs : List KT → List KT → Bool
  | a :: xs, b :: ys => sameT a b && sameTs xs ys
  | _, _ => true
end

theorem l14 (xs ys : List KT) (s s' : Nat) (hs : xs = [] ∨ s = 2) (hs' : ys = [] ∨ s' = 2) (hl : xs.length = ys.length) (hn : xs.length ≤ 9223372036854775807) (ka kb : Int) (ia ib : Nat) (H : Heap) (oa : H[ia]? = some (.obj none [[.im (.int .i64 ka), .im (.sl s (xs.map encT))]])) (ob : H[ib]? = some (.obj none [[.im (.int .i64 kb), .im (.sl s' (ys.map encT))]]))
    (hc : ∀ a ∈ xs, ∀ b ∈ ys, L 14 [.im (.agg (encT a)), .im (.agg (encT b))] H = some (.im (.bool (sameT a b)), H)) :
    ∀ (m i : Nat), i + m = xs.length → ∀ tm : List AV, tm.length = 39 → tm.getD 2 undefA = .ptr ia 0 0 → tm.getD 3 undefA = .ptr ib 0 0 → tm.getD 5 undefA = .im (.int .i64 (i : Int)) →
    ∃ e tm' H', Λ c14_0 tm H = some (e, tm', H') ∧ tm'.length = 39 ∧ H' = H ∧ ((sameTs (xs.drop i) (ys.drop i) = true ∧ e = .exit 0) ∨ (sameTs (xs.drop i) (ys.drop i) = false ∧ e = .ret ∧ tm'.getD 4 undefA = .im (.bool false)))
  | 0, i, hi, tm, hlen, h2, h3, h5 => by
    have e : xs.drop i = [] := by rw [List.drop_eq_nil_iff]; omega
    have hc' : decide ((i : Int) < (xs.length : Int)) = false := decide_eq_false (by omega)
    rw [e, l14_0]
    simp only [b14_0, x_seq, x_block, x_skip, x_label, x_cond, x_exit, x_goto, x_ret, k_normal, k_exit, k_goto, k_ret, b_normal, b_exit, b_goto, b_ret, wantedA, aop, ev, putA, List.length_cons, List.length_nil, List.replicate, List.cons_append, List.nil_append, List.append_nil, List.append_assoc, gs_same, gs_ne, gq_same, gq_ne, List.length_set, List.map_cons, List.map_nil, cellsOf, List.all_cons, List.all_nil, cellOk, boxTy, Bool.and_true, Bool.and_self, if_true, ite_true, ite_false, loadAt, storeAt, setAt, hget, hget0, hset, hset0, List.getElem?_cons_zero, List.getElem?_cons_succ, List.set_cons_zero, List.set_cons_succ, Nat.add_zero, Nat.zero_add, Nat.reduceAdd, Nat.reduceSub, Nat.reduceLeDiff, Nat.reduceLT, Nat.reduceEqDiff, Nat.le_refl, and_self, and_true, true_and, mkAgg, toIms, List.drop_zero, List.drop_succ_cons, List.take_succ_cons, List.take_zero, List.length_append, binBool, unA, Bool.false_eq_true, if_false, partA, fillA, fillE, List.take_nil, Nat.zero_ne_one, Nat.one_ne_zero, not_false_eq_true, ne_eq, Nat.succ_ne_self, reduceCtorEq, Int.reduceEq, Int.reduceLT, Int.reduceLE, decide_true, decide_false, lenA, beq_self_eq_true, beq_true, beq_false, Bool.not_true, Bool.not_false, b_lss, b_gtr, b_leq, b_geq, b_eql, b_neq, b_add, b_sub, b_mul, s_eql, s_neq, y_ops, y_nil, y_cons, y_guard, y_some, y_drop, y_do, y_not, y_not0, c_call, c_clo, c_move, c_pick, c_alloc, c_box, c_build, c_bslice, c_load, c_store, c_nilCheck, c_bin, c_binB, c_un, c_i2i, c_i2f, c_f2i, c_s2b, c_b2s, c_strId, c_mkfunc, c_mkslice, c_slice, c_sliceStr, c_fieldAddr, c_field, c_indexSl, c_indexArr, c_elemArr, c_indexStr, c_extract, c_lenStr, c_lenSl, c_append, c_real, c_imag, c_complex, c_min, c_max, c_clear, hlen, h2, h3, h5, oa, List.length_map, hc', sameTs]
    exact ⟨_, _, _, rfl, by simp only [List.length_set, hlen], rfl, by simp⟩
  | m + 1, i, hi, tm, hlen, h2, h3, h5 => by
    have hlt : i < xs.length := by omega
    have hltb : i < ys.length := by omega
    obtain ⟨a, hai, ea⟩ := drop_cons hlt
    obtain ⟨b, hbi, eb⟩ := drop_cons hltb
    have hs2 : s = 2 := by
      rcases hs with hs | hs
      · subst hs; simp at hlt
      · exact hs
    have hs2' : s' = 2 := by
      rcases hs' with hs | hs
      · subst hs; simp at hltb
      · exact hs
    subst hs2 hs2'
    have hc' : decide ((i : Int) < (xs.length : Int)) = true := decide_eq_true (by omega)
    have hixa := idx_nat (n := xs.length) (i := i) hlt
    have hixb := idx_nat (n := ys.length) (i := i) hltb
    have hga : (xs.map encT)[i]? = some (encT a) := by rw [List.getElem?_map, hai]; rfl
    have hgb : (ys.map encT)[i]? = some (encT b) := by rw [List.getElem?_map, hbi]; rfl
    have hcall := hc a (List.mem_of_getElem? hai) b (List.mem_of_getElem? hbi)
    have hwr := wrap_nat (i := i) (by omega)
    have key := l14 xs ys 2 2 hs hs' hl hn ka kb ia ib H oa ob hc m (i + 1) (by omega)
    rw [ea, eb, l14_0]
    simp only [sameTs]
    generalize sameT a b = sb at *
    obtain ⟨k1, s1, ts1⟩ := a
    obtain ⟨k2, s2, ts2⟩ := b
    simp only [encT] at hcall hga hgb
    cases sb with
    | true =>
      simp only [b14_0, x_seq, x_block, x_skip, x_label, x_cond, x_exit, x_goto, x_ret, k_normal, k_exit, k_goto, k_ret, b_normal, b_exit, b_goto, b_ret, wantedA, aop, ev, putA, List.length_cons, List.length_nil, List.replicate, List.cons_append, List.nil_append, List.append_nil, List.append_assoc, gs_same, gs_ne, gq_same, gq_ne, List.length_set, List.map_cons, List.map_nil, cellsOf, List.all_cons, List.all_nil, cellOk, boxTy, Bool.and_true, Bool.and_self, if_true, ite_true, ite_false, loadAt, storeAt, setAt, hget, hget0, hset, hset0, List.getElem?_cons_zero, List.getElem?_cons_succ, List.set_cons_zero, List.set_cons_succ, Nat.add_zero, Nat.zero_add, Nat.reduceAdd, Nat.reduceSub, Nat.reduceLeDiff, Nat.reduceLT, Nat.reduceEqDiff, Nat.le_refl, and_self, and_true, true_and, mkAgg, toIms, List.drop_zero, List.drop_succ_cons, List.take_succ_cons, List.take_zero, List.length_append, binBool, unA, Bool.false_eq_true, if_false, partA, fillA, fillE, List.take_nil, Nat.zero_ne_one, Nat.one_ne_zero, not_false_eq_true, ne_eq, Nat.succ_ne_self, reduceCtorEq, Int.reduceEq, Int.reduceLT, Int.reduceLE, decide_true, decide_false, lenA, beq_self_eq_true, beq_true, beq_false, Bool.not_true, Bool.not_false, b_lss, b_gtr, b_leq, b_geq, b_eql, b_neq, b_add, b_sub, b_mul, s_eql, s_neq, y_ops, y_nil, y_cons, y_guard, y_some, y_drop, y_do, y_not, y_not0, c_call, c_clo, c_move, c_pick, c_alloc, c_box, c_build, c_bslice, c_load, c_store, c_nilCheck, c_bin, c_binB, c_un, c_i2i, c_i2f, c_f2i, c_s2b, c_b2s, c_strId, c_mkfunc, c_mkslice, c_slice, c_sliceStr, c_fieldAddr, c_field, c_indexSl, c_indexArr, c_elemArr, c_indexStr, c_extract, c_lenStr, c_lenSl, c_append, c_real, c_imag, c_complex, c_min, c_max, c_clear, hlen, h2, h3, h5, oa, ob, List.length_map, hc', hixa, hixb, hga, hgb, hcall, hwr, Bool.true_and]
      refine ex_imp (key _ ?_ ?_ ?_ ?_) fun _ _ _ h => h
      all_goals simp only [gs_same, gs_ne, List.length_set, Nat.reduceLT, Nat.reduceEqDiff, not_false_eq_true, hlen, h2, h3]
    | false =>
      simp only [b14_0, x_seq, x_block, x_skip, x_label, x_cond, x_exit, x_goto, x_ret, k_normal, k_exit, k_goto, k_ret, b_normal, b_exit, b_goto, b_ret, wantedA, aop, ev, putA, List.length_cons, List.length_nil, List.replicate, List.cons_append, List.nil_append, List.append_nil, List.append_assoc, gs_same, gs_ne, gq_same, gq_ne, List.length_set, List.map_cons, List.map_nil, cellsOf, List.all_cons, List.all_nil, cellOk, boxTy, Bool.and_true, Bool.and_self, if_true, ite_true, ite_false, loadAt, storeAt, setAt, hget, hget0, hset, hset0, List.getElem?_cons_zero, List.getElem?_cons_succ, List.set_cons_zero, List.set_cons_succ, Nat.add_zero, Nat.zero_add, Nat.reduceAdd, Nat.reduceSub, Nat.reduceLeDiff, Nat.reduceLT, Nat.reduceEqDiff, Nat.le_refl, and_self, and_true, true_and, mkAgg, toIms, List.drop_zero, List.drop_succ_cons, List.take_succ_cons, List.take_zero, List.length_append, binBool, unA, Bool.false_eq_true, if_false, partA, fillA, fillE, List.take_nil, Nat.zero_ne_one, Nat.one_ne_zero, not_false_eq_true, ne_eq, Nat.succ_ne_self, reduceCtorEq, Int.reduceEq, Int.reduceLT, Int.reduceLE, decide_true, decide_false, lenA, beq_self_eq_true, beq_true, beq_false, Bool.not_true, Bool.not_false, b_lss, b_gtr, b_leq, b_geq, b_eql, b_neq, b_add, b_sub, b_mul, s_eql, s_neq, y_ops, y_nil, y_cons, y_guard, y_some, y_drop, y_do, y_not, y_not0, c_call, c_clo, c_move, c_pick, c_alloc, c_box, c_build, c_bslice, c_load, c_store, c_nilCheck, c_bin, c_binB, c_un, c_i2i, c_i2f, c_f2i, c_s2b, c_b2s, c_strId, c_mkfunc, c_mkslice, c_slice, c_sliceStr, c_fieldAddr, c_field, c_indexSl, c_indexArr, c_elemArr, c_indexStr, c_extract, c_lenStr, c_lenSl, c_append, c_real, c_imag, c_complex, c_min, c_max, c_clear, hlen, h2, h3, h5, oa, ob, List.length_map, hc', hixa, hixb, hga, hgb, hcall, hwr, Bool.false_and]
      exact ⟨_, _, _, rfl, by simp only [List.length_set, hlen], rfl, by simp only [gs_same, gs_ne, List.length_set, Nat.reduceLT, Nat.reduceEqDiff, not_false_eq_true, hlen, true_and, and_true, and_self, or_true]⟩

theorem s14 : ∀ (a b : KT), okT a → okT b → ∀ H, L 14 [.im (.agg (encT a)), .im (.agg (encT b))] H = some (.im (.bool (sameT a b)), H)
  | .mk ka s xs, .mk kb s' ys, ha, hb, H => by
    simp only [okT] at ha hb
    obtain ⟨hs, hn, hoa⟩ := ha
    obtain ⟨hs', hn', hob⟩ := hb
    have hc : ∀ H : Heap, ∀ a ∈ xs, ∀ b ∈ ys, L 14 [.im (.agg (encT a)), .im (.agg (encT b))] H = some (.im (.bool (sameT a b)), H) := fun H a ha b hb => s14 a b (okTs_mem hoa a ha) (okTs_mem hob b hb) H
    simp only [encT, encTs_map, sameT]
    rw [leq F14]
    obtain ⟨hlen, hg⟩ := enter_at (f := f14) (args := [.im (.agg [.int .i64 ka, .sl s (xs.map encT)]), .im (.agg [.int .i64 kb, .sl s' (ys.map encT)])]) (Nat.le_of_ble_eq_true rfl)
    have h0 := hg 0 _ rfl
    have h1 := hg 1 _ rfl
    generalize enterA f14 [.im (.agg [.int .i64 ka, .sl s (xs.map encT)]), .im (.agg [.int .i64 kb, .sl s' (ys.map encT)])] = tm at *
    change tm.length = 39 at hlen
    by_cases hk : ka = kb
    · have hdk : decide (ka = kb) = true := decide_eq_true hk
      by_cases hl : xs.length = ys.length
      · have hdl : decide ((xs.length : Int) = (ys.length : Int)) = true := decide_eq_true (by omega)
        have hdl' : decide (xs.length = ys.length) = true := decide_eq_true hl
        have key := l14 xs ys s s' hs hs' hl hn ka kb H.length (H.length + 1) (H ++ [HO.obj none [[.im (.int .i64 ka), .im (.sl s (xs.map encT))]], HO.obj none [[.im (.int .i64 kb), .im (.sl s' (ys.map encT))]]]) (by rw [hget0]; rfl) (by rw [hget]; rfl) (hc _) xs.length 0 (by omega)
        have z : ((0 : Nat) : Int) = 0 := rfl
        simp only [z, List.drop_zero] at key
        simp only [f14, e14_0, x_seq, x_block, x_skip, x_label, x_cond, x_exit, x_goto, x_ret, k_normal, k_exit, k_goto, k_ret, b_normal, b_exit, b_goto, b_ret, wantedA, aop, ev, putA, List.length_cons, List.length_nil, List.replicate, List.cons_append, List.nil_append, List.append_nil, List.append_assoc, gs_same, gs_ne, gq_same, gq_ne, List.length_set, List.map_cons, List.map_nil, cellsOf, List.all_cons, List.all_nil, cellOk, boxTy, Bool.and_true, Bool.and_self, if_true, ite_true, ite_false, loadAt, storeAt, setAt, hget, hget0, hset, hset0, List.getElem?_cons_zero, List.getElem?_cons_succ, List.set_cons_zero, List.set_cons_succ, Nat.add_zero, Nat.zero_add, Nat.reduceAdd, Nat.reduceSub, Nat.reduceLeDiff, Nat.reduceLT, Nat.reduceEqDiff, Nat.le_refl, and_self, and_true, true_and, mkAgg, toIms, List.drop_zero, List.drop_succ_cons, List.take_succ_cons, List.take_zero, List.length_append, binBool, unA, Bool.false_eq_true, if_false, partA, fillA, fillE, List.take_nil, Nat.zero_ne_one, Nat.one_ne_zero, not_false_eq_true, ne_eq, Nat.succ_ne_self, reduceCtorEq, Int.reduceEq, Int.reduceLT, Int.reduceLE, decide_true, decide_false, lenA, beq_self_eq_true, beq_true, beq_false, Bool.not_true, Bool.not_false, b_lss, b_gtr, b_leq, b_geq, b_eql, b_neq, b_add, b_sub, b_mul, s_eql, s_neq, y_ops, y_nil, y_cons, y_guard, y_some, y_drop, y_do, y_not, y_not0, c_call, c_clo, c_move, c_pick, c_alloc, c_box, c_build, c_bslice, c_load, c_store, c_nilCheck, c_bin, c_binB, c_un, c_i2i, c_i2f, c_f2i, c_s2b, c_b2s, c_strId, c_mkfunc, c_mkslice, c_slice, c_sliceStr, c_fieldAddr, c_field, c_indexSl, c_indexArr, c_elemArr, c_indexStr, c_extract, c_lenStr, c_lenSl, c_append, c_real, c_imag, c_complex, c_min, c_max, c_clear, hlen, h0, h1, List.length_map, hdk, hdl, hdl', Bool.true_and]
        generalize hr : thenL _ _ = r
        refine Exists.elim (thenL_inv hr (key _ ?_ ?_ ?_ ?_)) ?_
        iterate 4 simp only [gs_same, gs_ne, List.length_set, Nat.reduceLT, Nat.reduceEqDiff, not_false_eq_true, hlen]
        clear hr key
        rintro e ⟨tm1, H1, ⟨hl1, rfl, hm⟩, rfl⟩
        rcases hm with ⟨he, rfl⟩ | ⟨he, rfl, g4⟩
        · rw [he]
          simp only [x_seq, x_block, x_skip, x_label, x_cond, x_exit, x_goto, x_ret, k_normal, k_exit, k_goto, k_ret, b_normal, b_exit, b_goto, b_ret, wantedA, aop, ev, putA, List.length_cons, List.length_nil, List.replicate, List.cons_append, List.nil_append, List.append_nil, List.append_assoc, gs_same, gs_ne, gq_same, gq_ne, List.length_set, List.map_cons, List.map_nil, cellsOf, List.all_cons, List.all_nil, cellOk, boxTy, Bool.and_true, Bool.and_self, if_true, ite_true, ite_false, loadAt, storeAt, setAt, hget, hget0, hset, hset0, List.getElem?_cons_zero, List.getElem?_cons_succ, List.set_cons_zero, List.set_cons_succ, Nat.add_zero, Nat.zero_add, Nat.reduceAdd, Nat.reduceSub, Nat.reduceLeDiff, Nat.reduceLT, Nat.reduceEqDiff, Nat.le_refl, and_self, and_true, true_and, mkAgg, toIms, List.drop_zero, List.drop_succ_cons, List.take_succ_cons, List.take_zero, List.length_append, binBool, unA, Bool.false_eq_true, if_false, partA, fillA, fillE, List.take_nil, Nat.zero_ne_one, Nat.one_ne_zero, not_false_eq_true, ne_eq, Nat.succ_ne_self, reduceCtorEq, Int.reduceEq, Int.reduceLT, Int.reduceLE, decide_true, decide_false, lenA, beq_self_eq_true, beq_true, beq_false, Bool.not_true, Bool.not_false, b_lss, b_gtr, b_leq, b_geq, b_eql, b_neq, b_add, b_sub, b_mul, s_eql, s_neq, y_ops, y_nil, y_cons, y_guard, y_some, y_drop, y_do, y_not, y_not0, c_call, c_clo, c_move, c_pick, c_alloc, c_box, c_build, c_bslice, c_load, c_store, c_nilCheck, c_bin, c_binB, c_un, c_i2i, c_i2f, c_f2i, c_s2b, c_b2s, c_strId, c_mkfunc, c_mkslice, c_slice, c_sliceStr, c_fieldAddr, c_field, c_indexSl, c_indexArr, c_elemArr, c_indexStr, c_extract, c_lenStr, c_lenSl, c_append, c_real, c_imag, c_complex, c_min, c_max, c_clear, endK, resA, tupA, hl1, leave_app]
        · rw [he]
          simp only [x_seq, x_block, x_skip, x_label, x_cond, x_exit, x_goto, x_ret, k_normal, k_exit, k_goto, k_ret, b_normal, b_exit, b_goto, b_ret, wantedA, aop, ev, putA, List.length_cons, List.length_nil, List.replicate, List.cons_append, List.nil_append, List.append_nil, List.append_assoc, gs_same, gs_ne, gq_same, gq_ne, List.length_set, List.map_cons, List.map_nil, cellsOf, List.all_cons, List.all_nil, cellOk, boxTy, Bool.and_true, Bool.and_self, if_true, ite_true, ite_false, loadAt, storeAt, setAt, hget, hget0, hset, hset0, List.getElem?_cons_zero, List.getElem?_cons_succ, List.set_cons_zero, List.set_cons_succ, Nat.add_zero, Nat.zero_add, Nat.reduceAdd, Nat.reduceSub, Nat.reduceLeDiff, Nat.reduceLT, Nat.reduceEqDiff, Nat.le_refl, and_self, and_true, true_and, mkAgg, toIms, List.drop_zero, List.drop_succ_cons, List.take_succ_cons, List.take_zero, List.length_append, binBool, unA, Bool.false_eq_true, if_false, partA, fillA, fillE, List.take_nil, Nat.zero_ne_one, Nat.one_ne_zero, not_false_eq_true, ne_eq, Nat.succ_ne_self, reduceCtorEq, Int.reduceEq, Int.reduceLT, Int.reduceLE, decide_true, decide_false, lenA, beq_self_eq_true, beq_true, beq_false, Bool.not_true, Bool.not_false, b_lss, b_gtr, b_leq, b_geq, b_eql, b_neq, b_add, b_sub, b_mul, s_eql, s_neq, y_ops, y_nil, y_cons, y_guard, y_some, y_drop, y_do, y_not, y_not0, c_call, c_clo, c_move, c_pick, c_alloc, c_box, c_build, c_bslice, c_load, c_store, c_nilCheck, c_bin, c_binB, c_un, c_i2i, c_i2f, c_f2i, c_s2b, c_b2s, c_strId, c_mkfunc, c_mkslice, c_slice, c_sliceStr, c_fieldAddr, c_field, c_indexSl, c_indexArr, c_elemArr, c_indexStr, c_extract, c_lenStr, c_lenSl, c_append, c_real, c_imag, c_complex, c_min, c_max, c_clear, endK, resA, tupA, hl1, g4, leave_app]
      · have hdl : decide ((xs.length : Int) = (ys.length : Int)) = false := decide_eq_false (by omega)
        have hdl' : decide (xs.length = ys.length) = false := decide_eq_false hl
        simp only [f14, x_seq, x_block, x_skip, x_label, x_cond, x_exit, x_goto, x_ret, k_normal, k_exit, k_goto, k_ret, b_normal, b_exit, b_goto, b_ret, wantedA, aop, ev, putA, List.length_cons, List.length_nil, List.replicate, List.cons_append, List.nil_append, List.append_nil, List.append_assoc, gs_same, gs_ne, gq_same, gq_ne, List.length_set, List.map_cons, List.map_nil, cellsOf, List.all_cons, List.all_nil, cellOk, boxTy, Bool.and_true, Bool.and_self, if_true, ite_true, ite_false, loadAt, storeAt, setAt, hget, hget0, hset, hset0, List.getElem?_cons_zero, List.getElem?_cons_succ, List.set_cons_zero, List.set_cons_succ, Nat.add_zero, Nat.zero_add, Nat.reduceAdd, Nat.reduceSub, Nat.reduceLeDiff, Nat.reduceLT, Nat.reduceEqDiff, Nat.le_refl, and_self, and_true, true_and, mkAgg, toIms, List.drop_zero, List.drop_succ_cons, List.take_succ_cons, List.take_zero, List.length_append, binBool, unA, Bool.false_eq_true, if_false, partA, fillA, fillE, List.take_nil, Nat.zero_ne_one, Nat.one_ne_zero, not_false_eq_true, ne_eq, Nat.succ_ne_self, reduceCtorEq, Int.reduceEq, Int.reduceLT, Int.reduceLE, decide_true, decide_false, lenA, beq_self_eq_true, beq_true, beq_false, Bool.not_true, Bool.not_false, b_lss, b_gtr, b_leq, b_geq, b_eql, b_neq, b_add, b_sub, b_mul, s_eql, s_neq, y_ops, y_nil, y_cons, y_guard, y_some, y_drop, y_do, y_not, y_not0, c_call, c_clo, c_move, c_pick, c_alloc, c_box, c_build, c_bslice, c_load, c_store, c_nilCheck, c_bin, c_binB, c_un, c_i2i, c_i2f, c_f2i, c_s2b, c_b2s, c_strId, c_mkfunc, c_mkslice, c_slice, c_sliceStr, c_fieldAddr, c_field, c_indexSl, c_indexArr, c_elemArr, c_indexStr, c_extract, c_lenStr, c_lenSl, c_append, c_real, c_imag, c_complex, c_min, c_max, c_clear, endK, resA, tupA, hlen, h0, h1, List.length_map, hdk, hdl, hdl', Bool.true_and, Bool.false_and, leave_app]
    · have hdk : decide (ka = kb) = false := decide_eq_false hk
      simp only [f14, x_seq, x_block, x_skip, x_label, x_cond, x_exit, x_goto, x_ret, k_normal, k_exit, k_goto, k_ret, b_normal, b_exit, b_goto, b_ret, wantedA, aop, ev, putA, List.length_cons, List.length_nil, List.replicate, List.cons_append, List.nil_append, List.append_nil, List.append_assoc, gs_same, gs_ne, gq_same, gq_ne, List.length_set, List.map_cons, List.map_nil, cellsOf, List.all_cons, List.all_nil, cellOk, boxTy, Bool.and_true, Bool.and_self, if_true, ite_true, ite_false, loadAt, storeAt, setAt, hget, hget0, hset, hset0, List.getElem?_cons_zero, List.getElem?_cons_succ, List.set_cons_zero, List.set_cons_succ, Nat.add_zero, Nat.zero_add, Nat.reduceAdd, Nat.reduceSub, Nat.reduceLeDiff, Nat.reduceLT, Nat.reduceEqDiff, Nat.le_refl, and_self, and_true, true_and, mkAgg, toIms, List.drop_zero, List.drop_succ_cons, List.take_succ_cons, List.take_zero, List.length_append, binBool, unA, Bool.false_eq_true, if_false, partA, fillA, fillE, List.take_nil, Nat.zero_ne_one, Nat.one_ne_zero, not_false_eq_true, ne_eq, Nat.succ_ne_self, reduceCtorEq, Int.reduceEq, Int.reduceLT, Int.reduceLE, decide_true, decide_false, lenA, beq_self_eq_true, beq_true, beq_false, Bool.not_true, Bool.not_false, b_lss, b_gtr, b_leq, b_geq, b_eql, b_neq, b_add, b_sub, b_mul, s_eql, s_neq, y_ops, y_nil, y_cons, y_guard, y_some, y_drop, y_do, y_not, y_not0, c_call, c_clo, c_move, c_pick, c_alloc, c_box, c_build, c_bslice, c_load, c_store, c_nilCheck, c_bin, c_binB, c_un, c_i2i, c_i2f, c_f2i, c_s2b, c_b2s, c_strId, c_mkfunc, c_mkslice, c_slice, c_sliceStr, c_fieldAddr, c_field, c_indexSl, c_indexArr, c_elemArr, c_indexStr, c_extract, c_lenStr, c_lenSl, c_append, c_real, c_imag, c_complex, c_min, c_max, c_clear, endK, resA, tupA, hlen, h0, h1, hdk, Bool.false_and, leave_app]
termination_by a => SizeOf.sizeOf a
decreasing_by
  have := List.sizeOf_lt_of_mem ha
  simp only [KT.mk.sizeOf_spec]
  omega

end Go.Abs.Seat
end
section
/- The law KindParses, the plain part: both readings of a text are one. -/
set_option linter.unusedVariables false
set_option linter.unusedSimpArgs false
namespace Go.Abs.Seat
open Go.Proofs

theorem lcp_ge : ∀ (n : Nat) (w r : List UInt8), n ≤ lcp w r ↔ (w.take n = r.take n ∧ n ≤ w.length ∧ n ≤ r.length)
  | 0, w, r => by simp
  | n + 1, [], r => by cases r <;> simp [lcp]
  | n + 1, a :: w, [] => by simp [lcp]
  | n + 1, a :: w, b :: r => by
    have := lcp_ge n w r
    simp only [lcp, List.take_succ_cons, List.cons.injEq, List.length_cons]
    by_cases h : b = a
    · rw [if_pos h]
      constructor
      · intro h1
        obtain ⟨h2, h3, h4⟩ := this.1 (by omega)
        exact ⟨⟨h.symm, h2⟩, by omega, by omega⟩
      · rintro ⟨⟨_, h2⟩, h3, h4⟩
        have := this.2 ⟨h2, by omega, by omega⟩
        omega
    · rw [if_neg h]
      constructor
      · intro h1; omega
      · rintro ⟨⟨h2, _⟩, _⟩; exact absurd h2.symm h

theorem begB_prefix {w r : List UInt8} : begB w r = true ↔ w <+: r := by
  unfold begB
  rw [List.prefix_iff_eq_take, Bool.and_eq_true, decide_eq_true_eq, decide_eq_true_eq]
  constructor
  · rintro ⟨_, h⟩; exact h.symm
  · intro h
    refine ⟨?_, h.symm⟩
    have := congrArg List.length h
    simp at this
    omega

theorem take_more {w r : List UInt8} {n : Nat} {c : UInt8} (hr : r[n]? = some c) : w.take (n + 1) = r.take (n + 1) ↔ (w.take n = r.take n ∧ w[n]? = some c) := by
  have hn := (List.getElem?_eq_some_iff.1 hr).1
  rw [List.take_add_one, List.take_add_one, hr]
  constructor
  · intro h
    cases hw : w[n]? with
    | none =>
      rw [hw] at h
      have := congrArg List.length h
      simp at this
      omega
    | some x =>
      rw [hw] at h
      have hwn := (List.getElem?_eq_some_iff.1 hw).1
      obtain ⟨h1, h2⟩ := List.append_inj h (by simp; omega)
      simp at h2
      exact ⟨h1, by rw [h2]⟩
  · rintro ⟨h1, h2⟩
    rw [h1, h2]

theorem wordGo_spec (M : List Word) (r : List UInt8) : ∀ (k n : Nat) (may : List Word), may = M.filter (fun w => decide (w.2.1.take n = r.take n)) → may ≠ [] → (∀ w ∈ may, n ≤ w.2.1.length ∧ w.2.1.length ≤ n + k) → n ≤ r.length → (∀ w ∈ M, w.2.1 <+: r → n ≤ w.2.1.length) →
    match wordGo r k may n with
    | (n', some w) => w ∈ M ∧ w.2.1.length = n' ∧ w.2.1 <+: r
    | (n', none) => (∀ w ∈ M, ¬ w.2.1 <+: r) ∧ (∀ w ∈ M, lcp w.2.1 r ≤ n') ∧ ∃ w ∈ M, n' ≤ lcp w.2.1 r
  | 0, n, may, hm, hne, hl, hn, hpre => by
    simp only [wordGo]
    cases hf : may.find? (fun w => decide (w.2.1.length = n)) with
    | some w =>
      have h1 := List.mem_of_find?_eq_some hf
      have h2 := List.find?_some hf
      rw [hm] at h1
      obtain ⟨h3, h4⟩ := List.mem_filter.1 h1
      simp only [decide_eq_true_eq] at h2 h4
      refine ⟨h3, h2, ?_⟩
      rw [List.prefix_iff_eq_take, h2, ← h4, ← h2, List.take_length]
    | none =>
      obtain ⟨w, hw⟩ := List.exists_mem_of_ne_nil _ hne
      have h1 := List.find?_eq_none.1 hf w hw
      have h2 := hl w hw
      simp at h1
      omega
  | k + 1, n, may, hm, hne, hl, hn, hpre => by
    simp only [wordGo]
    cases hf : may.find? (fun w => decide (w.2.1.length = n)) with
    | some w =>
      have h1 := List.mem_of_find?_eq_some hf
      have h2 := List.find?_some hf
      rw [hm] at h1
      obtain ⟨h3, h4⟩ := List.mem_filter.1 h1
      simp only [decide_eq_true_eq] at h2 h4
      refine ⟨h3, h2, ?_⟩
      rw [List.prefix_iff_eq_take, h2, ← h4, ← h2, List.take_length]
    | none =>
      have hno : ∀ w ∈ may, w.2.1.length ≠ n := fun w hw => by
        have := List.find?_eq_none.1 hf w hw
        simpa using this
      have hpre' : ∀ w ∈ M, w.2.1 <+: r → n + 1 ≤ w.2.1.length := by
        intro w hw hp
        have h1 := hpre w hw hp
        by_cases he : w.2.1.length = n
        · have : w ∈ may := by
            rw [hm, List.mem_filter]
            refine ⟨hw, decide_eq_true ?_⟩
            rw [List.prefix_iff_eq_take] at hp
            rw [← he, List.take_length]
            exact hp
          exact absurd he (hno w this)
        · omega
      have hex : ∃ w ∈ M, n ≤ lcp w.2.1 r := by
        obtain ⟨w, hw⟩ := List.exists_mem_of_ne_nil _ hne
        have h2 := hl w hw
        rw [hm] at hw
        obtain ⟨h3, h4⟩ := List.mem_filter.1 hw
        exact ⟨w, h3, (lcp_ge n w.2.1 r).2 ⟨of_decide_eq_true h4, h2.1, hn⟩⟩
      cases hr : r[n]? with
      | none =>
        have hrn : r.length ≤ n := List.getElem?_eq_none_iff.1 hr
        refine ⟨fun w hw hp => ?_, fun w hw => ?_, hex⟩
        · have h1 := hpre' w hw hp
          have := hp.length_le
          omega
        · have := (lcp_le w.2.1 r).1
          omega
      | some c =>
        have hrn := (List.getElem?_eq_some_iff.1 hr).1
        have hm' : may.filter (fun w => decide (w.2.1[n]? = some c)) = M.filter (fun w => decide (w.2.1.take (n + 1) = r.take (n + 1))) := by
          rw [hm, List.filter_filter]
          congr 1
          funext w
          rw [Bool.eq_iff_iff]
          simp only [Bool.and_eq_true, decide_eq_true_eq]
          rw [take_more hr]
          exact ⟨fun h => ⟨h.2, h.1⟩, fun h => ⟨h.2, h.1⟩⟩
        simp only
        by_cases he : may.filter (fun w => decide (w.2.1[n]? = some c)) = []
        · rw [if_pos he]
          rw [hm'] at he
          have hnone : ∀ w ∈ M, w.2.1.take (n + 1) ≠ r.take (n + 1) := fun w hw h => by
            have := List.filter_eq_nil_iff.1 he w hw
            simp [h] at this
          refine ⟨fun w hw hp => ?_, fun w hw => ?_, hex⟩
          · have h1 := hpre' w hw hp
            apply hnone w hw
            obtain ⟨t, rfl⟩ := hp
            rw [List.take_append_of_le_length h1]
          · by_cases h : lcp w.2.1 r ≤ n
            · exact h
            · exact absurd ((lcp_ge (n + 1) w.2.1 r).1 (by omega)).1 (hnone w hw)
        · rw [if_neg he]
          refine wordGo_spec M r k (n + 1) _ hm' he ?_ hrn hpre'
          intro w hw
          have h1 := (List.mem_filter.1 hw).1
          have h2 := hl w h1
          have h3 := hno w h1
          omega

theorem bestL_ge (d : Int) (r : List UInt8) : ∀ (l : List Int) (b : Nat), b ≤ bestL d r l b ∧ ∀ kd ∈ l, skipK d kd = false → lcp (wordK kd) r ≤ bestL d r l b
  | [], b => ⟨Nat.le_refl _, by simp⟩
  | kd :: l, b => by
    simp only [bestL]
    have h := fun b => bestL_ge d r l b
    cases hs : skipK d kd with
    | true =>
      simp only [if_true]
      refine ⟨(h b).1, fun x hx hsx => ?_⟩
      rcases List.mem_cons.1 hx with rfl | hx
      · rw [hs] at hsx; simp at hsx
      · exact (h b).2 x hx hsx
    | false =>
      simp only [Bool.false_eq_true, if_false]
      by_cases hlt : b < lcp (wordK kd) r
      · rw [if_pos hlt]
        have := h (lcp (wordK kd) r)
        refine ⟨by omega, fun x hx hsx => ?_⟩
        rcases List.mem_cons.1 hx with rfl | hx
        · exact this.1
        · exact this.2 x hx hsx
      · rw [if_neg hlt]
        have := h b
        refine ⟨this.1, fun x hx hsx => ?_⟩
        rcases List.mem_cons.1 hx with rfl | hx
        · omega
        · exact this.2 x hx hsx

theorem bestL_upto (d : Int) (r : List UInt8) (n : Nat) : ∀ (l : List Int) (b : Nat), b ≤ n → (∀ kd ∈ l, skipK d kd = false → lcp (wordK kd) r ≤ n) → bestL d r l b ≤ n
  | [], b, h, _ => h
  | kd :: l, b, h, hl => by
    simp only [bestL]
    apply bestL_upto d r n l
    · cases hs : skipK d kd with
      | true => simpa using h
      | false =>
        have := hl kd (by simp) hs
        simp only [Bool.false_eq_true, if_false]
        split
        · exact this
        · exact h
    · exact fun x hx => hl x (by simp [hx])

/-- The words and the kinds. -/
theorem kind_word : ∀ w ∈ words, w.1 ∈ kindsF 9 1 ∧ wordK w.1 = w.2.1 ∧ cntK w.1 = w.2.2 := by decide
theorem word_kind : ∀ kd ∈ kindsF 9 1, wordK kd = [] ∨ ∃ w ∈ words, w.1 = kd := by decide
theorem words_free : ∀ w ∈ words, ∀ v ∈ words, w.2.1 <+: v.2.1 → w = v := by decide
theorem words_full : ∀ w ∈ words, w.2.1 ≠ [] := by decide

theorem skip_word {d : Int} {w : Word} (hw : w ∈ words) : skipK d w.1 = outW d w := by
  obtain ⟨_, h1, h2⟩ := kind_word w hw
  unfold skipK outW
  rw [h1, h2, decide_eq_false (words_full w hw), Bool.false_or, Bool.and_comm]

theorem find_uniq {α : Type} {p : α → Bool} {x : α} : ∀ {l : List α}, x ∈ l → p x = true → (∀ y ∈ l, p y = true → y = x) → l.find? p = some x
  | [], h, _, _ => by simp at h
  | y :: l, h, hp, hu => by
    rw [List.find?_cons]
    cases hy : p y with
    | true => rw [hu y (by simp) hy]
    | false =>
      rcases List.mem_cons.1 h with rfl | h
      · rw [hp] at hy; simp at hy
      · exact find_uniq h hp fun z hz => hu z (by simp [hz])

theorem word_find (s : List UInt8) (k : Nat) (d : Int) : match word69 s k d with
    | (n, some w) => (kindsF 9 1).find? (okK d (s.drop k)) = some w.1 ∧ n = (wordK w.1).length ∧ w.2.2 = cntK w.1
    | (n, none) => (kindsF 9 1).find? (okK d (s.drop k)) = none ∧ n = bestL d (s.drop k) (kindsF 9 1) 0 := by
  have key := wordGo_spec (mayW d) (s.drop k) 8 0 (mayW d) (List.filter_eq_self.2 (fun w _ => by simp)).symm (mayW_ne d) (fun w hw => by have := word_len w (List.mem_filter.1 hw).1; omega) (Nat.zero_le _) (fun _ _ _ => Nat.zero_le _)
  unfold word69
  generalize s.drop k = r at *
  generalize wordGo r 8 (mayW d) 0 = q at *
  obtain ⟨n, ow⟩ := q
  have hmay : ∀ w, w ∈ mayW d ↔ w ∈ words ∧ skipK d w.1 = false := fun w => by
    simp only [mayW, List.mem_filter, Bool.not_eq_true']
    exact ⟨fun h => ⟨h.1, by rw [skip_word h.1]; exact h.2⟩, fun h => ⟨h.1, by rw [← skip_word h.1]; exact h.2⟩⟩
  have hok : ∀ kd ∈ kindsF 9 1, okK d r kd = true → ∃ w ∈ mayW d, w.1 = kd ∧ w.2.1 <+: r := by
    intro kd hkd ho
    simp only [okK, Bool.and_eq_true, Bool.not_eq_true'] at ho
    rcases word_kind kd hkd with h | ⟨w, hw, rfl⟩
    · have := ho.1
      simp [skipK, h] at this
    · refine ⟨w, (hmay w).2 ⟨hw, ho.1⟩, rfl, ?_⟩
      rw [← (kind_word w hw).2.1]
      exact begB_prefix.1 ho.2
  cases ow with
  | some w =>
    obtain ⟨h1, h2, h3⟩ := key
    obtain ⟨hw, hsk⟩ := (hmay w).1 h1
    obtain ⟨g1, g2, g3⟩ := kind_word w hw
    refine ⟨find_uniq g1 ?_ ?_, by rw [g2, h2], g3.symm⟩
    · simp only [okK, hsk, Bool.not_false, Bool.true_and]
      rw [g2]
      exact begB_prefix.2 h3
    · intro y hy hoy
      obtain ⟨v, hv, rfl, hvp⟩ := hok y hy hoy
      have hvw := ((hmay v).1 hv).1
      rcases List.prefix_or_prefix_of_prefix h3 hvp with h | h
      · rw [words_free w hw v hvw h]
      · rw [words_free v hvw w hw h]
  | none =>
    obtain ⟨h1, h2, h3⟩ := key
    refine ⟨?_, ?_⟩
    · rw [List.find?_eq_none]
      intro kd hkd ho
      obtain ⟨w, hw, _, hp⟩ := hok kd hkd ho
      exact h1 w hw hp
    · obtain ⟨w, hw, hn⟩ := h3
      obtain ⟨hww, hsk⟩ := (hmay w).1 hw
      obtain ⟨g1, g2, g3⟩ := kind_word w hww
      have ha := (bestL_ge d r (kindsF 9 1) 0).2 w.1 g1 hsk
      rw [g2] at ha
      have hb := bestL_upto d r n (kindsF 9 1) 0 (Nat.zero_le _) (fun kd hkd hs => by
        rcases word_kind kd hkd with h | ⟨v, hv, rfl⟩
        · simp [skipK, h] at hs
        · rw [(kind_word v hv).2.1]
          exact h2 v ((hmay v).2 ⟨hv, hs⟩))
      omega

/-- Two readings are one: the place, whether it is right, and then the type. -/
def Alike (a b : Nat × KT × Bool) : Prop := a.1 = b.1 ∧ a.2.2 = b.2.2 ∧ (a.2.2 = true → a.2.1 = b.2.1)

theorem readL_alike (s : List UInt8) (rd rd' : Nat → Nat × KT × Bool) (h : ∀ k, Alike (rd k) (rd' k)) : ∀ (m i k : Nat) (acc : List KT), readL rd s m i k acc = readL rd' s m i k acc
  | 0, i, k, acc => rfl
  | m + 1, i, k, acc => by
    obtain ⟨h1, h2, h3⟩ := h (k + 1)
    simp only [readL]
    split
    · rw [← h2]
      by_cases ho : (rd (k + 1)).2.2 = true
      · rw [if_pos ho, if_pos ho, h1, h3 ho]
        exact readL_alike s rd rd' h m (i + 1) _ _
      · rw [if_neg ho, if_neg ho, h1]
    · rfl

theorem read_scan (s : List UInt8) : ∀ (d k : Nat), Alike (readP s d k) (scanP s d k)
  | 0, k => ⟨rfl, rfl, fun _ => rfl⟩
  | d + 1, k => by
    have hw := word_find s k ((d : Int) + 1)
    simp only [readP, scanP]
    generalize word69 s k ((d : Int) + 1) = q at *
    obtain ⟨n, ow⟩ := q
    cases ow with
    | none =>
      obtain ⟨h1, h2⟩ := hw
      rw [h1, h2]
      exact ⟨rfl, rfl, fun _ => rfl⟩
    | some w =>
      obtain ⟨h1, h2, h3⟩ := hw
      rw [h1]
      simp only [scanK]
      rw [readL_alike s (readP s d) (scanP s d) (fun k => read_scan s d k), h2, h3]
      generalize readL (scanP s d) s (cntK w.1).toNat 0 (k + (wordK w.1).length) [] = q
      obtain ⟨k', ol⟩ := q
      cases ol with
      | none => exact ⟨rfl, rfl, fun _ => rfl⟩
      | some l =>
        simp only
        split
        · exact ⟨rfl, rfl, fun _ => rfl⟩
        · split
          · exact ⟨rfl, rfl, fun _ => rfl⟩
          · exact ⟨rfl, rfl, fun h => by simp at h⟩

end Go.Abs.Seat
end
section
/- The law KindPrefix. -/
set_option linter.unusedVariables false
set_option linter.unusedSimpArgs false
namespace Go.Abs.Seat
open Go.Proofs

/-! ### a reading looks at what it reads, and at the byte of its fault -/

theorem wordGo_loc (r r' : List UInt8) : ∀ (k : Nat) (may : List Word) (n : Nat), (∀ i, n ≤ i → i < (wordGo r k may n).1 → r'[i]? = r[i]?) → ((wordGo r k may n).2.isSome = true ∨ r'[(wordGo r k may n).1]? = r[(wordGo r k may n).1]? ∨ r'[(wordGo r k may n).1]? = none) → wordGo r' k may n = wordGo r k may n
  | 0, may, n, _, _ => rfl
  | k + 1, may, n, ha, hf => by
    simp only [wordGo] at ha hf ⊢
    cases hm : may.find? (fun w => decide (w.2.1.length = n)) with
    | some w => rfl
    | none =>
      rw [hm] at ha hf
      simp only at ha hf ⊢
      cases hr : r[n]? with
      | none =>
        rw [hr] at ha hf
        simp only [Option.isSome_none, Bool.false_eq_true, false_or, hr, or_self] at hf
        rw [hf]
      | some c =>
        rw [hr] at ha hf
        simp only at ha hf ⊢
        by_cases he : may.filter (fun w => decide (w.2.1[n]? = some c)) = []
        · rw [if_pos he] at ha hf ⊢
          simp only [Option.isSome_none, Bool.false_eq_true, false_or, hr] at hf
          rcases hf with hf | hf
          · rw [hf]
            simp only [if_pos he]
          · rw [hf]
        · rw [if_neg he] at ha hf ⊢
          have hlt : n + 1 ≤ (wordGo r k (may.filter fun w => decide (w.2.1[n]? = some c)) (n + 1)).1 := (wordGo_some r k _ (n + 1) (List.getElem?_eq_some_iff.1 hr).1).1
          rw [ha n (Nat.le_refl _) (by omega), hr]
          simp only [if_neg he]
          exact wordGo_loc r r' k _ (n + 1) (fun i h1 h2 => ha i (by omega) h2) hf

def Loc (s s' : List UInt8) (q q' : Nat × KT × Bool) : Prop := (∀ i, i < q.1 → s'[i]? = s[i]?) → (q.2.2 = true ∨ s'[q.1]? = s[q.1]? ∨ s'[q.1]? = none) → q'.1 = q.1 ∧ q'.2.2 = q.2.2 ∧ (q.2.2 = true → q'.2.1 = q.2.1)

theorem sign_loc {s s' : List UInt8} {k : Nat} {c : UInt8} (h : s'[k]? = s[k]?) : signB s' k c = signB s k c := by unfold signB; rw [h]
theorem sign_none {s : List UInt8} {k : Nat} {c : UInt8} (h : s[k]? = none) : signB s k c = false := by unfold signB; rw [h]; simp

theorem readL_up (rd : Nat → Nat × KT × Bool) (s : List UInt8) (h : ∀ k, k ≤ (rd k).1) : ∀ (m i k : Nat) (acc : List KT), k ≤ (readL rd s m i k acc).1
  | 0, i, k, acc => Nat.le_refl _
  | m + 1, i, k, acc => by
    have h1 := h (k + 1)
    simp only [readL]
    split
    · split
      · have := readL_up rd s h m (i + 1) (rd (k + 1)).1 (acc ++ [(rd (k + 1)).2.1])
        omega
      · simp only; omega
    · exact Nat.le_refl _

theorem readL_loc (s s' : List UInt8) (rd rd' : Nat → Nat × KT × Bool) (hup : ∀ k, k ≤ (rd k).1) (h : ∀ k, Loc s s' (rd k) (rd' k)) :
    ∀ (m i k : Nat) (acc : List KT), (∀ j, j < (readL rd s m i k acc).1 → s'[j]? = s[j]?) → ((readL rd s m i k acc).2.isSome = true ∨ s'[(readL rd s m i k acc).1]? = s[(readL rd s m i k acc).1]? ∨ s'[(readL rd s m i k acc).1]? = none) → readL rd' s' m i k acc = readL rd s m i k acc
  | 0, i, k, acc, _, _ => rfl
  | m + 1, i, k, acc, ha, hf => by
    have h1 := hup (k + 1)
    simp only [readL] at ha hf ⊢
    cases hs : signB s k (sepB i) with
    | false =>
      rw [hs] at ha hf
      simp only [Bool.false_eq_true, if_false, Option.isSome_none, false_or] at ha hf ⊢
      have : signB s' k (sepB i) = false := by
        rcases hf with hf | hf
        · rw [sign_loc hf, hs]
        · exact sign_none hf
      rw [this]
      simp
    | true =>
      rw [hs] at ha hf
      simp only [if_true] at ha hf ⊢
      by_cases ho : (rd (k + 1)).2.2 = true
      · rw [if_pos ho] at ha hf ⊢
        have hu := readL_up rd s hup m (i + 1) (rd (k + 1)).1 (acc ++ [(rd (k + 1)).2.1])
        rw [sign_loc (ha k (by omega)), hs]
        obtain ⟨a1, a2, a3⟩ := h (k + 1) (fun j hj => ha j (by omega)) (.inl ho)
        simp only [if_true]
        rw [a2, if_pos ho, a1, a3 ho]
        exact readL_loc s s' rd rd' hup h m (i + 1) _ _ ha hf
      · rw [if_neg ho] at ha hf ⊢
        simp only [Option.isSome_none, Bool.false_eq_true, false_or] at ha hf
        rw [sign_loc (ha k (by omega)), hs]
        obtain ⟨a1, a2, a3⟩ := h (k + 1) ha (.inr hf)
        simp only [if_true]
        rw [a2, if_neg ho, a1]

theorem wordGo_up (r : List UInt8) : ∀ (k : Nat) (may : List Word) (n : Nat), n ≤ (wordGo r k may n).1
  | 0, may, n => Nat.le_refl _
  | k + 1, may, n => by
    simp only [wordGo]
    split
    · exact Nat.le_refl _
    · split
      · exact Nat.le_refl _
      · split
        · exact Nat.le_refl _
        · have := wordGo_up r k (may.filter fun w => decide (w.2.1[n]? = some ‹_›)) (n + 1)
          omega

theorem readP_up (s : List UInt8) : ∀ (d k : Nat), k ≤ (readP s d k).1
  | 0, k => Nat.le_refl _
  | d + 1, k => by
    simp only [readP]
    generalize word69 s k ((d : Int) + 1) = q
    obtain ⟨n, ow⟩ := q
    cases ow with
    | none => simp only; omega
    | some w =>
      simp only
      have h3 := readL_up (readP s d) s (fun k => readP_up s d k) w.2.2.toNat 0 (k + n) []
      generalize readL (readP s d) s w.2.2.toNat 0 (k + n) [] = q at *
      obtain ⟨k', ol⟩ := q
      simp only at h3
      cases ol with
      | none => simp only; omega
      | some l =>
        simp only
        split
        · simp only; omega
        · split <;> (simp only; omega)

theorem readP_loc (s s' : List UInt8) : ∀ (d k : Nat), Loc s s' (readP s d k) (readP s' d k)
  | 0, k => fun _ _ => ⟨rfl, rfl, fun _ => rfl⟩
  | d + 1, k => by
    intro ha hf
    have hw := wordGo_loc (s.drop k) (s'.drop k) 8 (mayW ((d : Int) + 1)) 0
    simp only [readP] at ha hf ⊢
    unfold word69 at ha hf ⊢
    generalize hq : wordGo (s.drop k) 8 (mayW ((d : Int) + 1)) 0 = q at *
    obtain ⟨n, ow⟩ := q
    simp only [List.getElem?_drop] at hw
    cases ow with
    | none =>
      simp only [Bool.false_eq_true, false_or] at ha hf hw ⊢
      rw [hw (fun i _ hi => ha (k + i) (by omega)) (.inr hf)]
      exact ⟨rfl, rfl, fun _ => rfl⟩
    | some w =>
      have h3 := readL_up (readP s d) s (fun k => readP_up s d k) w.2.2.toNat 0 (k + n) []
      have hl := readL_loc s s' (readP s d) (readP s' d) (fun k => readP_up s d k) (fun k => readP_loc s s' d k) w.2.2.toNat 0 (k + n) []
      simp only [Option.isSome_some, true_or, forall_const] at ha hf hw ⊢
      generalize readL (readP s d) s w.2.2.toNat 0 (k + n) [] = q at *
      obtain ⟨k', ol⟩ := q
      simp only at h3 hl
      cases ol with
      | none =>
        simp only [Bool.false_eq_true, false_or, Option.isSome_none] at ha hf hl ⊢
        rw [hw (fun i _ hi => ha (k + i) (by omega))]
        simp only
        rw [hl ha hf]
        exact ⟨rfl, rfl, fun _ => rfl⟩
      | some l =>
        simp only [Option.isSome_some, true_or, forall_const] at ha hf hl ⊢
        by_cases h0 : w.2.2 = 0
        · simp only [if_pos h0] at ha hf ⊢
          rw [hw (fun i _ hi => ha (k + i) (by omega))]
          simp only
          rw [hl ha]
          simp [h0]
        · simp only [if_neg h0] at ha hf ⊢
          cases hs : signB s k' 41 with
          | true =>
            rw [hs] at ha hf
            simp only [if_true] at ha hf ⊢
            rw [hw (fun i _ hi => ha (k + i) (by omega))]
            simp only
            rw [hl (fun j hj => ha j (by omega))]
            simp only [if_neg h0]
            rw [sign_loc (ha k' (by omega)), hs]
            exact ⟨rfl, rfl, fun _ => rfl⟩
          | false =>
            rw [hs] at ha hf
            simp only [Bool.false_eq_true, if_false, false_or] at ha hf ⊢
            rw [hw (fun i _ hi => ha (k + i) (by omega))]
            simp only
            rw [hl ha]
            simp only [if_neg h0]
            have : signB s' k' 41 = false := by
              rcases hf with hf | hf
              · rw [sign_loc hf, hs]
              · exact sign_none hf
            rw [this]
            exact ⟨rfl, rfl, fun h => by simp at h⟩

/-- What stands ahead of a fault is a type, or has its fault at its end; with one byte more, whatever follows, the fault is where it was. -/
theorem parse_prefix (s : List UInt8) (h : (parseP s).2.2 ≠ 0) : (parseP s).2.1 ≤ s.length ∧ (parseP s).2.2 = 40 ∧
    (((parseP (s.take (parseP s).2.1)).2.2 = 0 ∧ (parseP (s.take (parseP s).2.1)).2.1 = 0) ∨ ((parseP (s.take (parseP s).2.1)).2.2 = 40 ∧ (parseP (s.take (parseP s).2.1)).2.1 = (parseP s).2.1)) ∧
    ((parseP s).2.1 < s.length → ∀ more : List UInt8, (parseP (s.take ((parseP s).2.1 + 1) ++ more)).2.2 = 40 ∧ (parseP (s.take ((parseP s).2.1 + 1) ++ more)).2.1 = (parseP s).2.1) := by
  have hle := readP_le s 6 0 (Nat.zero_le _)
  have hno : ¬ ((readP s 6 0).2.2 = true ∧ ¬ (readP s 6 0).1 < s.length) := fun ho => by
    apply h; unfold parseP; rw [if_pos ho]
  have hp : parseP s = (zeroT, (readP s 6 0).1, 40) := by unfold parseP; rw [if_neg hno]
  rw [hp]
  simp only
  refine ⟨hle, trivial, ?_, ?_⟩
  · obtain ⟨h1, h2, h3⟩ := readP_loc s (s.take (readP s 6 0).1) 6 0 (fun i hi => by rw [List.getElem?_take, if_pos hi]) (.inr (.inr (by simp [List.getElem?_take])))
    unfold parseP
    by_cases ho : (readP s 6 0).2.2 = true
    · left
      rw [if_pos ⟨by rw [h2]; exact ho, by rw [h1]; simp only [List.length_take]; omega⟩]
      exact ⟨rfl, rfl⟩
    · right
      rw [if_neg (fun hc => ho (by rw [← h2]; exact hc.1)), h1]
      exact ⟨rfl, rfl⟩
  · intro hlt more
    have hg : ∀ i, i ≤ (readP s 6 0).1 → (s.take ((readP s 6 0).1 + 1) ++ more)[i]? = s[i]? := fun i hi => by
      rw [List.getElem?_append_left (by simp; omega), List.getElem?_take, if_pos (by omega)]
    obtain ⟨h1, h2, h3⟩ := readP_loc s (s.take ((readP s 6 0).1 + 1) ++ more) 6 0 (fun i hi => hg i (by omega)) (.inr (.inl (hg _ (Nat.le_refl _))))
    unfold parseP
    rw [if_neg (fun hc => hc.2 (by rw [h1]; simp; omega)), h1]
    exact ⟨rfl, rfl⟩

theorem s4 (s more : List UInt8) : ∃ H', L 4 [.im (.str s), .im (.str more)] [] = some (.im (.bool true), H') := by
  rw [leq F4]
  have hK : ∀ (tm : List AV) (H : Heap), tm.length = 86 → tm.getD 4 undefA = .im (.bool true) → ∃ H', endK f4 [] .ret tm H = some (.im (.bool true), H') := fun tm H hl h => by
    simp only [endK, f4, resA, h, tupA, leave_nil]
    exact ⟨_, rfl⟩
  have hcode : f4.code = f4.code := rfl
  conv at hcode => rhs; simp only [f4]
  rw [hcode]
  clear hcode
  generalize endK f4 [] = K at *
  obtain ⟨hlen, ha⟩ := enter_at (f := f4) (args := [.im (.str s), .im (.str more)]) (Nat.le_of_ble_eq_true rfl)
  have h0 := ha 0 _ rfl
  have h1 := ha 1 _ rfl
  generalize enterA f4 [.im (.str s), .im (.str more)] = tm at *
  change tm.length = 86 at hlen
  by_cases hl : 1000 < s.length
  · have hc : decide ((1000 : Int) < (s.length : Int)) = true := decide_eq_true (by omega)
    simp only [x_seq, x_block, x_skip, x_label, x_cond, x_exit, x_goto, x_ret, k_normal, k_exit, k_goto, k_ret, b_normal, b_exit, b_goto, b_ret, wantedA, aop, ev, putA, List.length_cons, List.length_nil, List.replicate, List.cons_append, List.nil_append, List.append_nil, List.append_assoc, gs_same, gs_ne, gq_same, gq_ne, List.length_set, List.map_cons, List.map_nil, cellsOf, List.all_cons, List.all_nil, cellOk, boxTy, Bool.and_true, Bool.and_self, if_true, ite_true, ite_false, loadAt, storeAt, setAt, hget, hget0, hset, hset0, List.getElem?_cons_zero, List.getElem?_cons_succ, List.set_cons_zero, List.set_cons_succ, Nat.add_zero, Nat.zero_add, Nat.reduceAdd, Nat.reduceSub, Nat.reduceLeDiff, Nat.reduceLT, Nat.reduceEqDiff, Nat.le_refl, and_self, and_true, true_and, mkAgg, toIms, List.drop_zero, List.drop_succ_cons, List.take_succ_cons, List.take_zero, List.length_append, binBool, unA, Bool.false_eq_true, if_false, partA, fillA, fillE, List.take_nil, Nat.zero_ne_one, Nat.one_ne_zero, not_false_eq_true, ne_eq, Nat.succ_ne_self, reduceCtorEq, Int.reduceEq, Int.reduceLT, Int.reduceLE, decide_true, decide_false, lenA, beq_self_eq_true, beq_true, beq_false, Bool.not_true, Bool.not_false, b_lss, b_gtr, b_leq, b_geq, b_eql, b_neq, b_add, b_sub, b_mul, s_eql, s_neq, y_ops, y_nil, y_cons, y_guard, y_some, y_drop, y_do, y_not, y_not0, c_call, c_clo, c_move, c_pick, c_alloc, c_box, c_build, c_bslice, c_load, c_store, c_nilCheck, c_bin, c_binB, c_un, c_i2i, c_i2f, c_f2i, c_s2b, c_b2s, c_strId, c_mkfunc, c_mkslice, c_slice, c_sliceStr, c_fieldAddr, c_field, c_indexSl, c_indexArr, c_elemArr, c_indexStr, c_extract, c_lenStr, c_lenSl, c_append, c_real, c_imag, c_complex, c_min, c_max, c_clear, hlen, h0, h1, hc, s11]
    exact hK _ _ (by simp only [List.length_set, hlen]) (by simp only [gs_same, gs_ne, List.length_set, Nat.reduceLT, Nat.reduceEqDiff, not_false_eq_true, hlen])
  · have hc : decide ((1000 : Int) < (s.length : Int)) = false := decide_eq_false (by omega)
    by_cases hm : 1000 < more.length
    · have hc2 : decide ((1000 : Int) < (more.length : Int)) = true := decide_eq_true (by omega)
      simp only [x_seq, x_block, x_skip, x_label, x_cond, x_exit, x_goto, x_ret, k_normal, k_exit, k_goto, k_ret, b_normal, b_exit, b_goto, b_ret, wantedA, aop, ev, putA, List.length_cons, List.length_nil, List.replicate, List.cons_append, List.nil_append, List.append_nil, List.append_assoc, gs_same, gs_ne, gq_same, gq_ne, List.length_set, List.map_cons, List.map_nil, cellsOf, List.all_cons, List.all_nil, cellOk, boxTy, Bool.and_true, Bool.and_self, if_true, ite_true, ite_false, loadAt, storeAt, setAt, hget, hget0, hset, hset0, List.getElem?_cons_zero, List.getElem?_cons_succ, List.set_cons_zero, List.set_cons_succ, Nat.add_zero, Nat.zero_add, Nat.reduceAdd, Nat.reduceSub, Nat.reduceLeDiff, Nat.reduceLT, Nat.reduceEqDiff, Nat.le_refl, and_self, and_true, true_and, mkAgg, toIms, List.drop_zero, List.drop_succ_cons, List.take_succ_cons, List.take_zero, List.length_append, binBool, unA, Bool.false_eq_true, if_false, partA, fillA, fillE, List.take_nil, Nat.zero_ne_one, Nat.one_ne_zero, not_false_eq_true, ne_eq, Nat.succ_ne_self, reduceCtorEq, Int.reduceEq, Int.reduceLT, Int.reduceLE, decide_true, decide_false, lenA, beq_self_eq_true, beq_true, beq_false, Bool.not_true, Bool.not_false, b_lss, b_gtr, b_leq, b_geq, b_eql, b_neq, b_add, b_sub, b_mul, s_eql, s_neq, y_ops, y_nil, y_cons, y_guard, y_some, y_drop, y_do, y_not, y_not0, c_call, c_clo, c_move, c_pick, c_alloc, c_box, c_build, c_bslice, c_load, c_store, c_nilCheck, c_bin, c_binB, c_un, c_i2i, c_i2f, c_f2i, c_s2b, c_b2s, c_strId, c_mkfunc, c_mkslice, c_slice, c_sliceStr, c_fieldAddr, c_field, c_indexSl, c_indexArr, c_elemArr, c_indexStr, c_extract, c_lenStr, c_lenSl, c_append, c_real, c_imag, c_complex, c_min, c_max, c_clear, hlen, h0, h1, hc, hc2, s11]
      exact hK _ _ (by simp only [List.length_set, hlen]) (by simp only [gs_same, gs_ne, List.length_set, Nat.reduceLT, Nat.reduceEqDiff, not_false_eq_true, hlen])
    · have hc2 : decide ((1000 : Int) < (more.length : Int)) = false := decide_eq_false (by omega)
      have h12 := s12 s (by omega)
      have hp := parse_prefix s
      generalize hps : parseP s = p at *
      obtain ⟨t, p, e⟩ := p
      obtain ⟨k', s', ts⟩ := t
      simp only [encT] at h12
      simp only at hp
      by_cases he : e = 0
      · subst he
        simp only [x_seq, x_block, x_skip, x_label, x_cond, x_exit, x_goto, x_ret, k_normal, k_exit, k_goto, k_ret, b_normal, b_exit, b_goto, b_ret, wantedA, aop, ev, putA, List.length_cons, List.length_nil, List.replicate, List.cons_append, List.nil_append, List.append_nil, List.append_assoc, gs_same, gs_ne, gq_same, gq_ne, List.length_set, List.map_cons, List.map_nil, cellsOf, List.all_cons, List.all_nil, cellOk, boxTy, Bool.and_true, Bool.and_self, if_true, ite_true, ite_false, loadAt, storeAt, setAt, hget, hget0, hset, hset0, List.getElem?_cons_zero, List.getElem?_cons_succ, List.set_cons_zero, List.set_cons_succ, Nat.add_zero, Nat.zero_add, Nat.reduceAdd, Nat.reduceSub, Nat.reduceLeDiff, Nat.reduceLT, Nat.reduceEqDiff, Nat.le_refl, and_self, and_true, true_and, mkAgg, toIms, List.drop_zero, List.drop_succ_cons, List.take_succ_cons, List.take_zero, List.length_append, binBool, unA, Bool.false_eq_true, if_false, partA, fillA, fillE, List.take_nil, Nat.zero_ne_one, Nat.one_ne_zero, not_false_eq_true, ne_eq, Nat.succ_ne_self, reduceCtorEq, Int.reduceEq, Int.reduceLT, Int.reduceLE, decide_true, decide_false, lenA, beq_self_eq_true, beq_true, beq_false, Bool.not_true, Bool.not_false, b_lss, b_gtr, b_leq, b_geq, b_eql, b_neq, b_add, b_sub, b_mul, s_eql, s_neq, y_ops, y_nil, y_cons, y_guard, y_some, y_drop, y_do, y_not, y_not0, c_call, c_clo, c_move, c_pick, c_alloc, c_box, c_build, c_bslice, c_load, c_store, c_nilCheck, c_bin, c_binB, c_un, c_i2i, c_i2f, c_f2i, c_s2b, c_b2s, c_strId, c_mkfunc, c_mkslice, c_slice, c_sliceStr, c_fieldAddr, c_field, c_indexSl, c_indexArr, c_elemArr, c_indexStr, c_extract, c_lenStr, c_lenSl, c_append, c_real, c_imag, c_complex, c_min, c_max, c_clear, hlen, h0, h1, hc, hc2, h12, s11]
        exact hK _ _ (by simp only [List.length_set, hlen]) (by simp only [gs_same, gs_ne, List.length_set, Nat.reduceLT, Nat.reduceEqDiff, not_false_eq_true, hlen])
      · obtain ⟨hle, rfl, h3, h4⟩ := hp he
        have h12a := s12 (s.take p) (by simp; omega)
        have hnn : (0 : Int) ≤ (p : Int) := Int.natCast_nonneg p
        have hlt0 : decide ((p : Int) < 0) = false := decide_eq_false (by omega)
        have hgt : decide ((s.length : Int) < (p : Int)) = false := decide_eq_false (by omega)
        have hnn1 : (0 : Int) ≤ ((p + 1 : Nat) : Int) := Int.natCast_nonneg _
        have hwr := wrap_nat (i := p) (by omega)
        have z0 : ((0 : Nat) : Int) = 0 := rfl
        generalize parseP (s.take p) = q at *
        obtain ⟨t2, p2, e2⟩ := q
        obtain ⟨k2, s2, ts2⟩ := t2
        simp only [encT] at h12a
        simp only at h3
        by_cases hlt : p < s.length
        · have hc3 : decide ((p : Int) < (s.length : Int)) = true := decide_eq_true (by omega)
          obtain ⟨h5, h6⟩ := h4 hlt more
          have h12b := s12 (s.take (p + 1) ++ more) (by simp; omega)
          generalize hq3 : parseP (s.take (p + 1) ++ more) = q3 at *
          obtain ⟨t3, p3, e3⟩ := q3
          obtain ⟨k3, s3, ts3⟩ := t3
          simp only [encT] at h12b
          simp only at h5 h6
          subst h5 h6
          have hcat : (s.take (p3 + 1)).length + more.length ≤ 2 ^ 62 := by simp; omega
          have hadd := s_add hcat
          have hb1 : 0 ≤ p3 ∧ p3 ≤ s.length := ⟨Nat.zero_le _, hle⟩
          have hb2 : 0 ≤ p3 + 1 ∧ p3 + 1 ≤ s.length := ⟨Nat.zero_le _, hlt⟩
          rcases h3 with ⟨rfl, rfl⟩ | ⟨rfl, rfl⟩
          · simp only [x_seq, x_block, x_skip, x_label, x_cond, x_exit, x_goto, x_ret, k_normal, k_exit, k_goto, k_ret, b_normal, b_exit, b_goto, b_ret, wantedA, aop, ev, putA, List.length_cons, List.length_nil, List.replicate, List.cons_append, List.nil_append, List.append_nil, List.append_assoc, gs_same, gs_ne, gq_same, gq_ne, List.length_set, List.map_cons, List.map_nil, cellsOf, List.all_cons, List.all_nil, cellOk, boxTy, Bool.and_true, Bool.and_self, if_true, ite_true, ite_false, loadAt, storeAt, setAt, hget, hget0, hset, hset0, List.getElem?_cons_zero, List.getElem?_cons_succ, List.set_cons_zero, List.set_cons_succ, Nat.add_zero, Nat.zero_add, Nat.reduceAdd, Nat.reduceSub, Nat.reduceLeDiff, Nat.reduceLT, Nat.reduceEqDiff, Nat.le_refl, and_self, and_true, true_and, mkAgg, toIms, List.drop_zero, List.drop_succ_cons, List.take_succ_cons, List.take_zero, List.length_append, binBool, unA, Bool.false_eq_true, if_false, partA, fillA, fillE, List.take_nil, Nat.zero_ne_one, Nat.one_ne_zero, not_false_eq_true, ne_eq, Nat.succ_ne_self, reduceCtorEq, Int.reduceEq, Int.reduceLT, Int.reduceLE, decide_true, decide_false, lenA, beq_self_eq_true, beq_true, beq_false, Bool.not_true, Bool.not_false, b_lss, b_gtr, b_leq, b_geq, b_eql, b_neq, b_add, b_sub, b_mul, s_eql, s_neq, y_ops, y_nil, y_cons, y_guard, y_some, y_drop, y_do, y_not, y_not0, c_call, c_clo, c_move, c_pick, c_alloc, c_box, c_build, c_bslice, c_load, c_store, c_nilCheck, c_bin, c_binB, c_un, c_i2i, c_i2f, c_f2i, c_s2b, c_b2s, c_strId, c_mkfunc, c_mkslice, c_slice, c_sliceStr, c_fieldAddr, c_field, c_indexSl, c_indexArr, c_elemArr, c_indexStr, c_extract, c_lenStr, c_lenSl, c_append, c_real, c_imag, c_complex, c_min, c_max, c_clear, boundA, intOfA, Int.toNat_natCast, Nat.sub_zero, Nat.zero_le, hlen, h0, h1, hc, hc2, hc3, h12, h12a, h12b, hnn, hnn1, hlt0, hgt, hle, hlt, hb1, hb2, hwr, z0, hadd, s11]
            exact hK _ _ (by simp only [List.length_set, hlen]) (by simp only [gs_same, gs_ne, List.length_set, Nat.reduceLT, Nat.reduceEqDiff, not_false_eq_true, hlen])
          · simp only [x_seq, x_block, x_skip, x_label, x_cond, x_exit, x_goto, x_ret, k_normal, k_exit, k_goto, k_ret, b_normal, b_exit, b_goto, b_ret, wantedA, aop, ev, putA, List.length_cons, List.length_nil, List.replicate, List.cons_append, List.nil_append, List.append_nil, List.append_assoc, gs_same, gs_ne, gq_same, gq_ne, List.length_set, List.map_cons, List.map_nil, cellsOf, List.all_cons, List.all_nil, cellOk, boxTy, Bool.and_true, Bool.and_self, if_true, ite_true, ite_false, loadAt, storeAt, setAt, hget, hget0, hset, hset0, List.getElem?_cons_zero, List.getElem?_cons_succ, List.set_cons_zero, List.set_cons_succ, Nat.add_zero, Nat.zero_add, Nat.reduceAdd, Nat.reduceSub, Nat.reduceLeDiff, Nat.reduceLT, Nat.reduceEqDiff, Nat.le_refl, and_self, and_true, true_and, mkAgg, toIms, List.drop_zero, List.drop_succ_cons, List.take_succ_cons, List.take_zero, List.length_append, binBool, unA, Bool.false_eq_true, if_false, partA, fillA, fillE, List.take_nil, Nat.zero_ne_one, Nat.one_ne_zero, not_false_eq_true, ne_eq, Nat.succ_ne_self, reduceCtorEq, Int.reduceEq, Int.reduceLT, Int.reduceLE, decide_true, decide_false, lenA, beq_self_eq_true, beq_true, beq_false, Bool.not_true, Bool.not_false, b_lss, b_gtr, b_leq, b_geq, b_eql, b_neq, b_add, b_sub, b_mul, s_eql, s_neq, y_ops, y_nil, y_cons, y_guard, y_some, y_drop, y_do, y_not, y_not0, c_call, c_clo, c_move, c_pick, c_alloc, c_box, c_build, c_bslice, c_load, c_store, c_nilCheck, c_bin, c_binB, c_un, c_i2i, c_i2f, c_f2i, c_s2b, c_b2s, c_strId, c_mkfunc, c_mkslice, c_slice, c_sliceStr, c_fieldAddr, c_field, c_indexSl, c_indexArr, c_elemArr, c_indexStr, c_extract, c_lenStr, c_lenSl, c_append, c_real, c_imag, c_complex, c_min, c_max, c_clear, boundA, intOfA, Int.toNat_natCast, Nat.sub_zero, Nat.zero_le, hlen, h0, h1, hc, hc2, hc3, h12, h12a, h12b, hnn, hnn1, hlt0, hgt, hle, hlt, hb1, hb2, hwr, z0, hadd, s11]
            exact hK _ _ (by simp only [List.length_set, hlen]) (by simp only [gs_same, gs_ne, List.length_set, Nat.reduceLT, Nat.reduceEqDiff, not_false_eq_true, hlen])
        · have hc3 : decide ((p : Int) < (s.length : Int)) = false := decide_eq_false (by omega)
          have hb1 : 0 ≤ p ∧ p ≤ s.length := ⟨Nat.zero_le _, hle⟩
          rcases h3 with ⟨rfl, rfl⟩ | ⟨rfl, rfl⟩
          · simp only [x_seq, x_block, x_skip, x_label, x_cond, x_exit, x_goto, x_ret, k_normal, k_exit, k_goto, k_ret, b_normal, b_exit, b_goto, b_ret, wantedA, aop, ev, putA, List.length_cons, List.length_nil, List.replicate, List.cons_append, List.nil_append, List.append_nil, List.append_assoc, gs_same, gs_ne, gq_same, gq_ne, List.length_set, List.map_cons, List.map_nil, cellsOf, List.all_cons, List.all_nil, cellOk, boxTy, Bool.and_true, Bool.and_self, if_true, ite_true, ite_false, loadAt, storeAt, setAt, hget, hget0, hset, hset0, List.getElem?_cons_zero, List.getElem?_cons_succ, List.set_cons_zero, List.set_cons_succ, Nat.add_zero, Nat.zero_add, Nat.reduceAdd, Nat.reduceSub, Nat.reduceLeDiff, Nat.reduceLT, Nat.reduceEqDiff, Nat.le_refl, and_self, and_true, true_and, mkAgg, toIms, List.drop_zero, List.drop_succ_cons, List.take_succ_cons, List.take_zero, List.length_append, binBool, unA, Bool.false_eq_true, if_false, partA, fillA, fillE, List.take_nil, Nat.zero_ne_one, Nat.one_ne_zero, not_false_eq_true, ne_eq, Nat.succ_ne_self, reduceCtorEq, Int.reduceEq, Int.reduceLT, Int.reduceLE, decide_true, decide_false, lenA, beq_self_eq_true, beq_true, beq_false, Bool.not_true, Bool.not_false, b_lss, b_gtr, b_leq, b_geq, b_eql, b_neq, b_add, b_sub, b_mul, s_eql, s_neq, y_ops, y_nil, y_cons, y_guard, y_some, y_drop, y_do, y_not, y_not0, c_call, c_clo, c_move, c_pick, c_alloc, c_box, c_build, c_bslice, c_load, c_store, c_nilCheck, c_bin, c_binB, c_un, c_i2i, c_i2f, c_f2i, c_s2b, c_b2s, c_strId, c_mkfunc, c_mkslice, c_slice, c_sliceStr, c_fieldAddr, c_field, c_indexSl, c_indexArr, c_elemArr, c_indexStr, c_extract, c_lenStr, c_lenSl, c_append, c_real, c_imag, c_complex, c_min, c_max, c_clear, boundA, intOfA, Int.toNat_natCast, Nat.sub_zero, Nat.zero_le, hlen, h0, h1, hc, hc2, hc3, h12, h12a, hnn, hlt0, hgt, hle, hb1, z0, s11]
            exact hK _ _ (by simp only [List.length_set, hlen]) (by simp only [gs_same, gs_ne, List.length_set, Nat.reduceLT, Nat.reduceEqDiff, not_false_eq_true, hlen])
          · simp only [x_seq, x_block, x_skip, x_label, x_cond, x_exit, x_goto, x_ret, k_normal, k_exit, k_goto, k_ret, b_normal, b_exit, b_goto, b_ret, wantedA, aop, ev, putA, List.length_cons, List.length_nil, List.replicate, List.cons_append, List.nil_append, List.append_nil, List.append_assoc, gs_same, gs_ne, gq_same, gq_ne, List.length_set, List.map_cons, List.map_nil, cellsOf, List.all_cons, List.all_nil, cellOk, boxTy, Bool.and_true, Bool.and_self, if_true, ite_true, ite_false, loadAt, storeAt, setAt, hget, hget0, hset, hset0, List.getElem?_cons_zero, List.getElem?_cons_succ, List.set_cons_zero, List.set_cons_succ, Nat.add_zero, Nat.zero_add, Nat.reduceAdd, Nat.reduceSub, Nat.reduceLeDiff, Nat.reduceLT, Nat.reduceEqDiff, Nat.le_refl, and_self, and_true, true_and, mkAgg, toIms, List.drop_zero, List.drop_succ_cons, List.take_succ_cons, List.take_zero, List.length_append, binBool, unA, Bool.false_eq_true, if_false, partA, fillA, fillE, List.take_nil, Nat.zero_ne_one, Nat.one_ne_zero, not_false_eq_true, ne_eq, Nat.succ_ne_self, reduceCtorEq, Int.reduceEq, Int.reduceLT, Int.reduceLE, decide_true, decide_false, lenA, beq_self_eq_true, beq_true, beq_false, Bool.not_true, Bool.not_false, b_lss, b_gtr, b_leq, b_geq, b_eql, b_neq, b_add, b_sub, b_mul, s_eql, s_neq, y_ops, y_nil, y_cons, y_guard, y_some, y_drop, y_do, y_not, y_not0, c_call, c_clo, c_move, c_pick, c_alloc, c_box, c_build, c_bslice, c_load, c_store, c_nilCheck, c_bin, c_binB, c_un, c_i2i, c_i2f, c_f2i, c_s2b, c_b2s, c_strId, c_mkfunc, c_mkslice, c_slice, c_sliceStr, c_fieldAddr, c_field, c_indexSl, c_indexArr, c_elemArr, c_indexStr, c_extract, c_lenStr, c_lenSl, c_append, c_real, c_imag, c_complex, c_min, c_max, c_clear, boundA, intOfA, Int.toNat_natCast, Nat.sub_zero, Nat.zero_le, hlen, h0, h1, hc, hc2, hc3, h12, h12a, hnn, hlt0, hgt, hle, hb1, z0, s11]
            exact hK _ _ (by simp only [List.length_set, hlen]) (by simp only [gs_same, gs_ne, List.length_set, Nat.reduceLT, Nat.reduceEqDiff, not_false_eq_true, hlen])

end Go.Abs.Seat
end
