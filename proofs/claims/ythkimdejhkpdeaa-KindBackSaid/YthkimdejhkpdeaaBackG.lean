/- Part 7 of what the claim rests on. -/
import Derived.Test.YthkimdejhkpdeaaBackA
import Derived.Test.YthkimdejhkpdeaaBackB
import Derived.Test.YthkimdejhkpdeaaBackC
import Derived.Test.YthkimdejhkpdeaaBackD
import Derived.Test.YthkimdejhkpdeaaBackE
import Derived.Test.YthkimdejhkpdeaaBackF
section
/- What the seat's functions come to: of (the law's copy of a type as the reference's). -/
set_option linter.unusedVariables false
set_option linter.unusedSimpArgs false
namespace Go.Abs.Seat
open Go.Proofs

mutual
def slim : KT → Prop
  | .mk _ _ args => args.length ≤ 1000000 ∧ slims args
def slims : List KT → Prop
  | [] => True
  | a :: l => slim a ∧ slims l
end
theorem slims_mem : ∀ {l : List KT}, slims l → ∀ a ∈ l, slim a
  | [], _, a, h => by simp at h
  | b :: l, h, a, hm => by
    simp only [slims] at h
    rcases List.mem_cons.1 hm with rfl | hm
    · exact h.1
    · exact slims_mem h.2 a hm
mutual
theorem narrow_slim : ∀ t : KT, narrow t → slim t
  | .mk _ _ args, h => by
    simp only [narrow] at h
    simp only [slim]
    exact ⟨by omega, narrows_slims args h.2⟩
theorem narrows_slims : ∀ l : List KT, narrows l → slims l
  | [], _ => by simp only [slims]
  | a :: l, h => by
    simp only [narrows] at h
    simp only [slims]
    exact ⟨narrow_slim a h.1, narrows_slims l h.2⟩
end

theorem l15 (args : List KT) (s : Nat) (hs : args = [] ∨ s = 2) (hn : args.length ≤ 1000000) (H0 : Heap)
    (hc : ∀ a ∈ args, ∀ H, L 15 [.im (.agg (encT a))] H = some (.im (.agg (encT (cloneT a))), H)) :
    ∀ (m i : Nat), i + m = args.length → ∀ (tm : List AV) (M : Heap) (v : AV), Gath 31 2 H0.length v (H0 ++ M) ((args.take i).map fun a => encT (cloneT a)) → tm.length = 23 → tm.getD 3 undefA = v → tm.getD 7 undefA = .im (.sl s (args.map encT)) → tm.getD 8 undefA = .im (.int .i64 args.length) → tm.getD 9 undefA = .im (.int .i64 i) →
    ∃ e tm' H', Λ c15_0 tm (H0 ++ M) = some (e, tm', H') ∧ tm'.length = 23 ∧ e = .exit 0 ∧ tm'.getD 1 undefA = tm.getD 1 undefA ∧ tm'.getD 2 undefA = tm.getD 2 undefA ∧ ∃ M', H' = H0 ++ M' ∧ Gath 31 2 H0.length (tm'.getD 3 undefA) (H0 ++ M') (args.map fun a => encT (cloneT a))
  | 0, i, hi, tm, M, v, hG, hlen, h3, h7, h8, h9 => by
    have hc : decide ((i : Int) < (args.length : Int)) = false := decide_eq_false (by omega)
    rw [l15_0]
    simp only [b15_0, exec0, xreg, xops, wantedA, aopc, aop, ev, putA, endK, resA, tupA, List.length_cons, List.length_nil, List.replicate, List.cons_append, List.nil_append, List.append_nil, List.append_assoc, gs_same, gs_ne, gq_same, gq_ne, List.length_set, List.map_cons, List.map_nil, cellsOf, List.all_cons, List.all_nil, cellOk, boxTy, Bool.and_true, Bool.and_self, if_true, ite_true, ite_false, loadAt, storeAt, setAt, hget, hget0, hset, hset0, List.getElem?_cons_zero, List.getElem?_cons_succ, List.set_cons_zero, List.set_cons_succ, Nat.add_zero, Nat.zero_add, Nat.reduceAdd, Nat.reduceSub, Nat.reduceLeDiff, Nat.reduceLT, Nat.reduceEqDiff, Nat.le_refl, and_self, and_true, true_and, mkAgg, toIms, List.drop_zero, List.drop_succ_cons, List.take_succ_cons, List.take_zero, List.length_append, binA, isShift, binInt, binBool, unA, Bool.false_eq_true, if_false, partA, fillA, fillE, List.take_nil, Nat.zero_ne_one, Nat.one_ne_zero, not_false_eq_true, ne_eq, Nat.succ_ne_self, reduceCtorEq, Int.reduceEq, Int.reduceLT, Int.reduceLE, decide_true, decide_false, lenA, beq_self_eq_true, beq_true, beq_false, Bool.not_true, Bool.not_false, hlen, h3, h7, h8, h9, hc]
    have e : args.take i = args := List.take_of_length_le (by omega)
    rw [e] at hG
    exact ⟨_, _, _, rfl, by simp only [List.length_set, hlen], rfl, by simp only [gs_same, gs_ne, List.length_set, Nat.reduceLT, Nat.reduceEqDiff, not_false_eq_true, hlen], by simp only [gs_same, gs_ne, List.length_set, Nat.reduceLT, Nat.reduceEqDiff, not_false_eq_true, hlen], M, rfl, by simp only [gs_same, gs_ne, List.length_set, Nat.reduceLT, Nat.reduceEqDiff, not_false_eq_true, hlen, h3]; exact hG⟩
  | m + 1, i, hi, tm, M, v, hG, hlen, h3, h7, h8, h9 => by
    have hlt : i < args.length := by omega
    obtain ⟨w, hwi⟩ : ∃ w, args[i]? = some w := ⟨_, List.getElem?_eq_getElem hlt⟩
    have hs2 : s = 2 := by
      rcases hs with hs | hs
      · subst hs; simp at hlt
      · exact hs
    subst hs2
    have hc' : decide ((i : Int) < (args.length : Int)) = true := decide_eq_true (by omega)
    have hix := idx_nat (n := (args.map encT).length) (i := i) (by simpa using hlt)
    have hgw : (args.map encT)[i]? = some (encT w) := by rw [List.getElem?_map, hwi]; rfl
    have hcall := hc w (List.mem_of_getElem? hwi)
    have hwr := wrap_nat (i := i) (by omega)
    have key := l15 args 2 hs hn H0 hc m (i + 1) (by omega)
    have hG2 := hG.more [.obj none [(encT w).map .im]]
    rw [List.append_assoc] at hG2
    obtain ⟨v', M', hap, hG', hok, _⟩ := hG2.push (bytes := 32) (encT (cloneT w)) (by simp; omega) (by decide)
    have htk : (args.take (i + 1)).map (fun a => encT (cloneT a)) = (args.take i).map (fun a => encT (cloneT a)) ++ [encT (cloneT w)] := by
      rw [List.take_add_one, hwi]; simp
    rw [← htk] at hG'
    have hset0 : ∀ o o' : HO, (H0 ++ (M ++ [o])).set (H0.length + M.length) o' = H0 ++ (M ++ [o']) := fun o o' => by
      rw [← List.append_assoc, ← List.append_assoc, ← List.length_append, Go.Abs.hset0]; rfl
    have hgetA : ∀ o, (H0 ++ (M ++ [o]))[H0.length + M.length]? = some o := fun o => by
      rw [← List.append_assoc, ← List.length_append, Go.Abs.hget0]; rfl
    rw [l15_0]
    generalize hcw : cloneT w = cw at *
    obtain ⟨k, s', ts⟩ := w
    obtain ⟨k2, s2, ts2⟩ := cw
    simp only [encT, List.map_cons, List.map_nil] at hcall hgw hap
    simp only [b15_0, exec0, xreg, xops, wantedA, aopc, aop, ev, putA, endK, resA, tupA, List.length_cons, List.length_nil, List.replicate, List.cons_append, List.nil_append, List.append_nil, List.append_assoc, gs_same, gs_ne, gq_same, gq_ne, List.length_set, List.map_cons, List.map_nil, cellsOf, List.all_cons, List.all_nil, cellOk, boxTy, Bool.and_true, Bool.and_self, if_true, ite_true, ite_false, loadAt, storeAt, setAt, hget, hget0, hset, hset0, List.getElem?_cons_zero, List.getElem?_cons_succ, List.set_cons_zero, List.set_cons_succ, Nat.add_zero, Nat.zero_add, Nat.reduceAdd, Nat.reduceSub, Nat.reduceLeDiff, Nat.reduceLT, Nat.reduceEqDiff, Nat.le_refl, and_self, and_true, true_and, mkAgg, toIms, List.drop_zero, List.drop_succ_cons, List.take_succ_cons, List.take_zero, List.length_append, binA, isShift, binInt, binBool, unA, Bool.false_eq_true, if_false, partA, fillA, fillE, List.take_nil, Nat.zero_ne_one, Nat.one_ne_zero, not_false_eq_true, ne_eq, Nat.succ_ne_self, reduceCtorEq, Int.reduceEq, Int.reduceLT, Int.reduceLE, decide_true, decide_false, lenA, beq_self_eq_true, beq_true, beq_false, Bool.not_true, Bool.not_false, hlen, h3, h7, h8, h9, hc', hix, hgw, hcall, hwr, hgetA, hset0, toDatss, toDats, toDat, elems, hap]
    refine ex_imp (key _ M' v' hG' ?_ ?_ ?_ ?_ ?_) ?_
    iterate 5 simp only [gs_same, gs_ne, List.length_set, Nat.reduceLT, Nat.reduceEqDiff, not_false_eq_true, hlen, h3, h7, h8, h9]
    rintro e tm' H' ⟨hl', he, g1, g2, hM⟩
    refine ⟨hl', he, ?_, ?_, hM⟩
    · rw [g1]; simp only [gs_same, gs_ne, List.length_set, Nat.reduceLT, Nat.reduceEqDiff, not_false_eq_true, hlen]
    · rw [g2]; simp only [gs_same, gs_ne, List.length_set, Nat.reduceLT, Nat.reduceEqDiff, not_false_eq_true, hlen]

theorem s15 : ∀ (t : KT), okT t → slim t → ∀ H, L 15 [.im (.agg (encT t))] H = some (.im (.agg (encT (cloneT t))), H)
  | .mk k s args, hok, hnw, H => by
    simp only [okT] at hok
    obtain ⟨hs, _, hoks⟩ := hok
    simp only [slim] at hnw
    obtain ⟨hn, hnws⟩ := hnw
    have hc : ∀ a ∈ args, ∀ H, L 15 [.im (.agg (encT a))] H = some (.im (.agg (encT (cloneT a))), H) := fun a ha H => s15 a (okTs_mem hoks a ha) (slims_mem hnws a ha) H
    have key := l15 args s hs (by omega) (H ++ [.obj none [[.im (.int .i64 k), .im (.sl s (encTs args))]], .obj none [[.im (.int .i64 0), .nils]]]) hc args.length 0 (by omega)
    have z : ((0 : Nat) : Int) = 0 := rfl
    simp only [z] at key
    have hel : (encTs args).length = args.length := by rw [encTs_map]; simp
    simp only [encT]
    rw [leq F15]
    obtain ⟨hlen, ha⟩ := enter_at (f := f15) (args := [.im (.agg [.int .i64 k, .sl s (encTs args)])]) (Nat.le_of_ble_eq_true rfl)
    have h0 := ha 0 _ rfl
    generalize enterA f15 [.im (.agg [.int .i64 k, .sl s (encTs args)])] = tm at *
    change tm.length = 23 at hlen
    simp only [f15, e15_0, exec0, xreg, xops, wantedA, aopc, aop, ev, putA, endK, resA, tupA, List.length_cons, List.length_nil, List.replicate, List.cons_append, List.nil_append, List.append_nil, List.append_assoc, gs_same, gs_ne, gq_same, gq_ne, List.length_set, List.map_cons, List.map_nil, cellsOf, List.all_cons, List.all_nil, cellOk, boxTy, Bool.and_true, Bool.and_self, if_true, ite_true, ite_false, loadAt, storeAt, setAt, hget, hget0, hset, hset0, List.getElem?_cons_zero, List.getElem?_cons_succ, List.set_cons_zero, List.set_cons_succ, Nat.add_zero, Nat.zero_add, Nat.reduceAdd, Nat.reduceSub, Nat.reduceLeDiff, Nat.reduceLT, Nat.reduceEqDiff, Nat.le_refl, and_self, and_true, true_and, mkAgg, toIms, List.drop_zero, List.drop_succ_cons, List.take_succ_cons, List.take_zero, List.length_append, binA, isShift, binInt, binBool, unA, Bool.false_eq_true, if_false, partA, fillA, fillE, List.take_nil, Nat.zero_ne_one, Nat.one_ne_zero, not_false_eq_true, ne_eq, Nat.succ_ne_self, reduceCtorEq, Int.reduceEq, Int.reduceLT, Int.reduceLE, decide_true, decide_false, lenA, beq_self_eq_true, beq_true, beq_false, Bool.not_true, Bool.not_false, hlen, h0, hel]
    have key := fun tm => key tm [] .nils (.inl ⟨rfl, rfl⟩)
    simp only [List.append_nil] at key
    refine thenL_of (key _ ?_ ?_ ?_ ?_ ?_) ?_
    iterate 5 simp only [gs_same, gs_ne, List.length_set, Nat.reduceLT, Nat.reduceEqDiff, not_false_eq_true, hlen, h0, encTs_map]
    rintro e tm' H' ⟨hl', rfl, g1, g2, M, rfl, hG⟩
    simp only [gs_same, gs_ne, List.length_set, Nat.reduceLT, Nat.reduceEqDiff, not_false_eq_true, hlen] at g1 g2
    have hm : encTs (cloneTs args) = args.map fun a => encT (cloneT a) := by rw [encTs_map, cloneTs_map, List.map_map]; rfl
    rcases hG with ⟨hes, hv⟩ | ⟨hes, tok, _, hv, _⟩
    · have ha0 : args = [] := by simpa using hes
      have e1 : toDat (.agg [.im (.int .i64 k), .nils]) = some (.agg (encT (cloneT (.mk k s args)))) := by
        simp [toDat, toDats, cloneT, encT, ha0, encTs, cloneTs]
      have hlv := fun L' => leave_one (H := H) (M := L') e1
      simp only [cloneT, encT] at hlv ⊢
      simp only [exec0, xreg, xops, wantedA, aopc, aop, ev, putA, endK, resA, tupA, List.length_cons, List.length_nil, List.replicate, List.cons_append, List.nil_append, List.append_nil, List.append_assoc, gs_same, gs_ne, gq_same, gq_ne, List.length_set, List.map_cons, List.map_nil, cellsOf, List.all_cons, List.all_nil, cellOk, boxTy, Bool.and_true, Bool.and_self, if_true, ite_true, ite_false, loadAt, storeAt, setAt, hget, hget0, hset, hset0, List.getElem?_cons_zero, List.getElem?_cons_succ, List.set_cons_zero, List.set_cons_succ, Nat.add_zero, Nat.zero_add, Nat.reduceAdd, Nat.reduceSub, Nat.reduceLeDiff, Nat.reduceLT, Nat.reduceEqDiff, Nat.le_refl, and_self, and_true, true_and, mkAgg, toIms, List.drop_zero, List.drop_succ_cons, List.take_succ_cons, List.take_zero, List.length_append, binA, isShift, binInt, binBool, unA, Bool.false_eq_true, if_false, partA, fillA, fillE, List.take_nil, Nat.zero_ne_one, Nat.one_ne_zero, not_false_eq_true, ne_eq, Nat.succ_ne_self, reduceCtorEq, Int.reduceEq, Int.reduceLT, Int.reduceLE, decide_true, decide_false, lenA, beq_self_eq_true, beq_true, beq_false, Bool.not_true, Bool.not_false, hl', g1, g2, hv, toDatss, toDats, toDat, hlv]
    · have ha0 : args.length ≠ 0 := by simpa using hes
      have e1 : toDat (.agg [.im (.int .i64 k), .asl 2 (args.map fun a => encT (cloneT a)) tok]) = some (.agg (encT (cloneT (.mk k s args)))) := by
        simp only [toDat, toDats, cloneT, encT, if_neg ha0, hm]
      have hlv := fun L' => leave_one (H := H) (M := L') e1
      simp only [cloneT, encT] at hlv ⊢
      simp only [exec0, xreg, xops, wantedA, aopc, aop, ev, putA, endK, resA, tupA, List.length_cons, List.length_nil, List.replicate, List.cons_append, List.nil_append, List.append_nil, List.append_assoc, gs_same, gs_ne, gq_same, gq_ne, List.length_set, List.map_cons, List.map_nil, cellsOf, List.all_cons, List.all_nil, cellOk, boxTy, Bool.and_true, Bool.and_self, if_true, ite_true, ite_false, loadAt, storeAt, setAt, hget, hget0, hset, hset0, List.getElem?_cons_zero, List.getElem?_cons_succ, List.set_cons_zero, List.set_cons_succ, Nat.add_zero, Nat.zero_add, Nat.reduceAdd, Nat.reduceSub, Nat.reduceLeDiff, Nat.reduceLT, Nat.reduceEqDiff, Nat.le_refl, and_self, and_true, true_and, mkAgg, toIms, List.drop_zero, List.drop_succ_cons, List.take_succ_cons, List.take_zero, List.length_append, binA, isShift, binInt, binBool, unA, Bool.false_eq_true, if_false, partA, fillA, fillE, List.take_nil, Nat.zero_ne_one, Nat.one_ne_zero, not_false_eq_true, ne_eq, Nat.succ_ne_self, reduceCtorEq, Int.reduceEq, Int.reduceLT, Int.reduceLE, decide_true, decide_false, lenA, beq_self_eq_true, beq_true, beq_false, Bool.not_true, Bool.not_false, hl', g1, g2, hv, toDatss, toDats, toDat, hlv]
termination_by t => SizeOf.sizeOf t
decreasing_by
  have := List.sizeOf_lt_of_mem ha
  simp only [KT.mk.sizeOf_spec]
  omega

end Go.Abs.Seat
end
section
/- What the functions come to: the reference's Same. -/
set_option linter.unusedVariables false
set_option linter.unusedSimpArgs false
namespace Go.Abs.Seat
open Go.Proofs

mutual
def sameT : KT → KT → Bool
  | .mk k _ xs, .mk k' _ ys => decide (k = k') && (decide (xs.length = ys.length) && sameTs xs ys)
def sameTs : List KT → List KT → Bool
  | a :: xs, b :: ys => sameT a b && sameTs xs ys
  | _, _ => true
end

theorem l14 (xs ys : List KT) (s s' : Nat) (hs : xs = [] ∨ s = 2) (hs' : ys = [] ∨ s' = 2) (hl : xs.length = ys.length) (hn : xs.length ≤ 9223372036854775807) (ka kb : Int) (ia ib : Nat) (H : Heap) (oa : H[ia]? = some (.obj none [[.im (.int .i64 ka), .im (.sl s (xs.map encT))]])) (ob : H[ib]? = some (.obj none [[.im (.int .i64 kb), .im (.sl s' (ys.map encT))]]))
    (hc : ∀ a ∈ xs, ∀ b ∈ ys, L 14 [.im (.agg (encT a)), .im (.agg (encT b))] H = some (.im (.bool (sameT a b)), H)) :
    ∀ (m i : Nat), i + m = xs.length → ∀ tm : List AV, tm.length = 39 → tm.getD 2 undefA = .ptr ia 0 0 → tm.getD 3 undefA = .ptr ib 0 0 → tm.getD 5 undefA = .im (.int .i64 (i : Int)) →
    ∃ e tm' H', Λ c14_0 tm H = some (e, tm', H') ∧ tm'.length = 39 ∧ H' = H ∧ ((sameTs (xs.drop i) (ys.drop i) = true ∧ e = .exit 0) ∨ (sameTs (xs.drop i) (ys.drop i) = false ∧ e = .ret ∧ tm'.getD 4 undefA = .im (.bool false)))
  | 0, i, hi, tm, hlen, h2, h3, h5 => by
    have e : xs.drop i = [] := by rw [List.drop_eq_nil_iff]; omega
    have hc' : decide ((i : Int) < (xs.length : Int)) = false := decide_eq_false (by omega)
    rw [e, l14_0]
    simp only [b14_0, x_seq, x_block, x_skip, x_label, x_cond, x_exit, x_goto, x_ret, k_normal, k_exit, k_goto, k_ret, b_normal, b_exit, b_goto, b_ret, wantedA, aop, ev, putA, List.length_cons, List.length_nil, List.replicate, List.cons_append, List.nil_append, List.append_nil, List.append_assoc, gs_same, gs_ne, gq_same, gq_ne, List.length_set, List.map_cons, List.map_nil, cellsOf, List.all_cons, List.all_nil, cellOk, boxTy, Bool.and_true, Bool.and_self, if_true, ite_true, ite_false, loadAt, storeAt, setAt, hget, hget0, hset, hset0, List.getElem?_cons_zero, List.getElem?_cons_succ, List.set_cons_zero, List.set_cons_succ, Nat.add_zero, Nat.zero_add, Nat.reduceAdd, Nat.reduceSub, Nat.reduceLeDiff, Nat.reduceLT, Nat.reduceEqDiff, Nat.le_refl, and_self, and_true, true_and, mkAgg, toIms, List.drop_zero, List.drop_succ_cons, List.take_succ_cons, List.take_zero, List.length_append, binBool, unA, Bool.false_eq_true, if_false, partA, fillA, fillE, List.take_nil, Nat.zero_ne_one, Nat.one_ne_zero, not_false_eq_true, ne_eq, Nat.succ_ne_self, reduceCtorEq, Int.reduceEq, Int.reduceLT, Int.reduceLE, decide_true, decide_false, lenA, beq_self_eq_true, beq_true, beq_false, Bool.not_true, Bool.not_false, b_lss, b_gtr, b_leq, b_geq, b_eql, b_neq, b_add, b_sub, b_mul, s_eql, s_neq, y_ops, y_nil, y_cons, y_guard, y_some, y_drop, y_do, y_not, y_not0, c_call, c_clo, c_move, c_pick, c_alloc, c_box, c_build, c_bslice, c_load, c_store, c_nilCheck, c_bin, c_binB, c_un, c_i2i, c_i2f, c_f2i, c_s2b, c_b2s, c_strId, c_mkfunc, c_mkslice, c_slice, c_sliceStr, c_fieldAddr, c_field, c_indexSl, c_indexArr, c_elemArr, c_indexStr, c_extract, c_lenStr, c_lenSl, c_append, c_real, c_imag, c_complex, c_min, c_max, c_clear, hlen, h2, h3, h5, oa, List.length_map, hc', sameTs]
    exact ⟨_, _, _, rfl, by simp only [List.length_set, hlen], rfl, by simp⟩
  | m + 1, i, hi, tm, hlen, h2, h3, h5 => by
    have hlt : i < xs.length := by omega
    have hltb : i < ys.length := by omega
    obtain ⟨a, hai, ea⟩ := drop_cons hlt
    obtain ⟨b, hbi, eb⟩ := drop_cons hltb
    have hs2 : s = 2 := by
      rcases hs with hs | hs
      · subst hs; simp at hlt
      · exact hs
    have hs2' : s' = 2 := by
      rcases hs' with hs | hs
      · subst hs; simp at hltb
      · exact hs
    subst hs2 hs2'
    have hc' : decide ((i : Int) < (xs.length : Int)) = true := decide_eq_true (by omega)
    have hixa := idx_nat (n := xs.length) (i := i) hlt
    have hixb := idx_nat (n := ys.length) (i := i) hltb
    have hga : (xs.map encT)[i]? = some (encT a) := by rw [List.getElem?_map, hai]; rfl
    have hgb : (ys.map encT)[i]? = some (encT b) := by rw [List.getElem?_map, hbi]; rfl
    have hcall := hc a (List.mem_of_getElem? hai) b (List.mem_of_getElem? hbi)
    have hwr := wrap_nat (i := i) (by omega)
    have key := l14 xs ys 2 2 hs hs' hl hn ka kb ia ib H oa ob hc m (i + 1) (by omega)
    rw [ea, eb, l14_0]
    simp only [sameTs]
    generalize sameT a b = sb at *
    obtain ⟨k1, s1, ts1⟩ := a
    obtain ⟨k2, s2, ts2⟩ := b
    simp only [encT] at hcall hga hgb
    cases sb with
    | true =>
      simp only [b14_0, x_seq, x_block, x_skip, x_label, x_cond, x_exit, x_goto, x_ret, k_normal, k_exit, k_goto, k_ret, b_normal, b_exit, b_goto, b_ret, wantedA, aop, ev, putA, List.length_cons, List.length_nil, List.replicate, List.cons_append, List.nil_append, List.append_nil, List.append_assoc, gs_same, gs_ne, gq_same, gq_ne, List.length_set, List.map_cons, List.map_nil, cellsOf, List.all_cons, List.all_nil, cellOk, boxTy, Bool.and_true, Bool.and_self, if_true, ite_true, ite_false, loadAt, storeAt, setAt, hget, hget0, hset, hset0, List.getElem?_cons_zero, List.getElem?_cons_succ, List.set_cons_zero, List.set_cons_succ, Nat.add_zero, Nat.zero_add, Nat.reduceAdd, Nat.reduceSub, Nat.reduceLeDiff, Nat.reduceLT, Nat.reduceEqDiff, Nat.le_refl, and_self, and_true, true_and, mkAgg, toIms, List.drop_zero, List.drop_succ_cons, List.take_succ_cons, List.take_zero, List.length_append, binBool, unA, Bool.false_eq_true, if_false, partA, fillA, fillE, List.take_nil, Nat.zero_ne_one, Nat.one_ne_zero, not_false_eq_true, ne_eq, Nat.succ_ne_self, reduceCtorEq, Int.reduceEq, Int.reduceLT, Int.reduceLE, decide_true, decide_false, lenA, beq_self_eq_true, beq_true, beq_false, Bool.not_true, Bool.not_false, b_lss, b_gtr, b_leq, b_geq, b_eql, b_neq, b_add, b_sub, b_mul, s_eql, s_neq, y_ops, y_nil, y_cons, y_guard, y_some, y_drop, y_do, y_not, y_not0, c_call, c_clo, c_move, c_pick, c_alloc, c_box, c_build, c_bslice, c_load, c_store, c_nilCheck, c_bin, c_binB, c_un, c_i2i, c_i2f, c_f2i, c_s2b, c_b2s, c_strId, c_mkfunc, c_mkslice, c_slice, c_sliceStr, c_fieldAddr, c_field, c_indexSl, c_indexArr, c_elemArr, c_indexStr, c_extract, c_lenStr, c_lenSl, c_append, c_real, c_imag, c_complex, c_min, c_max, c_clear, hlen, h2, h3, h5, oa, ob, List.length_map, hc', hixa, hixb, hga, hgb, hcall, hwr, Bool.true_and]
      refine ex_imp (key _ ?_ ?_ ?_ ?_) fun _ _ _ h => h
      all_goals simp only [gs_same, gs_ne, List.length_set, Nat.reduceLT, Nat.reduceEqDiff, not_false_eq_true, hlen, h2, h3]
    | false =>
      simp only [b14_0, x_seq, x_block, x_skip, x_label, x_cond, x_exit, x_goto, x_ret, k_normal, k_exit, k_goto, k_ret, b_normal, b_exit, b_goto, b_ret, wantedA, aop, ev, putA, List.length_cons, List.length_nil, List.replicate, List.cons_append, List.nil_append, List.append_nil, List.append_assoc, gs_same, gs_ne, gq_same, gq_ne, List.length_set, List.map_cons, List.map_nil, cellsOf, List.all_cons, List.all_nil, cellOk, boxTy, Bool.and_true, Bool.and_self, if_true, ite_true, ite_false, loadAt, storeAt, setAt, hget, hget0, hset, hset0, List.getElem?_cons_zero, List.getElem?_cons_succ, List.set_cons_zero, List.set_cons_succ, Nat.add_zero, Nat.zero_add, Nat.reduceAdd, Nat.reduceSub, Nat.reduceLeDiff, Nat.reduceLT, Nat.reduceEqDiff, Nat.le_refl, and_self, and_true, true_and, mkAgg, toIms, List.drop_zero, List.drop_succ_cons, List.take_succ_cons, List.take_zero, List.length_append, binBool, unA, Bool.false_eq_true, if_false, partA, fillA, fillE, List.take_nil, Nat.zero_ne_one, Nat.one_ne_zero, not_false_eq_true, ne_eq, Nat.succ_ne_self, reduceCtorEq, Int.reduceEq, Int.reduceLT, Int.reduceLE, decide_true, decide_false, lenA, beq_self_eq_true, beq_true, beq_false, Bool.not_true, Bool.not_false, b_lss, b_gtr, b_leq, b_geq, b_eql, b_neq, b_add, b_sub, b_mul, s_eql, s_neq, y_ops, y_nil, y_cons, y_guard, y_some, y_drop, y_do, y_not, y_not0, c_call, c_clo, c_move, c_pick, c_alloc, c_box, c_build, c_bslice, c_load, c_store, c_nilCheck, c_bin, c_binB, c_un, c_i2i, c_i2f, c_f2i, c_s2b, c_b2s, c_strId, c_mkfunc, c_mkslice, c_slice, c_sliceStr, c_fieldAddr, c_field, c_indexSl, c_indexArr, c_elemArr, c_indexStr, c_extract, c_lenStr, c_lenSl, c_append, c_real, c_imag, c_complex, c_min, c_max, c_clear, hlen, h2, h3, h5, oa, ob, List.length_map, hc', hixa, hixb, hga, hgb, hcall, hwr, Bool.false_and]
      exact ⟨_, _, _, rfl, by simp only [List.length_set, hlen], rfl, by simp only [gs_same, gs_ne, List.length_set, Nat.reduceLT, Nat.reduceEqDiff, not_false_eq_true, hlen, true_and, and_true, and_self, or_true]⟩

theorem s14 : ∀ (a b : KT), okT a → okT b → ∀ H, L 14 [.im (.agg (encT a)), .im (.agg (encT b))] H = some (.im (.bool (sameT a b)), H)
  | .mk ka s xs, .mk kb s' ys, ha, hb, H => by
    simp only [okT] at ha hb
    obtain ⟨hs, hn, hoa⟩ := ha
    obtain ⟨hs', hn', hob⟩ := hb
    have hc : ∀ H : Heap, ∀ a ∈ xs, ∀ b ∈ ys, L 14 [.im (.agg (encT a)), .im (.agg (encT b))] H = some (.im (.bool (sameT a b)), H) := fun H a ha b hb => s14 a b (okTs_mem hoa a ha) (okTs_mem hob b hb) H
    simp only [encT, encTs_map, sameT]
    rw [leq F14]
    obtain ⟨hlen, hg⟩ := enter_at (f := f14) (args := [.im (.agg [.int .i64 ka, .sl s (xs.map encT)]), .im (.agg [.int .i64 kb, .sl s' (ys.map encT)])]) (Nat.le_of_ble_eq_true rfl)
    have h0 := hg 0 _ rfl
    have h1 := hg 1 _ rfl
    generalize enterA f14 [.im (.agg [.int .i64 ka, .sl s (xs.map encT)]), .im (.agg [.int .i64 kb, .sl s' (ys.map encT)])] = tm at *
    change tm.length = 39 at hlen
    by_cases hk : ka = kb
    · have hdk : decide (ka = kb) = true := decide_eq_true hk
      by_cases hl : xs.length = ys.length
      · have hdl : decide ((xs.length : Int) = (ys.length : Int)) = true := decide_eq_true (by omega)
        have hdl' : decide (xs.length = ys.length) = true := decide_eq_true hl
        have key := l14 xs ys s s' hs hs' hl hn ka kb H.length (H.length + 1) (H ++ [HO.obj none [[.im (.int .i64 ka), .im (.sl s (xs.map encT))]], HO.obj none [[.im (.int .i64 kb), .im (.sl s' (ys.map encT))]]]) (by rw [hget0]; rfl) (by rw [hget]; rfl) (hc _) xs.length 0 (by omega)
        have z : ((0 : Nat) : Int) = 0 := rfl
        simp only [z, List.drop_zero] at key
        simp only [f14, e14_0, x_seq, x_block, x_skip, x_label, x_cond, x_exit, x_goto, x_ret, k_normal, k_exit, k_goto, k_ret, b_normal, b_exit, b_goto, b_ret, wantedA, aop, ev, putA, List.length_cons, List.length_nil, List.replicate, List.cons_append, List.nil_append, List.append_nil, List.append_assoc, gs_same, gs_ne, gq_same, gq_ne, List.length_set, List.map_cons, List.map_nil, cellsOf, List.all_cons, List.all_nil, cellOk, boxTy, Bool.and_true, Bool.and_self, if_true, ite_true, ite_false, loadAt, storeAt, setAt, hget, hget0, hset, hset0, List.getElem?_cons_zero, List.getElem?_cons_succ, List.set_cons_zero, List.set_cons_succ, Nat.add_zero, Nat.zero_add, Nat.reduceAdd, Nat.reduceSub, Nat.reduceLeDiff, Nat.reduceLT, Nat.reduceEqDiff, Nat.le_refl, and_self, and_true, true_and, mkAgg, toIms, List.drop_zero, List.drop_succ_cons, List.take_succ_cons, List.take_zero, List.length_append, binBool, unA, Bool.false_eq_true, if_false, partA, fillA, fillE, List.take_nil, Nat.zero_ne_one, Nat.one_ne_zero, not_false_eq_true, ne_eq, Nat.succ_ne_self, reduceCtorEq, Int.reduceEq, Int.reduceLT, Int.reduceLE, decide_true, decide_false, lenA, beq_self_eq_true, beq_true, beq_false, Bool.not_true, Bool.not_false, b_lss, b_gtr, b_leq, b_geq, b_eql, b_neq, b_add, b_sub, b_mul, s_eql, s_neq, y_ops, y_nil, y_cons, y_guard, y_some, y_drop, y_do, y_not, y_not0, c_call, c_clo, c_move, c_pick, c_alloc, c_box, c_build, c_bslice, c_load, c_store, c_nilCheck, c_bin, c_binB, c_un, c_i2i, c_i2f, c_f2i, c_s2b, c_b2s, c_strId, c_mkfunc, c_mkslice, c_slice, c_sliceStr, c_fieldAddr, c_field, c_indexSl, c_indexArr, c_elemArr, c_indexStr, c_extract, c_lenStr, c_lenSl, c_append, c_real, c_imag, c_complex, c_min, c_max, c_clear, hlen, h0, h1, List.length_map, hdk, hdl, hdl', Bool.true_and]
        generalize hr : thenL _ _ = r
        refine Exists.elim (thenL_inv hr (key _ ?_ ?_ ?_ ?_)) ?_
        iterate 4 simp only [gs_same, gs_ne, List.length_set, Nat.reduceLT, Nat.reduceEqDiff, not_false_eq_true, hlen]
        clear hr key
        rintro e ⟨tm1, H1, ⟨hl1, rfl, hm⟩, rfl⟩
        rcases hm with ⟨he, rfl⟩ | ⟨he, rfl, g4⟩
        · rw [he]
          simp only [x_seq, x_block, x_skip, x_label, x_cond, x_exit, x_goto, x_ret, k_normal, k_exit, k_goto, k_ret, b_normal, b_exit, b_goto, b_ret, wantedA, aop, ev, putA, List.length_cons, List.length_nil, List.replicate, List.cons_append, List.nil_append, List.append_nil, List.append_assoc, gs_same, gs_ne, gq_same, gq_ne, List.length_set, List.map_cons, List.map_nil, cellsOf, List.all_cons, List.all_nil, cellOk, boxTy, Bool.and_true, Bool.and_self, if_true, ite_true, ite_false, loadAt, storeAt, setAt, hget, hget0, hset, hset0, List.getElem?_cons_zero, List.getElem?_cons_succ, List.set_cons_zero, List.set_cons_succ, Nat.add_zero, Nat.zero_add, Nat.reduceAdd, Nat.reduceSub, Nat.reduceLeDiff, Nat.reduceLT, Nat.reduceEqDiff, Nat.le_refl, and_self, and_true, true_and, mkAgg, toIms, List.drop_zero, List.drop_succ_cons, List.take_succ_cons, List.take_zero, List.length_append, binBool, unA, Bool.false_eq_true, if_false, partA, fillA, fillE, List.take_nil, Nat.zero_ne_one, Nat.one_ne_zero, not_false_eq_true, ne_eq, Nat.succ_ne_self, reduceCtorEq, Int.reduceEq, Int.reduceLT, Int.reduceLE, decide_true, decide_false, lenA, beq_self_eq_true, beq_true, beq_false, Bool.not_true, Bool.not_false, b_lss, b_gtr, b_leq, b_geq, b_eql, b_neq, b_add, b_sub, b_mul, s_eql, s_neq, y_ops, y_nil, y_cons, y_guard, y_some, y_drop, y_do, y_not, y_not0, c_call, c_clo, c_move, c_pick, c_alloc, c_box, c_build, c_bslice, c_load, c_store, c_nilCheck, c_bin, c_binB, c_un, c_i2i, c_i2f, c_f2i, c_s2b, c_b2s, c_strId, c_mkfunc, c_mkslice, c_slice, c_sliceStr, c_fieldAddr, c_field, c_indexSl, c_indexArr, c_elemArr, c_indexStr, c_extract, c_lenStr, c_lenSl, c_append, c_real, c_imag, c_complex, c_min, c_max, c_clear, endK, resA, tupA, hl1, leave_app]
        · rw [he]
          simp only [x_seq, x_block, x_skip, x_label, x_cond, x_exit, x_goto, x_ret, k_normal, k_exit, k_goto, k_ret, b_normal, b_exit, b_goto, b_ret, wantedA, aop, ev, putA, List.length_cons, List.length_nil, List.replicate, List.cons_append, List.nil_append, List.append_nil, List.append_assoc, gs_same, gs_ne, gq_same, gq_ne, List.length_set, List.map_cons, List.map_nil, cellsOf, List.all_cons, List.all_nil, cellOk, boxTy, Bool.and_true, Bool.and_self, if_true, ite_true, ite_false, loadAt, storeAt, setAt, hget, hget0, hset, hset0, List.getElem?_cons_zero, List.getElem?_cons_succ, List.set_cons_zero, List.set_cons_succ, Nat.add_zero, Nat.zero_add, Nat.reduceAdd, Nat.reduceSub, Nat.reduceLeDiff, Nat.reduceLT, Nat.reduceEqDiff, Nat.le_refl, and_self, and_true, true_and, mkAgg, toIms, List.drop_zero, List.drop_succ_cons, List.take_succ_cons, List.take_zero, List.length_append, binBool, unA, Bool.false_eq_true, if_false, partA, fillA, fillE, List.take_nil, Nat.zero_ne_one, Nat.one_ne_zero, not_false_eq_true, ne_eq, Nat.succ_ne_self, reduceCtorEq, Int.reduceEq, Int.reduceLT, Int.reduceLE, decide_true, decide_false, lenA, beq_self_eq_true, beq_true, beq_false, Bool.not_true, Bool.not_false, b_lss, b_gtr, b_leq, b_geq, b_eql, b_neq, b_add, b_sub, b_mul, s_eql, s_neq, y_ops, y_nil, y_cons, y_guard, y_some, y_drop, y_do, y_not, y_not0, c_call, c_clo, c_move, c_pick, c_alloc, c_box, c_build, c_bslice, c_load, c_store, c_nilCheck, c_bin, c_binB, c_un, c_i2i, c_i2f, c_f2i, c_s2b, c_b2s, c_strId, c_mkfunc, c_mkslice, c_slice, c_sliceStr, c_fieldAddr, c_field, c_indexSl, c_indexArr, c_elemArr, c_indexStr, c_extract, c_lenStr, c_lenSl, c_append, c_real, c_imag, c_complex, c_min, c_max, c_clear, endK, resA, tupA, hl1, g4, leave_app]
      · have hdl : decide ((xs.length : Int) = (ys.length : Int)) = false := decide_eq_false (by omega)
        have hdl' : decide (xs.length = ys.length) = false := decide_eq_false hl
        simp only [f14, x_seq, x_block, x_skip, x_label, x_cond, x_exit, x_goto, x_ret, k_normal, k_exit, k_goto, k_ret, b_normal, b_exit, b_goto, b_ret, wantedA, aop, ev, putA, List.length_cons, List.length_nil, List.replicate, List.cons_append, List.nil_append, List.append_nil, List.append_assoc, gs_same, gs_ne, gq_same, gq_ne, List.length_set, List.map_cons, List.map_nil, cellsOf, List.all_cons, List.all_nil, cellOk, boxTy, Bool.and_true, Bool.and_self, if_true, ite_true, ite_false, loadAt, storeAt, setAt, hget, hget0, hset, hset0, List.getElem?_cons_zero, List.getElem?_cons_succ, List.set_cons_zero, List.set_cons_succ, Nat.add_zero, Nat.zero_add, Nat.reduceAdd, Nat.reduceSub, Nat.reduceLeDiff, Nat.reduceLT, Nat.reduceEqDiff, Nat.le_refl, and_self, and_true, true_and, mkAgg, toIms, List.drop_zero, List.drop_succ_cons, List.take_succ_cons, List.take_zero, List.length_append, binBool, unA, Bool.false_eq_true, if_false, partA, fillA, fillE, List.take_nil, Nat.zero_ne_one, Nat.one_ne_zero, not_false_eq_true, ne_eq, Nat.succ_ne_self, reduceCtorEq, Int.reduceEq, Int.reduceLT, Int.reduceLE, decide_true, decide_false, lenA, beq_self_eq_true, beq_true, beq_false, Bool.not_true, Bool.not_false, b_lss, b_gtr, b_leq, b_geq, b_eql, b_neq, b_add, b_sub, b_mul, s_eql, s_neq, y_ops, y_nil, y_cons, y_guard, y_some, y_drop, y_do, y_not, y_not0, c_call, c_clo, c_move, c_pick, c_alloc, c_box, c_build, c_bslice, c_load, c_store, c_nilCheck, c_bin, c_binB, c_un, c_i2i, c_i2f, c_f2i, c_s2b, c_b2s, c_strId, c_mkfunc, c_mkslice, c_slice, c_sliceStr, c_fieldAddr, c_field, c_indexSl, c_indexArr, c_elemArr, c_indexStr, c_extract, c_lenStr, c_lenSl, c_append, c_real, c_imag, c_complex, c_min, c_max, c_clear, endK, resA, tupA, hlen, h0, h1, List.length_map, hdk, hdl, hdl', Bool.true_and, Bool.false_and, leave_app]
    · have hdk : decide (ka = kb) = false := decide_eq_false hk
      simp only [f14, x_seq, x_block, x_skip, x_label, x_cond, x_exit, x_goto, x_ret, k_normal, k_exit, k_goto, k_ret, b_normal, b_exit, b_goto, b_ret, wantedA, aop, ev, putA, List.length_cons, List.length_nil, List.replicate, List.cons_append, List.nil_append, List.append_nil, List.append_assoc, gs_same, gs_ne, gq_same, gq_ne, List.length_set, List.map_cons, List.map_nil, cellsOf, List.all_cons, List.all_nil, cellOk, boxTy, Bool.and_true, Bool.and_self, if_true, ite_true, ite_false, loadAt, storeAt, setAt, hget, hget0, hset, hset0, List.getElem?_cons_zero, List.getElem?_cons_succ, List.set_cons_zero, List.set_cons_succ, Nat.add_zero, Nat.zero_add, Nat.reduceAdd, Nat.reduceSub, Nat.reduceLeDiff, Nat.reduceLT, Nat.reduceEqDiff, Nat.le_refl, and_self, and_true, true_and, mkAgg, toIms, List.drop_zero, List.drop_succ_cons, List.take_succ_cons, List.take_zero, List.length_append, binBool, unA, Bool.false_eq_true, if_false, partA, fillA, fillE, List.take_nil, Nat.zero_ne_one, Nat.one_ne_zero, not_false_eq_true, ne_eq, Nat.succ_ne_self, reduceCtorEq, Int.reduceEq, Int.reduceLT, Int.reduceLE, decide_true, decide_false, lenA, beq_self_eq_true, beq_true, beq_false, Bool.not_true, Bool.not_false, b_lss, b_gtr, b_leq, b_geq, b_eql, b_neq, b_add, b_sub, b_mul, s_eql, s_neq, y_ops, y_nil, y_cons, y_guard, y_some, y_drop, y_do, y_not, y_not0, c_call, c_clo, c_move, c_pick, c_alloc, c_box, c_build, c_bslice, c_load, c_store, c_nilCheck, c_bin, c_binB, c_un, c_i2i, c_i2f, c_f2i, c_s2b, c_b2s, c_strId, c_mkfunc, c_mkslice, c_slice, c_sliceStr, c_fieldAddr, c_field, c_indexSl, c_indexArr, c_elemArr, c_indexStr, c_extract, c_lenStr, c_lenSl, c_append, c_real, c_imag, c_complex, c_min, c_max, c_clear, endK, resA, tupA, hlen, h0, h1, hdk, Bool.false_and, leave_app]
termination_by a => SizeOf.sizeOf a
decreasing_by
  have := List.sizeOf_lt_of_mem ha
  simp only [KT.mk.sizeOf_spec]
  omega

end Go.Abs.Seat
end
section
/- What the seat's functions come to: slices.EqualFunc over types, alike, kind.Same. -/
set_option linter.unusedVariables false
set_option linter.unusedSimpArgs false
namespace Go.Abs.Seat
open Go.Proofs

theorem l75 (xs ys : List KT) (s s' : Nat) (hs : xs = [] ∨ s = 2) (hs' : ys = [] ∨ s' = 2) (hl : xs.length = ys.length) (hn : xs.length ≤ 9223372036854775807) (g : FuncId)
    (hc : ∀ a ∈ xs, ∀ b ∈ ys, ∀ H, L g [.im (.agg (encT a)), .im (.agg (encT b))] H = some (.im (.bool (sameT a b)), H)) :
    ∀ (m i : Nat), i + m = xs.length → ∀ (tm : List AV) (H : Heap), tm.length = 32 → tm.getD 1 undefA = .im (.sl s' (ys.map encT)) → tm.getD 2 undefA = .clo g [] → tm.getD 15 undefA = .im (.sl s (xs.map encT)) → tm.getD 16 undefA = .im (.int .i64 (xs.length : Int)) → tm.getD 17 undefA = .im (.int .i64 (i : Int)) →
    ∃ e tm' H', Λ c75_0 tm H = some (e, tm', H') ∧ tm'.length = 32 ∧ (∃ M, H' = H ++ M) ∧ ((sameTs (xs.drop i) (ys.drop i) = true ∧ e = .exit 0) ∨ (sameTs (xs.drop i) (ys.drop i) = false ∧ e = .ret ∧ tm'.getD 6 undefA = .im (.bool false)))
  | 0, i, hi, tm, H, hlen, h1, h2, h15, h16, h17 => by
    have e : xs.drop i = [] := by rw [List.drop_eq_nil_iff]; omega
    have hc' : decide ((i : Int) < (xs.length : Int)) = false := decide_eq_false (by omega)
    rw [e, l75_0]
    simp only [b75_0, x_seq, x_block, x_skip, x_label, x_cond, x_exit, x_goto, x_ret, k_normal, k_exit, k_goto, k_ret, b_normal, b_exit, b_goto, b_ret, wantedA, aop, ev, putA, List.length_cons, List.length_nil, List.replicate, List.cons_append, List.nil_append, List.append_nil, List.append_assoc, gs_same, gs_ne, gq_same, gq_ne, List.length_set, List.map_cons, List.map_nil, cellsOf, List.all_cons, List.all_nil, cellOk, boxTy, Bool.and_true, Bool.and_self, if_true, ite_true, ite_false, loadAt, storeAt, setAt, hget, hget0, hset, hset0, List.getElem?_cons_zero, List.getElem?_cons_succ, List.set_cons_zero, List.set_cons_succ, Nat.add_zero, Nat.zero_add, Nat.reduceAdd, Nat.reduceSub, Nat.reduceLeDiff, Nat.reduceLT, Nat.reduceEqDiff, Nat.le_refl, and_self, and_true, true_and, mkAgg, toIms, List.drop_zero, List.drop_succ_cons, List.take_succ_cons, List.take_zero, List.length_append, binBool, unA, Bool.false_eq_true, if_false, partA, fillA, fillE, List.take_nil, Nat.zero_ne_one, Nat.one_ne_zero, not_false_eq_true, ne_eq, Nat.succ_ne_self, reduceCtorEq, Int.reduceEq, Int.reduceLT, Int.reduceLE, decide_true, decide_false, lenA, beq_self_eq_true, beq_true, beq_false, Bool.not_true, Bool.not_false, b_lss, b_gtr, b_leq, b_geq, b_eql, b_neq, b_add, b_sub, b_mul, s_eql, s_neq, y_ops, y_nil, y_cons, y_guard, y_some, y_drop, y_do, y_not, y_not0, c_call, c_clo, c_move, c_pick, c_alloc, c_box, c_build, c_bslice, c_load, c_store, c_nilCheck, c_bin, c_binB, c_un, c_i2i, c_i2f, c_f2i, c_s2b, c_b2s, c_strId, c_mkfunc, c_mkslice, c_slice, c_sliceStr, c_fieldAddr, c_field, c_indexSl, c_indexArr, c_elemArr, c_indexStr, c_extract, c_lenStr, c_lenSl, c_append, c_real, c_imag, c_complex, c_min, c_max, c_clear, hlen, h1, h2, h15, h16, h17, hc', sameTs]
    exact ⟨_, _, _, rfl, by simp only [List.length_set, hlen], ⟨[], by simp⟩, by simp⟩
  | m + 1, i, hi, tm, H, hlen, h1, h2, h15, h16, h17 => by
    have hlt : i < xs.length := by omega
    have hltb : i < ys.length := by omega
    obtain ⟨a, hai, ea⟩ := drop_cons hlt
    obtain ⟨b, hbi, eb⟩ := drop_cons hltb
    have hs2 : s = 2 := by
      rcases hs with hs | hs
      · subst hs; simp at hlt
      · exact hs
    have hs2' : s' = 2 := by
      rcases hs' with hs | hs
      · subst hs; simp at hltb
      · exact hs
    subst hs2 hs2'
    have hc' : decide ((i : Int) < (xs.length : Int)) = true := decide_eq_true (by omega)
    have hixa := idx_nat (n := xs.length) (i := i) hlt
    have hixb := idx_nat (n := ys.length) (i := i) hltb
    have hga : (xs.map encT)[i]? = some (encT a) := by rw [List.getElem?_map, hai]; rfl
    have hgb : (ys.map encT)[i]? = some (encT b) := by rw [List.getElem?_map, hbi]; rfl
    have hcall := hc a (List.mem_of_getElem? hai) b (List.mem_of_getElem? hbi)
    have hwr := wrap_nat (i := i) (by omega)
    have key := l75 xs ys 2 2 hs hs' hl hn g hc m (i + 1) (by omega)
    rw [ea, eb, l75_0]
    simp only [sameTs]
    generalize sameT a b = sb at *
    obtain ⟨k1, s1, ts1⟩ := a
    obtain ⟨k2, s2, ts2⟩ := b
    simp only [encT] at hcall hga hgb
    cases sb with
    | true =>
      simp only [b75_0, x_seq, x_block, x_skip, x_label, x_cond, x_exit, x_goto, x_ret, k_normal, k_exit, k_goto, k_ret, b_normal, b_exit, b_goto, b_ret, wantedA, aop, ev, putA, List.length_cons, List.length_nil, List.replicate, List.cons_append, List.nil_append, List.append_nil, List.append_assoc, gs_same, gs_ne, gq_same, gq_ne, List.length_set, List.map_cons, List.map_nil, cellsOf, List.all_cons, List.all_nil, cellOk, boxTy, Bool.and_true, Bool.and_self, if_true, ite_true, ite_false, loadAt, storeAt, setAt, hget, hget0, hset, hset0, List.getElem?_cons_zero, List.getElem?_cons_succ, List.set_cons_zero, List.set_cons_succ, Nat.add_zero, Nat.zero_add, Nat.reduceAdd, Nat.reduceSub, Nat.reduceLeDiff, Nat.reduceLT, Nat.reduceEqDiff, Nat.le_refl, and_self, and_true, true_and, mkAgg, toIms, List.drop_zero, List.drop_succ_cons, List.take_succ_cons, List.take_zero, List.length_append, binBool, unA, Bool.false_eq_true, if_false, partA, fillA, fillE, List.take_nil, Nat.zero_ne_one, Nat.one_ne_zero, not_false_eq_true, ne_eq, Nat.succ_ne_self, reduceCtorEq, Int.reduceEq, Int.reduceLT, Int.reduceLE, decide_true, decide_false, lenA, beq_self_eq_true, beq_true, beq_false, Bool.not_true, Bool.not_false, b_lss, b_gtr, b_leq, b_geq, b_eql, b_neq, b_add, b_sub, b_mul, s_eql, s_neq, y_ops, y_nil, y_cons, y_guard, y_some, y_drop, y_do, y_not, y_not0, c_call, c_clo, c_move, c_pick, c_alloc, c_box, c_build, c_bslice, c_load, c_store, c_nilCheck, c_bin, c_binB, c_un, c_i2i, c_i2f, c_f2i, c_s2b, c_b2s, c_strId, c_mkfunc, c_mkslice, c_slice, c_sliceStr, c_fieldAddr, c_field, c_indexSl, c_indexArr, c_elemArr, c_indexStr, c_extract, c_lenStr, c_lenSl, c_append, c_real, c_imag, c_complex, c_min, c_max, c_clear, hlen, h1, h2, h15, h16, h17, List.length_map, hc', hixa, hixb, hga, hgb, hcall, hwr, Bool.true_and]
      refine ex_imp (key _ _ ?_ ?_ ?_ ?_ ?_ ?_) ?_
      iterate 6 simp only [gs_same, gs_ne, List.length_set, Nat.reduceLT, Nat.reduceEqDiff, not_false_eq_true, hlen, h1, h2, h15, h16]
      rintro e tm' H' ⟨a1, ⟨M, rfl⟩, a3⟩
      exact ⟨a1, ⟨_, List.append_assoc ..⟩, a3⟩
    | false =>
      simp only [b75_0, x_seq, x_block, x_skip, x_label, x_cond, x_exit, x_goto, x_ret, k_normal, k_exit, k_goto, k_ret, b_normal, b_exit, b_goto, b_ret, wantedA, aop, ev, putA, List.length_cons, List.length_nil, List.replicate, List.cons_append, List.nil_append, List.append_nil, List.append_assoc, gs_same, gs_ne, gq_same, gq_ne, List.length_set, List.map_cons, List.map_nil, cellsOf, List.all_cons, List.all_nil, cellOk, boxTy, Bool.and_true, Bool.and_self, if_true, ite_true, ite_false, loadAt, storeAt, setAt, hget, hget0, hset, hset0, List.getElem?_cons_zero, List.getElem?_cons_succ, List.set_cons_zero, List.set_cons_succ, Nat.add_zero, Nat.zero_add, Nat.reduceAdd, Nat.reduceSub, Nat.reduceLeDiff, Nat.reduceLT, Nat.reduceEqDiff, Nat.le_refl, and_self, and_true, true_and, mkAgg, toIms, List.drop_zero, List.drop_succ_cons, List.take_succ_cons, List.take_zero, List.length_append, binBool, unA, Bool.false_eq_true, if_false, partA, fillA, fillE, List.take_nil, Nat.zero_ne_one, Nat.one_ne_zero, not_false_eq_true, ne_eq, Nat.succ_ne_self, reduceCtorEq, Int.reduceEq, Int.reduceLT, Int.reduceLE, decide_true, decide_false, lenA, beq_self_eq_true, beq_true, beq_false, Bool.not_true, Bool.not_false, b_lss, b_gtr, b_leq, b_geq, b_eql, b_neq, b_add, b_sub, b_mul, s_eql, s_neq, y_ops, y_nil, y_cons, y_guard, y_some, y_drop, y_do, y_not, y_not0, c_call, c_clo, c_move, c_pick, c_alloc, c_box, c_build, c_bslice, c_load, c_store, c_nilCheck, c_bin, c_binB, c_un, c_i2i, c_i2f, c_f2i, c_s2b, c_b2s, c_strId, c_mkfunc, c_mkslice, c_slice, c_sliceStr, c_fieldAddr, c_field, c_indexSl, c_indexArr, c_elemArr, c_indexStr, c_extract, c_lenStr, c_lenSl, c_append, c_real, c_imag, c_complex, c_min, c_max, c_clear, hlen, h1, h2, h15, h16, h17, List.length_map, hc', hixa, hixb, hga, hgb, hcall, hwr, Bool.false_and]
      exact ⟨_, _, _, rfl, by simp only [List.length_set, hlen], ⟨_, rfl⟩, by simp only [gs_same, gs_ne, List.length_set, Nat.reduceLT, Nat.reduceEqDiff, not_false_eq_true, hlen, true_and, and_true, and_self, or_true]⟩

theorem s75 (xs ys : List KT) (s s' : Nat) (hs : xs = [] ∨ s = 2) (hs' : ys = [] ∨ s' = 2) (hn : xs.length ≤ 9223372036854775807) (g : FuncId)
    (hc : ∀ a ∈ xs, ∀ b ∈ ys, ∀ H, L g [.im (.agg (encT a)), .im (.agg (encT b))] H = some (.im (.bool (sameT a b)), H)) (H : Heap) :
    L 75 [.im (.sl s (xs.map encT)), .im (.sl s' (ys.map encT)), .clo g []] H = some (.im (.bool (decide (xs.length = ys.length) && sameTs xs ys)), H) := by
  rw [leq F75]
  obtain ⟨hlen, hg⟩ := enter_at (f := f75) (args := [.im (.sl s (xs.map encT)), .im (.sl s' (ys.map encT)), .clo g []]) (Nat.le_of_ble_eq_true rfl)
  have h0 := hg 0 _ rfl
  have h1 := hg 1 _ rfl
  have h2 := hg 2 _ rfl
  generalize enterA f75 [.im (.sl s (xs.map encT)), .im (.sl s' (ys.map encT)), .clo g []] = tm at *
  change tm.length = 32 at hlen
  by_cases hl : xs.length = ys.length
  · have hdl : decide ((xs.length : Int) = (ys.length : Int)) = true := decide_eq_true (by omega)
    have hdl' : decide (xs.length = ys.length) = true := decide_eq_true hl
    have key := l75 xs ys s s' hs hs' hl hn g hc xs.length 0 (by omega)
    have z : ((0 : Nat) : Int) = 0 := rfl
    simp only [z, List.drop_zero] at key
    simp only [f75, e75_0, x_seq, x_block, x_skip, x_label, x_cond, x_exit, x_goto, x_ret, k_normal, k_exit, k_goto, k_ret, b_normal, b_exit, b_goto, b_ret, wantedA, aop, ev, putA, List.length_cons, List.length_nil, List.replicate, List.cons_append, List.nil_append, List.append_nil, List.append_assoc, gs_same, gs_ne, gq_same, gq_ne, List.length_set, List.map_cons, List.map_nil, cellsOf, List.all_cons, List.all_nil, cellOk, boxTy, Bool.and_true, Bool.and_self, if_true, ite_true, ite_false, loadAt, storeAt, setAt, hget, hget0, hset, hset0, List.getElem?_cons_zero, List.getElem?_cons_succ, List.set_cons_zero, List.set_cons_succ, Nat.add_zero, Nat.zero_add, Nat.reduceAdd, Nat.reduceSub, Nat.reduceLeDiff, Nat.reduceLT, Nat.reduceEqDiff, Nat.le_refl, and_self, and_true, true_and, mkAgg, toIms, List.drop_zero, List.drop_succ_cons, List.take_succ_cons, List.take_zero, List.length_append, binBool, unA, Bool.false_eq_true, if_false, partA, fillA, fillE, List.take_nil, Nat.zero_ne_one, Nat.one_ne_zero, not_false_eq_true, ne_eq, Nat.succ_ne_self, reduceCtorEq, Int.reduceEq, Int.reduceLT, Int.reduceLE, decide_true, decide_false, lenA, beq_self_eq_true, beq_true, beq_false, Bool.not_true, Bool.not_false, b_lss, b_gtr, b_leq, b_geq, b_eql, b_neq, b_add, b_sub, b_mul, s_eql, s_neq, y_ops, y_nil, y_cons, y_guard, y_some, y_drop, y_do, y_not, y_not0, c_call, c_clo, c_move, c_pick, c_alloc, c_box, c_build, c_bslice, c_load, c_store, c_nilCheck, c_bin, c_binB, c_un, c_i2i, c_i2f, c_f2i, c_s2b, c_b2s, c_strId, c_mkfunc, c_mkslice, c_slice, c_sliceStr, c_fieldAddr, c_field, c_indexSl, c_indexArr, c_elemArr, c_indexStr, c_extract, c_lenStr, c_lenSl, c_append, c_real, c_imag, c_complex, c_min, c_max, c_clear, hlen, h0, h1, h2, List.length_map, hdl, hdl', Bool.true_and]
    generalize hr : thenL _ _ = r
    refine Exists.elim (thenL_inv hr (key _ _ ?_ ?_ ?_ ?_ ?_ ?_)) ?_
    iterate 6 simp only [gs_same, gs_ne, List.length_set, Nat.reduceLT, Nat.reduceEqDiff, not_false_eq_true, hlen, h1, h2]
    clear hr key
    rintro e ⟨tm1, H1, ⟨hl1, ⟨M, rfl⟩, hm⟩, rfl⟩
    rcases hm with ⟨he, rfl⟩ | ⟨he, rfl, g4⟩
    · rw [he]
      simp only [x_seq, x_block, x_skip, x_label, x_cond, x_exit, x_goto, x_ret, k_normal, k_exit, k_goto, k_ret, b_normal, b_exit, b_goto, b_ret, wantedA, aop, ev, putA, List.length_cons, List.length_nil, List.replicate, List.cons_append, List.nil_append, List.append_nil, List.append_assoc, gs_same, gs_ne, gq_same, gq_ne, List.length_set, List.map_cons, List.map_nil, cellsOf, List.all_cons, List.all_nil, cellOk, boxTy, Bool.and_true, Bool.and_self, if_true, ite_true, ite_false, loadAt, storeAt, setAt, hget, hget0, hset, hset0, List.getElem?_cons_zero, List.getElem?_cons_succ, List.set_cons_zero, List.set_cons_succ, Nat.add_zero, Nat.zero_add, Nat.reduceAdd, Nat.reduceSub, Nat.reduceLeDiff, Nat.reduceLT, Nat.reduceEqDiff, Nat.le_refl, and_self, and_true, true_and, mkAgg, toIms, List.drop_zero, List.drop_succ_cons, List.take_succ_cons, List.take_zero, List.length_append, binBool, unA, Bool.false_eq_true, if_false, partA, fillA, fillE, List.take_nil, Nat.zero_ne_one, Nat.one_ne_zero, not_false_eq_true, ne_eq, Nat.succ_ne_self, reduceCtorEq, Int.reduceEq, Int.reduceLT, Int.reduceLE, decide_true, decide_false, lenA, beq_self_eq_true, beq_true, beq_false, Bool.not_true, Bool.not_false, b_lss, b_gtr, b_leq, b_geq, b_eql, b_neq, b_add, b_sub, b_mul, s_eql, s_neq, y_ops, y_nil, y_cons, y_guard, y_some, y_drop, y_do, y_not, y_not0, c_call, c_clo, c_move, c_pick, c_alloc, c_box, c_build, c_bslice, c_load, c_store, c_nilCheck, c_bin, c_binB, c_un, c_i2i, c_i2f, c_f2i, c_s2b, c_b2s, c_strId, c_mkfunc, c_mkslice, c_slice, c_sliceStr, c_fieldAddr, c_field, c_indexSl, c_indexArr, c_elemArr, c_indexStr, c_extract, c_lenStr, c_lenSl, c_append, c_real, c_imag, c_complex, c_min, c_max, c_clear, endK, resA, tupA, hl1, leave_app]
    · rw [he]
      simp only [x_seq, x_block, x_skip, x_label, x_cond, x_exit, x_goto, x_ret, k_normal, k_exit, k_goto, k_ret, b_normal, b_exit, b_goto, b_ret, wantedA, aop, ev, putA, List.length_cons, List.length_nil, List.replicate, List.cons_append, List.nil_append, List.append_nil, List.append_assoc, gs_same, gs_ne, gq_same, gq_ne, List.length_set, List.map_cons, List.map_nil, cellsOf, List.all_cons, List.all_nil, cellOk, boxTy, Bool.and_true, Bool.and_self, if_true, ite_true, ite_false, loadAt, storeAt, setAt, hget, hget0, hset, hset0, List.getElem?_cons_zero, List.getElem?_cons_succ, List.set_cons_zero, List.set_cons_succ, Nat.add_zero, Nat.zero_add, Nat.reduceAdd, Nat.reduceSub, Nat.reduceLeDiff, Nat.reduceLT, Nat.reduceEqDiff, Nat.le_refl, and_self, and_true, true_and, mkAgg, toIms, List.drop_zero, List.drop_succ_cons, List.take_succ_cons, List.take_zero, List.length_append, binBool, unA, Bool.false_eq_true, if_false, partA, fillA, fillE, List.take_nil, Nat.zero_ne_one, Nat.one_ne_zero, not_false_eq_true, ne_eq, Nat.succ_ne_self, reduceCtorEq, Int.reduceEq, Int.reduceLT, Int.reduceLE, decide_true, decide_false, lenA, beq_self_eq_true, beq_true, beq_false, Bool.not_true, Bool.not_false, b_lss, b_gtr, b_leq, b_geq, b_eql, b_neq, b_add, b_sub, b_mul, s_eql, s_neq, y_ops, y_nil, y_cons, y_guard, y_some, y_drop, y_do, y_not, y_not0, c_call, c_clo, c_move, c_pick, c_alloc, c_box, c_build, c_bslice, c_load, c_store, c_nilCheck, c_bin, c_binB, c_un, c_i2i, c_i2f, c_f2i, c_s2b, c_b2s, c_strId, c_mkfunc, c_mkslice, c_slice, c_sliceStr, c_fieldAddr, c_field, c_indexSl, c_indexArr, c_elemArr, c_indexStr, c_extract, c_lenStr, c_lenSl, c_append, c_real, c_imag, c_complex, c_min, c_max, c_clear, endK, resA, tupA, hl1, g4, leave_app]
  · have hdl : decide ((xs.length : Int) = (ys.length : Int)) = false := decide_eq_false (by omega)
    have hdl' : decide (xs.length = ys.length) = false := decide_eq_false hl
    simp only [f75, x_seq, x_block, x_skip, x_label, x_cond, x_exit, x_goto, x_ret, k_normal, k_exit, k_goto, k_ret, b_normal, b_exit, b_goto, b_ret, wantedA, aop, ev, putA, List.length_cons, List.length_nil, List.replicate, List.cons_append, List.nil_append, List.append_nil, List.append_assoc, gs_same, gs_ne, gq_same, gq_ne, List.length_set, List.map_cons, List.map_nil, cellsOf, List.all_cons, List.all_nil, cellOk, boxTy, Bool.and_true, Bool.and_self, if_true, ite_true, ite_false, loadAt, storeAt, setAt, hget, hget0, hset, hset0, List.getElem?_cons_zero, List.getElem?_cons_succ, List.set_cons_zero, List.set_cons_succ, Nat.add_zero, Nat.zero_add, Nat.reduceAdd, Nat.reduceSub, Nat.reduceLeDiff, Nat.reduceLT, Nat.reduceEqDiff, Nat.le_refl, and_self, and_true, true_and, mkAgg, toIms, List.drop_zero, List.drop_succ_cons, List.take_succ_cons, List.take_zero, List.length_append, binBool, unA, Bool.false_eq_true, if_false, partA, fillA, fillE, List.take_nil, Nat.zero_ne_one, Nat.one_ne_zero, not_false_eq_true, ne_eq, Nat.succ_ne_self, reduceCtorEq, Int.reduceEq, Int.reduceLT, Int.reduceLE, decide_true, decide_false, lenA, beq_self_eq_true, beq_true, beq_false, Bool.not_true, Bool.not_false, b_lss, b_gtr, b_leq, b_geq, b_eql, b_neq, b_add, b_sub, b_mul, s_eql, s_neq, y_ops, y_nil, y_cons, y_guard, y_some, y_drop, y_do, y_not, y_not0, c_call, c_clo, c_move, c_pick, c_alloc, c_box, c_build, c_bslice, c_load, c_store, c_nilCheck, c_bin, c_binB, c_un, c_i2i, c_i2f, c_f2i, c_s2b, c_b2s, c_strId, c_mkfunc, c_mkslice, c_slice, c_sliceStr, c_fieldAddr, c_field, c_indexSl, c_indexArr, c_elemArr, c_indexStr, c_extract, c_lenStr, c_lenSl, c_append, c_real, c_imag, c_complex, c_min, c_max, c_clear, endK, resA, tupA, hlen, h0, h1, h2, List.length_map, hdl, hdl', Bool.false_and, leave_same]

theorem s50 : ∀ (a b : KT), okT a → okT b → ∀ H, L 50 [.im (.agg (encT a)), .im (.agg (encT b))] H = some (.im (.bool (sameT a b)), H)
  | .mk ka s xs, .mk kb s' ys, ha, hb, H => by
    simp only [okT] at ha hb
    obtain ⟨hs, hn, hoa⟩ := ha
    obtain ⟨hs', hn', hob⟩ := hb
    have hc : ∀ a ∈ xs, ∀ b ∈ ys, ∀ H, L 50 [.im (.agg (encT a)), .im (.agg (encT b))] H = some (.im (.bool (sameT a b)), H) := fun a ha b hb H => s50 a b (okTs_mem hoa a ha) (okTs_mem hob b hb) H
    have h75 := s75 xs ys s s' hs hs' hn 50 hc
    simp only [encT, encTs_map, sameT]
    rw [leq F50]
    obtain ⟨hlen, hg⟩ := enter_at (f := f50) (args := [.im (.agg [.int .i64 ka, .sl s (xs.map encT)]), .im (.agg [.int .i64 kb, .sl s' (ys.map encT)])]) (Nat.le_of_ble_eq_true rfl)
    have h0 := hg 0 _ rfl
    have h1 := hg 1 _ rfl
    generalize enterA f50 [.im (.agg [.int .i64 ka, .sl s (xs.map encT)]), .im (.agg [.int .i64 kb, .sl s' (ys.map encT)])] = tm at *
    change tm.length = 17 at hlen
    by_cases hk : ka = kb
    · have hdk : decide (ka = kb) = true := decide_eq_true hk
      simp only [f50, x_seq, x_block, x_skip, x_label, x_cond, x_exit, x_goto, x_ret, k_normal, k_exit, k_goto, k_ret, b_normal, b_exit, b_goto, b_ret, wantedA, aop, ev, putA, List.length_cons, List.length_nil, List.replicate, List.cons_append, List.nil_append, List.append_nil, List.append_assoc, gs_same, gs_ne, gq_same, gq_ne, List.length_set, List.map_cons, List.map_nil, cellsOf, List.all_cons, List.all_nil, cellOk, boxTy, Bool.and_true, Bool.and_self, if_true, ite_true, ite_false, loadAt, storeAt, setAt, hget, hget0, hset, hset0, List.getElem?_cons_zero, List.getElem?_cons_succ, List.set_cons_zero, List.set_cons_succ, Nat.add_zero, Nat.zero_add, Nat.reduceAdd, Nat.reduceSub, Nat.reduceLeDiff, Nat.reduceLT, Nat.reduceEqDiff, Nat.le_refl, and_self, and_true, true_and, mkAgg, toIms, List.drop_zero, List.drop_succ_cons, List.take_succ_cons, List.take_zero, List.length_append, binBool, unA, Bool.false_eq_true, if_false, partA, fillA, fillE, List.take_nil, Nat.zero_ne_one, Nat.one_ne_zero, not_false_eq_true, ne_eq, Nat.succ_ne_self, reduceCtorEq, Int.reduceEq, Int.reduceLT, Int.reduceLE, decide_true, decide_false, lenA, beq_self_eq_true, beq_true, beq_false, Bool.not_true, Bool.not_false, b_lss, b_gtr, b_leq, b_geq, b_eql, b_neq, b_add, b_sub, b_mul, s_eql, s_neq, y_ops, y_nil, y_cons, y_guard, y_some, y_drop, y_do, y_not, y_not0, c_call, c_clo, c_move, c_pick, c_alloc, c_box, c_build, c_bslice, c_load, c_store, c_nilCheck, c_bin, c_binB, c_un, c_i2i, c_i2f, c_f2i, c_s2b, c_b2s, c_strId, c_mkfunc, c_mkslice, c_slice, c_sliceStr, c_fieldAddr, c_field, c_indexSl, c_indexArr, c_elemArr, c_indexStr, c_extract, c_lenStr, c_lenSl, c_append, c_real, c_imag, c_complex, c_min, c_max, c_clear, endK, resA, tupA, hlen, h0, h1, hdk, h75, Bool.true_and, leave_app]
    · have hdk : decide (ka = kb) = false := decide_eq_false hk
      simp only [f50, x_seq, x_block, x_skip, x_label, x_cond, x_exit, x_goto, x_ret, k_normal, k_exit, k_goto, k_ret, b_normal, b_exit, b_goto, b_ret, wantedA, aop, ev, putA, List.length_cons, List.length_nil, List.replicate, List.cons_append, List.nil_append, List.append_nil, List.append_assoc, gs_same, gs_ne, gq_same, gq_ne, List.length_set, List.map_cons, List.map_nil, cellsOf, List.all_cons, List.all_nil, cellOk, boxTy, Bool.and_true, Bool.and_self, if_true, ite_true, ite_false, loadAt, storeAt, setAt, hget, hget0, hset, hset0, List.getElem?_cons_zero, List.getElem?_cons_succ, List.set_cons_zero, List.set_cons_succ, Nat.add_zero, Nat.zero_add, Nat.reduceAdd, Nat.reduceSub, Nat.reduceLeDiff, Nat.reduceLT, Nat.reduceEqDiff, Nat.le_refl, and_self, and_true, true_and, mkAgg, toIms, List.drop_zero, List.drop_succ_cons, List.take_succ_cons, List.take_zero, List.length_append, binBool, unA, Bool.false_eq_true, if_false, partA, fillA, fillE, List.take_nil, Nat.zero_ne_one, Nat.one_ne_zero, not_false_eq_true, ne_eq, Nat.succ_ne_self, reduceCtorEq, Int.reduceEq, Int.reduceLT, Int.reduceLE, decide_true, decide_false, lenA, beq_self_eq_true, beq_true, beq_false, Bool.not_true, Bool.not_false, b_lss, b_gtr, b_leq, b_geq, b_eql, b_neq, b_add, b_sub, b_mul, s_eql, s_neq, y_ops, y_nil, y_cons, y_guard, y_some, y_drop, y_do, y_not, y_not0, c_call, c_clo, c_move, c_pick, c_alloc, c_box, c_build, c_bslice, c_load, c_store, c_nilCheck, c_bin, c_binB, c_un, c_i2i, c_i2f, c_f2i, c_s2b, c_b2s, c_strId, c_mkfunc, c_mkslice, c_slice, c_sliceStr, c_fieldAddr, c_field, c_indexSl, c_indexArr, c_elemArr, c_indexStr, c_extract, c_lenStr, c_lenSl, c_append, c_real, c_imag, c_complex, c_min, c_max, c_clear, endK, resA, tupA, hlen, h0, h1, hdk, Bool.false_and, leave_app]
termination_by a => SizeOf.sizeOf a
decreasing_by
  have := List.sizeOf_lt_of_mem ha
  simp only [KT.mk.sizeOf_spec]
  omega

/-- kind.Same. -/
theorem s18 (a b : KT) (ha : okT a) (hb : okT b) (H : Heap) : L 18 [.im (.agg (encT a)), .im (.agg (encT b))] H = some (.im (.bool (rightT a 6 && (rightT b 6 && sameT a b))), H) := by
  have h19a := fun H => s19 a ha H
  have h19b := fun H => s19 b hb H
  have h50 := s50 a b ha hb
  simp only [checkT] at h19a h19b
  generalize rightT a 6 = ra at *
  generalize rightT b 6 = rb at *
  generalize sameT a b = sab at *
  obtain ⟨k1, s1, ts1⟩ := a
  obtain ⟨k2, s2, ts2⟩ := b
  simp only [encT] at h19a h19b h50 ⊢
  rw [leq F18]
  obtain ⟨hlen, hg⟩ := enter_at (f := f18) (args := [.im (.agg [.int .i64 k1, .sl s1 (encTs ts1)]), .im (.agg [.int .i64 k2, .sl s2 (encTs ts2)])]) (Nat.le_of_ble_eq_true rfl)
  have h0 := hg 0 _ rfl
  have h1 := hg 1 _ rfl
  generalize enterA f18 [.im (.agg [.int .i64 k1, .sl s1 (encTs ts1)]), .im (.agg [.int .i64 k2, .sl s2 (encTs ts2)])] = tm at *
  change tm.length = 18 at hlen
  cases ra with
  | true =>
    cases rb with
    | true =>
      simp only [if_true] at h19a h19b
      simp only [f18, x_seq, x_block, x_skip, x_label, x_cond, x_exit, x_goto, x_ret, k_normal, k_exit, k_goto, k_ret, b_normal, b_exit, b_goto, b_ret, wantedA, aop, ev, putA, List.length_cons, List.length_nil, List.replicate, List.cons_append, List.nil_append, List.append_nil, List.append_assoc, gs_same, gs_ne, gq_same, gq_ne, List.length_set, List.map_cons, List.map_nil, cellsOf, List.all_cons, List.all_nil, cellOk, boxTy, Bool.and_true, Bool.and_self, if_true, ite_true, ite_false, loadAt, storeAt, setAt, hget, hget0, hset, hset0, List.getElem?_cons_zero, List.getElem?_cons_succ, List.set_cons_zero, List.set_cons_succ, Nat.add_zero, Nat.zero_add, Nat.reduceAdd, Nat.reduceSub, Nat.reduceLeDiff, Nat.reduceLT, Nat.reduceEqDiff, Nat.le_refl, and_self, and_true, true_and, mkAgg, toIms, List.drop_zero, List.drop_succ_cons, List.take_succ_cons, List.take_zero, List.length_append, binBool, unA, Bool.false_eq_true, if_false, partA, fillA, fillE, List.take_nil, Nat.zero_ne_one, Nat.one_ne_zero, not_false_eq_true, ne_eq, Nat.succ_ne_self, reduceCtorEq, Int.reduceEq, Int.reduceLT, Int.reduceLE, decide_true, decide_false, lenA, beq_self_eq_true, beq_true, beq_false, Bool.not_true, Bool.not_false, b_lss, b_gtr, b_leq, b_geq, b_eql, b_neq, b_add, b_sub, b_mul, s_eql, s_neq, y_ops, y_nil, y_cons, y_guard, y_some, y_drop, y_do, y_not, y_not0, c_call, c_clo, c_move, c_pick, c_alloc, c_box, c_build, c_bslice, c_load, c_store, c_nilCheck, c_bin, c_binB, c_un, c_i2i, c_i2f, c_f2i, c_s2b, c_b2s, c_strId, c_mkfunc, c_mkslice, c_slice, c_sliceStr, c_fieldAddr, c_field, c_indexSl, c_indexArr, c_elemArr, c_indexStr, c_extract, c_lenStr, c_lenSl, c_append, c_real, c_imag, c_complex, c_min, c_max, c_clear, endK, resA, tupA, hlen, h0, h1, h19a, h19b, h50, leave_app, Bool.true_and]
    | false =>
      simp only [if_true, Bool.false_eq_true, if_false] at h19a h19b
      simp only [f18, x_seq, x_block, x_skip, x_label, x_cond, x_exit, x_goto, x_ret, k_normal, k_exit, k_goto, k_ret, b_normal, b_exit, b_goto, b_ret, wantedA, aop, ev, putA, List.length_cons, List.length_nil, List.replicate, List.cons_append, List.nil_append, List.append_nil, List.append_assoc, gs_same, gs_ne, gq_same, gq_ne, List.length_set, List.map_cons, List.map_nil, cellsOf, List.all_cons, List.all_nil, cellOk, boxTy, Bool.and_true, Bool.and_self, if_true, ite_true, ite_false, loadAt, storeAt, setAt, hget, hget0, hset, hset0, List.getElem?_cons_zero, List.getElem?_cons_succ, List.set_cons_zero, List.set_cons_succ, Nat.add_zero, Nat.zero_add, Nat.reduceAdd, Nat.reduceSub, Nat.reduceLeDiff, Nat.reduceLT, Nat.reduceEqDiff, Nat.le_refl, and_self, and_true, true_and, mkAgg, toIms, List.drop_zero, List.drop_succ_cons, List.take_succ_cons, List.take_zero, List.length_append, binBool, unA, Bool.false_eq_true, if_false, partA, fillA, fillE, List.take_nil, Nat.zero_ne_one, Nat.one_ne_zero, not_false_eq_true, ne_eq, Nat.succ_ne_self, reduceCtorEq, Int.reduceEq, Int.reduceLT, Int.reduceLE, decide_true, decide_false, lenA, beq_self_eq_true, beq_true, beq_false, Bool.not_true, Bool.not_false, b_lss, b_gtr, b_leq, b_geq, b_eql, b_neq, b_add, b_sub, b_mul, s_eql, s_neq, y_ops, y_nil, y_cons, y_guard, y_some, y_drop, y_do, y_not, y_not0, c_call, c_clo, c_move, c_pick, c_alloc, c_box, c_build, c_bslice, c_load, c_store, c_nilCheck, c_bin, c_binB, c_un, c_i2i, c_i2f, c_f2i, c_s2b, c_b2s, c_strId, c_mkfunc, c_mkslice, c_slice, c_sliceStr, c_fieldAddr, c_field, c_indexSl, c_indexArr, c_elemArr, c_indexStr, c_extract, c_lenStr, c_lenSl, c_append, c_real, c_imag, c_complex, c_min, c_max, c_clear, endK, resA, tupA, hlen, h0, h1, h19a, h19b, leave_app, Bool.true_and, Bool.false_and]
  | false =>
    simp only [Bool.false_eq_true, if_false] at h19a
    simp only [f18, x_seq, x_block, x_skip, x_label, x_cond, x_exit, x_goto, x_ret, k_normal, k_exit, k_goto, k_ret, b_normal, b_exit, b_goto, b_ret, wantedA, aop, ev, putA, List.length_cons, List.length_nil, List.replicate, List.cons_append, List.nil_append, List.append_nil, List.append_assoc, gs_same, gs_ne, gq_same, gq_ne, List.length_set, List.map_cons, List.map_nil, cellsOf, List.all_cons, List.all_nil, cellOk, boxTy, Bool.and_true, Bool.and_self, if_true, ite_true, ite_false, loadAt, storeAt, setAt, hget, hget0, hset, hset0, List.getElem?_cons_zero, List.getElem?_cons_succ, List.set_cons_zero, List.set_cons_succ, Nat.add_zero, Nat.zero_add, Nat.reduceAdd, Nat.reduceSub, Nat.reduceLeDiff, Nat.reduceLT, Nat.reduceEqDiff, Nat.le_refl, and_self, and_true, true_and, mkAgg, toIms, List.drop_zero, List.drop_succ_cons, List.take_succ_cons, List.take_zero, List.length_append, binBool, unA, Bool.false_eq_true, if_false, partA, fillA, fillE, List.take_nil, Nat.zero_ne_one, Nat.one_ne_zero, not_false_eq_true, ne_eq, Nat.succ_ne_self, reduceCtorEq, Int.reduceEq, Int.reduceLT, Int.reduceLE, decide_true, decide_false, lenA, beq_self_eq_true, beq_true, beq_false, Bool.not_true, Bool.not_false, b_lss, b_gtr, b_leq, b_geq, b_eql, b_neq, b_add, b_sub, b_mul, s_eql, s_neq, y_ops, y_nil, y_cons, y_guard, y_some, y_drop, y_do, y_not, y_not0, c_call, c_clo, c_move, c_pick, c_alloc, c_box, c_build, c_bslice, c_load, c_store, c_nilCheck, c_bin, c_binB, c_un, c_i2i, c_i2f, c_f2i, c_s2b, c_b2s, c_strId, c_mkfunc, c_mkslice, c_slice, c_sliceStr, c_fieldAddr, c_field, c_indexSl, c_indexArr, c_elemArr, c_indexStr, c_extract, c_lenStr, c_lenSl, c_append, c_real, c_imag, c_complex, c_min, c_max, c_clear, endK, resA, tupA, hlen, h0, h1, h19a, leave_app, Bool.false_and]

end Go.Abs.Seat
end
section
/- The law KindParses, the plain part: both readings of a text are one. -/
set_option linter.unusedVariables false
set_option linter.unusedSimpArgs false
namespace Go.Abs.Seat
open Go.Proofs

theorem lcp_ge : ∀ (n : Nat) (w r : List UInt8), n ≤ lcp w r ↔ (w.take n = r.take n ∧ n ≤ w.length ∧ n ≤ r.length)
  | 0, w, r => by simp
  | n + 1, [], r => by cases r <;> simp [lcp]
  | n + 1, a :: w, [] => by simp [lcp]
  | n + 1, a :: w, b :: r => by
    have := lcp_ge n w r
    simp only [lcp, List.take_succ_cons, List.cons.injEq, List.length_cons]
    by_cases h : b = a
    · rw [if_pos h]
      constructor
      · intro h1
        obtain ⟨h2, h3, h4⟩ := this.1 (by omega)
        exact ⟨⟨h.symm, h2⟩, by omega, by omega⟩
      · rintro ⟨⟨_, h2⟩, h3, h4⟩
        have := this.2 ⟨h2, by omega, by omega⟩
        omega
    · rw [if_neg h]
      constructor
      · intro h1; omega
      · rintro ⟨⟨h2, _⟩, _⟩; exact absurd h2.symm h

theorem begB_prefix {w r : List UInt8} : begB w r = true ↔ w <+: r := by
  unfold begB
  rw [List.prefix_iff_eq_take, Bool.and_eq_true, decide_eq_true_eq, decide_eq_true_eq]
  constructor
  · rintro ⟨_, h⟩; exact h.symm
  · intro h
    refine ⟨?_, h.symm⟩
    have := congrArg List.length h
    simp at this
    omega

theorem take_more {w r : List UInt8} {n : Nat} {c : UInt8} (hr : r[n]? = some c) : w.take (n + 1) = r.take (n + 1) ↔ (w.take n = r.take n ∧ w[n]? = some c) := by
  have hn := (List.getElem?_eq_some_iff.1 hr).1
  rw [List.take_add_one, List.take_add_one, hr]
  constructor
  · intro h
    cases hw : w[n]? with
    | none =>
      rw [hw] at h
      have := congrArg List.length h
      simp at this
      omega
    | some x =>
      rw [hw] at h
      have hwn := (List.getElem?_eq_some_iff.1 hw).1
      obtain ⟨h1, h2⟩ := List.append_inj h (by simp; omega)
      simp at h2
      exact ⟨h1, by rw [h2]⟩
  · rintro ⟨h1, h2⟩
    rw [h1, h2]

theorem wordGo_spec (M : List Word) (r : List UInt8) : ∀ (k n : Nat) (may : List Word), may = M.filter (fun w => decide (w.2.1.take n = r.take n)) → may ≠ [] → (∀ w ∈ may, n ≤ w.2.1.length ∧ w.2.1.length ≤ n + k) → n ≤ r.length → (∀ w ∈ M, w.2.1 <+: r → n ≤ w.2.1.length) →
    match wordGo r k may n with
    | (n', some w) => w ∈ M ∧ w.2.1.length = n' ∧ w.2.1 <+: r
    | (n', none) => (∀ w ∈ M, ¬ w.2.1 <+: r) ∧ (∀ w ∈ M, lcp w.2.1 r ≤ n') ∧ ∃ w ∈ M, n' ≤ lcp w.2.1 r
  | 0, n, may, hm, hne, hl, hn, hpre => by
    simp only [wordGo]
    cases hf : may.find? (fun w => decide (w.2.1.length = n)) with
    | some w =>
      have h1 := List.mem_of_find?_eq_some hf
      have h2 := List.find?_some hf
      rw [hm] at h1
      obtain ⟨h3, h4⟩ := List.mem_filter.1 h1
      simp only [decide_eq_true_eq] at h2 h4
      refine ⟨h3, h2, ?_⟩
      rw [List.prefix_iff_eq_take, h2, ← h4, ← h2, List.take_length]
    | none =>
      obtain ⟨w, hw⟩ := List.exists_mem_of_ne_nil _ hne
      have h1 := List.find?_eq_none.1 hf w hw
      have h2 := hl w hw
      simp at h1
      omega
  | k + 1, n, may, hm, hne, hl, hn, hpre => by
    simp only [wordGo]
    cases hf : may.find? (fun w => decide (w.2.1.length = n)) with
    | some w =>
      have h1 := List.mem_of_find?_eq_some hf
      have h2 := List.find?_some hf
      rw [hm] at h1
      obtain ⟨h3, h4⟩ := List.mem_filter.1 h1
      simp only [decide_eq_true_eq] at h2 h4
      refine ⟨h3, h2, ?_⟩
      rw [List.prefix_iff_eq_take, h2, ← h4, ← h2, List.take_length]
    | none =>
      have hno : ∀ w ∈ may, w.2.1.length ≠ n := fun w hw => by
        have := List.find?_eq_none.1 hf w hw
        simpa using this
      have hpre' : ∀ w ∈ M, w.2.1 <+: r → n + 1 ≤ w.2.1.length := by
        intro w hw hp
        have h1 := hpre w hw hp
        by_cases he : w.2.1.length = n
        · have : w ∈ may := by
            rw [hm, List.mem_filter]
            refine ⟨hw, decide_eq_true ?_⟩
            rw [List.prefix_iff_eq_take] at hp
            rw [← he, List.take_length]
            exact hp
          exact absurd he (hno w this)
        · omega
      have hex : ∃ w ∈ M, n ≤ lcp w.2.1 r := by
        obtain ⟨w, hw⟩ := List.exists_mem_of_ne_nil _ hne
        have h2 := hl w hw
        rw [hm] at hw
        obtain ⟨h3, h4⟩ := List.mem_filter.1 hw
        exact ⟨w, h3, (lcp_ge n w.2.1 r).2 ⟨of_decide_eq_true h4, h2.1, hn⟩⟩
      cases hr : r[n]? with
      | none =>
        have hrn : r.length ≤ n := List.getElem?_eq_none_iff.1 hr
        refine ⟨fun w hw hp => ?_, fun w hw => ?_, hex⟩
        · have h1 := hpre' w hw hp
          have := hp.length_le
          omega
        · have := (lcp_le w.2.1 r).1
          omega
      | some c =>
        have hrn := (List.getElem?_eq_some_iff.1 hr).1
        have hm' : may.filter (fun w => decide (w.2.1[n]? = some c)) = M.filter (fun w => decide (w.2.1.take (n + 1) = r.take (n + 1))) := by
          rw [hm, List.filter_filter]
          congr 1
          funext w
          rw [Bool.eq_iff_iff]
          simp only [Bool.and_eq_true, decide_eq_true_eq]
          rw [take_more hr]
          exact ⟨fun h => ⟨h.2, h.1⟩, fun h => ⟨h.2, h.1⟩⟩
        simp only
        by_cases he : may.filter (fun w => decide (w.2.1[n]? = some c)) = []
        · rw [if_pos he]
          rw [hm'] at he
          have hnone : ∀ w ∈ M, w.2.1.take (n + 1) ≠ r.take (n + 1) := fun w hw h => by
            have := List.filter_eq_nil_iff.1 he w hw
            simp [h] at this
          refine ⟨fun w hw hp => ?_, fun w hw => ?_, hex⟩
          · have h1 := hpre' w hw hp
            apply hnone w hw
            obtain ⟨t, rfl⟩ := hp
            rw [List.take_append_of_le_length h1]
          · by_cases h : lcp w.2.1 r ≤ n
            · exact h
            · exact absurd ((lcp_ge (n + 1) w.2.1 r).1 (by omega)).1 (hnone w hw)
        · rw [if_neg he]
          refine wordGo_spec M r k (n + 1) _ hm' he ?_ hrn hpre'
          intro w hw
          have h1 := (List.mem_filter.1 hw).1
          have h2 := hl w h1
          have h3 := hno w h1
          omega

theorem bestL_ge (d : Int) (r : List UInt8) : ∀ (l : List Int) (b : Nat), b ≤ bestL d r l b ∧ ∀ kd ∈ l, skipK d kd = false → lcp (wordK kd) r ≤ bestL d r l b
  | [], b => ⟨Nat.le_refl _, by simp⟩
  | kd :: l, b => by
    simp only [bestL]
    have h := fun b => bestL_ge d r l b
    cases hs : skipK d kd with
    | true =>
      simp only [if_true]
      refine ⟨(h b).1, fun x hx hsx => ?_⟩
      rcases List.mem_cons.1 hx with rfl | hx
      · rw [hs] at hsx; simp at hsx
      · exact (h b).2 x hx hsx
    | false =>
      simp only [Bool.false_eq_true, if_false]
      by_cases hlt : b < lcp (wordK kd) r
      · rw [if_pos hlt]
        have := h (lcp (wordK kd) r)
        refine ⟨by omega, fun x hx hsx => ?_⟩
        rcases List.mem_cons.1 hx with rfl | hx
        · exact this.1
        · exact this.2 x hx hsx
      · rw [if_neg hlt]
        have := h b
        refine ⟨this.1, fun x hx hsx => ?_⟩
        rcases List.mem_cons.1 hx with rfl | hx
        · omega
        · exact this.2 x hx hsx

theorem bestL_upto (d : Int) (r : List UInt8) (n : Nat) : ∀ (l : List Int) (b : Nat), b ≤ n → (∀ kd ∈ l, skipK d kd = false → lcp (wordK kd) r ≤ n) → bestL d r l b ≤ n
  | [], b, h, _ => h
  | kd :: l, b, h, hl => by
    simp only [bestL]
    apply bestL_upto d r n l
    · cases hs : skipK d kd with
      | true => simpa using h
      | false =>
        have := hl kd (by simp) hs
        simp only [Bool.false_eq_true, if_false]
        split
        · exact this
        · exact h
    · exact fun x hx => hl x (by simp [hx])

/-- The words and the kinds. -/
theorem kind_word : ∀ w ∈ words, w.1 ∈ kindsF 9 1 ∧ wordK w.1 = w.2.1 ∧ cntK w.1 = w.2.2 := by decide
theorem word_kind : ∀ kd ∈ kindsF 9 1, wordK kd = [] ∨ ∃ w ∈ words, w.1 = kd := by decide
theorem words_free : ∀ w ∈ words, ∀ v ∈ words, w.2.1 <+: v.2.1 → w = v := by decide
theorem words_full : ∀ w ∈ words, w.2.1 ≠ [] := by decide

theorem skip_word {d : Int} {w : Word} (hw : w ∈ words) : skipK d w.1 = outW d w := by
  obtain ⟨_, h1, h2⟩ := kind_word w hw
  unfold skipK outW
  rw [h1, h2, decide_eq_false (words_full w hw), Bool.false_or, Bool.and_comm]

theorem find_uniq {α : Type} {p : α → Bool} {x : α} : ∀ {l : List α}, x ∈ l → p x = true → (∀ y ∈ l, p y = true → y = x) → l.find? p = some x
  | [], h, _, _ => by simp at h
  | y :: l, h, hp, hu => by
    rw [List.find?_cons]
    cases hy : p y with
    | true => rw [hu y (by simp) hy]
    | false =>
      rcases List.mem_cons.1 h with rfl | h
      · rw [hp] at hy; simp at hy
      · exact find_uniq h hp fun z hz => hu z (by simp [hz])

theorem word_find (s : List UInt8) (k : Nat) (d : Int) : match word69 s k d with
    | (n, some w) => (kindsF 9 1).find? (okK d (s.drop k)) = some w.1 ∧ n = (wordK w.1).length ∧ w.2.2 = cntK w.1
    | (n, none) => (kindsF 9 1).find? (okK d (s.drop k)) = none ∧ n = bestL d (s.drop k) (kindsF 9 1) 0 := by
  have key := wordGo_spec (mayW d) (s.drop k) 8 0 (mayW d) (List.filter_eq_self.2 (fun w _ => by simp)).symm (mayW_ne d) (fun w hw => by have := word_len w (List.mem_filter.1 hw).1; omega) (Nat.zero_le _) (fun _ _ _ => Nat.zero_le _)
  unfold word69
  generalize s.drop k = r at *
  generalize wordGo r 8 (mayW d) 0 = q at *
  obtain ⟨n, ow⟩ := q
  have hmay : ∀ w, w ∈ mayW d ↔ w ∈ words ∧ skipK d w.1 = false := fun w => by
    simp only [mayW, List.mem_filter, Bool.not_eq_true']
    exact ⟨fun h => ⟨h.1, by rw [skip_word h.1]; exact h.2⟩, fun h => ⟨h.1, by rw [← skip_word h.1]; exact h.2⟩⟩
  have hok : ∀ kd ∈ kindsF 9 1, okK d r kd = true → ∃ w ∈ mayW d, w.1 = kd ∧ w.2.1 <+: r := by
    intro kd hkd ho
    simp only [okK, Bool.and_eq_true, Bool.not_eq_true'] at ho
    rcases word_kind kd hkd with h | ⟨w, hw, rfl⟩
    · have := ho.1
      simp [skipK, h] at this
    · refine ⟨w, (hmay w).2 ⟨hw, ho.1⟩, rfl, ?_⟩
      rw [← (kind_word w hw).2.1]
      exact begB_prefix.1 ho.2
  cases ow with
  | some w =>
    obtain ⟨h1, h2, h3⟩ := key
    obtain ⟨hw, hsk⟩ := (hmay w).1 h1
    obtain ⟨g1, g2, g3⟩ := kind_word w hw
    refine ⟨find_uniq g1 ?_ ?_, by rw [g2, h2], g3.symm⟩
    · simp only [okK, hsk, Bool.not_false, Bool.true_and]
      rw [g2]
      exact begB_prefix.2 h3
    · intro y hy hoy
      obtain ⟨v, hv, rfl, hvp⟩ := hok y hy hoy
      have hvw := ((hmay v).1 hv).1
      rcases List.prefix_or_prefix_of_prefix h3 hvp with h | h
      · rw [words_free w hw v hvw h]
      · rw [words_free v hvw w hw h]
  | none =>
    obtain ⟨h1, h2, h3⟩ := key
    refine ⟨?_, ?_⟩
    · rw [List.find?_eq_none]
      intro kd hkd ho
      obtain ⟨w, hw, _, hp⟩ := hok kd hkd ho
      exact h1 w hw hp
    · obtain ⟨w, hw, hn⟩ := h3
      obtain ⟨hww, hsk⟩ := (hmay w).1 hw
      obtain ⟨g1, g2, g3⟩ := kind_word w hww
      have ha := (bestL_ge d r (kindsF 9 1) 0).2 w.1 g1 hsk
      rw [g2] at ha
      have hb := bestL_upto d r n (kindsF 9 1) 0 (Nat.zero_le _) (fun kd hkd hs => by
        rcases word_kind kd hkd with h | ⟨v, hv, rfl⟩
        · simp [skipK, h] at hs
        · rw [(kind_word v hv).2.1]
          exact h2 v ((hmay v).2 ⟨hv, hs⟩))
      omega

/-- Two readings are one: the place, whether it is right, and then the type. -/
def Alike (a b : Nat × KT × Bool) : Prop := a.1 = b.1 ∧ a.2.2 = b.2.2 ∧ (a.2.2 = true → a.2.1 = b.2.1)

theorem readL_alike (s : List UInt8) (rd rd' : Nat → Nat × KT × Bool) (h : ∀ k, Alike (rd k) (rd' k)) : ∀ (m i k : Nat) (acc : List KT), readL rd s m i k acc = readL rd' s m i k acc
  | 0, i, k, acc => rfl
  | m + 1, i, k, acc => by
    obtain ⟨h1, h2, h3⟩ := h (k + 1)
    simp only [readL]
    split
    · rw [← h2]
      by_cases ho : (rd (k + 1)).2.2 = true
      · rw [if_pos ho, if_pos ho, h1, h3 ho]
        exact readL_alike s rd rd' h m (i + 1) _ _
      · rw [if_neg ho, if_neg ho, h1]
    · rfl

theorem read_scan (s : List UInt8) : ∀ (d k : Nat), Alike (readP s d k) (scanP s d k)
  | 0, k => ⟨rfl, rfl, fun _ => rfl⟩
  | d + 1, k => by
    have hw := word_find s k ((d : Int) + 1)
    simp only [readP, scanP]
    generalize word69 s k ((d : Int) + 1) = q at *
    obtain ⟨n, ow⟩ := q
    cases ow with
    | none =>
      obtain ⟨h1, h2⟩ := hw
      rw [h1, h2]
      exact ⟨rfl, rfl, fun _ => rfl⟩
    | some w =>
      obtain ⟨h1, h2, h3⟩ := hw
      rw [h1]
      simp only [scanK]
      rw [readL_alike s (readP s d) (scanP s d) (fun k => read_scan s d k), h2, h3]
      generalize readL (scanP s d) s (cntK w.1).toNat 0 (k + (wordK w.1).length) [] = q
      obtain ⟨k', ol⟩ := q
      cases ol with
      | none => exact ⟨rfl, rfl, fun _ => rfl⟩
      | some l =>
        simp only
        split
        · exact ⟨rfl, rfl, fun _ => rfl⟩
        · split
          · exact ⟨rfl, rfl, fun _ => rfl⟩
          · exact ⟨rfl, rfl, fun h => by simp at h⟩

end Go.Abs.Seat
end
section
/- The law KindParses. -/
set_option linter.unusedVariables false
set_option linter.unusedSimpArgs false
namespace Go.Abs.Seat
open Go.Proofs

mutual
theorem same_clone : ∀ t : KT, sameT (cloneT t) t = true
  | .mk k s args => by
    have hl : (cloneTs args).length = args.length := by rw [cloneTs_map]; simp
    simp only [cloneT, sameT, hl, same_clones args, decide_true, Bool.and_self]
theorem same_clones : ∀ l : List KT, sameTs (cloneTs l) l = true
  | [] => rfl
  | a :: l => by simp only [cloneTs, sameTs, same_clone a, same_clones l, Bool.and_self]
end

/-- A type as a reading makes it. -/
def goodT (t : KT) : Prop := okT t ∧ narrow t

theorem okTs_of : ∀ {l : List KT}, (∀ a ∈ l, okT a) → okTs l
  | [], _ => by simp only [okTs]
  | a :: l, h => by simp only [okTs]; exact ⟨h a (by simp), okTs_of fun x hx => h x (by simp [hx])⟩
theorem narrows_of : ∀ {l : List KT}, (∀ a ∈ l, narrow a) → narrows l
  | [], _ => by simp only [narrows]
  | a :: l, h => by simp only [narrows]; exact ⟨h a (by simp), narrows_of fun x hx => h x (by simp [hx])⟩

theorem good_mk (k : Int) (l : List KT) (hl : l.length ≤ 2) (h : ∀ a ∈ l, goodT a) : goodT (mkT k l) := by
  unfold goodT mkT
  simp only [okT, narrow]
  refine ⟨⟨?_, by omega, okTs_of fun a ha => (h a ha).1⟩, hl, narrows_of fun a ha => (h a ha).2⟩
  by_cases h0 : l.length = 0
  · left; exact List.length_eq_zero_iff.1 h0
  · right; rw [if_neg h0]

theorem good_zero : goodT zeroT := good_mk 0 [] (by simp) (by simp)

theorem readL_good (s : List UInt8) (rd : Nat → Nat × KT × Bool) (h : ∀ k, goodT (rd k).2.1) : ∀ (m i k : Nat) (acc l : List KT), (∀ a ∈ acc, goodT a) → (readL rd s m i k acc).2 = some l → (∀ a ∈ l, goodT a) ∧ l.length = acc.length + m
  | 0, i, k, acc, l, hacc, he => by
    simp only [readL, Option.some.injEq] at he
    subst he
    exact ⟨hacc, by omega⟩
  | m + 1, i, k, acc, l, hacc, he => by
    simp only [readL] at he
    split at he
    · split at he
      · have := readL_good s rd h m (i + 1) _ _ l (by
          intro a ha
          rcases List.mem_append.1 ha with ha | ha
          · exact hacc a ha
          · rw [List.mem_singleton.1 ha]; exact h _) he
        refine ⟨this.1, ?_⟩
        rw [this.2]
        simp
        omega
      · simp at he
    · simp at he

theorem readP_good (s : List UInt8) : ∀ (d k : Nat), goodT (readP s d k).2.1
  | 0, k => good_zero
  | d + 1, k => by
    have hmay : ∀ w, (word69 s k ((d : Int) + 1)).2 = some w → w ∈ words := fun w hw => by
      unfold word69 at hw
      by_cases hk : k ≤ s.length
      · exact (List.mem_filter.1 ((wordGo_some (s.drop k) 8 (mayW ((d : Int) + 1)) 0 (Nat.zero_le _)).2.2 w hw)).1
      · exact (List.mem_filter.1 ((wordGo_some (s.drop k) 8 (mayW ((d : Int) + 1)) 0 (Nat.zero_le _)).2.2 w hw)).1
    simp only [readP]
    generalize word69 s k ((d : Int) + 1) = q at *
    obtain ⟨n, ow⟩ := q
    cases ow with
    | none => exact good_zero
    | some w =>
      have hc := words_cnt w (hmay w rfl)
      simp only
      have hg := fun l => readL_good s (readP s d) (fun k => readP_good s d k) w.2.2.toNat 0 (k + n) [] l (by simp)
      generalize readL (readP s d) s w.2.2.toNat 0 (k + n) [] = q at *
      obtain ⟨k', ol⟩ := q
      cases ol with
      | none => exact good_zero
      | some l =>
        obtain ⟨h1, h2⟩ := hg l rfl
        simp only [List.length_nil, Nat.zero_add] at h2
        have h3 := good_mk w.1 l (by omega) h1
        simp only
        split
        · exact h3
        · split
          · exact h3
          · exact h3

theorem parse_alike (s : List UInt8) : ((parseR s).2.2 = true ∧ parseP s = ((parseR s).1, 0, 0) ∧ (parseR s).2.1 = 0 ∧ goodT (parseR s).1) ∨ ((parseR s).2.2 = false ∧ parseP s = (zeroT, (parseR s).2.1, 40) ∧ (parseR s).1 = zeroT) := by
  obtain ⟨h1, h2, h3⟩ := read_scan s 6 0
  have hg := readP_good s 6 0
  unfold parseP parseR
  by_cases ho : (scanP s 6 0).2.2 = true ∧ ¬ (scanP s 6 0).1 < s.length
  · left
    have ho' : (readP s 6 0).2.2 = true ∧ ¬ (readP s 6 0).1 < s.length := by rw [h1, h2]; exact ho
    rw [if_pos ho, if_pos ho', h3 ho'.1]
    rw [h3 ho'.1] at hg
    exact ⟨rfl, rfl, rfl, hg⟩
  · right
    have ho' : ¬ ((readP s 6 0).2.2 = true ∧ ¬ (readP s 6 0).1 < s.length) := by rw [h1, h2]; exact ho
    rw [if_neg ho, if_neg ho', h1]
    exact ⟨rfl, rfl, rfl⟩

theorem s3 (s : List UInt8) : ∃ H', L 3 [.im (.str s)] [] = some (.im (.bool true), H') := by
  rw [leq F3]
  have hK : ∀ (tm : List AV) (H : Heap), tm.length = 57 → tm.getD 2 undefA = .im (.bool true) → ∃ H', endK f3 [] .ret tm H = some (.im (.bool true), H') := fun tm H hl h => by
    simp only [endK, f3, resA, h, tupA, leave_nil]
    exact ⟨_, rfl⟩
  have hcode : f3.code = f3.code := rfl
  conv at hcode => rhs; simp only [f3]
  rw [hcode]
  clear hcode
  generalize endK f3 [] = K at *
  obtain ⟨hlen, ha⟩ := enter_at (f := f3) (args := [.im (.str s)]) (Nat.le_of_ble_eq_true rfl)
  have h0 := ha 0 _ rfl
  generalize enterA f3 [.im (.str s)] = tm at *
  change tm.length = 57 at hlen
  by_cases hl : 10000 < s.length
  · have hc : decide ((10000 : Int) < (s.length : Int)) = true := decide_eq_true (by omega)
    simp only [x_seq, x_block, x_skip, x_label, x_cond, x_exit, x_goto, x_ret, k_normal, k_exit, k_goto, k_ret, b_normal, b_exit, b_goto, b_ret, wantedA, aop, ev, putA, List.length_cons, List.length_nil, List.replicate, List.cons_append, List.nil_append, List.append_nil, List.append_assoc, gs_same, gs_ne, gq_same, gq_ne, List.length_set, List.map_cons, List.map_nil, cellsOf, List.all_cons, List.all_nil, cellOk, boxTy, Bool.and_true, Bool.and_self, if_true, ite_true, ite_false, loadAt, storeAt, setAt, hget, hget0, hset, hset0, List.getElem?_cons_zero, List.getElem?_cons_succ, List.set_cons_zero, List.set_cons_succ, Nat.add_zero, Nat.zero_add, Nat.reduceAdd, Nat.reduceSub, Nat.reduceLeDiff, Nat.reduceLT, Nat.reduceEqDiff, Nat.le_refl, and_self, and_true, true_and, mkAgg, toIms, List.drop_zero, List.drop_succ_cons, List.take_succ_cons, List.take_zero, List.length_append, binBool, unA, Bool.false_eq_true, if_false, partA, fillA, fillE, List.take_nil, Nat.zero_ne_one, Nat.one_ne_zero, not_false_eq_true, ne_eq, Nat.succ_ne_self, reduceCtorEq, Int.reduceEq, Int.reduceLT, Int.reduceLE, decide_true, decide_false, lenA, beq_self_eq_true, beq_true, beq_false, Bool.not_true, Bool.not_false, b_lss, b_gtr, b_leq, b_geq, b_eql, b_neq, b_add, b_sub, b_mul, s_eql, s_neq, y_ops, y_nil, y_cons, y_guard, y_some, y_drop, y_do, y_not, y_not0, c_call, c_clo, c_move, c_pick, c_alloc, c_box, c_build, c_bslice, c_load, c_store, c_nilCheck, c_bin, c_binB, c_un, c_i2i, c_i2f, c_f2i, c_s2b, c_b2s, c_strId, c_mkfunc, c_mkslice, c_slice, c_sliceStr, c_fieldAddr, c_field, c_indexSl, c_indexArr, c_elemArr, c_indexStr, c_extract, c_lenStr, c_lenSl, c_append, c_real, c_imag, c_complex, c_min, c_max, c_clear, hlen, h0, hc, s11]
    exact hK _ _ (by simp only [List.length_set, hlen]) (by simp only [gs_same, gs_ne, List.length_set, Nat.reduceLT, Nat.reduceEqDiff, not_false_eq_true, hlen])
  · have hc : decide ((10000 : Int) < (s.length : Int)) = false := decide_eq_false (by omega)
    have h12 := s12 s (by omega)
    have h13 := s13 s (by omega)
    have hp := parse_alike s
    generalize parseP s = p at *
    generalize parseR s = q at *
    obtain ⟨t', at', ok⟩ := q
    rcases hp with ⟨h1, rfl, h2, hg⟩ | ⟨h1, rfl, h2⟩
    · simp only at h1 h2 hg
      subst h1 h2
      have h15 := s15 t' hg.1 (narrow_slim _ hg.2)
      have h14 := s14 (cloneT t') t' (clone_ok _ hg.1) hg.1
      rw [same_clone] at h14
      generalize cloneT t' = ct at *
      obtain ⟨k1, s1, l1⟩ := t'
      obtain ⟨k2, s2, l2⟩ := ct
      have z0 : ((0 : Nat) : Int) = 0 := rfl
      simp only [encT, z0] at h12 h13 h14 h15
      simp only [x_seq, x_block, x_skip, x_label, x_cond, x_exit, x_goto, x_ret, k_normal, k_exit, k_goto, k_ret, b_normal, b_exit, b_goto, b_ret, wantedA, aop, ev, putA, List.length_cons, List.length_nil, List.replicate, List.cons_append, List.nil_append, List.append_nil, List.append_assoc, gs_same, gs_ne, gq_same, gq_ne, List.length_set, List.map_cons, List.map_nil, cellsOf, List.all_cons, List.all_nil, cellOk, boxTy, Bool.and_true, Bool.and_self, if_true, ite_true, ite_false, loadAt, storeAt, setAt, hget, hget0, hset, hset0, List.getElem?_cons_zero, List.getElem?_cons_succ, List.set_cons_zero, List.set_cons_succ, Nat.add_zero, Nat.zero_add, Nat.reduceAdd, Nat.reduceSub, Nat.reduceLeDiff, Nat.reduceLT, Nat.reduceEqDiff, Nat.le_refl, and_self, and_true, true_and, mkAgg, toIms, List.drop_zero, List.drop_succ_cons, List.take_succ_cons, List.take_zero, List.length_append, binBool, unA, Bool.false_eq_true, if_false, partA, fillA, fillE, List.take_nil, Nat.zero_ne_one, Nat.one_ne_zero, not_false_eq_true, ne_eq, Nat.succ_ne_self, reduceCtorEq, Int.reduceEq, Int.reduceLT, Int.reduceLE, decide_true, decide_false, lenA, beq_self_eq_true, beq_true, beq_false, Bool.not_true, Bool.not_false, b_lss, b_gtr, b_leq, b_geq, b_eql, b_neq, b_add, b_sub, b_mul, s_eql, s_neq, y_ops, y_nil, y_cons, y_guard, y_some, y_drop, y_do, y_not, y_not0, c_call, c_clo, c_move, c_pick, c_alloc, c_box, c_build, c_bslice, c_load, c_store, c_nilCheck, c_bin, c_binB, c_un, c_i2i, c_i2f, c_f2i, c_s2b, c_b2s, c_strId, c_mkfunc, c_mkslice, c_slice, c_sliceStr, c_fieldAddr, c_field, c_indexSl, c_indexArr, c_elemArr, c_indexStr, c_extract, c_lenStr, c_lenSl, c_append, c_real, c_imag, c_complex, c_min, c_max, c_clear, z_ops, z_nil, z_cons, z_guard, z_some, z_drop, z_do, z_not, z_not0, pairK, stays, loadOf, List.reverse_cons, List.reverse_nil, List.mem_cons, List.not_mem_nil, or_false, forall_eq, true_or, or_true, Bool.true_and, hlen, h0, hc, h12, h13, h14, h15, s11]
      exact hK _ _ (by simp only [List.length_set, hlen]) (by simp only [gs_same, gs_ne, List.length_set, Nat.reduceLT, Nat.reduceEqDiff, not_false_eq_true, hlen])
    · simp only at h1 h2
      subst h1 h2
      simp only [zeroT, mkT, List.length_nil, if_true, encT, encTs] at h12 h13
      simp only [x_seq, x_block, x_skip, x_label, x_cond, x_exit, x_goto, x_ret, k_normal, k_exit, k_goto, k_ret, b_normal, b_exit, b_goto, b_ret, wantedA, aop, ev, putA, List.length_cons, List.length_nil, List.replicate, List.cons_append, List.nil_append, List.append_nil, List.append_assoc, gs_same, gs_ne, gq_same, gq_ne, List.length_set, List.map_cons, List.map_nil, cellsOf, List.all_cons, List.all_nil, cellOk, boxTy, Bool.and_true, Bool.and_self, if_true, ite_true, ite_false, loadAt, storeAt, setAt, hget, hget0, hset, hset0, List.getElem?_cons_zero, List.getElem?_cons_succ, List.set_cons_zero, List.set_cons_succ, Nat.add_zero, Nat.zero_add, Nat.reduceAdd, Nat.reduceSub, Nat.reduceLeDiff, Nat.reduceLT, Nat.reduceEqDiff, Nat.le_refl, and_self, and_true, true_and, mkAgg, toIms, List.drop_zero, List.drop_succ_cons, List.take_succ_cons, List.take_zero, List.length_append, binBool, unA, Bool.false_eq_true, if_false, partA, fillA, fillE, List.take_nil, Nat.zero_ne_one, Nat.one_ne_zero, not_false_eq_true, ne_eq, Nat.succ_ne_self, reduceCtorEq, Int.reduceEq, Int.reduceLT, Int.reduceLE, decide_true, decide_false, lenA, beq_self_eq_true, beq_true, beq_false, Bool.not_true, Bool.not_false, b_lss, b_gtr, b_leq, b_geq, b_eql, b_neq, b_add, b_sub, b_mul, s_eql, s_neq, y_ops, y_nil, y_cons, y_guard, y_some, y_drop, y_do, y_not, y_not0, c_call, c_clo, c_move, c_pick, c_alloc, c_box, c_build, c_bslice, c_load, c_store, c_nilCheck, c_bin, c_binB, c_un, c_i2i, c_i2f, c_f2i, c_s2b, c_b2s, c_strId, c_mkfunc, c_mkslice, c_slice, c_sliceStr, c_fieldAddr, c_field, c_indexSl, c_indexArr, c_elemArr, c_indexStr, c_extract, c_lenStr, c_lenSl, c_append, c_real, c_imag, c_complex, c_min, c_max, c_clear, hlen, h0, hc, h12, h13, s11]
      exact hK _ _ (by simp only [List.length_set, hlen]) (by simp only [gs_same, gs_ne, List.length_set, Nat.reduceLT, Nat.reduceEqDiff, not_false_eq_true, hlen])

end Go.Abs.Seat
end
section
/- The law KindBack, the plain part: what is shown is read back, what is read is shown so. -/
set_option linter.unusedVariables false
set_option linter.unusedSimpArgs false
namespace Go.Abs.Seat
open Go.Proofs

theorem right_iff (k : Int) (s : Nat) (args : List KT) (d : Int) : rightT (.mk k s args) d = true ↔ (∃ w ∈ words, w.1 = k ∧ (args.length : Int) = w.2.2) ∧ 1 ≤ d ∧ (∀ a ∈ args, rightT a (d - 1) = true) := by
  have hk : ∀ i, kidx k = some i → ∃ w ∈ words, w.1 = k ∧ kcnt i = w.2.2 := by
    intro i hi
    unfold kidx at hi
    obtain ⟨h1, h2, _⟩ := List.findIdx?_eq_some_iff_getElem.1 hi
    refine ⟨words[i], List.getElem_mem h1, of_decide_eq_true h2, ?_⟩
    have : ∀ j, (h : j < words.length) → kcnt j = words[j].2.2 := by decide
    exact this i h1
  have hk2 : ∀ w ∈ words, w.1 = k → ∃ i, kidx k = some i ∧ kcnt i = w.2.2 := by
    intro w hw hwk
    have : ∀ w ∈ words, ∃ i, i < 8 ∧ kidx w.1 = some i ∧ kcnt i = w.2.2 := by decide
    obtain ⟨i, _, h1, h2⟩ := this w hw
    exact ⟨i, by rw [← hwk]; exact h1, h2⟩
  simp only [rightT]
  constructor
  · intro h
    split at h
    · rename_i i hi
      split at h
      · simp at h
      · split at h
        · rename_i hl
          obtain ⟨w, hw, h1, h2⟩ := hk i hi
          refine ⟨⟨w, hw, h1, by rw [← h2]; exact hl⟩, by omega, fun a ha => ?_⟩
          rw [rightNot_any] at h
          simp only [Bool.not_eq_true', List.any_eq_false, Bool.not_eq_true', Bool.not_eq_false] at h
          have := h a ha
          simpa using this
        · simp at h
    · simp at h
  · rintro ⟨⟨w, hw, h1, h2⟩, h3, h4⟩
    obtain ⟨i, hi, hc⟩ := hk2 w hw h1
    rw [hi]
    simp only
    rw [if_neg (by omega), if_pos (by rw [hc]; exact h2), rightNot_any]
    simp only [Bool.not_eq_true', List.any_eq_false, Bool.not_eq_true', Bool.not_eq_false]
    intro a ha
    simp [h4 a ha]

theorem gath_of (w : Word) (hw : w ∈ words) : gath w.1 words = w.2.1 := by
  have : ∀ w ∈ words, gath w.1 words = w.2.1 := by decide
  exact this w hw

theorem kind_uniq : ∀ w ∈ words, ∀ v ∈ words, w.1 = v.1 → w = v := by decide

/-! ### what is read is shown so -/

theorem drop_next {s r : List UInt8} {k : Nat} {c : UInt8} (h : s[k]? = some c) : s.drop k = c :: s.drop (k + 1) := by
  obtain ⟨w, hw, e⟩ := drop_cons (List.getElem?_eq_some_iff.1 h).1
  rw [h] at hw
  injection hw with hw
  rw [e, hw]

theorem readL_shows (s : List UInt8) (rd : Nat → Nat × KT × Bool) (d : Int) (h : ∀ k, (rd k).2.2 = true → rightT (rd k).2.1 d = true ∧ s.drop k = showT (rd k).2.1 ++ s.drop (rd k).1) :
    ∀ (m i k : Nat) (acc l : List KT), (readL rd s m i k acc).2 = some l → ∃ l', l = acc ++ l' ∧ l'.length = m ∧ (∀ a ∈ l', rightT a d = true) ∧ s.drop k = showTs l' (sepB i) ++ s.drop (readL rd s m i k acc).1
  | 0, i, k, acc, l, he => by
    simp only [readL, Option.some.injEq] at he
    subst he
    exact ⟨[], by simp, rfl, by simp, by simp [showTs, readL]⟩
  | m + 1, i, k, acc, l, he => by
    simp only [readL] at he ⊢
    cases hs : signB s k (sepB i) with
    | false => rw [hs] at he; simp at he
    | true =>
      rw [hs] at he
      simp only [if_true] at he ⊢
      by_cases ho : (rd (k + 1)).2.2 = true
      · rw [if_pos ho] at he ⊢
        obtain ⟨l', h1, h2, h3, h4⟩ := readL_shows s rd d h m (i + 1) _ _ l he
        obtain ⟨h5, h6⟩ := h (k + 1) ho
        refine ⟨(rd (k + 1)).2.1 :: l', by rw [h1]; simp, by simp [h2], fun a ha => ?_, ?_⟩
        · rcases List.mem_cons.1 ha with rfl | ha
          · exact h5
          · exact h3 a ha
        · rw [drop_next (r := s) (of_decide_eq_true hs), h6, h4, show sepB (i + 1) = 44 by simp [sepB]]
          simp only [showTs, List.cons_append, List.append_assoc]
      · rw [if_neg ho] at he
        simp at he

theorem readP_shows (s : List UInt8) : ∀ (d k : Nat), (readP s d k).2.2 = true → rightT (readP s d k).2.1 d = true ∧ s.drop k = showT (readP s d k).2.1 ++ s.drop (readP s d k).1
  | 0, k, h => by simp [readP] at h
  | d + 1, k, h => by
    have hspec := wordGo_spec (mayW ((d : Int) + 1)) (s.drop k) 8 0 (mayW ((d : Int) + 1)) (List.filter_eq_self.2 (fun w _ => by simp)).symm (mayW_ne _) (fun w hw => by have := word_len w (List.mem_filter.1 hw).1; omega) (Nat.zero_le _) (fun _ _ _ => Nat.zero_le _)
    simp only [readP] at h ⊢
    unfold word69 at h ⊢
    generalize wordGo (s.drop k) 8 (mayW ((d : Int) + 1)) 0 = q at *
    obtain ⟨n, ow⟩ := q
    cases ow with
    | none => simp at h
    | some w =>
      obtain ⟨hw, hn, hp⟩ := hspec
      have hww := (List.mem_filter.1 hw).1
      have hc := words_cnt w hww
      have hd1 : s.drop k = w.2.1 ++ s.drop (k + n) := by
        obtain ⟨t, ht⟩ := hp
        rw [← ht]
        congr 1
        have := congrArg (List.drop n) ht
        rw [← hn, List.drop_left, List.drop_drop] at this
        rw [this, hn]
      have hl := readL_shows s (readP s d) (d : Int) (fun k h => readP_shows s d k h) w.2.2.toNat 0 (k + n) []
      simp only at h ⊢
      generalize readL (readP s d) s w.2.2.toNat 0 (k + n) [] = q at *
      obtain ⟨k', ol⟩ := q
      cases ol with
      | none => simp at h
      | some l =>
        obtain ⟨l', h1, h2, h3, h4⟩ := hl l rfl
        simp only [List.nil_append] at h1
        subst h1
        simp only at h h4 ⊢
        have hr : rightT (mkT w.1 l) ((d + 1 : Nat) : Int) = true := by
          unfold mkT
          rw [right_iff]
          refine ⟨⟨w, hww, rfl, by omega⟩, by omega, fun a ha => ?_⟩
          have := h3 a ha
          rwa [show (((d + 1 : Nat) : Int)) - 1 = (d : Int) by omega]
        have hsep : sepB 0 = 40 := rfl
        by_cases h0 : w.2.2 = 0
        · simp only [if_pos h0]
          have hl0 : l = [] := List.length_eq_zero_iff.1 (by omega)
          subst hl0
          refine ⟨hr, ?_⟩
          rw [hd1, h4]
          unfold mkT
          simp only [showT, gath_of w hww, showTs, List.length_nil, if_true, List.nil_append, List.append_nil]
        · simp only [if_neg h0] at h ⊢
          have hl0 : l.length ≠ 0 := by omega
          cases hs : signB s k' 41 with
          | false => rw [hs] at h; simp at h
          | true =>
            simp only [if_true]
            refine ⟨hr, ?_⟩
            rw [hd1, h4, drop_next (r := s) (of_decide_eq_true hs), hsep]
            unfold mkT
            simp only [showT, gath_of w hww, if_neg hl0, List.append_assoc, List.cons_append, List.nil_append]

/-! ### what is shown is read back -/

theorem readL_back (s : List UInt8) (rd : Nat → Nat × KT × Bool) : ∀ (l : List KT) (i k : Nat) (acc : List KT) (rest : List UInt8), (∀ a ∈ l, ∀ k rest, s.drop k = showT a ++ rest → rd k = (k + (showT a).length, cloneT a, true)) → s.drop k = showTs l (sepB i) ++ rest → readL rd s l.length i k acc = (k + (showTs l (sepB i)).length, some (acc ++ cloneTs l))
  | [], i, k, acc, rest, _, _ => by simp [readL, showTs, cloneTs]
  | a :: l, i, k, acc, rest, h, hd => by
    have hb : sepB (i + 1) = 44 := by simp [sepB]
    simp only [showTs, List.cons_append, List.append_assoc] at hd
    have hsk : s[k]? = some (sepB i) := by
      have : (s.drop k)[0]? = some (sepB i) := by rw [hd]; rfl
      rwa [List.getElem?_drop, Nat.add_zero] at this
    have hsg : signB s k (sepB i) = true := decide_eq_true hsk
    have hd1 : s.drop (k + 1) = showT a ++ (showTs l 44 ++ rest) := by
      have := congrArg (List.drop 1) hd
      rwa [List.drop_drop, List.drop_one, List.tail_cons] at this
    have hra := h a (by simp) (k + 1) _ hd1
    have hd2 : s.drop (k + 1 + (showT a).length) = showTs l (sepB (i + 1)) ++ rest := by
      have := congrArg (List.drop (showT a).length) hd1
      rwa [List.drop_drop, List.drop_left, ← hb] at this
    have ih := readL_back s rd l (i + 1) (k + 1 + (showT a).length) (acc ++ [cloneT a]) rest (fun x hx => h x (by simp [hx])) hd2
    simp only [List.length_cons, readL, hsg, if_true, hra, ih, hb, showTs, cloneTs, List.length_append, List.append_assoc, List.cons_append, List.nil_append]
    congr 1
    omega

theorem readP_back (s : List UInt8) : ∀ (d : Nat) (t : KT) (k : Nat) (rest : List UInt8), rightT t (d : Int) = true → s.drop k = showT t ++ rest → readP s d k = (k + (showT t).length, cloneT t, true)
  | 0, .mk kk ss args, k, rest, hr, hd => by
    rw [right_iff] at hr
    have := hr.2.1
    omega
  | d + 1, .mk kk ss args, k, rest, hr, hd => by
    rw [right_iff] at hr
    obtain ⟨⟨w, hw, rfl, hlen⟩, _, hargs⟩ := hr
    rw [show (((d + 1 : Nat) : Int)) - 1 = (d : Int) by omega] at hargs
    simp only [showT, gath_of w hw, List.append_assoc] at hd
    have hc := words_cnt w hw
    have hmay : w ∈ mayW ((d : Int) + 1) := by
      simp only [mayW, List.mem_filter, Bool.not_eq_true']
      refine ⟨hw, ?_⟩
      unfold outW
      by_cases h0 : 0 < w.2.2
      · have hne : args ≠ [] := by
          intro h; subst h; simp at hlen; omega
        obtain ⟨a, ha⟩ := List.exists_mem_of_ne_nil _ hne
        have := hargs a ha
        obtain ⟨ka, sa, la⟩ := a
        rw [right_iff] at this
        have hd1 : decide ((d : Int) + 1 = 1) = false := decide_eq_false (by omega)
        rw [hd1, Bool.and_false]
      · rw [decide_eq_false h0, Bool.false_and]
    have hwp : w.2.1 <+: s.drop k := by rw [hd]; exact List.prefix_append _ _
    have hspec := wordGo_spec (mayW ((d : Int) + 1)) (s.drop k) 8 0 (mayW ((d : Int) + 1)) (List.filter_eq_self.2 (fun w _ => by simp)).symm (mayW_ne _) (fun w hw => by have := word_len w (List.mem_filter.1 hw).1; omega) (Nat.zero_le _) (fun _ _ _ => Nat.zero_le _)
    simp only [readP]
    unfold word69
    generalize wordGo (s.drop k) 8 (mayW ((d : Int) + 1)) 0 = q at *
    obtain ⟨n, ow⟩ := q
    cases ow with
    | none => exact absurd hwp (hspec.1 w hmay)
    | some v =>
      obtain ⟨hv, hn, hvp⟩ := hspec
      have hvw := (List.mem_filter.1 hv).1
      have hvv : v = w := by
        rcases List.prefix_or_prefix_of_prefix hvp hwp with h | h
        · exact words_free v hvw w hw h
        · exact (words_free w hw v hvw h).symm
      subst hvv
      subst hn
      have hd1 : s.drop (k + v.2.1.length) = showTs args 40 ++ ((if args.length = 0 then [] else [41]) ++ rest) := by
        have := congrArg (List.drop v.2.1.length) hd
        rwa [List.drop_drop, List.drop_left] at this
      have hl := readL_back s (readP s d) args 0 (k + v.2.1.length) [] _ (fun a ha k rest h => readP_back s d a k rest (hargs a ha) h) hd1
      have hlt : v.2.2.toNat = args.length := by omega
      have hsep : sepB 0 = 40 := rfl
      simp only
      rw [hlt, hl]
      simp only [List.nil_append, hsep]
      have hcl : (cloneTs args).length = args.length := by rw [cloneTs_map]; simp
      have hmk : mkT v.1 (cloneTs args) = cloneT (.mk v.1 ss args) := by
        simp only [mkT, cloneT, hcl]
      by_cases h0 : v.2.2 = 0
      · have hl0 : args.length = 0 := by omega
        rw [if_pos h0, hmk]
        simp only [showT, gath_of v hw, hl0, if_true, List.append_nil, List.length_append]
        congr 1
        omega
      · have hl0 : args.length ≠ 0 := by omega
        rw [if_neg h0, hmk]
        rw [if_neg hl0] at hd1
        have hs41 : signB s (k + v.2.1.length + (showTs args 40).length) 41 = true := by
          have h1 := congrArg (List.drop (showTs args 40).length) hd1
          rw [List.drop_drop, List.drop_left] at h1
          have : (s.drop (k + v.2.1.length + (showTs args 40).length))[0]? = some 41 := by rw [h1]; rfl
          rw [List.getElem?_drop, Nat.add_zero] at this
          exact decide_eq_true this
        rw [hs41]
        simp only [if_true, showT, gath_of v hw, if_neg hl0, List.length_append, List.length_cons, List.length_nil]
        congr 1
        omega

theorem parse_show (t : KT) (h : rightT t 6 = true) : parseP (showT t) = (cloneT t, 0, 0) := by
  have := readP_back (showT t) 6 t 0 [] h (by simp)
  unfold parseP
  rw [this]
  simp

theorem show_parse (s : List UInt8) (h : (parseP s).2.2 = 0) : rightT (parseP s).1 6 = true ∧ showT (parseP s).1 = s := by
  unfold parseP at h ⊢
  by_cases ho : (readP s 6 0).2.2 = true ∧ ¬ (readP s 6 0).1 < s.length
  · rw [if_pos ho]
    obtain ⟨h1, h2⟩ := readP_shows s 6 0 ho.1
    refine ⟨h1, ?_⟩
    have h3 : s.drop (readP s 6 0).1 = [] := List.drop_eq_nil_iff.2 (by omega)
    rw [h3, List.append_nil, List.drop_zero] at h2
    exact h2.symm
  · rw [if_neg ho] at h
    simp at h

mutual
theorem same_clone' : ∀ t : KT, sameT t (cloneT t) = true
  | .mk k s args => by
    have hl : (cloneTs args).length = args.length := by rw [cloneTs_map]; simp
    simp only [cloneT, sameT, hl, same_clones' args, decide_true, Bool.and_self]
theorem same_clones' : ∀ l : List KT, sameTs l (cloneTs l) = true
  | [] => rfl
  | a :: l => by simp only [cloneTs, sameTs, same_clone' a, same_clones' l, Bool.and_self]
end

end Go.Abs.Seat
end
section
/- The law KindBack. -/
set_option linter.unusedVariables false
set_option linter.unusedSimpArgs false
namespace Go.Abs.Seat
open Go.Proofs

theorem parseP_good (s : List UInt8) : goodT (parseP s).1 := by
  unfold parseP
  split
  · exact readP_good s 6 0
  · exact good_zero

theorem s5 (t : KT) (ht : okT t) (s : List UInt8) : ∃ H', L 5 [.im (.agg (encT t)), .im (.str s)] [] = some (.im (.bool true), H') := by
  rw [leq F5]
  have hK : ∀ (tm : List AV) (H : Heap), tm.length = 74 → tm.getD 4 undefA = .im (.bool true) → ∃ H', endK f5 [] .ret tm H = some (.im (.bool true), H') := fun tm H hl h => by
    simp only [endK, f5, resA, h, tupA, leave_nil]
    exact ⟨_, rfl⟩
  have hcode : f5.code = f5.code := rfl
  conv at hcode => rhs; simp only [f5]
  rw [hcode]
  clear hcode
  generalize endK f5 [] = K at *
  have h16 := s16 t ht
  have h17 := s17 t ht
  have h18 := fun ct hct => s18 t ct ht hct
  have hsc := same_clone' t
  have hco := clone_ok t ht
  have hcr := clone_right t 6
  have hps := parse_show t
  have hsl := show_len t 6
  obtain ⟨hlen, ha⟩ := enter_at (f := f5) (args := [.im (.agg (encT t)), .im (.str s)]) (Nat.le_of_ble_eq_true rfl)
  have h0 := ha 0 _ rfl
  have h1 := ha 1 _ rfl
  generalize enterA f5 [.im (.agg (encT t)), .im (.str s)] = tm at *
  change tm.length = 74 at hlen
  have h18c := h18 _ hco
  rw [hsc, hcr] at h18c
  generalize cloneT t = ct at *
  unfold checkT at h17
  generalize (smallT t 2000 30).1 = sm at *
  generalize hr : rightT t 6 = rt at *
  generalize showT t = st at *
  obtain ⟨k1, s1, ts1⟩ := t
  obtain ⟨k2, s2, ts2⟩ := ct
  simp only [encT] at h0 h16 h17 h18c hps
  cases sm with
  | false =>
    simp only [x_seq, x_block, x_skip, x_label, x_cond, x_exit, x_goto, x_ret, k_normal, k_exit, k_goto, k_ret, b_normal, b_exit, b_goto, b_ret, wantedA, aop, ev, putA, List.length_cons, List.length_nil, List.replicate, List.cons_append, List.nil_append, List.append_nil, List.append_assoc, gs_same, gs_ne, gq_same, gq_ne, List.length_set, List.map_cons, List.map_nil, cellsOf, List.all_cons, List.all_nil, cellOk, boxTy, Bool.and_true, Bool.and_self, if_true, ite_true, ite_false, loadAt, storeAt, setAt, hget, hget0, hset, hset0, List.getElem?_cons_zero, List.getElem?_cons_succ, List.set_cons_zero, List.set_cons_succ, Nat.add_zero, Nat.zero_add, Nat.reduceAdd, Nat.reduceSub, Nat.reduceLeDiff, Nat.reduceLT, Nat.reduceEqDiff, Nat.le_refl, and_self, and_true, true_and, mkAgg, toIms, List.drop_zero, List.drop_succ_cons, List.take_succ_cons, List.take_zero, List.length_append, binBool, unA, Bool.false_eq_true, if_false, partA, fillA, fillE, List.take_nil, Nat.zero_ne_one, Nat.one_ne_zero, not_false_eq_true, ne_eq, Nat.succ_ne_self, reduceCtorEq, Int.reduceEq, Int.reduceLT, Int.reduceLE, decide_true, decide_false, lenA, beq_self_eq_true, beq_true, beq_false, Bool.not_true, Bool.not_false, b_lss, b_gtr, b_leq, b_geq, b_eql, b_neq, b_add, b_sub, b_mul, s_eql, s_neq, y_ops, y_nil, y_cons, y_guard, y_some, y_drop, y_do, y_not, y_not0, c_call, c_clo, c_move, c_pick, c_alloc, c_box, c_build, c_bslice, c_load, c_store, c_nilCheck, c_bin, c_binB, c_un, c_i2i, c_i2f, c_f2i, c_s2b, c_b2s, c_strId, c_mkfunc, c_mkslice, c_slice, c_sliceStr, c_fieldAddr, c_field, c_indexSl, c_indexArr, c_elemArr, c_indexStr, c_extract, c_lenStr, c_lenSl, c_append, c_real, c_imag, c_complex, c_min, c_max, c_clear, hlen, h0, h1, h16, s11]
    exact hK _ _ (by simp only [List.length_set, hlen]) (by simp only [gs_same, gs_ne, List.length_set, Nat.reduceLT, Nat.reduceEqDiff, not_false_eq_true, hlen])
  | true =>
    by_cases hl : 10000 < s.length
    · have hc : decide ((10000 : Int) < (s.length : Int)) = true := decide_eq_true (by omega)
      simp only [x_seq, x_block, x_skip, x_label, x_cond, x_exit, x_goto, x_ret, k_normal, k_exit, k_goto, k_ret, b_normal, b_exit, b_goto, b_ret, wantedA, aop, ev, putA, List.length_cons, List.length_nil, List.replicate, List.cons_append, List.nil_append, List.append_nil, List.append_assoc, gs_same, gs_ne, gq_same, gq_ne, List.length_set, List.map_cons, List.map_nil, cellsOf, List.all_cons, List.all_nil, cellOk, boxTy, Bool.and_true, Bool.and_self, if_true, ite_true, ite_false, loadAt, storeAt, setAt, hget, hget0, hset, hset0, List.getElem?_cons_zero, List.getElem?_cons_succ, List.set_cons_zero, List.set_cons_succ, Nat.add_zero, Nat.zero_add, Nat.reduceAdd, Nat.reduceSub, Nat.reduceLeDiff, Nat.reduceLT, Nat.reduceEqDiff, Nat.le_refl, and_self, and_true, true_and, mkAgg, toIms, List.drop_zero, List.drop_succ_cons, List.take_succ_cons, List.take_zero, List.length_append, binBool, unA, Bool.false_eq_true, if_false, partA, fillA, fillE, List.take_nil, Nat.zero_ne_one, Nat.one_ne_zero, not_false_eq_true, ne_eq, Nat.succ_ne_self, reduceCtorEq, Int.reduceEq, Int.reduceLT, Int.reduceLE, decide_true, decide_false, lenA, beq_self_eq_true, beq_true, beq_false, Bool.not_true, Bool.not_false, b_lss, b_gtr, b_leq, b_geq, b_eql, b_neq, b_add, b_sub, b_mul, s_eql, s_neq, y_ops, y_nil, y_cons, y_guard, y_some, y_drop, y_do, y_not, y_not0, c_call, c_clo, c_move, c_pick, c_alloc, c_box, c_build, c_bslice, c_load, c_store, c_nilCheck, c_bin, c_binB, c_un, c_i2i, c_i2f, c_f2i, c_s2b, c_b2s, c_strId, c_mkfunc, c_mkslice, c_slice, c_sliceStr, c_fieldAddr, c_field, c_indexSl, c_indexArr, c_elemArr, c_indexStr, c_extract, c_lenStr, c_lenSl, c_append, c_real, c_imag, c_complex, c_min, c_max, c_clear, hlen, h0, h1, h16, hc, s11]
      exact hK _ _ (by simp only [List.length_set, hlen]) (by simp only [gs_same, gs_ne, List.length_set, Nat.reduceLT, Nat.reduceEqDiff, not_false_eq_true, hlen])
    · have hc : decide ((10000 : Int) < (s.length : Int)) = false := decide_eq_false (by omega)
      -- the second half: what is read from s
      have h12 := s12 s (by omega)
      have hgood := parseP_good s
      have hsp := show_parse s
      have h17u := fun H => s17 (parseP s).1 hgood.1 H
      have h19u := fun H => s19 (parseP s).1 hgood.1 H
      unfold checkT at h17u h19u
      generalize hpp : parseP s = q at *
      obtain ⟨u, p, e⟩ := q
      simp only at h12 hgood hsp h17u h19u
      cases rt with
      | false =>
        simp only [Bool.false_eq_true, if_false] at h17
        by_cases he : e = 0
        · obtain ⟨hru, hsu⟩ := hsp he
          subst he
          rw [hru, hsu] at h17u
          rw [hru] at h19u
          simp only [if_true] at h17u h19u
          obtain ⟨k3, s3, ts3⟩ := u
          simp only [encT] at h12 h17u h19u
          simp only [x_seq, x_block, x_skip, x_label, x_cond, x_exit, x_goto, x_ret, k_normal, k_exit, k_goto, k_ret, b_normal, b_exit, b_goto, b_ret, wantedA, aop, ev, putA, List.length_cons, List.length_nil, List.replicate, List.cons_append, List.nil_append, List.append_nil, List.append_assoc, gs_same, gs_ne, gq_same, gq_ne, List.length_set, List.map_cons, List.map_nil, cellsOf, List.all_cons, List.all_nil, cellOk, boxTy, Bool.and_true, Bool.and_self, if_true, ite_true, ite_false, loadAt, storeAt, setAt, hget, hget0, hset, hset0, List.getElem?_cons_zero, List.getElem?_cons_succ, List.set_cons_zero, List.set_cons_succ, Nat.add_zero, Nat.zero_add, Nat.reduceAdd, Nat.reduceSub, Nat.reduceLeDiff, Nat.reduceLT, Nat.reduceEqDiff, Nat.le_refl, and_self, and_true, true_and, mkAgg, toIms, List.drop_zero, List.drop_succ_cons, List.take_succ_cons, List.take_zero, List.length_append, binBool, unA, Bool.false_eq_true, if_false, partA, fillA, fillE, List.take_nil, Nat.zero_ne_one, Nat.one_ne_zero, not_false_eq_true, ne_eq, Nat.succ_ne_self, reduceCtorEq, Int.reduceEq, Int.reduceLT, Int.reduceLE, decide_true, decide_false, lenA, beq_self_eq_true, beq_true, beq_false, Bool.not_true, Bool.not_false, b_lss, b_gtr, b_leq, b_geq, b_eql, b_neq, b_add, b_sub, b_mul, s_eql, s_neq, y_ops, y_nil, y_cons, y_guard, y_some, y_drop, y_do, y_not, y_not0, c_call, c_clo, c_move, c_pick, c_alloc, c_box, c_build, c_bslice, c_load, c_store, c_nilCheck, c_bin, c_binB, c_un, c_i2i, c_i2f, c_f2i, c_s2b, c_b2s, c_strId, c_mkfunc, c_mkslice, c_slice, c_sliceStr, c_fieldAddr, c_field, c_indexSl, c_indexArr, c_elemArr, c_indexStr, c_extract, c_lenStr, c_lenSl, c_append, c_real, c_imag, c_complex, c_min, c_max, c_clear, hlen, h0, h1, h16, hc, h17, h12, h17u, h19u, s11]
          exact hK _ _ (by simp only [List.length_set, hlen]) (by simp only [gs_same, gs_ne, List.length_set, Nat.reduceLT, Nat.reduceEqDiff, not_false_eq_true, hlen])
        · have hde : decide (e = 0) = false := decide_eq_false he
          obtain ⟨k3, s3, ts3⟩ := u
          simp only [encT] at h12
          simp only [x_seq, x_block, x_skip, x_label, x_cond, x_exit, x_goto, x_ret, k_normal, k_exit, k_goto, k_ret, b_normal, b_exit, b_goto, b_ret, wantedA, aop, ev, putA, List.length_cons, List.length_nil, List.replicate, List.cons_append, List.nil_append, List.append_nil, List.append_assoc, gs_same, gs_ne, gq_same, gq_ne, List.length_set, List.map_cons, List.map_nil, cellsOf, List.all_cons, List.all_nil, cellOk, boxTy, Bool.and_true, Bool.and_self, if_true, ite_true, ite_false, loadAt, storeAt, setAt, hget, hget0, hset, hset0, List.getElem?_cons_zero, List.getElem?_cons_succ, List.set_cons_zero, List.set_cons_succ, Nat.add_zero, Nat.zero_add, Nat.reduceAdd, Nat.reduceSub, Nat.reduceLeDiff, Nat.reduceLT, Nat.reduceEqDiff, Nat.le_refl, and_self, and_true, true_and, mkAgg, toIms, List.drop_zero, List.drop_succ_cons, List.take_succ_cons, List.take_zero, List.length_append, binBool, unA, Bool.false_eq_true, if_false, partA, fillA, fillE, List.take_nil, Nat.zero_ne_one, Nat.one_ne_zero, not_false_eq_true, ne_eq, Nat.succ_ne_self, reduceCtorEq, Int.reduceEq, Int.reduceLT, Int.reduceLE, decide_true, decide_false, lenA, beq_self_eq_true, beq_true, beq_false, Bool.not_true, Bool.not_false, b_lss, b_gtr, b_leq, b_geq, b_eql, b_neq, b_add, b_sub, b_mul, s_eql, s_neq, y_ops, y_nil, y_cons, y_guard, y_some, y_drop, y_do, y_not, y_not0, c_call, c_clo, c_move, c_pick, c_alloc, c_box, c_build, c_bslice, c_load, c_store, c_nilCheck, c_bin, c_binB, c_un, c_i2i, c_i2f, c_f2i, c_s2b, c_b2s, c_strId, c_mkfunc, c_mkslice, c_slice, c_sliceStr, c_fieldAddr, c_field, c_indexSl, c_indexArr, c_elemArr, c_indexStr, c_extract, c_lenStr, c_lenSl, c_append, c_real, c_imag, c_complex, c_min, c_max, c_clear, hlen, h0, h1, h16, hc, h17, h12, hde, s11]
          exact hK _ _ (by simp only [List.length_set, hlen]) (by simp only [gs_same, gs_ne, List.length_set, Nat.reduceLT, Nat.reduceEqDiff, not_false_eq_true, hlen])
      | true =>
        have h12a := s12 st (by have := hsl rfl; omega)
        rw [hps rfl] at h12a
        simp only [if_true] at h17
        have z0 : ((0 : Nat) : Int) = 0 := rfl
        simp only [encT, z0] at h12a
        simp only [Bool.and_self] at h18c
        by_cases he : e = 0
        · obtain ⟨hru, hsu⟩ := hsp he
          subst he
          rw [hru, hsu] at h17u
          rw [hru] at h19u
          simp only [if_true] at h17u h19u
          obtain ⟨k3, s3, ts3⟩ := u
          simp only [encT] at h12 h17u h19u
          simp only [x_seq, x_block, x_skip, x_label, x_cond, x_exit, x_goto, x_ret, k_normal, k_exit, k_goto, k_ret, b_normal, b_exit, b_goto, b_ret, wantedA, aop, ev, putA, List.length_cons, List.length_nil, List.replicate, List.cons_append, List.nil_append, List.append_nil, List.append_assoc, gs_same, gs_ne, gq_same, gq_ne, List.length_set, List.map_cons, List.map_nil, cellsOf, List.all_cons, List.all_nil, cellOk, boxTy, Bool.and_true, Bool.and_self, if_true, ite_true, ite_false, loadAt, storeAt, setAt, hget, hget0, hset, hset0, List.getElem?_cons_zero, List.getElem?_cons_succ, List.set_cons_zero, List.set_cons_succ, Nat.add_zero, Nat.zero_add, Nat.reduceAdd, Nat.reduceSub, Nat.reduceLeDiff, Nat.reduceLT, Nat.reduceEqDiff, Nat.le_refl, and_self, and_true, true_and, mkAgg, toIms, List.drop_zero, List.drop_succ_cons, List.take_succ_cons, List.take_zero, List.length_append, binBool, unA, Bool.false_eq_true, if_false, partA, fillA, fillE, List.take_nil, Nat.zero_ne_one, Nat.one_ne_zero, not_false_eq_true, ne_eq, Nat.succ_ne_self, reduceCtorEq, Int.reduceEq, Int.reduceLT, Int.reduceLE, decide_true, decide_false, lenA, beq_self_eq_true, beq_true, beq_false, Bool.not_true, Bool.not_false, b_lss, b_gtr, b_leq, b_geq, b_eql, b_neq, b_add, b_sub, b_mul, s_eql, s_neq, y_ops, y_nil, y_cons, y_guard, y_some, y_drop, y_do, y_not, y_not0, c_call, c_clo, c_move, c_pick, c_alloc, c_box, c_build, c_bslice, c_load, c_store, c_nilCheck, c_bin, c_binB, c_un, c_i2i, c_i2f, c_f2i, c_s2b, c_b2s, c_strId, c_mkfunc, c_mkslice, c_slice, c_sliceStr, c_fieldAddr, c_field, c_indexSl, c_indexArr, c_elemArr, c_indexStr, c_extract, c_lenStr, c_lenSl, c_append, c_real, c_imag, c_complex, c_min, c_max, c_clear, hlen, h0, h1, h16, hc, h17, h12a, h18c, h12, h17u, h19u, s11]
          exact hK _ _ (by simp only [List.length_set, hlen]) (by simp only [gs_same, gs_ne, List.length_set, Nat.reduceLT, Nat.reduceEqDiff, not_false_eq_true, hlen])
        · have hde : decide (e = 0) = false := decide_eq_false he
          obtain ⟨k3, s3, ts3⟩ := u
          simp only [encT] at h12
          simp only [x_seq, x_block, x_skip, x_label, x_cond, x_exit, x_goto, x_ret, k_normal, k_exit, k_goto, k_ret, b_normal, b_exit, b_goto, b_ret, wantedA, aop, ev, putA, List.length_cons, List.length_nil, List.replicate, List.cons_append, List.nil_append, List.append_nil, List.append_assoc, gs_same, gs_ne, gq_same, gq_ne, List.length_set, List.map_cons, List.map_nil, cellsOf, List.all_cons, List.all_nil, cellOk, boxTy, Bool.and_true, Bool.and_self, if_true, ite_true, ite_false, loadAt, storeAt, setAt, hget, hget0, hset, hset0, List.getElem?_cons_zero, List.getElem?_cons_succ, List.set_cons_zero, List.set_cons_succ, Nat.add_zero, Nat.zero_add, Nat.reduceAdd, Nat.reduceSub, Nat.reduceLeDiff, Nat.reduceLT, Nat.reduceEqDiff, Nat.le_refl, and_self, and_true, true_and, mkAgg, toIms, List.drop_zero, List.drop_succ_cons, List.take_succ_cons, List.take_zero, List.length_append, binBool, unA, Bool.false_eq_true, if_false, partA, fillA, fillE, List.take_nil, Nat.zero_ne_one, Nat.one_ne_zero, not_false_eq_true, ne_eq, Nat.succ_ne_self, reduceCtorEq, Int.reduceEq, Int.reduceLT, Int.reduceLE, decide_true, decide_false, lenA, beq_self_eq_true, beq_true, beq_false, Bool.not_true, Bool.not_false, b_lss, b_gtr, b_leq, b_geq, b_eql, b_neq, b_add, b_sub, b_mul, s_eql, s_neq, y_ops, y_nil, y_cons, y_guard, y_some, y_drop, y_do, y_not, y_not0, c_call, c_clo, c_move, c_pick, c_alloc, c_box, c_build, c_bslice, c_load, c_store, c_nilCheck, c_bin, c_binB, c_un, c_i2i, c_i2f, c_f2i, c_s2b, c_b2s, c_strId, c_mkfunc, c_mkslice, c_slice, c_sliceStr, c_fieldAddr, c_field, c_indexSl, c_indexArr, c_elemArr, c_indexStr, c_extract, c_lenStr, c_lenSl, c_append, c_real, c_imag, c_complex, c_min, c_max, c_clear, hlen, h0, h1, h16, hc, h17, h12a, h18c, h12, hde, s11]
          exact hK _ _ (by simp only [List.length_set, hlen]) (by simp only [gs_same, gs_ne, List.length_set, Nat.reduceLT, Nat.reduceEqDiff, not_false_eq_true, hlen])

end Go.Abs.Seat
end
