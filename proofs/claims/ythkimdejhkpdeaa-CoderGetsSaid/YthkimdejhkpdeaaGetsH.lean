/- Part 8 of what the claim rests on. -/
import Derived.Test.YthkimdejhkpdeaaGetsA
import Derived.Test.YthkimdejhkpdeaaGetsB
import Derived.Test.YthkimdejhkpdeaaGetsC
import Derived.Test.YthkimdejhkpdeaaGetsD
import Derived.Test.YthkimdejhkpdeaaGetsE
import Derived.Test.YthkimdejhkpdeaaGetsF
import Derived.Test.YthkimdejhkpdeaaGetsG
section
set_option linter.unusedVariables false
set_option linter.unusedSimpArgs false
/- What the coder's functions come to: the reference's loop over a list. -/
set_option linter.unusedVariables false
set_option linter.unusedSimpArgs false
namespace Go.Abs.Seat
open Go.Proofs

theorem l68_list (b : List UInt8) (hb : b.length ≤ 4611686018427387904) (s il : Nat) (hs : b = [] ∨ s = 1) (x : KT) (d : Nat) (hd : d ≤ 6) (hok : okT x) (hrt : rightT x (d : Int) = true) (f : Nat → Int → GS) (H0 : Heap) (hil : il < H0.length) (ty : Int) (hty : ty ≠ 9)
    (hc : ∀ (p : Nat) (z : Int) (H : Heap), p ≤ b.length → 0 ≤ z → z ≤ 2000 → H[il]? = some (numO z) → L 68 [.im (.agg (encT x)), .im (.sl s (bytesC b)), .im (.int .i64 (p : Int)), .ptr il 0 0] H = some (.tup [.im (.agg (encV (f p z).v)), .im (.int .i64 ((f p z).p : Int)), .im (.int .i64 (f p z).e)], H.set il (numO (f p z).z)))
    (hg : ∀ (p : Nat) (z : Int), p ≤ b.length → 0 ≤ z → z ≤ 2000 → goodG b (f p z)) :
    ∀ (m p : Nat) (z : Int) (out : List VT) (tm : List AV) (H : Heap) (lv : AV), out.length + m = 64 → p ≤ b.length → 0 ≤ z → z ≤ 2000 → tm.length = 268 → tm.getD 1 undefA = .im (.sl s (bytesC b)) → tm.getD 2 undefA = .im (.int .i64 (p : Int)) → tm.getD 3 undefA = .ptr il 0 0 → tm.getD 4 undefA = .ptr H0.length 0 0 → tm.getD 8 undefA = .ptr (H0.length + 1) 0 0 → tm.getD 11 undefA = .ptr (H0.length + 2) 0 0 →
      H[il]? = some (numO z) → H[H0.length]? = some (.obj none [[.im (.int .i64 ty), .im (.sl 2 [encT x])]]) → H[H0.length + 1]? = some zeroO → H[H0.length + 2]? = some (.obj none [[.im (.int .i64 ty), .im (.int .i64 0), .im (.str []), .im (.cpx .f64 0 0), lv]]) → Gath 56 5 (H0.length + 3) lv H (encVs out) → H0.length + 3 ≤ H.length → (∀ i, i < H0.length → i ≠ il → H[i]? = H0[i]?) →
    ∃ e tm' H', Λ c68_0 tm H = some (e, tm', H') ∧ e = .ret ∧
      RetV H0 il (if (listG f b (leastT x) m p z out).2.2.1 = 0 then ⟨mkV ty 0 [] 0 0 (listG f b (leastT x) m p z out).1, (listG f b (leastT x) m p z out).2.1, 0, (listG f b (leastT x) m p z out).2.2.2⟩ else ⟨zeroV, (listG f b (leastT x) m p z out).2.1, (listG f b (leastT x) m p z out).2.2.1, (listG f b (leastT x) m p z out).2.2.2⟩) tm' H' := by
  have hle := least_le d x hrt
  have hpow := pow36
  have c67 := fun H => s67 d x (by omega) hok hrt H
  have hl729 : leastT x ≤ 2187 := by have := pow3 d (by omega); omega
  have hdty : decide (ty = 9) = false := decide_eq_false hty
  have hbl := bytesC_len b
  have hi0 : idx (.im (.int .i64 0)) 1 = some 0 := rfl
  have gb : ∀ {p : Nat} {c : UInt8}, b[p]? = some c → s = 1 ∧ p < b.length := fun {p c} h => by
    have h1 := (List.getElem?_eq_some_iff.1 h).1
    refine ⟨?_, h1⟩
    rcases hs with h | h
    · subst h; simp at h1
    · exact h
  intro m
  induction m with
  | zero =>
    intro p z out tm H lv ho hp hz0 hz1 hlen h1 h2 h3 h4 h8 h11 oil oA oZ oV hG hHl hlow
    have hill := (List.getElem?_eq_some_iff.1 oil).1
    have retq : ∀ (p : Nat) (e z : Int) (tm' : List AV) (H' : Heap), tm'.getD 8 undefA = .ptr (H0.length + 1) 0 0 → tm'.getD 9 undefA = .im (.int .i64 (p : Int)) → tm'.getD 10 undefA = .im (.int .i64 e) → H'[H0.length + 1]? = some zeroO → H'[il]? = some (numO z) → (∀ i, i < H0.length → i ≠ il → H'[i]? = H0[i]?) → H0.length ≤ H'.length → RetV H0 il ⟨zeroV, p, e, z⟩ tm' H' :=
      fun p e z tm' H' a1 a2 a3 a4 a5 a6 a7 => RetQ.v ⟨a1, a2, a3, a4, a5, a7, a6⟩
    have hvc : lv = AV.nils ∧ out = [] ∨ ∃ tok, lv = .asl 5 (encVs out) tok ∧ out ≠ [] := by
      rcases Gath.lv hG with h | h | h
      · exact .inl h
      · exact .inr h
      · rcases hG with ⟨he, hl⟩ | ⟨he, tok, _, hl, _⟩ <;> simp [h] at hl
    have hel : (encVs out).length = out.length := by rw [encVs_map]; simp
    have hlA : lenA lv = some out.length := by
      rcases hvc with ⟨rfl, rfl⟩ | ⟨tok, rfl, _⟩
      · rfl
      · simp [lenA, hel]
    rw [l68_0]
    simp only [listG]
    have hcs : b[p]? = none ∨ ∃ c, b[p]? = some c := by cases b[p]? with
      | none => exact .inl rfl
      | some c => exact .inr ⟨c, rfl⟩
    rcases hcs with hbp | ⟨c, hbp⟩
    · simp only [hbp]
      have hge : decide ((b.length : Int) ≤ (p : Int)) = true := decide_eq_true (by have := List.getElem?_eq_none_iff.1 hbp; omega)
      rw [if_neg (by decide)]
      simp only [zeroO] at oZ
      simp only [b68_0, x_seq, x_block, x_skip, x_label, x_cond, x_exit, x_goto, x_ret, k_normal, k_exit, k_goto, k_ret, b_normal, b_exit, b_goto, b_ret, wantedA, aop, ev, putA, List.length_cons, List.length_nil, List.replicate, List.cons_append, List.nil_append, List.append_nil, List.append_assoc, gs_same, gs_ne, gq_same, gq_ne, List.length_set, List.map_cons, List.map_nil, cellsOf, List.all_cons, List.all_nil, cellOk, boxTy, Bool.and_true, Bool.and_self, if_true, ite_true, ite_false, loadAt, storeAt, setAt, hget, hget0, hset, hset0, List.getElem?_cons_zero, List.getElem?_cons_succ, List.set_cons_zero, List.set_cons_succ, Nat.add_zero, Nat.zero_add, Nat.reduceAdd, Nat.reduceSub, Nat.reduceLeDiff, Nat.reduceLT, Nat.reduceEqDiff, Nat.le_refl, and_self, and_true, true_and, mkAgg, toIms, List.drop_zero, List.drop_succ_cons, List.take_succ_cons, List.take_zero, List.length_append, binBool, unA, Bool.false_eq_true, if_false, partA, fillA, fillE, List.take_nil, Nat.zero_ne_one, Nat.one_ne_zero, not_false_eq_true, ne_eq, Nat.succ_ne_self, reduceCtorEq, Int.reduceEq, Int.reduceLT, Int.reduceLE, decide_true, decide_false, beq_self_eq_true, beq_true, beq_false, Bool.not_true, Bool.not_false, b_lss, b_gtr, b_leq, b_geq, b_eql, b_neq, b_add, b_sub, b_mul, s_eql, s_neq, y_ops, y_nil, y_cons, y_guard, y_some, y_drop, y_do, y_not, y_not0, c_call, c_clo, c_move, c_pick, c_alloc, c_box, c_build, c_bslice, c_load, c_store, c_nilCheck, c_bin, c_binB, c_un, c_i2i, c_i2f, c_f2i, c_s2b, c_b2s, c_strId, c_mkfunc, c_mkslice, c_slice, c_sliceStr, c_fieldAddr, c_field, c_indexSl, c_indexArr, c_elemArr, c_indexStr, c_extract, c_lenStr, c_lenSl, c_append, c_real, c_imag, c_complex, c_min, c_max, c_clear, z_ops, z_nil, z_cons, z_guard, z_some, z_drop, z_do, z_not, z_not0, pairK, forall_eq_or_imp, stays, loadOf, List.reverse_cons, List.reverse_nil, List.mem_cons, List.not_mem_nil, or_false, forall_eq, true_or, or_true, Bool.true_and, lenA_sl, hlen, h1, h2, h8, hbl, hge, oZ]
      refine ⟨_, _, _, rfl, rfl, retq _ _ _ _ _ ?_ ?_ ?_ ?_ ?_ ?_ ?_⟩
      · simp only [gs_same, gs_ne, List.length_set, Nat.reduceLT, Nat.reduceEqDiff, not_false_eq_true, hlen, h8]
      · simp only [gs_same, gs_ne, List.length_set, Nat.reduceLT, Nat.reduceEqDiff, not_false_eq_true, hlen]
      · simp only [gs_same, gs_ne, List.length_set, Nat.reduceLT, Nat.reduceEqDiff, not_false_eq_true, hlen]
      · rw [List.getElem?_set_self (by omega)]; rfl
      · rw [List.getElem?_set_ne (by omega)]; exact oil
      · exact fun j hj hne => by rw [List.getElem?_set_ne (by omega)]; exact hlow j hj hne
      · simp; omega
    · simp only [hbp]
      obtain ⟨rfl, hpl⟩ := gb hbp
      have hge : decide ((b.length : Int) ≤ (p : Int)) = false := decide_eq_false (by omega)
      have hgb := bytesC_get hbp
      have hix := idx_nat (n := b.length) (i := p) hpl
      have hby : decide (((c.toNat : Nat) : Int) = 0) = decide (c = 0) := byte_eq c 0
      have hwr := wrap_nat (i := p) (by omega)
      by_cases hc0 : c = 0
      · rw [decide_eq_true hc0] at hby
        simp only [if_pos hc0]
        simp only [if_true]
        have hres : ∀ (tm' : List AV) (H' : Heap), tm'.getD 8 undefA = .ptr (H0.length + 1) 0 0 → tm'.getD 9 undefA = .im (.int .i64 ((p + 1 : Nat) : Int)) → tm'.getD 10 undefA = .im (.int .i64 0) → H' = H.set (H0.length + 1) (.obj none [[.im (.int .i64 ty), .im (.int .i64 0), .im (.str []), .im (.cpx .f64 0 0), lv]]) → RetV H0 il ⟨mkV ty 0 [] 0 0 out, p + 1, 0, z⟩ tm' H' := fun tm' H' a1 a2 a3 a4 => by
          subst a4
          exact ⟨a1, a2, a3, by rw [List.getElem?_set_ne (by omega)]; exact oil, ⟨by simp; omega, fun j hj hne => by rw [List.getElem?_set_ne (by omega)]; exact hlow j hj hne⟩, ty, 0, [], 0, 0, out, lv, rfl, Gath.lv hG, List.getElem?_set_self (by omega)⟩
        simp only [zeroO] at oZ
        rcases hvc with ⟨rfl, rfl⟩ | ⟨tok, rfl, _⟩
        all_goals simp only [b68_0, x_seq, x_block, x_skip, x_label, x_cond, x_exit, x_goto, x_ret, k_normal, k_exit, k_goto, k_ret, b_normal, b_exit, b_goto, b_ret, wantedA, aop, ev, putA, List.length_cons, List.length_nil, List.replicate, List.cons_append, List.nil_append, List.append_nil, List.append_assoc, gs_same, gs_ne, gq_same, gq_ne, List.length_set, List.map_cons, List.map_nil, cellsOf, List.all_cons, List.all_nil, cellOk, boxTy, Bool.and_true, Bool.and_self, if_true, ite_true, ite_false, loadAt, storeAt, setAt, hget, hget0, hset, hset0, List.getElem?_cons_zero, List.getElem?_cons_succ, List.set_cons_zero, List.set_cons_succ, Nat.add_zero, Nat.zero_add, Nat.reduceAdd, Nat.reduceSub, Nat.reduceLeDiff, Nat.reduceLT, Nat.reduceEqDiff, Nat.le_refl, and_self, and_true, true_and, mkAgg, toIms, List.drop_zero, List.drop_succ_cons, List.take_succ_cons, List.take_zero, List.length_append, binBool, unA, Bool.false_eq_true, if_false, partA, fillA, fillE, List.take_nil, Nat.zero_ne_one, Nat.one_ne_zero, not_false_eq_true, ne_eq, Nat.succ_ne_self, reduceCtorEq, Int.reduceEq, Int.reduceLT, Int.reduceLE, decide_true, decide_false, beq_self_eq_true, beq_true, beq_false, Bool.not_true, Bool.not_false, b_lss, b_gtr, b_leq, b_geq, b_eql, b_neq, b_add, b_sub, b_mul, s_eql, s_neq, y_ops, y_nil, y_cons, y_guard, y_some, y_drop, y_do, y_not, y_not0, c_call, c_clo, c_move, c_pick, c_alloc, c_box, c_build, c_bslice, c_load, c_store, c_nilCheck, c_bin, c_binB, c_un, c_i2i, c_i2f, c_f2i, c_s2b, c_b2s, c_strId, c_mkfunc, c_mkslice, c_slice, c_sliceStr, c_fieldAddr, c_field, c_indexSl, c_indexArr, c_elemArr, c_indexStr, c_extract, c_lenStr, c_lenSl, c_append, c_real, c_imag, c_complex, c_min, c_max, c_clear, z_ops, z_nil, z_cons, z_guard, z_some, z_drop, z_do, z_not, z_not0, pairK, forall_eq_or_imp, stays, loadOf, List.reverse_cons, List.reverse_nil, List.mem_cons, List.not_mem_nil, or_false, forall_eq, true_or, or_true, Bool.true_and, lenA_sl, hlen, h1, h2, h4, h8, h11, hbl, hge, hix, hgb, byteDat, hby, oA, oV, oZ, hdty, hwr]
        all_goals exact ⟨_, _, _, rfl, rfl, hres _ _ (by simp only [gs_same, gs_ne, List.length_set, Nat.reduceLT, Nat.reduceEqDiff, not_false_eq_true, hlen, h8]) (by simp only [gs_same, gs_ne, List.length_set, Nat.reduceLT, Nat.reduceEqDiff, not_false_eq_true, hlen]) (by simp only [gs_same, gs_ne, List.length_set, Nat.reduceLT, Nat.reduceEqDiff, not_false_eq_true, hlen]) rfl⟩
      · rw [decide_eq_false hc0] at hby
        simp only [if_neg hc0]
        rw [if_neg (by decide)]
        simp only [zeroO] at oZ
        obtain ⟨xk, xs, xl⟩ := x
        simp only [encT] at c67 oA
        simp only [numO] at oil
        by_cases hgt : 1 < c.toNat
        · have hdg : decide (1 < ((c.toNat : Nat) : Int)) = true := decide_eq_true (by omega)
          simp only [b68_0, x_seq, x_block, x_skip, x_label, x_cond, x_exit, x_goto, x_ret, k_normal, k_exit, k_goto, k_ret, b_normal, b_exit, b_goto, b_ret, wantedA, aop, ev, putA, List.length_cons, List.length_nil, List.replicate, List.cons_append, List.nil_append, List.append_nil, List.append_assoc, gs_same, gs_ne, gq_same, gq_ne, List.length_set, List.map_cons, List.map_nil, cellsOf, List.all_cons, List.all_nil, cellOk, boxTy, Bool.and_true, Bool.and_self, if_true, ite_true, ite_false, loadAt, storeAt, setAt, hget, hget0, hset, hset0, List.getElem?_cons_zero, List.getElem?_cons_succ, List.set_cons_zero, List.set_cons_succ, Nat.add_zero, Nat.zero_add, Nat.reduceAdd, Nat.reduceSub, Nat.reduceLeDiff, Nat.reduceLT, Nat.reduceEqDiff, Nat.le_refl, and_self, and_true, true_and, mkAgg, toIms, List.drop_zero, List.drop_succ_cons, List.take_succ_cons, List.take_zero, List.length_append, binBool, unA, Bool.false_eq_true, if_false, partA, fillA, fillE, List.take_nil, Nat.zero_ne_one, Nat.one_ne_zero, not_false_eq_true, ne_eq, Nat.succ_ne_self, reduceCtorEq, Int.reduceEq, Int.reduceLT, Int.reduceLE, decide_true, decide_false, beq_self_eq_true, beq_true, beq_false, Bool.not_true, Bool.not_false, b_lss, b_gtr, b_leq, b_geq, b_eql, b_neq, b_add, b_sub, b_mul, s_eql, s_neq, y_ops, y_nil, y_cons, y_guard, y_some, y_drop, y_do, y_not, y_not0, c_call, c_clo, c_move, c_pick, c_alloc, c_box, c_build, c_bslice, c_load, c_store, c_nilCheck, c_bin, c_binB, c_un, c_i2i, c_i2f, c_f2i, c_s2b, c_b2s, c_strId, c_mkfunc, c_mkslice, c_slice, c_sliceStr, c_fieldAddr, c_field, c_indexSl, c_indexArr, c_elemArr, c_indexStr, c_extract, c_lenStr, c_lenSl, c_append, c_real, c_imag, c_complex, c_min, c_max, c_clear, z_ops, z_nil, z_cons, z_guard, z_some, z_drop, z_do, z_not, z_not0, pairK, forall_eq_or_imp, stays, loadOf, List.reverse_cons, List.reverse_nil, List.mem_cons, List.not_mem_nil, or_false, forall_eq, true_or, or_true, Bool.true_and, lenA_sl, hlen, h1, h2, h3, h4, h8, h11, hbl, hge, hix, hgb, byteDat, hby, oA, oV, oZ, hdg]
          refine ⟨_, _, _, rfl, rfl, retq _ _ _ _ _ ?_ ?_ ?_ ?_ ?_ ?_ ?_⟩
          · simp only [gs_same, gs_ne, List.length_set, Nat.reduceLT, Nat.reduceEqDiff, not_false_eq_true, hlen, h8]
          · simp only [gs_same, gs_ne, List.length_set, Nat.reduceLT, Nat.reduceEqDiff, not_false_eq_true, hlen]
          · simp only [gs_same, gs_ne, List.length_set, Nat.reduceLT, Nat.reduceEqDiff, not_false_eq_true, hlen]
          · rw [List.getElem?_set_self (by omega)]; rfl
          · rw [List.getElem?_set_ne (by omega)]; exact oil
          · exact fun j hj hne => by rw [List.getElem?_set_ne (by omega)]; exact hlow j hj hne
          · simp; omega
        · have hdg : decide (1 < ((c.toNat : Nat) : Int)) = false := decide_eq_false (by omega)
          have hd64 : decide ((out.length : Int) = 64) = true := decide_eq_true (by omega)
          simp only [b68_0, x_seq, x_block, x_skip, x_label, x_cond, x_exit, x_goto, x_ret, k_normal, k_exit, k_goto, k_ret, b_normal, b_exit, b_goto, b_ret, wantedA, aop, ev, putA, List.length_cons, List.length_nil, List.replicate, List.cons_append, List.nil_append, List.append_nil, List.append_assoc, gs_same, gs_ne, gq_same, gq_ne, List.length_set, List.map_cons, List.map_nil, cellsOf, List.all_cons, List.all_nil, cellOk, boxTy, Bool.and_true, Bool.and_self, if_true, ite_true, ite_false, loadAt, storeAt, setAt, hget, hget0, hset, hset0, List.getElem?_cons_zero, List.getElem?_cons_succ, List.set_cons_zero, List.set_cons_succ, Nat.add_zero, Nat.zero_add, Nat.reduceAdd, Nat.reduceSub, Nat.reduceLeDiff, Nat.reduceLT, Nat.reduceEqDiff, Nat.le_refl, and_self, and_true, true_and, mkAgg, toIms, List.drop_zero, List.drop_succ_cons, List.take_succ_cons, List.take_zero, List.length_append, binBool, unA, Bool.false_eq_true, if_false, partA, fillA, fillE, List.take_nil, Nat.zero_ne_one, Nat.one_ne_zero, not_false_eq_true, ne_eq, Nat.succ_ne_self, reduceCtorEq, Int.reduceEq, Int.reduceLT, Int.reduceLE, decide_true, decide_false, beq_self_eq_true, beq_true, beq_false, Bool.not_true, Bool.not_false, b_lss, b_gtr, b_leq, b_geq, b_eql, b_neq, b_add, b_sub, b_mul, s_eql, s_neq, y_ops, y_nil, y_cons, y_guard, y_some, y_drop, y_do, y_not, y_not0, c_call, c_clo, c_move, c_pick, c_alloc, c_box, c_build, c_bslice, c_load, c_store, c_nilCheck, c_bin, c_binB, c_un, c_i2i, c_i2f, c_f2i, c_s2b, c_b2s, c_strId, c_mkfunc, c_mkslice, c_slice, c_sliceStr, c_fieldAddr, c_field, c_indexSl, c_indexArr, c_elemArr, c_indexStr, c_extract, c_lenStr, c_lenSl, c_append, c_real, c_imag, c_complex, c_min, c_max, c_clear, z_ops, z_nil, z_cons, z_guard, z_some, z_drop, z_do, z_not, z_not0, pairK, forall_eq_or_imp, stays, loadOf, List.reverse_cons, List.reverse_nil, List.mem_cons, List.not_mem_nil, or_false, forall_eq, true_or, or_true, Bool.true_and, lenA_sl, hlen, h1, h2, h3, h4, h8, h11, hbl, hge, hix, hgb, byteDat, hby, oA, oV, oZ, hdg, hlA, hd64]
          refine ⟨_, _, _, rfl, rfl, retq _ _ _ _ _ ?_ ?_ ?_ ?_ ?_ ?_ ?_⟩
          · simp only [gs_same, gs_ne, List.length_set, Nat.reduceLT, Nat.reduceEqDiff, not_false_eq_true, hlen, h8]
          · simp only [gs_same, gs_ne, List.length_set, Nat.reduceLT, Nat.reduceEqDiff, not_false_eq_true, hlen]
          · simp only [gs_same, gs_ne, List.length_set, Nat.reduceLT, Nat.reduceEqDiff, not_false_eq_true, hlen]
          · rw [List.getElem?_set_self (by omega)]; rfl
          · rw [List.getElem?_set_ne (by omega)]; exact oil
          · exact fun j hj hne => by rw [List.getElem?_set_ne (by omega)]; exact hlow j hj hne
          · simp; omega
  | succ m ih =>
    intro p z out tm H lv ho hp hz0 hz1 hlen h1 h2 h3 h4 h8 h11 oil oA oZ oV hG hHl hlow
    have hill := (List.getElem?_eq_some_iff.1 oil).1
    have retq : ∀ (p : Nat) (e z : Int) (tm' : List AV) (H' : Heap), tm'.getD 8 undefA = .ptr (H0.length + 1) 0 0 → tm'.getD 9 undefA = .im (.int .i64 (p : Int)) → tm'.getD 10 undefA = .im (.int .i64 e) → H'[H0.length + 1]? = some zeroO → H'[il]? = some (numO z) → (∀ i, i < H0.length → i ≠ il → H'[i]? = H0[i]?) → H0.length ≤ H'.length → RetV H0 il ⟨zeroV, p, e, z⟩ tm' H' :=
      fun p e z tm' H' a1 a2 a3 a4 a5 a6 a7 => RetQ.v ⟨a1, a2, a3, a4, a5, a7, a6⟩
    have hvc : lv = AV.nils ∧ out = [] ∨ ∃ tok, lv = .asl 5 (encVs out) tok ∧ out ≠ [] := by
      rcases Gath.lv hG with h | h | h
      · exact .inl h
      · exact .inr h
      · rcases hG with ⟨he, hl⟩ | ⟨he, tok, _, hl, _⟩ <;> simp [h] at hl
    have hel : (encVs out).length = out.length := by rw [encVs_map]; simp
    have hlA : lenA lv = some out.length := by
      rcases hvc with ⟨rfl, rfl⟩ | ⟨tok, rfl, _⟩
      · rfl
      · simp [lenA, hel]
    rw [l68_0]
    simp only [listG]
    have hcs : b[p]? = none ∨ ∃ c, b[p]? = some c := by cases b[p]? with
      | none => exact .inl rfl
      | some c => exact .inr ⟨c, rfl⟩
    rcases hcs with hbp | ⟨c, hbp⟩
    · simp only [hbp]
      have hge : decide ((b.length : Int) ≤ (p : Int)) = true := decide_eq_true (by have := List.getElem?_eq_none_iff.1 hbp; omega)
      rw [if_neg (by decide)]
      simp only [zeroO] at oZ
      simp only [b68_0, x_seq, x_block, x_skip, x_label, x_cond, x_exit, x_goto, x_ret, k_normal, k_exit, k_goto, k_ret, b_normal, b_exit, b_goto, b_ret, wantedA, aop, ev, putA, List.length_cons, List.length_nil, List.replicate, List.cons_append, List.nil_append, List.append_nil, List.append_assoc, gs_same, gs_ne, gq_same, gq_ne, List.length_set, List.map_cons, List.map_nil, cellsOf, List.all_cons, List.all_nil, cellOk, boxTy, Bool.and_true, Bool.and_self, if_true, ite_true, ite_false, loadAt, storeAt, setAt, hget, hget0, hset, hset0, List.getElem?_cons_zero, List.getElem?_cons_succ, List.set_cons_zero, List.set_cons_succ, Nat.add_zero, Nat.zero_add, Nat.reduceAdd, Nat.reduceSub, Nat.reduceLeDiff, Nat.reduceLT, Nat.reduceEqDiff, Nat.le_refl, and_self, and_true, true_and, mkAgg, toIms, List.drop_zero, List.drop_succ_cons, List.take_succ_cons, List.take_zero, List.length_append, binBool, unA, Bool.false_eq_true, if_false, partA, fillA, fillE, List.take_nil, Nat.zero_ne_one, Nat.one_ne_zero, not_false_eq_true, ne_eq, Nat.succ_ne_self, reduceCtorEq, Int.reduceEq, Int.reduceLT, Int.reduceLE, decide_true, decide_false, beq_self_eq_true, beq_true, beq_false, Bool.not_true, Bool.not_false, b_lss, b_gtr, b_leq, b_geq, b_eql, b_neq, b_add, b_sub, b_mul, s_eql, s_neq, y_ops, y_nil, y_cons, y_guard, y_some, y_drop, y_do, y_not, y_not0, c_call, c_clo, c_move, c_pick, c_alloc, c_box, c_build, c_bslice, c_load, c_store, c_nilCheck, c_bin, c_binB, c_un, c_i2i, c_i2f, c_f2i, c_s2b, c_b2s, c_strId, c_mkfunc, c_mkslice, c_slice, c_sliceStr, c_fieldAddr, c_field, c_indexSl, c_indexArr, c_elemArr, c_indexStr, c_extract, c_lenStr, c_lenSl, c_append, c_real, c_imag, c_complex, c_min, c_max, c_clear, z_ops, z_nil, z_cons, z_guard, z_some, z_drop, z_do, z_not, z_not0, pairK, forall_eq_or_imp, stays, loadOf, List.reverse_cons, List.reverse_nil, List.mem_cons, List.not_mem_nil, or_false, forall_eq, true_or, or_true, Bool.true_and, lenA_sl, hlen, h1, h2, h8, hbl, hge, oZ]
      refine ⟨_, _, _, rfl, rfl, retq _ _ _ _ _ ?_ ?_ ?_ ?_ ?_ ?_ ?_⟩
      · simp only [gs_same, gs_ne, List.length_set, Nat.reduceLT, Nat.reduceEqDiff, not_false_eq_true, hlen, h8]
      · simp only [gs_same, gs_ne, List.length_set, Nat.reduceLT, Nat.reduceEqDiff, not_false_eq_true, hlen]
      · simp only [gs_same, gs_ne, List.length_set, Nat.reduceLT, Nat.reduceEqDiff, not_false_eq_true, hlen]
      · rw [List.getElem?_set_self (by omega)]; rfl
      · rw [List.getElem?_set_ne (by omega)]; exact oil
      · exact fun j hj hne => by rw [List.getElem?_set_ne (by omega)]; exact hlow j hj hne
      · simp; omega
    · simp only [hbp]
      obtain ⟨rfl, hpl⟩ := gb hbp
      have hge : decide ((b.length : Int) ≤ (p : Int)) = false := decide_eq_false (by omega)
      have hgb := bytesC_get hbp
      have hix := idx_nat (n := b.length) (i := p) hpl
      have hby : decide (((c.toNat : Nat) : Int) = 0) = decide (c = 0) := byte_eq c 0
      have hwr := wrap_nat (i := p) (by omega)
      by_cases hc0 : c = 0
      · rw [decide_eq_true hc0] at hby
        simp only [if_pos hc0]
        simp only [if_true]
        have hres : ∀ (tm' : List AV) (H' : Heap), tm'.getD 8 undefA = .ptr (H0.length + 1) 0 0 → tm'.getD 9 undefA = .im (.int .i64 ((p + 1 : Nat) : Int)) → tm'.getD 10 undefA = .im (.int .i64 0) → H' = H.set (H0.length + 1) (.obj none [[.im (.int .i64 ty), .im (.int .i64 0), .im (.str []), .im (.cpx .f64 0 0), lv]]) → RetV H0 il ⟨mkV ty 0 [] 0 0 out, p + 1, 0, z⟩ tm' H' := fun tm' H' a1 a2 a3 a4 => by
          subst a4
          exact ⟨a1, a2, a3, by rw [List.getElem?_set_ne (by omega)]; exact oil, ⟨by simp; omega, fun j hj hne => by rw [List.getElem?_set_ne (by omega)]; exact hlow j hj hne⟩, ty, 0, [], 0, 0, out, lv, rfl, Gath.lv hG, List.getElem?_set_self (by omega)⟩
        simp only [zeroO] at oZ
        rcases hvc with ⟨rfl, rfl⟩ | ⟨tok, rfl, _⟩
        all_goals simp only [b68_0, x_seq, x_block, x_skip, x_label, x_cond, x_exit, x_goto, x_ret, k_normal, k_exit, k_goto, k_ret, b_normal, b_exit, b_goto, b_ret, wantedA, aop, ev, putA, List.length_cons, List.length_nil, List.replicate, List.cons_append, List.nil_append, List.append_nil, List.append_assoc, gs_same, gs_ne, gq_same, gq_ne, List.length_set, List.map_cons, List.map_nil, cellsOf, List.all_cons, List.all_nil, cellOk, boxTy, Bool.and_true, Bool.and_self, if_true, ite_true, ite_false, loadAt, storeAt, setAt, hget, hget0, hset, hset0, List.getElem?_cons_zero, List.getElem?_cons_succ, List.set_cons_zero, List.set_cons_succ, Nat.add_zero, Nat.zero_add, Nat.reduceAdd, Nat.reduceSub, Nat.reduceLeDiff, Nat.reduceLT, Nat.reduceEqDiff, Nat.le_refl, and_self, and_true, true_and, mkAgg, toIms, List.drop_zero, List.drop_succ_cons, List.take_succ_cons, List.take_zero, List.length_append, binBool, unA, Bool.false_eq_true, if_false, partA, fillA, fillE, List.take_nil, Nat.zero_ne_one, Nat.one_ne_zero, not_false_eq_true, ne_eq, Nat.succ_ne_self, reduceCtorEq, Int.reduceEq, Int.reduceLT, Int.reduceLE, decide_true, decide_false, beq_self_eq_true, beq_true, beq_false, Bool.not_true, Bool.not_false, b_lss, b_gtr, b_leq, b_geq, b_eql, b_neq, b_add, b_sub, b_mul, s_eql, s_neq, y_ops, y_nil, y_cons, y_guard, y_some, y_drop, y_do, y_not, y_not0, c_call, c_clo, c_move, c_pick, c_alloc, c_box, c_build, c_bslice, c_load, c_store, c_nilCheck, c_bin, c_binB, c_un, c_i2i, c_i2f, c_f2i, c_s2b, c_b2s, c_strId, c_mkfunc, c_mkslice, c_slice, c_sliceStr, c_fieldAddr, c_field, c_indexSl, c_indexArr, c_elemArr, c_indexStr, c_extract, c_lenStr, c_lenSl, c_append, c_real, c_imag, c_complex, c_min, c_max, c_clear, z_ops, z_nil, z_cons, z_guard, z_some, z_drop, z_do, z_not, z_not0, pairK, forall_eq_or_imp, stays, loadOf, List.reverse_cons, List.reverse_nil, List.mem_cons, List.not_mem_nil, or_false, forall_eq, true_or, or_true, Bool.true_and, lenA_sl, hlen, h1, h2, h4, h8, h11, hbl, hge, hix, hgb, byteDat, hby, oA, oV, oZ, hdty, hwr]
        all_goals exact ⟨_, _, _, rfl, rfl, hres _ _ (by simp only [gs_same, gs_ne, List.length_set, Nat.reduceLT, Nat.reduceEqDiff, not_false_eq_true, hlen, h8]) (by simp only [gs_same, gs_ne, List.length_set, Nat.reduceLT, Nat.reduceEqDiff, not_false_eq_true, hlen]) (by simp only [gs_same, gs_ne, List.length_set, Nat.reduceLT, Nat.reduceEqDiff, not_false_eq_true, hlen]) rfl⟩
      · rw [decide_eq_false hc0] at hby
        simp only [if_neg hc0]
        by_cases hbig : 1 < c.toNat ∨ 2000 < z + leastT x
        · simp only [if_pos hbig]
          rw [if_neg (by decide)]
          simp only [zeroO] at oZ
          obtain ⟨xk, xs, xl⟩ := x
          simp only [encT] at c67 oA
          simp only [numO] at oil
          by_cases hgt : 1 < c.toNat
          · have hdg : decide (1 < ((c.toNat : Nat) : Int)) = true := decide_eq_true (by omega)
            simp only [b68_0, x_seq, x_block, x_skip, x_label, x_cond, x_exit, x_goto, x_ret, k_normal, k_exit, k_goto, k_ret, b_normal, b_exit, b_goto, b_ret, wantedA, aop, ev, putA, List.length_cons, List.length_nil, List.replicate, List.cons_append, List.nil_append, List.append_nil, List.append_assoc, gs_same, gs_ne, gq_same, gq_ne, List.length_set, List.map_cons, List.map_nil, cellsOf, List.all_cons, List.all_nil, cellOk, boxTy, Bool.and_true, Bool.and_self, if_true, ite_true, ite_false, loadAt, storeAt, setAt, hget, hget0, hset, hset0, List.getElem?_cons_zero, List.getElem?_cons_succ, List.set_cons_zero, List.set_cons_succ, Nat.add_zero, Nat.zero_add, Nat.reduceAdd, Nat.reduceSub, Nat.reduceLeDiff, Nat.reduceLT, Nat.reduceEqDiff, Nat.le_refl, and_self, and_true, true_and, mkAgg, toIms, List.drop_zero, List.drop_succ_cons, List.take_succ_cons, List.take_zero, List.length_append, binBool, unA, Bool.false_eq_true, if_false, partA, fillA, fillE, List.take_nil, Nat.zero_ne_one, Nat.one_ne_zero, not_false_eq_true, ne_eq, Nat.succ_ne_self, reduceCtorEq, Int.reduceEq, Int.reduceLT, Int.reduceLE, decide_true, decide_false, beq_self_eq_true, beq_true, beq_false, Bool.not_true, Bool.not_false, b_lss, b_gtr, b_leq, b_geq, b_eql, b_neq, b_add, b_sub, b_mul, s_eql, s_neq, y_ops, y_nil, y_cons, y_guard, y_some, y_drop, y_do, y_not, y_not0, c_call, c_clo, c_move, c_pick, c_alloc, c_box, c_build, c_bslice, c_load, c_store, c_nilCheck, c_bin, c_binB, c_un, c_i2i, c_i2f, c_f2i, c_s2b, c_b2s, c_strId, c_mkfunc, c_mkslice, c_slice, c_sliceStr, c_fieldAddr, c_field, c_indexSl, c_indexArr, c_elemArr, c_indexStr, c_extract, c_lenStr, c_lenSl, c_append, c_real, c_imag, c_complex, c_min, c_max, c_clear, z_ops, z_nil, z_cons, z_guard, z_some, z_drop, z_do, z_not, z_not0, pairK, forall_eq_or_imp, stays, loadOf, List.reverse_cons, List.reverse_nil, List.mem_cons, List.not_mem_nil, or_false, forall_eq, true_or, or_true, Bool.true_and, lenA_sl, hlen, h1, h2, h3, h4, h8, h11, hbl, hge, hix, hgb, byteDat, hby, oA, oV, oZ, hdg]
            refine ⟨_, _, _, rfl, rfl, retq _ _ _ _ _ ?_ ?_ ?_ ?_ ?_ ?_ ?_⟩
            · simp only [gs_same, gs_ne, List.length_set, Nat.reduceLT, Nat.reduceEqDiff, not_false_eq_true, hlen, h8]
            · simp only [gs_same, gs_ne, List.length_set, Nat.reduceLT, Nat.reduceEqDiff, not_false_eq_true, hlen]
            · simp only [gs_same, gs_ne, List.length_set, Nat.reduceLT, Nat.reduceEqDiff, not_false_eq_true, hlen]
            · rw [List.getElem?_set_self (by omega)]; rfl
            · rw [List.getElem?_set_ne (by omega)]; exact oil
            · exact fun j hj hne => by rw [List.getElem?_set_ne (by omega)]; exact hlow j hj hne
            · simp; omega
          · have hdg : decide (1 < ((c.toNat : Nat) : Int)) = false := decide_eq_false (by omega)
            have hd64 : decide ((out.length : Int) = 64) = false := decide_eq_false (by omega)
            have hz := hbig.resolve_left hgt
            generalize leastT (KT.mk xk xs xl) = l at *
            have hwz := Go.Abs.Seat.wrap_small (z + l) (by omega)
            have hdz : decide (2000 < z + l) = true := decide_eq_true hz
            simp only [b68_0, x_seq, x_block, x_skip, x_label, x_cond, x_exit, x_goto, x_ret, k_normal, k_exit, k_goto, k_ret, b_normal, b_exit, b_goto, b_ret, wantedA, aop, ev, putA, List.length_cons, List.length_nil, List.replicate, List.cons_append, List.nil_append, List.append_nil, List.append_assoc, gs_same, gs_ne, gq_same, gq_ne, List.length_set, List.map_cons, List.map_nil, cellsOf, List.all_cons, List.all_nil, cellOk, boxTy, Bool.and_true, Bool.and_self, if_true, ite_true, ite_false, loadAt, storeAt, setAt, hget, hget0, hset, hset0, List.getElem?_cons_zero, List.getElem?_cons_succ, List.set_cons_zero, List.set_cons_succ, Nat.add_zero, Nat.zero_add, Nat.reduceAdd, Nat.reduceSub, Nat.reduceLeDiff, Nat.reduceLT, Nat.reduceEqDiff, Nat.le_refl, and_self, and_true, true_and, mkAgg, toIms, List.drop_zero, List.drop_succ_cons, List.take_succ_cons, List.take_zero, List.length_append, binBool, unA, Bool.false_eq_true, if_false, partA, fillA, fillE, List.take_nil, Nat.zero_ne_one, Nat.one_ne_zero, not_false_eq_true, ne_eq, Nat.succ_ne_self, reduceCtorEq, Int.reduceEq, Int.reduceLT, Int.reduceLE, decide_true, decide_false, beq_self_eq_true, beq_true, beq_false, Bool.not_true, Bool.not_false, b_lss, b_gtr, b_leq, b_geq, b_eql, b_neq, b_add, b_sub, b_mul, s_eql, s_neq, y_ops, y_nil, y_cons, y_guard, y_some, y_drop, y_do, y_not, y_not0, c_call, c_clo, c_move, c_pick, c_alloc, c_box, c_build, c_bslice, c_load, c_store, c_nilCheck, c_bin, c_binB, c_un, c_i2i, c_i2f, c_f2i, c_s2b, c_b2s, c_strId, c_mkfunc, c_mkslice, c_slice, c_sliceStr, c_fieldAddr, c_field, c_indexSl, c_indexArr, c_elemArr, c_indexStr, c_extract, c_lenStr, c_lenSl, c_append, c_real, c_imag, c_complex, c_min, c_max, c_clear, z_ops, z_nil, z_cons, z_guard, z_some, z_drop, z_do, z_not, z_not0, pairK, forall_eq_or_imp, stays, loadOf, List.reverse_cons, List.reverse_nil, List.mem_cons, List.not_mem_nil, or_false, forall_eq, true_or, or_true, Bool.true_and, lenA_sl, hlen, h1, h2, h3, h4, h8, h11, hbl, hge, hix, hgb, byteDat, hby, oA, oV, oZ, oil, hi0, c67, hwz, hdz, hdg, hlA, hd64]
            refine ⟨_, _, _, rfl, rfl, retq _ _ _ _ _ ?_ ?_ ?_ ?_ ?_ ?_ ?_⟩
            · simp only [gs_same, gs_ne, List.length_set, Nat.reduceLT, Nat.reduceEqDiff, not_false_eq_true, hlen, h8]
            · simp only [gs_same, gs_ne, List.length_set, Nat.reduceLT, Nat.reduceEqDiff, not_false_eq_true, hlen]
            · simp only [gs_same, gs_ne, List.length_set, Nat.reduceLT, Nat.reduceEqDiff, not_false_eq_true, hlen]
            · rw [List.getElem?_set_self (by omega)]; rfl
            · rw [List.getElem?_set_ne (by omega)]; exact oil
            · exact fun j hj hne => by rw [List.getElem?_set_ne (by omega)]; exact hlow j hj hne
            · simp; omega
        · simp only [if_neg hbig]
          have hdg : decide (1 < ((c.toNat : Nat) : Int)) = false := decide_eq_false fun h => hbig (.inl (by omega))
          have hd64 : decide ((out.length : Int) = 64) = false := decide_eq_false (by omega)
          have hz2 : z + leastT x ≤ 2000 := Int.not_lt.1 fun h => hbig (.inr h)
          have hcall := hc (p + 1) (z + leastT x) (H.set il (numO (z + leastT x))) (by omega) (by omega) hz2 (List.getElem?_set_self hill)
          have hgg := hg (p + 1) (z + leastT x) (by omega) (by omega) hz2
          rw [List.set_set] at hcall
          have hwz := Go.Abs.Seat.wrap_small (z + leastT x) (by omega)
          have hdz : decide (2000 < z + leastT x) = false := decide_eq_false (by omega)
          have ihx := fun p z out => ih p z out
          generalize f (p + 1) (z + leastT x) = g at *
          generalize leastT x = l at *
          obtain ⟨v, p', e', z'⟩ := g
          obtain ⟨hp', hz0', hz1'⟩ := hgg
          simp only at hcall hp' hz0' hz1' ⊢
          have gA1 : ∀ (o : HO), (H.set il o)[H0.length]? = some (.obj none [[.im (.int .i64 ty), .im (.sl 2 [encT x])]]) := fun o => by rw [List.getElem?_set_ne (by omega)]; exact oA
          have gA : ∀ (o : HO) (M : Heap), (H.set il o ++ M)[H0.length]? = some (.obj none [[.im (.int .i64 ty), .im (.sl 2 [encT x])]]) := fun o M => by rw [get_app (by simp; omega), List.getElem?_set_ne (by omega)]; exact oA
          have gZ : ∀ (o : HO) (M : Heap), (H.set il o ++ M)[H0.length + 1]? = some zeroO := fun o M => by rw [get_app (by simp; omega), List.getElem?_set_ne (by omega)]; exact oZ
          have gV : ∀ (o : HO) (M : Heap), (H.set il o ++ M)[H0.length + 2]? = some (.obj none [[.im (.int .i64 ty), .im (.int .i64 0), .im (.str []), .im (.cpx .f64 0 0), lv]]) := fun o M => by rw [get_app (by simp; omega), List.getElem?_set_ne (by omega)]; exact oV
          have gX : ∀ (o y : HO), (H.set il o ++ [y])[H.length]? = some y := fun o y => by
            have := Go.Abs.hget0 (H := H.set il o) (l := [y])
            rwa [List.length_set] at this
          have sX : ∀ (o y x : HO), (H.set il o ++ [y]).set H.length x = H.set il o ++ [x] := fun o y x => by
            have := Go.Abs.hset0 (H := H.set il o) (l := [y]) (x := x)
            rwa [List.length_set] at this
          obtain ⟨xk, xs, xl⟩ := x
          obtain ⟨vk, vi, vt, va, vb, vs, vl⟩ := v
          simp only [encT, encV] at hcall c67 oA gA gA1
          have oil' := oil
          simp only [numO] at oil' hcall
          by_cases he : e' = 0
          · subst he
            simp only [if_true]
            have hea : encVs (out ++ [VT.mk vk vi vt va vb vs vl]) = encVs out ++ [[.int .i64 vk, .int .i64 vi, .str vt, .cpx .f64 va vb, .sl vs (encVs vl)]] := by simp [encVs_map, encV]
            obtain ⟨tok, H4, hap, hG4, hl4, hlow4, hob4⟩ := ((hG.set_obj oil' (.obj none [[.im (.int .i64 z')]])).more [HO.obj none [[.im (.int .i64 vk), .im (.int .i64 vi), .im (.str vt), .im (.cpx .f64 va vb), .im (.sl vs (encVs vl))]]]).grow (bytes := 72) (by simp; omega) [.int .i64 vk, .int .i64 vi, .str vt, .cpx .f64 va vb, .sl vs (encVs vl)] (by rw [hel]; omega) (by decide)
            have oA4 := hob4 _ _ _ (gA (.obj none [[.im (.int .i64 z')]]) [HO.obj none [[.im (.int .i64 vk), .im (.int .i64 vi), .im (.str vt), .im (.cpx .f64 va vb), .im (.sl vs (encVs vl))]]])
            have oZ4 := hob4 _ _ _ (gZ (.obj none [[.im (.int .i64 z')]]) [HO.obj none [[.im (.int .i64 vk), .im (.int .i64 vi), .im (.str vt), .im (.cpx .f64 va vb), .im (.sl vs (encVs vl))]]])
            have oV4 := hob4 _ _ _ (gV (.obj none [[.im (.int .i64 z')]]) [HO.obj none [[.im (.int .i64 vk), .im (.int .i64 vi), .im (.str vt), .im (.cpx .f64 va vb), .im (.sl vs (encVs vl))]]])
            have oil4 : H4[il]? = some (.obj none [[.im (.int .i64 z')]]) := hob4 il none [[.im (.int .i64 z')]] (by rw [get_app (by simpa using hill)]; exact List.getElem?_set_self hill)
            have hVl4 := (List.getElem?_eq_some_iff.1 oV4).1
            have oA5 : (H4.set (H0.length + 2) (.obj none [[.im (.int .i64 ty), .im (.int .i64 0), .im (.str []), .im (.cpx .f64 0 0), .asl 5 (encVs out ++ [[.int .i64 vk, .int .i64 vi, .str vt, .cpx .f64 va vb, .sl vs (encVs vl)]]) tok]]))[H0.length]? = some (.obj none [[.im (.int .i64 ty), .im (.sl 2 [[.int .i64 xk, .sl xs (encTs xl)]])]]) := by rw [List.getElem?_set_ne (by omega)]; exact oA4
            simp only [b68_0, x_seq, x_block, x_skip, x_label, x_cond, x_exit, x_goto, x_ret, k_normal, k_exit, k_goto, k_ret, b_normal, b_exit, b_goto, b_ret, wantedA, aop, ev, putA, List.length_cons, List.length_nil, List.replicate, List.cons_append, List.nil_append, List.append_nil, List.append_assoc, gs_same, gs_ne, gq_same, gq_ne, List.length_set, List.map_cons, List.map_nil, cellsOf, List.all_cons, List.all_nil, cellOk, boxTy, Bool.and_true, Bool.and_self, if_true, ite_true, ite_false, loadAt, storeAt, setAt, hget, hget0, hset, hset0, List.getElem?_cons_zero, List.getElem?_cons_succ, List.set_cons_zero, List.set_cons_succ, Nat.add_zero, Nat.zero_add, Nat.reduceAdd, Nat.reduceSub, Nat.reduceLeDiff, Nat.reduceLT, Nat.reduceEqDiff, Nat.le_refl, and_self, and_true, true_and, mkAgg, toIms, List.drop_zero, List.drop_succ_cons, List.take_succ_cons, List.take_zero, List.length_append, binBool, unA, Bool.false_eq_true, if_false, partA, fillA, fillE, List.take_nil, Nat.zero_ne_one, Nat.one_ne_zero, not_false_eq_true, ne_eq, Nat.succ_ne_self, reduceCtorEq, Int.reduceEq, Int.reduceLT, Int.reduceLE, decide_true, decide_false, beq_self_eq_true, beq_true, beq_false, Bool.not_true, Bool.not_false, b_lss, b_gtr, b_leq, b_geq, b_eql, b_neq, b_add, b_sub, b_mul, s_eql, s_neq, y_ops, y_nil, y_cons, y_guard, y_some, y_drop, y_do, y_not, y_not0, c_call, c_clo, c_move, c_pick, c_alloc, c_box, c_build, c_bslice, c_load, c_store, c_nilCheck, c_bin, c_binB, c_un, c_i2i, c_i2f, c_f2i, c_s2b, c_b2s, c_strId, c_mkfunc, c_mkslice, c_slice, c_sliceStr, c_fieldAddr, c_field, c_indexSl, c_indexArr, c_elemArr, c_indexStr, c_extract, c_lenStr, c_lenSl, c_append, c_real, c_imag, c_complex, c_min, c_max, c_clear, z_ops, z_nil, z_cons, z_guard, z_some, z_drop, z_do, z_not, z_not0, pairK, forall_eq_or_imp, stays, loadOf, List.reverse_cons, List.reverse_nil, List.mem_cons, List.not_mem_nil, or_false, forall_eq, true_or, or_true, Bool.true_and, lenA_sl, elems, toDatss, toDats, toDat, hlen, h1, h2, h3, h4, h8, h11, hbl, hge, hix, hgb, byteDat, hby, oA, oV, oil', hi0, c67, hwz, hdz, hdg, hlA, hd64, gA1, hwr, hcall, gA, gZ, gV, gX, sX, hap, oV4, oA5, hdty]
            refine ex_imp (ihx p' z' (out ++ [VT.mk vk vi vt va vb vs vl]) _ (H4.set (H0.length + 2) (.obj none [[.im (.int .i64 ty), .im (.int .i64 0), .im (.str []), .im (.cpx .f64 0 0), .asl 5 (encVs out ++ [[.int .i64 vk, .int .i64 vi, .str vt, .cpx .f64 va vb, .sl vs (encVs vl)]]) tok]])) (.asl 5 (encVs out ++ [[.int .i64 vk, .int .i64 vi, .str vt, .cpx .f64 va vb, .sl vs (encVs vl)]]) tok) (by simp; omega) hp' hz0' hz1' ?_ ?_ ?_ ?_ ?_ ?_ ?_ (by rw [List.getElem?_set_ne (by omega)]; exact oil4) oA5 (by rw [List.getElem?_set_ne (by omega)]; exact oZ4) (by rw [List.getElem?_set_self hVl4]) (by rw [hea]; exact hG4.set_obj oV4 _) (by simp at hl4 ⊢; omega) ?_) (fun e tm' H' h => h)
            iterate 7 simp only [gs_same, gs_ne, List.length_set, Nat.reduceLT, Nat.reduceEqDiff, not_false_eq_true, hlen, h1, h3, h4, h8, h11]
            · intro j hj hne
              rw [List.getElem?_set_ne (by omega), hlow4 j (by omega), get_app (by simp; omega), List.getElem?_set_ne (by omega)]
              exact hlow j hj hne
          · have hde : decide (e' = 0) = false := decide_eq_false he
            simp only [if_neg he]
            simp only [zeroO] at gZ
            simp only [b68_0, x_seq, x_block, x_skip, x_label, x_cond, x_exit, x_goto, x_ret, k_normal, k_exit, k_goto, k_ret, b_normal, b_exit, b_goto, b_ret, wantedA, aop, ev, putA, List.length_cons, List.length_nil, List.replicate, List.cons_append, List.nil_append, List.append_nil, List.append_assoc, gs_same, gs_ne, gq_same, gq_ne, List.length_set, List.map_cons, List.map_nil, cellsOf, List.all_cons, List.all_nil, cellOk, boxTy, Bool.and_true, Bool.and_self, if_true, ite_true, ite_false, loadAt, storeAt, setAt, hget, hget0, hset, hset0, List.getElem?_cons_zero, List.getElem?_cons_succ, List.set_cons_zero, List.set_cons_succ, Nat.add_zero, Nat.zero_add, Nat.reduceAdd, Nat.reduceSub, Nat.reduceLeDiff, Nat.reduceLT, Nat.reduceEqDiff, Nat.le_refl, and_self, and_true, true_and, mkAgg, toIms, List.drop_zero, List.drop_succ_cons, List.take_succ_cons, List.take_zero, List.length_append, binBool, unA, Bool.false_eq_true, if_false, partA, fillA, fillE, List.take_nil, Nat.zero_ne_one, Nat.one_ne_zero, not_false_eq_true, ne_eq, Nat.succ_ne_self, reduceCtorEq, Int.reduceEq, Int.reduceLT, Int.reduceLE, decide_true, decide_false, beq_self_eq_true, beq_true, beq_false, Bool.not_true, Bool.not_false, b_lss, b_gtr, b_leq, b_geq, b_eql, b_neq, b_add, b_sub, b_mul, s_eql, s_neq, y_ops, y_nil, y_cons, y_guard, y_some, y_drop, y_do, y_not, y_not0, c_call, c_clo, c_move, c_pick, c_alloc, c_box, c_build, c_bslice, c_load, c_store, c_nilCheck, c_bin, c_binB, c_un, c_i2i, c_i2f, c_f2i, c_s2b, c_b2s, c_strId, c_mkfunc, c_mkslice, c_slice, c_sliceStr, c_fieldAddr, c_field, c_indexSl, c_indexArr, c_elemArr, c_indexStr, c_extract, c_lenStr, c_lenSl, c_append, c_real, c_imag, c_complex, c_min, c_max, c_clear, z_ops, z_nil, z_cons, z_guard, z_some, z_drop, z_do, z_not, z_not0, pairK, forall_eq_or_imp, stays, loadOf, List.reverse_cons, List.reverse_nil, List.mem_cons, List.not_mem_nil, or_false, forall_eq, true_or, or_true, Bool.true_and, lenA_sl, elems, toDatss, toDats, toDat, hlen, h1, h2, h3, h4, h8, h11, hbl, hge, hix, hgb, byteDat, hby, oA, oV, oil', hi0, c67, hwz, hdz, hdg, hlA, hd64, gA1, hwr, hcall, gA, gZ, gV, gX, sX, hde]
            refine ⟨_, _, _, rfl, rfl, retq _ _ _ _ _ ?_ ?_ ?_ ?_ ?_ ?_ ?_⟩
            · simp only [gs_same, gs_ne, List.length_set, Nat.reduceLT, Nat.reduceEqDiff, not_false_eq_true, hlen, h8]
            · simp only [gs_same, gs_ne, List.length_set, Nat.reduceLT, Nat.reduceEqDiff, not_false_eq_true, hlen]
            · simp only [gs_same, gs_ne, List.length_set, Nat.reduceLT, Nat.reduceEqDiff, not_false_eq_true, hlen]
            · rw [List.getElem?_set_self (by simp; omega)]; rfl
            · rw [List.getElem?_set_ne (by omega), get_app (by simpa using hill)]; exact List.getElem?_set_self hill
            · intro j hj hne
              rw [List.getElem?_set_ne (by omega), get_app (by simp; omega), List.getElem?_set_ne (by omega)]
              exact hlow j hj hne
            · simp; omega

end Go.Abs.Seat
end
section
set_option linter.unusedVariables false
set_option linter.unusedSimpArgs false
/- What the coder's functions come to: the reference's loop over an option. -/
set_option linter.unusedVariables false
set_option linter.unusedSimpArgs false
namespace Go.Abs.Seat
open Go.Proofs

theorem l68_opt (b : List UInt8) (hb : b.length ≤ 4611686018427387904) (s il : Nat) (hs : b = [] ∨ s = 1) (x : KT) (d : Nat) (hd : d ≤ 6) (hok : okT x) (hrt : rightT x (d : Int) = true) (f : Nat → Int → GS) (H0 : Heap) (hil : il < H0.length)
    (hc : ∀ (p : Nat) (z : Int) (H : Heap), p ≤ b.length → 0 ≤ z → z ≤ 2000 → H[il]? = some (numO z) → L 68 [.im (.agg (encT x)), .im (.sl s (bytesC b)), .im (.int .i64 (p : Int)), .ptr il 0 0] H = some (.tup [.im (.agg (encV (f p z).v)), .im (.int .i64 ((f p z).p : Int)), .im (.int .i64 (f p z).e)], H.set il (numO (f p z).z)))
    (hg : ∀ (p : Nat) (z : Int), p ≤ b.length → 0 ≤ z → z ≤ 2000 → goodG b (f p z))
    (p : Nat) (z : Int) (tm : List AV) (H : Heap) (hp : p ≤ b.length) (hz0 : 0 ≤ z) (hz1 : z ≤ 2000) (hlen : tm.length = 268) (h1 : tm.getD 1 undefA = .im (.sl s (bytesC b))) (h2 : tm.getD 2 undefA = .im (.int .i64 (p : Int))) (h3 : tm.getD 3 undefA = .ptr il 0 0) (h4 : tm.getD 4 undefA = .ptr H0.length 0 0) (h8 : tm.getD 8 undefA = .ptr (H0.length + 1) 0 0) (h11 : tm.getD 11 undefA = .ptr (H0.length + 2) 0 0)
    (oil : H[il]? = some (numO z)) (oA : H[H0.length]? = some (.obj none [[.im (.int .i64 9), .im (.sl 2 [encT x])]])) (oZ : H[H0.length + 1]? = some zeroO) (oV : H[H0.length + 2]? = some (.obj none [[.im (.int .i64 9), .im (.int .i64 0), .im (.str []), .im (.cpx .f64 0 0), .nils]])) (hHl : H0.length + 3 ≤ H.length) (hlow : ∀ i, i < H0.length → i ≠ il → H[i]? = H0[i]?) :
    ∃ e tm' H', Λ c68_0 tm H = some (e, tm', H') ∧ e = .ret ∧ RetV H0 il (optG f b (leastT x) p z) tm' H' := by
  have hle := least_le d x hrt
  have c67 := fun H => s67 d x (by omega) hok hrt H
  have hl729 : leastT x ≤ 2187 := by have := pow3 d (by omega); omega
  have hbl := bytesC_len b
  have hi0 : idx (.im (.int .i64 0)) 1 = some 0 := rfl
  have gb : ∀ {p : Nat} {c : UInt8}, b[p]? = some c → s = 1 ∧ p < b.length := fun {p c} h => by
    have h1 := (List.getElem?_eq_some_iff.1 h).1
    refine ⟨?_, h1⟩
    rcases hs with h | h
    · subst h; simp at h1
    · exact h
  have hlN : lenA AV.nils = some 0 := rfl
  have hd64 : decide (((0 : Nat) : Int) = 64) = false := by decide
  have hill := (List.getElem?_eq_some_iff.1 oil).1
  have retq : ∀ (p : Nat) (e z : Int) (tm' : List AV) (H' : Heap), tm'.getD 8 undefA = .ptr (H0.length + 1) 0 0 → tm'.getD 9 undefA = .im (.int .i64 (p : Int)) → tm'.getD 10 undefA = .im (.int .i64 e) → H'[H0.length + 1]? = some zeroO → H'[il]? = some (numO z) → (∀ i, i < H0.length → i ≠ il → H'[i]? = H0[i]?) → H0.length ≤ H'.length → RetV H0 il ⟨zeroV, p, e, z⟩ tm' H' :=
    fun p e z tm' H' a1 a2 a3 a4 a5 a6 a7 => RetQ.v ⟨a1, a2, a3, a4, a5, a7, a6⟩
  rw [l68_0]
  unfold optG
  have hcs : b[p]? = none ∨ ∃ c, b[p]? = some c := by cases b[p]? with
    | none => exact .inl rfl
    | some c => exact .inr ⟨c, rfl⟩
  rcases hcs with hbp | ⟨c, hbp⟩
  · simp only [hbp]
    have hge : decide ((b.length : Int) ≤ (p : Int)) = true := decide_eq_true (by have := List.getElem?_eq_none_iff.1 hbp; omega)
    simp only [zeroO] at oZ
    simp only [b68_0, x_seq, x_block, x_skip, x_label, x_cond, x_exit, x_goto, x_ret, k_normal, k_exit, k_goto, k_ret, b_normal, b_exit, b_goto, b_ret, wantedA, aop, ev, putA, List.length_cons, List.length_nil, List.replicate, List.cons_append, List.nil_append, List.append_nil, List.append_assoc, gs_same, gs_ne, gq_same, gq_ne, List.length_set, List.map_cons, List.map_nil, cellsOf, List.all_cons, List.all_nil, cellOk, boxTy, Bool.and_true, Bool.and_self, if_true, ite_true, ite_false, loadAt, storeAt, setAt, hget, hget0, hset, hset0, List.getElem?_cons_zero, List.getElem?_cons_succ, List.set_cons_zero, List.set_cons_succ, Nat.add_zero, Nat.zero_add, Nat.reduceAdd, Nat.reduceSub, Nat.reduceLeDiff, Nat.reduceLT, Nat.reduceEqDiff, Nat.le_refl, and_self, and_true, true_and, mkAgg, toIms, List.drop_zero, List.drop_succ_cons, List.take_succ_cons, List.take_zero, List.length_append, binBool, unA, Bool.false_eq_true, if_false, partA, fillA, fillE, List.take_nil, Nat.zero_ne_one, Nat.one_ne_zero, not_false_eq_true, ne_eq, Nat.succ_ne_self, reduceCtorEq, Int.reduceEq, Int.reduceLT, Int.reduceLE, decide_true, decide_false, beq_self_eq_true, beq_true, beq_false, Bool.not_true, Bool.not_false, b_lss, b_gtr, b_leq, b_geq, b_eql, b_neq, b_add, b_sub, b_mul, s_eql, s_neq, y_ops, y_nil, y_cons, y_guard, y_some, y_drop, y_do, y_not, y_not0, c_call, c_clo, c_move, c_pick, c_alloc, c_box, c_build, c_bslice, c_load, c_store, c_nilCheck, c_bin, c_binB, c_un, c_i2i, c_i2f, c_f2i, c_s2b, c_b2s, c_strId, c_mkfunc, c_mkslice, c_slice, c_sliceStr, c_fieldAddr, c_field, c_indexSl, c_indexArr, c_elemArr, c_indexStr, c_extract, c_lenStr, c_lenSl, c_append, c_real, c_imag, c_complex, c_min, c_max, c_clear, z_ops, z_nil, z_cons, z_guard, z_some, z_drop, z_do, z_not, z_not0, pairK, forall_eq_or_imp, stays, loadOf, List.reverse_cons, List.reverse_nil, List.mem_cons, List.not_mem_nil, or_false, forall_eq, true_or, or_true, Bool.true_and, lenA_sl, hlen, h1, h2, h8, hbl, hge, oZ]
    refine ⟨_, _, _, rfl, rfl, retq _ _ _ _ _ ?_ ?_ ?_ ?_ ?_ ?_ ?_⟩
    · simp only [gs_same, gs_ne, List.length_set, Nat.reduceLT, Nat.reduceEqDiff, not_false_eq_true, hlen, h8]
    · simp only [gs_same, gs_ne, List.length_set, Nat.reduceLT, Nat.reduceEqDiff, not_false_eq_true, hlen]
    · simp only [gs_same, gs_ne, List.length_set, Nat.reduceLT, Nat.reduceEqDiff, not_false_eq_true, hlen]
    · rw [List.getElem?_set_self (by omega)]; rfl
    · rw [List.getElem?_set_ne (by omega)]; exact oil
    · exact fun j hj hne => by rw [List.getElem?_set_ne (by omega)]; exact hlow j hj hne
    · simp; omega
  · simp only [hbp]
    obtain ⟨rfl, hpl⟩ := gb hbp
    have hge : decide ((b.length : Int) ≤ (p : Int)) = false := decide_eq_false (by omega)
    have hgb := bytesC_get hbp
    have hix := idx_nat (n := b.length) (i := p) hpl
    have hby : decide (((c.toNat : Nat) : Int) = 0) = decide (c = 0) := byte_eq c 0
    have hwr := wrap_nat (i := p) (by omega)
    by_cases hc0 : c = 0
    · rw [decide_eq_true hc0] at hby
      simp only [if_pos hc0]
      have gZ8 : ∀ o, (H.set (H0.length + 2) o)[H0.length + 1]? = some zeroO := fun o => by rw [List.getElem?_set_ne (by omega)]; exact oZ
      have gV8 : ∀ o, (H.set (H0.length + 2) o)[H0.length + 2]? = some o := fun o => List.getElem?_set_self (by omega)
      simp only [zeroO] at gZ8
      simp only [b68_0, x_seq, x_block, x_skip, x_label, x_cond, x_exit, x_goto, x_ret, k_normal, k_exit, k_goto, k_ret, b_normal, b_exit, b_goto, b_ret, wantedA, aop, ev, putA, List.length_cons, List.length_nil, List.replicate, List.cons_append, List.nil_append, List.append_nil, List.append_assoc, gs_same, gs_ne, gq_same, gq_ne, List.length_set, List.map_cons, List.map_nil, cellsOf, List.all_cons, List.all_nil, cellOk, boxTy, Bool.and_true, Bool.and_self, if_true, ite_true, ite_false, loadAt, storeAt, setAt, hget, hget0, hset, hset0, List.getElem?_cons_zero, List.getElem?_cons_succ, List.set_cons_zero, List.set_cons_succ, Nat.add_zero, Nat.zero_add, Nat.reduceAdd, Nat.reduceSub, Nat.reduceLeDiff, Nat.reduceLT, Nat.reduceEqDiff, Nat.le_refl, and_self, and_true, true_and, mkAgg, toIms, List.drop_zero, List.drop_succ_cons, List.take_succ_cons, List.take_zero, List.length_append, binBool, unA, Bool.false_eq_true, if_false, partA, fillA, fillE, List.take_nil, Nat.zero_ne_one, Nat.one_ne_zero, not_false_eq_true, ne_eq, Nat.succ_ne_self, reduceCtorEq, Int.reduceEq, Int.reduceLT, Int.reduceLE, decide_true, decide_false, beq_self_eq_true, beq_true, beq_false, Bool.not_true, Bool.not_false, b_lss, b_gtr, b_leq, b_geq, b_eql, b_neq, b_add, b_sub, b_mul, s_eql, s_neq, y_ops, y_nil, y_cons, y_guard, y_some, y_drop, y_do, y_not, y_not0, c_call, c_clo, c_move, c_pick, c_alloc, c_box, c_build, c_bslice, c_load, c_store, c_nilCheck, c_bin, c_binB, c_un, c_i2i, c_i2f, c_f2i, c_s2b, c_b2s, c_strId, c_mkfunc, c_mkslice, c_slice, c_sliceStr, c_fieldAddr, c_field, c_indexSl, c_indexArr, c_elemArr, c_indexStr, c_extract, c_lenStr, c_lenSl, c_append, c_real, c_imag, c_complex, c_min, c_max, c_clear, z_ops, z_nil, z_cons, z_guard, z_some, z_drop, z_do, z_not, z_not0, pairK, forall_eq_or_imp, stays, loadOf, List.reverse_cons, List.reverse_nil, List.mem_cons, List.not_mem_nil, or_false, forall_eq, true_or, or_true, Bool.true_and, lenA_sl, hlen, h1, h2, h4, h8, h11, hbl, hge, hix, hgb, byteDat, hby, oA, oV, gZ8, gV8, hwr]
      refine ⟨_, _, _, rfl, rfl, ?_, ?_, ?_, ?_, ?_, 8, 0, [], 0, 0, [], .nils, rfl, .inl ⟨rfl, rfl⟩, ?_⟩
      · simp only [gs_same, gs_ne, List.length_set, Nat.reduceLT, Nat.reduceEqDiff, not_false_eq_true, hlen, h8]
      · simp only [gs_same, gs_ne, List.length_set, Nat.reduceLT, Nat.reduceEqDiff, not_false_eq_true, hlen]
      · simp only [gs_same, gs_ne, List.length_set, Nat.reduceLT, Nat.reduceEqDiff, not_false_eq_true, hlen]
      · rw [List.getElem?_set_ne (by omega), List.getElem?_set_ne (by omega)]; exact oil
      · refine ⟨by simp; omega, fun j hj hne => ?_⟩
        rw [List.getElem?_set_ne (by omega), List.getElem?_set_ne (by omega)]
        exact hlow j hj hne
      · rw [List.getElem?_set_self (by simp; omega)]
    · rw [decide_eq_false hc0] at hby
      simp only [if_neg hc0]
      by_cases hbig : 1 < c.toNat ∨ 2000 < z + leastT x
      · simp only [if_pos hbig]
        simp only [zeroO] at oZ
        obtain ⟨xk, xs, xl⟩ := x
        simp only [encT] at c67 oA
        simp only [numO] at oil
        by_cases hgt : 1 < c.toNat
        · have hdg : decide (1 < ((c.toNat : Nat) : Int)) = true := decide_eq_true (by omega)
          simp only [b68_0, x_seq, x_block, x_skip, x_label, x_cond, x_exit, x_goto, x_ret, k_normal, k_exit, k_goto, k_ret, b_normal, b_exit, b_goto, b_ret, wantedA, aop, ev, putA, List.length_cons, List.length_nil, List.replicate, List.cons_append, List.nil_append, List.append_nil, List.append_assoc, gs_same, gs_ne, gq_same, gq_ne, List.length_set, List.map_cons, List.map_nil, cellsOf, List.all_cons, List.all_nil, cellOk, boxTy, Bool.and_true, Bool.and_self, if_true, ite_true, ite_false, loadAt, storeAt, setAt, hget, hget0, hset, hset0, List.getElem?_cons_zero, List.getElem?_cons_succ, List.set_cons_zero, List.set_cons_succ, Nat.add_zero, Nat.zero_add, Nat.reduceAdd, Nat.reduceSub, Nat.reduceLeDiff, Nat.reduceLT, Nat.reduceEqDiff, Nat.le_refl, and_self, and_true, true_and, mkAgg, toIms, List.drop_zero, List.drop_succ_cons, List.take_succ_cons, List.take_zero, List.length_append, binBool, unA, Bool.false_eq_true, if_false, partA, fillA, fillE, List.take_nil, Nat.zero_ne_one, Nat.one_ne_zero, not_false_eq_true, ne_eq, Nat.succ_ne_self, reduceCtorEq, Int.reduceEq, Int.reduceLT, Int.reduceLE, decide_true, decide_false, beq_self_eq_true, beq_true, beq_false, Bool.not_true, Bool.not_false, b_lss, b_gtr, b_leq, b_geq, b_eql, b_neq, b_add, b_sub, b_mul, s_eql, s_neq, y_ops, y_nil, y_cons, y_guard, y_some, y_drop, y_do, y_not, y_not0, c_call, c_clo, c_move, c_pick, c_alloc, c_box, c_build, c_bslice, c_load, c_store, c_nilCheck, c_bin, c_binB, c_un, c_i2i, c_i2f, c_f2i, c_s2b, c_b2s, c_strId, c_mkfunc, c_mkslice, c_slice, c_sliceStr, c_fieldAddr, c_field, c_indexSl, c_indexArr, c_elemArr, c_indexStr, c_extract, c_lenStr, c_lenSl, c_append, c_real, c_imag, c_complex, c_min, c_max, c_clear, z_ops, z_nil, z_cons, z_guard, z_some, z_drop, z_do, z_not, z_not0, pairK, forall_eq_or_imp, stays, loadOf, List.reverse_cons, List.reverse_nil, List.mem_cons, List.not_mem_nil, or_false, forall_eq, true_or, or_true, Bool.true_and, lenA_sl, hlen, h1, h2, h3, h4, h8, h11, hbl, hge, hix, hgb, byteDat, hby, oA, oV, oZ, hdg, hlN, hd64]
          refine ⟨_, _, _, rfl, rfl, retq _ _ _ _ _ ?_ ?_ ?_ ?_ ?_ ?_ ?_⟩
          · simp only [gs_same, gs_ne, List.length_set, Nat.reduceLT, Nat.reduceEqDiff, not_false_eq_true, hlen, h8]
          · simp only [gs_same, gs_ne, List.length_set, Nat.reduceLT, Nat.reduceEqDiff, not_false_eq_true, hlen]
          · simp only [gs_same, gs_ne, List.length_set, Nat.reduceLT, Nat.reduceEqDiff, not_false_eq_true, hlen]
          · rw [List.getElem?_set_self (by omega)]; rfl
          · rw [List.getElem?_set_ne (by omega)]; exact oil
          · exact fun j hj hne => by rw [List.getElem?_set_ne (by omega)]; exact hlow j hj hne
          · simp; omega
        · have hdg : decide (1 < ((c.toNat : Nat) : Int)) = false := decide_eq_false (by omega)
          have hz := hbig.resolve_left hgt
          generalize leastT (KT.mk xk xs xl) = l at *
          have hwz := Go.Abs.Seat.wrap_small (z + l) (by omega)
          have hdz : decide (2000 < z + l) = true := decide_eq_true hz
          simp only [b68_0, x_seq, x_block, x_skip, x_label, x_cond, x_exit, x_goto, x_ret, k_normal, k_exit, k_goto, k_ret, b_normal, b_exit, b_goto, b_ret, wantedA, aop, ev, putA, List.length_cons, List.length_nil, List.replicate, List.cons_append, List.nil_append, List.append_nil, List.append_assoc, gs_same, gs_ne, gq_same, gq_ne, List.length_set, List.map_cons, List.map_nil, cellsOf, List.all_cons, List.all_nil, cellOk, boxTy, Bool.and_true, Bool.and_self, if_true, ite_true, ite_false, loadAt, storeAt, setAt, hget, hget0, hset, hset0, List.getElem?_cons_zero, List.getElem?_cons_succ, List.set_cons_zero, List.set_cons_succ, Nat.add_zero, Nat.zero_add, Nat.reduceAdd, Nat.reduceSub, Nat.reduceLeDiff, Nat.reduceLT, Nat.reduceEqDiff, Nat.le_refl, and_self, and_true, true_and, mkAgg, toIms, List.drop_zero, List.drop_succ_cons, List.take_succ_cons, List.take_zero, List.length_append, binBool, unA, Bool.false_eq_true, if_false, partA, fillA, fillE, List.take_nil, Nat.zero_ne_one, Nat.one_ne_zero, not_false_eq_true, ne_eq, Nat.succ_ne_self, reduceCtorEq, Int.reduceEq, Int.reduceLT, Int.reduceLE, decide_true, decide_false, beq_self_eq_true, beq_true, beq_false, Bool.not_true, Bool.not_false, b_lss, b_gtr, b_leq, b_geq, b_eql, b_neq, b_add, b_sub, b_mul, s_eql, s_neq, y_ops, y_nil, y_cons, y_guard, y_some, y_drop, y_do, y_not, y_not0, c_call, c_clo, c_move, c_pick, c_alloc, c_box, c_build, c_bslice, c_load, c_store, c_nilCheck, c_bin, c_binB, c_un, c_i2i, c_i2f, c_f2i, c_s2b, c_b2s, c_strId, c_mkfunc, c_mkslice, c_slice, c_sliceStr, c_fieldAddr, c_field, c_indexSl, c_indexArr, c_elemArr, c_indexStr, c_extract, c_lenStr, c_lenSl, c_append, c_real, c_imag, c_complex, c_min, c_max, c_clear, z_ops, z_nil, z_cons, z_guard, z_some, z_drop, z_do, z_not, z_not0, pairK, forall_eq_or_imp, stays, loadOf, List.reverse_cons, List.reverse_nil, List.mem_cons, List.not_mem_nil, or_false, forall_eq, true_or, or_true, Bool.true_and, lenA_sl, hlen, h1, h2, h3, h4, h8, h11, hbl, hge, hix, hgb, byteDat, hby, oA, oV, oZ, oil, hi0, c67, hwz, hdz, hdg, hlN, hd64, hlN, hd64]
          refine ⟨_, _, _, rfl, rfl, retq _ _ _ _ _ ?_ ?_ ?_ ?_ ?_ ?_ ?_⟩
          · simp only [gs_same, gs_ne, List.length_set, Nat.reduceLT, Nat.reduceEqDiff, not_false_eq_true, hlen, h8]
          · simp only [gs_same, gs_ne, List.length_set, Nat.reduceLT, Nat.reduceEqDiff, not_false_eq_true, hlen]
          · simp only [gs_same, gs_ne, List.length_set, Nat.reduceLT, Nat.reduceEqDiff, not_false_eq_true, hlen]
          · rw [List.getElem?_set_self (by omega)]; rfl
          · rw [List.getElem?_set_ne (by omega)]; exact oil
          · exact fun j hj hne => by rw [List.getElem?_set_ne (by omega)]; exact hlow j hj hne
          · simp; omega
      · simp only [if_neg hbig]
        have hdg : decide (1 < ((c.toNat : Nat) : Int)) = false := decide_eq_false fun h => hbig (.inl (by omega))
        have hz2 : z + leastT x ≤ 2000 := Int.not_lt.1 fun h => hbig (.inr h)
        have hcall := hc (p + 1) (z + leastT x) (H.set il (numO (z + leastT x))) (by omega) (by omega) hz2 (List.getElem?_set_self hill)
        have hgg := hg (p + 1) (z + leastT x) (by omega) (by omega) hz2
        rw [List.set_set] at hcall
        have hwz := Go.Abs.Seat.wrap_small (z + leastT x) (by omega)
        have hdz : decide (2000 < z + leastT x) = false := decide_eq_false (by omega)
        generalize f (p + 1) (z + leastT x) = g at *
        generalize leastT x = l at *
        obtain ⟨v, p', e', z'⟩ := g
        obtain ⟨hp', hz0', hz1'⟩ := hgg
        simp only at hcall hp' hz0' hz1' ⊢
        have gA1 : ∀ (o : HO), (H.set il o)[H0.length]? = some (.obj none [[.im (.int .i64 9), .im (.sl 2 [encT x])]]) := fun o => by rw [List.getElem?_set_ne (by omega)]; exact oA
        have gA : ∀ (o : HO) (M : Heap), (H.set il o ++ M)[H0.length]? = some (.obj none [[.im (.int .i64 9), .im (.sl 2 [encT x])]]) := fun o M => by rw [get_app (by simp; omega), List.getElem?_set_ne (by omega)]; exact oA
        have gZ : ∀ (o : HO) (M : Heap), (H.set il o ++ M)[H0.length + 1]? = some zeroO := fun o M => by rw [get_app (by simp; omega), List.getElem?_set_ne (by omega)]; exact oZ
        have gV : ∀ (o : HO) (M : Heap), (H.set il o ++ M)[H0.length + 2]? = some (.obj none [[.im (.int .i64 9), .im (.int .i64 0), .im (.str []), .im (.cpx .f64 0 0), .nils]]) := fun o M => by rw [get_app (by simp; omega), List.getElem?_set_ne (by omega)]; exact oV
        have gX : ∀ (o y : HO), (H.set il o ++ [y])[H.length]? = some y := fun o y => by
          have := Go.Abs.hget0 (H := H.set il o) (l := [y])
          rwa [List.length_set] at this
        have sX : ∀ (o y x : HO), (H.set il o ++ [y]).set H.length x = H.set il o ++ [x] := fun o y x => by
          have := Go.Abs.hset0 (H := H.set il o) (l := [y]) (x := x)
          rwa [List.length_set] at this
        obtain ⟨xk, xs, xl⟩ := x
        obtain ⟨vk, vi, vt, va, vb, vs, vl⟩ := v
        simp only [encT, encV] at hcall c67 oA gA gA1
        have oil' := oil
        simp only [numO] at oil' hcall
        by_cases he : e' = 0
        · subst he
          simp only [if_true]
          have hcond : (0 + 1) * 72 ≤ 2 ^ 46 ∧ 0 < 72 := by decide
          have hap : appendA (H.set il (.obj none [[.im (.int .i64 z')]]) ++ [HO.obj none [[.im (.int .i64 vk), .im (.int .i64 vi), .im (.str vt), .im (.cpx .f64 va vb), .im (.sl vs (encVs vl))]]]) 56 72 5 .nils [[.int .i64 vk, .int .i64 vi, .str vt, .cpx .f64 va vb, .sl vs (encVs vl)]] = some (.asl 5 [[.int .i64 vk, .int .i64 vi, .str vt, .cpx .f64 va vb, .sl vs (encVs vl)]] (H.length + 1), H.set il (.obj none [[.im (.int .i64 z')]]) ++ [HO.obj none [[.im (.int .i64 vk), .im (.int .i64 vi), .im (.str vt), .im (.cpx .f64 va vb), .im (.sl vs (encVs vl))]], .hw 56 1]) := by
            simp only [appendA, List.length_cons, List.length_nil]
            rw [if_pos hcond]
            simp
          have sV : ∀ (o x : HO) (M : Heap), (H.set il o ++ M).set (H0.length + 2) x = (H.set il o).set (H0.length + 2) x ++ M := fun o x M => set_app (by simp; omega)
          have gA2 : ∀ (o x : HO) (M : Heap), ((H.set il o).set (H0.length + 2) x ++ M)[H0.length]? = some (.obj none [[.im (.int .i64 9), .im (.sl 2 [[.int .i64 xk, .sl xs (encTs xl)]])]]) := fun o x M => by rw [get_app (by simp; omega), List.getElem?_set_ne (by omega), List.getElem?_set_ne (by omega)]; exact oA
          have gZ2 : ∀ (o x : HO) (M : Heap), ((H.set il o).set (H0.length + 2) x ++ M)[H0.length + 1]? = some zeroO := fun o x M => by rw [get_app (by simp; omega), List.getElem?_set_ne (by omega), List.getElem?_set_ne (by omega)]; exact oZ
          have gV2 : ∀ (o x : HO) (M : Heap), ((H.set il o).set (H0.length + 2) x ++ M)[H0.length + 2]? = some x := fun o x M => by rw [get_app (by simp; omega), List.getElem?_set_self (by simp; omega)]
          simp only [zeroO] at gZ2
          simp only [b68_0, x_seq, x_block, x_skip, x_label, x_cond, x_exit, x_goto, x_ret, k_normal, k_exit, k_goto, k_ret, b_normal, b_exit, b_goto, b_ret, wantedA, aop, ev, putA, List.length_cons, List.length_nil, List.replicate, List.cons_append, List.nil_append, List.append_nil, List.append_assoc, gs_same, gs_ne, gq_same, gq_ne, List.length_set, List.map_cons, List.map_nil, cellsOf, List.all_cons, List.all_nil, cellOk, boxTy, Bool.and_true, Bool.and_self, if_true, ite_true, ite_false, loadAt, storeAt, setAt, hget, hget0, hset, hset0, List.getElem?_cons_zero, List.getElem?_cons_succ, List.set_cons_zero, List.set_cons_succ, Nat.add_zero, Nat.zero_add, Nat.reduceAdd, Nat.reduceSub, Nat.reduceLeDiff, Nat.reduceLT, Nat.reduceEqDiff, Nat.le_refl, and_self, and_true, true_and, mkAgg, toIms, List.drop_zero, List.drop_succ_cons, List.take_succ_cons, List.take_zero, List.length_append, binBool, unA, Bool.false_eq_true, if_false, partA, fillA, fillE, List.take_nil, Nat.zero_ne_one, Nat.one_ne_zero, not_false_eq_true, ne_eq, Nat.succ_ne_self, reduceCtorEq, Int.reduceEq, Int.reduceLT, Int.reduceLE, decide_true, decide_false, beq_self_eq_true, beq_true, beq_false, Bool.not_true, Bool.not_false, b_lss, b_gtr, b_leq, b_geq, b_eql, b_neq, b_add, b_sub, b_mul, s_eql, s_neq, y_ops, y_nil, y_cons, y_guard, y_some, y_drop, y_do, y_not, y_not0, c_call, c_clo, c_move, c_pick, c_alloc, c_box, c_build, c_bslice, c_load, c_store, c_nilCheck, c_bin, c_binB, c_un, c_i2i, c_i2f, c_f2i, c_s2b, c_b2s, c_strId, c_mkfunc, c_mkslice, c_slice, c_sliceStr, c_fieldAddr, c_field, c_indexSl, c_indexArr, c_elemArr, c_indexStr, c_extract, c_lenStr, c_lenSl, c_append, c_real, c_imag, c_complex, c_min, c_max, c_clear, z_ops, z_nil, z_cons, z_guard, z_some, z_drop, z_do, z_not, z_not0, pairK, forall_eq_or_imp, stays, loadOf, List.reverse_cons, List.reverse_nil, List.mem_cons, List.not_mem_nil, or_false, forall_eq, true_or, or_true, Bool.true_and, lenA_sl, elems, toDatss, toDats, toDat, hlen, h1, h2, h3, h4, h8, h11, hbl, hge, hix, hgb, byteDat, hby, oA, oV, oil', hi0, c67, hwz, hdz, hdg, hlN, hd64, gA1, hwr, hcall, gA, gV, gX, sX, hap, sV, gA2, gZ2, gV2]
          refine ⟨_, _, _, rfl, rfl, ?_, ?_, ?_, ?_, ?_, 9, 0, [], 0, 0, [VT.mk vk vi vt va vb vs vl], .asl 5 [[.int .i64 vk, .int .i64 vi, .str vt, .cpx .f64 va vb, .sl vs (encVs vl)]] (H.length + 1), rfl, .inr (.inl ⟨H.length + 1, by simp [encVs, encV], by simp⟩), ?_⟩
          · simp only [gs_same, gs_ne, List.length_set, Nat.reduceLT, Nat.reduceEqDiff, not_false_eq_true, hlen, h8]
          · simp only [gs_same, gs_ne, List.length_set, Nat.reduceLT, Nat.reduceEqDiff, not_false_eq_true, hlen]
          · simp only [gs_same, gs_ne, List.length_set, Nat.reduceLT, Nat.reduceEqDiff, not_false_eq_true, hlen]
          · rw [List.getElem?_set_ne (by omega), get_app (by simpa using hill), List.getElem?_set_ne (by omega)]; exact List.getElem?_set_self hill
          · refine ⟨by simp; omega, fun j hj hne => ?_⟩
            rw [List.getElem?_set_ne (by omega), get_app (by simp; omega), List.getElem?_set_ne (by omega), List.getElem?_set_ne (by omega)]
            exact hlow j hj hne
          · rw [List.getElem?_set_self (by simp; omega)]
        · have hde : decide (e' = 0) = false := decide_eq_false he
          simp only [if_neg he]
          simp only [zeroO] at gZ
          simp only [b68_0, x_seq, x_block, x_skip, x_label, x_cond, x_exit, x_goto, x_ret, k_normal, k_exit, k_goto, k_ret, b_normal, b_exit, b_goto, b_ret, wantedA, aop, ev, putA, List.length_cons, List.length_nil, List.replicate, List.cons_append, List.nil_append, List.append_nil, List.append_assoc, gs_same, gs_ne, gq_same, gq_ne, List.length_set, List.map_cons, List.map_nil, cellsOf, List.all_cons, List.all_nil, cellOk, boxTy, Bool.and_true, Bool.and_self, if_true, ite_true, ite_false, loadAt, storeAt, setAt, hget, hget0, hset, hset0, List.getElem?_cons_zero, List.getElem?_cons_succ, List.set_cons_zero, List.set_cons_succ, Nat.add_zero, Nat.zero_add, Nat.reduceAdd, Nat.reduceSub, Nat.reduceLeDiff, Nat.reduceLT, Nat.reduceEqDiff, Nat.le_refl, and_self, and_true, true_and, mkAgg, toIms, List.drop_zero, List.drop_succ_cons, List.take_succ_cons, List.take_zero, List.length_append, binBool, unA, Bool.false_eq_true, if_false, partA, fillA, fillE, List.take_nil, Nat.zero_ne_one, Nat.one_ne_zero, not_false_eq_true, ne_eq, Nat.succ_ne_self, reduceCtorEq, Int.reduceEq, Int.reduceLT, Int.reduceLE, decide_true, decide_false, beq_self_eq_true, beq_true, beq_false, Bool.not_true, Bool.not_false, b_lss, b_gtr, b_leq, b_geq, b_eql, b_neq, b_add, b_sub, b_mul, s_eql, s_neq, y_ops, y_nil, y_cons, y_guard, y_some, y_drop, y_do, y_not, y_not0, c_call, c_clo, c_move, c_pick, c_alloc, c_box, c_build, c_bslice, c_load, c_store, c_nilCheck, c_bin, c_binB, c_un, c_i2i, c_i2f, c_f2i, c_s2b, c_b2s, c_strId, c_mkfunc, c_mkslice, c_slice, c_sliceStr, c_fieldAddr, c_field, c_indexSl, c_indexArr, c_elemArr, c_indexStr, c_extract, c_lenStr, c_lenSl, c_append, c_real, c_imag, c_complex, c_min, c_max, c_clear, z_ops, z_nil, z_cons, z_guard, z_some, z_drop, z_do, z_not, z_not0, pairK, forall_eq_or_imp, stays, loadOf, List.reverse_cons, List.reverse_nil, List.mem_cons, List.not_mem_nil, or_false, forall_eq, true_or, or_true, Bool.true_and, lenA_sl, elems, toDatss, toDats, toDat, hlen, h1, h2, h3, h4, h8, h11, hbl, hge, hix, hgb, byteDat, hby, oA, oV, oil', hi0, c67, hwz, hdz, hdg, hlN, hd64, gA1, hwr, hcall, gA, gZ, gV, gX, sX, hde]
          refine ⟨_, _, _, rfl, rfl, retq _ _ _ _ _ ?_ ?_ ?_ ?_ ?_ ?_ ?_⟩
          · simp only [gs_same, gs_ne, List.length_set, Nat.reduceLT, Nat.reduceEqDiff, not_false_eq_true, hlen, h8]
          · simp only [gs_same, gs_ne, List.length_set, Nat.reduceLT, Nat.reduceEqDiff, not_false_eq_true, hlen]
          · simp only [gs_same, gs_ne, List.length_set, Nat.reduceLT, Nat.reduceEqDiff, not_false_eq_true, hlen]
          · rw [List.getElem?_set_self (by simp; omega)]; rfl
          · rw [List.getElem?_set_ne (by omega), get_app (by simpa using hill)]; exact List.getElem?_set_self hill
          · intro j hj hne
            rw [List.getElem?_set_ne (by omega), get_app (by simp; omega), List.getElem?_set_ne (by omega)]
            exact hlow j hj hne
          · simp; omega

end Go.Abs.Seat
end
section
set_option linter.unusedVariables false
set_option linter.unusedSimpArgs false
/- What the coder's functions come to: the reference's get. -/
set_option linter.unusedVariables false
set_option linter.unusedSimpArgs false
namespace Go.Abs.Seat
open Go.Proofs

/-! ### what is got is well -/

theorem getT_p {b : List UInt8} : ∀ (f p : Nat) (out : List UInt8), p ≤ b.length → (getT b f p out).2.1 ≤ b.length
  | 0, p, out, h => h
  | f + 1, p, out, h => by
    simp only [getT]
    split
    · exact h
    · rename_i c hc
      have hlt := (List.getElem?_eq_some_iff.1 hc).1
      split
      · split
        · exact h
        · exact getT_p f _ _ (by omega)
      · split
        · exact hlt
        · rename_i c2 hc2
          have hlt2 := (List.getElem?_eq_some_iff.1 hc2).1
          split
          · simp only; omega
          · split
            · exact hlt
            · exact getT_p f _ _ (by omega)

theorem ptG_p {b : List UInt8} {p : Nat} (h : p ≤ b.length) : (ptG b p).2.1 ≤ b.length ∧ -1048576 ≤ (ptG b p).1 ∧ (ptG b p).1 ≤ 16777216 := by
  unfold ptG
  split
  · exact ⟨Nat.le_refl _, by simp, by simp⟩
  · rename_i c1 h1
    split
    · exact ⟨h, by simp, by simp⟩
    · split
      · rename_i c2 c3 h2 h3
        have := (List.getElem?_eq_some_iff.1 h3).1
        have := c1.toNat_lt
        have := c2.toNat_lt
        have := c3.toNat_lt
        exact ⟨by simp only; omega, by simp only; omega, by simp only; omega⟩
      · exact ⟨Nat.le_refl _, by simp, by simp⟩

theorem good_list_g {b : List UInt8} {f : Nat → Int → GS} {l : Int} (hl : 1 ≤ l) (hf : ∀ p z, p ≤ b.length → 0 ≤ z → z ≤ 2000 → goodG b (f p z)) :
    ∀ (m p : Nat) (z : Int) (out : List VT), p ≤ b.length → 0 ≤ z → z ≤ 2000 → (listG f b l m p z out).2.1 ≤ b.length ∧ 0 ≤ (listG f b l m p z out).2.2.2 ∧ (listG f b l m p z out).2.2.2 ≤ 2000
  | 0, p, z, out, hp, h0, h1 => by
    simp only [listG]
    split
    · exact ⟨hp, h0, h1⟩
    · rename_i c hc
      have hlt := (List.getElem?_eq_some_iff.1 hc).1
      split
      · exact ⟨hlt, h0, h1⟩
      · exact ⟨hp, h0, h1⟩
  | m + 1, p, z, out, hp, h0, h1 => by
    simp only [listG]
    split
    · exact ⟨hp, h0, h1⟩
    · rename_i c hc
      have hlt := (List.getElem?_eq_some_iff.1 hc).1
      split
      · exact ⟨hlt, h0, h1⟩
      · split
        · exact ⟨hp, h0, h1⟩
        · rename_i hn
          have hg := hf (p + 1) (z + l) hlt (by omega) (by omega)
          split
          · exact good_list_g hl hf m _ _ _ hg.1 hg.2.1 hg.2.2
          · exact hg

theorem good_pair_g {b : List UInt8} {f : KT → Nat → Int → GS} : ∀ (l : List KT) (hf : ∀ a ∈ l, ∀ p z, p ≤ b.length → 0 ≤ z → z ≤ 2000 → goodG b (f a p z)) (p : Nat) (z : Int) (out : List VT), p ≤ b.length → 0 ≤ z → z ≤ 2000 → (pairG f l p z out).2.1 ≤ b.length ∧ 0 ≤ (pairG f l p z out).2.2.2 ∧ (pairG f l p z out).2.2.2 ≤ 2000
  | [], hf, p, z, out, hp, h0, h1 => ⟨hp, h0, h1⟩
  | a :: l, hf, p, z, out, hp, h0, h1 => by
    have hg := hf a (by simp) p z hp h0 h1
    simp only [pairG]
    split
    · exact good_pair_g l (fun a ha => hf a (by simp [ha])) _ _ _ hg.1 hg.2.1 hg.2.2
    · exact hg

theorem good_opt_g {b : List UInt8} {f : Nat → Int → GS} {l : Int} (hl : 1 ≤ l) (hf : ∀ p z, p ≤ b.length → 0 ≤ z → z ≤ 2000 → goodG b (f p z)) (p : Nat) (z : Int) (hp : p ≤ b.length) (h0 : 0 ≤ z) (h1 : z ≤ 2000) : goodG b (optG f b l p z) := by
  unfold optG
  split
  · exact ⟨hp, h0, h1⟩
  · rename_i c hc
    have hlt := (List.getElem?_eq_some_iff.1 hc).1
    split
    · exact ⟨hlt, h0, h1⟩
    · split
      · exact ⟨hp, h0, h1⟩
      · rename_i hn
        have hg := hf (p + 1) (z + l) hlt (by omega) (by omega)
        split
        · exact ⟨hg.1, hg.2.1, hg.2.2⟩
        · exact ⟨hg.1, hg.2.1, hg.2.2⟩

theorem good_get {b : List UInt8} : ∀ (d : Nat) (t : KT), rightT t (d : Int) = true → ∀ p z, p ≤ b.length → 0 ≤ z → z ≤ 2000 → goodG b (getV b d t p z)
  | 0, t, h, p, z, hp, h0, h1 => ⟨hp, h0, h1⟩
  | d + 1, .mk k s args, h, p, z, hp, h0, h1 => by
    obtain ⟨_, _, h3⟩ := right_len h
    have h3' : ∀ a ∈ args, rightT a (d : Int) = true := fun a ha => by have := h3 a ha; rwa [show (((d + 1 : Nat) : Int)) - 1 = (d : Int) by omega] at this
    have ih : ∀ a ∈ args, ∀ p z, p ≤ b.length → 0 ≤ z → z ≤ 2000 → goodG b (getV b d a p z) := fun a ha => good_get d a (h3' a ha)
    simp only [getV]
    split
    · split
      · exact ⟨hp, h0, h1⟩
      · rename_i c hc
        have hlt := (List.getElem?_eq_some_iff.1 hc).1
        split
        · exact ⟨hp, h0, h1⟩
        · exact ⟨hlt, h0, h1⟩
    split
    · split
      · exact ⟨Nat.le_refl _, h0, h1⟩
      · exact ⟨by simp only; omega, h0, h1⟩
    split
    · exact ⟨getT_p _ _ _ hp, h0, h1⟩
    split
    · have h2 := ptG_p hp
      split
      · split
        · exact ⟨(ptG_p h2.1).1, h0, h1⟩
        · exact ⟨(ptG_p h2.1).1, h0, h1⟩
      · exact ⟨h2.1, h0, h1⟩
    split
    · have h2 := good_pair_g args ih p z [] hp h0 h1
      split
      · exact h2
      · exact h2
    split
    · rename_i x _
      have hl := (least_le d x (h3' x (by simp))).1
      split
      · exact good_opt_g hl (ih x (by simp)) p z hp h0 h1
      · have h2 := good_list_g hl (ih x (by simp)) 64 p z [] hp h0 h1
        split
        · exact h2
        · exact h2
    · exact ⟨hp, h0, h1⟩

theorem right_kind {k : Int} {s : Nat} {args : List KT} {d : Int} (h : rightT (.mk k s args) d = true) (k1 : k ≠ 1) (k2 : k ≠ 2) (k3 : k ≠ 3) (k4 : k ≠ 4) (k5 : k ≠ 5) (k6 : k ≠ 6) : ∃ x, args = [x] := by
  have h1 := (right_len h).1
  have hw : ∃ i, kidx k = some i := by
    simp only [rightT] at h
    cases hi : kidx k with
    | some i => exact ⟨i, rfl⟩
    | none => rw [hi] at h; simp at h
  obtain ⟨i, hi⟩ := hw
  have hmem := List.findIdx?_eq_some_iff_getElem.1 hi
  obtain ⟨hlt, hk, _⟩ := hmem
  have hk' : words[i].1 = k := by simpa using hk
  have hc : cntK k = 1 := by
    have hlt' : i < 8 := hlt
    unfold cntK
    rw [hi]
    have : i = 0 ∨ i = 1 ∨ i = 2 ∨ i = 3 ∨ i = 4 ∨ i = 5 ∨ i = 6 ∨ i = 7 := by omega
    rcases this with rfl | rfl | rfl | rfl | rfl | rfl | rfl | rfl
    · exact absurd hk'.symm k1
    · exact absurd hk'.symm k2
    · exact absurd hk'.symm k3
    · exact absurd hk'.symm k4
    · exact absurd hk'.symm k5
    · exact absurd hk'.symm k6
    · rfl
    · rfl
  exact len1 (by omega)

theorem l68_pt (b : List UInt8) (hb : b.length ≤ 4611686018427387904) (s : Nat) (hs : b = [] ∨ s = 1) (p : Nat) (hp : p ≤ b.length) (il : Nat) (z : Int) (H0 : Heap) (hil : H0[il]? = some (numO z)) (A V : HO) (c0 c1 : AV)
    (tm : List AV) (hlen : tm.length = 268) (h1 : tm.getD 1 undefA = .im (.sl s (bytesC b))) (h2 : tm.getD 2 undefA = .im (.int .i64 (p : Int))) (h8 : tm.getD 8 undefA = .ptr (H0.length + 1) 0 0) (h14 : tm.getD 14 undefA = .ptr (H0.length + 3) 0 0) (h15 : tm.getD 15 undefA = .im (.int .i64 0)) :
    ∃ e tm' H', Λ c68_2 tm (H0 ++ [A, zeroO, V, .obj none [[c0, c1]]]) = some (e, tm', H') ∧
      (((ptG b p).2.2 = 0 ∧ (ptG b (ptG b p).2.1).2.2 = 0 ∧ e = .exit 3 ∧ H' = H0 ++ [A, zeroO, V, .obj none [[.im (.int .i64 (ptG b p).1), .im (.int .i64 (ptG b (ptG b p).2.1).1)]]] ∧ tm'.length = 268 ∧ tm'.getD 2 undefA = .im (.int .i64 ((ptG b (ptG b p).2.1).2.1 : Int)) ∧ tm'.getD 8 undefA = .ptr (H0.length + 1) 0 0 ∧ tm'.getD 14 undefA = .ptr (H0.length + 3) 0 0) ∨
       ((ptG b p).2.2 = 0 ∧ (ptG b (ptG b p).2.1).2.2 ≠ 0 ∧ e = .ret ∧ RetQ H0 il (ptG b (ptG b p).2.1).2.1 (ptG b (ptG b p).2.1).2.2 z tm' H') ∨
       ((ptG b p).2.2 ≠ 0 ∧ e = .ret ∧ RetQ H0 il (ptG b p).2.1 (ptG b p).2.2 z tm' H')) := by
  rcases pt_step b hb s hs p hp il z H0 hil A V c0 c1 0 (.inl rfl) tm hlen h1 h2 h8 h14 h15 with ⟨e1, hp1, tm1, g1, g2, g3, g4, g5, g6, g7⟩ | ⟨e1, tm1, H1, g1, g2⟩
  · rcases pt_step b hb s hs (ptG b p).2.1 hp1 il z H0 hil A V (.im (.int .i64 (ptG b p).1)) c1 1 (.inr rfl) tm1 g2 g3 g4 g5 g6 g7 with ⟨e2, hp2, tm2, k1, k2, k3, k4, k5, k6, k7⟩ | ⟨e2, tm2, H2, k1, k2⟩
    · obtain ⟨tm3, j1, j2, j3, j4, j5⟩ := pt_end tm2 (H0 ++ [A, zeroO, V, .obj none [([.im (.int .i64 (ptG b p).1), c1].set 1 (.im (.int .i64 (ptG b (ptG b p).2.1).1)))]]) k2 k7
      exact ⟨_, _, _, g1.trans (k1.trans j1), .inl ⟨e1, e2, rfl, rfl, j2, j3.trans k4, j4.trans k5, j5.trans k6⟩⟩
    · exact ⟨_, _, _, g1.trans k1, .inr (.inl ⟨e1, e2, rfl, k2⟩)⟩
  · exact ⟨_, _, _, g1, .inr (.inr ⟨e1, rfl, g2⟩)⟩

end Go.Abs.Seat
end
section
set_option linter.unusedVariables false
set_option linter.unusedSimpArgs false
/- What the coder's functions come to: the reference's get, itself. -/
set_option linter.unusedVariables false
set_option linter.unusedSimpArgs false
namespace Go.Abs.Seat
open Go.Proofs

theorem s68 (b : List UInt8) (s : Nat) (hs : b = [] ∨ s = 1) (hb : b.length ≤ 4611686018427387904) :
    ∀ (d : Nat) (t : KT), d ≤ 6 → okT t → rightT t (d : Int) = true → ∀ (p : Nat) (z : Int) (il : Nat) (H : Heap), p ≤ b.length → 0 ≤ z → z ≤ 2000 → H[il]? = some (numO z) → L 68 [.im (.agg (encT t)), .im (.sl s (bytesC b)), .im (.int .i64 (p : Int)), .ptr il 0 0] H = some (.tup [.im (.agg (encV (getV b d t p z).v)), .im (.int .i64 ((getV b d t p z).p : Int)), .im (.int .i64 (getV b d t p z).e)], H.set il (numO (getV b d t p z).z))
  | 0, .mk k _ args, hd, hok, h, p, z, il, H, hp, hz0, hz1, oil => by
    have := (right_len h).2.1
    omega
  | d + 1, .mk k s' args, hd, hok, h, p, z, il, H, hp, hz0, hz1, oil => by
    obtain ⟨hn1, _, h3⟩ := right_len h
    have h3' : ∀ a ∈ args, rightT a (d : Int) = true := fun a ha => by have := h3 a ha; rwa [show (((d + 1 : Nat) : Int)) - 1 = (d : Int) by omega] at this
    simp only [okT] at hok
    obtain ⟨hss, _, hoks⟩ := hok
    have ih : ∀ a ∈ args, ∀ (p : Nat) (z : Int) (il : Nat) (H : Heap), p ≤ b.length → 0 ≤ z → z ≤ 2000 → H[il]? = some (numO z) → L 68 [.im (.agg (encT a)), .im (.sl s (bytesC b)), .im (.int .i64 (p : Int)), .ptr il 0 0] H = some (.tup [.im (.agg (encV (getV b d a p z).v)), .im (.int .i64 ((getV b d a p z).p : Int)), .im (.int .i64 (getV b d a p z).e)], H.set il (numO (getV b d a p z).z)) := fun a ha => s68 b s hs hb d a (by omega) (okTs_mem hoks a ha) (h3' a ha)
    have hill := (List.getElem?_eq_some_iff.1 oil).1
    have hq : ∀ (M : Heap), (H ++ M)[il]? = some (numO z) := fun M => by rw [get_app hill]; exact oil
    have hbut : ∀ M : Heap, But H.length il H (H ++ M) := fun M => But.refl.app (Nat.le_refl _) M
    have hbl := bytesC_len b
    have hws := Go.Abs.Seat.wrap_small ((b.length : Int) - (p : Int)) (by omega)
    have hw1 := wrap_nat (i := p) (by omega)
    rw [leq F68]
    have hcode : f68.code = _ := congrArg AFunc.code f68_q
    rw [hcode]
    clear hcode
    simp only
    obtain ⟨hlen, ha⟩ := enter_at (f := f68) (args := [.im (.agg (encT (.mk k s' args))), .im (.sl s (bytesC b)), .im (.int .i64 (p : Int)), .ptr il 0 0]) (Nat.le_of_ble_eq_true rfl)
    have h0 := ha 0 _ rfl
    have h1 := ha 1 _ rfl
    have h2 := ha 2 _ rfl
    have hx3 := ha 3 _ rfl
    generalize enterA f68 [.im (.agg (encT (.mk k s' args))), .im (.sl s (bytesC b)), .im (.int .i64 (p : Int)), .ptr il 0 0] = tm at *
    change tm.length = 268 at hlen
    simp only [encT, encTs_map] at h0
    simp only [getV]
    have hfin := fun (g : GS) tm' H' (h : RetV H il g tm' H') => h.fin hill
    generalize endK f68 H = K at *
    have fin0 : ∀ (p : Nat) (e : Int) (tm' : List AV) (M : Heap), tm'.getD 8 undefA = .ptr (H.length + 1) 0 0 → tm'.getD 9 undefA = .im (.int .i64 (p : Int)) → tm'.getD 10 undefA = .im (.int .i64 e) → M[1]? = some zeroO → K .ret tm' (H ++ M) = some (.tup [.im (.agg (encV zeroV)), .im (.int .i64 (p : Int)), .im (.int .i64 e)], H.set il (numO z)) := fun p e tm' M a1 a2 a3 a4 =>
      hfin ⟨zeroV, p, e, z⟩ _ _ (RetQ.v ⟨a1, a2, a3, by rw [hget]; exact a4, hq _, hbut _⟩)
    have finv : ∀ (p : Nat) (e : Int) (tm' : List AV) (M : Heap) (k i : Int) (txt : List UInt8) (fa fb : Nat) (l : List VT) (lv : AV), tm'.getD 8 undefA = .ptr (H.length + 1) 0 0 → tm'.getD 9 undefA = .im (.int .i64 (p : Int)) → tm'.getD 10 undefA = .im (.int .i64 e) → LV lv l → M[1]? = some (.obj none [[.im (.int .i64 k), .im (.int .i64 i), .im (.str txt), .im (.cpx .f64 fa fb), lv]]) → K .ret tm' (H ++ M) = some (.tup [.im (.agg (encV (mkV k i txt fa fb l))), .im (.int .i64 (p : Int)), .im (.int .i64 e)], H.set il (numO z)) := fun p e tm' M k i txt fa fb l lv a1 a2 a3 a4 a5 =>
      hfin ⟨mkV k i txt fa fb l, p, e, z⟩ _ _ ⟨a1, a2, a3, hq _, hbut _, k, i, txt, fa, fb, l, lv, rfl, a4, by rw [hget]; exact a5⟩
    by_cases k1 : k = 1
    · subst k1
      simp only [if_true]
      have hcs : b[p]? = none ∨ ∃ c, b[p]? = some c := by cases b[p]? with
        | none => exact .inl rfl
        | some c => exact .inr ⟨c, rfl⟩
      rcases hcs with hbp | ⟨c, hbp⟩
      · have hge : decide ((b.length : Int) ≤ (p : Int)) = true := decide_eq_true (by have := List.getElem?_eq_none_iff.1 hbp; omega)
        simp only [hbp]
        simp only [q68_1, q68_2, x_seq, x_block, x_skip, x_label, x_cond, x_exit, x_goto, x_ret, k_normal, k_exit, k_goto, k_ret, b_normal, b_exit, b_goto, b_ret, wantedA, aop, ev, putA, List.length_cons, List.length_nil, List.replicate, List.cons_append, List.nil_append, List.append_nil, List.append_assoc, gs_same, gs_ne, gq_same, gq_ne, List.length_set, List.map_cons, List.map_nil, cellsOf, List.all_cons, List.all_nil, cellOk, boxTy, Bool.and_true, Bool.and_self, if_true, ite_true, ite_false, loadAt, storeAt, setAt, hget, hget0, hset, hset0, List.getElem?_cons_zero, List.getElem?_cons_succ, List.set_cons_zero, List.set_cons_succ, Nat.add_zero, Nat.zero_add, Nat.reduceAdd, Nat.reduceSub, Nat.reduceLeDiff, Nat.reduceLT, Nat.reduceEqDiff, Nat.le_refl, and_self, and_true, true_and, mkAgg, toIms, List.drop_zero, List.drop_succ_cons, List.take_succ_cons, List.take_zero, List.length_append, binBool, unA, Bool.false_eq_true, if_false, partA, fillA, fillE, List.take_nil, Nat.zero_ne_one, Nat.one_ne_zero, not_false_eq_true, ne_eq, Nat.succ_ne_self, reduceCtorEq, Int.reduceEq, Int.reduceLT, Int.reduceLE, decide_true, decide_false, beq_self_eq_true, beq_true, beq_false, Bool.not_true, Bool.not_false, b_lss, b_gtr, b_leq, b_geq, b_eql, b_neq, b_add, b_sub, b_mul, s_eql, s_neq, y_ops, y_nil, y_cons, y_guard, y_some, y_drop, y_do, y_not, y_not0, c_call, c_clo, c_move, c_pick, c_alloc, c_box, c_build, c_bslice, c_load, c_store, c_nilCheck, c_bin, c_binB, c_un, c_i2i, c_i2f, c_f2i, c_s2b, c_b2s, c_strId, c_mkfunc, c_mkslice, c_slice, c_sliceStr, c_fieldAddr, c_field, c_indexSl, c_indexArr, c_elemArr, c_indexStr, c_extract, c_lenStr, c_lenSl, c_append, c_real, c_imag, c_complex, c_min, c_max, c_clear, lenA_sl, hlen, h0, h1, h2, hbl, hge]
        exact fin0 _ _ _ _ (by simp only [gs_same, gs_ne, List.length_set, Nat.reduceLT, Nat.reduceEqDiff, not_false_eq_true, hlen]) (by simp only [gs_same, gs_ne, List.length_set, Nat.reduceLT, Nat.reduceEqDiff, not_false_eq_true, hlen]) (by simp only [gs_same, gs_ne, List.length_set, Nat.reduceLT, Nat.reduceEqDiff, not_false_eq_true, hlen]) rfl
      · have hpl := (List.getElem?_eq_some_iff.1 hbp).1
        have hs1 : s = 1 := by
          rcases hs with h | h
          · subst h; simp at hpl
          · exact h
        subst hs1
        have hge : decide ((b.length : Int) ≤ (p : Int)) = false := decide_eq_false (by omega)
        have hgb := bytesC_get hbp
        have hix := idx_nat (n := b.length) (i := p) hpl
        have w1 : IntKind.i64.wrap ((c.toNat : Nat) : Int) = ((c.toNat : Nat) : Int) := wrap_i64 (by have := c.toNat_lt; omega)
        simp only [hbp]
        by_cases hgt : 1 < c.toNat
        · have hdg : decide (1 < ((c.toNat : Nat) : Int)) = true := decide_eq_true (by omega)
          simp only [if_pos hgt]
          simp only [q68_1, q68_2, x_seq, x_block, x_skip, x_label, x_cond, x_exit, x_goto, x_ret, k_normal, k_exit, k_goto, k_ret, b_normal, b_exit, b_goto, b_ret, wantedA, aop, ev, putA, List.length_cons, List.length_nil, List.replicate, List.cons_append, List.nil_append, List.append_nil, List.append_assoc, gs_same, gs_ne, gq_same, gq_ne, List.length_set, List.map_cons, List.map_nil, cellsOf, List.all_cons, List.all_nil, cellOk, boxTy, Bool.and_true, Bool.and_self, if_true, ite_true, ite_false, loadAt, storeAt, setAt, hget, hget0, hset, hset0, List.getElem?_cons_zero, List.getElem?_cons_succ, List.set_cons_zero, List.set_cons_succ, Nat.add_zero, Nat.zero_add, Nat.reduceAdd, Nat.reduceSub, Nat.reduceLeDiff, Nat.reduceLT, Nat.reduceEqDiff, Nat.le_refl, and_self, and_true, true_and, mkAgg, toIms, List.drop_zero, List.drop_succ_cons, List.take_succ_cons, List.take_zero, List.length_append, binBool, unA, Bool.false_eq_true, if_false, partA, fillA, fillE, List.take_nil, Nat.zero_ne_one, Nat.one_ne_zero, not_false_eq_true, ne_eq, Nat.succ_ne_self, reduceCtorEq, Int.reduceEq, Int.reduceLT, Int.reduceLE, decide_true, decide_false, beq_self_eq_true, beq_true, beq_false, Bool.not_true, Bool.not_false, b_lss, b_gtr, b_leq, b_geq, b_eql, b_neq, b_add, b_sub, b_mul, s_eql, s_neq, y_ops, y_nil, y_cons, y_guard, y_some, y_drop, y_do, y_not, y_not0, c_call, c_clo, c_move, c_pick, c_alloc, c_box, c_build, c_bslice, c_load, c_store, c_nilCheck, c_bin, c_binB, c_un, c_i2i, c_i2f, c_f2i, c_s2b, c_b2s, c_strId, c_mkfunc, c_mkslice, c_slice, c_sliceStr, c_fieldAddr, c_field, c_indexSl, c_indexArr, c_elemArr, c_indexStr, c_extract, c_lenStr, c_lenSl, c_append, c_real, c_imag, c_complex, c_min, c_max, c_clear, lenA_sl, hlen, h0, h1, h2, hbl, hge, hix, hgb, byteDat, hdg]
          exact fin0 _ _ _ _ (by simp only [gs_same, gs_ne, List.length_set, Nat.reduceLT, Nat.reduceEqDiff, not_false_eq_true, hlen]) (by simp only [gs_same, gs_ne, List.length_set, Nat.reduceLT, Nat.reduceEqDiff, not_false_eq_true, hlen]) (by simp only [gs_same, gs_ne, List.length_set, Nat.reduceLT, Nat.reduceEqDiff, not_false_eq_true, hlen]) rfl
        · have hdg : decide (1 < ((c.toNat : Nat) : Int)) = false := decide_eq_false (by omega)
          simp only [if_neg hgt]
          simp only [q68_1, q68_2, x_seq, x_block, x_skip, x_label, x_cond, x_exit, x_goto, x_ret, k_normal, k_exit, k_goto, k_ret, b_normal, b_exit, b_goto, b_ret, wantedA, aop, ev, putA, List.length_cons, List.length_nil, List.replicate, List.cons_append, List.nil_append, List.append_nil, List.append_assoc, gs_same, gs_ne, gq_same, gq_ne, List.length_set, List.map_cons, List.map_nil, cellsOf, List.all_cons, List.all_nil, cellOk, boxTy, Bool.and_true, Bool.and_self, if_true, ite_true, ite_false, loadAt, storeAt, setAt, hget, hget0, hset, hset0, List.getElem?_cons_zero, List.getElem?_cons_succ, List.set_cons_zero, List.set_cons_succ, Nat.add_zero, Nat.zero_add, Nat.reduceAdd, Nat.reduceSub, Nat.reduceLeDiff, Nat.reduceLT, Nat.reduceEqDiff, Nat.le_refl, and_self, and_true, true_and, mkAgg, toIms, List.drop_zero, List.drop_succ_cons, List.take_succ_cons, List.take_zero, List.length_append, binBool, unA, Bool.false_eq_true, if_false, partA, fillA, fillE, List.take_nil, Nat.zero_ne_one, Nat.one_ne_zero, not_false_eq_true, ne_eq, Nat.succ_ne_self, reduceCtorEq, Int.reduceEq, Int.reduceLT, Int.reduceLE, decide_true, decide_false, beq_self_eq_true, beq_true, beq_false, Bool.not_true, Bool.not_false, b_lss, b_gtr, b_leq, b_geq, b_eql, b_neq, b_add, b_sub, b_mul, s_eql, s_neq, y_ops, y_nil, y_cons, y_guard, y_some, y_drop, y_do, y_not, y_not0, c_call, c_clo, c_move, c_pick, c_alloc, c_box, c_build, c_bslice, c_load, c_store, c_nilCheck, c_bin, c_binB, c_un, c_i2i, c_i2f, c_f2i, c_s2b, c_b2s, c_strId, c_mkfunc, c_mkslice, c_slice, c_sliceStr, c_fieldAddr, c_field, c_indexSl, c_indexArr, c_elemArr, c_indexStr, c_extract, c_lenStr, c_lenSl, c_append, c_real, c_imag, c_complex, c_min, c_max, c_clear, lenA_sl, hlen, h0, h1, h2, hbl, hge, hix, hgb, byteDat, hdg, w1, hw1]
          exact finv _ _ _ _ _ _ _ _ _ [] .nils (by simp only [gs_same, gs_ne, List.length_set, Nat.reduceLT, Nat.reduceEqDiff, not_false_eq_true, hlen]) (by simp only [gs_same, gs_ne, List.length_set, Nat.reduceLT, Nat.reduceEqDiff, not_false_eq_true, hlen]) (by simp only [gs_same, gs_ne, List.length_set, Nat.reduceLT, Nat.reduceEqDiff, not_false_eq_true, hlen]) (.inl ⟨rfl, rfl⟩) rfl
    have d1 : decide (k = 1) = false := decide_eq_false k1
    simp only [if_neg k1]
    by_cases k2 : k = 2
    · subst k2
      simp only [if_true]
      by_cases h8 : b.length < p + 8
      · have hd8 : decide ((b.length : Int) - (p : Int) < 8) = true := decide_eq_true (by omega)
        simp only [if_pos h8]
        simp only [q68_1, q68_2, x_seq, x_block, x_skip, x_label, x_cond, x_exit, x_goto, x_ret, k_normal, k_exit, k_goto, k_ret, b_normal, b_exit, b_goto, b_ret, wantedA, aop, ev, putA, List.length_cons, List.length_nil, List.replicate, List.cons_append, List.nil_append, List.append_nil, List.append_assoc, gs_same, gs_ne, gq_same, gq_ne, List.length_set, List.map_cons, List.map_nil, cellsOf, List.all_cons, List.all_nil, cellOk, boxTy, Bool.and_true, Bool.and_self, if_true, ite_true, ite_false, loadAt, storeAt, setAt, hget, hget0, hset, hset0, List.getElem?_cons_zero, List.getElem?_cons_succ, List.set_cons_zero, List.set_cons_succ, Nat.add_zero, Nat.zero_add, Nat.reduceAdd, Nat.reduceSub, Nat.reduceLeDiff, Nat.reduceLT, Nat.reduceEqDiff, Nat.le_refl, and_self, and_true, true_and, mkAgg, toIms, List.drop_zero, List.drop_succ_cons, List.take_succ_cons, List.take_zero, List.length_append, binBool, unA, Bool.false_eq_true, if_false, partA, fillA, fillE, List.take_nil, Nat.zero_ne_one, Nat.one_ne_zero, not_false_eq_true, ne_eq, Nat.succ_ne_self, reduceCtorEq, Int.reduceEq, Int.reduceLT, Int.reduceLE, decide_true, decide_false, beq_self_eq_true, beq_true, beq_false, Bool.not_true, Bool.not_false, b_lss, b_gtr, b_leq, b_geq, b_eql, b_neq, b_add, b_sub, b_mul, s_eql, s_neq, y_ops, y_nil, y_cons, y_guard, y_some, y_drop, y_do, y_not, y_not0, c_call, c_clo, c_move, c_pick, c_alloc, c_box, c_build, c_bslice, c_load, c_store, c_nilCheck, c_bin, c_binB, c_un, c_i2i, c_i2f, c_f2i, c_s2b, c_b2s, c_strId, c_mkfunc, c_mkslice, c_slice, c_sliceStr, c_fieldAddr, c_field, c_indexSl, c_indexArr, c_elemArr, c_indexStr, c_extract, c_lenStr, c_lenSl, c_append, c_real, c_imag, c_complex, c_min, c_max, c_clear, lenA_sl, hlen, h0, h1, h2, d1, hbl, hws, hd8]
        exact fin0 _ _ _ _ (by simp only [gs_same, gs_ne, List.length_set, Nat.reduceLT, Nat.reduceEqDiff, not_false_eq_true, hlen]) (by simp only [gs_same, gs_ne, List.length_set, Nat.reduceLT, Nat.reduceEqDiff, not_false_eq_true, hlen]) (by simp only [gs_same, gs_ne, List.length_set, Nat.reduceLT, Nat.reduceEqDiff, not_false_eq_true, hlen]) rfl
      · have hd8 : decide ((b.length : Int) - (p : Int) < 8) = false := decide_eq_false (by omega)
        have hs1 : s = 1 := by
          rcases hs with h | h
          · subst h; simp at h8
          · exact h
        simp only [if_neg h8]
        have key := l68_8 b hb p (by omega) s hs1 8 0 rfl 0
        have z0 : ((0 : Nat) : Int) = 0 := rfl
        rw [z0] at key
        simp only [Nat.add_zero] at key
        generalize get8 b 8 p 0 = n at *
        have hw8 : IntKind.i64.wrap ((p : Int) + 8) = ((p + 8 : Nat) : Int) := by rw [Go.Abs.Seat.wrap_small _ (by omega)]; omega
        simp only [q68_1, q68_2, e68_3, x_seq, x_block, x_skip, x_label, x_cond, x_exit, x_goto, x_ret, k_normal, k_exit, k_goto, k_ret, b_normal, b_exit, b_goto, b_ret, wantedA, aop, ev, putA, List.length_cons, List.length_nil, List.replicate, List.cons_append, List.nil_append, List.append_nil, List.append_assoc, gs_same, gs_ne, gq_same, gq_ne, List.length_set, List.map_cons, List.map_nil, cellsOf, List.all_cons, List.all_nil, cellOk, boxTy, Bool.and_true, Bool.and_self, if_true, ite_true, ite_false, loadAt, storeAt, setAt, hget, hget0, hset, hset0, List.getElem?_cons_zero, List.getElem?_cons_succ, List.set_cons_zero, List.set_cons_succ, Nat.add_zero, Nat.zero_add, Nat.reduceAdd, Nat.reduceSub, Nat.reduceLeDiff, Nat.reduceLT, Nat.reduceEqDiff, Nat.le_refl, and_self, and_true, true_and, mkAgg, toIms, List.drop_zero, List.drop_succ_cons, List.take_succ_cons, List.take_zero, List.length_append, binBool, unA, Bool.false_eq_true, if_false, partA, fillA, fillE, List.take_nil, Nat.zero_ne_one, Nat.one_ne_zero, not_false_eq_true, ne_eq, Nat.succ_ne_self, reduceCtorEq, Int.reduceEq, Int.reduceLT, Int.reduceLE, decide_true, decide_false, beq_self_eq_true, beq_true, beq_false, Bool.not_true, Bool.not_false, b_lss, b_gtr, b_leq, b_geq, b_eql, b_neq, b_add, b_sub, b_mul, s_eql, s_neq, y_ops, y_nil, y_cons, y_guard, y_some, y_drop, y_do, y_not, y_not0, c_call, c_clo, c_move, c_pick, c_alloc, c_box, c_build, c_bslice, c_load, c_store, c_nilCheck, c_bin, c_binB, c_un, c_i2i, c_i2f, c_f2i, c_s2b, c_b2s, c_strId, c_mkfunc, c_mkslice, c_slice, c_sliceStr, c_fieldAddr, c_field, c_indexSl, c_indexArr, c_elemArr, c_indexStr, c_extract, c_lenStr, c_lenSl, c_append, c_real, c_imag, c_complex, c_min, c_max, c_clear, lenA_sl, hlen, h0, h1, h2, d1, hbl, hws, hd8]
        generalize hr : thenL _ _ = r'
        refine Exists.elim (thenL_inv hr (key _ _ (by decide) ?_ ?_ ?_ ?_ ?_)) ?_
        iterate 5 simp only [gs_same, gs_ne, List.length_set, Nat.reduceLT, Nat.reduceEqDiff, not_false_eq_true, hlen, h1, h2]
        clear hr key
        rintro e' ⟨tm1, H1, ⟨rfl, rfl, hl1, g2, g8, g11, g12, hn⟩, rfl⟩
        simp only [gs_same, gs_ne, List.length_set, Nat.reduceLT, Nat.reduceEqDiff, not_false_eq_true, hlen, h2] at g2 g8 g11
        have wn : IntKind.u64.wrap ((n : Int) - 9223372036854775808) = (((n + 9223372036854775808) % 18446744073709551616 : Nat) : Int) := by
          simp [IntKind.wrap, IntKind.bits, IntKind.signed]
          omega
        simp only [x_seq, x_block, x_skip, x_label, x_cond, x_exit, x_goto, x_ret, k_normal, k_exit, k_goto, k_ret, b_normal, b_exit, b_goto, b_ret, wantedA, aop, ev, putA, List.length_cons, List.length_nil, List.replicate, List.cons_append, List.nil_append, List.append_nil, List.append_assoc, gs_same, gs_ne, gq_same, gq_ne, List.length_set, List.map_cons, List.map_nil, cellsOf, List.all_cons, List.all_nil, cellOk, boxTy, Bool.and_true, Bool.and_self, if_true, ite_true, ite_false, loadAt, storeAt, setAt, hget, hget0, hset, hset0, List.getElem?_cons_zero, List.getElem?_cons_succ, List.set_cons_zero, List.set_cons_succ, Nat.add_zero, Nat.zero_add, Nat.reduceAdd, Nat.reduceSub, Nat.reduceLeDiff, Nat.reduceLT, Nat.reduceEqDiff, Nat.le_refl, and_self, and_true, true_and, mkAgg, toIms, List.drop_zero, List.drop_succ_cons, List.take_succ_cons, List.take_zero, List.length_append, binBool, unA, Bool.false_eq_true, if_false, partA, fillA, fillE, List.take_nil, Nat.zero_ne_one, Nat.one_ne_zero, not_false_eq_true, ne_eq, Nat.succ_ne_self, reduceCtorEq, Int.reduceEq, Int.reduceLT, Int.reduceLE, decide_true, decide_false, beq_self_eq_true, beq_true, beq_false, Bool.not_true, Bool.not_false, b_lss, b_gtr, b_leq, b_geq, b_eql, b_neq, b_add, b_sub, b_mul, s_eql, s_neq, y_ops, y_nil, y_cons, y_guard, y_some, y_drop, y_do, y_not, y_not0, c_call, c_clo, c_move, c_pick, c_alloc, c_box, c_build, c_bslice, c_load, c_store, c_nilCheck, c_bin, c_binB, c_un, c_i2i, c_i2f, c_f2i, c_s2b, c_b2s, c_strId, c_mkfunc, c_mkslice, c_slice, c_sliceStr, c_fieldAddr, c_field, c_indexSl, c_indexArr, c_elemArr, c_indexStr, c_extract, c_lenStr, c_lenSl, c_append, c_real, c_imag, c_complex, c_min, c_max, c_clear, hl1, g2, g8, g11, g12, wn, hw8]
        exact finv _ _ _ _ _ _ _ _ _ [] .nils (by simp only [gs_same, gs_ne, List.length_set, Nat.reduceLT, Nat.reduceEqDiff, not_false_eq_true, hl1, g8]) (by simp only [gs_same, gs_ne, List.length_set, Nat.reduceLT, Nat.reduceEqDiff, not_false_eq_true, hl1, g8]) (by simp only [gs_same, gs_ne, List.length_set, Nat.reduceLT, Nat.reduceEqDiff, not_false_eq_true, hl1, g8]) (.inl ⟨rfl, rfl⟩) rfl
    have d2 : decide (k = 2) = false := decide_eq_false k2
    simp only [if_neg k2]
    by_cases k34 : k = 3 ∨ k = 4
    · have c96 := fun (k : Int) H => s96 b s p k hs hb H
      simp only [if_pos k34]
      generalize getT b (b.length + 1) p [] = q at *
      obtain ⟨v, p', e'⟩ := q
      simp only [mkV, encV, encVs, List.length_nil, if_true] at c96 ⊢
      rcases k34 with k3 | k4
      · subst k3
        simp only [q68_1, q68_2, x_seq, x_block, x_skip, x_label, x_cond, x_exit, x_goto, x_ret, k_normal, k_exit, k_goto, k_ret, b_normal, b_exit, b_goto, b_ret, wantedA, aop, ev, putA, List.length_cons, List.length_nil, List.replicate, List.cons_append, List.nil_append, List.append_nil, List.append_assoc, gs_same, gs_ne, gq_same, gq_ne, List.length_set, List.map_cons, List.map_nil, cellsOf, List.all_cons, List.all_nil, cellOk, boxTy, Bool.and_true, Bool.and_self, if_true, ite_true, ite_false, loadAt, storeAt, setAt, hget, hget0, hset, hset0, List.getElem?_cons_zero, List.getElem?_cons_succ, List.set_cons_zero, List.set_cons_succ, Nat.add_zero, Nat.zero_add, Nat.reduceAdd, Nat.reduceSub, Nat.reduceLeDiff, Nat.reduceLT, Nat.reduceEqDiff, Nat.le_refl, and_self, and_true, true_and, mkAgg, toIms, List.drop_zero, List.drop_succ_cons, List.take_succ_cons, List.take_zero, List.length_append, binBool, unA, Bool.false_eq_true, if_false, partA, fillA, fillE, List.take_nil, Nat.zero_ne_one, Nat.one_ne_zero, not_false_eq_true, ne_eq, Nat.succ_ne_self, reduceCtorEq, Int.reduceEq, Int.reduceLT, Int.reduceLE, decide_true, decide_false, beq_self_eq_true, beq_true, beq_false, Bool.not_true, Bool.not_false, b_lss, b_gtr, b_leq, b_geq, b_eql, b_neq, b_add, b_sub, b_mul, s_eql, s_neq, y_ops, y_nil, y_cons, y_guard, y_some, y_drop, y_do, y_not, y_not0, c_call, c_clo, c_move, c_pick, c_alloc, c_box, c_build, c_bslice, c_load, c_store, c_nilCheck, c_bin, c_binB, c_un, c_i2i, c_i2f, c_f2i, c_s2b, c_b2s, c_strId, c_mkfunc, c_mkslice, c_slice, c_sliceStr, c_fieldAddr, c_field, c_indexSl, c_indexArr, c_elemArr, c_indexStr, c_extract, c_lenStr, c_lenSl, c_append, c_real, c_imag, c_complex, c_min, c_max, c_clear, lenA_sl, hlen, h0, h1, h2, d1, d2, c96]
        exact finv _ _ _ _ _ _ _ _ _ [] (.im (.sl 0 [])) (by simp only [gs_same, gs_ne, List.length_set, Nat.reduceLT, Nat.reduceEqDiff, not_false_eq_true, hlen]) (by simp only [gs_same, gs_ne, List.length_set, Nat.reduceLT, Nat.reduceEqDiff, not_false_eq_true, hlen]) (by simp only [gs_same, gs_ne, List.length_set, Nat.reduceLT, Nat.reduceEqDiff, not_false_eq_true, hlen]) (.inr (.inr rfl)) rfl
      · subst k4
        simp only [q68_1, q68_2, x_seq, x_block, x_skip, x_label, x_cond, x_exit, x_goto, x_ret, k_normal, k_exit, k_goto, k_ret, b_normal, b_exit, b_goto, b_ret, wantedA, aop, ev, putA, List.length_cons, List.length_nil, List.replicate, List.cons_append, List.nil_append, List.append_nil, List.append_assoc, gs_same, gs_ne, gq_same, gq_ne, List.length_set, List.map_cons, List.map_nil, cellsOf, List.all_cons, List.all_nil, cellOk, boxTy, Bool.and_true, Bool.and_self, if_true, ite_true, ite_false, loadAt, storeAt, setAt, hget, hget0, hset, hset0, List.getElem?_cons_zero, List.getElem?_cons_succ, List.set_cons_zero, List.set_cons_succ, Nat.add_zero, Nat.zero_add, Nat.reduceAdd, Nat.reduceSub, Nat.reduceLeDiff, Nat.reduceLT, Nat.reduceEqDiff, Nat.le_refl, and_self, and_true, true_and, mkAgg, toIms, List.drop_zero, List.drop_succ_cons, List.take_succ_cons, List.take_zero, List.length_append, binBool, unA, Bool.false_eq_true, if_false, partA, fillA, fillE, List.take_nil, Nat.zero_ne_one, Nat.one_ne_zero, not_false_eq_true, ne_eq, Nat.succ_ne_self, reduceCtorEq, Int.reduceEq, Int.reduceLT, Int.reduceLE, decide_true, decide_false, beq_self_eq_true, beq_true, beq_false, Bool.not_true, Bool.not_false, b_lss, b_gtr, b_leq, b_geq, b_eql, b_neq, b_add, b_sub, b_mul, s_eql, s_neq, y_ops, y_nil, y_cons, y_guard, y_some, y_drop, y_do, y_not, y_not0, c_call, c_clo, c_move, c_pick, c_alloc, c_box, c_build, c_bslice, c_load, c_store, c_nilCheck, c_bin, c_binB, c_un, c_i2i, c_i2f, c_f2i, c_s2b, c_b2s, c_strId, c_mkfunc, c_mkslice, c_slice, c_sliceStr, c_fieldAddr, c_field, c_indexSl, c_indexArr, c_elemArr, c_indexStr, c_extract, c_lenStr, c_lenSl, c_append, c_real, c_imag, c_complex, c_min, c_max, c_clear, lenA_sl, hlen, h0, h1, h2, d1, d2, c96]
        exact finv _ _ _ _ _ _ _ _ _ [] (.im (.sl 0 [])) (by simp only [gs_same, gs_ne, List.length_set, Nat.reduceLT, Nat.reduceEqDiff, not_false_eq_true, hlen]) (by simp only [gs_same, gs_ne, List.length_set, Nat.reduceLT, Nat.reduceEqDiff, not_false_eq_true, hlen]) (by simp only [gs_same, gs_ne, List.length_set, Nat.reduceLT, Nat.reduceEqDiff, not_false_eq_true, hlen]) (.inr (.inr rfl)) rfl
    have d3 : decide (k = 3) = false := decide_eq_false fun h => k34 (.inl h)
    have d4 : decide (k = 4) = false := decide_eq_false fun h => k34 (.inr h)
    simp only [if_neg k34]
    by_cases k5 : k = 5
    · subst k5
      simp only [if_true]
      have key := l68_pt b hb s hs p hp il z H oil (.obj none [[.im (.int .i64 5), .im (.sl s' (args.map encT))]]) (.obj none [[.im (.int .i64 5), .im (.int .i64 0), .im (.str []), .im (.cpx .f64 0 0), .nils]]) (.im (.int .i64 0)) (.im (.int .i64 0))
      have hp1 := ptG_p hp
      have hp2 := ptG_p hp1.1
      generalize ptG b (ptG b p).2.1 = q2 at *
      generalize ptG b p = q1 at *
      obtain ⟨v1, p1, e1⟩ := q1
      obtain ⟨v2, p2, e2⟩ := q2
      simp only at hp1 hp2 key ⊢
      have c97 := fun H => s97 v1 v2 (by omega) (by omega) H
      simp only [pointV, mkV, encV, encVs, List.length_nil, if_true] at c97
      simp only [zeroO] at key
      have hi0 : idx (.im (.int .i64 0)) 2 = some 0 := rfl
      have hi1 : idx (.im (.int .i64 1)) 2 = some 1 := rfl
      simp only [q68_1, q68_2, e68_2, x_seq, x_block, x_skip, x_label, x_cond, x_exit, x_goto, x_ret, k_normal, k_exit, k_goto, k_ret, b_normal, b_exit, b_goto, b_ret, wantedA, aop, ev, putA, List.length_cons, List.length_nil, List.replicate, List.cons_append, List.nil_append, List.append_nil, List.append_assoc, gs_same, gs_ne, gq_same, gq_ne, List.length_set, List.map_cons, List.map_nil, cellsOf, List.all_cons, List.all_nil, cellOk, boxTy, Bool.and_true, Bool.and_self, if_true, ite_true, ite_false, loadAt, storeAt, setAt, hget, hget0, hset, hset0, List.getElem?_cons_zero, List.getElem?_cons_succ, List.set_cons_zero, List.set_cons_succ, Nat.add_zero, Nat.zero_add, Nat.reduceAdd, Nat.reduceSub, Nat.reduceLeDiff, Nat.reduceLT, Nat.reduceEqDiff, Nat.le_refl, and_self, and_true, true_and, mkAgg, toIms, List.drop_zero, List.drop_succ_cons, List.take_succ_cons, List.take_zero, List.length_append, binBool, unA, Bool.false_eq_true, if_false, partA, fillA, fillE, List.take_nil, Nat.zero_ne_one, Nat.one_ne_zero, not_false_eq_true, ne_eq, Nat.succ_ne_self, reduceCtorEq, Int.reduceEq, Int.reduceLT, Int.reduceLE, decide_true, decide_false, beq_self_eq_true, beq_true, beq_false, Bool.not_true, Bool.not_false, b_lss, b_gtr, b_leq, b_geq, b_eql, b_neq, b_add, b_sub, b_mul, s_eql, s_neq, y_ops, y_nil, y_cons, y_guard, y_some, y_drop, y_do, y_not, y_not0, c_call, c_clo, c_move, c_pick, c_alloc, c_box, c_build, c_bslice, c_load, c_store, c_nilCheck, c_bin, c_binB, c_un, c_i2i, c_i2f, c_f2i, c_s2b, c_b2s, c_strId, c_mkfunc, c_mkslice, c_slice, c_sliceStr, c_fieldAddr, c_field, c_indexSl, c_indexArr, c_elemArr, c_indexStr, c_extract, c_lenStr, c_lenSl, c_append, c_real, c_imag, c_complex, c_min, c_max, c_clear, lenA_sl, hlen, h0, h1, h2, d1, d2, d3, d4]
      generalize hr : thenL _ _ = r'
      refine Exists.elim (thenL_inv hr (key _ ?_ ?_ ?_ ?_ ?_ ?_)) ?_
      iterate 6 simp only [gs_same, gs_ne, List.length_set, Nat.reduceLT, Nat.reduceEqDiff, not_false_eq_true, hlen, h1, h2]
      clear hr key
      rintro e' ⟨tm1, H1, hm, rfl⟩
      rcases hm with ⟨rfl, rfl, rfl, rfl, hl1, g2, g8, g14⟩ | ⟨rfl, he, rfl, g⟩ | ⟨he, rfl, g⟩
      · simp only [if_true]
        simp only [x_seq, x_block, x_skip, x_label, x_cond, x_exit, x_goto, x_ret, k_normal, k_exit, k_goto, k_ret, b_normal, b_exit, b_goto, b_ret, wantedA, aop, ev, putA, List.length_cons, List.length_nil, List.replicate, List.cons_append, List.nil_append, List.append_nil, List.append_assoc, gs_same, gs_ne, gq_same, gq_ne, List.length_set, List.map_cons, List.map_nil, cellsOf, List.all_cons, List.all_nil, cellOk, boxTy, Bool.and_true, Bool.and_self, if_true, ite_true, ite_false, loadAt, storeAt, setAt, hget, hget0, hset, hset0, List.getElem?_cons_zero, List.getElem?_cons_succ, List.set_cons_zero, List.set_cons_succ, Nat.add_zero, Nat.zero_add, Nat.reduceAdd, Nat.reduceSub, Nat.reduceLeDiff, Nat.reduceLT, Nat.reduceEqDiff, Nat.le_refl, and_self, and_true, true_and, mkAgg, toIms, List.drop_zero, List.drop_succ_cons, List.take_succ_cons, List.take_zero, List.length_append, binBool, unA, Bool.false_eq_true, if_false, partA, fillA, fillE, List.take_nil, Nat.zero_ne_one, Nat.one_ne_zero, not_false_eq_true, ne_eq, Nat.succ_ne_self, reduceCtorEq, Int.reduceEq, Int.reduceLT, Int.reduceLE, decide_true, decide_false, beq_self_eq_true, beq_true, beq_false, Bool.not_true, Bool.not_false, b_lss, b_gtr, b_leq, b_geq, b_eql, b_neq, b_add, b_sub, b_mul, s_eql, s_neq, y_ops, y_nil, y_cons, y_guard, y_some, y_drop, y_do, y_not, y_not0, c_call, c_clo, c_move, c_pick, c_alloc, c_box, c_build, c_bslice, c_load, c_store, c_nilCheck, c_bin, c_binB, c_un, c_i2i, c_i2f, c_f2i, c_s2b, c_b2s, c_strId, c_mkfunc, c_mkslice, c_slice, c_sliceStr, c_fieldAddr, c_field, c_indexSl, c_indexArr, c_elemArr, c_indexStr, c_extract, c_lenStr, c_lenSl, c_append, c_real, c_imag, c_complex, c_min, c_max, c_clear, hl1, g2, g8, g14, hi0, hi1, c97, Nat.mul_one, Nat.zero_mul, Nat.one_mul, Nat.add_zero, Nat.zero_add]
        exact finv _ _ _ _ _ _ _ _ _ [] (.im (.sl 0 [])) (by simp only [gs_same, gs_ne, List.length_set, Nat.reduceLT, Nat.reduceEqDiff, not_false_eq_true, hl1, g8]) (by simp only [gs_same, gs_ne, List.length_set, Nat.reduceLT, Nat.reduceEqDiff, not_false_eq_true, hl1, g8]) (by simp only [gs_same, gs_ne, List.length_set, Nat.reduceLT, Nat.reduceEqDiff, not_false_eq_true, hl1, g8]) (.inr (.inr rfl)) rfl
      · simp only [if_true, if_neg he]
        exact hfin _ _ _ (RetQ.v g)
      · simp only [if_neg he]
        exact hfin _ _ _ (RetQ.v g)
    have d5 : decide (k = 5) = false := decide_eq_false k5
    simp only [if_neg k5]
    by_cases k6 : k = 6
    · subst k6
      simp only [if_true]
      have hn2 : args.length = 2 := by have : cntK 6 = 2 := by decide
                                       omega
      have hs2 : s' = 2 := by
        rcases hss with hs | hs
        · subst hs; simp at hn2
        · exact hs
      subst hs2
      have key := l68_pair b s il args hn2 (getV b d) H hill 6 (fun a ha p z H => ih a ha p z il H) (fun a ha => good_get d a (h3' a ha)) 2 0 rfl p z []
      rw [List.drop_zero] at key
      have z0 : ((0 : Nat) : Int) = 0 := rfl
      rw [z0] at key
      generalize pairG (getV b d) args p z [] = q at *
      obtain ⟨vl, p', e', z'⟩ := q
      simp only at key ⊢
      simp only [q68_1, q68_2, e68_1, x_seq, x_block, x_skip, x_label, x_cond, x_exit, x_goto, x_ret, k_normal, k_exit, k_goto, k_ret, b_normal, b_exit, b_goto, b_ret, wantedA, aop, ev, putA, List.length_cons, List.length_nil, List.replicate, List.cons_append, List.nil_append, List.append_nil, List.append_assoc, gs_same, gs_ne, gq_same, gq_ne, List.length_set, List.map_cons, List.map_nil, cellsOf, List.all_cons, List.all_nil, cellOk, boxTy, Bool.and_true, Bool.and_self, if_true, ite_true, ite_false, loadAt, storeAt, setAt, hget, hget0, hset, hset0, List.getElem?_cons_zero, List.getElem?_cons_succ, List.set_cons_zero, List.set_cons_succ, Nat.add_zero, Nat.zero_add, Nat.reduceAdd, Nat.reduceSub, Nat.reduceLeDiff, Nat.reduceLT, Nat.reduceEqDiff, Nat.le_refl, and_self, and_true, true_and, mkAgg, toIms, List.drop_zero, List.drop_succ_cons, List.take_succ_cons, List.take_zero, List.length_append, binBool, unA, Bool.false_eq_true, if_false, partA, fillA, fillE, List.take_nil, Nat.zero_ne_one, Nat.one_ne_zero, not_false_eq_true, ne_eq, Nat.succ_ne_self, reduceCtorEq, Int.reduceEq, Int.reduceLT, Int.reduceLE, decide_true, decide_false, beq_self_eq_true, beq_true, beq_false, Bool.not_true, Bool.not_false, b_lss, b_gtr, b_leq, b_geq, b_eql, b_neq, b_add, b_sub, b_mul, s_eql, s_neq, y_ops, y_nil, y_cons, y_guard, y_some, y_drop, y_do, y_not, y_not0, c_call, c_clo, c_move, c_pick, c_alloc, c_box, c_build, c_bslice, c_load, c_store, c_nilCheck, c_bin, c_binB, c_un, c_i2i, c_i2f, c_f2i, c_s2b, c_b2s, c_strId, c_mkfunc, c_mkslice, c_slice, c_sliceStr, c_fieldAddr, c_field, c_indexSl, c_indexArr, c_elemArr, c_indexStr, c_extract, c_lenStr, c_lenSl, c_append, c_real, c_imag, c_complex, c_min, c_max, c_clear, lenA_sl, hlen, h0, h1, h2, d1, d2, d3, d4, d5]
      generalize hr : thenL _ _ = r'
      refine Exists.elim (thenL_inv hr (key _ (H ++ [_, _, _]) .nils rfl hp hz0 hz1 ?_ ?_ ?_ ?_ ?_ ?_ ?_ ?_ (hq _) (by rw [hget0]; rfl) (by rw [hget]; rfl) (by rw [hget]; rfl) (.inl ⟨rfl, rfl⟩) (by simp) (fun i hi hne => List.getElem?_append_left hi))) ?_
      iterate 8 simp only [gs_same, gs_ne, List.length_set, Nat.reduceLT, Nat.reduceEqDiff, not_false_eq_true, hlen, h1, h2, hx3]
      clear hr key
      rintro e ⟨tm1, H1, hm, rfl⟩
      rcases hm with ⟨rfl, rfl, hl1, g2, g8, g11, oil1, hbt, hHl, oZ, lv, hlv, oV⟩ | ⟨he, rfl, g⟩
      · simp only [if_true]
        have hres := hfin ⟨mkV 6 0 [] 0 0 vl, p', 0, z'⟩
        simp only [zeroO] at oZ
        have fx : ∀ (tm' : List AV), tm'.getD 8 undefA = .ptr (H.length + 1) 0 0 → tm'.getD 9 undefA = .im (.int .i64 (p' : Int)) → tm'.getD 10 undefA = .im (.int .i64 0) → RetV H il ⟨mkV 6 0 [] 0 0 vl, p', 0, z'⟩ tm' (H1.set (H.length + 1) (.obj none [[.im (.int .i64 6), .im (.int .i64 0), .im (.str []), .im (.cpx .f64 0 0), lv]])) := fun tm' a1 a2 a3 =>
          ⟨a1, a2, a3, by rw [List.getElem?_set_ne (by omega)]; exact oil1, ⟨by have := hbt.1; simpa using this, fun j hj hne => by rw [List.getElem?_set_ne (by omega)]; exact hbt.2 j hj hne⟩, 6, 0, [], 0, 0, vl, lv, rfl, hlv, List.getElem?_set_self (by omega)⟩
        rcases hlv with ⟨rfl, rfl⟩ | ⟨tok, rfl, hne⟩ | rfl
        all_goals simp only [x_seq, x_block, x_skip, x_label, x_cond, x_exit, x_goto, x_ret, k_normal, k_exit, k_goto, k_ret, b_normal, b_exit, b_goto, b_ret, wantedA, aop, ev, putA, List.length_cons, List.length_nil, List.replicate, List.cons_append, List.nil_append, List.append_nil, List.append_assoc, gs_same, gs_ne, gq_same, gq_ne, List.length_set, List.map_cons, List.map_nil, cellsOf, List.all_cons, List.all_nil, cellOk, boxTy, Bool.and_true, Bool.and_self, if_true, ite_true, ite_false, loadAt, storeAt, setAt, hget, hget0, hset, hset0, List.getElem?_cons_zero, List.getElem?_cons_succ, List.set_cons_zero, List.set_cons_succ, Nat.add_zero, Nat.zero_add, Nat.reduceAdd, Nat.reduceSub, Nat.reduceLeDiff, Nat.reduceLT, Nat.reduceEqDiff, Nat.le_refl, and_self, and_true, true_and, mkAgg, toIms, List.drop_zero, List.drop_succ_cons, List.take_succ_cons, List.take_zero, List.length_append, binBool, unA, Bool.false_eq_true, if_false, partA, fillA, fillE, List.take_nil, Nat.zero_ne_one, Nat.one_ne_zero, not_false_eq_true, ne_eq, Nat.succ_ne_self, reduceCtorEq, Int.reduceEq, Int.reduceLT, Int.reduceLE, decide_true, decide_false, beq_self_eq_true, beq_true, beq_false, Bool.not_true, Bool.not_false, b_lss, b_gtr, b_leq, b_geq, b_eql, b_neq, b_add, b_sub, b_mul, s_eql, s_neq, y_ops, y_nil, y_cons, y_guard, y_some, y_drop, y_do, y_not, y_not0, c_call, c_clo, c_move, c_pick, c_alloc, c_box, c_build, c_bslice, c_load, c_store, c_nilCheck, c_bin, c_binB, c_un, c_i2i, c_i2f, c_f2i, c_s2b, c_b2s, c_strId, c_mkfunc, c_mkslice, c_slice, c_sliceStr, c_fieldAddr, c_field, c_indexSl, c_indexArr, c_elemArr, c_indexStr, c_extract, c_lenStr, c_lenSl, c_append, c_real, c_imag, c_complex, c_min, c_max, c_clear, hl1, g2, g8, g11, oV, oZ]
        all_goals exact hres _ _ (fx _ (by simp only [gs_same, gs_ne, List.length_set, Nat.reduceLT, Nat.reduceEqDiff, not_false_eq_true, hl1, g8]) (by simp only [gs_same, gs_ne, List.length_set, Nat.reduceLT, Nat.reduceEqDiff, not_false_eq_true, hl1, g8]) (by simp only [gs_same, gs_ne, List.length_set, Nat.reduceLT, Nat.reduceEqDiff, not_false_eq_true, hl1, g8]))
      · simp only [if_neg he]
        exact hfin _ _ _ g
    have d6 : decide (k = 6) = false := decide_eq_false k6
    simp only [if_neg k6]
    obtain ⟨x, rfl⟩ := right_kind h k1 k2 (fun h => k34 (.inl h)) (fun h => k34 (.inr h)) k5 k6
    have hs2 : s' = 2 := by
      rcases hss with hs | hs
      · simp at hs
      · exact hs
    subst hs2
    have hox := okTs_mem hoks x (by simp)
    have hrx := h3' x (by simp)
    have hgx := good_get (b := b) d x hrx
    by_cases k9 : k = 9
    · subst k9
      have key := fun tm => l68_opt b hb s il hs x d (by omega) hox hrx (getV b d x) H hill (fun p z H => ih x (by simp) p z il H) hgx p z tm
      simp only [if_true]
      generalize optG (getV b d x) b (leastT x) p z = g at *
      simp only [q68_1, q68_2, q68_3, e68_0, x_seq, x_block, x_skip, x_label, x_cond, x_exit, x_goto, x_ret, k_normal, k_exit, k_goto, k_ret, b_normal, b_exit, b_goto, b_ret, wantedA, aop, ev, putA, List.length_cons, List.length_nil, List.replicate, List.cons_append, List.nil_append, List.append_nil, List.append_assoc, gs_same, gs_ne, gq_same, gq_ne, List.length_set, List.map_cons, List.map_nil, cellsOf, List.all_cons, List.all_nil, cellOk, boxTy, Bool.and_true, Bool.and_self, if_true, ite_true, ite_false, loadAt, storeAt, setAt, hget, hget0, hset, hset0, List.getElem?_cons_zero, List.getElem?_cons_succ, List.set_cons_zero, List.set_cons_succ, Nat.add_zero, Nat.zero_add, Nat.reduceAdd, Nat.reduceSub, Nat.reduceLeDiff, Nat.reduceLT, Nat.reduceEqDiff, Nat.le_refl, and_self, and_true, true_and, mkAgg, toIms, List.drop_zero, List.drop_succ_cons, List.take_succ_cons, List.take_zero, List.length_append, binBool, unA, Bool.false_eq_true, if_false, partA, fillA, fillE, List.take_nil, Nat.zero_ne_one, Nat.one_ne_zero, not_false_eq_true, ne_eq, Nat.succ_ne_self, reduceCtorEq, Int.reduceEq, Int.reduceLT, Int.reduceLE, decide_true, decide_false, beq_self_eq_true, beq_true, beq_false, Bool.not_true, Bool.not_false, b_lss, b_gtr, b_leq, b_geq, b_eql, b_neq, b_add, b_sub, b_mul, s_eql, s_neq, y_ops, y_nil, y_cons, y_guard, y_some, y_drop, y_do, y_not, y_not0, c_call, c_clo, c_move, c_pick, c_alloc, c_box, c_build, c_bslice, c_load, c_store, c_nilCheck, c_bin, c_binB, c_un, c_i2i, c_i2f, c_f2i, c_s2b, c_b2s, c_strId, c_mkfunc, c_mkslice, c_slice, c_sliceStr, c_fieldAddr, c_field, c_indexSl, c_indexArr, c_elemArr, c_indexStr, c_extract, c_lenStr, c_lenSl, c_append, c_real, c_imag, c_complex, c_min, c_max, c_clear, lenA_sl, hlen, h0, h1, h2, d1, d2, d3, d4, d5, d6]
      generalize hr : thenL _ _ = r'
      refine Exists.elim (thenL_inv hr (key _ (H ++ [_, _, _]) hp hz0 hz1 ?_ ?_ ?_ ?_ ?_ ?_ ?_ (hq _) (by rw [hget0]; rfl) (by rw [hget]; rfl) (by rw [hget]; rfl) (by simp) (fun i hi hne => List.getElem?_append_left hi))) ?_
      iterate 7 simp only [gs_same, gs_ne, List.length_set, Nat.reduceLT, Nat.reduceEqDiff, not_false_eq_true, hlen, h1, h2, hx3]
      clear hr key
      rintro e ⟨tm1, H1, ⟨rfl, hm⟩, rfl⟩
      exact hfin _ _ _ hm
    · simp only [if_neg k9]
      have key := l68_list b hb s il hs x d (by omega) hox hrx (getV b d x) H hill k k9 (fun p z H => ih x (by simp) p z il H) hgx 64 p z []
      generalize listG (getV b d x) b (leastT x) 64 p z [] = q at *
      obtain ⟨vl, p', e', z'⟩ := q
      simp only at key ⊢
      simp only [q68_1, q68_2, q68_3, e68_0, x_seq, x_block, x_skip, x_label, x_cond, x_exit, x_goto, x_ret, k_normal, k_exit, k_goto, k_ret, b_normal, b_exit, b_goto, b_ret, wantedA, aop, ev, putA, List.length_cons, List.length_nil, List.replicate, List.cons_append, List.nil_append, List.append_nil, List.append_assoc, gs_same, gs_ne, gq_same, gq_ne, List.length_set, List.map_cons, List.map_nil, cellsOf, List.all_cons, List.all_nil, cellOk, boxTy, Bool.and_true, Bool.and_self, if_true, ite_true, ite_false, loadAt, storeAt, setAt, hget, hget0, hset, hset0, List.getElem?_cons_zero, List.getElem?_cons_succ, List.set_cons_zero, List.set_cons_succ, Nat.add_zero, Nat.zero_add, Nat.reduceAdd, Nat.reduceSub, Nat.reduceLeDiff, Nat.reduceLT, Nat.reduceEqDiff, Nat.le_refl, and_self, and_true, true_and, mkAgg, toIms, List.drop_zero, List.drop_succ_cons, List.take_succ_cons, List.take_zero, List.length_append, binBool, unA, Bool.false_eq_true, if_false, partA, fillA, fillE, List.take_nil, Nat.zero_ne_one, Nat.one_ne_zero, not_false_eq_true, ne_eq, Nat.succ_ne_self, reduceCtorEq, Int.reduceEq, Int.reduceLT, Int.reduceLE, decide_true, decide_false, beq_self_eq_true, beq_true, beq_false, Bool.not_true, Bool.not_false, b_lss, b_gtr, b_leq, b_geq, b_eql, b_neq, b_add, b_sub, b_mul, s_eql, s_neq, y_ops, y_nil, y_cons, y_guard, y_some, y_drop, y_do, y_not, y_not0, c_call, c_clo, c_move, c_pick, c_alloc, c_box, c_build, c_bslice, c_load, c_store, c_nilCheck, c_bin, c_binB, c_un, c_i2i, c_i2f, c_f2i, c_s2b, c_b2s, c_strId, c_mkfunc, c_mkslice, c_slice, c_sliceStr, c_fieldAddr, c_field, c_indexSl, c_indexArr, c_elemArr, c_indexStr, c_extract, c_lenStr, c_lenSl, c_append, c_real, c_imag, c_complex, c_min, c_max, c_clear, lenA_sl, hlen, h0, h1, h2, d1, d2, d3, d4, d5, d6]
      generalize hr : thenL _ _ = r'
      refine Exists.elim (thenL_inv hr (key _ (H ++ [_, _, _]) .nils rfl hp hz0 hz1 ?_ ?_ ?_ ?_ ?_ ?_ ?_ (hq _) (by rw [hget0]; rfl) (by rw [hget]; rfl) (by rw [hget]; rfl) (.inl ⟨rfl, rfl⟩) (by simp) (fun i hi hne => List.getElem?_append_left hi))) ?_
      iterate 7 simp only [gs_same, gs_ne, List.length_set, Nat.reduceLT, Nat.reduceEqDiff, not_false_eq_true, hlen, h1, h2, hx3]
      clear hr key
      rintro e ⟨tm1, H1, ⟨rfl, hm⟩, rfl⟩
      exact hfin _ _ _ hm

end Go.Abs.Seat
end
section
set_option linter.unusedVariables false
set_option linter.unusedSimpArgs false
/- What the coder's functions come to: the reference's Next; what the coder reads is what the reference gets. -/
set_option linter.unusedVariables false
set_option linter.unusedSimpArgs false
namespace Go.Abs.Seat
open Go.Proofs

theorem s43 (b : List UInt8) (s : Nat) (t : KT) (hok : okT t) (hr : rightT t 6 = true) (hs : b = [] ∨ s = 1) (hb : b.length ≤ 4611686018427387904) (H : Heap) :
    L 43 [.im (.agg (encT t)), .im (.sl s (bytesC b))] H = some (.tup [.im (.agg (encV (getV b 6 t 0 (leastT t)).v)), .im (.int .i64 ((getV b 6 t 0 (leastT t)).p : Int)), .im (.int .i64 (getV b 6 t 0 (leastT t)).e)], H) := by
  have hlv2 := fun (M : Heap) (v : VT) (p : Nat) (e : Int) => leave_deg (H := H) (M := M) (r := .tup [.im (.agg (encV v)), .im (.int .i64 (p : Int)), .im (.int .i64 e)]) (r' := .tup [.im (.agg (encV v)), .im (.int .i64 (p : Int)), .im (.int .i64 e)]) (by simp [degrade, degrade1, toDat]) (by simp [refsLt, refsLts])
  have hle := least_le 6 t hr
  have hpow := pow36 6 (by decide)
  have c67 := fun H => s67 6 t (by decide) hok hr H
  have c68 := fun (M : Heap) (hM : M.length = 2) => s68 b s hs hb 6 t (by decide) hok hr 0 (leastT t) (H.length + 2) (H ++ (M ++ [numO (leastT t)])) (Nat.zero_le _) (by omega) (by omega) (by rw [hget, List.getElem?_append_right (by omega), hM]; rfl)
  have z0 : ((0 : Nat) : Int) = 0 := rfl
  rw [leq F43]
  obtain ⟨hlen, ha⟩ := enter_at (f := f43) (args := [.im (.agg (encT t)), .im (.sl s (bytesC b))]) (Nat.le_of_ble_eq_true rfl)
  have h0 := ha 0 _ rfl
  have h1 := ha 1 _ rfl
  generalize enterA f43 [.im (.agg (encT t)), .im (.sl s (bytesC b))] = tm at *
  change tm.length = 16 at hlen
  generalize getV b 6 t 0 (leastT t) = g at *
  obtain ⟨v, p, e, z⟩ := g
  generalize leastT t = l at *
  obtain ⟨tk, ts, tl⟩ := t
  have hlv2 := fun M => hlv2 M v p e
  obtain ⟨vk, vi, vt, va, vb, vs, vl⟩ := v
  simp only [encT, encTs_map, encV] at c67 c68 h0 hlv2 ⊢
  have c68' := c68 [HO.obj none [[.im (.int .i64 tk), .im (.sl ts (tl.map encT))]], HO.obj none [[.im (.int .i64 0), .im (.int .i64 0), .im (.str []), .im (.cpx .f64 0 0), .nils]]] rfl
  simp only [numO, List.cons_append, List.nil_append, z0, hset] at c68'
  simp only [f43, x_seq, x_block, x_skip, x_label, x_cond, x_exit, x_goto, x_ret, k_normal, k_exit, k_goto, k_ret, b_normal, b_exit, b_goto, b_ret, wantedA, aop, ev, putA, List.length_cons, List.length_nil, List.replicate, List.cons_append, List.nil_append, List.append_nil, List.append_assoc, gs_same, gs_ne, gq_same, gq_ne, List.length_set, List.map_cons, List.map_nil, cellsOf, List.all_cons, List.all_nil, cellOk, boxTy, Bool.and_true, Bool.and_self, if_true, ite_true, ite_false, loadAt, storeAt, setAt, hget, hget0, hset, hset0, List.getElem?_cons_zero, List.getElem?_cons_succ, List.set_cons_zero, List.set_cons_succ, Nat.add_zero, Nat.zero_add, Nat.reduceAdd, Nat.reduceSub, Nat.reduceLeDiff, Nat.reduceLT, Nat.reduceEqDiff, Nat.le_refl, and_self, and_true, true_and, mkAgg, toIms, List.drop_zero, List.drop_succ_cons, List.take_succ_cons, List.take_zero, List.length_append, binBool, unA, Bool.false_eq_true, if_false, partA, fillA, fillE, List.take_nil, Nat.zero_ne_one, Nat.one_ne_zero, not_false_eq_true, ne_eq, Nat.succ_ne_self, reduceCtorEq, Int.reduceEq, Int.reduceLT, Int.reduceLE, decide_true, decide_false, beq_self_eq_true, beq_true, beq_false, Bool.not_true, Bool.not_false, b_lss, b_gtr, b_leq, b_geq, b_eql, b_neq, b_add, b_sub, b_mul, s_eql, s_neq, y_ops, y_nil, y_cons, y_guard, y_some, y_drop, y_do, y_not, y_not0, c_call, c_clo, c_move, c_pick, c_alloc, c_box, c_build, c_bslice, c_load, c_store, c_nilCheck, c_bin, c_binB, c_un, c_i2i, c_i2f, c_f2i, c_s2b, c_b2s, c_strId, c_mkfunc, c_mkslice, c_slice, c_sliceStr, c_fieldAddr, c_field, c_indexSl, c_indexArr, c_elemArr, c_indexStr, c_extract, c_lenStr, c_lenSl, c_append, c_real, c_imag, c_complex, c_min, c_max, c_clear, endK, resA, tupA, hlen, h0, h1, c67, c68', List.set_cons_succ, List.set_cons_zero, hlv2]

end Go.Abs.Seat
end
section
set_option linter.unusedVariables false
set_option linter.unusedSimpArgs false
/- What the coder reads is what the reference gets: no program here. -/
set_option linter.unusedVariables false
set_option linter.unusedSimpArgs false
namespace Go.Abs.Seat
open Go.Proofs

/-! ### an error stays -/

theorem one_stuck {b : List UInt8} {r : RS} {m : Nat} (h : r.e ≠ 0) : oneR b r m = (0, r) := by unfold oneR; rw [if_neg h]
theorem more_stuck {b : List UInt8} {r : RS} {l : Int} {m : Nat} (h : r.e ≠ 0) : moreR b r l m = (false, r) := by unfold moreR; rw [one_stuck h]; rfl
theorem text_stuck {b : List UInt8} {r : RS} {f : Nat} {out : List UInt8} (h : r.e ≠ 0) : (textR b f r out).2 = r := by
  cases f with
  | zero => rfl
  | succ f => simp only [textR, one_stuck h]; simp
theorem part_stuck {b : List UInt8} {r : RS} (h : r.e ≠ 0) : (partR b r).2 = r := by
  unfold partR
  rw [one_stuck h]
  simp only
  rw [one_stuck h]
  simp only
  rw [one_stuck h]
theorem read8_stuck {b : List UInt8} : ∀ (m : Nat) {r : RS} {n : Nat}, r.e ≠ 0 → (read8 b m r n).2 = r
  | 0, _, _, h => rfl
  | m + 1, r, n, h => by
    simp only [read8]
    rw [one_stuck h]
    exact read8_stuck m h
theorem list_stuck {f : RS → VT × RS} {b : List UInt8} {l : Int} {m : Nat} {r : RS} {out : List VT} (h : r.e ≠ 0) : (listR f b l m r out).2 = r := by
  cases m with
  | zero => simp only [listR, more_stuck h]
  | succ m => simp only [listR, more_stuck h]; rfl
theorem read_stuck {b : List UInt8} : ∀ (d : Nat) (t : KT) (r : RS), r.e ≠ 0 → (readV b d t r).2 = r
  | 0, _, r, h => rfl
  | d + 1, .mk k s args, r, h => by
    simp only [readV]
    split
    · rw [one_stuck h]
    split
    · exact read8_stuck (n := 0) 8 h
    split
    · exact text_stuck h
    split
    · simp only [part_stuck h]
    split
    · split
      · simp only [read_stuck d _ r h]
      · rfl
    split
    · split
      · simp only [list_stuck h]
      · rfl
    split
    · split
      · simp only [more_stuck h]; rfl
      · rfl
    · rfl

/-! ### eight bytes -/

theorem or_byte (n : Nat) (c : UInt8) (hn : n < 18446744073709551616) : n * 256 % 18446744073709551616 ||| c.toNat = (n * 256 + c.toNat) % 18446744073709551616 := by
  have hc := c.toNat_lt
  have h := or_add (n % 72057594037927936) c.toNat 8 (by omega)
  have e : n * 256 % 18446744073709551616 = n % 72057594037927936 * 2 ^ 8 := by omega
  rw [e, h]
  omega

theorem xor_top (n : Nat) (hn : n < 18446744073709551616) : n ^^^ 9223372036854775808 = (n + 9223372036854775808) % 18446744073709551616 := by
  have h1 : (n ^^^ 9223372036854775808) / 2 ^ 63 = n / 2 ^ 63 ^^^ 9223372036854775808 / 2 ^ 63 := Nat.xor_div_two_pow
  have h2 : (n ^^^ 9223372036854775808) % 2 ^ 63 = n % 2 ^ 63 ^^^ 9223372036854775808 % 2 ^ 63 := Nat.xor_mod_two_pow
  have e1 : 9223372036854775808 / 2 ^ 63 = 1 := by decide
  have e2 : 9223372036854775808 % 2 ^ 63 = 0 := by decide
  rw [e2, Nat.xor_zero] at h2
  rw [e1] at h1
  have hd := Nat.div_add_mod (n ^^^ 9223372036854775808) (2 ^ 63)
  rw [h1, h2] at hd
  have hc : n / 2 ^ 63 = 0 ∨ n / 2 ^ 63 = 1 := by omega
  rcases hc with h | h
  · rw [h, show (0 ^^^ 1 : Nat) = 1 from rfl] at hd
    omega
  · rw [h, show (1 ^^^ 1 : Nat) = 0 from rfl] at hd
    omega

/-- Eight bytes that are there. -/
theorem read8_get {b : List UInt8} (z : Int) : ∀ (m p n : Nat), p + m ≤ b.length → n < 18446744073709551616 → read8 b m ⟨p, z, 0⟩ n = (get8 b m p n, ⟨p + m, z, 0⟩)
  | 0, p, n, hp, hn => rfl
  | m + 1, p, n, hp, hn => by
    have hlt : p < b.length := by omega
    have hbp : b[p]? = some b[p] := List.getElem?_eq_getElem hlt
    have hgd : b.getD p 0 = b[p] := by rw [List.getD_eq_getElem?_getD, hbp]; rfl
    have h1 : oneR b ⟨p, z, 0⟩ 255 = (b[p], ⟨p + 1, z, 0⟩) := by
      unfold oneR
      simp only [if_true, hbp]
      rw [if_neg (by have := b[p].toNat_lt; omega)]
    simp only [read8, get8, h1, hgd]
    rw [or_byte n b[p] hn, read8_get z m (p + 1) _ (by omega) (Nat.mod_lt _ (by decide))]
    rw [show p + 1 + m = p + (m + 1) by omega]
/-- Eight bytes that are not there. -/
theorem read8_end {b : List UInt8} (z : Int) : ∀ (m p n : Nat), p ≤ b.length → b.length < p + m → (read8 b m ⟨p, z, 0⟩ n).2 = ⟨b.length, z, 30⟩
  | 0, p, n, hp, h => by omega
  | m + 1, p, n, hp, h => by
    by_cases hlt : p < b.length
    · have hbp : b[p]? = some b[p] := List.getElem?_eq_getElem hlt
      have h1 : oneR b ⟨p, z, 0⟩ 255 = (b[p], ⟨p + 1, z, 0⟩) := by
        unfold oneR
        simp only [if_true, hbp]
        rw [if_neg (by have := b[p].toNat_lt; omega)]
      simp only [read8, h1]
      exact read8_end z m (p + 1) _ hlt (by omega)
    · have hbp : b[p]? = none := List.getElem?_eq_none (by omega)
      have h1 : oneR b ⟨p, z, 0⟩ 255 = (0, ⟨p, z, 30⟩) := by
        unfold oneR
        simp only [if_true, hbp]
      simp only [read8, h1]
      rw [read8_stuck m (by simp)]
      rw [show p = b.length by omega]

/-! ### a point's part -/

theorem part_get {b : List UInt8} {p : Nat} (z : Int) (hp : p ≤ b.length) : (partR b ⟨p, z, 0⟩).2 = ⟨(ptG b p).2.1, z, (ptG b p).2.2⟩ ∧ ((ptG b p).2.2 = 0 → (partR b ⟨p, z, 0⟩).1 = (ptG b p).1) := by
  have hone : ∀ (q m : Nat) (c : UInt8), b[q]? = some c → c.toNat ≤ m → oneR b ⟨q, z, 0⟩ m = (c, ⟨q + 1, z, 0⟩) := fun q m c h hm => by
    unfold oneR
    simp only [if_true, h]
    rw [if_neg (by omega)]
  have hend : ∀ (q m : Nat), b[q]? = none → oneR b ⟨q, z, 0⟩ m = (0, ⟨q, z, 30⟩) := fun q m h => by
    unfold oneR
    simp only [if_true, h]
  have hlen : ∀ q, b[q]? = none → q ≤ b.length → q = b.length := fun q h hq => by
    have := List.getElem?_eq_none_iff.1 h
    omega
  have hs : ∀ (q : Nat) (m : Nat), oneR b ⟨q, z, 30⟩ m = (0, ⟨q, z, 30⟩) := fun q m => one_stuck (by simp)
  have hs1 : ∀ (q : Nat) (m : Nat), oneR b ⟨q, z, 31⟩ m = (0, ⟨q, z, 31⟩) := fun q m => one_stuck (by simp)
  unfold partR ptG
  cases h1 : b[p]? with
  | none =>
    have hq := hlen p h1 hp
    subst hq
    simp [hend _ _ h1, hs]
  | some c1 =>
    have hp1 := (List.getElem?_eq_some_iff.1 h1).1
    by_cases h31 : 31 < c1.toNat
    · have e1 : oneR b ⟨p, z, 0⟩ 31 = (0, ⟨p, z, 31⟩) := by
        unfold oneR
        simp only [if_true, h1, if_pos h31]
      simp [e1, hs1, h31]
    · have e1 := hone p 31 c1 h1 (by omega)
      cases h2 : b[p + 1]? with
      | none =>
        have hq := hlen (p + 1) h2 hp1
        simp [e1, hend _ _ h2, hs, h31]
        exact hq
      | some c2 =>
        have hp2 := (List.getElem?_eq_some_iff.1 h2).1
        have e2 := hone (p + 1) 255 c2 h2 (by have := c2.toNat_lt; omega)
        cases h3 : b[p + 2]? with
        | none =>
          have hq := hlen (p + 2) h3 hp2
          have h3' : b[p + 1 + 1]? = none := h3
          simp [e1, e2, hend _ _ h3', hs, h31]
          omega
        | some c3 =>
          have e3 := hone (p + 2) 255 c3 h3 (by have := c3.toNat_lt; omega)
          have e3' : oneR b ⟨p + 1 + 1, z, 0⟩ 255 = (c3, ⟨p + 3, z, 0⟩) := e3
          simp only [e1, e2, e3', if_neg h31]
          simp

/-! ### text -/

theorem text_get {b : List UInt8} (z : Int) : ∀ (f p : Nat) (out : List UInt8), b.length < p + f → p ≤ b.length →
    (textR b f ⟨p, z, 0⟩ out).2 = ⟨(getT b f p out).2.1, z, (getT b f p out).2.2⟩ ∧ ((getT b f p out).2.2 = 0 → (textR b f ⟨p, z, 0⟩ out).1 = (getT b f p out).1) ∧ ((getT b f p out).2.2 ≠ 0 → (getT b f p out).1 = [])
  | 0, p, out, hf, hp => by omega
  | f + 1, p, out, hf, hp => by
    have hs : ∀ (q : Nat) (m : Nat), oneR b ⟨q, z, 30⟩ m = (0, ⟨q, z, 30⟩) := fun q m => one_stuck (by simp)
    have hone : ∀ (q : Nat) (c : UInt8), b[q]? = some c → oneR b ⟨q, z, 0⟩ 255 = (c, ⟨q + 1, z, 0⟩) := fun q c h => by
      unfold oneR
      simp only [if_true, h]
      rw [if_neg (by have := c.toNat_lt; omega)]
    have hend : ∀ (q m : Nat), b[q]? = none → oneR b ⟨q, z, 0⟩ m = (0, ⟨q, z, 30⟩) := fun q m h => by
      unfold oneR
      simp only [if_true, h]
    simp only [textR, getT]
    cases h1 : b[p]? with
    | none =>
      simp [hend _ _ h1, hs]
    | some c =>
      have hp1 := (List.getElem?_eq_some_iff.1 h1).1
      have e1 := hone p c h1
      simp only [e1]
      by_cases hc : c = 0
      · subst hc
        simp only [ne_eq, not_true_eq_false, if_false]
        cases h2 : b[p + 1]? with
        | none => simp [hend _ _ h2]
        | some c2 =>
          have hp2 := (List.getElem?_eq_some_iff.1 h2).1
          have e2 := hone (p + 1) c2 h2
          simp only [e2]
          by_cases hc2 : c2 = 0
          · subst hc2; simp
          · simp only [if_neg hc2]
            by_cases hbad : c2 ≠ 255 ∨ out.length = 256
            · have hbad' : ¬c2 = 255 ∨ out.length = 256 := hbad
              simp [if_pos hbad', refuseR]
            · have hbad' : ¬(¬c2 = 255 ∨ out.length = 256) := hbad
              simp only [if_neg hbad', if_true]
              exact text_get z f (p + 2) (out ++ [0]) (by omega) (by omega)
      · simp only [ne_eq, hc, not_false_eq_true, if_true]
        by_cases ho : out.length = 256
        · simp [if_pos ho, refuseR]
        · simp only [if_neg ho, if_true]
          exact text_get z f (p + 1) (out ++ [c]) (by omega) (by omega)

end Go.Abs.Seat
end
section
set_option linter.unusedVariables false
set_option linter.unusedSimpArgs false
/- What the coder reads is what the reference gets: no program here. -/
set_option linter.unusedVariables false
set_option linter.unusedSimpArgs false
namespace Go.Abs.Seat
open Go.Proofs

/-- The same was read as was got. -/
def Eqv (q : VT × RS) (g : GS) : Prop := q.2.p = g.p ∧ q.2.e = g.e ∧ (g.e = 0 → q.1 = g.v ∧ q.2.z = g.z) ∧ (g.e ≠ 0 → g.v = zeroV)

theorem Eqv.r {q : VT × RS} {g : GS} (h : Eqv q g) (he : g.e = 0) : q = (g.v, ⟨g.p, g.z, 0⟩) := by
  obtain ⟨v, ⟨p, z, e⟩⟩ := q
  obtain ⟨h1, h2, h3, _⟩ := h
  obtain ⟨h4, h5⟩ := h3 he
  simp only at h1 h2 h4 h5
  rw [h1, h2, h4, h5, he]

theorem more_none {b : List UInt8} {p : Nat} {z l : Int} {m : Nat} (h : b[p]? = none) : moreR b ⟨p, z, 0⟩ l m = (false, ⟨p, z, 30⟩) := by
  unfold moreR oneR
  simp only [if_true, h]
theorem more_zero {b : List UInt8} {p : Nat} {z l : Int} {m : Nat} (h : b[p]? = some 0) : moreR b ⟨p, z, 0⟩ l m = (false, ⟨p + 1, z, 0⟩) := by
  unfold moreR oneR
  simp [h]
theorem more_big {b : List UInt8} {p : Nat} {z l : Int} {m : Nat} {c : UInt8} (h : b[p]? = some c) (hc : 1 < c.toNat) : moreR b ⟨p, z, 0⟩ l m = (false, ⟨p, z, 31⟩) := by
  unfold moreR oneR
  simp [h, hc]
theorem more_full {b : List UInt8} {p : Nat} {z l : Int} {m : Nat} {c : UInt8} (h : b[p]? = some c) (h0 : c ≠ 0) (hc : ¬ 1 < c.toNat) (hm : m = 0 ∨ 2000 < z + l) : moreR b ⟨p, z, 0⟩ l m = (false, ⟨p, z + l, 31⟩) := by
  unfold moreR oneR
  simp [h, hc, h0, hm]
theorem more_yes {b : List UInt8} {p : Nat} {z l : Int} {m : Nat} {c : UInt8} (h : b[p]? = some c) (h0 : c ≠ 0) (hc : ¬ 1 < c.toNat) (hm : ¬ (m = 0 ∨ 2000 < z + l)) : moreR b ⟨p, z, 0⟩ l m = (true, ⟨p + 1, z + l, 0⟩) := by
  unfold moreR oneR
  simp only [if_true, h, if_neg hc, if_neg h0, if_neg hm]

theorem list_get {b : List UInt8} {f : RS → VT × RS} {g : Nat → Int → GS} {l : Int} (hl : 1 ≤ l) (hfg : ∀ p z, p ≤ b.length → 0 ≤ z → z ≤ 2000 → Eqv (f ⟨p, z, 0⟩) (g p z)) (hg : ∀ p z, p ≤ b.length → 0 ≤ z → z ≤ 2000 → goodG b (g p z)) :
    ∀ (m p : Nat) (z : Int) (out : List VT), p ≤ b.length → 0 ≤ z → z ≤ 2000 → (listR f b l m ⟨p, z, 0⟩ out).2.p = (listG g b l m p z out).2.1 ∧ (listR f b l m ⟨p, z, 0⟩ out).2.e = (listG g b l m p z out).2.2.1 ∧ ((listG g b l m p z out).2.2.1 = 0 → (listR f b l m ⟨p, z, 0⟩ out).1 = (listG g b l m p z out).1 ∧ (listR f b l m ⟨p, z, 0⟩ out).2.z = (listG g b l m p z out).2.2.2)
  | 0, p, z, out, hp, h0, h1 => by
    simp only [listR, listG]
    cases hb : b[p]? with
    | none => simp [more_none hb]
    | some c =>
      by_cases hc0 : c = 0
      · subst hc0; simp [more_zero hb]
      · by_cases hc : 1 < c.toNat
        · simp [more_big hb hc, hc0]
        · simp [more_full hb hc0 hc (.inl rfl), hc0]
  | m + 1, p, z, out, hp, h0, h1 => by
    simp only [listR, listG]
    cases hb : b[p]? with
    | none => simp [more_none hb]
    | some c =>
      have hlt := (List.getElem?_eq_some_iff.1 hb).1
      by_cases hc0 : c = 0
      · subst hc0; simp [more_zero hb]
      · by_cases hc : 1 < c.toNat
        · simp [more_big hb hc, hc0, hc]
        · by_cases hz : 2000 < z + l
          · simp [more_full hb hc0 hc (.inr hz), hc0, hz]
          · rw [more_yes hb hc0 hc (by omega)]
            have hor : ¬ (1 < c.toNat ∨ 2000 < z + l) := by omega
            simp only [if_true, if_neg hc0, if_neg hor]
            have he := hfg (p + 1) (z + l) hlt (by omega) (by omega)
            have hgg := hg (p + 1) (z + l) hlt (by omega) (by omega)
            by_cases h : (g (p + 1) (z + l)).e = 0
            · rw [he.r h]
              simp only [if_pos h]
              exact list_get hl hfg hg m _ _ _ hgg.1 hgg.2.1 hgg.2.2
            · simp only [if_neg h]
              rw [list_stuck (by rw [he.2.1]; exact h)]
              exact ⟨he.1, he.2.1, fun hx => absurd hx h⟩

theorem read_get {b : List UInt8} : ∀ (d : Nat) (t : KT), rightT t (d : Int) = true → ∀ (p : Nat) (z : Int), p ≤ b.length → 0 ≤ z → z ≤ 2000 → Eqv (readV b d t ⟨p, z, 0⟩) (getV b d t p z)
  | 0, .mk k s args, h, p, z, hp, h0, h1 => by
    have := (right_len h).2.1
    omega
  | d + 1, .mk k s args, h, p, z, hp, h0, h1 => by
    obtain ⟨hn, _, h3⟩ := right_len h
    have h3' : ∀ a ∈ args, rightT a (d : Int) = true := fun a ha => by have := h3 a ha; rwa [show (((d + 1 : Nat) : Int)) - 1 = (d : Int) by omega] at this
    have ih : ∀ a ∈ args, ∀ p z, p ≤ b.length → 0 ≤ z → z ≤ 2000 → Eqv (readV b d a ⟨p, z, 0⟩) (getV b d a p z) := fun a ha => read_get d a (h3' a ha)
    have hg : ∀ a ∈ args, ∀ p z, p ≤ b.length → 0 ≤ z → z ≤ 2000 → goodG b (getV b d a p z) := fun a ha => good_get d a (h3' a ha)
    simp only [readV, getV]
    by_cases k1 : k = 1
    · simp only [if_pos k1]
      cases hb : b[p]? with
      | none =>
        have e : oneR b ⟨p, z, 0⟩ 1 = (0, ⟨p, z, 30⟩) := by unfold oneR; simp only [if_true, hb]
        rw [e]
        exact ⟨rfl, rfl, fun h => by simp at h, fun _ => rfl⟩
      | some c =>
        by_cases hc : 1 < c.toNat
        · have e : oneR b ⟨p, z, 0⟩ 1 = (0, ⟨p, z, 31⟩) := by unfold oneR; simp only [if_true, hb, if_pos hc]
          rw [e]
          simp only [if_pos hc]
          exact ⟨rfl, rfl, fun h => by simp at h, fun _ => rfl⟩
        · have e : oneR b ⟨p, z, 0⟩ 1 = (c, ⟨p + 1, z, 0⟩) := by unfold oneR; simp only [if_true, hb, if_neg hc]
          rw [e]
          simp only [if_neg hc]
          exact ⟨rfl, rfl, fun _ => ⟨rfl, rfl⟩, fun h => absurd rfl h⟩
    simp only [if_neg k1]
    by_cases k2 : k = 2
    · simp only [if_pos k2]
      by_cases h8 : b.length < p + 8
      · simp only [if_pos h8]
        unfold Eqv
        simp only [read8_end z 8 p 0 hp h8]
        simp
      · simp only [if_neg h8]
        rw [read8_get z 8 p 0 (by omega) (by decide)]
        have hlt : get8 b 8 p 0 < 18446744073709551616 := by
          have := read8_lt (b := b) (r := ⟨p, z, 0⟩) (n := 0) 8 (by decide)
          rwa [read8_get z 8 p 0 (by omega) (by decide)] at this
        refine ⟨rfl, rfl, fun _ => ⟨?_, rfl⟩, fun h => absurd rfl h⟩
        simp only [intOf, xor_top _ hlt]
    simp only [if_neg k2]
    by_cases k34 : k = 3 ∨ k = 4
    · simp only [if_pos k34]
      obtain ⟨a1, a2, a3⟩ := text_get (b := b) z (b.length + 1) p [] (by omega) hp
      refine ⟨by simp only [a1], by simp only [a1], fun h => ⟨?_, by simp only [a1]⟩, fun h => ?_⟩
      · simp only at h
        simp only [a2 h, h, if_true]
      · simp only at h ⊢
        simp only [a3 h, if_neg h]
        rfl
    simp only [if_neg k34]
    by_cases k5 : k = 5
    · simp only [if_pos k5]
      obtain ⟨a1, a2⟩ := part_get (b := b) z hp
      have hp1 := (ptG_p hp).1
      by_cases e1 : (ptG b p).2.2 = 0
      · simp only [if_pos e1]
        rw [e1] at a1
        rw [a1, a2 e1]
        obtain ⟨c1, c2⟩ := part_get (b := b) z hp1
        by_cases e2 : (ptG b (ptG b p).2.1).2.2 = 0
        · simp only [if_pos e2]
          rw [e2] at c1
          rw [c1, c2 e2]
          exact ⟨rfl, rfl, fun _ => ⟨rfl, rfl⟩, fun h => absurd rfl h⟩
        · simp only [if_neg e2]
          rw [c1]
          exact ⟨rfl, rfl, fun h => absurd h e2, fun _ => rfl⟩
      · simp only [if_neg e1]
        have hst : (partR b (partR b ⟨p, z, 0⟩).2).2 = (partR b ⟨p, z, 0⟩).2 := part_stuck (by rw [a1]; exact e1)
        refine ⟨?_, ?_, fun h => absurd h e1, fun _ => rfl⟩
        · simp only [hst]; simp only [a1]
        · simp only [hst]; simp only [a1]
    simp only [if_neg k5]
    by_cases k6 : k = 6
    · subst k6
      simp only [if_true]
      obtain ⟨x, y, rfl⟩ := len2 (l := args) (by have : cntK 6 = 2 := by decide
                                                 omega)
      simp only [pairG]
      have hx := ih x (by simp) p z hp h0 h1
      have gx := hg x (by simp) p z hp h0 h1
      by_cases ex : (getV b d x p z).e = 0
      · simp only [if_pos ex]
        rw [hx.r ex]
        have hy := ih y (by simp) _ _ gx.1 gx.2.1 gx.2.2
        by_cases ey : (getV b d y (getV b d x p z).p (getV b d x p z).z).e = 0
        · simp only [if_pos ey]
          simp only [hy.r ey]
          exact ⟨rfl, rfl, fun _ => ⟨rfl, rfl⟩, fun h => absurd rfl h⟩
        · simp only [if_neg ey]
          exact ⟨hy.1, hy.2.1, fun h => absurd h ey, fun _ => rfl⟩
      · simp only [if_neg ex]
        have hst := read_stuck (b := b) d y (readV b d x ⟨p, z, 0⟩).2 (by rw [hx.2.1]; exact ex)
        refine ⟨?_, ?_, fun h => absurd h ex, fun _ => rfl⟩
        · simp only [hst]; exact hx.1
        · simp only [hst]; exact hx.2.1
    simp only [if_neg k6]
    obtain ⟨x, rfl⟩ := right_kind h k1 k2 (fun h => k34 (.inl h)) (fun h => k34 (.inr h)) k5 k6
    have hl := (least_le d x (h3' x (by simp))).1
    simp only
    by_cases k9 : k = 9
    · subst k9
      simp only [if_true]
      rw [if_neg (by decide)]
      unfold optG
      cases hb : b[p]? with
      | none =>
        rw [more_none hb]
        exact ⟨rfl, rfl, fun h => by simp at h, fun _ => rfl⟩
      | some c =>
        have hlt := (List.getElem?_eq_some_iff.1 hb).1
        by_cases hc0 : c = 0
        · subst hc0
          rw [more_zero hb]
          simp only [if_true]
          exact ⟨rfl, rfl, fun _ => ⟨rfl, rfl⟩, fun h => absurd rfl h⟩
        · simp only [if_neg hc0]
          by_cases hc : 1 < c.toNat
          · rw [more_big hb hc]
            simp only [hc, true_or, if_true]
            exact ⟨rfl, rfl, fun h => by simp at h, fun _ => rfl⟩
          · by_cases hz : 2000 < z + leastT x
            · rw [more_full hb hc0 hc (.inr hz)]
              simp only [hz, or_true, if_true]
              exact ⟨rfl, rfl, fun h => by simp at h, fun _ => rfl⟩
            · rw [more_yes hb hc0 hc (by omega)]
              have hor : ¬ (1 < c.toNat ∨ 2000 < z + leastT x) := by omega
              simp only [if_true, if_neg hor]
              have he := ih x (by simp) (p + 1) (z + leastT x) hlt (by omega) (by omega)
              by_cases ex : (getV b d x (p + 1) (z + leastT x)).e = 0
              · simp only [if_pos ex]
                rw [he.r ex]
                exact ⟨rfl, rfl, fun _ => ⟨rfl, rfl⟩, fun h => absurd rfl h⟩
              · simp only [if_neg ex]
                exact ⟨he.1, he.2.1, fun h => absurd h ex, fun _ => rfl⟩
    · simp only [if_neg k9]
      have k7 : k = 7 := by
        have hw : ∃ i, kidx k = some i := by
          simp only [rightT] at h
          cases hi : kidx k with
          | some i => exact ⟨i, rfl⟩
          | none => rw [hi] at h; simp at h
        obtain ⟨i, hi⟩ := hw
        obtain ⟨hlt, hk, _⟩ := List.findIdx?_eq_some_iff_getElem.1 hi
        have hk' : words[i].1 = k := by simpa using hk
        have hlt' : i < 8 := hlt
        have : i = 0 ∨ i = 1 ∨ i = 2 ∨ i = 3 ∨ i = 4 ∨ i = 5 ∨ i = 6 ∨ i = 7 := by omega
        rcases this with rfl | rfl | rfl | rfl | rfl | rfl | rfl | rfl
        · exact absurd hk'.symm k1
        · exact absurd hk'.symm k2
        · exact absurd hk'.symm fun h => k34 (.inl h)
        · exact absurd hk'.symm fun h => k34 (.inr h)
        · exact absurd hk'.symm k5
        · exact absurd hk'.symm k6
        · exact hk'.symm
        · exact absurd hk'.symm k9
      subst k7
      simp only [if_true]
      obtain ⟨a1, a2, a3⟩ := list_get (b := b) (f := readV b d x) (g := getV b d x) hl (ih x (by simp)) (hg x (by simp)) 64 p z [] hp h0 h1
      by_cases ex : (listG (getV b d x) b (leastT x) 64 p z []).2.2.1 = 0
      · simp only [if_pos ex]
        obtain ⟨b1, b2⟩ := a3 ex
        exact ⟨a1, a2.trans ex, fun _ => ⟨by simp only [b1], b2⟩, fun h => absurd rfl h⟩
      · simp only [if_neg ex]
        exact ⟨a1, a2, fun h => absurd h ex, fun _ => rfl⟩

end Go.Abs.Seat
end
section
set_option linter.unusedVariables false
set_option linter.unusedSimpArgs false
/- What the coder's law comes to: what it needs of types and values. -/
set_option linter.unusedVariables false
set_option linter.unusedSimpArgs false
namespace Go.Abs.Seat
open Go.Proofs

mutual
theorem small_less : ∀ (t : KT) (left d : Int), (smallT t left d).1 = true → (smallT t left d).2 ≤ left - 1
  | .mk _ _ args, left, d, h => by
    simp only [smallT] at h ⊢
    split
    · rename_i hc; rw [if_pos hc] at h; simp at h
    · rename_i hc
      rw [if_neg hc] at h
      have := smalls_less args (left - 1) (d - 1) h
      omega
theorem smalls_less : ∀ (l : List KT) (left d : Int), (smallTs l left d).1 = true → (smallTs l left d).2 ≤ left - l.length
  | [], left, d, h => by simp [smallTs]
  | a :: l, left, d, h => by
    simp only [smallTs] at h ⊢
    split
    · rename_i hc
      rw [if_pos hc] at h
      have h1 := small_less a left d hc
      have h2 := smalls_less l _ _ h
      simp only [List.length_cons]
      omega
    · rename_i hc; rw [if_neg hc] at h; simp at h
end

mutual
theorem small_slim : ∀ (t : KT) (left d : Int), 0 ≤ left → left ≤ 1000000 → (smallT t left d).1 = true → slim t
  | .mk _ _ args, left, d, h0, h1, h => by
    simp only [smallT] at h
    split at h
    · simp at h
    · rename_i hc
      have h2 := smalls_less args (left - 1) (d - 1) h
      have h3 := (smallTs_left args (left - 1) (d - 1) (by omega)).2.2 h
      simp only [slim]
      exact ⟨by omega, smalls_slims args (left - 1) (d - 1) (by omega) (by omega) h⟩
theorem smalls_slims : ∀ (l : List KT) (left d : Int), 0 ≤ left → left ≤ 1000000 → (smallTs l left d).1 = true → slims l
  | [], left, d, h0, h1, h => by simp only [slims]
  | a :: l, left, d, h0, h1, h => by
    simp only [smallTs] at h
    split at h
    · rename_i hc
      have h2 := smallT_left a left d h0
      simp only [slims]
      exact ⟨small_slim a left d h0 h1 hc, smalls_slims l _ d (h2.2.2 hc) (by omega) h⟩
    · simp at h
end

mutual
theorem clone_least : ∀ t : KT, leastT (cloneT t) = leastT t
  | .mk k s args => by simp only [cloneT, leastT, clone_leasts args]
theorem clone_leasts : ∀ l : List KT, leastTs (cloneTs l) = leastTs l
  | [] => by simp only [cloneTs]
  | a :: l => by simp only [cloneTs, leastTs, clone_least a, clone_leasts l]
end

theorem clone_read {b : List UInt8} : ∀ (d : Nat) (t : KT), readV b d (cloneT t) = readV b d t
  | 0, t => by funext r; simp only [readV]
  | d + 1, .mk k s args => by
    funext r
    have h := clone_read (b := b) d
    match args with
    | [] => simp only [cloneT, cloneTs, readV]
    | [x] => simp only [cloneT, cloneTs, readV, h x, clone_least x]
    | [x, y] => simp only [cloneT, cloneTs, readV, h x, h y]
    | x :: y :: z :: l => simp only [cloneT, cloneTs, readV]

theorem clone_next {b : List UInt8} (t : KT) : nextR b (cloneT t) = nextR b t := by unfold nextR; rw [clone_right, clone_read, clone_least]
theorem clone_decode {b : List UInt8} (t : KT) : decodeR b (cloneT t) = decodeR b t := by unfold decodeR; rw [clone_next]

/-! ### the values are well -/

theorem okF0 : okF 0 := ⟨0, by decide, by decide, by decide⟩
theorem okF_fl (n : Int) : okF (flZ n) := ⟨wrapZ n, (wrapZ_le n).1, (wrapZ_le n).2, rfl⟩
theorem ok_mkV {k i : Int} {txt : List UInt8} {fa fb : Nat} {l : List VT} (ht : txt.length ≤ 4611686018427387904) (ha : okF fa) (hb : okF fb) (hl : l.length ≤ 1000000) (h : ∀ a ∈ l, okV a) : okV (mkV k i txt fa fb l) := by
  simp only [mkV, okV]
  refine ⟨?_, hl, ht, ha, hb, okVs_of h⟩
  by_cases h0 : l.length = 0
  · exact .inl (List.length_eq_zero_iff.1 h0)
  · exact .inr (by rw [if_neg h0])
theorem ok_zeroV : okV zeroV := ok_mkV (by simp) okF0 okF0 (by simp) (by simp)
theorem ok_flat {k i : Int} : okV (mkV k i [] 0 0 []) := ok_mkV (by simp) okF0 okF0 (by simp) (by simp)

theorem getT_len {b : List UInt8} : ∀ (f p : Nat) (out : List UInt8), out.length ≤ 256 → (getT b f p out).1.length ≤ 256
  | 0, p, out, h => by simp [getT]
  | f + 1, p, out, h => by
    simp only [getT]
    split
    · simp
    · split
      · split
        · simp
        · exact getT_len f _ _ (by simp; omega)
      · split
        · simp
        · split
          · exact h
          · split
            · simp
            · rename_i hn
              exact getT_len f _ _ (by simp; omega)

theorem ok_list {b : List UInt8} {f : Nat → Int → GS} {l : Int} (hf : ∀ p z, okV (f p z).v) : ∀ (m p : Nat) (z : Int) (out : List VT), (∀ a ∈ out, okV a) → out.length + m ≤ 64 → (∀ a ∈ (listG f b l m p z out).1, okV a) ∧ (listG f b l m p z out).1.length ≤ 64
  | 0, p, z, out, h, hl => by
    simp only [listG]
    split
    · simp
    · split
      · exact ⟨h, by omega⟩
      · simp
  | m + 1, p, z, out, h, hl => by
    simp only [listG]
    split
    · simp
    · split
      · exact ⟨h, by simp only; omega⟩
      · split
        · simp
        · split
          · refine ok_list hf m _ _ _ ?_ (by simp; omega)
            intro a ha
            rcases List.mem_append.1 ha with ha | ha
            · exact h a ha
            · rw [List.mem_singleton.1 ha]; exact hf _ _
          · simp

theorem ok_pair {f : KT → Nat → Int → GS} : ∀ (l : List KT) (hf : ∀ a ∈ l, ∀ p z, okV (f a p z).v) (p : Nat) (z : Int) (out : List VT), (∀ a ∈ out, okV a) → (∀ a ∈ (pairG f l p z out).1, okV a) ∧ (pairG f l p z out).1.length ≤ out.length + l.length
  | [], hf, p, z, out, h => ⟨h, by simp [pairG]⟩
  | a :: l, hf, p, z, out, h => by
    simp only [pairG]
    split
    · have := ok_pair l (fun a ha => hf a (by simp [ha])) (f a p z).p (f a p z).z (out ++ [(f a p z).v]) (by
        intro x hx
        rcases List.mem_append.1 hx with hx | hx
        · exact h x hx
        · rw [List.mem_singleton.1 hx]; exact hf a (by simp) _ _)
      refine ⟨this.1, ?_⟩
      have h2 := this.2
      simp only [List.length_append, List.length_cons, List.length_nil] at h2 ⊢
      omega
    · simp

theorem ok_get {b : List UInt8} : ∀ (d : Nat) (t : KT), slim t → ∀ p z, okV (getV b d t p z).v
  | 0, _, h, p, z => ok_zeroV
  | d + 1, .mk k s args, h, p, z => by
    simp only [slim] at h
    have ih : ∀ a ∈ args, ∀ p z, okV (getV b d a p z).v := fun a ha => ok_get d a (slims_mem h.2 a ha)
    simp only [getV]
    split
    · split
      · exact ok_zeroV
      · split
        · exact ok_zeroV
        · exact ok_flat
    split
    · split
      · exact ok_zeroV
      · exact ok_flat
    split
    · exact ok_mkV (by have := getT_len (b := b) (b.length + 1) p [] (by simp); omega) okF0 okF0 (by simp) (by simp)
    split
    · split
      · split
        · exact ok_mkV (by simp) (okF_fl _) (okF_fl _) (by simp) (by simp)
        · exact ok_zeroV
      · exact ok_zeroV
    split
    · have h2 := ok_pair args ih p z [] (by simp)
      split
      · refine ok_mkV (by simp) okF0 okF0 ?_ h2.1
        have := h2.2
        simp only [List.length_nil, Nat.zero_add] at this
        omega
      · exact ok_zeroV
    split
    · rename_i x
      split
      · unfold optG
        split
        · exact ok_zeroV
        · split
          · exact ok_flat
          · split
            · exact ok_zeroV
            · split
              · refine ok_mkV (by simp) okF0 okF0 (by simp) ?_
                intro a ha
                rw [List.mem_singleton.1 ha]
                exact ih _ (by simp) _ _
              · exact ok_zeroV
      · have h2 := ok_list (b := b) (l := leastT x) (ih x (List.mem_cons_self ..)) 64 p z [] (by simp) (by simp)
        split
        · exact ok_mkV (by simp) okF0 okF0 (by have := h2.2; omega) h2.1
        · exact ok_zeroV
    · exact ok_zeroV

end Go.Abs.Seat
end
section
set_option linter.unusedVariables false
set_option linter.unusedSimpArgs false
/- What the law CoderGets comes to. -/
set_option linter.unusedVariables false
set_option linter.unusedSimpArgs false
namespace Go.Abs.Seat
open Go.Proofs

theorem next_get {b : List UInt8} {t : KT} (hr : rightT t 6 = true) (h0 : 0 ≤ leastT t) (h1 : leastT t ≤ 2000) : nextR b t = ((getV b 6 t 0 (leastT t)).v, (getV b 6 t 0 (leastT t)).p, (getV b 6 t 0 (leastT t)).e) := by
  have h := read_get (b := b) 6 t hr 0 (leastT t) (Nat.zero_le _) h0 h1
  unfold nextR
  rw [if_pos hr]
  by_cases he : (getV b 6 t 0 (leastT t)).e = 0
  · rw [h.r he, he]
    rfl
  · rw [if_neg (by rw [h.2.1]; exact he), h.1, h.2.1, h.2.2.2 he]

theorem s10 (t : KT) (hok : okT t) (b : List UInt8) (s : Nat) (hs : b = [] ∨ s = 1) (H : Heap) :
    L 10 [.im (.agg (encT t)), .im (.sl s (bytesC b))] H = some (.im (.bool true), H) := by
  have h37 := fun H => s37 t hok H
  have hlb := bytesC_len b
  have hlv : ∀ M : Heap, leave H false (.im (.bool true)) (H ++ M) = (.im (.bool true), H) := fun M => leave_app
  rw [leq F10]
  obtain ⟨hlen, ha⟩ := enter_at (f := f10) (args := [.im (.agg (encT t)), .im (.sl s (bytesC b))]) (Nat.le_of_ble_eq_true rfl)
  have h0 := ha 0 _ rfl
  have h1 := ha 1 _ rfl
  generalize enterA f10 [.im (.agg (encT t)), .im (.sl s (bytesC b))] = tm at *
  change tm.length = 143 at hlen
  by_cases hsm : (smallT t 20000 30).1 = true
  · have hslim := small_slim t 20000 30 (by decide) (by decide) hsm
    by_cases hbig : 100000 < b.length
    · have hd : decide (100000 < (b.length : Int)) = true := decide_eq_true (by omega)
      rw [hsm] at h37
      obtain ⟨tk, ts, tl⟩ := t
      simp only [encT] at h37 h0
      simp only [f10, x_seq, x_block, x_skip, x_label, x_cond, x_exit, x_goto, x_ret, k_normal, k_exit, k_goto, k_ret, b_normal, b_exit, b_goto, b_ret, wantedA, aop, ev, putA, List.length_cons, List.length_nil, List.replicate, List.cons_append, List.nil_append, List.append_nil, List.append_assoc, gs_same, gs_ne, gq_same, gq_ne, List.length_set, List.map_cons, List.map_nil, cellsOf, List.all_cons, List.all_nil, cellOk, boxTy, Bool.and_true, Bool.and_self, if_true, ite_true, ite_false, loadAt, storeAt, setAt, hget, hget0, hset, hset0, List.getElem?_cons_zero, List.getElem?_cons_succ, List.set_cons_zero, List.set_cons_succ, Nat.add_zero, Nat.zero_add, Nat.reduceAdd, Nat.reduceSub, Nat.reduceLeDiff, Nat.reduceLT, Nat.reduceEqDiff, Nat.le_refl, and_self, and_true, true_and, mkAgg, toIms, List.drop_zero, List.drop_succ_cons, List.take_succ_cons, List.take_zero, List.length_append, binBool, unA, Bool.false_eq_true, if_false, partA, fillA, fillE, List.take_nil, Nat.zero_ne_one, Nat.one_ne_zero, not_false_eq_true, ne_eq, Nat.succ_ne_self, reduceCtorEq, Int.reduceEq, Int.reduceLT, Int.reduceLE, decide_true, decide_false, beq_self_eq_true, beq_true, beq_false, Bool.not_true, Bool.not_false, b_lss, b_gtr, b_leq, b_geq, b_eql, b_neq, b_add, b_sub, b_mul, s_eql, s_neq, y_ops, y_nil, y_cons, y_guard, y_some, y_drop, y_do, y_not, y_not0, c_call, c_clo, c_move, c_pick, c_alloc, c_box, c_build, c_bslice, c_load, c_store, c_nilCheck, c_bin, c_binB, c_un, c_i2i, c_i2f, c_f2i, c_s2b, c_b2s, c_strId, c_mkfunc, c_mkslice, c_slice, c_sliceStr, c_fieldAddr, c_field, c_indexSl, c_indexArr, c_elemArr, c_indexStr, c_extract, c_lenStr, c_lenSl, c_append, c_real, c_imag, c_complex, c_min, c_max, c_clear, lenA_sl, endK, resA, tupA, hlen, h0, h1, h37, hlb, hd, s38, hlv]
    · have hd : decide (100000 < (b.length : Int)) = false := decide_eq_false (by omega)
      have hbl : b.length ≤ 4611686018427387904 := by omega
      have h39 := fun H => s39 b s hs (by omega) H
      have hs' : b = [] ∨ (if b = [] then 0 else 1) = 1 := by
        by_cases h : b = []
        · exact .inl h
        · exact .inr (by rw [if_neg h])
      have h44 := fun H => s44 b (if b = [] then 0 else 1) s hs' hs H
      have h40 := fun H => s40 b _ (cloneT t) (clone_ok t hok) hs' hbl H
      have h42 := fun H => s42 b _ (cloneT t) (clone_ok t hok) hs' hbl H
      have h41 := fun H => s41 t hok hslim H
      have h31 := fun H => s31 t hok 6 (by decide) (by decide) H
      simp only [clone_decode, clone_next] at h40 h42
      generalize (if b = [] then 0 else 1) = s1 at *
      rw [hsm] at h37
      by_cases hr : rightT t 6 = true
      · have hle := least_le 6 t hr
        have hpow := pow36 6 (by decide)
        have h43 := fun H => s43 b s t hok hr hs hbl H
        have hnx := next_get (b := b) hr (by omega) (by omega)
        have hv := ok_get (b := b) 6 t hslim 0 (leastT t)
        have hp := (good_get (b := b) 6 t hr 0 (leastT t) (Nat.zero_le _) (by omega) (by omega)).1
        have hzv := (read_get (b := b) 6 t hr 0 (leastT t) (Nat.zero_le _) (by omega) (by omega)).2.2.2
        have h35 := fun H => s35 _ hv H
        rw [hr] at h31
        unfold decodeR at h40
        rw [hnx] at h40 h42
        generalize getV b 6 t 0 (leastT t) = g at *
        obtain ⟨v, p, e, z⟩ := g
        simp only at h40 h42 h43 h35 hp hzv
        generalize cloneT t = ct at *
        obtain ⟨tk, ts, tl⟩ := t
        obtain ⟨ck, cs, cl⟩ := ct
        have hz : encV zeroV = [.int .i64 0, .int .i64 0, .str [], .cpx .f64 0 0, .sl 0 []] := rfl
        by_cases he : e = 0
        · subst he
          simp only [ne_eq, not_true_eq_false, if_false] at h40
          by_cases hpl : p < b.length
          · have hdp : decide ((p : Int) < (b.length : Int)) = true := decide_eq_true (by omega)
            simp only [if_pos hpl, hz] at h40
            obtain ⟨vk, vi, vt, va, vb, vs, vl⟩ := v
            simp only [encT, encV] at h31 h37 h40 h41 h42 h43 h35 h0
            simp only [f10, x_seq, x_block, x_skip, x_label, x_cond, x_exit, x_goto, x_ret, k_normal, k_exit, k_goto, k_ret, b_normal, b_exit, b_goto, b_ret, wantedA, aop, ev, putA, List.length_cons, List.length_nil, List.replicate, List.cons_append, List.nil_append, List.append_nil, List.append_assoc, gs_same, gs_ne, gq_same, gq_ne, List.length_set, List.map_cons, List.map_nil, cellsOf, List.all_cons, List.all_nil, cellOk, boxTy, Bool.and_true, Bool.and_self, if_true, ite_true, ite_false, loadAt, storeAt, setAt, hget, hget0, hset, hset0, List.getElem?_cons_zero, List.getElem?_cons_succ, List.set_cons_zero, List.set_cons_succ, Nat.add_zero, Nat.zero_add, Nat.reduceAdd, Nat.reduceSub, Nat.reduceLeDiff, Nat.reduceLT, Nat.reduceEqDiff, Nat.le_refl, and_self, and_true, true_and, mkAgg, toIms, List.drop_zero, List.drop_succ_cons, List.take_succ_cons, List.take_zero, List.length_append, binBool, unA, Bool.false_eq_true, if_false, partA, fillA, fillE, List.take_nil, Nat.zero_ne_one, Nat.one_ne_zero, not_false_eq_true, ne_eq, Nat.succ_ne_self, reduceCtorEq, Int.reduceEq, Int.reduceLT, Int.reduceLE, decide_true, decide_false, beq_self_eq_true, beq_true, beq_false, Bool.not_true, Bool.not_false, b_lss, b_gtr, b_leq, b_geq, b_eql, b_neq, b_add, b_sub, b_mul, s_eql, s_neq, y_ops, y_nil, y_cons, y_guard, y_some, y_drop, y_do, y_not, y_not0, c_call, c_clo, c_move, c_pick, c_alloc, c_box, c_build, c_bslice, c_load, c_store, c_nilCheck, c_bin, c_binB, c_un, c_i2i, c_i2f, c_f2i, c_s2b, c_b2s, c_strId, c_mkfunc, c_mkslice, c_slice, c_sliceStr, c_fieldAddr, c_field, c_indexSl, c_indexArr, c_elemArr, c_indexStr, c_extract, c_lenStr, c_lenSl, c_append, c_real, c_imag, c_complex, c_min, c_max, c_clear, lenA_sl, endK, resA, tupA, hlen, h0, h1, h37, hlb, hd, h39, h41, h40, h42, h31, h43, h44, h35, hdp, s38, hlv]
          · have hdp : decide ((p : Int) < (b.length : Int)) = false := decide_eq_false (by omega)
            simp only [if_neg hpl] at h40
            rw [show ((0 : Nat) : Int) = 0 from rfl] at h40
            obtain ⟨vk, vi, vt, va, vb, vs, vl⟩ := v
            simp only [encT, encV] at h31 h37 h40 h41 h42 h43 h35 h0
            simp only [f10, x_seq, x_block, x_skip, x_label, x_cond, x_exit, x_goto, x_ret, k_normal, k_exit, k_goto, k_ret, b_normal, b_exit, b_goto, b_ret, wantedA, aop, ev, putA, List.length_cons, List.length_nil, List.replicate, List.cons_append, List.nil_append, List.append_nil, List.append_assoc, gs_same, gs_ne, gq_same, gq_ne, List.length_set, List.map_cons, List.map_nil, cellsOf, List.all_cons, List.all_nil, cellOk, boxTy, Bool.and_true, Bool.and_self, if_true, ite_true, ite_false, loadAt, storeAt, setAt, hget, hget0, hset, hset0, List.getElem?_cons_zero, List.getElem?_cons_succ, List.set_cons_zero, List.set_cons_succ, Nat.add_zero, Nat.zero_add, Nat.reduceAdd, Nat.reduceSub, Nat.reduceLeDiff, Nat.reduceLT, Nat.reduceEqDiff, Nat.le_refl, and_self, and_true, true_and, mkAgg, toIms, List.drop_zero, List.drop_succ_cons, List.take_succ_cons, List.take_zero, List.length_append, binBool, unA, Bool.false_eq_true, if_false, partA, fillA, fillE, List.take_nil, Nat.zero_ne_one, Nat.one_ne_zero, not_false_eq_true, ne_eq, Nat.succ_ne_self, reduceCtorEq, Int.reduceEq, Int.reduceLT, Int.reduceLE, decide_true, decide_false, beq_self_eq_true, beq_true, beq_false, Bool.not_true, Bool.not_false, b_lss, b_gtr, b_leq, b_geq, b_eql, b_neq, b_add, b_sub, b_mul, s_eql, s_neq, y_ops, y_nil, y_cons, y_guard, y_some, y_drop, y_do, y_not, y_not0, c_call, c_clo, c_move, c_pick, c_alloc, c_box, c_build, c_bslice, c_load, c_store, c_nilCheck, c_bin, c_binB, c_un, c_i2i, c_i2f, c_f2i, c_s2b, c_b2s, c_strId, c_mkfunc, c_mkslice, c_slice, c_sliceStr, c_fieldAddr, c_field, c_indexSl, c_indexArr, c_elemArr, c_indexStr, c_extract, c_lenStr, c_lenSl, c_append, c_real, c_imag, c_complex, c_min, c_max, c_clear, lenA_sl, endK, resA, tupA, hlen, h0, h1, h37, hlb, hd, h39, h41, h40, h42, h31, h43, h44, h35, hdp, s38, hlv]
        · have hde : decide (e = 0) = false := decide_eq_false he
          simp only [ne_eq, he, not_false_eq_true, if_true, hz] at h40
          have hvz := hzv he
          subst hvz
          rw [hz] at h42 h43
          simp only [encT] at h31 h37 h40 h41 h42 h43 h0
          simp only [f10, x_seq, x_block, x_skip, x_label, x_cond, x_exit, x_goto, x_ret, k_normal, k_exit, k_goto, k_ret, b_normal, b_exit, b_goto, b_ret, wantedA, aop, ev, putA, List.length_cons, List.length_nil, List.replicate, List.cons_append, List.nil_append, List.append_nil, List.append_assoc, gs_same, gs_ne, gq_same, gq_ne, List.length_set, List.map_cons, List.map_nil, cellsOf, List.all_cons, List.all_nil, cellOk, boxTy, Bool.and_true, Bool.and_self, if_true, ite_true, ite_false, loadAt, storeAt, setAt, hget, hget0, hset, hset0, List.getElem?_cons_zero, List.getElem?_cons_succ, List.set_cons_zero, List.set_cons_succ, Nat.add_zero, Nat.zero_add, Nat.reduceAdd, Nat.reduceSub, Nat.reduceLeDiff, Nat.reduceLT, Nat.reduceEqDiff, Nat.le_refl, and_self, and_true, true_and, mkAgg, toIms, List.drop_zero, List.drop_succ_cons, List.take_succ_cons, List.take_zero, List.length_append, binBool, unA, Bool.false_eq_true, if_false, partA, fillA, fillE, List.take_nil, Nat.zero_ne_one, Nat.one_ne_zero, not_false_eq_true, ne_eq, Nat.succ_ne_self, reduceCtorEq, Int.reduceEq, Int.reduceLT, Int.reduceLE, decide_true, decide_false, beq_self_eq_true, beq_true, beq_false, Bool.not_true, Bool.not_false, b_lss, b_gtr, b_leq, b_geq, b_eql, b_neq, b_add, b_sub, b_mul, s_eql, s_neq, y_ops, y_nil, y_cons, y_guard, y_some, y_drop, y_do, y_not, y_not0, c_call, c_clo, c_move, c_pick, c_alloc, c_box, c_build, c_bslice, c_load, c_store, c_nilCheck, c_bin, c_binB, c_un, c_i2i, c_i2f, c_f2i, c_s2b, c_b2s, c_strId, c_mkfunc, c_mkslice, c_slice, c_sliceStr, c_fieldAddr, c_field, c_indexSl, c_indexArr, c_elemArr, c_indexStr, c_extract, c_lenStr, c_lenSl, c_append, c_real, c_imag, c_complex, c_min, c_max, c_clear, lenA_sl, endK, resA, tupA, hlen, h0, h1, h37, hlb, hd, h39, h41, h40, h42, h31, h43, h44, hde, s38, hlv]
      · have hr' : rightT t 6 = false := by simpa using hr
        have hnx : nextR b t = (zeroV, 0, 20) := by unfold nextR; rw [if_neg hr]
        unfold decodeR at h40
        rw [hnx] at h40 h42
        rw [hr'] at h31
        have hz : encV zeroV = [.int .i64 0, .int .i64 0, .str [], .cpx .f64 0 0, .sl 0 []] := rfl
        simp only [hz, ne_eq] at h40 h42
        rw [show ((0 : Nat) : Int) = 0 from rfl] at h42
        have h40' : ∀ H, L 40 [.im (.agg (encT (cloneT t))), .im (.sl s1 (bytesC b))] H = some (.tup [.im (.agg [.int .i64 0, .int .i64 0, .str [], .cpx .f64 0 0, .sl 0 []]), .im (.int .i64 0), .im (.int .i64 20)], H) := fun H => by rw [h40 H]; rfl
        generalize cloneT t = ct at *
        obtain ⟨tk, ts, tl⟩ := t
        obtain ⟨ck, cs, cl⟩ := ct
        simp only [encT] at h31 h37 h40' h41 h42 h0
        simp only [f10, x_seq, x_block, x_skip, x_label, x_cond, x_exit, x_goto, x_ret, k_normal, k_exit, k_goto, k_ret, b_normal, b_exit, b_goto, b_ret, wantedA, aop, ev, putA, List.length_cons, List.length_nil, List.replicate, List.cons_append, List.nil_append, List.append_nil, List.append_assoc, gs_same, gs_ne, gq_same, gq_ne, List.length_set, List.map_cons, List.map_nil, cellsOf, List.all_cons, List.all_nil, cellOk, boxTy, Bool.and_true, Bool.and_self, if_true, ite_true, ite_false, loadAt, storeAt, setAt, hget, hget0, hset, hset0, List.getElem?_cons_zero, List.getElem?_cons_succ, List.set_cons_zero, List.set_cons_succ, Nat.add_zero, Nat.zero_add, Nat.reduceAdd, Nat.reduceSub, Nat.reduceLeDiff, Nat.reduceLT, Nat.reduceEqDiff, Nat.le_refl, and_self, and_true, true_and, mkAgg, toIms, List.drop_zero, List.drop_succ_cons, List.take_succ_cons, List.take_zero, List.length_append, binBool, unA, Bool.false_eq_true, if_false, partA, fillA, fillE, List.take_nil, Nat.zero_ne_one, Nat.one_ne_zero, not_false_eq_true, ne_eq, Nat.succ_ne_self, reduceCtorEq, Int.reduceEq, Int.reduceLT, Int.reduceLE, decide_true, decide_false, beq_self_eq_true, beq_true, beq_false, Bool.not_true, Bool.not_false, b_lss, b_gtr, b_leq, b_geq, b_eql, b_neq, b_add, b_sub, b_mul, s_eql, s_neq, y_ops, y_nil, y_cons, y_guard, y_some, y_drop, y_do, y_not, y_not0, c_call, c_clo, c_move, c_pick, c_alloc, c_box, c_build, c_bslice, c_load, c_store, c_nilCheck, c_bin, c_binB, c_un, c_i2i, c_i2f, c_f2i, c_s2b, c_b2s, c_strId, c_mkfunc, c_mkslice, c_slice, c_sliceStr, c_fieldAddr, c_field, c_indexSl, c_indexArr, c_elemArr, c_indexStr, c_extract, c_lenStr, c_lenSl, c_append, c_real, c_imag, c_complex, c_min, c_max, c_clear, lenA_sl, endK, resA, tupA, hlen, h0, h1, h37, hlb, hd, h39, h41, h40', h42, h31, s38, hlv]
  · have hsm' : (smallT t 20000 30).1 = false := by simpa using hsm
    rw [hsm'] at h37
    obtain ⟨tk, ts, tl⟩ := t
    simp only [encT] at h37 h0
    simp only [f10, x_seq, x_block, x_skip, x_label, x_cond, x_exit, x_goto, x_ret, k_normal, k_exit, k_goto, k_ret, b_normal, b_exit, b_goto, b_ret, wantedA, aop, ev, putA, List.length_cons, List.length_nil, List.replicate, List.cons_append, List.nil_append, List.append_nil, List.append_assoc, gs_same, gs_ne, gq_same, gq_ne, List.length_set, List.map_cons, List.map_nil, cellsOf, List.all_cons, List.all_nil, cellOk, boxTy, Bool.and_true, Bool.and_self, if_true, ite_true, ite_false, loadAt, storeAt, setAt, hget, hget0, hset, hset0, List.getElem?_cons_zero, List.getElem?_cons_succ, List.set_cons_zero, List.set_cons_succ, Nat.add_zero, Nat.zero_add, Nat.reduceAdd, Nat.reduceSub, Nat.reduceLeDiff, Nat.reduceLT, Nat.reduceEqDiff, Nat.le_refl, and_self, and_true, true_and, mkAgg, toIms, List.drop_zero, List.drop_succ_cons, List.take_succ_cons, List.take_zero, List.length_append, binBool, unA, Bool.false_eq_true, if_false, partA, fillA, fillE, List.take_nil, Nat.zero_ne_one, Nat.one_ne_zero, not_false_eq_true, ne_eq, Nat.succ_ne_self, reduceCtorEq, Int.reduceEq, Int.reduceLT, Int.reduceLE, decide_true, decide_false, beq_self_eq_true, beq_true, beq_false, Bool.not_true, Bool.not_false, b_lss, b_gtr, b_leq, b_geq, b_eql, b_neq, b_add, b_sub, b_mul, s_eql, s_neq, y_ops, y_nil, y_cons, y_guard, y_some, y_drop, y_do, y_not, y_not0, c_call, c_clo, c_move, c_pick, c_alloc, c_box, c_build, c_bslice, c_load, c_store, c_nilCheck, c_bin, c_binB, c_un, c_i2i, c_i2f, c_f2i, c_s2b, c_b2s, c_strId, c_mkfunc, c_mkslice, c_slice, c_sliceStr, c_fieldAddr, c_field, c_indexSl, c_indexArr, c_elemArr, c_indexStr, c_extract, c_lenStr, c_lenSl, c_append, c_real, c_imag, c_complex, c_min, c_max, c_clear, lenA_sl, endK, resA, tupA, hlen, h0, h1, h37, s38, hlv]

end Go.Abs.Seat
end
