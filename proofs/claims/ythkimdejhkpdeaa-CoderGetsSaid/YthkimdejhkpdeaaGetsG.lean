/- Part 7 of what the claim rests on. -/
import Derived.Test.YthkimdejhkpdeaaGetsA
import Derived.Test.YthkimdejhkpdeaaGetsB
import Derived.Test.YthkimdejhkpdeaaGetsC
import Derived.Test.YthkimdejhkpdeaaGetsD
import Derived.Test.YthkimdejhkpdeaaGetsE
import Derived.Test.YthkimdejhkpdeaaGetsF
section
set_option linter.unusedVariables false
set_option linter.unusedSimpArgs false
/- What the coder's functions come to: the reference's least, small and clone. -/
set_option linter.unusedVariables false
set_option linter.unusedSimpArgs false
namespace Go.Abs.Seat
open Go.Proofs

theorem s67 : ∀ (d : Nat) (t : KT), d ≤ 7 → okT t → rightT t (d : Int) = true → ∀ H, L 67 [.im (.agg (encT t))] H = some (.im (.int .i64 (leastT t)), H)
  | 0, .mk k s args, hd, hok, h, H => by
    have := (right_len h).2.1
    omega
  | d + 1, .mk k s args, hd, hok, h, H => by
    obtain ⟨h1, _, h3⟩ := right_len h
    simp only [okT] at hok
    obtain ⟨hs, hn, hoks⟩ := hok
    have hlv : ∀ (M : Heap) (n : Int), leave H false (.im (.int .i64 n)) (H ++ M) = (.im (.int .i64 n), H) := fun M n => leave_app
    simp only [encT, leastT, encTs_map]
    rw [leq F67]
    obtain ⟨hlen, ha⟩ := enter_at (f := f67) (args := [.im (.agg [.int .i64 k, .sl s (args.map encT)])]) (Nat.le_of_ble_eq_true rfl)
    have h0 := ha 0 _ rfl
    generalize enterA f67 [.im (.agg [.int .i64 k, .sl s (args.map encT)])] = tm at *
    change tm.length = 18 at hlen
    by_cases hk : k = 6
    · subst hk
      obtain ⟨a, b, rfl⟩ := len2 (l := args) (by have : cntK 6 = 2 := by decide
                                                 omega)
      have hs2 : s = 2 := by
        rcases hs with hs | hs
        · simp at hs
        · exact hs
      subst hs2
      have hra : rightT a (d : Int) = true := by have := h3 a (by simp); rwa [show (((d + 1 : Nat) : Int)) - 1 = (d : Int) by omega] at this
      have hrb : rightT b (d : Int) = true := by have := h3 b (by simp); rwa [show (((d + 1 : Nat) : Int)) - 1 = (d : Int) by omega] at this
      have ca := s67 d a (by omega) (okTs_mem hoks a (by simp)) hra
      have cb := s67 d b (by omega) (okTs_mem hoks b (by simp)) hrb
      have la := least_le d a hra
      have lb := least_le d b hrb
      have hp := pow3 d (by omega)
      simp only [leastTs, if_true]
      generalize leastT a = xa at *
      generalize leastT b = xb at *
      have hw1 := Go.Abs.Seat.wrap_small (1 + xa) (by omega)
      have hw2 := Go.Abs.Seat.wrap_small (1 + xa + xb) (by omega)
      have hi0 : idx (.im (.int .i64 0)) 2 = some 0 := rfl
      have hi1 : idx (.im (.int .i64 1)) 2 = some 1 := rfl
      obtain ⟨k1, s1, ts1⟩ := a
      obtain ⟨k2, s2, ts2⟩ := b
      simp only [encT] at ca cb
      simp only [List.map_cons, List.map_nil, encT] at h0
      simp only [f67, x_seq, x_block, x_skip, x_label, x_cond, x_exit, x_goto, x_ret, k_normal, k_exit, k_goto, k_ret, b_normal, b_exit, b_goto, b_ret, wantedA, aop, ev, putA, List.length_cons, List.length_nil, List.replicate, List.cons_append, List.nil_append, List.append_nil, List.append_assoc, gs_same, gs_ne, gq_same, gq_ne, List.length_set, List.map_cons, List.map_nil, cellsOf, List.all_cons, List.all_nil, cellOk, boxTy, Bool.and_true, Bool.and_self, if_true, ite_true, ite_false, loadAt, storeAt, setAt, hget, hget0, hset, hset0, List.getElem?_cons_zero, List.getElem?_cons_succ, List.set_cons_zero, List.set_cons_succ, Nat.add_zero, Nat.zero_add, Nat.reduceAdd, Nat.reduceSub, Nat.reduceLeDiff, Nat.reduceLT, Nat.reduceEqDiff, Nat.le_refl, and_self, and_true, true_and, mkAgg, toIms, List.drop_zero, List.drop_succ_cons, List.take_succ_cons, List.take_zero, List.length_append, binBool, unA, Bool.false_eq_true, if_false, partA, fillA, fillE, List.take_nil, Nat.zero_ne_one, Nat.one_ne_zero, not_false_eq_true, ne_eq, Nat.succ_ne_self, reduceCtorEq, Int.reduceEq, Int.reduceLT, Int.reduceLE, decide_true, decide_false, lenA, beq_self_eq_true, beq_true, beq_false, Bool.not_true, Bool.not_false, b_lss, b_gtr, b_leq, b_geq, b_eql, b_neq, b_add, b_sub, b_mul, s_eql, s_neq, y_ops, y_nil, y_cons, y_guard, y_some, y_drop, y_do, y_not, y_not0, c_call, c_clo, c_move, c_pick, c_alloc, c_box, c_build, c_bslice, c_load, c_store, c_nilCheck, c_bin, c_binB, c_un, c_i2i, c_i2f, c_f2i, c_s2b, c_b2s, c_strId, c_mkfunc, c_mkslice, c_slice, c_sliceStr, c_fieldAddr, c_field, c_indexSl, c_indexArr, c_elemArr, c_indexStr, c_extract, c_lenStr, c_lenSl, c_append, c_real, c_imag, c_complex, c_min, c_max, c_clear, z_ops, z_nil, z_cons, z_guard, z_some, z_drop, z_do, z_not, z_not0, pairK, forall_eq_or_imp, stays, loadOf, List.reverse_cons, List.reverse_nil, List.mem_cons, List.not_mem_nil, or_false, forall_eq, true_or, or_true, Bool.true_and, endK, resA, tupA, hlen, h0, hi0, hi1, ca, cb, hw1, hw2, hlv]
      rw [show 1 + xa + xb = 1 + (xa + (xb + 0)) by omega]
    · have hdk : decide (k = 6) = false := decide_eq_false hk
      simp only [if_neg hk]
      simp only [f67, x_seq, x_block, x_skip, x_label, x_cond, x_exit, x_goto, x_ret, k_normal, k_exit, k_goto, k_ret, b_normal, b_exit, b_goto, b_ret, wantedA, aop, ev, putA, List.length_cons, List.length_nil, List.replicate, List.cons_append, List.nil_append, List.append_nil, List.append_assoc, gs_same, gs_ne, gq_same, gq_ne, List.length_set, List.map_cons, List.map_nil, cellsOf, List.all_cons, List.all_nil, cellOk, boxTy, Bool.and_true, Bool.and_self, if_true, ite_true, ite_false, loadAt, storeAt, setAt, hget, hget0, hset, hset0, List.getElem?_cons_zero, List.getElem?_cons_succ, List.set_cons_zero, List.set_cons_succ, Nat.add_zero, Nat.zero_add, Nat.reduceAdd, Nat.reduceSub, Nat.reduceLeDiff, Nat.reduceLT, Nat.reduceEqDiff, Nat.le_refl, and_self, and_true, true_and, mkAgg, toIms, List.drop_zero, List.drop_succ_cons, List.take_succ_cons, List.take_zero, List.length_append, binBool, unA, Bool.false_eq_true, if_false, partA, fillA, fillE, List.take_nil, Nat.zero_ne_one, Nat.one_ne_zero, not_false_eq_true, ne_eq, Nat.succ_ne_self, reduceCtorEq, Int.reduceEq, Int.reduceLT, Int.reduceLE, decide_true, decide_false, lenA, beq_self_eq_true, beq_true, beq_false, Bool.not_true, Bool.not_false, b_lss, b_gtr, b_leq, b_geq, b_eql, b_neq, b_add, b_sub, b_mul, s_eql, s_neq, y_ops, y_nil, y_cons, y_guard, y_some, y_drop, y_do, y_not, y_not0, c_call, c_clo, c_move, c_pick, c_alloc, c_box, c_build, c_bslice, c_load, c_store, c_nilCheck, c_bin, c_binB, c_un, c_i2i, c_i2f, c_f2i, c_s2b, c_b2s, c_strId, c_mkfunc, c_mkslice, c_slice, c_sliceStr, c_fieldAddr, c_field, c_indexSl, c_indexArr, c_elemArr, c_indexStr, c_extract, c_lenStr, c_lenSl, c_append, c_real, c_imag, c_complex, c_min, c_max, c_clear, endK, resA, tupA, hlen, h0, hdk, hlv]

theorem l63 (args : List KT) (s : Nat) (hs : args = [] ∨ s = 2) (hn : args.length ≤ 9223372036854775807) (d : Int) (hd : 1 ≤ d ∧ d ≤ 1000) (idl : Nat) (H0 : Heap) (hid : idl < H0.length)
    (hc : ∀ a ∈ args, ∀ (n : Int), 0 ≤ n → n ≤ 1000000 → ∀ (H : Heap), H[idl]? = some (numO n) → L 63 [.im (.agg (encT a)), .ptr idl 0 0, .im (.int .i64 (d - 1))] H = some (.im (.bool (smallT a n (d - 1)).1), H.set idl (numO (smallT a n (d - 1)).2))) :
    ∀ (m i : Nat), i + m = args.length → ∀ (tm : List AV) (M : Heap) (n : Int), 0 ≤ n → n ≤ 1000000 → tm.length = 36 → tm.getD 1 undefA = .ptr idl 0 0 → tm.getD 2 undefA = .im (.int .i64 d) → tm.getD 23 undefA = .im (.sl s (args.map encT)) → tm.getD 24 undefA = .im (.int .i64 args.length) → tm.getD 25 undefA = .im (.int .i64 i) →
    ∃ e tm' H', Λ c63_0 tm (H0.set idl (numO n) ++ M) = some (e, tm', H') ∧ tm'.length = 36 ∧ (∃ M', H' = H0.set idl (numO (smallTs (args.drop i) n (d - 1)).2) ++ M') ∧
      if (smallTs (args.drop i) n (d - 1)).1 = true then e = .exit 0 else e = .ret ∧ tm'.getD 6 undefA = .im (.bool false)
  | 0, i, hi, tm, M, n, hn0, hn1, hlen, h1, h2, h23, h24, h25 => by
    have e : args.drop i = [] := by rw [List.drop_eq_nil_iff]; omega
    have hc : decide ((i : Int) < (args.length : Int)) = false := decide_eq_false (by omega)
    rw [l63_0, e]
    simp only [smallTs, if_true]
    simp only [b63_0, exec0, xreg, xops, wantedA, aopc, aop, ev, putA, endK, resA, tupA, List.length_cons, List.length_nil, List.replicate, List.cons_append, List.nil_append, List.append_nil, List.append_assoc, gs_same, gs_ne, gq_same, gq_ne, List.length_set, List.map_cons, List.map_nil, cellsOf, List.all_cons, List.all_nil, cellOk, boxTy, Bool.and_true, Bool.and_self, if_true, ite_true, ite_false, loadAt, storeAt, setAt, hget, hget0, hset, hset0, List.getElem?_cons_zero, List.getElem?_cons_succ, List.set_cons_zero, List.set_cons_succ, Nat.add_zero, Nat.zero_add, Nat.reduceAdd, Nat.reduceSub, Nat.reduceLeDiff, Nat.reduceLT, Nat.reduceEqDiff, Nat.le_refl, and_self, and_true, true_and, mkAgg, toIms, List.drop_zero, List.drop_succ_cons, List.take_succ_cons, List.take_zero, List.length_append, binA, isShift, binInt, binBool, unA, Bool.false_eq_true, if_false, partA, fillA, fillE, List.take_nil, Nat.zero_ne_one, Nat.one_ne_zero, not_false_eq_true, ne_eq, Nat.succ_ne_self, reduceCtorEq, Int.reduceEq, Int.reduceLT, Int.reduceLE, decide_true, decide_false, lenA, beq_self_eq_true, beq_true, beq_false, Bool.not_true, Bool.not_false, hlen, h1, h2, h23, h24, h25, hc]
    exact ⟨_, _, _, rfl, by simp only [List.length_set, hlen], ⟨_, rfl⟩, rfl⟩
  | m + 1, i, hi, tm, M, n, hn0, hn1, hlen, h1, h2, h23, h24, h25 => by
    have hlt : i < args.length := by omega
    obtain ⟨w, hwi⟩ : ∃ w, args[i]? = some w := ⟨_, List.getElem?_eq_getElem hlt⟩
    have e : args.drop i = w :: args.drop (i + 1) := by
      rw [List.drop_eq_getElem_cons hlt]
      congr 1
      rw [List.getElem?_eq_getElem hlt] at hwi
      exact Option.some.inj hwi
    have hs2 : s = 2 := by
      rcases hs with hs | hs
      · subst hs; simp at hlt
      · exact hs
    subst hs2
    have hc' : decide ((i : Int) < (args.length : Int)) = true := decide_eq_true (by omega)
    have hix := idx_nat (n := (args.map encT).length) (i := i) (by simpa using hlt)
    have hgw : (args.map encT)[i]? = some (encT w) := by rw [List.getElem?_map, hwi]; rfl
    have hcall := hc w (List.mem_of_getElem? hwi) n hn0 hn1 (H0.set idl (numO n) ++ (M ++ [.obj none [(encT w).map .im]])) (by rw [get_app (by simpa using hid), List.getElem?_set_self hid])
    rw [set_app (by simpa using hid), List.set_set] at hcall
    have hsl := smallT_left w n (d - 1) hn0
    have hwr := wrap_nat (i := i) (by omega)
    have hwd := wrap_small (d - 1) (by omega)
    have key := l63 args 2 hs hn d hd idl H0 hid hc m (i + 1) (by omega)
    rw [l63_0, e]
    simp only [smallTs]
    have hset0 : ∀ o o' : HO, (H0.set idl (numO n) ++ (M ++ [o])).set ((H0.set idl (numO n)).length + M.length) o' = H0.set idl (numO n) ++ (M ++ [o']) := fun o o' => by
      rw [← List.append_assoc, ← List.append_assoc, ← List.length_append, Go.Abs.hset0]; rfl
    have hgetA : ∀ o, (H0.set idl (numO n) ++ (M ++ [o]))[(H0.set idl (numO n)).length + M.length]? = some o := fun o => by
      rw [← List.append_assoc, ← List.length_append, Go.Abs.hget0]; rfl
    rw [List.length_set] at hset0 hgetA
    rcases Bool.eq_false_or_eq_true (smallT w n (d - 1)).1 with hb | hb
    · simp only [hb, if_true] at hcall hsl ⊢
      generalize (smallT w n (d - 1)).2 = n' at *
      obtain ⟨k, s', ts⟩ := w
      simp only [encT, List.map_cons, List.map_nil] at hcall hgw
      simp only [b63_0, exec0, xreg, xops, wantedA, aopc, aop, ev, putA, endK, resA, tupA, List.length_cons, List.length_nil, List.replicate, List.cons_append, List.nil_append, List.append_nil, List.append_assoc, gs_same, gs_ne, gq_same, gq_ne, List.length_set, List.map_cons, List.map_nil, cellsOf, List.all_cons, List.all_nil, cellOk, boxTy, Bool.and_true, Bool.and_self, if_true, ite_true, ite_false, loadAt, storeAt, setAt, hget, hget0, hset, hset0, List.getElem?_cons_zero, List.getElem?_cons_succ, List.set_cons_zero, List.set_cons_succ, Nat.add_zero, Nat.zero_add, Nat.reduceAdd, Nat.reduceSub, Nat.reduceLeDiff, Nat.reduceLT, Nat.reduceEqDiff, Nat.le_refl, and_self, and_true, true_and, mkAgg, toIms, List.drop_zero, List.drop_succ_cons, List.take_succ_cons, List.take_zero, List.length_append, binA, isShift, binInt, binBool, unA, Bool.false_eq_true, if_false, partA, fillA, fillE, List.take_nil, Nat.zero_ne_one, Nat.one_ne_zero, not_false_eq_true, ne_eq, Nat.succ_ne_self, reduceCtorEq, Int.reduceEq, Int.reduceLT, Int.reduceLE, decide_true, decide_false, lenA, beq_self_eq_true, beq_true, beq_false, Bool.not_true, Bool.not_false, hlen, h1, h2, h23, h24, h25, hc', hix, hgw, hcall, hwr, hwd, hgetA, hset0]
      refine ex_imp (key _ _ n' (by have := hsl.2.2 trivial; omega) (by omega) ?_ ?_ ?_ ?_ ?_ ?_) ?_
      iterate 6 simp only [gs_same, gs_ne, List.length_set, Nat.reduceLT, Nat.reduceEqDiff, not_false_eq_true, hlen, h1, h2, h23, h24, h25]
      exact fun e tm' H' h => h
    · simp only [hb, Bool.false_eq_true, if_false] at hcall hsl ⊢
      generalize (smallT w n (d - 1)).2 = n' at *
      obtain ⟨k, s', ts⟩ := w
      simp only [encT, List.map_cons, List.map_nil] at hcall hgw
      simp only [b63_0, exec0, xreg, xops, wantedA, aopc, aop, ev, putA, endK, resA, tupA, List.length_cons, List.length_nil, List.replicate, List.cons_append, List.nil_append, List.append_nil, List.append_assoc, gs_same, gs_ne, gq_same, gq_ne, List.length_set, List.map_cons, List.map_nil, cellsOf, List.all_cons, List.all_nil, cellOk, boxTy, Bool.and_true, Bool.and_self, if_true, ite_true, ite_false, loadAt, storeAt, setAt, hget, hget0, hset, hset0, List.getElem?_cons_zero, List.getElem?_cons_succ, List.set_cons_zero, List.set_cons_succ, Nat.add_zero, Nat.zero_add, Nat.reduceAdd, Nat.reduceSub, Nat.reduceLeDiff, Nat.reduceLT, Nat.reduceEqDiff, Nat.le_refl, and_self, and_true, true_and, mkAgg, toIms, List.drop_zero, List.drop_succ_cons, List.take_succ_cons, List.take_zero, List.length_append, binA, isShift, binInt, binBool, unA, Bool.false_eq_true, if_false, partA, fillA, fillE, List.take_nil, Nat.zero_ne_one, Nat.one_ne_zero, not_false_eq_true, ne_eq, Nat.succ_ne_self, reduceCtorEq, Int.reduceEq, Int.reduceLT, Int.reduceLE, decide_true, decide_false, lenA, beq_self_eq_true, beq_true, beq_false, Bool.not_true, Bool.not_false, hlen, h1, h2, h23, h24, h25, hc', hix, hgw, hcall, hwr, hwd, hgetA, hset0]
      exact ⟨_, _, _, rfl, by simp only [List.length_set, hlen], ⟨_, rfl⟩, rfl, by simp only [gs_same, gs_ne, List.length_set, Nat.reduceLT, Nat.reduceEqDiff, not_false_eq_true, hlen]⟩

theorem s63 : ∀ (t : KT), okT t → ∀ (n d : Int), 0 ≤ n → n ≤ 1000000 → 0 ≤ d → d ≤ 1000 → ∀ (idl : Nat) (H : Heap), H[idl]? = some (numO n) →
    L 63 [.im (.agg (encT t)), .ptr idl 0 0, .im (.int .i64 d)] H = some (.im (.bool (smallT t n d).1), H.set idl (numO (smallT t n d).2))
  | .mk k s args, hok, n, d, hn0, hn1, hd0, hd1, idl, H, hid => by
    simp only [okT] at hok
    obtain ⟨hs, hn, hoks⟩ := hok
    have hlt := (List.getElem?_eq_some_iff.1 hid).1
    have hgl : ∀ M : Heap, (H ++ M)[idl]? = some (numO n) := fun M => by rw [get_app hlt]; exact hid
    have hsl : ∀ (M : Heap) o, (H ++ M).set idl o = H.set idl o ++ M := fun M o => set_app hlt
    have hgs : ∀ (M : Heap) o, (H.set idl o ++ M)[idl]? = some o := fun M o => by rw [get_app (by simpa using hlt), List.getElem?_set_self hlt]
    have hgt : ∀ (o x : HO), (H.set idl o ++ [x])[H.length]? = some x := fun o x => by
      have := Go.Abs.hget0 (H := H.set idl o) (l := [x])
      rwa [List.length_set] at this
    have hel : (encTs args).length = args.length := by rw [encTs_map]; simp
    have hwn := wrap_small (n - 1) (by omega)
    have key := fun (hd : 1 ≤ d) => l63 args s hs hn d ⟨hd, hd1⟩ idl H hlt (fun a ha n hn0 hn1 H' hH' => s63 a (okTs_mem hoks a ha) n (d - 1) hn0 hn1 (by omega) (by omega) idl H' hH') args.length 0 (by omega)
    have z : ((0 : Nat) : Int) = 0 := rfl
    simp only [List.drop_zero, z] at key
    simp only [encT]
    rw [leq F63]
    obtain ⟨hlen, ha⟩ := enter_at (f := f63) (args := [.im (.agg [.int .i64 k, .sl s (encTs args)]), .ptr idl 0 0, .im (.int .i64 d)]) (Nat.le_of_ble_eq_true rfl)
    have h0 := ha 0 _ rfl
    have h1 := ha 1 _ rfl
    have h2 := ha 2 _ rfl
    generalize enterA f63 [.im (.agg [.int .i64 k, .sl s (encTs args)]), .ptr idl 0 0, .im (.int .i64 d)] = tm at *
    change tm.length = 36 at hlen
    have hlv : ∀ (b : Bool) (M : Heap) (v : Int), leave H false (.im (.bool b)) (H.set idl (.obj none [[.im (.int .i64 v)]]) ++ M) = (.im (.bool b), H.set idl (.obj none [[.im (.int .i64 v)]])) := fun b M v => leave_set
    simp only [numO] at hgl hlv hgs
    by_cases hn2 : n - 1 < 0
    · have e1 : decide (n - 1 < 0) = true := decide_eq_true hn2
      simp only [smallT, hn2, true_or, if_true]
      simp only [f63, e63_0, exec0, xreg, xops, wantedA, aopc, aop, ev, putA, endK, resA, tupA, List.length_cons, List.length_nil, List.replicate, List.cons_append, List.nil_append, List.append_nil, List.append_assoc, gs_same, gs_ne, gq_same, gq_ne, List.length_set, List.map_cons, List.map_nil, cellsOf, List.all_cons, List.all_nil, cellOk, boxTy, Bool.and_true, Bool.and_self, if_true, ite_true, ite_false, loadAt, storeAt, setAt, hget, hget0, hset, hset0, List.getElem?_cons_zero, List.getElem?_cons_succ, List.set_cons_zero, List.set_cons_succ, Nat.add_zero, Nat.zero_add, Nat.reduceAdd, Nat.reduceSub, Nat.reduceLeDiff, Nat.reduceLT, Nat.reduceEqDiff, Nat.le_refl, and_self, and_true, true_and, mkAgg, toIms, List.drop_zero, List.drop_succ_cons, List.take_succ_cons, List.take_zero, List.length_append, binA, isShift, binInt, binBool, unA, Bool.false_eq_true, if_false, partA, fillA, fillE, List.take_nil, Nat.zero_ne_one, Nat.one_ne_zero, not_false_eq_true, ne_eq, Nat.succ_ne_self, reduceCtorEq, Int.reduceEq, Int.reduceLT, Int.reduceLE, decide_true, decide_false, lenA, beq_self_eq_true, beq_true, beq_false, Bool.not_true, Bool.not_false, hlen, h0, h1, h2, hel, hgl, hsl, hgs, hwn, e1, hlv, numO]
    · have e1 : decide (n - 1 < 0) = false := decide_eq_false hn2
      by_cases hd2 : d = 0
      · have e2 : decide (d = 0) = true := decide_eq_true hd2
        simp only [smallT, hn2, hd2, or_true, if_true]
        subst hd2
        simp only [f63, e63_0, exec0, xreg, xops, wantedA, aopc, aop, ev, putA, endK, resA, tupA, List.length_cons, List.length_nil, List.replicate, List.cons_append, List.nil_append, List.append_nil, List.append_assoc, gs_same, gs_ne, gq_same, gq_ne, List.length_set, List.map_cons, List.map_nil, cellsOf, List.all_cons, List.all_nil, cellOk, boxTy, Bool.and_true, Bool.and_self, if_true, ite_true, ite_false, loadAt, storeAt, setAt, hget, hget0, hset, hset0, List.getElem?_cons_zero, List.getElem?_cons_succ, List.set_cons_zero, List.set_cons_succ, Nat.add_zero, Nat.zero_add, Nat.reduceAdd, Nat.reduceSub, Nat.reduceLeDiff, Nat.reduceLT, Nat.reduceEqDiff, Nat.le_refl, and_self, and_true, true_and, mkAgg, toIms, List.drop_zero, List.drop_succ_cons, List.take_succ_cons, List.take_zero, List.length_append, binA, isShift, binInt, binBool, unA, Bool.false_eq_true, if_false, partA, fillA, fillE, List.take_nil, Nat.zero_ne_one, Nat.one_ne_zero, not_false_eq_true, ne_eq, Nat.succ_ne_self, reduceCtorEq, Int.reduceEq, Int.reduceLT, Int.reduceLE, decide_true, decide_false, lenA, beq_self_eq_true, beq_true, beq_false, Bool.not_true, Bool.not_false, hlen, h0, h1, h2, hel, hgl, hsl, hgs, hwn, e1, hlv, numO]
      · have e2 : decide (d = 0) = false := decide_eq_false hd2
        simp only [smallT, hn2, hd2, or_self, if_false]
        simp only [f63, e63_0, exec0, xreg, xops, wantedA, aopc, aop, ev, putA, endK, resA, tupA, List.length_cons, List.length_nil, List.replicate, List.cons_append, List.nil_append, List.append_nil, List.append_assoc, gs_same, gs_ne, gq_same, gq_ne, List.length_set, List.map_cons, List.map_nil, cellsOf, List.all_cons, List.all_nil, cellOk, boxTy, Bool.and_true, Bool.and_self, if_true, ite_true, ite_false, loadAt, storeAt, setAt, hget, hget0, hset, hset0, List.getElem?_cons_zero, List.getElem?_cons_succ, List.set_cons_zero, List.set_cons_succ, Nat.add_zero, Nat.zero_add, Nat.reduceAdd, Nat.reduceSub, Nat.reduceLeDiff, Nat.reduceLT, Nat.reduceEqDiff, Nat.le_refl, and_self, and_true, true_and, mkAgg, toIms, List.drop_zero, List.drop_succ_cons, List.take_succ_cons, List.take_zero, List.length_append, binA, isShift, binInt, binBool, unA, Bool.false_eq_true, if_false, partA, fillA, fillE, List.take_nil, Nat.zero_ne_one, Nat.one_ne_zero, not_false_eq_true, ne_eq, Nat.succ_ne_self, reduceCtorEq, Int.reduceEq, Int.reduceLT, Int.reduceLE, decide_true, decide_false, lenA, beq_self_eq_true, beq_true, beq_false, Bool.not_true, Bool.not_false, hlen, h0, h1, h2, hel, hgl, hsl, hgs, hgt, hwn, e1, e2]
        have key := key (by omega)
        simp only [numO] at key
        refine thenL_of (key _ _ (n - 1) (by omega) (by omega) ?_ ?_ ?_ ?_ ?_ ?_) ?_
        iterate 6 simp only [gs_same, gs_ne, List.length_set, Nat.reduceLT, Nat.reduceEqDiff, not_false_eq_true, hlen, h0, h1, h2, encTs_map]
        rintro e tm' H' ⟨hl', ⟨M, rfl⟩, hb⟩
        rcases Bool.eq_false_or_eq_true (smallTs args (n - 1) (d - 1)).1 with hq | hq
        · simp only [hq, if_true] at hb
          subst hb
          simp only [exec0, xreg, xops, wantedA, aopc, aop, ev, putA, endK, resA, tupA, List.length_cons, List.length_nil, List.replicate, List.cons_append, List.nil_append, List.append_nil, List.append_assoc, gs_same, gs_ne, gq_same, gq_ne, List.length_set, List.map_cons, List.map_nil, cellsOf, List.all_cons, List.all_nil, cellOk, boxTy, Bool.and_true, Bool.and_self, if_true, ite_true, ite_false, loadAt, storeAt, setAt, hget, hget0, hset, hset0, List.getElem?_cons_zero, List.getElem?_cons_succ, List.set_cons_zero, List.set_cons_succ, Nat.add_zero, Nat.zero_add, Nat.reduceAdd, Nat.reduceSub, Nat.reduceLeDiff, Nat.reduceLT, Nat.reduceEqDiff, Nat.le_refl, and_self, and_true, true_and, mkAgg, toIms, List.drop_zero, List.drop_succ_cons, List.take_succ_cons, List.take_zero, List.length_append, binA, isShift, binInt, binBool, unA, Bool.false_eq_true, if_false, partA, fillA, fillE, List.take_nil, Nat.zero_ne_one, Nat.one_ne_zero, not_false_eq_true, ne_eq, Nat.succ_ne_self, reduceCtorEq, Int.reduceEq, Int.reduceLT, Int.reduceLE, decide_true, decide_false, lenA, beq_self_eq_true, beq_true, beq_false, Bool.not_true, Bool.not_false, hl', hlv, numO, hq]
        · simp only [hq, Bool.false_eq_true, if_false] at hb
          obtain ⟨rfl, h6⟩ := hb
          simp only [exec0, xreg, xops, wantedA, aopc, aop, ev, putA, endK, resA, tupA, List.length_cons, List.length_nil, List.replicate, List.cons_append, List.nil_append, List.append_nil, List.append_assoc, gs_same, gs_ne, gq_same, gq_ne, List.length_set, List.map_cons, List.map_nil, cellsOf, List.all_cons, List.all_nil, cellOk, boxTy, Bool.and_true, Bool.and_self, if_true, ite_true, ite_false, loadAt, storeAt, setAt, hget, hget0, hset, hset0, List.getElem?_cons_zero, List.getElem?_cons_succ, List.set_cons_zero, List.set_cons_succ, Nat.add_zero, Nat.zero_add, Nat.reduceAdd, Nat.reduceSub, Nat.reduceLeDiff, Nat.reduceLT, Nat.reduceEqDiff, Nat.le_refl, and_self, and_true, true_and, mkAgg, toIms, List.drop_zero, List.drop_succ_cons, List.take_succ_cons, List.take_zero, List.length_append, binA, isShift, binInt, binBool, unA, Bool.false_eq_true, if_false, partA, fillA, fillE, List.take_nil, Nat.zero_ne_one, Nat.one_ne_zero, not_false_eq_true, ne_eq, Nat.succ_ne_self, reduceCtorEq, Int.reduceEq, Int.reduceLT, Int.reduceLE, decide_true, decide_false, lenA, beq_self_eq_true, beq_true, beq_false, Bool.not_true, Bool.not_false, hl', h6, hlv, numO, hq]
termination_by t => SizeOf.sizeOf t
decreasing_by
  have := List.sizeOf_lt_of_mem ha
  simp only [KT.mk.sizeOf_spec]
  omega

theorem l41 (args : List KT) (s : Nat) (hs : args = [] ∨ s = 2) (hn : args.length ≤ 1000000) (H0 : Heap)
    (hc : ∀ a ∈ args, ∀ H, L 41 [.im (.agg (encT a))] H = some (.im (.agg (encT (cloneT a))), H)) :
    ∀ (m i : Nat), i + m = args.length → ∀ (tm : List AV) (M : Heap) (v : AV), Gath 25 2 H0.length v (H0 ++ M) ((args.take i).map fun a => encT (cloneT a)) → tm.length = 23 → tm.getD 3 undefA = v → tm.getD 7 undefA = .im (.sl s (args.map encT)) → tm.getD 8 undefA = .im (.int .i64 args.length) → tm.getD 9 undefA = .im (.int .i64 i) →
    ∃ e tm' H', Λ c41_0 tm (H0 ++ M) = some (e, tm', H') ∧ tm'.length = 23 ∧ e = .exit 0 ∧ tm'.getD 1 undefA = tm.getD 1 undefA ∧ tm'.getD 2 undefA = tm.getD 2 undefA ∧ ∃ M', H' = H0 ++ M' ∧ Gath 25 2 H0.length (tm'.getD 3 undefA) (H0 ++ M') (args.map fun a => encT (cloneT a))
  | 0, i, hi, tm, M, v, hG, hlen, h3, h7, h8, h9 => by
    have hc : decide ((i : Int) < (args.length : Int)) = false := decide_eq_false (by omega)
    rw [l41_0]
    simp only [b41_0, exec0, xreg, xops, wantedA, aopc, aop, ev, putA, endK, resA, tupA, List.length_cons, List.length_nil, List.replicate, List.cons_append, List.nil_append, List.append_nil, List.append_assoc, gs_same, gs_ne, gq_same, gq_ne, List.length_set, List.map_cons, List.map_nil, cellsOf, List.all_cons, List.all_nil, cellOk, boxTy, Bool.and_true, Bool.and_self, if_true, ite_true, ite_false, loadAt, storeAt, setAt, hget, hget0, hset, hset0, List.getElem?_cons_zero, List.getElem?_cons_succ, List.set_cons_zero, List.set_cons_succ, Nat.add_zero, Nat.zero_add, Nat.reduceAdd, Nat.reduceSub, Nat.reduceLeDiff, Nat.reduceLT, Nat.reduceEqDiff, Nat.le_refl, and_self, and_true, true_and, mkAgg, toIms, List.drop_zero, List.drop_succ_cons, List.take_succ_cons, List.take_zero, List.length_append, binA, isShift, binInt, binBool, unA, Bool.false_eq_true, if_false, partA, fillA, fillE, List.take_nil, Nat.zero_ne_one, Nat.one_ne_zero, not_false_eq_true, ne_eq, Nat.succ_ne_self, reduceCtorEq, Int.reduceEq, Int.reduceLT, Int.reduceLE, decide_true, decide_false, lenA, beq_self_eq_true, beq_true, beq_false, Bool.not_true, Bool.not_false, hlen, h3, h7, h8, h9, hc]
    have e : args.take i = args := List.take_of_length_le (by omega)
    rw [e] at hG
    exact ⟨_, _, _, rfl, by simp only [List.length_set, hlen], rfl, by simp only [gs_same, gs_ne, List.length_set, Nat.reduceLT, Nat.reduceEqDiff, not_false_eq_true, hlen], by simp only [gs_same, gs_ne, List.length_set, Nat.reduceLT, Nat.reduceEqDiff, not_false_eq_true, hlen], M, rfl, by simp only [gs_same, gs_ne, List.length_set, Nat.reduceLT, Nat.reduceEqDiff, not_false_eq_true, hlen, h3]; exact hG⟩
  | m + 1, i, hi, tm, M, v, hG, hlen, h3, h7, h8, h9 => by
    have hlt : i < args.length := by omega
    obtain ⟨w, hwi⟩ : ∃ w, args[i]? = some w := ⟨_, List.getElem?_eq_getElem hlt⟩
    have hs2 : s = 2 := by
      rcases hs with hs | hs
      · subst hs; simp at hlt
      · exact hs
    subst hs2
    have hc' : decide ((i : Int) < (args.length : Int)) = true := decide_eq_true (by omega)
    have hix := idx_nat (n := (args.map encT).length) (i := i) (by simpa using hlt)
    have hgw : (args.map encT)[i]? = some (encT w) := by rw [List.getElem?_map, hwi]; rfl
    have hcall := hc w (List.mem_of_getElem? hwi)
    have hwr := wrap_nat (i := i) (by omega)
    have key := l41 args 2 hs hn H0 hc m (i + 1) (by omega)
    have hG2 := hG.more [.obj none [(encT w).map .im]]
    rw [List.append_assoc] at hG2
    obtain ⟨v', M', hap, hG', hok, _⟩ := hG2.push (bytes := 32) (encT (cloneT w)) (by simp; omega) (by decide)
    have htk : (args.take (i + 1)).map (fun a => encT (cloneT a)) = (args.take i).map (fun a => encT (cloneT a)) ++ [encT (cloneT w)] := by
      rw [List.take_add_one, hwi]; simp
    rw [← htk] at hG'
    have hset0 : ∀ o o' : HO, (H0 ++ (M ++ [o])).set (H0.length + M.length) o' = H0 ++ (M ++ [o']) := fun o o' => by
      rw [← List.append_assoc, ← List.append_assoc, ← List.length_append, Go.Abs.hset0]; rfl
    have hgetA : ∀ o, (H0 ++ (M ++ [o]))[H0.length + M.length]? = some o := fun o => by
      rw [← List.append_assoc, ← List.length_append, Go.Abs.hget0]; rfl
    rw [l41_0]
    generalize hcw : cloneT w = cw at *
    obtain ⟨k, s', ts⟩ := w
    obtain ⟨k2, s2, ts2⟩ := cw
    simp only [encT, List.map_cons, List.map_nil] at hcall hgw hap
    simp only [b41_0, exec0, xreg, xops, wantedA, aopc, aop, ev, putA, endK, resA, tupA, List.length_cons, List.length_nil, List.replicate, List.cons_append, List.nil_append, List.append_nil, List.append_assoc, gs_same, gs_ne, gq_same, gq_ne, List.length_set, List.map_cons, List.map_nil, cellsOf, List.all_cons, List.all_nil, cellOk, boxTy, Bool.and_true, Bool.and_self, if_true, ite_true, ite_false, loadAt, storeAt, setAt, hget, hget0, hset, hset0, List.getElem?_cons_zero, List.getElem?_cons_succ, List.set_cons_zero, List.set_cons_succ, Nat.add_zero, Nat.zero_add, Nat.reduceAdd, Nat.reduceSub, Nat.reduceLeDiff, Nat.reduceLT, Nat.reduceEqDiff, Nat.le_refl, and_self, and_true, true_and, mkAgg, toIms, List.drop_zero, List.drop_succ_cons, List.take_succ_cons, List.take_zero, List.length_append, binA, isShift, binInt, binBool, unA, Bool.false_eq_true, if_false, partA, fillA, fillE, List.take_nil, Nat.zero_ne_one, Nat.one_ne_zero, not_false_eq_true, ne_eq, Nat.succ_ne_self, reduceCtorEq, Int.reduceEq, Int.reduceLT, Int.reduceLE, decide_true, decide_false, lenA, beq_self_eq_true, beq_true, beq_false, Bool.not_true, Bool.not_false, hlen, h3, h7, h8, h9, hc', hix, hgw, hcall, hwr, hgetA, hset0, toDatss, toDats, toDat, elems, hap]
    refine ex_imp (key _ M' v' hG' ?_ ?_ ?_ ?_ ?_) ?_
    iterate 5 simp only [gs_same, gs_ne, List.length_set, Nat.reduceLT, Nat.reduceEqDiff, not_false_eq_true, hlen, h3, h7, h8, h9]
    rintro e tm' H' ⟨hl', he, g1, g2, hM⟩
    refine ⟨hl', he, ?_, ?_, hM⟩
    · rw [g1]; simp only [gs_same, gs_ne, List.length_set, Nat.reduceLT, Nat.reduceEqDiff, not_false_eq_true, hlen]
    · rw [g2]; simp only [gs_same, gs_ne, List.length_set, Nat.reduceLT, Nat.reduceEqDiff, not_false_eq_true, hlen]

theorem s41 : ∀ (t : KT), okT t → slim t → ∀ H, L 41 [.im (.agg (encT t))] H = some (.im (.agg (encT (cloneT t))), H)
  | .mk k s args, hok, hnw, H => by
    simp only [okT] at hok
    obtain ⟨hs, _, hoks⟩ := hok
    simp only [slim] at hnw
    obtain ⟨hn, hnws⟩ := hnw
    have hc : ∀ a ∈ args, ∀ H, L 41 [.im (.agg (encT a))] H = some (.im (.agg (encT (cloneT a))), H) := fun a ha H => s41 a (okTs_mem hoks a ha) (slims_mem hnws a ha) H
    have key := l41 args s hs (by omega) (H ++ [.obj none [[.im (.int .i64 k), .im (.sl s (encTs args))]], .obj none [[.im (.int .i64 0), .nils]]]) hc args.length 0 (by omega)
    have z : ((0 : Nat) : Int) = 0 := rfl
    simp only [z] at key
    have hel : (encTs args).length = args.length := by rw [encTs_map]; simp
    simp only [encT]
    rw [leq F41]
    obtain ⟨hlen, ha⟩ := enter_at (f := f41) (args := [.im (.agg [.int .i64 k, .sl s (encTs args)])]) (Nat.le_of_ble_eq_true rfl)
    have h0 := ha 0 _ rfl
    generalize enterA f41 [.im (.agg [.int .i64 k, .sl s (encTs args)])] = tm at *
    change tm.length = 23 at hlen
    simp only [f41, e41_0, exec0, xreg, xops, wantedA, aopc, aop, ev, putA, endK, resA, tupA, List.length_cons, List.length_nil, List.replicate, List.cons_append, List.nil_append, List.append_nil, List.append_assoc, gs_same, gs_ne, gq_same, gq_ne, List.length_set, List.map_cons, List.map_nil, cellsOf, List.all_cons, List.all_nil, cellOk, boxTy, Bool.and_true, Bool.and_self, if_true, ite_true, ite_false, loadAt, storeAt, setAt, hget, hget0, hset, hset0, List.getElem?_cons_zero, List.getElem?_cons_succ, List.set_cons_zero, List.set_cons_succ, Nat.add_zero, Nat.zero_add, Nat.reduceAdd, Nat.reduceSub, Nat.reduceLeDiff, Nat.reduceLT, Nat.reduceEqDiff, Nat.le_refl, and_self, and_true, true_and, mkAgg, toIms, List.drop_zero, List.drop_succ_cons, List.take_succ_cons, List.take_zero, List.length_append, binA, isShift, binInt, binBool, unA, Bool.false_eq_true, if_false, partA, fillA, fillE, List.take_nil, Nat.zero_ne_one, Nat.one_ne_zero, not_false_eq_true, ne_eq, Nat.succ_ne_self, reduceCtorEq, Int.reduceEq, Int.reduceLT, Int.reduceLE, decide_true, decide_false, lenA, beq_self_eq_true, beq_true, beq_false, Bool.not_true, Bool.not_false, hlen, h0, hel]
    have key := fun tm => key tm [] .nils (.inl ⟨rfl, rfl⟩)
    simp only [List.append_nil] at key
    refine thenL_of (key _ ?_ ?_ ?_ ?_ ?_) ?_
    iterate 5 simp only [gs_same, gs_ne, List.length_set, Nat.reduceLT, Nat.reduceEqDiff, not_false_eq_true, hlen, h0, encTs_map]
    rintro e tm' H' ⟨hl', rfl, g1, g2, M, rfl, hG⟩
    simp only [gs_same, gs_ne, List.length_set, Nat.reduceLT, Nat.reduceEqDiff, not_false_eq_true, hlen] at g1 g2
    have hm : encTs (cloneTs args) = args.map fun a => encT (cloneT a) := by rw [encTs_map, cloneTs_map, List.map_map]; rfl
    rcases hG with ⟨hes, hv⟩ | ⟨hes, tok, _, hv, _⟩
    · have ha0 : args = [] := by simpa using hes
      have e1 : toDat (.agg [.im (.int .i64 k), .nils]) = some (.agg (encT (cloneT (.mk k s args)))) := by
        simp [toDat, toDats, cloneT, encT, ha0, encTs, cloneTs]
      have hlv := fun L' => leave_one (H := H) (M := L') e1
      simp only [cloneT, encT] at hlv ⊢
      simp only [exec0, xreg, xops, wantedA, aopc, aop, ev, putA, endK, resA, tupA, List.length_cons, List.length_nil, List.replicate, List.cons_append, List.nil_append, List.append_nil, List.append_assoc, gs_same, gs_ne, gq_same, gq_ne, List.length_set, List.map_cons, List.map_nil, cellsOf, List.all_cons, List.all_nil, cellOk, boxTy, Bool.and_true, Bool.and_self, if_true, ite_true, ite_false, loadAt, storeAt, setAt, hget, hget0, hset, hset0, List.getElem?_cons_zero, List.getElem?_cons_succ, List.set_cons_zero, List.set_cons_succ, Nat.add_zero, Nat.zero_add, Nat.reduceAdd, Nat.reduceSub, Nat.reduceLeDiff, Nat.reduceLT, Nat.reduceEqDiff, Nat.le_refl, and_self, and_true, true_and, mkAgg, toIms, List.drop_zero, List.drop_succ_cons, List.take_succ_cons, List.take_zero, List.length_append, binA, isShift, binInt, binBool, unA, Bool.false_eq_true, if_false, partA, fillA, fillE, List.take_nil, Nat.zero_ne_one, Nat.one_ne_zero, not_false_eq_true, ne_eq, Nat.succ_ne_self, reduceCtorEq, Int.reduceEq, Int.reduceLT, Int.reduceLE, decide_true, decide_false, lenA, beq_self_eq_true, beq_true, beq_false, Bool.not_true, Bool.not_false, hl', g1, g2, hv, toDatss, toDats, toDat, hlv]
    · have ha0 : args.length ≠ 0 := by simpa using hes
      have e1 : toDat (.agg [.im (.int .i64 k), .asl 2 (args.map fun a => encT (cloneT a)) tok]) = some (.agg (encT (cloneT (.mk k s args)))) := by
        simp only [toDat, toDats, cloneT, encT, if_neg ha0, hm]
      have hlv := fun L' => leave_one (H := H) (M := L') e1
      simp only [cloneT, encT] at hlv ⊢
      simp only [exec0, xreg, xops, wantedA, aopc, aop, ev, putA, endK, resA, tupA, List.length_cons, List.length_nil, List.replicate, List.cons_append, List.nil_append, List.append_nil, List.append_assoc, gs_same, gs_ne, gq_same, gq_ne, List.length_set, List.map_cons, List.map_nil, cellsOf, List.all_cons, List.all_nil, cellOk, boxTy, Bool.and_true, Bool.and_self, if_true, ite_true, ite_false, loadAt, storeAt, setAt, hget, hget0, hset, hset0, List.getElem?_cons_zero, List.getElem?_cons_succ, List.set_cons_zero, List.set_cons_succ, Nat.add_zero, Nat.zero_add, Nat.reduceAdd, Nat.reduceSub, Nat.reduceLeDiff, Nat.reduceLT, Nat.reduceEqDiff, Nat.le_refl, and_self, and_true, true_and, mkAgg, toIms, List.drop_zero, List.drop_succ_cons, List.take_succ_cons, List.take_zero, List.length_append, binA, isShift, binInt, binBool, unA, Bool.false_eq_true, if_false, partA, fillA, fillE, List.take_nil, Nat.zero_ne_one, Nat.one_ne_zero, not_false_eq_true, ne_eq, Nat.succ_ne_self, reduceCtorEq, Int.reduceEq, Int.reduceLT, Int.reduceLE, decide_true, decide_false, lenA, beq_self_eq_true, beq_true, beq_false, Bool.not_true, Bool.not_false, hl', g1, g2, hv, toDatss, toDats, toDat, hlv]
termination_by t => SizeOf.sizeOf t
decreasing_by
  have := List.sizeOf_lt_of_mem ha
  simp only [KT.mk.sizeOf_spec]
  omega



end Go.Abs.Seat
end
section
set_option linter.unusedVariables false
set_option linter.unusedSimpArgs false
/- What the coder's functions come to: small of a type; the reference's getText. -/
set_option linter.unusedVariables false
set_option linter.unusedSimpArgs false
namespace Go.Abs.Seat
open Go.Proofs

theorem s37 (t : KT) (hok : okT t) (H : Heap) : L 37 [.im (.agg (encT t)), .nils] H = some (.im (.bool (smallT t 20000 30).1), H) := by
  have h63 := s63 t hok 20000 30 (by decide) (by decide) (by decide) (by decide)
  obtain ⟨k, s, ts⟩ := t
  simp only [encT] at h63 ⊢
  have h63' := h63 (H.length + 1) (H ++ [HO.obj none [[.im (.int .i64 k), .im (.sl s (encTs ts))]], HO.obj none [[.im (.int .i64 20000)]]]) (by rw [Go.Abs.hget]; rfl)
  rw [Go.Abs.hset] at h63'
  have hf : decide ((0 : Int) < 0) = false := by decide
  have hb : ∀ (tm : List AV) (H : Heap), tm.length = 20 → tm.getD 9 undefA = .im (.int .i64 0) → tm.getD 10 undefA = .im (.int .i64 0) → Λ c37_0 tm H = some (.exit 0, tm.set 11 (.im (.bool false)), H) := fun tm H hl h9 h10 => by
    rw [l37_0]
    simp only [b37_0, x_seq, x_block, x_skip, x_label, x_cond, x_exit, x_goto, x_ret, k_normal, k_exit, k_goto, k_ret, b_normal, b_exit, b_goto, b_ret, wantedA, aop, ev, putA, List.length_cons, List.length_nil, List.replicate, List.cons_append, List.nil_append, List.append_nil, List.append_assoc, gs_same, gs_ne, gq_same, gq_ne, List.length_set, List.map_cons, List.map_nil, cellsOf, List.all_cons, List.all_nil, cellOk, boxTy, Bool.and_true, Bool.and_self, if_true, ite_true, ite_false, loadAt, storeAt, setAt, hget, hget0, hset, hset0, List.getElem?_cons_zero, List.getElem?_cons_succ, List.set_cons_zero, List.set_cons_succ, Nat.add_zero, Nat.zero_add, Nat.reduceAdd, Nat.reduceSub, Nat.reduceLeDiff, Nat.reduceLT, Nat.reduceEqDiff, Nat.le_refl, and_self, and_true, true_and, mkAgg, toIms, List.drop_zero, List.drop_succ_cons, List.take_succ_cons, List.take_zero, List.length_append, binBool, unA, Bool.false_eq_true, if_false, partA, fillA, fillE, List.take_nil, Nat.zero_ne_one, Nat.one_ne_zero, not_false_eq_true, ne_eq, Nat.succ_ne_self, reduceCtorEq, Int.reduceEq, Int.reduceLT, Int.reduceLE, decide_true, decide_false, beq_self_eq_true, beq_true, beq_false, Bool.not_true, Bool.not_false, b_lss, b_gtr, b_leq, b_geq, b_eql, b_neq, b_add, b_sub, b_mul, s_eql, s_neq, y_ops, y_nil, y_cons, y_guard, y_some, y_drop, y_do, y_not, y_not0, c_call, c_clo, c_move, c_pick, c_alloc, c_box, c_build, c_bslice, c_load, c_store, c_nilCheck, c_bin, c_binB, c_un, c_i2i, c_i2f, c_f2i, c_s2b, c_b2s, c_strId, c_mkfunc, c_mkslice, c_slice, c_sliceStr, c_fieldAddr, c_field, c_indexSl, c_indexArr, c_elemArr, c_indexStr, c_extract, c_lenStr, c_lenSl, c_append, c_real, c_imag, c_complex, c_min, c_max, c_clear, hl, h9, h10, hf]
  rw [leq F37]
  obtain ⟨hlen, ha⟩ := enter_at (f := f37) (args := [.im (.agg [.int .i64 k, .sl s (encTs ts)]), .nils]) (Nat.le_of_ble_eq_true rfl)
  have h0 := ha 0 _ rfl
  have h1 := ha 1 _ rfl
  generalize enterA f37 [.im (.agg [.int .i64 k, .sl s (encTs ts)]), .nils] = tm at *
  change tm.length = 20 at hlen
  simp only [f37, e37_0, x_seq, x_block, x_skip, x_label, x_cond, x_exit, x_goto, x_ret, k_normal, k_exit, k_goto, k_ret, b_normal, b_exit, b_goto, b_ret, wantedA, aop, ev, putA, List.length_cons, List.length_nil, List.replicate, List.cons_append, List.nil_append, List.append_nil, List.append_assoc, gs_same, gs_ne, gq_same, gq_ne, List.length_set, List.map_cons, List.map_nil, cellsOf, List.all_cons, List.all_nil, cellOk, boxTy, Bool.and_true, Bool.and_self, if_true, ite_true, ite_false, loadAt, storeAt, setAt, hget, hget0, hset, hset0, List.getElem?_cons_zero, List.getElem?_cons_succ, List.set_cons_zero, List.set_cons_succ, Nat.add_zero, Nat.zero_add, Nat.reduceAdd, Nat.reduceSub, Nat.reduceLeDiff, Nat.reduceLT, Nat.reduceEqDiff, Nat.le_refl, and_self, and_true, true_and, mkAgg, toIms, List.drop_zero, List.drop_succ_cons, List.take_succ_cons, List.take_zero, List.length_append, binBool, unA, Bool.false_eq_true, if_false, partA, fillA, fillE, List.take_nil, Nat.zero_ne_one, Nat.one_ne_zero, not_false_eq_true, ne_eq, Nat.succ_ne_self, reduceCtorEq, Int.reduceEq, Int.reduceLT, Int.reduceLE, decide_true, decide_false, lenA, beq_self_eq_true, beq_true, beq_false, Bool.not_true, Bool.not_false, b_lss, b_gtr, b_leq, b_geq, b_eql, b_neq, b_add, b_sub, b_mul, s_eql, s_neq, y_ops, y_nil, y_cons, y_guard, y_some, y_drop, y_do, y_not, y_not0, c_call, c_clo, c_move, c_pick, c_alloc, c_box, c_build, c_bslice, c_load, c_store, c_nilCheck, c_bin, c_binB, c_un, c_i2i, c_i2f, c_f2i, c_s2b, c_b2s, c_strId, c_mkfunc, c_mkslice, c_slice, c_sliceStr, c_fieldAddr, c_field, c_indexSl, c_indexArr, c_elemArr, c_indexStr, c_extract, c_lenStr, c_lenSl, c_append, c_real, c_imag, c_complex, c_min, c_max, c_clear, endK, resA, tupA, hlen, h0, h1]
  rw [hb _ _ (by simp only [List.length_set, hlen]) (by simp only [gs_same, gs_ne, List.length_set, Nat.reduceLT, Nat.reduceEqDiff, not_false_eq_true, hlen]; rfl) (by simp only [gs_same, gs_ne, List.length_set, Nat.reduceLT, Nat.reduceEqDiff, not_false_eq_true, hlen])]
  simp only [thenL, x_seq, x_block, x_skip, x_label, x_cond, x_exit, x_goto, x_ret, k_normal, k_exit, k_goto, k_ret, b_normal, b_exit, b_goto, b_ret, wantedA, aop, ev, putA, List.length_cons, List.length_nil, List.replicate, List.cons_append, List.nil_append, List.append_nil, List.append_assoc, gs_same, gs_ne, gq_same, gq_ne, List.length_set, List.map_cons, List.map_nil, cellsOf, List.all_cons, List.all_nil, cellOk, boxTy, Bool.and_true, Bool.and_self, if_true, ite_true, ite_false, loadAt, storeAt, setAt, hget, hget0, hset, hset0, List.getElem?_cons_zero, List.getElem?_cons_succ, List.set_cons_zero, List.set_cons_succ, Nat.add_zero, Nat.zero_add, Nat.reduceAdd, Nat.reduceSub, Nat.reduceLeDiff, Nat.reduceLT, Nat.reduceEqDiff, Nat.le_refl, and_self, and_true, true_and, mkAgg, toIms, List.drop_zero, List.drop_succ_cons, List.take_succ_cons, List.take_zero, List.length_append, binBool, unA, Bool.false_eq_true, if_false, partA, fillA, fillE, List.take_nil, Nat.zero_ne_one, Nat.one_ne_zero, not_false_eq_true, ne_eq, Nat.succ_ne_self, reduceCtorEq, Int.reduceEq, Int.reduceLT, Int.reduceLE, decide_true, decide_false, lenA, beq_self_eq_true, beq_true, beq_false, Bool.not_true, Bool.not_false, b_lss, b_gtr, b_leq, b_geq, b_eql, b_neq, b_add, b_sub, b_mul, s_eql, s_neq, y_ops, y_nil, y_cons, y_guard, y_some, y_drop, y_do, y_not, y_not0, c_call, c_clo, c_move, c_pick, c_alloc, c_box, c_build, c_bslice, c_load, c_store, c_nilCheck, c_bin, c_binB, c_un, c_i2i, c_i2f, c_f2i, c_s2b, c_b2s, c_strId, c_mkfunc, c_mkslice, c_slice, c_sliceStr, c_fieldAddr, c_field, c_indexSl, c_indexArr, c_elemArr, c_indexStr, c_extract, c_lenStr, c_lenSl, c_append, c_real, c_imag, c_complex, c_min, c_max, c_clear, endK, resA, tupA, hlen, h0, h1, h63', leave_app]

theorem s96 (b : List UInt8) (s p : Nat) (k : Int) (hs : b = [] ∨ s = 1) (hb : b.length ≤ 4611686018427387904) (H : Heap) :
    L 96 [.agg [.im (.int .i64 k), .im (.int .i64 0), .im (.str []), .im (.cpx .f64 0 0), .nils], .im (.sl s (bytesC b)), .im (.int .i64 (p : Int))] H =
      some (.tup [.im (.agg (encV (mkV (if (getT b (b.length + 1) p []).2.2 = 0 then k else 0) 0 (getT b (b.length + 1) p []).1 0 0 []))), .im (.int .i64 ((getT b (b.length + 1) p []).2.1 : Int)), .im (.int .i64 (getT b (b.length + 1) p []).2.2)], H) := by
  have key := l96 b s H.length k hs hb (b.length + 1) p []
  generalize getT b (b.length + 1) p [] = q at *
  obtain ⟨txt, p', e'⟩ := q
  simp only at key ⊢
  rw [leq F96]
  obtain ⟨hlen, ha⟩ := enter_at (f := f96) (args := [.agg [.im (.int .i64 k), .im (.int .i64 0), .im (.str []), .im (.cpx .f64 0 0), .nils], .im (.sl s (bytesC b)), .im (.int .i64 (p : Int))]) (Nat.le_of_ble_eq_true rfl)
  have h0 := ha 0 _ rfl
  have h1 := ha 1 _ rfl
  have h2 := ha 2 _ rfl
  have hK : ∀ (tm : List AV) (H' : Heap), tm.getD 6 undefA = .ptr (H.length + 1) 0 0 → tm.getD 7 undefA = .im (.int .i64 (p' : Int)) → tm.getD 8 undefA = .im (.int .i64 e') → H.length + 2 ≤ H'.length → (∀ i, i < H.length → H'[i]? = H[i]?) →
      H'[H.length + 1]? = some (.obj none [[.im (.int .i64 (if e' = 0 then k else 0)), .im (.int .i64 0), .im (.str txt), .im (.cpx .f64 0 0), .nils]]) →
      endK f96 H .ret tm H' = some (.tup [.im (.agg (encV (mkV (if e' = 0 then k else 0) 0 txt 0 0 []))), .im (.int .i64 (p' : Int)), .im (.int .i64 e')], H) := fun tm H' h6 h7 h8 hl hlow ho => by
    have hlv := leave_low (H := H) (H' := H') (r := .tup [.agg [.im (.int .i64 (if e' = 0 then k else 0)), .im (.int .i64 0), .im (.str txt), .im (.cpx .f64 0 0), .nils], .im (.int .i64 (p' : Int)), .im (.int .i64 e')]) (r' := .tup [.im (.agg (encV (mkV (if e' = 0 then k else 0) 0 txt 0 0 []))), .im (.int .i64 (p' : Int)), .im (.int .i64 e')]) (by simp [degrade, degrade1, toDat, toDats, mkV, encV, encVs]) (by simp [refsLt, refsLts]) (by omega) hlow
    simp only [f96, x_seq, x_block, x_skip, x_label, x_cond, x_exit, x_goto, x_ret, k_normal, k_exit, k_goto, k_ret, b_normal, b_exit, b_goto, b_ret, wantedA, aop, ev, putA, List.length_cons, List.length_nil, List.replicate, List.cons_append, List.nil_append, List.append_nil, List.append_assoc, gs_same, gs_ne, gq_same, gq_ne, List.length_set, List.map_cons, List.map_nil, cellsOf, List.all_cons, List.all_nil, cellOk, boxTy, Bool.and_true, Bool.and_self, if_true, ite_true, ite_false, loadAt, storeAt, setAt, hget, hget0, hset, hset0, List.getElem?_cons_zero, List.getElem?_cons_succ, List.set_cons_zero, List.set_cons_succ, Nat.add_zero, Nat.zero_add, Nat.reduceAdd, Nat.reduceSub, Nat.reduceLeDiff, Nat.reduceLT, Nat.reduceEqDiff, Nat.le_refl, and_self, and_true, true_and, mkAgg, toIms, List.drop_zero, List.drop_succ_cons, List.take_succ_cons, List.take_zero, List.length_append, binBool, unA, Bool.false_eq_true, if_false, partA, fillA, fillE, List.take_nil, Nat.zero_ne_one, Nat.one_ne_zero, not_false_eq_true, ne_eq, Nat.succ_ne_self, reduceCtorEq, Int.reduceEq, Int.reduceLT, Int.reduceLE, decide_true, decide_false, lenA, beq_self_eq_true, beq_true, beq_false, Bool.not_true, Bool.not_false, b_lss, b_gtr, b_leq, b_geq, b_eql, b_neq, b_add, b_sub, b_mul, s_eql, s_neq, y_ops, y_nil, y_cons, y_guard, y_some, y_drop, y_do, y_not, y_not0, c_call, c_clo, c_move, c_pick, c_alloc, c_box, c_build, c_bslice, c_load, c_store, c_nilCheck, c_bin, c_binB, c_un, c_i2i, c_i2f, c_f2i, c_s2b, c_b2s, c_strId, c_mkfunc, c_mkslice, c_slice, c_sliceStr, c_fieldAddr, c_field, c_indexSl, c_indexArr, c_elemArr, c_indexStr, c_extract, c_lenStr, c_lenSl, c_append, c_real, c_imag, c_complex, c_min, c_max, c_clear, endK, resA, tupA, h6, h7, h8, ho, hlv]
  have hcode : f96.code = f96.code := rfl
  conv at hcode => rhs; simp only [f96]
  rw [hcode]
  clear hcode
  generalize endK f96 H = K at *
  generalize enterA f96 [.agg [.im (.int .i64 k), .im (.int .i64 0), .im (.str []), .im (.cpx .f64 0 0), .nils], .im (.sl s (bytesC b)), .im (.int .i64 (p : Int))] = tm at *
  change tm.length = 74 at hlen
  simp only [e96_0, x_seq, x_block, x_skip, x_label, x_cond, x_exit, x_goto, x_ret, k_normal, k_exit, k_goto, k_ret, b_normal, b_exit, b_goto, b_ret, wantedA, aop, ev, putA, List.length_cons, List.length_nil, List.replicate, List.cons_append, List.nil_append, List.append_nil, List.append_assoc, gs_same, gs_ne, gq_same, gq_ne, List.length_set, List.map_cons, List.map_nil, cellsOf, List.all_cons, List.all_nil, cellOk, boxTy, Bool.and_true, Bool.and_self, if_true, ite_true, ite_false, loadAt, storeAt, setAt, hget, hget0, hset, hset0, List.getElem?_cons_zero, List.getElem?_cons_succ, List.set_cons_zero, List.set_cons_succ, Nat.add_zero, Nat.zero_add, Nat.reduceAdd, Nat.reduceSub, Nat.reduceLeDiff, Nat.reduceLT, Nat.reduceEqDiff, Nat.le_refl, and_self, and_true, true_and, mkAgg, toIms, List.drop_zero, List.drop_succ_cons, List.take_succ_cons, List.take_zero, List.length_append, binBool, unA, Bool.false_eq_true, if_false, partA, fillA, fillE, List.take_nil, Nat.zero_ne_one, Nat.one_ne_zero, not_false_eq_true, ne_eq, Nat.succ_ne_self, reduceCtorEq, Int.reduceEq, Int.reduceLT, Int.reduceLE, decide_true, decide_false, beq_self_eq_true, beq_true, beq_false, Bool.not_true, Bool.not_false, b_lss, b_gtr, b_leq, b_geq, b_eql, b_neq, b_add, b_sub, b_mul, s_eql, s_neq, y_ops, y_nil, y_cons, y_guard, y_some, y_drop, y_do, y_not, y_not0, c_call, c_clo, c_move, c_pick, c_alloc, c_box, c_build, c_bslice, c_load, c_store, c_nilCheck, c_bin, c_binB, c_un, c_i2i, c_i2f, c_f2i, c_s2b, c_b2s, c_strId, c_mkfunc, c_mkslice, c_slice, c_sliceStr, c_fieldAddr, c_field, c_indexSl, c_indexArr, c_elemArr, c_indexStr, c_extract, c_lenStr, c_lenSl, c_append, c_real, c_imag, c_complex, c_min, c_max, c_clear, hlen, h0, h1, h2]
  generalize hr : thenL _ _ = r'
  refine Exists.elim (thenL_inv hr (key _ (H ++ [HO.obj none [[.im (.int .i64 k), .im (.int .i64 0), .im (.str []), .im (.cpx .f64 0 0), .nils]], HO.obj none [[.im (.int .i64 0), .im (.int .i64 0), .im (.str []), .im (.cpx .f64 0 0), .nils]]]) .nils (.im (.int .i64 0)) (.im (.int .i64 0)) (.im (.str [])) (.im (.cpx .f64 0 0)) .nils (by omega) (by simp) ?_ ?_ ?_ ?_ ?_ ?_ (.inl ⟨rfl, rfl⟩) (by simp) ?_ ?_)) ?_
  iterate 6 simp only [gs_same, gs_ne, List.length_set, Nat.reduceLT, Nat.reduceEqDiff, not_false_eq_true, hlen, h1, h2]
  · rw [hget0]; rfl
  · rw [hget]; rfl
  clear hr key
  rintro e ⟨tm1, H1, ⟨hl1, g6, hlow, hl, hm⟩, rfl⟩
  have hlow' : ∀ i, i < H.length → H1[i]? = H[i]? := fun i hi => by rw [hlow i hi, List.getElem?_append_left hi]
  rcases hm with ⟨rfl, rfl, rfl, g2, ho⟩ | ⟨rfl, g7, g8, ho⟩
  · simp only [x_seq, x_block, x_skip, x_label, x_cond, x_exit, x_goto, x_ret, k_normal, k_exit, k_goto, k_ret, b_normal, b_exit, b_goto, b_ret, wantedA, aop, ev, putA, List.length_cons, List.length_nil, List.replicate, List.cons_append, List.nil_append, List.append_nil, List.append_assoc, gs_same, gs_ne, gq_same, gq_ne, List.length_set, List.map_cons, List.map_nil, cellsOf, List.all_cons, List.all_nil, cellOk, boxTy, Bool.and_true, Bool.and_self, if_true, ite_true, ite_false, loadAt, storeAt, setAt, hget, hget0, hset, hset0, List.getElem?_cons_zero, List.getElem?_cons_succ, List.set_cons_zero, List.set_cons_succ, Nat.add_zero, Nat.zero_add, Nat.reduceAdd, Nat.reduceSub, Nat.reduceLeDiff, Nat.reduceLT, Nat.reduceEqDiff, Nat.le_refl, and_self, and_true, true_and, mkAgg, toIms, List.drop_zero, List.drop_succ_cons, List.take_succ_cons, List.take_zero, List.length_append, binBool, unA, Bool.false_eq_true, if_false, partA, fillA, fillE, List.take_nil, Nat.zero_ne_one, Nat.one_ne_zero, not_false_eq_true, ne_eq, Nat.succ_ne_self, reduceCtorEq, Int.reduceEq, Int.reduceLT, Int.reduceLE, decide_true, decide_false, beq_self_eq_true, beq_true, beq_false, Bool.not_true, Bool.not_false, b_lss, b_gtr, b_leq, b_geq, b_eql, b_neq, b_add, b_sub, b_mul, s_eql, s_neq, y_ops, y_nil, y_cons, y_guard, y_some, y_drop, y_do, y_not, y_not0, c_call, c_clo, c_move, c_pick, c_alloc, c_box, c_build, c_bslice, c_load, c_store, c_nilCheck, c_bin, c_binB, c_un, c_i2i, c_i2f, c_f2i, c_s2b, c_b2s, c_strId, c_mkfunc, c_mkslice, c_slice, c_sliceStr, c_fieldAddr, c_field, c_indexSl, c_indexArr, c_elemArr, c_indexStr, c_extract, c_lenStr, c_lenSl, c_append, c_real, c_imag, c_complex, c_min, c_max, c_clear, hl1, g6, g2, ho]
    exact hK _ _ (by simp only [gs_same, gs_ne, List.length_set, Nat.reduceLT, Nat.reduceEqDiff, not_false_eq_true, hl1, g6]) (by simp only [gs_same, gs_ne, List.length_set, Nat.reduceLT, Nat.reduceEqDiff, not_false_eq_true, hl1]) (by simp only [gs_same, gs_ne, List.length_set, Nat.reduceLT, Nat.reduceEqDiff, not_false_eq_true, hl1]) (by simpa using hl) (fun i hi => by rw [List.getElem?_set_ne (by omega)]; exact hlow' i hi) (by rw [List.getElem?_set_self (by omega)]; rfl)
  · exact hK _ _ g6 g7 g8 hl hlow' ho

end Go.Abs.Seat
end
section
set_option linter.unusedVariables false
set_option linter.unusedSimpArgs false
/- Functions cut along their spine. -/
set_option linter.unusedVariables false
namespace Go.Abs.Seat
open Go.Proofs
def q66_4 : ACode := .ret
def q66_3 : ACode := .seq (.ops [⟨(some 106), (.load (some 5) (.t 5)), none⟩, ⟨none, (.store 5 (.t 4) (.t 106)), none⟩] []) q66_4
def q66_2 : ACode := .seq (.seq (.ops [⟨(some 12), (.fieldAddr 0 (.t 3)), none⟩, ⟨(some 13), (.load none (.t 12)), none⟩] []) (.block 0 (.seq (.ops [⟨(some 15), (.bin .eql (.t 13) (.c (.im (.int .i64 1)))), none⟩, ⟨(some 14), (.move (.t 15)), none⟩] []) (.cond (.t 14) (.ops [⟨(some 16), (.move (.t 0)), none⟩, ⟨(some 17), (.call (.c (.clo 92 [])) [(.t 16), (.c (.im (.int .u8 1)))]), none⟩, ⟨(some 18), (.i2i .i64 (.t 17)), none⟩, ⟨(some 19), (.fieldAddr 1 (.t 5)), none⟩, ⟨none, (.store 1 (.t 19) (.t 18)), none⟩] []) (.seq (.ops [⟨(some 21), (.bin .eql (.t 13) (.c (.im (.int .i64 2)))), none⟩, ⟨(some 20), (.move (.t 21)), none⟩] []) (.cond (.t 20) (.seq (.ops [⟨(some 6), (.move (.c (.im (.int .u64 0)))), none⟩] []) (.seq (.seq (.ops [⟨(some 22), (.move (.c (.im (.int .i64 0)))), none⟩] []) (.block 1 c66_1)) (.ops [⟨(some 31), (.move (.t 6)), none⟩, ⟨(some 32), (.bin .xor (.t 31) (.c (.im (.int .u64 9223372036854775808)))), none⟩, ⟨(some 33), (.i2i .i64 (.t 32)), none⟩, ⟨(some 34), (.fieldAddr 1 (.t 5)), none⟩, ⟨none, (.store 1 (.t 34) (.t 33)), none⟩] []))) (.seq (.seq (.ops [⟨(some 36), (.bin .eql (.t 13) (.c (.im (.int .i64 3)))), none⟩, ⟨(some 35), (.move (.t 36)), none⟩] []) (.cond (.t 35) .skip (.ops [⟨(some 37), (.bin .eql (.t 13) (.c (.im (.int .i64 4)))), none⟩, ⟨(some 35), (.move (.t 37)), none⟩] []))) (.cond (.t 35) (.ops [⟨(some 38), (.move (.t 0)), none⟩, ⟨(some 39), (.call (.c (.clo 93 [])) [(.t 38)]), none⟩, ⟨(some 40), (.fieldAddr 2 (.t 5)), none⟩, ⟨none, (.store 1 (.t 40) (.t 39)), none⟩] []) (.seq (.ops [⟨(some 42), (.bin .eql (.t 13) (.c (.im (.int .i64 5)))), none⟩, ⟨(some 41), (.move (.t 42)), none⟩] []) (.cond (.t 41) (.seq (.ops [⟨(some 43), (.move (.t 0)), none⟩, ⟨(some 44), (.call (.c (.clo 94 [])) [(.t 43)]), none⟩, ⟨(some 7), (.move (.t 44)), none⟩] []) (.ops [⟨(some 45), (.move (.t 7)), none⟩, ⟨(some 46), (.move (.t 0)), none⟩, ⟨(some 47), (.call (.c (.clo 94 [])) [(.t 46)]), none⟩, ⟨(some 48), (.call (.c (.clo 24 [])) [(.t 45), (.t 47)]), none⟩, ⟨none, (.store 5 (.t 5) (.t 48)), none⟩] [])) (.seq (.ops [⟨(some 50), (.bin .eql (.t 13) (.c (.im (.int .i64 6)))), none⟩, ⟨(some 49), (.move (.t 50)), none⟩] []) (.cond (.t 49) (.seq (.ops [⟨(some 51), (.move (.t 0)), none⟩, ⟨(some 52), (.fieldAddr 1 (.t 3)), none⟩, ⟨(some 53), (.load none (.t 52)), none⟩, ⟨(some 54), (.indexSl 2 (.t 53) (.c (.im (.int .i64 0)))), none⟩, ⟨(some 55), (.load (some 2) (.t 54)), none⟩, ⟨(some 56), (.call (.c (.clo 66 [])) [(.t 51), (.t 55)]), none⟩, ⟨(some 8), (.alloc none [(.im (.int .i64 0)), (.im (.int .i64 0)), (.im (.str [])), (.im (.cpx .f64 0 0)), .nils]), none⟩, ⟨none, (.store 5 (.t 8) (.t 56)), none⟩] []) (.ops [⟨(some 57), (.load (some 5) (.t 8)), none⟩, ⟨(some 58), (.move (.t 0)), none⟩, ⟨(some 59), (.fieldAddr 1 (.t 3)), none⟩, ⟨(some 60), (.load none (.t 59)), none⟩, ⟨(some 61), (.indexSl 2 (.t 60) (.c (.im (.int .i64 1)))), none⟩, ⟨(some 62), (.load (some 2) (.t 61)), none⟩, ⟨(some 63), (.call (.c (.clo 66 [])) [(.t 58), (.t 62)]), none⟩, ⟨(some 64), (.bslice false 5 2 [(.im (.int .i64 0)), (.im (.int .i64 0)), (.im (.str [])), (.im (.cpx .f64 0 0)), .nils] [(0, (.t 57)), (1, (.t 63))]), none⟩, ⟨(some 65), (.fieldAddr 4 (.t 5)), none⟩, ⟨none, (.store 1 (.t 65) (.t 64)), none⟩] [(0, 6)])) (.seq (.ops [⟨(some 67), (.bin .eql (.t 13) (.c (.im (.int .i64 7)))), none⟩, ⟨(some 66), (.move (.t 67)), none⟩] []) (.cond (.t 66) (.block 3 c66_0) (.seq (.ops [⟨(some 90), (.bin .eql (.t 13) (.c (.im (.int .i64 9)))), none⟩, ⟨(some 89), (.move (.t 90)), none⟩] []) (.cond (.t 89) (.seq (.ops [⟨(some 91), (.move (.t 0)), none⟩, ⟨(some 92), (.fieldAddr 1 (.t 3)), none⟩, ⟨(some 93), (.load none (.t 92)), none⟩, ⟨(some 94), (.indexSl 2 (.t 93) (.c (.im (.int .i64 0)))), none⟩, ⟨(some 95), (.load (some 2) (.t 94)), none⟩, ⟨(some 96), (.call (.c (.clo 95 [])) [(.t 91), (.t 95), (.c (.im (.int .i64 1)))]), none⟩] []) (.cond (.t 96) (.ops [⟨(some 97), (.move (.t 0)), none⟩, ⟨(some 98), (.fieldAddr 1 (.t 3)), none⟩, ⟨(some 99), (.load none (.t 98)), none⟩, ⟨(some 100), (.indexSl 2 (.t 99) (.c (.im (.int .i64 0)))), none⟩, ⟨(some 101), (.load (some 2) (.t 100)), none⟩, ⟨(some 102), (.call (.c (.clo 66 [])) [(.t 97), (.t 101)]), none⟩, ⟨(some 103), (.bslice false 5 1 [(.im (.int .i64 0)), (.im (.int .i64 0)), (.im (.str [])), (.im (.cpx .f64 0 0)), .nils] [(0, (.t 102))]), none⟩, ⟨(some 104), (.fieldAddr 4 (.t 5)), none⟩, ⟨none, (.store 1 (.t 104) (.t 103)), none⟩] []) (.ops [⟨(some 105), (.fieldAddr 0 (.t 5)), none⟩, ⟨none, (.store 1 (.t 105) (.c (.im (.int .i64 8)))), none⟩] []))) .skip)))))))))))))))) q66_3
def q66_1 : ACode := .seq (.ops [⟨(some 9), (.fieldAddr 0 (.t 3)), none⟩, ⟨(some 10), (.load none (.t 9)), none⟩, ⟨(some 11), (.build [(.im (.int .i64 0)), (.im (.int .i64 0)), (.im (.str [])), (.im (.cpx .f64 0 0)), .nils] [(0, (1, (.t 10)))]), none⟩, ⟨(some 5), (.alloc none [(.im (.int .i64 0)), (.im (.int .i64 0)), (.im (.str [])), (.im (.cpx .f64 0 0)), .nils]), none⟩, ⟨none, (.store 5 (.t 5) (.t 11)), none⟩] []) q66_2
theorem f66_q : f66 = ⟨107, [(4, (some (some 5)))], .seq (.ops [⟨(some 3), (.box none (.t 1)), none⟩, ⟨(some 4), (.alloc none [(.im (.int .i64 0)), (.im (.int .i64 0)), (.im (.str [])), (.im (.cpx .f64 0 0)), .nils]), none⟩] []) q66_1, false⟩ := rfl
def q68_3 : ACode := (.block 7 c68_0)
def q68_2 : ACode := .seq (.seq (.ops [⟨(some 26), (.fieldAddr 0 (.t 4)), none⟩, ⟨(some 27), (.load none (.t 26)), none⟩] []) (.block 0 (.seq (.ops [⟨(some 29), (.bin .eql (.t 27) (.c (.im (.int .i64 1)))), none⟩, ⟨(some 28), (.move (.t 29)), none⟩] []) (.cond (.t 28) (.seq (.seq (.ops [⟨(some 30), (.move (.t 2)), none⟩, ⟨(some 31), (.move (.t 1)), none⟩, ⟨(some 32), (.lenSl (.t 31)), none⟩, ⟨(some 33), (.bin .geq (.t 30) (.t 32)), none⟩] []) (.cond (.t 33) (.seq (.ops [⟨(some 34), (.build [(.im (.int .i64 0)), (.im (.int .i64 0)), (.im (.str [])), (.im (.cpx .f64 0 0)), .nils] []), none⟩, ⟨(some 35), (.move (.t 2)), none⟩, ⟨none, (.store 5 (.t 8) (.t 34)), none⟩, ⟨(some 9), (.move (.t 35)), none⟩, ⟨(some 10), (.move (.c (.im (.int .i64 30)))), none⟩] []) .ret) .skip)) (.seq (.seq (.ops [⟨(some 36), (.move (.t 1)), none⟩, ⟨(some 37), (.move (.t 2)), none⟩, ⟨(some 38), (.indexSl 1 (.t 36) (.t 37)), none⟩, ⟨(some 39), (.load none (.t 38)), none⟩, ⟨(some 40), (.bin .gtr (.t 39) (.c (.im (.int .u8 1)))), none⟩] []) (.cond (.t 40) (.seq (.ops [⟨(some 41), (.build [(.im (.int .i64 0)), (.im (.int .i64 0)), (.im (.str [])), (.im (.cpx .f64 0 0)), .nils] []), none⟩, ⟨(some 42), (.move (.t 2)), none⟩, ⟨none, (.store 5 (.t 8) (.t 41)), none⟩, ⟨(some 9), (.move (.t 42)), none⟩, ⟨(some 10), (.move (.c (.im (.int .i64 31)))), none⟩] []) .ret) .skip)) (.seq (.ops [⟨(some 43), (.move (.t 1)), none⟩, ⟨(some 44), (.move (.t 2)), none⟩, ⟨(some 45), (.indexSl 1 (.t 43) (.t 44)), none⟩, ⟨(some 46), (.load none (.t 45)), none⟩, ⟨(some 47), (.i2i .i64 (.t 46)), none⟩, ⟨(some 48), (.fieldAddr 1 (.t 11)), none⟩, ⟨none, (.store 1 (.t 48) (.t 47)), none⟩] []) (.seq (.ops [⟨(some 49), (.load (some 5) (.t 11)), none⟩, ⟨(some 50), (.move (.t 2)), none⟩, ⟨(some 51), (.bin .add (.t 50) (.c (.im (.int .i64 1)))), none⟩, ⟨none, (.store 5 (.t 8) (.t 49)), none⟩, ⟨(some 9), (.move (.t 51)), none⟩, ⟨(some 10), (.move (.c (.im (.int .i64 0)))), none⟩] []) .ret)))) (.seq (.ops [⟨(some 53), (.bin .eql (.t 27) (.c (.im (.int .i64 2)))), none⟩, ⟨(some 52), (.move (.t 53)), none⟩] []) (.cond (.t 52) (.seq (.seq (.ops [⟨(some 54), (.move (.t 1)), none⟩, ⟨(some 55), (.lenSl (.t 54)), none⟩, ⟨(some 56), (.move (.t 2)), none⟩, ⟨(some 57), (.bin .sub (.t 55) (.t 56)), none⟩, ⟨(some 58), (.bin .lss (.t 57) (.c (.im (.int .i64 8)))), none⟩] []) (.cond (.t 58) (.seq (.ops [⟨(some 59), (.build [(.im (.int .i64 0)), (.im (.int .i64 0)), (.im (.str [])), (.im (.cpx .f64 0 0)), .nils] []), none⟩, ⟨(some 60), (.move (.t 1)), none⟩, ⟨(some 61), (.lenSl (.t 60)), none⟩, ⟨none, (.store 5 (.t 8) (.t 59)), none⟩, ⟨(some 9), (.move (.t 61)), none⟩, ⟨(some 10), (.move (.c (.im (.int .i64 30)))), none⟩] []) .ret) .skip)) (.seq (.ops [⟨(some 12), (.move (.c (.im (.int .u64 0)))), none⟩] []) (.seq (.seq (.ops [⟨(some 13), (.move (.c (.im (.int .i64 0)))), none⟩] []) (.block 1 c68_3)) (.seq (.ops [⟨(some 76), (.move (.t 12)), none⟩, ⟨(some 77), (.bin .sub (.t 76) (.c (.im (.int .u64 9223372036854775808)))), none⟩, ⟨(some 78), (.i2i .i64 (.t 77)), none⟩, ⟨(some 79), (.fieldAddr 1 (.t 11)), none⟩, ⟨none, (.store 1 (.t 79) (.t 78)), none⟩] []) (.seq (.ops [⟨(some 80), (.load (some 5) (.t 11)), none⟩, ⟨(some 81), (.move (.t 2)), none⟩, ⟨(some 82), (.bin .add (.t 81) (.c (.im (.int .i64 8)))), none⟩, ⟨none, (.store 5 (.t 8) (.t 80)), none⟩, ⟨(some 9), (.move (.t 82)), none⟩, ⟨(some 10), (.move (.c (.im (.int .i64 0)))), none⟩] []) .ret))))) (.seq (.seq (.ops [⟨(some 84), (.bin .eql (.t 27) (.c (.im (.int .i64 3)))), none⟩, ⟨(some 83), (.move (.t 84)), none⟩] []) (.cond (.t 83) .skip (.ops [⟨(some 85), (.bin .eql (.t 27) (.c (.im (.int .i64 4)))), none⟩, ⟨(some 83), (.move (.t 85)), none⟩] []))) (.cond (.t 83) (.seq (.ops [⟨(some 86), (.load (some 5) (.t 11)), none⟩, ⟨(some 87), (.move (.t 1)), none⟩, ⟨(some 88), (.move (.t 2)), none⟩, ⟨(some 89), (.call (.c (.clo 96 [])) [(.t 86), (.t 87), (.t 88)]), none⟩, ⟨(some 90), (.extract 0 (.t 89)), none⟩, ⟨(some 91), (.extract 1 (.t 89)), none⟩, ⟨(some 92), (.extract 2 (.t 89)), none⟩, ⟨none, (.store 5 (.t 8) (.t 90)), none⟩, ⟨(some 9), (.move (.t 91)), none⟩, ⟨(some 10), (.move (.t 92)), none⟩] []) .ret) (.seq (.ops [⟨(some 94), (.bin .eql (.t 27) (.c (.im (.int .i64 5)))), none⟩, ⟨(some 93), (.move (.t 94)), none⟩] []) (.cond (.t 93) (.seq (.ops [⟨(some 14), (.alloc none [(.im (.int .i64 0)), (.im (.int .i64 0))]), none⟩] []) (.seq (.seq (.ops [⟨(some 15), (.move (.c (.im (.int .i64 0)))), none⟩] []) (.block 3 c68_2)) (.seq (.ops [⟨(some 146), (.indexArr 2 1 (.t 14) (.c (.im (.int .i64 0)))), none⟩, ⟨(some 147), (.load none (.t 146)), none⟩, ⟨(some 148), (.indexArr 2 1 (.t 14) (.c (.im (.int .i64 1)))), none⟩, ⟨(some 149), (.load none (.t 148)), none⟩, ⟨(some 150), (.call (.c (.clo 97 [])) [(.t 147), (.t 149)]), none⟩, ⟨(some 151), (.move (.t 2)), none⟩, ⟨none, (.store 5 (.t 8) (.t 150)), none⟩, ⟨(some 9), (.move (.t 151)), none⟩, ⟨(some 10), (.move (.c (.im (.int .i64 0)))), none⟩] []) .ret))) (.seq (.ops [⟨(some 153), (.bin .eql (.t 27) (.c (.im (.int .i64 6)))), none⟩, ⟨(some 152), (.move (.t 153)), none⟩] []) (.cond (.t 152) (.seq (.seq (.ops [⟨(some 16), (.move (.c (.im (.int .i64 0)))), none⟩] []) (.block 5 c68_1)) (.seq (.ops [⟨(some 183), (.load (some 5) (.t 11)), none⟩, ⟨(some 184), (.move (.t 2)), none⟩, ⟨none, (.store 5 (.t 8) (.t 183)), none⟩, ⟨(some 9), (.move (.t 184)), none⟩, ⟨(some 10), (.move (.c (.im (.int .i64 0)))), none⟩] []) .ret)) .skip)))))))))))) q68_3
def q68_1 : ACode := .seq (.ops [⟨(some 23), (.fieldAddr 0 (.t 4)), none⟩, ⟨(some 24), (.load none (.t 23)), none⟩, ⟨(some 25), (.build [(.im (.int .i64 0)), (.im (.int .i64 0)), (.im (.str [])), (.im (.cpx .f64 0 0)), .nils] [(0, (1, (.t 24)))]), none⟩, ⟨(some 11), (.alloc none [(.im (.int .i64 0)), (.im (.int .i64 0)), (.im (.str [])), (.im (.cpx .f64 0 0)), .nils]), none⟩, ⟨none, (.store 5 (.t 11) (.t 25)), none⟩] []) q68_2
theorem f68_q : f68 = ⟨268, [(8, (some (some 5))), (9, none), (10, none)], .seq (.ops [⟨(some 4), (.box none (.t 0)), none⟩, ⟨(some 8), (.alloc none [(.im (.int .i64 0)), (.im (.int .i64 0)), (.im (.str [])), (.im (.cpx .f64 0 0)), .nils]), none⟩, ⟨(some 9), (.move (.c (.im (.int .i64 0)))), none⟩, ⟨(some 10), (.move (.c (.im (.int .i64 0)))), none⟩] []) q68_1, false⟩ := rfl
end Go.Abs.Seat
end
section
set_option linter.unusedVariables false
set_option linter.unusedSimpArgs false
/- What the coder's functions come to: what is read of a type, and the loops by which it is read. -/
set_option linter.unusedVariables false
set_option linter.unusedSimpArgs false
namespace Go.Abs.Seat
open Go.Proofs

/-! ### what is read -/

def read8 (b : List UInt8) : Nat → RS → Nat → Nat × RS
  | 0, r, n => (n, r)
  | m + 1, r, n => read8 b m (oneR b r 255).2 ((n * 256 % 18446744073709551616) ||| (oneR b r 255).1.toNat)

def intOf (n : Nat) : Int := IntKind.i64.wrap ((n ^^^ 9223372036854775808 : Nat) : Int)

def listR (f : RS → VT × RS) (b : List UInt8) (l : Int) : Nat → RS → List VT → List VT × RS
  | 0, r, out => (out, (moreR b r l 0).2)
  | m + 1, r, out => if (moreR b r l (m + 1)).1 = true then listR f b l m (f (moreR b r l (m + 1)).2).2 (out ++ [(f (moreR b r l (m + 1)).2).1]) else (out, (moreR b r l (m + 1)).2)

/-- What the coder reads of a type. -/
def readV (b : List UInt8) : Nat → KT → RS → VT × RS
  | 0, _, r => (zeroV, r)
  | d + 1, .mk k _ args, r =>
    if k = 1 then (mkV 1 ((oneR b r 1).1.toNat : Int) [] 0 0 [], (oneR b r 1).2)
    else if k = 2 then (mkV 2 (intOf (read8 b 8 r 0).1) [] 0 0 [], (read8 b 8 r 0).2)
    else if k = 3 ∨ k = 4 then (mkV k 0 (textR b (b.length + 1) r []).1 0 0 [], (textR b (b.length + 1) r []).2)
    else if k = 5 then (pointV (partR b r).1 (partR b (partR b r).2).1, (partR b (partR b r).2).2)
    else if k = 6 then match args with
      | [x, y] => (mkV 6 0 [] 0 0 [(readV b d x r).1, (readV b d y (readV b d x r).2).1], (readV b d y (readV b d x r).2).2)
      | _ => (zeroV, r)
    else if k = 7 then match args with
      | [x] => (mkV 7 0 [] 0 0 (listR (readV b d x) b (leastT x) 64 r []).1, (listR (readV b d x) b (leastT x) 64 r []).2)
      | _ => (zeroV, r)
    else if k = 9 then match args with
      | [x] => if (moreR b r (leastT x) 1).1 = true then (mkV 9 0 [] 0 0 [(readV b d x (moreR b r (leastT x) 1).2).1], (readV b d x (moreR b r (leastT x) 1).2).2) else (mkV 8 0 [] 0 0 [], (moreR b r (leastT x) 1).2)
      | _ => (zeroV, r)
    else (mkV k 0 [] 0 0 [], r)

/-! ### states that are well -/

def goodR (b : List UInt8) (r : RS) : Prop := r.p ≤ b.length ∧ 0 ≤ r.z ∧ r.z ≤ 2729 ∧ (r.e = 0 → r.z ≤ 2000)

theorem good_one {b : List UInt8} {r : RS} {m : Nat} (h : goodR b r) : goodR b (oneR b r m).2 := by
  obtain ⟨h1, h2, h3, h4⟩ := h
  obtain ⟨p1, _, z1, _, _⟩ := oneR_p (m := m) h1
  refine ⟨p1, by omega, by omega, ?_⟩
  rw [z1]
  unfold oneR
  split
  · rename_i he
    exact fun _ => h4 he
  · exact h4
theorem good_refuse {b : List UInt8} {r : RS} (h : goodR b r) : goodR b (refuseR r) := by
  obtain ⟨h1, h2, h3, h4⟩ := h
  unfold refuseR
  split
  · exact ⟨by simp only; omega, h2, h3, by simp⟩
  · exact ⟨h1, h2, h3, h4⟩
theorem good_text {b : List UInt8} : ∀ (f : Nat) {r : RS} {out : List UInt8}, goodR b r → goodR b (textR b f r out).2
  | 0, r, out, h => h
  | f + 1, r, out, h => by
    have h1 := good_one (m := 255) h
    have h2 := good_one (m := 255) h1
    simp only [textR]
    have hx : goodR b (if out.length = 256 then refuseR (oneR b r 255).2 else (oneR b r 255).2) := by
      split
      · exact good_refuse h1
      · exact h1
    have hy : goodR b (if (oneR b (oneR b r 255).2 255).1 ≠ 255 ∨ out.length = 256 then refuseR (oneR b (oneR b r 255).2 255).2 else (oneR b (oneR b r 255).2 255).2) := by
      split
      · exact good_refuse h2
      · exact h2
    generalize (if out.length = 256 then refuseR (oneR b r 255).2 else (oneR b r 255).2) = x at *
    generalize (if (oneR b (oneR b r 255).2 255).1 ≠ 255 ∨ out.length = 256 then refuseR (oneR b (oneR b r 255).2 255).2 else (oneR b (oneR b r 255).2 255).2) = y at *
    split
    · split
      · exact good_text f hx
      · exact hx
    · split
      · exact h2
      · split
        · exact good_text f hy
        · exact hy
theorem good_part {b : List UInt8} {r : RS} (h : goodR b r) : goodR b (partR b r).2 := good_one (good_one (good_one h))
theorem good_read8 {b : List UInt8} : ∀ (m : Nat) {r : RS} {n : Nat}, goodR b r → goodR b (read8 b m r n).2
  | 0, _, _, h => h
  | m + 1, _, _, h => good_read8 m (good_one h)
theorem part_le {b : List UInt8} {r : RS} (h : goodR b r) : -1048576 ≤ (partR b r).1 ∧ (partR b r).1 < 1048576 := by
  have h1 := oneR_p (b := b) (r := r) (m := 31) h.1
  have h2 := oneR_p (b := b) (r := (oneR b r 31).2) (m := 255) h1.1
  have h3 := oneR_p (b := b) (r := (oneR b (oneR b r 31).2 255).2) (m := 255) h2.1
  unfold partR
  have := h1.2.2.2.1
  have := h2.2.2.2.1
  have := h3.2.2.2.1
  simp only
  omega
theorem good_more {b : List UInt8} {r : RS} {l : Int} {m : Nat} (h : goodR b r) (hl : 1 ≤ l ∧ l ≤ 729) : goodR b (moreR b r l m).2 ∧ ((moreR b r l m).1 = true → 1 ≤ m ∧ (moreR b r l m).2.e = 0) := by
  obtain ⟨h1, h2, h3, h4⟩ := good_one (m := 1) h
  obtain ⟨_, _, _, _, e1⟩ := oneR_p (b := b) (r := r) (m := 1) h.1
  unfold moreR
  split
  · exact ⟨⟨h1, h2, h3, h4⟩, by simp⟩
  · rename_i hv
    have h5 := h4 (e1 hv).2.1
    split
    · exact ⟨⟨by simp only; omega, by simp only; omega, by simp only; omega, by simp⟩, by simp⟩
    · rename_i hc
      refine ⟨⟨h1, by simp only; omega, by simp only; omega, fun _ => by simp only; omega⟩, fun _ => ⟨by omega, rfl⟩⟩
theorem good_list {b : List UInt8} {f : RS → VT × RS} {l : Int} (hl : 1 ≤ l ∧ l ≤ 729) (hf : ∀ r, goodR b r → goodR b (f r).2) : ∀ (m : Nat) {r : RS} {out : List VT}, goodR b r → goodR b (listR f b l m r out).2
  | 0, _, _, h => (good_more h hl).1
  | m + 1, r, out, h => by
    simp only [listR]
    split
    · exact good_list hl hf m (hf _ (good_more h hl).1)
    · exact (good_more h hl).1

/-! ### eight bytes -/

theorem b_xoru (x y : Nat) (hx : x < 18446744073709551616) (hy : y < 18446744073709551616) : binA .xor (.im (.int .u64 (x : Int))) (.im (.int .u64 (y : Int))) = some (.im (.int .u64 ((x ^^^ y : Nat) : Int))) := by
  have h : (BitVec.ofInt IntKind.u64.bits (x : Int) ^^^ BitVec.ofInt IntKind.u64.bits (y : Int)).toNat = x ^^^ y := by
    rw [BitVec.ofInt_natCast, BitVec.ofInt_natCast, BitVec.toNat_xor, BitVec.toNat_ofNat, BitVec.toNat_ofNat, Nat.mod_eq_of_lt, Nat.mod_eq_of_lt]
    · exact hy
    · exact hx
  have hlt : x ^^^ y < 2 ^ 64 := Nat.xor_lt_two_pow hx hy
  simp only [binA, isShift, Bool.false_eq_true, if_false, if_true, binInt, h]
  rw [wrap_u64, Nat.mod_eq_of_lt hlt]

theorem read8_lt {b : List UInt8} : ∀ (m : Nat) {r : RS} {n : Nat}, n < 18446744073709551616 → (read8 b m r n).1 < 18446744073709551616
  | 0, _, _, h => h
  | m + 1, r, n, h => by
    refine read8_lt m ?_
    exact Nat.or_lt_two_pow (n := 64) (Nat.mod_lt _ (by decide)) (by have := (oneR b r 255).1.toNat_lt; omega)

theorem l66_8 (b : List UInt8) (s ir : Nat) (hs : b = [] ∨ s = 1) (hb : b.length ≤ 4611686018427387904) :
    ∀ (m i : Nat), i + m = 8 → ∀ (r : RS) (n : Nat) (tm : List AV) (H : Heap), r.p ≤ b.length → n < 18446744073709551616 → tm.length = 107 → tm.getD 0 undefA = .ptr ir 0 0 → tm.getD 6 undefA = .im (.int .u64 (n : Int)) → tm.getD 22 undefA = .im (.int .i64 (i : Int)) → H[ir]? = some (objC s b r) →
    ∃ e tm' H', Λ c66_1 tm H = some (e, tm', H') ∧ e = .exit 1 ∧ tm'.length = 107 ∧ tm'.getD 4 undefA = tm.getD 4 undefA ∧ tm'.getD 5 undefA = tm.getD 5 undefA ∧ tm'.getD 6 undefA = .im (.int .u64 ((read8 b m r n).1 : Int)) ∧ H' = H.set ir (objC s b (read8 b m r n).2)
  | 0, i, hi, r, n, tm, H, hp, hn, hlen, h0, h6, h22, hir => by
    have hc : decide ((i : Int) < 8) = false := decide_eq_false (by omega)
    rw [l66_1]
    simp only [b66_1, x_seq, x_block, x_skip, x_label, x_cond, x_exit, x_goto, x_ret, k_normal, k_exit, k_goto, k_ret, b_normal, b_exit, b_goto, b_ret, wantedA, aop, ev, putA, List.length_cons, List.length_nil, List.replicate, List.cons_append, List.nil_append, List.append_nil, List.append_assoc, gs_same, gs_ne, gq_same, gq_ne, List.length_set, List.map_cons, List.map_nil, cellsOf, List.all_cons, List.all_nil, cellOk, boxTy, Bool.and_true, Bool.and_self, if_true, ite_true, ite_false, loadAt, storeAt, setAt, hget, hget0, hset, hset0, List.getElem?_cons_zero, List.getElem?_cons_succ, List.set_cons_zero, List.set_cons_succ, Nat.add_zero, Nat.zero_add, Nat.reduceAdd, Nat.reduceSub, Nat.reduceLeDiff, Nat.reduceLT, Nat.reduceEqDiff, Nat.le_refl, and_self, and_true, true_and, mkAgg, toIms, List.drop_zero, List.drop_succ_cons, List.take_succ_cons, List.take_zero, List.length_append, binBool, unA, Bool.false_eq_true, if_false, partA, fillA, fillE, List.take_nil, Nat.zero_ne_one, Nat.one_ne_zero, not_false_eq_true, ne_eq, Nat.succ_ne_self, reduceCtorEq, Int.reduceEq, Int.reduceLT, Int.reduceLE, decide_true, decide_false, beq_self_eq_true, beq_true, beq_false, Bool.not_true, Bool.not_false, b_lss, b_gtr, b_leq, b_geq, b_eql, b_neq, b_add, b_sub, b_mul, s_eql, s_neq, y_ops, y_nil, y_cons, y_guard, y_some, y_drop, y_do, y_not, y_not0, c_call, c_clo, c_move, c_pick, c_alloc, c_box, c_build, c_bslice, c_load, c_store, c_nilCheck, c_bin, c_binB, c_un, c_i2i, c_i2f, c_f2i, c_s2b, c_b2s, c_strId, c_mkfunc, c_mkslice, c_slice, c_sliceStr, c_fieldAddr, c_field, c_indexSl, c_indexArr, c_elemArr, c_indexStr, c_extract, c_lenStr, c_lenSl, c_append, c_real, c_imag, c_complex, c_min, c_max, c_clear, hlen, h22, hc]
    exact ⟨_, _, _, rfl, rfl, by simp only [List.length_set, hlen], by simp only [gs_same, gs_ne, List.length_set, Nat.reduceLT, Nat.reduceEqDiff, not_false_eq_true, hlen], by simp only [gs_same, gs_ne, List.length_set, Nat.reduceLT, Nat.reduceEqDiff, not_false_eq_true, hlen], by simp only [gs_same, gs_ne, List.length_set, Nat.reduceLT, Nat.reduceEqDiff, not_false_eq_true, hlen, h6, read8], (set_same hir).symm⟩
  | m + 1, i, hi, r, n, tm, H, hp, hn, hlen, h0, h6, h22, hir => by
    have hc : decide ((i : Int) < 8) = true := decide_eq_true (by omega)
    have hirl := (List.getElem?_eq_some_iff.1 hir).1
    have c1 := s92 b s ir 255 r (by decide) hs hb hp H hir
    obtain ⟨p1, _, _, m1, _⟩ := oneR_p (m := 255) hp
    simp only [read8]
    generalize oneR b r 255 = q1 at *
    obtain ⟨v1, r1⟩ := q1
    simp only [byteDat] at c1 p1 m1 ⊢
    rw [show ((255 : Nat) : Int) = 255 from rfl] at c1
    have w1 : IntKind.u64.wrap ((v1.toNat : Nat) : Int) = ((v1.toNat : Nat) : Int) := by rw [wrap_u64, Nat.mod_eq_of_lt (by omega)]
    have a1 := b_shl8u n
    have a2 := b_oru (n * 256 % 18446744073709551616) v1.toNat (Nat.mod_lt _ (by decide)) (by omega)
    have hlt : n * 256 % 18446744073709551616 ||| v1.toNat < 18446744073709551616 := Nat.or_lt_two_pow (n := 64) (Nat.mod_lt _ (by decide)) (by omega)
    have hwr := wrap_nat (i := i) (by omega)
    have key := l66_8 b s ir hs hb m (i + 1) (by omega) r1 (n * 256 % 18446744073709551616 ||| v1.toNat)
    rw [l66_1]
    simp only [b66_1, x_seq, x_block, x_skip, x_label, x_cond, x_exit, x_goto, x_ret, k_normal, k_exit, k_goto, k_ret, b_normal, b_exit, b_goto, b_ret, wantedA, aop, ev, putA, List.length_cons, List.length_nil, List.replicate, List.cons_append, List.nil_append, List.append_nil, List.append_assoc, gs_same, gs_ne, gq_same, gq_ne, List.length_set, List.map_cons, List.map_nil, cellsOf, List.all_cons, List.all_nil, cellOk, boxTy, Bool.and_true, Bool.and_self, if_true, ite_true, ite_false, loadAt, storeAt, setAt, hget, hget0, hset, hset0, List.getElem?_cons_zero, List.getElem?_cons_succ, List.set_cons_zero, List.set_cons_succ, Nat.add_zero, Nat.zero_add, Nat.reduceAdd, Nat.reduceSub, Nat.reduceLeDiff, Nat.reduceLT, Nat.reduceEqDiff, Nat.le_refl, and_self, and_true, true_and, mkAgg, toIms, List.drop_zero, List.drop_succ_cons, List.take_succ_cons, List.take_zero, List.length_append, binBool, unA, Bool.false_eq_true, if_false, partA, fillA, fillE, List.take_nil, Nat.zero_ne_one, Nat.one_ne_zero, not_false_eq_true, ne_eq, Nat.succ_ne_self, reduceCtorEq, Int.reduceEq, Int.reduceLT, Int.reduceLE, decide_true, decide_false, beq_self_eq_true, beq_true, beq_false, Bool.not_true, Bool.not_false, b_lss, b_gtr, b_leq, b_geq, b_eql, b_neq, b_add, b_sub, b_mul, s_eql, s_neq, y_ops, y_nil, y_cons, y_guard, y_some, y_drop, y_do, y_not, y_not0, c_call, c_clo, c_move, c_pick, c_alloc, c_box, c_build, c_bslice, c_load, c_store, c_nilCheck, c_bin, c_binB, c_un, c_i2i, c_i2f, c_f2i, c_s2b, c_b2s, c_strId, c_mkfunc, c_mkslice, c_slice, c_sliceStr, c_fieldAddr, c_field, c_indexSl, c_indexArr, c_elemArr, c_indexStr, c_extract, c_lenStr, c_lenSl, c_append, c_real, c_imag, c_complex, c_min, c_max, c_clear, hlen, h0, h6, h22, hc, c1, w1, a1, a2, hwr]
    refine ex_imp (key _ (H.set ir (objC s b r1)) p1 hlt ?_ ?_ ?_ ?_ (List.getElem?_set_self hirl)) ?_
    iterate 4 simp only [gs_same, gs_ne, List.length_set, Nat.reduceLT, Nat.reduceEqDiff, not_false_eq_true, hlen, h0]
    rintro e tm' H' ⟨g1, g2, g3, g4, g5, g6⟩
    refine ⟨g1, g2, ?_, ?_, g5, ?_⟩
    · rw [g3]; simp only [gs_same, gs_ne, List.length_set, Nat.reduceLT, Nat.reduceEqDiff, not_false_eq_true, hlen]
    · rw [g4]; simp only [gs_same, gs_ne, List.length_set, Nat.reduceLT, Nat.reduceEqDiff, not_false_eq_true, hlen]
    · rw [g6, List.set_set]

/-! ### a list -/

theorem l66_list (b : List UInt8) (s ir A V n d : Nat) (x : KT) (H0 : Heap) (hirn : ir < n) (hn : n = H0.length) (hA : ir ≠ A) (hV : ir ≠ V) (hAV : A ≠ V) (hVn : V < n) (hd : d ≤ 6) (hok : okT x) (hrt : rightT x (d : Int) = true) (hs : b = [] ∨ s = 1) (hb : b.length ≤ 4611686018427387904) (ty : Option (TypeId × Nat)) (k : Int)
    (hc : ∀ (r : RS) (H : Heap), goodR b r → H[ir]? = some (objC s b r) → L 66 [.ptr ir 0 0, .im (.agg (encT x))] H = some (.im (.agg (encV (readV b d x r).1)), H.set ir (objC s b (readV b d x r).2)))
    (hg : ∀ r, goodR b r → goodR b (readV b d x r).2) :
    ∀ (m : Nat) (r : RS) (out : List VT) (tm : List AV) (H : Heap) (lv : AV), out.length + m = 64 → goodR b r → tm.length = 107 → tm.getD 0 undefA = .ptr ir 0 0 → tm.getD 3 undefA = .ptr A 0 0 → tm.getD 5 undefA = .ptr V 0 0 →
      H[ir]? = some (objC s b r) → H[A]? = some (.obj none [[.im (.int .i64 k), .im (.sl 2 [encT x])]]) → H[V]? = some (.obj none [[.im (.int .i64 7), .im (.int .i64 0), .im (.str []), .im (.cpx .f64 0 0), lv]]) → Gath 56 5 n lv H (encVs out) → n ≤ H.length → (∀ i, i < n → i ≠ ir → i ≠ V → H[i]? = H0[i]?) →
    ∃ e tm' H', Λ c66_0 tm H = some (e, tm', H') ∧ e = .exit 3 ∧ tm'.length = 107 ∧ tm'.getD 4 undefA = tm.getD 4 undefA ∧ tm'.getD 5 undefA = tm.getD 5 undefA ∧ H'[ir]? = some (objC s b (listR (readV b d x) b (leastT x) m r out).2) ∧ n ≤ H'.length ∧ (∀ i, i < n → i ≠ ir → i ≠ V → H'[i]? = H0[i]?) ∧
      ∃ lv', H'[V]? = some (.obj none [[.im (.int .i64 7), .im (.int .i64 0), .im (.str []), .im (.cpx .f64 0 0), lv']]) ∧ Gath 56 5 n lv' H' (encVs (listR (readV b d x) b (leastT x) m r out).1) := by
  have hl1 := least_le d x hrt
  have hpow := pow36 d (by omega)
  intro m
  induction m with
  | zero =>
    intro r out tm H lv hm hgr hlen h0 h3 h5 oir oA oV hG hHl hlow
    have hirl := (List.getElem?_eq_some_iff.1 oir).1
    have c95 := s95 b s ir 0 d r x hd hok hrt ⟨hgr.2.1, by have := hgr.2.2.1; omega⟩ (by omega) hs hb hgr.1 H oir
    have hmf : (moreR b r (leastT x) 0).1 = false := by
      have := (good_more (l := leastT x) (m := 0) hgr ⟨hl1.1, by omega⟩).2
      cases h : (moreR b r (leastT x) 0).1 with
      | false => rfl
      | true => have := (this h).1; omega
    rw [hmf] at c95
    have hlA : lenA lv = some out.length := by
      rcases hG with ⟨he, rfl⟩ | ⟨_, tok, _, rfl, _⟩
      · have : out = [] := by cases out with
          | nil => rfl
          | cons a l => simp [encVs] at he
        subst this; rfl
      · simp [lenA, encVs_map]
    have hw : IntKind.i64.wrap (64 - (out.length : Int)) = ((0 : Nat) : Int) := by rw [Go.Abs.Seat.wrap_small _ (by omega)]; omega
    have hi0 : idx (.im (.int .i64 0)) 1 = some 0 := rfl
    rw [l66_0]
    simp only [listR]
    obtain ⟨k1, s1, ts1⟩ := x
    simp only [encT] at c95 oA
    simp only [b66_0, x_seq, x_block, x_skip, x_label, x_cond, x_exit, x_goto, x_ret, k_normal, k_exit, k_goto, k_ret, b_normal, b_exit, b_goto, b_ret, wantedA, aop, ev, putA, List.length_cons, List.length_nil, List.replicate, List.cons_append, List.nil_append, List.append_nil, List.append_assoc, gs_same, gs_ne, gq_same, gq_ne, List.length_set, List.map_cons, List.map_nil, cellsOf, List.all_cons, List.all_nil, cellOk, boxTy, Bool.and_true, Bool.and_self, if_true, ite_true, ite_false, loadAt, storeAt, setAt, hget, hget0, hset, hset0, List.getElem?_cons_zero, List.getElem?_cons_succ, List.set_cons_zero, List.set_cons_succ, Nat.add_zero, Nat.zero_add, Nat.reduceAdd, Nat.reduceSub, Nat.reduceLeDiff, Nat.reduceLT, Nat.reduceEqDiff, Nat.le_refl, and_self, and_true, true_and, mkAgg, toIms, List.drop_zero, List.drop_succ_cons, List.take_succ_cons, List.take_zero, List.length_append, binBool, unA, Bool.false_eq_true, if_false, partA, fillA, fillE, List.take_nil, Nat.zero_ne_one, Nat.one_ne_zero, not_false_eq_true, ne_eq, Nat.succ_ne_self, reduceCtorEq, Int.reduceEq, Int.reduceLT, Int.reduceLE, decide_true, decide_false, beq_self_eq_true, beq_true, beq_false, Bool.not_true, Bool.not_false, b_lss, b_gtr, b_leq, b_geq, b_eql, b_neq, b_add, b_sub, b_mul, s_eql, s_neq, y_ops, y_nil, y_cons, y_guard, y_some, y_drop, y_do, y_not, y_not0, c_call, c_clo, c_move, c_pick, c_alloc, c_box, c_build, c_bslice, c_load, c_store, c_nilCheck, c_bin, c_binB, c_un, c_i2i, c_i2f, c_f2i, c_s2b, c_b2s, c_strId, c_mkfunc, c_mkslice, c_slice, c_sliceStr, c_fieldAddr, c_field, c_indexSl, c_indexArr, c_elemArr, c_indexStr, c_extract, c_lenStr, c_lenSl, c_append, c_real, c_imag, c_complex, c_min, c_max, c_clear, lenA_sl, hlen, h0, h3, h5, oA, oV, hi0, hlA, hw, c95]
    exact ⟨_, _, _, rfl, rfl, by simp only [List.length_set, hlen], by simp only [gs_same, gs_ne, List.length_set, Nat.reduceLT, Nat.reduceEqDiff, not_false_eq_true, hlen], by simp only [gs_same, gs_ne, List.length_set, Nat.reduceLT, Nat.reduceEqDiff, not_false_eq_true, hlen, h5], List.getElem?_set_self hirl, by simpa using hHl, fun i hi h1 h2 => by rw [List.getElem?_set_ne (by omega)]; exact hlow i hi h1 h2, lv, by rw [List.getElem?_set_ne hV]; exact oV, hG.set_obj oir _⟩
  | succ m ih =>
    intro r out tm H lv hm hgr hlen h0 h3 h5 oir oA oV hG hHl hlow
    have hirl := (List.getElem?_eq_some_iff.1 oir).1
    have hVl := (List.getElem?_eq_some_iff.1 oV).1
    have c95 := s95 b s ir (m + 1) d r x hd hok hrt ⟨hgr.2.1, by have := hgr.2.2.1; omega⟩ (by omega) hs hb hgr.1 H oir
    have hgm := (good_more (l := leastT x) (m := m + 1) hgr ⟨hl1.1, by omega⟩).1
    have hlA : lenA lv = some out.length := by
      rcases hG with ⟨he, rfl⟩ | ⟨_, tok, _, rfl, _⟩
      · have : out = [] := by cases out with
          | nil => rfl
          | cons a l => simp [encVs] at he
        subst this; rfl
      · simp [lenA, encVs_map]
    have hw : IntKind.i64.wrap (64 - (out.length : Int)) = ((m + 1 : Nat) : Int) := by rw [Go.Abs.Seat.wrap_small _ (by omega)]; omega
    have hi0 : idx (.im (.int .i64 0)) 1 = some 0 := rfl
    rw [l66_0]
    simp only [listR]
    generalize moreR b r (leastT x) (m + 1) = q at *
    obtain ⟨mb, r1⟩ := q
    cases mb with
    | false =>
      simp only [Bool.false_eq_true, if_false]
      obtain ⟨k1, s1, ts1⟩ := x
      simp only [encT] at c95 oA
      simp only [b66_0, x_seq, x_block, x_skip, x_label, x_cond, x_exit, x_goto, x_ret, k_normal, k_exit, k_goto, k_ret, b_normal, b_exit, b_goto, b_ret, wantedA, aop, ev, putA, List.length_cons, List.length_nil, List.replicate, List.cons_append, List.nil_append, List.append_nil, List.append_assoc, gs_same, gs_ne, gq_same, gq_ne, List.length_set, List.map_cons, List.map_nil, cellsOf, List.all_cons, List.all_nil, cellOk, boxTy, Bool.and_true, Bool.and_self, if_true, ite_true, ite_false, loadAt, storeAt, setAt, hget, hget0, hset, hset0, List.getElem?_cons_zero, List.getElem?_cons_succ, List.set_cons_zero, List.set_cons_succ, Nat.add_zero, Nat.zero_add, Nat.reduceAdd, Nat.reduceSub, Nat.reduceLeDiff, Nat.reduceLT, Nat.reduceEqDiff, Nat.le_refl, and_self, and_true, true_and, mkAgg, toIms, List.drop_zero, List.drop_succ_cons, List.take_succ_cons, List.take_zero, List.length_append, binBool, unA, Bool.false_eq_true, if_false, partA, fillA, fillE, List.take_nil, Nat.zero_ne_one, Nat.one_ne_zero, not_false_eq_true, ne_eq, Nat.succ_ne_self, reduceCtorEq, Int.reduceEq, Int.reduceLT, Int.reduceLE, decide_true, decide_false, beq_self_eq_true, beq_true, beq_false, Bool.not_true, Bool.not_false, b_lss, b_gtr, b_leq, b_geq, b_eql, b_neq, b_add, b_sub, b_mul, s_eql, s_neq, y_ops, y_nil, y_cons, y_guard, y_some, y_drop, y_do, y_not, y_not0, c_call, c_clo, c_move, c_pick, c_alloc, c_box, c_build, c_bslice, c_load, c_store, c_nilCheck, c_bin, c_binB, c_un, c_i2i, c_i2f, c_f2i, c_s2b, c_b2s, c_strId, c_mkfunc, c_mkslice, c_slice, c_sliceStr, c_fieldAddr, c_field, c_indexSl, c_indexArr, c_elemArr, c_indexStr, c_extract, c_lenStr, c_lenSl, c_append, c_real, c_imag, c_complex, c_min, c_max, c_clear, lenA_sl, hlen, h0, h3, h5, oA, oV, hi0, hlA, hw, c95]
      exact ⟨_, _, _, rfl, rfl, by simp only [List.length_set, hlen], by simp only [gs_same, gs_ne, List.length_set, Nat.reduceLT, Nat.reduceEqDiff, not_false_eq_true, hlen], by simp only [gs_same, gs_ne, List.length_set, Nat.reduceLT, Nat.reduceEqDiff, not_false_eq_true, hlen, h5], List.getElem?_set_self hirl, by simpa using hHl, fun i hi h1 h2 => by rw [List.getElem?_set_ne (by omega)]; exact hlow i hi h1 h2, lv, by rw [List.getElem?_set_ne hV]; exact oV, hG.set_obj oir _⟩
    | true =>
      simp only [if_true]
      have hcall := hc r1 (H.set ir (objC s b r1)) hgm (List.getElem?_set_self hirl)
      have hgv := hg r1 hgm
      rw [List.set_set] at hcall
      have hgA : ∀ o, (H.set ir o)[A]? = some (HO.obj none [[.im (.int .i64 k), .im (.sl 2 [encT x])]]) := fun o => by rw [List.getElem?_set_ne hA]; exact oA
      have hgV : ∀ o, (H.set ir o)[V]? = some (HO.obj none [[.im (.int .i64 7), .im (.int .i64 0), .im (.str []), .im (.cpx .f64 0 0), lv]]) := fun o => by rw [List.getElem?_set_ne hV]; exact oV
      have ihx := ih (readV b d x r1).2 (out ++ [(readV b d x r1).1])
      generalize readV b d x r1 = q2 at *
      obtain ⟨v, r2⟩ := q2
      simp only at hcall hgv ihx c95 ⊢
      have hel : (encVs out).length = out.length := by rw [encVs_map]; simp
      have hea : encVs (out ++ [v]) = encVs out ++ [encV v] := by simp [encVs_map]
      obtain ⟨tok, H4, hap, hG4, hl4, hlow4, hob4⟩ := (hG.set_obj oir (objC s b r2)).grow (bytes := 72) (by simpa using hHl) (encV v) (by rw [hel]; omega) (by decide)
      have oV4 := hob4 V _ _ (hgV _)
      have oA4 := hob4 A _ _ (hgA _)
      have oir4 : H4[ir]? = some (objC s b r2) := hob4 ir _ _ (List.getElem?_set_self hirl)
      have hVl4 := (List.getElem?_eq_some_iff.1 oV4).1
      rw [hea] at ihx
      obtain ⟨k1, s1, ts1⟩ := x
      obtain ⟨vk, vi, vt, va, vb, vs, vl⟩ := v
      simp only [encT] at c95 oA hgA hcall oA4 ihx
      simp only [encV] at hcall hap hG4 ihx
      simp only [b66_0, x_seq, x_block, x_skip, x_label, x_cond, x_exit, x_goto, x_ret, k_normal, k_exit, k_goto, k_ret, b_normal, b_exit, b_goto, b_ret, wantedA, aop, ev, putA, List.length_cons, List.length_nil, List.replicate, List.cons_append, List.nil_append, List.append_nil, List.append_assoc, gs_same, gs_ne, gq_same, gq_ne, List.length_set, List.map_cons, List.map_nil, cellsOf, List.all_cons, List.all_nil, cellOk, boxTy, Bool.and_true, Bool.and_self, if_true, ite_true, ite_false, loadAt, storeAt, setAt, hget, hget0, hset, hset0, List.getElem?_cons_zero, List.getElem?_cons_succ, List.set_cons_zero, List.set_cons_succ, Nat.add_zero, Nat.zero_add, Nat.reduceAdd, Nat.reduceSub, Nat.reduceLeDiff, Nat.reduceLT, Nat.reduceEqDiff, Nat.le_refl, and_self, and_true, true_and, mkAgg, toIms, List.drop_zero, List.drop_succ_cons, List.take_succ_cons, List.take_zero, List.length_append, binBool, unA, Bool.false_eq_true, if_false, partA, fillA, fillE, List.take_nil, Nat.zero_ne_one, Nat.one_ne_zero, not_false_eq_true, ne_eq, Nat.succ_ne_self, reduceCtorEq, Int.reduceEq, Int.reduceLT, Int.reduceLE, decide_true, decide_false, beq_self_eq_true, beq_true, beq_false, Bool.not_true, Bool.not_false, b_lss, b_gtr, b_leq, b_geq, b_eql, b_neq, b_add, b_sub, b_mul, s_eql, s_neq, y_ops, y_nil, y_cons, y_guard, y_some, y_drop, y_do, y_not, y_not0, c_call, c_clo, c_move, c_pick, c_alloc, c_box, c_build, c_bslice, c_load, c_store, c_nilCheck, c_bin, c_binB, c_un, c_i2i, c_i2f, c_f2i, c_s2b, c_b2s, c_strId, c_mkfunc, c_mkslice, c_slice, c_sliceStr, c_fieldAddr, c_field, c_indexSl, c_indexArr, c_elemArr, c_indexStr, c_extract, c_lenStr, c_lenSl, c_append, c_real, c_imag, c_complex, c_min, c_max, c_clear, z_ops, z_nil, z_cons, z_guard, z_some, z_drop, z_do, z_not, z_not0, pairK, forall_eq_or_imp, stays, loadOf, List.reverse_cons, List.reverse_nil, List.mem_cons, List.not_mem_nil, or_false, forall_eq, true_or, or_true, Bool.true_and, lenA_sl, elems, toDatss, toDats, toDat, hlen, h0, h3, h5, oA, oV, hgA, hgV, hi0, hlA, hw, c95, hcall, hap, oV4]
      refine ex_imp (ihx _ (H4.set V (.obj none [[.im (.int .i64 7), .im (.int .i64 0), .im (.str []), .im (.cpx .f64 0 0), .asl 5 (encVs out ++ [[.int .i64 vk, .int .i64 vi, .str vt, .cpx .f64 va vb, .sl vs (encVs vl)]]) tok]])) (.asl 5 (encVs out ++ [[.int .i64 vk, .int .i64 vi, .str vt, .cpx .f64 va vb, .sl vs (encVs vl)]]) tok) (by simp; omega) hgv ?_ ?_ ?_ ?_ (by rw [List.getElem?_set_ne (by omega)]; exact oir4) (by rw [List.getElem?_set_ne (by omega)]; exact oA4) (by rw [List.getElem?_set_self hVl4]) (hG4.set_obj oV4 _) (by simp only [List.length_set] at hl4 ⊢; omega) ?_) ?_
      iterate 4 simp only [gs_same, gs_ne, List.length_set, Nat.reduceLT, Nat.reduceEqDiff, not_false_eq_true, hlen, h0, h3, h5]
      · intro i hi h1 h2
        rw [List.getElem?_set_ne (by omega), hlow4 i hi, List.getElem?_set_ne (by omega)]
        exact hlow i hi h1 h2
      · rintro e tm' H' ⟨g1, g2, g3, g4, g5⟩
        refine ⟨g1, g2, ?_, ?_, g5⟩
        · rw [g3]; simp only [gs_same, gs_ne, List.length_set, Nat.reduceLT, Nat.reduceEqDiff, not_false_eq_true, hlen]
        · rw [g4]; simp only [gs_same, gs_ne, List.length_set, Nat.reduceLT, Nat.reduceEqDiff, not_false_eq_true, hlen, h5]

end Go.Abs.Seat
end
section
set_option linter.unusedVariables false
set_option linter.unusedSimpArgs false
/- What the coder's functions come to: read. -/
set_option linter.unusedVariables false
set_option linter.unusedSimpArgs false
namespace Go.Abs.Seat
open Go.Proofs

/-- A cell that holds a list of values. -/
def LV (lv : AV) (l : List VT) : Prop := (lv = .nils ∧ l = []) ∨ (∃ tok, lv = .asl 5 (encVs l) tok ∧ l ≠ []) ∨ lv = .im (.sl (if l.length = 0 then 0 else 5) (encVs l))

theorem Gath.lv {n : Nat} {lv : AV} {H : Heap} {l : List VT} (h : Gath 56 5 n lv H (encVs l)) : LV lv l := by
  rcases h with ⟨he, rfl⟩ | ⟨he, tok, _, rfl, _⟩
  · cases l with
    | nil => exact .inl ⟨rfl, rfl⟩
    | cons a l => simp [encVs] at he
  · exact .inr (.inl ⟨tok, rfl, fun h => by subst h; simp [encVs] at he⟩)

theorem good_read {b : List UInt8} : ∀ (d : Nat) (t : KT), d ≤ 7 → rightT t (d : Int) = true → ∀ r, goodR b r → goodR b (readV b d t r).2
  | 0, .mk k s args, hd, h, r, hg => hg
  | d + 1, .mk k s args, hd, h, r, hg => by
    obtain ⟨h1, _, h3⟩ := right_len h
    have h3' : ∀ a ∈ args, rightT a (d : Int) = true := fun a ha => by have := h3 a ha; rwa [show (((d + 1 : Nat) : Int)) - 1 = (d : Int) by omega] at this
    have ih : ∀ a ∈ args, ∀ r, goodR b r → goodR b (readV b d a r).2 := fun a ha => good_read d a (by omega) (h3' a ha)
    have hl : ∀ a ∈ args, 1 ≤ leastT a ∧ leastT a ≤ 729 := fun a ha => by
      have := least_le d a (h3' a ha)
      have := pow36 d (by omega)
      omega
    simp only [readV]
    split
    · exact good_one hg
    split
    · exact good_read8 (n := 0) 8 hg
    split
    · exact good_text _ hg
    split
    · exact good_part (good_part hg)
    split
    · split
      · exact ih _ (by simp) _ (ih _ (by simp) _ hg)
      · exact hg
    split
    · split
      · exact good_list (hl _ (by simp)) (ih _ (by simp)) 64 hg
      · exact hg
    split
    · split
      · split
        · exact ih _ (by simp) _ (good_more hg (hl _ (by simp))).1
        · exact (good_more hg (hl _ (by simp))).1
      · exact hg
    · exact hg

theorem k66 (b : List UInt8) (s ir : Nat) (H : Heap) (hir : ir < H.length) (tm : List AV) (H' : Heap) (lv : AV) (l : List VT) (k i : Int) (txt : List UInt8) (fa fb : Nat) (p : Nat) (z e : Int) (h4 : tm.getD 4 undefA = .ptr (H.length + 1) 0 0)
    (ho : H'[H.length + 1]? = some (.obj none [[.im (.int .i64 k), .im (.int .i64 i), .im (.str txt), .im (.cpx .f64 fa fb), lv]])) (hlv : LV lv l) (oir : H'[ir]? = some (objC s b ⟨p, z, e⟩)) (hb : But H.length ir H H') :
    endK f66 H .ret tm H' = some (.im (.agg (encV (mkV k i txt fa fb l))), H.set ir (objC s b ⟨p, z, e⟩)) := by
  have := fun (r : AV) (hr : degrade r = .im (.agg (encV (mkV k i txt fa fb l)))) => leave_but (keep := false) (r := r) hb oir rfl (by simp [hr, refsLt]) hir
  simp only [Bool.false_eq_true, if_false] at this
  rcases hlv with ⟨rfl, rfl⟩ | ⟨tok, rfl, hne⟩ | rfl
  · have h := this (.agg [.im (.int .i64 k), .im (.int .i64 i), .im (.str txt), .im (.cpx .f64 fa fb), .nils]) (by simp [degrade, toDat, toDats, mkV, encV, encVs])
    simp only [f66, x_seq, x_block, x_skip, x_label, x_cond, x_exit, x_goto, x_ret, k_normal, k_exit, k_goto, k_ret, b_normal, b_exit, b_goto, b_ret, wantedA, aop, ev, putA, List.length_cons, List.length_nil, List.replicate, List.cons_append, List.nil_append, List.append_nil, List.append_assoc, gs_same, gs_ne, gq_same, gq_ne, List.length_set, List.map_cons, List.map_nil, cellsOf, List.all_cons, List.all_nil, cellOk, boxTy, Bool.and_true, Bool.and_self, if_true, ite_true, ite_false, loadAt, storeAt, setAt, hget, hget0, hset, hset0, List.getElem?_cons_zero, List.getElem?_cons_succ, List.set_cons_zero, List.set_cons_succ, Nat.add_zero, Nat.zero_add, Nat.reduceAdd, Nat.reduceSub, Nat.reduceLeDiff, Nat.reduceLT, Nat.reduceEqDiff, Nat.le_refl, and_self, and_true, true_and, mkAgg, toIms, List.drop_zero, List.drop_succ_cons, List.take_succ_cons, List.take_zero, List.length_append, binBool, unA, Bool.false_eq_true, if_false, partA, fillA, fillE, List.take_nil, Nat.zero_ne_one, Nat.one_ne_zero, not_false_eq_true, ne_eq, Nat.succ_ne_self, reduceCtorEq, Int.reduceEq, Int.reduceLT, Int.reduceLE, decide_true, decide_false, lenA, beq_self_eq_true, beq_true, beq_false, Bool.not_true, Bool.not_false, b_lss, b_gtr, b_leq, b_geq, b_eql, b_neq, b_add, b_sub, b_mul, s_eql, s_neq, y_ops, y_nil, y_cons, y_guard, y_some, y_drop, y_do, y_not, y_not0, c_call, c_clo, c_move, c_pick, c_alloc, c_box, c_build, c_bslice, c_load, c_store, c_nilCheck, c_bin, c_binB, c_un, c_i2i, c_i2f, c_f2i, c_s2b, c_b2s, c_strId, c_mkfunc, c_mkslice, c_slice, c_sliceStr, c_fieldAddr, c_field, c_indexSl, c_indexArr, c_elemArr, c_indexStr, c_extract, c_lenStr, c_lenSl, c_append, c_real, c_imag, c_complex, c_min, c_max, c_clear, endK, resA, tupA, h4, ho, h]
    simp [degrade, toDat, toDats, mkV, encV, encVs]
  · have hl0 : ¬ l.length = 0 := fun h => hne (List.length_eq_zero_iff.1 h)
    have h := this (.agg [.im (.int .i64 k), .im (.int .i64 i), .im (.str txt), .im (.cpx .f64 fa fb), .asl 5 (encVs l) tok]) (by simp [degrade, toDat, toDats, mkV, encV, hl0])
    simp only [f66, x_seq, x_block, x_skip, x_label, x_cond, x_exit, x_goto, x_ret, k_normal, k_exit, k_goto, k_ret, b_normal, b_exit, b_goto, b_ret, wantedA, aop, ev, putA, List.length_cons, List.length_nil, List.replicate, List.cons_append, List.nil_append, List.append_nil, List.append_assoc, gs_same, gs_ne, gq_same, gq_ne, List.length_set, List.map_cons, List.map_nil, cellsOf, List.all_cons, List.all_nil, cellOk, boxTy, Bool.and_true, Bool.and_self, if_true, ite_true, ite_false, loadAt, storeAt, setAt, hget, hget0, hset, hset0, List.getElem?_cons_zero, List.getElem?_cons_succ, List.set_cons_zero, List.set_cons_succ, Nat.add_zero, Nat.zero_add, Nat.reduceAdd, Nat.reduceSub, Nat.reduceLeDiff, Nat.reduceLT, Nat.reduceEqDiff, Nat.le_refl, and_self, and_true, true_and, mkAgg, toIms, List.drop_zero, List.drop_succ_cons, List.take_succ_cons, List.take_zero, List.length_append, binBool, unA, Bool.false_eq_true, if_false, partA, fillA, fillE, List.take_nil, Nat.zero_ne_one, Nat.one_ne_zero, not_false_eq_true, ne_eq, Nat.succ_ne_self, reduceCtorEq, Int.reduceEq, Int.reduceLT, Int.reduceLE, decide_true, decide_false, lenA, beq_self_eq_true, beq_true, beq_false, Bool.not_true, Bool.not_false, b_lss, b_gtr, b_leq, b_geq, b_eql, b_neq, b_add, b_sub, b_mul, s_eql, s_neq, y_ops, y_nil, y_cons, y_guard, y_some, y_drop, y_do, y_not, y_not0, c_call, c_clo, c_move, c_pick, c_alloc, c_box, c_build, c_bslice, c_load, c_store, c_nilCheck, c_bin, c_binB, c_un, c_i2i, c_i2f, c_f2i, c_s2b, c_b2s, c_strId, c_mkfunc, c_mkslice, c_slice, c_sliceStr, c_fieldAddr, c_field, c_indexSl, c_indexArr, c_elemArr, c_indexStr, c_extract, c_lenStr, c_lenSl, c_append, c_real, c_imag, c_complex, c_min, c_max, c_clear, endK, resA, tupA, h4, ho, h]
    simp [degrade, toDat, toDats, mkV, encV, hl0]
  · have h := this (.im (.agg (encV (mkV k i txt fa fb l)))) rfl
    simp only [mkV, encV] at h ⊢
    simp only [f66, x_seq, x_block, x_skip, x_label, x_cond, x_exit, x_goto, x_ret, k_normal, k_exit, k_goto, k_ret, b_normal, b_exit, b_goto, b_ret, wantedA, aop, ev, putA, List.length_cons, List.length_nil, List.replicate, List.cons_append, List.nil_append, List.append_nil, List.append_assoc, gs_same, gs_ne, gq_same, gq_ne, List.length_set, List.map_cons, List.map_nil, cellsOf, List.all_cons, List.all_nil, cellOk, boxTy, Bool.and_true, Bool.and_self, if_true, ite_true, ite_false, loadAt, storeAt, setAt, hget, hget0, hset, hset0, List.getElem?_cons_zero, List.getElem?_cons_succ, List.set_cons_zero, List.set_cons_succ, Nat.add_zero, Nat.zero_add, Nat.reduceAdd, Nat.reduceSub, Nat.reduceLeDiff, Nat.reduceLT, Nat.reduceEqDiff, Nat.le_refl, and_self, and_true, true_and, mkAgg, toIms, List.drop_zero, List.drop_succ_cons, List.take_succ_cons, List.take_zero, List.length_append, binBool, unA, Bool.false_eq_true, if_false, partA, fillA, fillE, List.take_nil, Nat.zero_ne_one, Nat.one_ne_zero, not_false_eq_true, ne_eq, Nat.succ_ne_self, reduceCtorEq, Int.reduceEq, Int.reduceLT, Int.reduceLE, decide_true, decide_false, lenA, beq_self_eq_true, beq_true, beq_false, Bool.not_true, Bool.not_false, b_lss, b_gtr, b_leq, b_geq, b_eql, b_neq, b_add, b_sub, b_mul, s_eql, s_neq, y_ops, y_nil, y_cons, y_guard, y_some, y_drop, y_do, y_not, y_not0, c_call, c_clo, c_move, c_pick, c_alloc, c_box, c_build, c_bslice, c_load, c_store, c_nilCheck, c_bin, c_binB, c_un, c_i2i, c_i2f, c_f2i, c_s2b, c_b2s, c_strId, c_mkfunc, c_mkslice, c_slice, c_sliceStr, c_fieldAddr, c_field, c_indexSl, c_indexArr, c_elemArr, c_indexStr, c_extract, c_lenStr, c_lenSl, c_append, c_real, c_imag, c_complex, c_min, c_max, c_clear, endK, resA, tupA, h4, ho, h]
    simp [degrade, toDat, toDats]

theorem t66 (b : List UInt8) (s ir : Nat) (H : Heap) (hir : ir < H.length) (tm : List AV) (H' : Heap) (lv : AV) (l : List VT) (k i : Int) (txt : List UInt8) (fa fb : Nat) (p : Nat) (z e : Int) (z1 z2 z3 z4 z5 : AV) (hlen : tm.length = 107) (h4 : tm.getD 4 undefA = .ptr (H.length + 1) 0 0) (h5 : tm.getD 5 undefA = .ptr (H.length + 2) 0 0)
    (o1 : H'[H.length + 1]? = some (.obj none [[z1, z2, z3, z4, z5]]))
    (ho : H'[H.length + 2]? = some (.obj none [[.im (.int .i64 k), .im (.int .i64 i), .im (.str txt), .im (.cpx .f64 fa fb), lv]])) (hlv : LV lv l) (oir : H'[ir]? = some (objC s b ⟨p, z, e⟩)) (hb : But H.length ir H H') :
    exec0 L Λ q66_3 tm H' (endK f66 H) = some (.im (.agg (encV (mkV k i txt fa fb l))), H.set ir (objC s b ⟨p, z, e⟩)) := by
  have hK := fun (tm : List AV) (h4 : tm.getD 4 undefA = .ptr (H.length + 1) 0 0) => k66 b s ir H hir tm (H'.set (H.length + 1) (.obj none [[.im (.int .i64 k), .im (.int .i64 i), .im (.str txt), .im (.cpx .f64 fa fb), lv]])) lv l k i txt fa fb p z e h4 (List.getElem?_set_self (List.getElem?_eq_some_iff.1 o1).1) hlv (by rw [List.getElem?_set_ne (by omega)]; exact oir) ⟨by have := hb.1; simp; omega, fun j hj hne => by rw [List.getElem?_set_ne (by omega)]; exact hb.2 j hj hne⟩
  generalize endK f66 H = K at *
  rcases hlv with ⟨rfl, rfl⟩ | ⟨tok, rfl, hne⟩ | rfl
  all_goals simp only [q66_3, q66_4, x_seq, x_block, x_skip, x_label, x_cond, x_exit, x_goto, x_ret, k_normal, k_exit, k_goto, k_ret, b_normal, b_exit, b_goto, b_ret, wantedA, aop, ev, putA, List.length_cons, List.length_nil, List.replicate, List.cons_append, List.nil_append, List.append_nil, List.append_assoc, gs_same, gs_ne, gq_same, gq_ne, List.length_set, List.map_cons, List.map_nil, cellsOf, List.all_cons, List.all_nil, cellOk, boxTy, Bool.and_true, Bool.and_self, if_true, ite_true, ite_false, loadAt, storeAt, setAt, hget, hget0, hset, hset0, List.getElem?_cons_zero, List.getElem?_cons_succ, List.set_cons_zero, List.set_cons_succ, Nat.add_zero, Nat.zero_add, Nat.reduceAdd, Nat.reduceSub, Nat.reduceLeDiff, Nat.reduceLT, Nat.reduceEqDiff, Nat.le_refl, and_self, and_true, true_and, mkAgg, toIms, List.drop_zero, List.drop_succ_cons, List.take_succ_cons, List.take_zero, List.length_append, binBool, unA, Bool.false_eq_true, if_false, partA, fillA, fillE, List.take_nil, Nat.zero_ne_one, Nat.one_ne_zero, not_false_eq_true, ne_eq, Nat.succ_ne_self, reduceCtorEq, Int.reduceEq, Int.reduceLT, Int.reduceLE, decide_true, decide_false, lenA, beq_self_eq_true, beq_true, beq_false, Bool.not_true, Bool.not_false, b_lss, b_gtr, b_leq, b_geq, b_eql, b_neq, b_add, b_sub, b_mul, s_eql, s_neq, y_ops, y_nil, y_cons, y_guard, y_some, y_drop, y_do, y_not, y_not0, c_call, c_clo, c_move, c_pick, c_alloc, c_box, c_build, c_bslice, c_load, c_store, c_nilCheck, c_bin, c_binB, c_un, c_i2i, c_i2f, c_f2i, c_s2b, c_b2s, c_strId, c_mkfunc, c_mkslice, c_slice, c_sliceStr, c_fieldAddr, c_field, c_indexSl, c_indexArr, c_elemArr, c_indexStr, c_extract, c_lenStr, c_lenSl, c_append, c_real, c_imag, c_complex, c_min, c_max, c_clear, hlen, h4, h5, o1, ho]
  all_goals exact hK _ (by simp only [gs_same, gs_ne, List.length_set, Nat.reduceLT, Nat.reduceEqDiff, not_false_eq_true, hlen, h4])

end Go.Abs.Seat
end
section
set_option linter.unusedVariables false
set_option linter.unusedSimpArgs false
/- What the coder's functions come to: read, itself. -/
set_option linter.unusedVariables false
set_option linter.unusedSimpArgs false
namespace Go.Abs.Seat
open Go.Proofs

theorem s66 (b : List UInt8) (s ir : Nat) (hs : b = [] ∨ s = 1) (hb : b.length ≤ 4611686018427387904) :
    ∀ (d : Nat) (t : KT), d ≤ 6 → okT t → rightT t (d : Int) = true → ∀ (r : RS) (H : Heap), goodR b r → H[ir]? = some (objC s b r) → L 66 [.ptr ir 0 0, .im (.agg (encT t))] H = some (.im (.agg (encV (readV b d t r).1)), H.set ir (objC s b (readV b d t r).2))
  | 0, .mk k _ args, hd, hok, h, r, H, hg, hir => by
    have := (right_len h).2.1
    omega
  | d + 1, .mk k s' args, hd, hok, h, r, H, hg, hir => by
    obtain ⟨hn1, _, h3⟩ := right_len h
    have h3' : ∀ a ∈ args, rightT a (d : Int) = true := fun a ha => by have := h3 a ha; rwa [show (((d + 1 : Nat) : Int)) - 1 = (d : Int) by omega] at this
    simp only [okT] at hok
    obtain ⟨hss, _, hoks⟩ := hok
    have ih : ∀ a ∈ args, ∀ (r : RS) (H : Heap), goodR b r → H[ir]? = some (objC s b r) → L 66 [.ptr ir 0 0, .im (.agg (encT a))] H = some (.im (.agg (encV (readV b d a r).1)), H.set ir (objC s b (readV b d a r).2)) := fun a ha => s66 b s ir hs hb d a (by omega) (okTs_mem hoks a ha) (h3' a ha)
    have hirl := (List.getElem?_eq_some_iff.1 hir).1
    have hgi : ∀ (M : Heap), (H ++ M)[ir]? = some (objC s b r) := fun M => by rw [get_app hirl]; exact hir
    have hgj : ∀ (o : HO) (M : Heap), (H.set ir o ++ M)[ir]? = some o := fun o M => by rw [get_app (by simpa using hirl)]; exact List.getElem?_set_self hirl
    have hsi : ∀ (o : HO) (M : Heap), (H ++ M).set ir o = H.set ir o ++ M := fun o M => set_app hirl
    have hsj : ∀ (o o' : HO) (M : Heap), (H.set ir o ++ M).set ir o' = H.set ir o' ++ M := fun o o' M => by rw [set_app (by simpa using hirl), List.set_set]
    have hgs0 : ∀ (o : HO) (M : Heap), (H.set ir o ++ M)[H.length]? = M[0]? := fun o M => by
      have := Go.Abs.hget0 (H := H.set ir o) (l := M)
      rwa [List.length_set] at this
    have hgs : ∀ (o : HO) (M : Heap) (i : Nat), (H.set ir o ++ M)[H.length + i]? = M[i]? := fun o M i => by
      have := Go.Abs.hget (H := H.set ir o) (l := M) i
      rwa [List.length_set] at this
    have hsx : ∀ (o : HO) (M : Heap) (i : Nat) (x : HO), (H.set ir o ++ M).set (H.length + i) x = H.set ir o ++ M.set i x := fun o M i x => by
      have := Go.Abs.hset (H := H.set ir o) (l := M) (x := x) i
      rwa [List.length_set] at this
    have hbut : ∀ (o : HO) (M : Heap), But H.length ir H (H.set ir o ++ M) := fun o M => (But.refl.set _).app (Nat.le_refl _) M
    have tail := fun tm H' lv l k i txt fa fb p z e => t66 b s ir H hirl tm H' lv l k i txt fa fb p z e (.im (.int .i64 0)) (.im (.int .i64 0)) (.im (.str [])) (.im (.cpx .f64 0 0)) .nils
    rw [leq F66]
    have hcode : f66.code = _ := congrArg AFunc.code f66_q
    rw [hcode]
    clear hcode
    simp only
    obtain ⟨hlen, ha⟩ := enter_at (f := f66) (args := [.ptr ir 0 0, .im (.agg (encT (.mk k s' args)))]) (Nat.le_of_ble_eq_true rfl)
    have h0 := ha 0 _ rfl
    have h1 := ha 1 _ rfl
    generalize enterA f66 [.ptr ir 0 0, .im (.agg (encT (.mk k s' args)))] = tm at *
    change tm.length = 107 at hlen
    simp only [encT, encTs_map] at h1
    simp only [readV]
    generalize hKK : endK f66 H = K at *
    by_cases k1 : k = 1
    · subst k1
      have c92 := fun (M : Heap) => s92 b s ir 1 r (by decide) hs hb hg.1 (H ++ M) (hgi M)
      simp only [hsi] at c92
      simp only [if_true]
      generalize oneR b r 1 = q at *
      obtain ⟨v, ⟨p, z, e⟩⟩ := q
      have w1 : IntKind.i64.wrap ((v.toNat : Nat) : Int) = ((v.toNat : Nat) : Int) := wrap_i64 (by have := v.toNat_lt; omega)
      simp only [byteDat] at c92
      rw [show ((1 : Nat) : Int) = 1 from rfl] at c92
      simp only [q66_1, q66_2, x_seq, x_block, x_skip, x_label, x_cond, x_exit, x_goto, x_ret, k_normal, k_exit, k_goto, k_ret, b_normal, b_exit, b_goto, b_ret, wantedA, aop, ev, putA, List.length_cons, List.length_nil, List.replicate, List.cons_append, List.nil_append, List.append_nil, List.append_assoc, gs_same, gs_ne, gq_same, gq_ne, List.length_set, List.map_cons, List.map_nil, cellsOf, List.all_cons, List.all_nil, cellOk, boxTy, Bool.and_true, Bool.and_self, if_true, ite_true, ite_false, loadAt, storeAt, setAt, hget, hget0, hset, hset0, List.getElem?_cons_zero, List.getElem?_cons_succ, List.set_cons_zero, List.set_cons_succ, Nat.add_zero, Nat.zero_add, Nat.reduceAdd, Nat.reduceSub, Nat.reduceLeDiff, Nat.reduceLT, Nat.reduceEqDiff, Nat.le_refl, and_self, and_true, true_and, mkAgg, toIms, List.drop_zero, List.drop_succ_cons, List.take_succ_cons, List.take_zero, List.length_append, binBool, unA, Bool.false_eq_true, if_false, partA, fillA, fillE, List.take_nil, Nat.zero_ne_one, Nat.one_ne_zero, not_false_eq_true, ne_eq, Nat.succ_ne_self, reduceCtorEq, Int.reduceEq, Int.reduceLT, Int.reduceLE, decide_true, decide_false, beq_self_eq_true, beq_true, beq_false, Bool.not_true, Bool.not_false, b_lss, b_gtr, b_leq, b_geq, b_eql, b_neq, b_add, b_sub, b_mul, s_eql, s_neq, y_ops, y_nil, y_cons, y_guard, y_some, y_drop, y_do, y_not, y_not0, c_call, c_clo, c_move, c_pick, c_alloc, c_box, c_build, c_bslice, c_load, c_store, c_nilCheck, c_bin, c_binB, c_un, c_i2i, c_i2f, c_f2i, c_s2b, c_b2s, c_strId, c_mkfunc, c_mkslice, c_slice, c_sliceStr, c_fieldAddr, c_field, c_indexSl, c_indexArr, c_elemArr, c_indexStr, c_extract, c_lenStr, c_lenSl, c_append, c_real, c_imag, c_complex, c_min, c_max, c_clear, hlen, h0, h1, c92, w1, hgs0, hgs, hsx]
      refine tail _ _ .nils [] 1 (v.toNat : Int) [] 0 0 p z e ?_ ?_ ?_ ?_ ?_ (.inl ⟨rfl, rfl⟩) (hgj _ _) (hbut _ _)
      · simp only [List.length_set, hlen]
      · simp only [gs_same, gs_ne, List.length_set, Nat.reduceLT, Nat.reduceEqDiff, not_false_eq_true, hlen]
      · simp only [gs_same, gs_ne, List.length_set, Nat.reduceLT, Nat.reduceEqDiff, not_false_eq_true, hlen]
      · rw [hgs]; rfl
      · rw [hgs]; rfl
    have d1 : decide (k = 1) = false := decide_eq_false k1
    simp only [if_neg k1]
    by_cases k2 : k = 2
    · subst k2
      have key := l66_8 b s ir hs hb 8 0 rfl r 0
      have hgr := good_read8 (n := 0) 8 hg
      have hlt := read8_lt (b := b) (r := r) (n := 0) 8 (by decide)
      simp only [if_true]
      generalize read8 b 8 r 0 = q at *
      obtain ⟨v, ⟨p, z, e⟩⟩ := q
      simp only at hlt key ⊢
      have a1 := b_xoru v 9223372036854775808 hlt (by decide)
      rw [show ((9223372036854775808 : Nat) : Int) = 9223372036854775808 from rfl] at a1
      have z0 : ((0 : Nat) : Int) = 0 := rfl
      rw [z0] at key
      simp only [q66_1, q66_2, e66_1, x_seq, x_block, x_skip, x_label, x_cond, x_exit, x_goto, x_ret, k_normal, k_exit, k_goto, k_ret, b_normal, b_exit, b_goto, b_ret, wantedA, aop, ev, putA, List.length_cons, List.length_nil, List.replicate, List.cons_append, List.nil_append, List.append_nil, List.append_assoc, gs_same, gs_ne, gq_same, gq_ne, List.length_set, List.map_cons, List.map_nil, cellsOf, List.all_cons, List.all_nil, cellOk, boxTy, Bool.and_true, Bool.and_self, if_true, ite_true, ite_false, loadAt, storeAt, setAt, hget, hget0, hset, hset0, List.getElem?_cons_zero, List.getElem?_cons_succ, List.set_cons_zero, List.set_cons_succ, Nat.add_zero, Nat.zero_add, Nat.reduceAdd, Nat.reduceSub, Nat.reduceLeDiff, Nat.reduceLT, Nat.reduceEqDiff, Nat.le_refl, and_self, and_true, true_and, mkAgg, toIms, List.drop_zero, List.drop_succ_cons, List.take_succ_cons, List.take_zero, List.length_append, binBool, unA, Bool.false_eq_true, if_false, partA, fillA, fillE, List.take_nil, Nat.zero_ne_one, Nat.one_ne_zero, not_false_eq_true, ne_eq, Nat.succ_ne_self, reduceCtorEq, Int.reduceEq, Int.reduceLT, Int.reduceLE, decide_true, decide_false, beq_self_eq_true, beq_true, beq_false, Bool.not_true, Bool.not_false, b_lss, b_gtr, b_leq, b_geq, b_eql, b_neq, b_add, b_sub, b_mul, s_eql, s_neq, y_ops, y_nil, y_cons, y_guard, y_some, y_drop, y_do, y_not, y_not0, c_call, c_clo, c_move, c_pick, c_alloc, c_box, c_build, c_bslice, c_load, c_store, c_nilCheck, c_bin, c_binB, c_un, c_i2i, c_i2f, c_f2i, c_s2b, c_b2s, c_strId, c_mkfunc, c_mkslice, c_slice, c_sliceStr, c_fieldAddr, c_field, c_indexSl, c_indexArr, c_elemArr, c_indexStr, c_extract, c_lenStr, c_lenSl, c_append, c_real, c_imag, c_complex, c_min, c_max, c_clear, hlen, h0, h1, d1]
      generalize hr : thenL _ _ = r'
      refine Exists.elim (thenL_inv hr (key _ _ hg.1 (by decide) ?_ ?_ ?_ ?_ (hgi _))) ?_
      iterate 4 simp only [gs_same, gs_ne, List.length_set, Nat.reduceLT, Nat.reduceEqDiff, not_false_eq_true, hlen, h0]
      clear hr key
      rintro e' ⟨tm1, H1, ⟨rfl, hl1, g4, g5, g6, rfl⟩, rfl⟩
      simp only [gs_same, gs_ne, List.length_set, Nat.reduceLT, Nat.reduceEqDiff, not_false_eq_true, hlen] at g4 g5
      rw [hsi]
      simp only [x_seq, x_block, x_skip, x_label, x_cond, x_exit, x_goto, x_ret, k_normal, k_exit, k_goto, k_ret, b_normal, b_exit, b_goto, b_ret, wantedA, aop, ev, putA, List.length_cons, List.length_nil, List.replicate, List.cons_append, List.nil_append, List.append_nil, List.append_assoc, gs_same, gs_ne, gq_same, gq_ne, List.length_set, List.map_cons, List.map_nil, cellsOf, List.all_cons, List.all_nil, cellOk, boxTy, Bool.and_true, Bool.and_self, if_true, ite_true, ite_false, loadAt, storeAt, setAt, hget, hget0, hset, hset0, List.getElem?_cons_zero, List.getElem?_cons_succ, List.set_cons_zero, List.set_cons_succ, Nat.add_zero, Nat.zero_add, Nat.reduceAdd, Nat.reduceSub, Nat.reduceLeDiff, Nat.reduceLT, Nat.reduceEqDiff, Nat.le_refl, and_self, and_true, true_and, mkAgg, toIms, List.drop_zero, List.drop_succ_cons, List.take_succ_cons, List.take_zero, List.length_append, binBool, unA, Bool.false_eq_true, if_false, partA, fillA, fillE, List.take_nil, Nat.zero_ne_one, Nat.one_ne_zero, not_false_eq_true, ne_eq, Nat.succ_ne_self, reduceCtorEq, Int.reduceEq, Int.reduceLT, Int.reduceLE, decide_true, decide_false, beq_self_eq_true, beq_true, beq_false, Bool.not_true, Bool.not_false, b_lss, b_gtr, b_leq, b_geq, b_eql, b_neq, b_add, b_sub, b_mul, s_eql, s_neq, y_ops, y_nil, y_cons, y_guard, y_some, y_drop, y_do, y_not, y_not0, c_call, c_clo, c_move, c_pick, c_alloc, c_box, c_build, c_bslice, c_load, c_store, c_nilCheck, c_bin, c_binB, c_un, c_i2i, c_i2f, c_f2i, c_s2b, c_b2s, c_strId, c_mkfunc, c_mkslice, c_slice, c_sliceStr, c_fieldAddr, c_field, c_indexSl, c_indexArr, c_elemArr, c_indexStr, c_extract, c_lenStr, c_lenSl, c_append, c_real, c_imag, c_complex, c_min, c_max, c_clear, hl1, g4, g5, g6, a1, hgs0, hgs, hsx]
      refine tail _ _ .nils [] 2 (intOf v) [] 0 0 p z e ?_ ?_ ?_ ?_ ?_ (.inl ⟨rfl, rfl⟩) (hgj _ _) (hbut _ _)
      · simp only [List.length_set, hl1, g4, g5]
      · simp only [gs_same, gs_ne, List.length_set, Nat.reduceLT, Nat.reduceEqDiff, not_false_eq_true, hl1, g4, g5]
      · simp only [gs_same, gs_ne, List.length_set, Nat.reduceLT, Nat.reduceEqDiff, not_false_eq_true, hl1, g4, g5]
      · rw [hgs]; rfl
      · rw [hgs]; rfl
    have d2 : decide (k = 2) = false := decide_eq_false k2
    simp only [if_neg k2]
    by_cases k34 : k = 3 ∨ k = 4
    · have c93 := fun (M : Heap) => s93 b s ir r hs hb hg.1 (H ++ M) (hgi M)
      simp only [hsi] at c93
      simp only [if_pos k34]
      generalize textR b (b.length + 1) r [] = q at *
      obtain ⟨v, ⟨p, z, e⟩⟩ := q
      simp only at c93 ⊢
      rcases k34 with k3 | k4
      · subst k3
        simp only [q66_1, q66_2, x_seq, x_block, x_skip, x_label, x_cond, x_exit, x_goto, x_ret, k_normal, k_exit, k_goto, k_ret, b_normal, b_exit, b_goto, b_ret, wantedA, aop, ev, putA, List.length_cons, List.length_nil, List.replicate, List.cons_append, List.nil_append, List.append_nil, List.append_assoc, gs_same, gs_ne, gq_same, gq_ne, List.length_set, List.map_cons, List.map_nil, cellsOf, List.all_cons, List.all_nil, cellOk, boxTy, Bool.and_true, Bool.and_self, if_true, ite_true, ite_false, loadAt, storeAt, setAt, hget, hget0, hset, hset0, List.getElem?_cons_zero, List.getElem?_cons_succ, List.set_cons_zero, List.set_cons_succ, Nat.add_zero, Nat.zero_add, Nat.reduceAdd, Nat.reduceSub, Nat.reduceLeDiff, Nat.reduceLT, Nat.reduceEqDiff, Nat.le_refl, and_self, and_true, true_and, mkAgg, toIms, List.drop_zero, List.drop_succ_cons, List.take_succ_cons, List.take_zero, List.length_append, binBool, unA, Bool.false_eq_true, if_false, partA, fillA, fillE, List.take_nil, Nat.zero_ne_one, Nat.one_ne_zero, not_false_eq_true, ne_eq, Nat.succ_ne_self, reduceCtorEq, Int.reduceEq, Int.reduceLT, Int.reduceLE, decide_true, decide_false, beq_self_eq_true, beq_true, beq_false, Bool.not_true, Bool.not_false, b_lss, b_gtr, b_leq, b_geq, b_eql, b_neq, b_add, b_sub, b_mul, s_eql, s_neq, y_ops, y_nil, y_cons, y_guard, y_some, y_drop, y_do, y_not, y_not0, c_call, c_clo, c_move, c_pick, c_alloc, c_box, c_build, c_bslice, c_load, c_store, c_nilCheck, c_bin, c_binB, c_un, c_i2i, c_i2f, c_f2i, c_s2b, c_b2s, c_strId, c_mkfunc, c_mkslice, c_slice, c_sliceStr, c_fieldAddr, c_field, c_indexSl, c_indexArr, c_elemArr, c_indexStr, c_extract, c_lenStr, c_lenSl, c_append, c_real, c_imag, c_complex, c_min, c_max, c_clear, hlen, h0, h1, d1, d2, c93, hgs0, hgs, hsx]
        refine tail _ _ .nils [] 3 0 v 0 0 p z e ?_ ?_ ?_ ?_ ?_ (.inl ⟨rfl, rfl⟩) (hgj _ _) (hbut _ _)
        · simp only [List.length_set, hlen]
        · simp only [gs_same, gs_ne, List.length_set, Nat.reduceLT, Nat.reduceEqDiff, not_false_eq_true, hlen]
        · simp only [gs_same, gs_ne, List.length_set, Nat.reduceLT, Nat.reduceEqDiff, not_false_eq_true, hlen]
        · rw [hgs]; rfl
        · rw [hgs]; rfl
      · subst k4
        simp only [q66_1, q66_2, x_seq, x_block, x_skip, x_label, x_cond, x_exit, x_goto, x_ret, k_normal, k_exit, k_goto, k_ret, b_normal, b_exit, b_goto, b_ret, wantedA, aop, ev, putA, List.length_cons, List.length_nil, List.replicate, List.cons_append, List.nil_append, List.append_nil, List.append_assoc, gs_same, gs_ne, gq_same, gq_ne, List.length_set, List.map_cons, List.map_nil, cellsOf, List.all_cons, List.all_nil, cellOk, boxTy, Bool.and_true, Bool.and_self, if_true, ite_true, ite_false, loadAt, storeAt, setAt, hget, hget0, hset, hset0, List.getElem?_cons_zero, List.getElem?_cons_succ, List.set_cons_zero, List.set_cons_succ, Nat.add_zero, Nat.zero_add, Nat.reduceAdd, Nat.reduceSub, Nat.reduceLeDiff, Nat.reduceLT, Nat.reduceEqDiff, Nat.le_refl, and_self, and_true, true_and, mkAgg, toIms, List.drop_zero, List.drop_succ_cons, List.take_succ_cons, List.take_zero, List.length_append, binBool, unA, Bool.false_eq_true, if_false, partA, fillA, fillE, List.take_nil, Nat.zero_ne_one, Nat.one_ne_zero, not_false_eq_true, ne_eq, Nat.succ_ne_self, reduceCtorEq, Int.reduceEq, Int.reduceLT, Int.reduceLE, decide_true, decide_false, beq_self_eq_true, beq_true, beq_false, Bool.not_true, Bool.not_false, b_lss, b_gtr, b_leq, b_geq, b_eql, b_neq, b_add, b_sub, b_mul, s_eql, s_neq, y_ops, y_nil, y_cons, y_guard, y_some, y_drop, y_do, y_not, y_not0, c_call, c_clo, c_move, c_pick, c_alloc, c_box, c_build, c_bslice, c_load, c_store, c_nilCheck, c_bin, c_binB, c_un, c_i2i, c_i2f, c_f2i, c_s2b, c_b2s, c_strId, c_mkfunc, c_mkslice, c_slice, c_sliceStr, c_fieldAddr, c_field, c_indexSl, c_indexArr, c_elemArr, c_indexStr, c_extract, c_lenStr, c_lenSl, c_append, c_real, c_imag, c_complex, c_min, c_max, c_clear, hlen, h0, h1, d1, d2, c93, hgs0, hgs, hsx]
        refine tail _ _ .nils [] 4 0 v 0 0 p z e ?_ ?_ ?_ ?_ ?_ (.inl ⟨rfl, rfl⟩) (hgj _ _) (hbut _ _)
        · simp only [List.length_set, hlen]
        · simp only [gs_same, gs_ne, List.length_set, Nat.reduceLT, Nat.reduceEqDiff, not_false_eq_true, hlen]
        · simp only [gs_same, gs_ne, List.length_set, Nat.reduceLT, Nat.reduceEqDiff, not_false_eq_true, hlen]
        · rw [hgs]; rfl
        · rw [hgs]; rfl
    have d3 : decide (k = 3) = false := decide_eq_false fun h => k34 (.inl h)
    have d4 : decide (k = 4) = false := decide_eq_false fun h => k34 (.inr h)
    simp only [if_neg k34]
    by_cases k5 : k = 5
    · subst k5
      have c1 := fun (M : Heap) => s94 b s ir r hs hb hg.1 (H ++ M) (hgi M)
      have hg1 := good_part hg
      have hr1 := part_le hg
      simp only [hsi] at c1
      simp only [if_true]
      generalize partR b r = q1 at *
      obtain ⟨v1, r1⟩ := q1
      have c2 := fun (M : Heap) => s94 b s ir r1 hs hb hg1.1 (H.set ir (objC s b r1) ++ M) (hgj _ M)
      have hr2 := part_le hg1
      simp only [hsj] at c2
      simp only
      generalize partR b r1 = q2 at *
      obtain ⟨v2, ⟨p, z, e⟩⟩ := q2
      simp only at c1 c2 hr1 hr2 ⊢
      have c24 := fun H => s24 v1 v2 (by omega) (by omega) H
      simp only [pointV, mkV, encV, encVs, List.length_nil, if_true] at c24
      simp only [q66_1, q66_2, x_seq, x_block, x_skip, x_label, x_cond, x_exit, x_goto, x_ret, k_normal, k_exit, k_goto, k_ret, b_normal, b_exit, b_goto, b_ret, wantedA, aop, ev, putA, List.length_cons, List.length_nil, List.replicate, List.cons_append, List.nil_append, List.append_nil, List.append_assoc, gs_same, gs_ne, gq_same, gq_ne, List.length_set, List.map_cons, List.map_nil, cellsOf, List.all_cons, List.all_nil, cellOk, boxTy, Bool.and_true, Bool.and_self, if_true, ite_true, ite_false, loadAt, storeAt, setAt, hget, hget0, hset, hset0, List.getElem?_cons_zero, List.getElem?_cons_succ, List.set_cons_zero, List.set_cons_succ, Nat.add_zero, Nat.zero_add, Nat.reduceAdd, Nat.reduceSub, Nat.reduceLeDiff, Nat.reduceLT, Nat.reduceEqDiff, Nat.le_refl, and_self, and_true, true_and, mkAgg, toIms, List.drop_zero, List.drop_succ_cons, List.take_succ_cons, List.take_zero, List.length_append, binBool, unA, Bool.false_eq_true, if_false, partA, fillA, fillE, List.take_nil, Nat.zero_ne_one, Nat.one_ne_zero, not_false_eq_true, ne_eq, Nat.succ_ne_self, reduceCtorEq, Int.reduceEq, Int.reduceLT, Int.reduceLE, decide_true, decide_false, beq_self_eq_true, beq_true, beq_false, Bool.not_true, Bool.not_false, b_lss, b_gtr, b_leq, b_geq, b_eql, b_neq, b_add, b_sub, b_mul, s_eql, s_neq, y_ops, y_nil, y_cons, y_guard, y_some, y_drop, y_do, y_not, y_not0, c_call, c_clo, c_move, c_pick, c_alloc, c_box, c_build, c_bslice, c_load, c_store, c_nilCheck, c_bin, c_binB, c_un, c_i2i, c_i2f, c_f2i, c_s2b, c_b2s, c_strId, c_mkfunc, c_mkslice, c_slice, c_sliceStr, c_fieldAddr, c_field, c_indexSl, c_indexArr, c_elemArr, c_indexStr, c_extract, c_lenStr, c_lenSl, c_append, c_real, c_imag, c_complex, c_min, c_max, c_clear, hlen, h0, h1, d1, d2, d3, d4, c1, c2, c24, hgs0, hgs, hsx]
      refine tail _ _ (.im (.sl 0 [])) [] 5 0 [] (flZ v1) (flZ v2) p z e ?_ ?_ ?_ ?_ ?_ (.inr (.inr rfl)) (hgj _ _) (hbut _ _)
      · simp only [List.length_set, hlen]
      · simp only [gs_same, gs_ne, List.length_set, Nat.reduceLT, Nat.reduceEqDiff, not_false_eq_true, hlen]
      · simp only [gs_same, gs_ne, List.length_set, Nat.reduceLT, Nat.reduceEqDiff, not_false_eq_true, hlen]
      · rw [hgs]; rfl
      · rw [hgs]; rfl
    have d5 : decide (k = 5) = false := decide_eq_false k5
    simp only [if_neg k5]
    by_cases k6 : k = 6
    · subst k6
      obtain ⟨x, y, rfl⟩ := len2 (l := args) (by have : cntK 6 = 2 := by decide
                                                 omega)
      have hs2 : s' = 2 := by
        rcases hss with hs | hs
        · simp at hs
        · exact hs
      subst hs2
      have c1 := fun (M : Heap) => ih x (by simp) r (H ++ M) hg (hgi M)
      have hg1 := good_read d x (by omega) (h3' x (by simp)) r hg
      simp only [hsi] at c1
      simp only [if_true]
      generalize readV b d x r = q1 at *
      obtain ⟨⟨uk, ui, ut, ua, ub, us, ul⟩, r1⟩ := q1
      have c2 := fun (M : Heap) => ih y (by simp) r1 (H.set ir (objC s b r1) ++ M) hg1 (hgj _ M)
      simp only [hsj] at c2
      simp only
      generalize readV b d y r1 = q2 at *
      obtain ⟨⟨wk, wi, wt, wa, wb, ws, wl⟩, ⟨p, z, e⟩⟩ := q2
      obtain ⟨xk, xs, xl⟩ := x
      obtain ⟨yk, ys, yl⟩ := y
      simp only [encT, encV] at c1 c2 ⊢
      simp only [List.map_cons, List.map_nil, encT] at h1
      have hi0 : idx (.im (.int .i64 0)) 2 = some 0 := rfl
      have hi1 : idx (.im (.int .i64 1)) 2 = some 1 := rfl
      simp only [q66_1, q66_2, x_seq, x_block, x_skip, x_label, x_cond, x_exit, x_goto, x_ret, k_normal, k_exit, k_goto, k_ret, b_normal, b_exit, b_goto, b_ret, wantedA, aop, ev, putA, List.length_cons, List.length_nil, List.replicate, List.cons_append, List.nil_append, List.append_nil, List.append_assoc, gs_same, gs_ne, gq_same, gq_ne, List.length_set, List.map_cons, List.map_nil, cellsOf, List.all_cons, List.all_nil, cellOk, boxTy, Bool.and_true, Bool.and_self, if_true, ite_true, ite_false, loadAt, storeAt, setAt, hget, hget0, hset, hset0, List.getElem?_cons_zero, List.getElem?_cons_succ, List.set_cons_zero, List.set_cons_succ, Nat.add_zero, Nat.zero_add, Nat.reduceAdd, Nat.reduceSub, Nat.reduceLeDiff, Nat.reduceLT, Nat.reduceEqDiff, Nat.le_refl, and_self, and_true, true_and, mkAgg, toIms, List.drop_zero, List.drop_succ_cons, List.take_succ_cons, List.take_zero, List.length_append, binBool, unA, Bool.false_eq_true, if_false, partA, fillA, fillE, List.take_nil, Nat.zero_ne_one, Nat.one_ne_zero, not_false_eq_true, ne_eq, Nat.succ_ne_self, reduceCtorEq, Int.reduceEq, Int.reduceLT, Int.reduceLE, decide_true, decide_false, beq_self_eq_true, beq_true, beq_false, Bool.not_true, Bool.not_false, b_lss, b_gtr, b_leq, b_geq, b_eql, b_neq, b_add, b_sub, b_mul, s_eql, s_neq, y_ops, y_nil, y_cons, y_guard, y_some, y_drop, y_do, y_not, y_not0, c_call, c_clo, c_move, c_pick, c_alloc, c_box, c_build, c_bslice, c_load, c_store, c_nilCheck, c_bin, c_binB, c_un, c_i2i, c_i2f, c_f2i, c_s2b, c_b2s, c_strId, c_mkfunc, c_mkslice, c_slice, c_sliceStr, c_fieldAddr, c_field, c_indexSl, c_indexArr, c_elemArr, c_indexStr, c_extract, c_lenStr, c_lenSl, c_append, c_real, c_imag, c_complex, c_min, c_max, c_clear, z_ops, z_nil, z_cons, z_guard, z_some, z_drop, z_do, z_not, z_not0, pairK, forall_eq_or_imp, stays, loadOf, List.reverse_cons, List.reverse_nil, List.mem_cons, List.not_mem_nil, or_false, forall_eq, true_or, or_true, Bool.true_and, lenA_sl, elems, toDatss, toDats, toDat, hlen, h0, h1, d1, d2, d3, d4, d5, hi0, hi1, c1, c2, hgs0, hgs, hsx]
      refine tail _ _ (.im (.sl 5 _)) [.mk uk ui ut ua ub us ul, .mk wk wi wt wa wb ws wl] 6 0 [] 0 0 p z e ?_ ?_ ?_ ?_ ?_ (.inr (.inr rfl)) (hgj _ _) (hbut _ _)
      · simp only [List.length_set, hlen]
      · simp only [gs_same, gs_ne, List.length_set, Nat.reduceLT, Nat.reduceEqDiff, not_false_eq_true, hlen]
      · simp only [gs_same, gs_ne, List.length_set, Nat.reduceLT, Nat.reduceEqDiff, not_false_eq_true, hlen]
      · rw [hgs]; rfl
      · rw [hgs]; rfl
    have d6 : decide (k = 6) = false := decide_eq_false k6
    simp only [if_neg k6]
    by_cases k7 : k = 7
    · subst k7
      obtain ⟨x, rfl⟩ := len1 (l := args) (by have : cntK 7 = 1 := by decide
                                              omega)
      have hs2 : s' = 2 := by
        rcases hss with hs | hs
        · simp at hs
        · exact hs
      subst hs2
      have key := fun (M : Heap) (hM : M.length = 3) => l66_list b s ir H.length (H.length + 2) (H.length + 3) d x (H ++ M) (by omega) (by simp [hM]) (by omega) (by omega) (by omega) (by omega) (by omega) (okTs_mem hoks x (by simp)) (h3' x (by simp)) hs hb none 7 (fun r H => ih x (by simp) r H) (fun r => good_read d x (by omega) (h3' x (by simp)) r) 64 r []
      have hgl := good_list (b := b) (f := readV b d x) (l := leastT x) (by have := least_le d x (h3' x (by simp)); have := pow36 d (by omega); omega) (fun r => good_read d x (by omega) (h3' x (by simp)) r) 64 (r := r) (out := []) hg
      simp only [if_true]
      generalize hq : listR (readV b d x) b (leastT x) 64 r [] = q at *
      obtain ⟨vl, ⟨p, z, e⟩⟩ := q
      simp only at key ⊢
      simp only [q66_1, q66_2, e66_0, x_seq, x_block, x_skip, x_label, x_cond, x_exit, x_goto, x_ret, k_normal, k_exit, k_goto, k_ret, b_normal, b_exit, b_goto, b_ret, wantedA, aop, ev, putA, List.length_cons, List.length_nil, List.replicate, List.cons_append, List.nil_append, List.append_nil, List.append_assoc, gs_same, gs_ne, gq_same, gq_ne, List.length_set, List.map_cons, List.map_nil, cellsOf, List.all_cons, List.all_nil, cellOk, boxTy, Bool.and_true, Bool.and_self, if_true, ite_true, ite_false, loadAt, storeAt, setAt, hget, hget0, hset, hset0, List.getElem?_cons_zero, List.getElem?_cons_succ, List.set_cons_zero, List.set_cons_succ, Nat.add_zero, Nat.zero_add, Nat.reduceAdd, Nat.reduceSub, Nat.reduceLeDiff, Nat.reduceLT, Nat.reduceEqDiff, Nat.le_refl, and_self, and_true, true_and, mkAgg, toIms, List.drop_zero, List.drop_succ_cons, List.take_succ_cons, List.take_zero, List.length_append, binBool, unA, Bool.false_eq_true, if_false, partA, fillA, fillE, List.take_nil, Nat.zero_ne_one, Nat.one_ne_zero, not_false_eq_true, ne_eq, Nat.succ_ne_self, reduceCtorEq, Int.reduceEq, Int.reduceLT, Int.reduceLE, decide_true, decide_false, beq_self_eq_true, beq_true, beq_false, Bool.not_true, Bool.not_false, b_lss, b_gtr, b_leq, b_geq, b_eql, b_neq, b_add, b_sub, b_mul, s_eql, s_neq, y_ops, y_nil, y_cons, y_guard, y_some, y_drop, y_do, y_not, y_not0, c_call, c_clo, c_move, c_pick, c_alloc, c_box, c_build, c_bslice, c_load, c_store, c_nilCheck, c_bin, c_binB, c_un, c_i2i, c_i2f, c_f2i, c_s2b, c_b2s, c_strId, c_mkfunc, c_mkslice, c_slice, c_sliceStr, c_fieldAddr, c_field, c_indexSl, c_indexArr, c_elemArr, c_indexStr, c_extract, c_lenStr, c_lenSl, c_append, c_real, c_imag, c_complex, c_min, c_max, c_clear, lenA_sl, hlen, h0, h1, d1, d2, d3, d4, d5, d6, hgs0, hgs, hsx]
      generalize hr : thenL _ _ = r'
      refine Exists.elim (thenL_inv hr (key [_, _, _] rfl _ _ .nils rfl hg ?_ ?_ ?_ ?_ (hgi _) (by rw [hget0]; rfl) (by rw [hget]; rfl) (.inl ⟨rfl, rfl⟩) (by simp) (fun i _ _ _ => rfl))) ?_
      iterate 4 simp only [gs_same, gs_ne, List.length_set, Nat.reduceLT, Nat.reduceEqDiff, not_false_eq_true, hlen, h0]
      clear hr key
      rintro e' ⟨tm1, H1, ⟨rfl, hl1, g4, g5, oir, hHl, hlow, lv, oV, hG⟩, rfl⟩
      simp only [gs_same, gs_ne, List.length_set, Nat.reduceLT, Nat.reduceEqDiff, not_false_eq_true, hlen] at g4 g5
      simp only [x_seq, x_block, x_skip, x_label, x_cond, x_exit, x_goto, x_ret, k_normal, k_exit, k_goto, k_ret, b_normal, b_exit, b_goto, b_ret, wantedA, aop, ev, putA, List.length_cons, List.length_nil, List.replicate, List.cons_append, List.nil_append, List.append_nil, List.append_assoc, gs_same, gs_ne, gq_same, gq_ne, List.length_set, List.map_cons, List.map_nil, cellsOf, List.all_cons, List.all_nil, cellOk, boxTy, Bool.and_true, Bool.and_self, if_true, ite_true, ite_false, loadAt, storeAt, setAt, hget, hget0, hset, hset0, List.getElem?_cons_zero, List.getElem?_cons_succ, List.set_cons_zero, List.set_cons_succ, Nat.add_zero, Nat.zero_add, Nat.reduceAdd, Nat.reduceSub, Nat.reduceLeDiff, Nat.reduceLT, Nat.reduceEqDiff, Nat.le_refl, and_self, and_true, true_and, mkAgg, toIms, List.drop_zero, List.drop_succ_cons, List.take_succ_cons, List.take_zero, List.length_append, binBool, unA, Bool.false_eq_true, if_false, partA, fillA, fillE, List.take_nil, Nat.zero_ne_one, Nat.one_ne_zero, not_false_eq_true, ne_eq, Nat.succ_ne_self, reduceCtorEq, Int.reduceEq, Int.reduceLT, Int.reduceLE, decide_true, decide_false, beq_self_eq_true, beq_true, beq_false, Bool.not_true, Bool.not_false, b_lss, b_gtr, b_leq, b_geq, b_eql, b_neq, b_add, b_sub, b_mul, s_eql, s_neq, y_ops, y_nil, y_cons, y_guard, y_some, y_drop, y_do, y_not, y_not0, c_call, c_clo, c_move, c_pick, c_alloc, c_box, c_build, c_bslice, c_load, c_store, c_nilCheck, c_bin, c_binB, c_un, c_i2i, c_i2f, c_f2i, c_s2b, c_b2s, c_strId, c_mkfunc, c_mkslice, c_slice, c_sliceStr, c_fieldAddr, c_field, c_indexSl, c_indexArr, c_elemArr, c_indexStr, c_extract, c_lenStr, c_lenSl, c_append, c_real, c_imag, c_complex, c_min, c_max, c_clear]
      refine tail _ _ lv vl 7 0 [] 0 0 p z e hl1 g4 g5 ?_ oV (Gath.lv hG) oir ⟨by omega, fun i hi hne => ?_⟩
      · rw [hlow _ (by omega) (by omega) (by omega), hget]; rfl
      · rw [hlow i (by omega) hne (by omega), List.getElem?_append_left hi]
    have d7 : decide (k = 7) = false := decide_eq_false k7
    simp only [if_neg k7]
    by_cases k9 : k = 9
    · subst k9
      obtain ⟨x, rfl⟩ := len1 (l := args) (by have : cntK 9 = 1 := by decide
                                              omega)
      have hs2 : s' = 2 := by
        rcases hss with hs | hs
        · simp at hs
        · exact hs
      subst hs2
      have hle := least_le d x (h3' x (by simp))
      have hpow := pow36 d (by omega)
      have c1 := fun (M : Heap) => s95 b s ir 1 d r x (by omega) (okTs_mem hoks x (by simp)) (h3' x (by simp)) ⟨hg.2.1, by have := hg.2.2.1; omega⟩ (by decide) hs hb hg.1 (H ++ M) (hgi M)
      have hg1 := (good_more (l := leastT x) (m := 1) hg ⟨hle.1, by omega⟩).1
      rw [show ((1 : Nat) : Int) = 1 from rfl] at c1
      simp only [hsi] at c1
      simp only [if_true]
      generalize moreR b r (leastT x) 1 = q1 at *
      obtain ⟨mb, r1⟩ := q1
      have c2 := fun (M : Heap) => ih x (by simp) r1 (H.set ir (objC s b r1) ++ M) hg1 (hgj _ M)
      simp only [hsj] at c2
      simp only at c1 ⊢
      have hi0 : idx (.im (.int .i64 0)) 1 = some 0 := rfl
      cases mb with
      | true =>
        simp only [if_true]
        generalize readV b d x r1 = q2 at *
        obtain ⟨⟨wk, wi, wt, wa, wb, ws, wl⟩, ⟨p, z, e⟩⟩ := q2
        obtain ⟨xk, xs, xl⟩ := x
        simp only [encT, encV] at c1 c2 ⊢
        simp only [List.map_cons, List.map_nil, encT] at h1
        simp only [q66_1, q66_2, x_seq, x_block, x_skip, x_label, x_cond, x_exit, x_goto, x_ret, k_normal, k_exit, k_goto, k_ret, b_normal, b_exit, b_goto, b_ret, wantedA, aop, ev, putA, List.length_cons, List.length_nil, List.replicate, List.cons_append, List.nil_append, List.append_nil, List.append_assoc, gs_same, gs_ne, gq_same, gq_ne, List.length_set, List.map_cons, List.map_nil, cellsOf, List.all_cons, List.all_nil, cellOk, boxTy, Bool.and_true, Bool.and_self, if_true, ite_true, ite_false, loadAt, storeAt, setAt, hget, hget0, hset, hset0, List.getElem?_cons_zero, List.getElem?_cons_succ, List.set_cons_zero, List.set_cons_succ, Nat.add_zero, Nat.zero_add, Nat.reduceAdd, Nat.reduceSub, Nat.reduceLeDiff, Nat.reduceLT, Nat.reduceEqDiff, Nat.le_refl, and_self, and_true, true_and, mkAgg, toIms, List.drop_zero, List.drop_succ_cons, List.take_succ_cons, List.take_zero, List.length_append, binBool, unA, Bool.false_eq_true, if_false, partA, fillA, fillE, List.take_nil, Nat.zero_ne_one, Nat.one_ne_zero, not_false_eq_true, ne_eq, Nat.succ_ne_self, reduceCtorEq, Int.reduceEq, Int.reduceLT, Int.reduceLE, decide_true, decide_false, beq_self_eq_true, beq_true, beq_false, Bool.not_true, Bool.not_false, b_lss, b_gtr, b_leq, b_geq, b_eql, b_neq, b_add, b_sub, b_mul, s_eql, s_neq, y_ops, y_nil, y_cons, y_guard, y_some, y_drop, y_do, y_not, y_not0, c_call, c_clo, c_move, c_pick, c_alloc, c_box, c_build, c_bslice, c_load, c_store, c_nilCheck, c_bin, c_binB, c_un, c_i2i, c_i2f, c_f2i, c_s2b, c_b2s, c_strId, c_mkfunc, c_mkslice, c_slice, c_sliceStr, c_fieldAddr, c_field, c_indexSl, c_indexArr, c_elemArr, c_indexStr, c_extract, c_lenStr, c_lenSl, c_append, c_real, c_imag, c_complex, c_min, c_max, c_clear, z_ops, z_nil, z_cons, z_guard, z_some, z_drop, z_do, z_not, z_not0, pairK, forall_eq_or_imp, stays, loadOf, List.reverse_cons, List.reverse_nil, List.mem_cons, List.not_mem_nil, or_false, forall_eq, true_or, or_true, Bool.true_and, lenA_sl, elems, toDatss, toDats, toDat, hlen, h0, h1, d1, d2, d3, d4, d5, d6, d7, hi0, c1, c2, hgs0, hgs, hsx]
        refine tail _ _ (.im (.sl 5 _)) [.mk wk wi wt wa wb ws wl] 9 0 [] 0 0 p z e ?_ ?_ ?_ ?_ ?_ (.inr (.inr rfl)) (hgj _ _) (hbut _ _)
        · simp only [List.length_set, hlen]
        · simp only [gs_same, gs_ne, List.length_set, Nat.reduceLT, Nat.reduceEqDiff, not_false_eq_true, hlen]
        · simp only [gs_same, gs_ne, List.length_set, Nat.reduceLT, Nat.reduceEqDiff, not_false_eq_true, hlen]
        · rw [hgs]; rfl
        · rw [hgs]; rfl
      | false =>
        simp only [Bool.false_eq_true, if_false]
        obtain ⟨p, z, e⟩ := r1
        obtain ⟨xk, xs, xl⟩ := x
        simp only [encT] at c1 ⊢
        simp only [List.map_cons, List.map_nil, encT] at h1
        simp only [q66_1, q66_2, x_seq, x_block, x_skip, x_label, x_cond, x_exit, x_goto, x_ret, k_normal, k_exit, k_goto, k_ret, b_normal, b_exit, b_goto, b_ret, wantedA, aop, ev, putA, List.length_cons, List.length_nil, List.replicate, List.cons_append, List.nil_append, List.append_nil, List.append_assoc, gs_same, gs_ne, gq_same, gq_ne, List.length_set, List.map_cons, List.map_nil, cellsOf, List.all_cons, List.all_nil, cellOk, boxTy, Bool.and_true, Bool.and_self, if_true, ite_true, ite_false, loadAt, storeAt, setAt, hget, hget0, hset, hset0, List.getElem?_cons_zero, List.getElem?_cons_succ, List.set_cons_zero, List.set_cons_succ, Nat.add_zero, Nat.zero_add, Nat.reduceAdd, Nat.reduceSub, Nat.reduceLeDiff, Nat.reduceLT, Nat.reduceEqDiff, Nat.le_refl, and_self, and_true, true_and, mkAgg, toIms, List.drop_zero, List.drop_succ_cons, List.take_succ_cons, List.take_zero, List.length_append, binBool, unA, Bool.false_eq_true, if_false, partA, fillA, fillE, List.take_nil, Nat.zero_ne_one, Nat.one_ne_zero, not_false_eq_true, ne_eq, Nat.succ_ne_self, reduceCtorEq, Int.reduceEq, Int.reduceLT, Int.reduceLE, decide_true, decide_false, beq_self_eq_true, beq_true, beq_false, Bool.not_true, Bool.not_false, b_lss, b_gtr, b_leq, b_geq, b_eql, b_neq, b_add, b_sub, b_mul, s_eql, s_neq, y_ops, y_nil, y_cons, y_guard, y_some, y_drop, y_do, y_not, y_not0, c_call, c_clo, c_move, c_pick, c_alloc, c_box, c_build, c_bslice, c_load, c_store, c_nilCheck, c_bin, c_binB, c_un, c_i2i, c_i2f, c_f2i, c_s2b, c_b2s, c_strId, c_mkfunc, c_mkslice, c_slice, c_sliceStr, c_fieldAddr, c_field, c_indexSl, c_indexArr, c_elemArr, c_indexStr, c_extract, c_lenStr, c_lenSl, c_append, c_real, c_imag, c_complex, c_min, c_max, c_clear, z_ops, z_nil, z_cons, z_guard, z_some, z_drop, z_do, z_not, z_not0, pairK, forall_eq_or_imp, stays, loadOf, List.reverse_cons, List.reverse_nil, List.mem_cons, List.not_mem_nil, or_false, forall_eq, true_or, or_true, Bool.true_and, lenA_sl, elems, toDatss, toDats, toDat, hlen, h0, h1, d1, d2, d3, d4, d5, d6, d7, hi0, c1, hgs0, hgs, hsx]
        refine tail _ _ .nils [] 8 0 [] 0 0 p z e ?_ ?_ ?_ ?_ ?_ (.inl ⟨rfl, rfl⟩) (hgj _ _) (hbut _ _)
        · simp only [List.length_set, hlen]
        · simp only [gs_same, gs_ne, List.length_set, Nat.reduceLT, Nat.reduceEqDiff, not_false_eq_true, hlen]
        · simp only [gs_same, gs_ne, List.length_set, Nat.reduceLT, Nat.reduceEqDiff, not_false_eq_true, hlen]
        · rw [hgs]; rfl
        · rw [hgs]; rfl
    have d9 : decide (k = 9) = false := decide_eq_false k9
    simp only [if_neg k9]
    obtain ⟨p, z, e⟩ := r
    simp only [q66_1, q66_2, x_seq, x_block, x_skip, x_label, x_cond, x_exit, x_goto, x_ret, k_normal, k_exit, k_goto, k_ret, b_normal, b_exit, b_goto, b_ret, wantedA, aop, ev, putA, List.length_cons, List.length_nil, List.replicate, List.cons_append, List.nil_append, List.append_nil, List.append_assoc, gs_same, gs_ne, gq_same, gq_ne, List.length_set, List.map_cons, List.map_nil, cellsOf, List.all_cons, List.all_nil, cellOk, boxTy, Bool.and_true, Bool.and_self, if_true, ite_true, ite_false, loadAt, storeAt, setAt, hget, hget0, hset, hset0, List.getElem?_cons_zero, List.getElem?_cons_succ, List.set_cons_zero, List.set_cons_succ, Nat.add_zero, Nat.zero_add, Nat.reduceAdd, Nat.reduceSub, Nat.reduceLeDiff, Nat.reduceLT, Nat.reduceEqDiff, Nat.le_refl, and_self, and_true, true_and, mkAgg, toIms, List.drop_zero, List.drop_succ_cons, List.take_succ_cons, List.take_zero, List.length_append, binBool, unA, Bool.false_eq_true, if_false, partA, fillA, fillE, List.take_nil, Nat.zero_ne_one, Nat.one_ne_zero, not_false_eq_true, ne_eq, Nat.succ_ne_self, reduceCtorEq, Int.reduceEq, Int.reduceLT, Int.reduceLE, decide_true, decide_false, beq_self_eq_true, beq_true, beq_false, Bool.not_true, Bool.not_false, b_lss, b_gtr, b_leq, b_geq, b_eql, b_neq, b_add, b_sub, b_mul, s_eql, s_neq, y_ops, y_nil, y_cons, y_guard, y_some, y_drop, y_do, y_not, y_not0, c_call, c_clo, c_move, c_pick, c_alloc, c_box, c_build, c_bslice, c_load, c_store, c_nilCheck, c_bin, c_binB, c_un, c_i2i, c_i2f, c_f2i, c_s2b, c_b2s, c_strId, c_mkfunc, c_mkslice, c_slice, c_sliceStr, c_fieldAddr, c_field, c_indexSl, c_indexArr, c_elemArr, c_indexStr, c_extract, c_lenStr, c_lenSl, c_append, c_real, c_imag, c_complex, c_min, c_max, c_clear, hlen, h0, h1, d1, d2, d3, d4, d5, d6, d7, d9]
    refine tail _ _ .nils [] k 0 [] 0 0 p z e ?_ ?_ ?_ ?_ ?_ (.inl ⟨rfl, rfl⟩) (hgi _) (But.refl.app (Nat.le_refl _) _)
    · simp only [List.length_set, hlen]
    · simp only [gs_same, gs_ne, List.length_set, Nat.reduceLT, Nat.reduceEqDiff, not_false_eq_true, hlen]
    · simp only [gs_same, gs_ne, List.length_set, Nat.reduceLT, Nat.reduceEqDiff, not_false_eq_true, hlen]
    · rw [hget]; rfl
    · rw [hget]; rfl

end Go.Abs.Seat
end
section
set_option linter.unusedVariables false
set_option linter.unusedSimpArgs false
/- What the coder's functions come to: Next, Decode. -/
set_option linter.unusedVariables false
set_option linter.unusedSimpArgs false
namespace Go.Abs.Seat
open Go.Proofs

/-- What the coder's Next finds. -/
def nextR (b : List UInt8) (t : KT) : VT × Nat × Int :=
  if rightT t 6 = true then
    if (readV b 6 t ⟨0, leastT t, 0⟩).2.e = 0 then ((readV b 6 t ⟨0, leastT t, 0⟩).1, (readV b 6 t ⟨0, leastT t, 0⟩).2.p, 0)
    else (zeroV, (readV b 6 t ⟨0, leastT t, 0⟩).2.p, (readV b 6 t ⟨0, leastT t, 0⟩).2.e)
  else (zeroV, 0, 20)

def decodeR (b : List UInt8) (t : KT) : VT × Nat × Int :=
  if (nextR b t).2.2 ≠ 0 then (zeroV, (nextR b t).2.1, (nextR b t).2.2)
  else if (nextR b t).2.1 < b.length then (zeroV, (nextR b t).2.1, 31)
  else ((nextR b t).1, 0, 0)

theorem s42 (b : List UInt8) (s : Nat) (t : KT) (hok : okT t) (hs : b = [] ∨ s = 1) (hb : b.length ≤ 4611686018427387904) (H : Heap) :
    L 42 [.im (.agg (encT t)), .im (.sl s (bytesC b))] H = some (.tup [.im (.agg (encV (nextR b t).1)), .im (.int .i64 ((nextR b t).2.1 : Int)), .im (.int .i64 (nextR b t).2.2)], H) := by
  have h19 := fun H => s19 t hok H
  have hlv := fun (M : Heap) (p : Nat) (e : Int) => leave_deg (H := H) (M := M) (r := .tup [.agg [.im (.int .i64 0), .im (.int .i64 0), .im (.str []), .im (.cpx .f64 0 0), .nils], .im (.int .i64 (p : Int)), .im (.int .i64 e)]) (r' := .tup [.im (.agg (encV zeroV)), .im (.int .i64 (p : Int)), .im (.int .i64 e)]) (by simp [degrade, degrade1, toDat, toDats, zeroV, mkV, encV, encVs]) (by simp [refsLt, refsLts])
  have hlv2 := fun (M : Heap) (v : VT) (p : Nat) (e : Int) => leave_deg (H := H) (M := M) (r := .tup [.im (.agg (encV v)), .im (.int .i64 (p : Int)), .im (.int .i64 e)]) (r' := .tup [.im (.agg (encV v)), .im (.int .i64 (p : Int)), .im (.int .i64 e)]) (by simp [degrade, degrade1, toDat]) (by simp [refsLt, refsLts])
  have z0 : ((0 : Nat) : Int) = 0 := rfl
  unfold nextR
  unfold checkT at h19
  rw [leq F42]
  obtain ⟨hlen, ha⟩ := enter_at (f := f42) (args := [.im (.agg (encT t)), .im (.sl s (bytesC b))]) (Nat.le_of_ble_eq_true rfl)
  have h0 := ha 0 _ rfl
  have h1 := ha 1 _ rfl
  generalize enterA f42 [.im (.agg (encT t)), .im (.sl s (bytesC b))] = tm at *
  change tm.length = 42 at hlen
  by_cases hr : rightT t 6 = true
  · have hle := least_le 6 t hr
    have hpow := pow36 6 (by decide)
    have c65 := fun H => s65 6 t (by decide) hok hr H
    have hg : goodR b ⟨0, leastT t, 0⟩ := ⟨Nat.zero_le _, by simp only; omega, by simp only; omega, fun _ => by simp only; omega⟩
    have c66 := fun (M : Heap) (hM : M.length = 2) => s66 b s (H.length + 2) hs hb 6 t (by decide) hok hr ⟨0, leastT t, 0⟩ (H ++ (M ++ [objC s b ⟨0, leastT t, 0⟩])) hg (by rw [hget, List.getElem?_append_right (by omega), hM]; rfl)
    simp only [if_pos hr] at h19 ⊢
    generalize readV b 6 t ⟨0, leastT t, 0⟩ = q at *
    obtain ⟨v, ⟨p, z, e⟩⟩ := q
    generalize leastT t = l at *
    obtain ⟨tk, ts, tl⟩ := t
    simp only [encT, encTs_map] at h19 c65 c66 h0
    have c66' := c66 [HO.obj none [[.im (.int .i64 tk), .im (.sl ts (tl.map encT))]], HO.obj none [[.im (.int .i64 0), .im (.int .i64 0), .im (.str []), .im (.cpx .f64 0 0), .nils]]] rfl
    simp only [objC, List.cons_append, List.nil_append, z0, hset] at c66'
    by_cases he : e = 0
    · subst he
      simp only [if_true]
      obtain ⟨vk, vi, vt, va, vb, vs, vl⟩ := v
      have hlv2 := fun M => hlv2 M (.mk vk vi vt va vb vs vl) p 0
      simp only [encV] at c66' hlv2 ⊢
      simp only [f42, x_seq, x_block, x_skip, x_label, x_cond, x_exit, x_goto, x_ret, k_normal, k_exit, k_goto, k_ret, b_normal, b_exit, b_goto, b_ret, wantedA, aop, ev, putA, List.length_cons, List.length_nil, List.replicate, List.cons_append, List.nil_append, List.append_nil, List.append_assoc, gs_same, gs_ne, gq_same, gq_ne, List.length_set, List.map_cons, List.map_nil, cellsOf, List.all_cons, List.all_nil, cellOk, boxTy, Bool.and_true, Bool.and_self, if_true, ite_true, ite_false, loadAt, storeAt, setAt, hget, hget0, hset, hset0, List.getElem?_cons_zero, List.getElem?_cons_succ, List.set_cons_zero, List.set_cons_succ, Nat.add_zero, Nat.zero_add, Nat.reduceAdd, Nat.reduceSub, Nat.reduceLeDiff, Nat.reduceLT, Nat.reduceEqDiff, Nat.le_refl, and_self, and_true, true_and, mkAgg, toIms, List.drop_zero, List.drop_succ_cons, List.take_succ_cons, List.take_zero, List.length_append, binBool, unA, Bool.false_eq_true, if_false, partA, fillA, fillE, List.take_nil, Nat.zero_ne_one, Nat.one_ne_zero, not_false_eq_true, ne_eq, Nat.succ_ne_self, reduceCtorEq, Int.reduceEq, Int.reduceLT, Int.reduceLE, decide_true, decide_false, beq_self_eq_true, beq_true, beq_false, Bool.not_true, Bool.not_false, b_lss, b_gtr, b_leq, b_geq, b_eql, b_neq, b_add, b_sub, b_mul, s_eql, s_neq, y_ops, y_nil, y_cons, y_guard, y_some, y_drop, y_do, y_not, y_not0, c_call, c_clo, c_move, c_pick, c_alloc, c_box, c_build, c_bslice, c_load, c_store, c_nilCheck, c_bin, c_binB, c_un, c_i2i, c_i2f, c_f2i, c_s2b, c_b2s, c_strId, c_mkfunc, c_mkslice, c_slice, c_sliceStr, c_fieldAddr, c_field, c_indexSl, c_indexArr, c_elemArr, c_indexStr, c_extract, c_lenStr, c_lenSl, c_append, c_real, c_imag, c_complex, c_min, c_max, c_clear, z_ops, z_nil, z_cons, z_guard, z_some, z_drop, z_do, z_not, z_not0, pairK, forall_eq_or_imp, stays, loadOf, List.reverse_cons, List.reverse_nil, List.mem_cons, List.not_mem_nil, or_false, forall_eq, true_or, or_true, Bool.true_and, endK, resA, tupA, hlen, h0, h1, h19, c65, c66', List.set_cons_succ, List.set_cons_zero, hlv2]
    · have hde : decide (e = 0) = false := decide_eq_false he
      simp only [if_neg he]
      obtain ⟨vk, vi, vt, va, vb, vs, vl⟩ := v
      have hlv := fun M => hlv M p e
      simp only [encV] at c66'
      simp only [f42, x_seq, x_block, x_skip, x_label, x_cond, x_exit, x_goto, x_ret, k_normal, k_exit, k_goto, k_ret, b_normal, b_exit, b_goto, b_ret, wantedA, aop, ev, putA, List.length_cons, List.length_nil, List.replicate, List.cons_append, List.nil_append, List.append_nil, List.append_assoc, gs_same, gs_ne, gq_same, gq_ne, List.length_set, List.map_cons, List.map_nil, cellsOf, List.all_cons, List.all_nil, cellOk, boxTy, Bool.and_true, Bool.and_self, if_true, ite_true, ite_false, loadAt, storeAt, setAt, hget, hget0, hset, hset0, List.getElem?_cons_zero, List.getElem?_cons_succ, List.set_cons_zero, List.set_cons_succ, Nat.add_zero, Nat.zero_add, Nat.reduceAdd, Nat.reduceSub, Nat.reduceLeDiff, Nat.reduceLT, Nat.reduceEqDiff, Nat.le_refl, and_self, and_true, true_and, mkAgg, toIms, List.drop_zero, List.drop_succ_cons, List.take_succ_cons, List.take_zero, List.length_append, binBool, unA, Bool.false_eq_true, if_false, partA, fillA, fillE, List.take_nil, Nat.zero_ne_one, Nat.one_ne_zero, not_false_eq_true, ne_eq, Nat.succ_ne_self, reduceCtorEq, Int.reduceEq, Int.reduceLT, Int.reduceLE, decide_true, decide_false, beq_self_eq_true, beq_true, beq_false, Bool.not_true, Bool.not_false, b_lss, b_gtr, b_leq, b_geq, b_eql, b_neq, b_add, b_sub, b_mul, s_eql, s_neq, y_ops, y_nil, y_cons, y_guard, y_some, y_drop, y_do, y_not, y_not0, c_call, c_clo, c_move, c_pick, c_alloc, c_box, c_build, c_bslice, c_load, c_store, c_nilCheck, c_bin, c_binB, c_un, c_i2i, c_i2f, c_f2i, c_s2b, c_b2s, c_strId, c_mkfunc, c_mkslice, c_slice, c_sliceStr, c_fieldAddr, c_field, c_indexSl, c_indexArr, c_elemArr, c_indexStr, c_extract, c_lenStr, c_lenSl, c_append, c_real, c_imag, c_complex, c_min, c_max, c_clear, z_ops, z_nil, z_cons, z_guard, z_some, z_drop, z_do, z_not, z_not0, pairK, forall_eq_or_imp, stays, loadOf, List.reverse_cons, List.reverse_nil, List.mem_cons, List.not_mem_nil, or_false, forall_eq, true_or, or_true, Bool.true_and, endK, resA, tupA, hlen, h0, h1, h19, c65, c66', hde, List.set_cons_succ, List.set_cons_zero, hlv]
  · simp only [if_neg hr] at h19 ⊢
    have hlv := fun M => hlv M 0 20
    rw [z0] at hlv ⊢
    obtain ⟨tk, ts, tl⟩ := t
    simp only [encT] at h19 h0
    simp only [f42, x_seq, x_block, x_skip, x_label, x_cond, x_exit, x_goto, x_ret, k_normal, k_exit, k_goto, k_ret, b_normal, b_exit, b_goto, b_ret, wantedA, aop, ev, putA, List.length_cons, List.length_nil, List.replicate, List.cons_append, List.nil_append, List.append_nil, List.append_assoc, gs_same, gs_ne, gq_same, gq_ne, List.length_set, List.map_cons, List.map_nil, cellsOf, List.all_cons, List.all_nil, cellOk, boxTy, Bool.and_true, Bool.and_self, if_true, ite_true, ite_false, loadAt, storeAt, setAt, hget, hget0, hset, hset0, List.getElem?_cons_zero, List.getElem?_cons_succ, List.set_cons_zero, List.set_cons_succ, Nat.add_zero, Nat.zero_add, Nat.reduceAdd, Nat.reduceSub, Nat.reduceLeDiff, Nat.reduceLT, Nat.reduceEqDiff, Nat.le_refl, and_self, and_true, true_and, mkAgg, toIms, List.drop_zero, List.drop_succ_cons, List.take_succ_cons, List.take_zero, List.length_append, binBool, unA, Bool.false_eq_true, if_false, partA, fillA, fillE, List.take_nil, Nat.zero_ne_one, Nat.one_ne_zero, not_false_eq_true, ne_eq, Nat.succ_ne_self, reduceCtorEq, Int.reduceEq, Int.reduceLT, Int.reduceLE, decide_true, decide_false, beq_self_eq_true, beq_true, beq_false, Bool.not_true, Bool.not_false, b_lss, b_gtr, b_leq, b_geq, b_eql, b_neq, b_add, b_sub, b_mul, s_eql, s_neq, y_ops, y_nil, y_cons, y_guard, y_some, y_drop, y_do, y_not, y_not0, c_call, c_clo, c_move, c_pick, c_alloc, c_box, c_build, c_bslice, c_load, c_store, c_nilCheck, c_bin, c_binB, c_un, c_i2i, c_i2f, c_f2i, c_s2b, c_b2s, c_strId, c_mkfunc, c_mkslice, c_slice, c_sliceStr, c_fieldAddr, c_field, c_indexSl, c_indexArr, c_elemArr, c_indexStr, c_extract, c_lenStr, c_lenSl, c_append, c_real, c_imag, c_complex, c_min, c_max, c_clear, endK, resA, tupA, hlen, h0, h1, h19, hlv]

theorem s40 (b : List UInt8) (s : Nat) (t : KT) (hok : okT t) (hs : b = [] ∨ s = 1) (hb : b.length ≤ 4611686018427387904) (H : Heap) :
    L 40 [.im (.agg (encT t)), .im (.sl s (bytesC b))] H = some (.tup [.im (.agg (encV (decodeR b t).1)), .im (.int .i64 ((decodeR b t).2.1 : Int)), .im (.int .i64 (decodeR b t).2.2)], H) := by
  have h42 := fun H => s42 b s t hok hs hb H
  have hlv := fun (M : Heap) (p : Nat) (e : Int) => leave_deg (H := H) (M := M) (r := .tup [.agg [.im (.int .i64 0), .im (.int .i64 0), .im (.str []), .im (.cpx .f64 0 0), .nils], .im (.int .i64 (p : Int)), .im (.int .i64 e)]) (r' := .tup [.im (.agg (encV zeroV)), .im (.int .i64 (p : Int)), .im (.int .i64 e)]) (by simp [degrade, degrade1, toDat, toDats, zeroV, mkV, encV, encVs]) (by simp [refsLt, refsLts])
  have hlv2 := fun (M : Heap) (v : VT) (p : Nat) (e : Int) => leave_deg (H := H) (M := M) (r := .tup [.im (.agg (encV v)), .im (.int .i64 (p : Int)), .im (.int .i64 e)]) (r' := .tup [.im (.agg (encV v)), .im (.int .i64 (p : Int)), .im (.int .i64 e)]) (by simp [degrade, degrade1, toDat]) (by simp [refsLt, refsLts])
  have z0 : ((0 : Nat) : Int) = 0 := rfl
  have hbl := bytesC_len b
  unfold decodeR
  rw [leq F40]
  obtain ⟨hlen, ha⟩ := enter_at (f := f40) (args := [.im (.agg (encT t)), .im (.sl s (bytesC b))]) (Nat.le_of_ble_eq_true rfl)
  have h0 := ha 0 _ rfl
  have h1 := ha 1 _ rfl
  generalize enterA f40 [.im (.agg (encT t)), .im (.sl s (bytesC b))] = tm at *
  change tm.length = 29 at hlen
  generalize nextR b t = q at *
  obtain ⟨v, p, e⟩ := q
  obtain ⟨tk, ts, tl⟩ := t
  obtain ⟨vk, vi, vt, va, vb, vs, vl⟩ := v
  simp only [encT, encV] at h42 h0 ⊢
  by_cases he : e = 0
  · subst he
    simp only [ne_eq, not_true_eq_false, if_false]
    by_cases hp : p < b.length
    · have hd : decide ((p : Int) < (b.length : Int)) = true := decide_eq_true (by omega)
      have hlv := fun M => hlv M p 31
      simp only [if_pos hp]
      simp only [f40, x_seq, x_block, x_skip, x_label, x_cond, x_exit, x_goto, x_ret, k_normal, k_exit, k_goto, k_ret, b_normal, b_exit, b_goto, b_ret, wantedA, aop, ev, putA, List.length_cons, List.length_nil, List.replicate, List.cons_append, List.nil_append, List.append_nil, List.append_assoc, gs_same, gs_ne, gq_same, gq_ne, List.length_set, List.map_cons, List.map_nil, cellsOf, List.all_cons, List.all_nil, cellOk, boxTy, Bool.and_true, Bool.and_self, if_true, ite_true, ite_false, loadAt, storeAt, setAt, hget, hget0, hset, hset0, List.getElem?_cons_zero, List.getElem?_cons_succ, List.set_cons_zero, List.set_cons_succ, Nat.add_zero, Nat.zero_add, Nat.reduceAdd, Nat.reduceSub, Nat.reduceLeDiff, Nat.reduceLT, Nat.reduceEqDiff, Nat.le_refl, and_self, and_true, true_and, mkAgg, toIms, List.drop_zero, List.drop_succ_cons, List.take_succ_cons, List.take_zero, List.length_append, binBool, unA, Bool.false_eq_true, if_false, partA, fillA, fillE, List.take_nil, Nat.zero_ne_one, Nat.one_ne_zero, not_false_eq_true, ne_eq, Nat.succ_ne_self, reduceCtorEq, Int.reduceEq, Int.reduceLT, Int.reduceLE, decide_true, decide_false, beq_self_eq_true, beq_true, beq_false, Bool.not_true, Bool.not_false, b_lss, b_gtr, b_leq, b_geq, b_eql, b_neq, b_add, b_sub, b_mul, s_eql, s_neq, y_ops, y_nil, y_cons, y_guard, y_some, y_drop, y_do, y_not, y_not0, c_call, c_clo, c_move, c_pick, c_alloc, c_box, c_build, c_bslice, c_load, c_store, c_nilCheck, c_bin, c_binB, c_un, c_i2i, c_i2f, c_f2i, c_s2b, c_b2s, c_strId, c_mkfunc, c_mkslice, c_slice, c_sliceStr, c_fieldAddr, c_field, c_indexSl, c_indexArr, c_elemArr, c_indexStr, c_extract, c_lenStr, c_lenSl, c_append, c_real, c_imag, c_complex, c_min, c_max, c_clear, lenA_sl, endK, resA, tupA, hlen, h0, h1, h42, hbl, hd, hlv]
      try rfl
    · have hd : decide ((p : Int) < (b.length : Int)) = false := decide_eq_false (by omega)
      have hlv2 := fun M => hlv2 M (.mk vk vi vt va vb vs vl) 0 0
      simp only [if_neg hp]
      simp only [encV, z0] at hlv2 ⊢
      simp only [f40, x_seq, x_block, x_skip, x_label, x_cond, x_exit, x_goto, x_ret, k_normal, k_exit, k_goto, k_ret, b_normal, b_exit, b_goto, b_ret, wantedA, aop, ev, putA, List.length_cons, List.length_nil, List.replicate, List.cons_append, List.nil_append, List.append_nil, List.append_assoc, gs_same, gs_ne, gq_same, gq_ne, List.length_set, List.map_cons, List.map_nil, cellsOf, List.all_cons, List.all_nil, cellOk, boxTy, Bool.and_true, Bool.and_self, if_true, ite_true, ite_false, loadAt, storeAt, setAt, hget, hget0, hset, hset0, List.getElem?_cons_zero, List.getElem?_cons_succ, List.set_cons_zero, List.set_cons_succ, Nat.add_zero, Nat.zero_add, Nat.reduceAdd, Nat.reduceSub, Nat.reduceLeDiff, Nat.reduceLT, Nat.reduceEqDiff, Nat.le_refl, and_self, and_true, true_and, mkAgg, toIms, List.drop_zero, List.drop_succ_cons, List.take_succ_cons, List.take_zero, List.length_append, binBool, unA, Bool.false_eq_true, if_false, partA, fillA, fillE, List.take_nil, Nat.zero_ne_one, Nat.one_ne_zero, not_false_eq_true, ne_eq, Nat.succ_ne_self, reduceCtorEq, Int.reduceEq, Int.reduceLT, Int.reduceLE, decide_true, decide_false, beq_self_eq_true, beq_true, beq_false, Bool.not_true, Bool.not_false, b_lss, b_gtr, b_leq, b_geq, b_eql, b_neq, b_add, b_sub, b_mul, s_eql, s_neq, y_ops, y_nil, y_cons, y_guard, y_some, y_drop, y_do, y_not, y_not0, c_call, c_clo, c_move, c_pick, c_alloc, c_box, c_build, c_bslice, c_load, c_store, c_nilCheck, c_bin, c_binB, c_un, c_i2i, c_i2f, c_f2i, c_s2b, c_b2s, c_strId, c_mkfunc, c_mkslice, c_slice, c_sliceStr, c_fieldAddr, c_field, c_indexSl, c_indexArr, c_elemArr, c_indexStr, c_extract, c_lenStr, c_lenSl, c_append, c_real, c_imag, c_complex, c_min, c_max, c_clear, lenA_sl, endK, resA, tupA, hlen, h0, h1, h42, hbl, hd, hlv2]
  · have hde : decide (e = 0) = false := decide_eq_false he
    have hlv := fun M => hlv M p e
    simp only [ne_eq, he, not_false_eq_true, if_true]
    simp only [f40, x_seq, x_block, x_skip, x_label, x_cond, x_exit, x_goto, x_ret, k_normal, k_exit, k_goto, k_ret, b_normal, b_exit, b_goto, b_ret, wantedA, aop, ev, putA, List.length_cons, List.length_nil, List.replicate, List.cons_append, List.nil_append, List.append_nil, List.append_assoc, gs_same, gs_ne, gq_same, gq_ne, List.length_set, List.map_cons, List.map_nil, cellsOf, List.all_cons, List.all_nil, cellOk, boxTy, Bool.and_true, Bool.and_self, if_true, ite_true, ite_false, loadAt, storeAt, setAt, hget, hget0, hset, hset0, List.getElem?_cons_zero, List.getElem?_cons_succ, List.set_cons_zero, List.set_cons_succ, Nat.add_zero, Nat.zero_add, Nat.reduceAdd, Nat.reduceSub, Nat.reduceLeDiff, Nat.reduceLT, Nat.reduceEqDiff, Nat.le_refl, and_self, and_true, true_and, mkAgg, toIms, List.drop_zero, List.drop_succ_cons, List.take_succ_cons, List.take_zero, List.length_append, binBool, unA, Bool.false_eq_true, if_false, partA, fillA, fillE, List.take_nil, Nat.zero_ne_one, Nat.one_ne_zero, not_false_eq_true, ne_eq, Nat.succ_ne_self, reduceCtorEq, Int.reduceEq, Int.reduceLT, Int.reduceLE, decide_true, decide_false, beq_self_eq_true, beq_true, beq_false, Bool.not_true, Bool.not_false, b_lss, b_gtr, b_leq, b_geq, b_eql, b_neq, b_add, b_sub, b_mul, s_eql, s_neq, y_ops, y_nil, y_cons, y_guard, y_some, y_drop, y_do, y_not, y_not0, c_call, c_clo, c_move, c_pick, c_alloc, c_box, c_build, c_bslice, c_load, c_store, c_nilCheck, c_bin, c_binB, c_un, c_i2i, c_i2f, c_f2i, c_s2b, c_b2s, c_strId, c_mkfunc, c_mkslice, c_slice, c_sliceStr, c_fieldAddr, c_field, c_indexSl, c_indexArr, c_elemArr, c_indexStr, c_extract, c_lenStr, c_lenSl, c_append, c_real, c_imag, c_complex, c_min, c_max, c_clear, lenA_sl, endK, resA, tupA, hlen, h0, h1, h42, hde, hlv]
    try rfl

end Go.Abs.Seat
end
section
set_option linter.unusedVariables false
set_option linter.unusedSimpArgs false
/- What the coder's functions come to: what the reference gets of a type; its loops over bytes. -/
set_option linter.unusedVariables false
set_option linter.unusedSimpArgs false
namespace Go.Abs.Seat
open Go.Proofs

/-- What the reference gets: the value, the place, the error, the size. -/
structure GS where
  v : VT
  p : Nat
  e : Int
  z : Int

/-- One of a point's numbers. -/
def ptG (b : List UInt8) (p : Nat) : Int × Nat × Int :=
  match b[p]? with
  | none => (0, b.length, 30)
  | some c1 => if 31 < c1.toNat then (0, p, 31) else
    match b[p + 1]?, b[p + 2]? with
    | some c2, some c3 => ((c1.toNat : Int) * 65536 + (c2.toNat : Int) * 256 + (c3.toNat : Int) - 1048576, p + 3, 0)
    | _, _ => (0, b.length, 30)

def get8 (b : List UInt8) : Nat → Nat → Nat → Nat
  | 0, _, n => n
  | m + 1, p, n => get8 b m (p + 1) ((n * 256 + (b.getD p 0).toNat) % 18446744073709551616)

def pairG (f : KT → Nat → Int → GS) : List KT → Nat → Int → List VT → List VT × Nat × Int × Int
  | [], p, z, out => (out, p, 0, z)
  | a :: l, p, z, out => if (f a p z).e = 0 then pairG f l (f a p z).p (f a p z).z (out ++ [(f a p z).v]) else ([], (f a p z).p, (f a p z).e, (f a p z).z)

def listG (f : Nat → Int → GS) (b : List UInt8) (l : Int) : Nat → Nat → Int → List VT → List VT × Nat × Int × Int
  | 0, p, z, out => match b[p]? with
    | none => ([], p, 30, z)
    | some c => if c = 0 then (out, p + 1, 0, z) else ([], p, 31, z)
  | m + 1, p, z, out => match b[p]? with
    | none => ([], p, 30, z)
    | some c => if c = 0 then (out, p + 1, 0, z) else if 1 < c.toNat ∨ 2000 < z + l then ([], p, 31, z)
      else if (f (p + 1) (z + l)).e = 0 then listG f b l m (f (p + 1) (z + l)).p (f (p + 1) (z + l)).z (out ++ [(f (p + 1) (z + l)).v]) else ([], (f (p + 1) (z + l)).p, (f (p + 1) (z + l)).e, (f (p + 1) (z + l)).z)

def optG (f : Nat → Int → GS) (b : List UInt8) (l : Int) (p : Nat) (z : Int) : GS := match b[p]? with
  | none => ⟨zeroV, p, 30, z⟩
  | some c => if c = 0 then ⟨mkV 8 0 [] 0 0 [], p + 1, 0, z⟩ else if 1 < c.toNat ∨ 2000 < z + l then ⟨zeroV, p, 31, z⟩
    else if (f (p + 1) (z + l)).e = 0 then ⟨mkV 9 0 [] 0 0 [(f (p + 1) (z + l)).v], (f (p + 1) (z + l)).p, 0, (f (p + 1) (z + l)).z⟩ else ⟨zeroV, (f (p + 1) (z + l)).p, (f (p + 1) (z + l)).e, (f (p + 1) (z + l)).z⟩

def getV (b : List UInt8) : Nat → KT → Nat → Int → GS
  | 0, _, p, z => ⟨zeroV, p, 0, z⟩
  | d + 1, .mk k _ args, p, z =>
    if k = 1 then match b[p]? with
      | none => ⟨zeroV, p, 30, z⟩
      | some c => if 1 < c.toNat then ⟨zeroV, p, 31, z⟩ else ⟨mkV 1 (c.toNat : Int) [] 0 0 [], p + 1, 0, z⟩
    else if k = 2 then if b.length < p + 8 then ⟨zeroV, b.length, 30, z⟩ else ⟨mkV 2 (IntKind.i64.wrap (((get8 b 8 p 0 + 9223372036854775808) % 18446744073709551616 : Nat) : Int)) [] 0 0 [], p + 8, 0, z⟩
    else if k = 3 ∨ k = 4 then ⟨mkV (if (getT b (b.length + 1) p []).2.2 = 0 then k else 0) 0 (getT b (b.length + 1) p []).1 0 0 [], (getT b (b.length + 1) p []).2.1, (getT b (b.length + 1) p []).2.2, z⟩
    else if k = 5 then if (ptG b p).2.2 = 0 then if (ptG b (ptG b p).2.1).2.2 = 0 then ⟨pointV (ptG b p).1 (ptG b (ptG b p).2.1).1, (ptG b (ptG b p).2.1).2.1, 0, z⟩ else ⟨zeroV, (ptG b (ptG b p).2.1).2.1, (ptG b (ptG b p).2.1).2.2, z⟩ else ⟨zeroV, (ptG b p).2.1, (ptG b p).2.2, z⟩
    else if k = 6 then if (pairG (getV b d) args p z []).2.2.1 = 0 then ⟨mkV 6 0 [] 0 0 (pairG (getV b d) args p z []).1, (pairG (getV b d) args p z []).2.1, 0, (pairG (getV b d) args p z []).2.2.2⟩ else ⟨zeroV, (pairG (getV b d) args p z []).2.1, (pairG (getV b d) args p z []).2.2.1, (pairG (getV b d) args p z []).2.2.2⟩
    else match args with
      | [x] => if k = 9 then optG (getV b d x) b (leastT x) p z
        else if (listG (getV b d x) b (leastT x) 64 p z []).2.2.1 = 0 then ⟨mkV k 0 [] 0 0 (listG (getV b d x) b (leastT x) 64 p z []).1, (listG (getV b d x) b (leastT x) 64 p z []).2.1, 0, (listG (getV b d x) b (leastT x) 64 p z []).2.2.2⟩ else ⟨zeroV, (listG (getV b d x) b (leastT x) 64 p z []).2.1, (listG (getV b d x) b (leastT x) 64 p z []).2.2.1, (listG (getV b d x) b (leastT x) 64 p z []).2.2.2⟩
      | _ => ⟨zeroV, p, 0, z⟩

theorem k68 (il : Nat) (H : Heap) (hil : il < H.length) (tm : List AV) (H' : Heap) (lv : AV) (l : List VT) (k i : Int) (txt : List UInt8) (fa fb : Nat) (p : Nat) (z e : Int) (h8 : tm.getD 8 undefA = .ptr (H.length + 1) 0 0) (h9 : tm.getD 9 undefA = .im (.int .i64 (p : Int))) (h10 : tm.getD 10 undefA = .im (.int .i64 e))
    (ho : H'[H.length + 1]? = some (.obj none [[.im (.int .i64 k), .im (.int .i64 i), .im (.str txt), .im (.cpx .f64 fa fb), lv]])) (hlv : LV lv l) (oil : H'[il]? = some (numO z)) (hb : But H.length il H H') :
    endK f68 H .ret tm H' = some (.tup [.im (.agg (encV (mkV k i txt fa fb l))), .im (.int .i64 (p : Int)), .im (.int .i64 e)], H.set il (numO z)) := by
  have hd1 : ∀ (r : AV) (d : Dat), toDat r = some d → degrade (.tup [r, .im (.int .i64 (p : Int)), .im (.int .i64 e)]) = .tup [.im d, .im (.int .i64 (p : Int)), .im (.int .i64 e)] := fun r d h => by simp [degrade, degrade1, toDat, h]
  have := fun (r : AV) (hr : toDat r = some (.agg (encV (mkV k i txt fa fb l)))) => leave_but (keep := false) (r := .tup [r, .im (.int .i64 (p : Int)), .im (.int .i64 e)]) hb oil rfl (by simp [hd1 _ _ hr, refsLt, refsLts]) hil
  simp only [Bool.false_eq_true, if_false] at this
  rcases hlv with ⟨rfl, rfl⟩ | ⟨tok, rfl, hne⟩ | rfl
  · have e1 : toDat (.agg [.im (.int .i64 k), .im (.int .i64 i), .im (.str txt), .im (.cpx .f64 fa fb), .nils]) = some (.agg (encV (mkV k i txt fa fb []))) := by simp [toDat, toDats, mkV, encV, encVs]
    have h := this _ e1
    rw [hd1 _ _ e1] at h
    simp only [f68, x_seq, x_block, x_skip, x_label, x_cond, x_exit, x_goto, x_ret, k_normal, k_exit, k_goto, k_ret, b_normal, b_exit, b_goto, b_ret, wantedA, aop, ev, putA, List.length_cons, List.length_nil, List.replicate, List.cons_append, List.nil_append, List.append_nil, List.append_assoc, gs_same, gs_ne, gq_same, gq_ne, List.length_set, List.map_cons, List.map_nil, cellsOf, List.all_cons, List.all_nil, cellOk, boxTy, Bool.and_true, Bool.and_self, if_true, ite_true, ite_false, loadAt, storeAt, setAt, hget, hget0, hset, hset0, List.getElem?_cons_zero, List.getElem?_cons_succ, List.set_cons_zero, List.set_cons_succ, Nat.add_zero, Nat.zero_add, Nat.reduceAdd, Nat.reduceSub, Nat.reduceLeDiff, Nat.reduceLT, Nat.reduceEqDiff, Nat.le_refl, and_self, and_true, true_and, mkAgg, toIms, List.drop_zero, List.drop_succ_cons, List.take_succ_cons, List.take_zero, List.length_append, binBool, unA, Bool.false_eq_true, if_false, partA, fillA, fillE, List.take_nil, Nat.zero_ne_one, Nat.one_ne_zero, not_false_eq_true, ne_eq, Nat.succ_ne_self, reduceCtorEq, Int.reduceEq, Int.reduceLT, Int.reduceLE, decide_true, decide_false, lenA, beq_self_eq_true, beq_true, beq_false, Bool.not_true, Bool.not_false, b_lss, b_gtr, b_leq, b_geq, b_eql, b_neq, b_add, b_sub, b_mul, s_eql, s_neq, y_ops, y_nil, y_cons, y_guard, y_some, y_drop, y_do, y_not, y_not0, c_call, c_clo, c_move, c_pick, c_alloc, c_box, c_build, c_bslice, c_load, c_store, c_nilCheck, c_bin, c_binB, c_un, c_i2i, c_i2f, c_f2i, c_s2b, c_b2s, c_strId, c_mkfunc, c_mkslice, c_slice, c_sliceStr, c_fieldAddr, c_field, c_indexSl, c_indexArr, c_elemArr, c_indexStr, c_extract, c_lenStr, c_lenSl, c_append, c_real, c_imag, c_complex, c_min, c_max, c_clear, endK, resA, tupA, h8, h9, h10, ho, h]
  · have hl0 : ¬ l.length = 0 := fun h => hne (List.length_eq_zero_iff.1 h)
    have e1 : toDat (.agg [.im (.int .i64 k), .im (.int .i64 i), .im (.str txt), .im (.cpx .f64 fa fb), .asl 5 (encVs l) tok]) = some (.agg (encV (mkV k i txt fa fb l))) := by simp [toDat, toDats, mkV, encV, hl0]
    have h := this _ e1
    rw [hd1 _ _ e1] at h
    simp only [f68, x_seq, x_block, x_skip, x_label, x_cond, x_exit, x_goto, x_ret, k_normal, k_exit, k_goto, k_ret, b_normal, b_exit, b_goto, b_ret, wantedA, aop, ev, putA, List.length_cons, List.length_nil, List.replicate, List.cons_append, List.nil_append, List.append_nil, List.append_assoc, gs_same, gs_ne, gq_same, gq_ne, List.length_set, List.map_cons, List.map_nil, cellsOf, List.all_cons, List.all_nil, cellOk, boxTy, Bool.and_true, Bool.and_self, if_true, ite_true, ite_false, loadAt, storeAt, setAt, hget, hget0, hset, hset0, List.getElem?_cons_zero, List.getElem?_cons_succ, List.set_cons_zero, List.set_cons_succ, Nat.add_zero, Nat.zero_add, Nat.reduceAdd, Nat.reduceSub, Nat.reduceLeDiff, Nat.reduceLT, Nat.reduceEqDiff, Nat.le_refl, and_self, and_true, true_and, mkAgg, toIms, List.drop_zero, List.drop_succ_cons, List.take_succ_cons, List.take_zero, List.length_append, binBool, unA, Bool.false_eq_true, if_false, partA, fillA, fillE, List.take_nil, Nat.zero_ne_one, Nat.one_ne_zero, not_false_eq_true, ne_eq, Nat.succ_ne_self, reduceCtorEq, Int.reduceEq, Int.reduceLT, Int.reduceLE, decide_true, decide_false, lenA, beq_self_eq_true, beq_true, beq_false, Bool.not_true, Bool.not_false, b_lss, b_gtr, b_leq, b_geq, b_eql, b_neq, b_add, b_sub, b_mul, s_eql, s_neq, y_ops, y_nil, y_cons, y_guard, y_some, y_drop, y_do, y_not, y_not0, c_call, c_clo, c_move, c_pick, c_alloc, c_box, c_build, c_bslice, c_load, c_store, c_nilCheck, c_bin, c_binB, c_un, c_i2i, c_i2f, c_f2i, c_s2b, c_b2s, c_strId, c_mkfunc, c_mkslice, c_slice, c_sliceStr, c_fieldAddr, c_field, c_indexSl, c_indexArr, c_elemArr, c_indexStr, c_extract, c_lenStr, c_lenSl, c_append, c_real, c_imag, c_complex, c_min, c_max, c_clear, endK, resA, tupA, h8, h9, h10, ho, h]
  · have e1 : toDat (.im (.agg (encV (mkV k i txt fa fb l)))) = some (.agg (encV (mkV k i txt fa fb l))) := rfl
    have h := this _ e1
    rw [hd1 _ _ e1] at h
    simp only [mkV, encV] at h ⊢
    simp only [f68, x_seq, x_block, x_skip, x_label, x_cond, x_exit, x_goto, x_ret, k_normal, k_exit, k_goto, k_ret, b_normal, b_exit, b_goto, b_ret, wantedA, aop, ev, putA, List.length_cons, List.length_nil, List.replicate, List.cons_append, List.nil_append, List.append_nil, List.append_assoc, gs_same, gs_ne, gq_same, gq_ne, List.length_set, List.map_cons, List.map_nil, cellsOf, List.all_cons, List.all_nil, cellOk, boxTy, Bool.and_true, Bool.and_self, if_true, ite_true, ite_false, loadAt, storeAt, setAt, hget, hget0, hset, hset0, List.getElem?_cons_zero, List.getElem?_cons_succ, List.set_cons_zero, List.set_cons_succ, Nat.add_zero, Nat.zero_add, Nat.reduceAdd, Nat.reduceSub, Nat.reduceLeDiff, Nat.reduceLT, Nat.reduceEqDiff, Nat.le_refl, and_self, and_true, true_and, mkAgg, toIms, List.drop_zero, List.drop_succ_cons, List.take_succ_cons, List.take_zero, List.length_append, binBool, unA, Bool.false_eq_true, if_false, partA, fillA, fillE, List.take_nil, Nat.zero_ne_one, Nat.one_ne_zero, not_false_eq_true, ne_eq, Nat.succ_ne_self, reduceCtorEq, Int.reduceEq, Int.reduceLT, Int.reduceLE, decide_true, decide_false, lenA, beq_self_eq_true, beq_true, beq_false, Bool.not_true, Bool.not_false, b_lss, b_gtr, b_leq, b_geq, b_eql, b_neq, b_add, b_sub, b_mul, s_eql, s_neq, y_ops, y_nil, y_cons, y_guard, y_some, y_drop, y_do, y_not, y_not0, c_call, c_clo, c_move, c_pick, c_alloc, c_box, c_build, c_bslice, c_load, c_store, c_nilCheck, c_bin, c_binB, c_un, c_i2i, c_i2f, c_f2i, c_s2b, c_b2s, c_strId, c_mkfunc, c_mkslice, c_slice, c_sliceStr, c_fieldAddr, c_field, c_indexSl, c_indexArr, c_elemArr, c_indexStr, c_extract, c_lenStr, c_lenSl, c_append, c_real, c_imag, c_complex, c_min, c_max, c_clear, endK, resA, tupA, h8, h9, h10, ho, h]

theorem l68_8 (b : List UInt8) (hb : b.length ≤ 4611686018427387904) (p : Nat) (hp : p + 8 ≤ b.length) (s : Nat) (hs : s = 1) :
    ∀ (m i : Nat), i + m = 8 → ∀ (n : Nat) (tm : List AV) (H : Heap), n < 18446744073709551616 → tm.length = 268 → tm.getD 1 undefA = .im (.sl s (bytesC b)) → tm.getD 2 undefA = .im (.int .i64 (p : Int)) → tm.getD 12 undefA = .im (.int .u64 (n : Int)) → tm.getD 13 undefA = .im (.int .i64 (i : Int)) →
    ∃ e tm' H', Λ c68_3 tm H = some (e, tm', H') ∧ e = .exit 1 ∧ H' = H ∧ tm'.length = 268 ∧ tm'.getD 2 undefA = tm.getD 2 undefA ∧ tm'.getD 8 undefA = tm.getD 8 undefA ∧ tm'.getD 11 undefA = tm.getD 11 undefA ∧ tm'.getD 12 undefA = .im (.int .u64 (get8 b m (p + i) n : Int)) ∧ get8 b m (p + i) n < 18446744073709551616
  | 0, i, hi, n, tm, H, hn, hlen, h1, h2, h12, h13 => by
    have hc : decide ((i : Int) < 8) = false := decide_eq_false (by omega)
    rw [l68_3]
    simp only [b68_3, x_seq, x_block, x_skip, x_label, x_cond, x_exit, x_goto, x_ret, k_normal, k_exit, k_goto, k_ret, b_normal, b_exit, b_goto, b_ret, wantedA, aop, ev, putA, List.length_cons, List.length_nil, List.replicate, List.cons_append, List.nil_append, List.append_nil, List.append_assoc, gs_same, gs_ne, gq_same, gq_ne, List.length_set, List.map_cons, List.map_nil, cellsOf, List.all_cons, List.all_nil, cellOk, boxTy, Bool.and_true, Bool.and_self, if_true, ite_true, ite_false, loadAt, storeAt, setAt, hget, hget0, hset, hset0, List.getElem?_cons_zero, List.getElem?_cons_succ, List.set_cons_zero, List.set_cons_succ, Nat.add_zero, Nat.zero_add, Nat.reduceAdd, Nat.reduceSub, Nat.reduceLeDiff, Nat.reduceLT, Nat.reduceEqDiff, Nat.le_refl, and_self, and_true, true_and, mkAgg, toIms, List.drop_zero, List.drop_succ_cons, List.take_succ_cons, List.take_zero, List.length_append, binBool, unA, Bool.false_eq_true, if_false, partA, fillA, fillE, List.take_nil, Nat.zero_ne_one, Nat.one_ne_zero, not_false_eq_true, ne_eq, Nat.succ_ne_self, reduceCtorEq, Int.reduceEq, Int.reduceLT, Int.reduceLE, decide_true, decide_false, beq_self_eq_true, beq_true, beq_false, Bool.not_true, Bool.not_false, b_lss, b_gtr, b_leq, b_geq, b_eql, b_neq, b_add, b_sub, b_mul, s_eql, s_neq, y_ops, y_nil, y_cons, y_guard, y_some, y_drop, y_do, y_not, y_not0, c_call, c_clo, c_move, c_pick, c_alloc, c_box, c_build, c_bslice, c_load, c_store, c_nilCheck, c_bin, c_binB, c_un, c_i2i, c_i2f, c_f2i, c_s2b, c_b2s, c_strId, c_mkfunc, c_mkslice, c_slice, c_sliceStr, c_fieldAddr, c_field, c_indexSl, c_indexArr, c_elemArr, c_indexStr, c_extract, c_lenStr, c_lenSl, c_append, c_real, c_imag, c_complex, c_min, c_max, c_clear, hlen, h13, hc]
    exact ⟨_, _, _, rfl, rfl, rfl, by simp only [List.length_set, hlen], by simp only [gs_same, gs_ne, List.length_set, Nat.reduceLT, Nat.reduceEqDiff, not_false_eq_true, hlen], by simp only [gs_same, gs_ne, List.length_set, Nat.reduceLT, Nat.reduceEqDiff, not_false_eq_true, hlen], by simp only [gs_same, gs_ne, List.length_set, Nat.reduceLT, Nat.reduceEqDiff, not_false_eq_true, hlen], by simp only [gs_same, gs_ne, List.length_set, Nat.reduceLT, Nat.reduceEqDiff, not_false_eq_true, hlen, h12, get8], hn⟩
  | m + 1, i, hi, n, tm, H, hn, hlen, h1, h2, h12, h13 => by
    subst hs
    have hc : decide ((i : Int) < 8) = true := decide_eq_true (by omega)
    have hlt : p + i < b.length := by omega
    have hbp : b[p + i]? = some b[p + i] := List.getElem?_eq_getElem hlt
    have hgd : b.getD (p + i) 0 = b[p + i] := by rw [List.getD_eq_getElem?_getD, hbp]; rfl
    simp only [get8, hgd]
    generalize b[p + i] = c at hbp
    have hget := bytesC_get hbp
    have hix := idx_nat (n := b.length) (i := p + i) hlt
    have hbl := bytesC_len b
    have hwp : IntKind.i64.wrap ((p : Int) + (i : Int)) = ((p + i : Nat) : Int) := by rw [Go.Abs.Seat.wrap_small _ (by omega)]; omega
    have hwr := wrap_nat (i := i) (by omega)
    have w1 : IntKind.u64.wrap ((c.toNat : Nat) : Int) = ((c.toNat : Nat) : Int) := by rw [wrap_u64, Nat.mod_eq_of_lt (by have := c.toNat_lt; omega)]
    have w2 : IntKind.u64.wrap ((n : Int) * 256) = ((n * 256 % 18446744073709551616 : Nat) : Int) := by
      rw [show (n : Int) * 256 = ((n * 256 : Nat) : Int) by omega, wrap_u64]
    have w3 : IntKind.u64.wrap (((n * 256 % 18446744073709551616 : Nat) : Int) + ((c.toNat : Nat) : Int)) = (((n * 256 + c.toNat) % 18446744073709551616 : Nat) : Int) := by
      rw [show ((n * 256 % 18446744073709551616 : Nat) : Int) + ((c.toNat : Nat) : Int) = ((n * 256 % 18446744073709551616 + c.toNat : Nat) : Int) by omega, wrap_u64, Nat.mod_add_mod]
    have key := l68_8 b hb p hp 1 rfl m (i + 1) (by omega) ((n * 256 + c.toNat) % 18446744073709551616)
    rw [l68_3]
    simp only [b68_3, x_seq, x_block, x_skip, x_label, x_cond, x_exit, x_goto, x_ret, k_normal, k_exit, k_goto, k_ret, b_normal, b_exit, b_goto, b_ret, wantedA, aop, ev, putA, List.length_cons, List.length_nil, List.replicate, List.cons_append, List.nil_append, List.append_nil, List.append_assoc, gs_same, gs_ne, gq_same, gq_ne, List.length_set, List.map_cons, List.map_nil, cellsOf, List.all_cons, List.all_nil, cellOk, boxTy, Bool.and_true, Bool.and_self, if_true, ite_true, ite_false, loadAt, storeAt, setAt, hget, hget0, hset, hset0, List.getElem?_cons_zero, List.getElem?_cons_succ, List.set_cons_zero, List.set_cons_succ, Nat.add_zero, Nat.zero_add, Nat.reduceAdd, Nat.reduceSub, Nat.reduceLeDiff, Nat.reduceLT, Nat.reduceEqDiff, Nat.le_refl, and_self, and_true, true_and, mkAgg, toIms, List.drop_zero, List.drop_succ_cons, List.take_succ_cons, List.take_zero, List.length_append, binBool, unA, Bool.false_eq_true, if_false, partA, fillA, fillE, List.take_nil, Nat.zero_ne_one, Nat.one_ne_zero, not_false_eq_true, ne_eq, Nat.succ_ne_self, reduceCtorEq, Int.reduceEq, Int.reduceLT, Int.reduceLE, decide_true, decide_false, beq_self_eq_true, beq_true, beq_false, Bool.not_true, Bool.not_false, b_lss, b_gtr, b_leq, b_geq, b_eql, b_neq, b_add, b_sub, b_mul, s_eql, s_neq, y_ops, y_nil, y_cons, y_guard, y_some, y_drop, y_do, y_not, y_not0, c_call, c_clo, c_move, c_pick, c_alloc, c_box, c_build, c_bslice, c_load, c_store, c_nilCheck, c_bin, c_binB, c_un, c_i2i, c_i2f, c_f2i, c_s2b, c_b2s, c_strId, c_mkfunc, c_mkslice, c_slice, c_sliceStr, c_fieldAddr, c_field, c_indexSl, c_indexArr, c_elemArr, c_indexStr, c_extract, c_lenStr, c_lenSl, c_append, c_real, c_imag, c_complex, c_min, c_max, c_clear, lenA_sl, hlen, h1, h2, h12, h13, hc, hwp, hbl, hix, hget, byteDat, w1, w2, w3, hwr]
    refine ex_imp (key _ H (Nat.mod_lt _ (by decide)) ?_ ?_ ?_ ?_ ?_) ?_
    iterate 5 simp only [gs_same, gs_ne, List.length_set, Nat.reduceLT, Nat.reduceEqDiff, not_false_eq_true, hlen, h1, h2]
    rintro e tm' H' ⟨g1, g2, g3, g4, g5, g6, g7, g8⟩
    refine ⟨g1, g2, g3, ?_, ?_, ?_, g7, g8⟩
    · rw [g4]; simp only [gs_same, gs_ne, List.length_set, Nat.reduceLT, Nat.reduceEqDiff, not_false_eq_true, hlen, h2]
    · rw [g5]; simp only [gs_same, gs_ne, List.length_set, Nat.reduceLT, Nat.reduceEqDiff, not_false_eq_true, hlen]
    · rw [g6]; simp only [gs_same, gs_ne, List.length_set, Nat.reduceLT, Nat.reduceEqDiff, not_false_eq_true, hlen]

end Go.Abs.Seat
end
section
set_option linter.unusedVariables false
set_option linter.unusedSimpArgs false
/- What the coder's functions come to: the reference's loop over a point. -/
set_option linter.unusedVariables false
set_option linter.unusedSimpArgs false
namespace Go.Abs.Seat
open Go.Proofs

def zeroO : HO := .obj none [[.im (.int .i64 0), .im (.int .i64 0), .im (.str []), .im (.cpx .f64 0 0), .nils]]

/-- Nothing was got: how the reference's get ends. -/
def RetQ (H0 : Heap) (il p : Nat) (e z : Int) (tm' : List AV) (H' : Heap) : Prop :=
  tm'.getD 8 undefA = .ptr (H0.length + 1) 0 0 ∧ tm'.getD 9 undefA = .im (.int .i64 (p : Int)) ∧ tm'.getD 10 undefA = .im (.int .i64 e) ∧ H'[H0.length + 1]? = some zeroO ∧ H'[il]? = some (numO z) ∧ But H0.length il H0 H'

theorem pt_step (b : List UInt8) (hb : b.length ≤ 4611686018427387904) (s : Nat) (hs : b = [] ∨ s = 1) (p : Nat) (hp : p ≤ b.length) (il : Nat) (z : Int) (H0 : Heap) (hil : H0[il]? = some (numO z)) (A V : HO) (c0 c1 : AV) (i : Nat) (hi : i = 0 ∨ i = 1)
    (tm : List AV) (hlen : tm.length = 268) (h1 : tm.getD 1 undefA = .im (.sl s (bytesC b))) (h2 : tm.getD 2 undefA = .im (.int .i64 (p : Int))) (h8 : tm.getD 8 undefA = .ptr (H0.length + 1) 0 0) (h14 : tm.getD 14 undefA = .ptr (H0.length + 3) 0 0) (h15 : tm.getD 15 undefA = .im (.int .i64 (i : Int))) :
    ((ptG b p).2.2 = 0 ∧ (ptG b p).2.1 ≤ b.length ∧ ∃ tm1, Λ c68_2 tm (H0 ++ [A, zeroO, V, .obj none [[c0, c1]]]) = Λ c68_2 tm1 (H0 ++ [A, zeroO, V, .obj none [([c0, c1].set i (.im (.int .i64 (ptG b p).1)))]]) ∧ tm1.length = 268 ∧ tm1.getD 1 undefA = .im (.sl s (bytesC b)) ∧ tm1.getD 2 undefA = .im (.int .i64 ((ptG b p).2.1 : Int)) ∧ tm1.getD 8 undefA = .ptr (H0.length + 1) 0 0 ∧ tm1.getD 14 undefA = .ptr (H0.length + 3) 0 0 ∧ tm1.getD 15 undefA = .im (.int .i64 ((i + 1 : Nat) : Int))) ∨
    ((ptG b p).2.2 ≠ 0 ∧ ∃ tm1 H1, Λ c68_2 tm (H0 ++ [A, zeroO, V, .obj none [[c0, c1]]]) = some (.ret, tm1, H1) ∧ RetQ H0 il (ptG b p).2.1 (ptG b p).2.2 z tm1 H1) := by
  have hbl := bytesC_len b
  have hill := (List.getElem?_eq_some_iff.1 hil).1
  have hc : decide ((i : Int) < 2) = true := decide_eq_true (by omega)
  have hwr := wrap_nat (i := i) (by omega)
  have hq : ∀ (M : Heap), (H0 ++ M)[il]? = some (numO z) := fun M => by rw [get_app hill]; exact hil
  have hbut : ∀ M : Heap, But H0.length il H0 (H0 ++ M) := fun M => But.refl.app (Nat.le_refl _) M
  have hws := Go.Abs.Seat.wrap_small ((b.length : Int) - (p : Int)) (by omega)
  rw [l68_2]
  by_cases hpl : p < b.length
  · have hs1 : s = 1 := by
      rcases hs with h | h
      · subst h; simp at hpl
      · exact h
    subst hs1
    have hd1 : decide ((p : Int) < (b.length : Int)) = true := decide_eq_true (by omega)
    have hbp : b[p]? = some b[p] := List.getElem?_eq_getElem hpl
    generalize b[p] = c1 at hbp
    have hgb := bytesC_get hbp
    have hix := idx_nat (n := b.length) (i := p) hpl
    by_cases h31 : 31 < c1.toNat
    · have hd2 : decide (31 < ((c1.toNat : Nat) : Int)) = true := decide_eq_true (by omega)
      simp only [ptG, hbp, if_pos h31]
      refine .inr ⟨by simp, ?_⟩
      simp only [b68_2, zeroO, x_seq, x_block, x_skip, x_label, x_cond, x_exit, x_goto, x_ret, k_normal, k_exit, k_goto, k_ret, b_normal, b_exit, b_goto, b_ret, wantedA, aop, ev, putA, List.length_cons, List.length_nil, List.replicate, List.cons_append, List.nil_append, List.append_nil, List.append_assoc, gs_same, gs_ne, gq_same, gq_ne, List.length_set, List.map_cons, List.map_nil, cellsOf, List.all_cons, List.all_nil, cellOk, boxTy, Bool.and_true, Bool.and_self, if_true, ite_true, ite_false, loadAt, storeAt, setAt, hget, hget0, hset, hset0, List.getElem?_cons_zero, List.getElem?_cons_succ, List.set_cons_zero, List.set_cons_succ, Nat.add_zero, Nat.zero_add, Nat.reduceAdd, Nat.reduceSub, Nat.reduceLeDiff, Nat.reduceLT, Nat.reduceEqDiff, Nat.le_refl, and_self, and_true, true_and, mkAgg, toIms, List.drop_zero, List.drop_succ_cons, List.take_succ_cons, List.take_zero, List.length_append, binBool, unA, Bool.false_eq_true, if_false, partA, fillA, fillE, List.take_nil, Nat.zero_ne_one, Nat.one_ne_zero, not_false_eq_true, ne_eq, Nat.succ_ne_self, reduceCtorEq, Int.reduceEq, Int.reduceLT, Int.reduceLE, decide_true, decide_false, beq_self_eq_true, beq_true, beq_false, Bool.not_true, Bool.not_false, b_lss, b_gtr, b_leq, b_geq, b_eql, b_neq, b_add, b_sub, b_mul, s_eql, s_neq, y_ops, y_nil, y_cons, y_guard, y_some, y_drop, y_do, y_not, y_not0, c_call, c_clo, c_move, c_pick, c_alloc, c_box, c_build, c_bslice, c_load, c_store, c_nilCheck, c_bin, c_binB, c_un, c_i2i, c_i2f, c_f2i, c_s2b, c_b2s, c_strId, c_mkfunc, c_mkslice, c_slice, c_sliceStr, c_fieldAddr, c_field, c_indexSl, c_indexArr, c_elemArr, c_indexStr, c_extract, c_lenStr, c_lenSl, c_append, c_real, c_imag, c_complex, c_min, c_max, c_clear, z_ops, z_nil, z_cons, z_guard, z_some, z_drop, z_do, z_not, z_not0, pairK, forall_eq_or_imp, stays, loadOf, List.reverse_cons, List.reverse_nil, List.mem_cons, List.not_mem_nil, or_false, forall_eq, true_or, or_true, Bool.true_and, lenA_sl, hlen, h1, h2, h8, h14, h15, hc, hd1, hix, hgb, hbl, byteDat, hd2]
      exact ⟨_, _, rfl, by simp only [gs_same, gs_ne, List.length_set, Nat.reduceLT, Nat.reduceEqDiff, not_false_eq_true, hlen, h8], by simp only [gs_same, gs_ne, List.length_set, Nat.reduceLT, Nat.reduceEqDiff, not_false_eq_true, hlen], by simp only [gs_same, gs_ne, List.length_set, Nat.reduceLT, Nat.reduceEqDiff, not_false_eq_true, hlen], by rw [Go.Abs.hget]; rfl, hq _, hbut _⟩
    · have hd2 : decide (31 < ((c1.toNat : Nat) : Int)) = false := decide_eq_false (by omega)
      by_cases hp3 : p + 3 ≤ b.length
      · have hd3 : decide ((b.length : Int) - (p : Int) < 3) = false := decide_eq_false (by omega)
        have hbp1 : b[p + 1]? = some b[p + 1] := List.getElem?_eq_getElem (by omega)
        have hbp2 : b[p + 2]? = some b[p + 2] := List.getElem?_eq_getElem (by omega)
        generalize b[p + 1] = c2 at hbp1
        generalize b[p + 2] = c3 at hbp2
        have hgb1 := bytesC_get hbp1
        have hgb2 := bytesC_get hbp2
        have hix1 := idx_nat (n := b.length) (i := p + 1) (by omega)
        have hix2 := idx_nat (n := b.length) (i := p + 2) (by omega)
        have hwp1 := wrap_nat (i := p) (by omega)
        have hwp2 : IntKind.i64.wrap ((p : Int) + 2) = ((p + 2 : Nat) : Int) := by rw [Go.Abs.Seat.wrap_small _ (by omega)]; omega
        have hwp3 : IntKind.i64.wrap ((p : Int) + 3) = ((p + 3 : Nat) : Int) := by rw [Go.Abs.Seat.wrap_small _ (by omega)]; omega
        have b1 := c1.toNat_lt
        have b2 := c2.toNat_lt
        have b3 := c3.toNat_lt
        have w1 : IntKind.i64.wrap ((c1.toNat : Nat) : Int) = ((c1.toNat : Nat) : Int) := Go.Abs.Seat.wrap_small _ (by omega)
        have w2 : IntKind.i64.wrap ((c2.toNat : Nat) : Int) = ((c2.toNat : Nat) : Int) := Go.Abs.Seat.wrap_small _ (by omega)
        have w3 : IntKind.i64.wrap ((c3.toNat : Nat) : Int) = ((c3.toNat : Nat) : Int) := Go.Abs.Seat.wrap_small _ (by omega)
        have w4 : IntKind.i64.wrap ((c1.toNat : Int) * 65536) = (c1.toNat : Int) * 65536 := Go.Abs.Seat.wrap_small _ (by omega)
        have w5 : IntKind.i64.wrap ((c2.toNat : Int) * 256) = (c2.toNat : Int) * 256 := Go.Abs.Seat.wrap_small _ (by omega)
        have w6 : IntKind.i64.wrap ((c1.toNat : Int) * 65536 + (c2.toNat : Int) * 256) = (c1.toNat : Int) * 65536 + (c2.toNat : Int) * 256 := Go.Abs.Seat.wrap_small _ (by omega)
        have w7 : IntKind.i64.wrap ((c1.toNat : Int) * 65536 + (c2.toNat : Int) * 256 + (c3.toNat : Int)) = (c1.toNat : Int) * 65536 + (c2.toNat : Int) * 256 + (c3.toNat : Int) := Go.Abs.Seat.wrap_small _ (by omega)
        have w8 : IntKind.i64.wrap ((c1.toNat : Int) * 65536 + (c2.toNat : Int) * 256 + (c3.toNat : Int) - 1048576) = (c1.toNat : Int) * 65536 + (c2.toNat : Int) * 256 + (c3.toNat : Int) - 1048576 := Go.Abs.Seat.wrap_small _ (by omega)
        have hpt : ptG b p = ((c1.toNat : Int) * 65536 + (c2.toNat : Int) * 256 + (c3.toNat : Int) - 1048576, p + 3, 0) := by simp only [ptG, hbp, if_neg h31, hbp1, hbp2]
        rw [hpt]
        refine .inl ⟨rfl, by simp only; omega, ?_⟩
        have hi0 : idx (.im (.int .i64 0)) 2 = some 0 := rfl
        have hi1 : idx (.im (.int .i64 1)) 2 = some 1 := rfl
        rcases hi with rfl | rfl
        · rw [show ((0 : Nat) : Int) = 0 from rfl] at h15 hc hwr
          simp only [b68_2, zeroO, x_seq, x_block, x_skip, x_label, x_cond, x_exit, x_goto, x_ret, k_normal, k_exit, k_goto, k_ret, b_normal, b_exit, b_goto, b_ret, wantedA, aop, ev, putA, List.length_cons, List.length_nil, List.replicate, List.cons_append, List.nil_append, List.append_nil, List.append_assoc, gs_same, gs_ne, gq_same, gq_ne, List.length_set, List.map_cons, List.map_nil, cellsOf, List.all_cons, List.all_nil, cellOk, boxTy, Bool.and_true, Bool.and_self, if_true, ite_true, ite_false, loadAt, storeAt, setAt, hget, hget0, hset, hset0, List.getElem?_cons_zero, List.getElem?_cons_succ, List.set_cons_zero, List.set_cons_succ, Nat.add_zero, Nat.zero_add, Nat.reduceAdd, Nat.reduceSub, Nat.reduceLeDiff, Nat.reduceLT, Nat.reduceEqDiff, Nat.le_refl, and_self, and_true, true_and, mkAgg, toIms, List.drop_zero, List.drop_succ_cons, List.take_succ_cons, List.take_zero, List.length_append, binBool, unA, Bool.false_eq_true, if_false, partA, fillA, fillE, List.take_nil, Nat.zero_ne_one, Nat.one_ne_zero, not_false_eq_true, ne_eq, Nat.succ_ne_self, reduceCtorEq, Int.reduceEq, Int.reduceLT, Int.reduceLE, decide_true, decide_false, beq_self_eq_true, beq_true, beq_false, Bool.not_true, Bool.not_false, b_lss, b_gtr, b_leq, b_geq, b_eql, b_neq, b_add, b_sub, b_mul, s_eql, s_neq, y_ops, y_nil, y_cons, y_guard, y_some, y_drop, y_do, y_not, y_not0, c_call, c_clo, c_move, c_pick, c_alloc, c_box, c_build, c_bslice, c_load, c_store, c_nilCheck, c_bin, c_binB, c_un, c_i2i, c_i2f, c_f2i, c_s2b, c_b2s, c_strId, c_mkfunc, c_mkslice, c_slice, c_sliceStr, c_fieldAddr, c_field, c_indexSl, c_indexArr, c_elemArr, c_indexStr, c_extract, c_lenStr, c_lenSl, c_append, c_real, c_imag, c_complex, c_min, c_max, c_clear, z_ops, z_nil, z_cons, z_guard, z_some, z_drop, z_do, z_not, z_not0, pairK, forall_eq_or_imp, stays, loadOf, List.reverse_cons, List.reverse_nil, List.mem_cons, List.not_mem_nil, or_false, forall_eq, true_or, or_true, Bool.true_and, lenA_sl, hlen, h1, h2, h8, h14, h15, hc, hd1, hix, hgb, hbl, byteDat, hd2, hws, hd3, hix1, hix2, hgb1, hgb2, hwp1, hwp2, hwp3, w1, w2, w3, w4, w5, w6, w7, w8, hi0, hwr, List.set_cons_zero, List.set_cons_succ, Nat.mul_one, Nat.zero_le, if_true]
          refine ⟨_, rfl, ?_, ?_, ?_, ?_, ?_, ?_⟩
          · simp only [List.length_set, hlen]
          all_goals simp only [gs_same, gs_ne, List.length_set, Nat.reduceLT, Nat.reduceEqDiff, not_false_eq_true, hlen, h1, h8, h14]
        · rw [show ((1 : Nat) : Int) = 1 from rfl] at h15 hc hwr
          simp only [b68_2, zeroO, x_seq, x_block, x_skip, x_label, x_cond, x_exit, x_goto, x_ret, k_normal, k_exit, k_goto, k_ret, b_normal, b_exit, b_goto, b_ret, wantedA, aop, ev, putA, List.length_cons, List.length_nil, List.replicate, List.cons_append, List.nil_append, List.append_nil, List.append_assoc, gs_same, gs_ne, gq_same, gq_ne, List.length_set, List.map_cons, List.map_nil, cellsOf, List.all_cons, List.all_nil, cellOk, boxTy, Bool.and_true, Bool.and_self, if_true, ite_true, ite_false, loadAt, storeAt, setAt, hget, hget0, hset, hset0, List.getElem?_cons_zero, List.getElem?_cons_succ, List.set_cons_zero, List.set_cons_succ, Nat.add_zero, Nat.zero_add, Nat.reduceAdd, Nat.reduceSub, Nat.reduceLeDiff, Nat.reduceLT, Nat.reduceEqDiff, Nat.le_refl, and_self, and_true, true_and, mkAgg, toIms, List.drop_zero, List.drop_succ_cons, List.take_succ_cons, List.take_zero, List.length_append, binBool, unA, Bool.false_eq_true, if_false, partA, fillA, fillE, List.take_nil, Nat.zero_ne_one, Nat.one_ne_zero, not_false_eq_true, ne_eq, Nat.succ_ne_self, reduceCtorEq, Int.reduceEq, Int.reduceLT, Int.reduceLE, decide_true, decide_false, beq_self_eq_true, beq_true, beq_false, Bool.not_true, Bool.not_false, b_lss, b_gtr, b_leq, b_geq, b_eql, b_neq, b_add, b_sub, b_mul, s_eql, s_neq, y_ops, y_nil, y_cons, y_guard, y_some, y_drop, y_do, y_not, y_not0, c_call, c_clo, c_move, c_pick, c_alloc, c_box, c_build, c_bslice, c_load, c_store, c_nilCheck, c_bin, c_binB, c_un, c_i2i, c_i2f, c_f2i, c_s2b, c_b2s, c_strId, c_mkfunc, c_mkslice, c_slice, c_sliceStr, c_fieldAddr, c_field, c_indexSl, c_indexArr, c_elemArr, c_indexStr, c_extract, c_lenStr, c_lenSl, c_append, c_real, c_imag, c_complex, c_min, c_max, c_clear, z_ops, z_nil, z_cons, z_guard, z_some, z_drop, z_do, z_not, z_not0, pairK, forall_eq_or_imp, stays, loadOf, List.reverse_cons, List.reverse_nil, List.mem_cons, List.not_mem_nil, or_false, forall_eq, true_or, or_true, Bool.true_and, lenA_sl, hlen, h1, h2, h8, h14, h15, hc, hd1, hix, hgb, hbl, byteDat, hd2, hws, hd3, hix1, hix2, hgb1, hgb2, hwp1, hwp2, hwp3, w1, w2, w3, w4, w5, w6, w7, w8, hi1, hwr, List.set_cons_zero, List.set_cons_succ, Nat.mul_one, Nat.le_refl, if_true]
          refine ⟨_, rfl, ?_, ?_, ?_, ?_, ?_, ?_⟩
          · simp only [List.length_set, hlen]
          all_goals simp only [gs_same, gs_ne, List.length_set, Nat.reduceLT, Nat.reduceEqDiff, not_false_eq_true, hlen, h1, h8, h14]
      · have hd3 : decide ((b.length : Int) - (p : Int) < 3) = true := decide_eq_true (by omega)
        have hbp2 : b[p + 2]? = none := List.getElem?_eq_none (by omega)
        have hpt : ptG b p = (0, b.length, 30) := by
          simp only [ptG, hbp, if_neg h31, hbp2]
          cases b[p + 1]? <;> rfl
        rw [hpt]
        refine .inr ⟨by simp, ?_⟩
        simp only [b68_2, zeroO, x_seq, x_block, x_skip, x_label, x_cond, x_exit, x_goto, x_ret, k_normal, k_exit, k_goto, k_ret, b_normal, b_exit, b_goto, b_ret, wantedA, aop, ev, putA, List.length_cons, List.length_nil, List.replicate, List.cons_append, List.nil_append, List.append_nil, List.append_assoc, gs_same, gs_ne, gq_same, gq_ne, List.length_set, List.map_cons, List.map_nil, cellsOf, List.all_cons, List.all_nil, cellOk, boxTy, Bool.and_true, Bool.and_self, if_true, ite_true, ite_false, loadAt, storeAt, setAt, hget, hget0, hset, hset0, List.getElem?_cons_zero, List.getElem?_cons_succ, List.set_cons_zero, List.set_cons_succ, Nat.add_zero, Nat.zero_add, Nat.reduceAdd, Nat.reduceSub, Nat.reduceLeDiff, Nat.reduceLT, Nat.reduceEqDiff, Nat.le_refl, and_self, and_true, true_and, mkAgg, toIms, List.drop_zero, List.drop_succ_cons, List.take_succ_cons, List.take_zero, List.length_append, binBool, unA, Bool.false_eq_true, if_false, partA, fillA, fillE, List.take_nil, Nat.zero_ne_one, Nat.one_ne_zero, not_false_eq_true, ne_eq, Nat.succ_ne_self, reduceCtorEq, Int.reduceEq, Int.reduceLT, Int.reduceLE, decide_true, decide_false, beq_self_eq_true, beq_true, beq_false, Bool.not_true, Bool.not_false, b_lss, b_gtr, b_leq, b_geq, b_eql, b_neq, b_add, b_sub, b_mul, s_eql, s_neq, y_ops, y_nil, y_cons, y_guard, y_some, y_drop, y_do, y_not, y_not0, c_call, c_clo, c_move, c_pick, c_alloc, c_box, c_build, c_bslice, c_load, c_store, c_nilCheck, c_bin, c_binB, c_un, c_i2i, c_i2f, c_f2i, c_s2b, c_b2s, c_strId, c_mkfunc, c_mkslice, c_slice, c_sliceStr, c_fieldAddr, c_field, c_indexSl, c_indexArr, c_elemArr, c_indexStr, c_extract, c_lenStr, c_lenSl, c_append, c_real, c_imag, c_complex, c_min, c_max, c_clear, z_ops, z_nil, z_cons, z_guard, z_some, z_drop, z_do, z_not, z_not0, pairK, forall_eq_or_imp, stays, loadOf, List.reverse_cons, List.reverse_nil, List.mem_cons, List.not_mem_nil, or_false, forall_eq, true_or, or_true, Bool.true_and, lenA_sl, hlen, h1, h2, h8, h14, h15, hc, hd1, hix, hgb, hbl, byteDat, hd2, hws, hd3]
        exact ⟨_, _, rfl, by simp only [gs_same, gs_ne, List.length_set, Nat.reduceLT, Nat.reduceEqDiff, not_false_eq_true, hlen, h8], by simp only [gs_same, gs_ne, List.length_set, Nat.reduceLT, Nat.reduceEqDiff, not_false_eq_true, hlen], by simp only [gs_same, gs_ne, List.length_set, Nat.reduceLT, Nat.reduceEqDiff, not_false_eq_true, hlen], by rw [Go.Abs.hget]; rfl, hq _, hbut _⟩
  · have hd1 : decide ((p : Int) < (b.length : Int)) = false := decide_eq_false (by omega)
    have hd3 : decide ((b.length : Int) - (p : Int) < 3) = true := decide_eq_true (by omega)
    have hbp : b[p]? = none := List.getElem?_eq_none (by omega)
    have hpt : ptG b p = (0, b.length, 30) := by simp only [ptG, hbp]
    rw [hpt]
    refine .inr ⟨by simp, ?_⟩
    simp only [b68_2, zeroO, x_seq, x_block, x_skip, x_label, x_cond, x_exit, x_goto, x_ret, k_normal, k_exit, k_goto, k_ret, b_normal, b_exit, b_goto, b_ret, wantedA, aop, ev, putA, List.length_cons, List.length_nil, List.replicate, List.cons_append, List.nil_append, List.append_nil, List.append_assoc, gs_same, gs_ne, gq_same, gq_ne, List.length_set, List.map_cons, List.map_nil, cellsOf, List.all_cons, List.all_nil, cellOk, boxTy, Bool.and_true, Bool.and_self, if_true, ite_true, ite_false, loadAt, storeAt, setAt, hget, hget0, hset, hset0, List.getElem?_cons_zero, List.getElem?_cons_succ, List.set_cons_zero, List.set_cons_succ, Nat.add_zero, Nat.zero_add, Nat.reduceAdd, Nat.reduceSub, Nat.reduceLeDiff, Nat.reduceLT, Nat.reduceEqDiff, Nat.le_refl, and_self, and_true, true_and, mkAgg, toIms, List.drop_zero, List.drop_succ_cons, List.take_succ_cons, List.take_zero, List.length_append, binBool, unA, Bool.false_eq_true, if_false, partA, fillA, fillE, List.take_nil, Nat.zero_ne_one, Nat.one_ne_zero, not_false_eq_true, ne_eq, Nat.succ_ne_self, reduceCtorEq, Int.reduceEq, Int.reduceLT, Int.reduceLE, decide_true, decide_false, beq_self_eq_true, beq_true, beq_false, Bool.not_true, Bool.not_false, b_lss, b_gtr, b_leq, b_geq, b_eql, b_neq, b_add, b_sub, b_mul, s_eql, s_neq, y_ops, y_nil, y_cons, y_guard, y_some, y_drop, y_do, y_not, y_not0, c_call, c_clo, c_move, c_pick, c_alloc, c_box, c_build, c_bslice, c_load, c_store, c_nilCheck, c_bin, c_binB, c_un, c_i2i, c_i2f, c_f2i, c_s2b, c_b2s, c_strId, c_mkfunc, c_mkslice, c_slice, c_sliceStr, c_fieldAddr, c_field, c_indexSl, c_indexArr, c_elemArr, c_indexStr, c_extract, c_lenStr, c_lenSl, c_append, c_real, c_imag, c_complex, c_min, c_max, c_clear, z_ops, z_nil, z_cons, z_guard, z_some, z_drop, z_do, z_not, z_not0, pairK, forall_eq_or_imp, stays, loadOf, List.reverse_cons, List.reverse_nil, List.mem_cons, List.not_mem_nil, or_false, forall_eq, true_or, or_true, Bool.true_and, lenA_sl, hlen, h1, h2, h8, h14, h15, hc, hd1, hbl, hws, hd3]
    exact ⟨_, _, rfl, by simp only [gs_same, gs_ne, List.length_set, Nat.reduceLT, Nat.reduceEqDiff, not_false_eq_true, hlen, h8], by simp only [gs_same, gs_ne, List.length_set, Nat.reduceLT, Nat.reduceEqDiff, not_false_eq_true, hlen], by simp only [gs_same, gs_ne, List.length_set, Nat.reduceLT, Nat.reduceEqDiff, not_false_eq_true, hlen], by rw [Go.Abs.hget]; rfl, hq _, hbut _⟩

theorem pt_end (tm : List AV) (H : Heap) (hlen : tm.length = 268) (h15 : tm.getD 15 undefA = .im (.int .i64 2)) : ∃ tm1, Λ c68_2 tm H = some (.exit 3, tm1, H) ∧ tm1.length = 268 ∧ tm1.getD 2 undefA = tm.getD 2 undefA ∧ tm1.getD 8 undefA = tm.getD 8 undefA ∧ tm1.getD 14 undefA = tm.getD 14 undefA := by
  have hc : decide ((2 : Int) < 2) = false := by decide
  rw [l68_2]
  simp only [b68_2, x_seq, x_block, x_skip, x_label, x_cond, x_exit, x_goto, x_ret, k_normal, k_exit, k_goto, k_ret, b_normal, b_exit, b_goto, b_ret, wantedA, aop, ev, putA, List.length_cons, List.length_nil, List.replicate, List.cons_append, List.nil_append, List.append_nil, List.append_assoc, gs_same, gs_ne, gq_same, gq_ne, List.length_set, List.map_cons, List.map_nil, cellsOf, List.all_cons, List.all_nil, cellOk, boxTy, Bool.and_true, Bool.and_self, if_true, ite_true, ite_false, loadAt, storeAt, setAt, hget, hget0, hset, hset0, List.getElem?_cons_zero, List.getElem?_cons_succ, List.set_cons_zero, List.set_cons_succ, Nat.add_zero, Nat.zero_add, Nat.reduceAdd, Nat.reduceSub, Nat.reduceLeDiff, Nat.reduceLT, Nat.reduceEqDiff, Nat.le_refl, and_self, and_true, true_and, mkAgg, toIms, List.drop_zero, List.drop_succ_cons, List.take_succ_cons, List.take_zero, List.length_append, binBool, unA, Bool.false_eq_true, if_false, partA, fillA, fillE, List.take_nil, Nat.zero_ne_one, Nat.one_ne_zero, not_false_eq_true, ne_eq, Nat.succ_ne_self, reduceCtorEq, Int.reduceEq, Int.reduceLT, Int.reduceLE, decide_true, decide_false, beq_self_eq_true, beq_true, beq_false, Bool.not_true, Bool.not_false, b_lss, b_gtr, b_leq, b_geq, b_eql, b_neq, b_add, b_sub, b_mul, s_eql, s_neq, y_ops, y_nil, y_cons, y_guard, y_some, y_drop, y_do, y_not, y_not0, c_call, c_clo, c_move, c_pick, c_alloc, c_box, c_build, c_bslice, c_load, c_store, c_nilCheck, c_bin, c_binB, c_un, c_i2i, c_i2f, c_f2i, c_s2b, c_b2s, c_strId, c_mkfunc, c_mkslice, c_slice, c_sliceStr, c_fieldAddr, c_field, c_indexSl, c_indexArr, c_elemArr, c_indexStr, c_extract, c_lenStr, c_lenSl, c_append, c_real, c_imag, c_complex, c_min, c_max, c_clear, hlen, h15, hc]
  exact ⟨_, rfl, by simp only [List.length_set, hlen], by simp only [gs_same, gs_ne, List.length_set, Nat.reduceLT, Nat.reduceEqDiff, not_false_eq_true, hlen], by simp only [gs_same, gs_ne, List.length_set, Nat.reduceLT, Nat.reduceEqDiff, not_false_eq_true, hlen], by simp only [gs_same, gs_ne, List.length_set, Nat.reduceLT, Nat.reduceEqDiff, not_false_eq_true, hlen]⟩

end Go.Abs.Seat
end
section
set_option linter.unusedVariables false
set_option linter.unusedSimpArgs false
/- What the coder's functions come to: the reference's loop over a pair. -/
set_option linter.unusedVariables false
set_option linter.unusedSimpArgs false
namespace Go.Abs.Seat
open Go.Proofs

/-- How the reference's get ends. -/
def RetV (H0 : Heap) (il : Nat) (g : GS) (tm' : List AV) (H' : Heap) : Prop :=
  tm'.getD 8 undefA = .ptr (H0.length + 1) 0 0 ∧ tm'.getD 9 undefA = .im (.int .i64 (g.p : Int)) ∧ tm'.getD 10 undefA = .im (.int .i64 g.e) ∧ H'[il]? = some (numO g.z) ∧ But H0.length il H0 H' ∧
    ∃ (k i : Int) (txt : List UInt8) (fa fb : Nat) (l : List VT) (lv : AV), g.v = mkV k i txt fa fb l ∧ LV lv l ∧ H'[H0.length + 1]? = some (.obj none [[.im (.int .i64 k), .im (.int .i64 i), .im (.str txt), .im (.cpx .f64 fa fb), lv]])

theorem RetQ.v {H0 : Heap} {il p : Nat} {e z : Int} {tm' : List AV} {H' : Heap} (h : RetQ H0 il p e z tm' H') : RetV H0 il ⟨zeroV, p, e, z⟩ tm' H' :=
  ⟨h.1, h.2.1, h.2.2.1, h.2.2.2.2.1, h.2.2.2.2.2, 0, 0, [], 0, 0, [], .nils, rfl, .inl ⟨rfl, rfl⟩, h.2.2.2.1⟩

theorem RetV.fin {H0 : Heap} {il : Nat} (hil : il < H0.length) {g : GS} {tm' : List AV} {H' : Heap} (h : RetV H0 il g tm' H') : endK f68 H0 .ret tm' H' = some (.tup [.im (.agg (encV g.v)), .im (.int .i64 (g.p : Int)), .im (.int .i64 g.e)], H0.set il (numO g.z)) := by
  obtain ⟨h8, h9, h10, hz, hb, k, i, txt, fa, fb, l, lv, hv, hlv, ho⟩ := h
  rw [hv]
  exact k68 il H0 hil tm' H' lv l k i txt fa fb g.p g.z g.e h8 h9 h10 ho hlv hz hb

/-- What holds of what was got. -/
def goodG (b : List UInt8) (g : GS) : Prop := g.p ≤ b.length ∧ 0 ≤ g.z ∧ g.z ≤ 2000

theorem l68_pair (b : List UInt8) (s il : Nat) (args : List KT) (hn : args.length = 2) (f : KT → Nat → Int → GS) (H0 : Heap) (hil : il < H0.length) (ty : Int)
    (hc : ∀ a ∈ args, ∀ (p : Nat) (z : Int) (H : Heap), p ≤ b.length → 0 ≤ z → z ≤ 2000 → H[il]? = some (numO z) → L 68 [.im (.agg (encT a)), .im (.sl s (bytesC b)), .im (.int .i64 (p : Int)), .ptr il 0 0] H = some (.tup [.im (.agg (encV (f a p z).v)), .im (.int .i64 ((f a p z).p : Int)), .im (.int .i64 (f a p z).e)], H.set il (numO (f a p z).z)))
    (hg : ∀ a ∈ args, ∀ (p : Nat) (z : Int), p ≤ b.length → 0 ≤ z → z ≤ 2000 → goodG b (f a p z)) :
    ∀ (m i : Nat), i + m = 2 → ∀ (p : Nat) (z : Int) (out : List VT) (tm : List AV) (H : Heap) (lv : AV), out.length = i → p ≤ b.length → 0 ≤ z → z ≤ 2000 → tm.length = 268 → tm.getD 1 undefA = .im (.sl s (bytesC b)) → tm.getD 2 undefA = .im (.int .i64 (p : Int)) → tm.getD 3 undefA = .ptr il 0 0 → tm.getD 4 undefA = .ptr H0.length 0 0 → tm.getD 8 undefA = .ptr (H0.length + 1) 0 0 → tm.getD 11 undefA = .ptr (H0.length + 2) 0 0 → tm.getD 16 undefA = .im (.int .i64 (i : Int)) →
      H[il]? = some (numO z) → H[H0.length]? = some (.obj none [[.im (.int .i64 ty), .im (.sl 2 (args.map encT))]]) → H[H0.length + 1]? = some zeroO → H[H0.length + 2]? = some (.obj none [[.im (.int .i64 6), .im (.int .i64 0), .im (.str []), .im (.cpx .f64 0 0), lv]]) → Gath 56 5 (H0.length + 3) lv H (encVs out) → H0.length + 3 ≤ H.length → (∀ i, i < H0.length → i ≠ il → H[i]? = H0[i]?) →
    ∃ e tm' H', Λ c68_1 tm H = some (e, tm', H') ∧
      (((pairG f (args.drop i) p z out).2.2.1 = 0 ∧ e = .exit 5 ∧ tm'.length = 268 ∧ tm'.getD 2 undefA = .im (.int .i64 ((pairG f (args.drop i) p z out).2.1 : Int)) ∧ tm'.getD 8 undefA = .ptr (H0.length + 1) 0 0 ∧ tm'.getD 11 undefA = .ptr (H0.length + 2) 0 0 ∧ H'[il]? = some (numO (pairG f (args.drop i) p z out).2.2.2) ∧ But H0.length il H0 H' ∧ H0.length + 3 ≤ H'.length ∧ H'[H0.length + 1]? = some zeroO ∧ ∃ lv', LV lv' (pairG f (args.drop i) p z out).1 ∧ H'[H0.length + 2]? = some (.obj none [[.im (.int .i64 6), .im (.int .i64 0), .im (.str []), .im (.cpx .f64 0 0), lv']])) ∨
       ((pairG f (args.drop i) p z out).2.2.1 ≠ 0 ∧ e = .ret ∧ RetV H0 il ⟨zeroV, (pairG f (args.drop i) p z out).2.1, (pairG f (args.drop i) p z out).2.2.1, (pairG f (args.drop i) p z out).2.2.2⟩ tm' H')) := by
  intro m
  induction m with
  | zero =>
    intro i hi p z out tm H lv ho hp hz0 hz1 hlen h1 h2 h3 h4 h8 h11 h16 oil oA oZ oV hG hHl hlow
    have e : args.drop i = [] := by rw [List.drop_eq_nil_iff]; omega
    have hcd : decide ((i : Int) < 2) = false := decide_eq_false (by omega)
    rw [l68_1, e]
    simp only [pairG]
    simp only [b68_1, x_seq, x_block, x_skip, x_label, x_cond, x_exit, x_goto, x_ret, k_normal, k_exit, k_goto, k_ret, b_normal, b_exit, b_goto, b_ret, wantedA, aop, ev, putA, List.length_cons, List.length_nil, List.replicate, List.cons_append, List.nil_append, List.append_nil, List.append_assoc, gs_same, gs_ne, gq_same, gq_ne, List.length_set, List.map_cons, List.map_nil, cellsOf, List.all_cons, List.all_nil, cellOk, boxTy, Bool.and_true, Bool.and_self, if_true, ite_true, ite_false, loadAt, storeAt, setAt, hget, hget0, hset, hset0, List.getElem?_cons_zero, List.getElem?_cons_succ, List.set_cons_zero, List.set_cons_succ, Nat.add_zero, Nat.zero_add, Nat.reduceAdd, Nat.reduceSub, Nat.reduceLeDiff, Nat.reduceLT, Nat.reduceEqDiff, Nat.le_refl, and_self, and_true, true_and, mkAgg, toIms, List.drop_zero, List.drop_succ_cons, List.take_succ_cons, List.take_zero, List.length_append, binBool, unA, Bool.false_eq_true, if_false, partA, fillA, fillE, List.take_nil, Nat.zero_ne_one, Nat.one_ne_zero, not_false_eq_true, ne_eq, Nat.succ_ne_self, reduceCtorEq, Int.reduceEq, Int.reduceLT, Int.reduceLE, decide_true, decide_false, beq_self_eq_true, beq_true, beq_false, Bool.not_true, Bool.not_false, b_lss, b_gtr, b_leq, b_geq, b_eql, b_neq, b_add, b_sub, b_mul, s_eql, s_neq, y_ops, y_nil, y_cons, y_guard, y_some, y_drop, y_do, y_not, y_not0, c_call, c_clo, c_move, c_pick, c_alloc, c_box, c_build, c_bslice, c_load, c_store, c_nilCheck, c_bin, c_binB, c_un, c_i2i, c_i2f, c_f2i, c_s2b, c_b2s, c_strId, c_mkfunc, c_mkslice, c_slice, c_sliceStr, c_fieldAddr, c_field, c_indexSl, c_indexArr, c_elemArr, c_indexStr, c_extract, c_lenStr, c_lenSl, c_append, c_real, c_imag, c_complex, c_min, c_max, c_clear, hlen, h16, hcd]
    exact ⟨_, _, _, rfl, .inl ⟨rfl, by simp only [List.length_set, hlen], by simp only [gs_same, gs_ne, List.length_set, Nat.reduceLT, Nat.reduceEqDiff, not_false_eq_true, hlen, h2], by simp only [gs_same, gs_ne, List.length_set, Nat.reduceLT, Nat.reduceEqDiff, not_false_eq_true, hlen, h8], by simp only [gs_same, gs_ne, List.length_set, Nat.reduceLT, Nat.reduceEqDiff, not_false_eq_true, hlen, h11], oil, ⟨by omega, hlow⟩, hHl, oZ, lv, Gath.lv hG, oV⟩⟩
  | succ m ih =>
    intro i hi p z out tm H lv ho hp hz0 hz1 hlen h1 h2 h3 h4 h8 h11 h16 oil oA oZ oV hG hHl hlow
    have hlt : i < args.length := by omega
    obtain ⟨a, hai, ea⟩ := drop_cons hlt
    have hcd : decide ((i : Int) < 2) = true := decide_eq_true (by omega)
    have hill := (List.getElem?_eq_some_iff.1 oil).1
    have hix := idx_nat (n := (args.map encT).length) (i := i) (by simpa using hlt)
    have hga : (args.map encT)[i]? = some (encT a) := by rw [List.getElem?_map, hai]; rfl
    have ham := List.mem_of_getElem? hai
    have hcall := hc a ham p z H hp hz0 hz1 oil
    have hgg := hg a ham p z hp hz0 hz1
    have hwr := wrap_nat (i := i) (by omega)
    rw [ea, l68_1]
    simp only [pairG]
    have ihx := fun p z out => ih (i + 1) (by omega) p z out
    generalize f a p z = g at *
    obtain ⟨v, p', e', z'⟩ := g
    obtain ⟨hp', hz0', hz1'⟩ := hgg
    simp only at hcall hp' hz0' hz1' ⊢
    have gA : ∀ (o : HO) (M : Heap), (H.set il o ++ M)[H0.length]? = some (.obj none [[.im (.int .i64 ty), .im (.sl 2 (args.map encT))]]) := fun o M => by rw [get_app (by simp; omega), List.getElem?_set_ne (by omega)]; exact oA
    have gZ : ∀ (o : HO) (M : Heap), (H.set il o ++ M)[H0.length + 1]? = some zeroO := fun o M => by rw [get_app (by simp; omega), List.getElem?_set_ne (by omega)]; exact oZ
    have gV : ∀ (o : HO) (M : Heap), (H.set il o ++ M)[H0.length + 2]? = some (.obj none [[.im (.int .i64 6), .im (.int .i64 0), .im (.str []), .im (.cpx .f64 0 0), lv]]) := fun o M => by rw [get_app (by simp; omega), List.getElem?_set_ne (by omega)]; exact oV
    have gX : ∀ (o y : HO), (H.set il o ++ [y])[H.length]? = some y := fun o y => by
      have := Go.Abs.hget0 (H := H.set il o) (l := [y])
      rwa [List.length_set] at this
    have sX : ∀ (o y x : HO), (H.set il o ++ [y]).set H.length x = H.set il o ++ [x] := fun o y x => by
      have := Go.Abs.hset0 (H := H.set il o) (l := [y]) (x := x)
      rwa [List.length_set] at this
    obtain ⟨ak, as', al⟩ := a
    obtain ⟨vk, vi, vt, va, vb, vs, vl⟩ := v
    simp only [encT, encV] at hcall hga
    by_cases he : e' = 0
    · subst he
      have hde : decide ((0 : Int) = 0) = true := decide_eq_true rfl
      simp only [if_true]
      have hel : (encVs out).length = out.length := by rw [encVs_map]; simp
      have hea : encVs (out ++ [VT.mk vk vi vt va vb vs vl]) = encVs out ++ [[.int .i64 vk, .int .i64 vi, .str vt, .cpx .f64 va vb, .sl vs (encVs vl)]] := by simp [encVs_map, encV]
      obtain ⟨tok, H4, hap, hG4, hl4, hlow4, hob4⟩ := ((hG.set_obj oil (numO z')).more [HO.obj none [[.im (.int .i64 vk), .im (.int .i64 vi), .im (.str vt), .im (.cpx .f64 va vb), .im (.sl vs (encVs vl))]]]).grow (bytes := 72) (by simp; omega) [.int .i64 vk, .int .i64 vi, .str vt, .cpx .f64 va vb, .sl vs (encVs vl)] (by rw [hel]; omega) (by decide)
      have oA4 := hob4 _ _ _ (gA (numO z') [HO.obj none [[.im (.int .i64 vk), .im (.int .i64 vi), .im (.str vt), .im (.cpx .f64 va vb), .im (.sl vs (encVs vl))]]])
      have oZ4 := hob4 _ _ _ (gZ (numO z') [HO.obj none [[.im (.int .i64 vk), .im (.int .i64 vi), .im (.str vt), .im (.cpx .f64 va vb), .im (.sl vs (encVs vl))]]])
      have oV4 := hob4 _ _ _ (gV (numO z') [HO.obj none [[.im (.int .i64 vk), .im (.int .i64 vi), .im (.str vt), .im (.cpx .f64 va vb), .im (.sl vs (encVs vl))]]])
      have oil4 : H4[il]? = some (numO z') := hob4 il none [[.im (.int .i64 z')]] (by rw [get_app (by simpa using hill)]; exact List.getElem?_set_self hill)
      have hVl4 := (List.getElem?_eq_some_iff.1 oV4).1
      simp only [b68_1, x_seq, x_block, x_skip, x_label, x_cond, x_exit, x_goto, x_ret, k_normal, k_exit, k_goto, k_ret, b_normal, b_exit, b_goto, b_ret, wantedA, aop, ev, putA, List.length_cons, List.length_nil, List.replicate, List.cons_append, List.nil_append, List.append_nil, List.append_assoc, gs_same, gs_ne, gq_same, gq_ne, List.length_set, List.map_cons, List.map_nil, cellsOf, List.all_cons, List.all_nil, cellOk, boxTy, Bool.and_true, Bool.and_self, if_true, ite_true, ite_false, loadAt, storeAt, setAt, hget, hget0, hset, hset0, List.getElem?_cons_zero, List.getElem?_cons_succ, List.set_cons_zero, List.set_cons_succ, Nat.add_zero, Nat.zero_add, Nat.reduceAdd, Nat.reduceSub, Nat.reduceLeDiff, Nat.reduceLT, Nat.reduceEqDiff, Nat.le_refl, and_self, and_true, true_and, mkAgg, toIms, List.drop_zero, List.drop_succ_cons, List.take_succ_cons, List.take_zero, List.length_append, binBool, unA, Bool.false_eq_true, if_false, partA, fillA, fillE, List.take_nil, Nat.zero_ne_one, Nat.one_ne_zero, not_false_eq_true, ne_eq, Nat.succ_ne_self, reduceCtorEq, Int.reduceEq, Int.reduceLT, Int.reduceLE, decide_true, decide_false, beq_self_eq_true, beq_true, beq_false, Bool.not_true, Bool.not_false, b_lss, b_gtr, b_leq, b_geq, b_eql, b_neq, b_add, b_sub, b_mul, s_eql, s_neq, y_ops, y_nil, y_cons, y_guard, y_some, y_drop, y_do, y_not, y_not0, c_call, c_clo, c_move, c_pick, c_alloc, c_box, c_build, c_bslice, c_load, c_store, c_nilCheck, c_bin, c_binB, c_un, c_i2i, c_i2f, c_f2i, c_s2b, c_b2s, c_strId, c_mkfunc, c_mkslice, c_slice, c_sliceStr, c_fieldAddr, c_field, c_indexSl, c_indexArr, c_elemArr, c_indexStr, c_extract, c_lenStr, c_lenSl, c_append, c_real, c_imag, c_complex, c_min, c_max, c_clear, z_ops, z_nil, z_cons, z_guard, z_some, z_drop, z_do, z_not, z_not0, pairK, forall_eq_or_imp, stays, loadOf, List.reverse_cons, List.reverse_nil, List.mem_cons, List.not_mem_nil, or_false, forall_eq, true_or, or_true, Bool.true_and, lenA_sl, elems, toDatss, toDats, toDat, hlen, h1, h2, h3, h4, h8, h11, h16, hcd, oA, oV, hix, hga, hcall, gA, gZ, gV, gX, sX, hap, oV4, hwr]
      refine ex_imp (ihx p' z' (out ++ [VT.mk vk vi vt va vb vs vl]) _ (H4.set (H0.length + 2) (.obj none [[.im (.int .i64 6), .im (.int .i64 0), .im (.str []), .im (.cpx .f64 0 0), .asl 5 (encVs out ++ [[.int .i64 vk, .int .i64 vi, .str vt, .cpx .f64 va vb, .sl vs (encVs vl)]]) tok]])) (.asl 5 (encVs out ++ [[.int .i64 vk, .int .i64 vi, .str vt, .cpx .f64 va vb, .sl vs (encVs vl)]]) tok) (by simp; omega) hp' hz0' hz1' ?_ ?_ ?_ ?_ ?_ ?_ ?_ ?_ (by rw [List.getElem?_set_ne (by omega)]; exact oil4) (by rw [List.getElem?_set_ne (by omega)]; exact oA4) (by rw [List.getElem?_set_ne (by omega)]; exact oZ4) (by rw [List.getElem?_set_self hVl4]) (by rw [hea]; exact hG4.set_obj oV4 _) (by simp at hl4 ⊢; omega) ?_) (fun e tm' H' h => h)
      iterate 8 simp only [gs_same, gs_ne, List.length_set, Nat.reduceLT, Nat.reduceEqDiff, not_false_eq_true, hlen, h1, h3, h4, h8, h11]
      · intro j hj hne
        rw [List.getElem?_set_ne (by omega), hlow4 j (by omega), get_app (by simp; omega), List.getElem?_set_ne (by omega)]
        exact hlow j hj hne
    · have hde : decide (e' = 0) = false := decide_eq_false he
      simp only [if_neg he]
      simp only [zeroO] at gZ
      simp only [b68_1, x_seq, x_block, x_skip, x_label, x_cond, x_exit, x_goto, x_ret, k_normal, k_exit, k_goto, k_ret, b_normal, b_exit, b_goto, b_ret, wantedA, aop, ev, putA, List.length_cons, List.length_nil, List.replicate, List.cons_append, List.nil_append, List.append_nil, List.append_assoc, gs_same, gs_ne, gq_same, gq_ne, List.length_set, List.map_cons, List.map_nil, cellsOf, List.all_cons, List.all_nil, cellOk, boxTy, Bool.and_true, Bool.and_self, if_true, ite_true, ite_false, loadAt, storeAt, setAt, hget, hget0, hset, hset0, List.getElem?_cons_zero, List.getElem?_cons_succ, List.set_cons_zero, List.set_cons_succ, Nat.add_zero, Nat.zero_add, Nat.reduceAdd, Nat.reduceSub, Nat.reduceLeDiff, Nat.reduceLT, Nat.reduceEqDiff, Nat.le_refl, and_self, and_true, true_and, mkAgg, toIms, List.drop_zero, List.drop_succ_cons, List.take_succ_cons, List.take_zero, List.length_append, binBool, unA, Bool.false_eq_true, if_false, partA, fillA, fillE, List.take_nil, Nat.zero_ne_one, Nat.one_ne_zero, not_false_eq_true, ne_eq, Nat.succ_ne_self, reduceCtorEq, Int.reduceEq, Int.reduceLT, Int.reduceLE, decide_true, decide_false, beq_self_eq_true, beq_true, beq_false, Bool.not_true, Bool.not_false, b_lss, b_gtr, b_leq, b_geq, b_eql, b_neq, b_add, b_sub, b_mul, s_eql, s_neq, y_ops, y_nil, y_cons, y_guard, y_some, y_drop, y_do, y_not, y_not0, c_call, c_clo, c_move, c_pick, c_alloc, c_box, c_build, c_bslice, c_load, c_store, c_nilCheck, c_bin, c_binB, c_un, c_i2i, c_i2f, c_f2i, c_s2b, c_b2s, c_strId, c_mkfunc, c_mkslice, c_slice, c_sliceStr, c_fieldAddr, c_field, c_indexSl, c_indexArr, c_elemArr, c_indexStr, c_extract, c_lenStr, c_lenSl, c_append, c_real, c_imag, c_complex, c_min, c_max, c_clear, z_ops, z_nil, z_cons, z_guard, z_some, z_drop, z_do, z_not, z_not0, pairK, forall_eq_or_imp, stays, loadOf, List.reverse_cons, List.reverse_nil, List.mem_cons, List.not_mem_nil, or_false, forall_eq, true_or, or_true, Bool.true_and, lenA_sl, elems, toDatss, toDats, toDat, hlen, h1, h2, h3, h4, h8, h11, h16, hcd, oA, oV, hix, hga, hcall, gA, gZ, gV, gX, sX, hde]
      refine ⟨_, _, _, rfl, .inr ⟨he, rfl, RetQ.v ⟨?_, ?_, ?_, ?_, ?_, ?_⟩⟩⟩
      · simp only [gs_same, gs_ne, List.length_set, Nat.reduceLT, Nat.reduceEqDiff, not_false_eq_true, hlen, h8]
      · simp only [gs_same, gs_ne, List.length_set, Nat.reduceLT, Nat.reduceEqDiff, not_false_eq_true, hlen]
      · simp only [gs_same, gs_ne, List.length_set, Nat.reduceLT, Nat.reduceEqDiff, not_false_eq_true, hlen]
      · rw [List.getElem?_set_self (by simp; omega)]; rfl
      · rw [List.getElem?_set_ne (by omega), get_app (by simpa using hill), List.getElem?_set_self hill]
      · refine ⟨by simp; omega, fun j hj hne => ?_⟩
        rw [List.getElem?_set_ne (by omega), get_app (by simp; omega), List.getElem?_set_ne (by omega)]
        exact hlow j hj hne

end Go.Abs.Seat
end
