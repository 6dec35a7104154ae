/- Part 6 of what the claim rests on. -/
import Derived.Test.YthkimdejhkpdeaaRiA
import Derived.Test.YthkimdejhkpdeaaRiB
import Derived.Test.YthkimdejhkpdeaaRiC
import Derived.Test.YthkimdejhkpdeaaRiD
import Derived.Test.YthkimdejhkpdeaaRiE
section
set_option linter.unusedVariables false
set_option linter.unusedSimpArgs false
/- What the values' functions come to: points. -/
set_option linter.unusedVariables false
set_option linter.unusedSimpArgs false
namespace Go.Abs.Seat
open Go.Proofs

theorem cmp_lt (n m : Int) : (some (compare n m) == some Ordering.lt) = decide (n < m) := by
  show (some (compareOfLessAndEq n m) == some Ordering.lt) = _
  unfold compareOfLessAndEq
  by_cases h : n < m
  · simp [h]
  · by_cases h2 : n = m <;> simp [h, h2]
theorem cmp_gt (n m : Int) : (some (compare n m) == some Ordering.gt) = decide (m < n) := by
  show (some (compareOfLessAndEq n m) == some Ordering.gt) = _
  unfold compareOfLessAndEq
  by_cases h : n < m
  · have : ¬ m < n := by omega
    simp [h, this]
  · by_cases h2 : n = m
    · simp [h2]
    · have : m < n := by omega
      simp [h, h2, this]
theorem cmp_eq (n m : Int) : (some (compare n m) == some Ordering.eq) = decide (n = m) := by
  show (some (compareOfLessAndEq n m) == some Ordering.eq) = _
  unfold compareOfLessAndEq
  by_cases h : n < m
  · have : ¬ n = m := by omega
    simp [h, this]
  · by_cases h2 : n = m <;> simp [h, h2]

section
variable {x y : Nat} {n m : Int} (hx : isF x n) (hy : isF y m)
include hx hy
theorem fl_lss : binA .lss (.im (.flt .f64 x)) (.im (.flt .f64 y)) = some (.im (.bool (decide (n < m)))) := by
  have := isF_order hx hy
  simp only [binA, if_true, binFlt, this, cmp_lt]
theorem fl_gtr : binA .gtr (.im (.flt .f64 x)) (.im (.flt .f64 y)) = some (.im (.bool (decide (m < n)))) := by
  have := isF_order hx hy
  simp only [binA, if_true, binFlt, this, cmp_gt]
theorem fl_eql : binA .eql (.im (.flt .f64 x)) (.im (.flt .f64 y)) = some (.im (.bool (decide (n = m)))) := by
  have := isF_order hx hy
  simp only [binA, if_true, binFlt, this, cmp_eq]
theorem fl_neq : binA .neq (.im (.flt .f64 x)) (.im (.flt .f64 y)) = some (.im (.bool (decide (n ≠ m)))) := by
  have := isF_order hx hy
  have h2 : (some (compare n m) != some Ordering.eq) = decide (n ≠ m) := by
    unfold bne
    rw [cmp_eq]; simp
  simp only [binA, if_true, binFlt, this, h2]
theorem fl_geq : binA .geq (.im (.flt .f64 x)) (.im (.flt .f64 y)) = some (.im (.bool (decide (m ≤ n)))) := by
  have := isF_order hx hy
  have h2 : (some (compare n m) == some Ordering.gt || some (compare n m) == some Ordering.eq) = decide (m ≤ n) := by
    rw [cmp_gt, cmp_eq, ← Bool.decide_or]
    congr 1
    apply propext; omega
  simp only [binA, if_true, binFlt, this, h2]
end

/-- A point's part. -/
structure Part (x : Nat) (n : Int) : Prop where
  is : isF x n
  lo : -1048576 ≤ n
  hi : n < 1048576

theorem part_fl (n : Int) : Part (flZ n) (wrapZ n) := ⟨isF_nearest _ (by have := wrapZ_le n; omega), (wrapZ_le n).1, (wrapZ_le n).2⟩

theorem half_lo : isF 13920626448202203136 (-1048576) := by
  have := isF_nearest (-1048576) (by decide)
  have e : FloatKind.f64.nearest (-1048576) = 13920626448202203136 := by decide
  rwa [e] at this
theorem half_hi : isF 4697254411347427328 1048576 := by
  have := isF_nearest 1048576 (by decide)
  have e : FloatKind.f64.nearest 1048576 = 4697254411347427328 := by decide
  rwa [e] at this

theorem s115 {x : Nat} {n : Int} (h : Part x n) (H : Heap) : L 115 [.im (.flt .f64 x)] H = some (.im (.bool true), H) := by
  have hge := fl_geq h.is half_lo
  have hls := fl_lss h.is half_hi
  have hti := isF_toInt h.is
  have heq := fl_eql h.is (isF_nearest n (by have := h.lo; have := h.hi; omega))
  have d1 : decide (-1048576 ≤ n) = true := decide_eq_true h.lo
  have d2 : decide (n < 1048576) = true := decide_eq_true h.hi
  have d3 : decide (n = n) = true := decide_eq_true rfl
  rw [d1] at hge; rw [d2] at hls; rw [d3] at heq
  have hmin : IntKind.i64.min = -9223372036854775808 := rfl
  have hmax : IntKind.i64.max = 9223372036854775807 := rfl
  have hc : -9223372036854775808 ≤ n ∧ n ≤ 9223372036854775807 := by have := h.lo; have := h.hi; omega
  have hlv : leave H false (.im (.bool true)) H = (.im (.bool true), H) := leave_same
  rw [leq F115]
  obtain ⟨hlen, ha⟩ := enter_at (f := f115) (args := [.im (.flt .f64 x)]) (Nat.le_of_ble_eq_true rfl)
  have h0 := ha 0 _ rfl
  generalize enterA f115 [.im (.flt .f64 x)] = tm at *
  change tm.length = 16 at hlen
  simp only [f115, x_seq, x_block, x_skip, x_label, x_cond, x_exit, x_goto, x_ret, k_normal, k_exit, k_goto, k_ret, b_normal, b_exit, b_goto, b_ret, wantedA, aop, ev, putA, List.length_cons, List.length_nil, List.replicate, List.cons_append, List.nil_append, List.append_nil, List.append_assoc, gs_same, gs_ne, gq_same, gq_ne, List.length_set, List.map_cons, List.map_nil, cellsOf, List.all_cons, List.all_nil, cellOk, boxTy, Bool.and_true, Bool.and_self, if_true, ite_true, ite_false, loadAt, storeAt, setAt, hget, hget0, hset, hset0, List.getElem?_cons_zero, List.getElem?_cons_succ, List.set_cons_zero, List.set_cons_succ, Nat.add_zero, Nat.zero_add, Nat.reduceAdd, Nat.reduceSub, Nat.reduceLeDiff, Nat.reduceLT, Nat.reduceEqDiff, Nat.le_refl, and_self, and_true, true_and, mkAgg, toIms, List.drop_zero, List.drop_succ_cons, List.take_succ_cons, List.take_zero, List.length_append, binBool, unA, Bool.false_eq_true, if_false, partA, fillA, fillE, List.take_nil, Nat.zero_ne_one, Nat.one_ne_zero, not_false_eq_true, ne_eq, Nat.succ_ne_self, reduceCtorEq, Int.reduceEq, Int.reduceLT, Int.reduceLE, decide_true, decide_false, lenA, beq_self_eq_true, beq_true, beq_false, Bool.not_true, Bool.not_false, b_lss, b_gtr, b_leq, b_geq, b_eql, b_neq, b_add, b_sub, b_mul, s_eql, s_neq, y_ops, y_nil, y_cons, y_guard, y_some, y_drop, y_do, y_not, y_not0, c_call, c_clo, c_move, c_pick, c_alloc, c_box, c_build, c_bslice, c_load, c_store, c_nilCheck, c_bin, c_binB, c_un, c_i2i, c_i2f, c_f2i, c_s2b, c_b2s, c_strId, c_mkfunc, c_mkslice, c_slice, c_sliceStr, c_fieldAddr, c_field, c_indexSl, c_indexArr, c_elemArr, c_indexStr, c_extract, c_lenStr, c_lenSl, c_append, c_real, c_imag, c_complex, c_min, c_max, c_clear, endK, resA, tupA, hlen, h0, hge, hls, hti, heq, hmin, hmax, hc, hlv]

/-- A point as it is handed over. -/
abbrev ptA (fa fb : Nat) : AV := .im (.agg [.int .i64 5, .int .i64 0, .str [], .cpx .f64 fa fb, .sl 0 []])

theorem s114 (fa fb : Nat) (H : Heap) : L 114 [ptA fa fb, .im (.bool false), .im (.bool false), .im (.bool true), .im (.bool false)] H = some (.im (.bool true), H) := by
  rw [leq F114]
  obtain ⟨hlen, ha⟩ := enter_at (f := f114) (args := [ptA fa fb, .im (.bool false), .im (.bool false), .im (.bool true), .im (.bool false)]) (Nat.le_of_ble_eq_true rfl)
  have h0 := ha 0 _ rfl
  have h1 := ha 1 _ rfl
  have h2 := ha 2 _ rfl
  have h3 := ha 3 _ rfl
  have h4 := ha 4 _ rfl
  generalize enterA f114 [ptA fa fb, .im (.bool false), .im (.bool false), .im (.bool true), .im (.bool false)] = tm at *
  change tm.length = 42 at hlen
  simp only [f114, x_seq, x_block, x_skip, x_label, x_cond, x_exit, x_goto, x_ret, k_normal, k_exit, k_goto, k_ret, b_normal, b_exit, b_goto, b_ret, wantedA, aop, ev, putA, List.length_cons, List.length_nil, List.replicate, List.cons_append, List.nil_append, List.append_nil, List.append_assoc, gs_same, gs_ne, gq_same, gq_ne, List.length_set, List.map_cons, List.map_nil, cellsOf, List.all_cons, List.all_nil, cellOk, boxTy, Bool.and_true, Bool.and_self, if_true, ite_true, ite_false, loadAt, storeAt, setAt, hget, hget0, hset, hset0, List.getElem?_cons_zero, List.getElem?_cons_succ, List.set_cons_zero, List.set_cons_succ, Nat.add_zero, Nat.zero_add, Nat.reduceAdd, Nat.reduceSub, Nat.reduceLeDiff, Nat.reduceLT, Nat.reduceEqDiff, Nat.le_refl, and_self, and_true, true_and, mkAgg, toIms, List.drop_zero, List.drop_succ_cons, List.take_succ_cons, List.take_zero, List.length_append, binBool, unA, Bool.false_eq_true, if_false, partA, fillA, fillE, List.take_nil, Nat.zero_ne_one, Nat.one_ne_zero, not_false_eq_true, ne_eq, Nat.succ_ne_self, reduceCtorEq, Int.reduceEq, Int.reduceLT, Int.reduceLE, decide_true, decide_false, lenA, beq_self_eq_true, beq_true, beq_false, Bool.not_true, Bool.not_false, b_lss, b_gtr, b_leq, b_geq, b_eql, b_neq, b_add, b_sub, b_mul, s_eql, s_neq, y_ops, y_nil, y_cons, y_guard, y_some, y_drop, y_do, y_not, y_not0, c_call, c_clo, c_move, c_pick, c_alloc, c_box, c_build, c_bslice, c_load, c_store, c_nilCheck, c_bin, c_binB, c_un, c_i2i, c_i2f, c_f2i, c_s2b, c_b2s, c_strId, c_mkfunc, c_mkslice, c_slice, c_sliceStr, c_fieldAddr, c_field, c_indexSl, c_indexArr, c_elemArr, c_indexStr, c_extract, c_lenStr, c_lenSl, c_append, c_real, c_imag, c_complex, c_min, c_max, c_clear, endK, resA, tupA, hlen, h0, h1, h2, h3, h4, leave_app, Int.ofNat_zero, Int.cast_ofNat_Int]

theorem s107 {fa fb : Nat} {n m : Int} (pa : Part fa n) (pb : Part fb m) (H : Heap) : L 107 [ptA fa fb] H = some (.im (.bool true), H) := by
  have c1 := fun H => s114 fa fb H
  have c2 := fun H => s115 pa H
  have c3 := fun H => s115 pb H
  rw [leq F107]
  obtain ⟨hlen, ha⟩ := enter_at (f := f107) (args := [ptA fa fb]) (Nat.le_of_ble_eq_true rfl)
  have h0 := ha 0 _ rfl
  generalize enterA f107 [ptA fa fb] = tm at *
  change tm.length = 84 at hlen
  simp only [f107, x_seq, x_block, x_skip, x_label, x_cond, x_exit, x_goto, x_ret, k_normal, k_exit, k_goto, k_ret, b_normal, b_exit, b_goto, b_ret, wantedA, aop, ev, putA, List.length_cons, List.length_nil, List.replicate, List.cons_append, List.nil_append, List.append_nil, List.append_assoc, gs_same, gs_ne, gq_same, gq_ne, List.length_set, List.map_cons, List.map_nil, cellsOf, List.all_cons, List.all_nil, cellOk, boxTy, Bool.and_true, Bool.and_self, if_true, ite_true, ite_false, loadAt, storeAt, setAt, hget, hget0, hset, hset0, List.getElem?_cons_zero, List.getElem?_cons_succ, List.set_cons_zero, List.set_cons_succ, Nat.add_zero, Nat.zero_add, Nat.reduceAdd, Nat.reduceSub, Nat.reduceLeDiff, Nat.reduceLT, Nat.reduceEqDiff, Nat.le_refl, and_self, and_true, true_and, mkAgg, toIms, List.drop_zero, List.drop_succ_cons, List.take_succ_cons, List.take_zero, List.length_append, binBool, unA, Bool.false_eq_true, if_false, partA, fillA, fillE, List.take_nil, Nat.zero_ne_one, Nat.one_ne_zero, not_false_eq_true, ne_eq, Nat.succ_ne_self, reduceCtorEq, Int.reduceEq, Int.reduceLT, Int.reduceLE, decide_true, decide_false, lenA, beq_self_eq_true, beq_true, beq_false, Bool.not_true, Bool.not_false, b_lss, b_gtr, b_leq, b_geq, b_eql, b_neq, b_add, b_sub, b_mul, s_eql, s_neq, y_ops, y_nil, y_cons, y_guard, y_some, y_drop, y_do, y_not, y_not0, c_call, c_clo, c_move, c_pick, c_alloc, c_box, c_build, c_bslice, c_load, c_store, c_nilCheck, c_bin, c_binB, c_un, c_i2i, c_i2f, c_f2i, c_s2b, c_b2s, c_strId, c_mkfunc, c_mkslice, c_slice, c_sliceStr, c_fieldAddr, c_field, c_indexSl, c_indexArr, c_elemArr, c_indexStr, c_extract, c_lenStr, c_lenSl, c_append, c_real, c_imag, c_complex, c_min, c_max, c_clear, endK, resA, tupA, hlen, h0, c1, c2, c3, leave_app]

end Go.Abs.Seat
end
section
set_option linter.unusedVariables false
set_option linter.unusedSimpArgs false
/- The scopes of functions, with the code behind their labels by name. -/
set_option linter.unusedVariables false
namespace Go.Abs.Seat
open Go.Proofs
def w87_0 : ACode := (.seq (.ops [⟨(some 11), (.move (.t 3)), none⟩, ⟨(some 12), (.bin .add (.t 11) (.c (.im (.int .i64 1)))), none⟩, ⟨(some 3), (.move (.t 12)), none⟩] []) (.seq (.ops [⟨(some 6), (.move (.c .nils)), none⟩] []) (.seq (.seq (.ops [⟨(some 13), (.move (.t 5)), none⟩, ⟨(some 14), (.lenSl (.t 13)), none⟩, ⟨(some 15), (.move (.c (.im (.int .i64 0)))), none⟩] []) (.block 0 c87_0)) (.seq (.seq (.ops [⟨(some 33), (.move (.t 3)), none⟩, ⟨(some 34), (.bin .gtr (.t 33) (.c (.im (.int .i64 8)))), none⟩] []) (.cond (.t 34) (.seq (.ops [⟨(some 2), (.move (.c (.im (.int .i64 0)))), none⟩, ⟨(some 3), (.move (.c (.im (.int .i64 0)))), none⟩, ⟨(some 4), (.move (.c (.im (.bool false)))), none⟩] []) .ret) .skip)) (.seq (.seq (.ops [⟨(some 35), (.move (.t 6)), none⟩, ⟨(some 5), (.move (.t 35)), none⟩] []) (.seq (.ops [⟨(some 36), (.move (.t 5)), none⟩, ⟨(some 37), (.lenSl (.t 36)), none⟩, ⟨(some 38), (.bin .gtr (.t 37) (.c (.im (.int .i64 0)))), none⟩] []) (.cond (.t 38) (.goto 0) .skip))) (.seq (.ops [⟨(some 39), (.move (.t 2)), none⟩, ⟨(some 40), (.move (.t 3)), none⟩, ⟨(some 2), (.move (.t 39)), none⟩, ⟨(some 3), (.move (.t 40)), none⟩, ⟨(some 4), (.move (.c (.im (.bool true)))), none⟩] []) .ret))))))
def s87b : ACode := (.seq (.ops [⟨(some 9), (.load (some 5) (.t 1)), none⟩, ⟨(some 10), (.bslice false 5 1 [(.im (.int .i64 0)), (.im (.int .i64 0)), (.im (.str [])), (.im (.cpx .f64 0 0)), .nils] [(0, (.t 9))]), none⟩, ⟨(some 5), (.move (.t 10)), none⟩] []) (.seq (.label 0) w87_0))
theorem s87b_eq : c87_1 = .scope s87b s87b := rfl
noncomputable def K87 (e : AEx) (tm : List AV) (H : Heap) : Option Out := match e with
    | .goto l => match findA s87b l with
      | some rest => Λ (.scope s87b rest) tm H
      | none => none
    | .normal => some (.normal, tm, H)
    | .exit i => some (.exit i, tm, H)
    | .ret => some (.ret, tm, H)
theorem K87_normal (tm : List AV) (H : Heap) : K87 .normal tm H = some (.normal, tm, H) := _root_.id rfl
theorem K87_ret (tm : List AV) (H : Heap) : K87 .ret tm H = some (.ret, tm, H) := _root_.id rfl
theorem K87_exit (i : Nat) (tm : List AV) (H : Heap) : K87 (.exit i) tm H = some (.exit i, tm, H) := _root_.id rfl
theorem c87_1_eq (tm : List AV) (H : Heap) : Λ c87_1 tm H = exec0 L Λ s87b tm H K87 := by
  rw [s87b_eq]; exact scope_eq
def g87_0 : ACode := .scope s87b (.seq .skip w87_0)
theorem K87_goto0 (tm : List AV) (H : Heap) : K87 (.goto 0) tm H = Λ g87_0 tm H := by
  have h : findA s87b 0 = some (.seq .skip w87_0) := rfl
  simp only [K87, h, g87_0]
theorem g87_0_eq (tm : List AV) (H : Heap) : Λ g87_0 tm H = exec0 L Λ w87_0 tm H K87 := by
  rw [g87_0]; exact scope_eq
end Go.Abs.Seat
end
section
set_option linter.unusedVariables false
set_option linter.unusedSimpArgs false
/- What the values' functions come to: a point is right; points as numbers; a point's parts. -/
set_option linter.unusedVariables false
set_option linter.unusedSimpArgs false
namespace Go.Abs.Seat
open Go.Proofs

/-- A point's cells. -/
abbrev ptD (fa fb : Nat) : List Dat := [.int .i64 5, .int .i64 0, .str [], .cpx .f64 fa fb, .sl 0 []]

theorem toDatA (fa fb : Nat) : toDatss [[AV.im (.int .i64 5), .im (.int .i64 0), .im (.str []), .im (.cpx .f64 fa fb), .im (.sl 0 [])]] = some [ptD fa fb] := _root_.id rfl
theorem toDatA2 (fa fb ga gb : Nat) : toDatss [[AV.im (.int .i64 5), .im (.int .i64 0), .im (.str []), .im (.cpx .f64 fa fb), .im (.sl 0 [])], [AV.im (.int .i64 5), .im (.int .i64 0), .im (.str []), .im (.cpx .f64 ga gb), .im (.sl 0 [])]] = some [ptD fa fb, ptD ga gb] := _root_.id rfl
theorem toDatC (fa fb : Nat) : toDatss [[AV.im (.cpx .f64 fa fb)]] = some [[.cpx .f64 fa fb]] := _root_.id rfl
theorem toDatI (a b : Int) : toDatss [[AV.im (.int .i64 a)], [AV.im (.int .i64 b)]] = some [[.int .i64 a], [.int .i64 b]] := _root_.id rfl
theorem toDatI3 (a b c : Int) : toDatss [[AV.im (.int .i64 a)], [AV.im (.int .i64 b)], [AV.im (.int .i64 c)]] = some [[.int .i64 a], [.int .i64 b], [.int .i64 c]] := _root_.id rfl
theorem el_nil {H : Heap} {s s' : Nat} : elems H s (.im (.sl s' [])) = some [] := by simp [elems]
theorem ap_nil {H : Heap} {ty : TypeId} {b s : Nat} : appendA H ty b s .nils [] = some (.nils, H) := _root_.id rfl
theorem lenA_nils : lenA .nils = some 0 := _root_.id rfl
theorem lenA_sl' {s : Nat} {es : List (List Dat)} : lenA (.im (.sl s es)) = some es.length := _root_.id rfl
theorem idx_00 : idx (.im (.int .i64 0)) 1 = some 0 := _root_.id rfl
theorem idx_02 : idx (.im (.int .i64 0)) 2 = some 0 := _root_.id rfl
theorem idx_12 : idx (.im (.int .i64 1)) 2 = some 1 := _root_.id rfl
theorem zc0 : ((0 : Nat) : Int) = 0 := _root_.id rfl
theorem zc1 : ((1 : Nat) : Int) = 1 := _root_.id rfl
theorem zc2 : ((2 : Nat) : Int) = 2 := _root_.id rfl
theorem w1 : IntKind.i64.wrap (0 + 1) = 1 := _root_.id rfl
theorem w2 : IntKind.i64.wrap (1 + 1) = 2 := _root_.id rfl

theorem thenL_some {R : Type} (e : AEx) (tm : List AV) (H : Heap) (K : AEx → List AV → Heap → Option R) : thenL (some (e, tm, H)) K = K e tm H := _root_.id rfl

theorem l87e (tm : List AV) (H : Heap) (x2 x3 x6 _x13 : AV) (hlen : tm.length = 41) (h2 : tm.getD 2 undefA = x2) (h3 : tm.getD 3 undefA = x3) (h6 : tm.getD 6 undefA = x6) (h14 : tm.getD 14 undefA = .im (.int .i64 1)) (h15 : tm.getD 15 undefA = .im (.int .i64 1)) :
    ∃ e tm' H', Λ c87_0 tm H = some (e, tm', H') ∧ (e = .exit 0 ∧ tm'.length = 41 ∧ tm'.getD 2 undefA = x2 ∧ tm'.getD 3 undefA = x3 ∧ tm'.getD 6 undefA = x6 ∧ H' = H) := by
  rw [l87_0]
  simp only [b87_0, x_seq, x_block, x_skip, x_label, x_cond, x_exit, x_goto, x_ret, k_normal, k_exit, k_goto, k_ret, b_normal, b_exit, b_goto, b_ret, wantedA, aop, ev, putA, List.length_cons, List.length_nil, List.replicate, List.cons_append, List.nil_append, List.append_nil, List.append_assoc, gs_same, gs_ne, gq_same, gq_ne, List.length_set, List.map_cons, List.map_nil, cellsOf, List.all_cons, List.all_nil, cellOk, boxTy, Bool.and_true, Bool.and_self, if_true, ite_true, ite_false, loadAt, storeAt, setAt, hget, hget0, hset, hset0, List.getElem?_cons_zero, List.getElem?_cons_succ, List.set_cons_zero, List.set_cons_succ, Nat.add_zero, Nat.zero_add, Nat.reduceAdd, Nat.reduceSub, Nat.reduceLeDiff, Nat.reduceLT, Nat.reduceEqDiff, Nat.le_refl, and_self, and_true, true_and, mkAgg, toIms, List.drop_zero, List.drop_succ_cons, List.take_succ_cons, List.take_zero, List.length_append, binBool, unA, Bool.false_eq_true, if_false, partA, fillA, fillE, List.take_nil, Nat.zero_ne_one, Nat.one_ne_zero, not_false_eq_true, ne_eq, Nat.succ_ne_self, reduceCtorEq, Int.reduceEq, Int.reduceLT, Int.reduceLE, decide_true, decide_false, lenA, beq_self_eq_true, beq_true, beq_false, Bool.not_true, Bool.not_false, b_lss, b_gtr, b_leq, b_geq, b_eql, b_neq, b_add, b_sub, b_mul, s_eql, s_neq, y_ops, y_nil, y_cons, y_guard, y_some, y_drop, y_do, y_not, y_not0, c_call, c_clo, c_move, c_pick, c_alloc, c_box, c_build, c_bslice, c_load, c_store, c_nilCheck, c_bin, c_binB, c_un, c_i2i, c_i2f, c_f2i, c_s2b, c_b2s, c_strId, c_mkfunc, c_mkslice, c_slice, c_sliceStr, c_fieldAddr, c_field, c_indexSl, c_indexArr, c_elemArr, c_indexStr, c_extract, c_lenStr, c_lenSl, c_append, c_real, c_imag, c_complex, c_min, c_max, c_clear, hlen, h14, h15]
  exact ⟨_, _, _, rfl, rfl, by simp only [List.length_set, hlen], by simp only [gs_same, gs_ne, List.length_set, Nat.reduceLT, Nat.reduceEqDiff, not_false_eq_true, hlen, h2], by simp only [gs_same, gs_ne, List.length_set, Nat.reduceLT, Nat.reduceEqDiff, not_false_eq_true, hlen, h3], by simp only [gs_same, gs_ne, List.length_set, Nat.reduceLT, Nat.reduceEqDiff, not_false_eq_true, hlen, h6], rfl⟩

theorem l87p {fa fb : Nat} {n m : Int} (pa : Part fa n) (pb : Part fb m) (tm : List AV) (H : Heap) (x3 : AV) (hlen : tm.length = 41) (h2 : tm.getD 2 undefA = .im (.int .i64 0)) (h3 : tm.getD 3 undefA = x3) (h6 : tm.getD 6 undefA = .nils) (h13 : tm.getD 13 undefA = .im (.sl 5 [ptD fa fb])) (h14 : tm.getD 14 undefA = .im (.int .i64 1)) (h15 : tm.getD 15 undefA = .im (.int .i64 0)) :
    ∃ e tm' H', Λ c87_0 tm H = some (e, tm', H') ∧ (e = .exit 0 ∧ tm'.length = 41 ∧ tm'.getD 2 undefA = .im (.int .i64 1) ∧ tm'.getD 3 undefA = x3 ∧ tm'.getD 6 undefA = .nils ∧ ∃ M, H' = H ++ M) := by
  have c1 := fun H => s107 pa pb H
  rw [l87_0]
  simp only [b87_0, x_seq, x_block, x_skip, x_label, x_cond, x_exit, x_goto, x_ret, k_normal, k_exit, k_goto, k_ret, b_normal, b_exit, b_goto, b_ret, wantedA, aop, ev, putA, List.length_cons, List.length_nil, List.replicate, List.cons_append, List.nil_append, List.append_nil, List.append_assoc, gs_same, gs_ne, gq_same, gq_ne, List.length_set, List.map_cons, List.map_nil, cellsOf, List.all_cons, List.all_nil, cellOk, boxTy, Bool.and_true, Bool.and_self, if_true, ite_true, ite_false, loadAt, storeAt, setAt, hget, hget0, hset, hset0, List.getElem?_cons_zero, List.getElem?_cons_succ, List.set_cons_zero, List.set_cons_succ, Nat.add_zero, Nat.zero_add, Nat.reduceAdd, Nat.reduceSub, Nat.reduceLeDiff, Nat.reduceLT, Nat.reduceEqDiff, Nat.le_refl, and_self, and_true, true_and, mkAgg, toIms, List.drop_zero, List.drop_succ_cons, List.take_succ_cons, List.take_zero, List.length_append, binBool, unA, Bool.false_eq_true, if_false, partA, fillA, fillE, List.take_nil, Nat.zero_ne_one, Nat.one_ne_zero, not_false_eq_true, ne_eq, Nat.succ_ne_self, reduceCtorEq, Int.reduceEq, Int.reduceLT, Int.reduceLE, decide_true, decide_false, lenA, beq_self_eq_true, beq_true, beq_false, Bool.not_true, Bool.not_false, b_lss, b_gtr, b_leq, b_geq, b_eql, b_neq, b_add, b_sub, b_mul, s_eql, s_neq, y_ops, y_nil, y_cons, y_guard, y_some, y_drop, y_do, y_not, y_not0, c_call, c_clo, c_move, c_pick, c_alloc, c_box, c_build, c_bslice, c_load, c_store, c_nilCheck, c_bin, c_binB, c_un, c_i2i, c_i2f, c_f2i, c_s2b, c_b2s, c_strId, c_mkfunc, c_mkslice, c_slice, c_sliceStr, c_fieldAddr, c_field, c_indexSl, c_indexArr, c_elemArr, c_indexStr, c_extract, c_lenStr, c_lenSl, c_append, c_real, c_imag, c_complex, c_min, c_max, c_clear, hlen, h2, h6, h13, h14, h15, idx_00, c1, el_nil, ap_nil, w1]
  refine ex_imp (l87e _ _ (.im (.int .i64 1)) x3 .nils .nils ?_ ?_ ?_ ?_ ?_ ?_) fun _ _ _ ⟨q1, q2, q3, q4, q5, q6⟩ => ⟨q1, q2, q3, q4, q5, ⟨_, q6⟩⟩
  all_goals simp only [gs_same, gs_ne, List.length_set, Nat.reduceLT, Nat.reduceEqDiff, not_false_eq_true, hlen, h3, h14]

theorem s87 {fa fb : Nat} {n m : Int} (pa : Part fa n) (pb : Part fb m) (H : Heap) : L 87 [ptA fa fb] H = some (.tup [.im (.int .i64 1), .im (.int .i64 1), .im (.bool true)], H) := by
  have hlv : ∀ M : Heap, leave H false (.tup [.im (.int .i64 1), .im (.int .i64 1), .im (.bool true)]) (H ++ M) = (.tup [.im (.int .i64 1), .im (.int .i64 1), .im (.bool true)], H) := fun M => leave_deg rfl rfl
  rw [leq F87]
  obtain ⟨hlen, ha⟩ := enter_at (f := f87) (args := [ptA fa fb]) (Nat.le_of_ble_eq_true rfl)
  have h0 := ha 0 _ rfl
  generalize enterA f87 [ptA fa fb] = tm at *
  change tm.length = 41 at hlen
  have key := l87p pa pb
  simp only [f87, e87_1, c87_1_eq, s87b, w87_0, e87_0, x_seq, x_block, x_skip, x_label, x_cond, x_exit, x_goto, x_ret, k_normal, k_exit, k_goto, k_ret, b_normal, b_exit, b_goto, b_ret, wantedA, aop, ev, putA, List.length_cons, List.length_nil, List.replicate, List.cons_append, List.nil_append, List.append_nil, List.append_assoc, gs_same, gs_ne, gq_same, gq_ne, List.length_set, List.map_cons, List.map_nil, cellsOf, List.all_cons, List.all_nil, cellOk, boxTy, Bool.and_true, Bool.and_self, if_true, ite_true, ite_false, loadAt, storeAt, setAt, hget, hget0, hset, hset0, List.getElem?_cons_zero, List.getElem?_cons_succ, List.set_cons_zero, List.set_cons_succ, Nat.add_zero, Nat.zero_add, Nat.reduceAdd, Nat.reduceSub, Nat.reduceLeDiff, Nat.reduceLT, Nat.reduceEqDiff, Nat.le_refl, and_self, and_true, true_and, mkAgg, toIms, List.drop_zero, List.drop_succ_cons, List.take_succ_cons, List.take_zero, List.length_append, binBool, unA, Bool.false_eq_true, if_false, partA, fillA, fillE, List.take_nil, Nat.zero_ne_one, Nat.one_ne_zero, not_false_eq_true, ne_eq, Nat.succ_ne_self, reduceCtorEq, Int.reduceEq, Int.reduceLT, Int.reduceLE, decide_true, decide_false, lenA, beq_self_eq_true, beq_true, beq_false, Bool.not_true, Bool.not_false, b_lss, b_gtr, b_leq, b_geq, b_eql, b_neq, b_add, b_sub, b_mul, s_eql, s_neq, y_ops, y_nil, y_cons, y_guard, y_some, y_drop, y_do, y_not, y_not0, c_call, c_clo, c_move, c_pick, c_alloc, c_box, c_build, c_bslice, c_load, c_store, c_nilCheck, c_bin, c_binB, c_un, c_i2i, c_i2f, c_f2i, c_s2b, c_b2s, c_strId, c_mkfunc, c_mkslice, c_slice, c_sliceStr, c_fieldAddr, c_field, c_indexSl, c_indexArr, c_elemArr, c_indexStr, c_extract, c_lenStr, c_lenSl, c_append, c_real, c_imag, c_complex, c_min, c_max, c_clear, hlen, h0, toDatA, lenA_sl', w1, zc0, zc1]
  generalize hr : thenL (Λ c87_0 _ _) _ = r
  refine Exists.elim (thenL_inv hr (key _ _ (.im (.int .i64 1)) ?_ ?_ ?_ ?_ ?_ ?_ ?_)) ?_
  iterate 7 simp only [gs_same, gs_ne, List.length_set, Nat.reduceLT, Nat.reduceEqDiff, not_false_eq_true, hlen]
  clear hr key
  rintro e ⟨tm1, H1, ⟨rfl, g1, g2, g3, g4, M, rfl⟩, rfl⟩
  simp only [x_seq, x_block, x_skip, x_label, x_cond, x_exit, x_goto, x_ret, k_normal, k_exit, k_goto, k_ret, b_normal, b_exit, b_goto, b_ret, wantedA, aop, ev, putA, List.length_cons, List.length_nil, List.replicate, List.cons_append, List.nil_append, List.append_nil, List.append_assoc, gs_same, gs_ne, gq_same, gq_ne, List.length_set, List.map_cons, List.map_nil, cellsOf, List.all_cons, List.all_nil, cellOk, boxTy, Bool.and_true, Bool.and_self, if_true, ite_true, ite_false, loadAt, storeAt, setAt, hget, hget0, hset, hset0, List.getElem?_cons_zero, List.getElem?_cons_succ, List.set_cons_zero, List.set_cons_succ, Nat.add_zero, Nat.zero_add, Nat.reduceAdd, Nat.reduceSub, Nat.reduceLeDiff, Nat.reduceLT, Nat.reduceEqDiff, Nat.le_refl, and_self, and_true, true_and, mkAgg, toIms, List.drop_zero, List.drop_succ_cons, List.take_succ_cons, List.take_zero, List.length_append, binBool, unA, Bool.false_eq_true, if_false, partA, fillA, fillE, List.take_nil, Nat.zero_ne_one, Nat.one_ne_zero, not_false_eq_true, ne_eq, Nat.succ_ne_self, reduceCtorEq, Int.reduceEq, Int.reduceLT, Int.reduceLE, decide_true, decide_false, lenA, beq_self_eq_true, beq_true, beq_false, Bool.not_true, Bool.not_false, b_lss, b_gtr, b_leq, b_geq, b_eql, b_neq, b_add, b_sub, b_mul, s_eql, s_neq, y_ops, y_nil, y_cons, y_guard, y_some, y_drop, y_do, y_not, y_not0, c_call, c_clo, c_move, c_pick, c_alloc, c_box, c_build, c_bslice, c_load, c_store, c_nilCheck, c_bin, c_binB, c_un, c_i2i, c_i2f, c_f2i, c_s2b, c_b2s, c_strId, c_mkfunc, c_mkslice, c_slice, c_sliceStr, c_fieldAddr, c_field, c_indexSl, c_indexArr, c_elemArr, c_indexStr, c_extract, c_lenStr, c_lenSl, c_append, c_real, c_imag, c_complex, c_min, c_max, c_clear, endK, resA, tupA, g1, g2, g3, g4, lenA_nils, zc0, K87_ret, thenL_some, hlv]

theorem s58 {fa fb : Nat} {n m : Int} (pa : Part fa n) (pb : Part fb m) (H : Heap) : L 58 [ptA fa fb] H = some (.im (.int .i64 0), H) := by
  have c1 := fun H => s87 pa pb H
  rw [leq F58]
  obtain ⟨hlen, ha⟩ := enter_at (f := f58) (args := [ptA fa fb]) (Nat.le_of_ble_eq_true rfl)
  have h0 := ha 0 _ rfl
  generalize enterA f58 [ptA fa fb] = tm at *
  change tm.length = 14 at hlen
  simp only [f58, x_seq, x_block, x_skip, x_label, x_cond, x_exit, x_goto, x_ret, k_normal, k_exit, k_goto, k_ret, b_normal, b_exit, b_goto, b_ret, wantedA, aop, ev, putA, List.length_cons, List.length_nil, List.replicate, List.cons_append, List.nil_append, List.append_nil, List.append_assoc, gs_same, gs_ne, gq_same, gq_ne, List.length_set, List.map_cons, List.map_nil, cellsOf, List.all_cons, List.all_nil, cellOk, boxTy, Bool.and_true, Bool.and_self, if_true, ite_true, ite_false, loadAt, storeAt, setAt, hget, hget0, hset, hset0, List.getElem?_cons_zero, List.getElem?_cons_succ, List.set_cons_zero, List.set_cons_succ, Nat.add_zero, Nat.zero_add, Nat.reduceAdd, Nat.reduceSub, Nat.reduceLeDiff, Nat.reduceLT, Nat.reduceEqDiff, Nat.le_refl, and_self, and_true, true_and, mkAgg, toIms, List.drop_zero, List.drop_succ_cons, List.take_succ_cons, List.take_zero, List.length_append, binBool, unA, Bool.false_eq_true, if_false, partA, fillA, fillE, List.take_nil, Nat.zero_ne_one, Nat.one_ne_zero, not_false_eq_true, ne_eq, Nat.succ_ne_self, reduceCtorEq, Int.reduceEq, Int.reduceLT, Int.reduceLE, decide_true, decide_false, lenA, beq_self_eq_true, beq_true, beq_false, Bool.not_true, Bool.not_false, b_lss, b_gtr, b_leq, b_geq, b_eql, b_neq, b_add, b_sub, b_mul, s_eql, s_neq, y_ops, y_nil, y_cons, y_guard, y_some, y_drop, y_do, y_not, y_not0, c_call, c_clo, c_move, c_pick, c_alloc, c_box, c_build, c_bslice, c_load, c_store, c_nilCheck, c_bin, c_binB, c_un, c_i2i, c_i2f, c_f2i, c_s2b, c_b2s, c_strId, c_mkfunc, c_mkslice, c_slice, c_sliceStr, c_fieldAddr, c_field, c_indexSl, c_indexArr, c_elemArr, c_indexStr, c_extract, c_lenStr, c_lenSl, c_append, c_real, c_imag, c_complex, c_min, c_max, c_clear, endK, resA, tupA, hlen, h0, c1, leave_app]

/-- A point's parts, as they lie in memory. -/
structure PtV where
  fa : Nat
  fb : Nat
  n : Int
  m : Int
  pa : Part fa n
  pb : Part fb m

abbrev PtV.D (p : PtV) : List Dat := ptD p.fa p.fb
abbrev PtV.C (p : PtV) : List Dat := [.cpx .f64 p.fa p.fb]

theorem el_one {H : Heap} {s : Nat} {es : List (List Dat)} : elems H s (.im (.sl s es)) = some es := by cases es <;> simp [elems]
theorem elC (H : Heap) (fa fb : Nat) : elems H 1 (.im (.sl 1 [[.cpx .f64 fa fb]])) = some [[.cpx .f64 fa fb]] := el_one

theorem l57 (l : List PtV) (hl : l.length ≤ 1000) :
    ∀ (k i : Nat) (tm : List AV) (N : Nat) (H : Heap) (v : AV), i + k = l.length → N ≤ H.length → tm.length = 28 → tm.getD 4 undefA = v → tm.getD 7 undefA = .im (.sl 5 (l.map PtV.D)) → tm.getD 8 undefA = .im (.int .i64 (l.length : Int)) → tm.getD 9 undefA = .im (.int .i64 (i : Int)) →
      Gath 53 1 N v H ((l.take i).map PtV.C) →
    ∃ e tm' H', Λ c57_0 tm H = some (e, tm', H') ∧ (e = .exit 0 ∧ tm'.length = 28 ∧ (∃ v', tm'.getD 4 undefA = v' ∧ Gath 53 1 N v' H' (l.map PtV.C)) ∧ N ≤ H'.length ∧ ∀ j, j < N → H'[j]? = H[j]?)
  | 0, i, tm, N, H, v, hk, hN, hlen, h4, h7, h8, h9, hG => by
    have hc : decide ((i : Int) < (l.length : Int)) = false := decide_eq_false (by omega)
    rw [l57_0]
    simp only [b57_0, x_seq, x_block, x_skip, x_label, x_cond, x_exit, x_goto, x_ret, k_normal, k_exit, k_goto, k_ret, b_normal, b_exit, b_goto, b_ret, wantedA, aop, ev, putA, List.length_cons, List.length_nil, List.replicate, List.cons_append, List.nil_append, List.append_nil, List.append_assoc, gs_same, gs_ne, gq_same, gq_ne, List.length_set, List.map_cons, List.map_nil, cellsOf, List.all_cons, List.all_nil, cellOk, boxTy, Bool.and_true, Bool.and_self, if_true, ite_true, ite_false, loadAt, storeAt, setAt, hget, hget0, hset, hset0, List.getElem?_cons_zero, List.getElem?_cons_succ, List.set_cons_zero, List.set_cons_succ, Nat.add_zero, Nat.zero_add, Nat.reduceAdd, Nat.reduceSub, Nat.reduceLeDiff, Nat.reduceLT, Nat.reduceEqDiff, Nat.le_refl, and_self, and_true, true_and, mkAgg, toIms, List.drop_zero, List.drop_succ_cons, List.take_succ_cons, List.take_zero, List.length_append, binBool, unA, Bool.false_eq_true, if_false, partA, fillA, fillE, List.take_nil, Nat.zero_ne_one, Nat.one_ne_zero, not_false_eq_true, ne_eq, Nat.succ_ne_self, reduceCtorEq, Int.reduceEq, Int.reduceLT, Int.reduceLE, decide_true, decide_false, lenA, beq_self_eq_true, beq_true, beq_false, Bool.not_true, Bool.not_false, b_lss, b_gtr, b_leq, b_geq, b_eql, b_neq, b_add, b_sub, b_mul, s_eql, s_neq, y_ops, y_nil, y_cons, y_guard, y_some, y_drop, y_do, y_not, y_not0, c_call, c_clo, c_move, c_pick, c_alloc, c_box, c_build, c_bslice, c_load, c_store, c_nilCheck, c_bin, c_binB, c_un, c_i2i, c_i2f, c_f2i, c_s2b, c_b2s, c_strId, c_mkfunc, c_mkslice, c_slice, c_sliceStr, c_fieldAddr, c_field, c_indexSl, c_indexArr, c_elemArr, c_indexStr, c_extract, c_lenStr, c_lenSl, c_append, c_real, c_imag, c_complex, c_min, c_max, c_clear, hlen, h8, h9, hc]
    refine ⟨_, _, _, rfl, rfl, by simp only [List.length_set, hlen], ⟨v, by simp only [gs_same, gs_ne, List.length_set, Nat.reduceLT, Nat.reduceEqDiff, not_false_eq_true, hlen, h4], ?_⟩, hN, fun _ _ => rfl⟩
    rwa [List.take_of_length_le (by omega)] at hG
  | k + 1, i, tm, N, H, v, hk, hN, hlen, h4, h7, h8, h9, hG => by
    have hlt : i < l.length := by omega
    have hc : decide ((i : Int) < (l.length : Int)) = true := decide_eq_true (by omega)
    obtain ⟨p, hp⟩ : ∃ p, l[i]? = some p := ⟨l[i], by simp [hlt]⟩
    have hg : (l.map PtV.D)[i]? = some (ptD p.fa p.fb) := by rw [List.getElem?_map, hp]; rfl
    have hix := idx_nat (n := l.length) (i := i) hlt
    have hwr := wrap_nat (i := i) (by omega)
    have c1 := fun H => s58 p.pa p.pb H
    obtain ⟨tok, H', hap, hG', hl', hb', _⟩ := (hG.more [HO.obj none [[.im (.int .i64 5), .im (.int .i64 0), .im (.str []), .im (.cpx .f64 p.fa p.fb), .im (.sl 0 [])]]]).grow (bytes := 16) (by simp; omega) (p.C) (by simp; omega) (by omega)
    have hG2 : Gath 53 1 N (.asl 1 ((l.take i).map PtV.C ++ [p.C]) tok) H' ((l.take (i + 1)).map PtV.C) := by
      have : (l.take (i + 1)).map PtV.C = (l.take i).map PtV.C ++ [p.C] := by
        rw [List.take_succ_eq_append_getElem hlt, List.map_append]
        have : l[i] = p := by rw [List.getElem?_eq_getElem hlt] at hp; injection hp
        rw [this]; rfl
      rw [this]; exact hG'
    have key := fun tm1 => l57 l hl k (i + 1) tm1 N H' (.asl 1 ((l.take i).map PtV.C ++ [p.C]) tok) (by omega) (by simp at hl'; omega)
    rw [l57_0]
    simp only [b57_0, x_seq, x_block, x_skip, x_label, x_cond, x_exit, x_goto, x_ret, k_normal, k_exit, k_goto, k_ret, b_normal, b_exit, b_goto, b_ret, wantedA, aop, ev, putA, List.length_cons, List.length_nil, List.replicate, List.cons_append, List.nil_append, List.append_nil, List.append_assoc, gs_same, gs_ne, gq_same, gq_ne, List.length_set, List.map_cons, List.map_nil, cellsOf, List.all_cons, List.all_nil, cellOk, boxTy, Bool.and_true, Bool.and_self, if_true, ite_true, ite_false, loadAt, storeAt, setAt, hget, hget0, hset, hset0, List.getElem?_cons_zero, List.getElem?_cons_succ, List.set_cons_zero, List.set_cons_succ, Nat.add_zero, Nat.zero_add, Nat.reduceAdd, Nat.reduceSub, Nat.reduceLeDiff, Nat.reduceLT, Nat.reduceEqDiff, Nat.le_refl, and_self, and_true, true_and, mkAgg, toIms, List.drop_zero, List.drop_succ_cons, List.take_succ_cons, List.take_zero, List.length_append, binBool, unA, Bool.false_eq_true, if_false, partA, fillA, fillE, List.take_nil, Nat.zero_ne_one, Nat.one_ne_zero, not_false_eq_true, ne_eq, Nat.succ_ne_self, reduceCtorEq, Int.reduceEq, Int.reduceLT, Int.reduceLE, decide_true, decide_false, lenA, beq_self_eq_true, beq_true, beq_false, Bool.not_true, Bool.not_false, b_lss, b_gtr, b_leq, b_geq, b_eql, b_neq, b_add, b_sub, b_mul, s_eql, s_neq, y_ops, y_nil, y_cons, y_guard, y_some, y_drop, y_do, y_not, y_not0, c_call, c_clo, c_move, c_pick, c_alloc, c_box, c_build, c_bslice, c_load, c_store, c_nilCheck, c_bin, c_binB, c_un, c_i2i, c_i2f, c_f2i, c_s2b, c_b2s, c_strId, c_mkfunc, c_mkslice, c_slice, c_sliceStr, c_fieldAddr, c_field, c_indexSl, c_indexArr, c_elemArr, c_indexStr, c_extract, c_lenStr, c_lenSl, c_append, c_real, c_imag, c_complex, c_min, c_max, c_clear, hlen, h4, h7, h8, h9, hc, hix, hg, List.length_map, c1, toDatC, elC, hap, hwr]
    refine ex_imp (key _ ?_ ?_ ?_ ?_ ?_ hG2) fun _ _ _ ⟨q1, q2, q3, q4, q5⟩ => ⟨q1, q2, q3, q4, fun j hj => by rw [q5 j hj, hb' j hj, List.getElem?_append_left (by omega)]⟩
    all_goals simp only [gs_same, gs_ne, List.length_set, Nat.reduceLT, Nat.reduceEqDiff, not_false_eq_true, hlen, h7, h8]

theorem s57 (l : List PtV) (s : Nat) (hs : s = 5) (hl : l.length ≤ 1000) (H : Heap) : L 57 [.im (.sl s (l.map PtV.D))] H = some (.tup [.im (.sl (if l.map PtV.C = [] then 0 else 1) (l.map PtV.C)), .im (.int .i64 0)], H) := by
  subst hs
  rw [leq F57]
  obtain ⟨hlen, ha⟩ := enter_at (f := f57) (args := [.im (.sl 5 (l.map PtV.D))]) (Nat.le_of_ble_eq_true rfl)
  have h0 := ha 0 _ rfl
  generalize enterA f57 [.im (.sl 5 (l.map PtV.D))] = tm at *
  change tm.length = 28 at hlen
  have key := fun tm1 => l57 l hl l.length 0 tm1 H.length H .nils (by omega) (Nat.le_refl _)
  simp only [zc0] at key
  simp only [f57, e57_0, x_seq, x_block, x_skip, x_label, x_cond, x_exit, x_goto, x_ret, k_normal, k_exit, k_goto, k_ret, b_normal, b_exit, b_goto, b_ret, wantedA, aop, ev, putA, List.length_cons, List.length_nil, List.replicate, List.cons_append, List.nil_append, List.append_nil, List.append_assoc, gs_same, gs_ne, gq_same, gq_ne, List.length_set, List.map_cons, List.map_nil, cellsOf, List.all_cons, List.all_nil, cellOk, boxTy, Bool.and_true, Bool.and_self, if_true, ite_true, ite_false, loadAt, storeAt, setAt, hget, hget0, hset, hset0, List.getElem?_cons_zero, List.getElem?_cons_succ, List.set_cons_zero, List.set_cons_succ, Nat.add_zero, Nat.zero_add, Nat.reduceAdd, Nat.reduceSub, Nat.reduceLeDiff, Nat.reduceLT, Nat.reduceEqDiff, Nat.le_refl, and_self, and_true, true_and, mkAgg, toIms, List.drop_zero, List.drop_succ_cons, List.take_succ_cons, List.take_zero, List.length_append, binBool, unA, Bool.false_eq_true, if_false, partA, fillA, fillE, List.take_nil, Nat.zero_ne_one, Nat.one_ne_zero, not_false_eq_true, ne_eq, Nat.succ_ne_self, reduceCtorEq, Int.reduceEq, Int.reduceLT, Int.reduceLE, decide_true, decide_false, lenA, beq_self_eq_true, beq_true, beq_false, Bool.not_true, Bool.not_false, b_lss, b_gtr, b_leq, b_geq, b_eql, b_neq, b_add, b_sub, b_mul, s_eql, s_neq, y_ops, y_nil, y_cons, y_guard, y_some, y_drop, y_do, y_not, y_not0, c_call, c_clo, c_move, c_pick, c_alloc, c_box, c_build, c_bslice, c_load, c_store, c_nilCheck, c_bin, c_binB, c_un, c_i2i, c_i2f, c_f2i, c_s2b, c_b2s, c_strId, c_mkfunc, c_mkslice, c_slice, c_sliceStr, c_fieldAddr, c_field, c_indexSl, c_indexArr, c_elemArr, c_indexStr, c_extract, c_lenStr, c_lenSl, c_append, c_real, c_imag, c_complex, c_min, c_max, c_clear, hlen, h0, lenA_sl', List.length_map]
  generalize hr : thenL (Λ c57_0 _ _) _ = r
  refine Exists.elim (thenL_inv hr (key _ ?_ ?_ ?_ ?_ ?_ (.inl ⟨rfl, rfl⟩))) ?_
  iterate 5 simp only [gs_same, gs_ne, List.length_set, Nat.reduceLT, Nat.reduceEqDiff, not_false_eq_true, hlen]
  clear hr key
  rintro e ⟨tm1, H1, ⟨rfl, g1, ⟨v', g2, g3⟩, g4, g5⟩, rfl⟩
  have hlv : leave H false (.tup [v', .im (.int .i64 0)]) H1 = (.tup [.im (.sl (if l.map PtV.C = [] then 0 else 1) (l.map PtV.C)), .im (.int .i64 0)], H) :=
    leave_low (by simp only [degrade, toDat, List.map_cons, List.map_nil, degrade1, g3.dat]) (by simp [refsLt, refsLts]) g4 g5
  simp only [x_seq, x_block, x_skip, x_label, x_cond, x_exit, x_goto, x_ret, k_normal, k_exit, k_goto, k_ret, b_normal, b_exit, b_goto, b_ret, wantedA, aop, ev, putA, List.length_cons, List.length_nil, List.replicate, List.cons_append, List.nil_append, List.append_nil, List.append_assoc, gs_same, gs_ne, gq_same, gq_ne, List.length_set, List.map_cons, List.map_nil, cellsOf, List.all_cons, List.all_nil, cellOk, boxTy, Bool.and_true, Bool.and_self, if_true, ite_true, ite_false, loadAt, storeAt, setAt, hget, hget0, hset, hset0, List.getElem?_cons_zero, List.getElem?_cons_succ, List.set_cons_zero, List.set_cons_succ, Nat.add_zero, Nat.zero_add, Nat.reduceAdd, Nat.reduceSub, Nat.reduceLeDiff, Nat.reduceLT, Nat.reduceEqDiff, Nat.le_refl, and_self, and_true, true_and, mkAgg, toIms, List.drop_zero, List.drop_succ_cons, List.take_succ_cons, List.take_zero, List.length_append, binBool, unA, Bool.false_eq_true, if_false, partA, fillA, fillE, List.take_nil, Nat.zero_ne_one, Nat.one_ne_zero, not_false_eq_true, ne_eq, Nat.succ_ne_self, reduceCtorEq, Int.reduceEq, Int.reduceLT, Int.reduceLE, decide_true, decide_false, lenA, beq_self_eq_true, beq_true, beq_false, Bool.not_true, Bool.not_false, b_lss, b_gtr, b_leq, b_geq, b_eql, b_neq, b_add, b_sub, b_mul, s_eql, s_neq, y_ops, y_nil, y_cons, y_guard, y_some, y_drop, y_do, y_not, y_not0, c_call, c_clo, c_move, c_pick, c_alloc, c_box, c_build, c_bslice, c_load, c_store, c_nilCheck, c_bin, c_binB, c_un, c_i2i, c_i2f, c_f2i, c_s2b, c_b2s, c_strId, c_mkfunc, c_mkslice, c_slice, c_sliceStr, c_fieldAddr, c_field, c_indexSl, c_indexArr, c_elemArr, c_indexStr, c_extract, c_lenStr, c_lenSl, c_append, c_real, c_imag, c_complex, c_min, c_max, c_clear, endK, resA, tupA, g1, g2, hlv]

end Go.Abs.Seat
end
section
set_option linter.unusedVariables false
set_option linter.unusedSimpArgs false
/- What the values' functions come to: parts, sums, products, points turned over. -/
set_option linter.unusedVariables false
set_option linter.unusedSimpArgs false
namespace Go.Abs.Seat
open Go.Proofs

theorem s24p (re im : Int) (hr : -9223372036854775808 ≤ re ∧ re < 9223372036854775808) (hi : -9223372036854775808 ≤ im ∧ im < 9223372036854775808) (H : Heap) : L 24 [.im (.int .i64 re), .im (.int .i64 im)] H = some (ptA (flZ re) (flZ im), H) := s24 re im hr hi H

theorem i64min : IntKind.i64.min = -9223372036854775808 := rfl
theorem i64max : IntKind.i64.max = 9223372036854775807 := rfl

theorem s57one {fa fb : Nat} {n m : Int} (pa : Part fa n) (pb : Part fb m) (H : Heap) : L 57 [.im (.sl 5 [ptD fa fb])] H = some (.tup [.im (.sl 1 [[.cpx .f64 fa fb]]), .im (.int .i64 0)], H) := by
  have := s57 [⟨fa, fb, n, m, pa, pb⟩] 5 rfl (by simp) H
  simpa using this

theorem s26 {fa fb : Nat} {n m : Int} (pa : Part fa n) (pb : Part fb m) (H : Heap) : L 26 [ptA fa fb] H = some (.tup [.im (.int .i64 n), .im (.int .i64 m), .im (.int .i64 0)], H) := by
  have c1 := fun H => s57one pa pb H
  have ha := isF_toInt pa.is
  have hb := isF_toInt pb.is
  have ca : -9223372036854775808 ≤ n ∧ n ≤ 9223372036854775807 := by have := pa.lo; have := pa.hi; omega
  have cb : -9223372036854775808 ≤ m ∧ m ≤ 9223372036854775807 := by have := pb.lo; have := pb.hi; omega
  have hlv : ∀ M : Heap, leave H false (.tup [.im (.int .i64 n), .im (.int .i64 m), .im (.int .i64 0)]) (H ++ M) = (.tup [.im (.int .i64 n), .im (.int .i64 m), .im (.int .i64 0)], H) := fun M => leave_deg rfl rfl
  rw [leq F26]
  obtain ⟨hlen, hg⟩ := enter_at (f := f26) (args := [ptA fa fb]) (Nat.le_of_ble_eq_true rfl)
  have h0 := hg 0 _ rfl
  generalize enterA f26 [ptA fa fb] = tm at *
  change tm.length = 25 at hlen
  simp only [f26, x_seq, x_block, x_skip, x_label, x_cond, x_exit, x_goto, x_ret, k_normal, k_exit, k_goto, k_ret, b_normal, b_exit, b_goto, b_ret, wantedA, aop, ev, putA, List.length_cons, List.length_nil, List.replicate, List.cons_append, List.nil_append, List.append_nil, List.append_assoc, gs_same, gs_ne, gq_same, gq_ne, List.length_set, List.map_cons, List.map_nil, cellsOf, List.all_cons, List.all_nil, cellOk, boxTy, Bool.and_true, Bool.and_self, if_true, ite_true, ite_false, loadAt, storeAt, setAt, hget, hget0, hset, hset0, List.getElem?_cons_zero, List.getElem?_cons_succ, List.set_cons_zero, List.set_cons_succ, Nat.add_zero, Nat.zero_add, Nat.reduceAdd, Nat.reduceSub, Nat.reduceLeDiff, Nat.reduceLT, Nat.reduceEqDiff, Nat.le_refl, and_self, and_true, true_and, mkAgg, toIms, List.drop_zero, List.drop_succ_cons, List.take_succ_cons, List.take_zero, List.length_append, binBool, unA, Bool.false_eq_true, if_false, partA, fillA, fillE, List.take_nil, Nat.zero_ne_one, Nat.one_ne_zero, not_false_eq_true, ne_eq, Nat.succ_ne_self, reduceCtorEq, Int.reduceEq, Int.reduceLT, Int.reduceLE, decide_true, decide_false, lenA, beq_self_eq_true, beq_true, beq_false, Bool.not_true, Bool.not_false, b_lss, b_gtr, b_leq, b_geq, b_eql, b_neq, b_add, b_sub, b_mul, s_eql, s_neq, y_ops, y_nil, y_cons, y_guard, y_some, y_drop, y_do, y_not, y_not0, c_call, c_clo, c_move, c_pick, c_alloc, c_box, c_build, c_bslice, c_load, c_store, c_nilCheck, c_bin, c_binB, c_un, c_i2i, c_i2f, c_f2i, c_s2b, c_b2s, c_strId, c_mkfunc, c_mkslice, c_slice, c_sliceStr, c_fieldAddr, c_field, c_indexSl, c_indexArr, c_elemArr, c_indexStr, c_extract, c_lenStr, c_lenSl, c_append, c_real, c_imag, c_complex, c_min, c_max, c_clear, endK, resA, tupA, hlen, h0, toDatA, c1, List.length_cons, List.length_nil, idx_00, Nat.zero_add, ha, hb, i64min, i64max, ca, cb, hlv]

theorem s59 {z w : Nat} {n m : Int} (pz : isF z n) (pw : isF w m) (hn : -9007199254740992 < n ∧ n < 9007199254740992) (hm : -9007199254740992 < m ∧ m < 9007199254740992) (H : Heap) : L 59 [.im (.cpx .f64 z w)] H = some (ptA (flZ n) (flZ m), H) := by
  have c1 := fun H => s24p n m (by omega) (by omega) H
  have ha := isF_toInt pz
  have hb := isF_toInt pw
  have ca : -9223372036854775808 ≤ n ∧ n ≤ 9223372036854775807 := by omega
  have cb : -9223372036854775808 ≤ m ∧ m ≤ 9223372036854775807 := by omega
  have hlv : ∀ (M : Heap) (x y : Nat), leave H false (.im (.agg [.int .i64 5, .int .i64 0, .str [], .cpx .f64 x y, .sl 0 []])) (H ++ M) = (.im (.agg [.int .i64 5, .int .i64 0, .str [], .cpx .f64 x y, .sl 0 []]), H) := fun M x y => leave_app
  rw [leq F59]
  obtain ⟨hlen, hg⟩ := enter_at (f := f59) (args := [.im (.cpx .f64 z w)]) (Nat.le_of_ble_eq_true rfl)
  have h0 := hg 0 _ rfl
  generalize enterA f59 [.im (.cpx .f64 z w)] = tm at *
  change tm.length = 10 at hlen
  simp only [f59, x_seq, x_block, x_skip, x_label, x_cond, x_exit, x_goto, x_ret, k_normal, k_exit, k_goto, k_ret, b_normal, b_exit, b_goto, b_ret, wantedA, aop, ev, putA, List.length_cons, List.length_nil, List.replicate, List.cons_append, List.nil_append, List.append_nil, List.append_assoc, gs_same, gs_ne, gq_same, gq_ne, List.length_set, List.map_cons, List.map_nil, cellsOf, List.all_cons, List.all_nil, cellOk, boxTy, Bool.and_true, Bool.and_self, if_true, ite_true, ite_false, loadAt, storeAt, setAt, hget, hget0, hset, hset0, List.getElem?_cons_zero, List.getElem?_cons_succ, List.set_cons_zero, List.set_cons_succ, Nat.add_zero, Nat.zero_add, Nat.reduceAdd, Nat.reduceSub, Nat.reduceLeDiff, Nat.reduceLT, Nat.reduceEqDiff, Nat.le_refl, and_self, and_true, true_and, mkAgg, toIms, List.drop_zero, List.drop_succ_cons, List.take_succ_cons, List.take_zero, List.length_append, binBool, unA, Bool.false_eq_true, if_false, partA, fillA, fillE, List.take_nil, Nat.zero_ne_one, Nat.one_ne_zero, not_false_eq_true, ne_eq, Nat.succ_ne_self, reduceCtorEq, Int.reduceEq, Int.reduceLT, Int.reduceLE, decide_true, decide_false, lenA, beq_self_eq_true, beq_true, beq_false, Bool.not_true, Bool.not_false, b_lss, b_gtr, b_leq, b_geq, b_eql, b_neq, b_add, b_sub, b_mul, s_eql, s_neq, y_ops, y_nil, y_cons, y_guard, y_some, y_drop, y_do, y_not, y_not0, c_call, c_clo, c_move, c_pick, c_alloc, c_box, c_build, c_bslice, c_load, c_store, c_nilCheck, c_bin, c_binB, c_un, c_i2i, c_i2f, c_f2i, c_s2b, c_b2s, c_strId, c_mkfunc, c_mkslice, c_slice, c_sliceStr, c_fieldAddr, c_field, c_indexSl, c_indexArr, c_elemArr, c_indexStr, c_extract, c_lenStr, c_lenSl, c_append, c_real, c_imag, c_complex, c_min, c_max, c_clear, endK, resA, tupA, hlen, h0, c1, ha, hb, i64min, i64max, ca, cb, hlv]

theorem s30 {fa fb : Nat} {n m : Int} (pa : Part fa n) (pb : Part fb m) (H : Heap) : L 30 [ptA fa fb] H = some (.tup [ptA (flZ n) (flZ (-m)), .im (.int .i64 0)], H) := by
  have c1 := fun H => s57one pa pb H
  have := pa.lo
  have := pa.hi
  have := pb.lo
  have := pb.hi
  have c2 := fun H => s24p n (-m) (by omega) (by omega) H
  have ha := isF_toInt pa.is
  have hb := isF_toInt pb.is
  have ca : -9223372036854775808 ≤ n ∧ n ≤ 9223372036854775807 := by omega
  have cb : -9223372036854775808 ≤ m ∧ m ≤ 9223372036854775807 := by omega
  have hw : IntKind.i64.wrap (0 - m) = -m := by rw [Go.Abs.Seat.wrap_small _ (by omega)]; omega
  have hlv : ∀ (M : Heap) (x y : Nat), leave H false (.tup [.im (.agg [.int .i64 5, .int .i64 0, .str [], .cpx .f64 x y, .sl 0 []]), .im (.int .i64 0)]) (H ++ M) = (.tup [.im (.agg [.int .i64 5, .int .i64 0, .str [], .cpx .f64 x y, .sl 0 []]), .im (.int .i64 0)], H) := fun M x y => leave_deg rfl rfl
  rw [leq F30]
  obtain ⟨hlen, hg⟩ := enter_at (f := f30) (args := [ptA fa fb]) (Nat.le_of_ble_eq_true rfl)
  have h0 := hg 0 _ rfl
  generalize enterA f30 [ptA fa fb] = tm at *
  change tm.length = 28 at hlen
  simp only [f30, x_seq, x_block, x_skip, x_label, x_cond, x_exit, x_goto, x_ret, k_normal, k_exit, k_goto, k_ret, b_normal, b_exit, b_goto, b_ret, wantedA, aop, ev, putA, List.length_cons, List.length_nil, List.replicate, List.cons_append, List.nil_append, List.append_nil, List.append_assoc, gs_same, gs_ne, gq_same, gq_ne, List.length_set, List.map_cons, List.map_nil, cellsOf, List.all_cons, List.all_nil, cellOk, boxTy, Bool.and_true, Bool.and_self, if_true, ite_true, ite_false, loadAt, storeAt, setAt, hget, hget0, hset, hset0, List.getElem?_cons_zero, List.getElem?_cons_succ, List.set_cons_zero, List.set_cons_succ, Nat.add_zero, Nat.zero_add, Nat.reduceAdd, Nat.reduceSub, Nat.reduceLeDiff, Nat.reduceLT, Nat.reduceEqDiff, Nat.le_refl, and_self, and_true, true_and, mkAgg, toIms, List.drop_zero, List.drop_succ_cons, List.take_succ_cons, List.take_zero, List.length_append, binBool, unA, Bool.false_eq_true, if_false, partA, fillA, fillE, List.take_nil, Nat.zero_ne_one, Nat.one_ne_zero, not_false_eq_true, ne_eq, Nat.succ_ne_self, reduceCtorEq, Int.reduceEq, Int.reduceLT, Int.reduceLE, decide_true, decide_false, lenA, beq_self_eq_true, beq_true, beq_false, Bool.not_true, Bool.not_false, b_lss, b_gtr, b_leq, b_geq, b_eql, b_neq, b_add, b_sub, b_mul, s_eql, s_neq, y_ops, y_nil, y_cons, y_guard, y_some, y_drop, y_do, y_not, y_not0, c_call, c_clo, c_move, c_pick, c_alloc, c_box, c_build, c_bslice, c_load, c_store, c_nilCheck, c_bin, c_binB, c_un, c_i2i, c_i2f, c_f2i, c_s2b, c_b2s, c_strId, c_mkfunc, c_mkslice, c_slice, c_sliceStr, c_fieldAddr, c_field, c_indexSl, c_indexArr, c_elemArr, c_indexStr, c_extract, c_lenStr, c_lenSl, c_append, c_real, c_imag, c_complex, c_min, c_max, c_clear, endK, resA, tupA, hlen, h0, toDatA, c1, c2, List.length_cons, List.length_nil, idx_00, Nat.zero_add, ha, hb, hw, i64min, i64max, ca, cb, hlv]

theorem mul_small {a b : Int} (ha : -1048576 ≤ a ∧ a < 1048576) (hb : -1048576 ≤ b ∧ b < 1048576) : -1099511627776 ≤ a * b ∧ a * b ≤ 1099511627776 := by
  have h1 : a.natAbs ≤ 1048576 := by omega
  have h2 : b.natAbs ≤ 1048576 := by omega
  have h3 := Nat.mul_le_mul h1 h2
  rw [← Int.natAbs_mul] at h3
  omega

theorem cpx_add {fa fb fc fd : Nat} {a b c d : Int} (pa : Part fa a) (pb : Part fb b) (pc : Part fc c) (pd : Part fd d) :
    ∃ z w, binA .add (.im (.cpx .f64 fa fb)) (.im (.cpx .f64 fc fd)) = some (.im (.cpx .f64 z w)) ∧ isF z (a + c) ∧ isF w (b + d) := by
  obtain ⟨z, hz, iz⟩ := isF_add pa.is pc.is (by have := pa.lo; have := pa.hi; have := pc.lo; have := pc.hi; omega)
  obtain ⟨w, hw, iw⟩ := isF_add pb.is pd.is (by have := pb.lo; have := pb.hi; have := pd.lo; have := pd.hi; omega)
  exact ⟨z, w, by simp only [binA, if_true, binCpx, hz, hw], iz, iw⟩

theorem cpx_mul {fa fb fc fd : Nat} {a b c d : Int} (pa : Part fa a) (pb : Part fb b) (pc : Part fc c) (pd : Part fd d) :
    ∃ z w, binA .mul (.im (.cpx .f64 fa fb)) (.im (.cpx .f64 fc fd)) = some (.im (.cpx .f64 z w)) ∧ isF z (a * c - b * d) ∧ isF w (a * d + b * c) := by
  have m1 := mul_small ⟨pa.lo, pa.hi⟩ ⟨pc.lo, pc.hi⟩
  have m2 := mul_small ⟨pb.lo, pb.hi⟩ ⟨pd.lo, pd.hi⟩
  have m3 := mul_small ⟨pa.lo, pa.hi⟩ ⟨pd.lo, pd.hi⟩
  have m4 := mul_small ⟨pb.lo, pb.hi⟩ ⟨pc.lo, pc.hi⟩
  obtain ⟨x1, h1, i1⟩ := isF_mul pa.is pc.is (by omega)
  obtain ⟨x2, h2, i2⟩ := isF_mul pb.is pd.is (by omega)
  obtain ⟨x3, h3, i3⟩ := isF_mul pa.is pd.is (by omega)
  obtain ⟨x4, h4, i4⟩ := isF_mul pb.is pc.is (by omega)
  obtain ⟨z, hz, iz⟩ := isF_sub i1 i2 (by omega)
  obtain ⟨w, hw, iw⟩ := isF_add i3 i4 (by omega)
  exact ⟨z, w, by simp only [binA, if_true, binCpx, h1, h2, h3, h4, hz, hw], iz, iw⟩

/-- Points as pairs of whole numbers. -/
abbrev rngZ (z : Int × Int) : Prop := (-1048576 ≤ z.1 ∧ z.1 < 1048576) ∧ (-1048576 ≤ z.2 ∧ z.2 < 1048576)
abbrev fz (n : Int) : Nat := FloatKind.f64.nearest n
def wrapP (z : Int × Int) : Int × Int := (wrapZ z.1, wrapZ z.2)
def addZ (a b : Int × Int) : Int × Int := (wrapZ (a.1 + b.1), wrapZ (a.2 + b.2))
def mulZ (a b : Int × Int) : Int × Int := (wrapZ (a.1 * b.1 - a.2 * b.2), wrapZ (a.1 * b.2 + a.2 * b.1))
def conjZ (a : Int × Int) : Int × Int := (wrapZ a.1, wrapZ (-a.2))
theorem rng_wrap (a b : Int) : rngZ (wrapZ a, wrapZ b) := ⟨wrapZ_le a, wrapZ_le b⟩
theorem part_fz {n : Int} (h : -1048576 ≤ n ∧ n < 1048576) : Part (fz n) n := ⟨isF_nearest n (by omega), h.1, h.2⟩
abbrev ptL (z : Int × Int) : List AV := [.im (.int .i64 5), .im (.int .i64 0), .im (.str []), .im (.cpx .f64 (fz z.1) (fz z.2)), .im (.sl 0 [])]
def ptv (z : Int × Int) (h : rngZ z) : PtV := ⟨fz z.1, fz z.2, z.1, z.2, part_fz h.1, part_fz h.2⟩
def PtV.z (p : PtV) : Int × Int := (p.n, p.m)

theorem addZ_eq (a b : Int × Int) : addZ a b = (wrapZ (a.1 + b.1), wrapZ (a.2 + b.2)) := rfl
theorem mulZ_eq (a b : Int × Int) : mulZ a b = (wrapZ (a.1 * b.1 - a.2 * b.2), wrapZ (a.1 * b.2 + a.2 * b.1)) := rfl

theorem set_idle {α : Type} {l : List α} {i : Nat} {a : α} (h : l[i]? = some a) : l.set i a = l := by
  apply List.ext_getElem?
  intro j
  by_cases hj : i = j
  · subst hj; rw [List.getElem?_set_self (List.getElem?_eq_some_iff.1 h).1, h]
  · rw [List.getElem?_set_ne hj]

section
variable (l : List PtV) (hl : l.length ≤ 1000) (N : Nat) (x2 : AV)
include hl

theorem l28 : ∀ (k i : Nat) (tm : List AV) (H : Heap) (acc : Int × Int), i + k = l.length → tm.length = 32 → tm.getD 2 undefA = x2 → tm.getD 6 undefA = .ptr N 0 0 → tm.getD 19 undefA = .im (.sl 1 (l.map PtV.C)) → tm.getD 20 undefA = .im (.int .i64 (l.length : Int)) → tm.getD 21 undefA = .im (.int .i64 (i : Int)) →
      rngZ acc → H[N]? = some (.obj none [ptL acc]) →
    ∃ e tm' H', Λ c28_0 tm H = some (e, tm', H') ∧ (e = .exit 0 ∧ tm'.length = 32 ∧ tm'.getD 2 undefA = x2 ∧ tm'.getD 6 undefA = .ptr N 0 0 ∧ H' = H.set N (.obj none [ptL (((l.drop i).map PtV.z).foldl mulZ acc)]))
  | 0, i, tm, H, acc, hk, hlen, h2, h6, h19, h20, h21, hacc, hN => by
    have hc : decide ((i : Int) < (l.length : Int)) = false := decide_eq_false (by omega)
    rw [l28_0]
    simp only [b28_0, x_seq, x_block, x_skip, x_label, x_cond, x_exit, x_goto, x_ret, k_normal, k_exit, k_goto, k_ret, b_normal, b_exit, b_goto, b_ret, wantedA, aop, ev, putA, List.length_cons, List.length_nil, List.replicate, List.cons_append, List.nil_append, List.append_nil, List.append_assoc, gs_same, gs_ne, gq_same, gq_ne, List.length_set, List.map_cons, List.map_nil, cellsOf, List.all_cons, List.all_nil, cellOk, boxTy, Bool.and_true, Bool.and_self, if_true, ite_true, ite_false, loadAt, storeAt, setAt, hget, hget0, hset, hset0, List.getElem?_cons_zero, List.getElem?_cons_succ, List.set_cons_zero, List.set_cons_succ, Nat.add_zero, Nat.zero_add, Nat.reduceAdd, Nat.reduceSub, Nat.reduceLeDiff, Nat.reduceLT, Nat.reduceEqDiff, Nat.le_refl, and_self, and_true, true_and, mkAgg, toIms, List.drop_zero, List.drop_succ_cons, List.take_succ_cons, List.take_zero, List.length_append, binBool, unA, Bool.false_eq_true, if_false, partA, fillA, fillE, List.take_nil, Nat.zero_ne_one, Nat.one_ne_zero, not_false_eq_true, ne_eq, Nat.succ_ne_self, reduceCtorEq, Int.reduceEq, Int.reduceLT, Int.reduceLE, decide_true, decide_false, lenA, beq_self_eq_true, beq_true, beq_false, Bool.not_true, Bool.not_false, b_lss, b_gtr, b_leq, b_geq, b_eql, b_neq, b_add, b_sub, b_mul, s_eql, s_neq, y_ops, y_nil, y_cons, y_guard, y_some, y_drop, y_do, y_not, y_not0, c_call, c_clo, c_move, c_pick, c_alloc, c_box, c_build, c_bslice, c_load, c_store, c_nilCheck, c_bin, c_binB, c_un, c_i2i, c_i2f, c_f2i, c_s2b, c_b2s, c_strId, c_mkfunc, c_mkslice, c_slice, c_sliceStr, c_fieldAddr, c_field, c_indexSl, c_indexArr, c_elemArr, c_indexStr, c_extract, c_lenStr, c_lenSl, c_append, c_real, c_imag, c_complex, c_min, c_max, c_clear, hlen, h20, h21, hc]
    refine ⟨_, _, _, rfl, rfl, by simp only [List.length_set, hlen], by simp only [gs_same, gs_ne, List.length_set, Nat.reduceLT, Nat.reduceEqDiff, not_false_eq_true, hlen, h2], by simp only [gs_same, gs_ne, List.length_set, Nat.reduceLT, Nat.reduceEqDiff, not_false_eq_true, hlen, h6], ?_⟩
    rw [List.drop_of_length_le (by omega)]
    exact (set_idle hN).symm
  | k + 1, i, tm, H, acc, hk, hlen, h2, h6, h19, h20, h21, hacc, hN => by
    have hlt : i < l.length := by omega
    have hc : decide ((i : Int) < (l.length : Int)) = true := decide_eq_true (by omega)
    obtain ⟨p, hp⟩ : ∃ p, l[i]? = some p := ⟨l[i], by simp [hlt]⟩
    have hg : (l.map PtV.C)[i]? = some [.cpx .f64 p.fa p.fb] := by rw [List.getElem?_map, hp]; rfl
    have hd : l.drop i = p :: l.drop (i + 1) := by
      rw [List.getElem?_eq_getElem hlt] at hp; injection hp with hp
      rw [← hp]; exact List.drop_eq_getElem_cons hlt
    have hix := idx_nat (n := l.length) (i := i) hlt
    have hwr := wrap_nat (i := i) (by omega)
    obtain ⟨z, w, hmul, iz, iw⟩ := cpx_mul (part_fz hacc.1) (part_fz hacc.2) p.pa p.pb
    have m1 := mul_small hacc.1 ⟨p.pa.lo, p.pa.hi⟩
    have m2 := mul_small hacc.2 ⟨p.pb.lo, p.pb.hi⟩
    have m3 := mul_small hacc.1 ⟨p.pb.lo, p.pb.hi⟩
    have m4 := mul_small hacc.2 ⟨p.pa.lo, p.pa.hi⟩
    have c1 := fun H => s59 iz iw (by omega) (by omega) H
    have hlt2 := (List.getElem?_eq_some_iff.1 hN).1
    have key := fun tm1 => l28 k (i + 1) tm1 (H.set N (.obj none [ptL (mulZ acc p.z)])) (mulZ acc p.z) (by omega)
    rw [l28_0]
    simp only [b28_0, x_seq, x_block, x_skip, x_label, x_cond, x_exit, x_goto, x_ret, k_normal, k_exit, k_goto, k_ret, b_normal, b_exit, b_goto, b_ret, wantedA, aop, ev, putA, List.length_cons, List.length_nil, List.replicate, List.cons_append, List.nil_append, List.append_nil, List.append_assoc, gs_same, gs_ne, gq_same, gq_ne, List.length_set, List.map_cons, List.map_nil, cellsOf, List.all_cons, List.all_nil, cellOk, boxTy, Bool.and_true, Bool.and_self, if_true, ite_true, ite_false, loadAt, storeAt, setAt, hget, hget0, hset, hset0, List.getElem?_cons_zero, List.getElem?_cons_succ, List.set_cons_zero, List.set_cons_succ, Nat.add_zero, Nat.zero_add, Nat.reduceAdd, Nat.reduceSub, Nat.reduceLeDiff, Nat.reduceLT, Nat.reduceEqDiff, Nat.le_refl, and_self, and_true, true_and, mkAgg, toIms, List.drop_zero, List.drop_succ_cons, List.take_succ_cons, List.take_zero, List.length_append, binBool, unA, Bool.false_eq_true, if_false, partA, fillA, fillE, List.take_nil, Nat.zero_ne_one, Nat.one_ne_zero, not_false_eq_true, ne_eq, Nat.succ_ne_self, reduceCtorEq, Int.reduceEq, Int.reduceLT, Int.reduceLE, decide_true, decide_false, lenA, beq_self_eq_true, beq_true, beq_false, Bool.not_true, Bool.not_false, b_lss, b_gtr, b_leq, b_geq, b_eql, b_neq, b_add, b_sub, b_mul, s_eql, s_neq, y_ops, y_nil, y_cons, y_guard, y_some, y_drop, y_do, y_not, y_not0, c_call, c_clo, c_move, c_pick, c_alloc, c_box, c_build, c_bslice, c_load, c_store, c_nilCheck, c_bin, c_binB, c_un, c_i2i, c_i2f, c_f2i, c_s2b, c_b2s, c_strId, c_mkfunc, c_mkslice, c_slice, c_sliceStr, c_fieldAddr, c_field, c_indexSl, c_indexArr, c_elemArr, c_indexStr, c_extract, c_lenStr, c_lenSl, c_append, c_real, c_imag, c_complex, c_min, c_max, c_clear, hlen, h6, h19, h20, h21, hc, hix, hg, List.length_map, hN, hmul, c1, hwr]
    refine ex_imp (key _ ?_ ?_ ?_ ?_ ?_ ?_ (rng_wrap _ _) (List.getElem?_set_self hlt2)) fun _ _ _ ⟨q1, q2, q3, q4, q5⟩ => ⟨q1, q2, q3, q4, by rw [q5, List.set_set, hd]; rfl⟩
    all_goals simp only [gs_same, gs_ne, List.length_set, Nat.reduceLT, Nat.reduceEqDiff, not_false_eq_true, hlen, h2, h6, h19, h20]

end

theorem s28 (l : List PtV) (hl : l.length ≤ 1000) (h0 : l ≠ []) (H : Heap) : L 28 [.im (.sl 5 (l.map PtV.D))] H = some (.tup [ptA (fz ((l.map PtV.z).foldl mulZ (1, 0)).1) (fz ((l.map PtV.z).foldl mulZ (1, 0)).2), .im (.int .i64 0)], H) := by
  have c1 := fun H => s57 l 5 rfl hl H
  have hne : (l.map PtV.C = []) = False := by simpa using h0
  simp only [hne, if_false] at c1
  have hs1 : ptA (flZ 1) (flZ 0) = ptA (fz 1) (fz 0) := rfl
  have c2 := fun H => s24p 1 0 (by decide) (by decide) H
  rw [hs1] at c2
  have hlv : ∀ (M : Heap) (x y : Nat), leave H false (.tup [.im (.agg [.int .i64 5, .int .i64 0, .str [], .cpx .f64 x y, .sl 0 []]), .im (.int .i64 0)]) (H ++ M) = (.tup [.im (.agg [.int .i64 5, .int .i64 0, .str [], .cpx .f64 x y, .sl 0 []]), .im (.int .i64 0)], H) := fun M x y => leave_deg rfl rfl
  rw [leq F28]
  obtain ⟨hlen, hg⟩ := enter_at (f := f28) (args := [.im (.sl 5 (l.map PtV.D))]) (Nat.le_of_ble_eq_true rfl)
  have h0 := hg 0 _ rfl
  generalize enterA f28 [.im (.sl 5 (l.map PtV.D))] = tm at *
  change tm.length = 32 at hlen
  have key := fun tm1 H1 => l28 l hl (H.length + 1) (.ptr H.length 0 0) l.length 0 tm1 H1 (1, 0) (by omega)
  simp only [zc0] at key
  simp only [f28, e28_0, x_seq, x_block, x_skip, x_label, x_cond, x_exit, x_goto, x_ret, k_normal, k_exit, k_goto, k_ret, b_normal, b_exit, b_goto, b_ret, wantedA, aop, ev, putA, List.length_cons, List.length_nil, List.replicate, List.cons_append, List.nil_append, List.append_nil, List.append_assoc, gs_same, gs_ne, gq_same, gq_ne, List.length_set, List.map_cons, List.map_nil, cellsOf, List.all_cons, List.all_nil, cellOk, boxTy, Bool.and_true, Bool.and_self, if_true, ite_true, ite_false, loadAt, storeAt, setAt, hget, hget0, hset, hset0, List.getElem?_cons_zero, List.getElem?_cons_succ, List.set_cons_zero, List.set_cons_succ, Nat.add_zero, Nat.zero_add, Nat.reduceAdd, Nat.reduceSub, Nat.reduceLeDiff, Nat.reduceLT, Nat.reduceEqDiff, Nat.le_refl, and_self, and_true, true_and, mkAgg, toIms, List.drop_zero, List.drop_succ_cons, List.take_succ_cons, List.take_zero, List.length_append, binBool, unA, Bool.false_eq_true, if_false, partA, fillA, fillE, List.take_nil, Nat.zero_ne_one, Nat.one_ne_zero, not_false_eq_true, ne_eq, Nat.succ_ne_self, reduceCtorEq, Int.reduceEq, Int.reduceLT, Int.reduceLE, decide_true, decide_false, lenA, beq_self_eq_true, beq_true, beq_false, Bool.not_true, Bool.not_false, b_lss, b_gtr, b_leq, b_geq, b_eql, b_neq, b_add, b_sub, b_mul, s_eql, s_neq, y_ops, y_nil, y_cons, y_guard, y_some, y_drop, y_do, y_not, y_not0, c_call, c_clo, c_move, c_pick, c_alloc, c_box, c_build, c_bslice, c_load, c_store, c_nilCheck, c_bin, c_binB, c_un, c_i2i, c_i2f, c_f2i, c_s2b, c_b2s, c_strId, c_mkfunc, c_mkslice, c_slice, c_sliceStr, c_fieldAddr, c_field, c_indexSl, c_indexArr, c_elemArr, c_indexStr, c_extract, c_lenStr, c_lenSl, c_append, c_real, c_imag, c_complex, c_min, c_max, c_clear, hlen, h0, c1, c2, lenA_sl', List.length_map]
  generalize hr : thenL (Λ c28_0 _ _) _ = r
  refine Exists.elim (thenL_inv hr (key _ _ ?_ ?_ ?_ ?_ ?_ ?_ (by decide) (by rw [hget]; rfl))) ?_
  iterate 6 simp only [gs_same, gs_ne, List.length_set, Nat.reduceLT, Nat.reduceEqDiff, not_false_eq_true, hlen]
  clear hr key
  rintro e ⟨tm1, H1, ⟨rfl, g1, g2, g3, rfl⟩, rfl⟩
  simp only [x_seq, x_block, x_skip, x_label, x_cond, x_exit, x_goto, x_ret, k_normal, k_exit, k_goto, k_ret, b_normal, b_exit, b_goto, b_ret, wantedA, aop, ev, putA, List.length_cons, List.length_nil, List.replicate, List.cons_append, List.nil_append, List.append_nil, List.append_assoc, gs_same, gs_ne, gq_same, gq_ne, List.length_set, List.map_cons, List.map_nil, cellsOf, List.all_cons, List.all_nil, cellOk, boxTy, Bool.and_true, Bool.and_self, if_true, ite_true, ite_false, loadAt, storeAt, setAt, hget, hget0, hset, hset0, List.getElem?_cons_zero, List.getElem?_cons_succ, List.set_cons_zero, List.set_cons_succ, Nat.add_zero, Nat.zero_add, Nat.reduceAdd, Nat.reduceSub, Nat.reduceLeDiff, Nat.reduceLT, Nat.reduceEqDiff, Nat.le_refl, and_self, and_true, true_and, mkAgg, toIms, List.drop_zero, List.drop_succ_cons, List.take_succ_cons, List.take_zero, List.length_append, binBool, unA, Bool.false_eq_true, if_false, partA, fillA, fillE, List.take_nil, Nat.zero_ne_one, Nat.one_ne_zero, not_false_eq_true, ne_eq, Nat.succ_ne_self, reduceCtorEq, Int.reduceEq, Int.reduceLT, Int.reduceLE, decide_true, decide_false, lenA, beq_self_eq_true, beq_true, beq_false, Bool.not_true, Bool.not_false, b_lss, b_gtr, b_leq, b_geq, b_eql, b_neq, b_add, b_sub, b_mul, s_eql, s_neq, y_ops, y_nil, y_cons, y_guard, y_some, y_drop, y_do, y_not, y_not0, c_call, c_clo, c_move, c_pick, c_alloc, c_box, c_build, c_bslice, c_load, c_store, c_nilCheck, c_bin, c_binB, c_un, c_i2i, c_i2f, c_f2i, c_s2b, c_b2s, c_strId, c_mkfunc, c_mkslice, c_slice, c_sliceStr, c_fieldAddr, c_field, c_indexSl, c_indexArr, c_elemArr, c_indexStr, c_extract, c_lenStr, c_lenSl, c_append, c_real, c_imag, c_complex, c_min, c_max, c_clear, endK, resA, tupA, g1, g2, g3, List.drop_zero, hlv]

section
variable (l : List PtV) (hl : l.length ≤ 1000) (N : Nat) (x2 : AV)
include hl

theorem l29 : ∀ (k i : Nat) (tm : List AV) (H : Heap) (acc : Int × Int), i + k = l.length → tm.length = 32 → tm.getD 2 undefA = x2 → tm.getD 6 undefA = .ptr N 0 0 → tm.getD 19 undefA = .im (.sl 1 (l.map PtV.C)) → tm.getD 20 undefA = .im (.int .i64 (l.length : Int)) → tm.getD 21 undefA = .im (.int .i64 (i : Int)) →
      rngZ acc → H[N]? = some (.obj none [ptL acc]) →
    ∃ e tm' H', Λ c29_0 tm H = some (e, tm', H') ∧ (e = .exit 0 ∧ tm'.length = 32 ∧ tm'.getD 2 undefA = x2 ∧ tm'.getD 6 undefA = .ptr N 0 0 ∧ H' = H.set N (.obj none [ptL (((l.drop i).map PtV.z).foldl addZ acc)]))
  | 0, i, tm, H, acc, hk, hlen, h2, h6, h19, h20, h21, hacc, hN => by
    have hc : decide ((i : Int) < (l.length : Int)) = false := decide_eq_false (by omega)
    rw [l29_0]
    simp only [b29_0, x_seq, x_block, x_skip, x_label, x_cond, x_exit, x_goto, x_ret, k_normal, k_exit, k_goto, k_ret, b_normal, b_exit, b_goto, b_ret, wantedA, aop, ev, putA, List.length_cons, List.length_nil, List.replicate, List.cons_append, List.nil_append, List.append_nil, List.append_assoc, gs_same, gs_ne, gq_same, gq_ne, List.length_set, List.map_cons, List.map_nil, cellsOf, List.all_cons, List.all_nil, cellOk, boxTy, Bool.and_true, Bool.and_self, if_true, ite_true, ite_false, loadAt, storeAt, setAt, hget, hget0, hset, hset0, List.getElem?_cons_zero, List.getElem?_cons_succ, List.set_cons_zero, List.set_cons_succ, Nat.add_zero, Nat.zero_add, Nat.reduceAdd, Nat.reduceSub, Nat.reduceLeDiff, Nat.reduceLT, Nat.reduceEqDiff, Nat.le_refl, and_self, and_true, true_and, mkAgg, toIms, List.drop_zero, List.drop_succ_cons, List.take_succ_cons, List.take_zero, List.length_append, binBool, unA, Bool.false_eq_true, if_false, partA, fillA, fillE, List.take_nil, Nat.zero_ne_one, Nat.one_ne_zero, not_false_eq_true, ne_eq, Nat.succ_ne_self, reduceCtorEq, Int.reduceEq, Int.reduceLT, Int.reduceLE, decide_true, decide_false, lenA, beq_self_eq_true, beq_true, beq_false, Bool.not_true, Bool.not_false, b_lss, b_gtr, b_leq, b_geq, b_eql, b_neq, b_add, b_sub, b_mul, s_eql, s_neq, y_ops, y_nil, y_cons, y_guard, y_some, y_drop, y_do, y_not, y_not0, c_call, c_clo, c_move, c_pick, c_alloc, c_box, c_build, c_bslice, c_load, c_store, c_nilCheck, c_bin, c_binB, c_un, c_i2i, c_i2f, c_f2i, c_s2b, c_b2s, c_strId, c_mkfunc, c_mkslice, c_slice, c_sliceStr, c_fieldAddr, c_field, c_indexSl, c_indexArr, c_elemArr, c_indexStr, c_extract, c_lenStr, c_lenSl, c_append, c_real, c_imag, c_complex, c_min, c_max, c_clear, hlen, h20, h21, hc]
    refine ⟨_, _, _, rfl, rfl, by simp only [List.length_set, hlen], by simp only [gs_same, gs_ne, List.length_set, Nat.reduceLT, Nat.reduceEqDiff, not_false_eq_true, hlen, h2], by simp only [gs_same, gs_ne, List.length_set, Nat.reduceLT, Nat.reduceEqDiff, not_false_eq_true, hlen, h6], ?_⟩
    rw [List.drop_of_length_le (by omega)]
    exact (set_idle hN).symm
  | k + 1, i, tm, H, acc, hk, hlen, h2, h6, h19, h20, h21, hacc, hN => by
    have hlt : i < l.length := by omega
    have hc : decide ((i : Int) < (l.length : Int)) = true := decide_eq_true (by omega)
    obtain ⟨p, hp⟩ : ∃ p, l[i]? = some p := ⟨l[i], by simp [hlt]⟩
    have hg : (l.map PtV.C)[i]? = some [.cpx .f64 p.fa p.fb] := by rw [List.getElem?_map, hp]; rfl
    have hd : l.drop i = p :: l.drop (i + 1) := by
      rw [List.getElem?_eq_getElem hlt] at hp; injection hp with hp
      rw [← hp]; exact List.drop_eq_getElem_cons hlt
    have hix := idx_nat (n := l.length) (i := i) hlt
    have hwr := wrap_nat (i := i) (by omega)
    obtain ⟨z, w, hadd, iz, iw⟩ := cpx_add (part_fz hacc.1) (part_fz hacc.2) p.pa p.pb
    have m1 := mul_small hacc.1 ⟨p.pa.lo, p.pa.hi⟩
    have m2 := mul_small hacc.2 ⟨p.pb.lo, p.pb.hi⟩
    have m3 := mul_small hacc.1 ⟨p.pb.lo, p.pb.hi⟩
    have m4 := mul_small hacc.2 ⟨p.pa.lo, p.pa.hi⟩
    have c1 := fun H => s59 iz iw (by have := p.pa.lo; have := p.pa.hi; omega) (by have := p.pb.lo; have := p.pb.hi; omega) H
    have hlt2 := (List.getElem?_eq_some_iff.1 hN).1
    have key := fun tm1 => l29 k (i + 1) tm1 (H.set N (.obj none [ptL (addZ acc p.z)])) (addZ acc p.z) (by omega)
    rw [l29_0]
    simp only [b29_0, x_seq, x_block, x_skip, x_label, x_cond, x_exit, x_goto, x_ret, k_normal, k_exit, k_goto, k_ret, b_normal, b_exit, b_goto, b_ret, wantedA, aop, ev, putA, List.length_cons, List.length_nil, List.replicate, List.cons_append, List.nil_append, List.append_nil, List.append_assoc, gs_same, gs_ne, gq_same, gq_ne, List.length_set, List.map_cons, List.map_nil, cellsOf, List.all_cons, List.all_nil, cellOk, boxTy, Bool.and_true, Bool.and_self, if_true, ite_true, ite_false, loadAt, storeAt, setAt, hget, hget0, hset, hset0, List.getElem?_cons_zero, List.getElem?_cons_succ, List.set_cons_zero, List.set_cons_succ, Nat.add_zero, Nat.zero_add, Nat.reduceAdd, Nat.reduceSub, Nat.reduceLeDiff, Nat.reduceLT, Nat.reduceEqDiff, Nat.le_refl, and_self, and_true, true_and, mkAgg, toIms, List.drop_zero, List.drop_succ_cons, List.take_succ_cons, List.take_zero, List.length_append, binBool, unA, Bool.false_eq_true, if_false, partA, fillA, fillE, List.take_nil, Nat.zero_ne_one, Nat.one_ne_zero, not_false_eq_true, ne_eq, Nat.succ_ne_self, reduceCtorEq, Int.reduceEq, Int.reduceLT, Int.reduceLE, decide_true, decide_false, lenA, beq_self_eq_true, beq_true, beq_false, Bool.not_true, Bool.not_false, b_lss, b_gtr, b_leq, b_geq, b_eql, b_neq, b_add, b_sub, b_mul, s_eql, s_neq, y_ops, y_nil, y_cons, y_guard, y_some, y_drop, y_do, y_not, y_not0, c_call, c_clo, c_move, c_pick, c_alloc, c_box, c_build, c_bslice, c_load, c_store, c_nilCheck, c_bin, c_binB, c_un, c_i2i, c_i2f, c_f2i, c_s2b, c_b2s, c_strId, c_mkfunc, c_mkslice, c_slice, c_sliceStr, c_fieldAddr, c_field, c_indexSl, c_indexArr, c_elemArr, c_indexStr, c_extract, c_lenStr, c_lenSl, c_append, c_real, c_imag, c_complex, c_min, c_max, c_clear, hlen, h6, h19, h20, h21, hc, hix, hg, List.length_map, hN, hadd, c1, hwr]
    refine ex_imp (key _ ?_ ?_ ?_ ?_ ?_ ?_ (rng_wrap _ _) (List.getElem?_set_self hlt2)) fun _ _ _ ⟨q1, q2, q3, q4, q5⟩ => ⟨q1, q2, q3, q4, by rw [q5, List.set_set, hd]; rfl⟩
    all_goals simp only [gs_same, gs_ne, List.length_set, Nat.reduceLT, Nat.reduceEqDiff, not_false_eq_true, hlen, h2, h6, h19, h20]

end

theorem s29 (l : List PtV) (hl : l.length ≤ 1000) (h0 : l ≠ []) (H : Heap) : L 29 [.im (.sl 5 (l.map PtV.D))] H = some (.tup [ptA (fz ((l.map PtV.z).foldl addZ (0, 0)).1) (fz ((l.map PtV.z).foldl addZ (0, 0)).2), .im (.int .i64 0)], H) := by
  have c1 := fun H => s57 l 5 rfl hl H
  have hne : (l.map PtV.C = []) = False := by simpa using h0
  simp only [hne, if_false] at c1
  have hs1 : ptA (flZ 0) (flZ 0) = ptA (fz 0) (fz 0) := rfl
  have c2 := fun H => s24p 0 0 (by decide) (by decide) H
  rw [hs1] at c2
  have hlv : ∀ (M : Heap) (x y : Nat), leave H false (.tup [.im (.agg [.int .i64 5, .int .i64 0, .str [], .cpx .f64 x y, .sl 0 []]), .im (.int .i64 0)]) (H ++ M) = (.tup [.im (.agg [.int .i64 5, .int .i64 0, .str [], .cpx .f64 x y, .sl 0 []]), .im (.int .i64 0)], H) := fun M x y => leave_deg rfl rfl
  rw [leq F29]
  obtain ⟨hlen, hg⟩ := enter_at (f := f29) (args := [.im (.sl 5 (l.map PtV.D))]) (Nat.le_of_ble_eq_true rfl)
  have h0 := hg 0 _ rfl
  generalize enterA f29 [.im (.sl 5 (l.map PtV.D))] = tm at *
  change tm.length = 32 at hlen
  have key := fun tm1 H1 => l29 l hl (H.length + 1) (.ptr H.length 0 0) l.length 0 tm1 H1 (0, 0) (by omega)
  simp only [zc0] at key
  simp only [f29, e29_0, x_seq, x_block, x_skip, x_label, x_cond, x_exit, x_goto, x_ret, k_normal, k_exit, k_goto, k_ret, b_normal, b_exit, b_goto, b_ret, wantedA, aop, ev, putA, List.length_cons, List.length_nil, List.replicate, List.cons_append, List.nil_append, List.append_nil, List.append_assoc, gs_same, gs_ne, gq_same, gq_ne, List.length_set, List.map_cons, List.map_nil, cellsOf, List.all_cons, List.all_nil, cellOk, boxTy, Bool.and_true, Bool.and_self, if_true, ite_true, ite_false, loadAt, storeAt, setAt, hget, hget0, hset, hset0, List.getElem?_cons_zero, List.getElem?_cons_succ, List.set_cons_zero, List.set_cons_succ, Nat.add_zero, Nat.zero_add, Nat.reduceAdd, Nat.reduceSub, Nat.reduceLeDiff, Nat.reduceLT, Nat.reduceEqDiff, Nat.le_refl, and_self, and_true, true_and, mkAgg, toIms, List.drop_zero, List.drop_succ_cons, List.take_succ_cons, List.take_zero, List.length_append, binBool, unA, Bool.false_eq_true, if_false, partA, fillA, fillE, List.take_nil, Nat.zero_ne_one, Nat.one_ne_zero, not_false_eq_true, ne_eq, Nat.succ_ne_self, reduceCtorEq, Int.reduceEq, Int.reduceLT, Int.reduceLE, decide_true, decide_false, lenA, beq_self_eq_true, beq_true, beq_false, Bool.not_true, Bool.not_false, b_lss, b_gtr, b_leq, b_geq, b_eql, b_neq, b_add, b_sub, b_mul, s_eql, s_neq, y_ops, y_nil, y_cons, y_guard, y_some, y_drop, y_do, y_not, y_not0, c_call, c_clo, c_move, c_pick, c_alloc, c_box, c_build, c_bslice, c_load, c_store, c_nilCheck, c_bin, c_binB, c_un, c_i2i, c_i2f, c_f2i, c_s2b, c_b2s, c_strId, c_mkfunc, c_mkslice, c_slice, c_sliceStr, c_fieldAddr, c_field, c_indexSl, c_indexArr, c_elemArr, c_indexStr, c_extract, c_lenStr, c_lenSl, c_append, c_real, c_imag, c_complex, c_min, c_max, c_clear, hlen, h0, c1, c2, lenA_sl', List.length_map]
  generalize hr : thenL (Λ c29_0 _ _) _ = r
  refine Exists.elim (thenL_inv hr (key _ _ ?_ ?_ ?_ ?_ ?_ ?_ (by decide) (by rw [hget]; rfl))) ?_
  iterate 6 simp only [gs_same, gs_ne, List.length_set, Nat.reduceLT, Nat.reduceEqDiff, not_false_eq_true, hlen]
  clear hr key
  rintro e ⟨tm1, H1, ⟨rfl, g1, g2, g3, rfl⟩, rfl⟩
  simp only [x_seq, x_block, x_skip, x_label, x_cond, x_exit, x_goto, x_ret, k_normal, k_exit, k_goto, k_ret, b_normal, b_exit, b_goto, b_ret, wantedA, aop, ev, putA, List.length_cons, List.length_nil, List.replicate, List.cons_append, List.nil_append, List.append_nil, List.append_assoc, gs_same, gs_ne, gq_same, gq_ne, List.length_set, List.map_cons, List.map_nil, cellsOf, List.all_cons, List.all_nil, cellOk, boxTy, Bool.and_true, Bool.and_self, if_true, ite_true, ite_false, loadAt, storeAt, setAt, hget, hget0, hset, hset0, List.getElem?_cons_zero, List.getElem?_cons_succ, List.set_cons_zero, List.set_cons_succ, Nat.add_zero, Nat.zero_add, Nat.reduceAdd, Nat.reduceSub, Nat.reduceLeDiff, Nat.reduceLT, Nat.reduceEqDiff, Nat.le_refl, and_self, and_true, true_and, mkAgg, toIms, List.drop_zero, List.drop_succ_cons, List.take_succ_cons, List.take_zero, List.length_append, binBool, unA, Bool.false_eq_true, if_false, partA, fillA, fillE, List.take_nil, Nat.zero_ne_one, Nat.one_ne_zero, not_false_eq_true, ne_eq, Nat.succ_ne_self, reduceCtorEq, Int.reduceEq, Int.reduceLT, Int.reduceLE, decide_true, decide_false, lenA, beq_self_eq_true, beq_true, beq_false, Bool.not_true, Bool.not_false, b_lss, b_gtr, b_leq, b_geq, b_eql, b_neq, b_add, b_sub, b_mul, s_eql, s_neq, y_ops, y_nil, y_cons, y_guard, y_some, y_drop, y_do, y_not, y_not0, c_call, c_clo, c_move, c_pick, c_alloc, c_box, c_build, c_bslice, c_load, c_store, c_nilCheck, c_bin, c_binB, c_un, c_i2i, c_i2f, c_f2i, c_s2b, c_b2s, c_strId, c_mkfunc, c_mkslice, c_slice, c_sliceStr, c_fieldAddr, c_field, c_indexSl, c_indexArr, c_elemArr, c_indexStr, c_extract, c_lenStr, c_lenSl, c_append, c_real, c_imag, c_complex, c_min, c_max, c_clear, endK, resA, tupA, g1, g2, g3, List.drop_zero, hlv]

end Go.Abs.Seat
end
section
set_option linter.unusedVariables false
set_option linter.unusedSimpArgs false
/- What the values' functions come to: the order of points. -/
set_option linter.unusedVariables false
set_option linter.unusedSimpArgs false
namespace Go.Abs.Seat
open Go.Proofs

theorem s81 {fa fb : Nat} {n m : Int} (pa : Part fa n) (pb : Part fb m) (H : Heap) : L 81 [ptA fa fb] H = some (.im (.bool false), H) := by
  have c1 := fun H => s58 pa pb H
  rw [leq F81]
  obtain ⟨hlen, hg⟩ := enter_at (f := f81) (args := [ptA fa fb]) (Nat.le_of_ble_eq_true rfl)
  have h0 := hg 0 _ rfl
  generalize enterA f81 [ptA fa fb] = tm at *
  change tm.length = 6 at hlen
  simp only [f81, x_seq, x_block, x_skip, x_label, x_cond, x_exit, x_goto, x_ret, k_normal, k_exit, k_goto, k_ret, b_normal, b_exit, b_goto, b_ret, wantedA, aop, ev, putA, List.length_cons, List.length_nil, List.replicate, List.cons_append, List.nil_append, List.append_nil, List.append_assoc, gs_same, gs_ne, gq_same, gq_ne, List.length_set, List.map_cons, List.map_nil, cellsOf, List.all_cons, List.all_nil, cellOk, boxTy, Bool.and_true, Bool.and_self, if_true, ite_true, ite_false, loadAt, storeAt, setAt, hget, hget0, hset, hset0, List.getElem?_cons_zero, List.getElem?_cons_succ, List.set_cons_zero, List.set_cons_succ, Nat.add_zero, Nat.zero_add, Nat.reduceAdd, Nat.reduceSub, Nat.reduceLeDiff, Nat.reduceLT, Nat.reduceEqDiff, Nat.le_refl, and_self, and_true, true_and, mkAgg, toIms, List.drop_zero, List.drop_succ_cons, List.take_succ_cons, List.take_zero, List.length_append, binBool, unA, Bool.false_eq_true, if_false, partA, fillA, fillE, List.take_nil, Nat.zero_ne_one, Nat.one_ne_zero, not_false_eq_true, ne_eq, Nat.succ_ne_self, reduceCtorEq, Int.reduceEq, Int.reduceLT, Int.reduceLE, decide_true, decide_false, lenA, beq_self_eq_true, beq_true, beq_false, Bool.not_true, Bool.not_false, b_lss, b_gtr, b_leq, b_geq, b_eql, b_neq, b_add, b_sub, b_mul, s_eql, s_neq, y_ops, y_nil, y_cons, y_guard, y_some, y_drop, y_do, y_not, y_not0, c_call, c_clo, c_move, c_pick, c_alloc, c_box, c_build, c_bslice, c_load, c_store, c_nilCheck, c_bin, c_binB, c_un, c_i2i, c_i2f, c_f2i, c_s2b, c_b2s, c_strId, c_mkfunc, c_mkslice, c_slice, c_sliceStr, c_fieldAddr, c_field, c_indexSl, c_indexArr, c_elemArr, c_indexStr, c_extract, c_lenStr, c_lenSl, c_append, c_real, c_imag, c_complex, c_min, c_max, c_clear, endK, resA, tupA, hlen, h0, c1, leave_app, leave_same]

theorem l103 (l : List PtV) (hl : l.length ≤ 1000) (H : Heap) :
    ∀ (k i : Nat) (tm : List AV), i + k = l.length → tm.length = 19 → tm.getD 0 undefA = .im (.sl 5 (l.map PtV.D)) → tm.getD 1 undefA = .clo 81 [] → tm.getD 7 undefA = .im (.int .i64 (l.length : Int)) → tm.getD 8 undefA = .im (.int .i64 (i : Int)) →
    ∃ e tm' H', Λ c103_0 tm H = some (e, tm', H') ∧ (e = .exit 0 ∧ tm'.length = 19 ∧ H' = H)
  | 0, i, tm, hk, hlen, h0, h1, h7, h8 => by
    have hc : decide ((i : Int) < (l.length : Int)) = false := decide_eq_false (by omega)
    rw [l103_0]
    simp only [b103_0, x_seq, x_block, x_skip, x_label, x_cond, x_exit, x_goto, x_ret, k_normal, k_exit, k_goto, k_ret, b_normal, b_exit, b_goto, b_ret, wantedA, aop, ev, putA, List.length_cons, List.length_nil, List.replicate, List.cons_append, List.nil_append, List.append_nil, List.append_assoc, gs_same, gs_ne, gq_same, gq_ne, List.length_set, List.map_cons, List.map_nil, cellsOf, List.all_cons, List.all_nil, cellOk, boxTy, Bool.and_true, Bool.and_self, if_true, ite_true, ite_false, loadAt, storeAt, setAt, hget, hget0, hset, hset0, List.getElem?_cons_zero, List.getElem?_cons_succ, List.set_cons_zero, List.set_cons_succ, Nat.add_zero, Nat.zero_add, Nat.reduceAdd, Nat.reduceSub, Nat.reduceLeDiff, Nat.reduceLT, Nat.reduceEqDiff, Nat.le_refl, and_self, and_true, true_and, mkAgg, toIms, List.drop_zero, List.drop_succ_cons, List.take_succ_cons, List.take_zero, List.length_append, binBool, unA, Bool.false_eq_true, if_false, partA, fillA, fillE, List.take_nil, Nat.zero_ne_one, Nat.one_ne_zero, not_false_eq_true, ne_eq, Nat.succ_ne_self, reduceCtorEq, Int.reduceEq, Int.reduceLT, Int.reduceLE, decide_true, decide_false, lenA, beq_self_eq_true, beq_true, beq_false, Bool.not_true, Bool.not_false, b_lss, b_gtr, b_leq, b_geq, b_eql, b_neq, b_add, b_sub, b_mul, s_eql, s_neq, y_ops, y_nil, y_cons, y_guard, y_some, y_drop, y_do, y_not, y_not0, c_call, c_clo, c_move, c_pick, c_alloc, c_box, c_build, c_bslice, c_load, c_store, c_nilCheck, c_bin, c_binB, c_un, c_i2i, c_i2f, c_f2i, c_s2b, c_b2s, c_strId, c_mkfunc, c_mkslice, c_slice, c_sliceStr, c_fieldAddr, c_field, c_indexSl, c_indexArr, c_elemArr, c_indexStr, c_extract, c_lenStr, c_lenSl, c_append, c_real, c_imag, c_complex, c_min, c_max, c_clear, hlen, h7, h8, hc]
    exact ⟨_, _, _, rfl, rfl, by simp only [List.length_set, hlen], rfl⟩
  | k + 1, i, tm, hk, hlen, h0, h1, h7, h8 => by
    have hlt : i < l.length := by omega
    have hc : decide ((i : Int) < (l.length : Int)) = true := decide_eq_true (by omega)
    obtain ⟨p, hp⟩ : ∃ p, l[i]? = some p := ⟨l[i], by simp [hlt]⟩
    have hg : (l.map PtV.D)[i]? = some (ptD p.fa p.fb) := by rw [List.getElem?_map, hp]; rfl
    have hix := idx_nat (n := l.length) (i := i) hlt
    have hwr := wrap_nat (i := i) (by omega)
    have c1 := fun H => s81 p.pa p.pb H
    have key := fun tm1 => l103 l hl H k (i + 1) tm1 (by omega)
    rw [l103_0]
    simp only [b103_0, x_seq, x_block, x_skip, x_label, x_cond, x_exit, x_goto, x_ret, k_normal, k_exit, k_goto, k_ret, b_normal, b_exit, b_goto, b_ret, wantedA, aop, ev, putA, List.length_cons, List.length_nil, List.replicate, List.cons_append, List.nil_append, List.append_nil, List.append_assoc, gs_same, gs_ne, gq_same, gq_ne, List.length_set, List.map_cons, List.map_nil, cellsOf, List.all_cons, List.all_nil, cellOk, boxTy, Bool.and_true, Bool.and_self, if_true, ite_true, ite_false, loadAt, storeAt, setAt, hget, hget0, hset, hset0, List.getElem?_cons_zero, List.getElem?_cons_succ, List.set_cons_zero, List.set_cons_succ, Nat.add_zero, Nat.zero_add, Nat.reduceAdd, Nat.reduceSub, Nat.reduceLeDiff, Nat.reduceLT, Nat.reduceEqDiff, Nat.le_refl, and_self, and_true, true_and, mkAgg, toIms, List.drop_zero, List.drop_succ_cons, List.take_succ_cons, List.take_zero, List.length_append, binBool, unA, Bool.false_eq_true, if_false, partA, fillA, fillE, List.take_nil, Nat.zero_ne_one, Nat.one_ne_zero, not_false_eq_true, ne_eq, Nat.succ_ne_self, reduceCtorEq, Int.reduceEq, Int.reduceLT, Int.reduceLE, decide_true, decide_false, lenA, beq_self_eq_true, beq_true, beq_false, Bool.not_true, Bool.not_false, b_lss, b_gtr, b_leq, b_geq, b_eql, b_neq, b_add, b_sub, b_mul, s_eql, s_neq, y_ops, y_nil, y_cons, y_guard, y_some, y_drop, y_do, y_not, y_not0, c_call, c_clo, c_move, c_pick, c_alloc, c_box, c_build, c_bslice, c_load, c_store, c_nilCheck, c_bin, c_binB, c_un, c_i2i, c_i2f, c_f2i, c_s2b, c_b2s, c_strId, c_mkfunc, c_mkslice, c_slice, c_sliceStr, c_fieldAddr, c_field, c_indexSl, c_indexArr, c_elemArr, c_indexStr, c_extract, c_lenStr, c_lenSl, c_append, c_real, c_imag, c_complex, c_min, c_max, c_clear, hlen, h0, h1, h7, h8, hc, hix, hg, List.length_map, c1, hwr]
    refine ex_imp (key _ ?_ ?_ ?_ ?_ ?_) fun _ _ _ q => q
    all_goals simp only [gs_same, gs_ne, List.length_set, Nat.reduceLT, Nat.reduceEqDiff, not_false_eq_true, hlen, h0, h1, h7]

theorem s103 (l : List PtV) (hl : l.length ≤ 1000) (H : Heap) : L 103 [.im (.sl 5 (l.map PtV.D)), .clo 81 []] H = some (.im (.int .i64 (-1)), H) := by
  have key := fun tm1 => l103 l hl H l.length 0 tm1 (by omega)
  simp only [zc0] at key
  rw [leq F103]
  obtain ⟨hlen, hg⟩ := enter_at (f := f103) (args := [.im (.sl 5 (l.map PtV.D)), .clo 81 []]) (Nat.le_of_ble_eq_true rfl)
  have h0 := hg 0 _ rfl
  have h1 := hg 1 _ rfl
  generalize enterA f103 [.im (.sl 5 (l.map PtV.D)), .clo 81 []] = tm at *
  change tm.length = 19 at hlen
  simp only [f103, e103_0, x_seq, x_block, x_skip, x_label, x_cond, x_exit, x_goto, x_ret, k_normal, k_exit, k_goto, k_ret, b_normal, b_exit, b_goto, b_ret, wantedA, aop, ev, putA, List.length_cons, List.length_nil, List.replicate, List.cons_append, List.nil_append, List.append_nil, List.append_assoc, gs_same, gs_ne, gq_same, gq_ne, List.length_set, List.map_cons, List.map_nil, cellsOf, List.all_cons, List.all_nil, cellOk, boxTy, Bool.and_true, Bool.and_self, if_true, ite_true, ite_false, loadAt, storeAt, setAt, hget, hget0, hset, hset0, List.getElem?_cons_zero, List.getElem?_cons_succ, List.set_cons_zero, List.set_cons_succ, Nat.add_zero, Nat.zero_add, Nat.reduceAdd, Nat.reduceSub, Nat.reduceLeDiff, Nat.reduceLT, Nat.reduceEqDiff, Nat.le_refl, and_self, and_true, true_and, mkAgg, toIms, List.drop_zero, List.drop_succ_cons, List.take_succ_cons, List.take_zero, List.length_append, binBool, unA, Bool.false_eq_true, if_false, partA, fillA, fillE, List.take_nil, Nat.zero_ne_one, Nat.one_ne_zero, not_false_eq_true, ne_eq, Nat.succ_ne_self, reduceCtorEq, Int.reduceEq, Int.reduceLT, Int.reduceLE, decide_true, decide_false, lenA, beq_self_eq_true, beq_true, beq_false, Bool.not_true, Bool.not_false, b_lss, b_gtr, b_leq, b_geq, b_eql, b_neq, b_add, b_sub, b_mul, s_eql, s_neq, y_ops, y_nil, y_cons, y_guard, y_some, y_drop, y_do, y_not, y_not0, c_call, c_clo, c_move, c_pick, c_alloc, c_box, c_build, c_bslice, c_load, c_store, c_nilCheck, c_bin, c_binB, c_un, c_i2i, c_i2f, c_f2i, c_s2b, c_b2s, c_strId, c_mkfunc, c_mkslice, c_slice, c_sliceStr, c_fieldAddr, c_field, c_indexSl, c_indexArr, c_elemArr, c_indexStr, c_extract, c_lenStr, c_lenSl, c_append, c_real, c_imag, c_complex, c_min, c_max, c_clear, hlen, h0, h1, lenA_sl', List.length_map]
  generalize hr : thenL (Λ c103_0 _ _) _ = r
  refine Exists.elim (thenL_inv hr (key _ ?_ ?_ ?_ ?_ ?_)) ?_
  iterate 5 simp only [gs_same, gs_ne, List.length_set, Nat.reduceLT, Nat.reduceEqDiff, not_false_eq_true, hlen, h0, h1]
  clear hr key
  rintro e ⟨tm1, H1, ⟨rfl, g1, rfl⟩, rfl⟩
  simp only [x_seq, x_block, x_skip, x_label, x_cond, x_exit, x_goto, x_ret, k_normal, k_exit, k_goto, k_ret, b_normal, b_exit, b_goto, b_ret, wantedA, aop, ev, putA, List.length_cons, List.length_nil, List.replicate, List.cons_append, List.nil_append, List.append_nil, List.append_assoc, gs_same, gs_ne, gq_same, gq_ne, List.length_set, List.map_cons, List.map_nil, cellsOf, List.all_cons, List.all_nil, cellOk, boxTy, Bool.and_true, Bool.and_self, if_true, ite_true, ite_false, loadAt, storeAt, setAt, hget, hget0, hset, hset0, List.getElem?_cons_zero, List.getElem?_cons_succ, List.set_cons_zero, List.set_cons_succ, Nat.add_zero, Nat.zero_add, Nat.reduceAdd, Nat.reduceSub, Nat.reduceLeDiff, Nat.reduceLT, Nat.reduceEqDiff, Nat.le_refl, and_self, and_true, true_and, mkAgg, toIms, List.drop_zero, List.drop_succ_cons, List.take_succ_cons, List.take_zero, List.length_append, binBool, unA, Bool.false_eq_true, if_false, partA, fillA, fillE, List.take_nil, Nat.zero_ne_one, Nat.one_ne_zero, not_false_eq_true, ne_eq, Nat.succ_ne_self, reduceCtorEq, Int.reduceEq, Int.reduceLT, Int.reduceLE, decide_true, decide_false, lenA, beq_self_eq_true, beq_true, beq_false, Bool.not_true, Bool.not_false, b_lss, b_gtr, b_leq, b_geq, b_eql, b_neq, b_add, b_sub, b_mul, s_eql, s_neq, y_ops, y_nil, y_cons, y_guard, y_some, y_drop, y_do, y_not, y_not0, c_call, c_clo, c_move, c_pick, c_alloc, c_box, c_build, c_bslice, c_load, c_store, c_nilCheck, c_bin, c_binB, c_un, c_i2i, c_i2f, c_f2i, c_s2b, c_b2s, c_strId, c_mkfunc, c_mkslice, c_slice, c_sliceStr, c_fieldAddr, c_field, c_indexSl, c_indexArr, c_elemArr, c_indexStr, c_extract, c_lenStr, c_lenSl, c_append, c_real, c_imag, c_complex, c_min, c_max, c_clear, endK, resA, tupA, g1, leave_same]

theorem s80 (l : List PtV) (hl : l.length ≤ 1000) (H : Heap) : L 80 [.im (.sl 5 (l.map PtV.D)), .clo 81 []] H = some (.im (.bool false), H) := by
  have c1 := fun H => s103 l hl H
  rw [leq F80]
  obtain ⟨hlen, hg⟩ := enter_at (f := f80) (args := [.im (.sl 5 (l.map PtV.D)), .clo 81 []]) (Nat.le_of_ble_eq_true rfl)
  have h0 := hg 0 _ rfl
  have h1 := hg 1 _ rfl
  generalize enterA f80 [.im (.sl 5 (l.map PtV.D)), .clo 81 []] = tm at *
  change tm.length = 9 at hlen
  simp only [f80, x_seq, x_block, x_skip, x_label, x_cond, x_exit, x_goto, x_ret, k_normal, k_exit, k_goto, k_ret, b_normal, b_exit, b_goto, b_ret, wantedA, aop, ev, putA, List.length_cons, List.length_nil, List.replicate, List.cons_append, List.nil_append, List.append_nil, List.append_assoc, gs_same, gs_ne, gq_same, gq_ne, List.length_set, List.map_cons, List.map_nil, cellsOf, List.all_cons, List.all_nil, cellOk, boxTy, Bool.and_true, Bool.and_self, if_true, ite_true, ite_false, loadAt, storeAt, setAt, hget, hget0, hset, hset0, List.getElem?_cons_zero, List.getElem?_cons_succ, List.set_cons_zero, List.set_cons_succ, Nat.add_zero, Nat.zero_add, Nat.reduceAdd, Nat.reduceSub, Nat.reduceLeDiff, Nat.reduceLT, Nat.reduceEqDiff, Nat.le_refl, and_self, and_true, true_and, mkAgg, toIms, List.drop_zero, List.drop_succ_cons, List.take_succ_cons, List.take_zero, List.length_append, binBool, unA, Bool.false_eq_true, if_false, partA, fillA, fillE, List.take_nil, Nat.zero_ne_one, Nat.one_ne_zero, not_false_eq_true, ne_eq, Nat.succ_ne_self, reduceCtorEq, Int.reduceEq, Int.reduceLT, Int.reduceLE, decide_true, decide_false, lenA, beq_self_eq_true, beq_true, beq_false, Bool.not_true, Bool.not_false, b_lss, b_gtr, b_leq, b_geq, b_eql, b_neq, b_add, b_sub, b_mul, s_eql, s_neq, y_ops, y_nil, y_cons, y_guard, y_some, y_drop, y_do, y_not, y_not0, c_call, c_clo, c_move, c_pick, c_alloc, c_box, c_build, c_bslice, c_load, c_store, c_nilCheck, c_bin, c_binB, c_un, c_i2i, c_i2f, c_f2i, c_s2b, c_b2s, c_strId, c_mkfunc, c_mkslice, c_slice, c_sliceStr, c_fieldAddr, c_field, c_indexSl, c_indexArr, c_elemArr, c_indexStr, c_extract, c_lenStr, c_lenSl, c_append, c_real, c_imag, c_complex, c_min, c_max, c_clear, endK, resA, tupA, hlen, h0, h1, c1, leave_same]

theorem s55 (l : List PtV) (hl : l.length ≤ 1000) (H : Heap) : L 55 [.im (.sl 5 (l.map PtV.D))] H = some (.im (.int .i64 0), H) := by
  have c1 := fun H => s80 l hl H
  rw [leq F55]
  obtain ⟨hlen, hg⟩ := enter_at (f := f55) (args := [.im (.sl 5 (l.map PtV.D))]) (Nat.le_of_ble_eq_true rfl)
  have h0 := hg 0 _ rfl
  generalize enterA f55 [.im (.sl 5 (l.map PtV.D))] = tm at *
  change tm.length = 5 at hlen
  simp only [f55, x_seq, x_block, x_skip, x_label, x_cond, x_exit, x_goto, x_ret, k_normal, k_exit, k_goto, k_ret, b_normal, b_exit, b_goto, b_ret, wantedA, aop, ev, putA, List.length_cons, List.length_nil, List.replicate, List.cons_append, List.nil_append, List.append_nil, List.append_assoc, gs_same, gs_ne, gq_same, gq_ne, List.length_set, List.map_cons, List.map_nil, cellsOf, List.all_cons, List.all_nil, cellOk, boxTy, Bool.and_true, Bool.and_self, if_true, ite_true, ite_false, loadAt, storeAt, setAt, hget, hget0, hset, hset0, List.getElem?_cons_zero, List.getElem?_cons_succ, List.set_cons_zero, List.set_cons_succ, Nat.add_zero, Nat.zero_add, Nat.reduceAdd, Nat.reduceSub, Nat.reduceLeDiff, Nat.reduceLT, Nat.reduceEqDiff, Nat.le_refl, and_self, and_true, true_and, mkAgg, toIms, List.drop_zero, List.drop_succ_cons, List.take_succ_cons, List.take_zero, List.length_append, binBool, unA, Bool.false_eq_true, if_false, partA, fillA, fillE, List.take_nil, Nat.zero_ne_one, Nat.one_ne_zero, not_false_eq_true, ne_eq, Nat.succ_ne_self, reduceCtorEq, Int.reduceEq, Int.reduceLT, Int.reduceLE, decide_true, decide_false, lenA, beq_self_eq_true, beq_true, beq_false, Bool.not_true, Bool.not_false, b_lss, b_gtr, b_leq, b_geq, b_eql, b_neq, b_add, b_sub, b_mul, s_eql, s_neq, y_ops, y_nil, y_cons, y_guard, y_some, y_drop, y_do, y_not, y_not0, c_call, c_clo, c_move, c_pick, c_alloc, c_box, c_build, c_bslice, c_load, c_store, c_nilCheck, c_bin, c_binB, c_un, c_i2i, c_i2f, c_f2i, c_s2b, c_b2s, c_strId, c_mkfunc, c_mkslice, c_slice, c_sliceStr, c_fieldAddr, c_field, c_indexSl, c_indexArr, c_elemArr, c_indexStr, c_extract, c_lenStr, c_lenSl, c_append, c_real, c_imag, c_complex, c_min, c_max, c_clear, endK, resA, tupA, hlen, h0, c1, leave_same]

/-- Which one is less? -/
def cmpI (a b : Int) : Int := if a < b then -1 else if b < a then 1 else 0

theorem s104 (a : Int) (H : Heap) : L 104 [.im (.int .i64 a)] H = some (.im (.bool false), H) := by
  have hd : decide (a ≠ a) = false := by simp
  rw [leq F104]
  obtain ⟨hlen, hg⟩ := enter_at (f := f104) (args := [.im (.int .i64 a)]) (Nat.le_of_ble_eq_true rfl)
  have h0 := hg 0 _ rfl
  generalize enterA f104 [.im (.int .i64 a)] = tm at *
  change tm.length = 6 at hlen
  simp only [f104, x_seq, x_block, x_skip, x_label, x_cond, x_exit, x_goto, x_ret, k_normal, k_exit, k_goto, k_ret, b_normal, b_exit, b_goto, b_ret, wantedA, aop, ev, putA, List.length_cons, List.length_nil, List.replicate, List.cons_append, List.nil_append, List.append_nil, List.append_assoc, gs_same, gs_ne, gq_same, gq_ne, List.length_set, List.map_cons, List.map_nil, cellsOf, List.all_cons, List.all_nil, cellOk, boxTy, Bool.and_true, Bool.and_self, if_true, ite_true, ite_false, loadAt, storeAt, setAt, hget, hget0, hset, hset0, List.getElem?_cons_zero, List.getElem?_cons_succ, List.set_cons_zero, List.set_cons_succ, Nat.add_zero, Nat.zero_add, Nat.reduceAdd, Nat.reduceSub, Nat.reduceLeDiff, Nat.reduceLT, Nat.reduceEqDiff, Nat.le_refl, and_self, and_true, true_and, mkAgg, toIms, List.drop_zero, List.drop_succ_cons, List.take_succ_cons, List.take_zero, List.length_append, binBool, unA, Bool.false_eq_true, if_false, partA, fillA, fillE, List.take_nil, Nat.zero_ne_one, Nat.one_ne_zero, not_false_eq_true, ne_eq, Nat.succ_ne_self, reduceCtorEq, Int.reduceEq, Int.reduceLT, Int.reduceLE, decide_true, decide_false, lenA, beq_self_eq_true, beq_true, beq_false, Bool.not_true, Bool.not_false, b_lss, b_gtr, b_leq, b_geq, b_eql, b_neq, b_add, b_sub, b_mul, s_eql, s_neq, y_ops, y_nil, y_cons, y_guard, y_some, y_drop, y_do, y_not, y_not0, c_call, c_clo, c_move, c_pick, c_alloc, c_box, c_build, c_bslice, c_load, c_store, c_nilCheck, c_bin, c_binB, c_un, c_i2i, c_i2f, c_f2i, c_s2b, c_b2s, c_strId, c_mkfunc, c_mkslice, c_slice, c_sliceStr, c_fieldAddr, c_field, c_indexSl, c_indexArr, c_elemArr, c_indexStr, c_extract, c_lenStr, c_lenSl, c_append, c_real, c_imag, c_complex, c_min, c_max, c_clear, endK, resA, tupA, hlen, h0, hd, leave_same]

theorem s83 (a b : Int) (H : Heap) : L 83 [.im (.int .i64 a), .im (.int .i64 b)] H = some (.im (.int .i64 (cmpI a b)), H) := by
  have c1 := fun H => s104 a H
  have c2 := fun H => s104 b H
  rw [leq F83]
  obtain ⟨hlen, hg⟩ := enter_at (f := f83) (args := [.im (.int .i64 a), .im (.int .i64 b)]) (Nat.le_of_ble_eq_true rfl)
  have h0 := hg 0 _ rfl
  have h1 := hg 1 _ rfl
  generalize enterA f83 [.im (.int .i64 a), .im (.int .i64 b)] = tm at *
  change tm.length = 20 at hlen
  unfold cmpI
  by_cases d1 : a < b
  · have e1 : decide (a < b) = true := decide_eq_true d1
    rw [if_pos d1]
    simp only [f83, x_seq, x_block, x_skip, x_label, x_cond, x_exit, x_goto, x_ret, k_normal, k_exit, k_goto, k_ret, b_normal, b_exit, b_goto, b_ret, wantedA, aop, ev, putA, List.length_cons, List.length_nil, List.replicate, List.cons_append, List.nil_append, List.append_nil, List.append_assoc, gs_same, gs_ne, gq_same, gq_ne, List.length_set, List.map_cons, List.map_nil, cellsOf, List.all_cons, List.all_nil, cellOk, boxTy, Bool.and_true, Bool.and_self, if_true, ite_true, ite_false, loadAt, storeAt, setAt, hget, hget0, hset, hset0, List.getElem?_cons_zero, List.getElem?_cons_succ, List.set_cons_zero, List.set_cons_succ, Nat.add_zero, Nat.zero_add, Nat.reduceAdd, Nat.reduceSub, Nat.reduceLeDiff, Nat.reduceLT, Nat.reduceEqDiff, Nat.le_refl, and_self, and_true, true_and, mkAgg, toIms, List.drop_zero, List.drop_succ_cons, List.take_succ_cons, List.take_zero, List.length_append, binBool, unA, Bool.false_eq_true, if_false, partA, fillA, fillE, List.take_nil, Nat.zero_ne_one, Nat.one_ne_zero, not_false_eq_true, ne_eq, Nat.succ_ne_self, reduceCtorEq, Int.reduceEq, Int.reduceLT, Int.reduceLE, decide_true, decide_false, lenA, beq_self_eq_true, beq_true, beq_false, Bool.not_true, Bool.not_false, b_lss, b_gtr, b_leq, b_geq, b_eql, b_neq, b_add, b_sub, b_mul, s_eql, s_neq, y_ops, y_nil, y_cons, y_guard, y_some, y_drop, y_do, y_not, y_not0, c_call, c_clo, c_move, c_pick, c_alloc, c_box, c_build, c_bslice, c_load, c_store, c_nilCheck, c_bin, c_binB, c_un, c_i2i, c_i2f, c_f2i, c_s2b, c_b2s, c_strId, c_mkfunc, c_mkslice, c_slice, c_sliceStr, c_fieldAddr, c_field, c_indexSl, c_indexArr, c_elemArr, c_indexStr, c_extract, c_lenStr, c_lenSl, c_append, c_real, c_imag, c_complex, c_min, c_max, c_clear, endK, resA, tupA, hlen, h0, h1, c1, c2, e1, leave_same]
  · have e1 : decide (a < b) = false := decide_eq_false d1
    rw [if_neg d1]
    by_cases d2 : b < a
    · have e2 : decide (b < a) = true := decide_eq_true d2
      rw [if_pos d2]
      simp only [f83, x_seq, x_block, x_skip, x_label, x_cond, x_exit, x_goto, x_ret, k_normal, k_exit, k_goto, k_ret, b_normal, b_exit, b_goto, b_ret, wantedA, aop, ev, putA, List.length_cons, List.length_nil, List.replicate, List.cons_append, List.nil_append, List.append_nil, List.append_assoc, gs_same, gs_ne, gq_same, gq_ne, List.length_set, List.map_cons, List.map_nil, cellsOf, List.all_cons, List.all_nil, cellOk, boxTy, Bool.and_true, Bool.and_self, if_true, ite_true, ite_false, loadAt, storeAt, setAt, hget, hget0, hset, hset0, List.getElem?_cons_zero, List.getElem?_cons_succ, List.set_cons_zero, List.set_cons_succ, Nat.add_zero, Nat.zero_add, Nat.reduceAdd, Nat.reduceSub, Nat.reduceLeDiff, Nat.reduceLT, Nat.reduceEqDiff, Nat.le_refl, and_self, and_true, true_and, mkAgg, toIms, List.drop_zero, List.drop_succ_cons, List.take_succ_cons, List.take_zero, List.length_append, binBool, unA, Bool.false_eq_true, if_false, partA, fillA, fillE, List.take_nil, Nat.zero_ne_one, Nat.one_ne_zero, not_false_eq_true, ne_eq, Nat.succ_ne_self, reduceCtorEq, Int.reduceEq, Int.reduceLT, Int.reduceLE, decide_true, decide_false, lenA, beq_self_eq_true, beq_true, beq_false, Bool.not_true, Bool.not_false, b_lss, b_gtr, b_leq, b_geq, b_eql, b_neq, b_add, b_sub, b_mul, s_eql, s_neq, y_ops, y_nil, y_cons, y_guard, y_some, y_drop, y_do, y_not, y_not0, c_call, c_clo, c_move, c_pick, c_alloc, c_box, c_build, c_bslice, c_load, c_store, c_nilCheck, c_bin, c_binB, c_un, c_i2i, c_i2f, c_f2i, c_s2b, c_b2s, c_strId, c_mkfunc, c_mkslice, c_slice, c_sliceStr, c_fieldAddr, c_field, c_indexSl, c_indexArr, c_elemArr, c_indexStr, c_extract, c_lenStr, c_lenSl, c_append, c_real, c_imag, c_complex, c_min, c_max, c_clear, endK, resA, tupA, hlen, h0, h1, c1, c2, e1, e2, leave_same]
    · have e2 : decide (b < a) = false := decide_eq_false d2
      rw [if_neg d2]
      simp only [f83, x_seq, x_block, x_skip, x_label, x_cond, x_exit, x_goto, x_ret, k_normal, k_exit, k_goto, k_ret, b_normal, b_exit, b_goto, b_ret, wantedA, aop, ev, putA, List.length_cons, List.length_nil, List.replicate, List.cons_append, List.nil_append, List.append_nil, List.append_assoc, gs_same, gs_ne, gq_same, gq_ne, List.length_set, List.map_cons, List.map_nil, cellsOf, List.all_cons, List.all_nil, cellOk, boxTy, Bool.and_true, Bool.and_self, if_true, ite_true, ite_false, loadAt, storeAt, setAt, hget, hget0, hset, hset0, List.getElem?_cons_zero, List.getElem?_cons_succ, List.set_cons_zero, List.set_cons_succ, Nat.add_zero, Nat.zero_add, Nat.reduceAdd, Nat.reduceSub, Nat.reduceLeDiff, Nat.reduceLT, Nat.reduceEqDiff, Nat.le_refl, and_self, and_true, true_and, mkAgg, toIms, List.drop_zero, List.drop_succ_cons, List.take_succ_cons, List.take_zero, List.length_append, binBool, unA, Bool.false_eq_true, if_false, partA, fillA, fillE, List.take_nil, Nat.zero_ne_one, Nat.one_ne_zero, not_false_eq_true, ne_eq, Nat.succ_ne_self, reduceCtorEq, Int.reduceEq, Int.reduceLT, Int.reduceLE, decide_true, decide_false, lenA, beq_self_eq_true, beq_true, beq_false, Bool.not_true, Bool.not_false, b_lss, b_gtr, b_leq, b_geq, b_eql, b_neq, b_add, b_sub, b_mul, s_eql, s_neq, y_ops, y_nil, y_cons, y_guard, y_some, y_drop, y_do, y_not, y_not0, c_call, c_clo, c_move, c_pick, c_alloc, c_box, c_build, c_bslice, c_load, c_store, c_nilCheck, c_bin, c_binB, c_un, c_i2i, c_i2f, c_f2i, c_s2b, c_b2s, c_strId, c_mkfunc, c_mkslice, c_slice, c_sliceStr, c_fieldAddr, c_field, c_indexSl, c_indexArr, c_elemArr, c_indexStr, c_extract, c_lenStr, c_lenSl, c_append, c_real, c_imag, c_complex, c_min, c_max, c_clear, endK, resA, tupA, hlen, h0, h1, c1, c2, e1, e2, leave_same]

theorem s106 {x : Nat} {n : Int} (h : isF x n) (H : Heap) : L 106 [.im (.flt .f64 x)] H = some (.im (.bool false), H) := by
  have hd := fl_neq h h
  have e : decide (n ≠ n) = false := by simp
  rw [e] at hd
  rw [leq F106]
  obtain ⟨hlen, hg⟩ := enter_at (f := f106) (args := [.im (.flt .f64 x)]) (Nat.le_of_ble_eq_true rfl)
  have h0 := hg 0 _ rfl
  generalize enterA f106 [.im (.flt .f64 x)] = tm at *
  change tm.length = 6 at hlen
  simp only [f106, x_seq, x_block, x_skip, x_label, x_cond, x_exit, x_goto, x_ret, k_normal, k_exit, k_goto, k_ret, b_normal, b_exit, b_goto, b_ret, wantedA, aop, ev, putA, List.length_cons, List.length_nil, List.replicate, List.cons_append, List.nil_append, List.append_nil, List.append_assoc, gs_same, gs_ne, gq_same, gq_ne, List.length_set, List.map_cons, List.map_nil, cellsOf, List.all_cons, List.all_nil, cellOk, boxTy, Bool.and_true, Bool.and_self, if_true, ite_true, ite_false, loadAt, storeAt, setAt, hget, hget0, hset, hset0, List.getElem?_cons_zero, List.getElem?_cons_succ, List.set_cons_zero, List.set_cons_succ, Nat.add_zero, Nat.zero_add, Nat.reduceAdd, Nat.reduceSub, Nat.reduceLeDiff, Nat.reduceLT, Nat.reduceEqDiff, Nat.le_refl, and_self, and_true, true_and, mkAgg, toIms, List.drop_zero, List.drop_succ_cons, List.take_succ_cons, List.take_zero, List.length_append, binBool, unA, Bool.false_eq_true, if_false, partA, fillA, fillE, List.take_nil, Nat.zero_ne_one, Nat.one_ne_zero, not_false_eq_true, ne_eq, Nat.succ_ne_self, reduceCtorEq, Int.reduceEq, Int.reduceLT, Int.reduceLE, decide_true, decide_false, lenA, beq_self_eq_true, beq_true, beq_false, Bool.not_true, Bool.not_false, b_lss, b_gtr, b_leq, b_geq, b_eql, b_neq, b_add, b_sub, b_mul, s_eql, s_neq, y_ops, y_nil, y_cons, y_guard, y_some, y_drop, y_do, y_not, y_not0, c_call, c_clo, c_move, c_pick, c_alloc, c_box, c_build, c_bslice, c_load, c_store, c_nilCheck, c_bin, c_binB, c_un, c_i2i, c_i2f, c_f2i, c_s2b, c_b2s, c_strId, c_mkfunc, c_mkslice, c_slice, c_sliceStr, c_fieldAddr, c_field, c_indexSl, c_indexArr, c_elemArr, c_indexStr, c_extract, c_lenStr, c_lenSl, c_append, c_real, c_imag, c_complex, c_min, c_max, c_clear, endK, resA, tupA, hlen, h0, hd, leave_same]

theorem s85 {x y : Nat} {a b : Int} (hx : isF x a) (hy : isF y b) (H : Heap) : L 85 [.im (.flt .f64 x), .im (.flt .f64 y)] H = some (.im (.int .i64 (cmpI a b)), H) := by
  have c1 := fun H => s106 hx H
  have c2 := fun H => s106 hy H
  have o1 := fl_lss hx hy
  have o2 := fl_gtr hx hy
  rw [leq F85]
  obtain ⟨hlen, hg⟩ := enter_at (f := f85) (args := [.im (.flt .f64 x), .im (.flt .f64 y)]) (Nat.le_of_ble_eq_true rfl)
  have h0 := hg 0 _ rfl
  have h1 := hg 1 _ rfl
  generalize enterA f85 [.im (.flt .f64 x), .im (.flt .f64 y)] = tm at *
  change tm.length = 20 at hlen
  unfold cmpI
  by_cases d1 : a < b
  · have e1 : decide (a < b) = true := decide_eq_true d1
    rw [if_pos d1]
    simp only [f85, x_seq, x_block, x_skip, x_label, x_cond, x_exit, x_goto, x_ret, k_normal, k_exit, k_goto, k_ret, b_normal, b_exit, b_goto, b_ret, wantedA, aop, ev, putA, List.length_cons, List.length_nil, List.replicate, List.cons_append, List.nil_append, List.append_nil, List.append_assoc, gs_same, gs_ne, gq_same, gq_ne, List.length_set, List.map_cons, List.map_nil, cellsOf, List.all_cons, List.all_nil, cellOk, boxTy, Bool.and_true, Bool.and_self, if_true, ite_true, ite_false, loadAt, storeAt, setAt, hget, hget0, hset, hset0, List.getElem?_cons_zero, List.getElem?_cons_succ, List.set_cons_zero, List.set_cons_succ, Nat.add_zero, Nat.zero_add, Nat.reduceAdd, Nat.reduceSub, Nat.reduceLeDiff, Nat.reduceLT, Nat.reduceEqDiff, Nat.le_refl, and_self, and_true, true_and, mkAgg, toIms, List.drop_zero, List.drop_succ_cons, List.take_succ_cons, List.take_zero, List.length_append, binBool, unA, Bool.false_eq_true, if_false, partA, fillA, fillE, List.take_nil, Nat.zero_ne_one, Nat.one_ne_zero, not_false_eq_true, ne_eq, Nat.succ_ne_self, reduceCtorEq, Int.reduceEq, Int.reduceLT, Int.reduceLE, decide_true, decide_false, lenA, beq_self_eq_true, beq_true, beq_false, Bool.not_true, Bool.not_false, b_lss, b_gtr, b_leq, b_geq, b_eql, b_neq, b_add, b_sub, b_mul, s_eql, s_neq, y_ops, y_nil, y_cons, y_guard, y_some, y_drop, y_do, y_not, y_not0, c_call, c_clo, c_move, c_pick, c_alloc, c_box, c_build, c_bslice, c_load, c_store, c_nilCheck, c_bin, c_binB, c_un, c_i2i, c_i2f, c_f2i, c_s2b, c_b2s, c_strId, c_mkfunc, c_mkslice, c_slice, c_sliceStr, c_fieldAddr, c_field, c_indexSl, c_indexArr, c_elemArr, c_indexStr, c_extract, c_lenStr, c_lenSl, c_append, c_real, c_imag, c_complex, c_min, c_max, c_clear, endK, resA, tupA, hlen, h0, h1, c1, c2, o1, o2, e1, leave_same]
  · have e1 : decide (a < b) = false := decide_eq_false d1
    rw [if_neg d1]
    by_cases d2 : b < a
    · have e2 : decide (b < a) = true := decide_eq_true d2
      rw [if_pos d2]
      simp only [f85, x_seq, x_block, x_skip, x_label, x_cond, x_exit, x_goto, x_ret, k_normal, k_exit, k_goto, k_ret, b_normal, b_exit, b_goto, b_ret, wantedA, aop, ev, putA, List.length_cons, List.length_nil, List.replicate, List.cons_append, List.nil_append, List.append_nil, List.append_assoc, gs_same, gs_ne, gq_same, gq_ne, List.length_set, List.map_cons, List.map_nil, cellsOf, List.all_cons, List.all_nil, cellOk, boxTy, Bool.and_true, Bool.and_self, if_true, ite_true, ite_false, loadAt, storeAt, setAt, hget, hget0, hset, hset0, List.getElem?_cons_zero, List.getElem?_cons_succ, List.set_cons_zero, List.set_cons_succ, Nat.add_zero, Nat.zero_add, Nat.reduceAdd, Nat.reduceSub, Nat.reduceLeDiff, Nat.reduceLT, Nat.reduceEqDiff, Nat.le_refl, and_self, and_true, true_and, mkAgg, toIms, List.drop_zero, List.drop_succ_cons, List.take_succ_cons, List.take_zero, List.length_append, binBool, unA, Bool.false_eq_true, if_false, partA, fillA, fillE, List.take_nil, Nat.zero_ne_one, Nat.one_ne_zero, not_false_eq_true, ne_eq, Nat.succ_ne_self, reduceCtorEq, Int.reduceEq, Int.reduceLT, Int.reduceLE, decide_true, decide_false, lenA, beq_self_eq_true, beq_true, beq_false, Bool.not_true, Bool.not_false, b_lss, b_gtr, b_leq, b_geq, b_eql, b_neq, b_add, b_sub, b_mul, s_eql, s_neq, y_ops, y_nil, y_cons, y_guard, y_some, y_drop, y_do, y_not, y_not0, c_call, c_clo, c_move, c_pick, c_alloc, c_box, c_build, c_bslice, c_load, c_store, c_nilCheck, c_bin, c_binB, c_un, c_i2i, c_i2f, c_f2i, c_s2b, c_b2s, c_strId, c_mkfunc, c_mkslice, c_slice, c_sliceStr, c_fieldAddr, c_field, c_indexSl, c_indexArr, c_elemArr, c_indexStr, c_extract, c_lenStr, c_lenSl, c_append, c_real, c_imag, c_complex, c_min, c_max, c_clear, endK, resA, tupA, hlen, h0, h1, c1, c2, o1, o2, e1, e2, leave_same]
    · have e2 : decide (b < a) = false := decide_eq_false d2
      rw [if_neg d2]
      simp only [f85, x_seq, x_block, x_skip, x_label, x_cond, x_exit, x_goto, x_ret, k_normal, k_exit, k_goto, k_ret, b_normal, b_exit, b_goto, b_ret, wantedA, aop, ev, putA, List.length_cons, List.length_nil, List.replicate, List.cons_append, List.nil_append, List.append_nil, List.append_assoc, gs_same, gs_ne, gq_same, gq_ne, List.length_set, List.map_cons, List.map_nil, cellsOf, List.all_cons, List.all_nil, cellOk, boxTy, Bool.and_true, Bool.and_self, if_true, ite_true, ite_false, loadAt, storeAt, setAt, hget, hget0, hset, hset0, List.getElem?_cons_zero, List.getElem?_cons_succ, List.set_cons_zero, List.set_cons_succ, Nat.add_zero, Nat.zero_add, Nat.reduceAdd, Nat.reduceSub, Nat.reduceLeDiff, Nat.reduceLT, Nat.reduceEqDiff, Nat.le_refl, and_self, and_true, true_and, mkAgg, toIms, List.drop_zero, List.drop_succ_cons, List.take_succ_cons, List.take_zero, List.length_append, binBool, unA, Bool.false_eq_true, if_false, partA, fillA, fillE, List.take_nil, Nat.zero_ne_one, Nat.one_ne_zero, not_false_eq_true, ne_eq, Nat.succ_ne_self, reduceCtorEq, Int.reduceEq, Int.reduceLT, Int.reduceLE, decide_true, decide_false, lenA, beq_self_eq_true, beq_true, beq_false, Bool.not_true, Bool.not_false, b_lss, b_gtr, b_leq, b_geq, b_eql, b_neq, b_add, b_sub, b_mul, s_eql, s_neq, y_ops, y_nil, y_cons, y_guard, y_some, y_drop, y_do, y_not, y_not0, c_call, c_clo, c_move, c_pick, c_alloc, c_box, c_build, c_bslice, c_load, c_store, c_nilCheck, c_bin, c_binB, c_un, c_i2i, c_i2f, c_f2i, c_s2b, c_b2s, c_strId, c_mkfunc, c_mkslice, c_slice, c_sliceStr, c_fieldAddr, c_field, c_indexSl, c_indexArr, c_elemArr, c_indexStr, c_extract, c_lenStr, c_lenSl, c_append, c_real, c_imag, c_complex, c_min, c_max, c_clear, endK, resA, tupA, hlen, h0, h1, c1, c2, o1, o2, e1, e2, leave_same]

theorem L105 (args : List AV) (H : Heap) : L 105 args H = cmpO 105 (bldA 101 49 94 5) 105 args H := by
  have h : F 105 = none := by kernel_rfl
  exact lim_none h args H

theorem s105 (a b : List UInt8) (H : Heap) : L 105 [.im (.str a), .im (.str b)] H = some (.im (.int .i64 (Lib.compareBytes a b)), H) := by
  rw [L105]; rfl

theorem s84 (a b : List UInt8) (H : Heap) : L 84 [.im (.str a), .im (.str b)] H = some (.im (.int .i64 (Lib.compareBytes a b)), H) := by
  have c1 := fun H => s105 a b H
  rw [leq F84]
  obtain ⟨hlen, hg⟩ := enter_at (f := f84) (args := [.im (.str a), .im (.str b)]) (Nat.le_of_ble_eq_true rfl)
  have h0 := hg 0 _ rfl
  have h1 := hg 1 _ rfl
  generalize enterA f84 [.im (.str a), .im (.str b)] = tm at *
  change tm.length = 8 at hlen
  simp only [f84, x_seq, x_block, x_skip, x_label, x_cond, x_exit, x_goto, x_ret, k_normal, k_exit, k_goto, k_ret, b_normal, b_exit, b_goto, b_ret, wantedA, aop, ev, putA, List.length_cons, List.length_nil, List.replicate, List.cons_append, List.nil_append, List.append_nil, List.append_assoc, gs_same, gs_ne, gq_same, gq_ne, List.length_set, List.map_cons, List.map_nil, cellsOf, List.all_cons, List.all_nil, cellOk, boxTy, Bool.and_true, Bool.and_self, if_true, ite_true, ite_false, loadAt, storeAt, setAt, hget, hget0, hset, hset0, List.getElem?_cons_zero, List.getElem?_cons_succ, List.set_cons_zero, List.set_cons_succ, Nat.add_zero, Nat.zero_add, Nat.reduceAdd, Nat.reduceSub, Nat.reduceLeDiff, Nat.reduceLT, Nat.reduceEqDiff, Nat.le_refl, and_self, and_true, true_and, mkAgg, toIms, List.drop_zero, List.drop_succ_cons, List.take_succ_cons, List.take_zero, List.length_append, binBool, unA, Bool.false_eq_true, if_false, partA, fillA, fillE, List.take_nil, Nat.zero_ne_one, Nat.one_ne_zero, not_false_eq_true, ne_eq, Nat.succ_ne_self, reduceCtorEq, Int.reduceEq, Int.reduceLT, Int.reduceLE, decide_true, decide_false, lenA, beq_self_eq_true, beq_true, beq_false, Bool.not_true, Bool.not_false, b_lss, b_gtr, b_leq, b_geq, b_eql, b_neq, b_add, b_sub, b_mul, s_eql, s_neq, y_ops, y_nil, y_cons, y_guard, y_some, y_drop, y_do, y_not, y_not0, c_call, c_clo, c_move, c_pick, c_alloc, c_box, c_build, c_bslice, c_load, c_store, c_nilCheck, c_bin, c_binB, c_un, c_i2i, c_i2f, c_f2i, c_s2b, c_b2s, c_strId, c_mkfunc, c_mkslice, c_slice, c_sliceStr, c_fieldAddr, c_field, c_indexSl, c_indexArr, c_elemArr, c_indexStr, c_extract, c_lenStr, c_lenSl, c_append, c_real, c_imag, c_complex, c_min, c_max, c_clear, endK, resA, tupA, hlen, h0, h1, c1, leave_same]

/-- The first that is not nought. -/
def orZ : List Int → Int
  | [] => 0
  | a :: l => if a = 0 then orZ l else a

theorem l82 (l : List Int) (hl : l.length ≤ 1000) (H : Heap) :
    ∀ (k i : Nat) (tm : List AV), i + k = l.length → tm.length = 18 → tm.getD 3 undefA = .im (.int .i64 0) → tm.getD 6 undefA = .im (.sl 1 (l.map fun x => [.int .i64 x])) → tm.getD 7 undefA = .im (.int .i64 (l.length : Int)) → tm.getD 8 undefA = .im (.int .i64 (i : Int)) →
    ∃ e tm' H', Λ c82_0 tm H = some (e, tm', H') ∧ (tm'.length = 18 ∧ H' = H ∧ ((e = .exit 0 ∧ tm'.getD 3 undefA = .im (.int .i64 0) ∧ orZ (l.drop i) = 0) ∨ (e = .ret ∧ tm'.getD 2 undefA = .im (.int .i64 (orZ (l.drop i))))))
  | 0, i, tm, hk, hlen, h3, h6, h7, h8 => by
    have hc : decide ((i : Int) < (l.length : Int)) = false := decide_eq_false (by omega)
    rw [l82_0]
    simp only [b82_0, x_seq, x_block, x_skip, x_label, x_cond, x_exit, x_goto, x_ret, k_normal, k_exit, k_goto, k_ret, b_normal, b_exit, b_goto, b_ret, wantedA, aop, ev, putA, List.length_cons, List.length_nil, List.replicate, List.cons_append, List.nil_append, List.append_nil, List.append_assoc, gs_same, gs_ne, gq_same, gq_ne, List.length_set, List.map_cons, List.map_nil, cellsOf, List.all_cons, List.all_nil, cellOk, boxTy, Bool.and_true, Bool.and_self, if_true, ite_true, ite_false, loadAt, storeAt, setAt, hget, hget0, hset, hset0, List.getElem?_cons_zero, List.getElem?_cons_succ, List.set_cons_zero, List.set_cons_succ, Nat.add_zero, Nat.zero_add, Nat.reduceAdd, Nat.reduceSub, Nat.reduceLeDiff, Nat.reduceLT, Nat.reduceEqDiff, Nat.le_refl, and_self, and_true, true_and, mkAgg, toIms, List.drop_zero, List.drop_succ_cons, List.take_succ_cons, List.take_zero, List.length_append, binBool, unA, Bool.false_eq_true, if_false, partA, fillA, fillE, List.take_nil, Nat.zero_ne_one, Nat.one_ne_zero, not_false_eq_true, ne_eq, Nat.succ_ne_self, reduceCtorEq, Int.reduceEq, Int.reduceLT, Int.reduceLE, decide_true, decide_false, lenA, beq_self_eq_true, beq_true, beq_false, Bool.not_true, Bool.not_false, b_lss, b_gtr, b_leq, b_geq, b_eql, b_neq, b_add, b_sub, b_mul, s_eql, s_neq, y_ops, y_nil, y_cons, y_guard, y_some, y_drop, y_do, y_not, y_not0, c_call, c_clo, c_move, c_pick, c_alloc, c_box, c_build, c_bslice, c_load, c_store, c_nilCheck, c_bin, c_binB, c_un, c_i2i, c_i2f, c_f2i, c_s2b, c_b2s, c_strId, c_mkfunc, c_mkslice, c_slice, c_sliceStr, c_fieldAddr, c_field, c_indexSl, c_indexArr, c_elemArr, c_indexStr, c_extract, c_lenStr, c_lenSl, c_append, c_real, c_imag, c_complex, c_min, c_max, c_clear, hlen, h7, h8, hc]
    refine ⟨_, _, _, rfl, by simp only [List.length_set, hlen], rfl, .inl ⟨rfl, by simp only [gs_same, gs_ne, List.length_set, Nat.reduceLT, Nat.reduceEqDiff, not_false_eq_true, hlen, h3], ?_⟩⟩
    rw [List.drop_of_length_le (by omega)]; rfl
  | k + 1, i, tm, hk, hlen, h3, h6, h7, h8 => by
    have hlt : i < l.length := by omega
    have hc : decide ((i : Int) < (l.length : Int)) = true := decide_eq_true (by omega)
    obtain ⟨p, hp⟩ : ∃ p, l[i]? = some p := ⟨l[i], by simp [hlt]⟩
    have hg : (l.map fun x => [Dat.int .i64 x])[i]? = some [.int .i64 p] := by rw [List.getElem?_map, hp]; rfl
    have hd : l.drop i = p :: l.drop (i + 1) := by
      rw [List.getElem?_eq_getElem hlt] at hp; injection hp with hp
      rw [← hp]; exact List.drop_eq_getElem_cons hlt
    have hix := idx_nat (n := l.length) (i := i) hlt
    have hwr := wrap_nat (i := i) (by omega)
    have key := fun tm1 => l82 l hl H k (i + 1) tm1 (by omega)
    rw [hd]
    by_cases h0 : p = 0
    · have hz : decide (p = 0) = true := decide_eq_true h0
      have ho : orZ (p :: l.drop (i + 1)) = orZ (l.drop (i + 1)) := by rw [orZ, if_pos h0]
      rw [ho]
      rw [l82_0]
      simp only [b82_0, x_seq, x_block, x_skip, x_label, x_cond, x_exit, x_goto, x_ret, k_normal, k_exit, k_goto, k_ret, b_normal, b_exit, b_goto, b_ret, wantedA, aop, ev, putA, List.length_cons, List.length_nil, List.replicate, List.cons_append, List.nil_append, List.append_nil, List.append_assoc, gs_same, gs_ne, gq_same, gq_ne, List.length_set, List.map_cons, List.map_nil, cellsOf, List.all_cons, List.all_nil, cellOk, boxTy, Bool.and_true, Bool.and_self, if_true, ite_true, ite_false, loadAt, storeAt, setAt, hget, hget0, hset, hset0, List.getElem?_cons_zero, List.getElem?_cons_succ, List.set_cons_zero, List.set_cons_succ, Nat.add_zero, Nat.zero_add, Nat.reduceAdd, Nat.reduceSub, Nat.reduceLeDiff, Nat.reduceLT, Nat.reduceEqDiff, Nat.le_refl, and_self, and_true, true_and, mkAgg, toIms, List.drop_zero, List.drop_succ_cons, List.take_succ_cons, List.take_zero, List.length_append, binBool, unA, Bool.false_eq_true, if_false, partA, fillA, fillE, List.take_nil, Nat.zero_ne_one, Nat.one_ne_zero, not_false_eq_true, ne_eq, Nat.succ_ne_self, reduceCtorEq, Int.reduceEq, Int.reduceLT, Int.reduceLE, decide_true, decide_false, lenA, beq_self_eq_true, beq_true, beq_false, Bool.not_true, Bool.not_false, b_lss, b_gtr, b_leq, b_geq, b_eql, b_neq, b_add, b_sub, b_mul, s_eql, s_neq, y_ops, y_nil, y_cons, y_guard, y_some, y_drop, y_do, y_not, y_not0, c_call, c_clo, c_move, c_pick, c_alloc, c_box, c_build, c_bslice, c_load, c_store, c_nilCheck, c_bin, c_binB, c_un, c_i2i, c_i2f, c_f2i, c_s2b, c_b2s, c_strId, c_mkfunc, c_mkslice, c_slice, c_sliceStr, c_fieldAddr, c_field, c_indexSl, c_indexArr, c_elemArr, c_indexStr, c_extract, c_lenStr, c_lenSl, c_append, c_real, c_imag, c_complex, c_min, c_max, c_clear, hlen, h3, h6, h7, h8, hc, hix, hg, List.length_map, hz, hwr]
      refine ex_imp (key _ ?_ ?_ ?_ ?_ ?_) fun _ _ _ q => q
      all_goals simp only [gs_same, gs_ne, List.length_set, Nat.reduceLT, Nat.reduceEqDiff, not_false_eq_true, hlen, h3, h6, h7]
    · have hz : decide (p = 0) = false := decide_eq_false h0
      have ho : orZ (p :: l.drop (i + 1)) = p := by rw [orZ, if_neg h0]
      rw [ho]
      rw [l82_0]
      simp only [b82_0, x_seq, x_block, x_skip, x_label, x_cond, x_exit, x_goto, x_ret, k_normal, k_exit, k_goto, k_ret, b_normal, b_exit, b_goto, b_ret, wantedA, aop, ev, putA, List.length_cons, List.length_nil, List.replicate, List.cons_append, List.nil_append, List.append_nil, List.append_assoc, gs_same, gs_ne, gq_same, gq_ne, List.length_set, List.map_cons, List.map_nil, cellsOf, List.all_cons, List.all_nil, cellOk, boxTy, Bool.and_true, Bool.and_self, if_true, ite_true, ite_false, loadAt, storeAt, setAt, hget, hget0, hset, hset0, List.getElem?_cons_zero, List.getElem?_cons_succ, List.set_cons_zero, List.set_cons_succ, Nat.add_zero, Nat.zero_add, Nat.reduceAdd, Nat.reduceSub, Nat.reduceLeDiff, Nat.reduceLT, Nat.reduceEqDiff, Nat.le_refl, and_self, and_true, true_and, mkAgg, toIms, List.drop_zero, List.drop_succ_cons, List.take_succ_cons, List.take_zero, List.length_append, binBool, unA, Bool.false_eq_true, if_false, partA, fillA, fillE, List.take_nil, Nat.zero_ne_one, Nat.one_ne_zero, not_false_eq_true, ne_eq, Nat.succ_ne_self, reduceCtorEq, Int.reduceEq, Int.reduceLT, Int.reduceLE, decide_true, decide_false, lenA, beq_self_eq_true, beq_true, beq_false, Bool.not_true, Bool.not_false, b_lss, b_gtr, b_leq, b_geq, b_eql, b_neq, b_add, b_sub, b_mul, s_eql, s_neq, y_ops, y_nil, y_cons, y_guard, y_some, y_drop, y_do, y_not, y_not0, c_call, c_clo, c_move, c_pick, c_alloc, c_box, c_build, c_bslice, c_load, c_store, c_nilCheck, c_bin, c_binB, c_un, c_i2i, c_i2f, c_f2i, c_s2b, c_b2s, c_strId, c_mkfunc, c_mkslice, c_slice, c_sliceStr, c_fieldAddr, c_field, c_indexSl, c_indexArr, c_elemArr, c_indexStr, c_extract, c_lenStr, c_lenSl, c_append, c_real, c_imag, c_complex, c_min, c_max, c_clear, hlen, h3, h6, h7, h8, hc, hix, hg, List.length_map, hz, hwr]
      exact ⟨_, _, _, rfl, by simp only [List.length_set, hlen], rfl, .inr ⟨rfl, by simp only [gs_same, gs_ne, List.length_set, Nat.reduceLT, Nat.reduceEqDiff, not_false_eq_true, hlen]⟩⟩

theorem s82 (l : List Int) (hl : l.length ≤ 1000) (H : Heap) : L 82 [.im (.sl 1 (l.map fun x => [.int .i64 x]))] H = some (.im (.int .i64 (orZ l)), H) := by
  have key := fun tm1 => l82 l hl H l.length 0 tm1 (by omega)
  simp only [zc0] at key
  rw [leq F82]
  obtain ⟨hlen, hg⟩ := enter_at (f := f82) (args := [.im (.sl 1 (l.map fun x => [.int .i64 x]))]) (Nat.le_of_ble_eq_true rfl)
  have h0 := hg 0 _ rfl
  generalize enterA f82 [.im (.sl 1 (l.map fun x => [.int .i64 x]))] = tm at *
  change tm.length = 18 at hlen
  simp only [f82, e82_0, x_seq, x_block, x_skip, x_label, x_cond, x_exit, x_goto, x_ret, k_normal, k_exit, k_goto, k_ret, b_normal, b_exit, b_goto, b_ret, wantedA, aop, ev, putA, List.length_cons, List.length_nil, List.replicate, List.cons_append, List.nil_append, List.append_nil, List.append_assoc, gs_same, gs_ne, gq_same, gq_ne, List.length_set, List.map_cons, List.map_nil, cellsOf, List.all_cons, List.all_nil, cellOk, boxTy, Bool.and_true, Bool.and_self, if_true, ite_true, ite_false, loadAt, storeAt, setAt, hget, hget0, hset, hset0, List.getElem?_cons_zero, List.getElem?_cons_succ, List.set_cons_zero, List.set_cons_succ, Nat.add_zero, Nat.zero_add, Nat.reduceAdd, Nat.reduceSub, Nat.reduceLeDiff, Nat.reduceLT, Nat.reduceEqDiff, Nat.le_refl, and_self, and_true, true_and, mkAgg, toIms, List.drop_zero, List.drop_succ_cons, List.take_succ_cons, List.take_zero, List.length_append, binBool, unA, Bool.false_eq_true, if_false, partA, fillA, fillE, List.take_nil, Nat.zero_ne_one, Nat.one_ne_zero, not_false_eq_true, ne_eq, Nat.succ_ne_self, reduceCtorEq, Int.reduceEq, Int.reduceLT, Int.reduceLE, decide_true, decide_false, lenA, beq_self_eq_true, beq_true, beq_false, Bool.not_true, Bool.not_false, b_lss, b_gtr, b_leq, b_geq, b_eql, b_neq, b_add, b_sub, b_mul, s_eql, s_neq, y_ops, y_nil, y_cons, y_guard, y_some, y_drop, y_do, y_not, y_not0, c_call, c_clo, c_move, c_pick, c_alloc, c_box, c_build, c_bslice, c_load, c_store, c_nilCheck, c_bin, c_binB, c_un, c_i2i, c_i2f, c_f2i, c_s2b, c_b2s, c_strId, c_mkfunc, c_mkslice, c_slice, c_sliceStr, c_fieldAddr, c_field, c_indexSl, c_indexArr, c_elemArr, c_indexStr, c_extract, c_lenStr, c_lenSl, c_append, c_real, c_imag, c_complex, c_min, c_max, c_clear, hlen, h0, lenA_sl', List.length_map]
  generalize hr : thenL (Λ c82_0 _ _) _ = r
  refine Exists.elim (thenL_inv hr (key _ ?_ ?_ ?_ ?_ ?_)) ?_
  iterate 5 simp only [gs_same, gs_ne, List.length_set, Nat.reduceLT, Nat.reduceEqDiff, not_false_eq_true, hlen, h0]
  clear hr key
  rintro e ⟨tm1, H1, ⟨g1, rfl, g⟩, rfl⟩
  simp only [List.drop_zero] at g
  rcases g with ⟨rfl, g3, g4⟩ | ⟨rfl, g3⟩
  · simp only [x_seq, x_block, x_skip, x_label, x_cond, x_exit, x_goto, x_ret, k_normal, k_exit, k_goto, k_ret, b_normal, b_exit, b_goto, b_ret, wantedA, aop, ev, putA, List.length_cons, List.length_nil, List.replicate, List.cons_append, List.nil_append, List.append_nil, List.append_assoc, gs_same, gs_ne, gq_same, gq_ne, List.length_set, List.map_cons, List.map_nil, cellsOf, List.all_cons, List.all_nil, cellOk, boxTy, Bool.and_true, Bool.and_self, if_true, ite_true, ite_false, loadAt, storeAt, setAt, hget, hget0, hset, hset0, List.getElem?_cons_zero, List.getElem?_cons_succ, List.set_cons_zero, List.set_cons_succ, Nat.add_zero, Nat.zero_add, Nat.reduceAdd, Nat.reduceSub, Nat.reduceLeDiff, Nat.reduceLT, Nat.reduceEqDiff, Nat.le_refl, and_self, and_true, true_and, mkAgg, toIms, List.drop_zero, List.drop_succ_cons, List.take_succ_cons, List.take_zero, List.length_append, binBool, unA, Bool.false_eq_true, if_false, partA, fillA, fillE, List.take_nil, Nat.zero_ne_one, Nat.one_ne_zero, not_false_eq_true, ne_eq, Nat.succ_ne_self, reduceCtorEq, Int.reduceEq, Int.reduceLT, Int.reduceLE, decide_true, decide_false, lenA, beq_self_eq_true, beq_true, beq_false, Bool.not_true, Bool.not_false, b_lss, b_gtr, b_leq, b_geq, b_eql, b_neq, b_add, b_sub, b_mul, s_eql, s_neq, y_ops, y_nil, y_cons, y_guard, y_some, y_drop, y_do, y_not, y_not0, c_call, c_clo, c_move, c_pick, c_alloc, c_box, c_build, c_bslice, c_load, c_store, c_nilCheck, c_bin, c_binB, c_un, c_i2i, c_i2f, c_f2i, c_s2b, c_b2s, c_strId, c_mkfunc, c_mkslice, c_slice, c_sliceStr, c_fieldAddr, c_field, c_indexSl, c_indexArr, c_elemArr, c_indexStr, c_extract, c_lenStr, c_lenSl, c_append, c_real, c_imag, c_complex, c_min, c_max, c_clear, endK, resA, tupA, g1, g3, g4, leave_same]
  · simp only [x_seq, x_block, x_skip, x_label, x_cond, x_exit, x_goto, x_ret, k_normal, k_exit, k_goto, k_ret, b_normal, b_exit, b_goto, b_ret, wantedA, aop, ev, putA, List.length_cons, List.length_nil, List.replicate, List.cons_append, List.nil_append, List.append_nil, List.append_assoc, gs_same, gs_ne, gq_same, gq_ne, List.length_set, List.map_cons, List.map_nil, cellsOf, List.all_cons, List.all_nil, cellOk, boxTy, Bool.and_true, Bool.and_self, if_true, ite_true, ite_false, loadAt, storeAt, setAt, hget, hget0, hset, hset0, List.getElem?_cons_zero, List.getElem?_cons_succ, List.set_cons_zero, List.set_cons_succ, Nat.add_zero, Nat.zero_add, Nat.reduceAdd, Nat.reduceSub, Nat.reduceLeDiff, Nat.reduceLT, Nat.reduceEqDiff, Nat.le_refl, and_self, and_true, true_and, mkAgg, toIms, List.drop_zero, List.drop_succ_cons, List.take_succ_cons, List.take_zero, List.length_append, binBool, unA, Bool.false_eq_true, if_false, partA, fillA, fillE, List.take_nil, Nat.zero_ne_one, Nat.one_ne_zero, not_false_eq_true, ne_eq, Nat.succ_ne_self, reduceCtorEq, Int.reduceEq, Int.reduceLT, Int.reduceLE, decide_true, decide_false, lenA, beq_self_eq_true, beq_true, beq_false, Bool.not_true, Bool.not_false, b_lss, b_gtr, b_leq, b_geq, b_eql, b_neq, b_add, b_sub, b_mul, s_eql, s_neq, y_ops, y_nil, y_cons, y_guard, y_some, y_drop, y_do, y_not, y_not0, c_call, c_clo, c_move, c_pick, c_alloc, c_box, c_build, c_bslice, c_load, c_store, c_nilCheck, c_bin, c_binB, c_un, c_i2i, c_i2f, c_f2i, c_s2b, c_b2s, c_strId, c_mkfunc, c_mkslice, c_slice, c_sliceStr, c_fieldAddr, c_field, c_indexSl, c_indexArr, c_elemArr, c_indexStr, c_extract, c_lenStr, c_lenSl, c_append, c_real, c_imag, c_complex, c_min, c_max, c_clear, endK, resA, tupA, g1, g3, leave_same]

theorem s86 (f : FuncId) (H : Heap) : L 86 [.im (.sl 0 []), .im (.sl 0 []), .clo f []] H = some (.im (.int .i64 0), H) := by
  rw [leq F86]
  obtain ⟨hlen, hg⟩ := enter_at (f := f86) (args := [.im (.sl 0 []), .im (.sl 0 []), .clo f []]) (Nat.le_of_ble_eq_true rfl)
  have h0 := hg 0 _ rfl
  have h1 := hg 1 _ rfl
  generalize enterA f86 [.im (.sl 0 []), .im (.sl 0 []), .clo f []] = tm at *
  change tm.length = 39 at hlen
  have key : ∀ (tm : List AV) (H : Heap), tm.length = 39 → tm.getD 0 undefA = .im (.sl 0 []) → tm.getD 1 undefA = .im (.sl 0 []) → tm.getD 12 undefA = .im (.int .i64 0) → tm.getD 13 undefA = .im (.int .i64 0) →
      ∃ e tm' H', Λ c86_0 tm H = some (e, tm', H') ∧ (e = .exit 0 ∧ tm'.length = 39 ∧ tm'.getD 0 undefA = .im (.sl 0 []) ∧ tm'.getD 1 undefA = .im (.sl 0 []) ∧ H' = H) := by
    intro tm H hlen h0 h1 h12 h13
    rw [l86_0]
    simp only [b86_0, x_seq, x_block, x_skip, x_label, x_cond, x_exit, x_goto, x_ret, k_normal, k_exit, k_goto, k_ret, b_normal, b_exit, b_goto, b_ret, wantedA, aop, ev, putA, List.length_cons, List.length_nil, List.replicate, List.cons_append, List.nil_append, List.append_nil, List.append_assoc, gs_same, gs_ne, gq_same, gq_ne, List.length_set, List.map_cons, List.map_nil, cellsOf, List.all_cons, List.all_nil, cellOk, boxTy, Bool.and_true, Bool.and_self, if_true, ite_true, ite_false, loadAt, storeAt, setAt, hget, hget0, hset, hset0, List.getElem?_cons_zero, List.getElem?_cons_succ, List.set_cons_zero, List.set_cons_succ, Nat.add_zero, Nat.zero_add, Nat.reduceAdd, Nat.reduceSub, Nat.reduceLeDiff, Nat.reduceLT, Nat.reduceEqDiff, Nat.le_refl, and_self, and_true, true_and, mkAgg, toIms, List.drop_zero, List.drop_succ_cons, List.take_succ_cons, List.take_zero, List.length_append, binBool, unA, Bool.false_eq_true, if_false, partA, fillA, fillE, List.take_nil, Nat.zero_ne_one, Nat.one_ne_zero, not_false_eq_true, ne_eq, Nat.succ_ne_self, reduceCtorEq, Int.reduceEq, Int.reduceLT, Int.reduceLE, decide_true, decide_false, lenA, beq_self_eq_true, beq_true, beq_false, Bool.not_true, Bool.not_false, b_lss, b_gtr, b_leq, b_geq, b_eql, b_neq, b_add, b_sub, b_mul, s_eql, s_neq, y_ops, y_nil, y_cons, y_guard, y_some, y_drop, y_do, y_not, y_not0, c_call, c_clo, c_move, c_pick, c_alloc, c_box, c_build, c_bslice, c_load, c_store, c_nilCheck, c_bin, c_binB, c_un, c_i2i, c_i2f, c_f2i, c_s2b, c_b2s, c_strId, c_mkfunc, c_mkslice, c_slice, c_sliceStr, c_fieldAddr, c_field, c_indexSl, c_indexArr, c_elemArr, c_indexStr, c_extract, c_lenStr, c_lenSl, c_append, c_real, c_imag, c_complex, c_min, c_max, c_clear, hlen, h12, h13]
    exact ⟨_, _, _, rfl, rfl, by simp only [List.length_set, hlen], by simp only [gs_same, gs_ne, List.length_set, Nat.reduceLT, Nat.reduceEqDiff, not_false_eq_true, hlen, h0], by simp only [gs_same, gs_ne, List.length_set, Nat.reduceLT, Nat.reduceEqDiff, not_false_eq_true, hlen, h1], rfl⟩
  simp only [f86, e86_0, x_seq, x_block, x_skip, x_label, x_cond, x_exit, x_goto, x_ret, k_normal, k_exit, k_goto, k_ret, b_normal, b_exit, b_goto, b_ret, wantedA, aop, ev, putA, List.length_cons, List.length_nil, List.replicate, List.cons_append, List.nil_append, List.append_nil, List.append_assoc, gs_same, gs_ne, gq_same, gq_ne, List.length_set, List.map_cons, List.map_nil, cellsOf, List.all_cons, List.all_nil, cellOk, boxTy, Bool.and_true, Bool.and_self, if_true, ite_true, ite_false, loadAt, storeAt, setAt, hget, hget0, hset, hset0, List.getElem?_cons_zero, List.getElem?_cons_succ, List.set_cons_zero, List.set_cons_succ, Nat.add_zero, Nat.zero_add, Nat.reduceAdd, Nat.reduceSub, Nat.reduceLeDiff, Nat.reduceLT, Nat.reduceEqDiff, Nat.le_refl, and_self, and_true, true_and, mkAgg, toIms, List.drop_zero, List.drop_succ_cons, List.take_succ_cons, List.take_zero, List.length_append, binBool, unA, Bool.false_eq_true, if_false, partA, fillA, fillE, List.take_nil, Nat.zero_ne_one, Nat.one_ne_zero, not_false_eq_true, ne_eq, Nat.succ_ne_self, reduceCtorEq, Int.reduceEq, Int.reduceLT, Int.reduceLE, decide_true, decide_false, lenA, beq_self_eq_true, beq_true, beq_false, Bool.not_true, Bool.not_false, b_lss, b_gtr, b_leq, b_geq, b_eql, b_neq, b_add, b_sub, b_mul, s_eql, s_neq, y_ops, y_nil, y_cons, y_guard, y_some, y_drop, y_do, y_not, y_not0, c_call, c_clo, c_move, c_pick, c_alloc, c_box, c_build, c_bslice, c_load, c_store, c_nilCheck, c_bin, c_binB, c_un, c_i2i, c_i2f, c_f2i, c_s2b, c_b2s, c_strId, c_mkfunc, c_mkslice, c_slice, c_sliceStr, c_fieldAddr, c_field, c_indexSl, c_indexArr, c_elemArr, c_indexStr, c_extract, c_lenStr, c_lenSl, c_append, c_real, c_imag, c_complex, c_min, c_max, c_clear, hlen, h0, h1, lenA_sl', List.length_nil, zc0]
  generalize hr : thenL (Λ c86_0 _ _) _ = r
  refine Exists.elim (thenL_inv hr (key _ _ ?_ ?_ ?_ ?_ ?_)) ?_
  iterate 5 simp only [gs_same, gs_ne, List.length_set, Nat.reduceLT, Nat.reduceEqDiff, not_false_eq_true, hlen, h0, h1]
  clear hr key
  rintro e ⟨tm1, H1, ⟨rfl, g1, g2, g3, rfl⟩, rfl⟩
  simp only [x_seq, x_block, x_skip, x_label, x_cond, x_exit, x_goto, x_ret, k_normal, k_exit, k_goto, k_ret, b_normal, b_exit, b_goto, b_ret, wantedA, aop, ev, putA, List.length_cons, List.length_nil, List.replicate, List.cons_append, List.nil_append, List.append_nil, List.append_assoc, gs_same, gs_ne, gq_same, gq_ne, List.length_set, List.map_cons, List.map_nil, cellsOf, List.all_cons, List.all_nil, cellOk, boxTy, Bool.and_true, Bool.and_self, if_true, ite_true, ite_false, loadAt, storeAt, setAt, hget, hget0, hset, hset0, List.getElem?_cons_zero, List.getElem?_cons_succ, List.set_cons_zero, List.set_cons_succ, Nat.add_zero, Nat.zero_add, Nat.reduceAdd, Nat.reduceSub, Nat.reduceLeDiff, Nat.reduceLT, Nat.reduceEqDiff, Nat.le_refl, and_self, and_true, true_and, mkAgg, toIms, List.drop_zero, List.drop_succ_cons, List.take_succ_cons, List.take_zero, List.length_append, binBool, unA, Bool.false_eq_true, if_false, partA, fillA, fillE, List.take_nil, Nat.zero_ne_one, Nat.one_ne_zero, not_false_eq_true, ne_eq, Nat.succ_ne_self, reduceCtorEq, Int.reduceEq, Int.reduceLT, Int.reduceLE, decide_true, decide_false, lenA, beq_self_eq_true, beq_true, beq_false, Bool.not_true, Bool.not_false, b_lss, b_gtr, b_leq, b_geq, b_eql, b_neq, b_add, b_sub, b_mul, s_eql, s_neq, y_ops, y_nil, y_cons, y_guard, y_some, y_drop, y_do, y_not, y_not0, c_call, c_clo, c_move, c_pick, c_alloc, c_box, c_build, c_bslice, c_load, c_store, c_nilCheck, c_bin, c_binB, c_un, c_i2i, c_i2f, c_f2i, c_s2b, c_b2s, c_strId, c_mkfunc, c_mkslice, c_slice, c_sliceStr, c_fieldAddr, c_field, c_indexSl, c_indexArr, c_elemArr, c_indexStr, c_extract, c_lenStr, c_lenSl, c_append, c_real, c_imag, c_complex, c_min, c_max, c_clear, endK, resA, tupA, g1, g2, g3, lenA_sl', List.length_nil, zc0, leave_same]

end Go.Abs.Seat
end
section
set_option linter.unusedVariables false
set_option linter.unusedSimpArgs false
/- What the values' functions come to: two points held against one another. -/
set_option linter.unusedVariables false
set_option linter.unusedSimpArgs false
namespace Go.Abs.Seat
open Go.Proofs

/-- Two points: which one is less? -/
def cmpZ (a b : Int × Int) : Int := orZ [cmpI a.1 b.1, cmpI a.2 b.2]

theorem cmpI_eq (a b : Int) : cmpI a b = 0 ↔ a = b := by
  unfold cmpI
  split
  · constructor <;> intro h <;> omega
  · split
    · constructor <;> intro h <;> omega
    · constructor <;> intro h <;> omega

theorem cmpZ_eq (a b : Int × Int) : cmpZ a b = 0 ↔ a = b := by
  obtain ⟨a1, a2⟩ := a
  obtain ⟨b1, b2⟩ := b
  unfold cmpZ
  simp only [orZ]
  rw [Prod.mk.injEq, ← cmpI_eq a1 b1, ← cmpI_eq a2 b2]
  split
  · rename_i h
    split
    · rename_i h2; simp [h, h2]
    · rename_i h2; simp [h, h2]
  · rename_i h; simp [h]

theorem s56 {fa fb ga gb : Nat} {n m n' m' : Int} (pa : Part fa n) (pb : Part fb m) (qa : Part ga n') (qb : Part gb m') (H : Heap) : L 56 [ptA fa fb, ptA ga gb] H = some (.im (.int .i64 (cmpZ (n, m) (n', m'))), H) := by
  have c1 : ∀ H, L 83 [.im (.int .i64 5), .im (.int .i64 5)] H = some (.im (.int .i64 0), H) := fun H => s83 5 5 H
  have c2 : ∀ H, L 83 [.im (.int .i64 0), .im (.int .i64 0)] H = some (.im (.int .i64 0), H) := fun H => s83 0 0 H
  have c3 : ∀ H, L 84 [.im (.str []), .im (.str [])] H = some (.im (.int .i64 0), H) := fun H => s84 [] [] H
  have c4 : ∀ H, L 82 [.im (.sl 1 [[.int .i64 0], [.int .i64 0], [.int .i64 0]])] H = some (.im (.int .i64 0), H) := fun H => s82 [0, 0, 0] (by decide) H
  have c5 := fun H => s85 pa.is qa.is H
  have c6 := fun H => s85 pb.is qb.is H
  have c7 : ∀ a b H, L 82 [.im (.sl 1 [[.int .i64 a], [.int .i64 b]])] H = some (.im (.int .i64 (orZ [a, b])), H) := fun a b H => s82 [a, b] (by simp) H
  have c8 := fun H => s86 56 H
  have hlv : ∀ (M : Heap) (n : Int), leave H false (.im (.int .i64 n)) (H ++ M) = (.im (.int .i64 n), H) := fun M n => leave_app
  rw [leq F56]
  obtain ⟨hlen, hg⟩ := enter_at (f := f56) (args := [ptA fa fb, ptA ga gb]) (Nat.le_of_ble_eq_true rfl)
  have h0 := hg 0 _ rfl
  have h1 := hg 1 _ rfl
  generalize enterA f56 [ptA fa fb, ptA ga gb] = tm at *
  change tm.length = 51 at hlen
  unfold cmpZ
  simp only
  generalize hv : orZ [cmpI n n', cmpI m m'] = v
  have c7' : ∀ H, L 82 [.im (.sl 1 [[.int .i64 (cmpI n n')], [.int .i64 (cmpI m m')]])] H = some (.im (.int .i64 v), H) := fun H => by rw [c7, hv]
  generalize cmpI n n' = x at *
  generalize cmpI m m' = y at *
  by_cases hz : v = 0
  · have e1 : decide (v = 0) = true := decide_eq_true hz
    subst hz
    simp only [f56, x_seq, x_block, x_skip, x_label, x_cond, x_exit, x_goto, x_ret, k_normal, k_exit, k_goto, k_ret, b_normal, b_exit, b_goto, b_ret, wantedA, aop, ev, putA, List.length_cons, List.length_nil, List.replicate, List.cons_append, List.nil_append, List.append_nil, List.append_assoc, gs_same, gs_ne, gq_same, gq_ne, List.length_set, List.map_cons, List.map_nil, cellsOf, List.all_cons, List.all_nil, cellOk, boxTy, Bool.and_true, Bool.and_self, if_true, ite_true, ite_false, loadAt, storeAt, setAt, hget, hget0, hset, hset0, List.getElem?_cons_zero, List.getElem?_cons_succ, List.set_cons_zero, List.set_cons_succ, Nat.add_zero, Nat.zero_add, Nat.reduceAdd, Nat.reduceSub, Nat.reduceLeDiff, Nat.reduceLT, Nat.reduceEqDiff, Nat.le_refl, and_self, and_true, true_and, mkAgg, toIms, List.drop_zero, List.drop_succ_cons, List.take_succ_cons, List.take_zero, List.length_append, binBool, unA, Bool.false_eq_true, if_false, partA, fillA, fillE, List.take_nil, Nat.zero_ne_one, Nat.one_ne_zero, not_false_eq_true, ne_eq, Nat.succ_ne_self, reduceCtorEq, Int.reduceEq, Int.reduceLT, Int.reduceLE, decide_true, decide_false, lenA, beq_self_eq_true, beq_true, beq_false, Bool.not_true, Bool.not_false, b_lss, b_gtr, b_leq, b_geq, b_eql, b_neq, b_add, b_sub, b_mul, s_eql, s_neq, y_ops, y_nil, y_cons, y_guard, y_some, y_drop, y_do, y_not, y_not0, c_call, c_clo, c_move, c_pick, c_alloc, c_box, c_build, c_bslice, c_load, c_store, c_nilCheck, c_bin, c_binB, c_un, c_i2i, c_i2f, c_f2i, c_s2b, c_b2s, c_strId, c_mkfunc, c_mkslice, c_slice, c_sliceStr, c_fieldAddr, c_field, c_indexSl, c_indexArr, c_elemArr, c_indexStr, c_extract, c_lenStr, c_lenSl, c_append, c_real, c_imag, c_complex, c_min, c_max, c_clear, z_ops, z_nil, z_cons, z_guard, z_some, z_drop, z_do, z_not, z_not0, pairK, forall_eq_or_imp, stays, loadOf, List.reverse_cons, List.reverse_nil, List.mem_cons, List.not_mem_nil, or_false, forall_eq, true_or, or_true, Bool.true_and, endK, resA, tupA, hlen, h0, h1, toDatI, toDatI3, c1, c2, c3, c4, c5, c6, c7', c8, hlv]
  · have e1 : decide (v = 0) = false := decide_eq_false hz
    simp only [f56, x_seq, x_block, x_skip, x_label, x_cond, x_exit, x_goto, x_ret, k_normal, k_exit, k_goto, k_ret, b_normal, b_exit, b_goto, b_ret, wantedA, aop, ev, putA, List.length_cons, List.length_nil, List.replicate, List.cons_append, List.nil_append, List.append_nil, List.append_assoc, gs_same, gs_ne, gq_same, gq_ne, List.length_set, List.map_cons, List.map_nil, cellsOf, List.all_cons, List.all_nil, cellOk, boxTy, Bool.and_true, Bool.and_self, if_true, ite_true, ite_false, loadAt, storeAt, setAt, hget, hget0, hset, hset0, List.getElem?_cons_zero, List.getElem?_cons_succ, List.set_cons_zero, List.set_cons_succ, Nat.add_zero, Nat.zero_add, Nat.reduceAdd, Nat.reduceSub, Nat.reduceLeDiff, Nat.reduceLT, Nat.reduceEqDiff, Nat.le_refl, and_self, and_true, true_and, mkAgg, toIms, List.drop_zero, List.drop_succ_cons, List.take_succ_cons, List.take_zero, List.length_append, binBool, unA, Bool.false_eq_true, if_false, partA, fillA, fillE, List.take_nil, Nat.zero_ne_one, Nat.one_ne_zero, not_false_eq_true, ne_eq, Nat.succ_ne_self, reduceCtorEq, Int.reduceEq, Int.reduceLT, Int.reduceLE, decide_true, decide_false, lenA, beq_self_eq_true, beq_true, beq_false, Bool.not_true, Bool.not_false, b_lss, b_gtr, b_leq, b_geq, b_eql, b_neq, b_add, b_sub, b_mul, s_eql, s_neq, y_ops, y_nil, y_cons, y_guard, y_some, y_drop, y_do, y_not, y_not0, c_call, c_clo, c_move, c_pick, c_alloc, c_box, c_build, c_bslice, c_load, c_store, c_nilCheck, c_bin, c_binB, c_un, c_i2i, c_i2f, c_f2i, c_s2b, c_b2s, c_strId, c_mkfunc, c_mkslice, c_slice, c_sliceStr, c_fieldAddr, c_field, c_indexSl, c_indexArr, c_elemArr, c_indexStr, c_extract, c_lenStr, c_lenSl, c_append, c_real, c_imag, c_complex, c_min, c_max, c_clear, z_ops, z_nil, z_cons, z_guard, z_some, z_drop, z_do, z_not, z_not0, pairK, forall_eq_or_imp, stays, loadOf, List.reverse_cons, List.reverse_nil, List.mem_cons, List.not_mem_nil, or_false, forall_eq, true_or, or_true, Bool.true_and, endK, resA, tupA, hlen, h0, h1, toDatI, toDatI3, c1, c2, c3, c4, c5, c6, c7', c8, e1, hlv]

theorem s25 {fa fb ga gb : Nat} {n m n' m' : Int} (pa : Part fa n) (pb : Part fb m) (qa : Part ga n') (qb : Part gb m') (H : Heap) : L 25 [ptA fa fb, ptA ga gb] H = some (.tup [.im (.int .i64 (cmpZ (n, m) (n', m'))), .im (.int .i64 0)], H) := by
  have c1 : ∀ H, L 55 [.im (.sl 5 [ptD fa fb, ptD ga gb])] H = some (.im (.int .i64 0), H) := fun H => s55 [⟨fa, fb, n, m, pa, pb⟩, ⟨ga, gb, n', m', qa, qb⟩] (by simp) H
  have c2 := fun H => s56 pa pb qa qb H
  rw [leq F25]
  obtain ⟨hlen, hg⟩ := enter_at (f := f25) (args := [ptA fa fb, ptA ga gb]) (Nat.le_of_ble_eq_true rfl)
  have h0 := hg 0 _ rfl
  have h1 := hg 1 _ rfl
  generalize enterA f25 [ptA fa fb, ptA ga gb] = tm at *
  change tm.length = 17 at hlen
  have hlv : ∀ (M : Heap) (n : Int), leave H false (.tup [.im (.int .i64 n), .im (.int .i64 0)]) (H ++ M) = (.tup [.im (.int .i64 n), .im (.int .i64 0)], H) := fun M n => leave_deg rfl rfl
  simp only [f25, x_seq, x_block, x_skip, x_label, x_cond, x_exit, x_goto, x_ret, k_normal, k_exit, k_goto, k_ret, b_normal, b_exit, b_goto, b_ret, wantedA, aop, ev, putA, List.length_cons, List.length_nil, List.replicate, List.cons_append, List.nil_append, List.append_nil, List.append_assoc, gs_same, gs_ne, gq_same, gq_ne, List.length_set, List.map_cons, List.map_nil, cellsOf, List.all_cons, List.all_nil, cellOk, boxTy, Bool.and_true, Bool.and_self, if_true, ite_true, ite_false, loadAt, storeAt, setAt, hget, hget0, hset, hset0, List.getElem?_cons_zero, List.getElem?_cons_succ, List.set_cons_zero, List.set_cons_succ, Nat.add_zero, Nat.zero_add, Nat.reduceAdd, Nat.reduceSub, Nat.reduceLeDiff, Nat.reduceLT, Nat.reduceEqDiff, Nat.le_refl, and_self, and_true, true_and, mkAgg, toIms, List.drop_zero, List.drop_succ_cons, List.take_succ_cons, List.take_zero, List.length_append, binBool, unA, Bool.false_eq_true, if_false, partA, fillA, fillE, List.take_nil, Nat.zero_ne_one, Nat.one_ne_zero, not_false_eq_true, ne_eq, Nat.succ_ne_self, reduceCtorEq, Int.reduceEq, Int.reduceLT, Int.reduceLE, decide_true, decide_false, lenA, beq_self_eq_true, beq_true, beq_false, Bool.not_true, Bool.not_false, b_lss, b_gtr, b_leq, b_geq, b_eql, b_neq, b_add, b_sub, b_mul, s_eql, s_neq, y_ops, y_nil, y_cons, y_guard, y_some, y_drop, y_do, y_not, y_not0, c_call, c_clo, c_move, c_pick, c_alloc, c_box, c_build, c_bslice, c_load, c_store, c_nilCheck, c_bin, c_binB, c_un, c_i2i, c_i2f, c_f2i, c_s2b, c_b2s, c_strId, c_mkfunc, c_mkslice, c_slice, c_sliceStr, c_fieldAddr, c_field, c_indexSl, c_indexArr, c_elemArr, c_indexStr, c_extract, c_lenStr, c_lenSl, c_append, c_real, c_imag, c_complex, c_min, c_max, c_clear, z_ops, z_nil, z_cons, z_guard, z_some, z_drop, z_do, z_not, z_not0, pairK, forall_eq_or_imp, stays, loadOf, List.reverse_cons, List.reverse_nil, List.mem_cons, List.not_mem_nil, or_false, forall_eq, true_or, or_true, Bool.true_and, endK, resA, tupA, hlen, h0, h1, toDatA2, c1, c2, hlv]


end Go.Abs.Seat
end
section
set_option linter.unusedVariables false
set_option linter.unusedSimpArgs false
/- The fixed answer of the values' laws, reckoned; at every heap. -/
namespace Go.Abs.Seat
open Go.Proofs

set_option maxRecDepth 100000 in
theorem awake27 : runC bld T3 400 27 [] [] = some (.im (.bool true), []) := by kernel_rfl

theorem s27 (H : Heap) : L 27 [] H = some (.im (.bool true), H) := lim_at bsh Tok3 Tno3 awake27 H

end Go.Abs.Seat
end
section
set_option linter.unusedVariables false
set_option linter.unusedSimpArgs false
/- The values' law of turns, run. -/
set_option linter.unusedVariables false
set_option linter.unusedSimpArgs false
namespace Go.Abs.Seat
open Go.Proofs

theorem b_rem (a c : Int) (hc : c ≠ 0) : binA .rem (.im (.int .i64 a)) (.im (.int .i64 c)) = some (.im (.int .i64 (a.tmod c))) := by
  simp only [binA, isShift, Bool.false_eq_true, if_false, if_true, binInt, if_neg hc]

theorem wrapZ_add (n k : Int) : wrapZ (n + k * 2097152) = wrapZ n := by
  unfold wrapZ
  rw [show (n + k * 2097152) % 2097152 = n % 2097152 by omega]

theorem flZ_add (n k : Int) : flZ (n + k * 2097152) = flZ n := by unfold flZ; rw [wrapZ_add]

theorem wrapZ_sub (n : Int) : ∃ k, n - wrapZ n = k * 2097152 := by
  unfold wrapZ
  split
  · exact ⟨n / 2097152 + 1, by omega⟩
  · exact ⟨n / 2097152, by omega⟩

theorem tmod_mul (k : Int) : (k * 2097152).tmod 2097152 = 0 := Int.mul_tmod_left k 2097152

theorem tmod_bound (n m : Int) (hm : 0 < m) : -m < n.tmod m ∧ n.tmod m < m := ⟨Int.lt_tmod_of_pos n hm, Int.tmod_lt_of_pos n hm⟩

theorem s7 (a0 a1 b0 b1 t : Int) (hb0 : -9223372036854775808 ≤ b0 ∧ b0 < 9223372036854775808) (hb1 : -9223372036854775808 ≤ b1 ∧ b1 < 9223372036854775808) (H : Heap) :
    L 7 [.im (.agg [.int .i64 a0, .int .i64 a1]), .im (.agg [.int .i64 b0, .int .i64 b1]), .im (.int .i64 t)] H = some (.im (.bool true), H) := by
  have r1 := b_rem t 1000 (by decide)
  have r2 := b_rem a0 1099511627776 (by decide)
  have r3 := b_rem a1 1099511627776 (by decide)
  have bt := tmod_bound t 1000 (by decide)
  have bx := tmod_bound a0 1099511627776 (by decide)
  have by' := tmod_bound a1 1099511627776 (by decide)
  generalize t.tmod 1000 = k at *
  generalize a0.tmod 1099511627776 = x at *
  generalize a1.tmod 1099511627776 = y at *
  have w1 : IntKind.i64.wrap (k * 2097152) = k * 2097152 := Go.Abs.Seat.wrap_small _ (by omega)
  have w2 : IntKind.i64.wrap (x + k * 2097152) = x + k * 2097152 := Go.Abs.Seat.wrap_small _ (by omega)
  have w3 : IntKind.i64.wrap (y - k * 2097152) = y - k * 2097152 := Go.Abs.Seat.wrap_small _ (by omega)
  have p1 := fun H => s24p x y (by omega) (by omega) H
  have p2 := fun H => s24p (x + k * 2097152) (y - k * 2097152) (by omega) (by omega) H
  have e2 : flZ (y - k * 2097152) = flZ y := by have := flZ_add y (-k); rwa [show y + -k * 2097152 = y - k * 2097152 by omega] at this
  rw [flZ_add, e2] at p2
  have p3 := fun H => s24p b0 b1 hb0 hb1 H
  have px := part_fl x
  have py := part_fl y
  have q0 := part_fl b0
  have q1 := part_fl b1
  have c1 := fun H => s25 px py px py H
  have hz : cmpZ (wrapZ x, wrapZ y) (wrapZ x, wrapZ y) = 0 := (cmpZ_eq _ _).2 rfl
  rw [hz] at c1
  have c2 := fun H => s26 px py H
  have c3 := fun H => s26 q0 q1 H
  have c4 := fun H => s25 px py q0 q1 H
  have hd := cmpZ_eq (wrapZ x, wrapZ y) (wrapZ b0, wrapZ b1)
  have lx := wrapZ_le x
  have ly := wrapZ_le y
  obtain ⟨kx, hkx⟩ := wrapZ_sub x
  obtain ⟨ky, hky⟩ := wrapZ_sub y
  have w4 : IntKind.i64.wrap (x - wrapZ x) = kx * 2097152 := by rw [Go.Abs.Seat.wrap_small _ (by omega), hkx]
  have w5 : IntKind.i64.wrap (y - wrapZ y) = ky * 2097152 := by rw [Go.Abs.Seat.wrap_small _ (by omega), hky]
  have r4 := b_rem (kx * 2097152) 2097152 (by decide)
  have r5 := b_rem (ky * 2097152) 2097152 (by decide)
  rw [tmod_mul] at r4 r5
  generalize cmpZ (wrapZ x, wrapZ y) (wrapZ b0, wrapZ b1) = d at *
  have d1 : decide (wrapZ x < -1048576) = false := decide_eq_false (by omega)
  have d2 : decide (1048576 ≤ wrapZ x) = false := decide_eq_false (by omega)
  have d3 : decide (wrapZ y < -1048576) = false := decide_eq_false (by omega)
  have d4 : decide (1048576 ≤ wrapZ y) = false := decide_eq_false (by omega)
  generalize flZ x = fx at *
  generalize flZ y = fy at *
  generalize flZ b0 = g0 at *
  generalize flZ b1 = g1 at *
  generalize wrapZ x = zx at *
  generalize wrapZ y = zy at *
  generalize wrapZ b0 = u0 at *
  generalize wrapZ b1 = u1 at *
  rw [leq F7]
  obtain ⟨hlen, hg⟩ := enter_at (f := f7) (args := [.im (.agg [.int .i64 a0, .int .i64 a1]), .im (.agg [.int .i64 b0, .int .i64 b1]), .im (.int .i64 t)]) (Nat.le_of_ble_eq_true rfl)
  have h0 := hg 0 _ rfl
  have h1 := hg 1 _ rfl
  have h2 := hg 2 _ rfl
  generalize enterA f7 [.im (.agg [.int .i64 a0, .int .i64 a1]), .im (.agg [.int .i64 b0, .int .i64 b1]), .im (.int .i64 t)] = tm at *
  change tm.length = 130 at hlen
  have i0 : idx (.im (.int .i64 0)) 2 = some 0 := rfl
  have i1 : idx (.im (.int .i64 1)) 2 = some 1 := rfl
  have hs : ∀ b : Bool, binBool .eql (.im (.bool b)) (.im (.bool b)) = some (.im (.bool true)) := fun b => by cases b <;> rfl
  by_cases e1 : u0 = zx
  · by_cases e2 : u1 = zy
    · subst e1; subst e2
      have hd0 : d = 0 := hd.2 rfl
      subst hd0
      simp only [f7, x_seq, x_block, x_skip, x_label, x_cond, x_exit, x_goto, x_ret, k_normal, k_exit, k_goto, k_ret, b_normal, b_exit, b_goto, b_ret, wantedA, aop, ev, putA, List.length_cons, List.length_nil, List.replicate, List.cons_append, List.nil_append, List.append_nil, List.append_assoc, gs_same, gs_ne, gq_same, gq_ne, List.length_set, List.map_cons, List.map_nil, cellsOf, List.all_cons, List.all_nil, cellOk, boxTy, Bool.and_true, Bool.and_self, if_true, ite_true, ite_false, loadAt, storeAt, setAt, hget, hget0, hset, hset0, List.getElem?_cons_zero, List.getElem?_cons_succ, List.set_cons_zero, List.set_cons_succ, Nat.add_zero, Nat.zero_add, Nat.reduceAdd, Nat.reduceSub, Nat.reduceLeDiff, Nat.reduceLT, Nat.reduceEqDiff, Nat.le_refl, and_self, and_true, true_and, mkAgg, toIms, List.drop_zero, List.drop_succ_cons, List.take_succ_cons, List.take_zero, List.length_append, binBool, unA, Bool.false_eq_true, if_false, partA, fillA, fillE, List.take_nil, Nat.zero_ne_one, Nat.one_ne_zero, not_false_eq_true, ne_eq, Nat.succ_ne_self, reduceCtorEq, Int.reduceEq, Int.reduceLT, Int.reduceLE, decide_true, decide_false, lenA, beq_self_eq_true, beq_true, beq_false, Bool.not_true, Bool.not_false, b_lss, b_gtr, b_leq, b_geq, b_eql, b_neq, b_add, b_sub, b_mul, s_eql, s_neq, y_ops, y_nil, y_cons, y_guard, y_some, y_drop, y_do, y_not, y_not0, c_call, c_clo, c_move, c_pick, c_alloc, c_box, c_build, c_bslice, c_load, c_store, c_nilCheck, c_bin, c_binB, c_un, c_i2i, c_i2f, c_f2i, c_s2b, c_b2s, c_strId, c_mkfunc, c_mkslice, c_slice, c_sliceStr, c_fieldAddr, c_field, c_indexSl, c_indexArr, c_elemArr, c_indexStr, c_extract, c_lenStr, c_lenSl, c_append, c_real, c_imag, c_complex, c_min, c_max, c_clear, z_ops, z_nil, z_cons, z_guard, z_some, z_drop, z_do, z_not, z_not0, pairK, forall_eq_or_imp, stays, loadOf, List.reverse_cons, List.reverse_nil, List.mem_cons, List.not_mem_nil, or_false, forall_eq, true_or, or_true, Bool.true_and, endK, resA, tupA, hlen, h0, h1, h2, i0, i1, r1, r2, r3, w1, w2, w3, p1, p2, p3, c1, c2, c3, c4, d1, d2, d3, d4, w4, w5, r4, r5, hs, s27, leave_app, Nat.mul_one]
    · have hdn : decide (d = 0) = false := decide_eq_false fun h => e2 (by have := hd.1 h; simp at this; exact this.2.symm)
      have f1 : decide (u1 = zy) = false := decide_eq_false e2
      subst e1
      simp only [f7, x_seq, x_block, x_skip, x_label, x_cond, x_exit, x_goto, x_ret, k_normal, k_exit, k_goto, k_ret, b_normal, b_exit, b_goto, b_ret, wantedA, aop, ev, putA, List.length_cons, List.length_nil, List.replicate, List.cons_append, List.nil_append, List.append_nil, List.append_assoc, gs_same, gs_ne, gq_same, gq_ne, List.length_set, List.map_cons, List.map_nil, cellsOf, List.all_cons, List.all_nil, cellOk, boxTy, Bool.and_true, Bool.and_self, if_true, ite_true, ite_false, loadAt, storeAt, setAt, hget, hget0, hset, hset0, List.getElem?_cons_zero, List.getElem?_cons_succ, List.set_cons_zero, List.set_cons_succ, Nat.add_zero, Nat.zero_add, Nat.reduceAdd, Nat.reduceSub, Nat.reduceLeDiff, Nat.reduceLT, Nat.reduceEqDiff, Nat.le_refl, and_self, and_true, true_and, mkAgg, toIms, List.drop_zero, List.drop_succ_cons, List.take_succ_cons, List.take_zero, List.length_append, binBool, unA, Bool.false_eq_true, if_false, partA, fillA, fillE, List.take_nil, Nat.zero_ne_one, Nat.one_ne_zero, not_false_eq_true, ne_eq, Nat.succ_ne_self, reduceCtorEq, Int.reduceEq, Int.reduceLT, Int.reduceLE, decide_true, decide_false, lenA, beq_self_eq_true, beq_true, beq_false, Bool.not_true, Bool.not_false, b_lss, b_gtr, b_leq, b_geq, b_eql, b_neq, b_add, b_sub, b_mul, s_eql, s_neq, y_ops, y_nil, y_cons, y_guard, y_some, y_drop, y_do, y_not, y_not0, c_call, c_clo, c_move, c_pick, c_alloc, c_box, c_build, c_bslice, c_load, c_store, c_nilCheck, c_bin, c_binB, c_un, c_i2i, c_i2f, c_f2i, c_s2b, c_b2s, c_strId, c_mkfunc, c_mkslice, c_slice, c_sliceStr, c_fieldAddr, c_field, c_indexSl, c_indexArr, c_elemArr, c_indexStr, c_extract, c_lenStr, c_lenSl, c_append, c_real, c_imag, c_complex, c_min, c_max, c_clear, z_ops, z_nil, z_cons, z_guard, z_some, z_drop, z_do, z_not, z_not0, pairK, forall_eq_or_imp, stays, loadOf, List.reverse_cons, List.reverse_nil, List.mem_cons, List.not_mem_nil, or_false, forall_eq, true_or, or_true, Bool.true_and, endK, resA, tupA, hlen, h0, h1, h2, i0, i1, r1, r2, r3, w1, w2, w3, p1, p2, p3, c1, c2, c3, c4, d1, d2, d3, d4, w4, w5, r4, r5, hs, hdn, f1, s27, leave_app, Nat.mul_one]
  · have hdn : decide (d = 0) = false := decide_eq_false fun h => e1 (by have := hd.1 h; simp at this; exact this.1.symm)
    have f1 : decide (u0 = zx) = false := decide_eq_false e1
    simp only [f7, x_seq, x_block, x_skip, x_label, x_cond, x_exit, x_goto, x_ret, k_normal, k_exit, k_goto, k_ret, b_normal, b_exit, b_goto, b_ret, wantedA, aop, ev, putA, List.length_cons, List.length_nil, List.replicate, List.cons_append, List.nil_append, List.append_nil, List.append_assoc, gs_same, gs_ne, gq_same, gq_ne, List.length_set, List.map_cons, List.map_nil, cellsOf, List.all_cons, List.all_nil, cellOk, boxTy, Bool.and_true, Bool.and_self, if_true, ite_true, ite_false, loadAt, storeAt, setAt, hget, hget0, hset, hset0, List.getElem?_cons_zero, List.getElem?_cons_succ, List.set_cons_zero, List.set_cons_succ, Nat.add_zero, Nat.zero_add, Nat.reduceAdd, Nat.reduceSub, Nat.reduceLeDiff, Nat.reduceLT, Nat.reduceEqDiff, Nat.le_refl, and_self, and_true, true_and, mkAgg, toIms, List.drop_zero, List.drop_succ_cons, List.take_succ_cons, List.take_zero, List.length_append, binBool, unA, Bool.false_eq_true, if_false, partA, fillA, fillE, List.take_nil, Nat.zero_ne_one, Nat.one_ne_zero, not_false_eq_true, ne_eq, Nat.succ_ne_self, reduceCtorEq, Int.reduceEq, Int.reduceLT, Int.reduceLE, decide_true, decide_false, lenA, beq_self_eq_true, beq_true, beq_false, Bool.not_true, Bool.not_false, b_lss, b_gtr, b_leq, b_geq, b_eql, b_neq, b_add, b_sub, b_mul, s_eql, s_neq, y_ops, y_nil, y_cons, y_guard, y_some, y_drop, y_do, y_not, y_not0, c_call, c_clo, c_move, c_pick, c_alloc, c_box, c_build, c_bslice, c_load, c_store, c_nilCheck, c_bin, c_binB, c_un, c_i2i, c_i2f, c_f2i, c_s2b, c_b2s, c_strId, c_mkfunc, c_mkslice, c_slice, c_sliceStr, c_fieldAddr, c_field, c_indexSl, c_indexArr, c_elemArr, c_indexStr, c_extract, c_lenStr, c_lenSl, c_append, c_real, c_imag, c_complex, c_min, c_max, c_clear, z_ops, z_nil, z_cons, z_guard, z_some, z_drop, z_do, z_not, z_not0, pairK, forall_eq_or_imp, stays, loadOf, List.reverse_cons, List.reverse_nil, List.mem_cons, List.not_mem_nil, or_false, forall_eq, true_or, or_true, Bool.true_and, endK, resA, tupA, hlen, h0, h1, h2, i0, i1, r1, r2, r3, w1, w2, w3, p1, p2, p3, c1, c2, c3, c4, d1, d2, d3, d4, w4, w5, r4, r5, hs, hdn, f1, s27, leave_app, Nat.mul_one]

theorem wf_range {z : Int} (hz : (Lit.int .i64 z).wf = true) : -9223372036854775808 ≤ z ∧ z < 9223372036854775808 := by
  have h1 : IntKind.i64.min ≤ z ∧ z ≤ IntKind.i64.max := by simpa [Lit.wf] using hz
  have h2 : IntKind.i64.min = -9223372036854775808 := rfl
  have h3 : IntKind.i64.max = 9223372036854775807 := rfl
  omega

theorem s7c (a b : Int × Int) (t : Int) (hb : (Lit.int .i64 b.1).wf = true ∧ (Lit.int .i64 b.2).wf = true) : ∃ H', L 7 [.im (.agg [.int .i64 a.1, .int .i64 a.2]), .im (.agg [.int .i64 b.1, .int .i64 b.2]), .im (.int .i64 t)] [] = some (.im (.bool true), H') :=
  ⟨[], s7 a.1 a.2 b.1 b.2 t (wf_range hb.1) (wf_range hb.2) []⟩

end Go.Abs.Seat
end
section
set_option linter.unusedVariables false
set_option linter.unusedSimpArgs false
/- The values' law of the ring: plain; run. -/
set_option linter.unusedVariables false
set_option linter.unusedSimpArgs false
namespace Go.Abs.Seat
open Go.Proofs

theorem wrapZ_congr {a b : Int} (k : Int) (h : a - b = k * 2097152) : wrapZ a = wrapZ b := by
  unfold wrapZ
  rw [show a % 2097152 = b % 2097152 by omega]
theorem wrapZ_is (n : Int) : ∃ k, wrapZ n = n - k * 2097152 := by
  obtain ⟨k, hk⟩ := wrapZ_sub n
  exact ⟨k, by omega⟩
theorem wrapZ_in {n : Int} (h : -1048576 ≤ n ∧ n < 1048576) : wrapZ n = n := by
  unfold wrapZ
  split <;> omega

theorem mulZ_comm (p q : Int × Int) : mulZ p q = mulZ q p := by
  obtain ⟨p1, p2⟩ := p
  obtain ⟨q1, q2⟩ := q
  simp only [mulZ_eq]
  rw [Int.mul_comm p1 q1, Int.mul_comm p2 q2, Int.mul_comm p1 q2, Int.mul_comm p2 q1, Int.add_comm (q2 * p1)]

theorem mulZ_assoc (p q r : Int × Int) : mulZ (mulZ p q) r = mulZ p (mulZ q r) := by
  obtain ⟨p1, p2⟩ := p
  obtain ⟨q1, q2⟩ := q
  obtain ⟨r1, r2⟩ := r
  simp only [mulZ_eq]
  obtain ⟨k1, e1⟩ := wrapZ_is (p1 * q1 - p2 * q2)
  obtain ⟨k2, e2⟩ := wrapZ_is (p1 * q2 + p2 * q1)
  obtain ⟨k3, e3⟩ := wrapZ_is (q1 * r1 - q2 * r2)
  obtain ⟨k4, e4⟩ := wrapZ_is (q1 * r2 + q2 * r1)
  rw [e1, e2, e3, e4]
  congr 1
  · exact wrapZ_congr (-k1 * r1 + k2 * r2 + p1 * k3 - p2 * k4) (by grind)
  · exact wrapZ_congr (-k1 * r2 - k2 * r1 + p1 * k4 + p2 * k3) (by grind)

theorem mulZ_add (p q r : Int × Int) : mulZ p (addZ q r) = addZ (mulZ p q) (mulZ p r) := by
  obtain ⟨p1, p2⟩ := p
  obtain ⟨q1, q2⟩ := q
  obtain ⟨r1, r2⟩ := r
  simp only [mulZ_eq, addZ_eq]
  obtain ⟨k1, e1⟩ := wrapZ_is (q1 + r1)
  obtain ⟨k2, e2⟩ := wrapZ_is (q2 + r2)
  obtain ⟨k3, e3⟩ := wrapZ_is (p1 * q1 - p2 * q2)
  obtain ⟨k4, e4⟩ := wrapZ_is (p1 * r1 - p2 * r2)
  obtain ⟨k5, e5⟩ := wrapZ_is (p1 * q2 + p2 * q1)
  obtain ⟨k6, e6⟩ := wrapZ_is (p1 * r2 + p2 * r1)
  rw [e1, e2, e3, e4, e5, e6]
  congr 1
  · exact wrapZ_congr (-p1 * k1 + p2 * k2 + k3 + k4) (by grind)
  · exact wrapZ_congr (-p1 * k2 - p2 * k1 + k5 + k6) (by grind)

theorem conjZ_eq (a : Int × Int) : conjZ a = (wrapZ a.1, wrapZ (-a.2)) := rfl

theorem conjZ_mul (p q : Int × Int) : conjZ (mulZ p q) = mulZ (conjZ p) (conjZ q) := by
  obtain ⟨p1, p2⟩ := p
  obtain ⟨q1, q2⟩ := q
  simp only [mulZ_eq, conjZ_eq]
  obtain ⟨k1, e1⟩ := wrapZ_is p1
  obtain ⟨k2, e2⟩ := wrapZ_is (-p2)
  obtain ⟨k3, e3⟩ := wrapZ_is q1
  obtain ⟨k4, e4⟩ := wrapZ_is (-q2)
  obtain ⟨k5, e5⟩ := wrapZ_is (p1 * q1 - p2 * q2)
  obtain ⟨k6, e6⟩ := wrapZ_is (p1 * q2 + p2 * q1)
  rw [e1, e2, e3, e4, e5, e6]
  congr 1
  · exact wrapZ_congr (-k5 + p1 * k3 + k1 * q1 - k1 * k3 * 2097152 + p2 * k4 + k2 * q2 + k2 * k4 * 2097152) (by grind)
  · exact wrapZ_congr (k6 + p1 * k4 - k1 * q2 - k1 * k4 * 2097152 - p2 * k3 + k2 * q1 - k2 * k3 * 2097152) (by grind)

theorem conjZ_conj {p : Int × Int} (h : rngZ p) : conjZ (conjZ p) = p := by
  obtain ⟨p1, p2⟩ := p
  simp only [conjZ_eq]
  obtain ⟨k, e⟩ := wrapZ_is (-p2)
  rw [e, wrapZ_in h.1, wrapZ_in h.1, wrapZ_congr (b := p2) k (by omega), wrapZ_in h.2]

theorem mulZ_one {p : Int × Int} (h : rngZ p) : mulZ (1, 0) p = p := by
  obtain ⟨p1, p2⟩ := p
  simp only [mulZ_eq, Int.one_mul, Int.zero_mul, Int.sub_zero, Int.add_zero]
  rw [wrapZ_in h.1, wrapZ_in h.2]
theorem addZ_zero {p : Int × Int} (h : rngZ p) : addZ (0, 0) p = p := by
  obtain ⟨p1, p2⟩ := p
  simp only [addZ_eq, Int.zero_add]
  rw [wrapZ_in h.1, wrapZ_in h.2]

/-- Two words that stand for a point's parts. -/
structure Pz (fa fb : Nat) (z : Int × Int) : Prop where
  a : Part fa z.1
  b : Part fb z.2

theorem Pz.rng {fa fb : Nat} {z : Int × Int} (h : Pz fa fb z) : rngZ z := ⟨⟨h.a.lo, h.a.hi⟩, h.b.lo, h.b.hi⟩

theorem pz_wrap (n m : Int) : Pz (fz (wrapZ n)) (fz (wrapZ m)) (wrapZ n, wrapZ m) := ⟨part_fl n, part_fl m⟩

theorem m28 {fa fb ga gb : Nat} {p q : Int × Int} (hp : Pz fa fb p) (hq : Pz ga gb q) :
    ∃ ra rb, (∀ H, L 28 [.im (.sl 5 [ptD fa fb, ptD ga gb])] H = some (.tup [ptA ra rb, .im (.int .i64 0)], H)) ∧ Pz ra rb (mulZ p q) := by
  refine ⟨_, _, fun H => s28 [⟨fa, fb, p.1, p.2, hp.a, hp.b⟩, ⟨ga, gb, q.1, q.2, hq.a, hq.b⟩] (by simp) (by simp) H, ?_⟩
  have e : ([(⟨fa, fb, p.1, p.2, hp.a, hp.b⟩ : PtV), ⟨ga, gb, q.1, q.2, hq.a, hq.b⟩].map PtV.z).foldl mulZ (1, 0) = mulZ p q := by
    simp only [List.map_cons, List.map_nil, List.foldl_cons, List.foldl_nil, PtV.z]
    rw [mulZ_one hp.rng]
  rw [e]
  exact pz_wrap _ _

theorem m29 {fa fb ga gb : Nat} {p q : Int × Int} (hp : Pz fa fb p) (hq : Pz ga gb q) :
    ∃ ra rb, (∀ H, L 29 [.im (.sl 5 [ptD fa fb, ptD ga gb])] H = some (.tup [ptA ra rb, .im (.int .i64 0)], H)) ∧ Pz ra rb (addZ p q) := by
  refine ⟨_, _, fun H => s29 [⟨fa, fb, p.1, p.2, hp.a, hp.b⟩, ⟨ga, gb, q.1, q.2, hq.a, hq.b⟩] (by simp) (by simp) H, ?_⟩
  have e : ([(⟨fa, fb, p.1, p.2, hp.a, hp.b⟩ : PtV), ⟨ga, gb, q.1, q.2, hq.a, hq.b⟩].map PtV.z).foldl addZ (0, 0) = addZ p q := by
    simp only [List.map_cons, List.map_nil, List.foldl_cons, List.foldl_nil, PtV.z]
    rw [addZ_zero hp.rng]
  rw [e]
  exact pz_wrap _ _

theorem m30 {fa fb : Nat} {p : Int × Int} (hp : Pz fa fb p) : ∃ ra rb, (∀ H, L 30 [ptA fa fb] H = some (.tup [ptA ra rb, .im (.int .i64 0)], H)) ∧ Pz ra rb (conjZ p) :=
  ⟨_, _, fun H => s30 hp.a hp.b H, pz_wrap _ _⟩

theorem m24 (a b : Int) (ha : -9223372036854775808 ≤ a ∧ a < 9223372036854775808) (hb : -9223372036854775808 ≤ b ∧ b < 9223372036854775808) :
    ∃ ra rb, (∀ H, L 24 [.im (.int .i64 a), .im (.int .i64 b)] H = some (ptA ra rb, H)) ∧ Pz ra rb (wrapZ a, wrapZ b) :=
  ⟨_, _, fun H => s24p a b ha hb H, pz_wrap _ _⟩

theorem m25 {fa fb ga gb : Nat} {p : Int × Int} (hp : Pz fa fb p) (hq : Pz ga gb p) (H : Heap) : L 25 [ptA fa fb, ptA ga gb] H = some (.tup [.im (.int .i64 0), .im (.int .i64 0)], H) := by
  have := s25 hp.a hp.b hq.a hq.b H
  have hz : cmpZ (p.1, p.2) (p.1, p.2) = 0 := (cmpZ_eq _ _).2 rfl
  rwa [hz] at this

/-- Pairs of points. -/
abbrev rowD (r : (Nat × Nat) × Nat × Nat) : List Dat := [.int .i64 5, .int .i64 0, .str [], .cpx .f64 r.1.1 r.1.2, .sl 0 [], .int .i64 5, .int .i64 0, .str [], .cpx .f64 r.2.1 r.2.2, .sl 0 []]

theorem l8 (l : List ((Nat × Nat) × Nat × Nat)) (hl : l.length ≤ 1000) (hcm : ∀ r ∈ l, ∀ H, L 25 [ptA r.1.1 r.1.2, ptA r.2.1 r.2.2] H = some (.tup [.im (.int .i64 0), .im (.int .i64 0)], H)) :
    ∀ (k i : Nat) (tm : List AV) (H : Heap), i + k = l.length → tm.length = 184 → tm.getD 162 undefA = .im (.sl 10 (l.map rowD)) → tm.getD 163 undefA = .im (.int .i64 (l.length : Int)) → tm.getD 164 undefA = .im (.int .i64 (i : Int)) →
    ∃ e tm' H', Λ c8_0 tm H = some (e, tm', H') ∧ (e = .exit 0 ∧ tm'.length = 184 ∧ ∃ M, H' = H ++ M)
  | 0, i, tm, H, hk, hlen, h6, h7, h8 => by
    have hc : decide ((i : Int) < (l.length : Int)) = false := decide_eq_false (by omega)
    rw [l8_0]
    simp only [b8_0, x_seq, x_block, x_skip, x_label, x_cond, x_exit, x_goto, x_ret, k_normal, k_exit, k_goto, k_ret, b_normal, b_exit, b_goto, b_ret, wantedA, aop, ev, putA, List.length_cons, List.length_nil, List.replicate, List.cons_append, List.nil_append, List.append_nil, List.append_assoc, gs_same, gs_ne, gq_same, gq_ne, List.length_set, List.map_cons, List.map_nil, cellsOf, List.all_cons, List.all_nil, cellOk, boxTy, Bool.and_true, Bool.and_self, if_true, ite_true, ite_false, loadAt, storeAt, setAt, hget, hget0, hset, hset0, List.getElem?_cons_zero, List.getElem?_cons_succ, List.set_cons_zero, List.set_cons_succ, Nat.add_zero, Nat.zero_add, Nat.reduceAdd, Nat.reduceSub, Nat.reduceLeDiff, Nat.reduceLT, Nat.reduceEqDiff, Nat.le_refl, and_self, and_true, true_and, mkAgg, toIms, List.drop_zero, List.drop_succ_cons, List.take_succ_cons, List.take_zero, List.length_append, binBool, unA, Bool.false_eq_true, if_false, partA, fillA, fillE, List.take_nil, Nat.zero_ne_one, Nat.one_ne_zero, not_false_eq_true, ne_eq, Nat.succ_ne_self, reduceCtorEq, Int.reduceEq, Int.reduceLT, Int.reduceLE, decide_true, decide_false, lenA, beq_self_eq_true, beq_true, beq_false, Bool.not_true, Bool.not_false, b_lss, b_gtr, b_leq, b_geq, b_eql, b_neq, b_add, b_sub, b_mul, s_eql, s_neq, y_ops, y_nil, y_cons, y_guard, y_some, y_drop, y_do, y_not, y_not0, c_call, c_clo, c_move, c_pick, c_alloc, c_box, c_build, c_bslice, c_load, c_store, c_nilCheck, c_bin, c_binB, c_un, c_i2i, c_i2f, c_f2i, c_s2b, c_b2s, c_strId, c_mkfunc, c_mkslice, c_slice, c_sliceStr, c_fieldAddr, c_field, c_indexSl, c_indexArr, c_elemArr, c_indexStr, c_extract, c_lenStr, c_lenSl, c_append, c_real, c_imag, c_complex, c_min, c_max, c_clear, hlen, h7, h8, hc]
    exact ⟨_, _, _, rfl, rfl, by simp only [List.length_set, hlen], [], by simp⟩
  | k + 1, i, tm, H, hk, hlen, h6, h7, h8 => by
    have hlt : i < l.length := by omega
    have hc : decide ((i : Int) < (l.length : Int)) = true := decide_eq_true (by omega)
    obtain ⟨p, hp⟩ : ∃ p, l[i]? = some p := ⟨l[i], by simp [hlt]⟩
    have hg : (l.map rowD)[i]? = some (rowD p) := by rw [List.getElem?_map, hp]; rfl
    have hix := idx_nat (n := l.length) (i := i) hlt
    have hwr := wrap_nat (i := i) (by omega)
    have c1 := hcm p (List.mem_of_getElem? hp)
    have i0 : idx (.im (.int .i64 0)) 2 = some 0 := rfl
    have i1 : idx (.im (.int .i64 1)) 2 = some 1 := rfl
    have key := fun tm1 H1 => l8 l hl hcm k (i + 1) tm1 H1 (by omega)
    rw [l8_0]
    simp only [b8_0, x_seq, x_block, x_skip, x_label, x_cond, x_exit, x_goto, x_ret, k_normal, k_exit, k_goto, k_ret, b_normal, b_exit, b_goto, b_ret, wantedA, aop, ev, putA, List.length_cons, List.length_nil, List.replicate, List.cons_append, List.nil_append, List.append_nil, List.append_assoc, gs_same, gs_ne, gq_same, gq_ne, List.length_set, List.map_cons, List.map_nil, cellsOf, List.all_cons, List.all_nil, cellOk, boxTy, Bool.and_true, Bool.and_self, if_true, ite_true, ite_false, loadAt, storeAt, setAt, hget, hget0, hset, hset0, List.getElem?_cons_zero, List.getElem?_cons_succ, List.set_cons_zero, List.set_cons_succ, Nat.add_zero, Nat.zero_add, Nat.reduceAdd, Nat.reduceSub, Nat.reduceLeDiff, Nat.reduceLT, Nat.reduceEqDiff, Nat.le_refl, and_self, and_true, true_and, mkAgg, toIms, List.drop_zero, List.drop_succ_cons, List.take_succ_cons, List.take_zero, List.length_append, binBool, unA, Bool.false_eq_true, if_false, partA, fillA, fillE, List.take_nil, Nat.zero_ne_one, Nat.one_ne_zero, not_false_eq_true, ne_eq, Nat.succ_ne_self, reduceCtorEq, Int.reduceEq, Int.reduceLT, Int.reduceLE, decide_true, decide_false, lenA, beq_self_eq_true, beq_true, beq_false, Bool.not_true, Bool.not_false, b_lss, b_gtr, b_leq, b_geq, b_eql, b_neq, b_add, b_sub, b_mul, s_eql, s_neq, y_ops, y_nil, y_cons, y_guard, y_some, y_drop, y_do, y_not, y_not0, c_call, c_clo, c_move, c_pick, c_alloc, c_box, c_build, c_bslice, c_load, c_store, c_nilCheck, c_bin, c_binB, c_un, c_i2i, c_i2f, c_f2i, c_s2b, c_b2s, c_strId, c_mkfunc, c_mkslice, c_slice, c_sliceStr, c_fieldAddr, c_field, c_indexSl, c_indexArr, c_elemArr, c_indexStr, c_extract, c_lenStr, c_lenSl, c_append, c_real, c_imag, c_complex, c_min, c_max, c_clear, hlen, h6, h7, h8, hc, hix, hg, List.length_map, i0, i1, Nat.zero_mul, Nat.one_mul, c1, hwr]
    refine ex_imp (key _ _ ?_ ?_ ?_ ?_) fun _ _ _ ⟨q1, q2, M, q3⟩ => ⟨q1, q2, ⟨_, q3.trans (List.append_assoc _ _ _)⟩⟩
    all_goals simp only [gs_same, gs_ne, List.length_set, Nat.reduceLT, Nat.reduceEqDiff, not_false_eq_true, hlen, h6, h7]

end Go.Abs.Seat
end
section
set_option linter.unusedVariables false
set_option linter.unusedSimpArgs false
/- The values' law of the ring, run. -/
set_option linter.unusedVariables false
set_option linter.unusedSimpArgs false
namespace Go.Abs.Seat
open Go.Proofs

theorem bs10 (a1 b1 a2 b2 a3 b3 a4 b4 a5 b5 a6 b6 a7 b7 a8 b8 a9 b9 a10 b10 : Nat) :
    toDatss [[AV.im (.int .i64 5), .im (.int .i64 0), .im (.str []), .im (.cpx .f64 a1 b1), .im (.sl 0 []), .im (.int .i64 5), .im (.int .i64 0), .im (.str []), .im (.cpx .f64 a2 b2), .im (.sl 0 [])],
      [AV.im (.int .i64 5), .im (.int .i64 0), .im (.str []), .im (.cpx .f64 a3 b3), .im (.sl 0 []), .im (.int .i64 5), .im (.int .i64 0), .im (.str []), .im (.cpx .f64 a4 b4), .im (.sl 0 [])],
      [AV.im (.int .i64 5), .im (.int .i64 0), .im (.str []), .im (.cpx .f64 a5 b5), .im (.sl 0 []), .im (.int .i64 5), .im (.int .i64 0), .im (.str []), .im (.cpx .f64 a6 b6), .im (.sl 0 [])],
      [AV.im (.int .i64 5), .im (.int .i64 0), .im (.str []), .im (.cpx .f64 a7 b7), .im (.sl 0 []), .im (.int .i64 5), .im (.int .i64 0), .im (.str []), .im (.cpx .f64 a8 b8), .im (.sl 0 [])],
      [AV.im (.int .i64 5), .im (.int .i64 0), .im (.str []), .im (.cpx .f64 a9 b9), .im (.sl 0 []), .im (.int .i64 5), .im (.int .i64 0), .im (.str []), .im (.cpx .f64 a10 b10), .im (.sl 0 [])]] =
      some ([((a1, b1), a2, b2), ((a3, b3), a4, b4), ((a5, b5), a6, b6), ((a7, b7), a8, b8), ((a9, b9), a10, b10)].map rowD) := _root_.id rfl

theorem zc5 : ((5 : Nat) : Int) = 5 := _root_.id rfl

set_option maxRecDepth 100000 in
theorem s8 (a0 a1 b0 b1 c0 c1 : Int) (ha0 : -9223372036854775808 ≤ a0 ∧ a0 < 9223372036854775808) (ha1 : -9223372036854775808 ≤ a1 ∧ a1 < 9223372036854775808)
    (hb0 : -9223372036854775808 ≤ b0 ∧ b0 < 9223372036854775808) (hb1 : -9223372036854775808 ≤ b1 ∧ b1 < 9223372036854775808) (hc0 : -9223372036854775808 ≤ c0 ∧ c0 < 9223372036854775808) (hc1 : -9223372036854775808 ≤ c1 ∧ c1 < 9223372036854775808) (H : Heap) :
    L 8 [.im (.agg [.int .i64 a0, .int .i64 a1]), .im (.agg [.int .i64 b0, .int .i64 b1]), .im (.agg [.int .i64 c0, .int .i64 c1])] H = some (.im (.bool true), H) := by
  obtain ⟨xa, xb, ex, px⟩ := m24 a0 a1 ha0 ha1
  obtain ⟨ya, yb, ey, py⟩ := m24 b0 b1 hb0 hb1
  obtain ⟨za, zb, ez, pz⟩ := m24 c0 c1 hc0 hc1
  generalize (wrapZ a0, wrapZ a1) = X at *
  generalize (wrapZ b0, wrapZ b1) = Y at *
  generalize (wrapZ c0, wrapZ c1) = Z at *
  obtain ⟨xya, xyb, exy, pxy⟩ := m28 px py
  obtain ⟨yxa, yxb, eyx, pyx⟩ := m28 py px
  obtain ⟨la, lb, el, pl⟩ := m28 pxy pz
  obtain ⟨yza, yzb, eyz, pyz⟩ := m28 py pz
  obtain ⟨ra, rb, er, pr⟩ := m28 px pyz
  obtain ⟨sa, sb, es, ps⟩ := m29 py pz
  obtain ⟨oa, ob, eo, po⟩ := m28 px ps
  obtain ⟨xza, xzb, exz, pxz⟩ := m28 px pz
  obtain ⟨aa, ab, ea, pa⟩ := m29 pxy pxz
  obtain ⟨cxa, cxb, ecx, pcx⟩ := m30 px
  obtain ⟨cya, cyb, ecy, pcy⟩ := m30 py
  obtain ⟨ta, tb, et, pt⟩ := m30 pxy
  obtain ⟨ba, bb, eb, pb⟩ := m28 pcx pcy
  obtain ⟨ga, gb, eg, pg⟩ := m30 pcx
  rw [mulZ_comm] at pyx
  rw [mulZ_assoc] at pl
  rw [mulZ_add] at po
  rw [conjZ_mul] at pt
  rw [conjZ_conj px.rng] at pg
  have hcm : ∀ r ∈ [((xya, xyb), yxa, yxb), ((la, lb), ra, rb), ((oa, ob), aa, ab), ((ta, tb), ba, bb), ((ga, gb), xa, xb)], ∀ H, L 25 [ptA r.1.1 r.1.2, ptA r.2.1 r.2.2] H = some (.tup [.im (.int .i64 0), .im (.int .i64 0)], H) := by
    intro r hr H
    simp only [List.mem_cons, List.not_mem_nil, or_false] at hr
    rcases hr with rfl | rfl | rfl | rfl | rfl
    · exact m25 pxy pyx H
    · exact m25 pl pr H
    · exact m25 po pa H
    · exact m25 pt pb H
    · exact m25 pg px H
  clear px py pz pxy pyx pl pyz pr ps po pxz pa pcx pcy pt pb pg
  have key := l8 [((xya, xyb), yxa, yxb), ((la, lb), ra, rb), ((oa, ob), aa, ab), ((ta, tb), ba, bb), ((ga, gb), xa, xb)] (by simp) hcm 5 0
  simp only [zc0, List.length_cons, List.length_nil, Nat.zero_add, Nat.reduceAdd, zc5, forall_const] at key
  rw [leq F8]
  obtain ⟨hlen, hg⟩ := enter_at (f := f8) (args := [.im (.agg [.int .i64 a0, .int .i64 a1]), .im (.agg [.int .i64 b0, .int .i64 b1]), .im (.agg [.int .i64 c0, .int .i64 c1])]) (Nat.le_of_ble_eq_true rfl)
  have h0 := hg 0 _ rfl
  have h1 := hg 1 _ rfl
  have h2 := hg 2 _ rfl
  generalize enterA f8 [.im (.agg [.int .i64 a0, .int .i64 a1]), .im (.agg [.int .i64 b0, .int .i64 b1]), .im (.agg [.int .i64 c0, .int .i64 c1])] = tm at *
  change tm.length = 184 at hlen
  have i0 : idx (.im (.int .i64 0)) 2 = some 0 := rfl
  have i1 : idx (.im (.int .i64 1)) 2 = some 1 := rfl
  simp only [f8, e8_0, x_seq, x_block, x_skip, x_label, x_cond, x_exit, x_goto, x_ret, k_normal, k_exit, k_goto, k_ret, b_normal, b_exit, b_goto, b_ret, wantedA, aop, ev, putA, List.length_cons, List.length_nil, List.replicate, List.cons_append, List.nil_append, List.append_nil, List.append_assoc, gs_same, gs_ne, gq_same, gq_ne, List.length_set, List.map_cons, List.map_nil, cellsOf, List.all_cons, List.all_nil, cellOk, boxTy, Bool.and_true, Bool.and_self, if_true, ite_true, ite_false, loadAt, storeAt, setAt, hget, hget0, hset, hset0, List.getElem?_cons_zero, List.getElem?_cons_succ, List.set_cons_zero, List.set_cons_succ, Nat.add_zero, Nat.zero_add, Nat.reduceAdd, Nat.reduceSub, Nat.reduceLeDiff, Nat.reduceLT, Nat.reduceEqDiff, Nat.le_refl, and_self, and_true, true_and, mkAgg, toIms, List.drop_zero, List.drop_succ_cons, List.take_succ_cons, List.take_zero, List.length_append, binBool, unA, Bool.false_eq_true, if_false, partA, fillA, fillE, List.take_nil, Nat.zero_ne_one, Nat.one_ne_zero, not_false_eq_true, ne_eq, Nat.succ_ne_self, reduceCtorEq, Int.reduceEq, Int.reduceLT, Int.reduceLE, decide_true, decide_false, lenA, beq_self_eq_true, beq_true, beq_false, Bool.not_true, Bool.not_false, b_lss, b_gtr, b_leq, b_geq, b_eql, b_neq, b_add, b_sub, b_mul, s_eql, s_neq, y_ops, y_nil, y_cons, y_guard, y_some, y_drop, y_do, y_not, y_not0, c_call, c_clo, c_move, c_pick, c_alloc, c_box, c_build, c_bslice, c_load, c_store, c_nilCheck, c_bin, c_binB, c_un, c_i2i, c_i2f, c_f2i, c_s2b, c_b2s, c_strId, c_mkfunc, c_mkslice, c_slice, c_sliceStr, c_fieldAddr, c_field, c_indexSl, c_indexArr, c_elemArr, c_indexStr, c_extract, c_lenStr, c_lenSl, c_append, c_real, c_imag, c_complex, c_min, c_max, c_clear, z_ops, z_nil, z_cons, z_guard, z_some, z_drop, z_do, z_not, z_not0, pairK, forall_eq_or_imp, stays, loadOf, List.reverse_cons, List.reverse_nil, List.mem_cons, List.not_mem_nil, or_false, forall_eq, true_or, or_true, Bool.true_and, hlen, h0, h1, h2, i0, i1, ex, ey, ez, exy, eyx, el, eyz, er, es, eo, exz, ea, ecx, ecy, et, eb, eg, toDatA2, Nat.mul_one, bs10, lenA_sl', List.length_map, zc5]
  generalize hr : thenL (Λ c8_0 _ _) _ = r
  refine Exists.elim (thenL_inv hr (key _ _ ?_ ?_ ?_ ?_)) ?_
  iterate 4 simp only [gs_same, gs_ne, List.length_set, Nat.reduceLT, Nat.reduceEqDiff, not_false_eq_true, hlen, List.map_cons, List.map_nil]
  clear hr key
  rintro e ⟨tm1, H1, ⟨rfl, g1, M, rfl⟩, rfl⟩
  simp only [x_seq, x_block, x_skip, x_label, x_cond, x_exit, x_goto, x_ret, k_normal, k_exit, k_goto, k_ret, b_normal, b_exit, b_goto, b_ret, wantedA, aop, ev, putA, List.length_cons, List.length_nil, List.replicate, List.cons_append, List.nil_append, List.append_nil, List.append_assoc, gs_same, gs_ne, gq_same, gq_ne, List.length_set, List.map_cons, List.map_nil, cellsOf, List.all_cons, List.all_nil, cellOk, boxTy, Bool.and_true, Bool.and_self, if_true, ite_true, ite_false, loadAt, storeAt, setAt, hget, hget0, hset, hset0, List.getElem?_cons_zero, List.getElem?_cons_succ, List.set_cons_zero, List.set_cons_succ, Nat.add_zero, Nat.zero_add, Nat.reduceAdd, Nat.reduceSub, Nat.reduceLeDiff, Nat.reduceLT, Nat.reduceEqDiff, Nat.le_refl, and_self, and_true, true_and, mkAgg, toIms, List.drop_zero, List.drop_succ_cons, List.take_succ_cons, List.take_zero, List.length_append, binBool, unA, Bool.false_eq_true, if_false, partA, fillA, fillE, List.take_nil, Nat.zero_ne_one, Nat.one_ne_zero, not_false_eq_true, ne_eq, Nat.succ_ne_self, reduceCtorEq, Int.reduceEq, Int.reduceLT, Int.reduceLE, decide_true, decide_false, lenA, beq_self_eq_true, beq_true, beq_false, Bool.not_true, Bool.not_false, b_lss, b_gtr, b_leq, b_geq, b_eql, b_neq, b_add, b_sub, b_mul, s_eql, s_neq, y_ops, y_nil, y_cons, y_guard, y_some, y_drop, y_do, y_not, y_not0, c_call, c_clo, c_move, c_pick, c_alloc, c_box, c_build, c_bslice, c_load, c_store, c_nilCheck, c_bin, c_binB, c_un, c_i2i, c_i2f, c_f2i, c_s2b, c_b2s, c_strId, c_mkfunc, c_mkslice, c_slice, c_sliceStr, c_fieldAddr, c_field, c_indexSl, c_indexArr, c_elemArr, c_indexStr, c_extract, c_lenStr, c_lenSl, c_append, c_real, c_imag, c_complex, c_min, c_max, c_clear, endK, resA, tupA, g1, s27, leave_app]

theorem s8c (a b c : Int × Int) (ha : (Lit.int .i64 a.1).wf = true ∧ (Lit.int .i64 a.2).wf = true) (hb : (Lit.int .i64 b.1).wf = true ∧ (Lit.int .i64 b.2).wf = true) (hc : (Lit.int .i64 c.1).wf = true ∧ (Lit.int .i64 c.2).wf = true) :
    ∃ H', L 8 [.im (.agg [.int .i64 a.1, .int .i64 a.2]), .im (.agg [.int .i64 b.1, .int .i64 b.2]), .im (.agg [.int .i64 c.1, .int .i64 c.2])] [] = some (.im (.bool true), H') :=
  ⟨[], s8 a.1 a.2 b.1 b.2 c.1 c.2 (wf_range ha.1) (wf_range ha.2) (wf_range hb.1) (wf_range hb.2) (wf_range hc.1) (wf_range hc.2) []⟩

end Go.Abs.Seat
end
