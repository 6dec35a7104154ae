/- Part 6 of what the claim rests on. -/
import Derived.Test.YthkimdejhkpdeaaBackA
import Derived.Test.YthkimdejhkpdeaaBackB
import Derived.Test.YthkimdejhkpdeaaBackC
import Derived.Test.YthkimdejhkpdeaaBackD
import Derived.Test.YthkimdejhkpdeaaBackE
section
/- What the seat's functions come to: the reader's sign. -/
set_option linter.unusedVariables false
set_option linter.unusedSimpArgs false
namespace Go.Abs.Seat
open Go.Proofs

def signB (s : List UInt8) (k : Nat) (c : UInt8) : Bool := decide (s[k]? = some c)
def objR (s : List UInt8) (k : Nat) : HO := .obj none [[.im (.str s), .im (.int .i64 (k : Int))]]

theorem s70 (s : List UInt8) (k ir : Nat) (c : UInt8) (H : Heap) (hir : H[ir]? = some (objR s k)) (hs : s.length ≤ 9223372036854775807) :
    L 70 [.ptr ir 0 0, .im (byteDat c)] H = some (.im (.bool (signB s k c)), H.set ir (objR s (if signB s k c = true then k + 1 else k))) := by
  have hirl := (List.getElem?_eq_some_iff.1 hir).1
  have p2 : (0 : Int) ≤ (k : Int) := Int.natCast_nonneg k
  have hl0 : leave H false (.im (.bool false)) H = (.im (.bool false), H) := leave_same
  have hl1 : ∀ o : HO, refsO H.length o = true → leave H false (.im (.bool true)) (H.set ir o) = (.im (.bool true), H.set ir o) := fun o ho => by
    have := leave_but (keep := false) (r := .im (.bool true)) (But.refl.set o) (List.getElem?_set_self hirl) ho rfl hirl
    simpa [degrade, toDat] using this
  have hl1' := hl1 (objR s (k + 1)) rfl
  simp only [objR, byteDat] at hir hl1' ⊢
  rw [leq F70]
  obtain ⟨hlen, ha⟩ := enter_at (f := f70) (args := [.ptr ir 0 0, .im (.int .u8 (c.toNat : Int))]) (Nat.le_of_ble_eq_true rfl)
  have h0 := ha 0 _ rfl
  have h1 := ha 1 _ rfl
  generalize enterA f70 [.ptr ir 0 0, .im (.int .u8 (c.toNat : Int))] = tm at *
  change tm.length = 35 at hlen
  by_cases hk : k < s.length
  · have hc : decide ((k : Int) < (s.length : Int)) = true := decide_eq_true (by omega)
    have hsk : s[k]? = some s[k] := List.getElem?_eq_getElem hk
    generalize s[k] = a at hsk
    have hwr := wrap_nat (i := k) (by omega)
    unfold signB
    rw [hsk]
    by_cases hac : a = c
    · have hd : decide (((a.toNat : Nat) : Int) = ((c.toNat : Nat) : Int)) = true := by rw [byte_eq]; exact decide_eq_true hac
      have hd2 : decide (some a = some c) = true := decide_eq_true (by rw [hac])
      rw [hd2]
      simp only [f70, x_seq, x_block, x_skip, x_label, x_cond, x_exit, x_goto, x_ret, k_normal, k_exit, k_goto, k_ret, b_normal, b_exit, b_goto, b_ret, wantedA, aop, ev, putA, List.length_cons, List.length_nil, List.replicate, List.cons_append, List.nil_append, List.append_nil, List.append_assoc, gs_same, gs_ne, gq_same, gq_ne, List.length_set, List.map_cons, List.map_nil, cellsOf, List.all_cons, List.all_nil, cellOk, boxTy, Bool.and_true, Bool.and_self, if_true, ite_true, ite_false, loadAt, storeAt, setAt, hget, hget0, hset, hset0, List.getElem?_cons_zero, List.getElem?_cons_succ, List.set_cons_zero, List.set_cons_succ, Nat.add_zero, Nat.zero_add, Nat.reduceAdd, Nat.reduceSub, Nat.reduceLeDiff, Nat.reduceLT, Nat.reduceEqDiff, Nat.le_refl, and_self, and_true, true_and, mkAgg, toIms, List.drop_zero, List.drop_succ_cons, List.take_succ_cons, List.take_zero, List.length_append, binBool, unA, Bool.false_eq_true, if_false, partA, fillA, fillE, List.take_nil, Nat.zero_ne_one, Nat.one_ne_zero, not_false_eq_true, ne_eq, Nat.succ_ne_self, reduceCtorEq, Int.reduceEq, Int.reduceLT, Int.reduceLE, decide_true, decide_false, lenA, beq_self_eq_true, beq_true, beq_false, Bool.not_true, Bool.not_false, b_lss, b_gtr, b_leq, b_geq, b_eql, b_neq, b_add, b_sub, b_mul, s_eql, s_neq, y_ops, y_nil, y_cons, y_guard, y_some, y_drop, y_do, y_not, y_not0, c_call, c_clo, c_move, c_pick, c_alloc, c_box, c_build, c_bslice, c_load, c_store, c_nilCheck, c_bin, c_binB, c_un, c_i2i, c_i2f, c_f2i, c_s2b, c_b2s, c_strId, c_mkfunc, c_mkslice, c_slice, c_sliceStr, c_fieldAddr, c_field, c_indexSl, c_indexArr, c_elemArr, c_indexStr, c_extract, c_lenStr, c_lenSl, c_append, c_real, c_imag, c_complex, c_min, c_max, c_clear, endK, resA, tupA, intOfA, byteDat, Int.toNat_natCast, hlen, h0, h1, hir, hc, p2, hsk, hd, hwr, hl1']
    · have hd : decide (((a.toNat : Nat) : Int) = ((c.toNat : Nat) : Int)) = false := by rw [byte_eq]; exact decide_eq_false hac
      have hd2 : decide (some a = some c) = false := decide_eq_false (by simpa using hac)
      rw [hd2]
      rw [show (if false = true then k + 1 else k) = k from rfl, set_same hir]
      simp only [f70, x_seq, x_block, x_skip, x_label, x_cond, x_exit, x_goto, x_ret, k_normal, k_exit, k_goto, k_ret, b_normal, b_exit, b_goto, b_ret, wantedA, aop, ev, putA, List.length_cons, List.length_nil, List.replicate, List.cons_append, List.nil_append, List.append_nil, List.append_assoc, gs_same, gs_ne, gq_same, gq_ne, List.length_set, List.map_cons, List.map_nil, cellsOf, List.all_cons, List.all_nil, cellOk, boxTy, Bool.and_true, Bool.and_self, if_true, ite_true, ite_false, loadAt, storeAt, setAt, hget, hget0, hset, hset0, List.getElem?_cons_zero, List.getElem?_cons_succ, List.set_cons_zero, List.set_cons_succ, Nat.add_zero, Nat.zero_add, Nat.reduceAdd, Nat.reduceSub, Nat.reduceLeDiff, Nat.reduceLT, Nat.reduceEqDiff, Nat.le_refl, and_self, and_true, true_and, mkAgg, toIms, List.drop_zero, List.drop_succ_cons, List.take_succ_cons, List.take_zero, List.length_append, binBool, unA, Bool.false_eq_true, if_false, partA, fillA, fillE, List.take_nil, Nat.zero_ne_one, Nat.one_ne_zero, not_false_eq_true, ne_eq, Nat.succ_ne_self, reduceCtorEq, Int.reduceEq, Int.reduceLT, Int.reduceLE, decide_true, decide_false, lenA, beq_self_eq_true, beq_true, beq_false, Bool.not_true, Bool.not_false, b_lss, b_gtr, b_leq, b_geq, b_eql, b_neq, b_add, b_sub, b_mul, s_eql, s_neq, y_ops, y_nil, y_cons, y_guard, y_some, y_drop, y_do, y_not, y_not0, c_call, c_clo, c_move, c_pick, c_alloc, c_box, c_build, c_bslice, c_load, c_store, c_nilCheck, c_bin, c_binB, c_un, c_i2i, c_i2f, c_f2i, c_s2b, c_b2s, c_strId, c_mkfunc, c_mkslice, c_slice, c_sliceStr, c_fieldAddr, c_field, c_indexSl, c_indexArr, c_elemArr, c_indexStr, c_extract, c_lenStr, c_lenSl, c_append, c_real, c_imag, c_complex, c_min, c_max, c_clear, endK, resA, tupA, intOfA, byteDat, Int.toNat_natCast, hlen, h0, h1, hir, hc, p2, hsk, hd, hwr, hl0]
  · have hc : decide ((k : Int) < (s.length : Int)) = false := decide_eq_false (by omega)
    have hsk : s[k]? = none := List.getElem?_eq_none (by omega)
    unfold signB
    rw [hsk]
    have hd2 : decide (none = some c) = false := decide_eq_false (by simp)
    rw [hd2]
    rw [show (if false = true then k + 1 else k) = k from rfl, set_same hir]
    simp only [f70, x_seq, x_block, x_skip, x_label, x_cond, x_exit, x_goto, x_ret, k_normal, k_exit, k_goto, k_ret, b_normal, b_exit, b_goto, b_ret, wantedA, aop, ev, putA, List.length_cons, List.length_nil, List.replicate, List.cons_append, List.nil_append, List.append_nil, List.append_assoc, gs_same, gs_ne, gq_same, gq_ne, List.length_set, List.map_cons, List.map_nil, cellsOf, List.all_cons, List.all_nil, cellOk, boxTy, Bool.and_true, Bool.and_self, if_true, ite_true, ite_false, loadAt, storeAt, setAt, hget, hget0, hset, hset0, List.getElem?_cons_zero, List.getElem?_cons_succ, List.set_cons_zero, List.set_cons_succ, Nat.add_zero, Nat.zero_add, Nat.reduceAdd, Nat.reduceSub, Nat.reduceLeDiff, Nat.reduceLT, Nat.reduceEqDiff, Nat.le_refl, and_self, and_true, true_and, mkAgg, toIms, List.drop_zero, List.drop_succ_cons, List.take_succ_cons, List.take_zero, List.length_append, binBool, unA, Bool.false_eq_true, if_false, partA, fillA, fillE, List.take_nil, Nat.zero_ne_one, Nat.one_ne_zero, not_false_eq_true, ne_eq, Nat.succ_ne_self, reduceCtorEq, Int.reduceEq, Int.reduceLT, Int.reduceLE, decide_true, decide_false, lenA, beq_self_eq_true, beq_true, beq_false, Bool.not_true, Bool.not_false, b_lss, b_gtr, b_leq, b_geq, b_eql, b_neq, b_add, b_sub, b_mul, s_eql, s_neq, y_ops, y_nil, y_cons, y_guard, y_some, y_drop, y_do, y_not, y_not0, c_call, c_clo, c_move, c_pick, c_alloc, c_box, c_build, c_bslice, c_load, c_store, c_nilCheck, c_bin, c_binB, c_un, c_i2i, c_i2f, c_f2i, c_s2b, c_b2s, c_strId, c_mkfunc, c_mkslice, c_slice, c_sliceStr, c_fieldAddr, c_field, c_indexSl, c_indexArr, c_elemArr, c_indexStr, c_extract, c_lenStr, c_lenSl, c_append, c_real, c_imag, c_complex, c_min, c_max, c_clear, endK, resA, tupA, hlen, h0, h1, hir, hc, hl0]

/-- A type as it is made. -/
def mkT (k : Int) (args : List KT) : KT := .mk k (if args.length = 0 then 0 else 2) args
def zeroT : KT := mkT 0 []

/-- The types behind a word: the place; if all is right, the types. -/
def readL (rd : Nat → Nat × KT × Bool) (s : List UInt8) : Nat → Nat → Nat → List KT → Nat × Option (List KT)
  | 0, i, k, acc => (k, some acc)
  | m + 1, i, k, acc => if signB s k (sepB i) = true then (if (rd (k + 1)).2.2 = true then readL rd s m (i + 1) (rd (k + 1)).1 (acc ++ [(rd (k + 1)).2.1]) else ((rd (k + 1)).1, none)) else (k, none)

/-- What is read: the place, the type, whether it is right. -/
def readP (s : List UInt8) : Nat → Nat → Nat × KT × Bool
  | 0, k => (k, zeroT, false)
  | d + 1, k => match word69 s k ((d : Int) + 1) with
    | (n, none) => (k + n, zeroT, false)
    | (n, some w) => match readL (readP s d) s w.2.2.toNat 0 (k + n) [] with
      | (k', none) => (k', zeroT, false)
      | (k', some l) => if w.2.2 = 0 then (k', mkT w.1 l, true) else (if signB s k' 41 = true then (k' + 1, mkT w.1 l, true) else (k', mkT w.1 l, false))

theorem sign_lt {s : List UInt8} {k : Nat} {c : UInt8} (h : signB s k c = true) : k < s.length := by
  have := of_decide_eq_true h
  exact (List.getElem?_eq_some_iff.1 this).1
end Go.Abs.Seat
end
section
/- What the seat's functions come to: the reader's read, its loop. -/
set_option linter.unusedVariables false
set_option linter.unusedSimpArgs false
namespace Go.Abs.Seat
open Go.Proofs

theorem l45 (s : List UInt8) (ir N : Nat) (H0 : Heap) (hN : N = H0.length) (hir : ir < N) (hs : s.length ≤ 9223372036854775807) (d d' : Int) (hd : IntKind.i64.wrap (d - 1) = d') (rd : Nat → Nat × KT × Bool)
    (cnt : Nat) (hrd : 0 < cnt → ∀ (k : Nat) (H : Heap), k ≤ s.length → H[ir]? = some (objR s k) → L 45 [.ptr ir 0 0, .im (.int .i64 d')] H = some (.tup [.im (.agg (encT (rd k).2.1)), .im (.bool (rd k).2.2)], H.set ir (objR s (rd k).1)))
    (hle : 0 < cnt → ∀ k, k ≤ s.length → (rd k).1 ≤ s.length) (hcnt : cnt ≤ 2) (kk : Int) (W : HO) :
    ∀ (m i : Nat), i + m = cnt → ∀ (tm : List AV) (H : Heap) (k : Nat) (acc : List KT) (v x y : AV), k ≤ s.length → acc.length = i → tm.length = 60 → tm.getD 0 undefA = .ptr ir 0 0 → tm.getD 1 undefA = .im (.int .i64 d) → tm.getD 4 undefA = .ptr N 0 0 → tm.getD 6 undefA = .ptr (N + 1) 0 0 → tm.getD 8 undefA = .ptr (N + 2) 0 0 →
    tm.getD 25 undefA = .im (.int .i64 (cnt : Int)) → tm.getD 26 undefA = .im (.int .i64 (i : Int)) → H[N]? = some (.obj none [[x, y]]) → H[N + 1]? = some W → H[N + 2]? = some (.obj none [[.im (.int .i64 kk), v]]) → Gath 25 2 (N + 3) v H (acc.map encT) → H[ir]? = some (objR s k) → But N ir H0 H → N + 3 ≤ H.length →
    ∃ e tm' H', Λ c45_0 tm H = some (e, tm', H') ∧ tm'.length = 60 ∧ tm'.getD 0 undefA = .ptr ir 0 0 ∧ tm'.getD 4 undefA = .ptr N 0 0 ∧ tm'.getD 6 undefA = .ptr (N + 1) 0 0 ∧ tm'.getD 8 undefA = .ptr (N + 2) 0 0 ∧ But N ir H0 H' ∧ H'[N + 1]? = some W ∧ N + 3 ≤ H'.length ∧
      H'[ir]? = some (objR s (readL rd s m i k acc).1) ∧ (readL rd s m i k acc).1 ≤ s.length ∧ match (readL rd s m i k acc).2 with
        | none => e = .ret ∧ H'[N]? = some (.obj none [[.im (.int .i64 0), .nils]]) ∧ tm'.getD 5 undefA = .im (.bool false)
        | some l => e = .exit 0 ∧ (∃ x y, H'[N]? = some (.obj none [[x, y]])) ∧ (∃ v', H'[N + 2]? = some (.obj none [[.im (.int .i64 kk), v']]) ∧ Gath 25 2 (N + 3) v' H' (l.map encT)) ∧ l.length = cnt
  | 0, i, hi, tm, H, k, acc, v, x, y, hk, hacc, hlen, h0, h1, h4, h6, h8, h25, h26, oN, o1, o2, hG, oir, hb, hHl => by
    have hc : decide ((i : Int) < (cnt : Int)) = false := decide_eq_false (by omega)
    rw [l45_0]
    simp only [readL, b45_0, x_seq, x_block, x_skip, x_label, x_cond, x_exit, x_goto, x_ret, k_normal, k_exit, k_goto, k_ret, b_normal, b_exit, b_goto, b_ret, wantedA, aop, ev, putA, List.length_cons, List.length_nil, List.replicate, List.cons_append, List.nil_append, List.append_nil, List.append_assoc, gs_same, gs_ne, gq_same, gq_ne, List.length_set, List.map_cons, List.map_nil, cellsOf, List.all_cons, List.all_nil, cellOk, boxTy, Bool.and_true, Bool.and_self, if_true, ite_true, ite_false, loadAt, storeAt, setAt, hget, hget0, hset, hset0, List.getElem?_cons_zero, List.getElem?_cons_succ, List.set_cons_zero, List.set_cons_succ, Nat.add_zero, Nat.zero_add, Nat.reduceAdd, Nat.reduceSub, Nat.reduceLeDiff, Nat.reduceLT, Nat.reduceEqDiff, Nat.le_refl, and_self, and_true, true_and, mkAgg, toIms, List.drop_zero, List.drop_succ_cons, List.take_succ_cons, List.take_zero, List.length_append, binBool, unA, Bool.false_eq_true, if_false, partA, fillA, fillE, List.take_nil, Nat.zero_ne_one, Nat.one_ne_zero, not_false_eq_true, ne_eq, Nat.succ_ne_self, reduceCtorEq, Int.reduceEq, Int.reduceLT, Int.reduceLE, decide_true, decide_false, lenA, beq_self_eq_true, beq_true, beq_false, Bool.not_true, Bool.not_false, b_lss, b_gtr, b_leq, b_geq, b_eql, b_neq, b_add, b_sub, b_mul, s_eql, s_neq, y_ops, y_nil, y_cons, y_guard, y_some, y_drop, y_do, y_not, y_not0, c_call, c_clo, c_move, c_pick, c_alloc, c_box, c_build, c_bslice, c_load, c_store, c_nilCheck, c_bin, c_binB, c_un, c_i2i, c_i2f, c_f2i, c_s2b, c_b2s, c_strId, c_mkfunc, c_mkslice, c_slice, c_sliceStr, c_fieldAddr, c_field, c_indexSl, c_indexArr, c_elemArr, c_indexStr, c_extract, c_lenStr, c_lenSl, c_append, c_real, c_imag, c_complex, c_min, c_max, c_clear, hlen, h25, h26, hc]
    exact ⟨_, _, _, rfl, by simp only [List.length_set, hlen], by simp only [gs_same, gs_ne, List.length_set, Nat.reduceLT, Nat.reduceEqDiff, not_false_eq_true, hlen, h0], by simp only [gs_same, gs_ne, List.length_set, Nat.reduceLT, Nat.reduceEqDiff, not_false_eq_true, hlen, h4], by simp only [gs_same, gs_ne, List.length_set, Nat.reduceLT, Nat.reduceEqDiff, not_false_eq_true, hlen, h6], by simp only [gs_same, gs_ne, List.length_set, Nat.reduceLT, Nat.reduceEqDiff, not_false_eq_true, hlen, h8], hb, o1, hHl, oir, hk, rfl, ⟨_, _, oN⟩, ⟨_, o2, hG⟩, by omega⟩
  | m + 1, i, hi, tm, H, k, acc, v, x, y, hk, hacc, hlen, h0, h1, h4, h6, h8, h25, h26, oN, o1, o2, hG, oir, hb, hHl => by
    have hc : decide ((i : Int) < (cnt : Int)) = true := decide_eq_true (by omega)
    have hnn : (0 : Int) ≤ (i : Int) := Int.natCast_nonneg i
    have hwr := wrap_nat (i := i) (by omega)
    have hsep : ([40, 44] : List UInt8)[i]? = some (sepB i) := by
      have : i = 0 ∨ i = 1 := by omega
      rcases this with rfl | rfl <;> rfl
    have h70 := s70 s k ir (sepB i) H oir hs
    simp only [byteDat] at h70
    have hirH : ir < H.length := by omega
    rw [l45_0]
    simp only [readL]
    by_cases hsg : signB s k (sepB i) = true
    · simp only [hsg, if_true] at h70 ⊢
      have hk1 : k + 1 ≤ s.length := sign_lt hsg
      have oir1 : (H.set ir (objR s (k + 1)))[ir]? = some (objR s (k + 1)) := List.getElem?_set_self hirH
      have h45 := hrd (by omega) (k + 1) _ hk1 oir1
      rw [List.set_set] at h45
      have hle1 := hle (by omega) (k + 1) hk1
      generalize hrk : rd (k + 1) = q at *
      obtain ⟨k2, t, ok⟩ := q
      simp only at h45 hle1 ⊢
      have gs : ∀ (j : Nat) (o o' : HO), j ≠ ir → H[j]? = some o → (H.set ir o')[j]? = some o := fun j o o' hne h => by rw [List.getElem?_set_ne (fun e => hne e.symm)]; exact h
      have oN1 := gs N _ (objR s k2) (by omega) oN
      have o11 := gs (N + 1) _ (objR s k2) (by omega) o1
      have o21 := gs (N + 2) _ (objR s k2) (by omega) o2
      have oir2 : (H.set ir (objR s k2))[ir]? = some (objR s k2) := List.getElem?_set_self hirH
      have hb2 := hb.set (objR s k2)
      have hG2 := hG.set_obj oir (objR s k2)
      have hHl2 : N + 3 ≤ (H.set ir (objR s k2)).length := by simpa using hHl
      generalize H.set ir (objR s k2) = H2 at *
      have ga : ∀ (j : Nat) (o : HO) (M : Heap), H2[j]? = some o → (H2 ++ M)[j]? = some o := fun j o M h => by rw [get_app (List.getElem?_eq_some_iff.1 h).1]; exact h
      obtain ⟨k', s', ts⟩ := t
      simp only [encT] at h45
      cases ok with
      | true =>
        have hGx := (hG2.more [.obj none [[.im (.int .i64 k'), .im (.sl s' (encTs ts))]]]).grow (bytes := 32) (by simp; omega) (encT (.mk k' s' ts)) (by simp; omega) (by decide)
        obtain ⟨tok, H3, hap, hG3, hl3, hlow3, hob3⟩ := hGx
        simp only [encT] at hap
        have oN2 := ga _ _ [.obj none [[.im (.int .i64 k'), .im (.sl s' (encTs ts))]]] oN1
        have o12 := ga _ _ [.obj none [[.im (.int .i64 k'), .im (.sl s' (encTs ts))]]] o11
        have o22 := ga _ _ [.obj none [[.im (.int .i64 k'), .im (.sl s' (encTs ts))]]] o21
        have o23 := hob3 _ _ _ o22
        have oir3 := ga _ _ [.obj none [[.im (.int .i64 k'), .im (.sl s' (encTs ts))]]] oir2
        have hid : decide True = true := rfl
        have key := l45 s ir N H0 hN hir hs d d' hd rd cnt hrd hle hcnt kk W m (i + 1) (by omega)
        simp only [b45_0, x_seq, x_block, x_skip, x_label, x_cond, x_exit, x_goto, x_ret, k_normal, k_exit, k_goto, k_ret, b_normal, b_exit, b_goto, b_ret, wantedA, aop, ev, putA, List.length_cons, List.length_nil, List.replicate, List.cons_append, List.nil_append, List.append_nil, List.append_assoc, gs_same, gs_ne, gq_same, gq_ne, List.length_set, List.map_cons, List.map_nil, cellsOf, List.all_cons, List.all_nil, cellOk, boxTy, Bool.and_true, Bool.and_self, if_true, ite_true, ite_false, loadAt, storeAt, setAt, hget, hget0, hset, hset0, List.getElem?_cons_zero, List.getElem?_cons_succ, List.set_cons_zero, List.set_cons_succ, Nat.add_zero, Nat.zero_add, Nat.reduceAdd, Nat.reduceSub, Nat.reduceLeDiff, Nat.reduceLT, Nat.reduceEqDiff, Nat.le_refl, and_self, and_true, true_and, mkAgg, toIms, List.drop_zero, List.drop_succ_cons, List.take_succ_cons, List.take_zero, List.length_append, binBool, unA, Bool.false_eq_true, if_false, partA, fillA, fillE, List.take_nil, Nat.zero_ne_one, Nat.one_ne_zero, not_false_eq_true, ne_eq, Nat.succ_ne_self, reduceCtorEq, Int.reduceEq, Int.reduceLT, Int.reduceLE, decide_true, decide_false, lenA, beq_self_eq_true, beq_true, beq_false, Bool.not_true, Bool.not_false, b_lss, b_gtr, b_leq, b_geq, b_eql, b_neq, b_add, b_sub, b_mul, s_eql, s_neq, y_ops, y_nil, y_cons, y_guard, y_some, y_drop, y_do, y_not, y_not0, c_call, c_clo, c_move, c_pick, c_alloc, c_box, c_build, c_bslice, c_load, c_store, c_nilCheck, c_bin, c_binB, c_un, c_i2i, c_i2f, c_f2i, c_s2b, c_b2s, c_strId, c_mkfunc, c_mkslice, c_slice, c_sliceStr, c_fieldAddr, c_field, c_indexSl, c_indexArr, c_elemArr, c_indexStr, c_extract, c_lenStr, c_lenSl, c_append, c_real, c_imag, c_complex, c_min, c_max, c_clear, intOfA, byteDat, elems, toDatss, toDats, toDat, Int.toNat_natCast, hlen, h0, h1, h4, h6, h8, h25, h26, hc, hnn, hsep, hd, h70, h45, o22, hap, o23, hwr]
        have hnir : N + 2 ≠ ir := by omega
        have oH3 : ∀ j, j < N + 3 → j ≠ N + 2 → ∀ o o', (H2 ++ [.obj none [[.im (.int .i64 k'), .im (.sl s' (encTs ts))]]])[j]? = some o → (H3.set (N + 2) o')[j]? = some o := fun j hj hj2 o o' h => by
          rw [List.getElem?_set_ne (fun e => hj2 e.symm), hlow3 j hj]; exact h
        have hmap : acc.map encT ++ [encT (.mk k' s' ts)] = (acc ++ [KT.mk k' s' ts]).map encT := by simp
        have hN2 : N + 2 < H3.length := by simp at hl3; omega
        refine ex_imp (key _ _ k2 (acc ++ [.mk k' s' ts]) (.asl 2 (acc.map encT ++ [encT (.mk k' s' ts)]) tok) x y hle1 (by simp; omega) ?_ ?_ ?_ ?_ ?_ ?_ ?_ ?_ ?_ ?_ ?_ ?_ ?_ ?_ ?_) fun _ _ _ h => h
        · simp only [List.length_set, hlen]
        iterate 7 simp only [gs_same, gs_ne, List.length_set, Nat.reduceLT, Nat.reduceEqDiff, not_false_eq_true, hlen, h0, h1, h4, h6, h8, h25]
        · exact oH3 N (by omega) (by omega) _ _ oN2
        · exact oH3 (N + 1) (by omega) (by omega) _ _ o12
        · rw [List.getElem?_set_self hN2]; simp only [encT]
        · rw [← hmap]; exact hG3.set_obj o23 _
        · exact oH3 ir (by omega) (by omega) _ _ oir3
        · have hb4 := hb2.app (by omega) [.obj none [[.im (.int .i64 k'), .im (.sl s' (encTs ts))]]]
          refine ⟨by have := hb4.1; simp; omega, fun j hj hne => ?_⟩
          rw [List.getElem?_set_ne (by omega), hlow3 j (by omega)]; exact hb4.2 j hj hne
        · simp; omega
      | false =>
        simp only [Bool.false_eq_true, if_false]
        have hb4 := hb2.app (by omega) [.obj none [[.im (.int .i64 k'), .im (.sl s' (encTs ts))]]]
        have oN2 := ga _ _ [.obj none [[.im (.int .i64 k'), .im (.sl s' (encTs ts))]]] oN1
        have o12 := ga _ _ [.obj none [[.im (.int .i64 k'), .im (.sl s' (encTs ts))]]] o11
        have oir3 := ga _ _ [.obj none [[.im (.int .i64 k'), .im (.sl s' (encTs ts))]]] oir2
        simp only [b45_0, x_seq, x_block, x_skip, x_label, x_cond, x_exit, x_goto, x_ret, k_normal, k_exit, k_goto, k_ret, b_normal, b_exit, b_goto, b_ret, wantedA, aop, ev, putA, List.length_cons, List.length_nil, List.replicate, List.cons_append, List.nil_append, List.append_nil, List.append_assoc, gs_same, gs_ne, gq_same, gq_ne, List.length_set, List.map_cons, List.map_nil, cellsOf, List.all_cons, List.all_nil, cellOk, boxTy, Bool.and_true, Bool.and_self, if_true, ite_true, ite_false, loadAt, storeAt, setAt, hget, hget0, hset, hset0, List.getElem?_cons_zero, List.getElem?_cons_succ, List.set_cons_zero, List.set_cons_succ, Nat.add_zero, Nat.zero_add, Nat.reduceAdd, Nat.reduceSub, Nat.reduceLeDiff, Nat.reduceLT, Nat.reduceEqDiff, Nat.le_refl, and_self, and_true, true_and, mkAgg, toIms, List.drop_zero, List.drop_succ_cons, List.take_succ_cons, List.take_zero, List.length_append, binBool, unA, Bool.false_eq_true, if_false, partA, fillA, fillE, List.take_nil, Nat.zero_ne_one, Nat.one_ne_zero, not_false_eq_true, ne_eq, Nat.succ_ne_self, reduceCtorEq, Int.reduceEq, Int.reduceLT, Int.reduceLE, decide_true, decide_false, lenA, beq_self_eq_true, beq_true, beq_false, Bool.not_true, Bool.not_false, b_lss, b_gtr, b_leq, b_geq, b_eql, b_neq, b_add, b_sub, b_mul, s_eql, s_neq, y_ops, y_nil, y_cons, y_guard, y_some, y_drop, y_do, y_not, y_not0, c_call, c_clo, c_move, c_pick, c_alloc, c_box, c_build, c_bslice, c_load, c_store, c_nilCheck, c_bin, c_binB, c_un, c_i2i, c_i2f, c_f2i, c_s2b, c_b2s, c_strId, c_mkfunc, c_mkslice, c_slice, c_sliceStr, c_fieldAddr, c_field, c_indexSl, c_indexArr, c_elemArr, c_indexStr, c_extract, c_lenStr, c_lenSl, c_append, c_real, c_imag, c_complex, c_min, c_max, c_clear, intOfA, byteDat, Int.toNat_natCast, hlen, h0, h1, h4, h6, h8, h25, h26, hc, hnn, hsep, hd, h70, h45, oN2, hwr]
        refine ⟨_, _, _, rfl, ?_, ?_, ?_, ?_, ?_, ?_, ?_, ?_, ?_, hle1, rfl, ?_, ?_⟩
        · simp only [List.length_set, hlen]
        iterate 4 simp only [gs_same, gs_ne, List.length_set, Nat.reduceLT, Nat.reduceEqDiff, not_false_eq_true, hlen, h0, h4, h6, h8]
        · refine ⟨by have := hb4.1; simp at this ⊢; omega, fun j hj hne => ?_⟩
          rw [List.getElem?_set_ne (by omega)]; exact hb4.2 j hj hne
        · rw [List.getElem?_set_ne (by omega)]; exact o12
        · simp; omega
        · rw [List.getElem?_set_ne (by omega)]; exact oir3
        · rw [List.getElem?_set_self (by simp; omega)]
        · simp only [gs_same, gs_ne, List.length_set, Nat.reduceLT, Nat.reduceEqDiff, not_false_eq_true, hlen]
    · have hsg' : signB s k (sepB i) = false := by simpa using hsg
      rw [hsg'] at h70 ⊢
      simp only [Bool.false_eq_true, if_false] at h70 ⊢
      rw [set_same oir] at h70
      simp only [b45_0, x_seq, x_block, x_skip, x_label, x_cond, x_exit, x_goto, x_ret, k_normal, k_exit, k_goto, k_ret, b_normal, b_exit, b_goto, b_ret, wantedA, aop, ev, putA, List.length_cons, List.length_nil, List.replicate, List.cons_append, List.nil_append, List.append_nil, List.append_assoc, gs_same, gs_ne, gq_same, gq_ne, List.length_set, List.map_cons, List.map_nil, cellsOf, List.all_cons, List.all_nil, cellOk, boxTy, Bool.and_true, Bool.and_self, if_true, ite_true, ite_false, loadAt, storeAt, setAt, hget, hget0, hset, hset0, List.getElem?_cons_zero, List.getElem?_cons_succ, List.set_cons_zero, List.set_cons_succ, Nat.add_zero, Nat.zero_add, Nat.reduceAdd, Nat.reduceSub, Nat.reduceLeDiff, Nat.reduceLT, Nat.reduceEqDiff, Nat.le_refl, and_self, and_true, true_and, mkAgg, toIms, List.drop_zero, List.drop_succ_cons, List.take_succ_cons, List.take_zero, List.length_append, binBool, unA, Bool.false_eq_true, if_false, partA, fillA, fillE, List.take_nil, Nat.zero_ne_one, Nat.one_ne_zero, not_false_eq_true, ne_eq, Nat.succ_ne_self, reduceCtorEq, Int.reduceEq, Int.reduceLT, Int.reduceLE, decide_true, decide_false, lenA, beq_self_eq_true, beq_true, beq_false, Bool.not_true, Bool.not_false, b_lss, b_gtr, b_leq, b_geq, b_eql, b_neq, b_add, b_sub, b_mul, s_eql, s_neq, y_ops, y_nil, y_cons, y_guard, y_some, y_drop, y_do, y_not, y_not0, c_call, c_clo, c_move, c_pick, c_alloc, c_box, c_build, c_bslice, c_load, c_store, c_nilCheck, c_bin, c_binB, c_un, c_i2i, c_i2f, c_f2i, c_s2b, c_b2s, c_strId, c_mkfunc, c_mkslice, c_slice, c_sliceStr, c_fieldAddr, c_field, c_indexSl, c_indexArr, c_elemArr, c_indexStr, c_extract, c_lenStr, c_lenSl, c_append, c_real, c_imag, c_complex, c_min, c_max, c_clear, intOfA, byteDat, Int.toNat_natCast, hlen, h0, h1, h4, h6, h8, h25, h26, hc, hnn, hsep, h70, oN, hwr]
      refine ⟨_, _, _, rfl, ?_, ?_, ?_, ?_, ?_, ?_, ?_, ?_, ?_, hk, rfl, ?_, ?_⟩
      · simp only [List.length_set, hlen]
      iterate 4 simp only [gs_same, gs_ne, List.length_set, Nat.reduceLT, Nat.reduceEqDiff, not_false_eq_true, hlen, h0, h4, h6, h8]
      · refine ⟨by have := hb.1; simp at this ⊢; omega, fun j hj hne => ?_⟩
        rw [List.getElem?_set_ne (by omega)]; exact hb.2 j hj hne
      · rw [List.getElem?_set_ne (by omega)]; exact o1
      · simp; omega
      · rw [List.getElem?_set_ne (by omega)]; exact oir
      · rw [List.getElem?_set_self (by omega)]
      · simp only [gs_same, gs_ne, List.length_set, Nat.reduceLT, Nat.reduceEqDiff, not_false_eq_true, hlen]

end Go.Abs.Seat
end
section
/- What the seat's functions come to: the reader's read. -/
set_option linter.unusedVariables false
set_option linter.unusedSimpArgs false
namespace Go.Abs.Seat
open Go.Proofs

theorem wordGo_some : ∀ (r : List UInt8) (k : Nat) (may : List Word) (n : Nat), n ≤ r.length → n ≤ (wordGo r k may n).1 ∧ (wordGo r k may n).1 ≤ r.length ∧ ∀ w, (wordGo r k may n).2 = some w → w ∈ may
  | r, 0, may, n, h => ⟨Nat.le_refl _, h, fun w hw => List.mem_of_find?_eq_some hw⟩
  | r, k + 1, may, n, h => by
    simp only [wordGo]
    cases hf : may.find? (fun w => decide (w.2.1.length = n)) with
    | some w =>
      refine ⟨Nat.le_refl _, h, fun w' hw => ?_⟩
      simp only [Option.some.injEq] at hw
      subst hw
      exact List.mem_of_find?_eq_some hf
    | none =>
      cases hr : r[n]? with
      | none => exact ⟨Nat.le_refl _, h, fun w' hw => by simp at hw⟩
      | some c =>
        have hn := (List.getElem?_eq_some_iff.1 hr).1
        simp only
        split
        · exact ⟨Nat.le_refl _, h, fun w' hw => by simp at hw⟩
        · obtain ⟨h1, h2, h3⟩ := wordGo_some r k (may.filter fun w => decide (w.2.1[n]? = some c)) (n + 1) hn
          exact ⟨by omega, h2, fun w' hw => (List.mem_filter.1 (h3 w' hw)).1⟩

theorem word69_le {s : List UInt8} {k : Nat} {d : Int} (hk : k ≤ s.length) : k + (word69 s k d).1 ≤ s.length ∧ ∀ w, (word69 s k d).2 = some w → w ∈ mayW d := by
  obtain ⟨_, h1, h2⟩ := wordGo_some (s.drop k) 8 (mayW d) 0 (Nat.zero_le _)
  rw [List.length_drop] at h1
  exact ⟨by unfold word69; omega, h2⟩

theorem words_cnt : ∀ w ∈ words, 0 ≤ w.2.2 ∧ w.2.2 ≤ 2 := by decide

theorem mayW_cnt {d : Int} {w : Word} (h : w ∈ mayW d) : 0 ≤ w.2.2 ∧ w.2.2 ≤ 2 ∧ (d = 1 → w.2.2 = 0) := by
  obtain ⟨h1, h2⟩ := List.mem_filter.1 h
  obtain ⟨h3, h4⟩ := words_cnt w h1
  refine ⟨h3, h4, fun hd => ?_⟩
  subst hd
  simp [outW] at h2
  omega

theorem readL_le (rd : Nat → Nat × KT × Bool) (s : List UInt8) (hrd : ∀ k, k ≤ s.length → (rd k).1 ≤ s.length) : ∀ (m i k : Nat) (acc : List KT), k ≤ s.length → (readL rd s m i k acc).1 ≤ s.length
  | 0, i, k, acc, h => h
  | m + 1, i, k, acc, h => by
    simp only [readL]
    split
    · rename_i hs
      have := hrd (k + 1) (sign_lt hs)
      split
      · exact readL_le rd s hrd m (i + 1) _ _ this
      · exact this
    · exact h

theorem readP_le (s : List UInt8) : ∀ (d k : Nat), k ≤ s.length → (readP s d k).1 ≤ s.length
  | 0, k, h => h
  | d + 1, k, h => by
    obtain ⟨h1, h2⟩ := word69_le (d := (d : Int) + 1) h
    simp only [readP]
    cases hw : word69 s k ((d : Int) + 1) with
    | mk n o =>
      rw [hw] at h1
      cases o with
      | none => exact h1
      | some w =>
        have h3 := readL_le (readP s d) s (fun k hk => readP_le s d k hk) w.2.2.toNat 0 (k + n) [] h1
        simp only
        cases hl : readL (readP s d) s w.2.2.toNat 0 (k + n) [] with
        | mk k' ol =>
          rw [hl] at h3
          cases ol with
          | none => exact h3
          | some l =>
            simp only
            split
            · exact h3
            · split
              · rename_i hs; exact sign_lt hs
              · exact h3

theorem s45k {H H' : Heap} {tm : List AV} {ir k n : Nat} {s : List UInt8} {kk : Int} {v : AV} {l : List KT} {b : Bool} (hir : ir < H.length) (h4 : tm.getD 4 undefA = .ptr H.length 0 0) (h5 : tm.getD 5 undefA = .im (.bool b)) (hN : H'[H.length]? = some (.obj none [[.im (.int .i64 kk), v]]))
    (hG : Gath 25 2 n v H' (l.map encT)) (hb : But H.length ir H H') (ho : H'[ir]? = some (objR s k)) : endK f45 H .ret tm H' = some (.tup [.im (.agg (encT (mkT kk l))), .im (.bool b)], H.set ir (objR s k)) := by
  have hr : ∀ v, (v = .nils ∧ l.map encT = [] ∨ ∃ tok, v = .asl 2 (l.map encT) tok ∧ l.map encT ≠ []) → leave H false (.tup [.agg [.im (.int .i64 kk), v], .im (.bool b)]) H' = (.tup [.im (.agg (encT (mkT kk l))), .im (.bool b)], H.set ir (objR s k)) := by
    intro v hv
    have hd : degrade (.tup [.agg [.im (.int .i64 kk), v], .im (.bool b)]) = .tup [.im (.agg (encT (mkT kk l))), .im (.bool b)] := by
      rcases hv with ⟨rfl, hl⟩ | ⟨tok, rfl, hl⟩
      · have hl0 : l = [] := by simpa using hl
        subst hl0
        simp [degrade, degrade1, toDat, toDats, mkT, encT, encTs]
      · have hl0 : l.length ≠ 0 := by simpa using hl
        simp only [degrade, degrade1, toDat, toDats, mkT, encT, encTs_map, if_neg hl0, List.map_cons, List.map_nil]
    have := leave_but (keep := false) (r := .tup [.agg [.im (.int .i64 kk), v], .im (.bool b)]) hb ho rfl (by simp only [Bool.false_eq_true, if_false, hd, refsLt, refsLts, Bool.and_self]) hir
    simpa only [Bool.false_eq_true, if_false, hd] using this
  have hfr : f45.results = [(4, some (some 2)), (5, none)] := rfl
  have hfk : f45.keep = false := rfl
  rcases hG with ⟨he, rfl⟩ | ⟨he, tok, _, rfl, _⟩
  · have := hr _ (.inl ⟨rfl, he⟩)
    simp only [endK, hfr, hfk, x_seq, x_block, x_skip, x_label, x_cond, x_exit, x_goto, x_ret, k_normal, k_exit, k_goto, k_ret, b_normal, b_exit, b_goto, b_ret, wantedA, aop, ev, putA, List.length_cons, List.length_nil, List.replicate, List.cons_append, List.nil_append, List.append_nil, List.append_assoc, gs_same, gs_ne, gq_same, gq_ne, List.length_set, List.map_cons, List.map_nil, cellsOf, List.all_cons, List.all_nil, cellOk, boxTy, Bool.and_true, Bool.and_self, if_true, ite_true, ite_false, loadAt, storeAt, setAt, hget, hget0, hset, hset0, List.getElem?_cons_zero, List.getElem?_cons_succ, List.set_cons_zero, List.set_cons_succ, Nat.add_zero, Nat.zero_add, Nat.reduceAdd, Nat.reduceSub, Nat.reduceLeDiff, Nat.reduceLT, Nat.reduceEqDiff, Nat.le_refl, and_self, and_true, true_and, mkAgg, toIms, List.drop_zero, List.drop_succ_cons, List.take_succ_cons, List.take_zero, List.length_append, binBool, unA, Bool.false_eq_true, if_false, partA, fillA, fillE, List.take_nil, Nat.zero_ne_one, Nat.one_ne_zero, not_false_eq_true, ne_eq, Nat.succ_ne_self, reduceCtorEq, Int.reduceEq, Int.reduceLT, Int.reduceLE, decide_true, decide_false, lenA, beq_self_eq_true, beq_true, beq_false, Bool.not_true, Bool.not_false, b_lss, b_gtr, b_leq, b_geq, b_eql, b_neq, b_add, b_sub, b_mul, s_eql, s_neq, y_ops, y_nil, y_cons, y_guard, y_some, y_drop, y_do, y_not, y_not0, c_call, c_clo, c_move, c_pick, c_alloc, c_box, c_build, c_bslice, c_load, c_store, c_nilCheck, c_bin, c_binB, c_un, c_i2i, c_i2f, c_f2i, c_s2b, c_b2s, c_strId, c_mkfunc, c_mkslice, c_slice, c_sliceStr, c_fieldAddr, c_field, c_indexSl, c_indexArr, c_elemArr, c_indexStr, c_extract, c_lenStr, c_lenSl, c_append, c_real, c_imag, c_complex, c_min, c_max, c_clear, resA, tupA, h4, h5, hN, this]
  · have := hr _ (.inr ⟨tok, rfl, he⟩)
    simp only [endK, hfr, hfk, x_seq, x_block, x_skip, x_label, x_cond, x_exit, x_goto, x_ret, k_normal, k_exit, k_goto, k_ret, b_normal, b_exit, b_goto, b_ret, wantedA, aop, ev, putA, List.length_cons, List.length_nil, List.replicate, List.cons_append, List.nil_append, List.append_nil, List.append_assoc, gs_same, gs_ne, gq_same, gq_ne, List.length_set, List.map_cons, List.map_nil, cellsOf, List.all_cons, List.all_nil, cellOk, boxTy, Bool.and_true, Bool.and_self, if_true, ite_true, ite_false, loadAt, storeAt, setAt, hget, hget0, hset, hset0, List.getElem?_cons_zero, List.getElem?_cons_succ, List.set_cons_zero, List.set_cons_succ, Nat.add_zero, Nat.zero_add, Nat.reduceAdd, Nat.reduceSub, Nat.reduceLeDiff, Nat.reduceLT, Nat.reduceEqDiff, Nat.le_refl, and_self, and_true, true_and, mkAgg, toIms, List.drop_zero, List.drop_succ_cons, List.take_succ_cons, List.take_zero, List.length_append, binBool, unA, Bool.false_eq_true, if_false, partA, fillA, fillE, List.take_nil, Nat.zero_ne_one, Nat.one_ne_zero, not_false_eq_true, ne_eq, Nat.succ_ne_self, reduceCtorEq, Int.reduceEq, Int.reduceLT, Int.reduceLE, decide_true, decide_false, lenA, beq_self_eq_true, beq_true, beq_false, Bool.not_true, Bool.not_false, b_lss, b_gtr, b_leq, b_geq, b_eql, b_neq, b_add, b_sub, b_mul, s_eql, s_neq, y_ops, y_nil, y_cons, y_guard, y_some, y_drop, y_do, y_not, y_not0, c_call, c_clo, c_move, c_pick, c_alloc, c_box, c_build, c_bslice, c_load, c_store, c_nilCheck, c_bin, c_binB, c_un, c_i2i, c_i2f, c_f2i, c_s2b, c_b2s, c_strId, c_mkfunc, c_mkslice, c_slice, c_sliceStr, c_fieldAddr, c_field, c_indexSl, c_indexArr, c_elemArr, c_indexStr, c_extract, c_lenStr, c_lenSl, c_append, c_real, c_imag, c_complex, c_min, c_max, c_clear, resA, tupA, h4, h5, hN, this]

theorem s45step (s : List UInt8) (ir : Nat) (hs : s.length ≤ 9223372036854775807) (d : Nat) (hd : d < 1000)
    (hrec : 0 < d → ∀ (k : Nat) (H : Heap), k ≤ s.length → H[ir]? = some (objR s k) → L 45 [.ptr ir 0 0, .im (.int .i64 (d : Int))] H = some (.tup [.im (.agg (encT (readP s d k).2.1)), .im (.bool (readP s d k).2.2)], H.set ir (objR s (readP s d k).1)))
    (k : Nat) (H : Heap) (hk : k ≤ s.length) (oir : H[ir]? = some (objR s k)) :
    L 45 [.ptr ir 0 0, .im (.int .i64 ((d : Int) + 1))] H = some (.tup [.im (.agg (encT (readP s (d + 1) k).2.1)), .im (.bool (readP s (d + 1) k).2.2)], H.set ir (objR s (readP s (d + 1) k).1)) := by
  have hir := (List.getElem?_eq_some_iff.1 oir).1
  have hoa : (H ++ [HO.obj none [[.im (.int .i64 0), .nils]]])[ir]? = some (objR s k) := by rw [get_app hir]; exact oir
  have h69 := s69 s k ir ((d : Int) + 1) _ hoa hs hk
  obtain ⟨hle, hmay⟩ := word69_le (d := (d : Int) + 1) hk
  have hb1 : But H.length ir H ((H ++ [HO.obj none [[.im (.int .i64 0), .nils]]]).set ir (objR s (k + (word69 s k ((d : Int) + 1)).1))) := (But.refl.app (Nat.le_refl _) _).set _
  have hx : ((H ++ [HO.obj none [[.im (.int .i64 0), .nils]]]).set ir (objR s (k + (word69 s k ((d : Int) + 1)).1))).length = H.length + 1 := by simp
  have hxN : ((H ++ [HO.obj none [[.im (.int .i64 0), .nils]]]).set ir (objR s (k + (word69 s k ((d : Int) + 1)).1)))[H.length]? = some (.obj none [[.im (.int .i64 0), .nils]]) := by rw [List.getElem?_set_ne (by omega), hget0]; rfl
  have hxr : ((H ++ [HO.obj none [[.im (.int .i64 0), .nils]]]).set ir (objR s (k + (word69 s k ((d : Int) + 1)).1)))[ir]? = some (objR s (k + (word69 s k ((d : Int) + 1)).1)) := by rw [List.getElem?_set_self (by simp; omega)]
  rw [leq F45]
  have hK := @s45k H
  have hcode : f45.code = f45.code := rfl
  conv at hcode => rhs; simp only [f45]
  rw [hcode]
  clear hcode
  generalize endK f45 H = K at *
  obtain ⟨hlen, ha⟩ := enter_at (f := f45) (args := [.ptr ir 0 0, .im (.int .i64 ((d : Int) + 1))]) (Nat.le_of_ble_eq_true rfl)
  have h0 := ha 0 _ rfl
  have h1 := ha 1 _ rfl
  generalize enterA f45 [.ptr ir 0 0, .im (.int .i64 ((d : Int) + 1))] = tm at *
  change tm.length = 60 at hlen
  simp only [readP]
  change L 69 _ _ = some (_, List.set _ ir (objR s (k + _))) at h69
  generalize hw : word69 s k ((d : Int) + 1) = q at *
  obtain ⟨n, ow⟩ := q
  simp only at hle hmay h69 hb1 hx hxN hxr ⊢
  generalize (H ++ [HO.obj none [[.im (.int .i64 0), .nils]]]).set ir (objR s (k + n)) = Hx at *
  have hxa : ∀ (j : Nat) (o : HO) (M : Heap), Hx[j]? = some o → (Hx ++ M)[j]? = some o := fun j o M h => by rw [get_app (List.getElem?_eq_some_iff.1 h).1]; exact h
  have hNa := hxa _ _ [HO.obj none [(encW (wordRes ow))]] hxN
  cases ow with
  | none =>
    simp only [wordRes, Option.isSome_none, datW] at h69
    simp only [wordRes, encW, zeroW] at hNa
    simp only [x_seq, x_block, x_skip, x_label, x_cond, x_exit, x_goto, x_ret, k_normal, k_exit, k_goto, k_ret, b_normal, b_exit, b_goto, b_ret, wantedA, aop, ev, putA, List.length_cons, List.length_nil, List.replicate, List.cons_append, List.nil_append, List.append_nil, List.append_assoc, gs_same, gs_ne, gq_same, gq_ne, List.length_set, List.map_cons, List.map_nil, cellsOf, List.all_cons, List.all_nil, cellOk, boxTy, Bool.and_true, Bool.and_self, if_true, ite_true, ite_false, loadAt, storeAt, setAt, hget, hget0, hset, hset0, List.getElem?_cons_zero, List.getElem?_cons_succ, List.set_cons_zero, List.set_cons_succ, Nat.add_zero, Nat.zero_add, Nat.reduceAdd, Nat.reduceSub, Nat.reduceLeDiff, Nat.reduceLT, Nat.reduceEqDiff, Nat.le_refl, and_self, and_true, true_and, mkAgg, toIms, List.drop_zero, List.drop_succ_cons, List.take_succ_cons, List.take_zero, List.length_append, binBool, unA, Bool.false_eq_true, if_false, partA, fillA, fillE, List.take_nil, Nat.zero_ne_one, Nat.one_ne_zero, not_false_eq_true, ne_eq, Nat.succ_ne_self, reduceCtorEq, Int.reduceEq, Int.reduceLT, Int.reduceLE, decide_true, decide_false, lenA, beq_self_eq_true, beq_true, beq_false, Bool.not_true, Bool.not_false, b_lss, b_gtr, b_leq, b_geq, b_eql, b_neq, b_add, b_sub, b_mul, s_eql, s_neq, y_ops, y_nil, y_cons, y_guard, y_some, y_drop, y_do, y_not, y_not0, c_call, c_clo, c_move, c_pick, c_alloc, c_box, c_build, c_bslice, c_load, c_store, c_nilCheck, c_bin, c_binB, c_un, c_i2i, c_i2f, c_f2i, c_s2b, c_b2s, c_strId, c_mkfunc, c_mkslice, c_slice, c_sliceStr, c_fieldAddr, c_field, c_indexSl, c_indexArr, c_elemArr, c_indexStr, c_extract, c_lenStr, c_lenSl, c_append, c_real, c_imag, c_complex, c_min, c_max, c_clear, hlen, h0, h1, h69, zeroW, hNa]
    have hb2 := hb1.app (Nat.le_refl _) [HO.obj none [[.im (.int .i64 0), .im (.str []), .im (.int .i64 0)]]]
    refine hK hir ?_ ?_ (v := .nils) (n := 0) ?_ (l := []) (.inl ⟨rfl, rfl⟩) ?_ ?_
    · simp only [gs_same, gs_ne, List.length_set, Nat.reduceLT, Nat.reduceEqDiff, not_false_eq_true, hlen]
    · simp only [gs_same, gs_ne, List.length_set, Nat.reduceLT, Nat.reduceEqDiff, not_false_eq_true, hlen]
    · rw [List.getElem?_set_self (by simp; omega)]
    · refine ⟨by have := hb2.1; simp at this ⊢; omega, fun j hj hne => ?_⟩
      rw [List.getElem?_set_ne (by omega)]; exact hb2.2 j hj hne
    · rw [List.getElem?_set_ne (by omega), get_app (by omega)]; exact hxr
  | some w =>
    obtain ⟨hc0, hc2, hc1⟩ := mayW_cnt (hmay w rfl)
    have hcnt : ((w.2.2.toNat : Nat) : Int) = w.2.2 := by omega
    simp only [wordRes, Option.isSome_some, datW] at h69
    simp only [wordRes, encW] at hNa
    have hwrap := Go.Abs.Seat.wrap_small ((d : Int) + 1 - 1) (by omega)
    have hdd : (d : Int) + 1 - 1 = d := by omega
    rw [hdd] at hwrap
    have key := l45 s ir H.length H rfl hir hs ((d : Int) + 1) (d : Int) (by rw [hdd]; exact hwrap) (readP s d) w.2.2.toNat (fun hp => hrec (by
      rcases Nat.eq_zero_or_pos d with h | h
      · subst h
        have := hc1 rfl
        omega
      · exact h)) (fun _ k hk => readP_le s d k hk) (by omega) w.1 (.obj none [encW w]) w.2.2.toNat 0 (by omega)
    have zz : ((0 : Nat) : Int) = 0 := rfl
    rw [hcnt, zz] at key
    simp only [e45_0, x_seq, x_block, x_skip, x_label, x_cond, x_exit, x_goto, x_ret, k_normal, k_exit, k_goto, k_ret, b_normal, b_exit, b_goto, b_ret, wantedA, aop, ev, putA, List.length_cons, List.length_nil, List.replicate, List.cons_append, List.nil_append, List.append_nil, List.append_assoc, gs_same, gs_ne, gq_same, gq_ne, List.length_set, List.map_cons, List.map_nil, cellsOf, List.all_cons, List.all_nil, cellOk, boxTy, Bool.and_true, Bool.and_self, if_true, ite_true, ite_false, loadAt, storeAt, setAt, hget, hget0, hset, hset0, List.getElem?_cons_zero, List.getElem?_cons_succ, List.set_cons_zero, List.set_cons_succ, Nat.add_zero, Nat.zero_add, Nat.reduceAdd, Nat.reduceSub, Nat.reduceLeDiff, Nat.reduceLT, Nat.reduceEqDiff, Nat.le_refl, and_self, and_true, true_and, mkAgg, toIms, List.drop_zero, List.drop_succ_cons, List.take_succ_cons, List.take_zero, List.length_append, binBool, unA, Bool.false_eq_true, if_false, partA, fillA, fillE, List.take_nil, Nat.zero_ne_one, Nat.one_ne_zero, not_false_eq_true, ne_eq, Nat.succ_ne_self, reduceCtorEq, Int.reduceEq, Int.reduceLT, Int.reduceLE, decide_true, decide_false, lenA, beq_self_eq_true, beq_true, beq_false, Bool.not_true, Bool.not_false, b_lss, b_gtr, b_leq, b_geq, b_eql, b_neq, b_add, b_sub, b_mul, s_eql, s_neq, y_ops, y_nil, y_cons, y_guard, y_some, y_drop, y_do, y_not, y_not0, c_call, c_clo, c_move, c_pick, c_alloc, c_box, c_build, c_bslice, c_load, c_store, c_nilCheck, c_bin, c_binB, c_un, c_i2i, c_i2f, c_f2i, c_s2b, c_b2s, c_strId, c_mkfunc, c_mkslice, c_slice, c_sliceStr, c_fieldAddr, c_field, c_indexSl, c_indexArr, c_elemArr, c_indexStr, c_extract, c_lenStr, c_lenSl, c_append, c_real, c_imag, c_complex, c_min, c_max, c_clear, hlen, h0, h1, h69]
    generalize hr : thenL _ _ = r
    refine Exists.elim (thenL_inv hr (key _ _ (k + n) [] .nils (.im (.int .i64 0)) .nils hle rfl ?_ ?_ ?_ ?_ ?_ ?_ ?_ ?_ ?_ ?_ ?_ (.inl ⟨rfl, rfl⟩) ?_ ?_ ?_)) ?_
    · simp only [List.length_set, hlen]
    · simp only [gs_same, gs_ne, List.length_set, Nat.reduceLT, Nat.reduceEqDiff, not_false_eq_true, hlen, h0]
    · simp only [gs_same, gs_ne, List.length_set, Nat.reduceLT, Nat.reduceEqDiff, not_false_eq_true, hlen, h1]
    · simp only [gs_same, gs_ne, List.length_set, Nat.reduceLT, Nat.reduceEqDiff, not_false_eq_true, hlen]
    · simp only [gs_same, gs_ne, List.length_set, Nat.reduceLT, Nat.reduceEqDiff, not_false_eq_true, hlen, hx]
    · simp only [gs_same, gs_ne, List.length_set, Nat.reduceLT, Nat.reduceEqDiff, not_false_eq_true, hlen, hx, Nat.add_assoc, Nat.reduceAdd]
    · simp only [gs_same, gs_ne, List.length_set, Nat.reduceLT, Nat.reduceEqDiff, not_false_eq_true, hlen]
    · simp only [gs_same, gs_ne, List.length_set, Nat.reduceLT, Nat.reduceEqDiff, not_false_eq_true, hlen]
    · exact hxa _ _ _ hxN
    · rw [← hx, hget0]; rfl
    · rw [show H.length + 2 = Hx.length + 1 by omega, hget]; rfl
    · exact hxa _ _ _ hxr
    · exact hb1.app (Nat.le_refl _) _
    · simp; omega
    clear hr
    rintro e ⟨tm1, H1, ⟨hl1, g0, g4, g6, g8, gb, gW, gl, gir, gle, hm⟩, rfl⟩
    generalize readL (readP s d) s w.2.2.toNat 0 (k + n) [] = q at *
    obtain ⟨k', ol⟩ := q
    simp only at gir gle hm ⊢
    cases ol with
    | none =>
      obtain ⟨rfl, oN, g5⟩ := hm
      simp only [b_ret, k_ret]
      exact hK hir g4 g5 oN (n := 0) (l := []) (.inl ⟨rfl, rfl⟩) gb gir
    | some l =>
      obtain ⟨rfl, ⟨x, y, oN⟩, ⟨v', o2, hG⟩, hll⟩ := hm
      simp only [encW] at gW
      have hgr : ∀ o, refsO H.length (objR s o) = true := fun o => rfl
      have hgo : HO.obj none [[.im (.str s), .im (.int .i64 (k' : Int))]] = objR s k' := rfl
      have h70 := s70 s k' ir 41 H1 gir hs
      simp only [byteDat, show (((41 : UInt8).toNat : Nat) : Int) = 41 from rfl] at h70
      have hld : ∀ o', loadAt (H1.set ir o') (some 2) (.ptr (H.length + 2) 0 0) = loadAt H1 (some 2) (.ptr (H.length + 2) 0 0) := fun o' => by
        simp only [loadAt, List.getElem?_set_ne (show ir ≠ H.length + 2 by omega)]
      have hbN : ∀ o, But H.length ir H (H1.set H.length o) := fun o => ⟨by have := gb.1; simpa using this, fun j hj hne => by rw [List.getElem?_set_ne (by omega)]; exact gb.2 j hj hne⟩
      have hlN : H.length < H1.length := by omega
      have hlr : ir < H1.length := by omega
      by_cases hw0 : w.2.2 = 0
      · have hd0 : decide (w.2.2 = 0) = true := decide_eq_true hw0
        simp only [if_pos hw0]
        have hG' := hG
        rcases hG with ⟨he, rfl⟩ | ⟨he, tok, _, rfl, _⟩
        all_goals simp only [x_seq, x_block, x_skip, x_label, x_cond, x_exit, x_goto, x_ret, k_normal, k_exit, k_goto, k_ret, b_normal, b_exit, b_goto, b_ret, wantedA, aop, ev, putA, List.length_cons, List.length_nil, List.replicate, List.cons_append, List.nil_append, List.append_nil, List.append_assoc, gs_same, gs_ne, gq_same, gq_ne, List.length_set, List.map_cons, List.map_nil, cellsOf, List.all_cons, List.all_nil, cellOk, boxTy, Bool.and_true, Bool.and_self, if_true, ite_true, ite_false, loadAt, storeAt, setAt, hget, hget0, hset, hset0, List.getElem?_cons_zero, List.getElem?_cons_succ, List.set_cons_zero, List.set_cons_succ, Nat.add_zero, Nat.zero_add, Nat.reduceAdd, Nat.reduceSub, Nat.reduceLeDiff, Nat.reduceLT, Nat.reduceEqDiff, Nat.le_refl, and_self, and_true, true_and, mkAgg, toIms, List.drop_zero, List.drop_succ_cons, List.take_succ_cons, List.take_zero, List.length_append, binBool, unA, Bool.false_eq_true, if_false, partA, fillA, fillE, List.take_nil, Nat.zero_ne_one, Nat.one_ne_zero, not_false_eq_true, ne_eq, Nat.succ_ne_self, reduceCtorEq, Int.reduceEq, Int.reduceLT, Int.reduceLE, decide_true, decide_false, lenA, beq_self_eq_true, beq_true, beq_false, Bool.not_true, Bool.not_false, b_lss, b_gtr, b_leq, b_geq, b_eql, b_neq, b_add, b_sub, b_mul, s_eql, s_neq, y_ops, y_nil, y_cons, y_guard, y_some, y_drop, y_do, y_not, y_not0, c_call, c_clo, c_move, c_pick, c_alloc, c_box, c_build, c_bslice, c_load, c_store, c_nilCheck, c_bin, c_binB, c_un, c_i2i, c_i2f, c_f2i, c_s2b, c_b2s, c_strId, c_mkfunc, c_mkslice, c_slice, c_sliceStr, c_fieldAddr, c_field, c_indexSl, c_indexArr, c_elemArr, c_indexStr, c_extract, c_lenStr, c_lenSl, c_append, c_real, c_imag, c_complex, c_min, c_max, c_clear, z_ops, z_nil, z_cons, z_guard, z_some, z_drop, z_do, z_not, z_not0, pairK, stays, loadOf, List.reverse_cons, List.reverse_nil, List.mem_cons, List.not_mem_nil, or_false, forall_eq, true_or, or_true, Bool.true_and, hl1, g0, g4, g6, g8, gW, o2, oN, hd0]
        all_goals refine hK hir ?_ ?_ (List.getElem?_set_self hlN) (hG'.set_obj oN _) (hbN _) ?_
        · simp only [gs_same, gs_ne, List.length_set, Nat.reduceLT, Nat.reduceEqDiff, not_false_eq_true, hl1, g4]
        · simp only [gs_same, gs_ne, List.length_set, Nat.reduceLT, Nat.reduceEqDiff, not_false_eq_true, hl1]
        · rw [List.getElem?_set_ne (by omega)]; exact gir
        · simp only [gs_same, gs_ne, List.length_set, Nat.reduceLT, Nat.reduceEqDiff, not_false_eq_true, hl1, g4]
        · simp only [gs_same, gs_ne, List.length_set, Nat.reduceLT, Nat.reduceEqDiff, not_false_eq_true, hl1]
        · rw [List.getElem?_set_ne (by omega)]; exact gir
      · have hd0 : decide (w.2.2 = 0) = false := decide_eq_false hw0
        simp only [if_neg hw0]
        have hG' := hG
        have oN' : ∀ o', (H1.set ir o')[H.length]? = some (.obj none [[x, y]]) := fun o' => by rw [List.getElem?_set_ne (by omega)]; exact oN
        have o2' : ∀ o', (H1.set ir o')[H.length + 2]? = some (.obj none [[.im (.int .i64 w.1), v']]) := fun o' => by rw [List.getElem?_set_ne (by omega)]; exact o2
        have hbN' : ∀ o o', But H.length ir H ((H1.set ir o').set H.length o) := fun o o' => ⟨by have := gb.1; simpa using this, fun j hj hne => by rw [List.getElem?_set_ne (by omega), List.getElem?_set_ne (by omega)]; exact gb.2 j hj hne⟩
        cases hsg : signB s k' 41 with
        | true =>
          rw [hsg] at h70
          simp only [if_true] at h70 ⊢
          rcases hG with ⟨he, rfl⟩ | ⟨he, tok, _, rfl, _⟩
          all_goals simp only [x_seq, x_block, x_skip, x_label, x_cond, x_exit, x_goto, x_ret, k_normal, k_exit, k_goto, k_ret, b_normal, b_exit, b_goto, b_ret, wantedA, aop, ev, putA, List.length_cons, List.length_nil, List.replicate, List.cons_append, List.nil_append, List.append_nil, List.append_assoc, gs_same, gs_ne, gq_same, gq_ne, List.length_set, List.map_cons, List.map_nil, cellsOf, List.all_cons, List.all_nil, cellOk, boxTy, Bool.and_true, Bool.and_self, if_true, ite_true, ite_false, loadAt, storeAt, setAt, hget, hget0, hset, hset0, List.getElem?_cons_zero, List.getElem?_cons_succ, List.set_cons_zero, List.set_cons_succ, Nat.add_zero, Nat.zero_add, Nat.reduceAdd, Nat.reduceSub, Nat.reduceLeDiff, Nat.reduceLT, Nat.reduceEqDiff, Nat.le_refl, and_self, and_true, true_and, mkAgg, toIms, List.drop_zero, List.drop_succ_cons, List.take_succ_cons, List.take_zero, List.length_append, binBool, unA, Bool.false_eq_true, if_false, partA, fillA, fillE, List.take_nil, Nat.zero_ne_one, Nat.one_ne_zero, not_false_eq_true, ne_eq, Nat.succ_ne_self, reduceCtorEq, Int.reduceEq, Int.reduceLT, Int.reduceLE, decide_true, decide_false, lenA, beq_self_eq_true, beq_true, beq_false, Bool.not_true, Bool.not_false, b_lss, b_gtr, b_leq, b_geq, b_eql, b_neq, b_add, b_sub, b_mul, s_eql, s_neq, y_ops, y_nil, y_cons, y_guard, y_some, y_drop, y_do, y_not, y_not0, c_call, c_clo, c_move, c_pick, c_alloc, c_box, c_build, c_bslice, c_load, c_store, c_nilCheck, c_bin, c_binB, c_un, c_i2i, c_i2f, c_f2i, c_s2b, c_b2s, c_strId, c_mkfunc, c_mkslice, c_slice, c_sliceStr, c_fieldAddr, c_field, c_indexSl, c_indexArr, c_elemArr, c_indexStr, c_extract, c_lenStr, c_lenSl, c_append, c_real, c_imag, c_complex, c_min, c_max, c_clear, z_ops, z_nil, z_cons, z_guard, z_some, z_drop, z_do, z_not, z_not0, pairK, stays, loadOf, List.reverse_cons, List.reverse_nil, List.mem_cons, List.not_mem_nil, or_false, forall_eq, true_or, or_true, Bool.true_and, hl1, g0, g4, g6, g8, gW, o2, o2', oN', hd0, h70]
          all_goals refine hK hir ?_ ?_ (List.getElem?_set_self (by simp; omega)) ((hG'.set_obj gir _).set_obj (oN' _) _) (hbN' _ _) ?_
          · simp only [gs_same, gs_ne, List.length_set, Nat.reduceLT, Nat.reduceEqDiff, not_false_eq_true, hl1, g4]
          · simp only [gs_same, gs_ne, List.length_set, Nat.reduceLT, Nat.reduceEqDiff, not_false_eq_true, hl1]
          · rw [List.getElem?_set_ne (by omega), List.getElem?_set_self hlr]
          · simp only [gs_same, gs_ne, List.length_set, Nat.reduceLT, Nat.reduceEqDiff, not_false_eq_true, hl1, g4]
          · simp only [gs_same, gs_ne, List.length_set, Nat.reduceLT, Nat.reduceEqDiff, not_false_eq_true, hl1]
          · rw [List.getElem?_set_ne (by omega), List.getElem?_set_self hlr]
        | false =>
          rw [hsg] at h70
          simp only [Bool.false_eq_true, if_false] at h70 ⊢
          rcases hG with ⟨he, rfl⟩ | ⟨he, tok, _, rfl, _⟩
          all_goals simp only [x_seq, x_block, x_skip, x_label, x_cond, x_exit, x_goto, x_ret, k_normal, k_exit, k_goto, k_ret, b_normal, b_exit, b_goto, b_ret, wantedA, aop, ev, putA, List.length_cons, List.length_nil, List.replicate, List.cons_append, List.nil_append, List.append_nil, List.append_assoc, gs_same, gs_ne, gq_same, gq_ne, List.length_set, List.map_cons, List.map_nil, cellsOf, List.all_cons, List.all_nil, cellOk, boxTy, Bool.and_true, Bool.and_self, if_true, ite_true, ite_false, loadAt, storeAt, setAt, hget, hget0, hset, hset0, List.getElem?_cons_zero, List.getElem?_cons_succ, List.set_cons_zero, List.set_cons_succ, Nat.add_zero, Nat.zero_add, Nat.reduceAdd, Nat.reduceSub, Nat.reduceLeDiff, Nat.reduceLT, Nat.reduceEqDiff, Nat.le_refl, and_self, and_true, true_and, mkAgg, toIms, List.drop_zero, List.drop_succ_cons, List.take_succ_cons, List.take_zero, List.length_append, binBool, unA, Bool.false_eq_true, if_false, partA, fillA, fillE, List.take_nil, Nat.zero_ne_one, Nat.one_ne_zero, not_false_eq_true, ne_eq, Nat.succ_ne_self, reduceCtorEq, Int.reduceEq, Int.reduceLT, Int.reduceLE, decide_true, decide_false, lenA, beq_self_eq_true, beq_true, beq_false, Bool.not_true, Bool.not_false, b_lss, b_gtr, b_leq, b_geq, b_eql, b_neq, b_add, b_sub, b_mul, s_eql, s_neq, y_ops, y_nil, y_cons, y_guard, y_some, y_drop, y_do, y_not, y_not0, c_call, c_clo, c_move, c_pick, c_alloc, c_box, c_build, c_bslice, c_load, c_store, c_nilCheck, c_bin, c_binB, c_un, c_i2i, c_i2f, c_f2i, c_s2b, c_b2s, c_strId, c_mkfunc, c_mkslice, c_slice, c_sliceStr, c_fieldAddr, c_field, c_indexSl, c_indexArr, c_elemArr, c_indexStr, c_extract, c_lenStr, c_lenSl, c_append, c_real, c_imag, c_complex, c_min, c_max, c_clear, z_ops, z_nil, z_cons, z_guard, z_some, z_drop, z_do, z_not, z_not0, pairK, stays, loadOf, List.reverse_cons, List.reverse_nil, List.mem_cons, List.not_mem_nil, or_false, forall_eq, true_or, or_true, Bool.true_and, hl1, g0, g4, g6, g8, gW, o2, o2', oN', hd0, h70]
          all_goals refine hK hir ?_ ?_ (List.getElem?_set_self (by simp; omega)) ((hG'.set_obj gir _).set_obj (oN' _) _) (hbN' _ _) ?_
          · simp only [gs_same, gs_ne, List.length_set, Nat.reduceLT, Nat.reduceEqDiff, not_false_eq_true, hl1, g4]
          · simp only [gs_same, gs_ne, List.length_set, Nat.reduceLT, Nat.reduceEqDiff, not_false_eq_true, hl1]
          · rw [List.getElem?_set_ne (by omega), List.getElem?_set_self hlr]
          · simp only [gs_same, gs_ne, List.length_set, Nat.reduceLT, Nat.reduceEqDiff, not_false_eq_true, hl1, g4]
          · simp only [gs_same, gs_ne, List.length_set, Nat.reduceLT, Nat.reduceEqDiff, not_false_eq_true, hl1]
          · rw [List.getElem?_set_ne (by omega), List.getElem?_set_self hlr]

theorem s45 (s : List UInt8) (ir : Nat) (hs : s.length ≤ 9223372036854775807) : ∀ (d : Nat), d < 1000 → ∀ (k : Nat) (H : Heap), k ≤ s.length → H[ir]? = some (objR s k) →
    L 45 [.ptr ir 0 0, .im (.int .i64 ((d : Int) + 1))] H = some (.tup [.im (.agg (encT (readP s (d + 1) k).2.1)), .im (.bool (readP s (d + 1) k).2.2)], H.set ir (objR s (readP s (d + 1) k).1)) := by
  intro d
  induction d with
  | zero => exact fun _ k H hk ho => s45step s ir hs 0 (by omega) (fun h => absurd h (by omega)) k H hk ho
  | succ d ih => exact fun hd k H hk ho => s45step s ir hs (d + 1) hd (fun _ => ih (by omega)) k H hk ho

end Go.Abs.Seat
end
section
/- What the seat's functions come to: Parse. -/
set_option linter.unusedVariables false
set_option linter.unusedSimpArgs false
namespace Go.Abs.Seat
open Go.Proofs

/-- Parse: the type, the place of the fault, the error. -/
def parseP (s : List UInt8) : KT × Nat × Int :=
  if (readP s 6 0).2.2 = true ∧ ¬ (readP s 6 0).1 < s.length then ((readP s 6 0).2.1, 0, 0) else (zeroT, (readP s 6 0).1, 40)

theorem s12 (s : List UInt8) (hs : s.length ≤ 9223372036854775807) (H : Heap) : L 12 [.im (.str s)] H = some (.tup [.im (.agg (encT (parseP s).1)), .im (.int .i64 ((parseP s).2.1 : Int)), .im (.int .i64 (parseP s).2.2)], H) := by
  have h45 := s45 s (H.length + 1) hs 5 (by decide) 0 (H ++ [HO.obj none [[.im (.int .i64 0), .nils]], objR s 0]) (Nat.zero_le _) (by rw [hget]; rfl)
  rw [hset, show (((5 : Nat) : Int) + 1) = 6 from rfl] at h45
  simp only [List.set_cons_succ, List.set_cons_zero] at h45
  unfold parseP
  generalize readP s (5 + 1) 0 = q at h45 ⊢
  obtain ⟨p, t, ok⟩ := q
  obtain ⟨k', s', ts⟩ := t
  have z0 : ((0 : Nat) : Int) = 0 := rfl
  simp only [encT, objR, z0] at h45
  have hlv : ∀ (M : Heap) (a b : Int), leave H false (.tup [.im (.agg [.int .i64 k', .sl s' (encTs ts)]), .im (.int .i64 a), .im (.int .i64 b)]) (H ++ M) = (.tup [.im (.agg [.int .i64 k', .sl s' (encTs ts)]), .im (.int .i64 a), .im (.int .i64 b)], H) := fun M a b => leave_deg (by simp [degrade, degrade1, toDat]) (by simp [refsLt, refsLts])
  have hlz : ∀ (M : Heap) (a b : Int), leave H false (.tup [.agg [.im (.int .i64 0), .nils], .im (.int .i64 a), .im (.int .i64 b)]) (H ++ M) = (.tup [.im (.agg [.int .i64 0, .sl 0 []]), .im (.int .i64 a), .im (.int .i64 b)], H) := fun M a b => leave_deg (by simp [degrade, degrade1, toDat, toDats]) (by simp [refsLt, refsLts])
  rw [leq F12]
  obtain ⟨hlen, ha⟩ := enter_at (f := f12) (args := [.im (.str s)]) (Nat.le_of_ble_eq_true rfl)
  have h0 := ha 0 _ rfl
  generalize enterA f12 [.im (.str s)] = tm at *
  change tm.length = 32 at hlen
  have hne : (H.length + 1 = H.length) = False := by simp
  simp only
  cases ok with
  | true =>
    by_cases hp : p < s.length
    · have hc : decide ((p : Int) < (s.length : Int)) = true := decide_eq_true (by omega)
      rw [if_neg (by simp [hp])]
      simp only [f12, zeroT, mkT, List.length_nil, if_true, encT, encTs, x_seq, x_block, x_skip, x_label, x_cond, x_exit, x_goto, x_ret, k_normal, k_exit, k_goto, k_ret, b_normal, b_exit, b_goto, b_ret, wantedA, aop, ev, putA, List.length_cons, List.length_nil, List.replicate, List.cons_append, List.nil_append, List.append_nil, List.append_assoc, gs_same, gs_ne, gq_same, gq_ne, List.length_set, List.map_cons, List.map_nil, cellsOf, List.all_cons, List.all_nil, cellOk, boxTy, Bool.and_true, Bool.and_self, if_true, ite_true, ite_false, loadAt, storeAt, setAt, hget, hget0, hset, hset0, List.getElem?_cons_zero, List.getElem?_cons_succ, List.set_cons_zero, List.set_cons_succ, Nat.add_zero, Nat.zero_add, Nat.reduceAdd, Nat.reduceSub, Nat.reduceLeDiff, Nat.reduceLT, Nat.reduceEqDiff, Nat.le_refl, and_self, and_true, true_and, mkAgg, toIms, List.drop_zero, List.drop_succ_cons, List.take_succ_cons, List.take_zero, List.length_append, binBool, unA, Bool.false_eq_true, if_false, partA, fillA, fillE, List.take_nil, Nat.zero_ne_one, Nat.one_ne_zero, not_false_eq_true, ne_eq, Nat.succ_ne_self, reduceCtorEq, Int.reduceEq, Int.reduceLT, Int.reduceLE, decide_true, decide_false, lenA, beq_self_eq_true, beq_true, beq_false, Bool.not_true, Bool.not_false, b_lss, b_gtr, b_leq, b_geq, b_eql, b_neq, b_add, b_sub, b_mul, s_eql, s_neq, y_ops, y_nil, y_cons, y_guard, y_some, y_drop, y_do, y_not, y_not0, c_call, c_clo, c_move, c_pick, c_alloc, c_box, c_build, c_bslice, c_load, c_store, c_nilCheck, c_bin, c_binB, c_un, c_i2i, c_i2f, c_f2i, c_s2b, c_b2s, c_strId, c_mkfunc, c_mkslice, c_slice, c_sliceStr, c_fieldAddr, c_field, c_indexSl, c_indexArr, c_elemArr, c_indexStr, c_extract, c_lenStr, c_lenSl, c_append, c_real, c_imag, c_complex, c_min, c_max, c_clear, z_ops, z_nil, z_cons, z_guard, z_some, z_drop, z_do, z_not, z_not0, pairK, stays, loadOf, List.reverse_cons, List.reverse_nil, List.mem_cons, List.not_mem_nil, or_false, forall_eq, true_or, or_true, Bool.true_and, endK, resA, tupA, hlen, h0, h45, hc, hlz]
    · have hc : decide ((p : Int) < (s.length : Int)) = false := decide_eq_false (by omega)
      rw [if_pos (by simp [hp])]
      simp only [f12, encT, x_seq, x_block, x_skip, x_label, x_cond, x_exit, x_goto, x_ret, k_normal, k_exit, k_goto, k_ret, b_normal, b_exit, b_goto, b_ret, wantedA, aop, ev, putA, List.length_cons, List.length_nil, List.replicate, List.cons_append, List.nil_append, List.append_nil, List.append_assoc, gs_same, gs_ne, gq_same, gq_ne, List.length_set, List.map_cons, List.map_nil, cellsOf, List.all_cons, List.all_nil, cellOk, boxTy, Bool.and_true, Bool.and_self, if_true, ite_true, ite_false, loadAt, storeAt, setAt, hget, hget0, hset, hset0, List.getElem?_cons_zero, List.getElem?_cons_succ, List.set_cons_zero, List.set_cons_succ, Nat.add_zero, Nat.zero_add, Nat.reduceAdd, Nat.reduceSub, Nat.reduceLeDiff, Nat.reduceLT, Nat.reduceEqDiff, Nat.le_refl, and_self, and_true, true_and, mkAgg, toIms, List.drop_zero, List.drop_succ_cons, List.take_succ_cons, List.take_zero, List.length_append, binBool, unA, Bool.false_eq_true, if_false, partA, fillA, fillE, List.take_nil, Nat.zero_ne_one, Nat.one_ne_zero, not_false_eq_true, ne_eq, Nat.succ_ne_self, reduceCtorEq, Int.reduceEq, Int.reduceLT, Int.reduceLE, decide_true, decide_false, lenA, beq_self_eq_true, beq_true, beq_false, Bool.not_true, Bool.not_false, b_lss, b_gtr, b_leq, b_geq, b_eql, b_neq, b_add, b_sub, b_mul, s_eql, s_neq, y_ops, y_nil, y_cons, y_guard, y_some, y_drop, y_do, y_not, y_not0, c_call, c_clo, c_move, c_pick, c_alloc, c_box, c_build, c_bslice, c_load, c_store, c_nilCheck, c_bin, c_binB, c_un, c_i2i, c_i2f, c_f2i, c_s2b, c_b2s, c_strId, c_mkfunc, c_mkslice, c_slice, c_sliceStr, c_fieldAddr, c_field, c_indexSl, c_indexArr, c_elemArr, c_indexStr, c_extract, c_lenStr, c_lenSl, c_append, c_real, c_imag, c_complex, c_min, c_max, c_clear, z_ops, z_nil, z_cons, z_guard, z_some, z_drop, z_do, z_not, z_not0, pairK, stays, loadOf, List.reverse_cons, List.reverse_nil, List.mem_cons, List.not_mem_nil, or_false, forall_eq, true_or, or_true, Bool.true_and, endK, resA, tupA, hlen, h0, h45, hc, hlv, z0]
  | false =>
    rw [if_neg (by simp)]
    simp only [f12, zeroT, mkT, List.length_nil, if_true, encT, encTs, x_seq, x_block, x_skip, x_label, x_cond, x_exit, x_goto, x_ret, k_normal, k_exit, k_goto, k_ret, b_normal, b_exit, b_goto, b_ret, wantedA, aop, ev, putA, List.length_cons, List.length_nil, List.replicate, List.cons_append, List.nil_append, List.append_nil, List.append_assoc, gs_same, gs_ne, gq_same, gq_ne, List.length_set, List.map_cons, List.map_nil, cellsOf, List.all_cons, List.all_nil, cellOk, boxTy, Bool.and_true, Bool.and_self, if_true, ite_true, ite_false, loadAt, storeAt, setAt, hget, hget0, hset, hset0, List.getElem?_cons_zero, List.getElem?_cons_succ, List.set_cons_zero, List.set_cons_succ, Nat.add_zero, Nat.zero_add, Nat.reduceAdd, Nat.reduceSub, Nat.reduceLeDiff, Nat.reduceLT, Nat.reduceEqDiff, Nat.le_refl, and_self, and_true, true_and, mkAgg, toIms, List.drop_zero, List.drop_succ_cons, List.take_succ_cons, List.take_zero, List.length_append, binBool, unA, Bool.false_eq_true, if_false, partA, fillA, fillE, List.take_nil, Nat.zero_ne_one, Nat.one_ne_zero, not_false_eq_true, ne_eq, Nat.succ_ne_self, reduceCtorEq, Int.reduceEq, Int.reduceLT, Int.reduceLE, decide_true, decide_false, lenA, beq_self_eq_true, beq_true, beq_false, Bool.not_true, Bool.not_false, b_lss, b_gtr, b_leq, b_geq, b_eql, b_neq, b_add, b_sub, b_mul, s_eql, s_neq, y_ops, y_nil, y_cons, y_guard, y_some, y_drop, y_do, y_not, y_not0, c_call, c_clo, c_move, c_pick, c_alloc, c_box, c_build, c_bslice, c_load, c_store, c_nilCheck, c_bin, c_binB, c_un, c_i2i, c_i2f, c_f2i, c_s2b, c_b2s, c_strId, c_mkfunc, c_mkslice, c_slice, c_sliceStr, c_fieldAddr, c_field, c_indexSl, c_indexArr, c_elemArr, c_indexStr, c_extract, c_lenStr, c_lenSl, c_append, c_real, c_imag, c_complex, c_min, c_max, c_clear, z_ops, z_nil, z_cons, z_guard, z_some, z_drop, z_do, z_not, z_not0, pairK, stays, loadOf, List.reverse_cons, List.reverse_nil, List.mem_cons, List.not_mem_nil, or_false, forall_eq, true_or, or_true, Bool.true_and, endK, resA, tupA, hlen, h0, h45, hlz]

end Go.Abs.Seat
end
section
/- What the seat's functions come to: the reference's begins, and its loop over a type's types. -/
set_option linter.unusedVariables false
set_option linter.unusedSimpArgs false
namespace Go.Abs.Seat
open Go.Proofs

def begB (w r : List UInt8) : Bool := decide (w.length ≤ r.length) && decide (r.take w.length = w)

theorem s71 (w r : List UInt8) (H : Heap) : L 71 [.im (.str w), .im (.str r)] H = some (.im (.bool (begB w r)), H) := by
  have hnn : (0 : Int) ≤ (w.length : Int) := Int.natCast_nonneg _
  rw [leq F71]
  obtain ⟨hlen, ha⟩ := enter_at (f := f71) (args := [.im (.str w), .im (.str r)]) (Nat.le_of_ble_eq_true rfl)
  have h0 := ha 0 _ rfl
  have h1 := ha 1 _ rfl
  generalize enterA f71 [.im (.str w), .im (.str r)] = tm at *
  change tm.length = 18 at hlen
  unfold begB
  by_cases h : w.length ≤ r.length
  · have hc : decide ((w.length : Int) ≤ (r.length : Int)) = true := decide_eq_true (by omega)
    have hd : decide (w.length ≤ r.length) = true := decide_eq_true h
    have hz : 0 ≤ w.length ∧ w.length ≤ r.length := ⟨Nat.zero_le _, h⟩
    simp only [f71, x_seq, x_block, x_skip, x_label, x_cond, x_exit, x_goto, x_ret, k_normal, k_exit, k_goto, k_ret, b_normal, b_exit, b_goto, b_ret, wantedA, aop, ev, putA, List.length_cons, List.length_nil, List.replicate, List.cons_append, List.nil_append, List.append_nil, List.append_assoc, gs_same, gs_ne, gq_same, gq_ne, List.length_set, List.map_cons, List.map_nil, cellsOf, List.all_cons, List.all_nil, cellOk, boxTy, Bool.and_true, Bool.and_self, if_true, ite_true, ite_false, loadAt, storeAt, setAt, hget, hget0, hset, hset0, List.getElem?_cons_zero, List.getElem?_cons_succ, List.set_cons_zero, List.set_cons_succ, Nat.add_zero, Nat.zero_add, Nat.reduceAdd, Nat.reduceSub, Nat.reduceLeDiff, Nat.reduceLT, Nat.reduceEqDiff, Nat.le_refl, and_self, and_true, true_and, mkAgg, toIms, List.drop_zero, List.drop_succ_cons, List.take_succ_cons, List.take_zero, List.length_append, binBool, unA, Bool.false_eq_true, if_false, partA, fillA, fillE, List.take_nil, Nat.zero_ne_one, Nat.one_ne_zero, not_false_eq_true, ne_eq, Nat.succ_ne_self, reduceCtorEq, Int.reduceEq, Int.reduceLT, Int.reduceLE, decide_true, decide_false, lenA, beq_self_eq_true, beq_true, beq_false, Bool.not_true, Bool.not_false, b_lss, b_gtr, b_leq, b_geq, b_eql, b_neq, b_add, b_sub, b_mul, s_eql, s_neq, y_ops, y_nil, y_cons, y_guard, y_some, y_drop, y_do, y_not, y_not0, c_call, c_clo, c_move, c_pick, c_alloc, c_box, c_build, c_bslice, c_load, c_store, c_nilCheck, c_bin, c_binB, c_un, c_i2i, c_i2f, c_f2i, c_s2b, c_b2s, c_strId, c_mkfunc, c_mkslice, c_slice, c_sliceStr, c_fieldAddr, c_field, c_indexSl, c_indexArr, c_elemArr, c_indexStr, c_extract, c_lenStr, c_lenSl, c_append, c_real, c_imag, c_complex, c_min, c_max, c_clear, endK, resA, tupA, boundA, intOfA, Int.toNat_natCast, hnn, hlen, h0, h1, hc, hd, hz, Nat.sub_zero, Bool.true_and, leave_same, Nat.zero_le, h]
  · have hc : decide ((w.length : Int) ≤ (r.length : Int)) = false := decide_eq_false (by omega)
    have hd : decide (w.length ≤ r.length) = false := decide_eq_false h
    simp only [f71, x_seq, x_block, x_skip, x_label, x_cond, x_exit, x_goto, x_ret, k_normal, k_exit, k_goto, k_ret, b_normal, b_exit, b_goto, b_ret, wantedA, aop, ev, putA, List.length_cons, List.length_nil, List.replicate, List.cons_append, List.nil_append, List.append_nil, List.append_assoc, gs_same, gs_ne, gq_same, gq_ne, List.length_set, List.map_cons, List.map_nil, cellsOf, List.all_cons, List.all_nil, cellOk, boxTy, Bool.and_true, Bool.and_self, if_true, ite_true, ite_false, loadAt, storeAt, setAt, hget, hget0, hset, hset0, List.getElem?_cons_zero, List.getElem?_cons_succ, List.set_cons_zero, List.set_cons_succ, Nat.add_zero, Nat.zero_add, Nat.reduceAdd, Nat.reduceSub, Nat.reduceLeDiff, Nat.reduceLT, Nat.reduceEqDiff, Nat.le_refl, and_self, and_true, true_and, mkAgg, toIms, List.drop_zero, List.drop_succ_cons, List.take_succ_cons, List.take_zero, List.length_append, binBool, unA, Bool.false_eq_true, if_false, partA, fillA, fillE, List.take_nil, Nat.zero_ne_one, Nat.one_ne_zero, not_false_eq_true, ne_eq, Nat.succ_ne_self, reduceCtorEq, Int.reduceEq, Int.reduceLT, Int.reduceLE, decide_true, decide_false, lenA, beq_self_eq_true, beq_true, beq_false, Bool.not_true, Bool.not_false, b_lss, b_gtr, b_leq, b_geq, b_eql, b_neq, b_add, b_sub, b_mul, s_eql, s_neq, y_ops, y_nil, y_cons, y_guard, y_some, y_drop, y_do, y_not, y_not0, c_call, c_clo, c_move, c_pick, c_alloc, c_box, c_build, c_bslice, c_load, c_store, c_nilCheck, c_bin, c_binB, c_un, c_i2i, c_i2f, c_f2i, c_s2b, c_b2s, c_strId, c_mkfunc, c_mkslice, c_slice, c_sliceStr, c_fieldAddr, c_field, c_indexSl, c_indexArr, c_elemArr, c_indexStr, c_extract, c_lenStr, c_lenSl, c_append, c_real, c_imag, c_complex, c_min, c_max, c_clear, endK, resA, tupA, hlen, h0, h1, hc, hd, Bool.false_and, leave_same]

theorem l46a (s : List UInt8) (N : Nat) (hs : s.length ≤ 9223372036854775807) (d d' : Int) (hd : IntKind.i64.wrap (d - 1) = d') (rd : Nat → Nat × KT × Bool) (kd : Int) (cnt : Nat) (hck : cntK kd = (cnt : Int))
    (hrd : 0 < cnt → ∀ (k : Nat) (H : Heap), k ≤ s.length → L 46 [.im (.str s), .im (.int .i64 (k : Int)), .im (.int .i64 d')] H = some (.tup [.im (.agg (encT (rd k).2.1)), .im (.int .i64 ((rd k).1 : Int)), .im (.bool (rd k).2.2)], H))
    (hle : 0 < cnt → ∀ k, k ≤ s.length → (rd k).1 ≤ s.length) (hcnt : cnt ≤ 2) :
    ∀ (m i : Nat), i + m = cnt → ∀ (tm : List AV) (H : Heap) (k : Nat) (acc : List KT) (v x y : AV), k ≤ s.length → acc.length = i → tm.length = 163 → tm.getD 0 undefA = .im (.str s) → tm.getD 1 undefA = .im (.int .i64 (k : Int)) → tm.getD 2 undefA = .im (.int .i64 d) → tm.getD 6 undefA = .ptr N 0 0 → tm.getD 9 undefA = .im (.int .i64 kd) → tm.getD 11 undefA = .ptr (N + 1) 0 0 →
    tm.getD 12 undefA = .im (.int .i64 (i : Int)) → H[N]? = some (.obj none [[x, y]]) → H[N + 1]? = some (.obj none [[.im (.int .i64 kd), v]]) → Gath 31 2 (N + 2) v H (acc.map encT) → N + 2 ≤ H.length →
    ∃ e tm' H', Λ c46_2 tm H = some (e, tm', H') ∧ tm'.length = 163 ∧ tm'.getD 0 undefA = .im (.str s) ∧ tm'.getD 6 undefA = .ptr N 0 0 ∧ tm'.getD 9 undefA = .im (.int .i64 kd) ∧ tm'.getD 11 undefA = .ptr (N + 1) 0 0 ∧ (∀ i, i < N → H'[i]? = H[i]?) ∧ N + 2 ≤ H'.length ∧
      (readL rd s m i k acc).1 ≤ s.length ∧ match (readL rd s m i k acc).2 with
        | none => e = .ret ∧ H'[N]? = some (.obj none [[.im (.int .i64 0), .nils]]) ∧ tm'.getD 7 undefA = .im (.int .i64 ((readL rd s m i k acc).1 : Int)) ∧ tm'.getD 8 undefA = .im (.bool false)
        | some l => e = .exit 2 ∧ tm'.getD 1 undefA = .im (.int .i64 ((readL rd s m i k acc).1 : Int)) ∧ H'[N]? = some (.obj none [[x, y]]) ∧ (∃ v', H'[N + 1]? = some (.obj none [[.im (.int .i64 kd), v']]) ∧ Gath 31 2 (N + 2) v' H' (l.map encT)) ∧ l.length = cnt
  | 0, i, hi, tm, H, k, acc, v, x, y, hk, hacc, hlen, h0, h1, h2, h6, h9, h11, h12, oN, o1, hG, hHl => by
    have hc : decide ((i : Int) < (cnt : Int)) = false := decide_eq_false (by omega)
    have h23 := s23 kd
    rw [hck] at h23
    rw [l46_2]
    simp only [readL, b46_2, x_seq, x_block, x_skip, x_label, x_cond, x_exit, x_goto, x_ret, k_normal, k_exit, k_goto, k_ret, b_normal, b_exit, b_goto, b_ret, wantedA, aop, ev, putA, List.length_cons, List.length_nil, List.replicate, List.cons_append, List.nil_append, List.append_nil, List.append_assoc, gs_same, gs_ne, gq_same, gq_ne, List.length_set, List.map_cons, List.map_nil, cellsOf, List.all_cons, List.all_nil, cellOk, boxTy, Bool.and_true, Bool.and_self, if_true, ite_true, ite_false, loadAt, storeAt, setAt, hget, hget0, hset, hset0, List.getElem?_cons_zero, List.getElem?_cons_succ, List.set_cons_zero, List.set_cons_succ, Nat.add_zero, Nat.zero_add, Nat.reduceAdd, Nat.reduceSub, Nat.reduceLeDiff, Nat.reduceLT, Nat.reduceEqDiff, Nat.le_refl, and_self, and_true, true_and, mkAgg, toIms, List.drop_zero, List.drop_succ_cons, List.take_succ_cons, List.take_zero, List.length_append, binBool, unA, Bool.false_eq_true, if_false, partA, fillA, fillE, List.take_nil, Nat.zero_ne_one, Nat.one_ne_zero, not_false_eq_true, ne_eq, Nat.succ_ne_self, reduceCtorEq, Int.reduceEq, Int.reduceLT, Int.reduceLE, decide_true, decide_false, lenA, beq_self_eq_true, beq_true, beq_false, Bool.not_true, Bool.not_false, b_lss, b_gtr, b_leq, b_geq, b_eql, b_neq, b_add, b_sub, b_mul, s_eql, s_neq, y_ops, y_nil, y_cons, y_guard, y_some, y_drop, y_do, y_not, y_not0, c_call, c_clo, c_move, c_pick, c_alloc, c_box, c_build, c_bslice, c_load, c_store, c_nilCheck, c_bin, c_binB, c_un, c_i2i, c_i2f, c_f2i, c_s2b, c_b2s, c_strId, c_mkfunc, c_mkslice, c_slice, c_sliceStr, c_fieldAddr, c_field, c_indexSl, c_indexArr, c_elemArr, c_indexStr, c_extract, c_lenStr, c_lenSl, c_append, c_real, c_imag, c_complex, c_min, c_max, c_clear, hlen, h9, h12, h23, hc]
    exact ⟨_, _, _, rfl, by simp only [List.length_set, hlen], by simp only [gs_same, gs_ne, List.length_set, Nat.reduceLT, Nat.reduceEqDiff, not_false_eq_true, hlen, h0], by simp only [gs_same, gs_ne, List.length_set, Nat.reduceLT, Nat.reduceEqDiff, not_false_eq_true, hlen, h6], by simp only [gs_same, gs_ne, List.length_set, Nat.reduceLT, Nat.reduceEqDiff, not_false_eq_true, hlen, h9], by simp only [gs_same, gs_ne, List.length_set, Nat.reduceLT, Nat.reduceEqDiff, not_false_eq_true, hlen, h11], fun _ _ => rfl, hHl, hk, rfl, by simp only [gs_same, gs_ne, List.length_set, Nat.reduceLT, Nat.reduceEqDiff, not_false_eq_true, hlen, h1], oN, ⟨_, o1, hG⟩, by omega⟩
  | m + 1, i, hi, tm, H, k, acc, v, x, y, hk, hacc, hlen, h0, h1, h2, h6, h9, h11, h12, oN, o1, hG, hHl => by
    have hc : decide ((i : Int) < (cnt : Int)) = true := decide_eq_true (by omega)
    have hnn : (0 : Int) ≤ (k : Int) := Int.natCast_nonneg k
    have hwr := wrap_nat (i := i) (by omega)
    have h23 := s23 kd
    rw [hck] at h23
    have hcase : (decide ((0 : Int) < (i : Int)) = false ∧ ((sepB i).toNat : Int) = 40) ∨ (decide ((0 : Int) < (i : Int)) = true ∧ ((sepB i).toNat : Int) = 44) := by
      have : i = 0 ∨ i = 1 := by omega
      rcases this with rfl | rfl
      · exact .inl ⟨rfl, rfl⟩
      · exact .inr ⟨rfl, rfl⟩
    rw [l46_2]
    simp only [readL]
    by_cases hsg : signB s k (sepB i) = true
    · simp only [hsg, if_true]
      have hk1 : k < s.length := sign_lt hsg
      have hge : decide ((s.length : Int) ≤ (k : Int)) = false := decide_eq_false (by omega)
      have hsk : s[k]? = some (sepB i) := of_decide_eq_true hsg
      have hwk := wrap_nat (i := k) (by omega)
      have h46 := fun H => hrd (by omega) (k + 1) H hk1
      have hle1 := hle (by omega) (k + 1) hk1
      generalize hrk : rd (k + 1) = q at *
      obtain ⟨k2, t, ok⟩ := q
      simp only at h46 hle1 ⊢
      obtain ⟨k', s', ts⟩ := t
      simp only [encT] at h46
      have ga : ∀ (j : Nat) (o : HO) (M : Heap), H[j]? = some o → (H ++ M)[j]? = some o := fun j o M h => by rw [get_app (List.getElem?_eq_some_iff.1 h).1]; exact h
      have oN1 := ga _ _ [HO.obj none [[.im (.int .i64 k'), .im (.sl s' (encTs ts))]]] oN
      have o11 := ga _ _ [HO.obj none [[.im (.int .i64 k'), .im (.sl s' (encTs ts))]]] o1
      cases ok with
      | true =>
        have hGx := (hG.more [HO.obj none [[.im (.int .i64 k'), .im (.sl s' (encTs ts))]]]).grow (bytes := 32) (by simp; omega) (encT (.mk k' s' ts)) (by simp; omega) (by decide)
        obtain ⟨tok, H3, hap, hG3, hl3, hlow3, hob3⟩ := hGx
        simp only [encT] at hap
        have o13 := hob3 _ _ _ o11
        have oN3 := hob3 _ _ _ oN1
        have hl3' : H.length + 1 ≤ H3.length := by simpa using hl3
        have key := l46a s N hs d d' hd rd kd cnt hck hrd hle hcnt m (i + 1) (by omega)
        have hmap : acc.map encT ++ [encT (.mk k' s' ts)] = (acc ++ [KT.mk k' s' ts]).map encT := by simp
        rcases hcase with ⟨hg, hb40⟩ | ⟨hg, hb40⟩
        all_goals simp only [b46_2, x_seq, x_block, x_skip, x_label, x_cond, x_exit, x_goto, x_ret, k_normal, k_exit, k_goto, k_ret, b_normal, b_exit, b_goto, b_ret, wantedA, aop, ev, putA, List.length_cons, List.length_nil, List.replicate, List.cons_append, List.nil_append, List.append_nil, List.append_assoc, gs_same, gs_ne, gq_same, gq_ne, List.length_set, List.map_cons, List.map_nil, cellsOf, List.all_cons, List.all_nil, cellOk, boxTy, Bool.and_true, Bool.and_self, if_true, ite_true, ite_false, loadAt, storeAt, setAt, hget, hget0, hset, hset0, List.getElem?_cons_zero, List.getElem?_cons_succ, List.set_cons_zero, List.set_cons_succ, Nat.add_zero, Nat.zero_add, Nat.reduceAdd, Nat.reduceSub, Nat.reduceLeDiff, Nat.reduceLT, Nat.reduceEqDiff, Nat.le_refl, and_self, and_true, true_and, mkAgg, toIms, List.drop_zero, List.drop_succ_cons, List.take_succ_cons, List.take_zero, List.length_append, binBool, unA, Bool.false_eq_true, if_false, partA, fillA, fillE, List.take_nil, Nat.zero_ne_one, Nat.one_ne_zero, not_false_eq_true, ne_eq, Nat.succ_ne_self, reduceCtorEq, Int.reduceEq, Int.reduceLT, Int.reduceLE, decide_true, decide_false, lenA, beq_self_eq_true, beq_true, beq_false, Bool.not_true, Bool.not_false, b_lss, b_gtr, b_leq, b_geq, b_eql, b_neq, b_add, b_sub, b_mul, s_eql, s_neq, y_ops, y_nil, y_cons, y_guard, y_some, y_drop, y_do, y_not, y_not0, c_call, c_clo, c_move, c_pick, c_alloc, c_box, c_build, c_bslice, c_load, c_store, c_nilCheck, c_bin, c_binB, c_un, c_i2i, c_i2f, c_f2i, c_s2b, c_b2s, c_strId, c_mkfunc, c_mkslice, c_slice, c_sliceStr, c_fieldAddr, c_field, c_indexSl, c_indexArr, c_elemArr, c_indexStr, c_extract, c_lenStr, c_lenSl, c_append, c_real, c_imag, c_complex, c_min, c_max, c_clear, intOfA, byteDat, elems, toDatss, toDats, toDat, Int.toNat_natCast, hlen, h0, h1, h2, h6, h9, h11, h12, hc, hg, hnn, h23, hge, hsk, hb40, hwk, hd, h46, o11, hap, o13, hwr]
        all_goals refine ex_imp (key _ _ k2 (acc ++ [.mk k' s' ts]) (.asl 2 (acc.map encT ++ [encT (.mk k' s' ts)]) tok) x y hle1 (by simp; omega) ?_ ?_ ?_ ?_ ?_ ?_ ?_ ?_ ?_ ?_ ?_ ?_) ?_
        all_goals first
          | (simp only [gs_same, gs_ne, List.length_set, Nat.reduceLT, Nat.reduceEqDiff, not_false_eq_true, hlen, h0, h1, h2, h6, h9, h11]; done)
          | (rw [List.getElem?_set_ne (by omega)]; exact oN3)
          | (rw [List.getElem?_set_self (by omega)]; simp only [encT])
          | (rw [← hmap]; exact hG3.set_obj o13 _)
          | (simp only [List.length_set]; omega)
          | (rintro e tm' H' ⟨a1, a2, a3, a4, a5, a6, a7⟩
             refine ⟨a1, a2, a3, a4, a5, fun j hj => ?_, a7⟩
             rw [a6 j hj, List.getElem?_set_ne (by omega), hlow3 j (by omega), get_app (by omega)])
      | false =>
        simp only [Bool.false_eq_true, if_false]
        rcases hcase with ⟨hg, hb40⟩ | ⟨hg, hb40⟩
        all_goals simp only [b46_2, x_seq, x_block, x_skip, x_label, x_cond, x_exit, x_goto, x_ret, k_normal, k_exit, k_goto, k_ret, b_normal, b_exit, b_goto, b_ret, wantedA, aop, ev, putA, List.length_cons, List.length_nil, List.replicate, List.cons_append, List.nil_append, List.append_nil, List.append_assoc, gs_same, gs_ne, gq_same, gq_ne, List.length_set, List.map_cons, List.map_nil, cellsOf, List.all_cons, List.all_nil, cellOk, boxTy, Bool.and_true, Bool.and_self, if_true, ite_true, ite_false, loadAt, storeAt, setAt, hget, hget0, hset, hset0, List.getElem?_cons_zero, List.getElem?_cons_succ, List.set_cons_zero, List.set_cons_succ, Nat.add_zero, Nat.zero_add, Nat.reduceAdd, Nat.reduceSub, Nat.reduceLeDiff, Nat.reduceLT, Nat.reduceEqDiff, Nat.le_refl, and_self, and_true, true_and, mkAgg, toIms, List.drop_zero, List.drop_succ_cons, List.take_succ_cons, List.take_zero, List.length_append, binBool, unA, Bool.false_eq_true, if_false, partA, fillA, fillE, List.take_nil, Nat.zero_ne_one, Nat.one_ne_zero, not_false_eq_true, ne_eq, Nat.succ_ne_self, reduceCtorEq, Int.reduceEq, Int.reduceLT, Int.reduceLE, decide_true, decide_false, lenA, beq_self_eq_true, beq_true, beq_false, Bool.not_true, Bool.not_false, b_lss, b_gtr, b_leq, b_geq, b_eql, b_neq, b_add, b_sub, b_mul, s_eql, s_neq, y_ops, y_nil, y_cons, y_guard, y_some, y_drop, y_do, y_not, y_not0, c_call, c_clo, c_move, c_pick, c_alloc, c_box, c_build, c_bslice, c_load, c_store, c_nilCheck, c_bin, c_binB, c_un, c_i2i, c_i2f, c_f2i, c_s2b, c_b2s, c_strId, c_mkfunc, c_mkslice, c_slice, c_sliceStr, c_fieldAddr, c_field, c_indexSl, c_indexArr, c_elemArr, c_indexStr, c_extract, c_lenStr, c_lenSl, c_append, c_real, c_imag, c_complex, c_min, c_max, c_clear, intOfA, byteDat, Int.toNat_natCast, hlen, h0, h1, h2, h6, h9, h11, h12, hc, hg, hnn, h23, hge, hsk, hb40, hwk, hd, h46, oN1, hwr]
        all_goals refine ⟨_, _, _, rfl, ?_, ?_, ?_, ?_, ?_, ?_, ?_, hle1, rfl, ?_, ?_, ?_⟩
        all_goals first
          | (simp only [gs_same, gs_ne, List.length_set, Nat.reduceLT, Nat.reduceEqDiff, not_false_eq_true, hlen, h0, h6, h9, h11]; done)
          | (intro j hj; rw [List.getElem?_set_ne (by omega), get_app (by omega)])
          | (rw [List.getElem?_set_self (by simp; omega)]; done)
          | (simp; omega)
    · have hsg' : signB s k (sepB i) = false := by simpa using hsg
      rw [hsg']
      simp only [Bool.false_eq_true, if_false]
      by_cases hk1 : k < s.length
      · have hge : decide ((s.length : Int) ≤ (k : Int)) = false := decide_eq_false (by omega)
        have hsk : s[k]? = some s[k] := List.getElem?_eq_getElem hk1
        generalize s[k] = a at hsk
        have hne : decide (((a.toNat : Nat) : Int) = (((sepB i).toNat : Nat) : Int)) = false := by
          rw [byte_eq]
          refine decide_eq_false fun h => ?_
          rw [signB, hsk, h] at hsg'
          simp at hsg'
        rcases hcase with ⟨hg, hb40⟩ | ⟨hg, hb40⟩
        all_goals rw [hb40] at hne
        all_goals simp only [b46_2, x_seq, x_block, x_skip, x_label, x_cond, x_exit, x_goto, x_ret, k_normal, k_exit, k_goto, k_ret, b_normal, b_exit, b_goto, b_ret, wantedA, aop, ev, putA, List.length_cons, List.length_nil, List.replicate, List.cons_append, List.nil_append, List.append_nil, List.append_assoc, gs_same, gs_ne, gq_same, gq_ne, List.length_set, List.map_cons, List.map_nil, cellsOf, List.all_cons, List.all_nil, cellOk, boxTy, Bool.and_true, Bool.and_self, if_true, ite_true, ite_false, loadAt, storeAt, setAt, hget, hget0, hset, hset0, List.getElem?_cons_zero, List.getElem?_cons_succ, List.set_cons_zero, List.set_cons_succ, Nat.add_zero, Nat.zero_add, Nat.reduceAdd, Nat.reduceSub, Nat.reduceLeDiff, Nat.reduceLT, Nat.reduceEqDiff, Nat.le_refl, and_self, and_true, true_and, mkAgg, toIms, List.drop_zero, List.drop_succ_cons, List.take_succ_cons, List.take_zero, List.length_append, binBool, unA, Bool.false_eq_true, if_false, partA, fillA, fillE, List.take_nil, Nat.zero_ne_one, Nat.one_ne_zero, not_false_eq_true, ne_eq, Nat.succ_ne_self, reduceCtorEq, Int.reduceEq, Int.reduceLT, Int.reduceLE, decide_true, decide_false, lenA, beq_self_eq_true, beq_true, beq_false, Bool.not_true, Bool.not_false, b_lss, b_gtr, b_leq, b_geq, b_eql, b_neq, b_add, b_sub, b_mul, s_eql, s_neq, y_ops, y_nil, y_cons, y_guard, y_some, y_drop, y_do, y_not, y_not0, c_call, c_clo, c_move, c_pick, c_alloc, c_box, c_build, c_bslice, c_load, c_store, c_nilCheck, c_bin, c_binB, c_un, c_i2i, c_i2f, c_f2i, c_s2b, c_b2s, c_strId, c_mkfunc, c_mkslice, c_slice, c_sliceStr, c_fieldAddr, c_field, c_indexSl, c_indexArr, c_elemArr, c_indexStr, c_extract, c_lenStr, c_lenSl, c_append, c_real, c_imag, c_complex, c_min, c_max, c_clear, intOfA, byteDat, Int.toNat_natCast, hlen, h0, h1, h2, h6, h9, h11, h12, hc, hg, hnn, h23, hge, hsk, hne, oN, hwr]
        all_goals refine ⟨_, _, _, rfl, ?_, ?_, ?_, ?_, ?_, ?_, ?_, hk, rfl, ?_, ?_, ?_⟩
        all_goals first
          | (simp only [gs_same, gs_ne, List.length_set, Nat.reduceLT, Nat.reduceEqDiff, not_false_eq_true, hlen, h0, h6, h9, h11]; done)
          | (intro j hj; rw [List.getElem?_set_ne (by omega)]; done)
          | (rw [List.getElem?_set_self (by omega)]; done)
          | (simp; omega)
      · have hge : decide ((s.length : Int) ≤ (k : Int)) = true := decide_eq_true (by omega)
        rcases hcase with ⟨hg, hb40⟩ | ⟨hg, hb40⟩
        all_goals simp only [b46_2, x_seq, x_block, x_skip, x_label, x_cond, x_exit, x_goto, x_ret, k_normal, k_exit, k_goto, k_ret, b_normal, b_exit, b_goto, b_ret, wantedA, aop, ev, putA, List.length_cons, List.length_nil, List.replicate, List.cons_append, List.nil_append, List.append_nil, List.append_assoc, gs_same, gs_ne, gq_same, gq_ne, List.length_set, List.map_cons, List.map_nil, cellsOf, List.all_cons, List.all_nil, cellOk, boxTy, Bool.and_true, Bool.and_self, if_true, ite_true, ite_false, loadAt, storeAt, setAt, hget, hget0, hset, hset0, List.getElem?_cons_zero, List.getElem?_cons_succ, List.set_cons_zero, List.set_cons_succ, Nat.add_zero, Nat.zero_add, Nat.reduceAdd, Nat.reduceSub, Nat.reduceLeDiff, Nat.reduceLT, Nat.reduceEqDiff, Nat.le_refl, and_self, and_true, true_and, mkAgg, toIms, List.drop_zero, List.drop_succ_cons, List.take_succ_cons, List.take_zero, List.length_append, binBool, unA, Bool.false_eq_true, if_false, partA, fillA, fillE, List.take_nil, Nat.zero_ne_one, Nat.one_ne_zero, not_false_eq_true, ne_eq, Nat.succ_ne_self, reduceCtorEq, Int.reduceEq, Int.reduceLT, Int.reduceLE, decide_true, decide_false, lenA, beq_self_eq_true, beq_true, beq_false, Bool.not_true, Bool.not_false, b_lss, b_gtr, b_leq, b_geq, b_eql, b_neq, b_add, b_sub, b_mul, s_eql, s_neq, y_ops, y_nil, y_cons, y_guard, y_some, y_drop, y_do, y_not, y_not0, c_call, c_clo, c_move, c_pick, c_alloc, c_box, c_build, c_bslice, c_load, c_store, c_nilCheck, c_bin, c_binB, c_un, c_i2i, c_i2f, c_f2i, c_s2b, c_b2s, c_strId, c_mkfunc, c_mkslice, c_slice, c_sliceStr, c_fieldAddr, c_field, c_indexSl, c_indexArr, c_elemArr, c_indexStr, c_extract, c_lenStr, c_lenSl, c_append, c_real, c_imag, c_complex, c_min, c_max, c_clear, intOfA, byteDat, Int.toNat_natCast, hlen, h0, h1, h2, h6, h9, h11, h12, hc, hg, hnn, h23, hge, oN, hwr]
        all_goals refine ⟨_, _, _, rfl, ?_, ?_, ?_, ?_, ?_, ?_, ?_, hk, rfl, ?_, ?_, ?_⟩
        all_goals first
          | (simp only [gs_same, gs_ne, List.length_set, Nat.reduceLT, Nat.reduceEqDiff, not_false_eq_true, hlen, h0, h6, h9, h11]; done)
          | (intro j hj; rw [List.getElem?_set_ne (by omega)]; done)
          | (rw [List.getElem?_set_self (by omega)]; done)
          | (simp; omega)

end Go.Abs.Seat
end
section
/- What the seat's functions come to: Show. -/
set_option linter.unusedVariables false
set_option linter.unusedSimpArgs false
namespace Go.Abs.Seat
open Go.Proofs

theorem bytesE_of : ∀ l : List UInt8, bytesE (l.map fun b => [byteDat b]) = some l
  | [] => rfl
  | b :: l => by
    have h := bytesE_of l
    simp only [List.map_cons, byteDat, bytesE]
    simp only [byteDat] at h
    rw [h]
    have hb := b.toNat_lt
    simp only
    rw [if_pos ⟨by omega, by omega⟩]
    simp

mutual
theorem show_len : ∀ (t : KT) (d : Nat), rightT t d = true → (showT t).length ≤ 100 * 4 ^ d
  | .mk k s args, d, h => by
    have hg := gath_len k words word_len
    have hw8 : words.length = 8 := rfl
    simp only [rightT] at h
    split at h
    · rename_i i hi
      split at h
      · simp at h
      · rename_i hd
        obtain ⟨d, rfl⟩ : ∃ d', d = d' + 1 := ⟨d - 1, by omega⟩
        split at h
        · rename_i hl
          have h2 := kcnt_le i (kidx_lt hi).1
          have := show_lens args d 40 (by simpa using h)
          have hp : 0 < 4 ^ d := Nat.pos_of_ne_zero (by simp)
          have hm : args.length * (1 + 100 * 4 ^ d) ≤ 2 * (1 + 100 * 4 ^ d) := Nat.mul_le_mul_right _ (by omega)
          have he : 4 ^ (d + 1) = 4 * 4 ^ d := by rw [Nat.pow_succ]; omega
          simp only [showT, List.length_append]
          split <;> simp <;> omega
        · simp at h
    · simp at h
theorem show_lens : ∀ (l : List KT) (d : Nat) (c : UInt8), rightNot l d = false → (showTs l c).length ≤ l.length * (1 + 100 * 4 ^ d)
  | [], d, c, h => by simp [showTs]
  | a :: l, d, c, h => by
    simp only [rightNot, Bool.or_eq_false_iff, Bool.not_eq_false'] at h
    have h1 := show_len a d h.1
    have h2 := show_lens l d 44 h.2
    simp only [showTs, List.length_cons, List.length_append, Nat.add_mul]
    omega
end

theorem show_ne : ∀ (t : KT) (d : Int), rightT t d = true → showT t ≠ []
  | .mk k s args, d, h => by
    simp only [rightT] at h
    split at h
    · rename_i i hi
      simp only [showT]
      intro e
      have e2 := (List.append_eq_nil_iff.1 e).1
      have hi' := hi
      unfold kidx at hi'
      obtain ⟨h1, h2, _⟩ := List.findIdx?_eq_some_iff_getElem.1 hi'
      have key : ∀ w ∈ words, gath w.1 words ≠ [] := by decide
      have := key words[i] (List.getElem_mem h1)
      rw [of_decide_eq_true h2] at this
      exact this e2
    · simp at h

/-- Show. -/
theorem s17 (t : KT) (hok : okT t) (H : Heap) : L 17 [.im (.agg (encT t))] H = some (.tup [.im (.str (if rightT t 6 = true then showT t else [])), .im (.int .i64 (checkT t))], H) := by
  have h19 := fun H => s19 t hok H
  unfold checkT at h19 ⊢
  rcases Bool.eq_false_or_eq_true (rightT t 6) with hr | hr
  · simp only [hr, if_true] at h19 ⊢
    have hlen := show_len t 6 hr
    have hne := show_ne t 6 hr
    have h48 := s48 (n := H.length + 2) t hok (right_narrow t 6 hr) (H.length + 1) (H ++ [.obj none [(encT t).map .im], .obj (some (94, 2)) [[.im .nilp, .nils]]]) []
      (by simp; omega) ⟨.im .nilp, .nils, by rw [Go.Abs.hget]; rfl, .inl rfl, .inl ⟨rfl, rfl⟩, by simp⟩
    obtain ⟨H2, hc, ⟨a0, v, hid, _, hG, _⟩, hK⟩ := h48
    rw [List.nil_append] at hG
    rcases hG with ⟨hes, _⟩ | ⟨_, tok, htok, rfl, hhw⟩
    · exact absurd (by simpa using hes) hne
    · have h49 : L 49 [.ptr (H.length + 1) 0 0] H2 = some (.im (.str (showT t)), H2.set tok (.hw 5 ((showT t).length + 1))) := by
        rw [L49]
        simp only [stA, hid, hhw, bytesE_of]
        rw [if_pos ⟨trivial, trivial, by simp, trivial, List.length_pos_iff.2 hne, by omega⟩]
        simp
      have hheld : heldIn H (H2.set tok (.hw 5 ((showT t).length + 1))) := fun i hi => by
        left
        rw [List.getElem?_set_ne (by omega), hK.2.2 i (by omega) (by simp; omega) (by omega), List.getElem?_append_left hi]
      have htake : (H2.set tok (.hw 5 ((showT t).length + 1))).take H.length = H := by
        apply List.ext_getElem?
        intro i
        rw [List.getElem?_take]
        split
        · rename_i hi
          rcases hheld i hi with h | ⟨o, h, _⟩
          · exact h
          · rw [List.getElem?_set_ne (by omega), hK.2.2 i (by omega) (by simp; omega) (by omega), List.getElem?_append_left hi]
        · rename_i hi
          rw [List.getElem?_eq_none (by omega)]
      have hlv : leave H false (.tup [.im (.str (showT t)), .im (.int .i64 0)]) (H2.set tok (.hw 5 ((showT t).length + 1))) = (.tup [.im (.str (showT t)), .im (.int .i64 0)], H) := by
        unfold leave
        have e : (if (false : Bool) = true then AV.tup [.im (.str (showT t)), .im (.int .i64 0)] else degrade (.tup [.im (.str (showT t)), .im (.int .i64 0)])) = .tup [.im (.str (showT t)), .im (.int .i64 0)] := by simp [degrade, degrade1, toDat]
        rw [e, if_pos ⟨by simp only [refsLt, refsLts, Bool.and_self], hheld⟩, htake]
      generalize showT t = txt at *
      obtain ⟨k, s, ts⟩ := t
      simp only [encT, List.map_cons, List.map_nil] at h19 hc ⊢
      rw [leq F17]
      obtain ⟨hln, ha⟩ := enter_at (f := f17) (args := [.im (.agg [.int .i64 k, .sl s (encTs ts)])]) (Nat.le_of_ble_eq_true rfl)
      have h0 := ha 0 _ rfl
      generalize enterA f17 [.im (.agg [.int .i64 k, .sl s (encTs ts)])] = tm at *
      change tm.length = 18 at hln
      simp only [f17, exec0, xreg, xops, wantedA, aopc, aop, ev, putA, endK, resA, tupA, List.length_cons, List.length_nil, List.replicate, List.cons_append, List.nil_append, List.append_nil, List.append_assoc, gs_same, gs_ne, gq_same, gq_ne, List.length_set, List.map_cons, List.map_nil, cellsOf, List.all_cons, List.all_nil, cellOk, boxTy, Bool.and_true, Bool.and_self, if_true, ite_true, ite_false, loadAt, storeAt, setAt, hget, hget0, hset, hset0, List.getElem?_cons_zero, List.getElem?_cons_succ, List.set_cons_zero, List.set_cons_succ, Nat.add_zero, Nat.zero_add, Nat.reduceAdd, Nat.reduceSub, Nat.reduceLeDiff, Nat.reduceLT, Nat.reduceEqDiff, Nat.le_refl, and_self, and_true, true_and, mkAgg, toIms, List.drop_zero, List.drop_succ_cons, List.take_succ_cons, List.take_zero, List.length_append, binA, isShift, binInt, binBool, unA, Bool.false_eq_true, if_false, partA, fillA, fillE, List.take_nil, Nat.zero_ne_one, Nat.one_ne_zero, not_false_eq_true, ne_eq, Nat.succ_ne_self, reduceCtorEq, Int.reduceEq, Int.reduceLT, Int.reduceLE, decide_true, decide_false, lenA, beq_self_eq_true, beq_true, beq_false, Bool.not_true, Bool.not_false, hln, h0, h19, hc, h49, hlv]
  · simp only [hr, Bool.false_eq_true, if_false] at h19 ⊢
    obtain ⟨k, s, ts⟩ := t
    simp only [encT] at h19 ⊢
    rw [leq F17]
    obtain ⟨hln, ha⟩ := enter_at (f := f17) (args := [.im (.agg [.int .i64 k, .sl s (encTs ts)])]) (Nat.le_of_ble_eq_true rfl)
    have h0 := ha 0 _ rfl
    generalize enterA f17 [.im (.agg [.int .i64 k, .sl s (encTs ts)])] = tm at *
    change tm.length = 18 at hln
    simp only [f17, exec0, xreg, xops, wantedA, aopc, aop, ev, putA, endK, resA, tupA, List.length_cons, List.length_nil, List.replicate, List.cons_append, List.nil_append, List.append_nil, List.append_assoc, gs_same, gs_ne, gq_same, gq_ne, List.length_set, List.map_cons, List.map_nil, cellsOf, List.all_cons, List.all_nil, cellOk, boxTy, Bool.and_true, Bool.and_self, if_true, ite_true, ite_false, loadAt, storeAt, setAt, hget, hget0, hset, hset0, List.getElem?_cons_zero, List.getElem?_cons_succ, List.set_cons_zero, List.set_cons_succ, Nat.add_zero, Nat.zero_add, Nat.reduceAdd, Nat.reduceSub, Nat.reduceLeDiff, Nat.reduceLT, Nat.reduceEqDiff, Nat.le_refl, and_self, and_true, true_and, mkAgg, toIms, List.drop_zero, List.drop_succ_cons, List.take_succ_cons, List.take_zero, List.length_append, binA, isShift, binInt, binBool, unA, Bool.false_eq_true, if_false, partA, fillA, fillE, List.take_nil, Nat.zero_ne_one, Nat.one_ne_zero, not_false_eq_true, ne_eq, Nat.succ_ne_self, reduceCtorEq, Int.reduceEq, Int.reduceLT, Int.reduceLE, decide_true, decide_false, lenA, beq_self_eq_true, beq_true, beq_false, Bool.not_true, Bool.not_false, hln, h0, h19, leave_tup2]

end Go.Abs.Seat
end
section
/- The table's functions are the program's, and hold no place. -/
namespace Go.Abs.Seat
open Go.Proofs
set_option maxRecDepth 10000 in
theorem Tok (f : FuncId) (af : AFunc) (h : T f = some af) : F f = some af ∧ closedC af.code = true := by
  unfold T at h
  by_cases h3 : f = 3
  · subst h3; rw [if_pos rfl] at h; injection h with h; subst h; exact ⟨F3, by kernel_rfl⟩
  rw [if_neg h3] at h
  by_cases h4 : f = 4
  · subst h4; rw [if_pos rfl] at h; injection h with h; subst h; exact ⟨F4, by kernel_rfl⟩
  rw [if_neg h4] at h
  by_cases h5 : f = 5
  · subst h5; rw [if_pos rfl] at h; injection h with h; subst h; exact ⟨F5, by kernel_rfl⟩
  rw [if_neg h5] at h
  by_cases h6 : f = 6
  · subst h6; rw [if_pos rfl] at h; injection h with h; subst h; exact ⟨F6, by kernel_rfl⟩
  rw [if_neg h6] at h
  by_cases h11 : f = 11
  · subst h11; rw [if_pos rfl] at h; injection h with h; subst h; exact ⟨F11, by kernel_rfl⟩
  rw [if_neg h11] at h
  by_cases h12 : f = 12
  · subst h12; rw [if_pos rfl] at h; injection h with h; subst h; exact ⟨F12, by kernel_rfl⟩
  rw [if_neg h12] at h
  by_cases h13 : f = 13
  · subst h13; rw [if_pos rfl] at h; injection h with h; subst h; exact ⟨F13, by kernel_rfl⟩
  rw [if_neg h13] at h
  by_cases h14 : f = 14
  · subst h14; rw [if_pos rfl] at h; injection h with h; subst h; exact ⟨F14, by kernel_rfl⟩
  rw [if_neg h14] at h
  by_cases h15 : f = 15
  · subst h15; rw [if_pos rfl] at h; injection h with h; subst h; exact ⟨F15, by kernel_rfl⟩
  rw [if_neg h15] at h
  by_cases h16 : f = 16
  · subst h16; rw [if_pos rfl] at h; injection h with h; subst h; exact ⟨F16, by kernel_rfl⟩
  rw [if_neg h16] at h
  by_cases h17 : f = 17
  · subst h17; rw [if_pos rfl] at h; injection h with h; subst h; exact ⟨F17, by kernel_rfl⟩
  rw [if_neg h17] at h
  by_cases h18 : f = 18
  · subst h18; rw [if_pos rfl] at h; injection h with h; subst h; exact ⟨F18, by kernel_rfl⟩
  rw [if_neg h18] at h
  by_cases h19 : f = 19
  · subst h19; rw [if_pos rfl] at h; injection h with h; subst h; exact ⟨F19, by kernel_rfl⟩
  rw [if_neg h19] at h
  by_cases h20 : f = 20
  · subst h20; rw [if_pos rfl] at h; injection h with h; subst h; exact ⟨F20, by kernel_rfl⟩
  rw [if_neg h20] at h
  by_cases h21 : f = 21
  · subst h21; rw [if_pos rfl] at h; injection h with h; subst h; exact ⟨F21, by kernel_rfl⟩
  rw [if_neg h21] at h
  by_cases h22 : f = 22
  · subst h22; rw [if_pos rfl] at h; injection h with h; subst h; exact ⟨F22, by kernel_rfl⟩
  rw [if_neg h22] at h
  by_cases h23 : f = 23
  · subst h23; rw [if_pos rfl] at h; injection h with h; subst h; exact ⟨F23, by kernel_rfl⟩
  rw [if_neg h23] at h
  by_cases h45 : f = 45
  · subst h45; rw [if_pos rfl] at h; injection h with h; subst h; exact ⟨F45, by kernel_rfl⟩
  rw [if_neg h45] at h
  by_cases h46 : f = 46
  · subst h46; rw [if_pos rfl] at h; injection h with h; subst h; exact ⟨F46, by kernel_rfl⟩
  rw [if_neg h46] at h
  by_cases h47 : f = 47
  · subst h47; rw [if_pos rfl] at h; injection h with h; subst h; exact ⟨F47, by kernel_rfl⟩
  rw [if_neg h47] at h
  by_cases h48 : f = 48
  · subst h48; rw [if_pos rfl] at h; injection h with h; subst h; exact ⟨F48, by kernel_rfl⟩
  rw [if_neg h48] at h
  by_cases h50 : f = 50
  · subst h50; rw [if_pos rfl] at h; injection h with h; subst h; exact ⟨F50, by kernel_rfl⟩
  rw [if_neg h50] at h
  by_cases h51 : f = 51
  · subst h51; rw [if_pos rfl] at h; injection h with h; subst h; exact ⟨F51, by kernel_rfl⟩
  rw [if_neg h51] at h
  by_cases h52 : f = 52
  · subst h52; rw [if_pos rfl] at h; injection h with h; subst h; exact ⟨F52, by kernel_rfl⟩
  rw [if_neg h52] at h
  by_cases h53 : f = 53
  · subst h53; rw [if_pos rfl] at h; injection h with h; subst h; exact ⟨F53, by kernel_rfl⟩
  rw [if_neg h53] at h
  by_cases h69 : f = 69
  · subst h69; rw [if_pos rfl] at h; injection h with h; subst h; exact ⟨F69, by kernel_rfl⟩
  rw [if_neg h69] at h
  by_cases h70 : f = 70
  · subst h70; rw [if_pos rfl] at h; injection h with h; subst h; exact ⟨F70, by kernel_rfl⟩
  rw [if_neg h70] at h
  by_cases h71 : f = 71
  · subst h71; rw [if_pos rfl] at h; injection h with h; subst h; exact ⟨F71, by kernel_rfl⟩
  rw [if_neg h71] at h
  by_cases h72 : f = 72
  · subst h72; rw [if_pos rfl] at h; injection h with h; subst h; exact ⟨F72, by kernel_rfl⟩
  rw [if_neg h72] at h
  by_cases h73 : f = 73
  · subst h73; rw [if_pos rfl] at h; injection h with h; subst h; exact ⟨F73, by kernel_rfl⟩
  rw [if_neg h73] at h
  by_cases h74 : f = 74
  · subst h74; rw [if_pos rfl] at h; injection h with h; subst h; exact ⟨F74, by kernel_rfl⟩
  rw [if_neg h74] at h
  by_cases h75 : f = 75
  · subst h75; rw [if_pos rfl] at h; injection h with h; subst h; exact ⟨F75, by kernel_rfl⟩
  rw [if_neg h75] at h
  by_cases h76 : f = 76
  · subst h76; rw [if_pos rfl] at h; injection h with h; subst h; exact ⟨F76, by kernel_rfl⟩
  rw [if_neg h76] at h
  by_cases h77 : f = 77
  · subst h77; rw [if_pos rfl] at h; injection h with h; subst h; exact ⟨F77, by kernel_rfl⟩
  rw [if_neg h77] at h
  by_cases h78 : f = 78
  · subst h78; rw [if_pos rfl] at h; injection h with h; subst h; exact ⟨F78, by kernel_rfl⟩
  rw [if_neg h78] at h
  by_cases h79 : f = 79
  · subst h79; rw [if_pos rfl] at h; injection h with h; subst h; exact ⟨F79, by kernel_rfl⟩
  rw [if_neg h79] at h
  by_cases h98 : f = 98
  · subst h98; rw [if_pos rfl] at h; injection h with h; subst h; exact ⟨F98, by kernel_rfl⟩
  rw [if_neg h98] at h
  by_cases h99 : f = 99
  · subst h99; rw [if_pos rfl] at h; injection h with h; subst h; exact ⟨F99, by kernel_rfl⟩
  rw [if_neg h99] at h
  by_cases h100 : f = 100
  · subst h100; rw [if_pos rfl] at h; injection h with h; subst h; exact ⟨F100, by kernel_rfl⟩
  rw [if_neg h100] at h
  by_cases h102 : f = 102
  · subst h102; rw [if_pos rfl] at h; injection h with h; subst h; exact ⟨F102, by kernel_rfl⟩
  rw [if_neg h102] at h
  simp at h
theorem Tno (f : FuncId) (_ : T f = none) : F f = none ∨ ∀ args H, bldA 101 49 94 5 f args H = none := by
  by_cases h1 : f = 101
  · subst h1; left; kernel_rfl
  by_cases h2 : f = 49
  · subst h2; left; kernel_rfl
  right
  intro args H
  simp only [bldA, h1, h2, if_false]
end Go.Abs.Seat
end
section
/- The fixed answer, reckoned; at every heap. -/
namespace Go.Abs.Seat
open Go.Proofs

set_option maxRecDepth 100000 in
theorem awake0 : runC (bldA 101 49 94 5) T 400 11 [] [] = some (.im (.bool true), []) := by kernel_rfl

theorem s11 (H : Heap) : L 11 [] H = some (.im (.bool true), H) := lim_any Tok Tno awake0 H

end Go.Abs.Seat
end
section
/- The law KindMakes: its first loop. -/
set_option linter.unusedVariables false
set_option linter.unusedSimpArgs false
namespace Go.Abs.Seat
open Go.Proofs

mutual
theorem right_mono : ∀ (t : KT) (d : Int), rightT t d = true → rightT t (d + 1) = true
  | .mk k s args, d, h => by
    simp only [rightT] at h ⊢
    split at h
    · rename_i i hi
      split at h
      · simp at h
      · rename_i hd
        rw [if_neg (by omega)]
        split at h
        · rename_i hl
          rw [if_pos hl]
          have := right_monos args (d - 1) (by simpa using h)
          rw [show d + 1 - 1 = d - 1 + 1 by omega]
          simpa using this
        · simp at h
    · simp at h
theorem right_monos : ∀ (l : List KT) (d : Int), rightNot l d = false → rightNot l (d + 1) = false
  | [], d, h => by simp only [rightNot]
  | a :: l, d, h => by
    simp only [rightNot, Bool.or_eq_false_iff, Bool.not_eq_false'] at h ⊢
    exact ⟨right_mono a d h.1, right_monos l d h.2⟩
end

/-- What is made of types of which one is not right is not right. -/
theorem right_args {k : Int} {s : Nat} {args : List KT} {d : Int} (h : rightT (.mk k s args) (d + 1) = true) : ∀ a ∈ args, rightT a d = true := by
  intro a ha
  simp only [rightT] at h
  split at h
  · split at h
    · simp at h
    · split at h
      · rw [rightNot_any] at h
        simp only [Bool.not_eq_true', List.any_eq_false, Bool.not_eq_true', Bool.not_eq_false] at h
        have := h a ha
        rw [show d + 1 - 1 = d by omega] at this
        simpa using this
      · simp at h
  · simp at h

theorem l6a (k : Int) (s : Nat) (args : List KT) (hok : okT (.mk k s args)) :
    ∀ (m i : Nat), i + m = args.length → ∀ (tm : List AV) (H : Heap) (n : Int), tm.length = 152 → tm.getD 0 undefA = .im (.int .i64 k) → tm.getD 1 undefA = .im (.sl s (args.map encT)) → tm.getD 5 undefA = .im (.int .i64 n) →
    tm.getD 27 undefA = .im (.sl s (args.map encT)) → tm.getD 28 undefA = .im (.int .i64 args.length) → tm.getD 29 undefA = .im (.int .i64 i) →
    ∃ e tm' H', Λ c6_1 tm H = some (e, tm', H') ∧ tm'.length = 152 ∧ tm'.getD 0 undefA = .im (.int .i64 k) ∧ tm'.getD 1 undefA = .im (.sl s (args.map encT)) ∧ (∃ M, H' = H ++ M) ∧
      ((e = .ret ∧ tm'.getD 4 undefA = .im (.bool true)) ∨ (e = .exit 0 ∧ (∀ a ∈ args.drop i, rightT a 6 = true) ∧ tm'.getD 5 undefA = .im (.int .i64 (if i = args.length then n else max n (depthTs (args.drop i))))))
  | 0, i, hi, tm, H, n, hlen, h0, h1, h5, h27, h28, h29 => by
    have e : args.drop i = [] := by rw [List.drop_eq_nil_iff]; omega
    have hc : decide ((i : Int) < (args.length : Int)) = false := decide_eq_false (by omega)
    rw [l6_1, e]
    simp only [b6_1, exec0, xreg, xops, wantedA, aopc, aop, ev, putA, endK, resA, tupA, List.length_cons, List.length_nil, List.replicate, List.cons_append, List.nil_append, List.append_nil, List.append_assoc, gs_same, gs_ne, gq_same, gq_ne, List.length_set, List.map_cons, List.map_nil, cellsOf, List.all_cons, List.all_nil, cellOk, boxTy, Bool.and_true, Bool.and_self, if_true, ite_true, ite_false, loadAt, storeAt, setAt, hget, hget0, hset, hset0, List.getElem?_cons_zero, List.getElem?_cons_succ, List.set_cons_zero, List.set_cons_succ, Nat.add_zero, Nat.zero_add, Nat.reduceAdd, Nat.reduceSub, Nat.reduceLeDiff, Nat.reduceLT, Nat.reduceEqDiff, Nat.le_refl, and_self, and_true, true_and, mkAgg, toIms, List.drop_zero, List.drop_succ_cons, List.take_succ_cons, List.take_zero, List.length_append, binA, isShift, binInt, binBool, unA, Bool.false_eq_true, if_false, partA, fillA, fillE, List.take_nil, Nat.zero_ne_one, Nat.one_ne_zero, not_false_eq_true, ne_eq, Nat.succ_ne_self, reduceCtorEq, Int.reduceEq, Int.reduceLT, Int.reduceLE, decide_true, decide_false, lenA, beq_self_eq_true, beq_true, beq_false, Bool.not_true, Bool.not_false, hlen, h0, h1, h5, h27, h28, h29, hc]
    exact ⟨_, _, _, rfl, by simp only [List.length_set, hlen], by simp only [gs_same, gs_ne, List.length_set, Nat.reduceLT, Nat.reduceEqDiff, not_false_eq_true, hlen, h0], by simp only [gs_same, gs_ne, List.length_set, Nat.reduceLT, Nat.reduceEqDiff, not_false_eq_true, hlen, h1], ⟨[], by simp⟩, .inr ⟨rfl, by simp, by simp only [gs_same, gs_ne, List.length_set, Nat.reduceLT, Nat.reduceEqDiff, not_false_eq_true, hlen, h5, show i = args.length by omega, if_true]⟩⟩
  | m + 1, i, hi, tm, H, n, hlen, h0, h1, h5, h27, h28, h29 => by
    have hok' := hok
    simp only [okT] at hok'
    obtain ⟨hs, hn, hoks⟩ := hok'
    have hlt : i < args.length := by omega
    obtain ⟨w, hwi⟩ : ∃ w, args[i]? = some w := ⟨_, List.getElem?_eq_getElem hlt⟩
    have e : args.drop i = w :: args.drop (i + 1) := by
      rw [List.drop_eq_getElem_cons hlt]
      congr 1
      rw [List.getElem?_eq_getElem hlt] at hwi
      exact Option.some.inj hwi
    have hs2 : s = 2 := by
      rcases hs with hs | hs
      · subst hs; simp at hlt
      · exact hs
    subst hs2
    have hmem := List.mem_of_getElem? hwi
    have hc' : decide ((i : Int) < (args.length : Int)) = true := decide_eq_true (by omega)
    have hix := idx_nat (n := (args.map encT).length) (i := i) (by simpa using hlt)
    have hgw : (args.map encT)[i]? = some (encT w) := by rw [List.getElem?_map, hwi]; rfl
    have hwr := wrap_nat (i := i) (by omega)
    have h16 := s16 w (okTs_mem hoks w hmem)
    have h20 := s20 w (okTs_mem hoks w hmem)
    have h21 := s21 k 2 args hok
    rw [encTs_map] at h21
    have key := l6a k 2 args hok m (i + 1) (by omega)
    have hda := right_args (k := k) (s := 2) (args := args) (d := 5)
    rw [l6_1, if_neg (by omega), e]
    rcases Bool.eq_false_or_eq_true (smallT w 2000 30).1 with hsm | hsm
    · rcases Bool.eq_false_or_eq_true (rightT w 6) with hr | hr
      · simp only [checkT, hr, if_true] at h20
        simp only [hsm] at h16
        have hd : depthTs (w :: args.drop (i + 1)) = max (depthT w) (depthTs (args.drop (i + 1))) := by rw [depthTs]
        rw [hd]
        have hp2 : 0 ≤ depthT w := by
          cases w with
          | mk a b c =>
            have := depthTs_pos c
            simp only [depthT]; omega
        have hrw := hr
        generalize hdw : depthT w = dw at *
        have hall : ∀ a ∈ w :: args.drop (i + 1), rightT a 6 = true ∨ a ∈ args.drop (i + 1) := fun a ha => by
          rcases List.mem_cons.1 ha with rfl | h
          · exact .inl hrw
          · exact .inr h
        clear hda h21 hmem hdw hd hr hrw
        obtain ⟨k', s', ts⟩ := w
        simp only [encT] at h16 h20 hgw
        simp only [b6_1, exec0, xreg, xops, wantedA, aopc, aop, ev, putA, endK, resA, tupA, List.length_cons, List.length_nil, List.replicate, List.cons_append, List.nil_append, List.append_nil, List.append_assoc, gs_same, gs_ne, gq_same, gq_ne, List.length_set, List.map_cons, List.map_nil, cellsOf, List.all_cons, List.all_nil, cellOk, boxTy, Bool.and_true, Bool.and_self, if_true, ite_true, ite_false, loadAt, storeAt, setAt, hget, hget0, hset, hset0, List.getElem?_cons_zero, List.getElem?_cons_succ, List.set_cons_zero, List.set_cons_succ, Nat.add_zero, Nat.zero_add, Nat.reduceAdd, Nat.reduceSub, Nat.reduceLeDiff, Nat.reduceLT, Nat.reduceEqDiff, Nat.le_refl, and_self, and_true, true_and, mkAgg, toIms, List.drop_zero, List.drop_succ_cons, List.take_succ_cons, List.take_zero, List.length_append, binA, isShift, binInt, binBool, unA, Bool.false_eq_true, if_false, partA, fillA, fillE, List.take_nil, Nat.zero_ne_one, Nat.one_ne_zero, not_false_eq_true, ne_eq, Nat.succ_ne_self, reduceCtorEq, Int.reduceEq, Int.reduceLT, Int.reduceLE, decide_true, decide_false, lenA, beq_self_eq_true, beq_true, beq_false, Bool.not_true, Bool.not_false, hlen, h0, h1, h5, h27, h28, h29, hc', hix, hgw, h16, h20, hwr, max_ii]
        refine ex_imp (key _ _ (max n dw) ?_ ?_ ?_ ?_ ?_ ?_ ?_) ?_
        iterate 7 simp only [gs_same, gs_ne, List.length_set, Nat.reduceLT, Nat.reduceEqDiff, not_false_eq_true, hlen, h0, h1, h5, h27, h28, h29]
        rintro e tm' H' ⟨hl', g0, g1, ⟨M, hM⟩, hg⟩
        refine ⟨hl', g0, g1, ⟨_ :: M, by rw [hM, List.append_assoc]; rfl⟩, ?_⟩
        rcases hg with hg | ⟨he, hg1, hg2⟩
        · exact .inl hg
        · refine .inr ⟨he, fun a ha => (hall a ha).elim id (hg1 a), ?_⟩
          rw [hg2]
          have hp := depthTs_pos (args.drop (i + 1))
          split
          · rename_i he'
            have : args.drop (i + 1) = [] := by rw [List.drop_eq_nil_iff]; omega
            rw [this]
            simp only [depthTs]
            congr 2
            omega
          · congr 2
            omega
      · have hno : rightT (.mk k 2 args) 6 = false := by
          rcases Bool.eq_false_or_eq_true (rightT (.mk k 2 args) 6) with h | h
          · have := right_mono w 5 (hda h w hmem)
            rw [show (5 : Int) + 1 = 6 from rfl, hr] at this
            simp at this
          · exact h
        simp only [checkT, hr, Bool.false_eq_true, if_false] at h20
        simp only [hsm] at h16
        simp only [checkT, hno, Bool.false_eq_true, if_false] at h21
        clear hda hno hr
        obtain ⟨k', s', ts⟩ := w
        simp only [encT] at h16 h20 hgw
        simp only [b6_1, exec0, xreg, xops, wantedA, aopc, aop, ev, putA, endK, resA, tupA, List.length_cons, List.length_nil, List.replicate, List.cons_append, List.nil_append, List.append_nil, List.append_assoc, gs_same, gs_ne, gq_same, gq_ne, List.length_set, List.map_cons, List.map_nil, cellsOf, List.all_cons, List.all_nil, cellOk, boxTy, Bool.and_true, Bool.and_self, if_true, ite_true, ite_false, loadAt, storeAt, setAt, hget, hget0, hset, hset0, List.getElem?_cons_zero, List.getElem?_cons_succ, List.set_cons_zero, List.set_cons_succ, Nat.add_zero, Nat.zero_add, Nat.reduceAdd, Nat.reduceSub, Nat.reduceLeDiff, Nat.reduceLT, Nat.reduceEqDiff, Nat.le_refl, and_self, and_true, true_and, mkAgg, toIms, List.drop_zero, List.drop_succ_cons, List.take_succ_cons, List.take_zero, List.length_append, binA, isShift, binInt, binBool, unA, Bool.false_eq_true, if_false, partA, fillA, fillE, List.take_nil, Nat.zero_ne_one, Nat.one_ne_zero, not_false_eq_true, ne_eq, Nat.succ_ne_self, reduceCtorEq, Int.reduceEq, Int.reduceLT, Int.reduceLE, decide_true, decide_false, lenA, beq_self_eq_true, beq_true, beq_false, Bool.not_true, Bool.not_false, hlen, h0, h1, h5, h27, h28, h29, hc', hix, hgw, h16, h20, h21, s11, hwr]
        exact ⟨_, _, _, rfl, by simp only [List.length_set, hlen], by simp only [gs_same, gs_ne, List.length_set, Nat.reduceLT, Nat.reduceEqDiff, not_false_eq_true, hlen, h0], by simp only [gs_same, gs_ne, List.length_set, Nat.reduceLT, Nat.reduceEqDiff, not_false_eq_true, hlen, h1], ⟨_, rfl⟩, .inl ⟨rfl, by simp only [gs_same, gs_ne, List.length_set, Nat.reduceLT, Nat.reduceEqDiff, not_false_eq_true, hlen]⟩⟩
    · simp only [hsm] at h16
      clear hda
      obtain ⟨k', s', ts⟩ := w
      simp only [encT] at h16 hgw
      simp only [b6_1, exec0, xreg, xops, wantedA, aopc, aop, ev, putA, endK, resA, tupA, List.length_cons, List.length_nil, List.replicate, List.cons_append, List.nil_append, List.append_nil, List.append_assoc, gs_same, gs_ne, gq_same, gq_ne, List.length_set, List.map_cons, List.map_nil, cellsOf, List.all_cons, List.all_nil, cellOk, boxTy, Bool.and_true, Bool.and_self, if_true, ite_true, ite_false, loadAt, storeAt, setAt, hget, hget0, hset, hset0, List.getElem?_cons_zero, List.getElem?_cons_succ, List.set_cons_zero, List.set_cons_succ, Nat.add_zero, Nat.zero_add, Nat.reduceAdd, Nat.reduceSub, Nat.reduceLeDiff, Nat.reduceLT, Nat.reduceEqDiff, Nat.le_refl, and_self, and_true, true_and, mkAgg, toIms, List.drop_zero, List.drop_succ_cons, List.take_succ_cons, List.take_zero, List.length_append, binA, isShift, binInt, binBool, unA, Bool.false_eq_true, if_false, partA, fillA, fillE, List.take_nil, Nat.zero_ne_one, Nat.one_ne_zero, not_false_eq_true, ne_eq, Nat.succ_ne_self, reduceCtorEq, Int.reduceEq, Int.reduceLT, Int.reduceLE, decide_true, decide_false, lenA, beq_self_eq_true, beq_true, beq_false, Bool.not_true, Bool.not_false, hlen, h0, h1, h5, h27, h28, h29, hc', hix, hgw, h16, s11, hwr]
      exact ⟨_, _, _, rfl, by simp only [List.length_set, hlen], by simp only [gs_same, gs_ne, List.length_set, Nat.reduceLT, Nat.reduceEqDiff, not_false_eq_true, hlen, h0], by simp only [gs_same, gs_ne, List.length_set, Nat.reduceLT, Nat.reduceEqDiff, not_false_eq_true, hlen, h1], ⟨_, rfl⟩, .inl ⟨rfl, by simp only [gs_same, gs_ne, List.length_set, Nat.reduceLT, Nat.reduceEqDiff, not_false_eq_true, hlen]⟩⟩

end Go.Abs.Seat
end
section
/- The law KindMakes: its second loop. -/
set_option linter.unusedVariables false
set_option linter.unusedSimpArgs false
namespace Go.Abs.Seat
open Go.Proofs

theorem l6b (s : Nat) (args : List KT) (hs : args = [] ∨ s = 2) (hoks : okTs args) (hn : args.length ≤ 2) (hr : ∀ a ∈ args, rightT a 6 = true) :
    ∀ (m i : Nat), i + m = args.length → ∀ (tm : List AV) (H : Heap) (txt : List UInt8), txt.length + (showTs (args.drop i) (sepB i)).length ≤ 2 ^ 62 → tm.length = 152 → tm.getD 14 undefA = .im (.str txt) →
    tm.getD 96 undefA = .im (.sl s (args.map encT)) → tm.getD 97 undefA = .im (.int .i64 args.length) → tm.getD 98 undefA = .im (.int .i64 i) →
    ∃ e tm' H', Λ c6_0 tm H = some (e, tm', H') ∧ tm'.length = 152 ∧ e = .exit 2 ∧ (∀ j, j = 1 ∨ j = 5 ∨ j = 12 ∨ j = 13 ∨ j = 15 ∨ j = 16 → tm'.getD j undefA = tm.getD j undefA) ∧ (∃ M, H' = H ++ M) ∧
      tm'.getD 14 undefA = .im (.str (txt ++ showTs (args.drop i) (sepB i)))
  | 0, i, hi, tm, H, txt, hb, hlen, h14, h96, h97, h98 => by
    have e : args.drop i = [] := by rw [List.drop_eq_nil_iff]; omega
    have hc : decide ((i : Int) < (args.length : Int)) = false := decide_eq_false (by omega)
    rw [l6_0, e]
    simp only [b6_0, exec0, xreg, xops, wantedA, aopc, aop, ev, putA, endK, resA, tupA, List.length_cons, List.length_nil, List.replicate, List.cons_append, List.nil_append, List.append_nil, List.append_assoc, gs_same, gs_ne, gq_same, gq_ne, List.length_set, List.map_cons, List.map_nil, cellsOf, List.all_cons, List.all_nil, cellOk, boxTy, Bool.and_true, Bool.and_self, if_true, ite_true, ite_false, loadAt, storeAt, setAt, hget, hget0, hset, hset0, List.getElem?_cons_zero, List.getElem?_cons_succ, List.set_cons_zero, List.set_cons_succ, Nat.add_zero, Nat.zero_add, Nat.reduceAdd, Nat.reduceSub, Nat.reduceLeDiff, Nat.reduceLT, Nat.reduceEqDiff, Nat.le_refl, and_self, and_true, true_and, mkAgg, toIms, List.drop_zero, List.drop_succ_cons, List.take_succ_cons, List.take_zero, List.length_append, binA, isShift, binInt, binBool, unA, Bool.false_eq_true, if_false, partA, fillA, fillE, List.take_nil, Nat.zero_ne_one, Nat.one_ne_zero, not_false_eq_true, ne_eq, Nat.succ_ne_self, reduceCtorEq, Int.reduceEq, Int.reduceLT, Int.reduceLE, decide_true, decide_false, lenA, beq_self_eq_true, beq_true, beq_false, Bool.not_true, Bool.not_false, hlen, h14, h96, h97, h98, hc]
    exact ⟨_, _, _, rfl, by simp only [List.length_set, hlen], rfl, by rintro j (rfl | rfl | rfl | rfl | rfl | rfl) <;> simp only [gs_same, gs_ne, List.length_set, Nat.reduceLT, Nat.reduceEqDiff, not_false_eq_true, hlen], ⟨[], by simp⟩, by simp only [gs_same, gs_ne, List.length_set, Nat.reduceLT, Nat.reduceEqDiff, not_false_eq_true, hlen, h14, showTs, List.append_nil]⟩
  | m + 1, i, hi, tm, H, txt, hb, hlen, h14, h96, h97, h98 => by
    have hlt : i < args.length := by omega
    obtain ⟨w, hwi⟩ : ∃ w, args[i]? = some w := ⟨_, List.getElem?_eq_getElem hlt⟩
    have e : args.drop i = w :: args.drop (i + 1) := by
      rw [List.drop_eq_getElem_cons hlt]
      congr 1
      rw [List.getElem?_eq_getElem hlt] at hwi
      exact Option.some.inj hwi
    have hs2 : s = 2 := by
      rcases hs with hs | hs
      · subst hs; simp at hlt
      · exact hs
    subst hs2
    have hmem := List.mem_of_getElem? hwi
    have hc' : decide ((i : Int) < (args.length : Int)) = true := decide_eq_true (by omega)
    have hix := idx_nat (n := (args.map encT).length) (i := i) (by simpa using hlt)
    have hgw : (args.map encT)[i]? = some (encT w) := by rw [List.getElem?_map, hwi]; rfl
    have hwr := wrap_nat (i := i) (by omega)
    have h17 := s17 w (okTs_mem hoks w hmem)
    rw [hr w hmem] at h17
    simp only [if_true] at h17
    have key := l6b 2 args hs hoks hn hr m (i + 1) (by omega)
    have hsb : sepB (i + 1) = 44 := by simp [sepB]
    have hmin : minA (.im (.int .i64 i)) (.im (.int .i64 1)) = some (.im (.int .i64 i)) := by
      have h1 : ¬ ((1 : Int) < (i : Int)) := by omega
      simp only [minA, if_neg h1]
    have hix2 : ∀ es : List (List Dat), es.length = 2 → idx (.im (.int .i64 i)) es.length = some i := fun es he => idx_nat (by omega)
    have hsep : ([[.str [40]], [.str [44]]] : List (List Dat))[i]? = some [.str [sepB i]] := by
      have : i = 0 ∨ i = 1 := by omega
      rcases this with rfl | rfl <;> rfl
    have hsl : fillE 1 (List.replicate 2 [.im (.str [])]) [(0, .im (.str [40])), (1, .im (.str [44]))] = some [[.im (.str [40])], [.im (.str [44])]] := rfl
    have hds : toDatss [[.im (.str [40])], [.im (.str [44])]] = some [[.str [40]], [.str [44]]] := rfl
    rw [e] at hb
    simp only [showTs, List.length_cons, List.length_append] at hb
    rw [l6_0, e]
    generalize hsw : showT w = sw at *
    generalize hsbi : sepB i = c at *
    have hix2' : idx (.im (.int .i64 i)) 2 = some i := idx_nat (by omega)
    have hl1 : [c].length + sw.length ≤ 2 ^ 62 := by simp; omega
    have hl2 : txt.length + ([c] ++ sw).length ≤ 2 ^ 62 := by simp; omega
    have ha1 : binA .add (.im (.str [c])) (.im (.str sw)) = some (.im (.str ([c] ++ sw))) := by simp only [binA, binStr, if_pos hl1]
    have ha2 : binA .add (.im (.str txt)) (.im (.str ([c] ++ sw))) = some (.im (.str (txt ++ ([c] ++ sw)))) := by simp only [binA, binStr, if_pos hl2]
    have hlss : binA .lss (.im (.int .i64 i)) (.im (.int .i64 args.length)) = some (.im (.bool true)) := by simp only [binA, isShift, Bool.false_eq_true, if_false, if_true, binInt, hc']
    have hinc : binA .add (.im (.int .i64 i)) (.im (.int .i64 1)) = some (.im (.int .i64 ((i + 1 : Nat) : Int))) := by simp only [binA, isShift, Bool.false_eq_true, if_false, if_true, binInt, hwr]
    obtain ⟨k', s', ts⟩ := w
    simp only [encT] at h17 hgw
    simp only [b6_0, exec0, xreg, xops, wantedA, aopc, aop, ev, putA, gs_same, gs_ne, List.length_set, hlen, Nat.reduceLT, Nat.reduceEqDiff, not_false_eq_true, if_true, h14, h96, h97, h98, hlss, hix, hgw, loadAt, List.length_cons, List.length_nil, Nat.reduceAdd, Nat.reduceLeDiff, Nat.le_refl, List.take_succ_cons, List.take_zero, storeAt, hget0, List.getElem?_cons_zero, cellsOf, List.map_cons, List.map_nil, Nat.zero_add, List.all_cons, List.all_nil, cellOk, Bool.and_true, and_self, setAt, List.set_cons_zero, List.set_cons_succ, hset0, List.drop_zero, mkAgg, toIms, List.append_nil, h17, List.getElem?_cons_succ, hsl, Bool.false_eq_true, if_false, hds, hmin, hix2', hsep, ha1, ha2, hinc]
    refine ex_imp (key _ _ (txt ++ ([c] ++ sw)) (by rw [hsb]; simp; omega) ?_ ?_ ?_ ?_ ?_) ?_
    iterate 5 simp only [gs_same, gs_ne, List.length_set, Nat.reduceLT, Nat.reduceEqDiff, not_false_eq_true, hlen, h14, h96, h97, h98]
    rintro e tm' H' ⟨hl', he, g, ⟨M, hM⟩, hg⟩
    refine ⟨hl', he, ?_, ⟨_ :: M, by rw [hM, List.append_assoc]; rfl⟩, ?_⟩
    · rintro j (rfl | rfl | rfl | rfl | rfl | rfl)
      all_goals (rw [g _ (by simp)]; simp only [gs_same, gs_ne, List.length_set, Nat.reduceLT, Nat.reduceEqDiff, not_false_eq_true, hlen])
    · rw [hg, hsb]
      simp only [showTs, hsw, List.append_assoc, List.cons_append, List.nil_append]

end Go.Abs.Seat
end
section
/- The law KindMakes: what holds of types, no program in sight. -/
set_option linter.unusedVariables false
set_option linter.unusedSimpArgs false
namespace Go.Abs.Seat
open Go.Proofs

theorem kidx_cases (k : Int) : (k = 1 ∨ k = 2 ∨ k = 3 ∨ k = 4 ∨ k = 5 ∨ k = 6 ∨ k = 7 ∨ k = 9) ∨ kidx k = none := by
  by_cases h1 : k = 1
  · simp [h1]
  by_cases h2 : k = 2
  · simp [h2]
  by_cases h3 : k = 3
  · simp [h3]
  by_cases h4 : k = 4
  · simp [h4]
  by_cases h5 : k = 5
  · simp [h5]
  by_cases h6 : k = 6
  · simp [h6]
  by_cases h7 : k = 7
  · simp [h7]
  by_cases h9 : k = 9
  · simp [h9]
  exact .inr (kidx_none h1 h2 h3 h4 h5 h6 h7 h9)

theorem gath_word (k : Int) : gath k words = wordK k := by
  rcases kidx_cases k with (rfl | rfl | rfl | rfl | rfl | rfl | rfl | rfl) | h
  · rfl
  · rfl
  · rfl
  · rfl
  · rfl
  · rfl
  · rfl
  · rfl
  · have : ∀ l : List Word, l.findIdx? (fun w => decide (w.1 = k)) = none → gath k l = [] := by
      intro l
      induction l with
      | nil => intro _; rfl
      | cons w l ih =>
        intro hn
        rw [List.findIdx?_cons] at hn
        by_cases hw : w.1 = k
        · simp [hw] at hn
        · simp only [hw, decide_false, Bool.false_eq_true, if_false, Option.map_eq_none_iff] at hn
          simp only [gath, hw, if_false, ih hn, List.append_nil]
    rw [this words h]
    unfold wordK
    rw [h]

theorem word_none {k : Int} (h : wordK k = []) : kidx k = none := by
  rcases kidx_cases k with (rfl | rfl | rfl | rfl | rfl | rfl | rfl | rfl) | h'
  · exact absurd h (by decide)
  · exact absurd h (by decide)
  · exact absurd h (by decide)
  · exact absurd h (by decide)
  · exact absurd h (by decide)
  · exact absurd h (by decide)
  · exact absurd h (by decide)
  · exact absurd h (by decide)
  · exact h'

mutual
/-- What is right and not deeper than this is right for this. -/
theorem right_for : ∀ (t : KT) (d d' : Int), rightT t d = true → depthT t ≤ d' → rightT t d' = true
  | .mk k s args, d, d', h, hd => by
    simp only [depthT] at hd
    have hp := depthTs_pos args
    simp only [rightT] at h ⊢
    split at h
    · rename_i i hi
      split at h
      · simp at h
      · rw [if_neg (by omega)]
        split at h
        · rename_i hl
          rw [if_pos hl]
          have := right_fors args (d - 1) (d' - 1) (by simpa using h) (by omega)
          simpa using this
        · simp at h
    · simp at h
theorem right_fors : ∀ (l : List KT) (d d' : Int), rightNot l d = false → depthTs l ≤ d' → rightNot l d' = false
  | [], d, d', h, hd => by simp only [rightNot]
  | a :: l, d, d', h, hd => by
    simp only [rightNot, Bool.or_eq_false_iff, Bool.not_eq_false'] at h ⊢
    simp only [depthTs] at hd
    exact ⟨right_for a d d' h.1 (by omega), right_fors l d d' h.2 (by omega)⟩
end

/-- When is what is made right? -/
theorem right_made {k : Int} {s : Nat} {args : List KT} (hr : ∀ a ∈ args, rightT a 6 = true) : rightT (.mk k s args) 6 = true ↔ (wordK k ≠ [] ∧ (args.length : Int) = cntK k ∧ depthTs args + 1 ≤ 6) := by
  constructor
  · intro h
    have hd := right_depth _ _ h
    simp only [depthT] at hd
    refine ⟨fun hw => ?_, ?_, hd⟩
    · simp only [rightT, word_none hw] at h
      simp at h
    · simp only [rightT] at h
      split at h
      · rename_i i hi
        split at h
        · simp at h
        · split at h
          · rename_i hl
            unfold cntK
            rw [hi]
            exact hl
          · simp at h
      · simp at h
  · rintro ⟨hw, hl, hd⟩
    cases hi : kidx k with
    | none => exact absurd (by unfold wordK; rw [hi]) hw
    | some i =>
      simp only [rightT, hi]
      unfold cntK at hl
      rw [hi] at hl
      rw [if_neg (by decide), if_pos hl]
      have h6 : rightNot args 6 = false := by
        rw [rightNot_any, List.any_eq_false]
        intro a ha
        simp [hr a ha]
      have := right_fors args 6 (6 - 1) h6 (by omega)
      simpa using this

mutual
theorem clone_right : ∀ (t : KT) (d : Int), rightT (cloneT t) d = rightT t d
  | .mk k s args, d => by
    have hl : (cloneTs args).length = args.length := by rw [cloneTs_map]; simp
    simp only [cloneT, rightT, hl, clone_rights args (d - 1)]
theorem clone_rights : ∀ (l : List KT) (d : Int), rightNot (cloneTs l) d = rightNot l d
  | [], d => rfl
  | a :: l, d => by simp only [cloneTs, rightNot, clone_right a d, clone_rights l d]
end

mutual
theorem clone_depth : ∀ (t : KT), depthT (cloneT t) = depthT t
  | .mk k s args => by simp only [cloneT, depthT, clone_depths args]
theorem clone_depths : ∀ (l : List KT), depthTs (cloneTs l) = depthTs l
  | [] => rfl
  | a :: l => by simp only [cloneTs, depthTs, clone_depth a, clone_depths l]
end

mutual
theorem clone_show : ∀ (t : KT), showT (cloneT t) = showT t
  | .mk k s args => by
    have hl : (cloneTs args).length = args.length := by rw [cloneTs_map]; simp
    simp only [cloneT, showT, hl, clone_shows args]
theorem clone_shows : ∀ (l : List KT) (c : UInt8), showTs (cloneTs l) c = showTs l c
  | [], c => rfl
  | a :: l, c => by simp only [cloneTs, showTs, clone_show a, clone_shows l]
end

mutual
theorem clone_ok : ∀ (t : KT), okT t → okT (cloneT t)
  | .mk k s args, h => by
    have hl : (cloneTs args).length = args.length := by rw [cloneTs_map]; simp
    simp only [okT] at h
    simp only [cloneT, okT]
    refine ⟨?_, by omega, clone_oks args h.2.2⟩
    by_cases h0 : args.length = 0
    · left
      have : (cloneTs args).length = 0 := by omega
      exact List.length_eq_zero_iff.1 this
    · right; rw [if_neg h0]
theorem clone_oks : ∀ (l : List KT), okTs l → okTs (cloneTs l)
  | [], h => by simp only [cloneTs, okTs]
  | a :: l, h => by
    simp only [okTs] at h
    simp only [cloneTs, okTs]
    exact ⟨clone_ok a h.1, clone_oks l h.2⟩
end

end Go.Abs.Seat
end
section
/- What the seat's functions come to: the reference's scan. -/
set_option linter.unusedVariables false
set_option linter.unusedSimpArgs false
namespace Go.Abs.Seat
open Go.Proofs

/-- How long the common beginning of two texts is. -/
def lcp : List UInt8 → List UInt8 → Nat
  | a :: w, b :: r => if b = a then lcp w r + 1 else 0
  | _, _ => 0

theorem wordK_len (k : Int) : (wordK k).length ≤ 8 := by
  rcases kidx_cases k with (rfl | rfl | rfl | rfl | rfl | rfl | rfl | rfl) | h
  all_goals first
    | decide
    | (unfold wordK; rw [h]; simp)

theorem lcp_nil (w : List UInt8) : lcp w [] = 0 := by cases w <;> rfl

theorem l46l (s w : List UInt8) (k : Nat) (hw8 : w.length ≤ 8) (hk : k ≤ s.length) (hs : s.length ≤ 4611686018427387904) (H : Heap) :
    ∀ (m n : Nat), n + m = w.length → ∀ (tm : List AV), tm.length = 163 → tm.getD 0 undefA = .im (.str s) → tm.getD 1 undefA = .im (.int .i64 (k : Int)) → tm.getD 19 undefA = .im (.str w) → tm.getD 20 undefA = .im (.int .i64 (n : Int)) →
    ∃ e tm' H', Λ c46_0 tm H = some (e, tm', H') ∧ e = .exit 6 ∧ H' = H ∧ tm'.length = 163 ∧ (∀ j, j = 0 ∨ j = 1 ∨ j = 2 ∨ j = 6 ∨ j = 17 ∨ j = 18 → tm'.getD j undefA = tm.getD j undefA) ∧ tm'.getD 20 undefA = .im (.int .i64 ((n + lcp (w.drop n) (s.drop (k + n)) : Nat) : Int))
  | 0, n, hn, tm, hlen, h0, h1, h19, h20 => by
    have e : w.drop n = [] := by rw [List.drop_eq_nil_iff]; omega
    have hc : decide ((n : Int) < (w.length : Int)) = false := decide_eq_false (by omega)
    rw [e, l46_0]
    simp only [b46_0, x_seq, x_block, x_skip, x_label, x_cond, x_exit, x_goto, x_ret, k_normal, k_exit, k_goto, k_ret, b_normal, b_exit, b_goto, b_ret, wantedA, aop, ev, putA, List.length_cons, List.length_nil, List.replicate, List.cons_append, List.nil_append, List.append_nil, List.append_assoc, gs_same, gs_ne, gq_same, gq_ne, List.length_set, List.map_cons, List.map_nil, cellsOf, List.all_cons, List.all_nil, cellOk, boxTy, Bool.and_true, Bool.and_self, if_true, ite_true, ite_false, loadAt, storeAt, setAt, hget, hget0, hset, hset0, List.getElem?_cons_zero, List.getElem?_cons_succ, List.set_cons_zero, List.set_cons_succ, Nat.add_zero, Nat.zero_add, Nat.reduceAdd, Nat.reduceSub, Nat.reduceLeDiff, Nat.reduceLT, Nat.reduceEqDiff, Nat.le_refl, and_self, and_true, true_and, mkAgg, toIms, List.drop_zero, List.drop_succ_cons, List.take_succ_cons, List.take_zero, List.length_append, binBool, unA, Bool.false_eq_true, if_false, partA, fillA, fillE, List.take_nil, Nat.zero_ne_one, Nat.one_ne_zero, not_false_eq_true, ne_eq, Nat.succ_ne_self, reduceCtorEq, Int.reduceEq, Int.reduceLT, Int.reduceLE, decide_true, decide_false, lenA, beq_self_eq_true, beq_true, beq_false, Bool.not_true, Bool.not_false, b_lss, b_gtr, b_leq, b_geq, b_eql, b_neq, b_add, b_sub, b_mul, s_eql, s_neq, y_ops, y_nil, y_cons, y_guard, y_some, y_drop, y_do, y_not, y_not0, c_call, c_clo, c_move, c_pick, c_alloc, c_box, c_build, c_bslice, c_load, c_store, c_nilCheck, c_bin, c_binB, c_un, c_i2i, c_i2f, c_f2i, c_s2b, c_b2s, c_strId, c_mkfunc, c_mkslice, c_slice, c_sliceStr, c_fieldAddr, c_field, c_indexSl, c_indexArr, c_elemArr, c_indexStr, c_extract, c_lenStr, c_lenSl, c_append, c_real, c_imag, c_complex, c_min, c_max, c_clear, hlen, h0, h1, h19, h20, hc, lcp]
    exact ⟨_, _, _, rfl, rfl, rfl, by simp only [List.length_set, hlen], by rintro j (rfl | rfl | rfl | rfl | rfl | rfl) <;> simp only [gs_same, gs_ne, List.length_set, Nat.reduceLT, Nat.reduceEqDiff, not_false_eq_true, hlen], by simp only [gs_same, gs_ne, List.length_set, Nat.reduceLT, Nat.reduceEqDiff, not_false_eq_true, hlen, h20]⟩
  | m + 1, n, hn, tm, hlen, h0, h1, h19, h20 => by
    have hlt : n < w.length := by omega
    obtain ⟨a, hwa, e⟩ := drop_cons hlt
    have hc : decide ((n : Int) < (w.length : Int)) = true := decide_eq_true (by omega)
    have hadd : IntKind.i64.wrap ((k : Int) + (n : Int)) = ((k + n : Nat) : Int) := by
      rw [Go.Abs.Seat.wrap_small _ (by omega)]; omega
    have hnn : (0 : Int) ≤ (n : Int) := Int.natCast_nonneg n
    have hkn : (0 : Int) ≤ ((k + n : Nat) : Int) := Int.natCast_nonneg _
    have hwr := wrap_nat (i := n) (by omega)
    rw [e, l46_0]
    by_cases hl : k + n < s.length
    · obtain ⟨b, hsb, e2⟩ := drop_cons hl
      have hc2 : decide (((k + n : Nat) : Int) < (s.length : Int)) = true := decide_eq_true (by omega)
      rw [e2]
      simp only [lcp]
      by_cases hab : b = a
      · have hd : decide (((b.toNat : Nat) : Int) = ((a.toNat : Nat) : Int)) = true := by rw [byte_eq]; exact decide_eq_true hab
        have key := l46l s w k hw8 hk hs H m (n + 1) (by omega)
        simp only [b46_0, x_seq, x_block, x_skip, x_label, x_cond, x_exit, x_goto, x_ret, k_normal, k_exit, k_goto, k_ret, b_normal, b_exit, b_goto, b_ret, wantedA, aop, ev, putA, List.length_cons, List.length_nil, List.replicate, List.cons_append, List.nil_append, List.append_nil, List.append_assoc, gs_same, gs_ne, gq_same, gq_ne, List.length_set, List.map_cons, List.map_nil, cellsOf, List.all_cons, List.all_nil, cellOk, boxTy, Bool.and_true, Bool.and_self, if_true, ite_true, ite_false, loadAt, storeAt, setAt, hget, hget0, hset, hset0, List.getElem?_cons_zero, List.getElem?_cons_succ, List.set_cons_zero, List.set_cons_succ, Nat.add_zero, Nat.zero_add, Nat.reduceAdd, Nat.reduceSub, Nat.reduceLeDiff, Nat.reduceLT, Nat.reduceEqDiff, Nat.le_refl, and_self, and_true, true_and, mkAgg, toIms, List.drop_zero, List.drop_succ_cons, List.take_succ_cons, List.take_zero, List.length_append, binBool, unA, Bool.false_eq_true, if_false, partA, fillA, fillE, List.take_nil, Nat.zero_ne_one, Nat.one_ne_zero, not_false_eq_true, ne_eq, Nat.succ_ne_self, reduceCtorEq, Int.reduceEq, Int.reduceLT, Int.reduceLE, decide_true, decide_false, lenA, beq_self_eq_true, beq_true, beq_false, Bool.not_true, Bool.not_false, b_lss, b_gtr, b_leq, b_geq, b_eql, b_neq, b_add, b_sub, b_mul, s_eql, s_neq, y_ops, y_nil, y_cons, y_guard, y_some, y_drop, y_do, y_not, y_not0, c_call, c_clo, c_move, c_pick, c_alloc, c_box, c_build, c_bslice, c_load, c_store, c_nilCheck, c_bin, c_binB, c_un, c_i2i, c_i2f, c_f2i, c_s2b, c_b2s, c_strId, c_mkfunc, c_mkslice, c_slice, c_sliceStr, c_fieldAddr, c_field, c_indexSl, c_indexArr, c_elemArr, c_indexStr, c_extract, c_lenStr, c_lenSl, c_append, c_real, c_imag, c_complex, c_min, c_max, c_clear, intOfA, byteDat, Int.toNat_natCast, hlen, h0, h1, h19, h20, hc, hadd, hc2, hnn, hkn, hwa, hsb, hd, hwr, if_pos hab]
        refine ex_imp (key _ ?_ ?_ ?_ ?_ ?_) ?_
        iterate 5 simp only [gs_same, gs_ne, List.length_set, Nat.reduceLT, Nat.reduceEqDiff, not_false_eq_true, hlen, h0, h1, h19]
        rintro e tm' H' ⟨he, hH, hl', g, g20⟩
        refine ⟨he, hH, hl', ?_, ?_⟩
        · rintro j (rfl | rfl | rfl | rfl | rfl | rfl)
          all_goals (rw [g _ (by simp)]; simp only [gs_same, gs_ne, List.length_set, Nat.reduceLT, Nat.reduceEqDiff, not_false_eq_true, hlen])
        · rw [g20, show n + 1 + lcp (w.drop (n + 1)) (s.drop (k + (n + 1))) = n + (lcp (w.drop (n + 1)) (s.drop (k + n + 1)) + 1) by rw [Nat.add_assoc k]; omega]
      · have hd : decide (((b.toNat : Nat) : Int) = ((a.toNat : Nat) : Int)) = false := by rw [byte_eq]; exact decide_eq_false hab
        simp only [b46_0, x_seq, x_block, x_skip, x_label, x_cond, x_exit, x_goto, x_ret, k_normal, k_exit, k_goto, k_ret, b_normal, b_exit, b_goto, b_ret, wantedA, aop, ev, putA, List.length_cons, List.length_nil, List.replicate, List.cons_append, List.nil_append, List.append_nil, List.append_assoc, gs_same, gs_ne, gq_same, gq_ne, List.length_set, List.map_cons, List.map_nil, cellsOf, List.all_cons, List.all_nil, cellOk, boxTy, Bool.and_true, Bool.and_self, if_true, ite_true, ite_false, loadAt, storeAt, setAt, hget, hget0, hset, hset0, List.getElem?_cons_zero, List.getElem?_cons_succ, List.set_cons_zero, List.set_cons_succ, Nat.add_zero, Nat.zero_add, Nat.reduceAdd, Nat.reduceSub, Nat.reduceLeDiff, Nat.reduceLT, Nat.reduceEqDiff, Nat.le_refl, and_self, and_true, true_and, mkAgg, toIms, List.drop_zero, List.drop_succ_cons, List.take_succ_cons, List.take_zero, List.length_append, binBool, unA, Bool.false_eq_true, if_false, partA, fillA, fillE, List.take_nil, Nat.zero_ne_one, Nat.one_ne_zero, not_false_eq_true, ne_eq, Nat.succ_ne_self, reduceCtorEq, Int.reduceEq, Int.reduceLT, Int.reduceLE, decide_true, decide_false, lenA, beq_self_eq_true, beq_true, beq_false, Bool.not_true, Bool.not_false, b_lss, b_gtr, b_leq, b_geq, b_eql, b_neq, b_add, b_sub, b_mul, s_eql, s_neq, y_ops, y_nil, y_cons, y_guard, y_some, y_drop, y_do, y_not, y_not0, c_call, c_clo, c_move, c_pick, c_alloc, c_box, c_build, c_bslice, c_load, c_store, c_nilCheck, c_bin, c_binB, c_un, c_i2i, c_i2f, c_f2i, c_s2b, c_b2s, c_strId, c_mkfunc, c_mkslice, c_slice, c_sliceStr, c_fieldAddr, c_field, c_indexSl, c_indexArr, c_elemArr, c_indexStr, c_extract, c_lenStr, c_lenSl, c_append, c_real, c_imag, c_complex, c_min, c_max, c_clear, intOfA, byteDat, Int.toNat_natCast, hlen, h0, h1, h19, h20, hc, hadd, hc2, hnn, hkn, hwa, hsb, hd, if_neg hab]
        exact ⟨_, _, _, rfl, rfl, rfl, by simp only [List.length_set, hlen], by rintro j (rfl | rfl | rfl | rfl | rfl | rfl) <;> simp only [gs_same, gs_ne, List.length_set, Nat.reduceLT, Nat.reduceEqDiff, not_false_eq_true, hlen], by simp only [gs_same, gs_ne, List.length_set, Nat.reduceLT, Nat.reduceEqDiff, not_false_eq_true, hlen, h20]⟩
    · have e2 : s.drop (k + n) = [] := by rw [List.drop_eq_nil_iff]; omega
      have hc2 : decide (((k + n : Nat) : Int) < (s.length : Int)) = false := decide_eq_false (by omega)
      rw [e2, lcp_nil]
      simp only [b46_0, x_seq, x_block, x_skip, x_label, x_cond, x_exit, x_goto, x_ret, k_normal, k_exit, k_goto, k_ret, b_normal, b_exit, b_goto, b_ret, wantedA, aop, ev, putA, List.length_cons, List.length_nil, List.replicate, List.cons_append, List.nil_append, List.append_nil, List.append_assoc, gs_same, gs_ne, gq_same, gq_ne, List.length_set, List.map_cons, List.map_nil, cellsOf, List.all_cons, List.all_nil, cellOk, boxTy, Bool.and_true, Bool.and_self, if_true, ite_true, ite_false, loadAt, storeAt, setAt, hget, hget0, hset, hset0, List.getElem?_cons_zero, List.getElem?_cons_succ, List.set_cons_zero, List.set_cons_succ, Nat.add_zero, Nat.zero_add, Nat.reduceAdd, Nat.reduceSub, Nat.reduceLeDiff, Nat.reduceLT, Nat.reduceEqDiff, Nat.le_refl, and_self, and_true, true_and, mkAgg, toIms, List.drop_zero, List.drop_succ_cons, List.take_succ_cons, List.take_zero, List.length_append, binBool, unA, Bool.false_eq_true, if_false, partA, fillA, fillE, List.take_nil, Nat.zero_ne_one, Nat.one_ne_zero, not_false_eq_true, ne_eq, Nat.succ_ne_self, reduceCtorEq, Int.reduceEq, Int.reduceLT, Int.reduceLE, decide_true, decide_false, lenA, beq_self_eq_true, beq_true, beq_false, Bool.not_true, Bool.not_false, b_lss, b_gtr, b_leq, b_geq, b_eql, b_neq, b_add, b_sub, b_mul, s_eql, s_neq, y_ops, y_nil, y_cons, y_guard, y_some, y_drop, y_do, y_not, y_not0, c_call, c_clo, c_move, c_pick, c_alloc, c_box, c_build, c_bslice, c_load, c_store, c_nilCheck, c_bin, c_binB, c_un, c_i2i, c_i2f, c_f2i, c_s2b, c_b2s, c_strId, c_mkfunc, c_mkslice, c_slice, c_sliceStr, c_fieldAddr, c_field, c_indexSl, c_indexArr, c_elemArr, c_indexStr, c_extract, c_lenStr, c_lenSl, c_append, c_real, c_imag, c_complex, c_min, c_max, c_clear, hlen, h0, h1, h19, h20, hc, hadd, hc2]
      exact ⟨_, _, _, rfl, rfl, rfl, by simp only [List.length_set, hlen], by rintro j (rfl | rfl | rfl | rfl | rfl | rfl) <;> simp only [gs_same, gs_ne, List.length_set, Nat.reduceLT, Nat.reduceEqDiff, not_false_eq_true, hlen], by simp only [gs_same, gs_ne, List.length_set, Nat.reduceLT, Nat.reduceEqDiff, not_false_eq_true, hlen, h20]⟩

/-- Is a kind passed over? -/
def skipK (d kd : Int) : Bool := decide (wordK kd = []) || (decide (d = 1) && decide (0 < cntK kd))
def bestL (d : Int) (r : List UInt8) : List Int → Nat → Nat
  | [], b => b
  | kd :: l, b => bestL d r l (if skipK d kd = true then b else if b < lcp (wordK kd) r then lcp (wordK kd) r else b)
def kindsF : Nat → Nat → List Int
  | 0, _ => []
  | m + 1, i => (i : Int) :: kindsF m (i + 1)

theorem l46b (s : List UInt8) (k : Nat) (d : Int) (hk : k ≤ s.length) (hs : s.length ≤ 4611686018427387904) (H : Heap) :
    ∀ (m i : Nat), i + m = 10 → ∀ (tm : List AV) (b : Nat), tm.length = 163 → tm.getD 0 undefA = .im (.str s) → tm.getD 1 undefA = .im (.int .i64 (k : Int)) → tm.getD 2 undefA = .im (.int .i64 d) → tm.getD 17 undefA = .im (.int .i64 (b : Int)) → tm.getD 18 undefA = .im (.int .i64 (i : Int)) →
    ∃ e tm' H', Λ c46_1 tm H = some (e, tm', H') ∧ e = .exit 4 ∧ H' = H ∧ tm'.length = 163 ∧ tm'.getD 1 undefA = .im (.int .i64 (k : Int)) ∧ tm'.getD 6 undefA = tm.getD 6 undefA ∧ tm'.getD 17 undefA = .im (.int .i64 ((bestL d (s.drop k) (kindsF m i) b : Nat) : Int))
  | 0, i, hi, tm, b, hlen, h0, h1, h2, h17, h18 => by
    have hc : decide ((i : Int) ≤ 9) = false := decide_eq_false (by omega)
    rw [l46_1]
    simp only [b46_1, x_seq, x_block, x_skip, x_label, x_cond, x_exit, x_goto, x_ret, k_normal, k_exit, k_goto, k_ret, b_normal, b_exit, b_goto, b_ret, wantedA, aop, ev, putA, List.length_cons, List.length_nil, List.replicate, List.cons_append, List.nil_append, List.append_nil, List.append_assoc, gs_same, gs_ne, gq_same, gq_ne, List.length_set, List.map_cons, List.map_nil, cellsOf, List.all_cons, List.all_nil, cellOk, boxTy, Bool.and_true, Bool.and_self, if_true, ite_true, ite_false, loadAt, storeAt, setAt, hget, hget0, hset, hset0, List.getElem?_cons_zero, List.getElem?_cons_succ, List.set_cons_zero, List.set_cons_succ, Nat.add_zero, Nat.zero_add, Nat.reduceAdd, Nat.reduceSub, Nat.reduceLeDiff, Nat.reduceLT, Nat.reduceEqDiff, Nat.le_refl, and_self, and_true, true_and, mkAgg, toIms, List.drop_zero, List.drop_succ_cons, List.take_succ_cons, List.take_zero, List.length_append, binBool, unA, Bool.false_eq_true, if_false, partA, fillA, fillE, List.take_nil, Nat.zero_ne_one, Nat.one_ne_zero, not_false_eq_true, ne_eq, Nat.succ_ne_self, reduceCtorEq, Int.reduceEq, Int.reduceLT, Int.reduceLE, decide_true, decide_false, lenA, beq_self_eq_true, beq_true, beq_false, Bool.not_true, Bool.not_false, b_lss, b_gtr, b_leq, b_geq, b_eql, b_neq, b_add, b_sub, b_mul, s_eql, s_neq, y_ops, y_nil, y_cons, y_guard, y_some, y_drop, y_do, y_not, y_not0, c_call, c_clo, c_move, c_pick, c_alloc, c_box, c_build, c_bslice, c_load, c_store, c_nilCheck, c_bin, c_binB, c_un, c_i2i, c_i2f, c_f2i, c_s2b, c_b2s, c_strId, c_mkfunc, c_mkslice, c_slice, c_sliceStr, c_fieldAddr, c_field, c_indexSl, c_indexArr, c_elemArr, c_indexStr, c_extract, c_lenStr, c_lenSl, c_append, c_real, c_imag, c_complex, c_min, c_max, c_clear, hlen, h0, h1, h17, h18, hc, kindsF, bestL]
    exact ⟨_, _, _, rfl, rfl, rfl, by simp only [List.length_set, hlen], by simp only [gs_same, gs_ne, List.length_set, Nat.reduceLT, Nat.reduceEqDiff, not_false_eq_true, hlen, h1], by simp only [gs_same, gs_ne, List.length_set, Nat.reduceLT, Nat.reduceEqDiff, not_false_eq_true, hlen], by simp only [gs_same, gs_ne, List.length_set, Nat.reduceLT, Nat.reduceEqDiff, not_false_eq_true, hlen, h17]⟩
  | m + 1, i, hi, tm, b, hlen, h0, h1, h2, h17, h18 => by
    have hc : decide ((i : Int) ≤ 9) = true := decide_eq_true (by omega)
    have h22 := s22 (i : Int)
    have h23 := s23 (i : Int)
    have hwr := wrap_nat (i := i) (by omega)
    have hw8 := wordK_len (i : Int)
    have key := l46b s k d hk hs H m (i + 1) (by omega)
    rw [l46_1]
    simp only [kindsF, bestL]
    cases hsk : skipK d (i : Int) with
    | true =>
      simp only [if_true]
      have hcase : (decide (wordK (i : Int) = []) = true) ∨ (decide (wordK (i : Int) = []) = false ∧ decide (d = 1) = true ∧ decide (0 < cntK (i : Int)) = true) := by
        unfold skipK at hsk
        generalize decide (wordK (i : Int) = []) = x1 at *
        generalize decide (d = 1) = x2 at *
        generalize decide (0 < cntK (i : Int)) = x3 at *
        revert hsk
        cases x1 <;> cases x2 <;> cases x3 <;> simp
      rcases hcase with e1 | ⟨e1, e2, e3⟩
      · simp only [b46_1, x_seq, x_block, x_skip, x_label, x_cond, x_exit, x_goto, x_ret, k_normal, k_exit, k_goto, k_ret, b_normal, b_exit, b_goto, b_ret, wantedA, aop, ev, putA, List.length_cons, List.length_nil, List.replicate, List.cons_append, List.nil_append, List.append_nil, List.append_assoc, gs_same, gs_ne, gq_same, gq_ne, List.length_set, List.map_cons, List.map_nil, cellsOf, List.all_cons, List.all_nil, cellOk, boxTy, Bool.and_true, Bool.and_self, if_true, ite_true, ite_false, loadAt, storeAt, setAt, hget, hget0, hset, hset0, List.getElem?_cons_zero, List.getElem?_cons_succ, List.set_cons_zero, List.set_cons_succ, Nat.add_zero, Nat.zero_add, Nat.reduceAdd, Nat.reduceSub, Nat.reduceLeDiff, Nat.reduceLT, Nat.reduceEqDiff, Nat.le_refl, and_self, and_true, true_and, mkAgg, toIms, List.drop_zero, List.drop_succ_cons, List.take_succ_cons, List.take_zero, List.length_append, binBool, unA, Bool.false_eq_true, if_false, partA, fillA, fillE, List.take_nil, Nat.zero_ne_one, Nat.one_ne_zero, not_false_eq_true, ne_eq, Nat.succ_ne_self, reduceCtorEq, Int.reduceEq, Int.reduceLT, Int.reduceLE, decide_true, decide_false, lenA, beq_self_eq_true, beq_true, beq_false, Bool.not_true, Bool.not_false, b_lss, b_gtr, b_leq, b_geq, b_eql, b_neq, b_add, b_sub, b_mul, s_eql, s_neq, y_ops, y_nil, y_cons, y_guard, y_some, y_drop, y_do, y_not, y_not0, c_call, c_clo, c_move, c_pick, c_alloc, c_box, c_build, c_bslice, c_load, c_store, c_nilCheck, c_bin, c_binB, c_un, c_i2i, c_i2f, c_f2i, c_s2b, c_b2s, c_strId, c_mkfunc, c_mkslice, c_slice, c_sliceStr, c_fieldAddr, c_field, c_indexSl, c_indexArr, c_elemArr, c_indexStr, c_extract, c_lenStr, c_lenSl, c_append, c_real, c_imag, c_complex, c_min, c_max, c_clear, hlen, h0, h1, h2, h17, h18, hc, h22, e1, hwr]
        refine ex_imp (key _ b ?_ ?_ ?_ ?_ ?_ ?_) ?_
        iterate 6 simp only [gs_same, gs_ne, List.length_set, Nat.reduceLT, Nat.reduceEqDiff, not_false_eq_true, hlen, h0, h1, h2, h17]
        rintro e tm' H' ⟨a1, a2, a3, a4, a5, a6⟩
        exact ⟨a1, a2, a3, a4, by rw [a5]; simp only [gs_same, gs_ne, List.length_set, Nat.reduceLT, Nat.reduceEqDiff, not_false_eq_true, hlen], a6⟩
      · simp only [b46_1, x_seq, x_block, x_skip, x_label, x_cond, x_exit, x_goto, x_ret, k_normal, k_exit, k_goto, k_ret, b_normal, b_exit, b_goto, b_ret, wantedA, aop, ev, putA, List.length_cons, List.length_nil, List.replicate, List.cons_append, List.nil_append, List.append_nil, List.append_assoc, gs_same, gs_ne, gq_same, gq_ne, List.length_set, List.map_cons, List.map_nil, cellsOf, List.all_cons, List.all_nil, cellOk, boxTy, Bool.and_true, Bool.and_self, if_true, ite_true, ite_false, loadAt, storeAt, setAt, hget, hget0, hset, hset0, List.getElem?_cons_zero, List.getElem?_cons_succ, List.set_cons_zero, List.set_cons_succ, Nat.add_zero, Nat.zero_add, Nat.reduceAdd, Nat.reduceSub, Nat.reduceLeDiff, Nat.reduceLT, Nat.reduceEqDiff, Nat.le_refl, and_self, and_true, true_and, mkAgg, toIms, List.drop_zero, List.drop_succ_cons, List.take_succ_cons, List.take_zero, List.length_append, binBool, unA, Bool.false_eq_true, if_false, partA, fillA, fillE, List.take_nil, Nat.zero_ne_one, Nat.one_ne_zero, not_false_eq_true, ne_eq, Nat.succ_ne_self, reduceCtorEq, Int.reduceEq, Int.reduceLT, Int.reduceLE, decide_true, decide_false, lenA, beq_self_eq_true, beq_true, beq_false, Bool.not_true, Bool.not_false, b_lss, b_gtr, b_leq, b_geq, b_eql, b_neq, b_add, b_sub, b_mul, s_eql, s_neq, y_ops, y_nil, y_cons, y_guard, y_some, y_drop, y_do, y_not, y_not0, c_call, c_clo, c_move, c_pick, c_alloc, c_box, c_build, c_bslice, c_load, c_store, c_nilCheck, c_bin, c_binB, c_un, c_i2i, c_i2f, c_f2i, c_s2b, c_b2s, c_strId, c_mkfunc, c_mkslice, c_slice, c_sliceStr, c_fieldAddr, c_field, c_indexSl, c_indexArr, c_elemArr, c_indexStr, c_extract, c_lenStr, c_lenSl, c_append, c_real, c_imag, c_complex, c_min, c_max, c_clear, hlen, h0, h1, h2, h17, h18, hc, h22, h23, e1, e2, e3, hwr]
        refine ex_imp (key _ b ?_ ?_ ?_ ?_ ?_ ?_) ?_
        iterate 6 simp only [gs_same, gs_ne, List.length_set, Nat.reduceLT, Nat.reduceEqDiff, not_false_eq_true, hlen, h0, h1, h2, h17]
        rintro e tm' H' ⟨a1, a2, a3, a4, a5, a6⟩
        exact ⟨a1, a2, a3, a4, by rw [a5]; simp only [gs_same, gs_ne, List.length_set, Nat.reduceLT, Nat.reduceEqDiff, not_false_eq_true, hlen], a6⟩
    | false =>
      simp only [Bool.false_eq_true, if_false]
      have hcase : decide (wordK (i : Int) = []) = false ∧ (decide (d = 1) = false ∨ (decide (d = 1) = true ∧ decide (0 < cntK (i : Int)) = false)) := by
        unfold skipK at hsk
        generalize decide (wordK (i : Int) = []) = x1 at *
        generalize decide (d = 1) = x2 at *
        generalize decide (0 < cntK (i : Int)) = x3 at *
        revert hsk
        cases x1 <;> cases x2 <;> cases x3 <;> simp
      have keyl := l46l s (wordK (i : Int)) k hw8 hk hs H (wordK (i : Int)).length 0 (by omega)
      have zz : ((0 : Nat) : Int) = 0 := rfl
      simp only [zz, Nat.add_zero, Nat.zero_add, List.drop_zero] at keyl
      generalize wordK (i : Int) = wk at *
      obtain ⟨e1, hcase⟩ := hcase
      rcases hcase with e2 | ⟨e2, e3⟩
      all_goals first
        | simp only [b46_1, e46_0, x_seq, x_block, x_skip, x_label, x_cond, x_exit, x_goto, x_ret, k_normal, k_exit, k_goto, k_ret, b_normal, b_exit, b_goto, b_ret, wantedA, aop, ev, putA, List.length_cons, List.length_nil, List.replicate, List.cons_append, List.nil_append, List.append_nil, List.append_assoc, gs_same, gs_ne, gq_same, gq_ne, List.length_set, List.map_cons, List.map_nil, cellsOf, List.all_cons, List.all_nil, cellOk, boxTy, Bool.and_true, Bool.and_self, if_true, ite_true, ite_false, loadAt, storeAt, setAt, hget, hget0, hset, hset0, List.getElem?_cons_zero, List.getElem?_cons_succ, List.set_cons_zero, List.set_cons_succ, Nat.add_zero, Nat.zero_add, Nat.reduceAdd, Nat.reduceSub, Nat.reduceLeDiff, Nat.reduceLT, Nat.reduceEqDiff, Nat.le_refl, and_self, and_true, true_and, mkAgg, toIms, List.drop_zero, List.drop_succ_cons, List.take_succ_cons, List.take_zero, List.length_append, binBool, unA, Bool.false_eq_true, if_false, partA, fillA, fillE, List.take_nil, Nat.zero_ne_one, Nat.one_ne_zero, not_false_eq_true, ne_eq, Nat.succ_ne_self, reduceCtorEq, Int.reduceEq, Int.reduceLT, Int.reduceLE, decide_true, decide_false, lenA, beq_self_eq_true, beq_true, beq_false, Bool.not_true, Bool.not_false, b_lss, b_gtr, b_leq, b_geq, b_eql, b_neq, b_add, b_sub, b_mul, s_eql, s_neq, y_ops, y_nil, y_cons, y_guard, y_some, y_drop, y_do, y_not, y_not0, c_call, c_clo, c_move, c_pick, c_alloc, c_box, c_build, c_bslice, c_load, c_store, c_nilCheck, c_bin, c_binB, c_un, c_i2i, c_i2f, c_f2i, c_s2b, c_b2s, c_strId, c_mkfunc, c_mkslice, c_slice, c_sliceStr, c_fieldAddr, c_field, c_indexSl, c_indexArr, c_elemArr, c_indexStr, c_extract, c_lenStr, c_lenSl, c_append, c_real, c_imag, c_complex, c_min, c_max, c_clear, hlen, h0, h1, h2, h17, h18, hc, h22, h23, e1, e2, e3, hwr]
        | simp only [b46_1, e46_0, x_seq, x_block, x_skip, x_label, x_cond, x_exit, x_goto, x_ret, k_normal, k_exit, k_goto, k_ret, b_normal, b_exit, b_goto, b_ret, wantedA, aop, ev, putA, List.length_cons, List.length_nil, List.replicate, List.cons_append, List.nil_append, List.append_nil, List.append_assoc, gs_same, gs_ne, gq_same, gq_ne, List.length_set, List.map_cons, List.map_nil, cellsOf, List.all_cons, List.all_nil, cellOk, boxTy, Bool.and_true, Bool.and_self, if_true, ite_true, ite_false, loadAt, storeAt, setAt, hget, hget0, hset, hset0, List.getElem?_cons_zero, List.getElem?_cons_succ, List.set_cons_zero, List.set_cons_succ, Nat.add_zero, Nat.zero_add, Nat.reduceAdd, Nat.reduceSub, Nat.reduceLeDiff, Nat.reduceLT, Nat.reduceEqDiff, Nat.le_refl, and_self, and_true, true_and, mkAgg, toIms, List.drop_zero, List.drop_succ_cons, List.take_succ_cons, List.take_zero, List.length_append, binBool, unA, Bool.false_eq_true, if_false, partA, fillA, fillE, List.take_nil, Nat.zero_ne_one, Nat.one_ne_zero, not_false_eq_true, ne_eq, Nat.succ_ne_self, reduceCtorEq, Int.reduceEq, Int.reduceLT, Int.reduceLE, decide_true, decide_false, lenA, beq_self_eq_true, beq_true, beq_false, Bool.not_true, Bool.not_false, b_lss, b_gtr, b_leq, b_geq, b_eql, b_neq, b_add, b_sub, b_mul, s_eql, s_neq, y_ops, y_nil, y_cons, y_guard, y_some, y_drop, y_do, y_not, y_not0, c_call, c_clo, c_move, c_pick, c_alloc, c_box, c_build, c_bslice, c_load, c_store, c_nilCheck, c_bin, c_binB, c_un, c_i2i, c_i2f, c_f2i, c_s2b, c_b2s, c_strId, c_mkfunc, c_mkslice, c_slice, c_sliceStr, c_fieldAddr, c_field, c_indexSl, c_indexArr, c_elemArr, c_indexStr, c_extract, c_lenStr, c_lenSl, c_append, c_real, c_imag, c_complex, c_min, c_max, c_clear, hlen, h0, h1, h2, h17, h18, hc, h22, h23, e1, e2, hwr]
      all_goals generalize hr : thenL _ _ = r
      all_goals refine Exists.elim (thenL_inv hr (keyl _ ?_ ?_ ?_ ?_ ?_)) ?_
      all_goals first
        | (simp only [gs_same, gs_ne, List.length_set, Nat.reduceLT, Nat.reduceEqDiff, not_false_eq_true, hlen, h0, h1]; done)
        | skip
      all_goals clear hr
      all_goals rintro e ⟨tm1, H1, ⟨rfl, rfl, hl1, g, g20⟩, rfl⟩
      all_goals have g0 := g 0 (by simp)
      all_goals have g1 := g 1 (by simp)
      all_goals have g2 := g 2 (by simp)
      all_goals have g6 := g 6 (by simp)
      all_goals have g17 := g 17 (by simp)
      all_goals have g18 := g 18 (by simp)
      all_goals simp only [gs_same, gs_ne, List.length_set, Nat.reduceLT, Nat.reduceEqDiff, not_false_eq_true, hlen, h0, h1, h2, h17, h18] at g0 g1 g2 g6 g17 g18
      all_goals clear g
      all_goals generalize lcp wk (s.drop k) = lc at *
      all_goals by_cases hlc : b < lc
      all_goals first
        | (have e5 : decide ((b : Int) < (lc : Int)) = true := decide_eq_true (by omega)
           simp only [if_pos hlc]
           simp only [x_seq, x_block, x_skip, x_label, x_cond, x_exit, x_goto, x_ret, k_normal, k_exit, k_goto, k_ret, b_normal, b_exit, b_goto, b_ret, wantedA, aop, ev, putA, List.length_cons, List.length_nil, List.replicate, List.cons_append, List.nil_append, List.append_nil, List.append_assoc, gs_same, gs_ne, gq_same, gq_ne, List.length_set, List.map_cons, List.map_nil, cellsOf, List.all_cons, List.all_nil, cellOk, boxTy, Bool.and_true, Bool.and_self, if_true, ite_true, ite_false, loadAt, storeAt, setAt, hget, hget0, hset, hset0, List.getElem?_cons_zero, List.getElem?_cons_succ, List.set_cons_zero, List.set_cons_succ, Nat.add_zero, Nat.zero_add, Nat.reduceAdd, Nat.reduceSub, Nat.reduceLeDiff, Nat.reduceLT, Nat.reduceEqDiff, Nat.le_refl, and_self, and_true, true_and, mkAgg, toIms, List.drop_zero, List.drop_succ_cons, List.take_succ_cons, List.take_zero, List.length_append, binBool, unA, Bool.false_eq_true, if_false, partA, fillA, fillE, List.take_nil, Nat.zero_ne_one, Nat.one_ne_zero, not_false_eq_true, ne_eq, Nat.succ_ne_self, reduceCtorEq, Int.reduceEq, Int.reduceLT, Int.reduceLE, decide_true, decide_false, lenA, beq_self_eq_true, beq_true, beq_false, Bool.not_true, Bool.not_false, b_lss, b_gtr, b_leq, b_geq, b_eql, b_neq, b_add, b_sub, b_mul, s_eql, s_neq, y_ops, y_nil, y_cons, y_guard, y_some, y_drop, y_do, y_not, y_not0, c_call, c_clo, c_move, c_pick, c_alloc, c_box, c_build, c_bslice, c_load, c_store, c_nilCheck, c_bin, c_binB, c_un, c_i2i, c_i2f, c_f2i, c_s2b, c_b2s, c_strId, c_mkfunc, c_mkslice, c_slice, c_sliceStr, c_fieldAddr, c_field, c_indexSl, c_indexArr, c_elemArr, c_indexStr, c_extract, c_lenStr, c_lenSl, c_append, c_real, c_imag, c_complex, c_min, c_max, c_clear, hl1, g0, g1, g2, g17, g18, g20, e5, hwr]
           refine ex_imp (key _ lc ?_ ?_ ?_ ?_ ?_ ?_) ?_)
        | (have e5 : decide ((b : Int) < (lc : Int)) = false := decide_eq_false (by omega)
           simp only [if_neg hlc]
           simp only [x_seq, x_block, x_skip, x_label, x_cond, x_exit, x_goto, x_ret, k_normal, k_exit, k_goto, k_ret, b_normal, b_exit, b_goto, b_ret, wantedA, aop, ev, putA, List.length_cons, List.length_nil, List.replicate, List.cons_append, List.nil_append, List.append_nil, List.append_assoc, gs_same, gs_ne, gq_same, gq_ne, List.length_set, List.map_cons, List.map_nil, cellsOf, List.all_cons, List.all_nil, cellOk, boxTy, Bool.and_true, Bool.and_self, if_true, ite_true, ite_false, loadAt, storeAt, setAt, hget, hget0, hset, hset0, List.getElem?_cons_zero, List.getElem?_cons_succ, List.set_cons_zero, List.set_cons_succ, Nat.add_zero, Nat.zero_add, Nat.reduceAdd, Nat.reduceSub, Nat.reduceLeDiff, Nat.reduceLT, Nat.reduceEqDiff, Nat.le_refl, and_self, and_true, true_and, mkAgg, toIms, List.drop_zero, List.drop_succ_cons, List.take_succ_cons, List.take_zero, List.length_append, binBool, unA, Bool.false_eq_true, if_false, partA, fillA, fillE, List.take_nil, Nat.zero_ne_one, Nat.one_ne_zero, not_false_eq_true, ne_eq, Nat.succ_ne_self, reduceCtorEq, Int.reduceEq, Int.reduceLT, Int.reduceLE, decide_true, decide_false, lenA, beq_self_eq_true, beq_true, beq_false, Bool.not_true, Bool.not_false, b_lss, b_gtr, b_leq, b_geq, b_eql, b_neq, b_add, b_sub, b_mul, s_eql, s_neq, y_ops, y_nil, y_cons, y_guard, y_some, y_drop, y_do, y_not, y_not0, c_call, c_clo, c_move, c_pick, c_alloc, c_box, c_build, c_bslice, c_load, c_store, c_nilCheck, c_bin, c_binB, c_un, c_i2i, c_i2f, c_f2i, c_s2b, c_b2s, c_strId, c_mkfunc, c_mkslice, c_slice, c_sliceStr, c_fieldAddr, c_field, c_indexSl, c_indexArr, c_elemArr, c_indexStr, c_extract, c_lenStr, c_lenSl, c_append, c_real, c_imag, c_complex, c_min, c_max, c_clear, hl1, g0, g1, g2, g17, g18, g20, e5, hwr]
           refine ex_imp (key _ b ?_ ?_ ?_ ?_ ?_ ?_) ?_)
      all_goals first
        | (simp only [gs_same, gs_ne, List.length_set, Nat.reduceLT, Nat.reduceEqDiff, not_false_eq_true, hl1, g0, g1, g2, g17]; done)
        | (rintro e tm' H' ⟨a1, a2, a3, a4, a5, a6⟩
           exact ⟨a1, a2, a3, a4, by rw [a5]; simp only [gs_same, gs_ne, List.length_set, Nat.reduceLT, Nat.reduceEqDiff, not_false_eq_true, hl1, g6], a6⟩)

end Go.Abs.Seat
end
section
/- What the seat's functions come to: the reference's scan, its first loop, and all of it. -/
set_option linter.unusedVariables false
set_option linter.unusedSimpArgs false
namespace Go.Abs.Seat
open Go.Proofs

/-- Does a kind's word stand here? -/
def okK (d : Int) (r : List UInt8) (kd : Int) : Bool := !skipK d kd && begB (wordK kd) r

/-- What stands behind a kind's word. -/
def scanK (rd : Nat → Nat × KT × Bool) (s : List UInt8) (k : Nat) (kd : Int) : Nat × KT × Bool :=
  match readL rd s (cntK kd).toNat 0 (k + (wordK kd).length) [] with
  | (k', none) => (k', zeroT, false)
  | (k', some l) => if cntK kd = 0 then (k', mkT kd l, true) else (if signB s k' 41 = true then (k' + 1, mkT kd l, true) else (k', zeroT, false))

def scanP (s : List UInt8) : Nat → Nat → Nat × KT × Bool
  | 0, k => (k, zeroT, false)
  | d + 1, k => match (kindsF 9 1).find? (okK ((d : Int) + 1) (s.drop k)) with
    | some kd => scanK (scanP s d) s k kd
    | none => (k + bestL ((d : Int) + 1) (s.drop k) (kindsF 9 1) 0, zeroT, false)

theorem cntK_le (k : Int) : 0 ≤ cntK k ∧ cntK k ≤ 2 := by
  rcases kidx_cases k with (rfl | rfl | rfl | rfl | rfl | rfl | rfl | rfl) | h
  all_goals first
    | decide
    | (unfold cntK; rw [h]; simp)

theorem begB_len {w r : List UInt8} (h : begB w r = true) : w.length ≤ r.length := by
  unfold begB at h
  simp only [Bool.and_eq_true, decide_eq_true_eq] at h
  exact h.1

theorem scanK_le (rd : Nat → Nat × KT × Bool) (s : List UInt8) (hrd : ∀ k, k ≤ s.length → (rd k).1 ≤ s.length) (k : Nat) (kd : Int) (hk : k + (wordK kd).length ≤ s.length) : (scanK rd s k kd).1 ≤ s.length := by
  have h3 := readL_le rd s hrd (cntK kd).toNat 0 (k + (wordK kd).length) [] hk
  unfold scanK
  generalize readL rd s (cntK kd).toNat 0 (k + (wordK kd).length) [] = q at *
  obtain ⟨k', ol⟩ := q
  cases ol with
  | none => exact h3
  | some l =>
    simp only
    split
    · exact h3
    · split
      · rename_i hs; exact sign_lt hs
      · exact h3

theorem lcp_le : ∀ (w r : List UInt8), lcp w r ≤ r.length ∧ lcp w r ≤ w.length
  | [], r => by cases r <;> simp [lcp]
  | a :: w, [] => by simp [lcp]
  | a :: w, b :: r => by
    have := lcp_le w r
    simp only [lcp]
    split <;> simp <;> omega

theorem bestL_le (d : Int) (r : List UInt8) : ∀ (l : List Int) (b : Nat), b ≤ r.length → bestL d r l b ≤ r.length
  | [], b, h => h
  | kd :: l, b, h => by
    have := (lcp_le (wordK kd) r).1
    simp only [bestL]
    apply bestL_le d r l
    repeat' split
    all_goals omega

theorem find_ok {d : Int} {r : List UInt8} {kd : Int} {l : List Int} (h : l.find? (okK d r) = some kd) : okK d r kd = true := by
  have := List.find?_some h
  exact this

theorem scanP_le (s : List UInt8) : ∀ (d k : Nat), k ≤ s.length → (scanP s d k).1 ≤ s.length
  | 0, k, h => h
  | d + 1, k, h => by
    simp only [scanP]
    cases hf : (kindsF 9 1).find? (okK ((d : Int) + 1) (s.drop k)) with
    | none =>
      have := bestL_le ((d : Int) + 1) (s.drop k) (kindsF 9 1) 0 (Nat.zero_le _)
      rw [List.length_drop] at this
      simp only
      omega
    | some kd =>
      have h1 := find_ok hf
      simp only [okK, Bool.and_eq_true] at h1
      have h2 := begB_len h1.2
      rw [List.length_drop] at h2
      simp only
      exact scanK_le _ s (fun k hk => scanP_le s d k hk) k kd (by omega)

set_option maxHeartbeats 1000000 in
theorem l46o (s : List UInt8) (N : Nat) (hs : s.length ≤ 4611686018427387904) (d : Nat) (hd : d < 1000)
    (hrec : 0 < d → ∀ (k : Nat) (H : Heap), k ≤ s.length → L 46 [.im (.str s), .im (.int .i64 (k : Int)), .im (.int .i64 (d : Int))] H = some (.tup [.im (.agg (encT (scanP s d k).2.1)), .im (.int .i64 ((scanP s d k).1 : Int)), .im (.bool (scanP s d k).2.2)], H))
    (k : Nat) (hk : k ≤ s.length) (H : Heap) (oN : H[N]? = some (.obj none [[.im (.int .i64 0), .nils]])) (hHl : H.length = N + 1) :
    ∀ (m i : Nat), i + m = 10 → ∀ (tm : List AV), tm.length = 163 → tm.getD 0 undefA = .im (.str s) → tm.getD 1 undefA = .im (.int .i64 (k : Int)) → tm.getD 2 undefA = .im (.int .i64 ((d : Int) + 1)) → tm.getD 6 undefA = .ptr N 0 0 → tm.getD 9 undefA = .im (.int .i64 (i : Int)) →
    ∃ e tm' H', Λ c46_3 tm H = some (e, tm', H') ∧ tm'.length = 163 ∧ tm'.getD 6 undefA = .ptr N 0 0 ∧ match (kindsF m i).find? (okK ((d : Int) + 1) (s.drop k)) with
      | none => e = .exit 0 ∧ H' = H ∧ tm'.getD 0 undefA = .im (.str s) ∧ tm'.getD 1 undefA = .im (.int .i64 (k : Int)) ∧ tm'.getD 2 undefA = .im (.int .i64 ((d : Int) + 1))
      | some kd => e = .ret ∧ (∀ i, i < N → H'[i]? = H[i]?) ∧ N + 1 ≤ H'.length ∧ tm'.getD 7 undefA = .im (.int .i64 ((scanK (scanP s d) s k kd).1 : Int)) ∧ tm'.getD 8 undefA = .im (.bool (scanK (scanP s d) s k kd).2.2) ∧
          ∃ kk l v n, (scanK (scanP s d) s k kd).2.1 = mkT kk l ∧ H'[N]? = some (.obj none [[.im (.int .i64 kk), v]]) ∧ Gath 31 2 n v H' (l.map encT)
  | 0, i, hi, tm, hlen, h0, h1, h2, h6, h9 => by
    have hc : decide ((i : Int) ≤ 9) = false := decide_eq_false (by omega)
    rw [l46_3]
    simp only [b46_3, x_seq, x_block, x_skip, x_label, x_cond, x_exit, x_goto, x_ret, k_normal, k_exit, k_goto, k_ret, b_normal, b_exit, b_goto, b_ret, wantedA, aop, ev, putA, List.length_cons, List.length_nil, List.replicate, List.cons_append, List.nil_append, List.append_nil, List.append_assoc, gs_same, gs_ne, gq_same, gq_ne, List.length_set, List.map_cons, List.map_nil, cellsOf, List.all_cons, List.all_nil, cellOk, boxTy, Bool.and_true, Bool.and_self, if_true, ite_true, ite_false, loadAt, storeAt, setAt, hget, hget0, hset, hset0, List.getElem?_cons_zero, List.getElem?_cons_succ, List.set_cons_zero, List.set_cons_succ, Nat.add_zero, Nat.zero_add, Nat.reduceAdd, Nat.reduceSub, Nat.reduceLeDiff, Nat.reduceLT, Nat.reduceEqDiff, Nat.le_refl, and_self, and_true, true_and, mkAgg, toIms, List.drop_zero, List.drop_succ_cons, List.take_succ_cons, List.take_zero, List.length_append, binBool, unA, Bool.false_eq_true, if_false, partA, fillA, fillE, List.take_nil, Nat.zero_ne_one, Nat.one_ne_zero, not_false_eq_true, ne_eq, Nat.succ_ne_self, reduceCtorEq, Int.reduceEq, Int.reduceLT, Int.reduceLE, decide_true, decide_false, lenA, beq_self_eq_true, beq_true, beq_false, Bool.not_true, Bool.not_false, b_lss, b_gtr, b_leq, b_geq, b_eql, b_neq, b_add, b_sub, b_mul, s_eql, s_neq, y_ops, y_nil, y_cons, y_guard, y_some, y_drop, y_do, y_not, y_not0, c_call, c_clo, c_move, c_pick, c_alloc, c_box, c_build, c_bslice, c_load, c_store, c_nilCheck, c_bin, c_binB, c_un, c_i2i, c_i2f, c_f2i, c_s2b, c_b2s, c_strId, c_mkfunc, c_mkslice, c_slice, c_sliceStr, c_fieldAddr, c_field, c_indexSl, c_indexArr, c_elemArr, c_indexStr, c_extract, c_lenStr, c_lenSl, c_append, c_real, c_imag, c_complex, c_min, c_max, c_clear, hlen, h9, hc, kindsF, List.find?_nil]
    exact ⟨_, _, _, rfl, by simp only [List.length_set, hlen], by simp only [gs_same, gs_ne, List.length_set, Nat.reduceLT, Nat.reduceEqDiff, not_false_eq_true, hlen, h6], rfl, rfl, by simp only [gs_same, gs_ne, List.length_set, Nat.reduceLT, Nat.reduceEqDiff, not_false_eq_true, hlen, h0], by simp only [gs_same, gs_ne, List.length_set, Nat.reduceLT, Nat.reduceEqDiff, not_false_eq_true, hlen, h1], by simp only [gs_same, gs_ne, List.length_set, Nat.reduceLT, Nat.reduceEqDiff, not_false_eq_true, hlen, h2]⟩
  | m + 1, i, hi, tm, hlen, h0, h1, h2, h6, h9 => by
    have hc : decide ((i : Int) ≤ 9) = true := decide_eq_true (by omega)
    have h22 := s22 (i : Int)
    have h23 := s23 (i : Int)
    have hwr := wrap_nat (i := i) (by omega)
    have hw8 := wordK_len (i : Int)
    have key := l46o s N hs d hd hrec k hk H oN hHl m (i + 1) (by omega)
    have hkk : (0 : Int) ≤ (k : Int) := Int.natCast_nonneg k
    have hsl : k ≤ s.length ∧ s.length ≤ s.length := ⟨hk, Nat.le_refl _⟩
    have htk : List.take (s.length - k) (s.drop k) = s.drop k := List.take_of_length_le (by simp)
    have h71 := s71 (wordK (i : Int)) (s.drop k) H
    rw [l46_3]
    simp only [kindsF, List.find?_cons]
    cases hok : okK ((d : Int) + 1) (s.drop k) (i : Int) with
    | false =>
      simp only
      have hcase : (decide (wordK (i : Int) = []) = true) ∨ (decide (wordK (i : Int) = []) = false ∧ decide ((d : Int) + 1 = 1) = true ∧ decide (0 < cntK (i : Int)) = true) ∨ (decide (wordK (i : Int) = []) = false ∧ decide ((d : Int) + 1 = 1) = true ∧ decide (0 < cntK (i : Int)) = false ∧ begB (wordK (i : Int)) (s.drop k) = false) ∨ (decide (wordK (i : Int) = []) = false ∧ decide ((d : Int) + 1 = 1) = false ∧ begB (wordK (i : Int)) (s.drop k) = false) := by
        unfold okK skipK at hok
        generalize decide (wordK (i : Int) = []) = x1 at *
        generalize decide ((d : Int) + 1 = 1) = x2 at *
        generalize decide (0 < cntK (i : Int)) = x3 at *
        generalize begB (wordK (i : Int)) (s.drop k) = x4 at *
        revert hok
        cases x1 <;> cases x2 <;> cases x3 <;> cases x4 <;> simp
      generalize begB (wordK (i : Int)) (s.drop k) = x4 at *
      generalize wordK (i : Int) = wk at *
      rcases hcase with e1 | ⟨e1, e2, e3⟩ | ⟨e1, e2, e3, rfl⟩ | ⟨e1, e2, rfl⟩
      all_goals first
        | simp only [b46_3, x_seq, x_block, x_skip, x_label, x_cond, x_exit, x_goto, x_ret, k_normal, k_exit, k_goto, k_ret, b_normal, b_exit, b_goto, b_ret, wantedA, aop, ev, putA, List.length_cons, List.length_nil, List.replicate, List.cons_append, List.nil_append, List.append_nil, List.append_assoc, gs_same, gs_ne, gq_same, gq_ne, List.length_set, List.map_cons, List.map_nil, cellsOf, List.all_cons, List.all_nil, cellOk, boxTy, Bool.and_true, Bool.and_self, if_true, ite_true, ite_false, loadAt, storeAt, setAt, hget, hget0, hset, hset0, List.getElem?_cons_zero, List.getElem?_cons_succ, List.set_cons_zero, List.set_cons_succ, Nat.add_zero, Nat.zero_add, Nat.reduceAdd, Nat.reduceSub, Nat.reduceLeDiff, Nat.reduceLT, Nat.reduceEqDiff, Nat.le_refl, and_self, and_true, true_and, mkAgg, toIms, List.drop_zero, List.drop_succ_cons, List.take_succ_cons, List.take_zero, List.length_append, binBool, unA, Bool.false_eq_true, if_false, partA, fillA, fillE, List.take_nil, Nat.zero_ne_one, Nat.one_ne_zero, not_false_eq_true, ne_eq, Nat.succ_ne_self, reduceCtorEq, Int.reduceEq, Int.reduceLT, Int.reduceLE, decide_true, decide_false, lenA, beq_self_eq_true, beq_true, beq_false, Bool.not_true, Bool.not_false, b_lss, b_gtr, b_leq, b_geq, b_eql, b_neq, b_add, b_sub, b_mul, s_eql, s_neq, y_ops, y_nil, y_cons, y_guard, y_some, y_drop, y_do, y_not, y_not0, c_call, c_clo, c_move, c_pick, c_alloc, c_box, c_build, c_bslice, c_load, c_store, c_nilCheck, c_bin, c_binB, c_un, c_i2i, c_i2f, c_f2i, c_s2b, c_b2s, c_strId, c_mkfunc, c_mkslice, c_slice, c_sliceStr, c_fieldAddr, c_field, c_indexSl, c_indexArr, c_elemArr, c_indexStr, c_extract, c_lenStr, c_lenSl, c_append, c_real, c_imag, c_complex, c_min, c_max, c_clear, boundA, intOfA, Int.toNat_natCast, hkk, hsl, htk, hlen, h0, h1, h2, h6, h9, hc, h22, h23, h71, e1, e2, e3, hwr]
        | simp only [b46_3, x_seq, x_block, x_skip, x_label, x_cond, x_exit, x_goto, x_ret, k_normal, k_exit, k_goto, k_ret, b_normal, b_exit, b_goto, b_ret, wantedA, aop, ev, putA, List.length_cons, List.length_nil, List.replicate, List.cons_append, List.nil_append, List.append_nil, List.append_assoc, gs_same, gs_ne, gq_same, gq_ne, List.length_set, List.map_cons, List.map_nil, cellsOf, List.all_cons, List.all_nil, cellOk, boxTy, Bool.and_true, Bool.and_self, if_true, ite_true, ite_false, loadAt, storeAt, setAt, hget, hget0, hset, hset0, List.getElem?_cons_zero, List.getElem?_cons_succ, List.set_cons_zero, List.set_cons_succ, Nat.add_zero, Nat.zero_add, Nat.reduceAdd, Nat.reduceSub, Nat.reduceLeDiff, Nat.reduceLT, Nat.reduceEqDiff, Nat.le_refl, and_self, and_true, true_and, mkAgg, toIms, List.drop_zero, List.drop_succ_cons, List.take_succ_cons, List.take_zero, List.length_append, binBool, unA, Bool.false_eq_true, if_false, partA, fillA, fillE, List.take_nil, Nat.zero_ne_one, Nat.one_ne_zero, not_false_eq_true, ne_eq, Nat.succ_ne_self, reduceCtorEq, Int.reduceEq, Int.reduceLT, Int.reduceLE, decide_true, decide_false, lenA, beq_self_eq_true, beq_true, beq_false, Bool.not_true, Bool.not_false, b_lss, b_gtr, b_leq, b_geq, b_eql, b_neq, b_add, b_sub, b_mul, s_eql, s_neq, y_ops, y_nil, y_cons, y_guard, y_some, y_drop, y_do, y_not, y_not0, c_call, c_clo, c_move, c_pick, c_alloc, c_box, c_build, c_bslice, c_load, c_store, c_nilCheck, c_bin, c_binB, c_un, c_i2i, c_i2f, c_f2i, c_s2b, c_b2s, c_strId, c_mkfunc, c_mkslice, c_slice, c_sliceStr, c_fieldAddr, c_field, c_indexSl, c_indexArr, c_elemArr, c_indexStr, c_extract, c_lenStr, c_lenSl, c_append, c_real, c_imag, c_complex, c_min, c_max, c_clear, boundA, intOfA, Int.toNat_natCast, hkk, hsl, htk, hlen, h0, h1, h2, h6, h9, hc, h22, h23, h71, e1, e2, hwr]
        | simp only [b46_3, x_seq, x_block, x_skip, x_label, x_cond, x_exit, x_goto, x_ret, k_normal, k_exit, k_goto, k_ret, b_normal, b_exit, b_goto, b_ret, wantedA, aop, ev, putA, List.length_cons, List.length_nil, List.replicate, List.cons_append, List.nil_append, List.append_nil, List.append_assoc, gs_same, gs_ne, gq_same, gq_ne, List.length_set, List.map_cons, List.map_nil, cellsOf, List.all_cons, List.all_nil, cellOk, boxTy, Bool.and_true, Bool.and_self, if_true, ite_true, ite_false, loadAt, storeAt, setAt, hget, hget0, hset, hset0, List.getElem?_cons_zero, List.getElem?_cons_succ, List.set_cons_zero, List.set_cons_succ, Nat.add_zero, Nat.zero_add, Nat.reduceAdd, Nat.reduceSub, Nat.reduceLeDiff, Nat.reduceLT, Nat.reduceEqDiff, Nat.le_refl, and_self, and_true, true_and, mkAgg, toIms, List.drop_zero, List.drop_succ_cons, List.take_succ_cons, List.take_zero, List.length_append, binBool, unA, Bool.false_eq_true, if_false, partA, fillA, fillE, List.take_nil, Nat.zero_ne_one, Nat.one_ne_zero, not_false_eq_true, ne_eq, Nat.succ_ne_self, reduceCtorEq, Int.reduceEq, Int.reduceLT, Int.reduceLE, decide_true, decide_false, lenA, beq_self_eq_true, beq_true, beq_false, Bool.not_true, Bool.not_false, b_lss, b_gtr, b_leq, b_geq, b_eql, b_neq, b_add, b_sub, b_mul, s_eql, s_neq, y_ops, y_nil, y_cons, y_guard, y_some, y_drop, y_do, y_not, y_not0, c_call, c_clo, c_move, c_pick, c_alloc, c_box, c_build, c_bslice, c_load, c_store, c_nilCheck, c_bin, c_binB, c_un, c_i2i, c_i2f, c_f2i, c_s2b, c_b2s, c_strId, c_mkfunc, c_mkslice, c_slice, c_sliceStr, c_fieldAddr, c_field, c_indexSl, c_indexArr, c_elemArr, c_indexStr, c_extract, c_lenStr, c_lenSl, c_append, c_real, c_imag, c_complex, c_min, c_max, c_clear, hlen, h0, h1, h2, h6, h9, hc, h22, h23, e1, hwr]
      all_goals refine ex_imp (key _ ?_ ?_ ?_ ?_ ?_ ?_) fun _ _ _ h => h
      all_goals simp only [gs_same, gs_ne, List.length_set, Nat.reduceLT, Nat.reduceEqDiff, not_false_eq_true, hlen, h0, h1, h2, h6]
    | true =>
      simp only
      have hcase : decide (wordK (i : Int) = []) = false ∧ begB (wordK (i : Int)) (s.drop k) = true ∧ (decide ((d : Int) + 1 = 1) = false ∨ (decide ((d : Int) + 1 = 1) = true ∧ decide (0 < cntK (i : Int)) = false)) := by
        unfold okK skipK at hok
        generalize decide (wordK (i : Int) = []) = x1 at *
        generalize decide ((d : Int) + 1 = 1) = x2 at *
        generalize decide (0 < cntK (i : Int)) = x3 at *
        generalize begB (wordK (i : Int)) (s.drop k) = x4 at *
        revert hok
        cases x1 <;> cases x2 <;> cases x3 <;> cases x4 <;> simp
      obtain ⟨e1, e4, hcase⟩ := hcase
      have hwl := begB_len e4
      rw [List.length_drop] at hwl
      rw [e4] at h71
      have hadd : IntKind.i64.wrap ((k : Int) + ((wordK (i : Int)).length : Int)) = ((k + (wordK (i : Int)).length : Nat) : Int) := by
        rw [Go.Abs.Seat.wrap_small _ (by omega)]; omega
      obtain ⟨hc0, hc2⟩ := cntK_le (i : Int)
      have hck : cntK (i : Int) = (((cntK (i : Int)).toNat : Nat) : Int) := by omega
      have hdd : (d : Int) + 1 - 1 = d := by omega
      have keya := l46a s N (by omega) ((d : Int) + 1) (d : Int) (by rw [hdd]; exact Go.Abs.Seat.wrap_small _ (by omega)) (scanP s d) (i : Int) (cntK (i : Int)).toNat hck (fun hp => hrec (by
        rcases hcase with h | ⟨h, h'⟩
        · have := of_decide_eq_false h; omega
        · have := of_decide_eq_false h'; omega)) (fun _ k hk => scanP_le s d k hk) (by omega) (cntK (i : Int)).toNat 0 (by omega)
      have zz : ((0 : Nat) : Int) = 0 := rfl
      rw [zz] at keya
      have hwlk : k + (wordK (i : Int)).length ≤ s.length := by omega
      unfold scanK
      generalize wordK (i : Int) = wk at *
      have hlenN : (H ++ [HO.obj none [[.im (.int .i64 (i : Int)), .nils]]])[N + 1]? = some (.obj none [[.im (.int .i64 (i : Int)), .nils]]) := by rw [← hHl, hget0]; rfl
      have hptr : H.length = N + 1 := hHl
      rcases hcase with e2 | ⟨e2, e3⟩
      · simp only [b46_3, e46_2, x_seq, x_block, x_skip, x_label, x_cond, x_exit, x_goto, x_ret, k_normal, k_exit, k_goto, k_ret, b_normal, b_exit, b_goto, b_ret, wantedA, aop, ev, putA, List.length_cons, List.length_nil, List.replicate, List.cons_append, List.nil_append, List.append_nil, List.append_assoc, gs_same, gs_ne, gq_same, gq_ne, List.length_set, List.map_cons, List.map_nil, cellsOf, List.all_cons, List.all_nil, cellOk, boxTy, Bool.and_true, Bool.and_self, if_true, ite_true, ite_false, loadAt, storeAt, setAt, hget, hget0, hset, hset0, List.getElem?_cons_zero, List.getElem?_cons_succ, List.set_cons_zero, List.set_cons_succ, Nat.add_zero, Nat.zero_add, Nat.reduceAdd, Nat.reduceSub, Nat.reduceLeDiff, Nat.reduceLT, Nat.reduceEqDiff, Nat.le_refl, and_self, and_true, true_and, mkAgg, toIms, List.drop_zero, List.drop_succ_cons, List.take_succ_cons, List.take_zero, List.length_append, binBool, unA, Bool.false_eq_true, if_false, partA, fillA, fillE, List.take_nil, Nat.zero_ne_one, Nat.one_ne_zero, not_false_eq_true, ne_eq, Nat.succ_ne_self, reduceCtorEq, Int.reduceEq, Int.reduceLT, Int.reduceLE, decide_true, decide_false, lenA, beq_self_eq_true, beq_true, beq_false, Bool.not_true, Bool.not_false, b_lss, b_gtr, b_leq, b_geq, b_eql, b_neq, b_add, b_sub, b_mul, s_eql, s_neq, y_ops, y_nil, y_cons, y_guard, y_some, y_drop, y_do, y_not, y_not0, c_call, c_clo, c_move, c_pick, c_alloc, c_box, c_build, c_bslice, c_load, c_store, c_nilCheck, c_bin, c_binB, c_un, c_i2i, c_i2f, c_f2i, c_s2b, c_b2s, c_strId, c_mkfunc, c_mkslice, c_slice, c_sliceStr, c_fieldAddr, c_field, c_indexSl, c_indexArr, c_elemArr, c_indexStr, c_extract, c_lenStr, c_lenSl, c_append, c_real, c_imag, c_complex, c_min, c_max, c_clear, boundA, intOfA, Int.toNat_natCast, hkk, hsl, htk, hlen, h0, h1, h2, h6, h9, hc, h22, h23, h71, e1, e2, hadd]
        generalize hr : thenL _ _ = r
        refine Exists.elim (thenL_inv hr (keya _ _ (k + wk.length) [] .nils (.im (.int .i64 0)) .nils hwlk rfl ?_ ?_ ?_ ?_ ?_ ?_ ?_ ?_ ?_ ?_ (.inl ⟨rfl, rfl⟩) ?_)) ?_
        iterate 8 simp only [gs_same, gs_ne, List.length_set, Nat.reduceLT, Nat.reduceEqDiff, not_false_eq_true, hlen, h0, h1, h2, h6, h9, hHl]
        · rw [get_app (by omega)]; exact oN
        · exact hlenN
        · simp; omega
        clear hr keya key
        rintro e ⟨tm1, H1, ⟨hl1, g0, g6, g9, g11, gb, gl, gle, hm⟩, rfl⟩
        generalize readL (scanP s d) s (cntK (i : Int)).toNat 0 (k + wk.length) [] = q at *
        obtain ⟨k', ol⟩ := q
        simp only at gle hm ⊢
        have gb' : ∀ j, j < N → H1[j]? = H[j]? := fun j hj => by rw [gb j hj, get_app (by omega)]
        cases ol with
        | none =>
          obtain ⟨rfl, oN1, g7, g8⟩ := hm
          simp only [b_ret, k_ret]
          exact ⟨_, _, _, rfl, hl1, g6, rfl, gb', by omega, g7, g8, 0, [], .nils, 0, rfl, oN1, .inl ⟨rfl, rfl⟩⟩
        | some l =>
          obtain ⟨rfl, g1, oN1, ⟨v', o1, hG⟩, hll⟩ := hm
          have hlN : N < H1.length := by omega
          have hkk' : (0 : Int) ≤ (k' : Int) := Int.natCast_nonneg k'
          by_cases hc0' : cntK (i : Int) = 0
          · have hd0 : decide (0 < cntK (i : Int)) = false := decide_eq_false (by omega)
            simp only [if_pos hc0']
            have hG' := hG
            rcases hG with ⟨he, rfl⟩ | ⟨he, tok, _, rfl, _⟩
            all_goals simp only [x_seq, x_block, x_skip, x_label, x_cond, x_exit, x_goto, x_ret, k_normal, k_exit, k_goto, k_ret, b_normal, b_exit, b_goto, b_ret, wantedA, aop, ev, putA, List.length_cons, List.length_nil, List.replicate, List.cons_append, List.nil_append, List.append_nil, List.append_assoc, gs_same, gs_ne, gq_same, gq_ne, List.length_set, List.map_cons, List.map_nil, cellsOf, List.all_cons, List.all_nil, cellOk, boxTy, Bool.and_true, Bool.and_self, if_true, ite_true, ite_false, loadAt, storeAt, setAt, hget, hget0, hset, hset0, List.getElem?_cons_zero, List.getElem?_cons_succ, List.set_cons_zero, List.set_cons_succ, Nat.add_zero, Nat.zero_add, Nat.reduceAdd, Nat.reduceSub, Nat.reduceLeDiff, Nat.reduceLT, Nat.reduceEqDiff, Nat.le_refl, and_self, and_true, true_and, mkAgg, toIms, List.drop_zero, List.drop_succ_cons, List.take_succ_cons, List.take_zero, List.length_append, binBool, unA, Bool.false_eq_true, if_false, partA, fillA, fillE, List.take_nil, Nat.zero_ne_one, Nat.one_ne_zero, not_false_eq_true, ne_eq, Nat.succ_ne_self, reduceCtorEq, Int.reduceEq, Int.reduceLT, Int.reduceLE, decide_true, decide_false, lenA, beq_self_eq_true, beq_true, beq_false, Bool.not_true, Bool.not_false, b_lss, b_gtr, b_leq, b_geq, b_eql, b_neq, b_add, b_sub, b_mul, s_eql, s_neq, y_ops, y_nil, y_cons, y_guard, y_some, y_drop, y_do, y_not, y_not0, c_call, c_clo, c_move, c_pick, c_alloc, c_box, c_build, c_bslice, c_load, c_store, c_nilCheck, c_bin, c_binB, c_un, c_i2i, c_i2f, c_f2i, c_s2b, c_b2s, c_strId, c_mkfunc, c_mkslice, c_slice, c_sliceStr, c_fieldAddr, c_field, c_indexSl, c_indexArr, c_elemArr, c_indexStr, c_extract, c_lenStr, c_lenSl, c_append, c_real, c_imag, c_complex, c_min, c_max, c_clear, hl1, g0, g1, g6, g9, g11, h23, hd0, oN1, o1]
            all_goals refine ⟨_, _, _, rfl, ?_, ?_, rfl, ?_, ?_, ?_, ?_, (i : Int), l, _, N + 2, rfl, List.getElem?_set_self hlN, hG'.set_obj oN1 _⟩
            all_goals first
              | (simp only [gs_same, gs_ne, List.length_set, Nat.reduceLT, Nat.reduceEqDiff, not_false_eq_true, hl1, g6]; done)
              | (intro j hj; rw [List.getElem?_set_ne (by omega)]; exact gb' j hj)
              | (simp only [List.length_set]; omega)
          · have hd0 : decide (0 < cntK (i : Int)) = true := decide_eq_true (by omega)
            simp only [if_neg hc0']
            cases hsg : signB s k' 41 with
            | true =>
              simp only [if_true]
              have hk1 := sign_lt hsg
              have hge : decide ((s.length : Int) ≤ (k' : Int)) = false := decide_eq_false (by omega)
              have hsk : s[k']? = some 41 := of_decide_eq_true hsg
              have hb41 : ((((41 : UInt8).toNat : Nat) : Int)) = 41 := rfl
              have hwk := wrap_nat (i := k') (by omega)
              have hG' := hG
              rcases hG with ⟨he, rfl⟩ | ⟨he, tok, _, rfl, _⟩
              all_goals simp only [x_seq, x_block, x_skip, x_label, x_cond, x_exit, x_goto, x_ret, k_normal, k_exit, k_goto, k_ret, b_normal, b_exit, b_goto, b_ret, wantedA, aop, ev, putA, List.length_cons, List.length_nil, List.replicate, List.cons_append, List.nil_append, List.append_nil, List.append_assoc, gs_same, gs_ne, gq_same, gq_ne, List.length_set, List.map_cons, List.map_nil, cellsOf, List.all_cons, List.all_nil, cellOk, boxTy, Bool.and_true, Bool.and_self, if_true, ite_true, ite_false, loadAt, storeAt, setAt, hget, hget0, hset, hset0, List.getElem?_cons_zero, List.getElem?_cons_succ, List.set_cons_zero, List.set_cons_succ, Nat.add_zero, Nat.zero_add, Nat.reduceAdd, Nat.reduceSub, Nat.reduceLeDiff, Nat.reduceLT, Nat.reduceEqDiff, Nat.le_refl, and_self, and_true, true_and, mkAgg, toIms, List.drop_zero, List.drop_succ_cons, List.take_succ_cons, List.take_zero, List.length_append, binBool, unA, Bool.false_eq_true, if_false, partA, fillA, fillE, List.take_nil, Nat.zero_ne_one, Nat.one_ne_zero, not_false_eq_true, ne_eq, Nat.succ_ne_self, reduceCtorEq, Int.reduceEq, Int.reduceLT, Int.reduceLE, decide_true, decide_false, lenA, beq_self_eq_true, beq_true, beq_false, Bool.not_true, Bool.not_false, b_lss, b_gtr, b_leq, b_geq, b_eql, b_neq, b_add, b_sub, b_mul, s_eql, s_neq, y_ops, y_nil, y_cons, y_guard, y_some, y_drop, y_do, y_not, y_not0, c_call, c_clo, c_move, c_pick, c_alloc, c_box, c_build, c_bslice, c_load, c_store, c_nilCheck, c_bin, c_binB, c_un, c_i2i, c_i2f, c_f2i, c_s2b, c_b2s, c_strId, c_mkfunc, c_mkslice, c_slice, c_sliceStr, c_fieldAddr, c_field, c_indexSl, c_indexArr, c_elemArr, c_indexStr, c_extract, c_lenStr, c_lenSl, c_append, c_real, c_imag, c_complex, c_min, c_max, c_clear, intOfA, byteDat, Int.toNat_natCast, hkk', hb41, hl1, g0, g1, g6, g9, g11, h23, hd0, hge, hsk, hwk, oN1, o1]
              all_goals refine ⟨_, _, _, rfl, ?_, ?_, rfl, ?_, ?_, ?_, ?_, (i : Int), l, _, N + 2, rfl, List.getElem?_set_self hlN, hG'.set_obj oN1 _⟩
              all_goals first
                | (simp only [gs_same, gs_ne, List.length_set, Nat.reduceLT, Nat.reduceEqDiff, not_false_eq_true, hl1, g6]; done)
                | (intro j hj; rw [List.getElem?_set_ne (by omega)]; exact gb' j hj)
                | (simp only [List.length_set]; omega)
            | false =>
              simp only [Bool.false_eq_true, if_false]
              by_cases hk1 : k' < s.length
              · have hge : decide ((s.length : Int) ≤ (k' : Int)) = false := decide_eq_false (by omega)
                have hsk : s[k']? = some s[k'] := List.getElem?_eq_getElem hk1
                generalize s[k'] = a at hsk
                have hne : decide (((a.toNat : Nat) : Int) = 41) = false := by
                  have := byte_eq a 41
                  rw [show (((41 : UInt8).toNat : Nat) : Int) = 41 from rfl] at this
                  rw [this]
                  refine decide_eq_false fun h => ?_
                  rw [signB, hsk, h] at hsg
                  simp at hsg
                simp only [x_seq, x_block, x_skip, x_label, x_cond, x_exit, x_goto, x_ret, k_normal, k_exit, k_goto, k_ret, b_normal, b_exit, b_goto, b_ret, wantedA, aop, ev, putA, List.length_cons, List.length_nil, List.replicate, List.cons_append, List.nil_append, List.append_nil, List.append_assoc, gs_same, gs_ne, gq_same, gq_ne, List.length_set, List.map_cons, List.map_nil, cellsOf, List.all_cons, List.all_nil, cellOk, boxTy, Bool.and_true, Bool.and_self, if_true, ite_true, ite_false, loadAt, storeAt, setAt, hget, hget0, hset, hset0, List.getElem?_cons_zero, List.getElem?_cons_succ, List.set_cons_zero, List.set_cons_succ, Nat.add_zero, Nat.zero_add, Nat.reduceAdd, Nat.reduceSub, Nat.reduceLeDiff, Nat.reduceLT, Nat.reduceEqDiff, Nat.le_refl, and_self, and_true, true_and, mkAgg, toIms, List.drop_zero, List.drop_succ_cons, List.take_succ_cons, List.take_zero, List.length_append, binBool, unA, Bool.false_eq_true, if_false, partA, fillA, fillE, List.take_nil, Nat.zero_ne_one, Nat.one_ne_zero, not_false_eq_true, ne_eq, Nat.succ_ne_self, reduceCtorEq, Int.reduceEq, Int.reduceLT, Int.reduceLE, decide_true, decide_false, lenA, beq_self_eq_true, beq_true, beq_false, Bool.not_true, Bool.not_false, b_lss, b_gtr, b_leq, b_geq, b_eql, b_neq, b_add, b_sub, b_mul, s_eql, s_neq, y_ops, y_nil, y_cons, y_guard, y_some, y_drop, y_do, y_not, y_not0, c_call, c_clo, c_move, c_pick, c_alloc, c_box, c_build, c_bslice, c_load, c_store, c_nilCheck, c_bin, c_binB, c_un, c_i2i, c_i2f, c_f2i, c_s2b, c_b2s, c_strId, c_mkfunc, c_mkslice, c_slice, c_sliceStr, c_fieldAddr, c_field, c_indexSl, c_indexArr, c_elemArr, c_indexStr, c_extract, c_lenStr, c_lenSl, c_append, c_real, c_imag, c_complex, c_min, c_max, c_clear, intOfA, byteDat, Int.toNat_natCast, hkk', hl1, g0, g1, g6, g9, g11, h23, hd0, hge, hsk, hne, oN1, o1]
                refine ⟨_, _, _, rfl, ?_, ?_, rfl, ?_, ?_, ?_, ?_, 0, [], .nils, 0, rfl, List.getElem?_set_self hlN, .inl ⟨rfl, rfl⟩⟩
                all_goals first
                  | (simp only [gs_same, gs_ne, List.length_set, Nat.reduceLT, Nat.reduceEqDiff, not_false_eq_true, hl1, g6]; done)
                  | (intro j hj; rw [List.getElem?_set_ne (by omega)]; exact gb' j hj)
                  | (simp only [List.length_set]; omega)
              · have hge : decide ((s.length : Int) ≤ (k' : Int)) = true := decide_eq_true (by omega)
                simp only [x_seq, x_block, x_skip, x_label, x_cond, x_exit, x_goto, x_ret, k_normal, k_exit, k_goto, k_ret, b_normal, b_exit, b_goto, b_ret, wantedA, aop, ev, putA, List.length_cons, List.length_nil, List.replicate, List.cons_append, List.nil_append, List.append_nil, List.append_assoc, gs_same, gs_ne, gq_same, gq_ne, List.length_set, List.map_cons, List.map_nil, cellsOf, List.all_cons, List.all_nil, cellOk, boxTy, Bool.and_true, Bool.and_self, if_true, ite_true, ite_false, loadAt, storeAt, setAt, hget, hget0, hset, hset0, List.getElem?_cons_zero, List.getElem?_cons_succ, List.set_cons_zero, List.set_cons_succ, Nat.add_zero, Nat.zero_add, Nat.reduceAdd, Nat.reduceSub, Nat.reduceLeDiff, Nat.reduceLT, Nat.reduceEqDiff, Nat.le_refl, and_self, and_true, true_and, mkAgg, toIms, List.drop_zero, List.drop_succ_cons, List.take_succ_cons, List.take_zero, List.length_append, binBool, unA, Bool.false_eq_true, if_false, partA, fillA, fillE, List.take_nil, Nat.zero_ne_one, Nat.one_ne_zero, not_false_eq_true, ne_eq, Nat.succ_ne_self, reduceCtorEq, Int.reduceEq, Int.reduceLT, Int.reduceLE, decide_true, decide_false, lenA, beq_self_eq_true, beq_true, beq_false, Bool.not_true, Bool.not_false, b_lss, b_gtr, b_leq, b_geq, b_eql, b_neq, b_add, b_sub, b_mul, s_eql, s_neq, y_ops, y_nil, y_cons, y_guard, y_some, y_drop, y_do, y_not, y_not0, c_call, c_clo, c_move, c_pick, c_alloc, c_box, c_build, c_bslice, c_load, c_store, c_nilCheck, c_bin, c_binB, c_un, c_i2i, c_i2f, c_f2i, c_s2b, c_b2s, c_strId, c_mkfunc, c_mkslice, c_slice, c_sliceStr, c_fieldAddr, c_field, c_indexSl, c_indexArr, c_elemArr, c_indexStr, c_extract, c_lenStr, c_lenSl, c_append, c_real, c_imag, c_complex, c_min, c_max, c_clear, hl1, g0, g1, g6, g9, g11, h23, hd0, hge, oN1, o1]
                refine ⟨_, _, _, rfl, ?_, ?_, rfl, ?_, ?_, ?_, ?_, 0, [], .nils, 0, rfl, List.getElem?_set_self hlN, .inl ⟨rfl, rfl⟩⟩
                all_goals first
                  | (simp only [gs_same, gs_ne, List.length_set, Nat.reduceLT, Nat.reduceEqDiff, not_false_eq_true, hl1, g6]; done)
                  | (intro j hj; rw [List.getElem?_set_ne (by omega)]; exact gb' j hj)
                  | (simp only [List.length_set]; omega)
      · simp only [b46_3, e46_2, x_seq, x_block, x_skip, x_label, x_cond, x_exit, x_goto, x_ret, k_normal, k_exit, k_goto, k_ret, b_normal, b_exit, b_goto, b_ret, wantedA, aop, ev, putA, List.length_cons, List.length_nil, List.replicate, List.cons_append, List.nil_append, List.append_nil, List.append_assoc, gs_same, gs_ne, gq_same, gq_ne, List.length_set, List.map_cons, List.map_nil, cellsOf, List.all_cons, List.all_nil, cellOk, boxTy, Bool.and_true, Bool.and_self, if_true, ite_true, ite_false, loadAt, storeAt, setAt, hget, hget0, hset, hset0, List.getElem?_cons_zero, List.getElem?_cons_succ, List.set_cons_zero, List.set_cons_succ, Nat.add_zero, Nat.zero_add, Nat.reduceAdd, Nat.reduceSub, Nat.reduceLeDiff, Nat.reduceLT, Nat.reduceEqDiff, Nat.le_refl, and_self, and_true, true_and, mkAgg, toIms, List.drop_zero, List.drop_succ_cons, List.take_succ_cons, List.take_zero, List.length_append, binBool, unA, Bool.false_eq_true, if_false, partA, fillA, fillE, List.take_nil, Nat.zero_ne_one, Nat.one_ne_zero, not_false_eq_true, ne_eq, Nat.succ_ne_self, reduceCtorEq, Int.reduceEq, Int.reduceLT, Int.reduceLE, decide_true, decide_false, lenA, beq_self_eq_true, beq_true, beq_false, Bool.not_true, Bool.not_false, b_lss, b_gtr, b_leq, b_geq, b_eql, b_neq, b_add, b_sub, b_mul, s_eql, s_neq, y_ops, y_nil, y_cons, y_guard, y_some, y_drop, y_do, y_not, y_not0, c_call, c_clo, c_move, c_pick, c_alloc, c_box, c_build, c_bslice, c_load, c_store, c_nilCheck, c_bin, c_binB, c_un, c_i2i, c_i2f, c_f2i, c_s2b, c_b2s, c_strId, c_mkfunc, c_mkslice, c_slice, c_sliceStr, c_fieldAddr, c_field, c_indexSl, c_indexArr, c_elemArr, c_indexStr, c_extract, c_lenStr, c_lenSl, c_append, c_real, c_imag, c_complex, c_min, c_max, c_clear, boundA, intOfA, Int.toNat_natCast, hkk, hsl, htk, hlen, h0, h1, h2, h6, h9, hc, h22, h23, h71, e1, e2, e3, hadd]
        generalize hr : thenL _ _ = r
        refine Exists.elim (thenL_inv hr (keya _ _ (k + wk.length) [] .nils (.im (.int .i64 0)) .nils hwlk rfl ?_ ?_ ?_ ?_ ?_ ?_ ?_ ?_ ?_ ?_ (.inl ⟨rfl, rfl⟩) ?_)) ?_
        iterate 8 simp only [gs_same, gs_ne, List.length_set, Nat.reduceLT, Nat.reduceEqDiff, not_false_eq_true, hlen, h0, h1, h2, h6, h9, hHl]
        · rw [get_app (by omega)]; exact oN
        · exact hlenN
        · simp; omega
        clear hr keya key
        rintro e ⟨tm1, H1, ⟨hl1, g0, g6, g9, g11, gb, gl, gle, hm⟩, rfl⟩
        generalize readL (scanP s d) s (cntK (i : Int)).toNat 0 (k + wk.length) [] = q at *
        obtain ⟨k', ol⟩ := q
        simp only at gle hm ⊢
        have gb' : ∀ j, j < N → H1[j]? = H[j]? := fun j hj => by rw [gb j hj, get_app (by omega)]
        cases ol with
        | none =>
          obtain ⟨rfl, oN1, g7, g8⟩ := hm
          simp only [b_ret, k_ret]
          exact ⟨_, _, _, rfl, hl1, g6, rfl, gb', by omega, g7, g8, 0, [], .nils, 0, rfl, oN1, .inl ⟨rfl, rfl⟩⟩
        | some l =>
          obtain ⟨rfl, g1, oN1, ⟨v', o1, hG⟩, hll⟩ := hm
          have hlN : N < H1.length := by omega
          have hkk' : (0 : Int) ≤ (k' : Int) := Int.natCast_nonneg k'
          by_cases hc0' : cntK (i : Int) = 0
          · have hd0 : decide (0 < cntK (i : Int)) = false := decide_eq_false (by omega)
            simp only [if_pos hc0']
            have hG' := hG
            rcases hG with ⟨he, rfl⟩ | ⟨he, tok, _, rfl, _⟩
            all_goals simp only [x_seq, x_block, x_skip, x_label, x_cond, x_exit, x_goto, x_ret, k_normal, k_exit, k_goto, k_ret, b_normal, b_exit, b_goto, b_ret, wantedA, aop, ev, putA, List.length_cons, List.length_nil, List.replicate, List.cons_append, List.nil_append, List.append_nil, List.append_assoc, gs_same, gs_ne, gq_same, gq_ne, List.length_set, List.map_cons, List.map_nil, cellsOf, List.all_cons, List.all_nil, cellOk, boxTy, Bool.and_true, Bool.and_self, if_true, ite_true, ite_false, loadAt, storeAt, setAt, hget, hget0, hset, hset0, List.getElem?_cons_zero, List.getElem?_cons_succ, List.set_cons_zero, List.set_cons_succ, Nat.add_zero, Nat.zero_add, Nat.reduceAdd, Nat.reduceSub, Nat.reduceLeDiff, Nat.reduceLT, Nat.reduceEqDiff, Nat.le_refl, and_self, and_true, true_and, mkAgg, toIms, List.drop_zero, List.drop_succ_cons, List.take_succ_cons, List.take_zero, List.length_append, binBool, unA, Bool.false_eq_true, if_false, partA, fillA, fillE, List.take_nil, Nat.zero_ne_one, Nat.one_ne_zero, not_false_eq_true, ne_eq, Nat.succ_ne_self, reduceCtorEq, Int.reduceEq, Int.reduceLT, Int.reduceLE, decide_true, decide_false, lenA, beq_self_eq_true, beq_true, beq_false, Bool.not_true, Bool.not_false, b_lss, b_gtr, b_leq, b_geq, b_eql, b_neq, b_add, b_sub, b_mul, s_eql, s_neq, y_ops, y_nil, y_cons, y_guard, y_some, y_drop, y_do, y_not, y_not0, c_call, c_clo, c_move, c_pick, c_alloc, c_box, c_build, c_bslice, c_load, c_store, c_nilCheck, c_bin, c_binB, c_un, c_i2i, c_i2f, c_f2i, c_s2b, c_b2s, c_strId, c_mkfunc, c_mkslice, c_slice, c_sliceStr, c_fieldAddr, c_field, c_indexSl, c_indexArr, c_elemArr, c_indexStr, c_extract, c_lenStr, c_lenSl, c_append, c_real, c_imag, c_complex, c_min, c_max, c_clear, hl1, g0, g1, g6, g9, g11, h23, hd0, oN1, o1]
            all_goals refine ⟨_, _, _, rfl, ?_, ?_, rfl, ?_, ?_, ?_, ?_, (i : Int), l, _, N + 2, rfl, List.getElem?_set_self hlN, hG'.set_obj oN1 _⟩
            all_goals first
              | (simp only [gs_same, gs_ne, List.length_set, Nat.reduceLT, Nat.reduceEqDiff, not_false_eq_true, hl1, g6]; done)
              | (intro j hj; rw [List.getElem?_set_ne (by omega)]; exact gb' j hj)
              | (simp only [List.length_set]; omega)
          · have hd0 : decide (0 < cntK (i : Int)) = true := decide_eq_true (by omega)
            simp only [if_neg hc0']
            cases hsg : signB s k' 41 with
            | true =>
              simp only [if_true]
              have hk1 := sign_lt hsg
              have hge : decide ((s.length : Int) ≤ (k' : Int)) = false := decide_eq_false (by omega)
              have hsk : s[k']? = some 41 := of_decide_eq_true hsg
              have hb41 : ((((41 : UInt8).toNat : Nat) : Int)) = 41 := rfl
              have hwk := wrap_nat (i := k') (by omega)
              have hG' := hG
              rcases hG with ⟨he, rfl⟩ | ⟨he, tok, _, rfl, _⟩
              all_goals simp only [x_seq, x_block, x_skip, x_label, x_cond, x_exit, x_goto, x_ret, k_normal, k_exit, k_goto, k_ret, b_normal, b_exit, b_goto, b_ret, wantedA, aop, ev, putA, List.length_cons, List.length_nil, List.replicate, List.cons_append, List.nil_append, List.append_nil, List.append_assoc, gs_same, gs_ne, gq_same, gq_ne, List.length_set, List.map_cons, List.map_nil, cellsOf, List.all_cons, List.all_nil, cellOk, boxTy, Bool.and_true, Bool.and_self, if_true, ite_true, ite_false, loadAt, storeAt, setAt, hget, hget0, hset, hset0, List.getElem?_cons_zero, List.getElem?_cons_succ, List.set_cons_zero, List.set_cons_succ, Nat.add_zero, Nat.zero_add, Nat.reduceAdd, Nat.reduceSub, Nat.reduceLeDiff, Nat.reduceLT, Nat.reduceEqDiff, Nat.le_refl, and_self, and_true, true_and, mkAgg, toIms, List.drop_zero, List.drop_succ_cons, List.take_succ_cons, List.take_zero, List.length_append, binBool, unA, Bool.false_eq_true, if_false, partA, fillA, fillE, List.take_nil, Nat.zero_ne_one, Nat.one_ne_zero, not_false_eq_true, ne_eq, Nat.succ_ne_self, reduceCtorEq, Int.reduceEq, Int.reduceLT, Int.reduceLE, decide_true, decide_false, lenA, beq_self_eq_true, beq_true, beq_false, Bool.not_true, Bool.not_false, b_lss, b_gtr, b_leq, b_geq, b_eql, b_neq, b_add, b_sub, b_mul, s_eql, s_neq, y_ops, y_nil, y_cons, y_guard, y_some, y_drop, y_do, y_not, y_not0, c_call, c_clo, c_move, c_pick, c_alloc, c_box, c_build, c_bslice, c_load, c_store, c_nilCheck, c_bin, c_binB, c_un, c_i2i, c_i2f, c_f2i, c_s2b, c_b2s, c_strId, c_mkfunc, c_mkslice, c_slice, c_sliceStr, c_fieldAddr, c_field, c_indexSl, c_indexArr, c_elemArr, c_indexStr, c_extract, c_lenStr, c_lenSl, c_append, c_real, c_imag, c_complex, c_min, c_max, c_clear, intOfA, byteDat, Int.toNat_natCast, hkk', hb41, hl1, g0, g1, g6, g9, g11, h23, hd0, hge, hsk, hwk, oN1, o1]
              all_goals refine ⟨_, _, _, rfl, ?_, ?_, rfl, ?_, ?_, ?_, ?_, (i : Int), l, _, N + 2, rfl, List.getElem?_set_self hlN, hG'.set_obj oN1 _⟩
              all_goals first
                | (simp only [gs_same, gs_ne, List.length_set, Nat.reduceLT, Nat.reduceEqDiff, not_false_eq_true, hl1, g6]; done)
                | (intro j hj; rw [List.getElem?_set_ne (by omega)]; exact gb' j hj)
                | (simp only [List.length_set]; omega)
            | false =>
              simp only [Bool.false_eq_true, if_false]
              by_cases hk1 : k' < s.length
              · have hge : decide ((s.length : Int) ≤ (k' : Int)) = false := decide_eq_false (by omega)
                have hsk : s[k']? = some s[k'] := List.getElem?_eq_getElem hk1
                generalize s[k'] = a at hsk
                have hne : decide (((a.toNat : Nat) : Int) = 41) = false := by
                  have := byte_eq a 41
                  rw [show (((41 : UInt8).toNat : Nat) : Int) = 41 from rfl] at this
                  rw [this]
                  refine decide_eq_false fun h => ?_
                  rw [signB, hsk, h] at hsg
                  simp at hsg
                simp only [x_seq, x_block, x_skip, x_label, x_cond, x_exit, x_goto, x_ret, k_normal, k_exit, k_goto, k_ret, b_normal, b_exit, b_goto, b_ret, wantedA, aop, ev, putA, List.length_cons, List.length_nil, List.replicate, List.cons_append, List.nil_append, List.append_nil, List.append_assoc, gs_same, gs_ne, gq_same, gq_ne, List.length_set, List.map_cons, List.map_nil, cellsOf, List.all_cons, List.all_nil, cellOk, boxTy, Bool.and_true, Bool.and_self, if_true, ite_true, ite_false, loadAt, storeAt, setAt, hget, hget0, hset, hset0, List.getElem?_cons_zero, List.getElem?_cons_succ, List.set_cons_zero, List.set_cons_succ, Nat.add_zero, Nat.zero_add, Nat.reduceAdd, Nat.reduceSub, Nat.reduceLeDiff, Nat.reduceLT, Nat.reduceEqDiff, Nat.le_refl, and_self, and_true, true_and, mkAgg, toIms, List.drop_zero, List.drop_succ_cons, List.take_succ_cons, List.take_zero, List.length_append, binBool, unA, Bool.false_eq_true, if_false, partA, fillA, fillE, List.take_nil, Nat.zero_ne_one, Nat.one_ne_zero, not_false_eq_true, ne_eq, Nat.succ_ne_self, reduceCtorEq, Int.reduceEq, Int.reduceLT, Int.reduceLE, decide_true, decide_false, lenA, beq_self_eq_true, beq_true, beq_false, Bool.not_true, Bool.not_false, b_lss, b_gtr, b_leq, b_geq, b_eql, b_neq, b_add, b_sub, b_mul, s_eql, s_neq, y_ops, y_nil, y_cons, y_guard, y_some, y_drop, y_do, y_not, y_not0, c_call, c_clo, c_move, c_pick, c_alloc, c_box, c_build, c_bslice, c_load, c_store, c_nilCheck, c_bin, c_binB, c_un, c_i2i, c_i2f, c_f2i, c_s2b, c_b2s, c_strId, c_mkfunc, c_mkslice, c_slice, c_sliceStr, c_fieldAddr, c_field, c_indexSl, c_indexArr, c_elemArr, c_indexStr, c_extract, c_lenStr, c_lenSl, c_append, c_real, c_imag, c_complex, c_min, c_max, c_clear, intOfA, byteDat, Int.toNat_natCast, hkk', hl1, g0, g1, g6, g9, g11, h23, hd0, hge, hsk, hne, oN1, o1]
                refine ⟨_, _, _, rfl, ?_, ?_, rfl, ?_, ?_, ?_, ?_, 0, [], .nils, 0, rfl, List.getElem?_set_self hlN, .inl ⟨rfl, rfl⟩⟩
                all_goals first
                  | (simp only [gs_same, gs_ne, List.length_set, Nat.reduceLT, Nat.reduceEqDiff, not_false_eq_true, hl1, g6]; done)
                  | (intro j hj; rw [List.getElem?_set_ne (by omega)]; exact gb' j hj)
                  | (simp only [List.length_set]; omega)
              · have hge : decide ((s.length : Int) ≤ (k' : Int)) = true := decide_eq_true (by omega)
                simp only [x_seq, x_block, x_skip, x_label, x_cond, x_exit, x_goto, x_ret, k_normal, k_exit, k_goto, k_ret, b_normal, b_exit, b_goto, b_ret, wantedA, aop, ev, putA, List.length_cons, List.length_nil, List.replicate, List.cons_append, List.nil_append, List.append_nil, List.append_assoc, gs_same, gs_ne, gq_same, gq_ne, List.length_set, List.map_cons, List.map_nil, cellsOf, List.all_cons, List.all_nil, cellOk, boxTy, Bool.and_true, Bool.and_self, if_true, ite_true, ite_false, loadAt, storeAt, setAt, hget, hget0, hset, hset0, List.getElem?_cons_zero, List.getElem?_cons_succ, List.set_cons_zero, List.set_cons_succ, Nat.add_zero, Nat.zero_add, Nat.reduceAdd, Nat.reduceSub, Nat.reduceLeDiff, Nat.reduceLT, Nat.reduceEqDiff, Nat.le_refl, and_self, and_true, true_and, mkAgg, toIms, List.drop_zero, List.drop_succ_cons, List.take_succ_cons, List.take_zero, List.length_append, binBool, unA, Bool.false_eq_true, if_false, partA, fillA, fillE, List.take_nil, Nat.zero_ne_one, Nat.one_ne_zero, not_false_eq_true, ne_eq, Nat.succ_ne_self, reduceCtorEq, Int.reduceEq, Int.reduceLT, Int.reduceLE, decide_true, decide_false, lenA, beq_self_eq_true, beq_true, beq_false, Bool.not_true, Bool.not_false, b_lss, b_gtr, b_leq, b_geq, b_eql, b_neq, b_add, b_sub, b_mul, s_eql, s_neq, y_ops, y_nil, y_cons, y_guard, y_some, y_drop, y_do, y_not, y_not0, c_call, c_clo, c_move, c_pick, c_alloc, c_box, c_build, c_bslice, c_load, c_store, c_nilCheck, c_bin, c_binB, c_un, c_i2i, c_i2f, c_f2i, c_s2b, c_b2s, c_strId, c_mkfunc, c_mkslice, c_slice, c_sliceStr, c_fieldAddr, c_field, c_indexSl, c_indexArr, c_elemArr, c_indexStr, c_extract, c_lenStr, c_lenSl, c_append, c_real, c_imag, c_complex, c_min, c_max, c_clear, hl1, g0, g1, g6, g9, g11, h23, hd0, hge, oN1, o1]
                refine ⟨_, _, _, rfl, ?_, ?_, rfl, ?_, ?_, ?_, ?_, 0, [], .nils, 0, rfl, List.getElem?_set_self hlN, .inl ⟨rfl, rfl⟩⟩
                all_goals first
                  | (simp only [gs_same, gs_ne, List.length_set, Nat.reduceLT, Nat.reduceEqDiff, not_false_eq_true, hl1, g6]; done)
                  | (intro j hj; rw [List.getElem?_set_ne (by omega)]; exact gb' j hj)
                  | (simp only [List.length_set]; omega)

end Go.Abs.Seat
end
section
/- The abstract reading of Go code, thirty-seventh part: the end of a call that has left all that was there. -/
namespace Go.Abs
theorem leave_low {H H' : Heap} {r r' : AV} (hd : degrade r = r') (hr : refsLt H.length r' = true) (_hl : H.length ≤ H'.length) (hb : ∀ i, i < H.length → H'[i]? = H[i]?) : leave H false r H' = (r', H) := by
  have hh : heldIn H H' := fun i hi => .inl (hb i hi)
  unfold leave
  have e : (if (false : Bool) = true then r else degrade r) = r' := by simp [hd]
  rw [e, if_pos ⟨hr, hh⟩]
  congr 1
  apply List.ext_getElem?
  intro i
  rw [List.getElem?_take]
  by_cases hi : i < H.length
  · rw [if_pos hi, hb i hi]
  · rw [if_neg hi, List.getElem?_eq_none (by omega)]
theorem leave_nil {H : Heap} {d : Dat} : leave [] false (.im d) H = (.im d, []) := leave_app (H := []) (L := H)
end Go.Abs
end
section
/- What the seat's functions come to: the reference's scan and Parse. -/
set_option linter.unusedVariables false
set_option linter.unusedSimpArgs false
namespace Go.Abs.Seat
open Go.Proofs

theorem s46k {H H' : Heap} {tm : List AV} {n : Nat} {p : Int} {kk : Int} {v : AV} {l : List KT} {b : Bool} (h6 : tm.getD 6 undefA = .ptr H.length 0 0) (h7 : tm.getD 7 undefA = .im (.int .i64 p)) (h8 : tm.getD 8 undefA = .im (.bool b)) (hN : H'[H.length]? = some (.obj none [[.im (.int .i64 kk), v]]))
    (hG : Gath 31 2 n v H' (l.map encT)) (hb : ∀ i, i < H.length → H'[i]? = H[i]?) (hl : H.length ≤ H'.length) : endK f46 H .ret tm H' = some (.tup [.im (.agg (encT (mkT kk l))), .im (.int .i64 p), .im (.bool b)], H) := by
  have hr : ∀ v, (v = .nils ∧ l.map encT = [] ∨ ∃ tok, v = .asl 2 (l.map encT) tok ∧ l.map encT ≠ []) → leave H false (.tup [.agg [.im (.int .i64 kk), v], .im (.int .i64 p), .im (.bool b)]) H' = (.tup [.im (.agg (encT (mkT kk l))), .im (.int .i64 p), .im (.bool b)], H) := by
    intro v hv
    have hd : degrade (.tup [.agg [.im (.int .i64 kk), v], .im (.int .i64 p), .im (.bool b)]) = .tup [.im (.agg (encT (mkT kk l))), .im (.int .i64 p), .im (.bool b)] := by
      rcases hv with ⟨rfl, hl⟩ | ⟨tok, rfl, hl⟩
      · have hl0 : l = [] := by simpa using hl
        subst hl0
        simp [degrade, degrade1, toDat, toDats, mkT, encT, encTs]
      · have hl0 : l.length ≠ 0 := by simpa using hl
        simp only [degrade, degrade1, toDat, toDats, mkT, encT, encTs_map, if_neg hl0, List.map_cons, List.map_nil]
    exact leave_low hd (by simp [refsLt, refsLts]) hl hb
  have hfr : f46.results = [(6, some (some 2)), (7, none), (8, none)] := rfl
  have hfk : f46.keep = false := rfl
  rcases hG with ⟨he, rfl⟩ | ⟨he, tok, _, rfl, _⟩
  · have := hr _ (.inl ⟨rfl, he⟩)
    simp only [endK, hfr, hfk, x_seq, x_block, x_skip, x_label, x_cond, x_exit, x_goto, x_ret, k_normal, k_exit, k_goto, k_ret, b_normal, b_exit, b_goto, b_ret, wantedA, aop, ev, putA, List.length_cons, List.length_nil, List.replicate, List.cons_append, List.nil_append, List.append_nil, List.append_assoc, gs_same, gs_ne, gq_same, gq_ne, List.length_set, List.map_cons, List.map_nil, cellsOf, List.all_cons, List.all_nil, cellOk, boxTy, Bool.and_true, Bool.and_self, if_true, ite_true, ite_false, loadAt, storeAt, setAt, hget, hget0, hset, hset0, List.getElem?_cons_zero, List.getElem?_cons_succ, List.set_cons_zero, List.set_cons_succ, Nat.add_zero, Nat.zero_add, Nat.reduceAdd, Nat.reduceSub, Nat.reduceLeDiff, Nat.reduceLT, Nat.reduceEqDiff, Nat.le_refl, and_self, and_true, true_and, mkAgg, toIms, List.drop_zero, List.drop_succ_cons, List.take_succ_cons, List.take_zero, List.length_append, binBool, unA, Bool.false_eq_true, if_false, partA, fillA, fillE, List.take_nil, Nat.zero_ne_one, Nat.one_ne_zero, not_false_eq_true, ne_eq, Nat.succ_ne_self, reduceCtorEq, Int.reduceEq, Int.reduceLT, Int.reduceLE, decide_true, decide_false, lenA, beq_self_eq_true, beq_true, beq_false, Bool.not_true, Bool.not_false, b_lss, b_gtr, b_leq, b_geq, b_eql, b_neq, b_add, b_sub, b_mul, s_eql, s_neq, y_ops, y_nil, y_cons, y_guard, y_some, y_drop, y_do, y_not, y_not0, c_call, c_clo, c_move, c_pick, c_alloc, c_box, c_build, c_bslice, c_load, c_store, c_nilCheck, c_bin, c_binB, c_un, c_i2i, c_i2f, c_f2i, c_s2b, c_b2s, c_strId, c_mkfunc, c_mkslice, c_slice, c_sliceStr, c_fieldAddr, c_field, c_indexSl, c_indexArr, c_elemArr, c_indexStr, c_extract, c_lenStr, c_lenSl, c_append, c_real, c_imag, c_complex, c_min, c_max, c_clear, resA, tupA, h6, h7, h8, hN, this]
  · have := hr _ (.inr ⟨tok, rfl, he⟩)
    simp only [endK, hfr, hfk, x_seq, x_block, x_skip, x_label, x_cond, x_exit, x_goto, x_ret, k_normal, k_exit, k_goto, k_ret, b_normal, b_exit, b_goto, b_ret, wantedA, aop, ev, putA, List.length_cons, List.length_nil, List.replicate, List.cons_append, List.nil_append, List.append_nil, List.append_assoc, gs_same, gs_ne, gq_same, gq_ne, List.length_set, List.map_cons, List.map_nil, cellsOf, List.all_cons, List.all_nil, cellOk, boxTy, Bool.and_true, Bool.and_self, if_true, ite_true, ite_false, loadAt, storeAt, setAt, hget, hget0, hset, hset0, List.getElem?_cons_zero, List.getElem?_cons_succ, List.set_cons_zero, List.set_cons_succ, Nat.add_zero, Nat.zero_add, Nat.reduceAdd, Nat.reduceSub, Nat.reduceLeDiff, Nat.reduceLT, Nat.reduceEqDiff, Nat.le_refl, and_self, and_true, true_and, mkAgg, toIms, List.drop_zero, List.drop_succ_cons, List.take_succ_cons, List.take_zero, List.length_append, binBool, unA, Bool.false_eq_true, if_false, partA, fillA, fillE, List.take_nil, Nat.zero_ne_one, Nat.one_ne_zero, not_false_eq_true, ne_eq, Nat.succ_ne_self, reduceCtorEq, Int.reduceEq, Int.reduceLT, Int.reduceLE, decide_true, decide_false, lenA, beq_self_eq_true, beq_true, beq_false, Bool.not_true, Bool.not_false, b_lss, b_gtr, b_leq, b_geq, b_eql, b_neq, b_add, b_sub, b_mul, s_eql, s_neq, y_ops, y_nil, y_cons, y_guard, y_some, y_drop, y_do, y_not, y_not0, c_call, c_clo, c_move, c_pick, c_alloc, c_box, c_build, c_bslice, c_load, c_store, c_nilCheck, c_bin, c_binB, c_un, c_i2i, c_i2f, c_f2i, c_s2b, c_b2s, c_strId, c_mkfunc, c_mkslice, c_slice, c_sliceStr, c_fieldAddr, c_field, c_indexSl, c_indexArr, c_elemArr, c_indexStr, c_extract, c_lenStr, c_lenSl, c_append, c_real, c_imag, c_complex, c_min, c_max, c_clear, resA, tupA, h6, h7, h8, hN, this]

theorem s46step (s : List UInt8) (hs : s.length ≤ 4611686018427387904) (d : Nat) (hd : d < 1000)
    (hrec : 0 < d → ∀ (k : Nat) (H : Heap), k ≤ s.length → L 46 [.im (.str s), .im (.int .i64 (k : Int)), .im (.int .i64 (d : Int))] H = some (.tup [.im (.agg (encT (scanP s d k).2.1)), .im (.int .i64 ((scanP s d k).1 : Int)), .im (.bool (scanP s d k).2.2)], H))
    (k : Nat) (H : Heap) (hk : k ≤ s.length) :
    L 46 [.im (.str s), .im (.int .i64 (k : Int)), .im (.int .i64 ((d : Int) + 1))] H = some (.tup [.im (.agg (encT (scanP s (d + 1) k).2.1)), .im (.int .i64 ((scanP s (d + 1) k).1 : Int)), .im (.bool (scanP s (d + 1) k).2.2)], H) := by
  have hoN : (H ++ [HO.obj none [[.im (.int .i64 0), .nils]]])[H.length]? = some (.obj none [[.im (.int .i64 0), .nils]]) := by rw [hget0]; rfl
  have key := l46o s H.length hs d hd hrec k hk (H ++ [HO.obj none [[.im (.int .i64 0), .nils]]]) hoN (by simp) 9 1 (by omega)
  have keyb := l46b s k ((d : Int) + 1) hk hs (H ++ [HO.obj none [[.im (.int .i64 0), .nils]]]) 9 1 (by omega)
  have z1 : ((1 : Nat) : Int) = 1 := rfl
  have z0 : ((0 : Nat) : Int) = 0 := rfl
  rw [z1] at key keyb
  replace keyb := fun tm => keyb tm 0
  simp only [z0] at keyb
  have hK := @s46k H
  rw [leq F46]
  have hcode : f46.code = f46.code := rfl
  conv at hcode => rhs; simp only [f46]
  rw [hcode]
  clear hcode
  generalize endK f46 H = K at *
  obtain ⟨hlen, ha⟩ := enter_at (f := f46) (args := [.im (.str s), .im (.int .i64 (k : Int)), .im (.int .i64 ((d : Int) + 1))]) (Nat.le_of_ble_eq_true rfl)
  have h0 := ha 0 _ rfl
  have h1 := ha 1 _ rfl
  have h2 := ha 2 _ rfl
  generalize enterA f46 [.im (.str s), .im (.int .i64 (k : Int)), .im (.int .i64 ((d : Int) + 1))] = tm at *
  change tm.length = 163 at hlen
  have hga : ∀ i, i < H.length → (H ++ [HO.obj none [[.im (.int .i64 0), .nils]]])[i]? = H[i]? := fun i hi => get_app hi
  have hgl : H.length + 1 ≤ (H ++ [HO.obj none [[.im (.int .i64 0), .nils]]]).length := by simp
  simp only [scanP, e46_3, e46_1, x_seq, x_block, x_skip, x_label, x_cond, x_exit, x_goto, x_ret, k_normal, k_exit, k_goto, k_ret, b_normal, b_exit, b_goto, b_ret, wantedA, aop, ev, putA, List.length_cons, List.length_nil, List.replicate, List.cons_append, List.nil_append, List.append_nil, List.append_assoc, gs_same, gs_ne, gq_same, gq_ne, List.length_set, List.map_cons, List.map_nil, cellsOf, List.all_cons, List.all_nil, cellOk, boxTy, Bool.and_true, Bool.and_self, if_true, ite_true, ite_false, loadAt, storeAt, setAt, hget, hget0, hset, hset0, List.getElem?_cons_zero, List.getElem?_cons_succ, List.set_cons_zero, List.set_cons_succ, Nat.add_zero, Nat.zero_add, Nat.reduceAdd, Nat.reduceSub, Nat.reduceLeDiff, Nat.reduceLT, Nat.reduceEqDiff, Nat.le_refl, and_self, and_true, true_and, mkAgg, toIms, List.drop_zero, List.drop_succ_cons, List.take_succ_cons, List.take_zero, List.length_append, binBool, unA, Bool.false_eq_true, if_false, partA, fillA, fillE, List.take_nil, Nat.zero_ne_one, Nat.one_ne_zero, not_false_eq_true, ne_eq, Nat.succ_ne_self, reduceCtorEq, Int.reduceEq, Int.reduceLT, Int.reduceLE, decide_true, decide_false, lenA, beq_self_eq_true, beq_true, beq_false, Bool.not_true, Bool.not_false, b_lss, b_gtr, b_leq, b_geq, b_eql, b_neq, b_add, b_sub, b_mul, s_eql, s_neq, y_ops, y_nil, y_cons, y_guard, y_some, y_drop, y_do, y_not, y_not0, c_call, c_clo, c_move, c_pick, c_alloc, c_box, c_build, c_bslice, c_load, c_store, c_nilCheck, c_bin, c_binB, c_un, c_i2i, c_i2f, c_f2i, c_s2b, c_b2s, c_strId, c_mkfunc, c_mkslice, c_slice, c_sliceStr, c_fieldAddr, c_field, c_indexSl, c_indexArr, c_elemArr, c_indexStr, c_extract, c_lenStr, c_lenSl, c_append, c_real, c_imag, c_complex, c_min, c_max, c_clear, hlen, h0, h1, h2]
  generalize H ++ [HO.obj none [[.im (.int .i64 0), .nils]]] = H1 at *
  generalize hr : thenL _ _ = r
  refine Exists.elim (thenL_inv hr (key _ ?_ ?_ ?_ ?_ ?_ ?_)) ?_
  iterate 6 simp only [gs_same, gs_ne, List.length_set, Nat.reduceLT, Nat.reduceEqDiff, not_false_eq_true, hlen, h0, h1, h2]
  clear hr key
  rintro e ⟨tm1, H2, ⟨hl1, g6, hm⟩, rfl⟩
  cases hf : (kindsF 9 1).find? (okK ((d : Int) + 1) (s.drop k)) with
  | some kd =>
    rw [hf] at hm
    obtain ⟨rfl, gb, gl, g7, g8, kk, l, v, n, he, oN, hG⟩ := hm
    simp only [b_ret, k_ret, he]
    exact hK g6 g7 g8 oN hG (fun i hi => by rw [gb i hi]; exact hga i hi) (by omega)
  | none =>
    rw [hf] at hm
    obtain ⟨rfl, rfl, g0, g1, g2⟩ := hm
    simp only [x_seq, x_block, x_skip, x_label, x_cond, x_exit, x_goto, x_ret, k_normal, k_exit, k_goto, k_ret, b_normal, b_exit, b_goto, b_ret, wantedA, aop, ev, putA, List.length_cons, List.length_nil, List.replicate, List.cons_append, List.nil_append, List.append_nil, List.append_assoc, gs_same, gs_ne, gq_same, gq_ne, List.length_set, List.map_cons, List.map_nil, cellsOf, List.all_cons, List.all_nil, cellOk, boxTy, Bool.and_true, Bool.and_self, if_true, ite_true, ite_false, loadAt, storeAt, setAt, hget, hget0, hset, hset0, List.getElem?_cons_zero, List.getElem?_cons_succ, List.set_cons_zero, List.set_cons_succ, Nat.add_zero, Nat.zero_add, Nat.reduceAdd, Nat.reduceSub, Nat.reduceLeDiff, Nat.reduceLT, Nat.reduceEqDiff, Nat.le_refl, and_self, and_true, true_and, mkAgg, toIms, List.drop_zero, List.drop_succ_cons, List.take_succ_cons, List.take_zero, List.length_append, binBool, unA, Bool.false_eq_true, if_false, partA, fillA, fillE, List.take_nil, Nat.zero_ne_one, Nat.one_ne_zero, not_false_eq_true, ne_eq, Nat.succ_ne_self, reduceCtorEq, Int.reduceEq, Int.reduceLT, Int.reduceLE, decide_true, decide_false, lenA, beq_self_eq_true, beq_true, beq_false, Bool.not_true, Bool.not_false, b_lss, b_gtr, b_leq, b_geq, b_eql, b_neq, b_add, b_sub, b_mul, s_eql, s_neq, y_ops, y_nil, y_cons, y_guard, y_some, y_drop, y_do, y_not, y_not0, c_call, c_clo, c_move, c_pick, c_alloc, c_box, c_build, c_bslice, c_load, c_store, c_nilCheck, c_bin, c_binB, c_un, c_i2i, c_i2f, c_f2i, c_s2b, c_b2s, c_strId, c_mkfunc, c_mkslice, c_slice, c_sliceStr, c_fieldAddr, c_field, c_indexSl, c_indexArr, c_elemArr, c_indexStr, c_extract, c_lenStr, c_lenSl, c_append, c_real, c_imag, c_complex, c_min, c_max, c_clear, e46_1, hl1, g0, g1, g2, g6]
    generalize hr : thenL _ _ = r
    refine Exists.elim (thenL_inv hr (keyb _ ?_ ?_ ?_ ?_ ?_ ?_)) ?_
    iterate 6 simp only [gs_same, gs_ne, List.length_set, Nat.reduceLT, Nat.reduceEqDiff, not_false_eq_true, hl1, g0, g1, g2]
    clear hr keyb
    rintro e ⟨tm2, H3, ⟨rfl, rfl, hl2, a1, a6, a17⟩, rfl⟩
    simp only [gs_same, gs_ne, List.length_set, Nat.reduceLT, Nat.reduceEqDiff, not_false_eq_true, hl1, g6] at a6
    have hbl := bestL_le ((d : Int) + 1) (s.drop k) (kindsF 9 1) 0 (Nat.zero_le _)
    rw [List.length_drop] at hbl
    generalize bestL ((d : Int) + 1) (s.drop k) (kindsF 9 1) 0 = bl at *
    have hadd : IntKind.i64.wrap ((k : Int) + (bl : Int)) = ((k + bl : Nat) : Int) := by
      rw [Go.Abs.Seat.wrap_small _ (by omega)]; omega
    simp only [x_seq, x_block, x_skip, x_label, x_cond, x_exit, x_goto, x_ret, k_normal, k_exit, k_goto, k_ret, b_normal, b_exit, b_goto, b_ret, wantedA, aop, ev, putA, List.length_cons, List.length_nil, List.replicate, List.cons_append, List.nil_append, List.append_nil, List.append_assoc, gs_same, gs_ne, gq_same, gq_ne, List.length_set, List.map_cons, List.map_nil, cellsOf, List.all_cons, List.all_nil, cellOk, boxTy, Bool.and_true, Bool.and_self, if_true, ite_true, ite_false, loadAt, storeAt, setAt, hget, hget0, hset, hset0, List.getElem?_cons_zero, List.getElem?_cons_succ, List.set_cons_zero, List.set_cons_succ, Nat.add_zero, Nat.zero_add, Nat.reduceAdd, Nat.reduceSub, Nat.reduceLeDiff, Nat.reduceLT, Nat.reduceEqDiff, Nat.le_refl, and_self, and_true, true_and, mkAgg, toIms, List.drop_zero, List.drop_succ_cons, List.take_succ_cons, List.take_zero, List.length_append, binBool, unA, Bool.false_eq_true, if_false, partA, fillA, fillE, List.take_nil, Nat.zero_ne_one, Nat.one_ne_zero, not_false_eq_true, ne_eq, Nat.succ_ne_self, reduceCtorEq, Int.reduceEq, Int.reduceLT, Int.reduceLE, decide_true, decide_false, lenA, beq_self_eq_true, beq_true, beq_false, Bool.not_true, Bool.not_false, b_lss, b_gtr, b_leq, b_geq, b_eql, b_neq, b_add, b_sub, b_mul, s_eql, s_neq, y_ops, y_nil, y_cons, y_guard, y_some, y_drop, y_do, y_not, y_not0, c_call, c_clo, c_move, c_pick, c_alloc, c_box, c_build, c_bslice, c_load, c_store, c_nilCheck, c_bin, c_binB, c_un, c_i2i, c_i2f, c_f2i, c_s2b, c_b2s, c_strId, c_mkfunc, c_mkslice, c_slice, c_sliceStr, c_fieldAddr, c_field, c_indexSl, c_indexArr, c_elemArr, c_indexStr, c_extract, c_lenStr, c_lenSl, c_append, c_real, c_imag, c_complex, c_min, c_max, c_clear, hl2, a1, a6, a17, hoN, hadd]
    refine hK (kk := 0) (v := .nils) (l := []) (n := 0) ?_ ?_ ?_ (List.getElem?_set_self (by omega)) (.inl ⟨rfl, rfl⟩) ?_ ?_
    · simp only [gs_same, gs_ne, List.length_set, Nat.reduceLT, Nat.reduceEqDiff, not_false_eq_true, hl2, a6]
    · simp only [gs_same, gs_ne, List.length_set, Nat.reduceLT, Nat.reduceEqDiff, not_false_eq_true, hl2]
    · simp only [gs_same, gs_ne, List.length_set, Nat.reduceLT, Nat.reduceEqDiff, not_false_eq_true, hl2]
    · intro i hi
      rw [List.getElem?_set_ne (by omega)]; exact hga i hi
    · simp only [List.length_set]; omega

theorem s46 (s : List UInt8) (hs : s.length ≤ 4611686018427387904) : ∀ (d : Nat), d < 1000 → ∀ (k : Nat) (H : Heap), k ≤ s.length →
    L 46 [.im (.str s), .im (.int .i64 (k : Int)), .im (.int .i64 ((d : Int) + 1))] H = some (.tup [.im (.agg (encT (scanP s (d + 1) k).2.1)), .im (.int .i64 ((scanP s (d + 1) k).1 : Int)), .im (.bool (scanP s (d + 1) k).2.2)], H) := by
  intro d
  induction d with
  | zero => exact fun _ k H hk => s46step s hs 0 (by omega) (fun h => absurd h (by omega)) k H hk
  | succ d ih => exact fun hd k H hk => s46step s hs (d + 1) hd (fun _ => ih (by omega)) k H hk

/-- The reference's Parse. -/
def parseR (s : List UInt8) : KT × Nat × Bool :=
  if (scanP s 6 0).2.2 = true ∧ ¬ (scanP s 6 0).1 < s.length then ((scanP s 6 0).2.1, 0, true) else (zeroT, (scanP s 6 0).1, false)

theorem s13 (s : List UInt8) (hs : s.length ≤ 4611686018427387904) (H : Heap) : L 13 [.im (.str s)] H = some (.tup [.im (.agg (encT (parseR s).1)), .im (.int .i64 ((parseR s).2.1 : Int)), .im (.bool (parseR s).2.2)], H) := by
  have h46 := fun H => s46 s hs 5 (by decide) 0 H (Nat.zero_le _)
  rw [show (((5 : Nat) : Int) + 1) = 6 from rfl] at h46
  unfold parseR
  generalize scanP s (5 + 1) 0 = q at h46 ⊢
  obtain ⟨p, t, ok⟩ := q
  obtain ⟨k', s', ts⟩ := t
  have z0 : ((0 : Nat) : Int) = 0 := rfl
  simp only [encT, z0] at h46
  have hlv : ∀ (M : Heap) (a : Int) (b : Bool), leave H false (.tup [.im (.agg [.int .i64 k', .sl s' (encTs ts)]), .im (.int .i64 a), .im (.bool b)]) (H ++ M) = (.tup [.im (.agg [.int .i64 k', .sl s' (encTs ts)]), .im (.int .i64 a), .im (.bool b)], H) := fun M a b => leave_deg (by simp [degrade, degrade1, toDat]) (by simp [refsLt, refsLts])
  have hlz : ∀ (M : Heap) (a : Int) (b : Bool), leave H false (.tup [.agg [.im (.int .i64 0), .nils], .im (.int .i64 a), .im (.bool b)]) (H ++ M) = (.tup [.im (.agg [.int .i64 0, .sl 0 []]), .im (.int .i64 a), .im (.bool b)], H) := fun M a b => leave_deg (by simp [degrade, degrade1, toDat, toDats]) (by simp [refsLt, refsLts])
  rw [leq F13]
  obtain ⟨hlen, ha⟩ := enter_at (f := f13) (args := [.im (.str s)]) (Nat.le_of_ble_eq_true rfl)
  have h0 := ha 0 _ rfl
  generalize enterA f13 [.im (.str s)] = tm at *
  change tm.length = 25 at hlen
  simp only
  cases ok with
  | true =>
    by_cases hp : p < s.length
    · have hc : decide ((p : Int) < (s.length : Int)) = true := decide_eq_true (by omega)
      rw [if_neg (by simp [hp])]
      simp only [f13, zeroT, mkT, List.length_nil, if_true, encT, encTs, x_seq, x_block, x_skip, x_label, x_cond, x_exit, x_goto, x_ret, k_normal, k_exit, k_goto, k_ret, b_normal, b_exit, b_goto, b_ret, wantedA, aop, ev, putA, List.length_cons, List.length_nil, List.replicate, List.cons_append, List.nil_append, List.append_nil, List.append_assoc, gs_same, gs_ne, gq_same, gq_ne, List.length_set, List.map_cons, List.map_nil, cellsOf, List.all_cons, List.all_nil, cellOk, boxTy, Bool.and_true, Bool.and_self, if_true, ite_true, ite_false, loadAt, storeAt, setAt, hget, hget0, hset, hset0, List.getElem?_cons_zero, List.getElem?_cons_succ, List.set_cons_zero, List.set_cons_succ, Nat.add_zero, Nat.zero_add, Nat.reduceAdd, Nat.reduceSub, Nat.reduceLeDiff, Nat.reduceLT, Nat.reduceEqDiff, Nat.le_refl, and_self, and_true, true_and, mkAgg, toIms, List.drop_zero, List.drop_succ_cons, List.take_succ_cons, List.take_zero, List.length_append, binBool, unA, Bool.false_eq_true, if_false, partA, fillA, fillE, List.take_nil, Nat.zero_ne_one, Nat.one_ne_zero, not_false_eq_true, ne_eq, Nat.succ_ne_self, reduceCtorEq, Int.reduceEq, Int.reduceLT, Int.reduceLE, decide_true, decide_false, lenA, beq_self_eq_true, beq_true, beq_false, Bool.not_true, Bool.not_false, b_lss, b_gtr, b_leq, b_geq, b_eql, b_neq, b_add, b_sub, b_mul, s_eql, s_neq, y_ops, y_nil, y_cons, y_guard, y_some, y_drop, y_do, y_not, y_not0, c_call, c_clo, c_move, c_pick, c_alloc, c_box, c_build, c_bslice, c_load, c_store, c_nilCheck, c_bin, c_binB, c_un, c_i2i, c_i2f, c_f2i, c_s2b, c_b2s, c_strId, c_mkfunc, c_mkslice, c_slice, c_sliceStr, c_fieldAddr, c_field, c_indexSl, c_indexArr, c_elemArr, c_indexStr, c_extract, c_lenStr, c_lenSl, c_append, c_real, c_imag, c_complex, c_min, c_max, c_clear, endK, resA, tupA, hlen, h0, h46, hc, hlz]
    · have hc : decide ((p : Int) < (s.length : Int)) = false := decide_eq_false (by omega)
      rw [if_pos (by simp [hp])]
      simp only [f13, encT, x_seq, x_block, x_skip, x_label, x_cond, x_exit, x_goto, x_ret, k_normal, k_exit, k_goto, k_ret, b_normal, b_exit, b_goto, b_ret, wantedA, aop, ev, putA, List.length_cons, List.length_nil, List.replicate, List.cons_append, List.nil_append, List.append_nil, List.append_assoc, gs_same, gs_ne, gq_same, gq_ne, List.length_set, List.map_cons, List.map_nil, cellsOf, List.all_cons, List.all_nil, cellOk, boxTy, Bool.and_true, Bool.and_self, if_true, ite_true, ite_false, loadAt, storeAt, setAt, hget, hget0, hset, hset0, List.getElem?_cons_zero, List.getElem?_cons_succ, List.set_cons_zero, List.set_cons_succ, Nat.add_zero, Nat.zero_add, Nat.reduceAdd, Nat.reduceSub, Nat.reduceLeDiff, Nat.reduceLT, Nat.reduceEqDiff, Nat.le_refl, and_self, and_true, true_and, mkAgg, toIms, List.drop_zero, List.drop_succ_cons, List.take_succ_cons, List.take_zero, List.length_append, binBool, unA, Bool.false_eq_true, if_false, partA, fillA, fillE, List.take_nil, Nat.zero_ne_one, Nat.one_ne_zero, not_false_eq_true, ne_eq, Nat.succ_ne_self, reduceCtorEq, Int.reduceEq, Int.reduceLT, Int.reduceLE, decide_true, decide_false, lenA, beq_self_eq_true, beq_true, beq_false, Bool.not_true, Bool.not_false, b_lss, b_gtr, b_leq, b_geq, b_eql, b_neq, b_add, b_sub, b_mul, s_eql, s_neq, y_ops, y_nil, y_cons, y_guard, y_some, y_drop, y_do, y_not, y_not0, c_call, c_clo, c_move, c_pick, c_alloc, c_box, c_build, c_bslice, c_load, c_store, c_nilCheck, c_bin, c_binB, c_un, c_i2i, c_i2f, c_f2i, c_s2b, c_b2s, c_strId, c_mkfunc, c_mkslice, c_slice, c_sliceStr, c_fieldAddr, c_field, c_indexSl, c_indexArr, c_elemArr, c_indexStr, c_extract, c_lenStr, c_lenSl, c_append, c_real, c_imag, c_complex, c_min, c_max, c_clear, endK, resA, tupA, hlen, h0, h46, hc, hlv, z0]
  | false =>
    rw [if_neg (by simp)]
    simp only [f13, zeroT, mkT, List.length_nil, if_true, encT, encTs, x_seq, x_block, x_skip, x_label, x_cond, x_exit, x_goto, x_ret, k_normal, k_exit, k_goto, k_ret, b_normal, b_exit, b_goto, b_ret, wantedA, aop, ev, putA, List.length_cons, List.length_nil, List.replicate, List.cons_append, List.nil_append, List.append_nil, List.append_assoc, gs_same, gs_ne, gq_same, gq_ne, List.length_set, List.map_cons, List.map_nil, cellsOf, List.all_cons, List.all_nil, cellOk, boxTy, Bool.and_true, Bool.and_self, if_true, ite_true, ite_false, loadAt, storeAt, setAt, hget, hget0, hset, hset0, List.getElem?_cons_zero, List.getElem?_cons_succ, List.set_cons_zero, List.set_cons_succ, Nat.add_zero, Nat.zero_add, Nat.reduceAdd, Nat.reduceSub, Nat.reduceLeDiff, Nat.reduceLT, Nat.reduceEqDiff, Nat.le_refl, and_self, and_true, true_and, mkAgg, toIms, List.drop_zero, List.drop_succ_cons, List.take_succ_cons, List.take_zero, List.length_append, binBool, unA, Bool.false_eq_true, if_false, partA, fillA, fillE, List.take_nil, Nat.zero_ne_one, Nat.one_ne_zero, not_false_eq_true, ne_eq, Nat.succ_ne_self, reduceCtorEq, Int.reduceEq, Int.reduceLT, Int.reduceLE, decide_true, decide_false, lenA, beq_self_eq_true, beq_true, beq_false, Bool.not_true, Bool.not_false, b_lss, b_gtr, b_leq, b_geq, b_eql, b_neq, b_add, b_sub, b_mul, s_eql, s_neq, y_ops, y_nil, y_cons, y_guard, y_some, y_drop, y_do, y_not, y_not0, c_call, c_clo, c_move, c_pick, c_alloc, c_box, c_build, c_bslice, c_load, c_store, c_nilCheck, c_bin, c_binB, c_un, c_i2i, c_i2f, c_f2i, c_s2b, c_b2s, c_strId, c_mkfunc, c_mkslice, c_slice, c_sliceStr, c_fieldAddr, c_field, c_indexSl, c_indexArr, c_elemArr, c_indexStr, c_extract, c_lenStr, c_lenSl, c_append, c_real, c_imag, c_complex, c_min, c_max, c_clear, endK, resA, tupA, hlen, h0, h46, hlz]

end Go.Abs.Seat
end
