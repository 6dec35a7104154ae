/- Part 7 of what the claim rests on. -/
import Derived.Test.YtobnhbbcegeljaaDoorParsesA
import Derived.Test.YtobnhbbcegeljaaDoorParsesB
import Derived.Test.YtobnhbbcegeljaaDoorParsesC
import Derived.Test.YtobnhbbcegeljaaDoorParsesD
import Derived.Test.YtobnhbbcegeljaaDoorParsesE
import Derived.Test.YtobnhbbcegeljaaDoorParsesF
section
set_option linter.unusedVariables false
set_option linter.unusedSimpArgs false
namespace Go.Abs.Seat
open Go.Proofs
theorem goes_first {b : List UInt8} {p : Nat} : goesB b p p = letZ ((peekB b p).toNat : Int) := by
 unfold goesB
 simp only [Nat.sub_self,Nat.lt_irrefl,decide_false,Bool.false_or]
 rcases Bool.eq_false_or_eq_true (letZ ((peekB b p).toNat : Int)) with h | h
 ·rw [h, (let_nam h).1, decide_eq_true (let_nam h).2]; rfl
 ·rw [h]
  rcases Bool.eq_false_or_eq_true (namZ ((peekB b p).toNat : Int)) with h1 | h1
  ·by_cases h2 : 97 ≤ ((peekB b p).toNat : Int)
   ·rw [nam_let h1 h2] at h; simp at h
   ·rw [decide_eq_false h2, Bool.and_false]
  ·rw [h1]; simp
theorem run_no {b : List UInt8} {p : Nat} (h : letZ ((peekB b p).toNat : Int) = false) : runB b p = p := by
 unfold runB
 rw [show (16 : Nat) = 15 + 1 from rfl, runN, goes_first, h]
 simp
theorem run_yes {b : List UInt8} {p : Nat} (h : letZ ((peekB b p).toNat : Int) = true) : p < runB b p := by
 unfold runB
 rw [show (16 : Nat) = 15 + 1 from rfl, runN, goes_first, h, if_pos rfl]
 exact runN_le b p 15 (p + 1)
theorem name_ref {b : List UInt8} {p : Nat} (hp : p ≤ b.length) : nameP b p =
  if (wordR b (skipB b p)).2.2 = true then (if (shapeT (wordR b (skipB b p)).1).isNone = true then (mkN nameW 0 (wordR b (skipB b p)).1 zeroT [], (wordR b (skipB b p)).2.1, false) else (zeroN, (wordR b (skipB b p)).2.1, true))
  else (zeroN, (wordR b (skipB b p)).2.1, true) := by
 have hq := skip_len hp
 unfold nameP wordR
 generalize skipB b p = q at *
 rcases Bool.eq_false_or_eq_true (letZ ((peekB b q).toNat : Int)) with h | h
 ·have hw : decide (wordB b q = []) = false := decide_eq_false fun e => by
   have := wordB_len hq
   have := run_yes h
   rw [e] at *
   simp at *
   omega
  rw [h, hw, if_pos rfl, Bool.or_false]
  rcases Bool.eq_false_or_eq_true (longB b q) with hl | hl
  ·rw [hl]; simp
  ·rw [hl]; simp
 ·have hw : decide (wordB b q = []) = true := decide_eq_true (List.length_eq_zero_iff.1 (by rw [wordB_len hq, run_no h]; omega))
  rw [h, hw, Bool.or_true, if_pos rfl, run_no h]
  simp
theorem expr_skip {b : List UInt8} {p : Nat} (hp : p ≤ b.length) (d : Nat) : exprX b (d + 1) (skipB b p) = exprX b (d + 1) p := by
 unfold exprX
 rw [skip_skip hp]
def Low (n : Nat) (H H' : Heap) : Prop := H.length ≤ H'.length ∧ ∀ i, i < n → H'[i]? = H[i]?
theorem Low.refl {n : Nat} {H : Heap} : Low n H H := ⟨Nat.le_refl _, fun _ _ => rfl⟩
theorem Low.trans {n : Nat} {A B C : Heap} (h : Low n A B) (h2 : Low n B C) : Low n A C := ⟨Nat.le_trans h.1 h2.1, fun i a => (h2.2 i a).trans (h.2 i a)⟩
theorem Low.le {n m : Nat} {A B : Heap} (h : Low n A B) (hm : m ≤ n) : Low m A B := ⟨h.1, fun i a => h.2 i (by omega)⟩
def Did20 {R : Type} (b w : List UInt8) (N : Nat) (tm : List AV) (H : Heap) (K : AEx → List AV → Heap → Option R) (o : Option R) (r : St × Nat × Bool) : Prop :=
 (r.2.2 = true ∧ ∃ tm' H', o = K .ret tm' H' ∧ tm'.length = 287 ∧ Low N H H' ∧ tm'.getD 6 undefA = .ptr N 0 0 ∧ H'[N]? = some zO ∧ tm'.getD 7 undefA = .im (.int .i64 (r.2.1 : Int)) ∧ tm'.getD 8 undefA = .im (.bool false)) ∨
 (r.2.2 = false ∧ ∃ tm' H', o = K .normal tm' H' ∧ tm'.length = 287 ∧ Regs [0, 2, 6, 18, 20, 21] tm tm' ∧ Low (N + 1) H H' ∧ NodeAt 37 (N + 2) (N + 1) w r.1 H' ∧ tm'.getD 1 undefA = .im (.int .i64 (r.2.1 : Int)))
theorem sw20_d (b : List UInt8) (hb : b.length ≤ 2305843009213693952) (N : Nat) (w : List UInt8) (c : UInt8) (rd : Nat → NT × Nat × Bool) (he : c = 100)
  (p : Nat) (hp : p ≤ b.length) (st : St) (hst : st.2.2.length ≤ 100) (tm : List AV) (H : Heap) (hlen : tm.length = 287) (h0 : tm.getD 0 undefA = .im (.str b)) (h1 : tm.getD 1 undefA = .im (.int .i64 ((skipB b p : Nat) : Int))) (h6 : tm.getD 6 undefA = .ptr N 0 0) (h20 : tm.getD 20 undefA = .ptr (N + 1) 0 0) (h22 : tm.getD 22 undefA = .im (.int .u8 (c.toNat : Int)))
  (hN0 : H[N]? = some zO) (hnd : NodeAt 37 (N + 2) (N + 1) w st H) (hN : N + 2 ≤ H.length) {R : Type} (K : AEx → List AV → Heap → Option R) :
  Did20 b w N tm H K (exec0 L Λ sw20 tm H K) (itemX rd b c st p) := by
 have n100 : decide ((c.toNat : Int) = 100) = true := by rw [he]; rfl
 have hq := skip_len hp
 have p2 : (0 : Int) ≤ ((skipB b p : Nat) : Int) := Int.natCast_nonneg _
 have hwr := wrap_nat (i := skipB b p) (by omega)
 have hc256 : (peekB b (skipB b p)).toNat < 256 := (peekB b (skipB b p)).toNat_lt
 have hid : ∀ x : Int, 0 ≤ x → x < 256 → IntKind.i64.wrap x = x := fun x h1 h2 => Go.Abs.Seat.wrap_small _ (by omega)
 obtain ⟨k, y, v, o1, hty, hG⟩ := hnd
 have hsk := fun h => peek_some (b := b) (p := skipB b p) h
 have c1 := fun H => s37 ((peekB b (skipB b p)).toNat : Int) H
 have hpl := peek_lt (b := b) (p := skipB b p)
 unfold itemX
 rw [if_pos he]
 generalize peekB b (skipB b p) = a at *
 generalize skipB b p = q at *
 unfold Did20
 have hzN : ∀ x, (H.set N x)[N]? = some x := fun x => List.getElem?_set_self (by omega)
 have hlow : ∀ x, Low N H (H.set N x) := fun x => ⟨by simp, fun j hj => List.getElem?_set_ne (by omega)⟩
 rcases Bool.eq_false_or_eq_true (digZ (a.toNat : Int)) with hd | hd
 ·have hr := dig_range hd
  have hlt : q < b.length := hpl (fun e => by rw [e, dig0] at hd; simp at hd)
  have e1 : decide ((b.length : Int) ≤ (q : Int)) = false := decide_eq_false (by omega)
  have hsk := hsk hlt
  have w1 : IntKind.u8.wrap ((a.toNat : Int) - 48) = (a.toNat : Int) - 48 := u8w (by omega)
  have w2 := hid ((a.toNat : Int) - 48) (by omega) (by omega)
  rw [hd] at c1
  rw [hd, if_pos rfl]
  simp only [Bool.false_eq_true,false_and,false_or,true_and]
  simp only [sw20,B0,B1,B2,List.replicate,Nat.reduceAdd,Nat.reduceSub,Nat.reduceLeDiff,Nat.reduceLT,Nat.reduceEqDiff,reduceCtorEq,Int.reduceEq,Int.reduceLT,Int.reduceLE,lenA,z_ops,z_nil,z_cons,z_guard,z_some,z_drop,z_do,z_not,z_not0,pairK,forall_eq_or_imp,stays,loadOf,List.reverse_cons,List.reverse_nil,List.mem_cons,List.not_mem_nil,or_false,forall_eq,true_or,or_true,Bool.true_and,intOfA,byteDat,Int.toNat_natCast,hlen,h0,h1,h6,h20,h22,n100,e1,p2,hsk,c1,w1,w2,o1,hwr]
  refine ⟨_, _, rfl, by simp only [List.length_set,hlen], ?_, ⟨by simp, fun j hj => List.getElem?_set_ne (by omega)⟩, ⟨k, y, v, List.getElem?_set_self (by omega), hty, hG.set_obj o1 _⟩, by simp only [B3,Nat.reduceLT,Nat.reduceEqDiff,hlen]⟩
  intro j hj
  simp only [List.mem_cons,List.not_mem_nil,or_false] at hj
  rcases hj with rfl | rfl | rfl | rfl | rfl | rfl <;> simp only [B3,Nat.reduceLT,Nat.reduceEqDiff,hlen]
 ·rw [hd] at c1
  rw [hd, if_neg (by simp)]
  simp only [Bool.true_eq_false,false_and,or_false,true_and]
  by_cases hlt : q < b.length
  ·have e1 : decide ((b.length : Int) ≤ (q : Int)) = false := decide_eq_false (by omega)
   have hsk := hsk hlt
   simp only [sw20,B0,B1,B2,List.replicate,Nat.reduceAdd,Nat.reduceSub,Nat.reduceLeDiff,Nat.reduceLT,Nat.reduceEqDiff,reduceCtorEq,Int.reduceEq,Int.reduceLT,Int.reduceLE,lenA,z_ops,z_nil,z_cons,z_guard,z_some,z_drop,z_do,z_not,z_not0,pairK,forall_eq_or_imp,stays,loadOf,List.reverse_cons,List.reverse_nil,List.mem_cons,List.not_mem_nil,or_false,forall_eq,true_or,or_true,Bool.true_and,intOfA,byteDat,Int.toNat_natCast,hlen,h0,h1,h6,h20,h22,n100,e1,p2,hsk,c1,hN0]
   exact ⟨_, _, rfl, by simp only [List.length_set,hlen], hlow _, by simp only [B3,Nat.reduceLT,Nat.reduceEqDiff,hlen,h6], hzN _, by simp only [B3,Nat.reduceLT,Nat.reduceEqDiff,hlen], by simp only [B3,Nat.reduceLT,Nat.reduceEqDiff,hlen]⟩
  ·have e1 : decide ((b.length : Int) ≤ (q : Int)) = true := decide_eq_true (by omega)
   simp only [sw20,B0,B1,B2,List.replicate,Nat.reduceAdd,Nat.reduceSub,Nat.reduceLeDiff,Nat.reduceLT,Nat.reduceEqDiff,reduceCtorEq,Int.reduceEq,Int.reduceLT,Int.reduceLE,lenA,z_ops,z_nil,z_cons,z_guard,z_some,z_drop,z_do,z_not,z_not0,pairK,forall_eq_or_imp,stays,loadOf,List.reverse_cons,List.reverse_nil,List.mem_cons,List.not_mem_nil,or_false,forall_eq,true_or,or_true,Bool.true_and,intOfA,byteDat,Int.toNat_natCast,hlen,h0,h1,h6,h20,h22,n100,e1,p2,hN0]
   exact ⟨_, _, rfl, by simp only [List.length_set,hlen], hlow _, by simp only [B3,Nat.reduceLT,Nat.reduceEqDiff,hlen,h6], hzN _, by simp only [B3,Nat.reduceLT,Nat.reduceEqDiff,hlen], by simp only [B3,Nat.reduceLT,Nat.reduceEqDiff,hlen]⟩
theorem sw20_t (b : List UInt8) (hb : b.length ≤ 2305843009213693952) (N : Nat) (w : List UInt8) (c : UInt8) (rd : Nat → NT × Nat × Bool) (he : c = 116)
  (p : Nat) (hp : p ≤ b.length) (st : St) (hst : st.2.2.length ≤ 100) (tm : List AV) (H : Heap) (hlen : tm.length = 287) (h0 : tm.getD 0 undefA = .im (.str b)) (h1 : tm.getD 1 undefA = .im (.int .i64 ((skipB b p : Nat) : Int))) (h6 : tm.getD 6 undefA = .ptr N 0 0) (h20 : tm.getD 20 undefA = .ptr (N + 1) 0 0) (h22 : tm.getD 22 undefA = .im (.int .u8 (c.toNat : Int)))
  (hN0 : H[N]? = some zO) (hnd : NodeAt 37 (N + 2) (N + 1) w st H) (hN : N + 2 ≤ H.length) {R : Type} (K : AEx → List AV → Heap → Option R) :
  Did20 b w N tm H K (exec0 L Λ sw20 tm H K) (itemX rd b c st p) := by
 have n100 : decide ((c.toNat : Int) = 100) = false := by rw [he]; rfl
 have n116 : decide ((c.toNat : Int) = 116) = true := by rw [he]; rfl
 have hq := skip_len hp
 have c1 := fun H => s41 b (skipB b p) hb hq H
 have hsame := typ_same b (skipB b p) hq
 obtain ⟨k, y, v, o1, hty, hG⟩ := hnd
 unfold itemX
 rw [if_neg (by rw [he]; decide), if_pos he, hsame]
 generalize skipB b p = q at *
 generalize typR b q = r at *
 obtain ⟨ty, qr, ok⟩ := r
 obtain ⟨tk, ts, targs⟩ := ty
 simp only [encT] at c1
 unfold Did20
 have hN0' : ∀ M, (H ++ M)[N]? = some zO := fun M => by rw [get_app (by omega)]; exact hN0
 have o1' : ∀ M, (H ++ M)[N + 1]? = some (.obj none [[.im (.str w), .im (.int .i64 st.1), .im (.str []), .im (.int .i64 k), y, v]]) := fun M => by rw [get_app (by omega)]; exact o1
 have hzN : ∀ x M, ((H ++ M).set N x)[N]? = some x := fun x M => List.getElem?_set_self (by simp; omega)
 have hlow : ∀ x M, Low N H ((H ++ M).set N x) := fun x M => ⟨by simp, fun j hj => by rw [List.getElem?_set_ne (by omega), get_app (by omega)]⟩
 cases ok with
 | true =>
  simp only [Bool.not_true,Bool.false_eq_true,false_and,false_or,true_and]
  simp only [sw20,B0,B1,B2,List.replicate,Nat.reduceAdd,Nat.reduceSub,Nat.reduceLeDiff,Nat.reduceLT,Nat.reduceEqDiff,reduceCtorEq,Int.reduceEq,Int.reduceLT,Int.reduceLE,lenA,z_ops,z_nil,z_cons,z_guard,z_some,z_drop,z_do,z_not,z_not0,pairK,forall_eq_or_imp,stays,loadOf,List.reverse_cons,List.reverse_nil,List.mem_cons,List.not_mem_nil,or_false,forall_eq,true_or,or_true,Bool.true_and,hlen,h0,h1,h6,h20,h22,n100,n116,c1,o1']
  refine ⟨_, _, rfl, by simp only [List.length_set,hlen], ?_, ⟨by simp, fun j hj => by rw [List.getElem?_set_ne (by omega), get_app (by omega)]⟩, ⟨tk, _, v, List.getElem?_set_self (by simp; omega), .inr ⟨ts, targs, rfl, rfl⟩, (hG.more _).set_obj (o1' _) _⟩, by simp only [B3,Nat.reduceLT,Nat.reduceEqDiff,hlen]⟩
  intro j hj
  simp only [List.mem_cons,List.not_mem_nil,or_false] at hj
  rcases hj with rfl | rfl | rfl | rfl | rfl | rfl <;> simp only [B3,Nat.reduceLT,Nat.reduceEqDiff,hlen]
 | false =>
  simp only [Bool.not_false,Bool.true_eq_false,false_and,or_false,true_and]
  simp only [sw20,B0,B1,B2,List.replicate,Nat.reduceAdd,Nat.reduceSub,Nat.reduceLeDiff,Nat.reduceLT,Nat.reduceEqDiff,reduceCtorEq,Int.reduceEq,Int.reduceLT,Int.reduceLE,lenA,z_ops,z_nil,z_cons,z_guard,z_some,z_drop,z_do,z_not,z_not0,pairK,forall_eq_or_imp,stays,loadOf,List.reverse_cons,List.reverse_nil,List.mem_cons,List.not_mem_nil,or_false,forall_eq,true_or,or_true,Bool.true_and,hlen,h0,h1,h6,h20,h22,n100,n116,c1,hN0']
  exact ⟨_, _, rfl, by simp only [List.length_set,hlen], hlow _ _, by simp only [B3,Nat.reduceLT,Nat.reduceEqDiff,hlen,h6], hzN _ _, by simp only [B3,Nat.reduceLT,Nat.reduceEqDiff,hlen], by simp only [B3,Nat.reduceLT,Nat.reduceEqDiff,hlen]⟩
theorem wordR_nm {b : List UInt8} {p : Nat} (hp : p ≤ b.length) (h : (wordR b p).2.2 = true) : Nm (wordR b p).1 := by
 unfold wordR at h ⊢
 rcases Bool.eq_false_or_eq_true (letZ ((peekB b p).toNat : Int)) with e | e
 ·rw [e, if_pos rfl] at h ⊢
  split at h
  ·simp at h
  ·rename_i hl
   rw [if_neg hl]
   exact word_nm hp (run_yes e)
 ·rw [e, if_neg (by simp)] at h
  simp at h
theorem sw20_n (b : List UInt8) (hb : b.length ≤ 2305843009213693952) (N : Nat) (w : List UInt8) (c : UInt8) (rd : Nat → NT × Nat × Bool) (he : c = 110)
  (p : Nat) (hp : p ≤ b.length) (st : St) (hst : st.2.2.length ≤ 100) (tm : List AV) (H : Heap) (hlen : tm.length = 287) (h0 : tm.getD 0 undefA = .im (.str b)) (h1 : tm.getD 1 undefA = .im (.int .i64 ((skipB b p : Nat) : Int))) (h6 : tm.getD 6 undefA = .ptr N 0 0) (h20 : tm.getD 20 undefA = .ptr (N + 1) 0 0) (h22 : tm.getD 22 undefA = .im (.int .u8 (c.toNat : Int)))
  (hN0 : H[N]? = some zO) (hnd : NodeAt 37 (N + 2) (N + 1) w st H) (hN : N + 2 ≤ H.length) {R : Type} (K : AEx → List AV → Heap → Option R) :
  Did20 b w N tm H K (exec0 L Λ sw20 tm H K) (itemX rd b c st p) := by
 have n100 : decide ((c.toNat : Int) = 100) = false := by rw [he]; rfl
 have n116 : decide ((c.toNat : Int) = 116) = false := by rw [he]; rfl
 have n110 : decide ((c.toNat : Int) = 110) = true := by rw [he]; rfl
 have hq := skip_len hp
 have c1 := fun H => s39 b (skipB b p) (by omega) hq H
 have hnm := wordR_nm (b := b) (p := skipB b p) hq
 have hsame := name_ref (b := b) hp
 obtain ⟨k, y, v, o1, hty, hG⟩ := hnd
 unfold itemX
 rw [if_neg (by rw [he]; decide), if_neg (by rw [he]; decide), if_pos he, hsame]
 generalize skipB b p = q at *
 generalize wordR b q = r at *
 obtain ⟨wd, qr, ok⟩ := r
 simp only at c1 hnm ⊢
 unfold Did20
 have hzN : ∀ x, (H.set N x)[N]? = some x := fun x => List.getElem?_set_self (by omega)
 have hlow : ∀ x, Low N H (H.set N x) := fun x => ⟨by simp, fun j hj => List.getElem?_set_ne (by omega)⟩
 cases ok with
 | true =>
  have c2 := fun H => s42 wd (hnm rfl) H
  rw [if_pos rfl]
  rcases Bool.eq_false_or_eq_true ((shapeT wd).isNone) with e1 | e1
  ·rw [e1] at c2
   rw [e1, if_pos rfl]
   simp only [Bool.false_eq_true,false_and,false_or,true_and]
   have hGx := hG.grow (bytes := 96) (by omega) (encN (mkN nameW 0 wd zeroT [])) (by simp; omega) (by decide)
   obtain ⟨tok, H3, hap, hG3, hl3, hlow3, hob3⟩ := hGx
   have o13 := hob3 _ _ _ o1
   have o1l := (List.getElem?_eq_some_iff.1 o13).1
   simp only [enc_flat,nameW] at hap
   simp only [sw20,B0,B1,B2,List.replicate,Nat.reduceAdd,Nat.reduceSub,Nat.reduceLeDiff,Nat.reduceLT,Nat.reduceEqDiff,reduceCtorEq,Int.reduceEq,Int.reduceLT,Int.reduceLE,lenA,z_ops,z_nil,z_cons,z_guard,z_some,z_drop,z_do,z_not,z_not0,pairK,forall_eq_or_imp,stays,loadOf,List.reverse_cons,List.reverse_nil,List.mem_cons,List.not_mem_nil,or_false,forall_eq,true_or,or_true,Bool.true_and,elems,toDatss,toDats,toDat,hlen,h0,h1,h6,h20,h22,n100,n116,n110,c1,c2,o1,o13,hap]
   refine ⟨_, _, rfl, by simp only [List.length_set,hlen], ?_, ⟨by simp; omega, fun j hj => by rw [List.getElem?_set_ne (by omega), hlow3 j (by omega)]⟩, ⟨k, y, _, List.getElem?_set_self o1l, hty, ?_⟩, by simp only [B3,Nat.reduceLT,Nat.reduceEqDiff,hlen]⟩
   ·intro j hj
    simp only [List.mem_cons,List.not_mem_nil,or_false] at hj
    rcases hj with rfl | rfl | rfl | rfl | rfl | rfl <;> simp only [B3,Nat.reduceLT,Nat.reduceEqDiff,hlen]
   ·rw [show (st.2.2 ++ [mkN nameW 0 wd zeroT []]).map encN = st.2.2.map encN ++ [encN (mkN nameW 0 wd zeroT [])] by simp]
    simp only [enc_flat,nameW] at hG3 ⊢
    exact hG3.set_obj o13 _
  ·rw [e1] at c2
   rw [e1, if_neg (by simp)]
   simp only [Bool.true_eq_false,false_and,or_false,true_and]
   simp only [sw20,B0,B1,B2,List.replicate,Nat.reduceAdd,Nat.reduceSub,Nat.reduceLeDiff,Nat.reduceLT,Nat.reduceEqDiff,reduceCtorEq,Int.reduceEq,Int.reduceLT,Int.reduceLE,lenA,z_ops,z_nil,z_cons,z_guard,z_some,z_drop,z_do,z_not,z_not0,pairK,forall_eq_or_imp,stays,loadOf,List.reverse_cons,List.reverse_nil,List.mem_cons,List.not_mem_nil,or_false,forall_eq,true_or,or_true,Bool.true_and,hlen,h0,h1,h6,h20,h22,n100,n116,n110,c1,c2,hN0]
   exact ⟨_, _, rfl, by simp only [List.length_set,hlen], hlow _, by simp only [B3,Nat.reduceLT,Nat.reduceEqDiff,hlen,h6], hzN _, by simp only [B3,Nat.reduceLT,Nat.reduceEqDiff,hlen], by simp only [B3,Nat.reduceLT,Nat.reduceEqDiff,hlen]⟩
 | false =>
  rw [if_neg (by simp)]
  simp only [Bool.true_eq_false,false_and,or_false,true_and]
  simp only [sw20,B0,B1,B2,List.replicate,Nat.reduceAdd,Nat.reduceSub,Nat.reduceLeDiff,Nat.reduceLT,Nat.reduceEqDiff,reduceCtorEq,Int.reduceEq,Int.reduceLT,Int.reduceLE,lenA,z_ops,z_nil,z_cons,z_guard,z_some,z_drop,z_do,z_not,z_not0,pairK,forall_eq_or_imp,stays,loadOf,List.reverse_cons,List.reverse_nil,List.mem_cons,List.not_mem_nil,or_false,forall_eq,true_or,or_true,Bool.true_and,hlen,h0,h1,h6,h20,h22,n100,n116,n110,c1,hN0]
  exact ⟨_, _, rfl, by simp only [List.length_set,hlen], hlow _, by simp only [B3,Nat.reduceLT,Nat.reduceEqDiff,hlen,h6], hzN _, by simp only [B3,Nat.reduceLT,Nat.reduceEqDiff,hlen], by simp only [B3,Nat.reduceLT,Nat.reduceEqDiff,hlen]⟩
theorem sw20_e (b : List UInt8) (hb : b.length ≤ 2305843009213693952) (N : Nat) (w : List UInt8) (c : UInt8) (rd : Nat → NT × Nat × Bool) (he : isE c = true) (d d' : Int) (hd : IntKind.i64.wrap (d - 1) = d')
  (p : Nat) (hp : p ≤ b.length) (st : St) (hst : st.2.2.length ≤ 100) (tm : List AV) (H : Heap) (hlen : tm.length = 287) (h0 : tm.getD 0 undefA = .im (.str b)) (h1 : tm.getD 1 undefA = .im (.int .i64 ((skipB b p : Nat) : Int))) (h2 : tm.getD 2 undefA = .im (.int .i64 d)) (h6 : tm.getD 6 undefA = .ptr N 0 0) (h20 : tm.getD 20 undefA = .ptr (N + 1) 0 0) (h22 : tm.getD 22 undefA = .im (.int .u8 (c.toNat : Int)))
  (hN0 : H[N]? = some zO) (hnd : NodeAt 37 (N + 2) (N + 1) w st H) (hN : N + 2 ≤ H.length) (hcall : ∃ nd, L 20 [.im (.str b), .im (.int .i64 ((skipB b p : Nat) : Int)), .im (.int .i64 d')] H = some (.tup [.im (.agg (encN nd)), .im (.int .i64 ((rd p).2.1 : Int)), .im (.bool (!(rd p).2.2))], H) ∧ ((rd p).2.2 = false → nd = (rd p).1)) {R : Type} (K : AEx → List AV → Heap → Option R) :
  Did20 b w N tm H K (exec0 L Λ sw20 tm H K) (itemX rd b c st p) := by
 obtain ⟨nd, hcl, hnn⟩ := hcall
 have n100 : decide ((c.toNat : Int) = 100) = false := by
  refine (byte_eq c 100).trans ?_; unfold isE at he; simp only [Bool.and_eq_true,Bool.not_eq_true'] at he; exact he.1
 have n116 : decide ((c.toNat : Int) = 116) = false := by
  refine (byte_eq c 116).trans ?_; unfold isE at he; simp only [Bool.and_eq_true,Bool.not_eq_true'] at he; exact he.2.1
 have n110 : decide ((c.toNat : Int) = 110) = false := by
  refine (byte_eq c 110).trans ?_; unfold isE at he; simp only [Bool.and_eq_true,Bool.not_eq_true'] at he; exact he.2.2
 have hitem : itemX rd b c st p = ((st.1, st.2.1, st.2.2 ++ [(rd p).1]), (rd p).2.1, (rd p).2.2) := by
  unfold isE at he
  simp only [Bool.and_eq_true,Bool.not_eq_true',decide_eq_false_iff_not] at he
  unfold itemX
  rw [if_neg he.1, if_neg he.2.1, if_neg he.2.2]
 obtain ⟨k, y, v, o1, hty, hG⟩ := hnd
 rw [hitem]
 generalize skipB b p = q at *
 generalize (rd p).2.1 = qr at *
 generalize (rd p).2.2 = bad at *
 generalize (rd p).1 = nx at *
 unfold Did20
 obtain ⟨op, ni, txt, ty, ns, kids⟩ := nd
 obtain ⟨tk, ts, targs⟩ := ty
 have hN0' : ∀ M, (H ++ M)[N]? = some zO := fun M => by rw [get_app (by omega)]; exact hN0
 have o1' : ∀ M, (H ++ M)[N + 1]? = some (.obj none [[.im (.str w), .im (.int .i64 st.1), .im (.str []), .im (.int .i64 k), y, v]]) := fun M => by rw [get_app (by omega)]; exact o1
 have hzN : ∀ x M, ((H ++ M).set N x)[N]? = some x := fun x M => List.getElem?_set_self (by simp; omega)
 have hlow : ∀ x M, Low N H ((H ++ M).set N x) := fun x M => ⟨by simp, fun j hj => by rw [List.getElem?_set_ne (by omega), get_app (by omega)]⟩
 cases bad with
 | false =>
  have hnx := hnn rfl
  subst hnx
  have hGx := (hG.more [.obj none [[.im (.str op), .im (.int .i64 ni), .im (.str txt), .im (.int .i64 tk), .im (.sl ts (encTs targs)), .im (.sl ns (encNs kids))]]]).grow (bytes := 96) (by simp; omega) (encN (.mk op ni txt (.mk tk ts targs) ns kids)) (by simp; omega) (by decide)
  obtain ⟨tok, H3, hap, hG3, hl3, hlow3, hob3⟩ := hGx
  have o13 := hob3 _ _ _ (o1' _)
  have o1l := (List.getElem?_eq_some_iff.1 o13).1
  simp only [encN,Bool.not_false] at hcl hap
  simp only [Bool.false_eq_true,false_and,false_or,true_and]
  simp only [sw20,B0,B1,B2,List.replicate,Nat.reduceAdd,Nat.reduceSub,Nat.reduceLeDiff,Nat.reduceLT,Nat.reduceEqDiff,reduceCtorEq,Int.reduceEq,Int.reduceLT,Int.reduceLE,lenA,z_ops,z_nil,z_cons,z_guard,z_some,z_drop,z_do,z_not,z_not0,pairK,forall_eq_or_imp,stays,loadOf,List.reverse_cons,List.reverse_nil,List.mem_cons,List.not_mem_nil,or_false,forall_eq,true_or,or_true,Bool.true_and,elems,toDatss,toDats,toDat,hlen,h0,h1,h2,h6,h20,h22,n100,n116,n110,hd,hcl,o1',o13,hap]
  refine ⟨_, _, rfl, by simp only [List.length_set,hlen], ?_, ⟨by simp at hl3 ⊢; omega, fun j hj => by rw [List.getElem?_set_ne (by omega), hlow3 j (by omega), get_app (by omega)]⟩, ⟨k, y, _, List.getElem?_set_self o1l, hty, ?_⟩, by simp only [B3,Nat.reduceLT,Nat.reduceEqDiff,hlen]⟩
  ·intro j hj
   simp only [List.mem_cons,List.not_mem_nil,or_false] at hj
   rcases hj with rfl | rfl | rfl | rfl | rfl | rfl <;> simp only [B3,Nat.reduceLT,Nat.reduceEqDiff,hlen]
  ·rw [show (st.2.2 ++ [NT.mk op ni txt (.mk tk ts targs) ns kids]).map encN = st.2.2.map encN ++ [encN (.mk op ni txt (.mk tk ts targs) ns kids)] by simp]
   simp only [encN] at hG3 ⊢
   exact hG3.set_obj o13 _
 | true =>
  simp only [encN,Bool.not_true] at hcl
  simp only [Bool.true_eq_false,false_and,or_false,true_and]
  simp only [sw20,B0,B1,B2,List.replicate,Nat.reduceAdd,Nat.reduceSub,Nat.reduceLeDiff,Nat.reduceLT,Nat.reduceEqDiff,reduceCtorEq,Int.reduceEq,Int.reduceLT,Int.reduceLE,lenA,z_ops,z_nil,z_cons,z_guard,z_some,z_drop,z_do,z_not,z_not0,pairK,forall_eq_or_imp,stays,loadOf,List.reverse_cons,List.reverse_nil,List.mem_cons,List.not_mem_nil,or_false,forall_eq,true_or,or_true,Bool.true_and,hlen,h0,h1,h2,h6,h20,h22,n100,n116,n110,hd,hcl,hN0']
  exact ⟨_, _, rfl, by simp only [List.length_set,hlen], hlow _ _, by simp only [B3,Nat.reduceLT,Nat.reduceEqDiff,hlen,h6], hzN _ _, by simp only [B3,Nat.reduceLT,Nat.reduceEqDiff,hlen], by simp only [B3,Nat.reduceLT,Nat.reduceEqDiff,hlen]⟩
theorem sw20_all (b : List UInt8) (hb : b.length ≤ 2305843009213693952) (N : Nat) (w : List UInt8) (c : UInt8) (rd : Nat → NT × Nat × Bool) (d d' : Int) (hd : IntKind.i64.wrap (d - 1) = d')
  (p : Nat) (hp : p ≤ b.length) (st : St) (hst : st.2.2.length ≤ 100) (tm : List AV) (H : Heap) (hlen : tm.length = 287) (h0 : tm.getD 0 undefA = .im (.str b)) (h1 : tm.getD 1 undefA = .im (.int .i64 ((skipB b p : Nat) : Int))) (h2 : tm.getD 2 undefA = .im (.int .i64 d)) (h6 : tm.getD 6 undefA = .ptr N 0 0) (h20 : tm.getD 20 undefA = .ptr (N + 1) 0 0) (h22 : tm.getD 22 undefA = .im (.int .u8 (c.toNat : Int)))
  (hN0 : H[N]? = some zO) (hnd : NodeAt 37 (N + 2) (N + 1) w st H) (hN : N + 2 ≤ H.length) (hcall : isE c = true → ∃ nd, L 20 [.im (.str b), .im (.int .i64 ((skipB b p : Nat) : Int)), .im (.int .i64 d')] H = some (.tup [.im (.agg (encN nd)), .im (.int .i64 ((rd p).2.1 : Int)), .im (.bool (!(rd p).2.2))], H) ∧ ((rd p).2.2 = false → nd = (rd p).1)) {R : Type} (K : AEx → List AV → Heap → Option R) :
  Did20 b w N tm H K (exec0 L Λ sw20 tm H K) (itemX rd b c st p) := by
 by_cases h100 : c = 100
 ·exact sw20_d b hb N w c rd h100 p hp st hst tm H hlen h0 h1 h6 h20 h22 hN0 hnd hN K
 by_cases h116 : c = 116
 ·exact sw20_t b hb N w c rd h116 p hp st hst tm H hlen h0 h1 h6 h20 h22 hN0 hnd hN K
 by_cases h110 : c = 110
 ·exact sw20_n b hb N w c rd h110 p hp st hst tm H hlen h0 h1 h6 h20 h22 hN0 hnd hN K
 have he : isE c = true := by unfold isE; rw [decide_eq_false h100, decide_eq_false h116, decide_eq_false h110]; rfl
 exact sw20_e b hb N w c rd he d d' hd p hp st hst tm H hlen h0 h1 h2 h6 h20 h22 hN0 hnd hN (hcall he) K
end Go.Abs.Seat
end
section
set_option linter.unusedVariables false
set_option linter.unusedSimpArgs false
namespace Go.Abs.Seat
open Go.Proofs
def ResAt (N : Nat) (w : List UInt8) (st : St) (H : Heap) : Prop := ∃ (k : Int) (y v : AV), H[N]? = some (.obj none [[.im (.str w), .im (.int .i64 st.1), .im (.str []), .im (.int .i64 k), y, v]]) ∧ TyA st.2.1 k y ∧ VA v st.2.2
theorem res_zero {N : Nat} {H : Heap} (h : H[N]? = some zO) : ResAt N [] (0, zeroT, []) H := ⟨0, .nils, .nils, h, .inl ⟨rfl, rfl, rfl⟩, .inl ⟨rfl, rfl⟩⟩
def more20 (b pr : List UInt8) (i q : Nat) : Bool := decide (peekB b (skipB b q) = 44) && (if decide (pr = [108]) = true then decide (i < 63) else decide (i + 1 < pr.length))
def fin20 (b pr : List UInt8) (i q : Nat) : Bool := decide (peekB b (skipB b q) = 41) && (decide (pr = [108]) || decide (i + 1 = pr.length))
def Tail20 {R : Type} (b w pr : List UInt8) (N i q : Nat) (st : St) (tm : List AV) (H : Heap) (K : AEx → List AV → Heap → Option R) (o : Option R) : Prop :=
 (more20 b pr i q = true ∧ ∃ tm', o = K (.exit 1) tm' H ∧ tm'.length = 287 ∧ Regs [0, 2, 6, 18, 20, 21] tm tm' ∧ tm'.getD 1 undefA = .im (.int .i64 ((skipB b q : Nat) : Int))) ∨
 (more20 b pr i q = false ∧ fin20 b pr i q = true ∧ ∃ tm' H', o = K .ret tm' H' ∧ tm'.length = 287 ∧ Low N H H' ∧ tm'.getD 6 undefA = .ptr N 0 0 ∧ ResAt N w st H' ∧ tm'.getD 7 undefA = .im (.int .i64 ((skipB b q + 1 : Nat) : Int)) ∧ tm'.getD 8 undefA = .im (.bool true)) ∨
 (more20 b pr i q = false ∧ fin20 b pr i q = false ∧ ∃ tm' H', o = K .ret tm' H' ∧ tm'.length = 287 ∧ Low N H H' ∧ tm'.getD 6 undefA = .ptr N 0 0 ∧ ResAt N [] (0, zeroT, []) H' ∧ tm'.getD 7 undefA = .im (.int .i64 ((skipB b q : Nat) : Int)) ∧ tm'.getD 8 undefA = .im (.bool false))
theorem tl20_all (b : List UInt8) (hb : b.length ≤ 2305843009213693952) (N : Nat) (w pr : List UInt8) (hpr : pr.length ≤ 5) (i : Nat) (hi : i ≤ 100) (q : Nat) (hq : q ≤ b.length) (st : St) (tm : List AV) (H : Heap) (hlen : tm.length = 287) (h0 : tm.getD 0 undefA = .im (.str b)) (h1 : tm.getD 1 undefA = .im (.int .i64 (q : Int))) (h6 : tm.getD 6 undefA = .ptr N 0 0) (h18 : tm.getD 18 undefA = .im (.str pr)) (h20 : tm.getD 20 undefA = .ptr (N + 1) 0 0) (h21 : tm.getD 21 undefA = .im (.int .i64 (i : Int)))
  (hN0 : H[N]? = some zO) (hnd : NodeAt 37 (N + 2) (N + 1) w st H) {R : Type} (K : AEx → List AV → Heap → Option R) : Tail20 b w pr N i q st tm H K (exec0 L Λ tl20 tm H K) := by
 have c1 := fun H => s21 b q (by omega) hq H
 have ha := skip_len hq
 obtain ⟨k, y, v, o1, hty, hG⟩ := hnd
 have hva := gath_va hG
 have hNl := (List.getElem?_eq_some_iff.1 hN0).1
 have hzN : ∀ x, (H.set N x)[N]? = some x := fun x => List.getElem?_set_self hNl
 have hlow : ∀ x, Low N H (H.set N x) := fun x => ⟨by simp, fun j hj => List.getElem?_set_ne (by omega)⟩
 have hz : ∀ (tm' : List AV) (H' : Heap), ResAt N [] (0, zeroT, []) (H.set N zO) := fun _ _ => res_zero (hzN _)
 have hw1 := wrap_nat (i := skipB b q) (by omega)
 have hw2 := wrap_nat (i := i) (by omega)
 have p2 : (0 : Int) ≤ ((skipB b q : Nat) : Int) := Int.natCast_nonneg _
 have hsk := fun h => peek_some (b := b) (p := skipB b q) h
 have hpl := peek_lt (b := b) (p := skipB b q)
 unfold Tail20 more20 fin20
 generalize hc : peekB b (skipB b q) = c at *
 generalize skipB b q = a at *
 have b44 : decide ((c.toNat : Int) = 44) = decide (c = 44) := byte_eq c 44
 have b41 : decide ((c.toNat : Int) = 41) = decide (c = 41) := byte_eq c 41
 have e63 : decide ((i : Int) < 63) = decide (i < 63) := by
  by_cases h : i < 63
  ·rw [decide_eq_true h, decide_eq_true (by omega)]
  ·rw [decide_eq_false h, decide_eq_false (by omega)]
 have el : decide (((i + 1 : Nat) : Int) < (pr.length : Int)) = decide (i + 1 < pr.length) := by
  by_cases h : i + 1 < pr.length
  ·rw [decide_eq_true h, decide_eq_true (by omega)]
  ·rw [decide_eq_false h, decide_eq_false (by omega)]
 have ee : decide (((i + 1 : Nat) : Int) = (pr.length : Int)) = decide (i + 1 = pr.length) := by
  by_cases h : i + 1 = pr.length
  ·rw [decide_eq_true h, decide_eq_true (by omega)]
  ·rw [decide_eq_false h, decide_eq_false (by omega)]
 by_cases hlt : a < b.length
 ·have e0 : decide ((a : Int) < (b.length : Int)) = true := decide_eq_true (by omega)
  have hsk := hsk hlt
  rcases Bool.eq_false_or_eq_true (decide (c = 44)) with v1 | v1
  ·rcases Bool.eq_false_or_eq_true (decide (pr = [108])) with v2 | v2
   ·rcases Bool.eq_false_or_eq_true (decide (i < 63)) with v3 | v3
    ·simp only [v1,v2,v3,Bool.and_true,Bool.and_false,Bool.true_and,Bool.false_and,Bool.or_true,Bool.or_false,Bool.true_or,Bool.false_or,if_true,Bool.false_eq_true,Bool.true_eq_false,if_false,false_and,and_false,true_and,false_or,or_false]
     simp only [tl20,B0,B1,B2,List.replicate,Nat.reduceAdd,Nat.reduceSub,Nat.reduceLeDiff,Nat.reduceLT,Nat.reduceEqDiff,reduceCtorEq,Int.reduceEq,Int.reduceLT,Int.reduceLE,z_ops,z_nil,z_cons,z_guard,z_some,z_drop,z_do,z_not,z_not0,pairK,forall_eq_or_imp,stays,loadOf,List.reverse_cons,List.reverse_nil,List.mem_cons,List.not_mem_nil,or_false,forall_eq,true_or,or_true,Bool.true_and,intOfA,byteDat,Int.toNat_natCast,hlen,h0,h1,h6,h18,h20,h21,c1,p2,hw1,hw2,e0,hsk,b44,b41,e63,el,ee,v1,v2,v3]
     refine ⟨_, rfl, by simp only [List.length_set,hlen], ?_, by simp only [B3,Nat.reduceLT,Nat.reduceEqDiff,hlen]⟩
     intro j hj
     simp only [List.mem_cons,List.not_mem_nil,or_false] at hj
     rcases hj with rfl | rfl | rfl | rfl | rfl | rfl <;> simp only [B3,Nat.reduceLT,Nat.reduceEqDiff,hlen]
    ·have v4 : decide (c = 41) = false := by rw [of_decide_eq_true v1]; rfl
     simp only [v1,v2,v3,v4,Bool.and_true,Bool.and_false,Bool.true_and,Bool.false_and,Bool.or_true,Bool.or_false,Bool.true_or,Bool.false_or,if_true,Bool.false_eq_true,Bool.true_eq_false,if_false,false_and,and_false,true_and,false_or,or_false]
     simp only [tl20,B0,B1,B2,List.replicate,Nat.reduceAdd,Nat.reduceSub,Nat.reduceLeDiff,Nat.reduceLT,Nat.reduceEqDiff,reduceCtorEq,Int.reduceEq,Int.reduceLT,Int.reduceLE,z_ops,z_nil,z_cons,z_guard,z_some,z_drop,z_do,z_not,z_not0,pairK,forall_eq_or_imp,stays,loadOf,List.reverse_cons,List.reverse_nil,List.mem_cons,List.not_mem_nil,or_false,forall_eq,true_or,or_true,Bool.true_and,intOfA,byteDat,Int.toNat_natCast,hlen,h0,h1,h6,h18,h20,h21,c1,p2,hw1,hw2,e0,hsk,b44,b41,e63,el,ee,v1,v2,v3,v4,hN0]
     exact ⟨_, _, rfl, by simp only [List.length_set,hlen], hlow _, by simp only [B3,Nat.reduceLT,Nat.reduceEqDiff,hlen,h6], hz tm H, by simp only [B3,Nat.reduceLT,Nat.reduceEqDiff,hlen], by simp only [B3,Nat.reduceLT,Nat.reduceEqDiff,hlen]⟩
   ·rcases Bool.eq_false_or_eq_true (decide (i + 1 < pr.length)) with v3 | v3
    ·simp only [v1,v2,v3,Bool.and_true,Bool.and_false,Bool.true_and,Bool.false_and,Bool.or_true,Bool.or_false,Bool.true_or,Bool.false_or,if_true,Bool.false_eq_true,Bool.true_eq_false,if_false,false_and,and_false,true_and,false_or,or_false]
     simp only [tl20,B0,B1,B2,List.replicate,Nat.reduceAdd,Nat.reduceSub,Nat.reduceLeDiff,Nat.reduceLT,Nat.reduceEqDiff,reduceCtorEq,Int.reduceEq,Int.reduceLT,Int.reduceLE,z_ops,z_nil,z_cons,z_guard,z_some,z_drop,z_do,z_not,z_not0,pairK,forall_eq_or_imp,stays,loadOf,List.reverse_cons,List.reverse_nil,List.mem_cons,List.not_mem_nil,or_false,forall_eq,true_or,or_true,Bool.true_and,intOfA,byteDat,Int.toNat_natCast,hlen,h0,h1,h6,h18,h20,h21,c1,p2,hw1,hw2,e0,hsk,b44,b41,e63,el,ee,v1,v2,v3]
     refine ⟨_, rfl, by simp only [List.length_set,hlen], ?_, by simp only [B3,Nat.reduceLT,Nat.reduceEqDiff,hlen]⟩
     intro j hj
     simp only [List.mem_cons,List.not_mem_nil,or_false] at hj
     rcases hj with rfl | rfl | rfl | rfl | rfl | rfl <;> simp only [B3,Nat.reduceLT,Nat.reduceEqDiff,hlen]
    ·have v4 : decide (c = 41) = false := by rw [of_decide_eq_true v1]; rfl
     simp only [v1,v2,v3,v4,Bool.and_true,Bool.and_false,Bool.true_and,Bool.false_and,Bool.or_true,Bool.or_false,Bool.true_or,Bool.false_or,if_true,Bool.false_eq_true,Bool.true_eq_false,if_false,false_and,and_false,true_and,false_or,or_false]
     simp only [tl20,B0,B1,B2,List.replicate,Nat.reduceAdd,Nat.reduceSub,Nat.reduceLeDiff,Nat.reduceLT,Nat.reduceEqDiff,reduceCtorEq,Int.reduceEq,Int.reduceLT,Int.reduceLE,z_ops,z_nil,z_cons,z_guard,z_some,z_drop,z_do,z_not,z_not0,pairK,forall_eq_or_imp,stays,loadOf,List.reverse_cons,List.reverse_nil,List.mem_cons,List.not_mem_nil,or_false,forall_eq,true_or,or_true,Bool.true_and,intOfA,byteDat,Int.toNat_natCast,hlen,h0,h1,h6,h18,h20,h21,c1,p2,hw1,hw2,e0,hsk,b44,b41,e63,el,ee,v1,v2,v3,v4,hN0]
     exact ⟨_, _, rfl, by simp only [List.length_set,hlen], hlow _, by simp only [B3,Nat.reduceLT,Nat.reduceEqDiff,hlen,h6], hz tm H, by simp only [B3,Nat.reduceLT,Nat.reduceEqDiff,hlen], by simp only [B3,Nat.reduceLT,Nat.reduceEqDiff,hlen]⟩
  ·rcases Bool.eq_false_or_eq_true (decide (c = 41)) with v4 | v4
   ·rcases Bool.eq_false_or_eq_true (decide (pr = [108])) with v2 | v2
    ·simp only [v1,v2,v4,Bool.and_true,Bool.and_false,Bool.true_and,Bool.false_and,Bool.or_true,Bool.or_false,Bool.true_or,Bool.false_or,if_true,Bool.false_eq_true,Bool.true_eq_false,if_false,false_and,and_false,true_and,false_or,or_false]
     rcases hty with ⟨t1, t2, rfl⟩ | ⟨s, args, t1, rfl⟩ <;> rcases hva with ⟨rfl, t3⟩ | ⟨tok, rfl, t3⟩
     all_goals simp only [tl20,B0,B1,B2,List.replicate,Nat.reduceAdd,Nat.reduceSub,Nat.reduceLeDiff,Nat.reduceLT,Nat.reduceEqDiff,reduceCtorEq,Int.reduceEq,Int.reduceLT,Int.reduceLE,z_ops,z_nil,z_cons,z_guard,z_some,z_drop,z_do,z_not,z_not0,pairK,forall_eq_or_imp,stays,loadOf,List.reverse_cons,List.reverse_nil,List.mem_cons,List.not_mem_nil,or_false,forall_eq,true_or,or_true,Bool.true_and,intOfA,byteDat,Int.toNat_natCast,hlen,h0,h1,h6,h18,h20,h21,c1,p2,hw1,hw2,e0,hsk,b44,b41,e63,el,ee,v1,v2,v4,hN0,o1]
     ·exact ⟨_, _, rfl, by simp only [List.length_set,hlen], hlow _, by simp only [B3,Nat.reduceLT,Nat.reduceEqDiff,hlen,h6], ⟨_, _, _, hzN _, .inl ⟨t1, t2, rfl⟩, .inl ⟨rfl, t3⟩⟩, by simp only [B3,Nat.reduceLT,Nat.reduceEqDiff,hlen], by simp only [B3,Nat.reduceLT,Nat.reduceEqDiff,hlen]⟩
     ·exact ⟨_, _, rfl, by simp only [List.length_set,hlen], hlow _, by simp only [B3,Nat.reduceLT,Nat.reduceEqDiff,hlen,h6], ⟨_, _, _, hzN _, .inl ⟨t1, t2, rfl⟩, .inr ⟨tok, rfl, t3⟩⟩, by simp only [B3,Nat.reduceLT,Nat.reduceEqDiff,hlen], by simp only [B3,Nat.reduceLT,Nat.reduceEqDiff,hlen]⟩
     ·exact ⟨_, _, rfl, by simp only [List.length_set,hlen], hlow _, by simp only [B3,Nat.reduceLT,Nat.reduceEqDiff,hlen,h6], ⟨_, _, _, hzN _, .inr ⟨s, args, t1, rfl⟩, .inl ⟨rfl, t3⟩⟩, by simp only [B3,Nat.reduceLT,Nat.reduceEqDiff,hlen], by simp only [B3,Nat.reduceLT,Nat.reduceEqDiff,hlen]⟩
     ·exact ⟨_, _, rfl, by simp only [List.length_set,hlen], hlow _, by simp only [B3,Nat.reduceLT,Nat.reduceEqDiff,hlen,h6], ⟨_, _, _, hzN _, .inr ⟨s, args, t1, rfl⟩, .inr ⟨tok, rfl, t3⟩⟩, by simp only [B3,Nat.reduceLT,Nat.reduceEqDiff,hlen], by simp only [B3,Nat.reduceLT,Nat.reduceEqDiff,hlen]⟩
    ·rcases Bool.eq_false_or_eq_true (decide (i + 1 = pr.length)) with v3 | v3
     ·simp only [v1,v2,v3,v4,Bool.and_true,Bool.and_false,Bool.true_and,Bool.false_and,Bool.or_true,Bool.or_false,Bool.true_or,Bool.false_or,if_true,Bool.false_eq_true,Bool.true_eq_false,if_false,false_and,and_false,true_and,false_or,or_false]
      rcases hty with ⟨t1, t2, rfl⟩ | ⟨s, args, t1, rfl⟩ <;> rcases hva with ⟨rfl, t3⟩ | ⟨tok, rfl, t3⟩
      all_goals simp only [tl20,B0,B1,B2,List.replicate,Nat.reduceAdd,Nat.reduceSub,Nat.reduceLeDiff,Nat.reduceLT,Nat.reduceEqDiff,reduceCtorEq,Int.reduceEq,Int.reduceLT,Int.reduceLE,z_ops,z_nil,z_cons,z_guard,z_some,z_drop,z_do,z_not,z_not0,pairK,forall_eq_or_imp,stays,loadOf,List.reverse_cons,List.reverse_nil,List.mem_cons,List.not_mem_nil,or_false,forall_eq,true_or,or_true,Bool.true_and,intOfA,byteDat,Int.toNat_natCast,hlen,h0,h1,h6,h18,h20,h21,c1,p2,hw1,hw2,e0,hsk,b44,b41,e63,el,ee,v1,v2,v3,v4,hN0,o1]
      ·exact ⟨_, _, rfl, by simp only [List.length_set,hlen], hlow _, by simp only [B3,Nat.reduceLT,Nat.reduceEqDiff,hlen,h6], ⟨_, _, _, hzN _, .inl ⟨t1, t2, rfl⟩, .inl ⟨rfl, t3⟩⟩, by simp only [B3,Nat.reduceLT,Nat.reduceEqDiff,hlen], by simp only [B3,Nat.reduceLT,Nat.reduceEqDiff,hlen]⟩
      ·exact ⟨_, _, rfl, by simp only [List.length_set,hlen], hlow _, by simp only [B3,Nat.reduceLT,Nat.reduceEqDiff,hlen,h6], ⟨_, _, _, hzN _, .inl ⟨t1, t2, rfl⟩, .inr ⟨tok, rfl, t3⟩⟩, by simp only [B3,Nat.reduceLT,Nat.reduceEqDiff,hlen], by simp only [B3,Nat.reduceLT,Nat.reduceEqDiff,hlen]⟩
      ·exact ⟨_, _, rfl, by simp only [List.length_set,hlen], hlow _, by simp only [B3,Nat.reduceLT,Nat.reduceEqDiff,hlen,h6], ⟨_, _, _, hzN _, .inr ⟨s, args, t1, rfl⟩, .inl ⟨rfl, t3⟩⟩, by simp only [B3,Nat.reduceLT,Nat.reduceEqDiff,hlen], by simp only [B3,Nat.reduceLT,Nat.reduceEqDiff,hlen]⟩
      ·exact ⟨_, _, rfl, by simp only [List.length_set,hlen], hlow _, by simp only [B3,Nat.reduceLT,Nat.reduceEqDiff,hlen,h6], ⟨_, _, _, hzN _, .inr ⟨s, args, t1, rfl⟩, .inr ⟨tok, rfl, t3⟩⟩, by simp only [B3,Nat.reduceLT,Nat.reduceEqDiff,hlen], by simp only [B3,Nat.reduceLT,Nat.reduceEqDiff,hlen]⟩
     ·simp only [v1,v2,v3,v4,Bool.and_true,Bool.and_false,Bool.true_and,Bool.false_and,Bool.or_true,Bool.or_false,Bool.true_or,Bool.false_or,if_true,Bool.false_eq_true,Bool.true_eq_false,if_false,false_and,and_false,true_and,false_or,or_false]
      simp only [tl20,B0,B1,B2,List.replicate,Nat.reduceAdd,Nat.reduceSub,Nat.reduceLeDiff,Nat.reduceLT,Nat.reduceEqDiff,reduceCtorEq,Int.reduceEq,Int.reduceLT,Int.reduceLE,z_ops,z_nil,z_cons,z_guard,z_some,z_drop,z_do,z_not,z_not0,pairK,forall_eq_or_imp,stays,loadOf,List.reverse_cons,List.reverse_nil,List.mem_cons,List.not_mem_nil,or_false,forall_eq,true_or,or_true,Bool.true_and,intOfA,byteDat,Int.toNat_natCast,hlen,h0,h1,h6,h18,h20,h21,c1,p2,hw1,hw2,e0,hsk,b44,b41,e63,el,ee,v1,v2,v3,v4,hN0]
      exact ⟨_, _, rfl, by simp only [List.length_set,hlen], hlow _, by simp only [B3,Nat.reduceLT,Nat.reduceEqDiff,hlen,h6], hz tm H, by simp only [B3,Nat.reduceLT,Nat.reduceEqDiff,hlen], by simp only [B3,Nat.reduceLT,Nat.reduceEqDiff,hlen]⟩
   ·simp only [v1,v4,Bool.and_true,Bool.and_false,Bool.true_and,Bool.false_and,Bool.or_true,Bool.or_false,Bool.true_or,Bool.false_or,if_true,Bool.false_eq_true,Bool.true_eq_false,if_false,false_and,and_false,true_and,false_or,or_false]
    simp only [tl20,B0,B1,B2,List.replicate,Nat.reduceAdd,Nat.reduceSub,Nat.reduceLeDiff,Nat.reduceLT,Nat.reduceEqDiff,reduceCtorEq,Int.reduceEq,Int.reduceLT,Int.reduceLE,z_ops,z_nil,z_cons,z_guard,z_some,z_drop,z_do,z_not,z_not0,pairK,forall_eq_or_imp,stays,loadOf,List.reverse_cons,List.reverse_nil,List.mem_cons,List.not_mem_nil,or_false,forall_eq,true_or,or_true,Bool.true_and,intOfA,byteDat,Int.toNat_natCast,hlen,h0,h1,h6,h18,h20,h21,c1,p2,hw1,hw2,e0,hsk,b44,b41,e63,el,ee,v1,v4,hN0]
    exact ⟨_, _, rfl, by simp only [List.length_set,hlen], hlow _, by simp only [B3,Nat.reduceLT,Nat.reduceEqDiff,hlen,h6], hz tm H, by simp only [B3,Nat.reduceLT,Nat.reduceEqDiff,hlen], by simp only [B3,Nat.reduceLT,Nat.reduceEqDiff,hlen]⟩
 ·have e0 : decide ((a : Int) < (b.length : Int)) = false := decide_eq_false (by omega)
  have hc0 : c = 0 := Classical.byContradiction fun h => hlt (hpl h)
  have v1 : decide (c = 44) = false := by rw [hc0]; rfl
  have v4 : decide (c = 41) = false := by rw [hc0]; rfl
  simp only [v1,v4,Bool.and_true,Bool.and_false,Bool.true_and,Bool.false_and,Bool.or_true,Bool.or_false,Bool.true_or,Bool.false_or,if_true,Bool.false_eq_true,Bool.true_eq_false,if_false,false_and,and_false,true_and,false_or,or_false]
  simp only [tl20,B0,B1,B2,List.replicate,Nat.reduceAdd,Nat.reduceSub,Nat.reduceLeDiff,Nat.reduceLT,Nat.reduceEqDiff,reduceCtorEq,Int.reduceEq,Int.reduceLT,Int.reduceLE,z_ops,z_nil,z_cons,z_guard,z_some,z_drop,z_do,z_not,z_not0,pairK,forall_eq_or_imp,stays,loadOf,List.reverse_cons,List.reverse_nil,List.mem_cons,List.not_mem_nil,or_false,forall_eq,true_or,or_true,Bool.true_and,intOfA,byteDat,Int.toNat_natCast,hlen,h0,h1,h6,h18,h20,h21,c1,p2,hw1,hw2,e0,hN0]
  exact ⟨_, _, rfl, by simp only [List.length_set,hlen], hlow _, by simp only [B3,Nat.reduceLT,Nat.reduceEqDiff,hlen,h6], hz tm H, by simp only [B3,Nat.reduceLT,Nat.reduceEqDiff,hlen], by simp only [B3,Nat.reduceLT,Nat.reduceEqDiff,hlen]⟩
end Go.Abs.Seat
end
section
set_option linter.unusedVariables false
set_option linter.unusedSimpArgs false
namespace Go.Abs.Seat
open Go.Proofs
theorem did20_elim {R : Type} {b w : List UInt8} {N : Nat} {tm : List AV} {H : Heap} {K : AEx → List AV → Heap → Option R} {o : Option R} {r : St × Nat × Bool} {P : Option R → Prop} (h : Did20 b w N tm H K o r)
  (h1 : ∀ tm' H', r.2.2 = true → tm'.length = 287 → Low N H H' → tm'.getD 6 undefA = .ptr N 0 0 → H'[N]? = some zO → tm'.getD 7 undefA = .im (.int .i64 (r.2.1 : Int)) → tm'.getD 8 undefA = .im (.bool false) → P (K .ret tm' H'))
  (h2 : ∀ tm' H', r.2.2 = false → tm'.length = 287 → Regs [0, 2, 6, 18, 20, 21] tm tm' → Low (N + 1) H H' → NodeAt 37 (N + 2) (N + 1) w r.1 H' → tm'.getD 1 undefA = .im (.int .i64 (r.2.1 : Int)) → P (K .normal tm' H')) : P o := by
 rcases h with ⟨a, tm', H', rfl, a1, a2, a3, a4, a5, a6⟩ | ⟨a, tm', H', rfl, a1, a2, a3, a4, a5⟩
 ·exact h1 tm' H' a a1 a2 a3 a4 a5 a6
 ·exact h2 tm' H' a a1 a2 a3 a4 a5
theorem tail20_elim {R : Type} {b w pr : List UInt8} {N i q : Nat} {st : St} {tm : List AV} {H : Heap} {K : AEx → List AV → Heap → Option R} {o : Option R} {P : Option R → Prop} (h : Tail20 b w pr N i q st tm H K o)
  (h1 : ∀ tm', more20 b pr i q = true → tm'.length = 287 → Regs [0, 2, 6, 18, 20, 21] tm tm' → tm'.getD 1 undefA = .im (.int .i64 ((skipB b q : Nat) : Int)) → P (K (.exit 1) tm' H))
  (h2 : ∀ tm' H', more20 b pr i q = false → fin20 b pr i q = true → tm'.length = 287 → Low N H H' → tm'.getD 6 undefA = .ptr N 0 0 → ResAt N w st H' → tm'.getD 7 undefA = .im (.int .i64 ((skipB b q + 1 : Nat) : Int)) → tm'.getD 8 undefA = .im (.bool true) → P (K .ret tm' H'))
  (h3 : ∀ tm' H', more20 b pr i q = false → fin20 b pr i q = false → tm'.length = 287 → Low N H H' → tm'.getD 6 undefA = .ptr N 0 0 → ResAt N [] (0, zeroT, []) H' → tm'.getD 7 undefA = .im (.int .i64 ((skipB b q : Nat) : Int)) → tm'.getD 8 undefA = .im (.bool false) → P (K .ret tm' H')) : P o := by
 rcases h with ⟨a, tm', rfl, a1, a2, a3⟩ | ⟨a, a', tm', H', rfl, a1, a2, a3, a4, a5, a6⟩ | ⟨a, a', tm', H', rfl, a1, a2, a3, a4, a5, a6⟩
 ·exact h1 tm' a a1 a2 a3
 ·exact h2 tm' H' a a' a1 a2 a3 a4 a5 a6
 ·exact h3 tm' H' a a' a1 a2 a3 a4 a5 a6
def finX (b : List UInt8) (r : St × Nat × Bool) : Nat × Bool := if r.2.2 = true then (r.2.1, true) else signP b r.2.1 false 41
def Over20 (b w : List UInt8) (N : Nat) (H : Heap) (r : St × Nat × Bool) (e : AEx) (tm' : List AV) (H' : Heap) : Prop :=
 e = .ret ∧ tm'.length = 287 ∧ Low N H H' ∧ tm'.getD 6 undefA = .ptr N 0 0 ∧ tm'.getD 7 undefA = .im (.int .i64 ((finX b r).1 : Int)) ∧ tm'.getD 8 undefA = .im (.bool (!(finX b r).2)) ∧ ∃ w' st', ResAt N w' st' H' ∧ ((finX b r).2 = false → w' = w ∧ st' = r.1)
theorem Over20.before {b w : List UInt8} {N : Nat} {H H0 : Heap} {r : St × Nat × Bool} {e : AEx} {tm' : List AV} {H' : Heap} (h : Over20 b w N H r e tm' H') (hh : Low N H0 H) : Over20 b w N H0 r e tm' H' :=
 ⟨h.1, h.2.1, hh.trans h.2.2.1, h.2.2.2⟩
theorem sign_yes {b : List UInt8} {q : Nat} {c : UInt8} (h : peekB b (skipB b q) = c) : signP b q false c = (skipB b q + 1, false) := by
 unfold signP
 simp only [Bool.false_eq_true,if_false,if_pos h]
theorem sign_no {b : List UInt8} {q : Nat} {c : UInt8} (h : peekB b (skipB b q) ≠ c) : signP b q false c = (skipB b q, true) := by
 unfold signP
 simp only [Bool.false_eq_true,if_false,if_neg h]
theorem go_nil (rd : Nat → NT × Nat × Bool) (b : List UInt8) (lst : Bool) (f : Nat) (mark : UInt8) (st : St) (p : Nat) : goX rd b lst f mark [] st p = (st, p, false) := by cases f <;> rfl
theorem C20_elim {ps : List UInt8} (hp108 : ps ≠ [108]) {i : Nat} {c' : UInt8} (hcl : ps = [43] ∧ c' = 101 ∨ ps ≠ [43] ∧ ps[i]? = some c') {tm : List AV} {H : Heap} (hlen : tm.length = 287) (h18 : tm.getD 18 undefA = .im (.str (partR ps))) (h21 : tm.getD 21 undefA = .im (.int .i64 (i : Int))) (h22 : tm.getD 22 undefA = .im (.int .u8 101))
  {R : Type} {K : AEx → List AV → Heap → Option R} {P : Option R → Prop} (hP : ∀ tm', tm'.length = 287 → Regs [0, 1, 2, 6, 18, 20, 21] tm tm' → tm'.getD 22 undefA = .im (.int .u8 (c'.toNat : Int)) → P (K .normal tm' H)) : P (exec0 L Λ C20 tm H K) := by
 have p2 : (0 : Int) ≤ (i : Int) := Int.natCast_nonneg i
 rcases hcl with ⟨rfl, rfl⟩ | ⟨h1, h2⟩
 ·have e : partR [43] = [108] := rfl
  rw [e] at h18
  have e1 : decide (([108] : List UInt8) = [108]) = true := rfl
  have e2 : ((101 : UInt8).toNat : Int) = 101 := rfl
  simp only [C20,B0,B1,B2,List.replicate,Nat.reduceAdd,Nat.reduceSub,Nat.reduceLeDiff,Nat.reduceLT,Nat.reduceEqDiff,reduceCtorEq,Int.reduceEq,Int.reduceLT,Int.reduceLE,lenA,hlen,h18,h21,e1]
  refine hP _ (by simp only [List.length_set,hlen]) ?_ (by simp only [B3,Nat.reduceLT,Nat.reduceEqDiff,hlen,h22,e2])
  intro j hj
  simp only [List.mem_cons,List.not_mem_nil,or_false] at hj
  rcases hj with rfl | rfl | rfl | rfl | rfl | rfl | rfl <;> simp only [B3,Nat.reduceLT,Nat.reduceEqDiff,hlen]
 ·have e : partR ps = ps := if_neg h1
  rw [e] at h18
  have e1 : decide (ps = [108]) = false := decide_eq_false hp108
  simp only [C20,B0,B1,B2,List.replicate,Nat.reduceAdd,Nat.reduceSub,Nat.reduceLeDiff,Nat.reduceLT,Nat.reduceEqDiff,reduceCtorEq,Int.reduceEq,Int.reduceLT,Int.reduceLE,lenA,intOfA,byteDat,Int.toNat_natCast,hlen,h18,h21,e1,p2,h2]
  refine hP _ (by simp only [List.length_set,hlen]) ?_ (by simp only [B3,Nat.reduceLT,Nat.reduceEqDiff,hlen])
  intro j hj
  simp only [List.mem_cons,List.not_mem_nil,or_false] at hj
  rcases hj with rfl | rfl | rfl | rfl | rfl | rfl | rfl <;> simp only [B3,Nat.reduceLT,Nat.reduceEqDiff,hlen]
set_option maxHeartbeats 1000000 in
theorem l20 (b : List UInt8) (hb : b.length ≤ 2305843009213693952) (N : Nat) (w ps : List UInt8) (hps : ps.length ≤ 5) (hp108 : ps ≠ [108]) (d d' : Int) (hd : IntKind.i64.wrap (d - 1) = d') (rd : Nat → NT × Nat × Bool) (hrdl : ∀ p, p ≤ b.length → (rd p).2.1 ≤ b.length)
  (hcall : ∀ c ∈ ps, isE c = true → ∀ (p : Nat) (H : Heap), p ≤ b.length → ∃ nd, L 20 [.im (.str b), .im (.int .i64 ((skipB b p : Nat) : Int)), .im (.int .i64 d')] H = some (.tup [.im (.agg (encN nd)), .im (.int .i64 ((rd p).2.1 : Int)), .im (.bool (!(rd p).2.2))], H) ∧ ((rd p).2.2 = false → nd = (rd p).1)) :
  ∀ (f : Nat) (mark : UInt8) (i : Nat) (c : UInt8) (cs : List UInt8) (st : St) (p a : Nat) (tm : List AV) (H : Heap), signP b p false mark = (a + 1, false) → a < b.length → (ps = [43] ∧ c :: cs = [43] ∧ i = st.2.2.length ∧ i < 64 ∨ ps ≠ [43] ∧ ps.drop i = c :: cs ∧ st.2.2.length ≤ i) → (c :: cs).length + (64 - st.2.2.length) ≤ f →
   tm.length = 287 → tm.getD 0 undefA = .im (.str b) → tm.getD 1 undefA = .im (.int .i64 (a : Int)) → tm.getD 2 undefA = .im (.int .i64 d) → tm.getD 6 undefA = .ptr N 0 0 → tm.getD 18 undefA = .im (.str (partR ps)) → tm.getD 20 undefA = .ptr (N + 1) 0 0 → tm.getD 21 undefA = .im (.int .i64 (i : Int)) →
   H[N]? = some zO → NodeAt 37 (N + 2) (N + 1) w st H → N + 2 ≤ H.length →
   ∃ e tm' H', Λ c20_0 tm H = some (e, tm', H') ∧ Over20 b w N H (goX rd b (decide (ps = [43])) f mark (c :: cs) st p) e tm' H'
 | 0, mark, i, c, cs, st, p, a, tm, H, hsg, ha, hix, hf, hlen, h0, h1, h2, h6, h18, h20, h21, hN0, hnd, hN => by simp at hf
 | f + 1, mark, i, c, cs, st, p, a, tm, H, hsg, ha, hix, hf, hlen, h0, h1, h2, h6, h18, h20, h21, hN0, hnd, hN => by
  obtain ⟨c', hc', hcl', hstl, hil⟩ : ∃ c', itemX rd b c' = itemX rd b c ∧ (ps = [43] ∧ c' = 101 ∨ ps ≠ [43] ∧ ps[i]? = some c' ∧ c' = c) ∧ st.2.2.length ≤ 100 ∧ i ≤ 64 := by
   rcases hix with ⟨h1, h2, h3, h4⟩ | ⟨h1, h2, h3⟩
   ·injection h2 with h2 h2'
    exact ⟨101, by rw [h2]; rfl, .inl ⟨h1, rfl⟩, by omega, by omega⟩
   ·have hil : i < ps.length := by
     rcases Nat.lt_or_ge i ps.length with h | h
     ·exact h
     ·rw [List.drop_of_length_le h] at h2; simp at h2
    have hci : ps[i]? = some c := by
     have := List.getElem?_drop (xs := ps) (i := i) (j := 0)
     rw [h2] at this; simpa using this.symm
    exact ⟨c, rfl, .inr ⟨h1, hci, rfl⟩, by omega, by omega⟩
  have hcm : isE c' = true → ∃ c ∈ ps, isE c = true := fun h => by
   rcases hcl' with ⟨h1, h2⟩ | ⟨h1, h2, h3⟩
   ·exact ⟨43, by rw [h1]; simp, by decide⟩
   ·exact ⟨c', List.mem_of_getElem? h2, h⟩
  have hcall' : isE c' = true → ∀ (H : Heap), ∃ nd, L 20 [.im (.str b), .im (.int .i64 ((skipB b (a + 1) : Nat) : Int)), .im (.int .i64 d')] H = some (.tup [.im (.agg (encN nd)), .im (.int .i64 ((rd (a + 1)).2.1 : Int)), .im (.bool (!(rd (a + 1)).2.2))], H) ∧ ((rd (a + 1)).2.2 = false → nd = (rd (a + 1)).1) := fun h H => by
   obtain ⟨c, h1, h2⟩ := hcm h
   exact hcall c h1 h2 (a + 1) H (by omega)
  have c1 := fun H => s21 b (a + 1) (by omega) (by omega) H
  have hwr := wrap_nat (i := a) (by omega)
  have hkd := item_kids rd b c st (a + 1)
  have hkd2 := item_kids2 rd b c st (a + 1)
  have hkd3 := item_kids3 rd b c st (a + 1)
  have hil2 := item_len hrdl c st (p := a + 1) (by omega)
  have ih := fun i' c2 cs2 st1 p1 a1 tm1 H1 h1 h2 h3 h4 => l20 b hb N w ps hps hp108 d d' hd rd hrdl hcall f 44 i' c2 cs2 st1 p1 a1 tm1 H1 h1 h2 h3 h4
  have hD := fun (tmX : List AV) a0 a1 a2 a6 a20 a22 (K : AEx → List AV → Heap → Option Out) hl => sw20_all b hb N w c' rd d d' hd (a + 1) (by omega) st hstl tmX H hl a0 a1 a2 a6 a20 a22 hN0 hnd hN (fun h => hcall' h H) K
  rw [hc'] at hD
  generalize hR : goX rd b (decide (ps = [43])) (f + 1) mark (c :: cs) st p = r
  unfold goX at hR
  rw [hsg] at hR
  simp only [Bool.false_eq_true,if_false] at hR
  generalize itemX rd b c st (a + 1) = it at *
  obtain ⟨stx, qx, bx⟩ := it
  simp only at hkd hkd2 hkd3 hil2 hR
  have hpr5 : (partR ps).length ≤ 5 := by
   unfold partR
   split
   ·simp
   ·exact hps
  have htl := fun (tm1 : List AV) (H1 : Heap) l a0 a1 a6 a18 a20 a21 o n (K : AEx → List AV → Heap → Option Out) => tl20_all b hb N w (partR ps) hpr5 i (by omega) qx hil2 stx tm1 H1 l a0 a1 a6 a18 a20 a21 o n K
  have hcl2 : ps = [43] ∧ c' = 101 ∨ ps ≠ [43] ∧ ps[i]? = some c' := by
   rcases hcl' with ⟨h1, h2⟩ | ⟨h1, h2, h3⟩
   ·exact .inl ⟨h1, h2⟩
   ·exact .inr ⟨h1, h2⟩
  rw [l20_0, cut20]
  simp only [A20,B20,B0,B1,B2,List.replicate,Nat.reduceAdd,Nat.reduceSub,Nat.reduceLeDiff,Nat.reduceLT,Nat.reduceEqDiff,reduceCtorEq,Int.reduceEq,Int.reduceLT,Int.reduceLE,lenA,hlen,h0,h1,hwr,c1]
  refine C20_elim (P := fun o => ∃ e tm' H', o = some (e, tm', H') ∧ Over20 b w N H r e tm' H') hp108 hcl2 ?_ ?_ ?_ ?_ ?_
  ·simp only [List.length_set,hlen]
  iterate 3 simp only [B3,Nat.reduceLT,Nat.reduceEqDiff,hlen,h18,h21]
  intro tm1 l1 r1 e22
  have a0 := r1 0 (by simp)
  have a1 := r1 1 (by simp)
  have a2 := r1 2 (by simp)
  have a6 := r1 6 (by simp)
  have a18 := r1 18 (by simp)
  have a20 := r1 20 (by simp)
  have a21 := r1 21 (by simp)
  simp only [B3,Nat.reduceLT,Nat.reduceEqDiff,hlen,h0] at a0
  simp only [B3,Nat.reduceLT,Nat.reduceEqDiff,hlen] at a1
  simp only [B3,Nat.reduceLT,Nat.reduceEqDiff,hlen,h2] at a2
  simp only [B3,Nat.reduceLT,Nat.reduceEqDiff,hlen,h6] at a6
  simp only [B3,Nat.reduceLT,Nat.reduceEqDiff,hlen,h18] at a18
  simp only [B3,Nat.reduceLT,Nat.reduceEqDiff,hlen,h20] at a20
  simp only [B3,Nat.reduceLT,Nat.reduceEqDiff,hlen,h21] at a21
  clear r1
  simp only [k_normal]
  simp only [x_seq]
  refine did20_elim (P := fun o => ∃ e tm' H', o = some (e, tm', H') ∧ Over20 b w N H r e tm' H') (hD tm1 a0 a1 a2 a6 a20 e22 _ l1) ?_ ?_
  ·intro tm2 H2 hbx l2 hlow2 b6 bN b7 b8
   simp only at hbx b7
   subst hbx
   rw [if_pos rfl] at hR
   subst hR
   simp only [B0,B1,B2,List.replicate,Nat.reduceAdd,Nat.reduceSub,Nat.reduceLeDiff,Nat.reduceLT,Nat.reduceEqDiff,reduceCtorEq,Int.reduceEq,Int.reduceLT,Int.reduceLE,lenA]
   exact ⟨_, _, _, rfl, rfl, l2, hlow2, b6, b7, b8, [], _, res_zero bN, fun h => by simp [finX] at h⟩
  ·intro tm2 H2 hbx l2 r2 hlow2 n2 b1
   simp only at hbx b1 n2
   subst hbx
   rw [if_neg (by simp)] at hR
   have d0 := (r2 0 (by simp)).trans a0
   have d2 := (r2 2 (by simp)).trans a2
   have d6 := (r2 6 (by simp)).trans a6
   have d18 := (r2 18 (by simp)).trans a18
   have d20 := (r2 20 (by simp)).trans a20
   have d21 := (r2 21 (by simp)).trans a21
   have dN : H2[N]? = some zO := (hlow2.2 N (by omega)).trans hN0
   have hlow2' : Low N H H2 := hlow2.le (by omega)
   simp only [k_normal]
   refine tail20_elim (P := fun o => ∃ e tm' H', o = some (e, tm', H') ∧ Over20 b w N H r e tm' H') (htl tm2 H2 l2 d0 b1 d6 d18 d20 d21 dN n2 _) ?_ ?_ ?_
   ·intro tm3 hm l3 r3 e1
    have f0 := (r3 0 (by simp)).trans d0
    have f2 := (r3 2 (by simp)).trans d2
    have f6 := (r3 6 (by simp)).trans d6
    have f18 := (r3 18 (by simp)).trans d18
    have f20 := (r3 20 (by simp)).trans d20
    have f21 := (r3 21 (by simp)).trans d21
    unfold more20 at hm
    simp only [Bool.and_eq_true,decide_eq_true_eq] at hm
    obtain ⟨hm1, hm2⟩ := hm
    have hlt : skipB b qx < b.length := peek_lt (by rw [hm1]; decide)
    have hwi := wrap_nat (i := i) (by omega)
    simp only [I20,B0,B1,B2,List.replicate,Nat.reduceAdd,Nat.reduceSub,Nat.reduceLeDiff,Nat.reduceLT,Nat.reduceEqDiff,reduceCtorEq,Int.reduceEq,Int.reduceLT,Int.reduceLE,lenA,l3,f21,hwi]
    rcases hix with ⟨h1, h2, h3, h4⟩ | ⟨h1, h2, h3⟩
    ·have hkid : stx.2.2.length = st.2.2.length + 1 := hkd3 (by injection h2)
     rw [if_pos (by rw [h1]; rfl)] at hm2
     have hm2 := of_decide_eq_true hm2
     have hmx : moreX b (decide (ps = [43])) stx qx = true := by
      unfold moreX
      rw [decide_eq_true h1, decide_eq_true hm1, decide_eq_true (show stx.2.2.length < 64 by omega)]; rfl
     rw [hmx, if_pos rfl] at hR
     subst hR
     refine ex_imp (ih (i + 1) c cs stx qx (skipB b qx) _ H2 (sign_yes hm1) hlt (.inl ⟨h1, h2, by omega, by omega⟩) (by simp only [List.length_cons] at hf ⊢; omega) ?_ ?_ ?_ ?_ ?_ ?_ ?_ ?_ dN n2 (by have := hlow2.1; omega)) fun _ _ _ h => h.before hlow2'
     ·simp only [List.length_set,l3]
     all_goals simp only [B3,Nat.reduceLT,Nat.reduceEqDiff,l3,f0,e1,f2,f6,f18,f20]
    ·rw [if_neg (by rw [show partR ps = ps from if_neg h1]; simpa using hp108), show partR ps = ps from if_neg h1] at hm2
     have hm2 := of_decide_eq_true hm2
     have hmx : moreX b (decide (ps = [43])) stx qx = false := by
      unfold moreX
      rw [decide_eq_false h1]; rfl
     rw [hmx, if_neg (by simp)] at hR
     have hcs : ps.drop (i + 1) = cs := by rw [← List.drop_drop, h2]; rfl
     cases cs with
     | nil => rw [List.drop_eq_nil_iff] at hcs; omega
     | cons c2 cs2 =>
      subst hR
      refine ex_imp (ih (i + 1) c2 cs2 stx qx (skipB b qx) _ H2 (sign_yes hm1) hlt (.inr ⟨h1, hcs, by omega⟩) (by simp only [List.length_cons] at hf ⊢; omega) ?_ ?_ ?_ ?_ ?_ ?_ ?_ ?_ dN n2 (by have := hlow2.1; omega)) fun _ _ _ h => h.before hlow2'
      ·simp only [List.length_set,l3]
      all_goals simp only [B3,Nat.reduceLT,Nat.reduceEqDiff,l3,f0,e1,f2,f6,f18,f20]
   ·intro tm3 H3 hm hfi l3 hlow3 f6 fR f7 f8
    unfold fin20 at hfi
    simp only [Bool.and_eq_true,Bool.or_eq_true,decide_eq_true_eq] at hfi
    obtain ⟨hf1, hf2⟩ := hfi
    have hmx : moreX b (decide (ps = [43])) stx qx = false := by
     unfold moreX
     rw [hf1]; simp
    rw [hmx, if_neg (by simp)] at hR
    have hcs : cs = [] := by
     rcases hix with ⟨h1, h2, h3, h4⟩ | ⟨h1, h2, h3⟩
     ·injection h2
     ·rw [show partR ps = ps from if_neg h1] at hf2
      have hl : i + 1 = ps.length := by
       rcases hf2 with h | h
       ·exact absurd h hp108
       ·exact h
      have hcs : ps.drop (i + 1) = cs := by rw [← List.drop_drop, h2]; rfl
      rw [← hcs]; exact List.drop_of_length_le (by omega)
    rw [hcs, go_nil] at hR
    subst hR
    have hfx : finX b (stx, qx, false) = (skipB b qx + 1, false) := by unfold finX; rw [if_neg (by simp)]; exact sign_yes hf1
    simp only [B0,B1,B2,List.replicate,Nat.reduceAdd,Nat.reduceSub,Nat.reduceLeDiff,Nat.reduceLT,Nat.reduceEqDiff,reduceCtorEq,Int.reduceEq,Int.reduceLT,Int.reduceLE,lenA]
    exact ⟨_, _, _, rfl, rfl, l3, hlow2'.trans hlow3, f6, by rw [hfx]; exact f7, by rw [hfx]; exact f8, w, stx, fR, fun _ => ⟨rfl, rfl⟩⟩
   ·intro tm3 H3 hm hfi l3 hlow3 f6 fR f7 f8
    have hfin : finX b r = (skipB b qx, true) := by
     rcases hix with ⟨h1, h2, h3, h4⟩ | ⟨h1, h2, h3⟩
     ·have hkid : stx.2.2.length = st.2.2.length + 1 := hkd3 (by injection h2)
      have hcs : cs = [] := by injection h2
      have hpr : partR ps = [108] := if_pos h1
      unfold fin20 at hfi
      unfold more20 at hm
      rw [hpr] at hm hfi
      simp only [decide_true,if_true,Bool.true_or,Bool.and_true] at hm hfi
      have h41 := of_decide_eq_false hfi
      have hmx : moreX b (decide (ps = [43])) stx qx = false := by
       unfold moreX
       rw [Bool.and_comm] at hm
       rw [show decide (stx.2.2.length < 64) = decide (i < 63) from by
        by_cases h : i < 63
        ·rw [decide_eq_true h, decide_eq_true (by omega)]
        ·rw [decide_eq_false h, decide_eq_false (by omega)], hm, Bool.and_false]
      rw [hmx, if_neg (by simp), hcs, go_nil] at hR
      subst hR
      unfold finX
      rw [if_neg (by simp)]
      exact sign_no h41
     ·have hmx : moreX b (decide (ps = [43])) stx qx = false := by
       unfold moreX
       rw [decide_eq_false h1]; rfl
      rw [hmx, if_neg (by simp)] at hR
      have hcs : ps.drop (i + 1) = cs := by rw [← List.drop_drop, h2]; rfl
      have hpr : partR ps = ps := if_neg h1
      unfold fin20 at hfi
      unfold more20 at hm
      rw [hpr, decide_eq_false hp108] at hm hfi
      simp only [Bool.false_eq_true,if_false,Bool.false_or] at hm hfi
      cases cs with
      | nil =>
       rw [go_nil] at hR
       subst hR
       unfold finX
       rw [if_neg (by simp)]
       have hl := List.drop_eq_nil_iff.1 hcs
       have hil : i < ps.length := by
        rcases Nat.lt_or_ge i ps.length with h | h
        ·exact h
        ·rw [List.drop_of_length_le h] at h2; simp at h2
       rw [decide_eq_true (show i + 1 = ps.length by omega), Bool.and_true] at hfi
       exact sign_no (of_decide_eq_false hfi)
      | cons c2 cs2 =>
       have hl : i + 1 < ps.length := by
        rcases Nat.lt_or_ge (i + 1) ps.length with h | h
        ·exact h
        ·rw [List.drop_of_length_le h] at hcs; simp at hcs
       rw [decide_eq_true hl, Bool.and_true] at hm
       cases f with
       | zero => simp only [List.length_cons] at hf; omega
       | succ f =>
        unfold goX at hR
        rw [sign_no (of_decide_eq_false hm), if_pos rfl] at hR
        subst hR
        rfl
    simp only [B0,B1,B2,List.replicate,Nat.reduceAdd,Nat.reduceSub,Nat.reduceLeDiff,Nat.reduceLT,Nat.reduceEqDiff,reduceCtorEq,Int.reduceEq,Int.reduceLT,Int.reduceLE,lenA]
    exact ⟨_, _, _, rfl, rfl, l3, hlow2'.trans hlow3, f6, by rw [hfin]; exact f7, by rw [hfin]; exact f8, [], _, fR, fun h => by rw [hfin] at h; simp at h⟩
end Go.Abs.Seat
end
section
set_option linter.unusedVariables false
set_option linter.unusedSimpArgs false
namespace Go.Abs.Seat
open Go.Proofs
theorem endK_20 {H H' : Heap} {tm : List AV} {w : List UInt8} {st : St} {x : Int} {bad : Bool} (h6 : tm.getD 6 undefA = .ptr H.length 0 0) (hr : ResAt H.length w st H') (h7 : tm.getD 7 undefA = .im (.int .i64 x)) (h8 : tm.getD 8 undefA = .im (.bool bad)) (hl : Low H.length H H') :
  endK f20 H .ret tm H' = some (.tup [.im (.agg (encN (mkN w st.1 [] st.2.1 st.2.2))), .im (.int .i64 x), .im (.bool bad)], H) := by
 obtain ⟨k, y, v, hN, hy, hv⟩ := hr
 have hd := node_deg (w := w) (i := st.1) hy hv
 have hd1 : degrade1 (.agg [.im (.str w), .im (.int .i64 st.1), .im (.str []), .im (.int .i64 k), y, v]) = .im (.agg (encN (mkN w st.1 [] st.2.1 st.2.2))) := by
  unfold degrade at hd
  unfold degrade1
  cases ht : toDat (.agg [.im (.str w), .im (.int .i64 st.1), .im (.str []), .im (.int .i64 k), y, v]) with
  | some d => rw [ht] at hd; exact hd
  | none => rw [ht] at hd; simp at hd
 have hfr : f20.results = [(6, some (some 6)), (7, none), (8, none)] := rfl
 have hfk : f20.keep = false := rfl
 have hr := leave_low (H := H) (H' := H') (r := .tup [.agg [.im (.str w), .im (.int .i64 st.1), .im (.str []), .im (.int .i64 k), y, v], .im (.int .i64 x), .im (.bool bad)]) (r' := .tup [.im (.agg (encN (mkN w st.1 [] st.2.1 st.2.2))), .im (.int .i64 x), .im (.bool bad)]) (by simp only [degrade,toDat,List.map_cons,List.map_nil,hd1]; rfl) (by simp [refsLt, refsLts]) hl.1 hl.2
 rcases hy with ⟨h1, rfl, rfl⟩ | ⟨s, args, h1, rfl⟩ <;> rcases hv with ⟨rfl, h2⟩ | ⟨tok, rfl, hne⟩
 all_goals
  simp only [endK,hfr,hfk,B0,B1,B2,List.replicate,Nat.reduceAdd,Nat.reduceSub,Nat.reduceLeDiff,Nat.reduceLT,Nat.reduceEqDiff,reduceCtorEq,Int.reduceEq,Int.reduceLT,Int.reduceLE,lenA,resA,tupA,h6,h7,h8,hN]
  rw [hr]
theorem strP_of {b : List UInt8} {p : Nat} {t : List UInt8} {q : Nat} {bad : Bool} (h : strN b (b.length + 1 - p) [] p = (t, q, bad)) : strP b p = (if bad = true then zeroN else mkN textW 0 t zeroT [], q, bad) := by
 unfold strP
 rw [h]
 cases bad <;> rfl
def Exp20 (b : List UInt8) (d : Nat) : Prop := ∀ (p : Nat) (H : Heap), p ≤ b.length →
 ∃ nd, L 20 [.im (.str b), .im (.int .i64 (p : Int)), .im (.int .i64 (d : Int))] H = some (.tup [.im (.agg (encN nd)), .im (.int .i64 ((exprX b d p).2.1 : Int)), .im (.bool (!(exprX b d p).2.2))], H) ∧ ((exprX b d p).2.2 = false → nd = (exprX b d p).1)
theorem part_nil {ps : List UInt8} : decide (partR ps = []) = decide (ps = []) := by
 unfold partR
 split
 ·rename_i h; rw [h]; rfl
 ·rfl
theorem part_100 {ps : List UInt8} : decide (partR ps = [100]) = decide (ps = [100]) := by
 unfold partR
 split
 ·rename_i h; rw [h]; rfl
 ·rfl
theorem part_116 {ps : List UInt8} : decide (partR ps = [116]) = decide (ps = [116]) := by
 unfold partR
 split
 ·rename_i h; rw [h]; rfl
 ·rfl
set_option maxHeartbeats 2000000 in
theorem s20step (b : List UInt8) (hb : b.length ≤ 2305843009213693952) (d : Nat) (hd : d < 1000) (hrec : 0 < d → Exp20 b d) : Exp20 b (d + 1) := by
 intro p H hp
 have hq := skip_len hp
 have c1 := fun H => s21 b p (by omega) hp H
 have zd : (((d + 1 : Nat) : Nat) : Int) = (d : Int) + 1 := by omega
 rw [zd]
 have hlz : ∀ (M : Heap) (op txt : List UInt8) (i : Int) (a : Int) (k : Bool), leave H false (.tup [.agg [.im (.str op), .im (.int .i64 i), .im (.str txt), .im (.int .i64 0), .nils, .nils], .im (.int .i64 a), .im (.bool k)]) (H ++ M) = (.tup [.im (.agg (encN (mkN op i txt zeroT []))), .im (.int .i64 a), .im (.bool k)], H) := fun M op txt i a k => leave_deg (by simp [degrade, degrade1, toDat, toDats, mkN, zeroT, mkT, encN, encTs, encNs]) (by simp [refsLt, refsLts])
 have hK := @endK_20 H
 rw [leq F20]
 obtain ⟨hlen, ha⟩ := enter_at (f := f20) (args := [.im (.str b), .im (.int .i64 (p : Int)), .im (.int .i64 ((d : Int) + 1))]) (Nat.le_of_ble_eq_true rfl)
 have h0 := ha 0 _ rfl
 have h1 := ha 1 _ rfl
 have h2 := ha 2 _ rfl
 generalize enterA f20 [.im (.str b), .im (.int .i64 (p : Int)), .im (.int .i64 ((d : Int) + 1))] = tm at *
 change tm.length = 287 at hlen
 unfold exprX
 generalize skipB b p = q at *
 have hpl := peek_lt (b := b) (p := q)
 have hsk := fun h => peek_some (b := b) (p := q) h
 have cW := fun H => s39 b q (by omega) hq H
 have p2 : (0 : Int) ≤ (q : Int) := Int.natCast_nonneg q
 have hwr := wrap_nat (i := q) (by omega)
 unfold wordR at cW
 generalize hc : peekB b q = c at *
 have b34 : decide ((c.toNat : Int) = 34) = decide (c = 34) := byte_eq c 34
 have b45 : decide ((c.toNat : Int) = 45) = decide (c = 45) := byte_eq c 45
 have cD := fun H => s37 (c.toNat : Int) H
 by_cases hlt : q < b.length
 ·have e0 : decide ((b.length : Int) ≤ (q : Int)) = false := decide_eq_false (by omega)
  have hsk := hsk hlt
  by_cases k34 : c = 34
  ·rw [if_pos k34]
   have e1 : decide ((c.toNat : Int) = 34) = true := b34.trans (decide_eq_true k34)
   cases hS : strN b (b.length + 1 - (q + 1)) [] (q + 1) with
   | mk t qb =>
    obtain ⟨qr, bad⟩ := qb
    have c2 := fun H => s36 b (by omega) (q + 1) (by omega) H t qr bad hS
    rw [strP_of hS]
    refine ⟨mkN textW 0 t zeroT [], ?_, fun h => by rw [if_neg (by simpa using h)]⟩
    simp only [textW]
    simp only [f20,B0,B1,B2,List.replicate,Nat.reduceAdd,Nat.reduceSub,Nat.reduceLeDiff,Nat.reduceLT,Nat.reduceEqDiff,reduceCtorEq,Int.reduceEq,Int.reduceLT,Int.reduceLE,lenA,endK,resA,tupA,intOfA,byteDat,Int.toNat_natCast,hlen,h0,h1,h2,c1,e0,p2,hsk,e1,hwr,c2,hlz]
  rw [if_neg k34]
  have e1 : decide ((c.toNat : Int) = 34) = false := b34.trans (decide_eq_false k34)
  by_cases knum : (decide (c = 45) || digZ (c.toNat : Int)) = true
  ·rw [if_pos knum]
   obtain ⟨v, c2, hv⟩ := s38 b q (by omega) hlt (H ++ [zO])
   simp only [zO] at c2
   refine ⟨mkN intW v [] zeroT [], ?_, fun h => (hv h).symm⟩
   simp only [intW]
   rcases Bool.eq_false_or_eq_true (decide (c = 45)) with k45 | k45
   ·rw [k45] at b45
    simp only [f20,B0,B1,B2,List.replicate,Nat.reduceAdd,Nat.reduceSub,Nat.reduceLeDiff,Nat.reduceLT,Nat.reduceEqDiff,reduceCtorEq,Int.reduceEq,Int.reduceLT,Int.reduceLE,lenA,endK,resA,tupA,intOfA,byteDat,Int.toNat_natCast,hlen,h0,h1,h2,c1,e0,p2,hsk,e1,b45,c2,hlz]
   ·rw [k45] at b45
    rw [k45, Bool.false_or] at knum
    rw [knum] at cD
    simp only [f20,B0,B1,B2,List.replicate,Nat.reduceAdd,Nat.reduceSub,Nat.reduceLeDiff,Nat.reduceLT,Nat.reduceEqDiff,reduceCtorEq,Int.reduceEq,Int.reduceLT,Int.reduceLE,lenA,endK,resA,tupA,intOfA,byteDat,Int.toNat_natCast,hlen,h0,h1,h2,c1,e0,p2,hsk,e1,b45,cD,c2,hlz]
  rw [if_neg knum]
  simp only [Bool.or_eq_true,not_or,Bool.not_eq_true] at knum
  obtain ⟨k45, kd⟩ := knum
  rw [k45] at b45
  rw [kd] at cD
  rcases Bool.eq_false_or_eq_true (letZ (c.toNat : Int)) with kl | kl
  ·rw [if_neg (by rw [kl]; simp)]
   rw [kl] at cW
   simp only [if_true] at cW
   by_cases hl : longB b q = true
   ·rw [if_pos hl] at cW
    rw [if_pos hl]
    refine ⟨zeroN, ?_, fun _ => rfl⟩
    simp only [zeroN]
    simp only [f20,B0,B1,B2,List.replicate,Nat.reduceAdd,Nat.reduceSub,Nat.reduceLeDiff,Nat.reduceLT,Nat.reduceEqDiff,reduceCtorEq,Int.reduceEq,Int.reduceLT,Int.reduceLE,lenA,endK,resA,tupA,intOfA,byteDat,Int.toNat_natCast,hlen,h0,h1,h2,c1,e0,p2,hsk,e1,b45,cD,cW,hlz,Bool.not_true]
   rw [if_neg hl] at cW
   rw [if_neg hl]
   simp only at cW
   have hel := run_len (b := b) (p := q) (by omega)
   have cP := fun H => s40 (wordB b q) H
   generalize wordB b q = w at *
   generalize runB b q = e at *
   cases hs : shapeT w with
   | none =>
    rw [hs] at cP
    simp only [Option.isSome_none] at cP
    refine ⟨mkN nameW 0 w zeroT [], ?_, fun _ => rfl⟩
    simp only [nameW]
    simp only [f20,B0,B1,B2,List.replicate,Nat.reduceAdd,Nat.reduceSub,Nat.reduceLeDiff,Nat.reduceLT,Nat.reduceEqDiff,reduceCtorEq,Int.reduceEq,Int.reduceLT,Int.reduceLE,lenA,endK,resA,tupA,intOfA,byteDat,Int.toNat_natCast,hlen,h0,h1,h2,c1,e0,p2,hsk,e1,b45,cD,cW,cP,hlz,Bool.not_false]
   | some ps =>
    rw [hs] at cP
    simp only [Option.isSome_some] at cP ⊢
    have hok := shape_ok hs
    have e100 := part_100 (ps := ps)
    have e116 := part_116 (ps := ps)
    have enil := part_nil (ps := ps)
    by_cases hps : ps = []
    ·rw [if_pos hps]
     rw [decide_eq_true hps] at enil
     refine ⟨mkN w 0 [] zeroT [], ?_, fun _ => rfl⟩
     simp only [f20,B0,B1,B2,List.replicate,Nat.reduceAdd,Nat.reduceSub,Nat.reduceLeDiff,Nat.reduceLT,Nat.reduceEqDiff,reduceCtorEq,Int.reduceEq,Int.reduceLT,Int.reduceLE,lenA,endK,resA,tupA,intOfA,byteDat,Int.toNat_natCast,hlen,h0,h1,h2,c1,e0,p2,hsk,e1,b45,cD,cW,cP,enil,hlz,Bool.not_false]
    ·rw [if_neg hps]
     rw [decide_eq_false hps] at enil
     by_cases hdf : d = 0 ∧ ps ≠ [100] ∧ ps ≠ [116]
     ·rw [if_pos hdf]
      have e6 : decide ((d : Int) + 1 = 1) = true := decide_eq_true (by omega)
      rw [decide_eq_false hdf.2.1] at e100
      rw [decide_eq_false hdf.2.2] at e116
      refine ⟨zeroN, ?_, fun _ => rfl⟩
      simp only [zeroN]
      simp only [f20,B0,B1,B2,List.replicate,Nat.reduceAdd,Nat.reduceSub,Nat.reduceLeDiff,Nat.reduceLT,Nat.reduceEqDiff,reduceCtorEq,Int.reduceEq,Int.reduceLT,Int.reduceLE,lenA,endK,resA,tupA,intOfA,byteDat,Int.toNat_natCast,hlen,h0,h1,h2,c1,e0,p2,hsk,e1,b45,cD,cW,cP,enil,e6,e100,e116,hlz,Bool.not_true]
     ·rw [if_neg hdf]
      have hS := fun H => s21 b e (by omega) hel H
      have hal := skip_len hel
      have hsg2 : peekB b (skipB b e) = 40 → signP b e false 40 = (skipB b e + 1, false) := sign_yes
      have hsg3 : peekB b (skipB b e) ≠ 40 → signP b e false 40 = (skipB b e, true) := sign_no
      have hpla := peek_lt (b := b) (p := skipB b e)
      have hska := fun h => peek_some (b := b) (p := skipB b e) h
      have p3 : (0 : Int) ≤ ((skipB b e : Nat) : Int) := Int.natCast_nonneg _
      have hpl5 : ps.length ≤ 5 := by
       unfold okPs at hok
       simp only [Bool.and_eq_true,decide_eq_true_eq] at hok
       exact hok.1.1.1
      have hp108 : ps ≠ [108] := fun h => by rw [h] at hok; exact absurd hok (by decide)
      have hcall : ∀ c ∈ ps, isE c = true → ∀ (p : Nat) (H : Heap), p ≤ b.length → ∃ nd, L 20 [.im (.str b), .im (.int .i64 ((skipB b p : Nat) : Int)), .im (.int .i64 (d : Int))] H = some (.tup [.im (.agg (encN nd)), .im (.int .i64 (((exprX b d) p).2.1 : Int)), .im (.bool (!((exprX b d) p).2.2))], H) ∧ (((exprX b d) p).2.2 = false → nd = ((exprX b d) p).1) := fun c hc he p H hp => by
       have hd0 : 0 < d := by
        rcases Nat.eq_zero_or_pos d with hd0 | hd0
        ·exfalso
         have : ps = [100] ∨ ps = [116] := by
          by_cases h1 : ps = [100]
          ·exact .inl h1
          ·exact .inr (Classical.byContradiction fun h2 => hdf ⟨hd0, h1, h2⟩)
         rcases this with h | h
         ·rw [h] at hc; simp at hc; rw [hc] at he; exact absurd he (by decide)
         ·rw [h] at hc; simp at hc; rw [hc] at he; exact absurd he (by decide)
        ·exact hd0
       have := hrec hd0 (skipB b p) H (skip_len hp)
       obtain ⟨d1, rfl⟩ : ∃ d1, d = d1 + 1 := ⟨d - 1, by omega⟩
       rwa [expr_skip hp] at this
      obtain ⟨c0, cs, rfl⟩ : ∃ c0 cs, ps = c0 :: cs := by
       cases ps with
       | nil => exact absurd rfl hps
       | cons c0 cs => exact ⟨c0, cs, rfl⟩
      have key := fun tm1 H1 => l20 b hb H.length w (c0 :: cs) hpl5 hp108 ((d : Int) + 1) (d : Int) (by rw [show (d : Int) + 1 - 1 = d by omega]; exact Go.Abs.Seat.wrap_small _ (by omega)) (exprX b d) (fun p h => expr_len b d p h) hcall 70 40 0 c0 cs (0, zeroT, []) e (skipB b e) tm1 H1
      simp only [zc0] at key
      generalize skipB b e = a at *
      generalize hca : peekB b a = ca at *
      have b40 : decide ((ca.toNat : Int) = 40) = decide (ca = 40) := byte_eq ca 40
      by_cases h40 : ca = 40
      ·have hlta : a < b.length := hpla (by rw [h40]; decide)
       have key := fun tm1 H1 => key tm1 H1 (hsg2 h40) hlta (by
        by_cases h43 : c0 :: cs = [43]
        ·exact .inl ⟨h43, h43, rfl, by decide⟩
        ·exact .inr ⟨h43, rfl, Nat.zero_le _⟩) (by simp at hpl5 ⊢; omega)
       have e7 : decide ((b.length : Int) ≤ (a : Int)) = false := decide_eq_false (by omega)
       have hska := hska hlta
       rw [decide_eq_true h40] at b40
       have hcx : ∀ r, goX (exprX b d) b (decide (c0 :: cs = [43])) 70 40 (c0 :: cs) (0, zeroT, []) e = r → callX (exprX b d) b w (c0 :: cs) e = (if r.2.2 = true then zeroN else mkN w r.1.1 [] r.1.2.1 r.1.2.2, finX b r) := fun r hr => by
        unfold callX finX
        rw [hr]
        split <;> rfl
       generalize hgo : goX (exprX b d) b (decide (c0 :: cs = [43])) 70 40 (c0 :: cs) (0, zeroT, []) e = r at *
       rw [hcx r rfl]
       simp only
       have hnz : (finX b r).2 = false → r.2.2 = false := fun h => by
        rcases Bool.eq_false_or_eq_true r.2.2 with h1 | h1
        ·unfold finX at h; rw [if_pos h1] at h; simp at h
        ·exact h1
       have hfin : ∀ (tm1 : List AV) (H1 : Heap) (w' : List UInt8) (st' : St), Low H.length (H ++ [zO, nO w [] 0]) H1 → tm1.getD 6 undefA = .ptr H.length 0 0 → tm1.getD 7 undefA = .im (.int .i64 ((finX b r).1 : Int)) → tm1.getD 8 undefA = .im (.bool (!(finX b r).2)) → ResAt H.length w' st' H1 → ((finX b r).2 = false → w' = w ∧ st' = r.1) →
         ∃ nd, endK f20 H .ret tm1 H1 = some (.tup [.im (.agg (encN nd)), .im (.int .i64 ((finX b r).1 : Int)), .im (.bool (!(finX b r).2))], H) ∧ ((finX b r).2 = false → nd = if r.2.2 = true then zeroN else mkN w r.1.1 [] r.1.2.1 r.1.2.2) := fun tm1 H1 w' st' hlow b6 b7 b8 hres hgood => by
        refine ⟨mkN w' st'.1 [] st'.2.1 st'.2.2, hK b6 hres b7 b8 ⟨by have := hlow.1; simp at this; omega, fun j hj => by rw [hlow.2 j hj, get_app hj]⟩, fun h => ?_⟩
        rw [if_neg (by rw [hnz h]; simp), (hgood h).1, (hgood h).2]
       have hcode : f20.code = f20.code := rfl
       conv at hcode => rhs; simp only [f20]
       rw [hcode]
       clear hcode
       generalize endK f20 H = K at *
       simp only [nO] at hfin
       by_cases hd0 : d = 0
       ·have e6 : decide ((d : Int) + 1 = 1) = true := decide_eq_true (by omega)
        by_cases h100 : (c0 :: cs) = [100]
        ·rw [decide_eq_true h100] at e100
         simp only [e20_0,B0,B1,B2,List.replicate,Nat.reduceAdd,Nat.reduceSub,Nat.reduceLeDiff,Nat.reduceLT,Nat.reduceEqDiff,reduceCtorEq,Int.reduceEq,Int.reduceLT,Int.reduceLE,lenA,intOfA,byteDat,Int.toNat_natCast,hlen,h0,h1,h2,c1,e0,p2,hsk,e1,b45,cD,cW,cP,enil,hS,e7,hska,p3,b40,e6,e100]
         generalize hr2 : thenL (Λ c20_0 _ _) _ = ro
         refine Exists.elim (thenL_inv hr2 (key _ _ ?_ ?_ ?_ ?_ ?_ ?_ ?_ ?_ ?_ ?_ ?_)) ?_
         ·simp only [List.length_set,hlen]
         iterate 7 simp only [B3,Nat.reduceLT,Nat.reduceEqDiff,hlen,h0,h2]
         ·rw [hget0]; rfl
         ·exact ⟨0, .nils, .nils, by rw [hget]; rfl, .inl ⟨rfl, rfl, rfl⟩, .inl ⟨rfl, rfl⟩⟩
         ·simp
         clear hr2 key
         rintro ee ⟨tm1, H1, ⟨rfl, l1, hlow, b6, b7, b8, w', st', hres, hgood⟩, rfl⟩
         exact hfin tm1 H1 w' st' hlow b6 b7 b8 hres hgood
        ·rw [decide_eq_false h100] at e100
         rw [decide_eq_true (Classical.byContradiction fun h => hdf ⟨hd0, h100, h⟩)] at e116
         simp only [e20_0,B0,B1,B2,List.replicate,Nat.reduceAdd,Nat.reduceSub,Nat.reduceLeDiff,Nat.reduceLT,Nat.reduceEqDiff,reduceCtorEq,Int.reduceEq,Int.reduceLT,Int.reduceLE,lenA,intOfA,byteDat,Int.toNat_natCast,hlen,h0,h1,h2,c1,e0,p2,hsk,e1,b45,cD,cW,cP,enil,hS,e7,hska,p3,b40,e6,e100,e116]
         generalize hr2 : thenL (Λ c20_0 _ _) _ = ro
         refine Exists.elim (thenL_inv hr2 (key _ _ ?_ ?_ ?_ ?_ ?_ ?_ ?_ ?_ ?_ ?_ ?_)) ?_
         ·simp only [List.length_set,hlen]
         iterate 7 simp only [B3,Nat.reduceLT,Nat.reduceEqDiff,hlen,h0,h2]
         ·rw [hget0]; rfl
         ·exact ⟨0, .nils, .nils, by rw [hget]; rfl, .inl ⟨rfl, rfl, rfl⟩, .inl ⟨rfl, rfl⟩⟩
         ·simp
         clear hr2 key
         rintro ee ⟨tm1, H1, ⟨rfl, l1, hlow, b6, b7, b8, w', st', hres, hgood⟩, rfl⟩
         exact hfin tm1 H1 w' st' hlow b6 b7 b8 hres hgood
       ·have e6 : decide ((d : Int) + 1 = 1) = false := decide_eq_false (by omega)
        simp only [e20_0,B0,B1,B2,List.replicate,Nat.reduceAdd,Nat.reduceSub,Nat.reduceLeDiff,Nat.reduceLT,Nat.reduceEqDiff,reduceCtorEq,Int.reduceEq,Int.reduceLT,Int.reduceLE,lenA,intOfA,byteDat,Int.toNat_natCast,hlen,h0,h1,h2,c1,e0,p2,hsk,e1,b45,cD,cW,cP,enil,hS,e7,hska,p3,b40,e6]
        generalize hr2 : thenL (Λ c20_0 _ _) _ = ro
        refine Exists.elim (thenL_inv hr2 (key _ _ ?_ ?_ ?_ ?_ ?_ ?_ ?_ ?_ ?_ ?_ ?_)) ?_
        ·simp only [List.length_set,hlen]
        iterate 7 simp only [B3,Nat.reduceLT,Nat.reduceEqDiff,hlen,h0,h2]
        ·rw [hget0]; rfl
        ·exact ⟨0, .nils, .nils, by rw [hget]; rfl, .inl ⟨rfl, rfl, rfl⟩, .inl ⟨rfl, rfl⟩⟩
        ·simp
        clear hr2 key
        rintro ee ⟨tm1, H1, ⟨rfl, l1, hlow, b6, b7, b8, w', st', hres, hgood⟩, rfl⟩
        exact hfin tm1 H1 w' st' hlow b6 b7 b8 hres hgood
      ·have hgo : goX (exprX b d) b (decide (c0 :: cs = [43])) 70 40 (c0 :: cs) (0, zeroT, []) e = ((0, zeroT, []), a, true) := by
        rw [show (70 : Nat) = 69 + 1 from rfl]
        unfold goX
        rw [hsg3 h40, if_pos rfl]
       have hcx : callX (exprX b d) b w (c0 :: cs) e = (zeroN, a, true) := by
        unfold callX
        rw [hgo, if_pos rfl]
       rw [hcx]
       clear key hcx hgo
       rw [decide_eq_false h40] at b40
       refine ⟨zeroN, ?_, fun _ => rfl⟩
       simp only [zeroN]
       by_cases hlta : a < b.length
       ·have e7 : decide ((b.length : Int) ≤ (a : Int)) = false := decide_eq_false (by omega)
        have hska := hska hlta
        by_cases hd0 : d = 0
        ·have e6 : decide ((d : Int) + 1 = 1) = true := decide_eq_true (by omega)
         by_cases h100 : (c0 :: cs) = [100]
         ·rw [decide_eq_true h100] at e100
          simp only [f20,B0,B1,B2,List.replicate,Nat.reduceAdd,Nat.reduceSub,Nat.reduceLeDiff,Nat.reduceLT,Nat.reduceEqDiff,reduceCtorEq,Int.reduceEq,Int.reduceLT,Int.reduceLE,lenA,intOfA,byteDat,Int.toNat_natCast,hlen,h0,h1,h2,c1,e0,p2,hsk,e1,b45,cD,cW,cP,enil,hS,endK,resA,tupA,e7,e6,e100,hska,p3,b40,hlz,Bool.not_true]
         ·rw [decide_eq_false h100] at e100
          rw [decide_eq_true (Classical.byContradiction fun h => hdf ⟨hd0, h100, h⟩)] at e116
          simp only [f20,B0,B1,B2,List.replicate,Nat.reduceAdd,Nat.reduceSub,Nat.reduceLeDiff,Nat.reduceLT,Nat.reduceEqDiff,reduceCtorEq,Int.reduceEq,Int.reduceLT,Int.reduceLE,lenA,intOfA,byteDat,Int.toNat_natCast,hlen,h0,h1,h2,c1,e0,p2,hsk,e1,b45,cD,cW,cP,enil,hS,endK,resA,tupA,e7,e6,e100,e116,hska,p3,b40,hlz,Bool.not_true]
        ·have e6 : decide ((d : Int) + 1 = 1) = false := decide_eq_false (by omega)
         simp only [f20,B0,B1,B2,List.replicate,Nat.reduceAdd,Nat.reduceSub,Nat.reduceLeDiff,Nat.reduceLT,Nat.reduceEqDiff,reduceCtorEq,Int.reduceEq,Int.reduceLT,Int.reduceLE,lenA,intOfA,byteDat,Int.toNat_natCast,hlen,h0,h1,h2,c1,e0,p2,hsk,e1,b45,cD,cW,cP,enil,hS,endK,resA,tupA,e7,e6,hska,p3,b40,hlz,Bool.not_true]
       ·have e7 : decide ((b.length : Int) ≤ (a : Int)) = true := decide_eq_true (by omega)
        by_cases hd0 : d = 0
        ·have e6 : decide ((d : Int) + 1 = 1) = true := decide_eq_true (by omega)
         by_cases h100 : (c0 :: cs) = [100]
         ·rw [decide_eq_true h100] at e100
          simp only [f20,B0,B1,B2,List.replicate,Nat.reduceAdd,Nat.reduceSub,Nat.reduceLeDiff,Nat.reduceLT,Nat.reduceEqDiff,reduceCtorEq,Int.reduceEq,Int.reduceLT,Int.reduceLE,lenA,intOfA,byteDat,Int.toNat_natCast,hlen,h0,h1,h2,c1,e0,p2,hsk,e1,b45,cD,cW,cP,enil,hS,endK,resA,tupA,e7,e6,e100,hlz,Bool.not_true]
         ·rw [decide_eq_false h100] at e100
          rw [decide_eq_true (Classical.byContradiction fun h => hdf ⟨hd0, h100, h⟩)] at e116
          simp only [f20,B0,B1,B2,List.replicate,Nat.reduceAdd,Nat.reduceSub,Nat.reduceLeDiff,Nat.reduceLT,Nat.reduceEqDiff,reduceCtorEq,Int.reduceEq,Int.reduceLT,Int.reduceLE,lenA,intOfA,byteDat,Int.toNat_natCast,hlen,h0,h1,h2,c1,e0,p2,hsk,e1,b45,cD,cW,cP,enil,hS,endK,resA,tupA,e7,e6,e100,e116,hlz,Bool.not_true]
        ·have e6 : decide ((d : Int) + 1 = 1) = false := decide_eq_false (by omega)
         simp only [f20,B0,B1,B2,List.replicate,Nat.reduceAdd,Nat.reduceSub,Nat.reduceLeDiff,Nat.reduceLT,Nat.reduceEqDiff,reduceCtorEq,Int.reduceEq,Int.reduceLT,Int.reduceLE,lenA,intOfA,byteDat,Int.toNat_natCast,hlen,h0,h1,h2,c1,e0,p2,hsk,e1,b45,cD,cW,cP,enil,hS,endK,resA,tupA,e7,e6,hlz,Bool.not_true]
  ·rw [if_pos kl]
   rw [kl] at cW
   simp only [Bool.false_eq_true,if_false] at cW
   refine ⟨zeroN, ?_, fun _ => rfl⟩
   simp only [zeroN]
   simp only [f20,B0,B1,B2,List.replicate,Nat.reduceAdd,Nat.reduceSub,Nat.reduceLeDiff,Nat.reduceLT,Nat.reduceEqDiff,reduceCtorEq,Int.reduceEq,Int.reduceLT,Int.reduceLE,lenA,endK,resA,tupA,intOfA,byteDat,Int.toNat_natCast,hlen,h0,h1,h2,c1,e0,p2,hsk,e1,b45,cD,cW,hlz]
 ·have e0 : decide ((b.length : Int) ≤ (q : Int)) = true := decide_eq_true (by omega)
  have hc0 : c = 0 := Classical.byContradiction fun h => hlt (hpl h)
  rw [hc0, if_neg (by decide), if_neg (by decide), if_pos (by decide)]
  refine ⟨zeroN, ?_, fun _ => rfl⟩
  simp only [zeroN]
  simp only [f20,B0,B1,B2,List.replicate,Nat.reduceAdd,Nat.reduceSub,Nat.reduceLeDiff,Nat.reduceLT,Nat.reduceEqDiff,reduceCtorEq,Int.reduceEq,Int.reduceLT,Int.reduceLE,lenA,endK,resA,tupA,hlen,h0,h1,h2,c1,e0,hlz,Bool.not_true]
theorem s20 (b : List UInt8) (hb : b.length ≤ 2305843009213693952) : ∀ d, d < 1000 → Exp20 b (d + 1)
 | 0, _ => s20step b hb 0 (by omega) (fun h => absurd h (by omega))
 | d + 1, h => s20step b hb (d + 1) (by omega) (fun _ => s20 b hb d (by omega))
end Go.Abs.Seat
end
section
set_option linter.unusedVariables false
set_option linter.unusedSimpArgs false
namespace Go.Abs.Seat
open Go.Proofs
theorem s11 (s : List UInt8) (hs : s.length ≤ 4096) (H : Heap) : L 11 [.im (.str s)] H = some (.tup [.im (.agg (encN (readX s).1)), .im (.int .i64 ((readX s).2.1 : Int)), .im (.bool (!(readX s).2.2))], H) := by
 have hlz : ∀ (M : Heap) (a : Int) (k : Bool), leave H false (.tup [.agg [.im (.str []), .im (.int .i64 0), .im (.str []), .im (.int .i64 0), .nils, .nils], .im (.int .i64 a), .im (.bool k)]) (H ++ M) = (.tup [.im (.agg (encN zeroN)), .im (.int .i64 a), .im (.bool k)], H) := fun M a b => leave_deg (by simp [degrade, degrade1, toDat, toDats, zeroN, mkN, zeroT, mkT, encN, encTs, encNs]) (by simp [refsLt, refsLts])
 have hlv : ∀ (M : Heap) (op txt : List UInt8) (i k : Int) (s s2 : Nat) (args : List KT) (kids : List NT) (a : Int) (b : Bool), leave H false (.tup [.im (.agg [.str op, .int .i64 i, .str txt, .int .i64 k, .sl s (encTs args), .sl s2 (encNs kids)]), .im (.int .i64 a), .im (.bool b)]) (H ++ M) = (.tup [.im (.agg [.str op, .int .i64 i, .str txt, .int .i64 k, .sl s (encTs args), .sl s2 (encNs kids)]), .im (.int .i64 a), .im (.bool b)], H) := fun M op txt i k s s2 args kids a b => leave_deg (by simp [degrade, degrade1, toDat]) (by simp [refsLt, refsLts])
 obtain ⟨nd, c1, hnn⟩ := s20 s (by omega) 23 (by decide) 0 (H ++ [zO]) (Nat.zero_le _)
 rw [show (((23 + 1 : Nat) : Nat) : Int) = 24 from rfl, zc0] at c1
 have hq := expr_len s 24 0 (Nat.zero_le _)
 have c2 := fun H => s21 s (exprX s 24 0).2.1 (by omega) hq H
 simp only [Nat.reduceAdd] at c1 hnn
 rw [leq F11]
 obtain ⟨hlen, ha⟩ := enter_at (f := f11) (args := [.im (.str s)]) (Nat.le_of_ble_eq_true rfl)
 have h0 := ha 0 _ rfl
 generalize enterA f11 [.im (.str s)] = tm at *
 change tm.length = 28 at hlen
 unfold readX
 generalize exprX s 24 0 = r at *
 obtain ⟨nr, q, bad⟩ := r
 simp only at c1 c2 hnn hq ⊢
 obtain ⟨op, ni, txt, ty, ns, kids⟩ := nd
 obtain ⟨tk, ts, targs⟩ := ty
 simp only [encN,zO] at c1
 cases bad with
 | true =>
  simp only [if_true]
  simp only [f11,B0,B1,B2,List.replicate,Nat.reduceAdd,Nat.reduceSub,Nat.reduceLeDiff,Nat.reduceLT,Nat.reduceEqDiff,reduceCtorEq,Int.reduceEq,Int.reduceLT,Int.reduceLE,lenA,z_ops,z_nil,z_cons,z_guard,z_some,z_drop,z_do,z_not,z_not0,pairK,forall_eq_or_imp,stays,loadOf,List.reverse_cons,List.reverse_nil,List.mem_cons,List.not_mem_nil,or_false,forall_eq,true_or,or_true,Bool.true_and,endK,resA,tupA,hlen,h0,c1,hlz]
 | false =>
  rw [← hnn rfl]
  simp only [Bool.false_eq_true,if_false,Bool.not_false] at c1 ⊢
  by_cases hlt : skipB s q < s.length
  ·have e2 : decide (((skipB s q : Nat) : Int) < (s.length : Int)) = true := decide_eq_true (by omega)
   simp only [if_pos hlt]
   simp only [f11,B0,B1,B2,List.replicate,Nat.reduceAdd,Nat.reduceSub,Nat.reduceLeDiff,Nat.reduceLT,Nat.reduceEqDiff,reduceCtorEq,Int.reduceEq,Int.reduceLT,Int.reduceLE,lenA,z_ops,z_nil,z_cons,z_guard,z_some,z_drop,z_do,z_not,z_not0,pairK,forall_eq_or_imp,stays,loadOf,List.reverse_cons,List.reverse_nil,List.mem_cons,List.not_mem_nil,or_false,forall_eq,true_or,or_true,Bool.true_and,endK,resA,tupA,hlen,h0,e2,c1,c2,hlz]
  ·have e2 : decide (((skipB s q : Nat) : Int) < (s.length : Int)) = false := decide_eq_false (by omega)
   simp only [if_neg hlt]
   simp only [f11,B0,B1,B2,List.replicate,Nat.reduceAdd,Nat.reduceSub,Nat.reduceLeDiff,Nat.reduceLT,Nat.reduceEqDiff,reduceCtorEq,Int.reduceEq,Int.reduceLT,Int.reduceLE,lenA,z_ops,z_nil,z_cons,z_guard,z_some,z_drop,z_do,z_not,z_not0,pairK,forall_eq_or_imp,stays,loadOf,List.reverse_cons,List.reverse_nil,List.mem_cons,List.not_mem_nil,or_false,forall_eq,true_or,or_true,Bool.true_and,endK,resA,tupA,hlen,h0,e2,c1,c2,hlv,encN,zc0,Bool.not_false]
mutual
def okN : NT → Prop
 | .mk _ _ _ ty s kids => (kids = [] ∨ s = 6) ∧ kids.length ≤ 1000 ∧ goodT ty ∧ okNs kids
def okNs : List NT → Prop
 | [] => True
 | a :: l => okN a ∧ okNs l
end
theorem okNs_mem : ∀ {l : List NT}, okNs l → ∀ a ∈ l, okN a
 | [], _, a, ha => by simp at ha
 | x :: l, h, a, ha => by
  simp only [okNs] at h
  rcases List.mem_cons.1 ha with rfl | ha
  ·exact h.1
  ·exact okNs_mem h.2 a ha
mutual
def cloneN : NT → NT
 | .mk op i txt ty _ kids => mkN op i txt (cloneT ty) (cloneNs kids)
def cloneNs : List NT → List NT
 | [] => []
 | a :: l => cloneN a :: cloneNs l
end
theorem cloneNs_map : ∀ l : List NT, cloneNs l = l.map cloneN
 | [] => rfl
 | a :: l => by simp only [cloneNs,List.map_cons,cloneNs_map l]
mutual
def sameN : NT → NT → Bool
 | .mk op i txt ty _ xs, .mk op' i' txt' ty' _ ys => decide (op = op') && (decide (i = i') && (decide (txt = txt') && (sameT ty ty' && (decide (xs.length = ys.length) && sameNs xs ys))))
def sameNs : List NT → List NT → Bool
 | a :: xs, b :: ys => sameN a b && sameNs xs ys
 | _, _ => true
end
theorem l13 (args : List NT) (s : Nat) (hs : args = [] ∨ s = 6) (hn : args.length ≤ 1000) (H0 : Heap)
  (hc : ∀ a ∈ args, ∀ H, L 13 [.im (.agg (encN a))] H = some (.im (.agg (encN (cloneN a))), H)) :
  ∀ (m i : Nat), i + m = args.length → ∀ (tm : List AV) (M : Heap) (v : AV), Gath 37 6 H0.length v (H0 ++ M) ((args.take i).map fun a => encN (cloneN a)) → tm.length = 30 → tm.getD 3 undefA = v → tm.getD 7 undefA = .im (.sl s (args.map encN)) → tm.getD 8 undefA = .im (.int .i64 args.length) → tm.getD 9 undefA = .im (.int .i64 i) →
  ∃ e tm' H', Λ c13_0 tm (H0 ++ M) = some (e, tm', H') ∧ tm'.length = 30 ∧ e = .exit 0 ∧ tm'.getD 1 undefA = tm.getD 1 undefA ∧ tm'.getD 2 undefA = tm.getD 2 undefA ∧ ∃ M', H' = H0 ++ M' ∧ Gath 37 6 H0.length (tm'.getD 3 undefA) (H0 ++ M') (args.map fun a => encN (cloneN a))
 | 0, i, hi, tm, M, v, hG, hlen, h3, h7, h8, h9 => by
  have hc : decide ((i : Int) < (args.length : Int)) = false := decide_eq_false (by omega)
  rw [l13_0]
  simp only [b13_0,B0,B1,B2,List.replicate,Nat.reduceAdd,Nat.reduceSub,Nat.reduceLeDiff,Nat.reduceLT,Nat.reduceEqDiff,reduceCtorEq,Int.reduceEq,Int.reduceLT,Int.reduceLE,lenA,hlen,h3,h7,h8,h9,hc]
  have e : args.take i = args := List.take_of_length_le (by omega)
  rw [e] at hG
  exact ⟨_, _, _, rfl, by simp only [List.length_set,hlen], rfl, by simp only [B3,Nat.reduceLT,Nat.reduceEqDiff,hlen], by simp only [B3,Nat.reduceLT,Nat.reduceEqDiff,hlen], M, rfl, by simp only [B3,Nat.reduceLT,Nat.reduceEqDiff,hlen,h3]; exact hG⟩
 | m + 1, i, hi, tm, M, v, hG, hlen, h3, h7, h8, h9 => by
  have hlt : i < args.length := by omega
  obtain ⟨w, hwi⟩ : ∃ w, args[i]? = some w := ⟨_, List.getElem?_eq_getElem hlt⟩
  have hs2 : s = 6 := by
   rcases hs with hs | hs
   ·subst hs; simp at hlt
   ·exact hs
  subst hs2
  have hc' : decide ((i : Int) < (args.length : Int)) = true := decide_eq_true (by omega)
  have hix := idx_nat (n := (args.map encN).length) (i := i) (by simpa using hlt)
  have hgw : (args.map encN)[i]? = some (encN w) := by rw [List.getElem?_map, hwi]; rfl
  have hcall := hc w (List.mem_of_getElem? hwi)
  have hwr := wrap_nat (i := i) (by omega)
  have key := l13 args 6 hs hn H0 hc m (i + 1) (by omega)
  have hG2 := hG.more [.obj none [(encN w).map .im]]
  rw [List.append_assoc] at hG2
  obtain ⟨v', M', hap, hG', hok, _⟩ := hG2.push (bytes := 96) (encN (cloneN w)) (by simp; omega) (by decide)
  have htk : (args.take (i + 1)).map (fun a => encN (cloneN a)) = (args.take i).map (fun a => encN (cloneN a)) ++ [encN (cloneN w)] := by
   rw [List.take_add_one, hwi]; simp
  rw [← htk] at hG'
  have hset0 : ∀ o o' : HO, (H0 ++ (M ++ [o])).set (H0.length + M.length) o' = H0 ++ (M ++ [o']) := fun o o' => by
   rw [← List.append_assoc, ← List.append_assoc, ← List.length_append, Go.Abs.hset0]; rfl
  have hgetA : ∀ o, (H0 ++ (M ++ [o]))[H0.length + M.length]? = some o := fun o => by
   rw [← List.append_assoc, ← List.length_append, Go.Abs.hget0]; rfl
  rw [l13_0]
  generalize hcw : cloneN w = cw at *
  obtain ⟨op, ni, txt, ty, s', ts⟩ := w
  obtain ⟨tk, tts, targs⟩ := ty
  obtain ⟨op2, ni2, txt2, ty2, s2, ts2⟩ := cw
  obtain ⟨tk2, tts2, targs2⟩ := ty2
  simp only [encN,List.map_cons,List.map_nil] at hcall hgw hap
  simp only [b13_0,B0,B1,B2,List.replicate,Nat.reduceAdd,Nat.reduceSub,Nat.reduceLeDiff,Nat.reduceLT,Nat.reduceEqDiff,reduceCtorEq,Int.reduceEq,Int.reduceLT,Int.reduceLE,lenA,hlen,h3,h7,h8,h9,hc',hix,hgw,hcall,hwr,hgetA,hset0,toDatss,toDats,toDat,elems,hap]
  refine ex_imp (key _ M' v' hG' ?_ ?_ ?_ ?_ ?_) ?_
  iterate 5 simp only [B3,Nat.reduceLT,Nat.reduceEqDiff,hlen,h3,h7,h8,h9]
  rintro e tm' H' ⟨hl', he, g1, g2, hM⟩
  refine ⟨hl', he, ?_, ?_, hM⟩
  ·rw [g1]; simp only [B3,Nat.reduceLT,Nat.reduceEqDiff,hlen]
  ·rw [g2]; simp only [B3,Nat.reduceLT,Nat.reduceEqDiff,hlen]
theorem s13 : ∀ (t : NT), okN t → ∀ H, L 13 [.im (.agg (encN t))] H = some (.im (.agg (encN (cloneN t))), H)
 | .mk op ni txt (.mk tk tts targs) s args, hok, H => by
  simp only [okN] at hok
  obtain ⟨hs, hn, hgt, hoks⟩ := hok
  have hc : ∀ a ∈ args, ∀ H, L 13 [.im (.agg (encN a))] H = some (.im (.agg (encN (cloneN a))), H) := fun a ha H => s13 a (okNs_mem hoks a ha) H
  have ct := fun H => s23 (.mk tk tts targs) hgt.1 (narrow_slim _ hgt.2) H
  have key := l13 args s hs hn (H ++ [.obj none [[.im (.str op), .im (.int .i64 ni), .im (.str txt), .im (.int .i64 tk), .im (.sl tts (encTs targs)), .im (.sl s (encNs args))]], zO]) hc args.length 0 (by omega)
  simp only [zc0,zO] at key
  have hel : (encNs args).length = args.length := by rw [encNs_map]; simp
  have hcl : cloneN (.mk op ni txt (.mk tk tts targs) s args) = mkN op ni txt (cloneT (.mk tk tts targs)) (cloneNs args) := by simp only [cloneN]
  have hcll : (cloneNs args).length = args.length := by rw [cloneNs_map]; simp
  rw [hcl]
  simp only [encN]
  rw [leq F13]
  obtain ⟨hlen, ha⟩ := enter_at (f := f13) (args := [.im (.agg [.str op, .int .i64 ni, .str txt, .int .i64 tk, .sl tts (encTs targs), .sl s (encNs args)])]) (Nat.le_of_ble_eq_true rfl)
  have h0 := ha 0 _ rfl
  generalize enterA f13 [.im (.agg [.str op, .int .i64 ni, .str txt, .int .i64 tk, .sl tts (encTs targs), .sl s (encNs args)])] = tm at *
  change tm.length = 30 at hlen
  generalize hct : cloneT (.mk tk tts targs) = tc at *
  obtain ⟨k2, s2, a2⟩ := tc
  simp only [encT] at ct
  simp only [f13,e13_0,B0,B1,B2,List.replicate,Nat.reduceAdd,Nat.reduceSub,Nat.reduceLeDiff,Nat.reduceLT,Nat.reduceEqDiff,reduceCtorEq,Int.reduceEq,Int.reduceLT,Int.reduceLE,lenA,hlen,h0,hel]
  have key := fun tm => key tm [] .nils (.inl ⟨rfl, rfl⟩)
  simp only [List.append_nil] at key
  generalize hr : thenL (Λ c13_0 _ _) _ = r
  refine Exists.elim (thenL_inv hr (key _ ?_ ?_ ?_ ?_ ?_)) ?_
  iterate 5 simp only [B3,Nat.reduceLT,Nat.reduceEqDiff,hlen,h0,encNs_map]
  clear hr key
  rintro e ⟨tm', H', ⟨hl', rfl, g1, g2, M, rfl, hG⟩, rfl⟩
  simp only [B3,Nat.reduceLT,Nat.reduceEqDiff,hlen] at g1 g2
  have hm : encNs (cloneNs args) = args.map fun a => encN (cloneN a) := by rw [encNs_map, cloneNs_map, List.map_map]; rfl
  have hget1 : ∀ M : Heap, (H ++ M)[H.length + 1]? = M[1]? := fun M => by rw [hget]
  rcases hG with ⟨hes, hv⟩ | ⟨hes, tok, _, hv, _⟩
  ·have ha0 : args = [] := by simpa using hes
   have e1 : toDat (.agg [.im (.str op), .im (.int .i64 ni), .im (.str txt), .im (.int .i64 k2), .im (.sl s2 (encTs a2)), .nils]) = some (.agg (encN (mkN op ni txt (.mk k2 s2 a2) (cloneNs args)))) := by
    simp [toDat, toDats, mkN, encN, ha0, encNs, cloneNs]
   have hlv := fun L' => leave_one (H := H) (M := L') e1
   simp only [B0,B1,B2,List.replicate,Nat.reduceAdd,Nat.reduceSub,Nat.reduceLeDiff,Nat.reduceLT,Nat.reduceEqDiff,reduceCtorEq,Int.reduceEq,Int.reduceLT,Int.reduceLE,lenA,z_ops,z_nil,z_cons,z_guard,z_some,z_drop,z_do,z_not,z_not0,pairK,forall_eq_or_imp,stays,loadOf,List.reverse_cons,List.reverse_nil,List.mem_cons,List.not_mem_nil,or_false,forall_eq,true_or,or_true,Bool.true_and,endK,resA,tupA,hl',g1,g2,hv,ct,hlv]
  ·have ha0 : (cloneNs args).length ≠ 0 := by rw [hcll]; simpa using hes
   have e1 : toDat (.agg [.im (.str op), .im (.int .i64 ni), .im (.str txt), .im (.int .i64 k2), .im (.sl s2 (encTs a2)), .asl 6 (args.map fun a => encN (cloneN a)) tok]) = some (.agg (encN (mkN op ni txt (.mk k2 s2 a2) (cloneNs args)))) := by
    simp only [toDat,toDats,mkN,encN,if_neg ha0,hm]
   have hlv := fun L' => leave_one (H := H) (M := L') e1
   simp only [B0,B1,B2,List.replicate,Nat.reduceAdd,Nat.reduceSub,Nat.reduceLeDiff,Nat.reduceLT,Nat.reduceEqDiff,reduceCtorEq,Int.reduceEq,Int.reduceLT,Int.reduceLE,lenA,z_ops,z_nil,z_cons,z_guard,z_some,z_drop,z_do,z_not,z_not0,pairK,forall_eq_or_imp,stays,loadOf,List.reverse_cons,List.reverse_nil,List.mem_cons,List.not_mem_nil,or_false,forall_eq,true_or,or_true,Bool.true_and,endK,resA,tupA,hl',g1,g2,hv,ct,hlv]
termination_by t => SizeOf.sizeOf t
decreasing_by
 have := List.sizeOf_lt_of_mem ha
 simp only [NT.mk.sizeOf_spec]
 omega
theorem l12 (xs ys : List NT) (s s' : Nat) (hs : xs = [] ∨ s = 6) (hs' : ys = [] ∨ s' = 6) (hl : xs.length = ys.length) (hn : xs.length ≤ 1000) (ca cb : List AV) (ia ib : Nat) (H : Heap) (hca : ca.length = 5) (hcb : cb.length = 5) (oa : H[ia]? = some (.obj none [ca ++ [.im (.sl s (xs.map encN))]])) (ob : H[ib]? = some (.obj none [cb ++ [.im (.sl s' (ys.map encN))]]))
  (hc : ∀ a ∈ xs, ∀ b ∈ ys, L 12 [.im (.agg (encN a)), .im (.agg (encN b))] H = some (.im (.bool (sameN a b)), H)) :
  ∀ (m i : Nat), i + m = xs.length → ∀ tm : List AV, tm.length = 61 → tm.getD 2 undefA = .ptr ia 0 0 → tm.getD 3 undefA = .ptr ib 0 0 → tm.getD 5 undefA = .im (.int .i64 (i : Int)) →
  ∃ e tm' H', Λ c12_0 tm H = some (e, tm', H') ∧ tm'.length = 61 ∧ H' = H ∧ ((sameNs (xs.drop i) (ys.drop i) = true ∧ e = .exit 0) ∨ (sameNs (xs.drop i) (ys.drop i) = false ∧ e = .ret ∧ tm'.getD 4 undefA = .im (.bool false))) := by
 obtain ⟨a0, a1, a2, a3, a4, rfl⟩ : ∃ a0 a1 a2 a3 a4, ca = [a0, a1, a2, a3, a4] := by
  match ca, hca with
  | [a0, a1, a2, a3, a4], _ => exact ⟨_, _, _, _, _, rfl⟩
 obtain ⟨b0, b1, b2, b3, b4, rfl⟩ : ∃ b0 b1 b2 b3 b4, cb = [b0, b1, b2, b3, b4] := by
  match cb, hcb with
  | [b0, b1, b2, b3, b4], _ => exact ⟨_, _, _, _, _, rfl⟩
 simp only [List.cons_append,List.nil_append] at oa ob
 intro m
 induction m with
 | zero =>
  intro i hi tm hlen h2 h3 h5
  have e : xs.drop i = [] := by rw [List.drop_eq_nil_iff]; omega
  have hc' : decide ((i : Int) < (xs.length : Int)) = false := decide_eq_false (by omega)
  rw [e, l12_0]
  simp only [b12_0,B0,B1,B2,List.replicate,Nat.reduceAdd,Nat.reduceSub,Nat.reduceLeDiff,Nat.reduceLT,Nat.reduceEqDiff,reduceCtorEq,Int.reduceEq,Int.reduceLT,Int.reduceLE,lenA,hlen,h2,h3,h5,oa,List.length_map,hc',sameNs]
  exact ⟨_, _, _, rfl, by simp only [List.length_set,hlen], rfl, by simp⟩
 | succ m ih =>
  intro i hi tm hlen h2 h3 h5
  have hlt : i < xs.length := by omega
  have hltb : i < ys.length := by omega
  obtain ⟨a, hai, ea⟩ := drop_cons hlt
  obtain ⟨b, hbi, eb⟩ := drop_cons hltb
  have hs2 : s = 6 := by
   rcases hs with hs | hs
   ·subst hs; simp at hlt
   ·exact hs
  have hs2' : s' = 6 := by
   rcases hs' with hs | hs
   ·subst hs; simp at hltb
   ·exact hs
  subst hs2 hs2'
  have hc' : decide ((i : Int) < (xs.length : Int)) = true := decide_eq_true (by omega)
  have hixa := idx_nat (n := xs.length) (i := i) hlt
  have hixb := idx_nat (n := ys.length) (i := i) hltb
  have hga : (xs.map encN)[i]? = some (encN a) := by rw [List.getElem?_map, hai]; rfl
  have hgb : (ys.map encN)[i]? = some (encN b) := by rw [List.getElem?_map, hbi]; rfl
  have hcall := hc a (List.mem_of_getElem? hai) b (List.mem_of_getElem? hbi)
  have hwr := wrap_nat (i := i) (by omega)
  have key := fun tm1 => ih (i + 1) (by omega) tm1
  rw [ea, eb, l12_0]
  simp only [sameNs]
  generalize sameN a b = sb at *
  obtain ⟨op, ni, txt, ty, ns, kids⟩ := a
  obtain ⟨tk, ts, targs⟩ := ty
  obtain ⟨op2, ni2, txt2, ty2, ns2, kids2⟩ := b
  obtain ⟨tk2, ts2, targs2⟩ := ty2
  simp only [encN] at hcall hga hgb
  cases sb with
  | true =>
   simp only [b12_0,B0,B1,B2,List.replicate,Nat.reduceAdd,Nat.reduceSub,Nat.reduceLeDiff,Nat.reduceLT,Nat.reduceEqDiff,reduceCtorEq,Int.reduceEq,Int.reduceLT,Int.reduceLE,lenA,hlen,h2,h3,h5,oa,ob,List.length_map,hc',hixa,hixb,hga,hgb,hcall,hwr,Bool.true_and]
   refine ex_imp (key _ ?_ ?_ ?_ ?_) fun _ _ _ h => h
   all_goals simp only [B3,Nat.reduceLT,Nat.reduceEqDiff,hlen,h2,h3]
  | false =>
   simp only [b12_0,B0,B1,B2,List.replicate,Nat.reduceAdd,Nat.reduceSub,Nat.reduceLeDiff,Nat.reduceLT,Nat.reduceEqDiff,reduceCtorEq,Int.reduceEq,Int.reduceLT,Int.reduceLE,lenA,hlen,h2,h3,h5,oa,ob,List.length_map,hc',hixa,hixb,hga,hgb,hcall,hwr,Bool.false_and]
   exact ⟨_, _, _, rfl, by simp only [List.length_set,hlen], rfl, by simp only [B3,Nat.reduceLT,Nat.reduceEqDiff,hlen,true_and,and_true,and_self,or_true]⟩
theorem s12 : ∀ (a b : NT), okN a → okN b → ∀ H, L 12 [.im (.agg (encN a)), .im (.agg (encN b))] H = some (.im (.bool (sameN a b)), H)
 | .mk op ni txt (.mk tk ts targs) s xs, .mk op2 ni2 txt2 (.mk tk2 ts2 targs2) s' ys, ha, hb, H => by
  simp only [okN] at ha hb
  obtain ⟨hs, hn, hga, hoa⟩ := ha
  obtain ⟨hs', hn', hgb, hob⟩ := hb
  have hc : ∀ H : Heap, ∀ a ∈ xs, ∀ b ∈ ys, L 12 [.im (.agg (encN a)), .im (.agg (encN b))] H = some (.im (.bool (sameN a b)), H) := fun H a ha b hb => s12 a b (okNs_mem hoa a ha) (okNs_mem hob b hb) H
  have ct := fun H => s22 (.mk tk ts targs) (.mk tk2 ts2 targs2) hga.1 hgb.1 H
  have hlen5 : decide ((xs.length : Int) = (ys.length : Int)) = decide (xs.length = ys.length) := by
   by_cases h : xs.length = ys.length
   ·rw [decide_eq_true h, decide_eq_true (by omega)]
   ·rw [decide_eq_false h, decide_eq_false (by omega)]
  simp only [encN,encNs_map,sameN]
  simp only [encT] at ct
  have hg0 : ∀ M : Heap, (H ++ M)[H.length]? = M[0]? := fun M => by rw [hget0]
  have hg1 : ∀ M : Heap, (H ++ M)[H.length + 1]? = M[1]? := fun M => by rw [hget]
  rw [leq F12]
  obtain ⟨hlen, hg⟩ := enter_at (f := f12) (args := [.im (.agg [.str op, .int .i64 ni, .str txt, .int .i64 tk, .sl ts (encTs targs), .sl s (xs.map encN)]), .im (.agg [.str op2, .int .i64 ni2, .str txt2, .int .i64 tk2, .sl ts2 (encTs targs2), .sl s' (ys.map encN)])]) (Nat.le_of_ble_eq_true rfl)
  have h0 := hg 0 _ rfl
  have h1 := hg 1 _ rfl
  generalize enterA f12 [.im (.agg [.str op, .int .i64 ni, .str txt, .int .i64 tk, .sl ts (encTs targs), .sl s (xs.map encN)]), .im (.agg [.str op2, .int .i64 ni2, .str txt2, .int .i64 tk2, .sl ts2 (encTs targs2), .sl s' (ys.map encN)])] = tm at *
  change tm.length = 61 at hlen
  rcases Bool.eq_false_or_eq_true (decide (op = op2)) with e1 | e1
  ·rcases Bool.eq_false_or_eq_true (decide (ni = ni2)) with e2 | e2
   ·rcases Bool.eq_false_or_eq_true (decide (txt = txt2)) with e3 | e3
    ·rcases Bool.eq_false_or_eq_true (sameT (.mk tk ts targs) (.mk tk2 ts2 targs2)) with e4 | e4
     ·rcases Bool.eq_false_or_eq_true (decide (xs.length = ys.length)) with e5 | e5
      ·have hl := of_decide_eq_true e5
       have key := l12 xs ys s s' hs hs' hl hn [.im (.str op), .im (.int .i64 ni), .im (.str txt), .im (.int .i64 tk), .im (.sl ts (encTs targs))] [.im (.str op2), .im (.int .i64 ni2), .im (.str txt2), .im (.int .i64 tk2), .im (.sl ts2 (encTs targs2))] H.length (H.length + 1) (H ++ [HO.obj none [[.im (.str op), .im (.int .i64 ni), .im (.str txt), .im (.int .i64 tk), .im (.sl ts (encTs targs)), .im (.sl s (xs.map encN))]], HO.obj none [[.im (.str op2), .im (.int .i64 ni2), .im (.str txt2), .im (.int .i64 tk2), .im (.sl ts2 (encTs targs2)), .im (.sl s' (ys.map encN))]]]) rfl rfl (by rw [hget0]; rfl) (by rw [hget]; rfl) (hc _) xs.length 0 (by omega)
       simp only [zc0,List.drop_zero] at key
       simp only [f12,e12_0,B0,B1,B2,List.replicate,Nat.reduceAdd,Nat.reduceSub,Nat.reduceLeDiff,Nat.reduceLT,Nat.reduceEqDiff,reduceCtorEq,Int.reduceEq,Int.reduceLT,Int.reduceLE,lenA,z_ops,z_nil,z_cons,z_guard,z_some,z_drop,z_do,z_not,z_not0,pairK,forall_eq_or_imp,stays,loadOf,List.reverse_cons,List.reverse_nil,List.mem_cons,List.not_mem_nil,or_false,forall_eq,true_or,or_true,Bool.true_and,hlen,h0,h1,hg0,hg1,e1,e2,e3,ct,e4,hlen5,e5,List.length_map,Bool.true_and]
       generalize hr : thenL (Λ c12_0 _ _) _ = r
       refine Exists.elim (thenL_inv hr (key _ ?_ ?_ ?_ ?_)) ?_
       iterate 4 simp only [B3,Nat.reduceLT,Nat.reduceEqDiff,hlen]
       clear hr key
       rintro e ⟨tm1, H1, ⟨hl1, rfl, hm⟩, rfl⟩
       rcases hm with ⟨he, rfl⟩ | ⟨he, rfl, g4⟩
       ·rw [he]
        simp only [B0,B1,B2,List.replicate,Nat.reduceAdd,Nat.reduceSub,Nat.reduceLeDiff,Nat.reduceLT,Nat.reduceEqDiff,reduceCtorEq,Int.reduceEq,Int.reduceLT,Int.reduceLE,lenA,endK,resA,tupA,hl1,leave_app]
       ·rw [he]
        simp only [B0,B1,B2,List.replicate,Nat.reduceAdd,Nat.reduceSub,Nat.reduceLeDiff,Nat.reduceLT,Nat.reduceEqDiff,reduceCtorEq,Int.reduceEq,Int.reduceLT,Int.reduceLE,lenA,endK,resA,tupA,hl1,g4,leave_app]
      ·simp only [f12,B0,B1,B2,List.replicate,Nat.reduceAdd,Nat.reduceSub,Nat.reduceLeDiff,Nat.reduceLT,Nat.reduceEqDiff,reduceCtorEq,Int.reduceEq,Int.reduceLT,Int.reduceLE,lenA,z_ops,z_nil,z_cons,z_guard,z_some,z_drop,z_do,z_not,z_not0,pairK,forall_eq_or_imp,stays,loadOf,List.reverse_cons,List.reverse_nil,List.mem_cons,List.not_mem_nil,or_false,forall_eq,true_or,or_true,Bool.true_and,endK,resA,tupA,hlen,h0,h1,hg0,hg1,e1,e2,e3,ct,e4,hlen5,e5,List.length_map,leave_app,Bool.true_and,Bool.false_and,Bool.and_false]
     ·simp only [f12,B0,B1,B2,List.replicate,Nat.reduceAdd,Nat.reduceSub,Nat.reduceLeDiff,Nat.reduceLT,Nat.reduceEqDiff,reduceCtorEq,Int.reduceEq,Int.reduceLT,Int.reduceLE,lenA,z_ops,z_nil,z_cons,z_guard,z_some,z_drop,z_do,z_not,z_not0,pairK,forall_eq_or_imp,stays,loadOf,List.reverse_cons,List.reverse_nil,List.mem_cons,List.not_mem_nil,or_false,forall_eq,true_or,or_true,Bool.true_and,endK,resA,tupA,hlen,h0,h1,hg0,hg1,e1,e2,e3,ct,e4,leave_app,Bool.true_and,Bool.false_and,Bool.and_false]
    ·simp only [f12,B0,B1,B2,List.replicate,Nat.reduceAdd,Nat.reduceSub,Nat.reduceLeDiff,Nat.reduceLT,Nat.reduceEqDiff,reduceCtorEq,Int.reduceEq,Int.reduceLT,Int.reduceLE,lenA,z_ops,z_nil,z_cons,z_guard,z_some,z_drop,z_do,z_not,z_not0,pairK,forall_eq_or_imp,stays,loadOf,List.reverse_cons,List.reverse_nil,List.mem_cons,List.not_mem_nil,or_false,forall_eq,true_or,or_true,Bool.true_and,endK,resA,tupA,hlen,h0,h1,hg0,hg1,e1,e2,e3,leave_app,Bool.true_and,Bool.false_and,Bool.and_false]
   ·simp only [f12,B0,B1,B2,List.replicate,Nat.reduceAdd,Nat.reduceSub,Nat.reduceLeDiff,Nat.reduceLT,Nat.reduceEqDiff,reduceCtorEq,Int.reduceEq,Int.reduceLT,Int.reduceLE,lenA,z_ops,z_nil,z_cons,z_guard,z_some,z_drop,z_do,z_not,z_not0,pairK,forall_eq_or_imp,stays,loadOf,List.reverse_cons,List.reverse_nil,List.mem_cons,List.not_mem_nil,or_false,forall_eq,true_or,or_true,Bool.true_and,endK,resA,tupA,hlen,h0,h1,hg0,hg1,e1,e2,leave_app,Bool.true_and,Bool.false_and,Bool.and_false]
  ·simp only [f12,B0,B1,B2,List.replicate,Nat.reduceAdd,Nat.reduceSub,Nat.reduceLeDiff,Nat.reduceLT,Nat.reduceEqDiff,reduceCtorEq,Int.reduceEq,Int.reduceLT,Int.reduceLE,lenA,z_ops,z_nil,z_cons,z_guard,z_some,z_drop,z_do,z_not,z_not0,pairK,forall_eq_or_imp,stays,loadOf,List.reverse_cons,List.reverse_nil,List.mem_cons,List.not_mem_nil,or_false,forall_eq,true_or,or_true,Bool.true_and,endK,resA,tupA,hlen,h0,h1,hg0,hg1,e1,leave_app,Bool.true_and,Bool.false_and,Bool.and_false]
termination_by a => SizeOf.sizeOf a
decreasing_by
 have := List.sizeOf_lt_of_mem ‹_ ∈ xs›
 simp only [NT.mk.sizeOf_spec]
 omega
end Go.Abs.Seat
end
section
set_option linter.unusedVariables false
set_option linter.unusedSimpArgs false
namespace Go.Abs.Seat
open Go.Proofs
set_option maxRecDepth 100000 in
theorem awakeE : runC bld T 400 10 [] [] = some (.im (.bool true), []) := by kernel_rfl
theorem s10 (H : Heap) : L 10 [] H = some (.im (.bool true), H) := lim_at bsh Tok Tno awakeE H
end Go.Abs.Seat
end
section
set_option linter.unusedVariables false
set_option linter.unusedSimpArgs false
namespace Go.Abs.Seat
open Go.Proofs
theorem okNs_of : ∀ {l : List NT}, (∀ a ∈ l, okN a) → okNs l
 | [], _ => trivial
 | a :: l, h => ⟨h a (List.mem_cons_self ..), okNs_of fun b hb => h b (List.mem_cons_of_mem _ hb)⟩
theorem okN_mk (op : List UInt8) (i : Int) (txt : List UInt8) {ty : KT} {kids : List NT} (ht : goodT ty) (hl : kids.length ≤ 1000) (h : ∀ a ∈ kids, okN a) : okN (mkN op i txt ty kids) := by
 unfold mkN
 simp only [okN]
 refine ⟨?_, hl, ht, okNs_of h⟩
 by_cases h0 : kids.length = 0
 ·exact .inl (List.length_eq_zero_iff.1 h0)
 ·right; rw [if_neg h0]
theorem okN_flat (op : List UInt8) (i : Int) (txt : List UInt8) : okN (mkN op i txt zeroT []) := okN_mk op i txt good_zero (by simp) (by simp)
theorem okN_zero : okN zeroN := okN_flat _ _ _
theorem parseP_good (s : List UInt8) : goodT (parseP s).1 := by
 unfold parseP
 split
 ·exact readP_good s 6 0
 ·exact good_zero
theorem typ_good (b : List UInt8) (p : Nat) : goodT (typP b p).1 := by
 unfold typP
 split <;> exact parseP_good _
theorem strP_ok (b : List UInt8) (p : Nat) : okN (strP b p).1 := by
 unfold strP
 split
 ·exact okN_zero
 ·exact okN_flat _ _ _
theorem numP_ok (b : List UInt8) (p : Nat) : okN (numP b p).1 := by
 unfold numP
 simp only
 generalize (if decide (peekB b p = 45) = true then p + 1 else p) = p1
 split
 ·exact okN_zero
 ·split
  ·exact okN_zero
  ·exact okN_flat _ _ _
theorem nameP_ok (b : List UInt8) (p : Nat) : okN (nameP b p).1 := by
 unfold nameP
 split
 ·exact okN_zero
 ·split
  ·exact okN_flat _ _ _
  ·exact okN_zero
def okSt (st : St) : Prop := goodT st.2.1 ∧ ∀ a ∈ st.2.2, okN a
theorem item_ok {rd : Nat → NT × Nat × Bool} {b : List UInt8} (hrd : ∀ p, okN (rd p).1) (c : UInt8) {st : St} (p : Nat) (h : okSt st) : okSt (itemX rd b c st p).1 := by
 have happ : ∀ x, okN x → ∀ a ∈ st.2.2 ++ [x], okN a := fun x hx a ha => by
  rcases List.mem_append.1 ha with h1 | h1
  ·exact h.2 a h1
  ·rw [List.mem_singleton.1 h1]; exact hx
 unfold itemX
 split
 ·split <;> exact h
 ·split
  ·exact ⟨typ_good _ _, h.2⟩
  ·split
   ·exact ⟨h.1, happ _ (nameP_ok b p)⟩
   ·exact ⟨h.1, happ _ (hrd p)⟩
theorem go_ok {rd : Nat → NT × Nat × Bool} {b : List UInt8} (hrd : ∀ p, okN (rd p).1) (lst : Bool) : ∀ (f : Nat) (mark : UInt8) (cs : List UInt8) (st : St) (p : Nat), okSt st → okSt (goX rd b lst f mark cs st p).1 ∧ (goX rd b lst f mark cs st p).1.2.2.length ≤ st.2.2.length + f
 | 0, mark, [], st, p, h => by unfold goX; exact ⟨h, by simp⟩
 | f + 1, mark, [], st, p, h => by unfold goX; exact ⟨h, by simp only; omega⟩
 | 0, mark, c :: cs, st, p, h => by unfold goX; exact ⟨h, by simp⟩
 | f + 1, mark, c :: cs, st, p, h => by
  have h2 := item_ok hrd c (signP b p false mark).1 h (b := b)
  have h3 := item_kids rd b c st (signP b p false mark).1
  unfold goX
  split
  ·exact ⟨h, by simp only; omega⟩
  ·split
   ·exact ⟨h2, by omega⟩
   ·split
    ·have := go_ok (b := b) hrd lst f 44 (c :: cs) (itemX rd b c st (signP b p false mark).1).1 (itemX rd b c st (signP b p false mark).1).2.1 h2
     exact ⟨this.1, by omega⟩
    ·have := go_ok (b := b) hrd lst f 44 cs (itemX rd b c st (signP b p false mark).1).1 (itemX rd b c st (signP b p false mark).1).2.1 h2
     exact ⟨this.1, by omega⟩
theorem call_ok {rd : Nat → NT × Nat × Bool} {b : List UInt8} (hrd : ∀ p, okN (rd p).1) (w ps : List UInt8) (p : Nat) : okN (callX rd b w ps p).1 := by
 obtain ⟨h1, h2⟩ := go_ok (b := b) hrd (decide (ps = [43])) 70 40 ps (0, zeroT, []) p ⟨good_zero, by simp⟩
 unfold callX
 split
 ·exact okN_zero
 ·exact okN_mk _ _ _ h1.1 (by simp at h2; omega) h1.2
theorem expr_ok (b : List UInt8) : ∀ (d p : Nat), okN (exprX b d p).1
 | 0, p => okN_zero
 | d + 1, p => by
  unfold exprX
  split
  ·exact strP_ok _ _
  ·split
   ·exact numP_ok _ _
   ·split
    ·exact okN_zero
    ·split
     ·exact okN_zero
     ·split
      ·exact okN_flat _ _ _
      ·split
       ·exact okN_flat _ _ _
       ·split
        ·exact okN_zero
        ·exact call_ok (fun p => expr_ok b d p) _ _ _
theorem readX_ok (s : List UInt8) : okN (readX s).1 := by
 unfold readX
 split
 ·exact okN_zero
 ·split
  ·exact okN_zero
  ·exact expr_ok s 24 0
mutual
theorem clone_narrow : ∀ (t : KT), narrow t → narrow (cloneT t)
 | .mk k s args, h => by
  have hl : (cloneTs args).length = args.length := by rw [cloneTs_map]; simp
  simp only [narrow] at h
  simp only [cloneT,narrow,hl]
  exact ⟨h.1, clone_narrows args h.2⟩
theorem clone_narrows : ∀ (l : List KT), narrows l → narrows (cloneTs l)
 | [], h => by simp only [cloneTs,narrows]
 | a :: l, h => by
  simp only [narrows] at h
  simp only [cloneTs,narrows]
  exact ⟨clone_narrow a h.1, clone_narrows l h.2⟩
end
mutual
theorem clone_okN : ∀ t : NT, okN t → okN (cloneN t)
 | .mk op i txt ty s kids, h => by
  simp only [okN] at h
  simp only [cloneN]
  have hl : (cloneNs kids).length = kids.length := by rw [cloneNs_map]; simp
  have := clone_okNs kids h.2.2.2
  refine okN_mk _ _ _ ?_ (by rw [hl]; exact h.2.1) (fun a ha => okNs_mem this a ha)
  refine ⟨clone_ok ty h.2.2.1.1, clone_narrow ty h.2.2.1.2⟩
theorem clone_okNs : ∀ l : List NT, okNs l → okNs (cloneNs l)
 | [], _ => trivial
 | a :: l, h => by
  simp only [okNs] at h
  simp only [cloneNs,okNs]
  exact ⟨clone_okN a h.1, clone_okNs l h.2⟩
end
mutual
theorem same_cloneN : ∀ t : NT, sameN (cloneN t) t = true
 | .mk op i txt ty s kids => by
  have hl : (cloneNs kids).length = kids.length := by rw [cloneNs_map]; simp
  simp only [cloneN,mkN,sameN,decide_true,Bool.true_and,same_clone,hl,same_cloneNs kids]
theorem same_cloneNs : ∀ l : List NT, sameNs (cloneNs l) l = true
 | [] => rfl
 | a :: l => by simp only [cloneNs,sameNs,same_cloneN a,same_cloneNs l,Bool.and_self]
end
theorem s3 (s : List UInt8) : ∃ H', L 3 [.im (.str s)] [] = some (.im (.bool true), H') := by
 rw [leq F3]
 have hK : ∀ (tm : List AV) (H : Heap), tm.length = 76 → tm.getD 2 undefA = .im (.bool true) → ∃ H', endK f3 [] .ret tm H = some (.im (.bool true), H') := fun tm H hl h => by
  simp only [endK,f3,resA,h,tupA,leave_nil]
  exact ⟨_, rfl⟩
 have hcode : f3.code = f3.code := rfl
 conv at hcode => rhs; simp only [f3]
 rw [hcode]
 clear hcode
 generalize endK f3 [] = K at *
 obtain ⟨hlen, ha⟩ := enter_at (f := f3) (args := [.im (.str s)]) (Nat.le_of_ble_eq_true rfl)
 have h0 := ha 0 _ rfl
 generalize enterA f3 [.im (.str s)] = tm at *
 change tm.length = 76 at hlen
 have c9 := s9 s
 have c10 := s10
 unfold parseX at c9
 by_cases hl : 4096 < s.length
 ·have hc : decide ((4096 : Int) < (s.length : Int)) = true := decide_eq_true (by omega)
  rw [if_pos hl] at c9
  simp only [zeroN,enc_flat,zc0] at c9
  simp only [B0,B1,B2,List.replicate,Nat.reduceAdd,Nat.reduceSub,Nat.reduceLeDiff,Nat.reduceLT,Nat.reduceEqDiff,reduceCtorEq,Int.reduceEq,Int.reduceLT,Int.reduceLE,lenA,z_ops,z_nil,z_cons,z_guard,z_some,z_drop,z_do,z_not,z_not0,pairK,forall_eq_or_imp,stays,loadOf,List.reverse_cons,List.reverse_nil,List.mem_cons,List.not_mem_nil,or_false,forall_eq,true_or,or_true,Bool.true_and,hlen,h0,hc,c9,c10]
  exact hK _ _ (by simp only [List.length_set,hlen]) (by simp only [B3,Nat.reduceLT,Nat.reduceEqDiff,hlen])
 ·have hc : decide ((4096 : Int) < (s.length : Int)) = false := decide_eq_false (by omega)
  rw [if_neg hl] at c9
  have c11 := s11 s (by omega)
  have hok := readX_ok s
  have c13 := s13 (readX s).1 hok
  have c12 := s12 (cloneN (readX s).1) (readX s).1 (clone_okN _ hok) hok
  rw [same_cloneN] at c12
  have hbadz : (readX s).2.2 = true → (readX s).1 = zeroN := fun h => by
   unfold readX at h ⊢
   split
   ·rfl
   ·split
    ·rfl
    ·rename_i h1 h2; rw [if_neg h1, if_neg h2] at h; simp at h
  have hat : (readX s).2.2 = false → (readX s).2.1 = 0 := fun h => by
   unfold readX at h ⊢
   split
   ·rename_i h1; rw [if_pos h1] at h; simp at h
   ·split
    ·rename_i h1 h2; rw [if_neg h1, if_pos h2] at h; simp at h
    ·rfl
  generalize readX s = r at *
  obtain ⟨nd, q, bad⟩ := r
  simp only at c9 c11 c13 c12 hbadz hat
  cases bad with
  | true =>
   have hz := hbadz rfl
   subst hz
   simp only [if_true,Bool.not_true,zeroN,enc_flat,zc0] at c9 c11
   have hqq : decide ((q : Int) = (q : Int)) = true := decide_eq_true rfl
   have hl0 : decide (((0 : Nat) : Int) = 0) = true := rfl
   simp only [B0,B1,B2,List.replicate,Nat.reduceAdd,Nat.reduceSub,Nat.reduceLeDiff,Nat.reduceLT,Nat.reduceEqDiff,reduceCtorEq,Int.reduceEq,Int.reduceLT,Int.reduceLE,lenA,z_ops,z_nil,z_cons,z_guard,z_some,z_drop,z_do,z_not,z_not0,pairK,forall_eq_or_imp,stays,loadOf,List.reverse_cons,List.reverse_nil,List.mem_cons,List.not_mem_nil,or_false,forall_eq,true_or,or_true,Bool.true_and,hlen,h0,hc,c9,c11,c10,hqq,hl0]
   exact hK _ _ (by simp only [List.length_set,hlen]) (by simp only [B3,Nat.reduceLT,Nat.reduceEqDiff,hlen])
  | false =>
   have hq := hat rfl
   subst hq
   generalize cloneN nd = cd at *
   obtain ⟨op, ni, txt, ty, ns, kids⟩ := nd
   obtain ⟨tk, ts, targs⟩ := ty
   obtain ⟨op2, ni2, txt2, ty2, ns2, kids2⟩ := cd
   obtain ⟨tk2, ts2, targs2⟩ := ty2
   simp only [Bool.false_eq_true,if_false,Bool.not_false,encN,zc0] at c9 c11 c12 c13
   simp only [B0,B1,B2,List.replicate,Nat.reduceAdd,Nat.reduceSub,Nat.reduceLeDiff,Nat.reduceLT,Nat.reduceEqDiff,reduceCtorEq,Int.reduceEq,Int.reduceLT,Int.reduceLE,lenA,z_ops,z_nil,z_cons,z_guard,z_some,z_drop,z_do,z_not,z_not0,pairK,forall_eq_or_imp,stays,loadOf,List.reverse_cons,List.reverse_nil,List.mem_cons,List.not_mem_nil,or_false,forall_eq,true_or,or_true,Bool.true_and,hlen,h0,hc,c9,c11,c12,c13,c10]
   exact hK _ _ (by simp only [List.length_set,hlen]) (by simp only [B3,Nat.reduceLT,Nat.reduceEqDiff,hlen])
end Go.Abs.Seat
end
