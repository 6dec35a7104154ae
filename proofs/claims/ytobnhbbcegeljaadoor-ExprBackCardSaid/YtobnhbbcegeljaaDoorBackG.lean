/- Part 7 of what the claim rests on. -/
import Derived.Test.YtobnhbbcegeljaaDoorBackA
import Derived.Test.YtobnhbbcegeljaaDoorBackB
import Derived.Test.YtobnhbbcegeljaaDoorBackC
import Derived.Test.YtobnhbbcegeljaaDoorBackD
import Derived.Test.YtobnhbbcegeljaaDoorBackE
import Derived.Test.YtobnhbbcegeljaaDoorBackF
section
set_option linter.unusedVariables false
set_option linter.unusedSimpArgs false
namespace Go.Abs.Seat
open Go.Proofs
theorem gath_len {tid : TypeId} {s n : Nat} {v : AV} {H : Heap} {es : List (List Dat)} (h : Gath tid s n v H es) : lenA v = some es.length := by
 rcases h with ⟨rfl, rfl⟩ | ⟨h1, tok, h2, rfl, h4⟩ <;> rfl
theorem tl35_all (b : List UInt8) (hb : b.length ≤ 2305843009213693952) (ir N : Nat) (hne : ir ≠ N + 1) (w ps : List UInt8) (i : Nat) (hi : i ≤ 100) (q : Nat) (hq : q ≤ b.length) (bad : Bool) (st : St) (tm : List AV) (H : Heap) (hlen : tm.length = 112) (h0 : tm.getD 0 undefA = .ptr ir 0 0) (h2 : tm.getD 2 undefA = .im (.str ps)) (h9 : tm.getD 9 undefA = .ptr (N + 1) 0 0) (h11 : tm.getD 11 undefA = .im (.int .i64 (i : Int)))
  (hir : H[ir]? = some (objS b q bad)) (hnd : NodeAt 27 (N + 2) (N + 1) w st H) {R : Type} (K : AEx → List AV → Heap → Option R) :
  ∃ tm' H' q', exec0 L Λ tl35 tm H K = K .normal tm' H' ∧ H' = H.set ir (objS b q' bad) ∧ tm'.length = 112 ∧ Regs [0, 1, 2, 3, 8, 9, 10] tm tm' ∧ tm'.getD 11 undefA = .im (.int .i64 (if (!bad && moreX b (decide (ps = [43])) st q) = true then (i : Int) - 1 else (i : Int))) ∧ (bad = true → q' = q) ∧ (q' = q ∨ q' = skipB b q) := by
 have hirl := (List.getElem?_eq_some_iff.1 hir).1
 have hself : H = H.set ir (objS b q bad) := (set_same hir).symm
 obtain ⟨k, y, v, o1, hty, hG⟩ := hnd
 have hlv := gath_len hG
 rw [List.length_map] at hlv
 have c1 := s19' (b := b) hirl (by omega) hq bad
 rw [← hself] at c1
 have c2 := s29' (b := b) hirl (by omega) (skipB b q) bad
 have hsub : IntKind.i64.wrap ((i : Int) - 1) = (i : Int) - 1 := Go.Abs.Seat.wrap_small _ (by omega)
 have e64 : decide ((st.2.2.length : Int) < 64) = decide (st.2.2.length < 64) := by
  by_cases h : st.2.2.length < 64
  ·rw [decide_eq_true h, decide_eq_true (by omega)]
  ·rw [decide_eq_false h, decide_eq_false (by omega)]
 have e44 : decide (((peekB b (skipB b q)).toNat : Int) = 44) = decide (peekB b (skipB b q) = 44) := byte_eq _ 44
 unfold moreX
 simp only [objS] at hir c1 c2
 rcases Bool.eq_false_or_eq_true (decide (ps = [43])) with e1 | e1
 ·cases bad with
  | true =>
   simp only [Bool.not_true,Bool.false_and,Bool.false_eq_true,if_false]
   simp only [tl35,B0,B1,B2,List.replicate,Nat.reduceAdd,Nat.reduceSub,Nat.reduceLeDiff,Nat.reduceLT,Nat.reduceEqDiff,reduceCtorEq,Int.reduceEq,Int.reduceLT,Int.reduceLE,z_ops,z_nil,z_cons,z_guard,z_some,z_drop,z_do,z_not,z_not0,pairK,forall_eq_or_imp,stays,loadOf,List.reverse_cons,List.reverse_nil,List.mem_cons,List.not_mem_nil,or_false,forall_eq,true_or,or_true,Bool.true_and,hlen,h0,h2,h9,h11,hir,e1]
   refine ⟨_, _, q, rfl, hself, by simp only [List.length_set,hlen], ?_, ?_, fun _ => rfl, .inl rfl⟩
   ·intro j hj
    simp only [List.mem_cons,List.not_mem_nil,or_false] at hj
    rcases hj with rfl | rfl | rfl | rfl | rfl | rfl | rfl <;> simp only [B3,Nat.reduceLT,Nat.reduceEqDiff,hlen]
   ·simp only [B3,Nat.reduceLT,Nat.reduceEqDiff,hlen,h11]
  | false =>
   rcases Bool.eq_false_or_eq_true (decide (st.2.2.length < 64)) with e2 | e2
   ·rcases Bool.eq_false_or_eq_true (decide (peekB b (skipB b q) = 44)) with e3 | e3
    ·simp only [e1,e2,e3,Bool.not_false,Bool.and_self,if_true]
     simp only [tl35,B0,B1,B2,List.replicate,Nat.reduceAdd,Nat.reduceSub,Nat.reduceLeDiff,Nat.reduceLT,Nat.reduceEqDiff,reduceCtorEq,Int.reduceEq,Int.reduceLT,Int.reduceLE,z_ops,z_nil,z_cons,z_guard,z_some,z_drop,z_do,z_not,z_not0,pairK,forall_eq_or_imp,stays,loadOf,List.reverse_cons,List.reverse_nil,List.mem_cons,List.not_mem_nil,or_false,forall_eq,true_or,or_true,Bool.true_and,hlen,h0,h2,h9,h11,hir,o1,hlv,e64,e44,e1,e2,e3,c1,c2,hsub]
     refine ⟨_, _, skipB b q, rfl, rfl, by simp only [List.length_set,hlen], ?_, ?_, fun h => by simp at h, .inr rfl⟩
     ·intro j hj
      simp only [List.mem_cons,List.not_mem_nil,or_false] at hj
      rcases hj with rfl | rfl | rfl | rfl | rfl | rfl | rfl <;> simp only [B3,Nat.reduceLT,Nat.reduceEqDiff,hlen]
     ·simp only [B3,Nat.reduceLT,Nat.reduceEqDiff,hlen,h11]
    ·simp only [e1,e2,e3,Bool.not_false,Bool.and_self,Bool.and_false,Bool.false_eq_true,if_false]
     simp only [tl35,B0,B1,B2,List.replicate,Nat.reduceAdd,Nat.reduceSub,Nat.reduceLeDiff,Nat.reduceLT,Nat.reduceEqDiff,reduceCtorEq,Int.reduceEq,Int.reduceLT,Int.reduceLE,z_ops,z_nil,z_cons,z_guard,z_some,z_drop,z_do,z_not,z_not0,pairK,forall_eq_or_imp,stays,loadOf,List.reverse_cons,List.reverse_nil,List.mem_cons,List.not_mem_nil,or_false,forall_eq,true_or,or_true,Bool.true_and,hlen,h0,h2,h9,h11,hir,o1,hlv,e64,e44,e1,e2,e3,c1,c2,hsub]
     refine ⟨_, _, skipB b q, rfl, rfl, by simp only [List.length_set,hlen], ?_, ?_, fun h => by simp at h, .inr rfl⟩
     ·intro j hj
      simp only [List.mem_cons,List.not_mem_nil,or_false] at hj
      rcases hj with rfl | rfl | rfl | rfl | rfl | rfl | rfl <;> simp only [B3,Nat.reduceLT,Nat.reduceEqDiff,hlen]
     ·simp only [B3,Nat.reduceLT,Nat.reduceEqDiff,hlen,h11]
   ·simp only [e1,e2,Bool.not_false,Bool.and_self,Bool.false_and,Bool.and_false,Bool.false_eq_true,if_false]
    simp only [tl35,B0,B1,B2,List.replicate,Nat.reduceAdd,Nat.reduceSub,Nat.reduceLeDiff,Nat.reduceLT,Nat.reduceEqDiff,reduceCtorEq,Int.reduceEq,Int.reduceLT,Int.reduceLE,z_ops,z_nil,z_cons,z_guard,z_some,z_drop,z_do,z_not,z_not0,pairK,forall_eq_or_imp,stays,loadOf,List.reverse_cons,List.reverse_nil,List.mem_cons,List.not_mem_nil,or_false,forall_eq,true_or,or_true,Bool.true_and,hlen,h0,h2,h9,h11,hir,o1,hlv,e64,e1,e2]
    refine ⟨_, _, q, rfl, hself, by simp only [List.length_set,hlen], ?_, ?_, fun h => rfl, .inl rfl⟩
    ·intro j hj
     simp only [List.mem_cons,List.not_mem_nil,or_false] at hj
     rcases hj with rfl | rfl | rfl | rfl | rfl | rfl | rfl <;> simp only [B3,Nat.reduceLT,Nat.reduceEqDiff,hlen]
    ·simp only [B3,Nat.reduceLT,Nat.reduceEqDiff,hlen,h11]
 ·simp only [e1,Bool.false_and,Bool.and_false,Bool.false_eq_true,if_false]
  simp only [tl35,B0,B1,B2,List.replicate,Nat.reduceAdd,Nat.reduceSub,Nat.reduceLeDiff,Nat.reduceLT,Nat.reduceEqDiff,reduceCtorEq,Int.reduceEq,Int.reduceLT,Int.reduceLE,z_ops,z_nil,z_cons,z_guard,z_some,z_drop,z_do,z_not,z_not0,pairK,forall_eq_or_imp,stays,loadOf,List.reverse_cons,List.reverse_nil,List.mem_cons,List.not_mem_nil,or_false,forall_eq,true_or,or_true,Bool.true_and,hlen,h0,h2,h9,h11,hir,e1]
  refine ⟨_, _, q, rfl, hself, by simp only [List.length_set,hlen], ?_, ?_, fun h => rfl, .inl rfl⟩
  ·intro j hj
   simp only [List.mem_cons,List.not_mem_nil,or_false] at hj
   rcases hj with rfl | rfl | rfl | rfl | rfl | rfl | rfl <;> simp only [B3,Nat.reduceLT,Nat.reduceEqDiff,hlen]
  ·simp only [B3,Nat.reduceLT,Nat.reduceEqDiff,hlen,h11]
theorem tl35_elim {R : Type} {P : Option R → Prop} {b : List UInt8} {ir : Nat} {ps : List UInt8} {i q : Nat} {bad : Bool} {st : St} {tm : List AV} {H : Heap} {K : AEx → List AV → Heap → Option R}
  (h : ∃ tm' H' q', exec0 L Λ tl35 tm H K = K .normal tm' H' ∧ H' = H.set ir (objS b q' bad) ∧ tm'.length = 112 ∧ Regs [0, 1, 2, 3, 8, 9, 10] tm tm' ∧ tm'.getD 11 undefA = .im (.int .i64 (if (!bad && moreX b (decide (ps = [43])) st q) = true then (i : Int) - 1 else (i : Int))) ∧ (bad = true → q' = q) ∧ (q' = q ∨ q' = skipB b q))
  (hP : ∀ tm' q', tm'.length = 112 → Regs [0, 1, 2, 3, 8, 9, 10] tm tm' → tm'.getD 11 undefA = .im (.int .i64 (if (!bad && moreX b (decide (ps = [43])) st q) = true then (i : Int) - 1 else (i : Int))) → (bad = true → q' = q) → (q' = q ∨ q' = skipB b q) → P (K .normal tm' (H.set ir (objS b q' bad)))) : P (exec0 L Λ tl35 tm H K) := by
 obtain ⟨tm', H', q', h1, rfl, h2, h3, h4, h5, h6⟩ := h
 rw [h1]
 exact hP tm' q' h2 h3 h4 h5 h6
theorem But2.refl {n ir id : Nat} {H : Heap} : But2 n ir id H H := ⟨Nat.le_refl _, fun _ _ _ _ => rfl⟩
theorem But2.trans {n ir id : Nat} {A B C : Heap} (h : But2 n ir id A B) (h2 : But2 n ir id B C) : But2 n ir id A C :=
 ⟨Nat.le_trans h.1 h2.1, fun i a b c => (h2.2 i a b c).trans (h.2 i a b c)⟩
theorem But2.set {n ir id : Nat} {A : Heap} (o : HO) : But2 n ir id A (A.set ir o) := ⟨by simp, fun i _ h _ => List.getElem?_set_ne (fun e => h e.symm)⟩
theorem Regs.trans {l : List Nat} {a b c : List AV} (h : Regs l a b) (h2 : Regs l b c) : Regs l a c := fun j hj => (h2 j hj).trans (h j hj)
theorem Regs.sub {l l' : List Nat} {a b : List AV} (h : Regs l a b) (hl : ∀ j ∈ l', j ∈ l) : Regs l' a b := fun j hj => h j (hl j hj)
def Gone (b w : List UInt8) (ir N : Nat) (tm : List AV) (H : Heap) (r : St × Nat × Bool) (e : AEx) (tm' : List AV) (H' : Heap) : Prop :=
 e = .exit 0 ∧ tm'.length = 112 ∧ Regs [0, 1, 2, 3, 8, 9] tm tm' ∧ But2 (N + 2) ir (N + 1) H H' ∧ ∃ q' st', H'[ir]? = some (objS b q' r.2.2) ∧ NodeAt 27 (N + 2) (N + 1) w st' H' ∧ q' ≤ b.length ∧ (r.2.2 = true → q' = r.2.1) ∧ (r.2.2 = false → st' = r.1 ∧ ∀ c, signP b q' false c = signP b r.2.1 false c)
theorem Gone.before {b w : List UInt8} {ir N : Nat} {tm tm0 : List AV} {H H0 : Heap} {r : St × Nat × Bool} {e : AEx} {tm' : List AV} {H' : Heap} (h : Gone b w ir N tm H r e tm' H') (ht : Regs [0, 1, 2, 3, 8, 9] tm0 tm) (hh : But2 (N + 2) ir (N + 1) H0 H) : Gone b w ir N tm0 H0 r e tm' H' :=
 ⟨h.1, h.2.1, ht.trans h.2.2.1, hh.trans h.2.2.2.1, h.2.2.2.2⟩
theorem l35_stop {b w ps : List UInt8} {ir N : Nat} {z : Int} {tm : List AV} {H : Heap} {q : Nat} {st : St} {r : St × Nat × Bool} (hr : r.2 = (q, true)) (hq : q ≤ b.length) (hlen : tm.length = 112) (h0 : tm.getD 0 undefA = .ptr ir 0 0) (h2 : tm.getD 2 undefA = .im (.str ps)) (h11 : tm.getD 11 undefA = .im (.int .i64 z)) (hir : H[ir]? = some (objS b q true)) (hnd : NodeAt 27 (N + 2) (N + 1) w st H) :
  ∃ e tm' H', Λ c35_0 tm H = some (e, tm', H') ∧ Gone b w ir N tm H r e tm' H' := by
 have hir' := hir
 simp only [objS] at hir
 have fin : ∀ tm', tm'.length = 112 → Regs [0, 1, 2, 3, 8, 9] tm tm' → Gone b w ir N tm H r (.exit 0) tm' H := fun tm' h1 h2 => by
  refine ⟨rfl, h1, h2, .refl, q, st, ?_, hnd, hq, fun _ => by rw [hr], fun h => by rw [hr] at h; simp at h⟩
  rw [hr]; exact hir'
 rw [l35_0, cut35]
 rcases Bool.eq_false_or_eq_true (decide (z < (ps.length : Int))) with e1 | e1
 all_goals simp only [T35,B0,B1,B2,List.replicate,Nat.reduceAdd,Nat.reduceSub,Nat.reduceLeDiff,Nat.reduceLT,Nat.reduceEqDiff,reduceCtorEq,Int.reduceEq,Int.reduceLT,Int.reduceLE,lenA,hlen,h0,h2,h11,hir,e1]
 all_goals refine ⟨_, _, _, rfl, fin _ (by simp only [List.length_set,hlen]) ?_⟩
 all_goals
  intro j hj
  simp only [List.mem_cons,List.not_mem_nil,or_false] at hj
  rcases hj with rfl | rfl | rfl | rfl | rfl | rfl <;> simp only [B3,Nat.reduceLT,Nat.reduceEqDiff,hlen]
theorem item_kids (rd : Nat → NT × Nat × Bool) (b : List UInt8) (c : UInt8) (st : St) (p : Nat) : (itemX rd b c st p).1.2.2.length ≤ st.2.2.length + 1 := by
 unfold itemX
 split
 ·split <;> simp
 ·split
  ·simp
  ·split <;> simp
theorem item_kids2 (rd : Nat → NT × Nat × Bool) (b : List UInt8) (c : UInt8) (st : St) (p : Nat) : st.2.2.length ≤ (itemX rd b c st p).1.2.2.length := by
 unfold itemX
 split
 ·split <;> simp
 ·split
  ·simp
  ·split <;> simp
theorem item_kids3 (rd : Nat → NT × Nat × Bool) (b : List UInt8) (c : UInt8) (st : St) (p : Nat) (hc : c = 43) : (itemX rd b c st p).1.2.2.length = st.2.2.length + 1 := by
 unfold itemX
 rw [if_neg (by rw [hc]; decide), if_neg (by rw [hc]; decide), if_neg (by rw [hc]; decide)]
 simp
theorem l35 (b : List UInt8) (hb : b.length ≤ 2305843009213693952) (ir N : Nat) (hirN : ir < N) (w ps : List UInt8) (hps : ps.length ≤ 5) (d d' : Int) (hd : IntKind.i64.wrap (d - 1) = d') (rd : Nat → NT × Nat × Bool) (hrdl : ∀ p, p ≤ b.length → (rd p).2.1 ≤ b.length)
  (hcall : ∀ c ∈ ps, isE c = true → ∀ (p : Nat) (H : Heap), p ≤ b.length → H[ir]? = some (objS b p false) → ∃ nd, L 18 [.ptr ir 0 0, .im (.int .i64 d')] H = some (.im (.agg (encN nd)), H.set ir (objS b (rd p).2.1 (rd p).2.2)) ∧ ((rd p).2.2 = false → nd = (rd p).1)) :
  ∀ (f : Nat) (mark : UInt8) (i : Nat) (cs : List UInt8) (st : St) (p p' : Nat) (tm : List AV) (H : Heap), mark ≠ 0 → ps.drop i = cs → i ≤ ps.length → cs.length + (64 - st.2.2.length) ≤ f → st.2.2.length + cs.length ≤ 69 → p ≤ b.length → p' ≤ b.length → (∀ c, signP b p' false c = signP b p false c) →
   tm.length = 112 → tm.getD 0 undefA = .ptr ir 0 0 → tm.getD 2 undefA = .im (.str ps) → tm.getD 3 undefA = .im (.int .i64 d) → tm.getD 9 undefA = .ptr (N + 1) 0 0 → tm.getD 10 undefA = .im (.int .u8 (mark.toNat : Int)) → tm.getD 11 undefA = .im (.int .i64 (i : Int)) →
   H[ir]? = some (objS b p' false) → NodeAt 27 (N + 2) (N + 1) w st H → N + 2 ≤ H.length →
   ∃ e tm' H', Λ c35_0 tm H = some (e, tm', H') ∧ Gone b w ir N tm H (goX rd b (decide (ps = [43])) f mark cs st p) e tm' H'
 | f, mark, i, [], st, p, p', tm, H, hm, hcs, hi, hf, hk, hp, hp', hpp, hlen, h0, h2, h3, h9, h10, h11, hir, hnd, hN => by
  have hil : ps.length ≤ i := List.drop_eq_nil_iff.1 hcs
  have e1 : decide ((i : Int) < (ps.length : Int)) = false := decide_eq_false (by omega)
  have hgo : goX rd b (decide (ps = [43])) f mark [] st p = (st, p, false) := by cases f <;> rfl
  rw [hgo]
  have hir' := hir
  simp only [objS] at hir
  rw [l35_0, cut35]
  simp only [T35,B0,B1,B2,List.replicate,Nat.reduceAdd,Nat.reduceSub,Nat.reduceLeDiff,Nat.reduceLT,Nat.reduceEqDiff,reduceCtorEq,Int.reduceEq,Int.reduceLT,Int.reduceLE,lenA,hlen,h0,h2,h11,hir,e1]
  refine ⟨_, _, _, rfl, rfl, by simp only [List.length_set,hlen], ?_, .refl, p', st, hir', hnd, hp', fun h => by simp at h, fun _ => ⟨rfl, hpp⟩⟩
  intro j hj
  simp only [List.mem_cons,List.not_mem_nil,or_false] at hj
  rcases hj with rfl | rfl | rfl | rfl | rfl | rfl <;> simp only [B3,Nat.reduceLT,Nat.reduceEqDiff,hlen]
 | 0, mark, i, c :: cs, st, p, p', tm, H, hm, hcs, hi, hf, hk, hp, hp', hpp, hlen, h0, h2, h3, h9, h10, h11, hir, hnd, hN => by simp at hf
 | f + 1, mark, i, c :: cs, st, p, p', tm, H, hm, hcs, hi, hf, hk, hp, hp', hpp, hlen, h0, h2, h3, h9, h10, h11, hir, hnd, hN => by
  have hil : i < ps.length := by
   rcases Nat.lt_or_ge i ps.length with h | h
   ·exact h
   ·rw [List.drop_of_length_le h] at hcs; simp at hcs
  have hci : ps[i]? = some c := by
   have := List.getElem?_drop (xs := ps) (i := i) (j := 0)
   rw [hcs] at this; simpa using this.symm
  have hcs' : ps.drop (i + 1) = cs := by
   rw [← List.drop_drop, hcs]; rfl
  have hcm : c ∈ ps := List.mem_of_getElem? hci
  have hirl := (List.getElem?_eq_some_iff.1 hir).1
  have e1 : decide ((i : Int) < (ps.length : Int)) = true := decide_eq_true (by omega)
  have c1 := s53 b p' ir false mark H hm hir (by omega) hp'
  rw [hpp mark] at c1
  have hsl := sign_len (bad := false) (c := mark) hp hm
  have hir' := hir
  simp only [objS] at hir
  rw [l35_0, cut35]
  generalize hR : goX rd b (decide (ps = [43])) (f + 1) mark (c :: cs) st p = r
  unfold goX at hR
  generalize hsg : signP b p false mark = sg at *
  obtain ⟨q, bad⟩ := sg
  simp only at c1 hsl hR
  cases bad with
  | true =>
   rw [if_pos rfl] at hR
   subst hR
   have hg : (H.set ir (objS b q true))[ir]? = some (objS b q true) := List.getElem?_set_self hirl
   have hg' := hg
   simp only [objS] at hg' c1
   simp only [T35,S35,M35,B35,B0,B1,B2,List.replicate,Nat.reduceAdd,Nat.reduceSub,Nat.reduceLeDiff,Nat.reduceLT,Nat.reduceEqDiff,reduceCtorEq,Int.reduceEq,Int.reduceLT,Int.reduceLE,lenA,hlen,h0,h2,h10,h11,hir,e1,c1,hg']
   refine ⟨_, _, _, rfl, rfl, by simp only [List.length_set,hlen], ?_, .set _, q, st, hg, hnd.set (by omega) hir' _, hsl, fun _ => rfl, fun h => by simp at h⟩
   intro j hj
   simp only [List.mem_cons,List.not_mem_nil,or_false] at hj
   rcases hj with rfl | rfl | rfl | rfl | rfl | rfl <;> simp only [B3,Nat.reduceLT,Nat.reduceEqDiff,hlen]
  | false =>
   rw [if_neg (by simp)] at hR
   have hg : (H.set ir (objS b q false))[ir]? = some (objS b q false) := List.getElem?_set_self hirl
   have hg' := hg
   have hnd1 : NodeAt 27 (N + 2) (N + 1) w st (H.set ir (objS b q false)) := hnd.set (by omega) hir' _
   have hN1 : N + 2 ≤ (H.set ir (objS b q false)).length := by simpa using hN
   have hcl := fun he => hcall c hcm he q _ hsl hg
   have hB1 : But2 (N + 2) ir (N + 1) H (H.set ir (objS b q false)) := .set _
   have hkd := item_kids rd b c st q
   have hkd2 := item_kids2 rd b c st q
   have hkd3 := item_kids3 rd b c st q
   have hil2 := item_len hrdl c st hsl
   have ih := fun st1 q1 q2 i' cs' tm1 H1 h1 h2 h3 h4 => l35 b hb ir N hirN w ps hps d d' hd rd hrdl hcall f 44 i' cs' st1 q1 q2 tm1 H1 (by decide) h1 h2 h3 h4
   generalize H.set ir (objS b q false) = H1 at *
   have hD := fun (tmX : List AV) a1 a2 a3 a4 a5 a6 (K : AEx → List AV → Heap → Option Out) => sw35_all b hb ir N (by omega) w ps i c hci d d' hd rd q hsl st (by simp at hk; omega) tmX H1 a1 a2 a3 a4 a5 a6 hg hnd1 hN1 (by omega) hcl K
   simp only [objS] at hg'
   simp only [T35,S35,M35,B35,B0,B1,B2,List.replicate,Nat.reduceAdd,Nat.reduceSub,Nat.reduceLeDiff,Nat.reduceLT,Nat.reduceEqDiff,reduceCtorEq,Int.reduceEq,Int.reduceLT,Int.reduceLE,lenA,hlen,h0,h2,h10,h11,hir,e1,c1,hg']
   refine did_elim (P := fun o => ∃ e tm' H', o = some (e, tm', H') ∧ Gone b w ir N tm H r e tm' H') (hD _ ?_ ?_ ?_ ?_ ?_ ?_ _) ?_
   iterate 6 simp only [B3,Nat.reduceLT,Nat.reduceEqDiff,hlen,h0,h2,h3,h9,h11]
   intro tm1 H2 st1 l1 r1 b1 i1 n1 q1
   have a0 := r1 0 (by simp)
   have a2 := r1 2 (by simp)
   have a3 := r1 3 (by simp)
   have a9 := r1 9 (by simp)
   have a10 := r1 10 (by simp)
   have a11 := r1 11 (by simp)
   have rr : Regs [0, 1, 2, 3, 8, 9] tm tm1 := fun j hj => by
    refine (r1 j (by simp only [List.mem_cons,List.not_mem_nil,or_false] at hj ⊢; omega)).trans ?_
    simp only [List.mem_cons,List.not_mem_nil,or_false] at hj
    rcases hj with rfl | rfl | rfl | rfl | rfl | rfl <;> simp only [B3,Nat.reduceLT,Nat.reduceEqDiff,hlen]
   simp only [B3,Nat.reduceLT,Nat.reduceEqDiff,hlen,h0] at a0
   simp only [B3,Nat.reduceLT,Nat.reduceEqDiff,hlen,h2] at a2
   simp only [B3,Nat.reduceLT,Nat.reduceEqDiff,hlen,h3] at a3
   simp only [B3,Nat.reduceLT,Nat.reduceEqDiff,hlen,h9] at a9
   simp only [B3,Nat.reduceLT,Nat.reduceEqDiff,hlen] at a10
   simp only [B3,Nat.reduceLT,Nat.reduceEqDiff,hlen,h11] at a11
   clear r1 hD hcl
   generalize itemX rd b c st q = it at *
   obtain ⟨stx, qx, bx⟩ := it
   simp only at hkd hkd2 hkd3 hil2 i1 q1 hR
   have htl := fun (K : AEx → List AV → Heap → Option Out) => tl35_all b hb ir N (by omega) w ps i (by omega) qx hil2 bx st1 tm1 H2 l1 a0 a2 a9 a11 i1 n1 K
   simp only [k_normal]
   refine tl35_elim (P := fun o => ∃ e tm' H', o = some (e, tm', H') ∧ Gone b w ir N tm H r e tm' H') (htl _) ?_
   intro tm2 q2 l2 r2 e11 hq1 hq2
   have i2 : (H2.set ir (objS b q2 bx))[ir]? = some (objS b q2 bx) := List.getElem?_set_self (List.getElem?_eq_some_iff.1 i1).1
   have n2 : NodeAt 27 (N + 2) (N + 1) w st1 (H2.set ir (objS b q2 bx)) := n1.set (by omega) i1 _
   have b2 : But2 (N + 2) ir (N + 1) H (H2.set ir (objS b q2 bx)) := hB1.trans (b1.trans (.set _))
   have rr2 : Regs [0, 1, 2, 3, 8, 9] tm tm2 := rr.trans (r2.sub (by simp))
   have a0 := (r2 0 (by simp)).trans a0
   have a2 := (r2 2 (by simp)).trans a2
   have a3 := (r2 3 (by simp)).trans a3
   have a9 := (r2 9 (by simp)).trans a9
   have a10 := (r2 10 (by simp)).trans a10
   have hN2 := b2.1
   generalize H2.set ir (objS b q2 bx) = H3 at *
   have w1 : IntKind.i64.wrap ((i : Int) - 1 + 1) = (i : Int) := by rw [Go.Abs.Seat.wrap_small _ (by omega)]; omega
   have w2 := wrap_nat (i := i) (by omega)
   have rI : ∀ x y z, Regs [0, 1, 2, 3, 8, 9] tm ((((tm2.set 25 x).set 26 y).set 11 z)) := fun x y z => rr2.trans fun j hj => by
    simp only [List.mem_cons,List.not_mem_nil,or_false] at hj
    rcases hj with rfl | rfl | rfl | rfl | rfl | rfl <;> simp only [B3,Nat.reduceLT,Nat.reduceEqDiff,l2]
   cases bx with
   | true =>
    have hq2' := hq1 rfl
    subst hq2'
    rw [if_pos rfl] at hR
    simp only [Bool.not_true,Bool.false_and,Bool.false_eq_true,if_false] at e11
    simp only [I35,B0,B1,B2,List.replicate,Nat.reduceAdd,Nat.reduceSub,Nat.reduceLeDiff,Nat.reduceLT,Nat.reduceEqDiff,reduceCtorEq,Int.reduceEq,Int.reduceLT,Int.reduceLE,lenA,l2,e11,w2]
    refine ex_imp (l35_stop (z := ((i + 1 : Nat) : Int)) (b := b) (w := w) (ps := ps) (ir := ir) (N := N) (q := q2) (st := st1) (r := r) (by rw [← hR]) hil2 ?_ ?_ ?_ ?_ i2 n2) fun _ _ _ h => h.before (rI _ _ _) b2
    ·simp only [List.length_set,l2]
    all_goals simp only [B3,Nat.reduceLT,Nat.reduceEqDiff,l2,a0,a2]
   | false =>
    rw [if_neg (by simp)] at hR
    have hst1 := q1 rfl
    subst hst1
    have hq2l : q2 ≤ b.length := by
     rcases hq2 with h | h
     ·omega
     ·rw [h]; exact skip_len hil2
    have hqq : ∀ c, signP b q2 false c = signP b qx false c := fun c => by
     rcases hq2 with h | h
     ·rw [h]
     ·rw [h]; exact sign_skip hil2 c
    simp only [Bool.not_false,Bool.true_and] at e11
    have hz : ((44 : UInt8).toNat : Int) = 44 := rfl
    rcases Bool.eq_false_or_eq_true (moreX b (decide (ps = [43])) st1 qx) with hm1 | hm1
    ·rw [hm1, if_pos rfl] at e11
     rw [hm1, if_pos rfl] at hR
     have hlt : st1.2.2.length < 64 := by
      unfold moreX at hm1
      simp only [Bool.and_eq_true,decide_eq_true_eq] at hm1
      exact hm1.2.1
     have hlst : ps = [43] := by
      unfold moreX at hm1
      simp only [Bool.and_eq_true,decide_eq_true_eq] at hm1
      exact hm1.1
     subst hR
     simp only [I35,B0,B1,B2,List.replicate,Nat.reduceAdd,Nat.reduceSub,Nat.reduceLeDiff,Nat.reduceLT,Nat.reduceEqDiff,reduceCtorEq,Int.reduceEq,Int.reduceLT,Int.reduceLE,lenA,l2,e11,w1]
     refine ex_imp (ih st1 qx q2 i (c :: cs) _ H3 hcs hi ?_ ?_ hil2 hq2l hqq ?_ ?_ ?_ ?_ ?_ ?_ ?_ i2 n2 (by omega)) fun _ _ _ h => h.before (rI _ _ _) b2
     ·have := hkd3 (by rw [hlst] at hcm; simpa using hcm)
      simp only [List.length_cons] at hf ⊢; omega
     ·have : (c :: cs).length ≤ 5 := by rw [← hcs, List.length_drop]; omega
      omega
     ·simp only [List.length_set,l2]
     all_goals simp only [B3,Nat.reduceLT,Nat.reduceEqDiff,l2,a0,a2,a3,a9,a10,hz]
    ·rw [hm1, if_neg (by simp)] at e11
     rw [hm1, if_neg (by simp)] at hR
     subst hR
     simp only [I35,B0,B1,B2,List.replicate,Nat.reduceAdd,Nat.reduceSub,Nat.reduceLeDiff,Nat.reduceLT,Nat.reduceEqDiff,reduceCtorEq,Int.reduceEq,Int.reduceLT,Int.reduceLE,lenA,l2,e11,w2]
     refine ex_imp (ih st1 qx q2 (i + 1) cs _ H3 hcs' (by omega) (by simp at hf; omega) (by simp at hk; omega) hil2 hq2l hqq ?_ ?_ ?_ ?_ ?_ ?_ ?_ i2 n2 (by omega)) fun _ _ _ h => h.before (rI _ _ _) b2
     ·simp only [List.length_set,l2]
     all_goals simp only [B3,Nat.reduceLT,Nat.reduceEqDiff,l2,a0,a2,a3,a9,a10,hz]
end Go.Abs.Seat
end
section
set_option linter.unusedVariables false
set_option linter.unusedSimpArgs false
namespace Go.Abs.Seat
open Go.Proofs
def VA (v : AV) (kids : List NT) : Prop := (v = .nils ∧ kids = []) ∨ ∃ tok, v = .asl 6 (kids.map encN) tok ∧ kids ≠ []
theorem gath_va {tid : TypeId} {n : Nat} {v : AV} {H : Heap} {kids : List NT} (h : Gath tid 6 n v H (kids.map encN)) : VA v kids := by
 rcases h with ⟨he, rfl⟩ | ⟨he, tok, _, rfl, _⟩
 ·exact .inl ⟨rfl, by simpa using he⟩
 ·exact .inr ⟨tok, rfl, by simpa using he⟩
theorem node_deg {w : List UInt8} {i k : Int} {y v : AV} {ty : KT} {kids : List NT} (hy : TyA ty k y) (hv : VA v kids) : degrade (.agg [.im (.str w), .im (.int .i64 i), .im (.str []), .im (.int .i64 k), y, v]) = .im (.agg (encN (mkN w i [] ty kids))) := by
 have hv' : toDat v = some (.sl (if kids.length = 0 then 0 else 6) (encNs kids)) := by
  rcases hv with ⟨rfl, rfl⟩ | ⟨tok, rfl, hne⟩
  ·rfl
  ·rw [if_neg (by simpa using hne), encNs_map]; rfl
 rcases hy with ⟨rfl, rfl, rfl⟩ | ⟨s, args, rfl, rfl⟩
 ·simp only [degrade,toDat,toDats,hv',mkN,zeroT,mkT,encN,encTs,List.length_nil,if_true]
 ·simp only [degrade,toDat,toDats,hv',mkN,encN]
theorem endK_35 {H H' : Heap} {tm : List AV} {ir q : Nat} {b w : List UInt8} {i k : Int} {y v : AV} {ty : KT} {kids : List NT} {bad : Bool} (hir : ir < H.length) (h8 : tm.getD 8 undefA = .ptr H.length 0 0) (hN : H'[H.length]? = some (.obj none [[.im (.str w), .im (.int .i64 i), .im (.str []), .im (.int .i64 k), y, v]]))
  (hy : TyA ty k y) (hv : VA v kids) (hb : But H.length ir H H') (ho : H'[ir]? = some (objS b q bad)) : endK f35 H .ret tm H' = some (.im (.agg (encN (mkN w i [] ty kids))), H.set ir (objS b q bad)) := by
 have hd := node_deg (w := w) (i := i) hy hv
 have hfr : f35.results = [(8, some (some 6))] := rfl
 have hfk : f35.keep = false := rfl
 have hr := leave_but (keep := false) (r := .agg [.im (.str w), .im (.int .i64 i), .im (.str []), .im (.int .i64 k), y, v]) hb ho rfl (by simp only [Bool.false_eq_true,if_false,hd,refsLt]) hir
 simp only [Bool.false_eq_true,if_false,hd] at hr
 rcases hy with ⟨rfl, rfl, rfl⟩ | ⟨s, args, rfl, rfl⟩ <;> rcases hv with ⟨rfl, rfl⟩ | ⟨tok, rfl, hne⟩
 all_goals
  simp only [endK,hfr,hfk,B0,B1,B2,List.replicate,Nat.reduceAdd,Nat.reduceSub,Nat.reduceLeDiff,Nat.reduceLT,Nat.reduceEqDiff,reduceCtorEq,Int.reduceEq,Int.reduceLT,Int.reduceLE,lenA,resA,tupA,h8,hN]
  rw [hr]
theorem s35 (b : List UInt8) (hb : b.length ≤ 2305843009213693952) (ir : Nat) (w ps : List UInt8) (hps : ps.length ≤ 5) (d d' : Int) (hd : IntKind.i64.wrap (d - 1) = d') (rd : Nat → NT × Nat × Bool) (hrdl : ∀ p, p ≤ b.length → (rd p).2.1 ≤ b.length)
  (hcall : ∀ c ∈ ps, isE c = true → ∀ (p : Nat) (H : Heap), p ≤ b.length → H[ir]? = some (objS b p false) → ∃ nd, L 18 [.ptr ir 0 0, .im (.int .i64 d')] H = some (.im (.agg (encN nd)), H.set ir (objS b (rd p).2.1 (rd p).2.2)) ∧ ((rd p).2.2 = false → nd = (rd p).1))
  (p : Nat) (hp : p ≤ b.length) (H : Heap) (hir : H[ir]? = some (objS b p false)) :
  ∃ nd, L 35 [.ptr ir 0 0, .im (.str w), .im (.str ps), .im (.int .i64 d)] H = some (.im (.agg (encN nd)), H.set ir (objS b (callX rd b w ps p).2.1 (callX rd b w ps p).2.2)) ∧ ((callX rd b w ps p).2.2 = false → nd = (callX rd b w ps p).1) := by
 have hirl := (List.getElem?_eq_some_iff.1 hir).1
 have key := fun tm1 H1 => l35 b hb ir H.length hirl w ps hps d d' hd rd hrdl hcall 70 40 0 ps (0, zeroT, []) p p tm1 H1 (by decide) rfl (Nat.zero_le _) (by simp; omega) (by simp; omega) hp hp (fun _ => rfl)
 simp only [zc0] at key
 have z40 : ((40 : UInt8).toNat : Int) = 40 := rfl
 rw [z40] at key
 unfold callX
 generalize goX rd b (decide (ps = [43])) 70 40 ps (0, zeroT, []) p = r at *
 rw [leq F35]
 have hK := @endK_35 H
 have hcode : f35.code = f35.code := rfl
 conv at hcode => rhs; simp only [f35]
 rw [hcode]
 clear hcode
 generalize endK f35 H = K at *
 obtain ⟨hlen, ha⟩ := enter_at (f := f35) (args := [.ptr ir 0 0, .im (.str w), .im (.str ps), .im (.int .i64 d)]) (Nat.le_of_ble_eq_true rfl)
 have h0 := ha 0 _ rfl
 have h1 := ha 1 _ rfl
 have h2 := ha 2 _ rfl
 have h3 := ha 3 _ rfl
 generalize enterA f35 [.ptr ir 0 0, .im (.str w), .im (.str ps), .im (.int .i64 d)] = tm at *
 change tm.length = 112 at hlen
 simp only [e35_0,B0,B1,B2,List.replicate,Nat.reduceAdd,Nat.reduceSub,Nat.reduceLeDiff,Nat.reduceLT,Nat.reduceEqDiff,reduceCtorEq,Int.reduceEq,Int.reduceLT,Int.reduceLE,lenA,hlen,h0,h1,h2,h3]
 generalize hr2 : thenL (Λ c35_0 _ _) _ = ro
 refine Exists.elim (thenL_inv hr2 (key _ _ ?_ ?_ ?_ ?_ ?_ ?_ ?_ ?_ ?_ ?_)) ?_
 ·simp only [List.length_set,hlen]
 iterate 6 simp only [B3,Nat.reduceLT,Nat.reduceEqDiff,hlen,h0,h1,h2,h3]
 ·rw [get_app hirl]; exact hir
 ·exact ⟨0, .nils, .nils, by rw [hget]; rfl, .inl ⟨rfl, rfl, rfl⟩, .inl ⟨rfl, rfl⟩⟩
 ·simp
 clear key
 rintro e ⟨tm1, H1, ⟨rfl, l1, r1, b1, q', st', i1, n1, hq', hbad, hgood⟩, rfl⟩
 have a0 := r1 0 (by simp)
 have a8 := r1 8 (by simp)
 have a9 := r1 9 (by simp)
 simp only [B3,Nat.reduceLT,Nat.reduceEqDiff,hlen,h0] at a0
 simp only [B3,Nat.reduceLT,Nat.reduceEqDiff,hlen] at a8
 simp only [B3,Nat.reduceLT,Nat.reduceEqDiff,hlen] at a9
 clear hr2 r1
 have hN0 : H1[H.length]? = some (.obj none [[.im (.str []), .im (.int .i64 0), .im (.str []), .im (.int .i64 0), .nils, .nils]]) := by
  rw [b1.2 H.length (by omega) (by omega) (by omega), hget0]; rfl
 have hB1 : But H.length ir H H1 := ⟨by have := b1.1; simp at this; omega, fun j hj hne => by rw [b1.2 j (by omega) hne (by omega), get_app (by omega)]⟩
 have c5 := s53 b q' ir r.2.2 41 H1 (by decide) i1 (by omega) hq'
 have hsg : (signP b q' r.2.2 41).1 = (if r.2.2 = true then r.2.1 else (signP b r.2.1 false 41).1) ∧ (signP b q' r.2.2 41).2 = (if r.2.2 = true then true else (signP b r.2.1 false 41).2) := by
  rcases Bool.eq_false_or_eq_true r.2.2 with e | e
  ·rw [e, hbad e]; simp [signP]
  ·rw [e, (hgood e).2 41]; simp
 have i2 : (H1.set ir (objS b (signP b q' r.2.2 41).1 (signP b q' r.2.2 41).2))[ir]? = some (objS b (signP b q' r.2.2 41).1 (signP b q' r.2.2 41).2) := List.getElem?_set_self (List.getElem?_eq_some_iff.1 i1).1
 have n2 := n1.set (by omega) i1 (objS b (signP b q' r.2.2 41).1 (signP b q' r.2.2 41).2)
 have hN2 : (H1.set ir (objS b (signP b q' r.2.2 41).1 (signP b q' r.2.2 41).2))[H.length]? = some (.obj none [[.im (.str []), .im (.int .i64 0), .im (.str []), .im (.int .i64 0), .nils, .nils]]) := by
  rw [List.getElem?_set_ne (by omega)]; exact hN0
 have hB2 := hB1.set (objS b (signP b q' r.2.2 41).1 (signP b q' r.2.2 41).2)
 have z41 : ((41 : UInt8).toNat : Int) = 41 := rfl
 rw [z41] at c5
 rw [hsg.1, hsg.2] at c5 i2 n2 hN2 hB2
 generalize hgq : (if r.2.2 = true then r.2.1 else (signP b r.2.1 false 41).1) = qf at *
 generalize hgb : (if r.2.2 = true then true else (signP b r.2.1 false 41).2) = bf at *
 generalize H1.set ir (objS b qf bf) = H2 at *
 obtain ⟨k, y, v, o1, hty, hG⟩ := n2
 have hva := gath_va hG
 have hB3 : ∀ o, But H.length ir H (H2.set H.length o) := fun o => ⟨by have := hB2.1; simpa using this, fun j hj hne => by rw [List.getElem?_set_ne (by omega)]; exact hB2.2 j hj hne⟩
 have hres : ∀ (tm' : List AV), tm'.getD 8 undefA = .ptr H.length 0 0 → K .ret tm' (H2.set H.length (.obj none [[.im (.str w), .im (.int .i64 st'.1), .im (.str []), .im (.int .i64 k), y, v]])) = some (.im (.agg (encN (mkN w st'.1 [] st'.2.1 st'.2.2))), H.set ir (objS b qf bf)) := fun tm' h =>
  hK hirl h (List.getElem?_set_self (List.getElem?_eq_some_iff.1 hN2).1) hty hva (hB3 _) (by rw [List.getElem?_set_ne (by omega)]; exact i2)
 refine ⟨mkN w st'.1 [] st'.2.1 st'.2.2, ?_, ?_⟩
 ·rw [show (if r.2.2 = true then (zeroN, r.2.1, true) else (mkN w r.1.1 [] r.1.2.1 r.1.2.2, (signP b r.2.1 false 41).1, (signP b r.2.1 false 41).2)).2.1 = qf by rw [← hgq]; split <;> rfl,
   show (if r.2.2 = true then (zeroN, r.2.1, true) else (mkN w r.1.1 [] r.1.2.1 r.1.2.2, (signP b r.2.1 false 41).1, (signP b r.2.1 false 41).2)).2.2 = bf by rw [← hgb]; split <;> rfl]
  rcases hty with ⟨hh1, hh2, rfl⟩ | ⟨s, args, hh1, rfl⟩ <;> rcases hva with ⟨rfl, hh3⟩ | ⟨tok, rfl, hh3⟩
  all_goals simp only [B0,B1,B2,List.replicate,Nat.reduceAdd,Nat.reduceSub,Nat.reduceLeDiff,Nat.reduceLT,Nat.reduceEqDiff,reduceCtorEq,Int.reduceEq,Int.reduceLT,Int.reduceLE,lenA,l1,a0,a8,a9,c5,o1,hN2]
  all_goals exact hres _ (by simp only [B3,Nat.reduceLT,Nat.reduceEqDiff,l1,a8])
 ·intro hb2
  have he : r.2.2 = false := by
   rcases Bool.eq_false_or_eq_true r.2.2 with e | e
   ·rw [if_pos e] at hb2; simp at hb2
   ·exact e
  rw [if_neg (by rw [he]; simp), (hgood he).1]
def Exp (b : List UInt8) (ir : Nat) (d : Nat) : Prop := ∀ (p : Nat) (H : Heap), p ≤ b.length → H[ir]? = some (objS b p false) →
 ∃ nd, L 18 [.ptr ir 0 0, .im (.int .i64 (d : Int))] H = some (.im (.agg (encN nd)), H.set ir (objS b (exprX b d p).2.1 (exprX b d p).2.2)) ∧ ((exprX b d p).2.2 = false → nd = (exprX b d p).1)
theorem dig_none {n : Int} (h : digZ n = false) (h2 : letZ n = false) : n < 48 ∨ (57 < n ∧ n < 97) ∨ 122 < n := by
 have := dig_not h
 unfold letZ at h2
 simp only [Bool.and_eq_false_iff,decide_eq_false_iff_not] at h2
 omega
theorem let_range {n : Int} (h : letZ n = true) : 97 ≤ n ∧ n ≤ 122 := by
 unfold letZ at h
 simp only [Bool.and_eq_true,decide_eq_true_eq] at h
 exact h
set_option maxHeartbeats 2000000 in
theorem s18step (b : List UInt8) (hb : b.length ≤ 2305843009213693952) (ir d : Nat) (hd : d < 1000) (hrec : 0 < d → Exp b ir d) : Exp b ir (d + 1) := by
 intro p H hp hir
 have hirl := (List.getElem?_eq_some_iff.1 hir).1
 have hq := skip_len hp
 have c1 : ∀ M, L 19 [.ptr ir 0 0] (H ++ M) = some (.tup [], H.set ir (objS b (skipB b p) false) ++ M) := fun M => by
  rw [s19 b p ir false (H ++ M) (by rw [get_app hirl]; exact hir) (by omega) hp, List.set_append_left _ _ hirl]
 have g1 := hp_get (H := H) hirl
 have g4 := hp_set (H := H) hirl
 have c2 : ∀ q bad M, L 29 [.ptr ir 0 0] (H.set ir (objS b q bad) ++ M) = some (.im (.int .u8 ((peekB b q).toNat : Int)), H.set ir (objS b q bad) ++ M) := fun q bad M => s29 b q ir bad _ (g1 _ _) (by omega)
 have c3 : ∀ q M, q ≤ b.length → L 30 [.ptr ir 0 0] (H.set ir (objS b q false) ++ M) = some (.im (.agg (encN (strP b q).1)), H.set ir (objS b (strP b q).2.1 (strP b q).2.2) ++ M) := fun q M hq => by
  rw [s30 b q ir _ (g1 _ _) (by omega) hq, g4]
 have c4 : ∀ q M, q < b.length → L 31 [.ptr ir 0 0] (H.set ir (objS b q false) ++ M) = some (.im (.agg (encN (numP b q).1)), H.set ir (objS b (numP b q).2.1 (numP b q).2.2) ++ M) := fun q M hq => by
  rw [s31 b q ir _ (g1 _ _) (by omega) hq, g4]
 have c5 : ∀ q M, q ≤ b.length → L 32 [.ptr ir 0 0] (H.set ir (objS b q false) ++ M) = some (.im (.str (wordB b q)), H.set ir (objS b (runB b q) false) ++ M) := fun q M hq => by
  rw [s32 b q ir false _ (g1 _ _) (by omega) hq, g4]
 have hlv : ∀ (q : Nat) (bd : Bool) (M : Heap) (op txt : List UInt8) (i k : Int) (s s2 : Nat) (args : List KT) (kids : List NT), leave H false (.im (.agg [.str op, .int .i64 i, .str txt, .int .i64 k, .sl s (encTs args), .sl s2 (encNs kids)])) (H.set ir (objS b q bd) ++ M) = (.im (.agg [.str op, .int .i64 i, .str txt, .int .i64 k, .sl s (encTs args), .sl s2 (encNs kids)]), H.set ir (objS b q bd)) := fun q bd M op txt i k s s2 args kids => leave_SM hir (by simp [degrade, toDat]) (by simp [refsLt])
 have hlz := leave_N hir
 rw [leq F18]
 obtain ⟨hlen, ha⟩ := enter_at (f := f18) (args := [.ptr ir 0 0, .im (.int .i64 ((d : Int) + 1))]) (Nat.le_of_ble_eq_true rfl)
 have h0 := ha 0 _ rfl
 have h1 := ha 1 _ rfl
 have zd : (((d + 1 : Nat) : Nat) : Int) = (d : Int) + 1 := by omega
 rw [zd]
 generalize enterA f18 [.ptr ir 0 0, .im (.int .i64 ((d : Int) + 1))] = tm at *
 change tm.length = 104 at hlen
 unfold exprX
 have hcq := c2 (skipB b p) false
 have hpl := peek_lt (b := b) (p := skipB b p)
 generalize hc : peekB b (skipB b p) = c at *
 generalize skipB b p = q at *
 have b34 := byte_eq c 34
 have b45 := byte_eq c 45
 change decide ((c.toNat : Int) = 34) = _ at b34
 change decide ((c.toNat : Int) = 45) = _ at b45
 have hwr := wrap_nat (i := q) (by omega)
 by_cases k34 : c = 34
 ·rw [if_pos k34]
  have e1 : decide ((c.toNat : Int) = 34) = true := b34.trans (decide_eq_true k34)
  have hq1 : q < b.length := hpl (by rw [k34]; decide)
  have c3' := c3 (q + 1) [zO] (by omega)
  generalize strP b (q + 1) = r at *
  obtain ⟨nd, qr, bad⟩ := r
  obtain ⟨op, ni, txt, ty, ns, kids⟩ := nd
  obtain ⟨tk, ts, targs⟩ := ty
  simp only [encN] at c3'
  refine ⟨.mk op ni txt (.mk tk ts targs) ns kids, ?_, fun _ => rfl⟩
  simp only [objS,zO] at *
  simp only [f18,B0,B1,B2,List.replicate,Nat.reduceAdd,Nat.reduceSub,Nat.reduceLeDiff,Nat.reduceLT,Nat.reduceEqDiff,reduceCtorEq,Int.reduceEq,Int.reduceLT,Int.reduceLE,lenA,endK,resA,tupA,hlen,h0,h1,c1,hcq,g1,g4,e1,hwr,c3',hq_get0,hq_set0,encN,hlv]
 rw [if_neg k34]
 have e1 : decide ((c.toNat : Int) = 34) = false := b34.trans (decide_eq_false k34)
 rcases Bool.eq_false_or_eq_true (decide (c = 45)) with k45 | k45
 ·rw [k45, Bool.true_or, if_pos rfl]
  rw [k45] at b45
  have hq1 : q < b.length := hpl (by rw [of_decide_eq_true k45]; decide)
  have c4' := c4 q [zO] hq1
  generalize numP b q = r at *
  obtain ⟨nd, qr, bad⟩ := r
  obtain ⟨op, ni, txt, ty, ns, kids⟩ := nd
  obtain ⟨tk, ts, targs⟩ := ty
  simp only [encN] at c4'
  refine ⟨.mk op ni txt (.mk tk ts targs) ns kids, ?_, fun _ => rfl⟩
  simp only [objS,zO] at *
  simp only [f18,B0,B1,B2,List.replicate,Nat.reduceAdd,Nat.reduceSub,Nat.reduceLeDiff,Nat.reduceLT,Nat.reduceEqDiff,reduceCtorEq,Int.reduceEq,Int.reduceLT,Int.reduceLE,lenA,endK,resA,tupA,hlen,h0,h1,c1,hcq,g1,g4,e1,b45,c4',hq_get0,hq_set0,encN,hlv]
 rw [k45] at b45
 rcases Bool.eq_false_or_eq_true (digZ (c.toNat : Int)) with kd | kd
 ·have hr := dig_range kd
  have e2 : decide ((48 : Int) ≤ (c.toNat : Int)) = true := decide_eq_true hr.1
  have e3 : decide ((c.toNat : Int) ≤ 57) = true := decide_eq_true hr.2
  rw [k45, kd, Bool.false_or, if_pos rfl]
  have hq1 : q < b.length := hpl (fun e => by rw [e, dig0] at kd; simp at kd)
  have c4' := c4 q [zO] hq1
  generalize numP b q = r at *
  obtain ⟨nd, qr, bad⟩ := r
  obtain ⟨op, ni, txt, ty, ns, kids⟩ := nd
  obtain ⟨tk, ts, targs⟩ := ty
  simp only [encN] at c4'
  refine ⟨.mk op ni txt (.mk tk ts targs) ns kids, ?_, fun _ => rfl⟩
  simp only [objS,zO] at *
  simp only [f18,B0,B1,B2,List.replicate,Nat.reduceAdd,Nat.reduceSub,Nat.reduceLeDiff,Nat.reduceLT,Nat.reduceEqDiff,reduceCtorEq,Int.reduceEq,Int.reduceLT,Int.reduceLE,lenA,endK,resA,tupA,hlen,h0,h1,c1,hcq,g1,g4,e1,b45,e2,e3,c4',hq_get0,hq_set0,encN,hlv]
 rw [k45, kd, Bool.false_or, if_neg (by simp)]
 rcases Bool.eq_false_or_eq_true (letZ (c.toNat : Int)) with kl | kl
 ·rw [if_neg (by rw [kl]; simp)]
  have hr := let_range kl
  have e2 : decide ((48 : Int) ≤ (c.toNat : Int)) = true := decide_eq_true (by omega)
  have e3 : decide ((c.toNat : Int) ≤ 57) = false := decide_eq_false (by omega)
  have e4 : decide ((c.toNat : Int) < 97) = false := decide_eq_false (by omega)
  have e5 : decide (122 < (c.toNat : Int)) = false := decide_eq_false (by omega)
  have hq1 : q < b.length := hpl (fun e => by rw [e, let0] at kl; simp at kl)
  have hwl := wordB_len (b := b) (p := q) (by omega)
  have hrl := run_len (b := b) (p := q) (by omega)
  have c5' := c5 q [zO] (by omega)
  have c6 := fun H => s33 (wordB b q) H
  have c7 := c2 (runB b q) false
  have c8 := fun H => s34 ((peekB b (runB b q)).toNat : Int) H
  have hcall : ∀ ps, okPs ps = true → ¬ (d = 0 ∧ ps ≠ [100] ∧ ps ≠ [116]) → ∃ nd, L 35 [.ptr ir 0 0, .im (.str (wordB b q)), .im (.str ps), .im (.int .i64 ((d : Int) + 1))] (H.set ir (objS b (runB b q) false) ++ [zO]) = some (.im (.agg (encN nd)), H.set ir (objS b (callX (exprX b d) b (wordB b q) ps (runB b q)).2.1 (callX (exprX b d) b (wordB b q) ps (runB b q)).2.2) ++ [zO]) ∧ ((callX (exprX b d) b (wordB b q) ps (runB b q)).2.2 = false → nd = (callX (exprX b d) b (wordB b q) ps (runB b q)).1) := fun ps hok hnd => by
   have hpl5 : ps.length ≤ 5 := by
    unfold okPs at hok
    simp only [Bool.and_eq_true,decide_eq_true_eq] at hok
    exact hok.1.1.1
   have := s35 b hb ir (wordB b q) ps hpl5 ((d : Int) + 1) (d : Int) (by rw [show (d : Int) + 1 - 1 = d by omega]; exact Go.Abs.Seat.wrap_small _ (by omega)) (exprX b d) (fun p h => expr_len b d p h) (fun c hc he p H hp hir => by
    by_cases hd0 : d = 0
    ·exfalso
     have : ps = [100] ∨ ps = [116] := by
      by_cases h1 : ps = [100]
      ·exact .inl h1
      ·exact .inr (Classical.byContradiction fun h2 => hnd ⟨hd0, h1, h2⟩)
     rcases this with h | h
     ·rw [h] at hc; simp at hc; rw [hc] at he; exact absurd he (by decide)
     ·rw [h] at hc; simp at hc; rw [hc] at he; exact absurd he (by decide)
    ·exact hrec (by omega) p H hp hir) (runB b q) hrl (H.set ir (objS b (runB b q) false) ++ [zO]) (g1 _ _)
   simpa only [g4] using this
  unfold longB
  generalize wordB b q = w at *
  generalize runB b q = e at *
  have e16 : decide ((w.length : Int) = 16) = decide (e - q = 16) := by
   rw [hwl]
   by_cases h : e - q = 16
   ·rw [decide_eq_true h, decide_eq_true (by omega)]
   ·rw [decide_eq_false h, decide_eq_false (by omega)]
  rcases Bool.eq_false_or_eq_true (decide (e - q = 16)) with l16 | l16
  ·rw [l16] at e16
   rw [l16, Bool.true_and]
   rcases Bool.eq_false_or_eq_true (namZ ((peekB b e).toNat : Int)) with nm | nm
   ·rw [nm] at c8
    rw [nm, if_pos rfl]
    refine ⟨zeroN, ?_, fun _ => rfl⟩
    simp only [zeroN,enc_flat]
    simp only [objS,zO] at *
    simp only [f18,B0,B1,B2,List.replicate,Nat.reduceAdd,Nat.reduceSub,Nat.reduceLeDiff,Nat.reduceLT,Nat.reduceEqDiff,reduceCtorEq,Int.reduceEq,Int.reduceLT,Int.reduceLE,lenA,endK,resA,tupA,hlen,h0,h1,c1,hcq,g1,g4,e1,b45,e2,e3,e4,e5,c5',c6,c7,c8,e16,hq_get0,hq_set0,hlz]
   ·rw [nm] at c8
    rw [nm, if_neg (by simp)]
    cases hs : shapeT w with
    | none =>
     rw [hs] at c6
     simp only [Option.getD_none,Option.isSome_none] at c6
     refine ⟨mkN nameW 0 w zeroT [], ?_, fun _ => rfl⟩
     simp only [enc_flat,nameW]
     simp only [objS,zO] at *
     simp only [f18,B0,B1,B2,List.replicate,Nat.reduceAdd,Nat.reduceSub,Nat.reduceLeDiff,Nat.reduceLT,Nat.reduceEqDiff,reduceCtorEq,Int.reduceEq,Int.reduceLT,Int.reduceLE,lenA,endK,resA,tupA,hlen,h0,h1,c1,hcq,g1,g4,e1,b45,e2,e3,e4,e5,c5',c6,c7,c8,e16,hq_get0,hq_set0,hlz]
    | some ps =>
     rw [hs] at c6
     simp only [Option.getD_some,Option.isSome_some] at c6 ⊢
     have hok := shape_ok hs
     by_cases hps : ps = []
     ·rw [if_pos hps]
      have p0 : decide (ps = []) = true := decide_eq_true hps
      refine ⟨mkN w 0 [] zeroT [], ?_, fun _ => rfl⟩
      simp only [enc_flat]
      simp only [objS,zO] at *
      simp only [f18,B0,B1,B2,List.replicate,Nat.reduceAdd,Nat.reduceSub,Nat.reduceLeDiff,Nat.reduceLT,Nat.reduceEqDiff,reduceCtorEq,Int.reduceEq,Int.reduceLT,Int.reduceLE,lenA,endK,resA,tupA,hlen,h0,h1,c1,hcq,g1,g4,e1,b45,e2,e3,e4,e5,c5',c6,c7,c8,e16,p0,hq_get0,hq_set0,hlz]
     ·rw [if_neg hps]
      have p0 : decide (ps = []) = false := decide_eq_false hps
      by_cases hdf : d = 0 ∧ ps ≠ [100] ∧ ps ≠ [116]
      ·rw [if_pos hdf]
       have e6' : decide ((d : Int) + 1 = 1) = true := decide_eq_true (by omega)
       have p1 : decide (ps = [100]) = false := decide_eq_false hdf.2.1
       have p2 : decide (ps = [116]) = false := decide_eq_false hdf.2.2
       refine ⟨zeroN, ?_, fun _ => rfl⟩
       simp only [zeroN,enc_flat]
       simp only [objS,zO] at *
       simp only [f18,B0,B1,B2,List.replicate,Nat.reduceAdd,Nat.reduceSub,Nat.reduceLeDiff,Nat.reduceLT,Nat.reduceEqDiff,reduceCtorEq,Int.reduceEq,Int.reduceLT,Int.reduceLE,lenA,endK,resA,tupA,hlen,h0,h1,c1,hcq,g1,g4,e1,b45,e2,e3,e4,e5,c5',c6,c7,c8,e16,p0,p1,p2,e6',hq_get0,hq_set0,hlz]
      ·rw [if_neg hdf]
       obtain ⟨nd, hcl, hnn⟩ := hcall ps hok hdf
       refine ⟨nd, ?_, hnn⟩
       clear hnn
       generalize callX (exprX b d) b w ps e = r at *
       obtain ⟨nr, qr, bad⟩ := r
       obtain ⟨op, ni, txt, ty, ns, kids⟩ := nd
       obtain ⟨tk, ts, targs⟩ := ty
       simp only [encN] at hcl
       simp only [objS,zO] at *
       by_cases hd0 : d = 0
       ·have e6' : decide ((d : Int) + 1 = 1) = true := decide_eq_true (by omega)
        by_cases h100 : ps = [100]
        ·have p1 : decide (ps = [100]) = true := decide_eq_true h100
         simp only [f18,B0,B1,B2,List.replicate,Nat.reduceAdd,Nat.reduceSub,Nat.reduceLeDiff,Nat.reduceLT,Nat.reduceEqDiff,reduceCtorEq,Int.reduceEq,Int.reduceLT,Int.reduceLE,lenA,endK,resA,tupA,hlen,h0,h1,c1,hcq,g1,g4,e1,b45,e2,e3,e4,e5,c5',c6,c7,c8,e16,p0,p1,e6',hcl,hq_get0,hq_set0,encN,hlv]
        ·have p1 : decide (ps = [100]) = false := decide_eq_false h100
         have p2 : decide (ps = [116]) = true := decide_eq_true (Classical.byContradiction fun h => hdf ⟨hd0, h100, h⟩)
         simp only [f18,B0,B1,B2,List.replicate,Nat.reduceAdd,Nat.reduceSub,Nat.reduceLeDiff,Nat.reduceLT,Nat.reduceEqDiff,reduceCtorEq,Int.reduceEq,Int.reduceLT,Int.reduceLE,lenA,endK,resA,tupA,hlen,h0,h1,c1,hcq,g1,g4,e1,b45,e2,e3,e4,e5,c5',c6,c7,c8,e16,p0,p1,p2,e6',hcl,hq_get0,hq_set0,encN,hlv]
       ·have e6' : decide ((d : Int) + 1 = 1) = false := decide_eq_false (by omega)
        simp only [f18,B0,B1,B2,List.replicate,Nat.reduceAdd,Nat.reduceSub,Nat.reduceLeDiff,Nat.reduceLT,Nat.reduceEqDiff,reduceCtorEq,Int.reduceEq,Int.reduceLT,Int.reduceLE,lenA,endK,resA,tupA,hlen,h0,h1,c1,hcq,g1,g4,e1,b45,e2,e3,e4,e5,c5',c6,c7,c8,e16,p0,e6',hcl,hq_get0,hq_set0,encN,hlv]
  ·rw [l16] at e16
   rw [l16, Bool.false_and, if_neg (by simp)]
   cases hs : shapeT w with
   | none =>
    rw [hs] at c6
    simp only [Option.getD_none,Option.isSome_none] at c6
    refine ⟨mkN nameW 0 w zeroT [], ?_, fun _ => rfl⟩
    simp only [enc_flat,nameW]
    simp only [objS,zO] at *
    simp only [f18,B0,B1,B2,List.replicate,Nat.reduceAdd,Nat.reduceSub,Nat.reduceLeDiff,Nat.reduceLT,Nat.reduceEqDiff,reduceCtorEq,Int.reduceEq,Int.reduceLT,Int.reduceLE,lenA,endK,resA,tupA,hlen,h0,h1,c1,hcq,g1,g4,e1,b45,e2,e3,e4,e5,c5',c6,c7,c8,e16,hq_get0,hq_set0,hlz]
   | some ps =>
    rw [hs] at c6
    simp only [Option.getD_some,Option.isSome_some] at c6 ⊢
    have hok := shape_ok hs
    by_cases hps : ps = []
    ·rw [if_pos hps]
     have p0 : decide (ps = []) = true := decide_eq_true hps
     refine ⟨mkN w 0 [] zeroT [], ?_, fun _ => rfl⟩
     simp only [enc_flat]
     simp only [objS,zO] at *
     simp only [f18,B0,B1,B2,List.replicate,Nat.reduceAdd,Nat.reduceSub,Nat.reduceLeDiff,Nat.reduceLT,Nat.reduceEqDiff,reduceCtorEq,Int.reduceEq,Int.reduceLT,Int.reduceLE,lenA,endK,resA,tupA,hlen,h0,h1,c1,hcq,g1,g4,e1,b45,e2,e3,e4,e5,c5',c6,c7,c8,e16,p0,hq_get0,hq_set0,hlz]
    ·rw [if_neg hps]
     have p0 : decide (ps = []) = false := decide_eq_false hps
     by_cases hdf : d = 0 ∧ ps ≠ [100] ∧ ps ≠ [116]
     ·rw [if_pos hdf]
      have e6' : decide ((d : Int) + 1 = 1) = true := decide_eq_true (by omega)
      have p1 : decide (ps = [100]) = false := decide_eq_false hdf.2.1
      have p2 : decide (ps = [116]) = false := decide_eq_false hdf.2.2
      refine ⟨zeroN, ?_, fun _ => rfl⟩
      simp only [zeroN,enc_flat]
      simp only [objS,zO] at *
      simp only [f18,B0,B1,B2,List.replicate,Nat.reduceAdd,Nat.reduceSub,Nat.reduceLeDiff,Nat.reduceLT,Nat.reduceEqDiff,reduceCtorEq,Int.reduceEq,Int.reduceLT,Int.reduceLE,lenA,endK,resA,tupA,hlen,h0,h1,c1,hcq,g1,g4,e1,b45,e2,e3,e4,e5,c5',c6,c7,c8,e16,p0,p1,p2,e6',hq_get0,hq_set0,hlz]
     ·rw [if_neg hdf]
      obtain ⟨nd, hcl, hnn⟩ := hcall ps hok hdf
      refine ⟨nd, ?_, hnn⟩
      clear hnn
      generalize callX (exprX b d) b w ps e = r at *
      obtain ⟨nr, qr, bad⟩ := r
      obtain ⟨op, ni, txt, ty, ns, kids⟩ := nd
      obtain ⟨tk, ts, targs⟩ := ty
      simp only [encN] at hcl
      simp only [objS,zO] at *
      by_cases hd0 : d = 0
      ·have e6' : decide ((d : Int) + 1 = 1) = true := decide_eq_true (by omega)
       by_cases h100 : ps = [100]
       ·have p1 : decide (ps = [100]) = true := decide_eq_true h100
        simp only [f18,B0,B1,B2,List.replicate,Nat.reduceAdd,Nat.reduceSub,Nat.reduceLeDiff,Nat.reduceLT,Nat.reduceEqDiff,reduceCtorEq,Int.reduceEq,Int.reduceLT,Int.reduceLE,lenA,endK,resA,tupA,hlen,h0,h1,c1,hcq,g1,g4,e1,b45,e2,e3,e4,e5,c5',c6,c7,c8,e16,p0,p1,e6',hcl,hq_get0,hq_set0,encN,hlv]
       ·have p1 : decide (ps = [100]) = false := decide_eq_false h100
        have p2 : decide (ps = [116]) = true := decide_eq_true (Classical.byContradiction fun h => hdf ⟨hd0, h100, h⟩)
        simp only [f18,B0,B1,B2,List.replicate,Nat.reduceAdd,Nat.reduceSub,Nat.reduceLeDiff,Nat.reduceLT,Nat.reduceEqDiff,reduceCtorEq,Int.reduceEq,Int.reduceLT,Int.reduceLE,lenA,endK,resA,tupA,hlen,h0,h1,c1,hcq,g1,g4,e1,b45,e2,e3,e4,e5,c5',c6,c7,c8,e16,p0,p1,p2,e6',hcl,hq_get0,hq_set0,encN,hlv]
      ·have e6' : decide ((d : Int) + 1 = 1) = false := decide_eq_false (by omega)
       simp only [f18,B0,B1,B2,List.replicate,Nat.reduceAdd,Nat.reduceSub,Nat.reduceLeDiff,Nat.reduceLT,Nat.reduceEqDiff,reduceCtorEq,Int.reduceEq,Int.reduceLT,Int.reduceLE,lenA,endK,resA,tupA,hlen,h0,h1,c1,hcq,g1,g4,e1,b45,e2,e3,e4,e5,c5',c6,c7,c8,e16,p0,e6',hcl,hq_get0,hq_set0,encN,hlv]
 ·rw [if_pos kl]
  refine ⟨zeroN, ?_, fun _ => rfl⟩
  simp only [zeroN,enc_flat]
  simp only [objS,zO] at *
  rcases dig_none kd kl with hn | ⟨hn, hn2⟩ | hn
  ·have e2 : decide ((48 : Int) ≤ (c.toNat : Int)) = false := decide_eq_false (by omega)
   have e4 : decide ((c.toNat : Int) < 97) = true := decide_eq_true (by omega)
   simp only [f18,B0,B1,B2,List.replicate,Nat.reduceAdd,Nat.reduceSub,Nat.reduceLeDiff,Nat.reduceLT,Nat.reduceEqDiff,reduceCtorEq,Int.reduceEq,Int.reduceLT,Int.reduceLE,lenA,endK,resA,tupA,hlen,h0,h1,c1,hcq,g1,g4,e1,b45,e2,e4,hq_get0,hq_set0,hlz]
  ·have e2 : decide ((48 : Int) ≤ (c.toNat : Int)) = true := decide_eq_true (by omega)
   have e3 : decide ((c.toNat : Int) ≤ 57) = false := decide_eq_false (by omega)
   have e4 : decide ((c.toNat : Int) < 97) = true := decide_eq_true (by omega)
   simp only [f18,B0,B1,B2,List.replicate,Nat.reduceAdd,Nat.reduceSub,Nat.reduceLeDiff,Nat.reduceLT,Nat.reduceEqDiff,reduceCtorEq,Int.reduceEq,Int.reduceLT,Int.reduceLE,lenA,endK,resA,tupA,hlen,h0,h1,c1,hcq,g1,g4,e1,b45,e2,e3,e4,hq_get0,hq_set0,hlz]
  ·have e2 : decide ((48 : Int) ≤ (c.toNat : Int)) = true := decide_eq_true (by omega)
   have e3 : decide ((c.toNat : Int) ≤ 57) = false := decide_eq_false (by omega)
   have e4 : decide ((c.toNat : Int) < 97) = false := decide_eq_false (by omega)
   have e5 : decide (122 < (c.toNat : Int)) = true := decide_eq_true (by omega)
   simp only [f18,B0,B1,B2,List.replicate,Nat.reduceAdd,Nat.reduceSub,Nat.reduceLeDiff,Nat.reduceLT,Nat.reduceEqDiff,reduceCtorEq,Int.reduceEq,Int.reduceLT,Int.reduceLE,lenA,endK,resA,tupA,hlen,h0,h1,c1,hcq,g1,g4,e1,b45,e2,e3,e4,e5,hq_get0,hq_set0,hlz]
theorem s18 (b : List UInt8) (hb : b.length ≤ 2305843009213693952) (ir : Nat) : ∀ d, d < 1000 → Exp b ir (d + 1)
 | 0, _ => s18step b hb ir 0 (by omega) (fun h => absurd h (by omega))
 | d + 1, h => s18step b hb ir (d + 1) (by omega) (fun _ => s18 b hb ir d (by omega))
end Go.Abs.Seat
end
section
set_option linter.unusedVariables false
set_option linter.unusedSimpArgs false
namespace Go.Abs.Seat
open Go.Proofs
def readX (s : List UInt8) : NT × Nat × Bool :=
 if (exprX s 24 0).2.2 = true then (zeroN, (exprX s 24 0).2.1, true)
 else if skipB s (exprX s 24 0).2.1 < s.length then (zeroN, skipB s (exprX s 24 0).2.1, true) else ((exprX s 24 0).1, 0, false)
def parseX (s : List UInt8) : NT × Nat × Int :=
 if 4096 < s.length then (zeroN, 0, 42) else ((readX s).1, (readX s).2.1, if (readX s).2.2 = true then 40 else 0)
theorem s9 (s : List UInt8) (H : Heap) : L 9 [.im (.str s)] H = some (.tup [.im (.agg (encN (parseX s).1)), .im (.int .i64 ((parseX s).2.1 : Int)), .im (.int .i64 (parseX s).2.2)], H) := by
 have hlz : ∀ (M : Heap) (a b : Int), leave H false (.tup [.agg [.im (.str []), .im (.int .i64 0), .im (.str []), .im (.int .i64 0), .nils, .nils], .im (.int .i64 a), .im (.int .i64 b)]) (H ++ M) = (.tup [.im (.agg (encN zeroN)), .im (.int .i64 a), .im (.int .i64 b)], H) := fun M a b => leave_deg (by simp [degrade, degrade1, toDat, toDats, zeroN, mkN, zeroT, mkT, encN, encTs, encNs]) (by simp [refsLt, refsLts])
 have hlv : ∀ (M : Heap) (op txt : List UInt8) (i k : Int) (s s2 : Nat) (args : List KT) (kids : List NT) (a b : Int), leave H false (.tup [.im (.agg [.str op, .int .i64 i, .str txt, .int .i64 k, .sl s (encTs args), .sl s2 (encNs kids)]), .im (.int .i64 a), .im (.int .i64 b)]) (H ++ M) = (.tup [.im (.agg [.str op, .int .i64 i, .str txt, .int .i64 k, .sl s (encTs args), .sl s2 (encNs kids)]), .im (.int .i64 a), .im (.int .i64 b)], H) := fun M op txt i k s s2 args kids a b => leave_deg (by simp [degrade, degrade1, toDat]) (by simp [refsLt, refsLts])
 rw [leq F9]
 obtain ⟨hlen, ha⟩ := enter_at (f := f9) (args := [.im (.str s)]) (Nat.le_of_ble_eq_true rfl)
 have h0 := ha 0 _ rfl
 generalize enterA f9 [.im (.str s)] = tm at *
 change tm.length = 41 at hlen
 unfold parseX
 by_cases hl : 4096 < s.length
 ·have e1 : decide (4096 < (s.length : Int)) = true := decide_eq_true (by omega)
  rw [if_pos hl]
  simp only [f9,B0,B1,B2,List.replicate,Nat.reduceAdd,Nat.reduceSub,Nat.reduceLeDiff,Nat.reduceLT,Nat.reduceEqDiff,reduceCtorEq,Int.reduceEq,Int.reduceLT,Int.reduceLE,lenA,endK,resA,tupA,hlen,h0,e1,hlz,zc0]
 ·have e1 : decide (4096 < (s.length : Int)) = false := decide_eq_false (by omega)
  rw [if_neg hl]
  have c1 := s18 s (by omega) (H.length + 1) 23 (by decide) 0 (H ++ [zO, objS s 0 false]) (Nat.zero_le _) (by rw [hget]; rfl)
  obtain ⟨nd, c1, hnn⟩ := c1
  rw [hset, show (((23 + 1 : Nat) : Nat) : Int) = 24 from rfl] at c1
  simp only [List.set_cons_succ,List.set_cons_zero,Nat.reduceAdd] at c1
  have hq := expr_len s 24 0 (Nat.zero_le _)
  have hq2 := skip_len hq
  have c2 := fun (o : HO) => s19 s (exprX s 24 0).2.1 (H.length + 1) false (H ++ [o, objS s (exprX s 24 0).2.1 false]) (by rw [hget]; rfl) (by omega) hq
  simp only [hset,List.set_cons_succ,List.set_cons_zero] at c2
  unfold readX
  generalize exprX s 24 0 = r at *
  obtain ⟨nr, q, bad⟩ := r
  simp only at c1 c2 hnn hq hq2 ⊢
  obtain ⟨op, ni, txt, ty, ns, kids⟩ := nd
  obtain ⟨tk, ts, targs⟩ := ty
  simp only [encN,objS,zc0] at c1
  cases bad with
  | true =>
   simp only [if_true]
   simp only [objS,zO] at *
   simp only [f9,B0,B1,B2,List.replicate,Nat.reduceAdd,Nat.reduceSub,Nat.reduceLeDiff,Nat.reduceLT,Nat.reduceEqDiff,reduceCtorEq,Int.reduceEq,Int.reduceLT,Int.reduceLE,lenA,z_ops,z_nil,z_cons,z_guard,z_some,z_drop,z_do,z_not,z_not0,pairK,forall_eq_or_imp,stays,loadOf,List.reverse_cons,List.reverse_nil,List.mem_cons,List.not_mem_nil,or_false,forall_eq,true_or,or_true,Bool.true_and,endK,resA,tupA,hlen,h0,e1,c1,hlz,zc0]
  | false =>
   rw [← hnn rfl]
   simp only [Bool.false_eq_true,if_false]
   by_cases hlt : skipB s q < s.length
   ·have e2 : decide (((skipB s q : Nat) : Int) < (s.length : Int)) = true := decide_eq_true (by omega)
    simp only [if_pos hlt,if_true]
    simp only [objS,zO] at *
    simp only [f9,B0,B1,B2,List.replicate,Nat.reduceAdd,Nat.reduceSub,Nat.reduceLeDiff,Nat.reduceLT,Nat.reduceEqDiff,reduceCtorEq,Int.reduceEq,Int.reduceLT,Int.reduceLE,lenA,z_ops,z_nil,z_cons,z_guard,z_some,z_drop,z_do,z_not,z_not0,pairK,forall_eq_or_imp,stays,loadOf,List.reverse_cons,List.reverse_nil,List.mem_cons,List.not_mem_nil,or_false,forall_eq,true_or,or_true,Bool.true_and,endK,resA,tupA,hlen,h0,e1,e2,c1,c2,hlz,zc0]
   ·have e2 : decide (((skipB s q : Nat) : Int) < (s.length : Int)) = false := decide_eq_false (by omega)
    simp only [if_neg hlt,Bool.false_eq_true,if_false]
    simp only [objS,zO] at *
    simp only [f9,B0,B1,B2,List.replicate,Nat.reduceAdd,Nat.reduceSub,Nat.reduceLeDiff,Nat.reduceLT,Nat.reduceEqDiff,reduceCtorEq,Int.reduceEq,Int.reduceLT,Int.reduceLE,lenA,z_ops,z_nil,z_cons,z_guard,z_some,z_drop,z_do,z_not,z_not0,pairK,forall_eq_or_imp,stays,loadOf,List.reverse_cons,List.reverse_nil,List.mem_cons,List.not_mem_nil,or_false,forall_eq,true_or,or_true,Bool.true_and,endK,resA,tupA,hlen,h0,e1,e2,c1,c2,hlv,encN,zc0]
end Go.Abs.Seat
end
section
set_option linter.unusedVariables false
set_option linter.unusedSimpArgs false
namespace Go.Abs.Seat
open Go.Proofs
def Low (n : Nat) (H H' : Heap) : Prop := H.length ≤ H'.length ∧ ∀ i, i < n → H'[i]? = H[i]?
theorem Low.refl {n : Nat} {H : Heap} : Low n H H := ⟨Nat.le_refl _, fun _ _ => rfl⟩
theorem Low.trans {n : Nat} {A B C : Heap} (h : Low n A B) (h2 : Low n B C) : Low n A C := ⟨Nat.le_trans h.1 h2.1, fun i a => (h2.2 i a).trans (h.2 i a)⟩
end Go.Abs.Seat
end
section
set_option linter.unusedVariables false
set_option linter.unusedSimpArgs false
namespace Go.Abs.Seat
open Go.Proofs
def ResAt (N : Nat) (w : List UInt8) (st : St) (H : Heap) : Prop := ∃ (k : Int) (y v : AV), H[N]? = some (.obj none [[.im (.str w), .im (.int .i64 st.1), .im (.str []), .im (.int .i64 k), y, v]]) ∧ TyA st.2.1 k y ∧ VA v st.2.2
end Go.Abs.Seat
end
section
set_option linter.unusedVariables false
set_option linter.unusedSimpArgs false
namespace Go.Abs.Seat
open Go.Proofs
def finX (b : List UInt8) (r : St × Nat × Bool) : Nat × Bool := if r.2.2 = true then (r.2.1, true) else signP b r.2.1 false 41
def Over20 (b w : List UInt8) (N : Nat) (H : Heap) (r : St × Nat × Bool) (e : AEx) (tm' : List AV) (H' : Heap) : Prop :=
 e = .ret ∧ tm'.length = 287 ∧ Low N H H' ∧ tm'.getD 6 undefA = .ptr N 0 0 ∧ tm'.getD 7 undefA = .im (.int .i64 ((finX b r).1 : Int)) ∧ tm'.getD 8 undefA = .im (.bool (!(finX b r).2)) ∧ ∃ w' st', ResAt N w' st' H' ∧ ((finX b r).2 = false → w' = w ∧ st' = r.1)
theorem Over20.before {b w : List UInt8} {N : Nat} {H H0 : Heap} {r : St × Nat × Bool} {e : AEx} {tm' : List AV} {H' : Heap} (h : Over20 b w N H r e tm' H') (hh : Low N H0 H) : Over20 b w N H0 r e tm' H' :=
 ⟨h.1, h.2.1, hh.trans h.2.2.1, h.2.2.2⟩
theorem go_nil (rd : Nat → NT × Nat × Bool) (b : List UInt8) (lst : Bool) (f : Nat) (mark : UInt8) (st : St) (p : Nat) : goX rd b lst f mark [] st p = (st, p, false) := by cases f <;> rfl
end Go.Abs.Seat
end
section
set_option linter.unusedVariables false
set_option linter.unusedSimpArgs false
namespace Go.Abs.Seat
open Go.Proofs
mutual
def okN : NT → Prop
 | .mk _ _ _ ty s kids => (kids = [] ∨ s = 6) ∧ kids.length ≤ 1000 ∧ goodT ty ∧ okNs kids
def okNs : List NT → Prop
 | [] => True
 | a :: l => okN a ∧ okNs l
end
theorem okNs_mem : ∀ {l : List NT}, okNs l → ∀ a ∈ l, okN a
 | [], _, a, ha => by simp at ha
 | x :: l, h, a, ha => by
  simp only [okNs] at h
  rcases List.mem_cons.1 ha with rfl | ha
  ·exact h.1
  ·exact okNs_mem h.2 a ha
mutual
def cloneN : NT → NT
 | .mk op i txt ty _ kids => mkN op i txt (cloneT ty) (cloneNs kids)
def cloneNs : List NT → List NT
 | [] => []
 | a :: l => cloneN a :: cloneNs l
end
theorem cloneNs_map : ∀ l : List NT, cloneNs l = l.map cloneN
 | [] => rfl
 | a :: l => by simp only [cloneNs,List.map_cons,cloneNs_map l]
mutual
def sameN : NT → NT → Bool
 | .mk op i txt ty _ xs, .mk op' i' txt' ty' _ ys => decide (op = op') && (decide (i = i') && (decide (txt = txt') && (sameT ty ty' && (decide (xs.length = ys.length) && sameNs xs ys))))
def sameNs : List NT → List NT → Bool
 | a :: xs, b :: ys => sameN a b && sameNs xs ys
 | _, _ => true
end
theorem l13 (args : List NT) (s : Nat) (hs : args = [] ∨ s = 6) (hn : args.length ≤ 1000) (H0 : Heap)
  (hc : ∀ a ∈ args, ∀ H, L 13 [.im (.agg (encN a))] H = some (.im (.agg (encN (cloneN a))), H)) :
  ∀ (m i : Nat), i + m = args.length → ∀ (tm : List AV) (M : Heap) (v : AV), Gath 37 6 H0.length v (H0 ++ M) ((args.take i).map fun a => encN (cloneN a)) → tm.length = 30 → tm.getD 3 undefA = v → tm.getD 7 undefA = .im (.sl s (args.map encN)) → tm.getD 8 undefA = .im (.int .i64 args.length) → tm.getD 9 undefA = .im (.int .i64 i) →
  ∃ e tm' H', Λ c13_0 tm (H0 ++ M) = some (e, tm', H') ∧ tm'.length = 30 ∧ e = .exit 0 ∧ tm'.getD 1 undefA = tm.getD 1 undefA ∧ tm'.getD 2 undefA = tm.getD 2 undefA ∧ ∃ M', H' = H0 ++ M' ∧ Gath 37 6 H0.length (tm'.getD 3 undefA) (H0 ++ M') (args.map fun a => encN (cloneN a))
 | 0, i, hi, tm, M, v, hG, hlen, h3, h7, h8, h9 => by
  have hc : decide ((i : Int) < (args.length : Int)) = false := decide_eq_false (by omega)
  rw [l13_0]
  simp only [b13_0,B0,B1,B2,List.replicate,Nat.reduceAdd,Nat.reduceSub,Nat.reduceLeDiff,Nat.reduceLT,Nat.reduceEqDiff,reduceCtorEq,Int.reduceEq,Int.reduceLT,Int.reduceLE,lenA,hlen,h3,h7,h8,h9,hc]
  have e : args.take i = args := List.take_of_length_le (by omega)
  rw [e] at hG
  exact ⟨_, _, _, rfl, by simp only [List.length_set,hlen], rfl, by simp only [B3,Nat.reduceLT,Nat.reduceEqDiff,hlen], by simp only [B3,Nat.reduceLT,Nat.reduceEqDiff,hlen], M, rfl, by simp only [B3,Nat.reduceLT,Nat.reduceEqDiff,hlen,h3]; exact hG⟩
 | m + 1, i, hi, tm, M, v, hG, hlen, h3, h7, h8, h9 => by
  have hlt : i < args.length := by omega
  obtain ⟨w, hwi⟩ : ∃ w, args[i]? = some w := ⟨_, List.getElem?_eq_getElem hlt⟩
  have hs2 : s = 6 := by
   rcases hs with hs | hs
   ·subst hs; simp at hlt
   ·exact hs
  subst hs2
  have hc' : decide ((i : Int) < (args.length : Int)) = true := decide_eq_true (by omega)
  have hix := idx_nat (n := (args.map encN).length) (i := i) (by simpa using hlt)
  have hgw : (args.map encN)[i]? = some (encN w) := by rw [List.getElem?_map, hwi]; rfl
  have hcall := hc w (List.mem_of_getElem? hwi)
  have hwr := wrap_nat (i := i) (by omega)
  have key := l13 args 6 hs hn H0 hc m (i + 1) (by omega)
  have hG2 := hG.more [.obj none [(encN w).map .im]]
  rw [List.append_assoc] at hG2
  obtain ⟨v', M', hap, hG', hok, _⟩ := hG2.push (bytes := 96) (encN (cloneN w)) (by simp; omega) (by decide)
  have htk : (args.take (i + 1)).map (fun a => encN (cloneN a)) = (args.take i).map (fun a => encN (cloneN a)) ++ [encN (cloneN w)] := by
   rw [List.take_add_one, hwi]; simp
  rw [← htk] at hG'
  have hset0 : ∀ o o' : HO, (H0 ++ (M ++ [o])).set (H0.length + M.length) o' = H0 ++ (M ++ [o']) := fun o o' => by
   rw [← List.append_assoc, ← List.append_assoc, ← List.length_append, Go.Abs.hset0]; rfl
  have hgetA : ∀ o, (H0 ++ (M ++ [o]))[H0.length + M.length]? = some o := fun o => by
   rw [← List.append_assoc, ← List.length_append, Go.Abs.hget0]; rfl
  rw [l13_0]
  generalize hcw : cloneN w = cw at *
  obtain ⟨op, ni, txt, ty, s', ts⟩ := w
  obtain ⟨tk, tts, targs⟩ := ty
  obtain ⟨op2, ni2, txt2, ty2, s2, ts2⟩ := cw
  obtain ⟨tk2, tts2, targs2⟩ := ty2
  simp only [encN,List.map_cons,List.map_nil] at hcall hgw hap
  simp only [b13_0,B0,B1,B2,List.replicate,Nat.reduceAdd,Nat.reduceSub,Nat.reduceLeDiff,Nat.reduceLT,Nat.reduceEqDiff,reduceCtorEq,Int.reduceEq,Int.reduceLT,Int.reduceLE,lenA,hlen,h3,h7,h8,h9,hc',hix,hgw,hcall,hwr,hgetA,hset0,toDatss,toDats,toDat,elems,hap]
  refine ex_imp (key _ M' v' hG' ?_ ?_ ?_ ?_ ?_) ?_
  iterate 5 simp only [B3,Nat.reduceLT,Nat.reduceEqDiff,hlen,h3,h7,h8,h9]
  rintro e tm' H' ⟨hl', he, g1, g2, hM⟩
  refine ⟨hl', he, ?_, ?_, hM⟩
  ·rw [g1]; simp only [B3,Nat.reduceLT,Nat.reduceEqDiff,hlen]
  ·rw [g2]; simp only [B3,Nat.reduceLT,Nat.reduceEqDiff,hlen]
theorem s13 : ∀ (t : NT), okN t → ∀ H, L 13 [.im (.agg (encN t))] H = some (.im (.agg (encN (cloneN t))), H)
 | .mk op ni txt (.mk tk tts targs) s args, hok, H => by
  simp only [okN] at hok
  obtain ⟨hs, hn, hgt, hoks⟩ := hok
  have hc : ∀ a ∈ args, ∀ H, L 13 [.im (.agg (encN a))] H = some (.im (.agg (encN (cloneN a))), H) := fun a ha H => s13 a (okNs_mem hoks a ha) H
  have ct := fun H => s23 (.mk tk tts targs) hgt.1 (narrow_slim _ hgt.2) H
  have key := l13 args s hs hn (H ++ [.obj none [[.im (.str op), .im (.int .i64 ni), .im (.str txt), .im (.int .i64 tk), .im (.sl tts (encTs targs)), .im (.sl s (encNs args))]], zO]) hc args.length 0 (by omega)
  simp only [zc0,zO] at key
  have hel : (encNs args).length = args.length := by rw [encNs_map]; simp
  have hcl : cloneN (.mk op ni txt (.mk tk tts targs) s args) = mkN op ni txt (cloneT (.mk tk tts targs)) (cloneNs args) := by simp only [cloneN]
  have hcll : (cloneNs args).length = args.length := by rw [cloneNs_map]; simp
  rw [hcl]
  simp only [encN]
  rw [leq F13]
  obtain ⟨hlen, ha⟩ := enter_at (f := f13) (args := [.im (.agg [.str op, .int .i64 ni, .str txt, .int .i64 tk, .sl tts (encTs targs), .sl s (encNs args)])]) (Nat.le_of_ble_eq_true rfl)
  have h0 := ha 0 _ rfl
  generalize enterA f13 [.im (.agg [.str op, .int .i64 ni, .str txt, .int .i64 tk, .sl tts (encTs targs), .sl s (encNs args)])] = tm at *
  change tm.length = 30 at hlen
  generalize hct : cloneT (.mk tk tts targs) = tc at *
  obtain ⟨k2, s2, a2⟩ := tc
  simp only [encT] at ct
  simp only [f13,e13_0,B0,B1,B2,List.replicate,Nat.reduceAdd,Nat.reduceSub,Nat.reduceLeDiff,Nat.reduceLT,Nat.reduceEqDiff,reduceCtorEq,Int.reduceEq,Int.reduceLT,Int.reduceLE,lenA,hlen,h0,hel]
  have key := fun tm => key tm [] .nils (.inl ⟨rfl, rfl⟩)
  simp only [List.append_nil] at key
  generalize hr : thenL (Λ c13_0 _ _) _ = r
  refine Exists.elim (thenL_inv hr (key _ ?_ ?_ ?_ ?_ ?_)) ?_
  iterate 5 simp only [B3,Nat.reduceLT,Nat.reduceEqDiff,hlen,h0,encNs_map]
  clear hr key
  rintro e ⟨tm', H', ⟨hl', rfl, g1, g2, M, rfl, hG⟩, rfl⟩
  simp only [B3,Nat.reduceLT,Nat.reduceEqDiff,hlen] at g1 g2
  have hm : encNs (cloneNs args) = args.map fun a => encN (cloneN a) := by rw [encNs_map, cloneNs_map, List.map_map]; rfl
  have hget1 : ∀ M : Heap, (H ++ M)[H.length + 1]? = M[1]? := fun M => by rw [hget]
  rcases hG with ⟨hes, hv⟩ | ⟨hes, tok, _, hv, _⟩
  ·have ha0 : args = [] := by simpa using hes
   have e1 : toDat (.agg [.im (.str op), .im (.int .i64 ni), .im (.str txt), .im (.int .i64 k2), .im (.sl s2 (encTs a2)), .nils]) = some (.agg (encN (mkN op ni txt (.mk k2 s2 a2) (cloneNs args)))) := by
    simp [toDat, toDats, mkN, encN, ha0, encNs, cloneNs]
   have hlv := fun L' => leave_one (H := H) (M := L') e1
   simp only [B0,B1,B2,List.replicate,Nat.reduceAdd,Nat.reduceSub,Nat.reduceLeDiff,Nat.reduceLT,Nat.reduceEqDiff,reduceCtorEq,Int.reduceEq,Int.reduceLT,Int.reduceLE,lenA,z_ops,z_nil,z_cons,z_guard,z_some,z_drop,z_do,z_not,z_not0,pairK,forall_eq_or_imp,stays,loadOf,List.reverse_cons,List.reverse_nil,List.mem_cons,List.not_mem_nil,or_false,forall_eq,true_or,or_true,Bool.true_and,endK,resA,tupA,hl',g1,g2,hv,ct,hlv]
  ·have ha0 : (cloneNs args).length ≠ 0 := by rw [hcll]; simpa using hes
   have e1 : toDat (.agg [.im (.str op), .im (.int .i64 ni), .im (.str txt), .im (.int .i64 k2), .im (.sl s2 (encTs a2)), .asl 6 (args.map fun a => encN (cloneN a)) tok]) = some (.agg (encN (mkN op ni txt (.mk k2 s2 a2) (cloneNs args)))) := by
    simp only [toDat,toDats,mkN,encN,if_neg ha0,hm]
   have hlv := fun L' => leave_one (H := H) (M := L') e1
   simp only [B0,B1,B2,List.replicate,Nat.reduceAdd,Nat.reduceSub,Nat.reduceLeDiff,Nat.reduceLT,Nat.reduceEqDiff,reduceCtorEq,Int.reduceEq,Int.reduceLT,Int.reduceLE,lenA,z_ops,z_nil,z_cons,z_guard,z_some,z_drop,z_do,z_not,z_not0,pairK,forall_eq_or_imp,stays,loadOf,List.reverse_cons,List.reverse_nil,List.mem_cons,List.not_mem_nil,or_false,forall_eq,true_or,or_true,Bool.true_and,endK,resA,tupA,hl',g1,g2,hv,ct,hlv]
termination_by t => SizeOf.sizeOf t
decreasing_by
 have := List.sizeOf_lt_of_mem ha
 simp only [NT.mk.sizeOf_spec]
 omega
theorem l12 (xs ys : List NT) (s s' : Nat) (hs : xs = [] ∨ s = 6) (hs' : ys = [] ∨ s' = 6) (hl : xs.length = ys.length) (hn : xs.length ≤ 1000) (ca cb : List AV) (ia ib : Nat) (H : Heap) (hca : ca.length = 5) (hcb : cb.length = 5) (oa : H[ia]? = some (.obj none [ca ++ [.im (.sl s (xs.map encN))]])) (ob : H[ib]? = some (.obj none [cb ++ [.im (.sl s' (ys.map encN))]]))
  (hc : ∀ a ∈ xs, ∀ b ∈ ys, L 12 [.im (.agg (encN a)), .im (.agg (encN b))] H = some (.im (.bool (sameN a b)), H)) :
  ∀ (m i : Nat), i + m = xs.length → ∀ tm : List AV, tm.length = 61 → tm.getD 2 undefA = .ptr ia 0 0 → tm.getD 3 undefA = .ptr ib 0 0 → tm.getD 5 undefA = .im (.int .i64 (i : Int)) →
  ∃ e tm' H', Λ c12_0 tm H = some (e, tm', H') ∧ tm'.length = 61 ∧ H' = H ∧ ((sameNs (xs.drop i) (ys.drop i) = true ∧ e = .exit 0) ∨ (sameNs (xs.drop i) (ys.drop i) = false ∧ e = .ret ∧ tm'.getD 4 undefA = .im (.bool false))) := by
 obtain ⟨a0, a1, a2, a3, a4, rfl⟩ : ∃ a0 a1 a2 a3 a4, ca = [a0, a1, a2, a3, a4] := by
  match ca, hca with
  | [a0, a1, a2, a3, a4], _ => exact ⟨_, _, _, _, _, rfl⟩
 obtain ⟨b0, b1, b2, b3, b4, rfl⟩ : ∃ b0 b1 b2 b3 b4, cb = [b0, b1, b2, b3, b4] := by
  match cb, hcb with
  | [b0, b1, b2, b3, b4], _ => exact ⟨_, _, _, _, _, rfl⟩
 simp only [List.cons_append,List.nil_append] at oa ob
 intro m
 induction m with
 | zero =>
  intro i hi tm hlen h2 h3 h5
  have e : xs.drop i = [] := by rw [List.drop_eq_nil_iff]; omega
  have hc' : decide ((i : Int) < (xs.length : Int)) = false := decide_eq_false (by omega)
  rw [e, l12_0]
  simp only [b12_0,B0,B1,B2,List.replicate,Nat.reduceAdd,Nat.reduceSub,Nat.reduceLeDiff,Nat.reduceLT,Nat.reduceEqDiff,reduceCtorEq,Int.reduceEq,Int.reduceLT,Int.reduceLE,lenA,hlen,h2,h3,h5,oa,List.length_map,hc',sameNs]
  exact ⟨_, _, _, rfl, by simp only [List.length_set,hlen], rfl, by simp⟩
 | succ m ih =>
  intro i hi tm hlen h2 h3 h5
  have hlt : i < xs.length := by omega
  have hltb : i < ys.length := by omega
  obtain ⟨a, hai, ea⟩ := drop_cons hlt
  obtain ⟨b, hbi, eb⟩ := drop_cons hltb
  have hs2 : s = 6 := by
   rcases hs with hs | hs
   ·subst hs; simp at hlt
   ·exact hs
  have hs2' : s' = 6 := by
   rcases hs' with hs | hs
   ·subst hs; simp at hltb
   ·exact hs
  subst hs2 hs2'
  have hc' : decide ((i : Int) < (xs.length : Int)) = true := decide_eq_true (by omega)
  have hixa := idx_nat (n := xs.length) (i := i) hlt
  have hixb := idx_nat (n := ys.length) (i := i) hltb
  have hga : (xs.map encN)[i]? = some (encN a) := by rw [List.getElem?_map, hai]; rfl
  have hgb : (ys.map encN)[i]? = some (encN b) := by rw [List.getElem?_map, hbi]; rfl
  have hcall := hc a (List.mem_of_getElem? hai) b (List.mem_of_getElem? hbi)
  have hwr := wrap_nat (i := i) (by omega)
  have key := fun tm1 => ih (i + 1) (by omega) tm1
  rw [ea, eb, l12_0]
  simp only [sameNs]
  generalize sameN a b = sb at *
  obtain ⟨op, ni, txt, ty, ns, kids⟩ := a
  obtain ⟨tk, ts, targs⟩ := ty
  obtain ⟨op2, ni2, txt2, ty2, ns2, kids2⟩ := b
  obtain ⟨tk2, ts2, targs2⟩ := ty2
  simp only [encN] at hcall hga hgb
  cases sb with
  | true =>
   simp only [b12_0,B0,B1,B2,List.replicate,Nat.reduceAdd,Nat.reduceSub,Nat.reduceLeDiff,Nat.reduceLT,Nat.reduceEqDiff,reduceCtorEq,Int.reduceEq,Int.reduceLT,Int.reduceLE,lenA,hlen,h2,h3,h5,oa,ob,List.length_map,hc',hixa,hixb,hga,hgb,hcall,hwr,Bool.true_and]
   refine ex_imp (key _ ?_ ?_ ?_ ?_) fun _ _ _ h => h
   all_goals simp only [B3,Nat.reduceLT,Nat.reduceEqDiff,hlen,h2,h3]
  | false =>
   simp only [b12_0,B0,B1,B2,List.replicate,Nat.reduceAdd,Nat.reduceSub,Nat.reduceLeDiff,Nat.reduceLT,Nat.reduceEqDiff,reduceCtorEq,Int.reduceEq,Int.reduceLT,Int.reduceLE,lenA,hlen,h2,h3,h5,oa,ob,List.length_map,hc',hixa,hixb,hga,hgb,hcall,hwr,Bool.false_and]
   exact ⟨_, _, _, rfl, by simp only [List.length_set,hlen], rfl, by simp only [B3,Nat.reduceLT,Nat.reduceEqDiff,hlen,true_and,and_true,and_self,or_true]⟩
theorem s12 : ∀ (a b : NT), okN a → okN b → ∀ H, L 12 [.im (.agg (encN a)), .im (.agg (encN b))] H = some (.im (.bool (sameN a b)), H)
 | .mk op ni txt (.mk tk ts targs) s xs, .mk op2 ni2 txt2 (.mk tk2 ts2 targs2) s' ys, ha, hb, H => by
  simp only [okN] at ha hb
  obtain ⟨hs, hn, hga, hoa⟩ := ha
  obtain ⟨hs', hn', hgb, hob⟩ := hb
  have hc : ∀ H : Heap, ∀ a ∈ xs, ∀ b ∈ ys, L 12 [.im (.agg (encN a)), .im (.agg (encN b))] H = some (.im (.bool (sameN a b)), H) := fun H a ha b hb => s12 a b (okNs_mem hoa a ha) (okNs_mem hob b hb) H
  have ct := fun H => s22 (.mk tk ts targs) (.mk tk2 ts2 targs2) hga.1 hgb.1 H
  have hlen5 : decide ((xs.length : Int) = (ys.length : Int)) = decide (xs.length = ys.length) := by
   by_cases h : xs.length = ys.length
   ·rw [decide_eq_true h, decide_eq_true (by omega)]
   ·rw [decide_eq_false h, decide_eq_false (by omega)]
  simp only [encN,encNs_map,sameN]
  simp only [encT] at ct
  have hg0 : ∀ M : Heap, (H ++ M)[H.length]? = M[0]? := fun M => by rw [hget0]
  have hg1 : ∀ M : Heap, (H ++ M)[H.length + 1]? = M[1]? := fun M => by rw [hget]
  rw [leq F12]
  obtain ⟨hlen, hg⟩ := enter_at (f := f12) (args := [.im (.agg [.str op, .int .i64 ni, .str txt, .int .i64 tk, .sl ts (encTs targs), .sl s (xs.map encN)]), .im (.agg [.str op2, .int .i64 ni2, .str txt2, .int .i64 tk2, .sl ts2 (encTs targs2), .sl s' (ys.map encN)])]) (Nat.le_of_ble_eq_true rfl)
  have h0 := hg 0 _ rfl
  have h1 := hg 1 _ rfl
  generalize enterA f12 [.im (.agg [.str op, .int .i64 ni, .str txt, .int .i64 tk, .sl ts (encTs targs), .sl s (xs.map encN)]), .im (.agg [.str op2, .int .i64 ni2, .str txt2, .int .i64 tk2, .sl ts2 (encTs targs2), .sl s' (ys.map encN)])] = tm at *
  change tm.length = 61 at hlen
  rcases Bool.eq_false_or_eq_true (decide (op = op2)) with e1 | e1
  ·rcases Bool.eq_false_or_eq_true (decide (ni = ni2)) with e2 | e2
   ·rcases Bool.eq_false_or_eq_true (decide (txt = txt2)) with e3 | e3
    ·rcases Bool.eq_false_or_eq_true (sameT (.mk tk ts targs) (.mk tk2 ts2 targs2)) with e4 | e4
     ·rcases Bool.eq_false_or_eq_true (decide (xs.length = ys.length)) with e5 | e5
      ·have hl := of_decide_eq_true e5
       have key := l12 xs ys s s' hs hs' hl hn [.im (.str op), .im (.int .i64 ni), .im (.str txt), .im (.int .i64 tk), .im (.sl ts (encTs targs))] [.im (.str op2), .im (.int .i64 ni2), .im (.str txt2), .im (.int .i64 tk2), .im (.sl ts2 (encTs targs2))] H.length (H.length + 1) (H ++ [HO.obj none [[.im (.str op), .im (.int .i64 ni), .im (.str txt), .im (.int .i64 tk), .im (.sl ts (encTs targs)), .im (.sl s (xs.map encN))]], HO.obj none [[.im (.str op2), .im (.int .i64 ni2), .im (.str txt2), .im (.int .i64 tk2), .im (.sl ts2 (encTs targs2)), .im (.sl s' (ys.map encN))]]]) rfl rfl (by rw [hget0]; rfl) (by rw [hget]; rfl) (hc _) xs.length 0 (by omega)
       simp only [zc0,List.drop_zero] at key
       simp only [f12,e12_0,B0,B1,B2,List.replicate,Nat.reduceAdd,Nat.reduceSub,Nat.reduceLeDiff,Nat.reduceLT,Nat.reduceEqDiff,reduceCtorEq,Int.reduceEq,Int.reduceLT,Int.reduceLE,lenA,z_ops,z_nil,z_cons,z_guard,z_some,z_drop,z_do,z_not,z_not0,pairK,forall_eq_or_imp,stays,loadOf,List.reverse_cons,List.reverse_nil,List.mem_cons,List.not_mem_nil,or_false,forall_eq,true_or,or_true,Bool.true_and,hlen,h0,h1,hg0,hg1,e1,e2,e3,ct,e4,hlen5,e5,List.length_map,Bool.true_and]
       generalize hr : thenL (Λ c12_0 _ _) _ = r
       refine Exists.elim (thenL_inv hr (key _ ?_ ?_ ?_ ?_)) ?_
       iterate 4 simp only [B3,Nat.reduceLT,Nat.reduceEqDiff,hlen]
       clear hr key
       rintro e ⟨tm1, H1, ⟨hl1, rfl, hm⟩, rfl⟩
       rcases hm with ⟨he, rfl⟩ | ⟨he, rfl, g4⟩
       ·rw [he]
        simp only [B0,B1,B2,List.replicate,Nat.reduceAdd,Nat.reduceSub,Nat.reduceLeDiff,Nat.reduceLT,Nat.reduceEqDiff,reduceCtorEq,Int.reduceEq,Int.reduceLT,Int.reduceLE,lenA,endK,resA,tupA,hl1,leave_app]
       ·rw [he]
        simp only [B0,B1,B2,List.replicate,Nat.reduceAdd,Nat.reduceSub,Nat.reduceLeDiff,Nat.reduceLT,Nat.reduceEqDiff,reduceCtorEq,Int.reduceEq,Int.reduceLT,Int.reduceLE,lenA,endK,resA,tupA,hl1,g4,leave_app]
      ·simp only [f12,B0,B1,B2,List.replicate,Nat.reduceAdd,Nat.reduceSub,Nat.reduceLeDiff,Nat.reduceLT,Nat.reduceEqDiff,reduceCtorEq,Int.reduceEq,Int.reduceLT,Int.reduceLE,lenA,z_ops,z_nil,z_cons,z_guard,z_some,z_drop,z_do,z_not,z_not0,pairK,forall_eq_or_imp,stays,loadOf,List.reverse_cons,List.reverse_nil,List.mem_cons,List.not_mem_nil,or_false,forall_eq,true_or,or_true,Bool.true_and,endK,resA,tupA,hlen,h0,h1,hg0,hg1,e1,e2,e3,ct,e4,hlen5,e5,List.length_map,leave_app,Bool.true_and,Bool.false_and,Bool.and_false]
     ·simp only [f12,B0,B1,B2,List.replicate,Nat.reduceAdd,Nat.reduceSub,Nat.reduceLeDiff,Nat.reduceLT,Nat.reduceEqDiff,reduceCtorEq,Int.reduceEq,Int.reduceLT,Int.reduceLE,lenA,z_ops,z_nil,z_cons,z_guard,z_some,z_drop,z_do,z_not,z_not0,pairK,forall_eq_or_imp,stays,loadOf,List.reverse_cons,List.reverse_nil,List.mem_cons,List.not_mem_nil,or_false,forall_eq,true_or,or_true,Bool.true_and,endK,resA,tupA,hlen,h0,h1,hg0,hg1,e1,e2,e3,ct,e4,leave_app,Bool.true_and,Bool.false_and,Bool.and_false]
    ·simp only [f12,B0,B1,B2,List.replicate,Nat.reduceAdd,Nat.reduceSub,Nat.reduceLeDiff,Nat.reduceLT,Nat.reduceEqDiff,reduceCtorEq,Int.reduceEq,Int.reduceLT,Int.reduceLE,lenA,z_ops,z_nil,z_cons,z_guard,z_some,z_drop,z_do,z_not,z_not0,pairK,forall_eq_or_imp,stays,loadOf,List.reverse_cons,List.reverse_nil,List.mem_cons,List.not_mem_nil,or_false,forall_eq,true_or,or_true,Bool.true_and,endK,resA,tupA,hlen,h0,h1,hg0,hg1,e1,e2,e3,leave_app,Bool.true_and,Bool.false_and,Bool.and_false]
   ·simp only [f12,B0,B1,B2,List.replicate,Nat.reduceAdd,Nat.reduceSub,Nat.reduceLeDiff,Nat.reduceLT,Nat.reduceEqDiff,reduceCtorEq,Int.reduceEq,Int.reduceLT,Int.reduceLE,lenA,z_ops,z_nil,z_cons,z_guard,z_some,z_drop,z_do,z_not,z_not0,pairK,forall_eq_or_imp,stays,loadOf,List.reverse_cons,List.reverse_nil,List.mem_cons,List.not_mem_nil,or_false,forall_eq,true_or,or_true,Bool.true_and,endK,resA,tupA,hlen,h0,h1,hg0,hg1,e1,e2,leave_app,Bool.true_and,Bool.false_and,Bool.and_false]
  ·simp only [f12,B0,B1,B2,List.replicate,Nat.reduceAdd,Nat.reduceSub,Nat.reduceLeDiff,Nat.reduceLT,Nat.reduceEqDiff,reduceCtorEq,Int.reduceEq,Int.reduceLT,Int.reduceLE,lenA,z_ops,z_nil,z_cons,z_guard,z_some,z_drop,z_do,z_not,z_not0,pairK,forall_eq_or_imp,stays,loadOf,List.reverse_cons,List.reverse_nil,List.mem_cons,List.not_mem_nil,or_false,forall_eq,true_or,or_true,Bool.true_and,endK,resA,tupA,hlen,h0,h1,hg0,hg1,e1,leave_app,Bool.true_and,Bool.false_and,Bool.and_false]
termination_by a => SizeOf.sizeOf a
decreasing_by
 have := List.sizeOf_lt_of_mem ‹_ ∈ xs›
 simp only [NT.mk.sizeOf_spec]
 omega
end Go.Abs.Seat
end
section
set_option linter.unusedVariables false
set_option linter.unusedSimpArgs false
namespace Go.Abs.Seat
open Go.Proofs
def bareN : NT → Bool → Bool → Bool → Bool → Bool
 | .mk _ i txt (.mk k _ args) _ kids, a, b, c, d => (((a || decide (i = 0)) && (b || decide (txt = []))) && (c || (decide (k = 0) && decide ((args.length : Int) = 0)))) && (d || decide ((kids.length : Int) = 0))
section
variable (op txt : List UInt8) (i k : Int) (sa s : Nat) (args : List KT) (kids : List NT) (H : Heap)
theorem s43 (a b c d : Bool) (hp : (a, b, c, d) = (true, false, false, false) ∨ (a, b, c, d) = (false, true, false, false) ∨ (a, b, c, d) = (false, false, true, false) ∨ (a, b, c, d) = (false, false, false, true)) : L 43 [.im (.agg (encN (.mk op i txt (.mk k sa args) s kids))), .im (.bool a), .im (.bool b), .im (.bool c), .im (.bool d)] H = some (.im (.bool (bareN (.mk op i txt (.mk k sa args) s kids) a b c d)), H) := by
 have hl1 : (encTs args).length = args.length := by rw [encTs_map]; simp
 have hl2 : (encNs kids).length = kids.length := by rw [encNs_map]; simp
 simp only [encN,bareN]
 rw [leq F43]
 obtain ⟨hlen, ha⟩ := enter_at (f := f43) (args := [.im (.agg [.str op, .int .i64 i, .str txt, .int .i64 k, .sl sa (encTs args), .sl s (encNs kids)]), .im (.bool a), .im (.bool b), .im (.bool c), .im (.bool d)]) (Nat.le_of_ble_eq_true rfl)
 have h0 := ha 0 _ rfl
 have h1 := ha 1 _ rfl
 have h2 := ha 2 _ rfl
 have h3 := ha 3 _ rfl
 have h4 := ha 4 _ rfl
 generalize enterA f43 [.im (.agg [.str op, .int .i64 i, .str txt, .int .i64 k, .sl sa (encTs args), .sl s (encNs kids)]), .im (.bool a), .im (.bool b), .im (.bool c), .im (.bool d)] = tm at *
 change tm.length = 50 at hlen
 clear ha
 have kl : ((encTs args).length : Int) = (args.length : Int) := by rw [hl1]
 have kl2 : ((encNs kids).length : Int) = (kids.length : Int) := by rw [hl2]
 have go : ∀ (p1 p2 p3 p4 p5 : Bool), decide (i = 0) = p1 → decide (txt = []) = p2 → decide (k = 0) = p3 → decide ((args.length : Int) = 0) = p4 → decide ((kids.length : Int) = 0) = p5 →
   exec0 L Λ f43.code tm H (endK f43 H) = some (.im (.bool ((((a || p1) && (b || p2)) && (c || (p3 && p4))) && (d || p5))), H) := fun p1 p2 p3 p4 p5 e1 e2 e3 e4 e5 => by
  have hp := hp
  rcases hp with hp | hp | hp | hp
  ·simp only [Prod.mk.injEq] at hp
   obtain ⟨rfl, rfl, rfl, rfl⟩ := hp
   cases p2
   ·simp only [f43,B0,B1,B2,List.replicate,Nat.reduceAdd,Nat.reduceSub,Nat.reduceLeDiff,Nat.reduceLT,Nat.reduceEqDiff,reduceCtorEq,Int.reduceEq,Int.reduceLT,Int.reduceLE,lenA,z_ops,z_nil,z_cons,z_guard,z_some,z_drop,z_do,z_not,z_not0,pairK,forall_eq_or_imp,stays,loadOf,List.reverse_cons,List.reverse_nil,List.mem_cons,List.not_mem_nil,or_false,forall_eq,true_or,or_true,Bool.true_and,endK,resA,tupA,hlen,h0,h1,h2,h3,h4,e1,e2,e3,e4,e5,hl1,hl2,leave_app,Bool.false_or,Bool.true_or,Bool.false_and,Bool.true_and]
   cases p3
   ·simp only [f43,B0,B1,B2,List.replicate,Nat.reduceAdd,Nat.reduceSub,Nat.reduceLeDiff,Nat.reduceLT,Nat.reduceEqDiff,reduceCtorEq,Int.reduceEq,Int.reduceLT,Int.reduceLE,lenA,z_ops,z_nil,z_cons,z_guard,z_some,z_drop,z_do,z_not,z_not0,pairK,forall_eq_or_imp,stays,loadOf,List.reverse_cons,List.reverse_nil,List.mem_cons,List.not_mem_nil,or_false,forall_eq,true_or,or_true,Bool.true_and,endK,resA,tupA,hlen,h0,h1,h2,h3,h4,e1,e2,e3,e4,e5,hl1,hl2,leave_app,Bool.false_or,Bool.true_or,Bool.false_and,Bool.true_and]
   cases p4
   ·simp only [f43,B0,B1,B2,List.replicate,Nat.reduceAdd,Nat.reduceSub,Nat.reduceLeDiff,Nat.reduceLT,Nat.reduceEqDiff,reduceCtorEq,Int.reduceEq,Int.reduceLT,Int.reduceLE,lenA,z_ops,z_nil,z_cons,z_guard,z_some,z_drop,z_do,z_not,z_not0,pairK,forall_eq_or_imp,stays,loadOf,List.reverse_cons,List.reverse_nil,List.mem_cons,List.not_mem_nil,or_false,forall_eq,true_or,or_true,Bool.true_and,endK,resA,tupA,hlen,h0,h1,h2,h3,h4,e1,e2,e3,e4,e5,hl1,hl2,leave_app,Bool.false_or,Bool.true_or,Bool.false_and,Bool.true_and]
   cases p5
   ·simp only [f43,B0,B1,B2,List.replicate,Nat.reduceAdd,Nat.reduceSub,Nat.reduceLeDiff,Nat.reduceLT,Nat.reduceEqDiff,reduceCtorEq,Int.reduceEq,Int.reduceLT,Int.reduceLE,lenA,z_ops,z_nil,z_cons,z_guard,z_some,z_drop,z_do,z_not,z_not0,pairK,forall_eq_or_imp,stays,loadOf,List.reverse_cons,List.reverse_nil,List.mem_cons,List.not_mem_nil,or_false,forall_eq,true_or,or_true,Bool.true_and,endK,resA,tupA,hlen,h0,h1,h2,h3,h4,e1,e2,e3,e4,e5,hl1,hl2,leave_app,Bool.false_or,Bool.true_or,Bool.false_and,Bool.true_and]
   simp only [f43,B0,B1,B2,List.replicate,Nat.reduceAdd,Nat.reduceSub,Nat.reduceLeDiff,Nat.reduceLT,Nat.reduceEqDiff,reduceCtorEq,Int.reduceEq,Int.reduceLT,Int.reduceLE,lenA,z_ops,z_nil,z_cons,z_guard,z_some,z_drop,z_do,z_not,z_not0,pairK,forall_eq_or_imp,stays,loadOf,List.reverse_cons,List.reverse_nil,List.mem_cons,List.not_mem_nil,or_false,forall_eq,true_or,or_true,Bool.true_and,endK,resA,tupA,hlen,h0,h1,h2,h3,h4,e1,e2,e3,e4,e5,hl1,hl2,leave_app,Bool.false_or,Bool.true_or,Bool.false_and,Bool.true_and]
  ·simp only [Prod.mk.injEq] at hp
   obtain ⟨rfl, rfl, rfl, rfl⟩ := hp
   cases p1
   ·simp only [f43,B0,B1,B2,List.replicate,Nat.reduceAdd,Nat.reduceSub,Nat.reduceLeDiff,Nat.reduceLT,Nat.reduceEqDiff,reduceCtorEq,Int.reduceEq,Int.reduceLT,Int.reduceLE,lenA,z_ops,z_nil,z_cons,z_guard,z_some,z_drop,z_do,z_not,z_not0,pairK,forall_eq_or_imp,stays,loadOf,List.reverse_cons,List.reverse_nil,List.mem_cons,List.not_mem_nil,or_false,forall_eq,true_or,or_true,Bool.true_and,endK,resA,tupA,hlen,h0,h1,h2,h3,h4,e1,e2,e3,e4,e5,hl1,hl2,leave_app,Bool.false_or,Bool.true_or,Bool.false_and,Bool.true_and]
   cases p3
   ·simp only [f43,B0,B1,B2,List.replicate,Nat.reduceAdd,Nat.reduceSub,Nat.reduceLeDiff,Nat.reduceLT,Nat.reduceEqDiff,reduceCtorEq,Int.reduceEq,Int.reduceLT,Int.reduceLE,lenA,z_ops,z_nil,z_cons,z_guard,z_some,z_drop,z_do,z_not,z_not0,pairK,forall_eq_or_imp,stays,loadOf,List.reverse_cons,List.reverse_nil,List.mem_cons,List.not_mem_nil,or_false,forall_eq,true_or,or_true,Bool.true_and,endK,resA,tupA,hlen,h0,h1,h2,h3,h4,e1,e2,e3,e4,e5,hl1,hl2,leave_app,Bool.false_or,Bool.true_or,Bool.false_and,Bool.true_and]
   cases p4
   ·simp only [f43,B0,B1,B2,List.replicate,Nat.reduceAdd,Nat.reduceSub,Nat.reduceLeDiff,Nat.reduceLT,Nat.reduceEqDiff,reduceCtorEq,Int.reduceEq,Int.reduceLT,Int.reduceLE,lenA,z_ops,z_nil,z_cons,z_guard,z_some,z_drop,z_do,z_not,z_not0,pairK,forall_eq_or_imp,stays,loadOf,List.reverse_cons,List.reverse_nil,List.mem_cons,List.not_mem_nil,or_false,forall_eq,true_or,or_true,Bool.true_and,endK,resA,tupA,hlen,h0,h1,h2,h3,h4,e1,e2,e3,e4,e5,hl1,hl2,leave_app,Bool.false_or,Bool.true_or,Bool.false_and,Bool.true_and]
   cases p5
   ·simp only [f43,B0,B1,B2,List.replicate,Nat.reduceAdd,Nat.reduceSub,Nat.reduceLeDiff,Nat.reduceLT,Nat.reduceEqDiff,reduceCtorEq,Int.reduceEq,Int.reduceLT,Int.reduceLE,lenA,z_ops,z_nil,z_cons,z_guard,z_some,z_drop,z_do,z_not,z_not0,pairK,forall_eq_or_imp,stays,loadOf,List.reverse_cons,List.reverse_nil,List.mem_cons,List.not_mem_nil,or_false,forall_eq,true_or,or_true,Bool.true_and,endK,resA,tupA,hlen,h0,h1,h2,h3,h4,e1,e2,e3,e4,e5,hl1,hl2,leave_app,Bool.false_or,Bool.true_or,Bool.false_and,Bool.true_and]
   simp only [f43,B0,B1,B2,List.replicate,Nat.reduceAdd,Nat.reduceSub,Nat.reduceLeDiff,Nat.reduceLT,Nat.reduceEqDiff,reduceCtorEq,Int.reduceEq,Int.reduceLT,Int.reduceLE,lenA,z_ops,z_nil,z_cons,z_guard,z_some,z_drop,z_do,z_not,z_not0,pairK,forall_eq_or_imp,stays,loadOf,List.reverse_cons,List.reverse_nil,List.mem_cons,List.not_mem_nil,or_false,forall_eq,true_or,or_true,Bool.true_and,endK,resA,tupA,hlen,h0,h1,h2,h3,h4,e1,e2,e3,e4,e5,hl1,hl2,leave_app,Bool.false_or,Bool.true_or,Bool.false_and,Bool.true_and]
  ·simp only [Prod.mk.injEq] at hp
   obtain ⟨rfl, rfl, rfl, rfl⟩ := hp
   cases p1
   ·simp only [f43,B0,B1,B2,List.replicate,Nat.reduceAdd,Nat.reduceSub,Nat.reduceLeDiff,Nat.reduceLT,Nat.reduceEqDiff,reduceCtorEq,Int.reduceEq,Int.reduceLT,Int.reduceLE,lenA,z_ops,z_nil,z_cons,z_guard,z_some,z_drop,z_do,z_not,z_not0,pairK,forall_eq_or_imp,stays,loadOf,List.reverse_cons,List.reverse_nil,List.mem_cons,List.not_mem_nil,or_false,forall_eq,true_or,or_true,Bool.true_and,endK,resA,tupA,hlen,h0,h1,h2,h3,h4,e1,e2,e3,e4,e5,hl1,hl2,leave_app,Bool.false_or,Bool.true_or,Bool.false_and,Bool.true_and]
   cases p2
   ·simp only [f43,B0,B1,B2,List.replicate,Nat.reduceAdd,Nat.reduceSub,Nat.reduceLeDiff,Nat.reduceLT,Nat.reduceEqDiff,reduceCtorEq,Int.reduceEq,Int.reduceLT,Int.reduceLE,lenA,z_ops,z_nil,z_cons,z_guard,z_some,z_drop,z_do,z_not,z_not0,pairK,forall_eq_or_imp,stays,loadOf,List.reverse_cons,List.reverse_nil,List.mem_cons,List.not_mem_nil,or_false,forall_eq,true_or,or_true,Bool.true_and,endK,resA,tupA,hlen,h0,h1,h2,h3,h4,e1,e2,e3,e4,e5,hl1,hl2,leave_app,Bool.false_or,Bool.true_or,Bool.false_and,Bool.true_and]
   cases p5
   ·simp only [f43,B0,B1,B2,List.replicate,Nat.reduceAdd,Nat.reduceSub,Nat.reduceLeDiff,Nat.reduceLT,Nat.reduceEqDiff,reduceCtorEq,Int.reduceEq,Int.reduceLT,Int.reduceLE,lenA,z_ops,z_nil,z_cons,z_guard,z_some,z_drop,z_do,z_not,z_not0,pairK,forall_eq_or_imp,stays,loadOf,List.reverse_cons,List.reverse_nil,List.mem_cons,List.not_mem_nil,or_false,forall_eq,true_or,or_true,Bool.true_and,endK,resA,tupA,hlen,h0,h1,h2,h3,h4,e1,e2,e3,e4,e5,hl1,hl2,leave_app,Bool.false_or,Bool.true_or,Bool.false_and,Bool.true_and]
   simp only [f43,B0,B1,B2,List.replicate,Nat.reduceAdd,Nat.reduceSub,Nat.reduceLeDiff,Nat.reduceLT,Nat.reduceEqDiff,reduceCtorEq,Int.reduceEq,Int.reduceLT,Int.reduceLE,lenA,z_ops,z_nil,z_cons,z_guard,z_some,z_drop,z_do,z_not,z_not0,pairK,forall_eq_or_imp,stays,loadOf,List.reverse_cons,List.reverse_nil,List.mem_cons,List.not_mem_nil,or_false,forall_eq,true_or,or_true,Bool.true_and,endK,resA,tupA,hlen,h0,h1,h2,h3,h4,e1,e2,e3,e4,e5,hl1,hl2,leave_app,Bool.false_or,Bool.true_or,Bool.false_and,Bool.true_and]
  ·simp only [Prod.mk.injEq] at hp
   obtain ⟨rfl, rfl, rfl, rfl⟩ := hp
   cases p1
   ·simp only [f43,B0,B1,B2,List.replicate,Nat.reduceAdd,Nat.reduceSub,Nat.reduceLeDiff,Nat.reduceLT,Nat.reduceEqDiff,reduceCtorEq,Int.reduceEq,Int.reduceLT,Int.reduceLE,lenA,z_ops,z_nil,z_cons,z_guard,z_some,z_drop,z_do,z_not,z_not0,pairK,forall_eq_or_imp,stays,loadOf,List.reverse_cons,List.reverse_nil,List.mem_cons,List.not_mem_nil,or_false,forall_eq,true_or,or_true,Bool.true_and,endK,resA,tupA,hlen,h0,h1,h2,h3,h4,e1,e2,e3,e4,e5,hl1,hl2,leave_app,Bool.false_or,Bool.true_or,Bool.false_and,Bool.true_and]
   cases p2
   ·simp only [f43,B0,B1,B2,List.replicate,Nat.reduceAdd,Nat.reduceSub,Nat.reduceLeDiff,Nat.reduceLT,Nat.reduceEqDiff,reduceCtorEq,Int.reduceEq,Int.reduceLT,Int.reduceLE,lenA,z_ops,z_nil,z_cons,z_guard,z_some,z_drop,z_do,z_not,z_not0,pairK,forall_eq_or_imp,stays,loadOf,List.reverse_cons,List.reverse_nil,List.mem_cons,List.not_mem_nil,or_false,forall_eq,true_or,or_true,Bool.true_and,endK,resA,tupA,hlen,h0,h1,h2,h3,h4,e1,e2,e3,e4,e5,hl1,hl2,leave_app,Bool.false_or,Bool.true_or,Bool.false_and,Bool.true_and]
   cases p3
   ·simp only [f43,B0,B1,B2,List.replicate,Nat.reduceAdd,Nat.reduceSub,Nat.reduceLeDiff,Nat.reduceLT,Nat.reduceEqDiff,reduceCtorEq,Int.reduceEq,Int.reduceLT,Int.reduceLE,lenA,z_ops,z_nil,z_cons,z_guard,z_some,z_drop,z_do,z_not,z_not0,pairK,forall_eq_or_imp,stays,loadOf,List.reverse_cons,List.reverse_nil,List.mem_cons,List.not_mem_nil,or_false,forall_eq,true_or,or_true,Bool.true_and,endK,resA,tupA,hlen,h0,h1,h2,h3,h4,e1,e2,e3,e4,e5,hl1,hl2,leave_app,Bool.false_or,Bool.true_or,Bool.false_and,Bool.true_and]
   cases p4
   ·simp only [f43,B0,B1,B2,List.replicate,Nat.reduceAdd,Nat.reduceSub,Nat.reduceLeDiff,Nat.reduceLT,Nat.reduceEqDiff,reduceCtorEq,Int.reduceEq,Int.reduceLT,Int.reduceLE,lenA,z_ops,z_nil,z_cons,z_guard,z_some,z_drop,z_do,z_not,z_not0,pairK,forall_eq_or_imp,stays,loadOf,List.reverse_cons,List.reverse_nil,List.mem_cons,List.not_mem_nil,or_false,forall_eq,true_or,or_true,Bool.true_and,endK,resA,tupA,hlen,h0,h1,h2,h3,h4,e1,e2,e3,e4,e5,hl1,hl2,leave_app,Bool.false_or,Bool.true_or,Bool.false_and,Bool.true_and]
   simp only [f43,B0,B1,B2,List.replicate,Nat.reduceAdd,Nat.reduceSub,Nat.reduceLeDiff,Nat.reduceLT,Nat.reduceEqDiff,reduceCtorEq,Int.reduceEq,Int.reduceLT,Int.reduceLE,lenA,z_ops,z_nil,z_cons,z_guard,z_some,z_drop,z_do,z_not,z_not0,pairK,forall_eq_or_imp,stays,loadOf,List.reverse_cons,List.reverse_nil,List.mem_cons,List.not_mem_nil,or_false,forall_eq,true_or,or_true,Bool.true_and,endK,resA,tupA,hlen,h0,h1,h2,h3,h4,e1,e2,e3,e4,e5,hl1,hl2,leave_app,Bool.false_or,Bool.true_or,Bool.false_and,Bool.true_and]
 exact go _ _ _ _ _ rfl rfl rfl rfl rfl
end
end Go.Abs.Seat
end
section
set_option linter.unusedVariables false
set_option linter.unusedSimpArgs false
namespace Go.Abs.Seat
open Go.Proofs
def hexD (n : Nat) : UInt8 := (hexW[n]?).getD 0
def quoteC (c : UInt8) : List UInt8 := if plnZ (c.toNat : Int) = true then [c] else [92, hexD (c.toNat / 16), hexD (c.toNat % 16)]
def quoteL : List UInt8 → List UInt8
 | [] => []
 | c :: s => quoteC c ++ quoteL s
def quoteB (s : List UInt8) : List UInt8 := 34 :: (quoteL s ++ [34])
theorem quoteC_len (c : UInt8) : (quoteC c).length ≤ 3 := by unfold quoteC; split <;> simp
theorem quoteL_len : ∀ s : List UInt8, (quoteL s).length ≤ 3 * s.length
 | [] => Nat.le_refl _
 | c :: s => by
  have h1 := quoteC_len c
  have h2 := quoteL_len s
  simp only [quoteL,List.length_append,List.length_cons]
  omega
theorem hexD_at (n : Nat) (h : n < 16) : hexW[n]? = some (hexD n) := by
 unfold hexD
 rw [List.getElem?_eq_getElem (show n < hexW.length from h)]
 rfl
theorem enc_hex : ∀ n : Fin 16, (Utf8.encode ((hexD n.val).toNat : Int)).data.toList = [hexD n.val] := by decide +kernel
theorem byte_hi : ∀ x : Fin 256, ((x.val : Int)).fdiv (2 ^ (Min.min (4 : Int).toNat IntKind.u8.bits)) = ((x.val / 16 : Nat) : Int) := by decide +kernel
theorem byte_lo : ∀ x : Fin 256, IntKind.u8.wrap (((BitVec.ofInt IntKind.u8.bits (x.val : Int)) &&& (BitVec.ofInt IntKind.u8.bits 15)).toNat : Int) = ((x.val % 16 : Nat) : Int) := by decide +kernel
theorem b_hi (c : UInt8) : binA .shr (.im (.int .u8 (c.toNat : Int))) (.im (.int .u64 4)) = some (.im (.int .u8 ((c.toNat / 16 : Nat) : Int))) := by
 have := byte_hi ⟨c.toNat, c.toNat_lt⟩
 simp only [binA,isShift,if_true,binShift]
 rw [if_neg (by decide), this]
theorem b_lo (c : UInt8) : binA .and (.im (.int .u8 (c.toNat : Int))) (.im (.int .u8 15)) = some (.im (.int .u8 ((c.toNat % 16 : Nat) : Int))) := by
 have := byte_lo ⟨c.toNat, c.toNat_lt⟩
 simp only [binA,isShift,Bool.false_eq_true,if_false,if_true,binInt]
 rw [this]
variable {n : Nat} {ty : TypeId × Nat} {rest : List AV}
theorem l46 (hty : Tryd.okB ty = true) (id : Nat) (s : List UInt8) (hs : s.length ≤ 4611686018427387904) :
  ∀ (m i : Nat) (tm : List AV) (H : Heap) (txt : List UInt8), i + m = s.length → txt.length + 3 * m ≤ 2 ^ 46 → HoldE ty 5 n H id rest txt → tm.length = 43 → tm.getD 0 undefA = .ptr id 0 0 →
   tm.getD 11 undefA = .im (.sl 1 (s.map fun c => [byteDat c])) → tm.getD 12 undefA = .im (.int .i64 (s.length : Int)) → tm.getD 13 undefA = .im (.int .i64 (i : Int)) →
  ∃ e tm' H', Λ c46_0 tm H = some (e, tm', H') ∧ (e = .exit 0 ∧ tm'.length = 43 ∧ tm'.getD 0 undefA = .ptr id 0 0 ∧ HoldE ty 5 n H' id rest (txt ++ quoteL (s.drop i)) ∧ Keeps n id H H')
 | 0, i, tm, H, txt, hi, hb, hH, hlen, h0, h11, h12, h13 => by
  have e : s.drop i = [] := by rw [List.drop_eq_nil_iff]; omega
  have hc : decide ((i : Int) < (s.length : Int)) = false := decide_eq_false (by omega)
  rw [l46_0, e]
  simp only [b46_0,B0,B1,B2,List.replicate,Nat.reduceAdd,Nat.reduceSub,Nat.reduceLeDiff,Nat.reduceLT,Nat.reduceEqDiff,reduceCtorEq,Int.reduceEq,Int.reduceLT,Int.reduceLE,lenA,hlen,h0,h11,h12,h13,hc]
  exact ⟨_, _, _, rfl, rfl, by simp only [List.length_set,hlen], by simp only [B3,Nat.reduceLT,Nat.reduceEqDiff,hlen,h0], by simpa only [quoteL, List.append_nil] using hH, Keeps.refl _ _ _⟩
 | m + 1, i, tm, H, txt, hi, hb, hH, hlen, h0, h11, h12, h13 => by
  have hlt : i < s.length := by omega
  have e : s.drop i = s[i] :: s.drop (i + 1) := List.drop_eq_getElem_cons hlt
  have hsi : s[i]? = some s[i] := List.getElem?_eq_getElem hlt
  generalize s[i] = c at e hsi
  have hc : decide ((i : Int) < (s.length : Int)) = true := decide_eq_true (by omega)
  have hix := idx_nat (i := i) (n := (s.map fun c => [byteDat c]).length) (by simpa using hlt)
  have hget : (s.map fun c => [byteDat c])[i]? = some [byteDat c] := by rw [List.getElem?_map, hsi]; rfl
  have hwr := wrap_nat (i := i) (by omega)
  have c51 := fun H => s51 (c.toNat : Int) H
  rw [l46_0, e]
  rcases Bool.eq_false_or_eq_true (plnZ (c.toNat : Int)) with hp | hp
  ·obtain ⟨H2, hcall, hH2, hK2⟩ := s62 hty hH c (by omega)
   have key := fun tm1 => l46 hty id s hs m (i + 1) tm1 H2 (txt ++ [c]) (by omega) (by simp; omega) hH2
   simp only [byteDat] at hcall hget c51 hix
   simp only [hp] at c51
   simp only [b46_0,B0,B1,B2,List.replicate,Nat.reduceAdd,Nat.reduceSub,Nat.reduceLeDiff,Nat.reduceLT,Nat.reduceEqDiff,reduceCtorEq,Int.reduceEq,Int.reduceLT,Int.reduceLE,lenA,byteDat,hlen,h0,h11,h12,h13,hc,hix,hget,c51,hcall,hwr]
   refine ex_imp (key _ ?_ ?_ ?_ ?_ ?_) ?_
   iterate 5 simp only [B3,Nat.reduceLT,Nat.reduceEqDiff,hlen,h0,h11,h12,byteDat]
   rintro e tm' H' ⟨he, hl, g0, gH, gK⟩
   refine ⟨he, hl, g0, ?_, hK2.trans gK⟩
   simpa only [quoteL, quoteC, hp, if_true, List.append_assoc] using gH
  ·have hq : quoteC c = [92, hexD (c.toNat / 16), hexD (c.toNat % 16)] := by unfold quoteC; rw [if_neg (by rw [hp]; simp)]
   have hhi : c.toNat / 16 < 16 := by have := c.toNat_lt; omega
   have hlo : c.toNat % 16 < 16 := by omega
   have e1 := enc_hex ⟨c.toNat / 16, hhi⟩
   have e2 := enc_hex ⟨c.toNat % 16, hlo⟩
   have g1 := hexD_at _ hhi
   have g2 := hexD_at _ hlo
   have q1 := b_hi c
   have q2 := b_lo c
   obtain ⟨H2, hcall, hH2, hK2⟩ := s44 hty hH [92, hexD (c.toNat / 16), hexD (c.toNat % 16)] (by simp only [List.length_cons,List.length_nil]; omega)
   have key := fun tm1 => l46 hty id s hs m (i + 1) tm1 H2 (txt ++ [92, hexD (c.toNat / 16), hexD (c.toNat % 16)]) (by omega) (by simp; omega) hH2
   have p1 : (0 : Int) ≤ ((c.toNat / 16 : Nat) : Int) := Int.natCast_nonneg _
   have p2 : (0 : Int) ≤ ((c.toNat % 16 : Nat) : Int) := Int.natCast_nonneg _
   simp only [byteDat] at hcall hget c51 hix
   simp only [hp] at c51
   simp only [hexW] at g1 g2
   generalize c.toNat / 16 = u1 at *
   generalize c.toNat % 16 = u2 at *
   generalize hexD u1 = x1 at *
   generalize hexD u2 = x2 at *
   have a1 : ∀ a b : List UInt8, a.length + b.length ≤ 100 → binA .add (.im (.str a)) (.im (.str b)) = some (.im (.str (a ++ b))) := fun a b h => s_add (by omega)
   have a2 := a1 [92] [x1] (by simp)
   have a3 := a1 [92, x1] [x2] (by simp)
   simp only [List.cons_append,List.nil_append] at a2 a3
   clear a1
   simp only [b46_0,B0,B1,B2,List.replicate,Nat.reduceAdd,Nat.reduceSub,Nat.reduceLeDiff,Nat.reduceLT,Nat.reduceEqDiff,reduceCtorEq,Int.reduceEq,Int.reduceLT,Int.reduceLE,lenA,byteDat,intOfA,Int.toNat_natCast,hlen,h0,h11,h12,h13,hc,hix,hget,c51,q1,q2,p1,p2,g1,g2,e1,e2,a2,a3,hcall,hwr]
   refine ex_imp (key _ ?_ ?_ ?_ ?_ ?_) ?_
   iterate 5 simp only [B3,Nat.reduceLT,Nat.reduceEqDiff,hlen,h0,h11,h12,byteDat]
   rintro e tm' H' ⟨he, hl, g0, gH, gK⟩
   refine ⟨he, hl, g0, ?_, hK2.trans gK⟩
   simpa only [quoteL, hq, List.append_assoc] using gH
theorem s46 (hty : Tryd.okB ty = true) {H : Heap} {id : Nat} {txt : List UInt8} (h : HoldE ty 5 n H id rest txt) (s : List UInt8) (hs : s.length ≤ 1000000) (hb : txt.length ≤ 1000000000) :
  ∃ H', L 46 [.ptr id 0 0, .im (.str s)] H = some (.tup [], H') ∧ HoldE ty 5 n H' id rest (txt ++ quoteB s) ∧ Keeps n id H H' := by
 obtain ⟨H1, hc1, hH1, hK1⟩ := s62 hty h 34 (by omega)
 have key := fun tm1 => l46 (n := n) hty id s (by omega) s.length 0 tm1 H1 (txt ++ [34]) (by omega) (by simp; omega) hH1
 suffices hsuf : ∃ H2, HoldE ty 5 n H2 id rest (txt ++ quoteB s) ∧ Keeps n id H H2 ∧ L 46 [.ptr id 0 0, .im (.str s)] H = some (leave H false (.tup []) H2) by
  obtain ⟨H2, h1, h2, h3⟩ := hsuf
  obtain ⟨H', e1, e2, e3⟩ := leave_holdE (r := .tup []) (r' := .tup []) rfl h h1 h2
  exact ⟨H', by rw [h3, e1], e2, e3⟩
 rw [leq F46]
 obtain ⟨hlen, ha⟩ := enter_at (f := f46) (args := [.ptr id 0 0, .im (.str s)]) (Nat.le_of_ble_eq_true rfl)
 have h0 := ha 0 _ rfl
 have h1 := ha 1 _ rfl
 generalize enterA f46 [.ptr id 0 0, .im (.str s)] = tm at *
 change tm.length = 43 at hlen
 have z : ((0 : Nat) : Int) = 0 := rfl
 have b34 : (((34 : UInt8).toNat : Nat) : Int) = 34 := rfl
 simp only [byteDat,b34] at hc1
 have hml : (s.map fun c => [byteDat c]).length = s.length := by simp
 simp only [byteDat] at hml
 simp only [z,List.drop_zero,byteDat] at key
 simp only [f46,e46_0,B0,B1,B2,List.replicate,Nat.reduceAdd,Nat.reduceSub,Nat.reduceLeDiff,Nat.reduceLT,Nat.reduceEqDiff,reduceCtorEq,Int.reduceEq,Int.reduceLT,Int.reduceLE,lenA,byteDat,hlen,h0,h1,hc1,hml]
 refine thenL_ex (fun r => ∃ H2, HoldE ty 5 n H2 id rest (txt ++ quoteB s) ∧ Keeps n id H H2 ∧ r = some (leave H false (.tup []) H2)) (key _ ?_ ?_ ?_ ?_ ?_) ?_
 iterate 5 simp only [B3,Nat.reduceLT,Nat.reduceEqDiff,hlen,h0,h1,hml]
 rintro e tm1 H2 ⟨rfl, hl1, a0, aH, aK⟩
 obtain ⟨H3, hc3, hH3, hK3⟩ := s62 hty aH 34 (by
  have := quoteL_len s
  simp only [List.length_append,List.length_cons,List.length_nil]
  omega)
 simp only [byteDat,b34] at hc3
 simp only [B0,B1,B2,List.replicate,Nat.reduceAdd,Nat.reduceSub,Nat.reduceLeDiff,Nat.reduceLT,Nat.reduceEqDiff,reduceCtorEq,Int.reduceEq,Int.reduceLT,Int.reduceLE,lenA,hl1,a0,hc3,endK,f46,resA,tupA]
 refine ⟨H3, ?_, (hK1.trans aK).trans hK3, rfl⟩
 simpa only [quoteB, List.append_assoc, List.cons_append, List.nil_append] using hH3
end Go.Abs.Seat
end
section
set_option linter.unusedVariables false
set_option linter.unusedSimpArgs false
namespace Go.Abs.Seat
open Go.Proofs
def oddB (a : UInt8) : Bool := !namZ (a.toNat : Int)
theorem l74g (s : List UInt8) (hn : s.length ≤ 4611686018427387904) (H : Heap) :
  ∀ (m i : Nat) (tm : List AV), i + m = s.length → tm.length = 19 → tm.getD 0 undefA = .im (.sl 1 (s.map fun c => [byteDat c])) → tm.getD 1 undefA = .clo 64 [] → tm.getD 7 undefA = .im (.int .i64 (s.length : Int)) → tm.getD 8 undefA = .im (.int .i64 (i : Int)) →
  ∃ e tm' H', Λ c74_0 tm H = some (e, tm', H') ∧ tm'.length = 19 ∧ H' = H ∧ ((e = .exit 0 ∧ (s.drop i).any oddB = false) ∨ (e = .ret ∧ (s.drop i).any oddB = true ∧ ∃ j : Nat, tm'.getD 4 undefA = .im (.int .i64 (j : Int))))
 | 0, i, tm, hi, hlen, h0, h1, h7, h8 => by
  have e : s.drop i = [] := by rw [List.drop_eq_nil_iff]; omega
  have hc : decide ((i : Int) < (s.length : Int)) = false := decide_eq_false (by omega)
  rw [l74_0, e]
  simp only [b74_0,B0,B1,B2,List.replicate,Nat.reduceAdd,Nat.reduceSub,Nat.reduceLeDiff,Nat.reduceLT,Nat.reduceEqDiff,reduceCtorEq,Int.reduceEq,Int.reduceLT,Int.reduceLE,lenA,hlen,h7,h8,hc]
  exact ⟨_, _, _, rfl, by simp only [List.length_set,hlen], rfl, .inl ⟨rfl, rfl⟩⟩
 | m + 1, i, tm, hi, hlen, h0, h1, h7, h8 => by
  have hlt : i < s.length := by omega
  have e : s.drop i = s[i] :: s.drop (i + 1) := List.drop_eq_getElem_cons hlt
  have hai : s[i]? = some s[i] := List.getElem?_eq_getElem hlt
  generalize s[i] = a at e hai
  have hc : decide ((i : Int) < (s.length : Int)) = true := decide_eq_true (by omega)
  have hg : (s.map fun c => [byteDat c])[i]? = some [.int .u8 (a.toNat : Int)] := by rw [List.getElem?_map, hai]; rfl
  have hix := idx_nat (n := s.length) (i := i) hlt
  have hwr := wrap_nat (i := i) (by omega)
  have c1 := fun H => s64 (a.toNat : Int) H
  have key := fun tm1 => l74g s hn H m (i + 1) tm1 (by omega)
  rw [l74_0, e]
  rcases Bool.eq_false_or_eq_true (oddB a) with ho | ho
  ·have ho' := ho
   unfold oddB at ho'
   rw [ho'] at c1
   simp only [b74_0,B0,B1,B2,List.replicate,Nat.reduceAdd,Nat.reduceSub,Nat.reduceLeDiff,Nat.reduceLT,Nat.reduceEqDiff,reduceCtorEq,Int.reduceEq,Int.reduceLT,Int.reduceLE,lenA,hlen,h0,h1,h7,h8,hc,hix,hg,List.length_map,c1]
   exact ⟨_, _, _, rfl, by simp only [List.length_set,hlen], rfl, .inr ⟨rfl, by simp [ho], i, by simp only [B3,Nat.reduceLT,Nat.reduceEqDiff,hlen]⟩⟩
  ·have ho' := ho
   unfold oddB at ho'
   rw [ho'] at c1
   simp only [b74_0,B0,B1,B2,List.replicate,Nat.reduceAdd,Nat.reduceSub,Nat.reduceLeDiff,Nat.reduceLT,Nat.reduceEqDiff,reduceCtorEq,Int.reduceEq,Int.reduceLT,Int.reduceLE,lenA,hlen,h0,h1,h7,h8,hc,hix,hg,List.length_map,c1,hwr]
   refine ex_imp (key _ ?_ ?_ ?_ ?_ ?_) fun _ _ _ h => ?_
   iterate 5 simp only [B3,Nat.reduceLT,Nat.reduceEqDiff,hlen,h0,h1,h7]
   simpa only [List.any_cons, ho, Bool.false_or] using h
theorem s74g (s : List UInt8) (hn : s.length ≤ 4611686018427387904) (H : Heap) : ∃ r : Int, L 74 [.im (.sl 1 (s.map fun c => [byteDat c])), .clo 64 []] H = some (.im (.int .i64 r), H) ∧ decide (0 ≤ r) = s.any oddB := by
 have key := fun tm1 => l74g s hn H s.length 0 tm1 (by omega)
 simp only [zc0,List.drop_zero] at key
 have hlA : lenA (.im (.sl 1 (s.map fun c => [byteDat c]))) = some s.length := by simp [lenA]
 rw [leq F74]
 obtain ⟨hlen, ha⟩ := enter_at (f := f74) (args := [.im (.sl 1 (s.map fun c => [byteDat c])), .clo 64 []]) (Nat.le_of_ble_eq_true rfl)
 have h0 := ha 0 _ rfl
 have h1 := ha 1 _ rfl
 generalize enterA f74 [.im (.sl 1 (s.map fun c => [byteDat c])), .clo 64 []] = tm at *
 change tm.length = 19 at hlen
 simp only [f74,e74_0,B0,B1,B2,List.replicate,Nat.reduceAdd,Nat.reduceSub,Nat.reduceLeDiff,Nat.reduceLT,Nat.reduceEqDiff,reduceCtorEq,Int.reduceEq,Int.reduceLT,Int.reduceLE,hlen,h0,h1,hlA]
 generalize hr : thenL (Λ c74_0 _ _) _ = r
 refine Exists.elim (thenL_inv hr (key _ ?_ ?_ ?_ ?_ ?_)) ?_
 iterate 5 simp only [B3,Nat.reduceLT,Nat.reduceEqDiff,hlen,h0,h1]
 clear hr key
 rintro e ⟨tm1, H1, ⟨g1, rfl, hm⟩, rfl⟩
 rcases hm with ⟨rfl, hm⟩ | ⟨rfl, hm, j, hj⟩
 ·simp only [B0,B1,B2,List.replicate,Nat.reduceAdd,Nat.reduceSub,Nat.reduceLeDiff,Nat.reduceLT,Nat.reduceEqDiff,reduceCtorEq,Int.reduceEq,Int.reduceLT,Int.reduceLE,lenA,endK,resA,tupA,g1,leave_same]
  exact ⟨-1, rfl, by rw [hm]; rfl⟩
 ·simp only [B0,B1,B2,List.replicate,Nat.reduceAdd,Nat.reduceSub,Nat.reduceLeDiff,Nat.reduceLT,Nat.reduceEqDiff,reduceCtorEq,Int.reduceEq,Int.reduceLT,Int.reduceLE,lenA,endK,resA,tupA,g1,hj,leave_same]
  exact ⟨_, rfl, by rw [hm]; exact decide_eq_true (Int.natCast_nonneg j)⟩
theorem s63g (s : List UInt8) (hn : s.length ≤ 4611686018427387904) (H : Heap) : L 63 [.im (.sl 1 (s.map fun c => [byteDat c])), .clo 64 []] H = some (.im (.bool (s.any oddB)), H) := by
 obtain ⟨r, c1, hr⟩ := s74g s hn H
 rw [leq F63]
 obtain ⟨hlen, ha⟩ := enter_at (f := f63) (args := [.im (.sl 1 (s.map fun c => [byteDat c])), .clo 64 []]) (Nat.le_of_ble_eq_true rfl)
 have h0 := ha 0 _ rfl
 have h1 := ha 1 _ rfl
 generalize enterA f63 [.im (.sl 1 (s.map fun c => [byteDat c])), .clo 64 []] = tm at *
 change tm.length = 9 at hlen
 simp only [f63,B0,B1,B2,List.replicate,Nat.reduceAdd,Nat.reduceSub,Nat.reduceLeDiff,Nat.reduceLT,Nat.reduceEqDiff,reduceCtorEq,Int.reduceEq,Int.reduceLT,Int.reduceLE,lenA,endK,resA,tupA,hlen,h0,h1,c1,hr,leave_same]
def nameOk (s : List UInt8) : Bool := !((decide (s = []) || decide (16 < (s.length : Int))) || !letZ ((peekB s 0).toNat : Int)) && ((shapeT s).isNone && !s.any oddB)
theorem s47g (s : List UInt8) (hn : s.length ≤ 4611686018427387904) (H : Heap) : L 47 [.im (.str s)] H = some (.im (.bool (nameOk s)), H) := by
 have c1 := fun H => s33 s H
 have c2 := fun H => s63g s hn H
 have t0 : (0 : Int).toNat = 0 := rfl
 have z0 : (0 : Int) ≤ 0 := Int.le_refl 0
 unfold nameOk
 rw [leq F47]
 obtain ⟨hlen, hg⟩ := enter_at (f := f47) (args := [.im (.str s)]) (Nat.le_of_ble_eq_true rfl)
 have h0 := hg 0 _ rfl
 generalize enterA f47 [.im (.str s)] = tm at *
 change tm.length = 35 at hlen
 rcases Bool.eq_false_or_eq_true (decide (s = [])) with d0 | d0
 ·rw [d0]
  simp only [Bool.true_or,Bool.not_true,Bool.false_and]
  simp only [f47,B0,B1,B2,List.replicate,Nat.reduceAdd,Nat.reduceSub,Nat.reduceLeDiff,Nat.reduceLT,Nat.reduceEqDiff,reduceCtorEq,Int.reduceEq,Int.reduceLT,Int.reduceLE,lenA,intOfA,endK,resA,tupA,hlen,h0,d0,leave_same]
 rcases Bool.eq_false_or_eq_true (decide (16 < (s.length : Int))) with d1 | d1
 ·rw [d0, d1]
  simp only [Bool.or_true,Bool.true_or,Bool.not_true,Bool.false_and]
  simp only [f47,B0,B1,B2,List.replicate,Nat.reduceAdd,Nat.reduceSub,Nat.reduceLeDiff,Nat.reduceLT,Nat.reduceEqDiff,reduceCtorEq,Int.reduceEq,Int.reduceLT,Int.reduceLE,lenA,intOfA,endK,resA,tupA,hlen,h0,d0,d1,leave_same]
 obtain ⟨a, r, hs⟩ : ∃ a r, s = a :: r := by
  cases s with
  | nil => simp at d0
  | cons a r => exact ⟨a, r, rfl⟩
 have ha0 : s[0]? = some a := by rw [hs]; rfl
 have hpk : peekB s 0 = a := by unfold peekB; rw [ha0]; rfl
 have hbd : byteDat a = .int .u8 (a.toNat : Int) := rfl
 rw [hpk, d0, d1]
 clear hs hpk
 unfold letZ
 rcases Bool.eq_false_or_eq_true (decide ((a.toNat : Int) < 97)) with d2 | d2
 ·have e : decide ((97 : Int) ≤ (a.toNat : Int)) = false := by rw [decide_eq_true_eq] at d2; exact decide_eq_false (by omega)
  rw [e]
  simp only [Bool.false_and,Bool.not_false,Bool.or_true,Bool.not_true]
  simp only [f47,B0,B1,B2,List.replicate,Nat.reduceAdd,Nat.reduceSub,Nat.reduceLeDiff,Nat.reduceLT,Nat.reduceEqDiff,reduceCtorEq,Int.reduceEq,Int.reduceLT,Int.reduceLE,lenA,intOfA,hbd,endK,resA,tupA,hlen,h0,d0,d1,d2,ha0,t0,z0,leave_same]
 rcases Bool.eq_false_or_eq_true (decide (122 < (a.toNat : Int))) with d3 | d3
 ·have e : decide ((a.toNat : Int) ≤ 122) = false := by rw [decide_eq_true_eq] at d3; exact decide_eq_false (by omega)
  rw [e]
  simp only [Bool.and_false,Bool.not_false,Bool.or_true,Bool.not_true,Bool.false_and]
  simp only [f47,B0,B1,B2,List.replicate,Nat.reduceAdd,Nat.reduceSub,Nat.reduceLeDiff,Nat.reduceLT,Nat.reduceEqDiff,reduceCtorEq,Int.reduceEq,Int.reduceLT,Int.reduceLE,lenA,intOfA,hbd,endK,resA,tupA,hlen,h0,d0,d1,d2,d3,ha0,t0,z0,leave_same]
 have e1 : decide ((97 : Int) ≤ (a.toNat : Int)) = true := by rw [decide_eq_false_iff_not] at d2; exact decide_eq_true (by omega)
 have e2 : decide ((a.toNat : Int) ≤ 122) = true := by rw [decide_eq_false_iff_not] at d3; exact decide_eq_true (by omega)
 rw [e1, e2]
 simp only [Bool.and_self,Bool.not_true,Bool.or_self,Bool.not_false,Bool.true_and]
 cases hsh : shapeT s with
 | none =>
  rw [hsh] at c1
  simp only [Option.getD_none,Option.isSome_none] at c1
  simp only [Option.isNone_none,Bool.true_and]
  simp only [f47,B0,B1,B2,List.replicate,Nat.reduceAdd,Nat.reduceSub,Nat.reduceLeDiff,Nat.reduceLT,Nat.reduceEqDiff,reduceCtorEq,Int.reduceEq,Int.reduceLT,Int.reduceLE,lenA,intOfA,hbd,endK,resA,tupA,hlen,h0,d0,d1,d2,d3,ha0,t0,z0,c1,c2,leave_same]
 | some p =>
  rw [hsh] at c1
  simp only [Option.getD_some,Option.isSome_some] at c1
  simp only [Option.isNone_some,Bool.false_and]
  simp only [f47,B0,B1,B2,List.replicate,Nat.reduceAdd,Nat.reduceSub,Nat.reduceLeDiff,Nat.reduceLT,Nat.reduceEqDiff,reduceCtorEq,Int.reduceEq,Int.reduceLT,Int.reduceLE,lenA,intOfA,hbd,endK,resA,tupA,hlen,h0,d0,d1,d2,d3,ha0,t0,z0,c1,c2,leave_same]
end Go.Abs.Seat
end
section
set_option linter.unusedVariables false
set_option linter.unusedSimpArgs false
namespace Go.Abs.Seat
open Go.Proofs
abbrev WSt := List UInt8 × Bool
def WA (n : Nat) (H : Heap) (id : Nat) (st : WSt) : Prop := HoldE (66, 3) 5 n H id [.im (.bool st.2)] st.1
def isNam : NT → Bool
 | .mk op _ _ _ _ _ => decide (op = nameW)
def showW (t : KT) : List UInt8 := if rightT t 6 = true then showT t else []
def kidsW (nd : NT → WSt → WSt) (ps : List UInt8) : Nat → List NT → WSt → WSt
 | _, [], st => st
 | i, k :: ks, st => kidsW nd ps (i + 1) ks (nd k (st.1 ++ [sepB i], st.2 || (decide (ps[i]? = some 110) && !isNam k)))
def partsW (ps : List UInt8) (n : Nat) : List UInt8 := if ps = [43] then List.replicate (min (max 1 n) 64) 101 else ps
def callW (nd : NT → WSt → WSt) (op ps : List UInt8) (t : NT) (kids : List NT) (st : WSt) : WSt :=
 if (!decide (kids.length = (partsW ps kids.length).length) || !bareN t false false false true) = true then (st.1, true)
 else if 0 < kids.length then ((kidsW nd (partsW ps kids.length) 0 kids (st.1 ++ op, st.2)).1 ++ [41], (kidsW nd (partsW ps kids.length) 0 kids (st.1 ++ op, st.2)).2)
 else kidsW nd (partsW ps kids.length) 0 kids (st.1 ++ op, st.2)
def sideW : List UInt8 := [115, 105, 100, 101, 40]
def nodeW : Nat → NT → WSt → WSt
 | 0, _, st => (st.1, true)
 | d + 1, .mk op i txt ty s kids, st =>
  if (st.2 || decide (4096 < st.1.length)) = true then (st.1, true)
  else if op = intW then (st.1 ++ itoaN i, !bareN (.mk op i txt ty s kids) true false false false)
  else if op = textW then (if (!bareN (.mk op i txt ty s kids) false true false false || decide (256 < txt.length)) = true then (st.1, true) else (st.1 ++ quoteB txt, false))
  else if op = nameW then (st.1 ++ txt, !bareN (.mk op i txt ty s kids) false true false false || !nameOk txt)
  else match shapeT op with
   | none => (st.1, true)
   | some ps =>
    if ps = [100] then (st.1 ++ ((sideW ++ itoaN i) ++ [41]), (!bareN (.mk op i txt ty s kids) true false false false || decide (i < 0)) || decide (9 < i))
    else if ps = [116] then (st.1 ++ (((op ++ [40]) ++ showW ty) ++ [41]), !bareN (.mk op i txt ty s kids) false false true false || !decide (checkT ty = 0))
    else callW (nodeW d) op ps (.mk op i txt ty s kids) kids st
theorem digN_len : ∀ f u, (digN f u).length ≤ f
 | 0, u => Nat.le_refl _
 | f + 1, u => by
  unfold digN
  split
  ·simp
  ·have := digN_len f (u / 10)
   simp only [List.length_append,List.length_cons,List.length_nil]
   omega
theorem itoaN_len (n : Int) : (itoaN n).length ≤ 21 := by
 unfold itoaN
 split
 ·have := digN_len 20 n.natAbs; simp only [List.length_cons]; omega
 ·have := digN_len 20 n.toNat; omega
theorem showW_len (t : KT) : (showW t).length ≤ 409600 := by
 unfold showW
 split
 ·rename_i h
  have := show_len t 6 h
  omega
 ·simp
theorem wa_more {n : Nat} {H : Heap} {id : Nat} {st : WSt} (h : WA n H id st) (M : Heap) : WA n (H ++ M) id st := HoldE.more h M
theorem wa_get {n : Nat} {H : Heap} {id : Nat} {st : WSt} (h : WA n H id st) : ∃ a0 v, H[id]? = some (.obj (some (66, 3)) [[a0, v, .im (.bool st.2)]]) ∧ lenA v = some st.1.length ∧
  ∀ b, WA n (H.set id (.obj (some (66, 3)) [[a0, v, .im (.bool b)]])) id (st.1, b) := by
 obtain ⟨a0, v, h1, h2, h3, h4⟩ := h
 have hlt := (List.getElem?_eq_some_iff.1 h1).1
 refine ⟨a0, v, h1, ?_, fun b => ⟨a0, v, by rw [List.getElem?_set_self hlt], h2, h3.set_obj h1 _, by simpa using h4⟩⟩
 rcases h3 with ⟨he, rfl⟩ | ⟨_, tok, _, rfl, _⟩
 ·have : st.1 = [] := by simpa using he
  rw [this]; rfl
 ·simp [lenA]
theorem wa_lt {n : Nat} {H : Heap} {id : Nat} {st : WSt} (h : WA n H id st) : id < H.length := by
 obtain ⟨a0, v, h1, _⟩ := h
 exact (List.getElem?_eq_some_iff.1 h1).1
theorem okw : Tryd.okB (66, 3) = true := by decide
theorem wa_leave {n : Nat} {H H2 : Heap} {id : Nat} {st st2 : WSt} (h : WA n H id st) (h2 : WA n H2 id st2) (hk : Keeps n id H H2) :
  ∃ H', leave H false (.tup []) H2 = (.tup [], H') ∧ WA n H' id st2 ∧ Keeps n id H H' := leave_holdE (r := .tup []) (r' := .tup []) rfl h h2 hk
theorem s45 (i : Int) (h : -9223372036854775808 ≤ i ∧ i ≤ 9223372036854775807) (H : Heap) : L 45 [.im (.int .i64 i)] H = some (.im (.str (itoaN i)), H) := by
 have hF : F 45 = none := by kernel_rfl
 have : L 45 [.im (.int .i64 i)] H = bld 45 [.im (.int .i64 i)] H := lim_none hF _ _
 rw [this]
 show itoaO 45 _ 45 [.im (.int .i64 i)] H = _
 unfold itoaO
 rw [if_pos rfl]
 simp only [if_pos h]
abbrev nOf (op txt : List UInt8) (i k : Int) (sa s : Nat) (args : List KT) (kids : List NT) : HO := .obj none [[.im (.str op), .im (.int .i64 i), .im (.str txt), .im (.int .i64 k), .im (.sl sa (encTs args)), .im (.sl s (encNs kids))]]
section
variable {n : Nat} {H : Heap} {id : Nat} {st : WSt} (hw : WA n H id st) (op txt : List UInt8) (i k : Int) (sa s : Nat) (args : List KT) (kids : List NT) (d : Nat)
include hw
def Wrote (n : Nat) (H : Heap) (id : Nat) (t : NT) (d : Nat) (r : WSt) : Prop :=
 ∃ H2, WA n H2 id r ∧ Keeps n id H H2 ∧ L 24 [.ptr id 0 0, .im (.agg (encN t)), .im (.int .i64 (d : Int))] H = some (leave H false (.tup []) H2)
theorem s24_bad (hb : st.2 = true) : Wrote n H id (.mk op i txt (.mk k sa args) s kids) d (st.1, true) := by
 have hidlt := wa_lt hw
 have hw1 := wa_more hw [nOf op txt i k sa s args kids]
 obtain ⟨a0, v, hid, hlv, hset⟩ := wa_get hw1
 have hbx : (H ++ [nOf op txt i k sa s args kids])[H.length]? = some (nOf op txt i k sa s args kids) := by simp
 have hk1 : Keeps n id H (H ++ [nOf op txt i k sa s args kids]) := (Keeps.refl n id H).app _
 have c33 := fun H => s33 op H
 have hidlt1 : id < (H ++ [nOf op txt i k sa s args kids]).length := by simp only [List.length_append]; omega
 have hb := hb
 rw [hb] at hid
 unfold Wrote
 simp only [encN]
 rw [leq F24]
 obtain ⟨hlen, ha⟩ := enter_at (f := f24) (args := [.ptr id 0 0, .im (.agg [.str op, .int .i64 i, .str txt, .int .i64 k, .sl sa (encTs args), .sl s (encNs kids)]), .im (.int .i64 (d : Nat))]) (Nat.le_of_ble_eq_true rfl)
 have h0 := ha 0 _ rfl
 have h1 := ha 1 _ rfl
 have h2 := ha 2 _ rfl
 generalize enterA f24 [.ptr id 0 0, .im (.agg [.str op, .int .i64 i, .str txt, .int .i64 k, .sl sa (encTs args), .sl s (encNs kids)]), .im (.int .i64 (d : Nat))] = tm at *
 change tm.length = 167 at hlen
 clear ha
 simp only [nOf] at *
 simp only [f24,B0,B1,B2,List.replicate,Nat.reduceAdd,Nat.reduceSub,Nat.reduceLeDiff,Nat.reduceLT,Nat.reduceEqDiff,reduceCtorEq,Int.reduceEq,Int.reduceLT,Int.reduceLE,endK,resA,tupA,hlen,h0,h1,h2,hid,hbx,c33,hb]
 exact ⟨_, hset true, hk1.set _, rfl⟩
theorem s24_zero (hb : st.2 = false) : Wrote n H id (.mk op i txt (.mk k sa args) s kids) 0 (st.1, true) := by
 have hidlt := wa_lt hw
 have hw1 := wa_more hw [nOf op txt i k sa s args kids]
 obtain ⟨a0, v, hid, hlv, hset⟩ := wa_get hw1
 have hbx : (H ++ [nOf op txt i k sa s args kids])[H.length]? = some (nOf op txt i k sa s args kids) := by simp
 have hk1 : Keeps n id H (H ++ [nOf op txt i k sa s args kids]) := (Keeps.refl n id H).app _
 have c33 := fun H => s33 op H
 have hidlt1 : id < (H ++ [nOf op txt i k sa s args kids]).length := by simp only [List.length_append]; omega
 rw [hb] at hid
 have z0 : ((0 : Nat) : Int) = 0 := rfl
 unfold Wrote
 simp only [encN]
 rw [leq F24]
 obtain ⟨hlen, ha⟩ := enter_at (f := f24) (args := [.ptr id 0 0, .im (.agg [.str op, .int .i64 i, .str txt, .int .i64 k, .sl sa (encTs args), .sl s (encNs kids)]), .im (.int .i64 (0 : Nat))]) (Nat.le_of_ble_eq_true rfl)
 have h0 := ha 0 _ rfl
 have h1 := ha 1 _ rfl
 have h2 := ha 2 _ rfl
 generalize enterA f24 [.ptr id 0 0, .im (.agg [.str op, .int .i64 i, .str txt, .int .i64 k, .sl sa (encTs args), .sl s (encNs kids)]), .im (.int .i64 (0 : Nat))] = tm at *
 change tm.length = 167 at hlen
 clear ha
 simp only [nOf] at *
 simp only [f24,B0,B1,B2,List.replicate,Nat.reduceAdd,Nat.reduceSub,Nat.reduceLeDiff,Nat.reduceLT,Nat.reduceEqDiff,reduceCtorEq,Int.reduceEq,Int.reduceLT,Int.reduceLE,endK,resA,tupA,hlen,h0,h1,h2,hid,hbx,c33,z0]
 exact ⟨_, hset true, hk1.set _, rfl⟩
theorem s24_long (hb : st.2 = false) (hl : 4096 < st.1.length) : Wrote n H id (.mk op i txt (.mk k sa args) s kids) (d + 1) (st.1, true) := by
 have hidlt := wa_lt hw
 have hw1 := wa_more hw [nOf op txt i k sa s args kids]
 obtain ⟨a0, v, hid, hlv, hset⟩ := wa_get hw1
 have hbx : (H ++ [nOf op txt i k sa s args kids])[H.length]? = some (nOf op txt i k sa s args kids) := by simp
 have hk1 : Keeps n id H (H ++ [nOf op txt i k sa s args kids]) := (Keeps.refl n id H).app _
 have c33 := fun H => s33 op H
 have hidlt1 : id < (H ++ [nOf op txt i k sa s args kids]).length := by simp only [List.length_append]; omega
 rw [hb] at hid
 have d0 : decide (((d + 1 : Nat) : Int) = 0) = false := decide_eq_false (by omega)
 have d1 : decide ((4096 : Int) < (st.1.length : Int)) = true := decide_eq_true (by omega)
 have c25 := s25 hw1
 unfold Wrote
 simp only [encN]
 rw [leq F24]
 obtain ⟨hlen, ha⟩ := enter_at (f := f24) (args := [.ptr id 0 0, .im (.agg [.str op, .int .i64 i, .str txt, .int .i64 k, .sl sa (encTs args), .sl s (encNs kids)]), .im (.int .i64 ((d + 1) : Nat))]) (Nat.le_of_ble_eq_true rfl)
 have h0 := ha 0 _ rfl
 have h1 := ha 1 _ rfl
 have h2 := ha 2 _ rfl
 generalize enterA f24 [.ptr id 0 0, .im (.agg [.str op, .int .i64 i, .str txt, .int .i64 k, .sl sa (encTs args), .sl s (encNs kids)]), .im (.int .i64 ((d + 1) : Nat))] = tm at *
 change tm.length = 167 at hlen
 clear ha
 simp only [nOf] at *
 simp only [f24,B0,B1,B2,List.replicate,Nat.reduceAdd,Nat.reduceSub,Nat.reduceLeDiff,Nat.reduceLT,Nat.reduceEqDiff,reduceCtorEq,Int.reduceEq,Int.reduceLT,Int.reduceLE,endK,resA,tupA,hlen,h0,h1,h2,hid,hbx,c33,d0,d1,c25]
 exact ⟨_, hset true, hk1.set _, rfl⟩
theorem s24_int (hb : st.2 = false) (hl : ¬ 4096 < st.1.length) (hop : op = intW) (h64 : -9223372036854775808 ≤ i ∧ i ≤ 9223372036854775807) : Wrote n H id (.mk op i txt (.mk k sa args) s kids) (d + 1) (st.1 ++ itoaN i, !bareN (.mk op i txt (.mk k sa args) s kids) true false false false) := by
 have hidlt := wa_lt hw
 have hw1 := wa_more hw [nOf op txt i k sa s args kids]
 obtain ⟨a0, v, hid, hlv, hset⟩ := wa_get hw1
 have hbx : (H ++ [nOf op txt i k sa s args kids])[H.length]? = some (nOf op txt i k sa s args kids) := by simp
 have hk1 : Keeps n id H (H ++ [nOf op txt i k sa s args kids]) := (Keeps.refl n id H).app _
 have c33 := fun H => s33 op H
 have hidlt1 : id < (H ++ [nOf op txt i k sa s args kids]).length := by simp only [List.length_append]; omega
 rw [hb] at hid
 have d0 : decide (((d + 1 : Nat) : Int) = 0) = false := decide_eq_false (by omega)
 have d1 : decide ((4096 : Int) < (st.1.length : Int)) = false := decide_eq_false (by omega)
 have c25 := s25 hw1
 have c43 := fun H => s43 op txt i k sa s args kids H
 simp only [encN] at c43
 have hbx2 : ∀ x, ((H ++ [nOf op txt i k sa s args kids]).set id x)[H.length]? = some (nOf op txt i k sa s args kids) := fun x => by rw [List.getElem?_set_ne (by omega)]; exact hbx
 have e1 : decide (op = [105, 110, 116]) = true := decide_eq_true hop
 have c43 := fun H => c43 H true false false false (.inl rfl)
 have c45 := fun H => s45 i h64 H
 generalize bareN (.mk op i txt (.mk k sa args) s kids) true false false false = bb at *
 obtain ⟨H2, c44, hH2, hK2⟩ := s44 okw (hset (!bb)) (itoaN i) (by have := itoaN_len i; simp only; omega)
 unfold Wrote
 simp only [encN]
 rw [leq F24]
 obtain ⟨hlen, ha⟩ := enter_at (f := f24) (args := [.ptr id 0 0, .im (.agg [.str op, .int .i64 i, .str txt, .int .i64 k, .sl sa (encTs args), .sl s (encNs kids)]), .im (.int .i64 ((d + 1) : Nat))]) (Nat.le_of_ble_eq_true rfl)
 have h0 := ha 0 _ rfl
 have h1 := ha 1 _ rfl
 have h2 := ha 2 _ rfl
 generalize enterA f24 [.ptr id 0 0, .im (.agg [.str op, .int .i64 i, .str txt, .int .i64 k, .sl sa (encTs args), .sl s (encNs kids)]), .im (.int .i64 ((d + 1) : Nat))] = tm at *
 change tm.length = 167 at hlen
 clear ha
 simp only [nOf] at *
 simp only [f24,B0,B1,B2,List.replicate,Nat.reduceAdd,Nat.reduceSub,Nat.reduceLeDiff,Nat.reduceLT,Nat.reduceEqDiff,reduceCtorEq,Int.reduceEq,Int.reduceLT,Int.reduceLE,endK,resA,tupA,hlen,h0,h1,h2,hid,hbx,c33,d0,d1,c25,e1,c43,c45,hbx2,c44]
 exact ⟨H2, hH2, (hk1.set _).trans hK2, rfl⟩
theorem s24_text1 (hb : st.2 = false) (hl : ¬ 4096 < st.1.length) (hop : op = textW) (hbare : bareN (.mk op i txt (.mk k sa args) s kids) false true false false = false) : Wrote n H id (.mk op i txt (.mk k sa args) s kids) (d + 1) (st.1, true) := by
 have hidlt := wa_lt hw
 have hw1 := wa_more hw [nOf op txt i k sa s args kids]
 obtain ⟨a0, v, hid, hlv, hset⟩ := wa_get hw1
 have hbx : (H ++ [nOf op txt i k sa s args kids])[H.length]? = some (nOf op txt i k sa s args kids) := by simp
 have hk1 : Keeps n id H (H ++ [nOf op txt i k sa s args kids]) := (Keeps.refl n id H).app _
 have c33 := fun H => s33 op H
 have hidlt1 : id < (H ++ [nOf op txt i k sa s args kids]).length := by simp only [List.length_append]; omega
 rw [hb] at hid
 have d0 : decide (((d + 1 : Nat) : Int) = 0) = false := decide_eq_false (by omega)
 have d1 : decide ((4096 : Int) < (st.1.length : Int)) = false := decide_eq_false (by omega)
 have c25 := s25 hw1
 have c43 := fun H => s43 op txt i k sa s args kids H
 simp only [encN] at c43
 have hbx2 : ∀ x, ((H ++ [nOf op txt i k sa s args kids]).set id x)[H.length]? = some (nOf op txt i k sa s args kids) := fun x => by rw [List.getElem?_set_ne (by omega)]; exact hbx
 have e1 : decide (op = [105, 110, 116]) = false := decide_eq_false (by rw [hop]; decide)
 have e2 : decide (op = [116, 101, 120, 116, 95, 111, 102]) = true := decide_eq_true hop
 have c43 := fun H => c43 H false true false false (.inr (.inl rfl))
 rw [hbare] at c43
 unfold Wrote
 simp only [encN]
 rw [leq F24]
 obtain ⟨hlen, ha⟩ := enter_at (f := f24) (args := [.ptr id 0 0, .im (.agg [.str op, .int .i64 i, .str txt, .int .i64 k, .sl sa (encTs args), .sl s (encNs kids)]), .im (.int .i64 ((d + 1) : Nat))]) (Nat.le_of_ble_eq_true rfl)
 have h0 := ha 0 _ rfl
 have h1 := ha 1 _ rfl
 have h2 := ha 2 _ rfl
 generalize enterA f24 [.ptr id 0 0, .im (.agg [.str op, .int .i64 i, .str txt, .int .i64 k, .sl sa (encTs args), .sl s (encNs kids)]), .im (.int .i64 ((d + 1) : Nat))] = tm at *
 change tm.length = 167 at hlen
 clear ha
 simp only [nOf] at *
 simp only [f24,B0,B1,B2,List.replicate,Nat.reduceAdd,Nat.reduceSub,Nat.reduceLeDiff,Nat.reduceLT,Nat.reduceEqDiff,reduceCtorEq,Int.reduceEq,Int.reduceLT,Int.reduceLE,endK,resA,tupA,hlen,h0,h1,h2,hid,hbx,c33,d0,d1,c25,e1,e2,c43,hbx2,List.set_set,List.getElem?_set_self hidlt1]
 exact ⟨_, hset true, hk1.set _, rfl⟩
theorem s24_text2 (hb : st.2 = false) (hl : ¬ 4096 < st.1.length) (hop : op = textW) (hbare : bareN (.mk op i txt (.mk k sa args) s kids) false true false false = true) (hlen2 : 256 < txt.length) : Wrote n H id (.mk op i txt (.mk k sa args) s kids) (d + 1) (st.1, true) := by
 have hidlt := wa_lt hw
 have hw1 := wa_more hw [nOf op txt i k sa s args kids]
 obtain ⟨a0, v, hid, hlv, hset⟩ := wa_get hw1
 have hbx : (H ++ [nOf op txt i k sa s args kids])[H.length]? = some (nOf op txt i k sa s args kids) := by simp
 have hk1 : Keeps n id H (H ++ [nOf op txt i k sa s args kids]) := (Keeps.refl n id H).app _
 have c33 := fun H => s33 op H
 have hidlt1 : id < (H ++ [nOf op txt i k sa s args kids]).length := by simp only [List.length_append]; omega
 rw [hb] at hid
 have d0 : decide (((d + 1 : Nat) : Int) = 0) = false := decide_eq_false (by omega)
 have d1 : decide ((4096 : Int) < (st.1.length : Int)) = false := decide_eq_false (by omega)
 have c25 := s25 hw1
 have c43 := fun H => s43 op txt i k sa s args kids H
 simp only [encN] at c43
 have hbx2 : ∀ x, ((H ++ [nOf op txt i k sa s args kids]).set id x)[H.length]? = some (nOf op txt i k sa s args kids) := fun x => by rw [List.getElem?_set_ne (by omega)]; exact hbx
 have e1 : decide (op = [105, 110, 116]) = false := decide_eq_false (by rw [hop]; decide)
 have e2 : decide (op = [116, 101, 120, 116, 95, 111, 102]) = true := decide_eq_true hop
 have c43 := fun H => c43 H false true false false (.inr (.inl rfl))
 rw [hbare] at c43
 have e3 : decide ((256 : Int) < (txt.length : Int)) = true := decide_eq_true (by omega)
 unfold Wrote
 simp only [encN]
 rw [leq F24]
 obtain ⟨hlen, ha⟩ := enter_at (f := f24) (args := [.ptr id 0 0, .im (.agg [.str op, .int .i64 i, .str txt, .int .i64 k, .sl sa (encTs args), .sl s (encNs kids)]), .im (.int .i64 ((d + 1) : Nat))]) (Nat.le_of_ble_eq_true rfl)
 have h0 := ha 0 _ rfl
 have h1 := ha 1 _ rfl
 have h2 := ha 2 _ rfl
 generalize enterA f24 [.ptr id 0 0, .im (.agg [.str op, .int .i64 i, .str txt, .int .i64 k, .sl sa (encTs args), .sl s (encNs kids)]), .im (.int .i64 ((d + 1) : Nat))] = tm at *
 change tm.length = 167 at hlen
 clear ha
 simp only [nOf] at *
 simp only [f24,B0,B1,B2,List.replicate,Nat.reduceAdd,Nat.reduceSub,Nat.reduceLeDiff,Nat.reduceLT,Nat.reduceEqDiff,reduceCtorEq,Int.reduceEq,Int.reduceLT,Int.reduceLE,endK,resA,tupA,hlen,h0,h1,h2,hid,hbx,c33,d0,d1,c25,e1,e2,e3,c43,hbx2,List.set_set,List.getElem?_set_self hidlt1]
 exact ⟨_, hset true, hk1.set _, rfl⟩
theorem s24_text3 (hb : st.2 = false) (hl : ¬ 4096 < st.1.length) (hop : op = textW) (hbare : bareN (.mk op i txt (.mk k sa args) s kids) false true false false = true) (hlen2 : ¬ 256 < txt.length) : Wrote n H id (.mk op i txt (.mk k sa args) s kids) (d + 1) (st.1 ++ quoteB txt, false) := by
 have hidlt := wa_lt hw
 have hw1 := wa_more hw [nOf op txt i k sa s args kids]
 obtain ⟨a0, v, hid, hlv, hset⟩ := wa_get hw1
 have hbx : (H ++ [nOf op txt i k sa s args kids])[H.length]? = some (nOf op txt i k sa s args kids) := by simp
 have hk1 : Keeps n id H (H ++ [nOf op txt i k sa s args kids]) := (Keeps.refl n id H).app _
 have c33 := fun H => s33 op H
 have hidlt1 : id < (H ++ [nOf op txt i k sa s args kids]).length := by simp only [List.length_append]; omega
 rw [hb] at hid
 have d0 : decide (((d + 1 : Nat) : Int) = 0) = false := decide_eq_false (by omega)
 have d1 : decide ((4096 : Int) < (st.1.length : Int)) = false := decide_eq_false (by omega)
 have c25 := s25 hw1
 have c43 := fun H => s43 op txt i k sa s args kids H
 simp only [encN] at c43
 have hbx2 : ∀ x, ((H ++ [nOf op txt i k sa s args kids]).set id x)[H.length]? = some (nOf op txt i k sa s args kids) := fun x => by rw [List.getElem?_set_ne (by omega)]; exact hbx
 have e1 : decide (op = [105, 110, 116]) = false := decide_eq_false (by rw [hop]; decide)
 have e2 : decide (op = [116, 101, 120, 116, 95, 111, 102]) = true := decide_eq_true hop
 have c43 := fun H => c43 H false true false false (.inr (.inl rfl))
 rw [hbare] at c43
 have e3 : decide ((256 : Int) < (txt.length : Int)) = false := decide_eq_false (by omega)
 obtain ⟨H2, c46, hH2, hK2⟩ := s46 okw (hset false) txt (by omega) (by simp only; omega)
 unfold Wrote
 simp only [encN]
 rw [leq F24]
 obtain ⟨hlen, ha⟩ := enter_at (f := f24) (args := [.ptr id 0 0, .im (.agg [.str op, .int .i64 i, .str txt, .int .i64 k, .sl sa (encTs args), .sl s (encNs kids)]), .im (.int .i64 ((d + 1) : Nat))]) (Nat.le_of_ble_eq_true rfl)
 have h0 := ha 0 _ rfl
 have h1 := ha 1 _ rfl
 have h2 := ha 2 _ rfl
 generalize enterA f24 [.ptr id 0 0, .im (.agg [.str op, .int .i64 i, .str txt, .int .i64 k, .sl sa (encTs args), .sl s (encNs kids)]), .im (.int .i64 ((d + 1) : Nat))] = tm at *
 change tm.length = 167 at hlen
 clear ha
 simp only [nOf] at *
 simp only [f24,B0,B1,B2,List.replicate,Nat.reduceAdd,Nat.reduceSub,Nat.reduceLeDiff,Nat.reduceLT,Nat.reduceEqDiff,reduceCtorEq,Int.reduceEq,Int.reduceLT,Int.reduceLE,endK,resA,tupA,hlen,h0,h1,h2,hid,hbx,c33,d0,d1,c25,e1,e2,e3,c43,hbx2,List.set_set,List.getElem?_set_self hidlt1,c46]
 exact ⟨H2, hH2, (hk1.set _).trans hK2, rfl⟩
theorem s24_name1 (hb : st.2 = false) (hl : ¬ 4096 < st.1.length) (hop : op = nameW) (hbare : bareN (.mk op i txt (.mk k sa args) s kids) false true false false = false) (htl : txt.length ≤ 1000000) : Wrote n H id (.mk op i txt (.mk k sa args) s kids) (d + 1) (st.1 ++ txt, true) := by
 have hidlt := wa_lt hw
 have hw1 := wa_more hw [nOf op txt i k sa s args kids]
 obtain ⟨a0, v, hid, hlv, hset⟩ := wa_get hw1
 have hbx : (H ++ [nOf op txt i k sa s args kids])[H.length]? = some (nOf op txt i k sa s args kids) := by simp
 have hk1 : Keeps n id H (H ++ [nOf op txt i k sa s args kids]) := (Keeps.refl n id H).app _
 have c33 := fun H => s33 op H
 have hidlt1 : id < (H ++ [nOf op txt i k sa s args kids]).length := by simp only [List.length_append]; omega
 rw [hb] at hid
 have d0 : decide (((d + 1 : Nat) : Int) = 0) = false := decide_eq_false (by omega)
 have d1 : decide ((4096 : Int) < (st.1.length : Int)) = false := decide_eq_false (by omega)
 have c25 := s25 hw1
 have c43 := fun H => s43 op txt i k sa s args kids H
 simp only [encN] at c43
 have hbx2 : ∀ x, ((H ++ [nOf op txt i k sa s args kids]).set id x)[H.length]? = some (nOf op txt i k sa s args kids) := fun x => by rw [List.getElem?_set_ne (by omega)]; exact hbx
 have e1 : decide (op = [105, 110, 116]) = false := decide_eq_false (by rw [hop]; decide)
 have e2 : decide (op = [116, 101, 120, 116, 95, 111, 102]) = false := decide_eq_false (by rw [hop]; decide)
 have e3 : decide (op = [110, 97, 109, 101]) = true := decide_eq_true hop
 have c43 := fun H => c43 H false true false false (.inr (.inl rfl))
 have c47 := fun H => s47g txt (by omega) H
 rw [hbare] at c43
 obtain ⟨H2, c44, hH2, hK2⟩ := s44 okw (hset true) txt (by simp only; omega)
 unfold Wrote
 simp only [encN]
 rw [leq F24]
 obtain ⟨hlen, ha⟩ := enter_at (f := f24) (args := [.ptr id 0 0, .im (.agg [.str op, .int .i64 i, .str txt, .int .i64 k, .sl sa (encTs args), .sl s (encNs kids)]), .im (.int .i64 ((d + 1) : Nat))]) (Nat.le_of_ble_eq_true rfl)
 have h0 := ha 0 _ rfl
 have h1 := ha 1 _ rfl
 have h2 := ha 2 _ rfl
 generalize enterA f24 [.ptr id 0 0, .im (.agg [.str op, .int .i64 i, .str txt, .int .i64 k, .sl sa (encTs args), .sl s (encNs kids)]), .im (.int .i64 ((d + 1) : Nat))] = tm at *
 change tm.length = 167 at hlen
 clear ha
 simp only [nOf] at *
 simp only [f24,B0,B1,B2,List.replicate,Nat.reduceAdd,Nat.reduceSub,Nat.reduceLeDiff,Nat.reduceLT,Nat.reduceEqDiff,reduceCtorEq,Int.reduceEq,Int.reduceLT,Int.reduceLE,endK,resA,tupA,hlen,h0,h1,h2,hid,hbx,c33,d0,d1,c25,e1,e2,e3,c43,c47,hbx2,c44]
 exact ⟨H2, hH2, (hk1.set _).trans hK2, rfl⟩
theorem s24_name2 (hb : st.2 = false) (hl : ¬ 4096 < st.1.length) (hop : op = nameW) (hbare : bareN (.mk op i txt (.mk k sa args) s kids) false true false false = true) (htl : txt.length ≤ 1000000) : Wrote n H id (.mk op i txt (.mk k sa args) s kids) (d + 1) (st.1 ++ txt, !nameOk txt) := by
 have hidlt := wa_lt hw
 have hw1 := wa_more hw [nOf op txt i k sa s args kids]
 obtain ⟨a0, v, hid, hlv, hset⟩ := wa_get hw1
 have hbx : (H ++ [nOf op txt i k sa s args kids])[H.length]? = some (nOf op txt i k sa s args kids) := by simp
 have hk1 : Keeps n id H (H ++ [nOf op txt i k sa s args kids]) := (Keeps.refl n id H).app _
 have c33 := fun H => s33 op H
 have hidlt1 : id < (H ++ [nOf op txt i k sa s args kids]).length := by simp only [List.length_append]; omega
 rw [hb] at hid
 have d0 : decide (((d + 1 : Nat) : Int) = 0) = false := decide_eq_false (by omega)
 have d1 : decide ((4096 : Int) < (st.1.length : Int)) = false := decide_eq_false (by omega)
 have c25 := s25 hw1
 have c43 := fun H => s43 op txt i k sa s args kids H
 simp only [encN] at c43
 have hbx2 : ∀ x, ((H ++ [nOf op txt i k sa s args kids]).set id x)[H.length]? = some (nOf op txt i k sa s args kids) := fun x => by rw [List.getElem?_set_ne (by omega)]; exact hbx
 have e1 : decide (op = [105, 110, 116]) = false := decide_eq_false (by rw [hop]; decide)
 have e2 : decide (op = [116, 101, 120, 116, 95, 111, 102]) = false := decide_eq_false (by rw [hop]; decide)
 have e3 : decide (op = [110, 97, 109, 101]) = true := decide_eq_true hop
 have c43 := fun H => c43 H false true false false (.inr (.inl rfl))
 have c47 := fun H => s47g txt (by omega) H
 rw [hbare] at c43
 obtain ⟨H2, c44, hH2, hK2⟩ := s44 okw (hset (!nameOk txt)) txt (by simp only; omega)
 unfold Wrote
 simp only [encN]
 rw [leq F24]
 obtain ⟨hlen, ha⟩ := enter_at (f := f24) (args := [.ptr id 0 0, .im (.agg [.str op, .int .i64 i, .str txt, .int .i64 k, .sl sa (encTs args), .sl s (encNs kids)]), .im (.int .i64 ((d + 1) : Nat))]) (Nat.le_of_ble_eq_true rfl)
 have h0 := ha 0 _ rfl
 have h1 := ha 1 _ rfl
 have h2 := ha 2 _ rfl
 generalize enterA f24 [.ptr id 0 0, .im (.agg [.str op, .int .i64 i, .str txt, .int .i64 k, .sl sa (encTs args), .sl s (encNs kids)]), .im (.int .i64 ((d + 1) : Nat))] = tm at *
 change tm.length = 167 at hlen
 clear ha
 simp only [nOf] at *
 simp only [f24,B0,B1,B2,List.replicate,Nat.reduceAdd,Nat.reduceSub,Nat.reduceLeDiff,Nat.reduceLT,Nat.reduceEqDiff,reduceCtorEq,Int.reduceEq,Int.reduceLT,Int.reduceLE,endK,resA,tupA,hlen,h0,h1,h2,hid,hbx,c33,d0,d1,c25,e1,e2,e3,c43,c47,hbx2,c44]
 exact ⟨H2, hH2, (hk1.set _).trans hK2, rfl⟩
theorem s24_none (hb : st.2 = false) (hl : ¬ 4096 < st.1.length) (hn1 : op ≠ intW) (hn2 : op ≠ textW) (hn3 : op ≠ nameW) (hsh : shapeT op = none) : Wrote n H id (.mk op i txt (.mk k sa args) s kids) (d + 1) (st.1, true) := by
 have hidlt := wa_lt hw
 have hw1 := wa_more hw [nOf op txt i k sa s args kids]
 obtain ⟨a0, v, hid, hlv, hset⟩ := wa_get hw1
 have hbx : (H ++ [nOf op txt i k sa s args kids])[H.length]? = some (nOf op txt i k sa s args kids) := by simp
 have hk1 : Keeps n id H (H ++ [nOf op txt i k sa s args kids]) := (Keeps.refl n id H).app _
 have c33 := fun H => s33 op H
 have hidlt1 : id < (H ++ [nOf op txt i k sa s args kids]).length := by simp only [List.length_append]; omega
 rw [hb] at hid
 have d0 : decide (((d + 1 : Nat) : Int) = 0) = false := decide_eq_false (by omega)
 have d1 : decide ((4096 : Int) < (st.1.length : Int)) = false := decide_eq_false (by omega)
 have c25 := s25 hw1
 have c43 := fun H => s43 op txt i k sa s args kids H
 simp only [encN] at c43
 have hbx2 : ∀ x, ((H ++ [nOf op txt i k sa s args kids]).set id x)[H.length]? = some (nOf op txt i k sa s args kids) := fun x => by rw [List.getElem?_set_ne (by omega)]; exact hbx
 have e1 : decide (op = [105, 110, 116]) = false := decide_eq_false hn1
 have e2 : decide (op = [116, 101, 120, 116, 95, 111, 102]) = false := decide_eq_false hn2
 have e3 : decide (op = [110, 97, 109, 101]) = false := decide_eq_false hn3
 rw [hsh] at c33
 simp only [Option.getD_none,Option.isSome_none] at c33
 unfold Wrote
 simp only [encN]
 rw [leq F24]
 obtain ⟨hlen, ha⟩ := enter_at (f := f24) (args := [.ptr id 0 0, .im (.agg [.str op, .int .i64 i, .str txt, .int .i64 k, .sl sa (encTs args), .sl s (encNs kids)]), .im (.int .i64 ((d + 1) : Nat))]) (Nat.le_of_ble_eq_true rfl)
 have h0 := ha 0 _ rfl
 have h1 := ha 1 _ rfl
 have h2 := ha 2 _ rfl
 generalize enterA f24 [.ptr id 0 0, .im (.agg [.str op, .int .i64 i, .str txt, .int .i64 k, .sl sa (encTs args), .sl s (encNs kids)]), .im (.int .i64 ((d + 1) : Nat))] = tm at *
 change tm.length = 167 at hlen
 clear ha
 simp only [nOf] at *
 simp only [f24,B0,B1,B2,List.replicate,Nat.reduceAdd,Nat.reduceSub,Nat.reduceLeDiff,Nat.reduceLT,Nat.reduceEqDiff,reduceCtorEq,Int.reduceEq,Int.reduceLT,Int.reduceLE,endK,resA,tupA,hlen,h0,h1,h2,hid,hbx,c33,d0,d1,c25,e1,e2,e3]
 exact ⟨_, hset true, hk1.set _, rfl⟩
theorem s24_d1 (hb : st.2 = false) (hl : ¬ 4096 < st.1.length) (hn1 : op ≠ intW) (hn2 : op ≠ textW) (hn3 : op ≠ nameW) (hsh : shapeT op = some [100]) (h64 : -9223372036854775808 ≤ i ∧ i ≤ 9223372036854775807) (hbare : bareN (.mk op i txt (.mk k sa args) s kids) true false false false = false) : Wrote n H id (.mk op i txt (.mk k sa args) s kids) (d + 1) (st.1 ++ ((sideW ++ itoaN i) ++ [41]), true) := by
 have hidlt := wa_lt hw
 have hw1 := wa_more hw [nOf op txt i k sa s args kids]
 obtain ⟨a0, v, hid, hlv, hset⟩ := wa_get hw1
 have hbx : (H ++ [nOf op txt i k sa s args kids])[H.length]? = some (nOf op txt i k sa s args kids) := by simp
 have hk1 : Keeps n id H (H ++ [nOf op txt i k sa s args kids]) := (Keeps.refl n id H).app _
 have c33 := fun H => s33 op H
 have hidlt1 : id < (H ++ [nOf op txt i k sa s args kids]).length := by simp only [List.length_append]; omega
 rw [hb] at hid
 have d0 : decide (((d + 1 : Nat) : Int) = 0) = false := decide_eq_false (by omega)
 have d1 : decide ((4096 : Int) < (st.1.length : Int)) = false := decide_eq_false (by omega)
 have c25 := s25 hw1
 have c43 := fun H => s43 op txt i k sa s args kids H
 simp only [encN] at c43
 have hbx2 : ∀ x, ((H ++ [nOf op txt i k sa s args kids]).set id x)[H.length]? = some (nOf op txt i k sa s args kids) := fun x => by rw [List.getElem?_set_ne (by omega)]; exact hbx
 have e1 : decide (op = [105, 110, 116]) = false := decide_eq_false hn1
 have e2 : decide (op = [116, 101, 120, 116, 95, 111, 102]) = false := decide_eq_false hn2
 have e3 : decide (op = [110, 97, 109, 101]) = false := decide_eq_false hn3
 rw [hsh] at c33
 simp only [Option.getD_some,Option.isSome_some] at c33
 have f1 : decide (([100] : List UInt8) = [100]) = true := rfl
 have c43 := fun H => c43 H true false false false (.inl rfl)
 have c45 := fun H => s45 i h64 H
 have hil := itoaN_len i
 have a1 := s_add (x := [115, 105, 100, 101, 40]) (y := itoaN i) (by simp only [List.length_cons,List.length_nil]; omega)
 have a2 := s_add (x := [115, 105, 100, 101, 40] ++ itoaN i) (y := [41]) (by simp only [List.length_append,List.length_cons,List.length_nil]; omega)
 simp only [List.cons_append,List.nil_append] at a1 a2
 rw [hbare] at c43
 have g1 := hb
 have g2 := hb
 obtain ⟨H2, c44, hH2, hK2⟩ := s44 okw (hset true) ((sideW ++ itoaN i) ++ [41]) (by simp only [sideW,List.length_append,List.length_cons,List.length_nil]; omega)
 simp only [sideW,List.cons_append,List.nil_append] at c44
 unfold Wrote
 simp only [encN]
 rw [leq F24]
 obtain ⟨hlen, ha⟩ := enter_at (f := f24) (args := [.ptr id 0 0, .im (.agg [.str op, .int .i64 i, .str txt, .int .i64 k, .sl sa (encTs args), .sl s (encNs kids)]), .im (.int .i64 ((d + 1) : Nat))]) (Nat.le_of_ble_eq_true rfl)
 have h0 := ha 0 _ rfl
 have h1 := ha 1 _ rfl
 have h2 := ha 2 _ rfl
 generalize enterA f24 [.ptr id 0 0, .im (.agg [.str op, .int .i64 i, .str txt, .int .i64 k, .sl sa (encTs args), .sl s (encNs kids)]), .im (.int .i64 ((d + 1) : Nat))] = tm at *
 change tm.length = 167 at hlen
 clear ha
 simp only [nOf] at *
 simp only [f24,B0,B1,B2,List.replicate,Nat.reduceAdd,Nat.reduceSub,Nat.reduceLeDiff,Nat.reduceLT,Nat.reduceEqDiff,reduceCtorEq,Int.reduceEq,Int.reduceLT,Int.reduceLE,endK,resA,tupA,hlen,h0,h1,h2,hid,hbx,c33,d0,d1,c25,e1,e2,e3,f1,c43,c45,a1,a2,g1,g2,hbx2,c44]
 exact ⟨H2, hH2, (hk1.set _).trans hK2, rfl⟩
theorem s24_d2 (hb : st.2 = false) (hl : ¬ 4096 < st.1.length) (hn1 : op ≠ intW) (hn2 : op ≠ textW) (hn3 : op ≠ nameW) (hsh : shapeT op = some [100]) (h64 : -9223372036854775808 ≤ i ∧ i ≤ 9223372036854775807) (hbare : bareN (.mk op i txt (.mk k sa args) s kids) true false false false = true) (hi : i < 0) : Wrote n H id (.mk op i txt (.mk k sa args) s kids) (d + 1) (st.1 ++ ((sideW ++ itoaN i) ++ [41]), true) := by
 have hidlt := wa_lt hw
 have hw1 := wa_more hw [nOf op txt i k sa s args kids]
 obtain ⟨a0, v, hid, hlv, hset⟩ := wa_get hw1
 have hbx : (H ++ [nOf op txt i k sa s args kids])[H.length]? = some (nOf op txt i k sa s args kids) := by simp
 have hk1 : Keeps n id H (H ++ [nOf op txt i k sa s args kids]) := (Keeps.refl n id H).app _
 have c33 := fun H => s33 op H
 have hidlt1 : id < (H ++ [nOf op txt i k sa s args kids]).length := by simp only [List.length_append]; omega
 rw [hb] at hid
 have d0 : decide (((d + 1 : Nat) : Int) = 0) = false := decide_eq_false (by omega)
 have d1 : decide ((4096 : Int) < (st.1.length : Int)) = false := decide_eq_false (by omega)
 have c25 := s25 hw1
 have c43 := fun H => s43 op txt i k sa s args kids H
 simp only [encN] at c43
 have hbx2 : ∀ x, ((H ++ [nOf op txt i k sa s args kids]).set id x)[H.length]? = some (nOf op txt i k sa s args kids) := fun x => by rw [List.getElem?_set_ne (by omega)]; exact hbx
 have e1 : decide (op = [105, 110, 116]) = false := decide_eq_false hn1
 have e2 : decide (op = [116, 101, 120, 116, 95, 111, 102]) = false := decide_eq_false hn2
 have e3 : decide (op = [110, 97, 109, 101]) = false := decide_eq_false hn3
 rw [hsh] at c33
 simp only [Option.getD_some,Option.isSome_some] at c33
 have f1 : decide (([100] : List UInt8) = [100]) = true := rfl
 have c43 := fun H => c43 H true false false false (.inl rfl)
 have c45 := fun H => s45 i h64 H
 have hil := itoaN_len i
 have a1 := s_add (x := [115, 105, 100, 101, 40]) (y := itoaN i) (by simp only [List.length_cons,List.length_nil]; omega)
 have a2 := s_add (x := [115, 105, 100, 101, 40] ++ itoaN i) (y := [41]) (by simp only [List.length_append,List.length_cons,List.length_nil]; omega)
 simp only [List.cons_append,List.nil_append] at a1 a2
 rw [hbare] at c43
 have g1 : decide (i < 0) = true := decide_eq_true hi
 have g2 := hb
 obtain ⟨H2, c44, hH2, hK2⟩ := s44 okw (hset true) ((sideW ++ itoaN i) ++ [41]) (by simp only [sideW,List.length_append,List.length_cons,List.length_nil]; omega)
 simp only [sideW,List.cons_append,List.nil_append] at c44
 unfold Wrote
 simp only [encN]
 rw [leq F24]
 obtain ⟨hlen, ha⟩ := enter_at (f := f24) (args := [.ptr id 0 0, .im (.agg [.str op, .int .i64 i, .str txt, .int .i64 k, .sl sa (encTs args), .sl s (encNs kids)]), .im (.int .i64 ((d + 1) : Nat))]) (Nat.le_of_ble_eq_true rfl)
 have h0 := ha 0 _ rfl
 have h1 := ha 1 _ rfl
 have h2 := ha 2 _ rfl
 generalize enterA f24 [.ptr id 0 0, .im (.agg [.str op, .int .i64 i, .str txt, .int .i64 k, .sl sa (encTs args), .sl s (encNs kids)]), .im (.int .i64 ((d + 1) : Nat))] = tm at *
 change tm.length = 167 at hlen
 clear ha
 simp only [nOf] at *
 simp only [f24,B0,B1,B2,List.replicate,Nat.reduceAdd,Nat.reduceSub,Nat.reduceLeDiff,Nat.reduceLT,Nat.reduceEqDiff,reduceCtorEq,Int.reduceEq,Int.reduceLT,Int.reduceLE,endK,resA,tupA,hlen,h0,h1,h2,hid,hbx,c33,d0,d1,c25,e1,e2,e3,f1,c43,c45,a1,a2,g1,g2,hbx2,c44]
 exact ⟨H2, hH2, (hk1.set _).trans hK2, rfl⟩
theorem s24_d3 (hb : st.2 = false) (hl : ¬ 4096 < st.1.length) (hn1 : op ≠ intW) (hn2 : op ≠ textW) (hn3 : op ≠ nameW) (hsh : shapeT op = some [100]) (h64 : -9223372036854775808 ≤ i ∧ i ≤ 9223372036854775807) (hbare : bareN (.mk op i txt (.mk k sa args) s kids) true false false false = true) (hi : ¬ i < 0) : Wrote n H id (.mk op i txt (.mk k sa args) s kids) (d + 1) (st.1 ++ ((sideW ++ itoaN i) ++ [41]), (decide (9 < i))) := by
 have hidlt := wa_lt hw
 have hw1 := wa_more hw [nOf op txt i k sa s args kids]
 obtain ⟨a0, v, hid, hlv, hset⟩ := wa_get hw1
 have hbx : (H ++ [nOf op txt i k sa s args kids])[H.length]? = some (nOf op txt i k sa s args kids) := by simp
 have hk1 : Keeps n id H (H ++ [nOf op txt i k sa s args kids]) := (Keeps.refl n id H).app _
 have c33 := fun H => s33 op H
 have hidlt1 : id < (H ++ [nOf op txt i k sa s args kids]).length := by simp only [List.length_append]; omega
 rw [hb] at hid
 have d0 : decide (((d + 1 : Nat) : Int) = 0) = false := decide_eq_false (by omega)
 have d1 : decide ((4096 : Int) < (st.1.length : Int)) = false := decide_eq_false (by omega)
 have c25 := s25 hw1
 have c43 := fun H => s43 op txt i k sa s args kids H
 simp only [encN] at c43
 have hbx2 : ∀ x, ((H ++ [nOf op txt i k sa s args kids]).set id x)[H.length]? = some (nOf op txt i k sa s args kids) := fun x => by rw [List.getElem?_set_ne (by omega)]; exact hbx
 have e1 : decide (op = [105, 110, 116]) = false := decide_eq_false hn1
 have e2 : decide (op = [116, 101, 120, 116, 95, 111, 102]) = false := decide_eq_false hn2
 have e3 : decide (op = [110, 97, 109, 101]) = false := decide_eq_false hn3
 rw [hsh] at c33
 simp only [Option.getD_some,Option.isSome_some] at c33
 have f1 : decide (([100] : List UInt8) = [100]) = true := rfl
 have c43 := fun H => c43 H true false false false (.inl rfl)
 have c45 := fun H => s45 i h64 H
 have hil := itoaN_len i
 have a1 := s_add (x := [115, 105, 100, 101, 40]) (y := itoaN i) (by simp only [List.length_cons,List.length_nil]; omega)
 have a2 := s_add (x := [115, 105, 100, 101, 40] ++ itoaN i) (y := [41]) (by simp only [List.length_append,List.length_cons,List.length_nil]; omega)
 simp only [List.cons_append,List.nil_append] at a1 a2
 rw [hbare] at c43
 have g1 : decide (i < 0) = false := decide_eq_false hi
 have g2 := hb
 obtain ⟨H2, c44, hH2, hK2⟩ := s44 okw (hset (decide (9 < i))) ((sideW ++ itoaN i) ++ [41]) (by simp only [sideW,List.length_append,List.length_cons,List.length_nil]; omega)
 simp only [sideW,List.cons_append,List.nil_append] at c44
 unfold Wrote
 simp only [encN]
 rw [leq F24]
 obtain ⟨hlen, ha⟩ := enter_at (f := f24) (args := [.ptr id 0 0, .im (.agg [.str op, .int .i64 i, .str txt, .int .i64 k, .sl sa (encTs args), .sl s (encNs kids)]), .im (.int .i64 ((d + 1) : Nat))]) (Nat.le_of_ble_eq_true rfl)
 have h0 := ha 0 _ rfl
 have h1 := ha 1 _ rfl
 have h2 := ha 2 _ rfl
 generalize enterA f24 [.ptr id 0 0, .im (.agg [.str op, .int .i64 i, .str txt, .int .i64 k, .sl sa (encTs args), .sl s (encNs kids)]), .im (.int .i64 ((d + 1) : Nat))] = tm at *
 change tm.length = 167 at hlen
 clear ha
 simp only [nOf] at *
 simp only [f24,B0,B1,B2,List.replicate,Nat.reduceAdd,Nat.reduceSub,Nat.reduceLeDiff,Nat.reduceLT,Nat.reduceEqDiff,reduceCtorEq,Int.reduceEq,Int.reduceLT,Int.reduceLE,endK,resA,tupA,hlen,h0,h1,h2,hid,hbx,c33,d0,d1,c25,e1,e2,e3,f1,c43,c45,a1,a2,g1,g2,hbx2,c44]
 exact ⟨H2, hH2, (hk1.set _).trans hK2, rfl⟩
theorem s24_t1 (hb : st.2 = false) (hl : ¬ 4096 < st.1.length) (hn1 : op ≠ intW) (hn2 : op ≠ textW) (hn3 : op ≠ nameW) (hsh : shapeT op = some [116]) (hty : okT (.mk k sa args)) (hol : op.length ≤ 1000000) (hbare : bareN (.mk op i txt (.mk k sa args) s kids) false false true false = false) : Wrote n H id (.mk op i txt (.mk k sa args) s kids) (d + 1) (st.1 ++ (((op ++ [40]) ++ showW (.mk k sa args)) ++ [41]), true) := by
 have hidlt := wa_lt hw
 have hw1 := wa_more hw [nOf op txt i k sa s args kids]
 obtain ⟨a0, v, hid, hlv, hset⟩ := wa_get hw1
 have hbx : (H ++ [nOf op txt i k sa s args kids])[H.length]? = some (nOf op txt i k sa s args kids) := by simp
 have hk1 : Keeps n id H (H ++ [nOf op txt i k sa s args kids]) := (Keeps.refl n id H).app _
 have c33 := fun H => s33 op H
 have hidlt1 : id < (H ++ [nOf op txt i k sa s args kids]).length := by simp only [List.length_append]; omega
 rw [hb] at hid
 have d0 : decide (((d + 1 : Nat) : Int) = 0) = false := decide_eq_false (by omega)
 have d1 : decide ((4096 : Int) < (st.1.length : Int)) = false := decide_eq_false (by omega)
 have c25 := s25 hw1
 have c43 := fun H => s43 op txt i k sa s args kids H
 simp only [encN] at c43
 have hbx2 : ∀ x, ((H ++ [nOf op txt i k sa s args kids]).set id x)[H.length]? = some (nOf op txt i k sa s args kids) := fun x => by rw [List.getElem?_set_ne (by omega)]; exact hbx
 have e1 : decide (op = [105, 110, 116]) = false := decide_eq_false hn1
 have e2 : decide (op = [116, 101, 120, 116, 95, 111, 102]) = false := decide_eq_false hn2
 have e3 : decide (op = [110, 97, 109, 101]) = false := decide_eq_false hn3
 rw [hsh] at c33
 simp only [Option.getD_some,Option.isSome_some] at c33
 have f1 : decide (([116] : List UInt8) = [100]) = false := rfl
 have f2 : decide (([116] : List UInt8) = [116]) = true := rfl
 have c43 := fun H => c43 H false false true false (.inr (.inr (.inl rfl)))
 have c48 := fun H => s48 (.mk k sa args) hty H
 have hsl := showW_len (.mk k sa args)
 unfold showW
 unfold showW at hsl
 simp only [encT] at c48
 generalize (if rightT (KT.mk k sa args) 6 = true then showT (KT.mk k sa args) else []) = sw at *
 generalize checkT (KT.mk k sa args) = ec at *
 have a1 := s_add (x := op) (y := [40]) (by simp only [List.length_cons,List.length_nil]; omega)
 have a2 := s_add (x := op ++ [40]) (y := sw) (by simp only [List.length_append,List.length_cons,List.length_nil]; omega)
 have a3 := s_add (x := op ++ [40] ++ sw) (y := [41]) (by simp only [List.length_append,List.length_cons,List.length_nil]; omega)
 rw [hbare] at c43
 obtain ⟨H2, c44, hH2, hK2⟩ := s44 okw (hset true) (((op ++ [40]) ++ sw) ++ [41]) (by simp only [List.length_append,List.length_cons,List.length_nil]; omega)
 simp only [List.append_assoc,List.cons_append,List.nil_append] at a2 a3 c44 hH2
 unfold Wrote
 simp only [encN]
 rw [leq F24]
 obtain ⟨hlen, ha⟩ := enter_at (f := f24) (args := [.ptr id 0 0, .im (.agg [.str op, .int .i64 i, .str txt, .int .i64 k, .sl sa (encTs args), .sl s (encNs kids)]), .im (.int .i64 ((d + 1) : Nat))]) (Nat.le_of_ble_eq_true rfl)
 have h0 := ha 0 _ rfl
 have h1 := ha 1 _ rfl
 have h2 := ha 2 _ rfl
 generalize enterA f24 [.ptr id 0 0, .im (.agg [.str op, .int .i64 i, .str txt, .int .i64 k, .sl sa (encTs args), .sl s (encNs kids)]), .im (.int .i64 ((d + 1) : Nat))] = tm at *
 change tm.length = 167 at hlen
 clear ha
 simp only [nOf] at *
 simp only [f24,B0,B1,B2,List.replicate,Nat.reduceAdd,Nat.reduceSub,Nat.reduceLeDiff,Nat.reduceLT,Nat.reduceEqDiff,reduceCtorEq,Int.reduceEq,Int.reduceLT,Int.reduceLE,endK,resA,tupA,hlen,h0,h1,h2,hid,hbx,c33,d0,d1,c25,e1,e2,e3,f1,f2,c43,c48,a1,a2,a3,hbx2,c44]
 exact ⟨H2, hH2, (hk1.set _).trans hK2, rfl⟩
theorem s24_t2 (hb : st.2 = false) (hl : ¬ 4096 < st.1.length) (hn1 : op ≠ intW) (hn2 : op ≠ textW) (hn3 : op ≠ nameW) (hsh : shapeT op = some [116]) (hty : okT (.mk k sa args)) (hol : op.length ≤ 1000000) (hbare : bareN (.mk op i txt (.mk k sa args) s kids) false false true false = true) : Wrote n H id (.mk op i txt (.mk k sa args) s kids) (d + 1) (st.1 ++ (((op ++ [40]) ++ showW (.mk k sa args)) ++ [41]), (!decide (checkT (.mk k sa args) = 0))) := by
 have hidlt := wa_lt hw
 have hw1 := wa_more hw [nOf op txt i k sa s args kids]
 obtain ⟨a0, v, hid, hlv, hset⟩ := wa_get hw1
 have hbx : (H ++ [nOf op txt i k sa s args kids])[H.length]? = some (nOf op txt i k sa s args kids) := by simp
 have hk1 : Keeps n id H (H ++ [nOf op txt i k sa s args kids]) := (Keeps.refl n id H).app _
 have c33 := fun H => s33 op H
 have hidlt1 : id < (H ++ [nOf op txt i k sa s args kids]).length := by simp only [List.length_append]; omega
 rw [hb] at hid
 have d0 : decide (((d + 1 : Nat) : Int) = 0) = false := decide_eq_false (by omega)
 have d1 : decide ((4096 : Int) < (st.1.length : Int)) = false := decide_eq_false (by omega)
 have c25 := s25 hw1
 have c43 := fun H => s43 op txt i k sa s args kids H
 simp only [encN] at c43
 have hbx2 : ∀ x, ((H ++ [nOf op txt i k sa s args kids]).set id x)[H.length]? = some (nOf op txt i k sa s args kids) := fun x => by rw [List.getElem?_set_ne (by omega)]; exact hbx
 have e1 : decide (op = [105, 110, 116]) = false := decide_eq_false hn1
 have e2 : decide (op = [116, 101, 120, 116, 95, 111, 102]) = false := decide_eq_false hn2
 have e3 : decide (op = [110, 97, 109, 101]) = false := decide_eq_false hn3
 rw [hsh] at c33
 simp only [Option.getD_some,Option.isSome_some] at c33
 have f1 : decide (([116] : List UInt8) = [100]) = false := rfl
 have f2 : decide (([116] : List UInt8) = [116]) = true := rfl
 have c43 := fun H => c43 H false false true false (.inr (.inr (.inl rfl)))
 have c48 := fun H => s48 (.mk k sa args) hty H
 have hsl := showW_len (.mk k sa args)
 unfold showW
 unfold showW at hsl
 simp only [encT] at c48
 generalize (if rightT (KT.mk k sa args) 6 = true then showT (KT.mk k sa args) else []) = sw at *
 generalize checkT (KT.mk k sa args) = ec at *
 have a1 := s_add (x := op) (y := [40]) (by simp only [List.length_cons,List.length_nil]; omega)
 have a2 := s_add (x := op ++ [40]) (y := sw) (by simp only [List.length_append,List.length_cons,List.length_nil]; omega)
 have a3 := s_add (x := op ++ [40] ++ sw) (y := [41]) (by simp only [List.length_append,List.length_cons,List.length_nil]; omega)
 rw [hbare] at c43
 obtain ⟨H2, c44, hH2, hK2⟩ := s44 okw (hset (!decide (ec = 0))) (((op ++ [40]) ++ sw) ++ [41]) (by simp only [List.length_append,List.length_cons,List.length_nil]; omega)
 simp only [List.append_assoc,List.cons_append,List.nil_append] at a2 a3 c44 hH2
 unfold Wrote
 simp only [encN]
 rw [leq F24]
 obtain ⟨hlen, ha⟩ := enter_at (f := f24) (args := [.ptr id 0 0, .im (.agg [.str op, .int .i64 i, .str txt, .int .i64 k, .sl sa (encTs args), .sl s (encNs kids)]), .im (.int .i64 ((d + 1) : Nat))]) (Nat.le_of_ble_eq_true rfl)
 have h0 := ha 0 _ rfl
 have h1 := ha 1 _ rfl
 have h2 := ha 2 _ rfl
 generalize enterA f24 [.ptr id 0 0, .im (.agg [.str op, .int .i64 i, .str txt, .int .i64 k, .sl sa (encTs args), .sl s (encNs kids)]), .im (.int .i64 ((d + 1) : Nat))] = tm at *
 change tm.length = 167 at hlen
 clear ha
 simp only [nOf] at *
 simp only [f24,B0,B1,B2,List.replicate,Nat.reduceAdd,Nat.reduceSub,Nat.reduceLeDiff,Nat.reduceLT,Nat.reduceEqDiff,reduceCtorEq,Int.reduceEq,Int.reduceLT,Int.reduceLE,endK,resA,tupA,hlen,h0,h1,h2,hid,hbx,c33,d0,d1,c25,e1,e2,e3,f1,f2,c43,c48,a1,a2,a3,hbx2,c44]
 exact ⟨H2, hH2, (hk1.set _).trans hK2, rfl⟩
end
end Go.Abs.Seat
end
section
set_option linter.unusedVariables false
set_option linter.unusedSimpArgs false
namespace Go.Abs.Seat
open Go.Proofs
theorem repeat_rep : ∀ c : Nat, Lib.repeatL [101] c = List.replicate c 101
 | 0 => rfl
 | c + 1 => by
  simp only [Lib.repeatL,repeat_rep c,List.replicate_succ,List.cons_append,List.nil_append]
theorem s67 (c : Nat) (h : c ≤ 1000) (H : Heap) : L 67 [.im (.str [101]), .im (.int .i64 (c : Int))] H = some (.im (.str (List.replicate c 101)), H) := by
 have hF : F 67 = none := by kernel_rfl
 have e : L 67 [.im (.str [101]), .im (.int .i64 (c : Int))] H = bld 67 [.im (.str [101]), .im (.int .i64 (c : Int))] H := lim_none hF _ _
 rw [e]
 have e2 : bld 67 [.im (.str [101]), .im (.int .i64 (c : Int))] H = repO 67 (idxO 80 (strO 60 26 Tryd.okB 5 fun _ _ _ => none)) 67 [.im (.str [101]), .im (.int .i64 (c : Int))] H := by
  unfold bld itoaO
  rw [if_neg (by decide)]
 rw [e2]
 unfold repO
 rw [if_pos rfl]
 simp only
 rw [if_pos ⟨by omega, by omega, by simp; omega⟩, Int.toNat_natCast, repeat_rep]
def Nod (n : Nat) (id d : Nat) (k : NT) : Prop := ∀ (st : WSt) (H : Heap), st.1.length ≤ 1000000000 → WA n H id st →
 ∃ H', L 24 [.ptr id 0 0, .im (.agg (encN k)), .im (.int .i64 (d : Int))] H = some (.tup [], H') ∧ WA n H' id (nodeW d k st) ∧ Keeps n id H H'
theorem min1 (i : Nat) : minA (.im (.int .i64 (i : Int))) (.im (.int .i64 1)) = some (.im (.int .i64 ((min i 1 : Nat) : Int))) := by
 simp only [minA]
 split
 ·have : min i 1 = 1 := by omega
  rw [this]; rfl
 ·have : min i 1 = i := by omega
  rw [this]
theorem sep_at (i : Nat) : ([40, 44] : List UInt8)[min i 1]? = some (sepB i) := by
 unfold sepB
 cases i with
 | zero => rfl
 | succ i =>
  have : min (i + 1) 1 = 1 := by omega
  rw [this, if_neg (by omega)]; rfl
theorem encNs_at {kids : List NT} {i : Nat} {k : NT} (h : kids[i]? = some k) : (encNs kids)[i]? = some (encN k) := by rw [encNs_map, List.getElem?_map, h]; rfl
theorem l49 (n id idn d : Nat) (hd : d ≤ 1000) (hne : idn ≠ id) (ps : List UInt8) (s : Nat) (kids : List NT) (hs : kids = [] ∨ s = 6) (hps : kids.length = ps.length) (o : HO) (ho : ∃ ty es, o = .obj ty es)
  (C : Nat) (hC : ∀ k ∈ kids, ∀ st : WSt, (nodeW d k st).1.length ≤ max st.1.length C) (hnod : ∀ k ∈ kids, Nod n id d k) (hcl : C + kids.length ≤ 1000000000) :
  ∀ (m i : Nat) (tm : List AV) (H : Heap) (st : WSt), i + m = kids.length → st.1.length + m ≤ 1000000000 → WA n H id st → H[idn]? = some o → tm.length = 79 → tm.getD 0 undefA = .ptr id 0 0 → tm.getD 2 undefA = .im (.str ps) → tm.getD 3 undefA = .im (.int .i64 ((d + 1 : Nat) : Int)) →
   tm.getD 5 undefA = .ptr idn 0 0 → tm.getD 39 undefA = .im (.sl s (encNs kids)) → tm.getD 40 undefA = .im (.int .i64 (kids.length : Int)) → tm.getD 41 undefA = .im (.int .i64 (i : Int)) →
  ∃ e tm' H', Λ c49_0 tm H = some (e, tm', H') ∧ (e = .exit 0 ∧ tm'.length = 79 ∧ tm'.getD 0 undefA = .ptr id 0 0 ∧ tm'.getD 5 undefA = .ptr idn 0 0 ∧ WA n H' id (kidsW (nodeW d) ps i (kids.drop i) st) ∧ Keeps n id H H' ∧ H'[idn]? = some o ∧ (kidsW (nodeW d) ps i (kids.drop i) st).1.length ≤ max (st.1.length + m) (C + m))
 | 0, i, tm, H, st, hi, hb, hw, hon, hlen, h0, h2, h3, h5, h39, h40, h41 => by
  have e : kids.drop i = [] := by rw [List.drop_eq_nil_iff]; omega
  have hc : decide ((i : Int) < (kids.length : Int)) = false := decide_eq_false (by omega)
  rw [l49_0, e]
  simp only [b49_0,B0,B1,B2,List.replicate,Nat.reduceAdd,Nat.reduceSub,Nat.reduceLeDiff,Nat.reduceLT,Nat.reduceEqDiff,reduceCtorEq,Int.reduceEq,Int.reduceLT,Int.reduceLE,lenA,hlen,h40,h41,hc]
  exact ⟨_, _, _, rfl, rfl, by simp only [List.length_set,hlen], by simp only [B3,Nat.reduceLT,Nat.reduceEqDiff,hlen,h0], by simp only [B3,Nat.reduceLT,Nat.reduceEqDiff,hlen,h5], hw, Keeps.refl _ _ _, hon, by simp only [kidsW]; omega⟩
 | m + 1, i, tm, H, st, hi, hb, hw, hon, hlen, h0, h2, h3, h5, h39, h40, h41 => by
  have hlt : i < kids.length := by omega
  have e : kids.drop i = kids[i] :: kids.drop (i + 1) := List.drop_eq_getElem_cons hlt
  have hki : kids[i]? = some kids[i] := List.getElem?_eq_getElem hlt
  generalize kids[i] = k at e hki
  have hmem := List.mem_of_getElem? hki
  have hs6 : s = 6 := by
   rcases hs with hs | hs
   ·rw [hs] at hlt; simp at hlt
   ·exact hs
  subst hs6
  have hc : decide ((i : Int) < (kids.length : Int)) = true := decide_eq_true (by omega)
  have hix := idx_nat (n := (encNs kids).length) (i := i) (by rw [encNs_map]; simpa using hlt)
  have hget := encNs_at hki
  have hwr := wrap_nat (i := i) (by omega)
  have hsub : IntKind.i64.wrap (((d + 1 : Nat) : Int) - 1) = (d : Int) := by rw [Go.Abs.Seat.wrap_small _ (by omega)]; omega
  obtain ⟨cp, hcp⟩ : ∃ cp, ps[i]? = some cp := ⟨ps[i]'(by omega), List.getElem?_eq_getElem (by omega)⟩
  have p2 : (0 : Int) ≤ (i : Int) := Int.natCast_nonneg i
  have p3 : (0 : Int) ≤ ((min i 1 : Nat) : Int) := Int.natCast_nonneg _
  have hsep := sep_at i
  have hmin := min1 i
  have hdrop := hC k hmem
  obtain ⟨op, ni, txt, ty, ns, kk⟩ := k
  obtain ⟨tk, ts, targs⟩ := ty
  obtain ⟨ty0, es0, rfl⟩ := ho
  have hw1 := wa_more hw [nOf op txt ni tk ts ns targs kk]
  have hon1 : (H ++ [nOf op txt ni tk ts ns targs kk])[idn]? = some (.obj ty0 es0) := by rw [get_app (List.getElem?_eq_some_iff.1 hon).1]; exact hon
  obtain ⟨H2, c62, hH2, hK2⟩ := s62 okw hw1 (sepB i) (by omega)
  have hw2 : WA n H2 id (st.1 ++ [sepB i], st.2) := hH2
  have hH0 : (H ++ [nOf op txt ni tk ts ns targs kk])[H.length]? = some (nOf op txt ni tk ts ns targs kk) := by simp
  have hidlt := wa_lt hw
  have ho2 : H2[H.length]? = some (nOf op txt ni tk ts ns targs kk) := hK2.2.1 _ _ _ (by omega) hH0
  have hon2 : H2[idn]? = some (.obj ty0 es0) := hK2.2.1 _ _ _ hne hon1
  have hK02 : Keeps n id H H2 := hK2.down
  obtain ⟨a0, v, hid2, _, hset⟩ := wa_get hw2
  have hid2lt := wa_lt hw2
  simp only [byteDat] at c62
  simp only [nOf] at *
  have hlen1 : (st.1 ++ [sepB i]).length = st.1.length + 1 := by simp
  generalize hs0 : sepB i = sp at *
  have fin : ∀ (b : Bool) (H3 : Heap), WA n H3 id (st.1 ++ [sp], b) → Keeps n id H H3 → H3[idn]? = some (.obj ty0 es0) → b = (st.2 || (decide (ps[i]? = some 110) && !decide (op = nameW))) →
    ∃ H4, L 24 [.ptr id 0 0, .im (.agg (encN (.mk op ni txt (.mk tk ts targs) ns kk))), .im (.int .i64 (d : Int))] H3 = some (.tup [], H4) ∧
     ∀ tm1 : List AV, tm1.length = 79 → tm1.getD 0 undefA = .ptr id 0 0 → tm1.getD 2 undefA = .im (.str ps) → tm1.getD 3 undefA = .im (.int .i64 ((d + 1 : Nat) : Int)) → tm1.getD 5 undefA = .ptr idn 0 0 → tm1.getD 39 undefA = .im (.sl 6 (encNs kids)) → tm1.getD 40 undefA = .im (.int .i64 (kids.length : Int)) → tm1.getD 41 undefA = .im (.int .i64 ((i + 1 : Nat) : Int)) →
     ∃ e tm' H', Λ c49_0 tm1 H4 = some (e, tm', H') ∧ (e = .exit 0 ∧ tm'.length = 79 ∧ tm'.getD 0 undefA = .ptr id 0 0 ∧ tm'.getD 5 undefA = .ptr idn 0 0 ∧ WA n H' id (kidsW (nodeW d) ps i (.mk op ni txt (.mk tk ts targs) ns kk :: kids.drop (i + 1)) st) ∧ Keeps n id H H' ∧ H'[idn]? = some (.obj ty0 es0) ∧ (kidsW (nodeW d) ps i (.mk op ni txt (.mk tk ts targs) ns kk :: kids.drop (i + 1)) st).1.length ≤ max (st.1.length + (m + 1)) (C + (m + 1))) := by
   intro b H3 hw3 hK3 hon3 hb2
   obtain ⟨H4, c24, hw4, hK4⟩ := hnod _ hmem (st.1 ++ [sp], b) H3 (by simp only [hlen1]; omega) hw3
   refine ⟨H4, c24, fun tm1 q1 q2 q3 q4 q5 q6 q7 q8 => ?_⟩
   have hl4 := hdrop (st.1 ++ [sp], b)
   simp only [hlen1] at hl4
   obtain ⟨e', tm', H', r1, r2, r3, r4, r5, r6, r7, r8, r9⟩ := l49 n id idn d hd hne ps 6 kids (.inr rfl) hps _ ⟨_, _, rfl⟩ C hC hnod hcl m (i + 1) tm1 H4 _ (by omega) (by omega) hw4 (hK4.2.1 _ _ _ hne hon3) q1 q2 q3 q4 q5 q6 q7 q8
   refine ⟨e', tm', H', r1, r2, r3, r4, r5, ?_, (hK3.trans hK4).trans r7, r8, ?_⟩
   ·simp only [kidsW,isNam]
    rw [hs0, ← hb2]
    exact r6
   ·simp only [kidsW,isNam]
    rw [hs0, ← hb2]
    omega
  simp only [encN] at fin hget
  rw [l49_0, e]
  have plain : st.2 = (st.2 || (decide (ps[i]? = some 110) && !decide (op = nameW))) → (decide ((cp.toNat : Int) = 110) = false ∨ (decide ((cp.toNat : Int) = 110) = true ∧ decide (op = [110, 97, 109, 101]) = true)) → ∃ e tm' H', exec0 L Λ b49_0 tm H (fun e tm H => match e with
    | .normal => Λ c49_0 tm H
    | .exit i => some (.exit i, tm, H)
    | .goto l => some (.goto l, tm, H)
    | .ret => some (.ret, tm, H)) = some (e, tm', H') ∧ (e = .exit 0 ∧ tm'.length = 79 ∧ tm'.getD 0 undefA = .ptr id 0 0 ∧ tm'.getD 5 undefA = .ptr idn 0 0 ∧ WA n H' id (kidsW (nodeW d) ps i (.mk op ni txt (.mk tk ts targs) ns kk :: kids.drop (i + 1)) st) ∧ Keeps n id H H' ∧ H'[idn]? = some (.obj ty0 es0) ∧ (kidsW (nodeW d) ps i (.mk op ni txt (.mk tk ts targs) ns kk :: kids.drop (i + 1)) st).1.length ≤ max (st.1.length + (m + 1)) (C + (m + 1))) := by
   intro hbb hcase
   obtain ⟨H4, c24, rest⟩ := fin st.2 H2 hw2 hK02 hon2 hbb
   rcases hcase with hn | ⟨hn, ho3⟩
   ·simp only [b49_0,B0,B1,B2,List.replicate,Nat.reduceAdd,Nat.reduceSub,Nat.reduceLeDiff,Nat.reduceLT,Nat.reduceEqDiff,reduceCtorEq,Int.reduceEq,Int.reduceLT,Int.reduceLE,lenA,byteDat,intOfA,Int.toNat_natCast,hlen,h0,h2,h3,h5,h39,h40,h41,hc,hix,hget,hwr,hsub,hmin,hsep,p2,p3,c62,hcp,hn,ho2,c24]
    refine rest _ ?_ ?_ ?_ ?_ ?_ ?_ ?_ ?_
    all_goals simp only [B3,Nat.reduceLT,Nat.reduceEqDiff,hlen,h0,h2,h3,h5,h39,h40]
   ·simp only [b49_0,B0,B1,B2,List.replicate,Nat.reduceAdd,Nat.reduceSub,Nat.reduceLeDiff,Nat.reduceLT,Nat.reduceEqDiff,reduceCtorEq,Int.reduceEq,Int.reduceLT,Int.reduceLE,lenA,byteDat,intOfA,Int.toNat_natCast,hlen,h0,h2,h3,h5,h39,h40,h41,hc,hix,hget,hwr,hsub,hmin,hsep,p2,p3,c62,hcp,hn,ho3,ho2,c24]
    refine rest _ ?_ ?_ ?_ ?_ ?_ ?_ ?_ ?_
    all_goals simp only [B3,Nat.reduceLT,Nat.reduceEqDiff,hlen,h0,h2,h3,h5,h39,h40]
  have hcn : decide (ps[i]? = some 110) = decide ((cp.toNat : Int) = 110) := by
   rw [hcp]
   have e110 : (110 : UInt8).toNat = 110 := rfl
   by_cases h : cp = 110
   ·rw [decide_eq_true (by rw [h]), decide_eq_true (by rw [h]; rfl)]
   ·rw [decide_eq_false (by simpa using h), decide_eq_false (fun h2 => h (UInt8.toNat_inj.1 (by omega)))]
  rcases Bool.eq_false_or_eq_true (decide ((cp.toNat : Int) = 110)) with hn | hn
  ·rcases Bool.eq_false_or_eq_true (decide (op = [110, 97, 109, 101])) with ho3 | ho3
   ·exact plain (by rw [show decide (op = nameW) = true from ho3]; simp) (.inr ⟨hn, ho3⟩)
   ·obtain ⟨H4, c24, rest⟩ := fin true _ (hset true) (hK02.set _) (by rw [List.getElem?_set_ne (fun e => hne e.symm)]; exact hon2) (by rw [show decide (op = nameW) = false from ho3, hcn, hn]; simp)
    have ho4 : ∀ x, (H2.set id x)[H.length]? = some (nOf op txt ni tk ts ns targs kk) := fun x => by rw [List.getElem?_set_ne (by omega)]; exact ho2
    simp only [nOf] at ho4
    simp only [b49_0,B0,B1,B2,List.replicate,Nat.reduceAdd,Nat.reduceSub,Nat.reduceLeDiff,Nat.reduceLT,Nat.reduceEqDiff,reduceCtorEq,Int.reduceEq,Int.reduceLT,Int.reduceLE,lenA,byteDat,intOfA,Int.toNat_natCast,hlen,h0,h2,h3,h5,h39,h40,h41,hc,hix,hget,hwr,hsub,hmin,hsep,p2,p3,c62,hcp,hn,ho3,ho2,hid2,ho4,c24]
    refine rest _ ?_ ?_ ?_ ?_ ?_ ?_ ?_ ?_
    all_goals simp only [B3,Nat.reduceLT,Nat.reduceEqDiff,hlen,h0,h2,h3,h5,h39,h40]
  ·exact plain (by rw [hcn, hn]; simp) (.inl hn)
end Go.Abs.Seat
end
section
set_option linter.unusedVariables false
set_option linter.unusedSimpArgs false
set_option linter.unusedSectionVars false
namespace Go.Abs.Seat
open Go.Proofs
theorem max1 (l : Nat) : maxA (.im (.int .i64 1)) (.im (.int .i64 (l : Int))) = some (.im (.int .i64 ((max 1 l : Nat) : Int))) := by
 simp only [maxA]
 split
 ·have : max 1 l = l := by omega
  rw [this]
 ·have : max 1 l = 1 := by omega
  rw [this]; rfl
theorem min64 (l : Nat) : minA (.im (.int .i64 (l : Int))) (.im (.int .i64 64)) = some (.im (.int .i64 ((min l 64 : Nat) : Int))) := by
 simp only [minA]
 split
 ·have : min l 64 = 64 := by omega
  rw [this]; rfl
 ·have : min l 64 = l := by omega
  rw [this]
def Called (n : Nat) (H : Heap) (id : Nat) (t : NT) (ps : List UInt8) (d : Nat) (r : WSt) : Prop :=
 ∃ H2, WA n H2 id r ∧ Keeps n id H H2 ∧ L 49 [.ptr id 0 0, .im (.agg (encN t)), .im (.str ps), .im (.int .i64 (d : Int))] H = some (leave H false (.tup []) H2)
section
variable {n : Nat} {H : Heap} {id : Nat} {st : WSt} (hw : WA n H id st) (op txt : List UInt8) (i k : Int) (sa s : Nat) (args : List KT) (kids : List NT) (ps : List UInt8) (d : Nat)
 (hol : op.length ≤ 1000000) (hpl : ps.length ≤ 1000) (hst : st.1.length ≤ 100000000)
include hw hol hpl hst
theorem s49_lenA (hp : ps = [43]) (hl : kids.length ≠ (List.replicate (min (max 1 kids.length) 64) (101 : UInt8)).length) : Called n H id (.mk op i txt (.mk k sa args) s kids) ps (d + 1) (st.1, true) := by
 have hidlt := wa_lt hw
 have hw1 := wa_more hw [nOf op txt i k sa s args kids]
 obtain ⟨a0, v, hid, hlv, hset⟩ := wa_get hw1
 have hbx : (H ++ [nOf op txt i k sa s args kids])[H.length]? = some (nOf op txt i k sa s args kids) := by simp
 have hk1 : Keeps n id H (H ++ [nOf op txt i k sa s args kids]) := (Keeps.refl n id H).app _
 have hkl : (encNs kids).length = kids.length := by rw [encNs_map]; simp
 have c43 := fun H => s43 op txt i k sa s args kids H false false false true (.inr (.inr (.inr rfl)))
 simp only [encN] at c43
 have p1 : decide (ps = [43]) = true := decide_eq_true hp
 have m1 := max1 kids.length
 have m2 := min64 (max 1 kids.length)
 have c67 := fun H => s67 (min (max 1 kids.length) 64) (by omega) H
 have hpl2 : (List.replicate (min (max 1 kids.length) 64) (101 : UInt8)).length ≤ 64 := by rw [List.length_replicate]; omega
 generalize max 1 kids.length = mx at *
 generalize min mx 64 = mn at *
 generalize List.replicate mn (101 : UInt8) = pp at *
 have q1 : decide ((kids.length : Int) = ((pp).length : Int)) = false := decide_eq_false (fun e => hl (by omega))
 unfold Called
 simp only [encN]
 rw [leq F49]
 obtain ⟨hlen, ha⟩ := enter_at (f := f49) (args := [.ptr id 0 0, .im (.agg [.str op, .int .i64 i, .str txt, .int .i64 k, .sl sa (encTs args), .sl s (encNs kids)]), .im (.str ps), .im (.int .i64 ((d + 1 : Nat) : Int))]) (Nat.le_of_ble_eq_true rfl)
 have h0 := ha 0 _ rfl
 have h1 := ha 1 _ rfl
 have h2 := ha 2 _ rfl
 have h3 := ha 3 _ rfl
 generalize enterA f49 [.ptr id 0 0, .im (.agg [.str op, .int .i64 i, .str txt, .int .i64 k, .sl sa (encTs args), .sl s (encNs kids)]), .im (.str ps), .im (.int .i64 ((d + 1 : Nat) : Int))] = tm at *
 change tm.length = 79 at hlen
 clear ha
 simp only [nOf] at *
 simp only [f49,e49_0,B0,B1,B2,List.replicate,Nat.reduceAdd,Nat.reduceSub,Nat.reduceLeDiff,Nat.reduceLT,Nat.reduceEqDiff,reduceCtorEq,Int.reduceEq,Int.reduceLT,Int.reduceLE,lenA,endK,resA,tupA,hlen,h0,h1,h2,h3,hid,hbx,hkl,p1,m1,m2,c67,q1]
 exact ⟨_, hset true, hk1.set _, rfl⟩
theorem s49_bareA (hp : ps = [43]) (hl : kids.length = (List.replicate (min (max 1 kids.length) 64) (101 : UInt8)).length) (hb : bareN (.mk op i txt (.mk k sa args) s kids) false false false true = false) : Called n H id (.mk op i txt (.mk k sa args) s kids) ps (d + 1) (st.1, true) := by
 have hidlt := wa_lt hw
 have hw1 := wa_more hw [nOf op txt i k sa s args kids]
 obtain ⟨a0, v, hid, hlv, hset⟩ := wa_get hw1
 have hbx : (H ++ [nOf op txt i k sa s args kids])[H.length]? = some (nOf op txt i k sa s args kids) := by simp
 have hk1 : Keeps n id H (H ++ [nOf op txt i k sa s args kids]) := (Keeps.refl n id H).app _
 have hkl : (encNs kids).length = kids.length := by rw [encNs_map]; simp
 have c43 := fun H => s43 op txt i k sa s args kids H false false false true (.inr (.inr (.inr rfl)))
 simp only [encN] at c43
 have p1 : decide (ps = [43]) = true := decide_eq_true hp
 have m1 := max1 kids.length
 have m2 := min64 (max 1 kids.length)
 have c67 := fun H => s67 (min (max 1 kids.length) 64) (by omega) H
 have hpl2 : (List.replicate (min (max 1 kids.length) 64) (101 : UInt8)).length ≤ 64 := by rw [List.length_replicate]; omega
 generalize max 1 kids.length = mx at *
 generalize min mx 64 = mn at *
 generalize List.replicate mn (101 : UInt8) = pp at *
 have q1 : decide ((kids.length : Int) = ((pp).length : Int)) = true := decide_eq_true (by omega)
 rw [hb] at c43
 unfold Called
 simp only [encN]
 rw [leq F49]
 obtain ⟨hlen, ha⟩ := enter_at (f := f49) (args := [.ptr id 0 0, .im (.agg [.str op, .int .i64 i, .str txt, .int .i64 k, .sl sa (encTs args), .sl s (encNs kids)]), .im (.str ps), .im (.int .i64 ((d + 1 : Nat) : Int))]) (Nat.le_of_ble_eq_true rfl)
 have h0 := ha 0 _ rfl
 have h1 := ha 1 _ rfl
 have h2 := ha 2 _ rfl
 have h3 := ha 3 _ rfl
 generalize enterA f49 [.ptr id 0 0, .im (.agg [.str op, .int .i64 i, .str txt, .int .i64 k, .sl sa (encTs args), .sl s (encNs kids)]), .im (.str ps), .im (.int .i64 ((d + 1 : Nat) : Int))] = tm at *
 change tm.length = 79 at hlen
 clear ha
 simp only [nOf] at *
 simp only [f49,e49_0,B0,B1,B2,List.replicate,Nat.reduceAdd,Nat.reduceSub,Nat.reduceLeDiff,Nat.reduceLT,Nat.reduceEqDiff,reduceCtorEq,Int.reduceEq,Int.reduceLT,Int.reduceLE,lenA,endK,resA,tupA,hlen,h0,h1,h2,h3,hid,hbx,hkl,p1,m1,m2,c67,q1,c43]
 exact ⟨_, hset true, hk1.set _, rfl⟩
theorem s49_goA (hp : ps = [43]) (hl : kids.length = (List.replicate (min (max 1 kids.length) 64) (101 : UInt8)).length) (hb : bareN (.mk op i txt (.mk k sa args) s kids) false false false true = true) (hd : d ≤ 1000) (hs : kids = [] ∨ s = 6)
  (C : Nat) (hC : ∀ k ∈ kids, ∀ st : WSt, (nodeW d k st).1.length ≤ max st.1.length C) (hnod : ∀ k ∈ kids, Nod n id d k) (hcl : C ≤ 100000000) : Called n H id (.mk op i txt (.mk k sa args) s kids) ps (d + 1) (if 0 < kids.length then ((kidsW (nodeW d) (List.replicate (min (max 1 kids.length) 64) (101 : UInt8)) 0 kids (st.1 ++ op, st.2)).1 ++ [41], (kidsW (nodeW d) (List.replicate (min (max 1 kids.length) 64) (101 : UInt8)) 0 kids (st.1 ++ op, st.2)).2) else kidsW (nodeW d) (List.replicate (min (max 1 kids.length) 64) (101 : UInt8)) 0 kids (st.1 ++ op, st.2)) := by
 have hidlt := wa_lt hw
 have hw1 := wa_more hw [nOf op txt i k sa s args kids]
 obtain ⟨a0, v, hid, hlv, hset⟩ := wa_get hw1
 have hbx : (H ++ [nOf op txt i k sa s args kids])[H.length]? = some (nOf op txt i k sa s args kids) := by simp
 have hk1 : Keeps n id H (H ++ [nOf op txt i k sa s args kids]) := (Keeps.refl n id H).app _
 have hkl : (encNs kids).length = kids.length := by rw [encNs_map]; simp
 have c43 := fun H => s43 op txt i k sa s args kids H false false false true (.inr (.inr (.inr rfl)))
 simp only [encN] at c43
 have p1 : decide (ps = [43]) = true := decide_eq_true hp
 have m1 := max1 kids.length
 have m2 := min64 (max 1 kids.length)
 have c67 := fun H => s67 (min (max 1 kids.length) 64) (by omega) H
 have hpl2 : (List.replicate (min (max 1 kids.length) 64) (101 : UInt8)).length ≤ 64 := by rw [List.length_replicate]; omega
 generalize max 1 kids.length = mx at *
 generalize min mx 64 = mn at *
 generalize List.replicate mn (101 : UInt8) = pp at *
 have q1 : decide ((kids.length : Int) = ((pp).length : Int)) = true := decide_eq_true (by omega)
 rw [hb] at c43
 obtain ⟨H2, c44, hH2, hK2⟩ := s44 okw hw1 op (by omega)
 have hw2 : WA n H2 id (st.1 ++ op, st.2) := hH2
 have hbx2 : H2[H.length]? = some (nOf op txt i k sa s args kids) := hK2.2.1 _ _ _ (by omega) hbx
 have hkn : kids.length ≤ 1000 := by omega
 have key := fun tm1 => l49 n id H.length d hd (by omega) pp s kids hs (by omega) (nOf op txt i k sa s args kids) ⟨_, _, rfl⟩ C hC hnod (by omega) kids.length 0 tm1 H2 (st.1 ++ op, st.2) (by omega) (by simp only [List.length_append]; omega) hw2 hbx2
 have z0 : ((0 : Nat) : Int) = 0 := rfl
 simp only [List.drop_zero,z0,List.length_append] at key
 unfold Called
 simp only [encN]
 rw [leq F49]
 obtain ⟨hlen, ha⟩ := enter_at (f := f49) (args := [.ptr id 0 0, .im (.agg [.str op, .int .i64 i, .str txt, .int .i64 k, .sl sa (encTs args), .sl s (encNs kids)]), .im (.str ps), .im (.int .i64 ((d + 1 : Nat) : Int))]) (Nat.le_of_ble_eq_true rfl)
 have h0 := ha 0 _ rfl
 have h1 := ha 1 _ rfl
 have h2 := ha 2 _ rfl
 have h3 := ha 3 _ rfl
 generalize enterA f49 [.ptr id 0 0, .im (.agg [.str op, .int .i64 i, .str txt, .int .i64 k, .sl sa (encTs args), .sl s (encNs kids)]), .im (.str ps), .im (.int .i64 ((d + 1 : Nat) : Int))] = tm at *
 change tm.length = 79 at hlen
 clear ha
 simp only [nOf] at *
 simp only [f49,e49_0,B0,B1,B2,List.replicate,Nat.reduceAdd,Nat.reduceSub,Nat.reduceLeDiff,Nat.reduceLT,Nat.reduceEqDiff,reduceCtorEq,Int.reduceEq,Int.reduceLT,Int.reduceLE,lenA,endK,resA,tupA,hlen,h0,h1,h2,h3,hid,hbx,hkl,p1,m1,m2,c67,q1,c43,c44,hbx2]
 refine thenL_ex (fun r => ∃ H2, WA n H2 id (if 0 < kids.length then ((kidsW (nodeW d) (pp) 0 kids (st.1 ++ op, st.2)).1 ++ [41], (kidsW (nodeW d) (pp) 0 kids (st.1 ++ op, st.2)).2) else kidsW (nodeW d) (pp) 0 kids (st.1 ++ op, st.2)) ∧ Keeps n id H H2 ∧ r = some (leave H false (.tup []) H2)) (key _ ?_ ?_ ?_ ?_ ?_ ?_ ?_ ?_) ?_
 iterate 8 simp only [B3,Nat.reduceLT,Nat.reduceEqDiff,hlen,h0,h1,h2,h3,z0]
 rintro e tm1 H3 ⟨rfl, g1, g2, g3, g4, g5, g6, g7⟩
 have hK3 : Keeps n id H H3 := hK2.down.trans g5
 by_cases hz : 0 < kids.length
 ·have q2 : decide ((0 : Int) < (kids.length : Int)) = true := decide_eq_true (by omega)
  obtain ⟨H4, c62, hH4, hK4⟩ := s62 okw g4 41 (by omega)
  simp only [byteDat,show (((41 : UInt8).toNat : Nat) : Int) = 41 from rfl] at c62
  simp only [B0,B1,B2,List.replicate,Nat.reduceAdd,Nat.reduceSub,Nat.reduceLeDiff,Nat.reduceLT,Nat.reduceEqDiff,reduceCtorEq,Int.reduceEq,Int.reduceLT,Int.reduceLE,lenA,endK,f49,resA,tupA,g1,g2,g3,g6,hkl,q2,c62]
  rw [if_pos hz]
  exact ⟨H4, hH4, hK3.trans hK4, rfl⟩
 ·have q2 : decide ((0 : Int) < (kids.length : Int)) = false := decide_eq_false (by omega)
  simp only [B0,B1,B2,List.replicate,Nat.reduceAdd,Nat.reduceSub,Nat.reduceLeDiff,Nat.reduceLT,Nat.reduceEqDiff,reduceCtorEq,Int.reduceEq,Int.reduceLT,Int.reduceLE,lenA,endK,f49,resA,tupA,g1,g2,g3,g6,hkl,q2]
  rw [if_neg hz]
  exact ⟨H3, g4, hK3, rfl⟩
theorem s49_lenB (hp : ps ≠ [43]) (hl : kids.length ≠ (ps).length) : Called n H id (.mk op i txt (.mk k sa args) s kids) ps (d + 1) (st.1, true) := by
 have hidlt := wa_lt hw
 have hw1 := wa_more hw [nOf op txt i k sa s args kids]
 obtain ⟨a0, v, hid, hlv, hset⟩ := wa_get hw1
 have hbx : (H ++ [nOf op txt i k sa s args kids])[H.length]? = some (nOf op txt i k sa s args kids) := by simp
 have hk1 : Keeps n id H (H ++ [nOf op txt i k sa s args kids]) := (Keeps.refl n id H).app _
 have hkl : (encNs kids).length = kids.length := by rw [encNs_map]; simp
 have c43 := fun H => s43 op txt i k sa s args kids H false false false true (.inr (.inr (.inr rfl)))
 simp only [encN] at c43
 have p1 : decide (ps = [43]) = false := decide_eq_false hp
 have q1 : decide ((kids.length : Int) = ((ps).length : Int)) = false := decide_eq_false (fun e => hl (by omega))
 unfold Called
 simp only [encN]
 rw [leq F49]
 obtain ⟨hlen, ha⟩ := enter_at (f := f49) (args := [.ptr id 0 0, .im (.agg [.str op, .int .i64 i, .str txt, .int .i64 k, .sl sa (encTs args), .sl s (encNs kids)]), .im (.str ps), .im (.int .i64 ((d + 1 : Nat) : Int))]) (Nat.le_of_ble_eq_true rfl)
 have h0 := ha 0 _ rfl
 have h1 := ha 1 _ rfl
 have h2 := ha 2 _ rfl
 have h3 := ha 3 _ rfl
 generalize enterA f49 [.ptr id 0 0, .im (.agg [.str op, .int .i64 i, .str txt, .int .i64 k, .sl sa (encTs args), .sl s (encNs kids)]), .im (.str ps), .im (.int .i64 ((d + 1 : Nat) : Int))] = tm at *
 change tm.length = 79 at hlen
 clear ha
 simp only [nOf] at *
 simp only [f49,e49_0,B0,B1,B2,List.replicate,Nat.reduceAdd,Nat.reduceSub,Nat.reduceLeDiff,Nat.reduceLT,Nat.reduceEqDiff,reduceCtorEq,Int.reduceEq,Int.reduceLT,Int.reduceLE,lenA,endK,resA,tupA,hlen,h0,h1,h2,h3,hid,hbx,hkl,p1,q1]
 exact ⟨_, hset true, hk1.set _, rfl⟩
theorem s49_bareB (hp : ps ≠ [43]) (hl : kids.length = (ps).length) (hb : bareN (.mk op i txt (.mk k sa args) s kids) false false false true = false) : Called n H id (.mk op i txt (.mk k sa args) s kids) ps (d + 1) (st.1, true) := by
 have hidlt := wa_lt hw
 have hw1 := wa_more hw [nOf op txt i k sa s args kids]
 obtain ⟨a0, v, hid, hlv, hset⟩ := wa_get hw1
 have hbx : (H ++ [nOf op txt i k sa s args kids])[H.length]? = some (nOf op txt i k sa s args kids) := by simp
 have hk1 : Keeps n id H (H ++ [nOf op txt i k sa s args kids]) := (Keeps.refl n id H).app _
 have hkl : (encNs kids).length = kids.length := by rw [encNs_map]; simp
 have c43 := fun H => s43 op txt i k sa s args kids H false false false true (.inr (.inr (.inr rfl)))
 simp only [encN] at c43
 have p1 : decide (ps = [43]) = false := decide_eq_false hp
 have q1 : decide ((kids.length : Int) = ((ps).length : Int)) = true := decide_eq_true (by omega)
 rw [hb] at c43
 unfold Called
 simp only [encN]
 rw [leq F49]
 obtain ⟨hlen, ha⟩ := enter_at (f := f49) (args := [.ptr id 0 0, .im (.agg [.str op, .int .i64 i, .str txt, .int .i64 k, .sl sa (encTs args), .sl s (encNs kids)]), .im (.str ps), .im (.int .i64 ((d + 1 : Nat) : Int))]) (Nat.le_of_ble_eq_true rfl)
 have h0 := ha 0 _ rfl
 have h1 := ha 1 _ rfl
 have h2 := ha 2 _ rfl
 have h3 := ha 3 _ rfl
 generalize enterA f49 [.ptr id 0 0, .im (.agg [.str op, .int .i64 i, .str txt, .int .i64 k, .sl sa (encTs args), .sl s (encNs kids)]), .im (.str ps), .im (.int .i64 ((d + 1 : Nat) : Int))] = tm at *
 change tm.length = 79 at hlen
 clear ha
 simp only [nOf] at *
 simp only [f49,e49_0,B0,B1,B2,List.replicate,Nat.reduceAdd,Nat.reduceSub,Nat.reduceLeDiff,Nat.reduceLT,Nat.reduceEqDiff,reduceCtorEq,Int.reduceEq,Int.reduceLT,Int.reduceLE,lenA,endK,resA,tupA,hlen,h0,h1,h2,h3,hid,hbx,hkl,p1,q1,c43]
 exact ⟨_, hset true, hk1.set _, rfl⟩
theorem s49_goB (hp : ps ≠ [43]) (hl : kids.length = (ps).length) (hb : bareN (.mk op i txt (.mk k sa args) s kids) false false false true = true) (hd : d ≤ 1000) (hs : kids = [] ∨ s = 6)
  (C : Nat) (hC : ∀ k ∈ kids, ∀ st : WSt, (nodeW d k st).1.length ≤ max st.1.length C) (hnod : ∀ k ∈ kids, Nod n id d k) (hcl : C ≤ 100000000) : Called n H id (.mk op i txt (.mk k sa args) s kids) ps (d + 1) (if 0 < kids.length then ((kidsW (nodeW d) (ps) 0 kids (st.1 ++ op, st.2)).1 ++ [41], (kidsW (nodeW d) (ps) 0 kids (st.1 ++ op, st.2)).2) else kidsW (nodeW d) (ps) 0 kids (st.1 ++ op, st.2)) := by
 have hidlt := wa_lt hw
 have hw1 := wa_more hw [nOf op txt i k sa s args kids]
 obtain ⟨a0, v, hid, hlv, hset⟩ := wa_get hw1
 have hbx : (H ++ [nOf op txt i k sa s args kids])[H.length]? = some (nOf op txt i k sa s args kids) := by simp
 have hk1 : Keeps n id H (H ++ [nOf op txt i k sa s args kids]) := (Keeps.refl n id H).app _
 have hkl : (encNs kids).length = kids.length := by rw [encNs_map]; simp
 have c43 := fun H => s43 op txt i k sa s args kids H false false false true (.inr (.inr (.inr rfl)))
 simp only [encN] at c43
 have p1 : decide (ps = [43]) = false := decide_eq_false hp
 have q1 : decide ((kids.length : Int) = ((ps).length : Int)) = true := decide_eq_true (by omega)
 rw [hb] at c43
 obtain ⟨H2, c44, hH2, hK2⟩ := s44 okw hw1 op (by omega)
 have hw2 : WA n H2 id (st.1 ++ op, st.2) := hH2
 have hbx2 : H2[H.length]? = some (nOf op txt i k sa s args kids) := hK2.2.1 _ _ _ (by omega) hbx
 have hkn : kids.length ≤ 1000 := by omega
 have key := fun tm1 => l49 n id H.length d hd (by omega) ps s kids hs (by omega) (nOf op txt i k sa s args kids) ⟨_, _, rfl⟩ C hC hnod (by omega) kids.length 0 tm1 H2 (st.1 ++ op, st.2) (by omega) (by simp only [List.length_append]; omega) hw2 hbx2
 have z0 : ((0 : Nat) : Int) = 0 := rfl
 simp only [List.drop_zero,z0,List.length_append] at key
 unfold Called
 simp only [encN]
 rw [leq F49]
 obtain ⟨hlen, ha⟩ := enter_at (f := f49) (args := [.ptr id 0 0, .im (.agg [.str op, .int .i64 i, .str txt, .int .i64 k, .sl sa (encTs args), .sl s (encNs kids)]), .im (.str ps), .im (.int .i64 ((d + 1 : Nat) : Int))]) (Nat.le_of_ble_eq_true rfl)
 have h0 := ha 0 _ rfl
 have h1 := ha 1 _ rfl
 have h2 := ha 2 _ rfl
 have h3 := ha 3 _ rfl
 generalize enterA f49 [.ptr id 0 0, .im (.agg [.str op, .int .i64 i, .str txt, .int .i64 k, .sl sa (encTs args), .sl s (encNs kids)]), .im (.str ps), .im (.int .i64 ((d + 1 : Nat) : Int))] = tm at *
 change tm.length = 79 at hlen
 clear ha
 simp only [nOf] at *
 simp only [f49,e49_0,B0,B1,B2,List.replicate,Nat.reduceAdd,Nat.reduceSub,Nat.reduceLeDiff,Nat.reduceLT,Nat.reduceEqDiff,reduceCtorEq,Int.reduceEq,Int.reduceLT,Int.reduceLE,lenA,endK,resA,tupA,hlen,h0,h1,h2,h3,hid,hbx,hkl,p1,q1,c43,c44,hbx2]
 refine thenL_ex (fun r => ∃ H2, WA n H2 id (if 0 < kids.length then ((kidsW (nodeW d) (ps) 0 kids (st.1 ++ op, st.2)).1 ++ [41], (kidsW (nodeW d) (ps) 0 kids (st.1 ++ op, st.2)).2) else kidsW (nodeW d) (ps) 0 kids (st.1 ++ op, st.2)) ∧ Keeps n id H H2 ∧ r = some (leave H false (.tup []) H2)) (key _ ?_ ?_ ?_ ?_ ?_ ?_ ?_ ?_) ?_
 iterate 8 simp only [B3,Nat.reduceLT,Nat.reduceEqDiff,hlen,h0,h1,h2,h3,z0]
 rintro e tm1 H3 ⟨rfl, g1, g2, g3, g4, g5, g6, g7⟩
 have hK3 : Keeps n id H H3 := hK2.down.trans g5
 by_cases hz : 0 < kids.length
 ·have q2 : decide ((0 : Int) < (kids.length : Int)) = true := decide_eq_true (by omega)
  obtain ⟨H4, c62, hH4, hK4⟩ := s62 okw g4 41 (by omega)
  simp only [byteDat,show (((41 : UInt8).toNat : Nat) : Int) = 41 from rfl] at c62
  simp only [B0,B1,B2,List.replicate,Nat.reduceAdd,Nat.reduceSub,Nat.reduceLeDiff,Nat.reduceLT,Nat.reduceEqDiff,reduceCtorEq,Int.reduceEq,Int.reduceLT,Int.reduceLE,lenA,endK,f49,resA,tupA,g1,g2,g3,g6,hkl,q2,c62]
  rw [if_pos hz]
  exact ⟨H4, hH4, hK3.trans hK4, rfl⟩
 ·have q2 : decide ((0 : Int) < (kids.length : Int)) = false := decide_eq_false (by omega)
  simp only [B0,B1,B2,List.replicate,Nat.reduceAdd,Nat.reduceSub,Nat.reduceLeDiff,Nat.reduceLT,Nat.reduceEqDiff,reduceCtorEq,Int.reduceEq,Int.reduceLT,Int.reduceLE,lenA,endK,f49,resA,tupA,g1,g2,g3,g6,hkl,q2]
  rw [if_neg hz]
  exact ⟨H3, g4, hK3, rfl⟩
end
end Go.Abs.Seat
end
section
set_option linter.unusedVariables false
set_option linter.unusedSimpArgs false
set_option linter.unusedSectionVars false
namespace Go.Abs.Seat
open Go.Proofs
mutual
def fineN : NT → Prop
 | .mk op i txt ty s kids => (-9223372036854775808 ≤ i ∧ i ≤ 9223372036854775807) ∧ txt.length ≤ 1000000 ∧ op.length ≤ 1000000 ∧ (kids = [] ∨ s = 6) ∧ okT ty ∧ fineNs kids
def fineNs : List NT → Prop
 | [] => True
 | a :: l => fineN a ∧ fineNs l
end
theorem fineNs_mem : ∀ {l : List NT}, fineNs l → ∀ a ∈ l, fineN a
 | [], _, a, ha => by simp at ha
 | x :: l, h, a, ha => by
  simp only [fineNs] at h
  rcases List.mem_cons.1 ha with rfl | ha
  ·exact h.1
  ·exact fineNs_mem h.2 a ha
theorem shape_le {w p : List UInt8} (h : shapeT w = some p) : p.length ≤ 5 ∧ w ≠ [] := by
 have hm := lookup_mem h
 have key : ∀ q ∈ shapes, q.2.length ≤ 5 ∧ q.1 ≠ [] := by decide
 exact key _ hm
theorem nodeW_stop {d : Nat} {t : NT} {st : WSt} (h : 4096 < st.1.length) : (nodeW d t st).1 = st.1 := by
 cases d with
 | zero => rfl
 | succ d =>
  obtain ⟨op, i, txt, ty, s, kids⟩ := t
  simp only [nodeW]
  rw [if_pos (by rw [decide_eq_true h, Bool.or_true])]
theorem kidsW_len {nd : NT → WSt → WSt} {ps : List UInt8} {X : Nat} (hX : 4097 ≤ X) (hs : ∀ k st, 4096 < st.1.length → (nd k st).1 = st.1) : ∀ (kids : List NT), (∀ k ∈ kids, ∀ st : WSt, (nd k st).1.length ≤ max st.1.length X) → ∀ (i : Nat) (st : WSt),
  (kidsW nd ps i kids st).1.length ≤ max st.1.length X + kids.length
 | [], _, i, st => by simp only [kidsW,List.length_nil]; omega
 | k :: ks, hk, i, st => by
  have h1 := hk k (by simp) (st.1 ++ [sepB i], st.2 || (decide (ps[i]? = some 110) && !isNam k))
  have h2 := hs k (st.1 ++ [sepB i], st.2 || (decide (ps[i]? = some 110) && !isNam k))
  have ih := kidsW_len (ps := ps) hX hs ks (fun k hk' => hk k (by simp [hk'])) (i + 1) (nd k (st.1 ++ [sepB i], st.2 || (decide (ps[i]? = some 110) && !isNam k)))
  simp only [kidsW,List.length_cons]
  simp only [List.length_append,List.length_cons,List.length_nil] at h1 h2
  by_cases hl : 4096 < st.1.length + 1
  ·have := h2 (by omega)
   rw [this] at ih
   simp only [List.length_append,List.length_cons,List.length_nil] at ih
   omega
  ·omega
theorem parts_len (ps : List UInt8) (n : Nat) (h : ps.length ≤ 5) : (partsW ps n).length ≤ 64 := by
 unfold partsW
 split
 ·rw [List.length_replicate]; omega
 ·omega
theorem nodeW_len : ∀ (d : Nat) (t : NT), fineN t → ∀ st : WSt, (nodeW d t st).1.length ≤ max st.1.length (5000000 + 70 * d)
 | 0, t, h, st => by simp only [nodeW]; omega
 | d + 1, .mk op i txt ty s kids, h, st => by
  simp only [fineN] at h
  obtain ⟨hi, ht, ho, hs, hty, hk⟩ := h
  simp only [nodeW]
  split
  ·simp only; omega
  ·rename_i hst
   have hl : st.1.length ≤ 4096 := by
    rcases Nat.lt_or_ge 4096 st.1.length with h | h
    ·exact absurd (by rw [decide_eq_true h, Bool.or_true]) hst
    ·exact h
   split
   ·have := itoaN_len i
    simp only [List.length_append]; omega
   ·split
    ·split
     ·simp only; omega
     ·rename_i h2
      have ht2 : txt.length ≤ 256 := by
       rcases Nat.lt_or_ge 256 txt.length with h | h
       ·exact absurd (by rw [decide_eq_true h, Bool.or_true]) h2
       ·exact h
      have := quoteL_len txt
      simp only [quoteB,List.length_append,List.length_cons,List.length_nil]; omega
    ·split
     ·simp only [List.length_append]; omega
     ·split
      ·simp only; omega
      ·rename_i ps hsh
       have hp5 := (shape_le hsh).1
       split
       ·have := itoaN_len i
        simp only [sideW,List.length_append,List.length_cons,List.length_nil]; omega
       ·split
        ·have := showW_len ty
         simp only [List.length_append,List.length_cons,List.length_nil]; omega
        ·unfold callW
         split
         ·simp only; omega
         ·rename_i hc
          have hkl : kids.length ≤ 64 := by
           have hpl := parts_len ps kids.length hp5
           by_cases he : kids.length = (partsW ps kids.length).length
           ·omega
           ·exact absurd (by rw [decide_eq_false he]; rfl) hc
          have hkn := kidsW_len (nd := nodeW d) (ps := partsW ps kids.length) (X := 5000000 + 70 * d) (by omega) (fun k st h => nodeW_stop h) kids (fun k hk' st => nodeW_len d k (fineNs_mem hk k hk') st) 0 (st.1 ++ op, st.2)
          simp only [List.length_append] at hkn
          split
          ·simp only [List.length_append,List.length_cons,List.length_nil]; omega
          ·omega
section
variable {n : Nat} {H : Heap} {id : Nat} {st : WSt} (hw : WA n H id st) (op txt : List UInt8) (i k : Int) (sa s : Nat) (args : List KT) (kids : List NT) (d : Nat)
include hw
theorem s24_call (hb : st.2 = false) (hl : ¬ 4096 < st.1.length) (hn1 : op ≠ intW) (hn2 : op ≠ textW) (hn3 : op ≠ nameW) (ps : List UInt8) (hsh : shapeT op = some ps) (hq1 : ps ≠ [100]) (hq2 : ps ≠ [116]) (r : WSt)
  (c49 : ∃ H3, L 49 [.ptr id 0 0, .im (.agg (encN (.mk op i txt (.mk k sa args) s kids))), .im (.str ps), .im (.int .i64 ((d + 1 : Nat) : Int))] (H ++ [nOf op txt i k sa s args kids]) = some (.tup [], H3) ∧ WA n H3 id r ∧ Keeps n id (H ++ [nOf op txt i k sa s args kids]) H3) : Wrote n H id (.mk op i txt (.mk k sa args) s kids) (d + 1) r := by
 have hidlt := wa_lt hw
 have hw1 := wa_more hw [nOf op txt i k sa s args kids]
 obtain ⟨a0, v, hid, hlv, hset⟩ := wa_get hw1
 have hbx : (H ++ [nOf op txt i k sa s args kids])[H.length]? = some (nOf op txt i k sa s args kids) := by simp
 have hk1 : Keeps n id H (H ++ [nOf op txt i k sa s args kids]) := (Keeps.refl n id H).app _
 have c33 := fun H => s33 op H
 have hidlt1 : id < (H ++ [nOf op txt i k sa s args kids]).length := by simp only [List.length_append]; omega
 rw [hb] at hid
 have d0 : decide (((d + 1 : Nat) : Int) = 0) = false := decide_eq_false (by omega)
 have d1 : decide ((4096 : Int) < (st.1.length : Int)) = false := decide_eq_false (by omega)
 have c25 := s25 hw1
 have c43 := fun H => s43 op txt i k sa s args kids H
 simp only [encN] at c43
 have hbx2 : ∀ x, ((H ++ [nOf op txt i k sa s args kids]).set id x)[H.length]? = some (nOf op txt i k sa s args kids) := fun x => by rw [List.getElem?_set_ne (by omega)]; exact hbx
 have e1 : decide (op = [105, 110, 116]) = false := decide_eq_false hn1
 have e2 : decide (op = [116, 101, 120, 116, 95, 111, 102]) = false := decide_eq_false hn2
 have e3 : decide (op = [110, 97, 109, 101]) = false := decide_eq_false hn3
 rw [hsh] at c33
 simp only [Option.getD_some,Option.isSome_some] at c33
 obtain ⟨H3, c49, hw3, hk3⟩ := c49
 have f1 : decide (ps = [100]) = false := decide_eq_false hq1
 have f2 : decide (ps = [116]) = false := decide_eq_false hq2
 simp only [encN] at c49
 unfold Wrote
 simp only [encN]
 rw [leq F24]
 obtain ⟨hlen, ha⟩ := enter_at (f := f24) (args := [.ptr id 0 0, .im (.agg [.str op, .int .i64 i, .str txt, .int .i64 k, .sl sa (encTs args), .sl s (encNs kids)]), .im (.int .i64 ((d + 1) : Nat))]) (Nat.le_of_ble_eq_true rfl)
 have h0 := ha 0 _ rfl
 have h1 := ha 1 _ rfl
 have h2 := ha 2 _ rfl
 generalize enterA f24 [.ptr id 0 0, .im (.agg [.str op, .int .i64 i, .str txt, .int .i64 k, .sl sa (encTs args), .sl s (encNs kids)]), .im (.int .i64 ((d + 1) : Nat))] = tm at *
 change tm.length = 167 at hlen
 clear ha
 simp only [nOf] at *
 simp only [f24,B0,B1,B2,List.replicate,Nat.reduceAdd,Nat.reduceSub,Nat.reduceLeDiff,Nat.reduceLT,Nat.reduceEqDiff,reduceCtorEq,Int.reduceEq,Int.reduceLT,Int.reduceLE,endK,resA,tupA,hlen,h0,h1,h2,hid,hbx,c33,d0,d1,c25,e1,e2,e3,f1,f2,c49]
 exact ⟨H3, hw3, hk1.trans hk3, rfl⟩
end
theorem s24 (n id : Nat) : ∀ (d : Nat), d ≤ 1000 → ∀ t : NT, fineN t → Nod n id d t
 | d, hd, .mk op i txt (.mk k sa args) s kids, hf => by
  intro st H hst hw
  suffices hsuf : Wrote n H id (.mk op i txt (.mk k sa args) s kids) d (nodeW d (.mk op i txt (.mk k sa args) s kids) st) by
   obtain ⟨H2, h1, h2, h3⟩ := hsuf
   obtain ⟨H', e1, e2, e3⟩ := wa_leave hw h1 h2
   exact ⟨H', by rw [h3, e1], e2, e3⟩
  have hf' := hf
  simp only [fineN] at hf
  obtain ⟨hi, ht, ho, hs, hty, hk⟩ := hf
  cases hb : st.2 with
  | true =>
   have e : nodeW d (.mk op i txt (.mk k sa args) s kids) st = (st.1, true) := by
    cases d with
    | zero => rfl
    | succ d => simp only [nodeW]; rw [if_pos (by rw [hb, Bool.true_or])]
   rw [e]
   exact s24_bad hw op txt i k sa s args kids d hb
  | false =>
   cases d with
   | zero => exact s24_zero hw op txt i k sa s args kids hb
   | succ d =>
    simp only [nodeW]
    by_cases hl : 4096 < st.1.length
    ·rw [if_pos (by rw [decide_eq_true hl, Bool.or_true])]
     exact s24_long hw op txt i k sa s args kids d hb hl
    rw [if_neg (by rw [hb, decide_eq_false hl]; simp)]
    by_cases h1 : op = intW
    ·rw [if_pos h1]
     exact s24_int hw op txt i k sa s args kids d hb hl h1 hi
    rw [if_neg h1]
    by_cases h2 : op = textW
    ·rw [if_pos h2]
     cases hbare : bareN (.mk op i txt (.mk k sa args) s kids) false true false false with
     | false =>
      rw [if_pos (by simp)]
      exact s24_text1 hw op txt i k sa s args kids d hb hl h2 hbare
     | true =>
      by_cases h3 : 256 < txt.length
      ·rw [if_pos (by rw [decide_eq_true h3, Bool.or_true])]
       exact s24_text2 hw op txt i k sa s args kids d hb hl h2 hbare h3
      ·rw [if_neg (by rw [decide_eq_false h3]; simp)]
       exact s24_text3 hw op txt i k sa s args kids d hb hl h2 hbare h3
    rw [if_neg h2]
    by_cases h3 : op = nameW
    ·rw [if_pos h3]
     cases hbare : bareN (.mk op i txt (.mk k sa args) s kids) false true false false with
     | false => exact s24_name1 hw op txt i k sa s args kids d hb hl h3 hbare ht
     | true => exact s24_name2 hw op txt i k sa s args kids d hb hl h3 hbare ht
    rw [if_neg h3]
    cases hsh : shapeT op with
    | none => exact s24_none hw op txt i k sa s args kids d hb hl h1 h2 h3 hsh
    | some ps =>
     simp only
     by_cases h4 : ps = [100]
     ·rw [if_pos h4]
      rw [h4] at hsh
      cases hbare : bareN (.mk op i txt (.mk k sa args) s kids) true false false false with
      | false => exact s24_d1 hw op txt i k sa s args kids d hb hl h1 h2 h3 hsh hi hbare
      | true =>
       by_cases h5 : i < 0
       ·have := s24_d2 hw op txt i k sa s args kids d hb hl h1 h2 h3 hsh hi hbare h5
        rw [decide_eq_true h5]
        exact this
       ·have := s24_d3 hw op txt i k sa s args kids d hb hl h1 h2 h3 hsh hi hbare h5
        rw [decide_eq_false h5]
        exact this
     rw [if_neg h4]
     by_cases h5 : ps = [116]
     ·rw [if_pos h5]
      rw [h5] at hsh
      cases hbare : bareN (.mk op i txt (.mk k sa args) s kids) false false true false with
      | false => exact s24_t1 hw op txt i k sa s args kids d hb hl h1 h2 h3 hsh hty ho hbare
      | true => exact s24_t2 hw op txt i k sa s args kids d hb hl h1 h2 h3 hsh hty ho hbare
     rw [if_neg h5]
     have hw1 := wa_more hw [nOf op txt i k sa s args kids]
     have hp5 := (shape_le hsh).1
     have hC : ∀ k ∈ kids, ∀ st : WSt, (nodeW d k st).1.length ≤ max st.1.length (5000000 + 70 * d) := fun k hk' st => nodeW_len d k (fineNs_mem hk k hk') st
     have hnod : ∀ k ∈ kids, Nod n id d k := fun k hk' => s24 n id d (by omega) k (fineNs_mem hk k hk')
     refine s24_call hw op txt i k sa s args kids d hb hl h1 h2 h3 ps hsh h4 h5 _ ?_
     have fin : Called n (H ++ [nOf op txt i k sa s args kids]) id (.mk op i txt (.mk k sa args) s kids) ps (d + 1) (callW (nodeW d) op ps (.mk op i txt (.mk k sa args) s kids) kids st) := by
      unfold callW partsW
      by_cases hp : ps = [43]
      ·rw [if_pos hp]
       by_cases hkl : kids.length = (List.replicate (min (max 1 kids.length) 64) (101 : UInt8)).length
       ·cases hbare : bareN (.mk op i txt (.mk k sa args) s kids) false false false true with
        | false =>
         rw [if_pos (by simp)]
         exact s49_bareA hw1 op txt i k sa s args kids ps d ho (by omega) (by omega) hp hkl hbare
        | true =>
         rw [if_neg (by rw [decide_eq_true hkl]; simp)]
         exact s49_goA hw1 op txt i k sa s args kids ps d ho (by omega) (by omega) hp hkl hbare (by omega) hs (5000000 + 70 * d) hC hnod (by omega)
       ·rw [if_pos (by rw [decide_eq_false hkl]; rfl)]
        exact s49_lenA hw1 op txt i k sa s args kids ps d ho (by omega) (by omega) hp hkl
      ·rw [if_neg hp]
       by_cases hkl : kids.length = ps.length
       ·cases hbare : bareN (.mk op i txt (.mk k sa args) s kids) false false false true with
        | false =>
         rw [if_pos (by simp)]
         exact s49_bareB hw1 op txt i k sa s args kids ps d ho (by omega) (by omega) hp hkl hbare
        | true =>
         rw [if_neg (by rw [decide_eq_true hkl]; simp)]
         exact s49_goB hw1 op txt i k sa s args kids ps d ho (by omega) (by omega) hp hkl hbare (by omega) hs (5000000 + 70 * d) hC hnod (by omega)
       ·rw [if_pos (by rw [decide_eq_false hkl]; rfl)]
        exact s49_lenB hw1 op txt i k sa s args kids ps d ho (by omega) (by omega) hp hkl
     obtain ⟨H2, g1, g2, g3⟩ := fin
     obtain ⟨H', e1, e2, e3⟩ := wa_leave hw1 g1 g2
     exact ⟨H', by rw [g3, e1], e2, e3⟩
end Go.Abs.Seat
end
section
set_option linter.unusedVariables false
set_option linter.unusedSimpArgs false
namespace Go.Abs.Seat
open Go.Proofs
theorem kidsW_ge {nd : NT → WSt → WSt} {ps : List UInt8} : ∀ (kids : List NT), (∀ k ∈ kids, ∀ st : WSt, st.1.length ≤ (nd k st).1.length) → ∀ (i : Nat) (st : WSt), st.1.length ≤ (kidsW nd ps i kids st).1.length
 | [], _, i, st => Nat.le_refl _
 | k :: ks, hk, i, st => by
  have h1 := hk k (by simp) (st.1 ++ [sepB i], st.2 || (decide (ps[i]? = some 110) && !isNam k))
  have ih := kidsW_ge (ps := ps) ks (fun k hk' => hk k (by simp [hk'])) (i + 1) (nd k (st.1 ++ [sepB i], st.2 || (decide (ps[i]? = some 110) && !isNam k)))
  simp only [kidsW]
  simp only [List.length_append,List.length_cons,List.length_nil] at h1
  omega
theorem callW_ge {nd : NT → WSt → WSt} {op ps : List UInt8} {t : NT} {kids : List NT} (hk : ∀ k ∈ kids, ∀ st : WSt, st.1.length ≤ (nd k st).1.length) (st : WSt) : st.1.length ≤ (callW nd op ps t kids st).1.length ∧ ((callW nd op ps t kids st).2 = false → st.2 = false → st.1.length + op.length ≤ (callW nd op ps t kids st).1.length) := by
 unfold callW
 have h := kidsW_ge (ps := partsW ps kids.length) kids hk 0 (st.1 ++ op, st.2)
 simp only [List.length_append] at h
 split
 ·exact ⟨Nat.le_refl _, fun h => by simp at h⟩
 ·split
  ·simp only [List.length_append]
   exact ⟨by omega, fun _ _ => by omega⟩
  ·exact ⟨by omega, fun _ _ => by omega⟩
theorem nodeW_ge : ∀ (d : Nat) (t : NT) (st : WSt), st.1.length ≤ (nodeW d t st).1.length
 | 0, t, st => Nat.le_refl _
 | d + 1, .mk op i txt ty s kids, st => by
  have hk : ∀ k ∈ kids, ∀ st : WSt, st.1.length ≤ (nodeW d k st).1.length := fun k _ st => nodeW_ge d k st
  simp only [nodeW]
  split
  ·exact Nat.le_refl _
  ·split
   ·simp
   ·split
    ·split
     ·exact Nat.le_refl _
     ·simp
    ·split
     ·simp
     ·split
      ·exact Nat.le_refl _
      ·split
       ·simp
       ·split
        ·simp
        ·exact (callW_ge hk st).1
theorem digN_ne (f u : Nat) : digN (f + 1) u ≠ [] := by
 unfold digN
 split <;> simp
theorem itoaN_ne (n : Int) : itoaN n ≠ [] := by
 unfold itoaN
 split
 ·simp
 ·exact digN_ne 19 _
theorem nodeW_ne (d : Nat) (t : NT) (h : (nodeW d t ([], false)).2 = false) : (nodeW d t ([], false)).1 ≠ [] := by
 cases d with
 | zero => simp [nodeW] at h
 | succ d =>
  obtain ⟨op, i, txt, ty, s, kids⟩ := t
  have hk : ∀ k ∈ kids, ∀ st : WSt, st.1.length ≤ (nodeW d k st).1.length := fun k _ st => nodeW_ge d k st
  simp only [nodeW] at h ⊢
  rw [if_neg (by simp)] at h ⊢
  by_cases h1 : op = intW
  ·rw [if_pos h1]
   simpa using itoaN_ne i
  rw [if_neg h1] at h ⊢
  by_cases h2 : op = textW
  ·rw [if_pos h2] at h ⊢
   by_cases h3 : (!bareN (.mk op i txt ty s kids) false true false false || decide (256 < txt.length)) = true
   ·rw [if_pos h3] at h; simp at h
   ·rw [if_neg h3]; simp [quoteB]
  rw [if_neg h2] at h ⊢
  by_cases h3 : op = nameW
  ·rw [if_pos h3] at h ⊢
   simp only [Bool.or_eq_false_iff,Bool.not_eq_false'] at h
   intro e
   have e' : txt = [] := by simpa using e
   have := h.2
   rw [e'] at this
   simp [nameOk] at this
  rw [if_neg h3] at h ⊢
  cases hsh : shapeT op with
  | none => rw [hsh] at h; simp at h
  | some ps =>
   rw [hsh] at h
   simp only at h ⊢
   by_cases h4 : ps = [100]
   ·rw [if_pos h4]; simp [sideW]
   rw [if_neg h4] at h ⊢
   by_cases h5 : ps = [116]
   ·rw [if_pos h5]; simp
   rw [if_neg h5] at h ⊢
   have := (callW_ge (op := op) (ps := ps) (t := .mk op i txt ty s kids) hk ([], false)).2 h rfl
   have hne := (shape_le hsh).2
   intro e
   rw [e] at this
   have : 0 < op.length := List.length_pos_iff.2 hne
   simp only [List.length_nil] at *
   omega
def showX (t : NT) : List UInt8 × Int := if ((nodeW 24 t ([], false)).2 || decide (4096 < (nodeW 24 t ([], false)).1.length)) = true then ([], 110) else ((nodeW 24 t ([], false)).1, 0)
theorem leave_keeps {n id : Nat} {H M H2 : Heap} {r : AV} (hd : degrade r = r) (hr : refsLt H.length r = true) (hn : H.length ≤ n) (hid : H.length ≤ id) (hk : Keeps n id (H ++ M) H2) : leave H false r H2 = (r, H) := by
 have hsame : ∀ i, i < H.length → H2[i]? = H[i]? := fun i hi => by
  rw [hk.2.2 i (by omega) (by simp; omega) (by omega), List.getElem?_append_left hi]
 have hheld : heldIn H H2 := fun i hi => .inl (hsame i hi)
 have htake : H2.take H.length = H := by
  apply List.ext_getElem?
  intro i
  rw [List.getElem?_take]
  split
  ·rename_i hi; exact hsame i hi
  ·rw [List.getElem?_eq_none (by omega)]
 unfold leave
 have e : (if (false : Bool) = true then r else degrade r) = r := by simp [hd]
 rw [e, if_pos ⟨hr, hheld⟩, htake]
theorem s14 (t : NT) (hf : fineN t) (H : Heap) : L 14 [.im (.agg (encN t))] H = some (.tup [.im (.str (showX t).1), .im (.int .i64 (showX t).2)], H) := by
 obtain ⟨op, i, txt, ty, s, kids⟩ := t
 obtain ⟨k, sa, args⟩ := ty
 have hw0 : WA (H.length + 2) (H ++ [nOf op txt i k sa s args kids, .obj (some (66, 3)) [[.im .nilp, .nils, .im (.bool false)]]]) (H.length + 1) ([], false) :=
  ⟨.im .nilp, .nils, by rw [Go.Abs.hget]; rfl, .inl rfl, .inl ⟨rfl, rfl⟩, by simp⟩
 obtain ⟨H2, c24, hw2, hK2⟩ := s24 (H.length + 2) (H.length + 1) 24 (by decide) _ hf ([], false) _ (by simp) hw0
 have hlen0 := nodeW_len 24 _ hf ([], false)
 have hne := nodeW_ne 24 (.mk op i txt (.mk k sa args) s kids)
 unfold showX
 generalize nodeW 24 (.mk op i txt (.mk k sa args) s kids) ([], false) = r at *
 obtain ⟨out, bad⟩ := r
 simp only at hne hlen0 ⊢
 obtain ⟨a0, v, hid, _, hset⟩ := wa_get hw2
 have c25 := s25 hw2
 simp only [encN] at c24 ⊢
 have hlv : ∀ (x : List UInt8) (e : Int) (H3 : Heap), Keeps (H.length + 2) (H.length + 1) (H ++ [nOf op txt i k sa s args kids, .obj (some (66, 3)) [[.im .nilp, .nils, .im (.bool false)]]]) H3 →
   leave H false (.tup [.im (.str x), .im (.int .i64 e)]) H3 = (.tup [.im (.str x), .im (.int .i64 e)], H) := fun x e H3 h => leave_keeps (by simp [degrade, degrade1, toDat]) (by simp [refsLt, refsLts]) (by omega) (by omega) h
 simp only [nOf] at *
 have c24' : L 24 [.ptr (H.length + 1) 0 0, .im (.agg [.str op, .int .i64 i, .str txt, .int .i64 k, .sl sa (encTs args), .sl s (encNs kids)]), .im (.int .i64 24)] _ = _ := c24
 rw [leq F14]
 obtain ⟨hlen, ha⟩ := enter_at (f := f14) (args := [.im (.agg [.str op, .int .i64 i, .str txt, .int .i64 k, .sl sa (encTs args), .sl s (encNs kids)])]) (Nat.le_of_ble_eq_true rfl)
 have h0 := ha 0 _ rfl
 generalize enterA f14 [.im (.agg [.str op, .int .i64 i, .str txt, .int .i64 k, .sl sa (encTs args), .sl s (encNs kids)])] = tm at *
 change tm.length = 25 at hlen
 clear ha
 cases bad with
 | true =>
  rw [Bool.true_or, if_pos rfl]
  simp only [f14,B0,B1,B2,List.replicate,Nat.reduceAdd,Nat.reduceSub,Nat.reduceLeDiff,Nat.reduceLT,Nat.reduceEqDiff,reduceCtorEq,Int.reduceEq,Int.reduceLT,Int.reduceLE,lenA,endK,resA,tupA,hlen,h0,c24',hid,hlv _ _ _ hK2]
 | false =>
  simp only [Bool.false_or,decide_eq_true_eq]
  by_cases hl : 4096 < out.length
  ·have e1 : decide ((4096 : Int) < (out.length : Int)) = true := decide_eq_true (by omega)
   rw [if_pos hl]
   simp only [f14,B0,B1,B2,List.replicate,Nat.reduceAdd,Nat.reduceSub,Nat.reduceLeDiff,Nat.reduceLT,Nat.reduceEqDiff,reduceCtorEq,Int.reduceEq,Int.reduceLT,Int.reduceLE,lenA,endK,resA,tupA,hlen,h0,c24',hid,c25,e1,hlv _ _ _ hK2]
  ·have e1 : decide ((4096 : Int) < (out.length : Int)) = false := decide_eq_false (by omega)
   rw [if_neg hl]
   have hne := hne rfl
   obtain ⟨b0, u, hid', _, hG, _⟩ := hw2
   rcases hG with ⟨hes, _⟩ | ⟨_, tok, htok, rfl, hhw⟩
   ·exact absurd (by simpa using hes) hne
   ·have c26 : L 26 [.ptr (H.length + 1) 0 0] H2 = some (.im (.str out), H2.set tok (.hw 5 (out.length + 1))) := by
     rw [L26]
     simp only [stE,hid',hhw,bytesE_of]
     rw [if_pos ⟨by decide, trivial, by simp, trivial, List.length_pos_iff.2 hne, by omega⟩]
     simp
    have hK3 := hK2.2
    have hK4 : Keeps (H.length + 2) (H.length + 1) (H ++ [.obj none [[.im (.str op), .im (.int .i64 i), .im (.str txt), .im (.int .i64 k), .im (.sl sa (encTs args)), .im (.sl s (encNs kids))]], .obj (some (66, 3)) [[.im .nilp, .nils, .im (.bool false)]]]) (H2.set tok (.hw 5 (out.length + 1))) :=
     ⟨by simpa using hK2.1, fun j ty es hj hA => by
      have := hK2.2.1 j ty es hj hA
      have hne2 : tok ≠ j := fun e => by subst e; rw [hhw] at this; simp at this
      rw [List.getElem?_set_ne hne2]; exact this, fun j hj hl2 hji => by
      rw [List.getElem?_set_ne (by omega)]; exact hK2.2.2 j hj hl2 hji⟩
    simp only [f14,B0,B1,B2,List.replicate,Nat.reduceAdd,Nat.reduceSub,Nat.reduceLeDiff,Nat.reduceLT,Nat.reduceEqDiff,reduceCtorEq,Int.reduceEq,Int.reduceLT,Int.reduceLE,lenA,endK,resA,tupA,hlen,h0,c24',hid,c25,e1,c26,hlv _ _ _ hK4]
end Go.Abs.Seat
end
section
set_option linter.unusedVariables false
set_option linter.unusedSimpArgs false
namespace Go.Abs.Seat
open Go.Proofs
def inQ : Bool → List UInt8 → Bool
 | q, [] => q
 | q, c :: l => inQ (if c = 34 then !q else q) l
def stripQ : Bool → List UInt8 → List UInt8
 | q, [] => []
 | q, c :: l => (if c = 32 ∧ q = false then [] else [c]) ++ stripQ (if c = 34 then !q else q) l
theorem inQ_app : ∀ (a b : List UInt8) (q : Bool), inQ q (a ++ b) = inQ (inQ q a) b
 | [], b, q => rfl
 | c :: l, b, q => by simp only [List.cons_append,inQ,inQ_app l b]
theorem strip_app : ∀ (a b : List UInt8) (q : Bool), stripQ q (a ++ b) = stripQ q a ++ stripQ (inQ q a) b
 | [], b, q => rfl
 | c :: l, b, q => by simp only [List.cons_append,stripQ,inQ,strip_app l b,List.append_assoc]
theorem strip_len : ∀ (a : List UInt8) (q : Bool), (stripQ q a).length ≤ a.length
 | [], q => Nat.le_refl _
 | c :: l, q => by
  have := strip_len l (if c = 34 then !q else q)
  simp only [stripQ,List.length_append,List.length_cons]
  split <;> simp only [List.length_nil,List.length_cons] <;> omega
theorem strip_idem : ∀ (a : List UInt8) (q : Bool), stripQ q (stripQ q a) = stripQ q a
 | [], q => rfl
 | c :: l, q => by
  simp only [stripQ]
  split
  ·rename_i h
   rw [if_neg (by rw [h.1]; decide)]
   exact strip_idem l q
  ·rename_i h
   simp only [List.cons_append,List.nil_append,stripQ]
   rw [if_neg h, strip_idem l]
   rfl
theorem strip_two {p : List UInt8} (h : stripQ false p = p) (a : Nat) : stripQ false ((p.take a ++ [32, 32]) ++ p.drop a) = p ∨ (stripQ false ((p.take a ++ [32, 32]) ++ p.drop a)).length = p.length + 2 := by
 have hp : stripQ false (p.take a) ++ stripQ (inQ false (p.take a)) (p.drop a) = p := by rw [← strip_app, List.take_append_drop, h]
 rw [strip_app, strip_app, inQ_app]
 have e : inQ (inQ false (p.take a)) [32, 32] = inQ false (p.take a) := rfl
 rw [e]
 rcases Bool.eq_false_or_eq_true (inQ false (p.take a)) with hq | hq
 ·right
  rw [hq] at hp ⊢
  have e2 : stripQ true [32, 32] = [32, 32] := rfl
  have := congrArg List.length hp
  simp only [List.length_append] at this
  rw [e2]
  simp only [List.length_append,List.length_cons,List.length_nil]
  omega
 ·left
  rw [hq] at hp ⊢
  have e2 : stripQ false [32, 32] = [] := rfl
  rw [e2, List.append_nil, hp]
structure Back (s : List UInt8) : Prop where
 fine : fineN (readX s).1
 shown : showX (readX s).1 = (stripQ false s, 0)
 again : readX (stripQ false s) = ((readX s).1, 0, false)
end Go.Abs.Seat
end
section
set_option linter.unusedVariables false
set_option linter.unusedSimpArgs false
namespace Go.Abs.Seat
open Go.Proofs
set_option maxRecDepth 100000 in
theorem awakeE : runC bld T 400 10 [] [] = some (.im (.bool true), []) := by kernel_rfl
theorem s10 (H : Heap) : L 10 [] H = some (.im (.bool true), H) := lim_at bsh Tok Tno awakeE H
end Go.Abs.Seat
end
section
set_option linter.unusedVariables false
set_option linter.unusedSimpArgs false
namespace Go.Abs.Seat
open Go.Proofs
theorem okNs_of : ∀ {l : List NT}, (∀ a ∈ l, okN a) → okNs l
 | [], _ => trivial
 | a :: l, h => ⟨h a (List.mem_cons_self ..), okNs_of fun b hb => h b (List.mem_cons_of_mem _ hb)⟩
theorem okN_mk (op : List UInt8) (i : Int) (txt : List UInt8) {ty : KT} {kids : List NT} (ht : goodT ty) (hl : kids.length ≤ 1000) (h : ∀ a ∈ kids, okN a) : okN (mkN op i txt ty kids) := by
 unfold mkN
 simp only [okN]
 refine ⟨?_, hl, ht, okNs_of h⟩
 by_cases h0 : kids.length = 0
 ·exact .inl (List.length_eq_zero_iff.1 h0)
 ·right; rw [if_neg h0]
theorem okN_flat (op : List UInt8) (i : Int) (txt : List UInt8) : okN (mkN op i txt zeroT []) := okN_mk op i txt good_zero (by simp) (by simp)
theorem okN_zero : okN zeroN := okN_flat _ _ _
theorem parseP_good (s : List UInt8) : goodT (parseP s).1 := by
 unfold parseP
 split
 ·exact readP_good s 6 0
 ·exact good_zero
theorem typ_good (b : List UInt8) (p : Nat) : goodT (typP b p).1 := by
 unfold typP
 split <;> exact parseP_good _
theorem strP_ok (b : List UInt8) (p : Nat) : okN (strP b p).1 := by
 unfold strP
 split
 ·exact okN_zero
 ·exact okN_flat _ _ _
theorem numP_ok (b : List UInt8) (p : Nat) : okN (numP b p).1 := by
 unfold numP
 simp only
 generalize (if decide (peekB b p = 45) = true then p + 1 else p) = p1
 split
 ·exact okN_zero
 ·split
  ·exact okN_zero
  ·exact okN_flat _ _ _
theorem nameP_ok (b : List UInt8) (p : Nat) : okN (nameP b p).1 := by
 unfold nameP
 split
 ·exact okN_zero
 ·split
  ·exact okN_flat _ _ _
  ·exact okN_zero
def okSt (st : St) : Prop := goodT st.2.1 ∧ ∀ a ∈ st.2.2, okN a
theorem item_ok {rd : Nat → NT × Nat × Bool} {b : List UInt8} (hrd : ∀ p, okN (rd p).1) (c : UInt8) {st : St} (p : Nat) (h : okSt st) : okSt (itemX rd b c st p).1 := by
 have happ : ∀ x, okN x → ∀ a ∈ st.2.2 ++ [x], okN a := fun x hx a ha => by
  rcases List.mem_append.1 ha with h1 | h1
  ·exact h.2 a h1
  ·rw [List.mem_singleton.1 h1]; exact hx
 unfold itemX
 split
 ·split <;> exact h
 ·split
  ·exact ⟨typ_good _ _, h.2⟩
  ·split
   ·exact ⟨h.1, happ _ (nameP_ok b p)⟩
   ·exact ⟨h.1, happ _ (hrd p)⟩
theorem go_ok {rd : Nat → NT × Nat × Bool} {b : List UInt8} (hrd : ∀ p, okN (rd p).1) (lst : Bool) : ∀ (f : Nat) (mark : UInt8) (cs : List UInt8) (st : St) (p : Nat), okSt st → okSt (goX rd b lst f mark cs st p).1 ∧ (goX rd b lst f mark cs st p).1.2.2.length ≤ st.2.2.length + f
 | 0, mark, [], st, p, h => by unfold goX; exact ⟨h, by simp⟩
 | f + 1, mark, [], st, p, h => by unfold goX; exact ⟨h, by simp only; omega⟩
 | 0, mark, c :: cs, st, p, h => by unfold goX; exact ⟨h, by simp⟩
 | f + 1, mark, c :: cs, st, p, h => by
  have h2 := item_ok hrd c (signP b p false mark).1 h (b := b)
  have h3 := item_kids rd b c st (signP b p false mark).1
  unfold goX
  split
  ·exact ⟨h, by simp only; omega⟩
  ·split
   ·exact ⟨h2, by omega⟩
   ·split
    ·have := go_ok (b := b) hrd lst f 44 (c :: cs) (itemX rd b c st (signP b p false mark).1).1 (itemX rd b c st (signP b p false mark).1).2.1 h2
     exact ⟨this.1, by omega⟩
    ·have := go_ok (b := b) hrd lst f 44 cs (itemX rd b c st (signP b p false mark).1).1 (itemX rd b c st (signP b p false mark).1).2.1 h2
     exact ⟨this.1, by omega⟩
theorem call_ok {rd : Nat → NT × Nat × Bool} {b : List UInt8} (hrd : ∀ p, okN (rd p).1) (w ps : List UInt8) (p : Nat) : okN (callX rd b w ps p).1 := by
 obtain ⟨h1, h2⟩ := go_ok (b := b) hrd (decide (ps = [43])) 70 40 ps (0, zeroT, []) p ⟨good_zero, by simp⟩
 unfold callX
 split
 ·exact okN_zero
 ·exact okN_mk _ _ _ h1.1 (by simp at h2; omega) h1.2
theorem expr_ok (b : List UInt8) : ∀ (d p : Nat), okN (exprX b d p).1
 | 0, p => okN_zero
 | d + 1, p => by
  unfold exprX
  split
  ·exact strP_ok _ _
  ·split
   ·exact numP_ok _ _
   ·split
    ·exact okN_zero
    ·split
     ·exact okN_zero
     ·split
      ·exact okN_flat _ _ _
      ·split
       ·exact okN_flat _ _ _
       ·split
        ·exact okN_zero
        ·exact call_ok (fun p => expr_ok b d p) _ _ _
theorem readX_ok (s : List UInt8) : okN (readX s).1 := by
 unfold readX
 split
 ·exact okN_zero
 ·split
  ·exact okN_zero
  ·exact expr_ok s 24 0
mutual
theorem clone_narrow : ∀ (t : KT), narrow t → narrow (cloneT t)
 | .mk k s args, h => by
  have hl : (cloneTs args).length = args.length := by rw [cloneTs_map]; simp
  simp only [narrow] at h
  simp only [cloneT,narrow,hl]
  exact ⟨h.1, clone_narrows args h.2⟩
theorem clone_narrows : ∀ (l : List KT), narrows l → narrows (cloneTs l)
 | [], h => by simp only [cloneTs,narrows]
 | a :: l, h => by
  simp only [narrows] at h
  simp only [cloneTs,narrows]
  exact ⟨clone_narrow a h.1, clone_narrows l h.2⟩
end
mutual
theorem clone_okN : ∀ t : NT, okN t → okN (cloneN t)
 | .mk op i txt ty s kids, h => by
  simp only [okN] at h
  simp only [cloneN]
  have hl : (cloneNs kids).length = kids.length := by rw [cloneNs_map]; simp
  have := clone_okNs kids h.2.2.2
  refine okN_mk _ _ _ ?_ (by rw [hl]; exact h.2.1) (fun a ha => okNs_mem this a ha)
  refine ⟨clone_ok ty h.2.2.1.1, clone_narrow ty h.2.2.1.2⟩
theorem clone_okNs : ∀ l : List NT, okNs l → okNs (cloneNs l)
 | [], _ => trivial
 | a :: l, h => by
  simp only [okNs] at h
  simp only [cloneNs,okNs]
  exact ⟨clone_okN a h.1, clone_okNs l h.2⟩
end
end Go.Abs.Seat
end
section
set_option linter.unusedVariables false
set_option linter.unusedSimpArgs false
namespace Go.Abs.Seat
open Go.Proofs
mutual
theorem sameT_self : ∀ t : KT, sameT t t = true
 | .mk k s xs => by simp only [sameT,decide_true,sameTs_self xs,Bool.and_self]
theorem sameTs_self : ∀ l : List KT, sameTs l l = true
 | [] => rfl
 | a :: l => by simp only [sameTs,sameT_self a,sameTs_self l,Bool.and_self]
end
mutual
theorem sameN_self : ∀ t : NT, sameN t t = true
 | .mk op i txt ty s xs => by simp only [sameN,decide_true,sameT_self ty,sameNs_self xs,Bool.and_self]
theorem sameNs_self : ∀ l : List NT, sameNs l l = true
 | [] => rfl
 | a :: l => by simp only [sameNs,sameN_self a,sameNs_self l,Bool.and_self]
end
set_option maxRecDepth 20000 in
set_option maxHeartbeats 600000 in
theorem s4 (hback : ∀ s : List UInt8, s.length ≤ 4096 → (readX s).2.2 = false → Back s) (s : List UInt8) (at' : Int) (ha64 : -9223372036854775808 ≤ at' ∧ at' ≤ 9223372036854775807) : ∃ H', L 4 [.im (.str s), .im (.int .i64 at')] [] = some (.im (.bool true), H') := by
 rw [leq F4]
 have hK : ∀ (tm : List AV) (H : Heap), tm.length = 134 → tm.getD 4 undefA = .im (.bool true) → ∃ H', endK f4 [] .ret tm H = some (.im (.bool true), H') := fun tm H hl h => by
  simp only [endK,f4,resA,h,tupA,leave_nil]
  exact ⟨_, rfl⟩
 have hcode : f4.code = f4.code := rfl
 conv at hcode => rhs; simp only [f4]
 rw [hcode]
 clear hcode
 generalize endK f4 [] = K at *
 obtain ⟨hlen, ha⟩ := enter_at (f := f4) (args := [.im (.str s), .im (.int .i64 at')]) (Nat.le_of_ble_eq_true rfl)
 have t0 := ha 0 _ rfl
 have t1 := ha 1 _ rfl
 generalize enterA f4 [.im (.str s), .im (.int .i64 at')] = tm at *
 change tm.length = 134 at hlen
 clear ha
 have c10 := s10
 by_cases hl : 4000 < s.length
 ·have hc : decide ((4000 : Int) < (s.length : Int)) = true := decide_eq_true (by omega)
  simp only [B0,B1,B2,List.replicate,Nat.reduceAdd,Nat.reduceSub,Nat.reduceLeDiff,Nat.reduceLT,Nat.reduceEqDiff,reduceCtorEq,Int.reduceEq,Int.reduceLT,Int.reduceLE,lenA,z_ops,z_nil,z_cons,z_guard,z_some,z_drop,z_do,z_not,z_not0,pairK,forall_eq_or_imp,stays,loadOf,List.reverse_cons,List.reverse_nil,List.mem_cons,List.not_mem_nil,or_false,forall_eq,true_or,or_true,Bool.true_and,hlen,t0,t1,hc,c10]
  exact hK _ _ (by simp only [List.length_set,hlen]) (by simp only [B3,Nat.reduceLT,Nat.reduceEqDiff,hlen])
 have hc : decide ((4000 : Int) < (s.length : Int)) = false := decide_eq_false (by omega)
 have c9 := s9 s
 unfold parseX at c9
 rw [if_neg (by omega)] at c9
 have hb := hback s (by omega)
 have hok := readX_ok s
 have z0 : decide ((0 : Int) = 0) = true := rfl
 have z40 : decide ((40 : Int) = 0) = false := rfl
 have hbadz : ∀ x, (readX x).2.2 = true → (readX x).1 = zeroN := fun x h => by
  unfold readX at h ⊢
  split
  ·rfl
  ·split
   ·rfl
   ·rename_i h1 h2; rw [if_neg h1, if_neg h2] at h; simp at h
 cases hbad : (readX s).2.2 with
 | true =>
  rw [hbadz s hbad, hbad] at c9
  simp only [if_true,zeroN,enc_flat,zc0] at c9
  simp only [B0,B1,B2,List.replicate,Nat.reduceAdd,Nat.reduceSub,Nat.reduceLeDiff,Nat.reduceLT,Nat.reduceEqDiff,reduceCtorEq,Int.reduceEq,Int.reduceLT,Int.reduceLE,lenA,z_ops,z_nil,z_cons,z_guard,z_some,z_drop,z_do,z_not,z_not0,pairK,forall_eq_or_imp,stays,loadOf,List.reverse_cons,List.reverse_nil,List.mem_cons,List.not_mem_nil,or_false,forall_eq,true_or,or_true,Bool.true_and,hlen,t0,t1,hc,c9,c10,z40]
  exact hK _ _ (by simp only [List.length_set,hlen]) (by simp only [B3,Nat.reduceLT,Nat.reduceEqDiff,hlen])
 | false =>
  obtain ⟨hf, hsh, hag⟩ := hb hbad
  have hplen := strip_len s false
  have hpid := strip_idem s false
  have c9p := s9 (stripQ false s)
  unfold parseX at c9p
  rw [if_neg (by omega), hag] at c9p
  have c14 := fun H => s14 (readX s).1 hf H
  rw [hsh] at c14
  have c13 := s13 (readX s).1 hok
  have c12 := s12 (cloneN (readX s).1) (cloneN (readX s).1) (clone_okN _ hok) (clone_okN _ hok)
  rw [sameN_self] at c12
  rw [hbad] at c9
  generalize stripQ false s = p at *
  clear hb hbad hag hsh
  generalize (readX s).1 = nd at *
  generalize (readX s).2.1 = q at *
  generalize cloneN nd = cd at *
  obtain ⟨op, ni, txt, ty, ns, kids⟩ := nd
  obtain ⟨tk, ts, targs⟩ := ty
  obtain ⟨op2, ni2, txt2, ty2, ns2, kids2⟩ := cd
  obtain ⟨tk2, ts2, targs2⟩ := ty2
  simp only [Bool.false_eq_true,if_false,Bool.not_false,encN,zc0] at c9 c9p c12 c13 c14
  have e1 : decide (p = p) = true := decide_eq_true rfl
  have z44 : ∀ c : UInt8, decide ((c.toNat : Int) = 44) = decide (c = 44) := fun c => by
   by_cases h : c = 44
   ·rw [h]; rfl
   ·rw [decide_eq_false h, decide_eq_false]
    intro e
    apply h
    have : c.toNat = (44 : UInt8).toNat := by exact_mod_cast e
    exact UInt8.toNat_inj.1 this
  have z41 : ∀ c : UInt8, decide ((c.toNat : Int) = 41) = decide (c = 41) := fun c => by
   by_cases h : c = 41
   ·rw [h]; rfl
   ·rw [decide_eq_false h, decide_eq_false]
    intro e
    apply h
    have : c.toNat = (41 : UInt8).toNat := by exact_mod_cast e
    exact UInt8.toNat_inj.1 this
  rcases Int.lt_or_le at' 0 with hA0 | hA0
  ·have a0 : decide (0 ≤ at') = false := decide_eq_false (by omega)
   simp only [B0,B1,B2,List.replicate,Nat.reduceAdd,Nat.reduceSub,Nat.reduceLeDiff,Nat.reduceLT,Nat.reduceEqDiff,reduceCtorEq,Int.reduceEq,Int.reduceLT,Int.reduceLE,lenA,z_ops,z_nil,z_cons,z_guard,z_some,z_drop,z_do,z_not,z_not0,pairK,forall_eq_or_imp,stays,loadOf,List.reverse_cons,List.reverse_nil,List.mem_cons,List.not_mem_nil,or_false,forall_eq,true_or,or_true,Bool.true_and,hlen,t0,t1,hc,c9,c9p,c12,c13,c14,c10,z0,e1,a0]
   exact hK _ _ (by simp only [List.length_set,hlen]) (by simp only [B3,Nat.reduceLT,Nat.reduceEqDiff,hlen])
  have a0 : decide (0 ≤ at') = true := decide_eq_true hA0
  rcases Int.lt_or_le at' p.length with hA1 | hA1
  rotate_left
  ·have a1 : decide (at' < (p.length : Int)) = false := decide_eq_false (by omega)
   simp only [B0,B1,B2,List.replicate,Nat.reduceAdd,Nat.reduceSub,Nat.reduceLeDiff,Nat.reduceLT,Nat.reduceEqDiff,reduceCtorEq,Int.reduceEq,Int.reduceLT,Int.reduceLE,lenA,z_ops,z_nil,z_cons,z_guard,z_some,z_drop,z_do,z_not,z_not0,pairK,forall_eq_or_imp,stays,loadOf,List.reverse_cons,List.reverse_nil,List.mem_cons,List.not_mem_nil,or_false,forall_eq,true_or,or_true,Bool.true_and,hlen,t0,t1,hc,c9,c9p,c12,c13,c14,c10,z0,e1,a0,a1]
   exact hK _ _ (by simp only [List.length_set,hlen]) (by simp only [B3,Nat.reduceLT,Nat.reduceEqDiff,hlen])
  have a1 : decide (at' < (p.length : Int)) = true := decide_eq_true hA1
  obtain ⟨k, rfl⟩ := Int.eq_ofNat_of_zero_le hA0
  have hkl : k < p.length := by omega
  obtain ⟨c, hpk⟩ : ∃ c, p[k]? = some c := ⟨p[k], List.getElem?_eq_getElem hkl⟩
  have m0 : (0 : Int) ≤ (k : Int) := Int.natCast_nonneg _
  have z4 := z44 c
  have z1 := z41 c
  clear z44 z41
  cases hk : decide (tk = 0) with
  | false =>
   cases h4 : decide (c = 44) <;> cases h1 : decide (c = 41) <;> rw [h4] at z4 <;> rw [h1] at z1
   all_goals
    simp only [B0,B1,B2,List.replicate,Nat.reduceAdd,Nat.reduceSub,Nat.reduceLeDiff,Nat.reduceLT,Nat.reduceEqDiff,reduceCtorEq,Int.reduceEq,Int.reduceLT,Int.reduceLE,lenA,z_ops,z_nil,z_cons,z_guard,z_some,z_drop,z_do,z_not,z_not0,pairK,forall_eq_or_imp,stays,loadOf,List.reverse_cons,List.reverse_nil,List.mem_cons,List.not_mem_nil,or_false,forall_eq,true_or,or_true,Bool.true_and,hlen,t0,t1,hc,c9,c9p,c12,c13,c14,c10,z0,e1,a0,a1,m0,intOfA,Int.toNat_natCast,byteDat,hpk,z4,z1,hk]
    exact hK _ _ (by simp only [List.length_set,hlen]) (by simp only [B3,Nat.reduceLT,Nat.reduceEqDiff,hlen])
  | true =>
   by_cases hb : (decide (c = 44) || decide (c = 41)) = true
   rotate_left
   ·simp only [Bool.or_eq_true,not_or,Bool.not_eq_true] at hb
    rw [hb.1] at z4
    rw [hb.2] at z1
    simp only [B0,B1,B2,List.replicate,Nat.reduceAdd,Nat.reduceSub,Nat.reduceLeDiff,Nat.reduceLT,Nat.reduceEqDiff,reduceCtorEq,Int.reduceEq,Int.reduceLT,Int.reduceLE,lenA,z_ops,z_nil,z_cons,z_guard,z_some,z_drop,z_do,z_not,z_not0,pairK,forall_eq_or_imp,stays,loadOf,List.reverse_cons,List.reverse_nil,List.mem_cons,List.not_mem_nil,or_false,forall_eq,true_or,or_true,Bool.true_and,hlen,t0,t1,hc,c9,c9p,c12,c13,c14,c10,z0,e1,a0,a1,m0,intOfA,Int.toNat_natCast,byteDat,hpk,z4,z1,hk]
    exact hK _ _ (by simp only [List.length_set,hlen]) (by simp only [B3,Nat.reduceLT,Nat.reduceEqDiff,hlen])
   have htwo := strip_two hpid k
   have hXl : ((p.take k ++ [32, 32]) ++ p.drop k).length = p.length + 2 := by
    simp only [List.length_append,List.length_take,List.length_drop,List.length_cons,List.length_nil]; omega
   have c9x := s9 ((p.take k ++ [32, 32]) ++ p.drop k)
   unfold parseX at c9x
   rw [if_neg (by omega)] at c9x
   have hbx := hback ((p.take k ++ [32, 32]) ++ p.drop k) (by omega)
   have hbz := hbadz ((p.take k ++ [32, 32]) ++ p.drop k)
   have n1 : (0 ≤ k ∧ k ≤ p.length) = True := eq_true ⟨by omega, by omega⟩
   have n2 : (k ≤ p.length ∧ p.length ≤ p.length) = True := eq_true ⟨by omega, Nat.le_refl _⟩
   have n5 : (k ≤ p.length) = True := eq_true (by omega)
   have n3 : (p.drop 0).take (k - 0) = p.take k := by simp
   have n4 : (p.drop k).take (p.length - k) = p.drop k := by rw [List.take_of_length_le]; simp
   have b1 := s_add (x := p.take k) (y := [32, 32]) (by simp only [List.length_take,List.length_cons,List.length_nil]; omega)
   have b2 := s_add (x := p.take k ++ [32, 32]) (y := p.drop k) (by rw [← List.length_append, hXl]; omega)
   have hxs : (readX ((p.take k ++ [32, 32]) ++ p.drop k)).2.2 = false → ∀ H, L 14 [.im (.agg (encN (readX ((p.take k ++ [32, 32]) ++ p.drop k)).1))] H = some (.tup [.im (.str (stripQ false ((p.take k ++ [32, 32]) ++ p.drop k))), .im (.int .i64 0)], H) := fun h H => by
    obtain ⟨fx, sx, _⟩ := hbx h
    have := s14 _ fx H
    rw [sx] at this
    exact this
   clear hbx hXl hback
   generalize (p.take k ++ [32, 32]) ++ p.drop k = X at *
   generalize readX X = rx at *
   obtain ⟨nx, qx, bx⟩ := rx
   simp only at c9x hbz hxs
   cases bx with
   | true =>
    have hz := hbz rfl
    subst hz
    simp only [if_true,zeroN,enc_flat,zc0] at c9x
    cases h4 : decide (c = 44) <;> cases h1 : decide (c = 41) <;> rw [h4] at z4 hb <;> rw [h1] at z1 hb
    ·exact absurd hb (by decide)
    all_goals
     simp only [B0,B1,B2,List.replicate,Nat.reduceAdd,Nat.reduceSub,Nat.reduceLeDiff,Nat.reduceLT,Nat.reduceEqDiff,reduceCtorEq,Int.reduceEq,Int.reduceLT,Int.reduceLE,lenA,z_ops,z_nil,z_cons,z_guard,z_some,z_drop,z_do,z_not,z_not0,pairK,forall_eq_or_imp,stays,loadOf,List.reverse_cons,List.reverse_nil,List.mem_cons,List.not_mem_nil,or_false,forall_eq,true_or,or_true,Bool.true_and,hlen,t0,t1,hc,c9,c9p,c9x,c12,c13,c14,c10,z0,z40,e1,a0,a1,m0,boundA,intOfA,Int.toNat_natCast,byteDat,hpk,z4,z1,hk,n5,Nat.zero_le,Nat.le_refl,and_self,List.drop_zero,Nat.sub_zero,n4,if_true,b1,b2]
     exact hK _ _ (by simp only [List.length_set,hlen]) (by simp only [B3,Nat.reduceLT,Nat.reduceEqDiff,hlen])
   | false =>
    have c14x := hxs rfl
    obtain ⟨opx, nix, txtx, tyx, nsx, kidsx⟩ := nx
    obtain ⟨tkx, tsx, targsx⟩ := tyx
    simp only [Bool.false_eq_true,if_false,encN,zc0] at c9x c14x
    generalize stripQ false X = r at *
    have w1 : IntKind.i64.wrap ((p.length : Int) + 2) = (p.length : Int) + 2 := Go.Abs.Seat.wrap_small _ (by omega)
    cases hrp : decide (r = p) with
    | true =>
     cases h4 : decide (c = 44) <;> cases h1 : decide (c = 41) <;> rw [h4] at z4 hb <;> rw [h1] at z1 hb
     ·exact absurd hb (by decide)
     all_goals
      simp only [B0,B1,B2,List.replicate,Nat.reduceAdd,Nat.reduceSub,Nat.reduceLeDiff,Nat.reduceLT,Nat.reduceEqDiff,reduceCtorEq,Int.reduceEq,Int.reduceLT,Int.reduceLE,lenA,z_ops,z_nil,z_cons,z_guard,z_some,z_drop,z_do,z_not,z_not0,pairK,forall_eq_or_imp,stays,loadOf,List.reverse_cons,List.reverse_nil,List.mem_cons,List.not_mem_nil,or_false,forall_eq,true_or,or_true,Bool.true_and,hlen,t0,t1,hc,c9,c9p,c9x,c12,c13,c14,c14x,c10,z0,z40,e1,a0,a1,m0,boundA,intOfA,Int.toNat_natCast,byteDat,hpk,z4,z1,hk,n5,Nat.zero_le,Nat.le_refl,and_self,List.drop_zero,Nat.sub_zero,n4,if_true,b1,b2,hrp]
      exact hK _ _ (by simp only [List.length_set,hlen]) (by simp only [B3,Nat.reduceLT,Nat.reduceEqDiff,hlen])
    | false =>
     have hlr : decide ((r.length : Int) = (p.length : Int) + 2) = true := by
      rcases htwo with h | h
      ·rw [decide_eq_true h] at hrp; cases hrp
      ·exact decide_eq_true (by omega)
     cases h4 : decide (c = 44) <;> cases h1 : decide (c = 41) <;> rw [h4] at z4 hb <;> rw [h1] at z1 hb
     ·exact absurd hb (by decide)
     all_goals
      simp only [B0,B1,B2,List.replicate,Nat.reduceAdd,Nat.reduceSub,Nat.reduceLeDiff,Nat.reduceLT,Nat.reduceEqDiff,reduceCtorEq,Int.reduceEq,Int.reduceLT,Int.reduceLE,lenA,z_ops,z_nil,z_cons,z_guard,z_some,z_drop,z_do,z_not,z_not0,pairK,forall_eq_or_imp,stays,loadOf,List.reverse_cons,List.reverse_nil,List.mem_cons,List.not_mem_nil,or_false,forall_eq,true_or,or_true,Bool.true_and,hlen,t0,t1,hc,c9,c9p,c9x,c12,c13,c14,c14x,c10,z0,z40,e1,a0,a1,m0,boundA,intOfA,Int.toNat_natCast,byteDat,hpk,z4,z1,hk,n5,Nat.zero_le,Nat.le_refl,and_self,List.drop_zero,Nat.sub_zero,n4,if_true,b1,b2,hrp,w1,hlr]
      exact hK _ _ (by simp only [List.length_set,hlen]) (by simp only [B3,Nat.reduceLT,Nat.reduceEqDiff,hlen])
end Go.Abs.Seat
end
section
set_option linter.unusedVariables false
set_option linter.unusedSimpArgs false
namespace Go.Abs.Seat
open Go.Proofs
def LocN {α : Type} (s s' : List UInt8) (q q' : α × Nat × Bool) : Prop :=
 (∀ i, i < q.2.1 → s'[i]? = s[i]?) → (s'[q.2.1]? = s[q.2.1]? ∨ s'[q.2.1]? = none) →
  q'.2.1 = q.2.1 ∧ (q.2.2 = false → q' = q) ∧ (s'[q.2.1]? = s[q.2.1]? → q'.2.2 = q.2.2)
theorem at_le {s s' : List UInt8} {e m : Nat} (hle : e ≤ m) (ha : ∀ i, i < m → s'[i]? = s[i]?) (hf : s'[m]? = s[m]? ∨ s'[m]? = none) : s'[e]? = s[e]? ∨ s'[e]? = none := by
 rcases Nat.lt_or_ge e m with h | h
 ·exact .inl (ha e h)
 ·obtain rfl : e = m := by omega
  exact hf
theorem LocN.ok {α : Type} {s s' : List UInt8} {a a' : α × Nat × Bool} {m : Nat} (h : LocN s s' a a') (hb : a.2.2 = false) (hle : a.2.1 ≤ m) (ha : ∀ i, i < m → s'[i]? = s[i]?) (hf : s'[m]? = s[m]? ∨ s'[m]? = none) : a' = a :=
 (h (fun i hi => ha i (by omega)) (at_le hle ha hf)).2.1 hb
theorem LocN.bad {α : Type} {s s' : List UInt8} {v : α} {p : Nat} {q' : α × Nat × Bool} (h1 : s'[p]? = s[p]? → q'.2.1 = p ∧ q'.2.2 = true) (h2 : s'[p]? = none → q'.2.1 = p) : LocN s s' (v, p, true) q' :=
 fun ha hf => ⟨by rcases hf with hf | hf; exact (h1 hf).1; exact h2 hf, fun h => by simp at h, fun h => (h1 h).2⟩
theorem skipN_mid (b : List UInt8) : ∀ f p i, p ≤ i → i < skipN b f p → b[i]? = some 32
 | 0, p, i, h1, h2 => by simp only [skipN] at h2; omega
 | f + 1, p, i, h1, h2 => by
  unfold skipN at h2
  split at h2
  ·rename_i h
   by_cases e : i = p
   ·rw [e]; exact h
   ·exact skipN_mid b f (p + 1) i (by omega) h2
  ·omega
theorem skip_mid {b : List UInt8} {p i : Nat} (h1 : p ≤ i) (h2 : i < skipB b p) : b[i]? = some 32 := skipN_mid b _ p i h1 h2
theorem skip_end {s : List UInt8} {p : Nat} (h : s[p]? = none) : skipB s p = p := skip_at (by rw [h]; simp)
theorem numN_eq (b : List UInt8) (most f n p : Nat) : numN b most (f + 1) n p = if digZ ((peekB b p).toNat : Int) = true then
   (if 0 < n ∧ n ≤ (most - ((peekB b p).toNat - 48)) / 10 then numN b most f (10 * n + ((peekB b p).toNat - 48)) (p + 1) else (n, p, true))
  else (n, p, false) := rfl
def numQ (b : List UInt8) (neg : Bool) (p1 : Nat) : NT × Nat × Bool :=
 if (!digZ ((peekB b p1).toNat : Int) || (decide (peekB b p1 = 48) && neg)) = true then (zeroN, p1, true)
 else match numN b (mostN neg) (b.length - (p1 + 1)) ((peekB b p1).toNat - 48) (p1 + 1) with
  |(n, q, true) => (zeroN, q, true)
  |(n, q, false) => (mkN intW (sgnN neg n) [] zeroT [], q, false)
theorem numP_eq (b : List UInt8) (p : Nat) : numP b p = numQ b (decide (peekB b p = 45)) (if decide (peekB b p = 45) = true then p + 1 else p) := rfl
theorem strN_eq (b : List UInt8) (f : Nat) (out : List UInt8) (p : Nat) : strN b (f + 1) out p = if peekB b p = 34 then (out, p + 1, false)
  else if (decide (out.length = 256) || (!plnZ ((peekB b p).toNat : Int) && !decide (peekB b p = 92))) = true then ([], p, true)
  else if peekB b p = 92 then (if (escP b (p + 1)).2.2 = true then ([], (escP b (p + 1)).2.1, true) else strN b f (out ++ [UInt8.ofNat (escP b (p + 1)).1.toNat]) (escP b (p + 1)).2.1)
  else strN b f (out ++ [peekB b p]) (p + 1) := rfl
theorem str_at (b : List UInt8) (p : Nat) : (strP b p).2.1 = (strN b (b.length + 1 - p) [] p).2.1 ∧ (strP b p).2.2 = (strN b (b.length + 1 - p) [] p).2.2 ∧ ((strN b (b.length + 1 - p) [] p).2.2 = false → (strP b p).1 = mkN textW 0 (strN b (b.length + 1 - p) [] p).1 zeroT []) := by
 unfold strP
 split
 all_goals rename_i hs; rw [hs]; exact ⟨rfl, rfl, fun h => by first | rfl | simp at h⟩
end Go.Abs.Seat
end
section
set_option linter.unusedVariables false
set_option linter.unusedSimpArgs false
namespace Go.Abs.Seat
open Go.Proofs
theorem LocN.map {α β : Type} {s s' : List UInt8} {q q' : α × Nat × Bool} (f : α → β) (h : LocN s s' q q') : LocN s s' (f q.1, q.2.1, q.2.2) (f q'.1, q'.2.1, q'.2.2) :=
 fun ha hf => ⟨(h ha hf).1, fun hb => by rw [(h ha hf).2.1 hb], (h ha hf).2.2⟩
theorem LocN.bad' {α : Type} {s s' : List UInt8} {v : α} {p : Nat} {q' : α × Nat × Bool} (h : (∀ i, i < p → s'[i]? = s[i]?) → (s'[p]? = s[p]? ∨ s'[p]? = none) → q'.2.1 = p ∧ (s'[p]? = s[p]? → q'.2.2 = true)) : LocN s s' (v, p, true) q' :=
 fun ha hf => ⟨(h ha hf).1, fun h => by simp at h, (h ha hf).2⟩
theorem span_end {b : List UInt8} {p : Nat} (h : b.length ≤ p) : spanB b p = p := by
 unfold spanB
 rw [Nat.sub_eq_zero_of_le h]
 rfl
theorem typ_read (b : List UInt8) (p : Nat) : (typP b p).2.1 = p + (readP (b.drop p) 6 0).1 ∧ (typP b p).2.2 = !(readP (b.drop p) 6 0).2.2 ∧ ((readP (b.drop p) 6 0).2.2 = true → (typP b p).1 = (readP (b.drop p) 6 0).2.1) := by
 have hs1 := span_le b p
 have hs : spanB b p - p ≤ (b.drop p).length := by
  rw [List.length_drop]
  rcases Nat.lt_or_ge b.length p with h | h
  ·rw [span_end (by omega)]; omega
  ·have := span_len h; omega
 have hcut := read_cut (b.drop p) (spanB b p - p) (by
  rw [List.length_drop]
  rcases Nat.lt_or_ge b.length p with h | h
  ·rw [span_end (by omega)]; left; omega
  ·have he := spanN_end b (b.length - p) p h (by omega)
   change spanB b p = b.length ∨ spanB b p < b.length ∧ tyAt b (spanB b p) = false at he
   rcases he with h | ⟨h, h2⟩
   ·left; omega
   ·right
    refine ⟨by omega, ?_⟩
    unfold tyAt at h2 ⊢
    rwa [List.getElem?_drop, Nat.add_sub_cancel' hs1])
 obtain ⟨c1, c2, c3, c4⟩ := hcut
 have hl : ((b.drop p).take (spanB b p - p)).length = spanB b p - p := by rw [List.length_take]; omega
 have e1 : parseP ((b.drop p).take (spanB b p - p)) = if (readP (b.drop p) 6 0).2.2 = true ∧ ¬ (readP (b.drop p) 6 0).1 < spanB b p - p then ((readP (b.drop p) 6 0).2.1, 0, 0) else (zeroT, (readP (b.drop p) 6 0).1, 40) := by
  unfold parseP
  rw [c1, c2, hl]
  by_cases h : (readP (b.drop p) 6 0).2.2 = true ∧ ¬ (readP (b.drop p) 6 0).1 < spanB b p - p
  ·rw [if_pos h, if_pos h, c3 h.1]
  ·rw [if_neg h, if_neg h]
 have hloc := fun h => readP_loc (b.drop p) ((b.drop p).take (readP (b.drop p) 6 0).1) 6 0 (fun i hi => by rw [List.getElem?_take, if_pos hi]) h
 have hback : (readP (b.drop p) 6 0).2.2 = true → parseP ((b.drop p).take (readP (b.drop p) 6 0).1) = ((readP (b.drop p) 6 0).2.1, 0, 0) := fun ho => by
  obtain ⟨h1, h2, h3⟩ := hloc (.inl ho)
  unfold parseP
  rw [h1, h2, h3 ho, if_pos ⟨ho, by simp; omega⟩]
 have hbad : (readP (b.drop p) 6 0).2.2 = false → (parseP ((b.drop p).take (readP (b.drop p) 6 0).1)).2.2 = 40 := fun ho => by
  obtain ⟨h1, h2, h3⟩ := hloc (.inr (.inr (by rw [List.getElem?_take, if_neg (Nat.lt_irrefl _)])))
  unfold parseP
  rw [h2, ho, if_neg (by simp)]
 generalize readP (b.drop p) 6 0 = q at *
 obtain ⟨k, t, ok⟩ := q
 simp only at c4 hback e1 hbad
 have d40 : ¬ ((40 : Int) = 0) := by decide
 unfold typP
 cases ok with
 | false =>
  simp only [Bool.false_eq_true,false_and,if_false] at e1
  rw [e1]
  simp only [d40,if_false,hbad]
  exact ⟨trivial, rfl, fun h => by simp at h⟩
 | true =>
  have hback := hback rfl
  simp only [true_and] at e1
  by_cases h1 : k < spanB b p - p
  ·rw [if_neg (fun h => h h1)] at e1
   rw [e1]
   simp only [d40,if_false,hback,decide_true,Bool.not_true,and_self,implies_true]
  ·rw [if_pos h1] at e1
   rw [e1]
   simp only [if_true,Bool.not_true,true_and,implies_true,and_true]
   omega
structure Rd (s s' : List UInt8) (rd rd' : Nat → NT × Nat × Bool) : Prop where
 up : ∀ p, p ≤ (rd p).2.1
 loc : ∀ p, LocN s s' (rd p) (rd' p)
 stay : ∀ p, s'[p]? = none → (rd' p).2.1 = p
theorem sign_ok {b : List UInt8} {p : Nat} {c : UInt8} (h : (signP b p false c).2 = false) : (signP b p false c).1 = skipB b p + 1 := by
 unfold signP at h ⊢
 simp only [Bool.false_eq_true,if_false] at h ⊢
 split at h
 ·rename_i e; rw [if_pos e]
 ·simp at h
theorem exprX_eq (b : List UInt8) (d p : Nat) : exprX b (d + 1) p =
  if peekB b (skipB b p) = 34 then strP b (skipB b p + 1)
  else if (decide (peekB b (skipB b p) = 45) || digZ ((peekB b (skipB b p)).toNat : Int)) = true then numP b (skipB b p)
  else if letZ ((peekB b (skipB b p)).toNat : Int) = false then (zeroN, skipB b p, true)
  else if longB b (skipB b p) = true then (zeroN, runB b (skipB b p), true)
  else match shapeT (wordB b (skipB b p)) with
   | none => (mkN nameW 0 (wordB b (skipB b p)) zeroT [], runB b (skipB b p), false)
   | some ps => if ps = [] then (mkN (wordB b (skipB b p)) 0 [] zeroT [], runB b (skipB b p), false)
    else if d = 0 ∧ ps ≠ [100] ∧ ps ≠ [116] then (zeroN, runB b (skipB b p), true)
    else callX (exprX b d) b (wordB b (skipB b p)) ps (runB b (skipB b p)) := rfl
def wordX (b : List UInt8) (d : Nat) (w : List UInt8) (r : Nat) : NT × Nat × Bool :=
 match shapeT w with
   | none => (mkN nameW 0 w zeroT [], r, false)
   | some ps => if ps = [] then (mkN w 0 [] zeroT [], r, false)
    else if d = 0 ∧ ps ≠ [100] ∧ ps ≠ [116] then (zeroN, r, true)
    else callX (exprX b d) b w ps r
theorem exprX_eq2 (b : List UInt8) (d p : Nat) : exprX b (d + 1) p =
  if peekB b (skipB b p) = 34 then strP b (skipB b p + 1)
  else if (decide (peekB b (skipB b p) = 45) || digZ ((peekB b (skipB b p)).toNat : Int)) = true then numP b (skipB b p)
  else if letZ ((peekB b (skipB b p)).toNat : Int) = false then (zeroN, skipB b p, true)
  else if longB b (skipB b p) = true then (zeroN, runB b (skipB b p), true)
  else wordX b d (wordB b (skipB b p)) (runB b (skipB b p)) := rfl
theorem run_up1 {b : List UInt8} {p : Nat} (h : letZ ((peekB b p).toNat : Int) = true) : p < runB b p := by
 have hg : goesB b p p = true := by
  have h2 := h
  unfold letZ at h2
  simp only [Bool.and_eq_true,decide_eq_true_eq] at h2
  unfold goesB namZ
  rw [h, Bool.true_or, Bool.true_or, decide_eq_true (show p - p < 16 by omega), decide_eq_true h2.1, Bool.or_true]
  rfl
 have := runN_le b p 15 (p + 1)
 unfold runB
 change p < runN b p (15 + 1) p
 rw [show runN b p (15 + 1) p = if goesB b p p = true then runN b p 15 (p + 1) else p from rfl, if_pos hg]
 omega
theorem expr_len0 (s : List UInt8) : (exprX s 24 0).2.1 ≤ s.length := expr_len s 24 0 (Nat.zero_le _)
end Go.Abs.Seat
end
section
set_option linter.unusedVariables false
set_option linter.unusedSimpArgs false
namespace Go.Abs.Seat
open Go.Proofs
def foldD : List UInt8 → Nat → Nat
 | [], a => a
 | c :: l, a => foldD l (10 * a + (c.toNat - 48))
theorem foldD_app : ∀ (l m : List UInt8) (a : Nat), foldD (l ++ m) a = foldD m (foldD l a)
 | [], m, a => rfl
 | c :: l, m, a => by simp only [List.cons_append,foldD,foldD_app l m]
theorem foldD_ge : ∀ (l : List UInt8) (a : Nat), a ≤ foldD l a
 | [], a => Nat.le_refl _
 | c :: l, a => by
  have := foldD_ge l (10 * a + (c.toNat - 48))
  simp only [foldD]; omega
def isDig (c : UInt8) : Prop := 48 ≤ c.toNat ∧ c.toNat ≤ 57
theorem dig_of (u : Nat) (h : u < 10) : isDig (UInt8.ofNat (48 + u)) ∧ (UInt8.ofNat (48 + u)).toNat - 48 = u := by
 have e : (UInt8.ofNat (48 + u)).toNat = 48 + u := by
  rw [UInt8.toNat_ofNat']
  omega
 unfold isDig
 rw [e]
 omega
theorem digN_dig : ∀ (f u : Nat), ∀ c ∈ digN f u, isDig c
 | 0, u, c, h => by simp [digN] at h
 | f + 1, u, c, h => by
  unfold digN at h
  split at h
  ·rename_i hu
   simp only [List.mem_cons,List.not_mem_nil,or_false] at h
   subst h
   exact (dig_of u hu).1
  ·simp only [List.mem_append,List.mem_cons,List.not_mem_nil,or_false] at h
   rcases h with h | rfl
   ·exact digN_dig f _ c h
   ·exact (dig_of (u % 10) (by omega)).1
theorem digN_fold : ∀ (f u : Nat), u < 10 ^ f → 0 < f → foldD (digN f u) 0 = u
 | 0, u, _, h => by omega
 | f + 1, u, hu, _ => by
  unfold digN
  split
  ·rename_i h
   simp only [foldD,(dig_of u h).2]; omega
  ·rename_i h
   have hf : 0 < f := by
    rcases Nat.eq_zero_or_pos f with rfl | h1
    ·simp only [Nat.zero_add,Nat.pow_one] at hu; omega
    ·exact h1
   rw [foldD_app, digN_fold f (u / 10) (by rw [Nat.pow_succ] at hu; omega) hf]
   simp only [foldD,(dig_of (u % 10) (by omega)).2]
   omega
theorem digN_head : ∀ (f u : Nat), u < 10 ^ f → 0 < u → ∃ c l, digN f u = c :: l ∧ 49 ≤ c.toNat
 | 0, u, h, h2 => by simp at h; omega
 | f + 1, u, hu, h0 => by
  unfold digN
  split
  ·rename_i h
   refine ⟨_, _, rfl, ?_⟩
   rw [UInt8.toNat_ofNat']
   omega
  ·rename_i h
   obtain ⟨c, l, h1, h2⟩ := digN_head f (u / 10) (by rw [Nat.pow_succ] at hu; omega) (by omega)
   exact ⟨c, l ++ [UInt8.ofNat (48 + u % 10)], by rw [h1]; rfl, h2⟩
theorem digZ_of {c : UInt8} (h : isDig c) : digZ ((c.toNat : Nat) : Int) = true := by
 unfold isDig at h
 unfold digZ
 rw [decide_eq_true (by omega), decide_eq_true (by omega)]
 rfl
theorem readX_of {s : List UInt8} {t : NT} (h : exprX s 24 0 = (t, s.length, false)) : readX s = (t, 0, false) := by
 unfold readX
 rw [h]
 simp only [Bool.false_eq_true,if_false]
 rw [skip_end (by exact List.getElem?_eq_none (Nat.le_refl _)), if_neg (Nat.lt_irrefl _)]
theorem letdig {c : UInt8} (h : isDig c) : c ≠ 32 ∧ c ≠ 34 := by
 unfold isDig at h
 exact ⟨fun e => by rw [e] at h; revert h; decide, fun e => by rw [e] at h; revert h; decide⟩
theorem itoaN_nonneg {n : Int} (h0 : 0 ≤ n) (h1 : n ≤ 9223372036854775807) : ∃ c l, itoaN n = c :: l ∧ (∀ x ∈ c :: l, isDig x) ∧ foldD (c :: l) 0 = n.toNat ∧ (0 < n → 49 ≤ c.toNat) ∧ (n = 0 → c = 48 ∧ l = []) := by
 have e : itoaN n = digN 20 n.toNat := by unfold itoaN; rw [if_neg (by omega)]
 have hf := digN_fold 20 n.toNat (by omega) (by decide)
 have hd := digN_dig 20 n.toNat
 rcases Nat.eq_zero_or_pos n.toNat with hz | hp
 ·rw [hz] at e hf
  have e2 : digN 20 0 = [48] := rfl
  rw [e2] at e hf
  exact ⟨48, [], e, by intro x hx; simp at hx; subst hx; exact ⟨by decide, by decide⟩, by rw [hz]; exact hf, fun h => by omega, fun _ => ⟨rfl, rfl⟩⟩
 ·obtain ⟨c, l, h2, h3⟩ := digN_head 20 n.toNat (by omega) hp
  rw [h2] at e hf hd
  exact ⟨c, l, e, hd, hf, fun _ => h3, fun h => by omega⟩
theorem itoaN_neg {n : Int} (h0 : n < 0) (h1 : -9223372036854775808 ≤ n) : ∃ c l, itoaN n = 45 :: c :: l ∧ (∀ x ∈ c :: l, isDig x) ∧ foldD (c :: l) 0 = n.natAbs ∧ 49 ≤ c.toNat := by
 have e : itoaN n = 45 :: digN 20 n.natAbs := by unfold itoaN; rw [if_pos h0]
 have hf := digN_fold 20 n.natAbs (by omega) (by decide)
 have hd := digN_dig 20 n.natAbs
 obtain ⟨c, l, h2, h3⟩ := digN_head 20 n.natAbs (by omega) (by omega)
 rw [h2] at e hf hd
 exact ⟨c, l, e, hd, hf, h3⟩
end Go.Abs.Seat
end
section
set_option linter.unusedVariables false
set_option linter.unusedSimpArgs false
namespace Go.Abs.Seat
open Go.Proofs
theorem esc_all : ∀ x : Fin 256, plnZ (x.val : Int) = false → shut (nibZ ((hexD (x.val / 16)).toNat : Int)) = false ∧ nibZ ((hexD (x.val / 16)).toNat : Int) = ((x.val / 16 : Nat) : Int) ∧ nibZ ((hexD (x.val % 16)).toNat : Int) = ((x.val % 16 : Nat) : Int) := by decide +kernel
theorem pln_of {c : UInt8} (h : plnZ (c.toNat : Int) = true) : 32 ≤ c.toNat ∧ c.toNat ≤ 126 ∧ c ≠ 34 ∧ c ≠ 92 := by
 unfold plnZ at h
 simp only [Bool.and_eq_true,decide_eq_true_eq,Bool.not_eq_true',decide_eq_false_iff_not] at h
 obtain ⟨⟨⟨h1, h2⟩, h3⟩, h4⟩ := h
 refine ⟨by omega, by omega, fun e => ?_, fun e => ?_⟩
 ·apply h3; rw [e]; rfl
 ·apply h4; rw [e]; rfl
theorem quoteC_ge (c : UInt8) : 1 ≤ (quoteC c).length := by unfold quoteC; split <;> simp
theorem quoteL_ge : ∀ l : List UInt8, l.length ≤ (quoteL l).length
 | [] => Nat.le_refl _
 | c :: l => by
  have h1 := quoteC_ge c
  have h2 := quoteL_ge l
  simp only [quoteL,List.length_append,List.length_cons]
  omega
theorem quoteB_len (l : List UInt8) : (quoteB l).length = (quoteL l).length + 2 := by simp [quoteB]
theorem strN_quote {b : List UInt8} : ∀ (l : List UInt8) (f p : Nat) (out : List UInt8), (∀ i, i < (quoteL l ++ [34]).length → b[p + i]? = (quoteL l ++ [34])[i]?) → out.length + l.length ≤ 256 → l.length < f → strN b f out p = (out ++ l, p + (quoteL l).length + 1, false)
 | [], f, p, out, hb, ho, hf => by
  obtain ⟨f', rfl⟩ : ∃ f', f = f' + 1 := ⟨f - 1, by omega⟩
  have h0 := hb 0 (by simp)
  have hpk : peekB b p = 34 := by unfold peekB; rw [Nat.add_zero] at h0; rw [h0]; rfl
  unfold strN
  rw [if_pos hpk]
  simp [quoteL]
 | c :: l, f, p, out, hb, ho, hf => by
  simp only [List.length_cons] at hf ho
  obtain ⟨f', rfl⟩ : ∃ f', f = f' + 1 := ⟨f - 1, by omega⟩
  simp only [quoteL,List.append_assoc] at hb
  have hrest : ∀ i, i < (quoteL l ++ [34]).length → b[p + (quoteC c).length + i]? = (quoteL l ++ [34])[i]? := fun i hi => by
   have := hb ((quoteC c).length + i) (by rw [List.length_append]; omega)
   rw [← Nat.add_assoc, List.getElem?_append_right (by omega), Nat.add_sub_cancel_left] at this
   exact this
  have hhead : ∀ i, i < (quoteC c).length → b[p + i]? = (quoteC c)[i]? := fun i hi => by
   rw [hb i (by rw [List.length_append]; omega), List.getElem?_append_left hi]
  have ho2 : decide (out.length = 256) = false := decide_eq_false (by omega)
  unfold strN
  rcases Bool.eq_false_or_eq_true (plnZ (c.toNat : Int)) with hp | hp
  ·have hq : quoteC c = [c] := by unfold quoteC; rw [if_pos hp]
   rw [hq] at hrest hhead
   have hpk : peekB b p = c := by have := hhead 0 (by simp); unfold peekB; rw [Nat.add_zero] at this; rw [this]; rfl
   obtain ⟨_, _, h34, h92⟩ := pln_of hp
   rw [hpk, if_neg h34, ho2, hp, if_neg (by simp), if_neg h92]
   rw [strN_quote l f' (p + 1) (out ++ [c]) hrest (by simp only [List.length_append,List.length_cons,List.length_nil]; omega) (by omega)]
   simp only [quoteL,hq,List.append_assoc,List.length_append,List.length_cons,List.length_nil,List.cons_append,List.nil_append]
   exact Prod.ext rfl (Prod.ext (by simp only; omega) rfl)
  ·have hq : quoteC c = [92, hexD (c.toNat / 16), hexD (c.toNat % 16)] := by unfold quoteC; rw [if_neg (by rw [hp]; simp)]
   obtain ⟨g1, g2, g3⟩ := esc_all ⟨c.toNat, c.toNat_lt⟩ hp
   simp only at g1 g2 g3
   rw [hq] at hrest hhead
   have hpk : peekB b p = 92 := by have := hhead 0 (by simp); unfold peekB; rw [Nat.add_zero] at this; rw [this]; rfl
   have hpk1 : peekB b (p + 1) = hexD (c.toNat / 16) := by have := hhead 1 (by simp); unfold peekB; rw [this]; rfl
   have hpk2 : peekB b (p + 1 + 1) = hexD (c.toNat % 16) := by have := hhead 2 (by simp); unfold peekB; rw [Nat.add_assoc, this]; rfl
   have hsum : 16 * ((c.toNat / 16 : Nat) : Int) + ((c.toNat % 16 : Nat) : Int) = (c.toNat : Int) := by omega
   have hesc : escP b (p + 1) = ((c.toNat : Int), p + 1 + 2, false) := by
    unfold escP
    rw [hpk1, hpk2, g1, g2, g3, hsum, hp, decide_eq_false (show ¬ ((c.toNat % 16 : Nat) : Int) < 0 by omega)]
    simp
   have hback : UInt8.ofNat (c.toNat : Int).toNat = c := by simp
   rw [hpk, if_neg (by decide), ho2, if_neg (by decide), if_pos rfl, hesc]
   simp only [Bool.false_eq_true,if_false]
   rw [hback, strN_quote l f' (p + 1 + 2) (out ++ [c]) (fun i hi => by have := hrest i hi; simp only [List.length_cons,List.length_nil] at this; rw [show p + 1 + 2 + i = p + (0 + 1 + 1 + 1) + i by omega]; exact this) (by simp only [List.length_append,List.length_cons,List.length_nil]; omega) (by omega)]
   simp only [quoteL,hq,List.append_assoc,List.length_append,List.length_cons,List.length_nil,List.cons_append,List.nil_append]
   exact Prod.ext rfl (Prod.ext (by simp only; omega) rfl)
end Go.Abs.Seat
end
section
set_option linter.unusedVariables false
set_option linter.unusedSimpArgs false
namespace Go.Abs.Seat
open Go.Proofs
theorem right_iff (k : Int) (s : Nat) (args : List KT) (d : Int) : rightT (.mk k s args) d = true ↔ (∃ w ∈ words, w.1 = k ∧ (args.length : Int) = w.2.2) ∧ 1 ≤ d ∧ (∀ a ∈ args, rightT a (d - 1) = true) := by
 have hk : ∀ i, kidx k = some i → ∃ w ∈ words, w.1 = k ∧ kcnt i = w.2.2 := by
  intro i hi
  unfold kidx at hi
  obtain ⟨h1, h2, _⟩ := List.findIdx?_eq_some_iff_getElem.1 hi
  refine ⟨words[i], List.getElem_mem h1, of_decide_eq_true h2, ?_⟩
  have : ∀ j, (h : j < words.length) → kcnt j = words[j].2.2 := by decide
  exact this i h1
 have hk2 : ∀ w ∈ words, w.1 = k → ∃ i, kidx k = some i ∧ kcnt i = w.2.2 := by
  intro w hw hwk
  have : ∀ w ∈ words, ∃ i, i < 8 ∧ kidx w.1 = some i ∧ kcnt i = w.2.2 := by decide
  obtain ⟨i, _, h1, h2⟩ := this w hw
  exact ⟨i, by rw [← hwk]; exact h1, h2⟩
 simp only [rightT]
 constructor
 ·intro h
  split at h
  ·rename_i i hi
   split at h
   ·simp at h
   ·split at h
    ·rename_i hl
     obtain ⟨w, hw, h1, h2⟩ := hk i hi
     refine ⟨⟨w, hw, h1, by rw [← h2]; exact hl⟩, by omega, fun a ha => ?_⟩
     rw [rightNot_any] at h
     simp only [Bool.not_eq_true',List.any_eq_false,Bool.not_eq_true',Bool.not_eq_false] at h
     have := h a ha
     simpa using this
    ·simp at h
  ·simp at h
 ·rintro ⟨⟨w, hw, h1, h2⟩, h3, h4⟩
  obtain ⟨i, hi, hc⟩ := hk2 w hw h1
  rw [hi]
  simp only
  rw [if_neg (by omega), if_pos (by rw [hc]; exact h2), rightNot_any]
  simp only [Bool.not_eq_true',List.any_eq_false,Bool.not_eq_true',Bool.not_eq_false]
  intro a ha
  simp [h4 a ha]
theorem gath_of (w : Word) (hw : w ∈ words) : kgath w.1 words = w.2.1 := by
 have : ∀ w ∈ words, kgath w.1 words = w.2.1 := by decide
 exact this w hw
theorem drop_next {s r : List UInt8} {k : Nat} {c : UInt8} (h : s[k]? = some c) : s.drop k = c :: s.drop (k + 1) := by
 obtain ⟨w, hw, e⟩ := drop_cons (List.getElem?_eq_some_iff.1 h).1
 rw [h] at hw
 injection hw with hw
 rw [e, hw]
theorem readL_shows (s : List UInt8) (rd : Nat → Nat × KT × Bool) (d : Int) (h : ∀ k, (rd k).2.2 = true → rightT (rd k).2.1 d = true ∧ s.drop k = showT (rd k).2.1 ++ s.drop (rd k).1) :
  ∀ (m i k : Nat) (acc l : List KT), (readL rd s m i k acc).2 = some l → ∃ l', l = acc ++ l' ∧ l'.length = m ∧ (∀ a ∈ l', rightT a d = true) ∧ s.drop k = showTs l' (sepB i) ++ s.drop (readL rd s m i k acc).1
 | 0, i, k, acc, l, he => by
  simp only [readL,Option.some.injEq] at he
  subst he
  exact ⟨[], by simp, rfl, by simp, by simp [showTs, readL]⟩
 | m + 1, i, k, acc, l, he => by
  simp only [readL] at he ⊢
  cases hs : signB s k (sepB i) with
  | false => rw [hs] at he; simp at he
  | true =>
   rw [hs] at he
   simp only [if_true] at he ⊢
   by_cases ho : (rd (k + 1)).2.2 = true
   ·rw [if_pos ho] at he ⊢
    obtain ⟨l', h1, h2, h3, h4⟩ := readL_shows s rd d h m (i + 1) _ _ l he
    obtain ⟨h5, h6⟩ := h (k + 1) ho
    refine ⟨(rd (k + 1)).2.1 :: l', by rw [h1]; simp, by simp [h2], fun a ha => ?_, ?_⟩
    ·rcases List.mem_cons.1 ha with rfl | ha
     ·exact h5
     ·exact h3 a ha
    ·rw [drop_next (r := s) (of_decide_eq_true hs), h6, h4, show sepB (i + 1) = 44 by simp [sepB]]
     simp only [showTs,List.cons_append,List.append_assoc]
   ·rw [if_neg ho] at he
    simp at he
theorem readP_shows (s : List UInt8) : ∀ (d k : Nat), (readP s d k).2.2 = true → rightT (readP s d k).2.1 d = true ∧ s.drop k = showT (readP s d k).2.1 ++ s.drop (readP s d k).1
 | 0, k, h => by simp [readP] at h
 | d + 1, k, h => by
  have hspec := wordGo_spec (mayW ((d : Int) + 1)) (s.drop k) 8 0 (mayW ((d : Int) + 1)) (List.filter_eq_self.2 (fun w _ => by simp)).symm (mayW_ne _) (fun w hw => by have := word_len w (List.mem_filter.1 hw).1; omega) (Nat.zero_le _) (fun _ _ _ => Nat.zero_le _)
  simp only [readP] at h ⊢
  unfold word69 at h ⊢
  generalize wordGo (s.drop k) 8 (mayW ((d : Int) + 1)) 0 = q at *
  obtain ⟨n, ow⟩ := q
  cases ow with
  | none => simp at h
  | some w =>
   obtain ⟨hw, hn, hp⟩ := hspec
   have hww := (List.mem_filter.1 hw).1
   have hc := words_cnt w hww
   have hd1 : s.drop k = w.2.1 ++ s.drop (k + n) := by
    obtain ⟨t, ht⟩ := hp
    rw [← ht]
    congr 1
    have := congrArg (List.drop n) ht
    rw [← hn, List.drop_left, List.drop_drop] at this
    rw [this, hn]
   have hl := readL_shows s (readP s d) (d : Int) (fun k h => readP_shows s d k h) w.2.2.toNat 0 (k + n) []
   simp only at h ⊢
   generalize readL (readP s d) s w.2.2.toNat 0 (k + n) [] = q at *
   obtain ⟨k', ol⟩ := q
   cases ol with
   | none => simp at h
   | some l =>
    obtain ⟨l', h1, h2, h3, h4⟩ := hl l rfl
    simp only [List.nil_append] at h1
    subst h1
    simp only at h h4 ⊢
    have hr : rightT (mkT w.1 l) ((d + 1 : Nat) : Int) = true := by
     unfold mkT
     rw [right_iff]
     refine ⟨⟨w, hww, rfl, by omega⟩, by omega, fun a ha => ?_⟩
     have := h3 a ha
     rwa [show (((d + 1 : Nat) : Int)) - 1 = (d : Int) by omega]
    have hsep : sepB 0 = 40 := rfl
    by_cases h0 : w.2.2 = 0
    ·simp only [if_pos h0]
     have hl0 : l = [] := List.length_eq_zero_iff.1 (by omega)
     subst hl0
     refine ⟨hr, ?_⟩
     rw [hd1, h4]
     unfold mkT
     simp only [showT,gath_of w hww,showTs,List.length_nil,if_true,List.nil_append,List.append_nil]
    ·simp only [if_neg h0] at h ⊢
     have hl0 : l.length ≠ 0 := by omega
     cases hs : signB s k' 41 with
     | false => rw [hs] at h; simp at h
     | true =>
      simp only [if_true]
      refine ⟨hr, ?_⟩
      rw [hd1, h4, drop_next (r := s) (of_decide_eq_true hs), hsep]
      unfold mkT
      simp only [showT,gath_of w hww,if_neg hl0,List.append_assoc,List.cons_append,List.nil_append]
theorem readL_back (s : List UInt8) (rd : Nat → Nat × KT × Bool) : ∀ (l : List KT) (i k : Nat) (acc : List KT) (rest : List UInt8), (∀ a ∈ l, ∀ k rest, s.drop k = showT a ++ rest → rd k = (k + (showT a).length, cloneT a, true)) → s.drop k = showTs l (sepB i) ++ rest → readL rd s l.length i k acc = (k + (showTs l (sepB i)).length, some (acc ++ cloneTs l))
 | [], i, k, acc, rest, _, _ => by simp [readL, showTs, cloneTs]
 | a :: l, i, k, acc, rest, h, hd => by
  have hb : sepB (i + 1) = 44 := by simp [sepB]
  simp only [showTs,List.cons_append,List.append_assoc] at hd
  have hsk : s[k]? = some (sepB i) := by
   have : (s.drop k)[0]? = some (sepB i) := by rw [hd]; rfl
   rwa [List.getElem?_drop, Nat.add_zero] at this
  have hsg : signB s k (sepB i) = true := decide_eq_true hsk
  have hd1 : s.drop (k + 1) = showT a ++ (showTs l 44 ++ rest) := by
   have := congrArg (List.drop 1) hd
   rwa [List.drop_drop, List.drop_one, List.tail_cons] at this
  have hra := h a (by simp) (k + 1) _ hd1
  have hd2 : s.drop (k + 1 + (showT a).length) = showTs l (sepB (i + 1)) ++ rest := by
   have := congrArg (List.drop (showT a).length) hd1
   rwa [List.drop_drop, List.drop_left, ← hb] at this
  have ih := readL_back s rd l (i + 1) (k + 1 + (showT a).length) (acc ++ [cloneT a]) rest (fun x hx => h x (by simp [hx])) hd2
  simp only [List.length_cons,readL,hsg,if_true,hra,ih,hb,showTs,cloneTs,List.length_append,List.append_assoc,List.cons_append,List.nil_append]
  congr 1
  omega
theorem readP_back (s : List UInt8) : ∀ (d : Nat) (t : KT) (k : Nat) (rest : List UInt8), rightT t (d : Int) = true → s.drop k = showT t ++ rest → readP s d k = (k + (showT t).length, cloneT t, true)
 | 0, .mk kk ss args, k, rest, hr, hd => by
  rw [right_iff] at hr
  have := hr.2.1
  omega
 | d + 1, .mk kk ss args, k, rest, hr, hd => by
  rw [right_iff] at hr
  obtain ⟨⟨w, hw, rfl, hlen⟩, _, hargs⟩ := hr
  rw [show (((d + 1 : Nat) : Int)) - 1 = (d : Int) by omega] at hargs
  simp only [showT,gath_of w hw,List.append_assoc] at hd
  have hc := words_cnt w hw
  have hmay : w ∈ mayW ((d : Int) + 1) := by
   simp only [mayW,List.mem_filter,Bool.not_eq_true']
   refine ⟨hw, ?_⟩
   unfold outW
   by_cases h0 : 0 < w.2.2
   ·have hne : args ≠ [] := by
     intro h; subst h; simp at hlen; omega
    obtain ⟨a, ha⟩ := List.exists_mem_of_ne_nil _ hne
    have := hargs a ha
    obtain ⟨ka, sa, la⟩ := a
    rw [right_iff] at this
    have hd1 : decide ((d : Int) + 1 = 1) = false := decide_eq_false (by omega)
    rw [hd1, Bool.and_false]
   ·rw [decide_eq_false h0, Bool.false_and]
  have hwp : w.2.1 <+: s.drop k := by rw [hd]; exact List.prefix_append _ _
  have hspec := wordGo_spec (mayW ((d : Int) + 1)) (s.drop k) 8 0 (mayW ((d : Int) + 1)) (List.filter_eq_self.2 (fun w _ => by simp)).symm (mayW_ne _) (fun w hw => by have := word_len w (List.mem_filter.1 hw).1; omega) (Nat.zero_le _) (fun _ _ _ => Nat.zero_le _)
  simp only [readP]
  unfold word69
  generalize wordGo (s.drop k) 8 (mayW ((d : Int) + 1)) 0 = q at *
  obtain ⟨n, ow⟩ := q
  cases ow with
  | none => exact absurd hwp (hspec.1 w hmay)
  | some v =>
   obtain ⟨hv, hn, hvp⟩ := hspec
   have hvw := (List.mem_filter.1 hv).1
   have hvv : v = w := by
    rcases List.prefix_or_prefix_of_prefix hvp hwp with h | h
    ·exact words_free v hvw w hw h
    ·exact (words_free w hw v hvw h).symm
   subst hvv
   subst hn
   have hd1 : s.drop (k + v.2.1.length) = showTs args 40 ++ ((if args.length = 0 then [] else [41]) ++ rest) := by
    have := congrArg (List.drop v.2.1.length) hd
    rwa [List.drop_drop, List.drop_left] at this
   have hl := readL_back s (readP s d) args 0 (k + v.2.1.length) [] _ (fun a ha k rest h => readP_back s d a k rest (hargs a ha) h) hd1
   have hlt : v.2.2.toNat = args.length := by omega
   have hsep : sepB 0 = 40 := rfl
   simp only
   rw [hlt, hl]
   simp only [List.nil_append,hsep]
   have hcl : (cloneTs args).length = args.length := by rw [cloneTs_map]; simp
   have hmk : mkT v.1 (cloneTs args) = cloneT (.mk v.1 ss args) := by
    simp only [mkT,cloneT,hcl]
   by_cases h0 : v.2.2 = 0
   ·have hl0 : args.length = 0 := by omega
    rw [if_pos h0, hmk]
    simp only [showT,gath_of v hw,hl0,if_true,List.append_nil,List.length_append]
    congr 1
    omega
   ·have hl0 : args.length ≠ 0 := by omega
    rw [if_neg h0, hmk]
    rw [if_neg hl0] at hd1
    have hs41 : signB s (k + v.2.1.length + (showTs args 40).length) 41 = true := by
     have h1 := congrArg (List.drop (showTs args 40).length) hd1
     rw [List.drop_drop, List.drop_left] at h1
     have : (s.drop (k + v.2.1.length + (showTs args 40).length))[0]? = some 41 := by rw [h1]; rfl
     rw [List.getElem?_drop, Nat.add_zero] at this
     exact decide_eq_true this
    rw [hs41]
    simp only [if_true,showT,gath_of v hw,if_neg hl0,List.length_append,List.length_cons,List.length_nil]
    congr 1
    omega
theorem show_parse (s : List UInt8) (h : (parseP s).2.2 = 0) : rightT (parseP s).1 6 = true ∧ showT (parseP s).1 = s := by
 unfold parseP at h ⊢
 by_cases ho : (readP s 6 0).2.2 = true ∧ ¬ (readP s 6 0).1 < s.length
 ·rw [if_pos ho]
  obtain ⟨h1, h2⟩ := readP_shows s 6 0 ho.1
  refine ⟨h1, ?_⟩
  have h3 : s.drop (readP s 6 0).1 = [] := List.drop_eq_nil_iff.2 (by omega)
  rw [h3, List.append_nil, List.drop_zero] at h2
  exact h2.symm
 ·rw [if_neg ho] at h
  simp at h
end Go.Abs.Seat
end
section
set_option linter.unusedVariables false
set_option linter.unusedSimpArgs false
namespace Go.Abs.Seat
open Go.Proofs
theorem typ_shows (b : List UInt8) (p : Nat) (h : (typP b p).2.2 = false) : rightT (typP b p).1 6 = true ∧ b.drop p = showT (typP b p).1 ++ b.drop (typP b p).2.1 := by
 have hs := span_le b p
 have hcut : ∀ n, b.drop p = (b.drop p).take n ++ b.drop (p + n) := fun n => by
  rw [← List.drop_drop, List.take_append_drop]
 unfold typP at h ⊢
 split
 ·rename_i h1
  obtain ⟨a1, a2⟩ := show_parse _ h1
  refine ⟨a1, ?_⟩
  simp only
  rw [a2]
  have := hcut (spanB b p - p)
  rw [show p + (spanB b p - p) = spanB b p by omega] at this
  exact this
 ·rename_i h1
  rw [if_neg h1] at h
  simp only [Bool.not_eq_false',decide_eq_true_eq] at h
  obtain ⟨a1, a2⟩ := show_parse _ h
  refine ⟨a1, ?_⟩
  simp only
  rw [a2]
  exact hcut _
end Go.Abs.Seat
end
section
set_option linter.unusedVariables false
set_option linter.unusedSimpArgs false
namespace Go.Abs.Seat
open Go.Proofs
def Sec (s : List UInt8) (p q : Nat) (u : List UInt8) : Prop := ∃ v, s.drop p = v ++ s.drop q ∧ q = p + v.length ∧ stripQ false v = u ∧ inQ false v = false
theorem Sec.nil (s : List UInt8) (p : Nat) : Sec s p p [] := ⟨[], rfl, rfl, rfl, rfl⟩
theorem Sec.trans {s : List UInt8} {p q r : Nat} {u v : List UInt8} (h1 : Sec s p q u) (h2 : Sec s q r v) : Sec s p r (u ++ v) := by
 obtain ⟨a, a1, a2, a3, a4⟩ := h1
 obtain ⟨b, b1, b2, b3, b4⟩ := h2
 exact ⟨a ++ b, by rw [a1, b1, List.append_assoc], by rw [List.length_append]; omega, by rw [strip_app, a4, a3, b3], by rw [inQ_app, a4, b4]⟩
theorem drop_of {s w : List UInt8} {p : Nat} (h : ∀ i, i < w.length → s[p + i]? = w[i]?) : s.drop p = w ++ s.drop (p + w.length) := by
 apply List.ext_getElem?
 intro i
 rw [List.getElem?_drop]
 by_cases hi : i < w.length
 ·rw [List.getElem?_append_left hi]; exact h i hi
 ·rw [List.getElem?_append_right (by omega), List.getElem?_drop]
  congr 1; omega
theorem of_drop {s w r : List UInt8} {p : Nat} (h : s.drop p = w ++ r) (i : Nat) : s[p + i]? = (w ++ r)[i]? := by
 rw [← h, List.getElem?_drop]
def Pl (w : List UInt8) : Prop := ∀ c ∈ w, c ≠ 32 ∧ c ≠ 34
theorem strip_pl : ∀ {w : List UInt8}, Pl w → stripQ false w = w ∧ inQ false w = false
 | [], _ => ⟨rfl, rfl⟩
 | c :: l, h => by
  obtain ⟨h1, h2⟩ := h c (by simp)
  obtain ⟨a, b⟩ := strip_pl (w := l) fun x hx => h x (by simp [hx])
  simp only [stripQ,inQ]
  rw [if_neg (fun e => h1 e.1), if_neg h2, a, b]
  exact ⟨rfl, rfl⟩
theorem sec_pl {s w : List UInt8} {p : Nat} (h : s.drop p = w ++ s.drop (p + w.length)) (hw : Pl w) : Sec s p (p + w.length) w := ⟨w, h, rfl, (strip_pl hw).1, (strip_pl hw).2⟩
theorem strip_rep : ∀ n : Nat, stripQ false (List.replicate n 32) = [] ∧ inQ false (List.replicate n 32) = false
 | 0 => ⟨rfl, rfl⟩
 | n + 1 => by
  obtain ⟨a, b⟩ := strip_rep n
  rw [List.replicate_succ]
  simp only [stripQ,inQ]
  rw [if_pos (by decide), if_neg (by decide), a, b]
  exact ⟨rfl, rfl⟩
theorem sec_blank (s : List UInt8) (p : Nat) : Sec s p (skipB s p) [] := by
 have hle := skip_le s p
 have h := drop_of (s := s) (p := p) (w := List.replicate (skipB s p - p) (32 : UInt8)) fun i hi => by
  rw [List.length_replicate] at hi
  rw [List.getElem?_replicate, if_pos hi]
  exact skip_mid (p := p) (i := p + i) (by omega) (by omega)
 rw [List.length_replicate, show p + (skipB s p - p) = skipB s p by omega] at h
 exact ⟨_, h, by rw [List.length_replicate]; omega, (strip_rep _).1, (strip_rep _).2⟩
theorem sec_sign {s : List UInt8} {p : Nat} {c : UInt8} (hc : c ≠ 0 ∧ c ≠ 32 ∧ c ≠ 34) (h : (signP s p false c).2 = false) : Sec s p (signP s p false c).1 [c] := by
 have h1 := sign_ok h
 unfold signP at h
 simp only [Bool.false_eq_true,if_false] at h
 have hp : peekB s (skipB s p) = c := by
  split at h
  ·assumption
  ·simp at h
 rw [h1]
 have hd := drop_of (s := s) (p := skipB s p) (w := [c]) fun i hi => by
  obtain rfl : i = 0 := by simpa using hi
  have := peek_some (peek_lt (b := s) (p := skipB s p) (by rw [hp]; exact hc.1))
  rw [hp] at this
  simpa using this
 exact (sec_blank s p).trans (sec_pl hd fun x hx => by rw [List.mem_singleton.1 hx]; exact hc.2)
theorem strip_in : ∀ {w : List UInt8}, (∀ c ∈ w, c ≠ 34) → stripQ true w = w ∧ inQ true w = true
 | [], _ => ⟨rfl, rfl⟩
 | c :: l, h => by
  have h2 := h c (by simp)
  obtain ⟨a, b⟩ := strip_in (w := l) fun x hx => h x (by simp [hx])
  simp only [stripQ,inQ]
  rw [if_neg (by simp), if_neg h2, a, b]
  exact ⟨rfl, rfl⟩
theorem hexD_34 : ∀ x : Fin 16, hexD x.val ≠ 34 := by decide +kernel
theorem quoteC_34 (c : UInt8) : ∀ x ∈ quoteC c, x ≠ 34 := by
 intro x hx
 unfold quoteC at hx
 split at hx
 ·rename_i h
  rw [List.mem_singleton.1 hx]
  exact (pln_of h).2.2.1
 ·have hc := c.toNat_lt
  simp only [List.mem_cons,List.not_mem_nil,or_false] at hx
  rcases hx with rfl | rfl | rfl
  ·decide
  ·exact hexD_34 ⟨c.toNat / 16, by omega⟩
  ·exact hexD_34 ⟨c.toNat % 16, by omega⟩
theorem quoteL_34 : ∀ (l : List UInt8), ∀ x ∈ quoteL l, x ≠ 34
 | [], x, h => by simp [quoteL] at h
 | c :: l, x, h => by
  simp only [quoteL,List.mem_append] at h
  rcases h with h | h
  ·exact quoteC_34 c x h
  ·exact quoteL_34 l x h
theorem strip_quote (l : List UInt8) : stripQ false (quoteB l) = quoteB l ∧ inQ false (quoteB l) = false := by
 obtain ⟨a, b⟩ := strip_in (quoteL_34 l)
 have e : inQ true [34] = false := rfl
 have e2 : stripQ true [34] = [34] := rfl
 unfold quoteB
 simp only [stripQ,inQ]
 rw [if_neg (by decide), if_pos trivial]
 simp only [Bool.not_false,strip_app,inQ_app,a,b,e,e2,List.cons_append,List.nil_append,and_self]
theorem nib_hex : ∀ c : Fin 256, 0 ≤ nibZ (c.val : Int) → nibZ (c.val : Int) < 16 ∧ (hexD (nibZ (c.val : Int)).toNat).toNat = c.val := by decide +kernel
theorem nib_hex' (c : UInt8) (h : 0 ≤ nibZ (c.toNat : Int)) : nibZ (c.toNat : Int) < 16 ∧ hexD (nibZ (c.toNat : Int)).toNat = c := by
 obtain ⟨a, b⟩ := nib_hex ⟨c.toNat, c.toNat_lt⟩ h
 exact ⟨a, UInt8.toNat_inj.1 b⟩
theorem esc_text {s : List UInt8} {p : Nat} (h : (escP s p).2.2 = false) : (escP s p).2.1 = p + 2 ∧ quoteC (UInt8.ofNat (escP s p).1.toNat) = [92, peekB s p, peekB s (p + 1)] ∧ p + 1 < s.length := by
 have hl : 0 ≤ nibZ ((peekB s (p + 1)).toNat : Int) → p + 1 < s.length := fun h => peek_lt fun e => by rw [e, nib0] at h; simp at h
 unfold escP at h ⊢
 split at h
 ·simp at h
 ·rename_i h1
  rw [if_neg h1]
  split at h
  ·simp at h
  ·rename_i h2
   rw [if_neg h2]
   simp only [Bool.or_eq_true,not_or,Bool.not_eq_true,decide_eq_false_iff_not] at h2
   have h3 : 0 ≤ nibZ ((peekB s p).toNat : Int) := by
    unfold shut at h1
    simp only [Bool.or_eq_true,decide_eq_true_eq,not_or] at h1
    omega
   have h4 : 0 ≤ nibZ ((peekB s (p + 1)).toNat : Int) := by omega
   refine ⟨rfl, ?_, hl h4⟩
   obtain ⟨a1, a2⟩ := nib_hex' _ h3
   obtain ⟨b1, b2⟩ := nib_hex' _ h4
   have h5 := h2.2
   generalize nibZ ((peekB s p).toNat : Int) = x at *
   generalize nibZ ((peekB s (p + 1)).toNat : Int) = y at *
   obtain ⟨x', rfl⟩ := Int.eq_ofNat_of_zero_le h3
   obtain ⟨y', rfl⟩ := Int.eq_ofNat_of_zero_le h4
   have e : (UInt8.ofNat (16 * (x' : Int) + (y' : Int)).toNat).toNat = 16 * x' + y' := by
    rw [UInt8.toNat_ofNat']; omega
   simp only at a2 b2 ⊢
   unfold quoteC
   rw [e, if_neg (by
    rw [show ((16 * x' + y' : Nat) : Int) = 16 * (x' : Int) + (y' : Int) by omega, h5]; simp)]
   rw [show (16 * x' + y') / 16 = x' by omega, show (16 * x' + y') % 16 = y' by omega]
   simp only [Int.toNat_natCast] at a2 b2
   rw [a2, b2]
theorem strN_text (s : List UInt8) : ∀ (f : Nat) (out : List UInt8) (p : Nat), (strN s f out p).2.2 = false → out.length ≤ 256 → ∃ l, (strN s f out p).1 = out ++ l ∧ (out ++ l).length ≤ 256 ∧ s.drop p = (quoteL l ++ [34]) ++ s.drop (strN s f out p).2.1 ∧ (strN s f out p).2.1 = p + (quoteL l ++ [34]).length
 | 0, out, p, h, ho => by simp [strN] at h
 | f + 1, out, p, h, ho => by
  rw [strN_eq] at h ⊢
  by_cases h1 : peekB s p = 34
  ·rw [if_pos h1]
   have hd := drop_of (s := s) (p := p) (w := [34]) fun i hi => by
    obtain rfl : i = 0 := by simpa using hi
    have := peek_some (peek_lt (b := s) (p := p) (by rw [h1]; decide))
    rw [h1] at this
    simpa using this
   exact ⟨[], by simp, by simpa using ho, by simpa [quoteL] using hd, by simp [quoteL]⟩
  rw [if_neg h1] at h ⊢
  by_cases h2 : (decide (out.length = 256) || (!plnZ ((peekB s p).toNat : Int) && !decide (peekB s p = 92))) = true
  ·rw [if_pos h2] at h; simp at h
  rw [if_neg h2] at h ⊢
  simp only [Bool.or_eq_true,decide_eq_true_eq,not_or,Bool.not_eq_true,Bool.and_eq_false_iff,Bool.not_eq_false'] at h2
  obtain ⟨h2, h2'⟩ := h2
  by_cases h3 : peekB s p = 92
  ·rw [if_pos h3] at h ⊢
   by_cases h4 : (escP s (p + 1)).2.2 = true
   ·rw [if_pos h4] at h; simp at h
   rw [if_neg h4] at h ⊢
   obtain ⟨e1, e2, e3⟩ := esc_text (s := s) (p := p + 1) (by simpa using h4)
   obtain ⟨l, g1, g2, g3, g4⟩ := strN_text s f _ _ h (by simp only [List.length_append,List.length_cons,List.length_nil]; omega)
   refine ⟨UInt8.ofNat (escP s (p + 1)).1.toNat :: l, by rw [g1]; simp only [List.append_assoc,List.cons_append,List.nil_append], by simpa using g2, ?_, ?_⟩
   ·have hd := drop_of (s := s) (p := p) (w := [92, peekB s (p + 1), peekB s (p + 1 + 1)]) fun i hi => by
     have hi' : i = 0 ∨ i = 1 ∨ i = 2 := by simp only [List.length_cons,List.length_nil] at hi; omega
     rcases hi' with rfl | rfl | rfl
     ·have := peek_some (b := s) (p := p) (by omega)
      rw [h3] at this
      exact this
     ·exact peek_some (by omega)
     ·exact peek_some (by omega)
    rw [hd]
    simp only [quoteL,e2,List.append_assoc,List.length_cons,List.length_nil]
    rw [e1] at g3
    rw [show p + (0 + 1 + 1 + 1) = p + 1 + 2 by omega, g3, e1, List.append_assoc]
   ·rw [g4, e1]
    simp only [quoteL,e2,List.length_append,List.length_cons,List.length_nil]
    omega
  rw [if_neg h3] at h ⊢
  have hpl : plnZ ((peekB s p).toNat : Int) = true := by
   rcases h2' with h | h
   ·exact h
   ·exact absurd h (by simpa using h3)
  have hne : peekB s p ≠ 0 := fun e => by rw [e] at hpl; revert hpl; decide
  have hq : quoteC (peekB s p) = [peekB s p] := by unfold quoteC; rw [if_pos hpl]
  obtain ⟨l, g1, g2, g3, g4⟩ := strN_text s f _ _ h (by simp only [List.length_append,List.length_cons,List.length_nil]; omega)
  refine ⟨peekB s p :: l, by rw [g1]; simp only [List.append_assoc,List.cons_append,List.nil_append], by simpa using g2, ?_, ?_⟩
  ·have hd := drop_of (s := s) (p := p) (w := [peekB s p]) fun i hi => by
    obtain rfl : i = 0 := by simpa using hi
    exact peek_some (peek_lt hne)
   rw [hd]
   simp only [quoteL,hq,List.append_assoc,List.length_cons,List.length_nil]
   rw [show p + (0 + 1) = p + 1 by omega, g3, List.append_assoc]
  ·rw [g4]
   simp only [quoteL,hq,List.length_append,List.length_cons,List.length_nil]
   omega
theorem str_text {s : List UInt8} {k : Nat} (hk : peekB s k = 34) (h : (strP s (k + 1)).2.2 = false) : ∃ txt, ¬ 256 < txt.length ∧ (strP s (k + 1)).1 = mkN textW 0 txt zeroT [] ∧ Sec s k (strP s (k + 1)).2.1 (quoteB txt) := by
 obtain ⟨a1, a2, a3⟩ := str_at s (k + 1)
 rw [a2] at h
 obtain ⟨l, g1, g2, g3, g4⟩ := strN_text s _ _ _ h (by simp)
 rw [List.nil_append] at g1 g2
 refine ⟨l, by omega, by rw [a3 h, g1], ?_⟩
 have hd := drop_of (s := s) (p := k) (w := [34]) fun i hi => by
  obtain rfl : i = 0 := by simpa using hi
  have := peek_some (peek_lt (b := s) (p := k) (by rw [hk]; decide))
  rw [hk] at this
  simpa using this
 have hs := strip_quote l
 rw [a1]
 refine ⟨quoteB l, ?_, ?_, hs.1, hs.2⟩
 ·rw [hd, show k + ([34] : List UInt8).length = k + 1 from rfl, g3]
  simp only [quoteB,List.cons_append,List.nil_append,List.append_assoc]
 ·rw [g4]
  simp only [quoteB,List.length_append,List.length_cons,List.length_nil]
  omega
theorem numN_text (s : List UInt8) (most : Nat) : ∀ (f n p : Nat), (numN s most f n p).2.2 = false → ∃ l, (∀ c ∈ l, isDig c) ∧ (numN s most f n p).1 = foldD l n ∧ s.drop p = l ++ s.drop (numN s most f n p).2.1 ∧ (numN s most f n p).2.1 = p + l.length ∧ (l ≠ [] → 0 < n)
 | 0, n, p, h => ⟨[], by simp, rfl, rfl, rfl, by simp⟩
 | f + 1, n, p, h => by
  rw [numN_eq] at h ⊢
  by_cases h1 : digZ ((peekB s p).toNat : Int) = true
  ·rw [if_pos h1] at h ⊢
   by_cases h2 : 0 < n ∧ n ≤ (most - ((peekB s p).toNat - 48)) / 10
   ·rw [if_pos h2] at h ⊢
    obtain ⟨l, g1, g2, g3, g4, g5⟩ := numN_text s most f _ _ h
    have hr := dig_range h1
    have hne : peekB s p ≠ 0 := fun e => by rw [e] at hr; revert hr; decide
    have hd := drop_of (s := s) (p := p) (w := [peekB s p]) fun i hi => by
     obtain rfl : i = 0 := by simpa using hi
     exact peek_some (peek_lt hne)
    refine ⟨peekB s p :: l, ?_, by rw [g2]; rfl, ?_, ?_, fun _ => h2.1⟩
    ·intro c hc
     rcases List.mem_cons.1 hc with rfl | hc
     ·exact ⟨by omega, by omega⟩
     ·exact g1 c hc
    ·rw [hd, show p + [peekB s p].length = p + 1 from rfl, g3]; rfl
    ·rw [g4, List.length_cons]; omega
   ·rw [if_neg h2] at h; simp at h
  ·rw [if_neg h1]
   exact ⟨[], by simp, rfl, rfl, rfl, by simp⟩
theorem foldD_pos : ∀ (c : UInt8) (l : List UInt8), 49 ≤ c.toNat → 1 ≤ foldD (c :: l) 0 := fun c l h => by
 have := foldD_ge l (10 * 0 + (c.toNat - 48))
 simp only [foldD]
 omega
theorem digN_of : ∀ (f : Nat) (c : UInt8) (l : List UInt8), (∀ x ∈ c :: l, isDig x) → (49 ≤ c.toNat ∨ l = []) → foldD (c :: l) 0 < 10 ^ f → 0 < f → digN f (foldD (c :: l) 0) = c :: l
 | 0, c, l, hd, hh, hb, hf => by omega
 | f + 1, c, l, hd, hh, hb, hf => by
  have back : ∀ x : UInt8, isDig x → UInt8.ofNat (48 + (x.toNat - 48)) = x := fun x hx => by
   unfold isDig at hx
   rw [show 48 + (x.toNat - 48) = x.toNat by omega]
   exact UInt8.ofNat_toNat
  rcases List.eq_nil_or_concat l with rfl | ⟨l', x, rfl⟩
  ·have hc := hd c (by simp)
   have := back c hc
   unfold isDig at hc
   have e : foldD [c] 0 = c.toNat - 48 := by simp [foldD]
   rw [e]
   unfold digN
   rw [if_pos (by omega), this]
  ·rw [List.concat_eq_append] at *
   have hc : 49 ≤ c.toNat := by
    rcases hh with h | h
    ·exact h
    ·simp at h
   have hx := hd x (by simp)
   have hbk := back x hx
   have hp := foldD_pos c l' hc
   have e : foldD (c :: (l' ++ [x])) 0 = 10 * foldD (c :: l') 0 + (x.toNat - 48) := by
    rw [← List.cons_append, foldD_app]; rfl
   unfold isDig at hx
   rw [e] at hb ⊢
   have hf0 : 0 < f := by
    rcases Nat.eq_zero_or_pos f with rfl | h1
    ·simp only [Nat.zero_add,Nat.pow_one] at hb; omega
    ·exact h1
   have ih := digN_of f c l' (fun y hy => hd y (by
    rcases List.mem_cons.1 hy with rfl | hy
    ·simp
    ·simp [hy])) (.inl hc) (by rw [Nat.pow_succ] at hb; omega) hf0
   unfold digN
   rw [if_neg (by omega), show (10 * foldD (c :: l') 0 + (x.toNat - 48)) / 10 = foldD (c :: l') 0 by omega, show (10 * foldD (c :: l') 0 + (x.toNat - 48)) % 10 = x.toNat - 48 by omega, ih, hbk]
   rfl
theorem dig_pl {l : List UInt8} (h : ∀ x ∈ l, isDig x) : Pl l := fun c hc => letdig (h c hc)
theorem num_text {s : List UInt8} {k : Nat} (h : (numP s k).2.2 = false) : ∃ n : Int, (-9223372036854775808 ≤ n ∧ n ≤ 9223372036854775807) ∧ (numP s k).1 = mkN intW n [] zeroT [] ∧ Sec s k (numP s k).2.1 (itoaN n) := by
 rw [numP_eq] at h ⊢
 have key : ∀ (neg : Bool) (p1 : Nat), (numQ s neg p1).2.2 = false → ∃ c l, (∀ x ∈ c :: l, isDig x) ∧ (49 ≤ c.toNat ∨ l = [] ∧ neg = false) ∧ (numQ s neg p1).1 = mkN intW (sgnN neg (foldD (c :: l) 0)) [] zeroT [] ∧ foldD (c :: l) 0 ≤ mostN neg ∧ s.drop p1 = (c :: l) ++ s.drop (numQ s neg p1).2.1 ∧ (numQ s neg p1).2.1 = p1 + (c :: l).length := by
  intro neg p1 hb
  unfold numQ at hb ⊢
  by_cases h1 : (!digZ ((peekB s p1).toNat : Int) || (decide (peekB s p1 = 48) && neg)) = true
  ·rw [if_pos h1] at hb; simp at hb
  rw [if_neg h1] at hb ⊢
  simp only [Bool.or_eq_true,Bool.not_eq_true',Bool.and_eq_true,decide_eq_true_eq,not_or,Bool.not_eq_false] at h1
  have hr := dig_range h1.1
  have hbd := numN_bound s (mostN neg) (s.length - (p1 + 1)) ((peekB s p1).toNat - 48) (p1 + 1) (by unfold mostN; split <;> omega)
  have hx := numN_text s (mostN neg) (s.length - (p1 + 1)) ((peekB s p1).toNat - 48) (p1 + 1)
  generalize numN s (mostN neg) (s.length - (p1 + 1)) ((peekB s p1).toNat - 48) (p1 + 1) = r at *
  obtain ⟨m, q, bd⟩ := r
  cases bd with
  | true => simp at hb
  | false =>
   obtain ⟨l, g1, g2, g3, g4, g5⟩ := hx rfl
   simp only at g2 g3 g4 hbd ⊢
   have hne : peekB s p1 ≠ 0 := fun e => by rw [e] at hr; revert hr; decide
   have hd := drop_of (s := s) (p := p1) (w := [peekB s p1]) fun i hi => by
    obtain rfl : i = 0 := by simpa using hi
    exact peek_some (peek_lt hne)
   have ef : foldD (peekB s p1 :: l) 0 = m := by rw [g2]; simp only [foldD,Nat.mul_zero,Nat.zero_add]
   refine ⟨peekB s p1, l, ?_, ?_, by rw [ef], by rw [ef]; exact hbd, ?_, by rw [g4, List.length_cons]; omega⟩
   ·intro c hc
    rcases List.mem_cons.1 hc with rfl | hc
    ·exact ⟨by omega, by omega⟩
    ·exact g1 c hc
   ·by_cases h48 : peekB s p1 = 48
    ·right
     refine ⟨?_, by
      cases neg with
      | false => rfl
      | true => exact absurd ⟨h48, rfl⟩ h1.2⟩
     rcases List.eq_nil_or_concat l with h | ⟨l', x, h⟩
     ·exact h
     ·have := g5 (by rw [h]; simp)
      rw [h48] at this
      exact absurd this (by decide)
    ·left
     have : (peekB s p1).toNat ≠ 48 := fun e => h48 (UInt8.toNat_inj.1 e)
     omega
   ·rw [hd, show p1 + [peekB s p1].length = p1 + 1 from rfl, g3]; rfl
 by_cases hn : peekB s k = 45
 ·rw [decide_eq_true hn] at h ⊢
  simp only [if_true] at h ⊢
  obtain ⟨c, l, k1, k2, k3, k4, k5, k6⟩ := key true (k + 1) h
  have hc : 49 ≤ c.toNat := by
   rcases k2 with h | h
   ·exact h
   ·simp at h
  have hp := foldD_pos c l hc
  unfold mostN at k4
  simp only [if_true] at k4
  have hdg := digN_of 20 c l k1 (.inl hc) (by omega) (by decide)
  refine ⟨-((foldD (c :: l) 0 : Nat) : Int), ⟨by omega, by omega⟩, by rw [k3]; rfl, ?_⟩
  have hit : itoaN (-((foldD (c :: l) 0 : Nat) : Int)) = 45 :: c :: l := by
   unfold itoaN
   rw [if_pos (by omega), Int.natAbs_neg, Int.natAbs_natCast, hdg]
  rw [hit]
  have hd := drop_of (s := s) (p := k) (w := [45]) fun i hi => by
   obtain rfl : i = 0 := by simpa using hi
   have := peek_some (peek_lt (b := s) (p := k) (by rw [hn]; decide))
   rw [hn] at this
   simpa using this
  have hw : Pl (45 :: c :: l) := fun x hx => by
   rcases List.mem_cons.1 hx with rfl | hx
   ·decide
   ·exact letdig (k1 x hx)
  refine ⟨45 :: c :: l, ?_, by rw [k6]; simp only [List.length_cons]; omega, (strip_pl hw).1, (strip_pl hw).2⟩
  rw [hd, show k + ([45] : List UInt8).length = k + 1 from rfl, k5]; rfl
 ·rw [decide_eq_false hn] at h ⊢
  simp only [Bool.false_eq_true,if_false] at h ⊢
  obtain ⟨c, l, k1, k2, k3, k4, k5, k6⟩ := key false k h
  unfold mostN at k4
  simp only [Bool.false_eq_true,if_false] at k4
  have hdg := digN_of 20 c l k1 (by
   rcases k2 with h | h
   ·exact .inl h
   ·exact .inr h.1) (by omega) (by decide)
  refine ⟨((foldD (c :: l) 0 : Nat) : Int), ⟨by omega, by omega⟩, by rw [k3]; rfl, ?_⟩
  have hit : itoaN ((foldD (c :: l) 0 : Nat) : Int) = c :: l := by
   unfold itoaN
   rw [if_neg (by omega), Int.toNat_natCast, hdg]
  rw [hit]
  exact ⟨c :: l, k5, k6, (strip_pl (dig_pl k1)).1, (strip_pl (dig_pl k1)).2⟩
theorem nam_ne {c : UInt8} (h : namZ (c.toNat : Int) = true) : c ≠ 32 ∧ c ≠ 34 ∧ c ≠ 40 ∧ c ≠ 41 ∧ c ≠ 44 :=
 ⟨fun e => by rw [e] at h; revert h; decide, fun e => by rw [e] at h; revert h; decide, fun e => by rw [e] at h; revert h; decide, fun e => by rw [e] at h; revert h; decide, fun e => by rw [e] at h; revert h; decide⟩
theorem nm_pl {w : List UInt8} (h : Nm w) : Pl w := fun c hc => by
 obtain ⟨i, hi⟩ := List.mem_iff_getElem?.1 hc
 have := nam_ne (h.all i c hi)
 exact ⟨this.1, this.2.1⟩
theorem word_sec {s : List UInt8} {k : Nat} (hk : k ≤ s.length) (h : k < runB s k) : Nm (wordB s k) ∧ Sec s k (runB s k) (wordB s k) := by
 have hnm := word_nm hk h
 have hl := wordB_len hk
 have hd : s.drop k = wordB s k ++ s.drop (k + (wordB s k).length) := by
  rw [hl]
  unfold wordB
  rw [← List.drop_drop, List.take_append_drop]
 have := sec_pl hd (nm_pl hnm)
 rw [hl, show k + (runB s k - k) = runB s k by omega] at this
 exact ⟨hnm, this⟩
end Go.Abs.Seat
end
