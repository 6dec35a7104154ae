/- Part 7 of what the claim rests on. -/
import Derived.Test.YtobnhbbcegeljaaDoorStringsA
import Derived.Test.YtobnhbbcegeljaaDoorStringsB
import Derived.Test.YtobnhbbcegeljaaDoorStringsC
import Derived.Test.YtobnhbbcegeljaaDoorStringsD
import Derived.Test.YtobnhbbcegeljaaDoorStringsE
import Derived.Test.YtobnhbbcegeljaaDoorStringsF
section
set_option linter.unusedVariables false
set_option linter.unusedSimpArgs false
namespace Go.Abs.Seat
open Go.Proofs
theorem gath_len {tid : TypeId} {s n : Nat} {v : AV} {H : Heap} {es : List (List Dat)} (h : Gath tid s n v H es) : lenA v = some es.length := by
 rcases h with ⟨rfl, rfl⟩ | ⟨h1, tok, h2, rfl, h4⟩ <;> rfl
theorem tl35_all (b : List UInt8) (hb : b.length ≤ 2305843009213693952) (ir N : Nat) (hne : ir ≠ N + 1) (w ps : List UInt8) (i : Nat) (hi : i ≤ 100) (q : Nat) (hq : q ≤ b.length) (bad : Bool) (st : St) (tm : List AV) (H : Heap) (hlen : tm.length = 112) (h0 : tm.getD 0 undefA = .ptr ir 0 0) (h2 : tm.getD 2 undefA = .im (.str ps)) (h9 : tm.getD 9 undefA = .ptr (N + 1) 0 0) (h11 : tm.getD 11 undefA = .im (.int .i64 (i : Int)))
  (hir : H[ir]? = some (objS b q bad)) (hnd : NodeAt 27 (N + 2) (N + 1) w st H) {R : Type} (K : AEx → List AV → Heap → Option R) :
  ∃ tm' H' q', exec0 L Λ tl35 tm H K = K .normal tm' H' ∧ H' = H.set ir (objS b q' bad) ∧ tm'.length = 112 ∧ Regs [0, 1, 2, 3, 8, 9, 10] tm tm' ∧ tm'.getD 11 undefA = .im (.int .i64 (if (!bad && moreX b (decide (ps = [43])) st q) = true then (i : Int) - 1 else (i : Int))) ∧ (bad = true → q' = q) ∧ (q' = q ∨ q' = skipB b q) := by
 have hirl := (List.getElem?_eq_some_iff.1 hir).1
 have hself : H = H.set ir (objS b q bad) := (set_same hir).symm
 obtain ⟨k, y, v, o1, hty, hG⟩ := hnd
 have hlv := gath_len hG
 rw [List.length_map] at hlv
 have c1 := s19' (b := b) hirl (by omega) hq bad
 rw [← hself] at c1
 have c2 := s29' (b := b) hirl (by omega) (skipB b q) bad
 have hsub : IntKind.i64.wrap ((i : Int) - 1) = (i : Int) - 1 := Go.Abs.Seat.wrap_small _ (by omega)
 have e64 : decide ((st.2.2.length : Int) < 64) = decide (st.2.2.length < 64) := by
  by_cases h : st.2.2.length < 64
  ·rw [decide_eq_true h, decide_eq_true (by omega)]
  ·rw [decide_eq_false h, decide_eq_false (by omega)]
 have e44 : decide (((peekB b (skipB b q)).toNat : Int) = 44) = decide (peekB b (skipB b q) = 44) := byte_eq _ 44
 unfold moreX
 simp only [objS] at hir c1 c2
 rcases Bool.eq_false_or_eq_true (decide (ps = [43])) with e1 | e1
 ·cases bad with
  | true =>
   simp only [Bool.not_true,Bool.false_and,Bool.false_eq_true,if_false]
   simp only [tl35,B0,B1,B2,List.replicate,Nat.reduceAdd,Nat.reduceSub,Nat.reduceLeDiff,Nat.reduceLT,Nat.reduceEqDiff,reduceCtorEq,Int.reduceEq,Int.reduceLT,Int.reduceLE,z_ops,z_nil,z_cons,z_guard,z_some,z_drop,z_do,z_not,z_not0,pairK,forall_eq_or_imp,stays,loadOf,List.reverse_cons,List.reverse_nil,List.mem_cons,List.not_mem_nil,or_false,forall_eq,true_or,or_true,Bool.true_and,hlen,h0,h2,h9,h11,hir,e1]
   refine ⟨_, _, q, rfl, hself, by simp only [List.length_set,hlen], ?_, ?_, fun _ => rfl, .inl rfl⟩
   ·intro j hj
    simp only [List.mem_cons,List.not_mem_nil,or_false] at hj
    rcases hj with rfl | rfl | rfl | rfl | rfl | rfl | rfl <;> simp only [B3,Nat.reduceLT,Nat.reduceEqDiff,hlen]
   ·simp only [B3,Nat.reduceLT,Nat.reduceEqDiff,hlen,h11]
  | false =>
   rcases Bool.eq_false_or_eq_true (decide (st.2.2.length < 64)) with e2 | e2
   ·rcases Bool.eq_false_or_eq_true (decide (peekB b (skipB b q) = 44)) with e3 | e3
    ·simp only [e1,e2,e3,Bool.not_false,Bool.and_self,if_true]
     simp only [tl35,B0,B1,B2,List.replicate,Nat.reduceAdd,Nat.reduceSub,Nat.reduceLeDiff,Nat.reduceLT,Nat.reduceEqDiff,reduceCtorEq,Int.reduceEq,Int.reduceLT,Int.reduceLE,z_ops,z_nil,z_cons,z_guard,z_some,z_drop,z_do,z_not,z_not0,pairK,forall_eq_or_imp,stays,loadOf,List.reverse_cons,List.reverse_nil,List.mem_cons,List.not_mem_nil,or_false,forall_eq,true_or,or_true,Bool.true_and,hlen,h0,h2,h9,h11,hir,o1,hlv,e64,e44,e1,e2,e3,c1,c2,hsub]
     refine ⟨_, _, skipB b q, rfl, rfl, by simp only [List.length_set,hlen], ?_, ?_, fun h => by simp at h, .inr rfl⟩
     ·intro j hj
      simp only [List.mem_cons,List.not_mem_nil,or_false] at hj
      rcases hj with rfl | rfl | rfl | rfl | rfl | rfl | rfl <;> simp only [B3,Nat.reduceLT,Nat.reduceEqDiff,hlen]
     ·simp only [B3,Nat.reduceLT,Nat.reduceEqDiff,hlen,h11]
    ·simp only [e1,e2,e3,Bool.not_false,Bool.and_self,Bool.and_false,Bool.false_eq_true,if_false]
     simp only [tl35,B0,B1,B2,List.replicate,Nat.reduceAdd,Nat.reduceSub,Nat.reduceLeDiff,Nat.reduceLT,Nat.reduceEqDiff,reduceCtorEq,Int.reduceEq,Int.reduceLT,Int.reduceLE,z_ops,z_nil,z_cons,z_guard,z_some,z_drop,z_do,z_not,z_not0,pairK,forall_eq_or_imp,stays,loadOf,List.reverse_cons,List.reverse_nil,List.mem_cons,List.not_mem_nil,or_false,forall_eq,true_or,or_true,Bool.true_and,hlen,h0,h2,h9,h11,hir,o1,hlv,e64,e44,e1,e2,e3,c1,c2,hsub]
     refine ⟨_, _, skipB b q, rfl, rfl, by simp only [List.length_set,hlen], ?_, ?_, fun h => by simp at h, .inr rfl⟩
     ·intro j hj
      simp only [List.mem_cons,List.not_mem_nil,or_false] at hj
      rcases hj with rfl | rfl | rfl | rfl | rfl | rfl | rfl <;> simp only [B3,Nat.reduceLT,Nat.reduceEqDiff,hlen]
     ·simp only [B3,Nat.reduceLT,Nat.reduceEqDiff,hlen,h11]
   ·simp only [e1,e2,Bool.not_false,Bool.and_self,Bool.false_and,Bool.and_false,Bool.false_eq_true,if_false]
    simp only [tl35,B0,B1,B2,List.replicate,Nat.reduceAdd,Nat.reduceSub,Nat.reduceLeDiff,Nat.reduceLT,Nat.reduceEqDiff,reduceCtorEq,Int.reduceEq,Int.reduceLT,Int.reduceLE,z_ops,z_nil,z_cons,z_guard,z_some,z_drop,z_do,z_not,z_not0,pairK,forall_eq_or_imp,stays,loadOf,List.reverse_cons,List.reverse_nil,List.mem_cons,List.not_mem_nil,or_false,forall_eq,true_or,or_true,Bool.true_and,hlen,h0,h2,h9,h11,hir,o1,hlv,e64,e1,e2]
    refine ⟨_, _, q, rfl, hself, by simp only [List.length_set,hlen], ?_, ?_, fun h => rfl, .inl rfl⟩
    ·intro j hj
     simp only [List.mem_cons,List.not_mem_nil,or_false] at hj
     rcases hj with rfl | rfl | rfl | rfl | rfl | rfl | rfl <;> simp only [B3,Nat.reduceLT,Nat.reduceEqDiff,hlen]
    ·simp only [B3,Nat.reduceLT,Nat.reduceEqDiff,hlen,h11]
 ·simp only [e1,Bool.false_and,Bool.and_false,Bool.false_eq_true,if_false]
  simp only [tl35,B0,B1,B2,List.replicate,Nat.reduceAdd,Nat.reduceSub,Nat.reduceLeDiff,Nat.reduceLT,Nat.reduceEqDiff,reduceCtorEq,Int.reduceEq,Int.reduceLT,Int.reduceLE,z_ops,z_nil,z_cons,z_guard,z_some,z_drop,z_do,z_not,z_not0,pairK,forall_eq_or_imp,stays,loadOf,List.reverse_cons,List.reverse_nil,List.mem_cons,List.not_mem_nil,or_false,forall_eq,true_or,or_true,Bool.true_and,hlen,h0,h2,h9,h11,hir,e1]
  refine ⟨_, _, q, rfl, hself, by simp only [List.length_set,hlen], ?_, ?_, fun h => rfl, .inl rfl⟩
  ·intro j hj
   simp only [List.mem_cons,List.not_mem_nil,or_false] at hj
   rcases hj with rfl | rfl | rfl | rfl | rfl | rfl | rfl <;> simp only [B3,Nat.reduceLT,Nat.reduceEqDiff,hlen]
  ·simp only [B3,Nat.reduceLT,Nat.reduceEqDiff,hlen,h11]
theorem tl35_elim {R : Type} {P : Option R → Prop} {b : List UInt8} {ir : Nat} {ps : List UInt8} {i q : Nat} {bad : Bool} {st : St} {tm : List AV} {H : Heap} {K : AEx → List AV → Heap → Option R}
  (h : ∃ tm' H' q', exec0 L Λ tl35 tm H K = K .normal tm' H' ∧ H' = H.set ir (objS b q' bad) ∧ tm'.length = 112 ∧ Regs [0, 1, 2, 3, 8, 9, 10] tm tm' ∧ tm'.getD 11 undefA = .im (.int .i64 (if (!bad && moreX b (decide (ps = [43])) st q) = true then (i : Int) - 1 else (i : Int))) ∧ (bad = true → q' = q) ∧ (q' = q ∨ q' = skipB b q))
  (hP : ∀ tm' q', tm'.length = 112 → Regs [0, 1, 2, 3, 8, 9, 10] tm tm' → tm'.getD 11 undefA = .im (.int .i64 (if (!bad && moreX b (decide (ps = [43])) st q) = true then (i : Int) - 1 else (i : Int))) → (bad = true → q' = q) → (q' = q ∨ q' = skipB b q) → P (K .normal tm' (H.set ir (objS b q' bad)))) : P (exec0 L Λ tl35 tm H K) := by
 obtain ⟨tm', H', q', h1, rfl, h2, h3, h4, h5, h6⟩ := h
 rw [h1]
 exact hP tm' q' h2 h3 h4 h5 h6
theorem But2.refl {n ir id : Nat} {H : Heap} : But2 n ir id H H := ⟨Nat.le_refl _, fun _ _ _ _ => rfl⟩
theorem But2.trans {n ir id : Nat} {A B C : Heap} (h : But2 n ir id A B) (h2 : But2 n ir id B C) : But2 n ir id A C :=
 ⟨Nat.le_trans h.1 h2.1, fun i a b c => (h2.2 i a b c).trans (h.2 i a b c)⟩
theorem But2.set {n ir id : Nat} {A : Heap} (o : HO) : But2 n ir id A (A.set ir o) := ⟨by simp, fun i _ h _ => List.getElem?_set_ne (fun e => h e.symm)⟩
theorem Regs.trans {l : List Nat} {a b c : List AV} (h : Regs l a b) (h2 : Regs l b c) : Regs l a c := fun j hj => (h2 j hj).trans (h j hj)
theorem Regs.sub {l l' : List Nat} {a b : List AV} (h : Regs l a b) (hl : ∀ j ∈ l', j ∈ l) : Regs l' a b := fun j hj => h j (hl j hj)
def Gone (b w : List UInt8) (ir N : Nat) (tm : List AV) (H : Heap) (r : St × Nat × Bool) (e : AEx) (tm' : List AV) (H' : Heap) : Prop :=
 e = .exit 0 ∧ tm'.length = 112 ∧ Regs [0, 1, 2, 3, 8, 9] tm tm' ∧ But2 (N + 2) ir (N + 1) H H' ∧ ∃ q' st', H'[ir]? = some (objS b q' r.2.2) ∧ NodeAt 27 (N + 2) (N + 1) w st' H' ∧ q' ≤ b.length ∧ (r.2.2 = true → q' = r.2.1) ∧ (r.2.2 = false → st' = r.1 ∧ ∀ c, signP b q' false c = signP b r.2.1 false c)
theorem Gone.before {b w : List UInt8} {ir N : Nat} {tm tm0 : List AV} {H H0 : Heap} {r : St × Nat × Bool} {e : AEx} {tm' : List AV} {H' : Heap} (h : Gone b w ir N tm H r e tm' H') (ht : Regs [0, 1, 2, 3, 8, 9] tm0 tm) (hh : But2 (N + 2) ir (N + 1) H0 H) : Gone b w ir N tm0 H0 r e tm' H' :=
 ⟨h.1, h.2.1, ht.trans h.2.2.1, hh.trans h.2.2.2.1, h.2.2.2.2⟩
theorem l35_stop {b w ps : List UInt8} {ir N : Nat} {z : Int} {tm : List AV} {H : Heap} {q : Nat} {st : St} {r : St × Nat × Bool} (hr : r.2 = (q, true)) (hq : q ≤ b.length) (hlen : tm.length = 112) (h0 : tm.getD 0 undefA = .ptr ir 0 0) (h2 : tm.getD 2 undefA = .im (.str ps)) (h11 : tm.getD 11 undefA = .im (.int .i64 z)) (hir : H[ir]? = some (objS b q true)) (hnd : NodeAt 27 (N + 2) (N + 1) w st H) :
  ∃ e tm' H', Λ c35_0 tm H = some (e, tm', H') ∧ Gone b w ir N tm H r e tm' H' := by
 have hir' := hir
 simp only [objS] at hir
 have fin : ∀ tm', tm'.length = 112 → Regs [0, 1, 2, 3, 8, 9] tm tm' → Gone b w ir N tm H r (.exit 0) tm' H := fun tm' h1 h2 => by
  refine ⟨rfl, h1, h2, .refl, q, st, ?_, hnd, hq, fun _ => by rw [hr], fun h => by rw [hr] at h; simp at h⟩
  rw [hr]; exact hir'
 rw [l35_0, cut35]
 rcases Bool.eq_false_or_eq_true (decide (z < (ps.length : Int))) with e1 | e1
 all_goals simp only [T35,B0,B1,B2,List.replicate,Nat.reduceAdd,Nat.reduceSub,Nat.reduceLeDiff,Nat.reduceLT,Nat.reduceEqDiff,reduceCtorEq,Int.reduceEq,Int.reduceLT,Int.reduceLE,lenA,hlen,h0,h2,h11,hir,e1]
 all_goals refine ⟨_, _, _, rfl, fin _ (by simp only [List.length_set,hlen]) ?_⟩
 all_goals
  intro j hj
  simp only [List.mem_cons,List.not_mem_nil,or_false] at hj
  rcases hj with rfl | rfl | rfl | rfl | rfl | rfl <;> simp only [B3,Nat.reduceLT,Nat.reduceEqDiff,hlen]
theorem item_kids (rd : Nat → NT × Nat × Bool) (b : List UInt8) (c : UInt8) (st : St) (p : Nat) : (itemX rd b c st p).1.2.2.length ≤ st.2.2.length + 1 := by
 unfold itemX
 split
 ·split <;> simp
 ·split
  ·simp
  ·split <;> simp
theorem item_kids2 (rd : Nat → NT × Nat × Bool) (b : List UInt8) (c : UInt8) (st : St) (p : Nat) : st.2.2.length ≤ (itemX rd b c st p).1.2.2.length := by
 unfold itemX
 split
 ·split <;> simp
 ·split
  ·simp
  ·split <;> simp
theorem item_kids3 (rd : Nat → NT × Nat × Bool) (b : List UInt8) (c : UInt8) (st : St) (p : Nat) (hc : c = 43) : (itemX rd b c st p).1.2.2.length = st.2.2.length + 1 := by
 unfold itemX
 rw [if_neg (by rw [hc]; decide), if_neg (by rw [hc]; decide), if_neg (by rw [hc]; decide)]
 simp
theorem l35 (b : List UInt8) (hb : b.length ≤ 2305843009213693952) (ir N : Nat) (hirN : ir < N) (w ps : List UInt8) (hps : ps.length ≤ 5) (d d' : Int) (hd : IntKind.i64.wrap (d - 1) = d') (rd : Nat → NT × Nat × Bool) (hrdl : ∀ p, p ≤ b.length → (rd p).2.1 ≤ b.length)
  (hcall : ∀ c ∈ ps, isE c = true → ∀ (p : Nat) (H : Heap), p ≤ b.length → H[ir]? = some (objS b p false) → ∃ nd, L 18 [.ptr ir 0 0, .im (.int .i64 d')] H = some (.im (.agg (encN nd)), H.set ir (objS b (rd p).2.1 (rd p).2.2)) ∧ ((rd p).2.2 = false → nd = (rd p).1)) :
  ∀ (f : Nat) (mark : UInt8) (i : Nat) (cs : List UInt8) (st : St) (p p' : Nat) (tm : List AV) (H : Heap), mark ≠ 0 → ps.drop i = cs → i ≤ ps.length → cs.length + (64 - st.2.2.length) ≤ f → st.2.2.length + cs.length ≤ 69 → p ≤ b.length → p' ≤ b.length → (∀ c, signP b p' false c = signP b p false c) →
   tm.length = 112 → tm.getD 0 undefA = .ptr ir 0 0 → tm.getD 2 undefA = .im (.str ps) → tm.getD 3 undefA = .im (.int .i64 d) → tm.getD 9 undefA = .ptr (N + 1) 0 0 → tm.getD 10 undefA = .im (.int .u8 (mark.toNat : Int)) → tm.getD 11 undefA = .im (.int .i64 (i : Int)) →
   H[ir]? = some (objS b p' false) → NodeAt 27 (N + 2) (N + 1) w st H → N + 2 ≤ H.length →
   ∃ e tm' H', Λ c35_0 tm H = some (e, tm', H') ∧ Gone b w ir N tm H (goX rd b (decide (ps = [43])) f mark cs st p) e tm' H'
 | f, mark, i, [], st, p, p', tm, H, hm, hcs, hi, hf, hk, hp, hp', hpp, hlen, h0, h2, h3, h9, h10, h11, hir, hnd, hN => by
  have hil : ps.length ≤ i := List.drop_eq_nil_iff.1 hcs
  have e1 : decide ((i : Int) < (ps.length : Int)) = false := decide_eq_false (by omega)
  have hgo : goX rd b (decide (ps = [43])) f mark [] st p = (st, p, false) := by cases f <;> rfl
  rw [hgo]
  have hir' := hir
  simp only [objS] at hir
  rw [l35_0, cut35]
  simp only [T35,B0,B1,B2,List.replicate,Nat.reduceAdd,Nat.reduceSub,Nat.reduceLeDiff,Nat.reduceLT,Nat.reduceEqDiff,reduceCtorEq,Int.reduceEq,Int.reduceLT,Int.reduceLE,lenA,hlen,h0,h2,h11,hir,e1]
  refine ⟨_, _, _, rfl, rfl, by simp only [List.length_set,hlen], ?_, .refl, p', st, hir', hnd, hp', fun h => by simp at h, fun _ => ⟨rfl, hpp⟩⟩
  intro j hj
  simp only [List.mem_cons,List.not_mem_nil,or_false] at hj
  rcases hj with rfl | rfl | rfl | rfl | rfl | rfl <;> simp only [B3,Nat.reduceLT,Nat.reduceEqDiff,hlen]
 | 0, mark, i, c :: cs, st, p, p', tm, H, hm, hcs, hi, hf, hk, hp, hp', hpp, hlen, h0, h2, h3, h9, h10, h11, hir, hnd, hN => by simp at hf
 | f + 1, mark, i, c :: cs, st, p, p', tm, H, hm, hcs, hi, hf, hk, hp, hp', hpp, hlen, h0, h2, h3, h9, h10, h11, hir, hnd, hN => by
  have hil : i < ps.length := by
   rcases Nat.lt_or_ge i ps.length with h | h
   ·exact h
   ·rw [List.drop_of_length_le h] at hcs; simp at hcs
  have hci : ps[i]? = some c := by
   have := List.getElem?_drop (xs := ps) (i := i) (j := 0)
   rw [hcs] at this; simpa using this.symm
  have hcs' : ps.drop (i + 1) = cs := by
   rw [← List.drop_drop, hcs]; rfl
  have hcm : c ∈ ps := List.mem_of_getElem? hci
  have hirl := (List.getElem?_eq_some_iff.1 hir).1
  have e1 : decide ((i : Int) < (ps.length : Int)) = true := decide_eq_true (by omega)
  have c1 := s53 b p' ir false mark H hm hir (by omega) hp'
  rw [hpp mark] at c1
  have hsl := sign_len (bad := false) (c := mark) hp hm
  have hir' := hir
  simp only [objS] at hir
  rw [l35_0, cut35]
  generalize hR : goX rd b (decide (ps = [43])) (f + 1) mark (c :: cs) st p = r
  unfold goX at hR
  generalize hsg : signP b p false mark = sg at *
  obtain ⟨q, bad⟩ := sg
  simp only at c1 hsl hR
  cases bad with
  | true =>
   rw [if_pos rfl] at hR
   subst hR
   have hg : (H.set ir (objS b q true))[ir]? = some (objS b q true) := List.getElem?_set_self hirl
   have hg' := hg
   simp only [objS] at hg' c1
   simp only [T35,S35,M35,B35,B0,B1,B2,List.replicate,Nat.reduceAdd,Nat.reduceSub,Nat.reduceLeDiff,Nat.reduceLT,Nat.reduceEqDiff,reduceCtorEq,Int.reduceEq,Int.reduceLT,Int.reduceLE,lenA,hlen,h0,h2,h10,h11,hir,e1,c1,hg']
   refine ⟨_, _, _, rfl, rfl, by simp only [List.length_set,hlen], ?_, .set _, q, st, hg, hnd.set (by omega) hir' _, hsl, fun _ => rfl, fun h => by simp at h⟩
   intro j hj
   simp only [List.mem_cons,List.not_mem_nil,or_false] at hj
   rcases hj with rfl | rfl | rfl | rfl | rfl | rfl <;> simp only [B3,Nat.reduceLT,Nat.reduceEqDiff,hlen]
  | false =>
   rw [if_neg (by simp)] at hR
   have hg : (H.set ir (objS b q false))[ir]? = some (objS b q false) := List.getElem?_set_self hirl
   have hg' := hg
   have hnd1 : NodeAt 27 (N + 2) (N + 1) w st (H.set ir (objS b q false)) := hnd.set (by omega) hir' _
   have hN1 : N + 2 ≤ (H.set ir (objS b q false)).length := by simpa using hN
   have hcl := fun he => hcall c hcm he q _ hsl hg
   have hB1 : But2 (N + 2) ir (N + 1) H (H.set ir (objS b q false)) := .set _
   have hkd := item_kids rd b c st q
   have hkd2 := item_kids2 rd b c st q
   have hkd3 := item_kids3 rd b c st q
   have hil2 := item_len hrdl c st hsl
   have ih := fun st1 q1 q2 i' cs' tm1 H1 h1 h2 h3 h4 => l35 b hb ir N hirN w ps hps d d' hd rd hrdl hcall f 44 i' cs' st1 q1 q2 tm1 H1 (by decide) h1 h2 h3 h4
   generalize H.set ir (objS b q false) = H1 at *
   have hD := fun (tmX : List AV) a1 a2 a3 a4 a5 a6 (K : AEx → List AV → Heap → Option Out) => sw35_all b hb ir N (by omega) w ps i c hci d d' hd rd q hsl st (by simp at hk; omega) tmX H1 a1 a2 a3 a4 a5 a6 hg hnd1 hN1 (by omega) hcl K
   simp only [objS] at hg'
   simp only [T35,S35,M35,B35,B0,B1,B2,List.replicate,Nat.reduceAdd,Nat.reduceSub,Nat.reduceLeDiff,Nat.reduceLT,Nat.reduceEqDiff,reduceCtorEq,Int.reduceEq,Int.reduceLT,Int.reduceLE,lenA,hlen,h0,h2,h10,h11,hir,e1,c1,hg']
   refine did_elim (P := fun o => ∃ e tm' H', o = some (e, tm', H') ∧ Gone b w ir N tm H r e tm' H') (hD _ ?_ ?_ ?_ ?_ ?_ ?_ _) ?_
   iterate 6 simp only [B3,Nat.reduceLT,Nat.reduceEqDiff,hlen,h0,h2,h3,h9,h11]
   intro tm1 H2 st1 l1 r1 b1 i1 n1 q1
   have a0 := r1 0 (by simp)
   have a2 := r1 2 (by simp)
   have a3 := r1 3 (by simp)
   have a9 := r1 9 (by simp)
   have a10 := r1 10 (by simp)
   have a11 := r1 11 (by simp)
   have rr : Regs [0, 1, 2, 3, 8, 9] tm tm1 := fun j hj => by
    refine (r1 j (by simp only [List.mem_cons,List.not_mem_nil,or_false] at hj ⊢; omega)).trans ?_
    simp only [List.mem_cons,List.not_mem_nil,or_false] at hj
    rcases hj with rfl | rfl | rfl | rfl | rfl | rfl <;> simp only [B3,Nat.reduceLT,Nat.reduceEqDiff,hlen]
   simp only [B3,Nat.reduceLT,Nat.reduceEqDiff,hlen,h0] at a0
   simp only [B3,Nat.reduceLT,Nat.reduceEqDiff,hlen,h2] at a2
   simp only [B3,Nat.reduceLT,Nat.reduceEqDiff,hlen,h3] at a3
   simp only [B3,Nat.reduceLT,Nat.reduceEqDiff,hlen,h9] at a9
   simp only [B3,Nat.reduceLT,Nat.reduceEqDiff,hlen] at a10
   simp only [B3,Nat.reduceLT,Nat.reduceEqDiff,hlen,h11] at a11
   clear r1 hD hcl
   generalize itemX rd b c st q = it at *
   obtain ⟨stx, qx, bx⟩ := it
   simp only at hkd hkd2 hkd3 hil2 i1 q1 hR
   have htl := fun (K : AEx → List AV → Heap → Option Out) => tl35_all b hb ir N (by omega) w ps i (by omega) qx hil2 bx st1 tm1 H2 l1 a0 a2 a9 a11 i1 n1 K
   simp only [k_normal]
   refine tl35_elim (P := fun o => ∃ e tm' H', o = some (e, tm', H') ∧ Gone b w ir N tm H r e tm' H') (htl _) ?_
   intro tm2 q2 l2 r2 e11 hq1 hq2
   have i2 : (H2.set ir (objS b q2 bx))[ir]? = some (objS b q2 bx) := List.getElem?_set_self (List.getElem?_eq_some_iff.1 i1).1
   have n2 : NodeAt 27 (N + 2) (N + 1) w st1 (H2.set ir (objS b q2 bx)) := n1.set (by omega) i1 _
   have b2 : But2 (N + 2) ir (N + 1) H (H2.set ir (objS b q2 bx)) := hB1.trans (b1.trans (.set _))
   have rr2 : Regs [0, 1, 2, 3, 8, 9] tm tm2 := rr.trans (r2.sub (by simp))
   have a0 := (r2 0 (by simp)).trans a0
   have a2 := (r2 2 (by simp)).trans a2
   have a3 := (r2 3 (by simp)).trans a3
   have a9 := (r2 9 (by simp)).trans a9
   have a10 := (r2 10 (by simp)).trans a10
   have hN2 := b2.1
   generalize H2.set ir (objS b q2 bx) = H3 at *
   have w1 : IntKind.i64.wrap ((i : Int) - 1 + 1) = (i : Int) := by rw [Go.Abs.Seat.wrap_small _ (by omega)]; omega
   have w2 := wrap_nat (i := i) (by omega)
   have rI : ∀ x y z, Regs [0, 1, 2, 3, 8, 9] tm ((((tm2.set 25 x).set 26 y).set 11 z)) := fun x y z => rr2.trans fun j hj => by
    simp only [List.mem_cons,List.not_mem_nil,or_false] at hj
    rcases hj with rfl | rfl | rfl | rfl | rfl | rfl <;> simp only [B3,Nat.reduceLT,Nat.reduceEqDiff,l2]
   cases bx with
   | true =>
    have hq2' := hq1 rfl
    subst hq2'
    rw [if_pos rfl] at hR
    simp only [Bool.not_true,Bool.false_and,Bool.false_eq_true,if_false] at e11
    simp only [I35,B0,B1,B2,List.replicate,Nat.reduceAdd,Nat.reduceSub,Nat.reduceLeDiff,Nat.reduceLT,Nat.reduceEqDiff,reduceCtorEq,Int.reduceEq,Int.reduceLT,Int.reduceLE,lenA,l2,e11,w2]
    refine ex_imp (l35_stop (z := ((i + 1 : Nat) : Int)) (b := b) (w := w) (ps := ps) (ir := ir) (N := N) (q := q2) (st := st1) (r := r) (by rw [← hR]) hil2 ?_ ?_ ?_ ?_ i2 n2) fun _ _ _ h => h.before (rI _ _ _) b2
    ·simp only [List.length_set,l2]
    all_goals simp only [B3,Nat.reduceLT,Nat.reduceEqDiff,l2,a0,a2]
   | false =>
    rw [if_neg (by simp)] at hR
    have hst1 := q1 rfl
    subst hst1
    have hq2l : q2 ≤ b.length := by
     rcases hq2 with h | h
     ·omega
     ·rw [h]; exact skip_len hil2
    have hqq : ∀ c, signP b q2 false c = signP b qx false c := fun c => by
     rcases hq2 with h | h
     ·rw [h]
     ·rw [h]; exact sign_skip hil2 c
    simp only [Bool.not_false,Bool.true_and] at e11
    have hz : ((44 : UInt8).toNat : Int) = 44 := rfl
    rcases Bool.eq_false_or_eq_true (moreX b (decide (ps = [43])) st1 qx) with hm1 | hm1
    ·rw [hm1, if_pos rfl] at e11
     rw [hm1, if_pos rfl] at hR
     have hlt : st1.2.2.length < 64 := by
      unfold moreX at hm1
      simp only [Bool.and_eq_true,decide_eq_true_eq] at hm1
      exact hm1.2.1
     have hlst : ps = [43] := by
      unfold moreX at hm1
      simp only [Bool.and_eq_true,decide_eq_true_eq] at hm1
      exact hm1.1
     subst hR
     simp only [I35,B0,B1,B2,List.replicate,Nat.reduceAdd,Nat.reduceSub,Nat.reduceLeDiff,Nat.reduceLT,Nat.reduceEqDiff,reduceCtorEq,Int.reduceEq,Int.reduceLT,Int.reduceLE,lenA,l2,e11,w1]
     refine ex_imp (ih st1 qx q2 i (c :: cs) _ H3 hcs hi ?_ ?_ hil2 hq2l hqq ?_ ?_ ?_ ?_ ?_ ?_ ?_ i2 n2 (by omega)) fun _ _ _ h => h.before (rI _ _ _) b2
     ·have := hkd3 (by rw [hlst] at hcm; simpa using hcm)
      simp only [List.length_cons] at hf ⊢; omega
     ·have : (c :: cs).length ≤ 5 := by rw [← hcs, List.length_drop]; omega
      omega
     ·simp only [List.length_set,l2]
     all_goals simp only [B3,Nat.reduceLT,Nat.reduceEqDiff,l2,a0,a2,a3,a9,a10,hz]
    ·rw [hm1, if_neg (by simp)] at e11
     rw [hm1, if_neg (by simp)] at hR
     subst hR
     simp only [I35,B0,B1,B2,List.replicate,Nat.reduceAdd,Nat.reduceSub,Nat.reduceLeDiff,Nat.reduceLT,Nat.reduceEqDiff,reduceCtorEq,Int.reduceEq,Int.reduceLT,Int.reduceLE,lenA,l2,e11,w2]
     refine ex_imp (ih st1 qx q2 (i + 1) cs _ H3 hcs' (by omega) (by simp at hf; omega) (by simp at hk; omega) hil2 hq2l hqq ?_ ?_ ?_ ?_ ?_ ?_ ?_ i2 n2 (by omega)) fun _ _ _ h => h.before (rI _ _ _) b2
     ·simp only [List.length_set,l2]
     all_goals simp only [B3,Nat.reduceLT,Nat.reduceEqDiff,l2,a0,a2,a3,a9,a10,hz]
end Go.Abs.Seat
end
section
set_option linter.unusedVariables false
set_option linter.unusedSimpArgs false
namespace Go.Abs.Seat
open Go.Proofs
def VA (v : AV) (kids : List NT) : Prop := (v = .nils ∧ kids = []) ∨ ∃ tok, v = .asl 6 (kids.map encN) tok ∧ kids ≠ []
theorem gath_va {tid : TypeId} {n : Nat} {v : AV} {H : Heap} {kids : List NT} (h : Gath tid 6 n v H (kids.map encN)) : VA v kids := by
 rcases h with ⟨he, rfl⟩ | ⟨he, tok, _, rfl, _⟩
 ·exact .inl ⟨rfl, by simpa using he⟩
 ·exact .inr ⟨tok, rfl, by simpa using he⟩
theorem node_deg {w : List UInt8} {i k : Int} {y v : AV} {ty : KT} {kids : List NT} (hy : TyA ty k y) (hv : VA v kids) : degrade (.agg [.im (.str w), .im (.int .i64 i), .im (.str []), .im (.int .i64 k), y, v]) = .im (.agg (encN (mkN w i [] ty kids))) := by
 have hv' : toDat v = some (.sl (if kids.length = 0 then 0 else 6) (encNs kids)) := by
  rcases hv with ⟨rfl, rfl⟩ | ⟨tok, rfl, hne⟩
  ·rfl
  ·rw [if_neg (by simpa using hne), encNs_map]; rfl
 rcases hy with ⟨rfl, rfl, rfl⟩ | ⟨s, args, rfl, rfl⟩
 ·simp only [degrade,toDat,toDats,hv',mkN,zeroT,mkT,encN,encTs,List.length_nil,if_true]
 ·simp only [degrade,toDat,toDats,hv',mkN,encN]
theorem endK_35 {H H' : Heap} {tm : List AV} {ir q : Nat} {b w : List UInt8} {i k : Int} {y v : AV} {ty : KT} {kids : List NT} {bad : Bool} (hir : ir < H.length) (h8 : tm.getD 8 undefA = .ptr H.length 0 0) (hN : H'[H.length]? = some (.obj none [[.im (.str w), .im (.int .i64 i), .im (.str []), .im (.int .i64 k), y, v]]))
  (hy : TyA ty k y) (hv : VA v kids) (hb : But H.length ir H H') (ho : H'[ir]? = some (objS b q bad)) : endK f35 H .ret tm H' = some (.im (.agg (encN (mkN w i [] ty kids))), H.set ir (objS b q bad)) := by
 have hd := node_deg (w := w) (i := i) hy hv
 have hfr : f35.results = [(8, some (some 6))] := rfl
 have hfk : f35.keep = false := rfl
 have hr := leave_but (keep := false) (r := .agg [.im (.str w), .im (.int .i64 i), .im (.str []), .im (.int .i64 k), y, v]) hb ho rfl (by simp only [Bool.false_eq_true,if_false,hd,refsLt]) hir
 simp only [Bool.false_eq_true,if_false,hd] at hr
 rcases hy with ⟨rfl, rfl, rfl⟩ | ⟨s, args, rfl, rfl⟩ <;> rcases hv with ⟨rfl, rfl⟩ | ⟨tok, rfl, hne⟩
 all_goals
  simp only [endK,hfr,hfk,B0,B1,B2,List.replicate,Nat.reduceAdd,Nat.reduceSub,Nat.reduceLeDiff,Nat.reduceLT,Nat.reduceEqDiff,reduceCtorEq,Int.reduceEq,Int.reduceLT,Int.reduceLE,lenA,resA,tupA,h8,hN]
  rw [hr]
theorem s35 (b : List UInt8) (hb : b.length ≤ 2305843009213693952) (ir : Nat) (w ps : List UInt8) (hps : ps.length ≤ 5) (d d' : Int) (hd : IntKind.i64.wrap (d - 1) = d') (rd : Nat → NT × Nat × Bool) (hrdl : ∀ p, p ≤ b.length → (rd p).2.1 ≤ b.length)
  (hcall : ∀ c ∈ ps, isE c = true → ∀ (p : Nat) (H : Heap), p ≤ b.length → H[ir]? = some (objS b p false) → ∃ nd, L 18 [.ptr ir 0 0, .im (.int .i64 d')] H = some (.im (.agg (encN nd)), H.set ir (objS b (rd p).2.1 (rd p).2.2)) ∧ ((rd p).2.2 = false → nd = (rd p).1))
  (p : Nat) (hp : p ≤ b.length) (H : Heap) (hir : H[ir]? = some (objS b p false)) :
  ∃ nd, L 35 [.ptr ir 0 0, .im (.str w), .im (.str ps), .im (.int .i64 d)] H = some (.im (.agg (encN nd)), H.set ir (objS b (callX rd b w ps p).2.1 (callX rd b w ps p).2.2)) ∧ ((callX rd b w ps p).2.2 = false → nd = (callX rd b w ps p).1) := by
 have hirl := (List.getElem?_eq_some_iff.1 hir).1
 have key := fun tm1 H1 => l35 b hb ir H.length hirl w ps hps d d' hd rd hrdl hcall 70 40 0 ps (0, zeroT, []) p p tm1 H1 (by decide) rfl (Nat.zero_le _) (by simp; omega) (by simp; omega) hp hp (fun _ => rfl)
 simp only [zc0] at key
 have z40 : ((40 : UInt8).toNat : Int) = 40 := rfl
 rw [z40] at key
 unfold callX
 generalize goX rd b (decide (ps = [43])) 70 40 ps (0, zeroT, []) p = r at *
 rw [leq F35]
 have hK := @endK_35 H
 have hcode : f35.code = f35.code := rfl
 conv at hcode => rhs; simp only [f35]
 rw [hcode]
 clear hcode
 generalize endK f35 H = K at *
 obtain ⟨hlen, ha⟩ := enter_at (f := f35) (args := [.ptr ir 0 0, .im (.str w), .im (.str ps), .im (.int .i64 d)]) (Nat.le_of_ble_eq_true rfl)
 have h0 := ha 0 _ rfl
 have h1 := ha 1 _ rfl
 have h2 := ha 2 _ rfl
 have h3 := ha 3 _ rfl
 generalize enterA f35 [.ptr ir 0 0, .im (.str w), .im (.str ps), .im (.int .i64 d)] = tm at *
 change tm.length = 112 at hlen
 simp only [e35_0,B0,B1,B2,List.replicate,Nat.reduceAdd,Nat.reduceSub,Nat.reduceLeDiff,Nat.reduceLT,Nat.reduceEqDiff,reduceCtorEq,Int.reduceEq,Int.reduceLT,Int.reduceLE,lenA,hlen,h0,h1,h2,h3]
 generalize hr2 : thenL (Λ c35_0 _ _) _ = ro
 refine Exists.elim (thenL_inv hr2 (key _ _ ?_ ?_ ?_ ?_ ?_ ?_ ?_ ?_ ?_ ?_)) ?_
 ·simp only [List.length_set,hlen]
 iterate 6 simp only [B3,Nat.reduceLT,Nat.reduceEqDiff,hlen,h0,h1,h2,h3]
 ·rw [get_app hirl]; exact hir
 ·exact ⟨0, .nils, .nils, by rw [hget]; rfl, .inl ⟨rfl, rfl, rfl⟩, .inl ⟨rfl, rfl⟩⟩
 ·simp
 clear key
 rintro e ⟨tm1, H1, ⟨rfl, l1, r1, b1, q', st', i1, n1, hq', hbad, hgood⟩, rfl⟩
 have a0 := r1 0 (by simp)
 have a8 := r1 8 (by simp)
 have a9 := r1 9 (by simp)
 simp only [B3,Nat.reduceLT,Nat.reduceEqDiff,hlen,h0] at a0
 simp only [B3,Nat.reduceLT,Nat.reduceEqDiff,hlen] at a8
 simp only [B3,Nat.reduceLT,Nat.reduceEqDiff,hlen] at a9
 clear hr2 r1
 have hN0 : H1[H.length]? = some (.obj none [[.im (.str []), .im (.int .i64 0), .im (.str []), .im (.int .i64 0), .nils, .nils]]) := by
  rw [b1.2 H.length (by omega) (by omega) (by omega), hget0]; rfl
 have hB1 : But H.length ir H H1 := ⟨by have := b1.1; simp at this; omega, fun j hj hne => by rw [b1.2 j (by omega) hne (by omega), get_app (by omega)]⟩
 have c5 := s53 b q' ir r.2.2 41 H1 (by decide) i1 (by omega) hq'
 have hsg : (signP b q' r.2.2 41).1 = (if r.2.2 = true then r.2.1 else (signP b r.2.1 false 41).1) ∧ (signP b q' r.2.2 41).2 = (if r.2.2 = true then true else (signP b r.2.1 false 41).2) := by
  rcases Bool.eq_false_or_eq_true r.2.2 with e | e
  ·rw [e, hbad e]; simp [signP]
  ·rw [e, (hgood e).2 41]; simp
 have i2 : (H1.set ir (objS b (signP b q' r.2.2 41).1 (signP b q' r.2.2 41).2))[ir]? = some (objS b (signP b q' r.2.2 41).1 (signP b q' r.2.2 41).2) := List.getElem?_set_self (List.getElem?_eq_some_iff.1 i1).1
 have n2 := n1.set (by omega) i1 (objS b (signP b q' r.2.2 41).1 (signP b q' r.2.2 41).2)
 have hN2 : (H1.set ir (objS b (signP b q' r.2.2 41).1 (signP b q' r.2.2 41).2))[H.length]? = some (.obj none [[.im (.str []), .im (.int .i64 0), .im (.str []), .im (.int .i64 0), .nils, .nils]]) := by
  rw [List.getElem?_set_ne (by omega)]; exact hN0
 have hB2 := hB1.set (objS b (signP b q' r.2.2 41).1 (signP b q' r.2.2 41).2)
 have z41 : ((41 : UInt8).toNat : Int) = 41 := rfl
 rw [z41] at c5
 rw [hsg.1, hsg.2] at c5 i2 n2 hN2 hB2
 generalize hgq : (if r.2.2 = true then r.2.1 else (signP b r.2.1 false 41).1) = qf at *
 generalize hgb : (if r.2.2 = true then true else (signP b r.2.1 false 41).2) = bf at *
 generalize H1.set ir (objS b qf bf) = H2 at *
 obtain ⟨k, y, v, o1, hty, hG⟩ := n2
 have hva := gath_va hG
 have hB3 : ∀ o, But H.length ir H (H2.set H.length o) := fun o => ⟨by have := hB2.1; simpa using this, fun j hj hne => by rw [List.getElem?_set_ne (by omega)]; exact hB2.2 j hj hne⟩
 have hres : ∀ (tm' : List AV), tm'.getD 8 undefA = .ptr H.length 0 0 → K .ret tm' (H2.set H.length (.obj none [[.im (.str w), .im (.int .i64 st'.1), .im (.str []), .im (.int .i64 k), y, v]])) = some (.im (.agg (encN (mkN w st'.1 [] st'.2.1 st'.2.2))), H.set ir (objS b qf bf)) := fun tm' h =>
  hK hirl h (List.getElem?_set_self (List.getElem?_eq_some_iff.1 hN2).1) hty hva (hB3 _) (by rw [List.getElem?_set_ne (by omega)]; exact i2)
 refine ⟨mkN w st'.1 [] st'.2.1 st'.2.2, ?_, ?_⟩
 ·rw [show (if r.2.2 = true then (zeroN, r.2.1, true) else (mkN w r.1.1 [] r.1.2.1 r.1.2.2, (signP b r.2.1 false 41).1, (signP b r.2.1 false 41).2)).2.1 = qf by rw [← hgq]; split <;> rfl,
   show (if r.2.2 = true then (zeroN, r.2.1, true) else (mkN w r.1.1 [] r.1.2.1 r.1.2.2, (signP b r.2.1 false 41).1, (signP b r.2.1 false 41).2)).2.2 = bf by rw [← hgb]; split <;> rfl]
  rcases hty with ⟨hh1, hh2, rfl⟩ | ⟨s, args, hh1, rfl⟩ <;> rcases hva with ⟨rfl, hh3⟩ | ⟨tok, rfl, hh3⟩
  all_goals simp only [B0,B1,B2,List.replicate,Nat.reduceAdd,Nat.reduceSub,Nat.reduceLeDiff,Nat.reduceLT,Nat.reduceEqDiff,reduceCtorEq,Int.reduceEq,Int.reduceLT,Int.reduceLE,lenA,l1,a0,a8,a9,c5,o1,hN2]
  all_goals exact hres _ (by simp only [B3,Nat.reduceLT,Nat.reduceEqDiff,l1,a8])
 ·intro hb2
  have he : r.2.2 = false := by
   rcases Bool.eq_false_or_eq_true r.2.2 with e | e
   ·rw [if_pos e] at hb2; simp at hb2
   ·exact e
  rw [if_neg (by rw [he]; simp), (hgood he).1]
def Exp (b : List UInt8) (ir : Nat) (d : Nat) : Prop := ∀ (p : Nat) (H : Heap), p ≤ b.length → H[ir]? = some (objS b p false) →
 ∃ nd, L 18 [.ptr ir 0 0, .im (.int .i64 (d : Int))] H = some (.im (.agg (encN nd)), H.set ir (objS b (exprX b d p).2.1 (exprX b d p).2.2)) ∧ ((exprX b d p).2.2 = false → nd = (exprX b d p).1)
theorem dig_none {n : Int} (h : digZ n = false) (h2 : letZ n = false) : n < 48 ∨ (57 < n ∧ n < 97) ∨ 122 < n := by
 have := dig_not h
 unfold letZ at h2
 simp only [Bool.and_eq_false_iff,decide_eq_false_iff_not] at h2
 omega
theorem let_range {n : Int} (h : letZ n = true) : 97 ≤ n ∧ n ≤ 122 := by
 unfold letZ at h
 simp only [Bool.and_eq_true,decide_eq_true_eq] at h
 exact h
set_option maxHeartbeats 2000000 in
theorem s18step (b : List UInt8) (hb : b.length ≤ 2305843009213693952) (ir d : Nat) (hd : d < 1000) (hrec : 0 < d → Exp b ir d) : Exp b ir (d + 1) := by
 intro p H hp hir
 have hirl := (List.getElem?_eq_some_iff.1 hir).1
 have hq := skip_len hp
 have c1 : ∀ M, L 19 [.ptr ir 0 0] (H ++ M) = some (.tup [], H.set ir (objS b (skipB b p) false) ++ M) := fun M => by
  rw [s19 b p ir false (H ++ M) (by rw [get_app hirl]; exact hir) (by omega) hp, List.set_append_left _ _ hirl]
 have g1 := hp_get (H := H) hirl
 have g4 := hp_set (H := H) hirl
 have c2 : ∀ q bad M, L 29 [.ptr ir 0 0] (H.set ir (objS b q bad) ++ M) = some (.im (.int .u8 ((peekB b q).toNat : Int)), H.set ir (objS b q bad) ++ M) := fun q bad M => s29 b q ir bad _ (g1 _ _) (by omega)
 have c3 : ∀ q M, q ≤ b.length → L 30 [.ptr ir 0 0] (H.set ir (objS b q false) ++ M) = some (.im (.agg (encN (strP b q).1)), H.set ir (objS b (strP b q).2.1 (strP b q).2.2) ++ M) := fun q M hq => by
  rw [s30 b q ir _ (g1 _ _) (by omega) hq, g4]
 have c4 : ∀ q M, q < b.length → L 31 [.ptr ir 0 0] (H.set ir (objS b q false) ++ M) = some (.im (.agg (encN (numP b q).1)), H.set ir (objS b (numP b q).2.1 (numP b q).2.2) ++ M) := fun q M hq => by
  rw [s31 b q ir _ (g1 _ _) (by omega) hq, g4]
 have c5 : ∀ q M, q ≤ b.length → L 32 [.ptr ir 0 0] (H.set ir (objS b q false) ++ M) = some (.im (.str (wordB b q)), H.set ir (objS b (runB b q) false) ++ M) := fun q M hq => by
  rw [s32 b q ir false _ (g1 _ _) (by omega) hq, g4]
 have hlv : ∀ (q : Nat) (bd : Bool) (M : Heap) (op txt : List UInt8) (i k : Int) (s s2 : Nat) (args : List KT) (kids : List NT), leave H false (.im (.agg [.str op, .int .i64 i, .str txt, .int .i64 k, .sl s (encTs args), .sl s2 (encNs kids)])) (H.set ir (objS b q bd) ++ M) = (.im (.agg [.str op, .int .i64 i, .str txt, .int .i64 k, .sl s (encTs args), .sl s2 (encNs kids)]), H.set ir (objS b q bd)) := fun q bd M op txt i k s s2 args kids => leave_SM hir (by simp [degrade, toDat]) (by simp [refsLt])
 have hlz := leave_N hir
 rw [leq F18]
 obtain ⟨hlen, ha⟩ := enter_at (f := f18) (args := [.ptr ir 0 0, .im (.int .i64 ((d : Int) + 1))]) (Nat.le_of_ble_eq_true rfl)
 have h0 := ha 0 _ rfl
 have h1 := ha 1 _ rfl
 have zd : (((d + 1 : Nat) : Nat) : Int) = (d : Int) + 1 := by omega
 rw [zd]
 generalize enterA f18 [.ptr ir 0 0, .im (.int .i64 ((d : Int) + 1))] = tm at *
 change tm.length = 104 at hlen
 unfold exprX
 have hcq := c2 (skipB b p) false
 have hpl := peek_lt (b := b) (p := skipB b p)
 generalize hc : peekB b (skipB b p) = c at *
 generalize skipB b p = q at *
 have b34 := byte_eq c 34
 have b45 := byte_eq c 45
 change decide ((c.toNat : Int) = 34) = _ at b34
 change decide ((c.toNat : Int) = 45) = _ at b45
 have hwr := wrap_nat (i := q) (by omega)
 by_cases k34 : c = 34
 ·rw [if_pos k34]
  have e1 : decide ((c.toNat : Int) = 34) = true := b34.trans (decide_eq_true k34)
  have hq1 : q < b.length := hpl (by rw [k34]; decide)
  have c3' := c3 (q + 1) [zO] (by omega)
  generalize strP b (q + 1) = r at *
  obtain ⟨nd, qr, bad⟩ := r
  obtain ⟨op, ni, txt, ty, ns, kids⟩ := nd
  obtain ⟨tk, ts, targs⟩ := ty
  simp only [encN] at c3'
  refine ⟨.mk op ni txt (.mk tk ts targs) ns kids, ?_, fun _ => rfl⟩
  simp only [objS,zO] at *
  simp only [f18,B0,B1,B2,List.replicate,Nat.reduceAdd,Nat.reduceSub,Nat.reduceLeDiff,Nat.reduceLT,Nat.reduceEqDiff,reduceCtorEq,Int.reduceEq,Int.reduceLT,Int.reduceLE,lenA,endK,resA,tupA,hlen,h0,h1,c1,hcq,g1,g4,e1,hwr,c3',hq_get0,hq_set0,encN,hlv]
 rw [if_neg k34]
 have e1 : decide ((c.toNat : Int) = 34) = false := b34.trans (decide_eq_false k34)
 rcases Bool.eq_false_or_eq_true (decide (c = 45)) with k45 | k45
 ·rw [k45, Bool.true_or, if_pos rfl]
  rw [k45] at b45
  have hq1 : q < b.length := hpl (by rw [of_decide_eq_true k45]; decide)
  have c4' := c4 q [zO] hq1
  generalize numP b q = r at *
  obtain ⟨nd, qr, bad⟩ := r
  obtain ⟨op, ni, txt, ty, ns, kids⟩ := nd
  obtain ⟨tk, ts, targs⟩ := ty
  simp only [encN] at c4'
  refine ⟨.mk op ni txt (.mk tk ts targs) ns kids, ?_, fun _ => rfl⟩
  simp only [objS,zO] at *
  simp only [f18,B0,B1,B2,List.replicate,Nat.reduceAdd,Nat.reduceSub,Nat.reduceLeDiff,Nat.reduceLT,Nat.reduceEqDiff,reduceCtorEq,Int.reduceEq,Int.reduceLT,Int.reduceLE,lenA,endK,resA,tupA,hlen,h0,h1,c1,hcq,g1,g4,e1,b45,c4',hq_get0,hq_set0,encN,hlv]
 rw [k45] at b45
 rcases Bool.eq_false_or_eq_true (digZ (c.toNat : Int)) with kd | kd
 ·have hr := dig_range kd
  have e2 : decide ((48 : Int) ≤ (c.toNat : Int)) = true := decide_eq_true hr.1
  have e3 : decide ((c.toNat : Int) ≤ 57) = true := decide_eq_true hr.2
  rw [k45, kd, Bool.false_or, if_pos rfl]
  have hq1 : q < b.length := hpl (fun e => by rw [e, dig0] at kd; simp at kd)
  have c4' := c4 q [zO] hq1
  generalize numP b q = r at *
  obtain ⟨nd, qr, bad⟩ := r
  obtain ⟨op, ni, txt, ty, ns, kids⟩ := nd
  obtain ⟨tk, ts, targs⟩ := ty
  simp only [encN] at c4'
  refine ⟨.mk op ni txt (.mk tk ts targs) ns kids, ?_, fun _ => rfl⟩
  simp only [objS,zO] at *
  simp only [f18,B0,B1,B2,List.replicate,Nat.reduceAdd,Nat.reduceSub,Nat.reduceLeDiff,Nat.reduceLT,Nat.reduceEqDiff,reduceCtorEq,Int.reduceEq,Int.reduceLT,Int.reduceLE,lenA,endK,resA,tupA,hlen,h0,h1,c1,hcq,g1,g4,e1,b45,e2,e3,c4',hq_get0,hq_set0,encN,hlv]
 rw [k45, kd, Bool.false_or, if_neg (by simp)]
 rcases Bool.eq_false_or_eq_true (letZ (c.toNat : Int)) with kl | kl
 ·rw [if_neg (by rw [kl]; simp)]
  have hr := let_range kl
  have e2 : decide ((48 : Int) ≤ (c.toNat : Int)) = true := decide_eq_true (by omega)
  have e3 : decide ((c.toNat : Int) ≤ 57) = false := decide_eq_false (by omega)
  have e4 : decide ((c.toNat : Int) < 97) = false := decide_eq_false (by omega)
  have e5 : decide (122 < (c.toNat : Int)) = false := decide_eq_false (by omega)
  have hq1 : q < b.length := hpl (fun e => by rw [e, let0] at kl; simp at kl)
  have hwl := wordB_len (b := b) (p := q) (by omega)
  have hrl := run_len (b := b) (p := q) (by omega)
  have c5' := c5 q [zO] (by omega)
  have c6 := fun H => s33 (wordB b q) H
  have c7 := c2 (runB b q) false
  have c8 := fun H => s34 ((peekB b (runB b q)).toNat : Int) H
  have hcall : ∀ ps, okPs ps = true → ¬ (d = 0 ∧ ps ≠ [100] ∧ ps ≠ [116]) → ∃ nd, L 35 [.ptr ir 0 0, .im (.str (wordB b q)), .im (.str ps), .im (.int .i64 ((d : Int) + 1))] (H.set ir (objS b (runB b q) false) ++ [zO]) = some (.im (.agg (encN nd)), H.set ir (objS b (callX (exprX b d) b (wordB b q) ps (runB b q)).2.1 (callX (exprX b d) b (wordB b q) ps (runB b q)).2.2) ++ [zO]) ∧ ((callX (exprX b d) b (wordB b q) ps (runB b q)).2.2 = false → nd = (callX (exprX b d) b (wordB b q) ps (runB b q)).1) := fun ps hok hnd => by
   have hpl5 : ps.length ≤ 5 := by
    unfold okPs at hok
    simp only [Bool.and_eq_true,decide_eq_true_eq] at hok
    exact hok.1.1.1
   have := s35 b hb ir (wordB b q) ps hpl5 ((d : Int) + 1) (d : Int) (by rw [show (d : Int) + 1 - 1 = d by omega]; exact Go.Abs.Seat.wrap_small _ (by omega)) (exprX b d) (fun p h => expr_len b d p h) (fun c hc he p H hp hir => by
    by_cases hd0 : d = 0
    ·exfalso
     have : ps = [100] ∨ ps = [116] := by
      by_cases h1 : ps = [100]
      ·exact .inl h1
      ·exact .inr (Classical.byContradiction fun h2 => hnd ⟨hd0, h1, h2⟩)
     rcases this with h | h
     ·rw [h] at hc; simp at hc; rw [hc] at he; exact absurd he (by decide)
     ·rw [h] at hc; simp at hc; rw [hc] at he; exact absurd he (by decide)
    ·exact hrec (by omega) p H hp hir) (runB b q) hrl (H.set ir (objS b (runB b q) false) ++ [zO]) (g1 _ _)
   simpa only [g4] using this
  unfold longB
  generalize wordB b q = w at *
  generalize runB b q = e at *
  have e16 : decide ((w.length : Int) = 16) = decide (e - q = 16) := by
   rw [hwl]
   by_cases h : e - q = 16
   ·rw [decide_eq_true h, decide_eq_true (by omega)]
   ·rw [decide_eq_false h, decide_eq_false (by omega)]
  rcases Bool.eq_false_or_eq_true (decide (e - q = 16)) with l16 | l16
  ·rw [l16] at e16
   rw [l16, Bool.true_and]
   rcases Bool.eq_false_or_eq_true (namZ ((peekB b e).toNat : Int)) with nm | nm
   ·rw [nm] at c8
    rw [nm, if_pos rfl]
    refine ⟨zeroN, ?_, fun _ => rfl⟩
    simp only [zeroN,enc_flat]
    simp only [objS,zO] at *
    simp only [f18,B0,B1,B2,List.replicate,Nat.reduceAdd,Nat.reduceSub,Nat.reduceLeDiff,Nat.reduceLT,Nat.reduceEqDiff,reduceCtorEq,Int.reduceEq,Int.reduceLT,Int.reduceLE,lenA,endK,resA,tupA,hlen,h0,h1,c1,hcq,g1,g4,e1,b45,e2,e3,e4,e5,c5',c6,c7,c8,e16,hq_get0,hq_set0,hlz]
   ·rw [nm] at c8
    rw [nm, if_neg (by simp)]
    cases hs : shapeT w with
    | none =>
     rw [hs] at c6
     simp only [Option.getD_none,Option.isSome_none] at c6
     refine ⟨mkN nameW 0 w zeroT [], ?_, fun _ => rfl⟩
     simp only [enc_flat,nameW]
     simp only [objS,zO] at *
     simp only [f18,B0,B1,B2,List.replicate,Nat.reduceAdd,Nat.reduceSub,Nat.reduceLeDiff,Nat.reduceLT,Nat.reduceEqDiff,reduceCtorEq,Int.reduceEq,Int.reduceLT,Int.reduceLE,lenA,endK,resA,tupA,hlen,h0,h1,c1,hcq,g1,g4,e1,b45,e2,e3,e4,e5,c5',c6,c7,c8,e16,hq_get0,hq_set0,hlz]
    | some ps =>
     rw [hs] at c6
     simp only [Option.getD_some,Option.isSome_some] at c6 ⊢
     have hok := shape_ok hs
     by_cases hps : ps = []
     ·rw [if_pos hps]
      have p0 : decide (ps = []) = true := decide_eq_true hps
      refine ⟨mkN w 0 [] zeroT [], ?_, fun _ => rfl⟩
      simp only [enc_flat]
      simp only [objS,zO] at *
      simp only [f18,B0,B1,B2,List.replicate,Nat.reduceAdd,Nat.reduceSub,Nat.reduceLeDiff,Nat.reduceLT,Nat.reduceEqDiff,reduceCtorEq,Int.reduceEq,Int.reduceLT,Int.reduceLE,lenA,endK,resA,tupA,hlen,h0,h1,c1,hcq,g1,g4,e1,b45,e2,e3,e4,e5,c5',c6,c7,c8,e16,p0,hq_get0,hq_set0,hlz]
     ·rw [if_neg hps]
      have p0 : decide (ps = []) = false := decide_eq_false hps
      by_cases hdf : d = 0 ∧ ps ≠ [100] ∧ ps ≠ [116]
      ·rw [if_pos hdf]
       have e6' : decide ((d : Int) + 1 = 1) = true := decide_eq_true (by omega)
       have p1 : decide (ps = [100]) = false := decide_eq_false hdf.2.1
       have p2 : decide (ps = [116]) = false := decide_eq_false hdf.2.2
       refine ⟨zeroN, ?_, fun _ => rfl⟩
       simp only [zeroN,enc_flat]
       simp only [objS,zO] at *
       simp only [f18,B0,B1,B2,List.replicate,Nat.reduceAdd,Nat.reduceSub,Nat.reduceLeDiff,Nat.reduceLT,Nat.reduceEqDiff,reduceCtorEq,Int.reduceEq,Int.reduceLT,Int.reduceLE,lenA,endK,resA,tupA,hlen,h0,h1,c1,hcq,g1,g4,e1,b45,e2,e3,e4,e5,c5',c6,c7,c8,e16,p0,p1,p2,e6',hq_get0,hq_set0,hlz]
      ·rw [if_neg hdf]
       obtain ⟨nd, hcl, hnn⟩ := hcall ps hok hdf
       refine ⟨nd, ?_, hnn⟩
       clear hnn
       generalize callX (exprX b d) b w ps e = r at *
       obtain ⟨nr, qr, bad⟩ := r
       obtain ⟨op, ni, txt, ty, ns, kids⟩ := nd
       obtain ⟨tk, ts, targs⟩ := ty
       simp only [encN] at hcl
       simp only [objS,zO] at *
       by_cases hd0 : d = 0
       ·have e6' : decide ((d : Int) + 1 = 1) = true := decide_eq_true (by omega)
        by_cases h100 : ps = [100]
        ·have p1 : decide (ps = [100]) = true := decide_eq_true h100
         simp only [f18,B0,B1,B2,List.replicate,Nat.reduceAdd,Nat.reduceSub,Nat.reduceLeDiff,Nat.reduceLT,Nat.reduceEqDiff,reduceCtorEq,Int.reduceEq,Int.reduceLT,Int.reduceLE,lenA,endK,resA,tupA,hlen,h0,h1,c1,hcq,g1,g4,e1,b45,e2,e3,e4,e5,c5',c6,c7,c8,e16,p0,p1,e6',hcl,hq_get0,hq_set0,encN,hlv]
        ·have p1 : decide (ps = [100]) = false := decide_eq_false h100
         have p2 : decide (ps = [116]) = true := decide_eq_true (Classical.byContradiction fun h => hdf ⟨hd0, h100, h⟩)
         simp only [f18,B0,B1,B2,List.replicate,Nat.reduceAdd,Nat.reduceSub,Nat.reduceLeDiff,Nat.reduceLT,Nat.reduceEqDiff,reduceCtorEq,Int.reduceEq,Int.reduceLT,Int.reduceLE,lenA,endK,resA,tupA,hlen,h0,h1,c1,hcq,g1,g4,e1,b45,e2,e3,e4,e5,c5',c6,c7,c8,e16,p0,p1,p2,e6',hcl,hq_get0,hq_set0,encN,hlv]
       ·have e6' : decide ((d : Int) + 1 = 1) = false := decide_eq_false (by omega)
        simp only [f18,B0,B1,B2,List.replicate,Nat.reduceAdd,Nat.reduceSub,Nat.reduceLeDiff,Nat.reduceLT,Nat.reduceEqDiff,reduceCtorEq,Int.reduceEq,Int.reduceLT,Int.reduceLE,lenA,endK,resA,tupA,hlen,h0,h1,c1,hcq,g1,g4,e1,b45,e2,e3,e4,e5,c5',c6,c7,c8,e16,p0,e6',hcl,hq_get0,hq_set0,encN,hlv]
  ·rw [l16] at e16
   rw [l16, Bool.false_and, if_neg (by simp)]
   cases hs : shapeT w with
   | none =>
    rw [hs] at c6
    simp only [Option.getD_none,Option.isSome_none] at c6
    refine ⟨mkN nameW 0 w zeroT [], ?_, fun _ => rfl⟩
    simp only [enc_flat,nameW]
    simp only [objS,zO] at *
    simp only [f18,B0,B1,B2,List.replicate,Nat.reduceAdd,Nat.reduceSub,Nat.reduceLeDiff,Nat.reduceLT,Nat.reduceEqDiff,reduceCtorEq,Int.reduceEq,Int.reduceLT,Int.reduceLE,lenA,endK,resA,tupA,hlen,h0,h1,c1,hcq,g1,g4,e1,b45,e2,e3,e4,e5,c5',c6,c7,c8,e16,hq_get0,hq_set0,hlz]
   | some ps =>
    rw [hs] at c6
    simp only [Option.getD_some,Option.isSome_some] at c6 ⊢
    have hok := shape_ok hs
    by_cases hps : ps = []
    ·rw [if_pos hps]
     have p0 : decide (ps = []) = true := decide_eq_true hps
     refine ⟨mkN w 0 [] zeroT [], ?_, fun _ => rfl⟩
     simp only [enc_flat]
     simp only [objS,zO] at *
     simp only [f18,B0,B1,B2,List.replicate,Nat.reduceAdd,Nat.reduceSub,Nat.reduceLeDiff,Nat.reduceLT,Nat.reduceEqDiff,reduceCtorEq,Int.reduceEq,Int.reduceLT,Int.reduceLE,lenA,endK,resA,tupA,hlen,h0,h1,c1,hcq,g1,g4,e1,b45,e2,e3,e4,e5,c5',c6,c7,c8,e16,p0,hq_get0,hq_set0,hlz]
    ·rw [if_neg hps]
     have p0 : decide (ps = []) = false := decide_eq_false hps
     by_cases hdf : d = 0 ∧ ps ≠ [100] ∧ ps ≠ [116]
     ·rw [if_pos hdf]
      have e6' : decide ((d : Int) + 1 = 1) = true := decide_eq_true (by omega)
      have p1 : decide (ps = [100]) = false := decide_eq_false hdf.2.1
      have p2 : decide (ps = [116]) = false := decide_eq_false hdf.2.2
      refine ⟨zeroN, ?_, fun _ => rfl⟩
      simp only [zeroN,enc_flat]
      simp only [objS,zO] at *
      simp only [f18,B0,B1,B2,List.replicate,Nat.reduceAdd,Nat.reduceSub,Nat.reduceLeDiff,Nat.reduceLT,Nat.reduceEqDiff,reduceCtorEq,Int.reduceEq,Int.reduceLT,Int.reduceLE,lenA,endK,resA,tupA,hlen,h0,h1,c1,hcq,g1,g4,e1,b45,e2,e3,e4,e5,c5',c6,c7,c8,e16,p0,p1,p2,e6',hq_get0,hq_set0,hlz]
     ·rw [if_neg hdf]
      obtain ⟨nd, hcl, hnn⟩ := hcall ps hok hdf
      refine ⟨nd, ?_, hnn⟩
      clear hnn
      generalize callX (exprX b d) b w ps e = r at *
      obtain ⟨nr, qr, bad⟩ := r
      obtain ⟨op, ni, txt, ty, ns, kids⟩ := nd
      obtain ⟨tk, ts, targs⟩ := ty
      simp only [encN] at hcl
      simp only [objS,zO] at *
      by_cases hd0 : d = 0
      ·have e6' : decide ((d : Int) + 1 = 1) = true := decide_eq_true (by omega)
       by_cases h100 : ps = [100]
       ·have p1 : decide (ps = [100]) = true := decide_eq_true h100
        simp only [f18,B0,B1,B2,List.replicate,Nat.reduceAdd,Nat.reduceSub,Nat.reduceLeDiff,Nat.reduceLT,Nat.reduceEqDiff,reduceCtorEq,Int.reduceEq,Int.reduceLT,Int.reduceLE,lenA,endK,resA,tupA,hlen,h0,h1,c1,hcq,g1,g4,e1,b45,e2,e3,e4,e5,c5',c6,c7,c8,e16,p0,p1,e6',hcl,hq_get0,hq_set0,encN,hlv]
       ·have p1 : decide (ps = [100]) = false := decide_eq_false h100
        have p2 : decide (ps = [116]) = true := decide_eq_true (Classical.byContradiction fun h => hdf ⟨hd0, h100, h⟩)
        simp only [f18,B0,B1,B2,List.replicate,Nat.reduceAdd,Nat.reduceSub,Nat.reduceLeDiff,Nat.reduceLT,Nat.reduceEqDiff,reduceCtorEq,Int.reduceEq,Int.reduceLT,Int.reduceLE,lenA,endK,resA,tupA,hlen,h0,h1,c1,hcq,g1,g4,e1,b45,e2,e3,e4,e5,c5',c6,c7,c8,e16,p0,p1,p2,e6',hcl,hq_get0,hq_set0,encN,hlv]
      ·have e6' : decide ((d : Int) + 1 = 1) = false := decide_eq_false (by omega)
       simp only [f18,B0,B1,B2,List.replicate,Nat.reduceAdd,Nat.reduceSub,Nat.reduceLeDiff,Nat.reduceLT,Nat.reduceEqDiff,reduceCtorEq,Int.reduceEq,Int.reduceLT,Int.reduceLE,lenA,endK,resA,tupA,hlen,h0,h1,c1,hcq,g1,g4,e1,b45,e2,e3,e4,e5,c5',c6,c7,c8,e16,p0,e6',hcl,hq_get0,hq_set0,encN,hlv]
 ·rw [if_pos kl]
  refine ⟨zeroN, ?_, fun _ => rfl⟩
  simp only [zeroN,enc_flat]
  simp only [objS,zO] at *
  rcases dig_none kd kl with hn | ⟨hn, hn2⟩ | hn
  ·have e2 : decide ((48 : Int) ≤ (c.toNat : Int)) = false := decide_eq_false (by omega)
   have e4 : decide ((c.toNat : Int) < 97) = true := decide_eq_true (by omega)
   simp only [f18,B0,B1,B2,List.replicate,Nat.reduceAdd,Nat.reduceSub,Nat.reduceLeDiff,Nat.reduceLT,Nat.reduceEqDiff,reduceCtorEq,Int.reduceEq,Int.reduceLT,Int.reduceLE,lenA,endK,resA,tupA,hlen,h0,h1,c1,hcq,g1,g4,e1,b45,e2,e4,hq_get0,hq_set0,hlz]
  ·have e2 : decide ((48 : Int) ≤ (c.toNat : Int)) = true := decide_eq_true (by omega)
   have e3 : decide ((c.toNat : Int) ≤ 57) = false := decide_eq_false (by omega)
   have e4 : decide ((c.toNat : Int) < 97) = true := decide_eq_true (by omega)
   simp only [f18,B0,B1,B2,List.replicate,Nat.reduceAdd,Nat.reduceSub,Nat.reduceLeDiff,Nat.reduceLT,Nat.reduceEqDiff,reduceCtorEq,Int.reduceEq,Int.reduceLT,Int.reduceLE,lenA,endK,resA,tupA,hlen,h0,h1,c1,hcq,g1,g4,e1,b45,e2,e3,e4,hq_get0,hq_set0,hlz]
  ·have e2 : decide ((48 : Int) ≤ (c.toNat : Int)) = true := decide_eq_true (by omega)
   have e3 : decide ((c.toNat : Int) ≤ 57) = false := decide_eq_false (by omega)
   have e4 : decide ((c.toNat : Int) < 97) = false := decide_eq_false (by omega)
   have e5 : decide (122 < (c.toNat : Int)) = true := decide_eq_true (by omega)
   simp only [f18,B0,B1,B2,List.replicate,Nat.reduceAdd,Nat.reduceSub,Nat.reduceLeDiff,Nat.reduceLT,Nat.reduceEqDiff,reduceCtorEq,Int.reduceEq,Int.reduceLT,Int.reduceLE,lenA,endK,resA,tupA,hlen,h0,h1,c1,hcq,g1,g4,e1,b45,e2,e3,e4,e5,hq_get0,hq_set0,hlz]
theorem s18 (b : List UInt8) (hb : b.length ≤ 2305843009213693952) (ir : Nat) : ∀ d, d < 1000 → Exp b ir (d + 1)
 | 0, _ => s18step b hb ir 0 (by omega) (fun h => absurd h (by omega))
 | d + 1, h => s18step b hb ir (d + 1) (by omega) (fun _ => s18 b hb ir d (by omega))
end Go.Abs.Seat
end
section
set_option linter.unusedVariables false
set_option linter.unusedSimpArgs false
namespace Go.Abs.Seat
open Go.Proofs
def readX (s : List UInt8) : NT × Nat × Bool :=
 if (exprX s 24 0).2.2 = true then (zeroN, (exprX s 24 0).2.1, true)
 else if skipB s (exprX s 24 0).2.1 < s.length then (zeroN, skipB s (exprX s 24 0).2.1, true) else ((exprX s 24 0).1, 0, false)
def parseX (s : List UInt8) : NT × Nat × Int :=
 if 4096 < s.length then (zeroN, 0, 42) else ((readX s).1, (readX s).2.1, if (readX s).2.2 = true then 40 else 0)
theorem s9 (s : List UInt8) (H : Heap) : L 9 [.im (.str s)] H = some (.tup [.im (.agg (encN (parseX s).1)), .im (.int .i64 ((parseX s).2.1 : Int)), .im (.int .i64 (parseX s).2.2)], H) := by
 have hlz : ∀ (M : Heap) (a b : Int), leave H false (.tup [.agg [.im (.str []), .im (.int .i64 0), .im (.str []), .im (.int .i64 0), .nils, .nils], .im (.int .i64 a), .im (.int .i64 b)]) (H ++ M) = (.tup [.im (.agg (encN zeroN)), .im (.int .i64 a), .im (.int .i64 b)], H) := fun M a b => leave_deg (by simp [degrade, degrade1, toDat, toDats, zeroN, mkN, zeroT, mkT, encN, encTs, encNs]) (by simp [refsLt, refsLts])
 have hlv : ∀ (M : Heap) (op txt : List UInt8) (i k : Int) (s s2 : Nat) (args : List KT) (kids : List NT) (a b : Int), leave H false (.tup [.im (.agg [.str op, .int .i64 i, .str txt, .int .i64 k, .sl s (encTs args), .sl s2 (encNs kids)]), .im (.int .i64 a), .im (.int .i64 b)]) (H ++ M) = (.tup [.im (.agg [.str op, .int .i64 i, .str txt, .int .i64 k, .sl s (encTs args), .sl s2 (encNs kids)]), .im (.int .i64 a), .im (.int .i64 b)], H) := fun M op txt i k s s2 args kids a b => leave_deg (by simp [degrade, degrade1, toDat]) (by simp [refsLt, refsLts])
 rw [leq F9]
 obtain ⟨hlen, ha⟩ := enter_at (f := f9) (args := [.im (.str s)]) (Nat.le_of_ble_eq_true rfl)
 have h0 := ha 0 _ rfl
 generalize enterA f9 [.im (.str s)] = tm at *
 change tm.length = 41 at hlen
 unfold parseX
 by_cases hl : 4096 < s.length
 ·have e1 : decide (4096 < (s.length : Int)) = true := decide_eq_true (by omega)
  rw [if_pos hl]
  simp only [f9,B0,B1,B2,List.replicate,Nat.reduceAdd,Nat.reduceSub,Nat.reduceLeDiff,Nat.reduceLT,Nat.reduceEqDiff,reduceCtorEq,Int.reduceEq,Int.reduceLT,Int.reduceLE,lenA,endK,resA,tupA,hlen,h0,e1,hlz,zc0]
 ·have e1 : decide (4096 < (s.length : Int)) = false := decide_eq_false (by omega)
  rw [if_neg hl]
  have c1 := s18 s (by omega) (H.length + 1) 23 (by decide) 0 (H ++ [zO, objS s 0 false]) (Nat.zero_le _) (by rw [hget]; rfl)
  obtain ⟨nd, c1, hnn⟩ := c1
  rw [hset, show (((23 + 1 : Nat) : Nat) : Int) = 24 from rfl] at c1
  simp only [List.set_cons_succ,List.set_cons_zero,Nat.reduceAdd] at c1
  have hq := expr_len s 24 0 (Nat.zero_le _)
  have hq2 := skip_len hq
  have c2 := fun (o : HO) => s19 s (exprX s 24 0).2.1 (H.length + 1) false (H ++ [o, objS s (exprX s 24 0).2.1 false]) (by rw [hget]; rfl) (by omega) hq
  simp only [hset,List.set_cons_succ,List.set_cons_zero] at c2
  unfold readX
  generalize exprX s 24 0 = r at *
  obtain ⟨nr, q, bad⟩ := r
  simp only at c1 c2 hnn hq hq2 ⊢
  obtain ⟨op, ni, txt, ty, ns, kids⟩ := nd
  obtain ⟨tk, ts, targs⟩ := ty
  simp only [encN,objS,zc0] at c1
  cases bad with
  | true =>
   simp only [if_true]
   simp only [objS,zO] at *
   simp only [f9,B0,B1,B2,List.replicate,Nat.reduceAdd,Nat.reduceSub,Nat.reduceLeDiff,Nat.reduceLT,Nat.reduceEqDiff,reduceCtorEq,Int.reduceEq,Int.reduceLT,Int.reduceLE,lenA,z_ops,z_nil,z_cons,z_guard,z_some,z_drop,z_do,z_not,z_not0,pairK,forall_eq_or_imp,stays,loadOf,List.reverse_cons,List.reverse_nil,List.mem_cons,List.not_mem_nil,or_false,forall_eq,true_or,or_true,Bool.true_and,endK,resA,tupA,hlen,h0,e1,c1,hlz,zc0]
  | false =>
   rw [← hnn rfl]
   simp only [Bool.false_eq_true,if_false]
   by_cases hlt : skipB s q < s.length
   ·have e2 : decide (((skipB s q : Nat) : Int) < (s.length : Int)) = true := decide_eq_true (by omega)
    simp only [if_pos hlt,if_true]
    simp only [objS,zO] at *
    simp only [f9,B0,B1,B2,List.replicate,Nat.reduceAdd,Nat.reduceSub,Nat.reduceLeDiff,Nat.reduceLT,Nat.reduceEqDiff,reduceCtorEq,Int.reduceEq,Int.reduceLT,Int.reduceLE,lenA,z_ops,z_nil,z_cons,z_guard,z_some,z_drop,z_do,z_not,z_not0,pairK,forall_eq_or_imp,stays,loadOf,List.reverse_cons,List.reverse_nil,List.mem_cons,List.not_mem_nil,or_false,forall_eq,true_or,or_true,Bool.true_and,endK,resA,tupA,hlen,h0,e1,e2,c1,c2,hlz,zc0]
   ·have e2 : decide (((skipB s q : Nat) : Int) < (s.length : Int)) = false := decide_eq_false (by omega)
    simp only [if_neg hlt,Bool.false_eq_true,if_false]
    simp only [objS,zO] at *
    simp only [f9,B0,B1,B2,List.replicate,Nat.reduceAdd,Nat.reduceSub,Nat.reduceLeDiff,Nat.reduceLT,Nat.reduceEqDiff,reduceCtorEq,Int.reduceEq,Int.reduceLT,Int.reduceLE,lenA,z_ops,z_nil,z_cons,z_guard,z_some,z_drop,z_do,z_not,z_not0,pairK,forall_eq_or_imp,stays,loadOf,List.reverse_cons,List.reverse_nil,List.mem_cons,List.not_mem_nil,or_false,forall_eq,true_or,or_true,Bool.true_and,endK,resA,tupA,hlen,h0,e1,e2,c1,c2,hlv,encN,zc0]
end Go.Abs.Seat
end
section
set_option linter.unusedVariables false
set_option linter.unusedSimpArgs false
namespace Go.Abs.Seat
open Go.Proofs
def Low (n : Nat) (H H' : Heap) : Prop := H.length ≤ H'.length ∧ ∀ i, i < n → H'[i]? = H[i]?
theorem Low.refl {n : Nat} {H : Heap} : Low n H H := ⟨Nat.le_refl _, fun _ _ => rfl⟩
theorem Low.trans {n : Nat} {A B C : Heap} (h : Low n A B) (h2 : Low n B C) : Low n A C := ⟨Nat.le_trans h.1 h2.1, fun i a => (h2.2 i a).trans (h.2 i a)⟩
end Go.Abs.Seat
end
section
set_option linter.unusedVariables false
set_option linter.unusedSimpArgs false
namespace Go.Abs.Seat
open Go.Proofs
def ResAt (N : Nat) (w : List UInt8) (st : St) (H : Heap) : Prop := ∃ (k : Int) (y v : AV), H[N]? = some (.obj none [[.im (.str w), .im (.int .i64 st.1), .im (.str []), .im (.int .i64 k), y, v]]) ∧ TyA st.2.1 k y ∧ VA v st.2.2
end Go.Abs.Seat
end
section
set_option linter.unusedVariables false
set_option linter.unusedSimpArgs false
namespace Go.Abs.Seat
open Go.Proofs
def finX (b : List UInt8) (r : St × Nat × Bool) : Nat × Bool := if r.2.2 = true then (r.2.1, true) else signP b r.2.1 false 41
def Over20 (b w : List UInt8) (N : Nat) (H : Heap) (r : St × Nat × Bool) (e : AEx) (tm' : List AV) (H' : Heap) : Prop :=
 e = .ret ∧ tm'.length = 287 ∧ Low N H H' ∧ tm'.getD 6 undefA = .ptr N 0 0 ∧ tm'.getD 7 undefA = .im (.int .i64 ((finX b r).1 : Int)) ∧ tm'.getD 8 undefA = .im (.bool (!(finX b r).2)) ∧ ∃ w' st', ResAt N w' st' H' ∧ ((finX b r).2 = false → w' = w ∧ st' = r.1)
theorem Over20.before {b w : List UInt8} {N : Nat} {H H0 : Heap} {r : St × Nat × Bool} {e : AEx} {tm' : List AV} {H' : Heap} (h : Over20 b w N H r e tm' H') (hh : Low N H0 H) : Over20 b w N H0 r e tm' H' :=
 ⟨h.1, h.2.1, hh.trans h.2.2.1, h.2.2.2⟩
end Go.Abs.Seat
end
section
set_option linter.unusedVariables false
set_option linter.unusedSimpArgs false
namespace Go.Abs.Seat
open Go.Proofs
def hexD (n : Nat) : UInt8 := (hexW[n]?).getD 0
def quoteC (c : UInt8) : List UInt8 := if plnZ (c.toNat : Int) = true then [c] else [92, hexD (c.toNat / 16), hexD (c.toNat % 16)]
def quoteL : List UInt8 → List UInt8
 | [] => []
 | c :: s => quoteC c ++ quoteL s
def quoteB (s : List UInt8) : List UInt8 := 34 :: (quoteL s ++ [34])
theorem quoteC_len (c : UInt8) : (quoteC c).length ≤ 3 := by unfold quoteC; split <;> simp
theorem quoteL_len : ∀ s : List UInt8, (quoteL s).length ≤ 3 * s.length
 | [] => Nat.le_refl _
 | c :: s => by
  have h1 := quoteC_len c
  have h2 := quoteL_len s
  simp only [quoteL,List.length_append,List.length_cons]
  omega
theorem hexD_at (n : Nat) (h : n < 16) : hexW[n]? = some (hexD n) := by
 unfold hexD
 rw [List.getElem?_eq_getElem (show n < hexW.length from h)]
 rfl
theorem enc_hex : ∀ n : Fin 16, (Utf8.encode ((hexD n.val).toNat : Int)).data.toList = [hexD n.val] := by decide +kernel
theorem byte_hi : ∀ x : Fin 256, ((x.val : Int)).fdiv (2 ^ (Min.min (4 : Int).toNat IntKind.u8.bits)) = ((x.val / 16 : Nat) : Int) := by decide +kernel
theorem byte_lo : ∀ x : Fin 256, IntKind.u8.wrap (((BitVec.ofInt IntKind.u8.bits (x.val : Int)) &&& (BitVec.ofInt IntKind.u8.bits 15)).toNat : Int) = ((x.val % 16 : Nat) : Int) := by decide +kernel
theorem b_hi (c : UInt8) : binA .shr (.im (.int .u8 (c.toNat : Int))) (.im (.int .u64 4)) = some (.im (.int .u8 ((c.toNat / 16 : Nat) : Int))) := by
 have := byte_hi ⟨c.toNat, c.toNat_lt⟩
 simp only [binA,isShift,if_true,binShift]
 rw [if_neg (by decide), this]
theorem b_lo (c : UInt8) : binA .and (.im (.int .u8 (c.toNat : Int))) (.im (.int .u8 15)) = some (.im (.int .u8 ((c.toNat % 16 : Nat) : Int))) := by
 have := byte_lo ⟨c.toNat, c.toNat_lt⟩
 simp only [binA,isShift,Bool.false_eq_true,if_false,if_true,binInt]
 rw [this]
variable {n : Nat} {ty : TypeId × Nat} {rest : List AV}
theorem l46 (hty : Tryd.okB ty = true) (id : Nat) (s : List UInt8) (hs : s.length ≤ 4611686018427387904) :
  ∀ (m i : Nat) (tm : List AV) (H : Heap) (txt : List UInt8), i + m = s.length → txt.length + 3 * m ≤ 2 ^ 46 → HoldE ty 5 n H id rest txt → tm.length = 43 → tm.getD 0 undefA = .ptr id 0 0 →
   tm.getD 11 undefA = .im (.sl 1 (s.map fun c => [byteDat c])) → tm.getD 12 undefA = .im (.int .i64 (s.length : Int)) → tm.getD 13 undefA = .im (.int .i64 (i : Int)) →
  ∃ e tm' H', Λ c46_0 tm H = some (e, tm', H') ∧ (e = .exit 0 ∧ tm'.length = 43 ∧ tm'.getD 0 undefA = .ptr id 0 0 ∧ HoldE ty 5 n H' id rest (txt ++ quoteL (s.drop i)) ∧ Keeps n id H H')
 | 0, i, tm, H, txt, hi, hb, hH, hlen, h0, h11, h12, h13 => by
  have e : s.drop i = [] := by rw [List.drop_eq_nil_iff]; omega
  have hc : decide ((i : Int) < (s.length : Int)) = false := decide_eq_false (by omega)
  rw [l46_0, e]
  simp only [b46_0,B0,B1,B2,List.replicate,Nat.reduceAdd,Nat.reduceSub,Nat.reduceLeDiff,Nat.reduceLT,Nat.reduceEqDiff,reduceCtorEq,Int.reduceEq,Int.reduceLT,Int.reduceLE,lenA,hlen,h0,h11,h12,h13,hc]
  exact ⟨_, _, _, rfl, rfl, by simp only [List.length_set,hlen], by simp only [B3,Nat.reduceLT,Nat.reduceEqDiff,hlen,h0], by simpa only [quoteL, List.append_nil] using hH, Keeps.refl _ _ _⟩
 | m + 1, i, tm, H, txt, hi, hb, hH, hlen, h0, h11, h12, h13 => by
  have hlt : i < s.length := by omega
  have e : s.drop i = s[i] :: s.drop (i + 1) := List.drop_eq_getElem_cons hlt
  have hsi : s[i]? = some s[i] := List.getElem?_eq_getElem hlt
  generalize s[i] = c at e hsi
  have hc : decide ((i : Int) < (s.length : Int)) = true := decide_eq_true (by omega)
  have hix := idx_nat (i := i) (n := (s.map fun c => [byteDat c]).length) (by simpa using hlt)
  have hget : (s.map fun c => [byteDat c])[i]? = some [byteDat c] := by rw [List.getElem?_map, hsi]; rfl
  have hwr := wrap_nat (i := i) (by omega)
  have c51 := fun H => s51 (c.toNat : Int) H
  rw [l46_0, e]
  rcases Bool.eq_false_or_eq_true (plnZ (c.toNat : Int)) with hp | hp
  ·obtain ⟨H2, hcall, hH2, hK2⟩ := s62 hty hH c (by omega)
   have key := fun tm1 => l46 hty id s hs m (i + 1) tm1 H2 (txt ++ [c]) (by omega) (by simp; omega) hH2
   simp only [byteDat] at hcall hget c51 hix
   simp only [hp] at c51
   simp only [b46_0,B0,B1,B2,List.replicate,Nat.reduceAdd,Nat.reduceSub,Nat.reduceLeDiff,Nat.reduceLT,Nat.reduceEqDiff,reduceCtorEq,Int.reduceEq,Int.reduceLT,Int.reduceLE,lenA,byteDat,hlen,h0,h11,h12,h13,hc,hix,hget,c51,hcall,hwr]
   refine ex_imp (key _ ?_ ?_ ?_ ?_ ?_) ?_
   iterate 5 simp only [B3,Nat.reduceLT,Nat.reduceEqDiff,hlen,h0,h11,h12,byteDat]
   rintro e tm' H' ⟨he, hl, g0, gH, gK⟩
   refine ⟨he, hl, g0, ?_, hK2.trans gK⟩
   simpa only [quoteL, quoteC, hp, if_true, List.append_assoc] using gH
  ·have hq : quoteC c = [92, hexD (c.toNat / 16), hexD (c.toNat % 16)] := by unfold quoteC; rw [if_neg (by rw [hp]; simp)]
   have hhi : c.toNat / 16 < 16 := by have := c.toNat_lt; omega
   have hlo : c.toNat % 16 < 16 := by omega
   have e1 := enc_hex ⟨c.toNat / 16, hhi⟩
   have e2 := enc_hex ⟨c.toNat % 16, hlo⟩
   have g1 := hexD_at _ hhi
   have g2 := hexD_at _ hlo
   have q1 := b_hi c
   have q2 := b_lo c
   obtain ⟨H2, hcall, hH2, hK2⟩ := s44 hty hH [92, hexD (c.toNat / 16), hexD (c.toNat % 16)] (by simp only [List.length_cons,List.length_nil]; omega)
   have key := fun tm1 => l46 hty id s hs m (i + 1) tm1 H2 (txt ++ [92, hexD (c.toNat / 16), hexD (c.toNat % 16)]) (by omega) (by simp; omega) hH2
   have p1 : (0 : Int) ≤ ((c.toNat / 16 : Nat) : Int) := Int.natCast_nonneg _
   have p2 : (0 : Int) ≤ ((c.toNat % 16 : Nat) : Int) := Int.natCast_nonneg _
   simp only [byteDat] at hcall hget c51 hix
   simp only [hp] at c51
   simp only [hexW] at g1 g2
   generalize c.toNat / 16 = u1 at *
   generalize c.toNat % 16 = u2 at *
   generalize hexD u1 = x1 at *
   generalize hexD u2 = x2 at *
   have a1 : ∀ a b : List UInt8, a.length + b.length ≤ 100 → binA .add (.im (.str a)) (.im (.str b)) = some (.im (.str (a ++ b))) := fun a b h => s_add (by omega)
   have a2 := a1 [92] [x1] (by simp)
   have a3 := a1 [92, x1] [x2] (by simp)
   simp only [List.cons_append,List.nil_append] at a2 a3
   clear a1
   simp only [b46_0,B0,B1,B2,List.replicate,Nat.reduceAdd,Nat.reduceSub,Nat.reduceLeDiff,Nat.reduceLT,Nat.reduceEqDiff,reduceCtorEq,Int.reduceEq,Int.reduceLT,Int.reduceLE,lenA,byteDat,intOfA,Int.toNat_natCast,hlen,h0,h11,h12,h13,hc,hix,hget,c51,q1,q2,p1,p2,g1,g2,e1,e2,a2,a3,hcall,hwr]
   refine ex_imp (key _ ?_ ?_ ?_ ?_ ?_) ?_
   iterate 5 simp only [B3,Nat.reduceLT,Nat.reduceEqDiff,hlen,h0,h11,h12,byteDat]
   rintro e tm' H' ⟨he, hl, g0, gH, gK⟩
   refine ⟨he, hl, g0, ?_, hK2.trans gK⟩
   simpa only [quoteL, hq, List.append_assoc] using gH
theorem s46 (hty : Tryd.okB ty = true) {H : Heap} {id : Nat} {txt : List UInt8} (h : HoldE ty 5 n H id rest txt) (s : List UInt8) (hs : s.length ≤ 1000000) (hb : txt.length ≤ 1000000000) :
  ∃ H', L 46 [.ptr id 0 0, .im (.str s)] H = some (.tup [], H') ∧ HoldE ty 5 n H' id rest (txt ++ quoteB s) ∧ Keeps n id H H' := by
 obtain ⟨H1, hc1, hH1, hK1⟩ := s62 hty h 34 (by omega)
 have key := fun tm1 => l46 (n := n) hty id s (by omega) s.length 0 tm1 H1 (txt ++ [34]) (by omega) (by simp; omega) hH1
 suffices hsuf : ∃ H2, HoldE ty 5 n H2 id rest (txt ++ quoteB s) ∧ Keeps n id H H2 ∧ L 46 [.ptr id 0 0, .im (.str s)] H = some (leave H false (.tup []) H2) by
  obtain ⟨H2, h1, h2, h3⟩ := hsuf
  obtain ⟨H', e1, e2, e3⟩ := leave_holdE (r := .tup []) (r' := .tup []) rfl h h1 h2
  exact ⟨H', by rw [h3, e1], e2, e3⟩
 rw [leq F46]
 obtain ⟨hlen, ha⟩ := enter_at (f := f46) (args := [.ptr id 0 0, .im (.str s)]) (Nat.le_of_ble_eq_true rfl)
 have h0 := ha 0 _ rfl
 have h1 := ha 1 _ rfl
 generalize enterA f46 [.ptr id 0 0, .im (.str s)] = tm at *
 change tm.length = 43 at hlen
 have z : ((0 : Nat) : Int) = 0 := rfl
 have b34 : (((34 : UInt8).toNat : Nat) : Int) = 34 := rfl
 simp only [byteDat,b34] at hc1
 have hml : (s.map fun c => [byteDat c]).length = s.length := by simp
 simp only [byteDat] at hml
 simp only [z,List.drop_zero,byteDat] at key
 simp only [f46,e46_0,B0,B1,B2,List.replicate,Nat.reduceAdd,Nat.reduceSub,Nat.reduceLeDiff,Nat.reduceLT,Nat.reduceEqDiff,reduceCtorEq,Int.reduceEq,Int.reduceLT,Int.reduceLE,lenA,byteDat,hlen,h0,h1,hc1,hml]
 refine thenL_ex (fun r => ∃ H2, HoldE ty 5 n H2 id rest (txt ++ quoteB s) ∧ Keeps n id H H2 ∧ r = some (leave H false (.tup []) H2)) (key _ ?_ ?_ ?_ ?_ ?_) ?_
 iterate 5 simp only [B3,Nat.reduceLT,Nat.reduceEqDiff,hlen,h0,h1,hml]
 rintro e tm1 H2 ⟨rfl, hl1, a0, aH, aK⟩
 obtain ⟨H3, hc3, hH3, hK3⟩ := s62 hty aH 34 (by
  have := quoteL_len s
  simp only [List.length_append,List.length_cons,List.length_nil]
  omega)
 simp only [byteDat,b34] at hc3
 simp only [B0,B1,B2,List.replicate,Nat.reduceAdd,Nat.reduceSub,Nat.reduceLeDiff,Nat.reduceLT,Nat.reduceEqDiff,reduceCtorEq,Int.reduceEq,Int.reduceLT,Int.reduceLE,lenA,hl1,a0,hc3,endK,f46,resA,tupA]
 refine ⟨H3, ?_, (hK1.trans aK).trans hK3, rfl⟩
 simpa only [quoteB, List.append_assoc, List.cons_append, List.nil_append] using hH3
end Go.Abs.Seat
end
section
set_option linter.unusedVariables false
set_option linter.unusedSimpArgs false
namespace Go.Abs.Seat
open Go.Proofs
abbrev WSt := List UInt8 × Bool
def WA (n : Nat) (H : Heap) (id : Nat) (st : WSt) : Prop := HoldE (66, 3) 5 n H id [.im (.bool st.2)] st.1
theorem wa_more {n : Nat} {H : Heap} {id : Nat} {st : WSt} (h : WA n H id st) (M : Heap) : WA n (H ++ M) id st := HoldE.more h M
theorem wa_get {n : Nat} {H : Heap} {id : Nat} {st : WSt} (h : WA n H id st) : ∃ a0 v, H[id]? = some (.obj (some (66, 3)) [[a0, v, .im (.bool st.2)]]) ∧ lenA v = some st.1.length ∧
  ∀ b, WA n (H.set id (.obj (some (66, 3)) [[a0, v, .im (.bool b)]])) id (st.1, b) := by
 obtain ⟨a0, v, h1, h2, h3, h4⟩ := h
 have hlt := (List.getElem?_eq_some_iff.1 h1).1
 refine ⟨a0, v, h1, ?_, fun b => ⟨a0, v, by rw [List.getElem?_set_self hlt], h2, h3.set_obj h1 _, by simpa using h4⟩⟩
 rcases h3 with ⟨he, rfl⟩ | ⟨_, tok, _, rfl, _⟩
 ·have : st.1 = [] := by simpa using he
  rw [this]; rfl
 ·simp [lenA]
theorem wa_lt {n : Nat} {H : Heap} {id : Nat} {st : WSt} (h : WA n H id st) : id < H.length := by
 obtain ⟨a0, v, h1, _⟩ := h
 exact (List.getElem?_eq_some_iff.1 h1).1
theorem okw : Tryd.okB (66, 3) = true := by decide
theorem wa_leave {n : Nat} {H H2 : Heap} {id : Nat} {st st2 : WSt} (h : WA n H id st) (h2 : WA n H2 id st2) (hk : Keeps n id H H2) :
  ∃ H', leave H false (.tup []) H2 = (.tup [], H') ∧ WA n H' id st2 ∧ Keeps n id H H' := leave_holdE (r := .tup []) (r' := .tup []) rfl h h2 hk
section
variable {n : Nat} {H : Heap} {id : Nat} {st : WSt} (hw : WA n H id st) (op txt : List UInt8) (i k : Int) (sa s : Nat) (args : List KT) (kids : List NT) (d : Nat)
include hw
end
end Go.Abs.Seat
end
section
set_option linter.unusedVariables false
set_option linter.unusedSimpArgs false
namespace Go.Abs.Seat
open Go.Proofs
theorem leave_keeps {n id : Nat} {H M H2 : Heap} {r : AV} (hd : degrade r = r) (hr : refsLt H.length r = true) (hn : H.length ≤ n) (hid : H.length ≤ id) (hk : Keeps n id (H ++ M) H2) : leave H false r H2 = (r, H) := by
 have hsame : ∀ i, i < H.length → H2[i]? = H[i]? := fun i hi => by
  rw [hk.2.2 i (by omega) (by simp; omega) (by omega), List.getElem?_append_left hi]
 have hheld : heldIn H H2 := fun i hi => .inl (hsame i hi)
 have htake : H2.take H.length = H := by
  apply List.ext_getElem?
  intro i
  rw [List.getElem?_take]
  split
  ·rename_i hi; exact hsame i hi
  ·rw [List.getElem?_eq_none (by omega)]
 unfold leave
 have e : (if (false : Bool) = true then r else degrade r) = r := by simp [hd]
 rw [e, if_pos ⟨hr, hheld⟩, htake]
end Go.Abs.Seat
end
section
set_option linter.unusedVariables false
set_option linter.unusedSimpArgs false
set_option linter.unusedSectionVars false
namespace Go.Abs.Seat
open Go.Proofs
abbrev aOz (op txt : List UInt8) (i : Int) : AV := .agg [.im (.str op), .im (.int .i64 i), .im (.str txt), .im (.int .i64 0), .nils, .nils]
abbrev nOz (op txt : List UInt8) (i : Int) : HO := .obj none [[.im (.str op), .im (.int .i64 i), .im (.str txt), .im (.int .i64 0), .nils, .nils]]
section
variable (op txt : List UInt8) (i : Int) (H : Heap)
theorem s43t : L 43 [aOz op txt 0, .im (.bool false), .im (.bool true), .im (.bool false), .im (.bool false)] H = some (.im (.bool true), H) := by
 rw [leq F43]
 obtain ⟨hlen, ha⟩ := enter_at (f := f43) (args := [aOz op txt 0, .im (.bool false), .im (.bool true), .im (.bool false), .im (.bool false)]) (Nat.le_of_ble_eq_true rfl)
 have h0 := ha 0 _ rfl
 have h1 := ha 1 _ rfl
 have h2 := ha 2 _ rfl
 have h3 := ha 3 _ rfl
 have h4 := ha 4 _ rfl
 generalize enterA f43 [aOz op txt 0, .im (.bool false), .im (.bool true), .im (.bool false), .im (.bool false)] = tm at *
 change tm.length = 50 at hlen
 clear ha
 have e2 : decide ((0 : Int) = 0) = true := rfl
 have e3 : decide (((0 : Nat) : Int) = 0) = true := rfl
 simp only [f43,B0,B1,B2,List.replicate,Nat.reduceAdd,Nat.reduceSub,Nat.reduceLeDiff,Nat.reduceLT,Nat.reduceEqDiff,reduceCtorEq,Int.reduceEq,Int.reduceLT,Int.reduceLE,lenA,z_ops,z_nil,z_cons,z_guard,z_some,z_drop,z_do,z_not,z_not0,pairK,forall_eq_or_imp,stays,loadOf,List.reverse_cons,List.reverse_nil,List.mem_cons,List.not_mem_nil,or_false,forall_eq,true_or,or_true,Bool.true_and,endK,resA,tupA,hlen,h0,h1,h2,h3,h4,e2,e3,leave_app]
end
def Wrotz (n : Nat) (H : Heap) (id : Nat) (a : AV) (r : WSt) : Prop :=
 ∃ H2, WA n H2 id r ∧ Keeps n id H H2 ∧ L 24 [.ptr id 0 0, a, .im (.int .i64 24)] H = some (leave H false (.tup []) H2)
section
variable {n : Nat} {H : Heap} {id : Nat} (hw : WA n H id ([], false))
include hw
theorem s24t (txt : List UInt8) (hlen2 : ¬ 256 < txt.length) : Wrotz n H id (aOz textW txt 0) (quoteB txt, false) := by
 have hidlt := wa_lt hw
 have hw1 := wa_more hw [nOz textW txt 0]
 obtain ⟨a0, v, hid, hlv, hset⟩ := wa_get hw1
 have hbx : (H ++ [nOz textW txt 0])[H.length]? = some (nOz textW txt 0) := by simp
 have hk1 : Keeps n id H (H ++ [nOz textW txt 0]) := (Keeps.refl n id H).app _
 have c33 := fun H => s33 textW H
 have hidlt1 : id < (H ++ [nOz textW txt 0]).length := by simp only [List.length_append]; omega
 have d0 : decide ((24 : Int) = 0) = false := rfl
 have d1 : decide ((4096 : Int) < (0 : Int)) = false := rfl
 have c25 : L 25 _ _ = some (.im (.int .i64 0), _) := s25 hw1
 have hbx2 : ∀ x, ((H ++ [nOz textW txt 0]).set id x)[H.length]? = some (nOz textW txt 0) := fun x => by rw [List.getElem?_set_ne (by omega)]; exact hbx
 have hid : _ = some (HO.obj (some (66, 3)) [[a0, v, .im (.bool false)]]) := hid
 have c43 := fun H => s43t textW txt H
 have e1 : decide (([116, 101, 120, 116, 95, 111, 102] : List UInt8) = [105, 110, 116]) = false := rfl
 have e2 : decide (([116, 101, 120, 116, 95, 111, 102] : List UInt8) = [116, 101, 120, 116, 95, 111, 102]) = true := rfl
 have e3 : decide ((256 : Int) < (txt.length : Int)) = false := decide_eq_false (by omega)
 obtain ⟨H2, c46, hH2, hK2⟩ := s46 okw (hset false) txt (by omega) (by simp only [List.length_nil]; omega)
 simp only [List.nil_append] at hH2
 unfold Wrotz
 rw [leq F24]
 obtain ⟨hlen, ha⟩ := enter_at (f := f24) (args := [.ptr id 0 0, aOz textW txt 0, .im (.int .i64 24)]) (Nat.le_of_ble_eq_true rfl)
 have h0 := ha 0 _ rfl
 have h1 := ha 1 _ rfl
 have h2 := ha 2 _ rfl
 generalize enterA f24 [.ptr id 0 0, aOz textW txt 0, .im (.int .i64 24)] = tm at *
 change tm.length = 167 at hlen
 clear ha
 simp only [nOz,aOz,intW,textW] at *
 simp only [f24,B0,B1,B2,List.replicate,Nat.reduceAdd,Nat.reduceSub,Nat.reduceLeDiff,Nat.reduceLT,Nat.reduceEqDiff,reduceCtorEq,Int.reduceEq,Int.reduceLT,Int.reduceLE,endK,resA,tupA,hlen,h0,h1,h2,hid,hbx,c33,d0,d1,c25,e1,e2,e3,c43,hbx2,List.set_set,List.getElem?_set_self hidlt1,c46]
 exact ⟨H2, hH2, (hk1.set _).trans hK2, rfl⟩
theorem s24l (txt : List UInt8) (hlen2 : 256 < txt.length) : Wrotz n H id (aOz textW txt 0) ([], true) := by
 have hidlt := wa_lt hw
 have hw1 := wa_more hw [nOz textW txt 0]
 obtain ⟨a0, v, hid, hlv, hset⟩ := wa_get hw1
 have hbx : (H ++ [nOz textW txt 0])[H.length]? = some (nOz textW txt 0) := by simp
 have hk1 : Keeps n id H (H ++ [nOz textW txt 0]) := (Keeps.refl n id H).app _
 have c33 := fun H => s33 textW H
 have hidlt1 : id < (H ++ [nOz textW txt 0]).length := by simp only [List.length_append]; omega
 have d0 : decide ((24 : Int) = 0) = false := rfl
 have d1 : decide ((4096 : Int) < (0 : Int)) = false := rfl
 have c25 : L 25 _ _ = some (.im (.int .i64 0), _) := s25 hw1
 have hbx2 : ∀ x, ((H ++ [nOz textW txt 0]).set id x)[H.length]? = some (nOz textW txt 0) := fun x => by rw [List.getElem?_set_ne (by omega)]; exact hbx
 have hid : _ = some (HO.obj (some (66, 3)) [[a0, v, .im (.bool false)]]) := hid
 have c43 := fun H => s43t textW txt H
 have e1 : decide (([116, 101, 120, 116, 95, 111, 102] : List UInt8) = [105, 110, 116]) = false := rfl
 have e2 : decide (([116, 101, 120, 116, 95, 111, 102] : List UInt8) = [116, 101, 120, 116, 95, 111, 102]) = true := rfl
 have e3 : decide ((256 : Int) < (txt.length : Int)) = true := decide_eq_true (by omega)
 unfold Wrotz
 rw [leq F24]
 obtain ⟨hlen, ha⟩ := enter_at (f := f24) (args := [.ptr id 0 0, aOz textW txt 0, .im (.int .i64 24)]) (Nat.le_of_ble_eq_true rfl)
 have h0 := ha 0 _ rfl
 have h1 := ha 1 _ rfl
 have h2 := ha 2 _ rfl
 generalize enterA f24 [.ptr id 0 0, aOz textW txt 0, .im (.int .i64 24)] = tm at *
 change tm.length = 167 at hlen
 clear ha
 simp only [nOz,aOz,intW,textW] at *
 simp only [f24,B0,B1,B2,List.replicate,Nat.reduceAdd,Nat.reduceSub,Nat.reduceLeDiff,Nat.reduceLT,Nat.reduceEqDiff,reduceCtorEq,Int.reduceEq,Int.reduceLT,Int.reduceLE,endK,resA,tupA,hlen,h0,h1,h2,hid,hbx,c33,d0,d1,c25,e1,e2,e3,c43,hbx2,List.set_set,List.getElem?_set_self hidlt1]
 exact ⟨_, hset true, hk1.set _, rfl⟩
end
theorem s14z (op txt : List UInt8) (i : Int) (r : WSt) (H : Heap)
  (h24 : ∀ n id H, WA n H id ([], false) → Wrotz n H id (aOz op txt i) r) (hr : r.2 = false → r.1.length ≤ 4096 ∧ r.1 ≠ []) :
  L 14 [aOz op txt i] H = some (.tup [.im (.str (if r.2 = true then [] else r.1)), .im (.int .i64 (if r.2 = true then 110 else 0))], H) := by
 have hw0 : WA (H.length + 2) (H ++ [nOz op txt i, .obj (some (66, 3)) [[.im .nilp, .nils, .im (.bool false)]]]) (H.length + 1) ([], false) :=
  ⟨.im .nilp, .nils, by rw [Go.Abs.hget]; rfl, .inl rfl, .inl ⟨rfl, rfl⟩, by simp⟩
 obtain ⟨H3, hw3, hK3, c24⟩ := h24 _ _ _ hw0
 obtain ⟨H2, hle, hw2, hK2⟩ := wa_leave hw0 hw3 hK3
 rw [hle] at c24
 obtain ⟨out, bad⟩ := r
 simp only at hr ⊢
 obtain ⟨a0, v, hid, _, hset⟩ := wa_get hw2
 have c25 := s25 hw2
 have hlv : ∀ (x : List UInt8) (e : Int) (H3 : Heap), Keeps (H.length + 2) (H.length + 1) (H ++ [nOz op txt i, .obj (some (66, 3)) [[.im .nilp, .nils, .im (.bool false)]]]) H3 →
   leave H false (.tup [.im (.str x), .im (.int .i64 e)]) H3 = (.tup [.im (.str x), .im (.int .i64 e)], H) := fun x e H3 h => leave_keeps (by simp [degrade, degrade1, toDat]) (by simp [refsLt, refsLts]) (by omega) (by omega) h
 simp only [nOz,aOz] at *
 rw [leq F14]
 obtain ⟨hlen, ha⟩ := enter_at (f := f14) (args := [.agg [.im (.str op), .im (.int .i64 i), .im (.str txt), .im (.int .i64 0), .nils, .nils]]) (Nat.le_of_ble_eq_true rfl)
 have h0 := ha 0 _ rfl
 generalize enterA f14 [.agg [.im (.str op), .im (.int .i64 i), .im (.str txt), .im (.int .i64 0), .nils, .nils]] = tm at *
 change tm.length = 25 at hlen
 clear ha
 cases bad with
 | true =>
  simp only [f14,B0,B1,B2,List.replicate,Nat.reduceAdd,Nat.reduceSub,Nat.reduceLeDiff,Nat.reduceLT,Nat.reduceEqDiff,reduceCtorEq,Int.reduceEq,Int.reduceLT,Int.reduceLE,lenA,endK,resA,tupA,hlen,h0,c24,hid,hlv _ _ _ hK2]
 | false =>
  obtain ⟨hl, hne⟩ := hr rfl
  have e1 : decide ((4096 : Int) < (out.length : Int)) = false := decide_eq_false (by omega)
  obtain ⟨b0, u, hid', _, hG, _⟩ := hw2
  rcases hG with ⟨hes, _⟩ | ⟨_, tok, htok, rfl, hhw⟩
  ·exact absurd (by simpa using hes) hne
  ·have c26 : L 26 [.ptr (H.length + 1) 0 0] H2 = some (.im (.str out), H2.set tok (.hw 5 (out.length + 1))) := by
    rw [L26]
    simp only [stE,hid',hhw,bytesE_of]
    rw [if_pos ⟨by decide, trivial, by simp, trivial, List.length_pos_iff.2 hne, by omega⟩]
    simp
   have hK4 : Keeps (H.length + 2) (H.length + 1) (H ++ [.obj none [[.im (.str op), .im (.int .i64 i), .im (.str txt), .im (.int .i64 0), .nils, .nils]], .obj (some (66, 3)) [[.im .nilp, .nils, .im (.bool false)]]]) (H2.set tok (.hw 5 (out.length + 1))) :=
    ⟨by simpa using hK2.1, fun j ty es hj hA => by
     have := hK2.2.1 j ty es hj hA
     have hne2 : tok ≠ j := fun e => by subst e; rw [hhw] at this; simp at this
     rw [List.getElem?_set_ne hne2]; exact this, fun j hj hl2 hji => by
     rw [List.getElem?_set_ne (by omega)]; exact hK2.2.2 j hj hl2 hji⟩
   simp only [f14,B0,B1,B2,List.replicate,Nat.reduceAdd,Nat.reduceSub,Nat.reduceLeDiff,Nat.reduceLT,Nat.reduceEqDiff,reduceCtorEq,Int.reduceEq,Int.reduceLT,Int.reduceLE,lenA,endK,resA,tupA,hlen,h0,c24,hid,c25,e1,c26,hlv _ _ _ hK4]
theorem s14t (txt : List UInt8) (h : ¬ 256 < txt.length) (H : Heap) : L 14 [aOz textW txt 0] H = some (.tup [.im (.str (quoteB txt)), .im (.int .i64 0)], H) :=
 s14z textW txt 0 (quoteB txt, false) H (fun n id H hw => s24t hw txt h) (fun _ => ⟨by have := quoteL_len txt; simp only [quoteB,List.length_append,List.length_cons,List.length_nil]; omega, by simp [quoteB]⟩)
theorem s14l (txt : List UInt8) (h : 256 < txt.length) (H : Heap) : L 14 [aOz textW txt 0] H = some (.tup [.im (.str []), .im (.int .i64 110)], H) :=
 s14z textW txt 0 ([], true) H (fun n id H hw => s24l hw txt h) (fun h => by simp at h)
end Go.Abs.Seat
end
section
set_option linter.unusedVariables false
set_option linter.unusedSimpArgs false
namespace Go.Abs.Seat
open Go.Proofs
def LocN {α : Type} (s s' : List UInt8) (q q' : α × Nat × Bool) : Prop :=
 (∀ i, i < q.2.1 → s'[i]? = s[i]?) → (s'[q.2.1]? = s[q.2.1]? ∨ s'[q.2.1]? = none) →
  q'.2.1 = q.2.1 ∧ (q.2.2 = false → q' = q) ∧ (s'[q.2.1]? = s[q.2.1]? → q'.2.2 = q.2.2)
theorem at_le {s s' : List UInt8} {e m : Nat} (hle : e ≤ m) (ha : ∀ i, i < m → s'[i]? = s[i]?) (hf : s'[m]? = s[m]? ∨ s'[m]? = none) : s'[e]? = s[e]? ∨ s'[e]? = none := by
 rcases Nat.lt_or_ge e m with h | h
 ·exact .inl (ha e h)
 ·obtain rfl : e = m := by omega
  exact hf
theorem LocN.ok {α : Type} {s s' : List UInt8} {a a' : α × Nat × Bool} {m : Nat} (h : LocN s s' a a') (hb : a.2.2 = false) (hle : a.2.1 ≤ m) (ha : ∀ i, i < m → s'[i]? = s[i]?) (hf : s'[m]? = s[m]? ∨ s'[m]? = none) : a' = a :=
 (h (fun i hi => ha i (by omega)) (at_le hle ha hf)).2.1 hb
theorem LocN.bad {α : Type} {s s' : List UInt8} {v : α} {p : Nat} {q' : α × Nat × Bool} (h1 : s'[p]? = s[p]? → q'.2.1 = p ∧ q'.2.2 = true) (h2 : s'[p]? = none → q'.2.1 = p) : LocN s s' (v, p, true) q' :=
 fun ha hf => ⟨by rcases hf with hf | hf; exact (h1 hf).1; exact h2 hf, fun h => by simp at h, fun h => (h1 h).2⟩
theorem skip_end {s : List UInt8} {p : Nat} (h : s[p]? = none) : skipB s p = p := skip_at (by rw [h]; simp)
end Go.Abs.Seat
end
section
set_option linter.unusedVariables false
set_option linter.unusedSimpArgs false
namespace Go.Abs.Seat
open Go.Proofs
theorem LocN.map {α β : Type} {s s' : List UInt8} {q q' : α × Nat × Bool} (f : α → β) (h : LocN s s' q q') : LocN s s' (f q.1, q.2.1, q.2.2) (f q'.1, q'.2.1, q'.2.2) :=
 fun ha hf => ⟨(h ha hf).1, fun hb => by rw [(h ha hf).2.1 hb], (h ha hf).2.2⟩
theorem LocN.bad' {α : Type} {s s' : List UInt8} {v : α} {p : Nat} {q' : α × Nat × Bool} (h : (∀ i, i < p → s'[i]? = s[i]?) → (s'[p]? = s[p]? ∨ s'[p]? = none) → q'.2.1 = p ∧ (s'[p]? = s[p]? → q'.2.2 = true)) : LocN s s' (v, p, true) q' :=
 fun ha hf => ⟨(h ha hf).1, fun h => by simp at h, (h ha hf).2⟩
structure Rd (s s' : List UInt8) (rd rd' : Nat → NT × Nat × Bool) : Prop where
 up : ∀ p, p ≤ (rd p).2.1
 loc : ∀ p, LocN s s' (rd p) (rd' p)
 stay : ∀ p, s'[p]? = none → (rd' p).2.1 = p
def wordX (b : List UInt8) (d : Nat) (w : List UInt8) (r : Nat) : NT × Nat × Bool :=
 match shapeT w with
   | none => (mkN nameW 0 w zeroT [], r, false)
   | some ps => if ps = [] then (mkN w 0 [] zeroT [], r, false)
    else if d = 0 ∧ ps ≠ [100] ∧ ps ≠ [116] then (zeroN, r, true)
    else callX (exprX b d) b w ps r
theorem exprX_eq2 (b : List UInt8) (d p : Nat) : exprX b (d + 1) p =
  if peekB b (skipB b p) = 34 then strP b (skipB b p + 1)
  else if (decide (peekB b (skipB b p) = 45) || digZ ((peekB b (skipB b p)).toNat : Int)) = true then numP b (skipB b p)
  else if letZ ((peekB b (skipB b p)).toNat : Int) = false then (zeroN, skipB b p, true)
  else if longB b (skipB b p) = true then (zeroN, runB b (skipB b p), true)
  else wordX b d (wordB b (skipB b p)) (runB b (skipB b p)) := rfl
end Go.Abs.Seat
end
section
set_option linter.unusedVariables false
set_option linter.unusedSimpArgs false
namespace Go.Abs.Seat
open Go.Proofs
theorem readX_of {s : List UInt8} {t : NT} (h : exprX s 24 0 = (t, s.length, false)) : readX s = (t, 0, false) := by
 unfold readX
 rw [h]
 simp only [Bool.false_eq_true,if_false]
 rw [skip_end (by exact List.getElem?_eq_none (Nat.le_refl _)), if_neg (Nat.lt_irrefl _)]
end Go.Abs.Seat
end
section
set_option linter.unusedVariables false
set_option linter.unusedSimpArgs false
namespace Go.Abs.Seat
open Go.Proofs
set_option maxRecDepth 100000 in
theorem awakeE : runC bld T 400 10 [] [] = some (.im (.bool true), []) := by kernel_rfl
theorem s10 (H : Heap) : L 10 [] H = some (.im (.bool true), H) := lim_at bsh Tok Tno awakeE H
end Go.Abs.Seat
end
section
set_option linter.unusedVariables false
set_option linter.unusedSimpArgs false
namespace Go.Abs.Seat
open Go.Proofs
theorem dec_plain {s : List UInt8} {j : Nat} {c : UInt8} (h : s[j]? = some c) (hc : c.toNat < 128) : (Utf8.decode ⟨s.toArray⟩ j).2 = 1 := by
 have hj : j < s.length := (List.getElem?_eq_some_iff.1 h).1
 have e : (ByteArray.mk s.toArray).get! (j + 0) = c := by
  show s.toArray[j + 0]! = c
  simp only [Nat.add_zero]
  rw [getElem!_pos _ _ (by simpa using hj)]
  have := List.getElem?_eq_getElem hj
  rw [h] at this
  simpa using (Option.some.inj this).symm
 simp only [Utf8.decode,e]
 rw [if_pos hc]
end Go.Abs.Seat
end
section
set_option linter.unusedVariables false
set_option linter.unusedSimpArgs false
namespace Go.Abs.Seat
open Go.Proofs
theorem esc_all : ∀ x : Fin 256, plnZ (x.val : Int) = false → shut (nibZ ((hexD (x.val / 16)).toNat : Int)) = false ∧ nibZ ((hexD (x.val / 16)).toNat : Int) = ((x.val / 16 : Nat) : Int) ∧ nibZ ((hexD (x.val % 16)).toNat : Int) = ((x.val % 16 : Nat) : Int) := by decide +kernel
theorem hex_pln : ∀ x : Fin 16, 32 ≤ (hexD x.val).toNat ∧ (hexD x.val).toNat ≤ 126 := by decide +kernel
theorem pln_of {c : UInt8} (h : plnZ (c.toNat : Int) = true) : 32 ≤ c.toNat ∧ c.toNat ≤ 126 ∧ c ≠ 34 ∧ c ≠ 92 := by
 unfold plnZ at h
 simp only [Bool.and_eq_true,decide_eq_true_eq,Bool.not_eq_true',decide_eq_false_iff_not] at h
 obtain ⟨⟨⟨h1, h2⟩, h3⟩, h4⟩ := h
 refine ⟨by omega, by omega, fun e => ?_, fun e => ?_⟩
 ·apply h3; rw [e]; rfl
 ·apply h4; rw [e]; rfl
theorem quoteC_pln (c : UInt8) : ∀ x ∈ quoteC c, 32 ≤ x.toNat ∧ x.toNat ≤ 126 := by
 intro x hx
 unfold quoteC at hx
 split at hx
 ·rename_i h
  obtain ⟨h1, h2, _⟩ := pln_of h
  rw [List.mem_singleton.1 hx]
  exact ⟨h1, h2⟩
 ·have hc := c.toNat_lt
  simp only [List.mem_cons,List.not_mem_nil,or_false] at hx
  rcases hx with rfl | rfl | rfl
  ·decide
  ·exact hex_pln ⟨c.toNat / 16, by omega⟩
  ·exact hex_pln ⟨c.toNat % 16, by omega⟩
theorem quoteL_pln : ∀ (l : List UInt8), ∀ x ∈ quoteL l, 32 ≤ x.toNat ∧ x.toNat ≤ 126
 | [], x, h => by simp [quoteL] at h
 | c :: l, x, h => by
  simp only [quoteL,List.mem_append] at h
  rcases h with h | h
  ·exact quoteC_pln c x h
  ·exact quoteL_pln l x h
theorem quoteB_pln (l : List UInt8) : ∀ x ∈ quoteB l, 32 ≤ x.toNat ∧ x.toNat ≤ 126 := by
 intro x h
 unfold quoteB at h
 simp only [List.mem_cons,List.mem_append,List.not_mem_nil,or_false] at h
 rcases h with rfl | h | rfl
 ·decide
 ·exact quoteL_pln l x h
 ·decide
theorem quoteC_ge (c : UInt8) : 1 ≤ (quoteC c).length := by unfold quoteC; split <;> simp
theorem quoteL_ge : ∀ l : List UInt8, l.length ≤ (quoteL l).length
 | [] => Nat.le_refl _
 | c :: l => by
  have h1 := quoteC_ge c
  have h2 := quoteL_ge l
  simp only [quoteL,List.length_append,List.length_cons]
  omega
theorem quoteB_len (l : List UInt8) : (quoteB l).length = (quoteL l).length + 2 := by simp [quoteB]
theorem strN_quote {b : List UInt8} : ∀ (l : List UInt8) (f p : Nat) (out : List UInt8), (∀ i, i < (quoteL l ++ [34]).length → b[p + i]? = (quoteL l ++ [34])[i]?) → out.length + l.length ≤ 256 → l.length < f → strN b f out p = (out ++ l, p + (quoteL l).length + 1, false)
 | [], f, p, out, hb, ho, hf => by
  obtain ⟨f', rfl⟩ : ∃ f', f = f' + 1 := ⟨f - 1, by omega⟩
  have h0 := hb 0 (by simp)
  have hpk : peekB b p = 34 := by unfold peekB; rw [Nat.add_zero] at h0; rw [h0]; rfl
  unfold strN
  rw [if_pos hpk]
  simp [quoteL]
 | c :: l, f, p, out, hb, ho, hf => by
  simp only [List.length_cons] at hf ho
  obtain ⟨f', rfl⟩ : ∃ f', f = f' + 1 := ⟨f - 1, by omega⟩
  simp only [quoteL,List.append_assoc] at hb
  have hrest : ∀ i, i < (quoteL l ++ [34]).length → b[p + (quoteC c).length + i]? = (quoteL l ++ [34])[i]? := fun i hi => by
   have := hb ((quoteC c).length + i) (by rw [List.length_append]; omega)
   rw [← Nat.add_assoc, List.getElem?_append_right (by omega), Nat.add_sub_cancel_left] at this
   exact this
  have hhead : ∀ i, i < (quoteC c).length → b[p + i]? = (quoteC c)[i]? := fun i hi => by
   rw [hb i (by rw [List.length_append]; omega), List.getElem?_append_left hi]
  have ho2 : decide (out.length = 256) = false := decide_eq_false (by omega)
  unfold strN
  rcases Bool.eq_false_or_eq_true (plnZ (c.toNat : Int)) with hp | hp
  ·have hq : quoteC c = [c] := by unfold quoteC; rw [if_pos hp]
   rw [hq] at hrest hhead
   have hpk : peekB b p = c := by have := hhead 0 (by simp); unfold peekB; rw [Nat.add_zero] at this; rw [this]; rfl
   obtain ⟨_, _, h34, h92⟩ := pln_of hp
   rw [hpk, if_neg h34, ho2, hp, if_neg (by simp), if_neg h92]
   rw [strN_quote l f' (p + 1) (out ++ [c]) hrest (by simp only [List.length_append,List.length_cons,List.length_nil]; omega) (by omega)]
   simp only [quoteL,hq,List.append_assoc,List.length_append,List.length_cons,List.length_nil,List.cons_append,List.nil_append]
   exact Prod.ext rfl (Prod.ext (by simp only; omega) rfl)
  ·have hq : quoteC c = [92, hexD (c.toNat / 16), hexD (c.toNat % 16)] := by unfold quoteC; rw [if_neg (by rw [hp]; simp)]
   obtain ⟨g1, g2, g3⟩ := esc_all ⟨c.toNat, c.toNat_lt⟩ hp
   simp only at g1 g2 g3
   rw [hq] at hrest hhead
   have hpk : peekB b p = 92 := by have := hhead 0 (by simp); unfold peekB; rw [Nat.add_zero] at this; rw [this]; rfl
   have hpk1 : peekB b (p + 1) = hexD (c.toNat / 16) := by have := hhead 1 (by simp); unfold peekB; rw [this]; rfl
   have hpk2 : peekB b (p + 1 + 1) = hexD (c.toNat % 16) := by have := hhead 2 (by simp); unfold peekB; rw [Nat.add_assoc, this]; rfl
   have hsum : 16 * ((c.toNat / 16 : Nat) : Int) + ((c.toNat % 16 : Nat) : Int) = (c.toNat : Int) := by omega
   have hesc : escP b (p + 1) = ((c.toNat : Int), p + 1 + 2, false) := by
    unfold escP
    rw [hpk1, hpk2, g1, g2, g3, hsum, hp, decide_eq_false (show ¬ ((c.toNat % 16 : Nat) : Int) < 0 by omega)]
    simp
   have hback : UInt8.ofNat (c.toNat : Int).toNat = c := by simp
   rw [hpk, if_neg (by decide), ho2, if_neg (by decide), if_pos rfl, hesc]
   simp only [Bool.false_eq_true,if_false]
   rw [hback, strN_quote l f' (p + 1 + 2) (out ++ [c]) (fun i hi => by have := hrest i hi; simp only [List.length_cons,List.length_nil] at this; rw [show p + 1 + 2 + i = p + (0 + 1 + 1 + 1) + i by omega]; exact this) (by simp only [List.length_append,List.length_cons,List.length_nil]; omega) (by omega)]
   simp only [quoteL,hq,List.append_assoc,List.length_append,List.length_cons,List.length_nil,List.cons_append,List.nil_append]
   exact Prod.ext rfl (Prod.ext (by simp only; omega) rfl)
theorem read_quote {txt : List UInt8} (h : ¬ 256 < txt.length) : readX (quoteB txt) = (mkN textW 0 txt zeroT [], 0, false) := by
 apply readX_of
 have hl := quoteB_len txt
 have hg := quoteL_ge txt
 have s0 : skipB (quoteB txt) 0 = 0 := skip_at (by simp [quoteB])
 have p0 : peekB (quoteB txt) 0 = 34 := rfl
 have hst := strN_quote (b := quoteB txt) txt ((quoteB txt).length + 1 - 1) 1 [] (fun i hi => by rw [Nat.add_comm]; rfl) (by simp; omega) (by omega)
 rw [exprX_eq2, s0, p0, if_pos rfl]
 unfold strP
 rw [show 0 + 1 = 1 from rfl, hst]
 simp only [List.nil_append]
 refine Prod.ext rfl (Prod.ext ?_ rfl)
 simp only; omega
end Go.Abs.Seat
end
section
set_option linter.unusedVariables false
set_option linter.unusedSimpArgs false
namespace Go.Abs.Seat
open Go.Proofs
theorem l7 (s : List UInt8) (hsl : s.length ≤ 10000) : ∀ (ds : List UInt8) (j : Nat), (∀ i, s[j + i]? = ds[i]?) → s.length = j + ds.length → (∀ c ∈ ds, 32 ≤ c.toNat ∧ c.toNat ≤ 126) → ∀ (idI : Nat) (tm : List AV) (H : Heap), tm.length = 93 → H[idI]? = some (.it s j) →
   tm.getD 3 undefA = .im (.str s) → tm.getD 38 undefA = .ptr idI 0 0 → ∀ (a0 a4 : AV) (a5 : Nat) (a6 a7 : AV) (es : List (List AV)), tm.getD 0 undefA = a0 → tm.getD 4 undefA = a4 → tm.getD 5 undefA = .ptr a5 0 0 → tm.getD 6 undefA = a6 → tm.getD 7 undefA = a7 → a5 ≠ idI → H[a5]? = some (.obj none es) →
  ∃ e tm' H', Λ c7_0 tm H = some (e, tm', H') ∧ e = .exit 0 ∧ tm'.length = 93 ∧ tm'.getD 3 undefA = .im (.str s) ∧ tm'.getD 0 undefA = a0 ∧ tm'.getD 4 undefA = a4 ∧ tm'.getD 5 undefA = .ptr a5 0 0 ∧ tm'.getD 6 undefA = a6 ∧ tm'.getD 7 undefA = a7 ∧ H'[a5]? = some (.obj none es)
 | [], j, hs, hl, hd, idI, tm, H, hlen, hit, h3, h38, a0, a4, a5, a6, a7, es, t0, t4, t5, t6, t7, hne, ho => by
  have hlt : (j < s.length) = False := eq_false (by simp only [List.length_nil] at hl; omega)
  rw [l7_0]
  simp only [b7_0,B0,B1,B2,List.replicate,Nat.reduceAdd,Nat.reduceSub,Nat.reduceLeDiff,Nat.reduceLT,Nat.reduceEqDiff,reduceCtorEq,Int.reduceEq,Int.reduceLT,Int.reduceLE,lenA,hlen,h3,h38,hit,hlt]
  exact ⟨_, _, _, rfl, rfl, by simp only [List.length_set,hlen], by simp only [B3,Nat.reduceLT,Nat.reduceEqDiff,hlen,h3], by simp only [B3,Nat.reduceLT,Nat.reduceEqDiff,hlen,t0], by simp only [B3,Nat.reduceLT,Nat.reduceEqDiff,hlen,t4], by simp only [B3,Nat.reduceLT,Nat.reduceEqDiff,hlen,t5], by simp only [B3,Nat.reduceLT,Nat.reduceEqDiff,hlen,t6], by simp only [B3,Nat.reduceLT,Nat.reduceEqDiff,hlen,t7], ho⟩
 | c :: ds, j, hs, hl, hd, idI, tm, H, hlen, hit, h3, h38, a0, a4, a5, a6, a7, es, t0, t4, t5, t6, t7, hne, ho => by
  have hidl := (List.getElem?_eq_some_iff.1 hit).1
  simp only [List.length_cons] at hl
  have hj : j < s.length := by omega
  have hlt : (j < s.length) = True := eq_true hj
  have hsc : s[j]? = some c := hs 0
  obtain ⟨hc1, hc2⟩ := hd c (by simp)
  have hdec := dec_plain hsc (by omega)
  have hnn : (0 : Int) ≤ (j : Int) := Int.natCast_nonneg _
  have e2 : decide ((c.toNat : Int) < 32) = false := decide_eq_false (by omega)
  have e3 : decide ((126 : Int) < (c.toNat : Int)) = false := decide_eq_false (by omega)
  have key := fun tm1 => l7 s hsl ds (j + 1) (fun i => by have := hs (i + 1); rw [show j + 1 + i = j + (i + 1) by omega, this]; rfl) (by omega) (fun x hx => hd x (by simp [hx])) idI tm1 (H.set idI (.it s (j + 1)))
  rw [l7_0]
  simp only [b7_0,B0,B1,B2,List.replicate,Nat.reduceAdd,Nat.reduceSub,Nat.reduceLeDiff,Nat.reduceLT,Nat.reduceEqDiff,reduceCtorEq,Int.reduceEq,Int.reduceLT,Int.reduceLE,lenA,hlen,h3,h38,hit,hlt,if_true,hdec,hnn,intOfA,Int.toNat_natCast,byteDat,hsc,e2,e3]
  refine key _ ?_ ?_ ?_ ?_ a0 a4 a5 a6 a7 es ?_ ?_ ?_ ?_ ?_ hne ?_
  ·simp only [List.length_set,hlen]
  ·exact List.getElem?_set_self hidl
  ·simp only [B3,Nat.reduceLT,Nat.reduceEqDiff,hlen,h3]
  ·simp only [B3,Nat.reduceLT,Nat.reduceEqDiff,hlen,h38]
  ·simp only [B3,Nat.reduceLT,Nat.reduceEqDiff,hlen,t0]
  ·simp only [B3,Nat.reduceLT,Nat.reduceEqDiff,hlen,t4]
  ·simp only [B3,Nat.reduceLT,Nat.reduceEqDiff,hlen,t5]
  ·simp only [B3,Nat.reduceLT,Nat.reduceEqDiff,hlen,t6]
  ·simp only [B3,Nat.reduceLT,Nat.reduceEqDiff,hlen,t7]
  ·rw [List.getElem?_set_ne (fun e => hne e.symm)]; exact ho
theorem s7 (s : List UInt8) : ∃ H', L 7 [.im (.str s)] [] = some (.im (.bool true), H') := by
 have c10 := s10
 rw [leq F7]
 have hK : ∀ (tm : List AV) (H : Heap), tm.length = 93 → tm.getD 2 undefA = .im (.bool true) → ∃ H', endK f7 [] .ret tm H = some (.im (.bool true), H') := fun tm H hl h => by
  simp only [endK,f7,resA,h,tupA,leave_nil]
  exact ⟨_, rfl⟩
 have hcode : f7.code = f7.code := rfl
 conv at hcode => rhs; simp only [f7]
 rw [hcode]
 clear hcode
 generalize endK f7 [] = K at *
 obtain ⟨hlen, ha⟩ := enter_at (f := f7) (args := [.im (.str s)]) (Nat.le_of_ble_eq_true rfl)
 have t0 := ha 0 _ rfl
 generalize enterA f7 [.im (.str s)] = tm at *
 change tm.length = 93 at hlen
 by_cases hl : 5000 < s.length
 ·have q1 : decide ((5000 : Int) < (s.length : Int)) = true := decide_eq_true (by omega)
  simp only [B0,B1,B2,List.replicate,Nat.reduceAdd,Nat.reduceSub,Nat.reduceLeDiff,Nat.reduceLT,Nat.reduceEqDiff,reduceCtorEq,Int.reduceEq,Int.reduceLT,Int.reduceLE,lenA,z_ops,z_nil,z_cons,z_guard,z_some,z_drop,z_do,z_not,z_not0,pairK,forall_eq_or_imp,stays,loadOf,List.reverse_cons,List.reverse_nil,List.mem_cons,List.not_mem_nil,or_false,forall_eq,true_or,or_true,Bool.true_and,hlen,t0,q1,c10]
  exact hK _ _ (by simp only [List.length_set,hlen]) (by simp only [B3,Nat.reduceLT,Nat.reduceEqDiff,hlen])
 have q1 : decide ((5000 : Int) < (s.length : Int)) = false := decide_eq_false (by omega)
 by_cases hm : 256 < s.length
 ·have q2 : decide ((256 : Int) < (s.length : Int)) = true := decide_eq_true (by omega)
  have c14 := s14l s hm
  have q3 : decide ((110 : Int) = 110) = true := rfl
  have q4 : decide (([] : List UInt8) = []) = true := rfl
  simp only [aOz,textW] at c14
  simp only [B0,B1,B2,List.replicate,Nat.reduceAdd,Nat.reduceSub,Nat.reduceLeDiff,Nat.reduceLT,Nat.reduceEqDiff,reduceCtorEq,Int.reduceEq,Int.reduceLT,Int.reduceLE,lenA,z_ops,z_nil,z_cons,z_guard,z_some,z_drop,z_do,z_not,z_not0,pairK,forall_eq_or_imp,stays,loadOf,List.reverse_cons,List.reverse_nil,List.mem_cons,List.not_mem_nil,or_false,forall_eq,true_or,or_true,Bool.true_and,hlen,t0,q1,q2,q3,q4,c14,c10]
  exact hK _ _ (by simp only [List.length_set,hlen]) (by simp only [B3,Nat.reduceLT,Nat.reduceEqDiff,hlen])
 have q2 : decide ((256 : Int) < (s.length : Int)) = false := decide_eq_false (by omega)
 have c14 := s14t s hm
 have c9 := s9 (quoteB s)
 have hbl := quoteB_len s
 have hg := quoteL_ge s
 have hu := quoteL_len s
 have hpl := quoteB_pln s
 unfold parseX at c9
 rw [if_neg (by omega), read_quote hm] at c9
 simp only [Bool.false_eq_true,if_false,enc_flat,zc0] at c9
 have hb1 : 2 + s.length ≤ (quoteB s).length := by omega
 have hb2 : (quoteB s).length ≤ 2 + 3 * s.length := by omega
 have hloop := fun idI tm1 H => l7 (quoteB s) (by omega) (quoteB s) 0 (fun i => by rw [Nat.zero_add]) (by omega) hpl idI tm1 H
 generalize quoteB s = b at *
 simp only [aOz,textW] at c14
 simp only [textW] at c9
 have d3 : decide ((0 : Int) = 0) = true := rfl
 simp only [e7_0,B0,B1,B2,List.replicate,Nat.reduceAdd,Nat.reduceSub,Nat.reduceLeDiff,Nat.reduceLT,Nat.reduceEqDiff,reduceCtorEq,Int.reduceEq,Int.reduceLT,Int.reduceLE,lenA,z_ops,z_nil,z_cons,z_guard,z_some,z_drop,z_do,z_not,z_not0,pairK,forall_eq_or_imp,stays,loadOf,List.reverse_cons,List.reverse_nil,List.mem_cons,List.not_mem_nil,or_false,forall_eq,true_or,or_true,Bool.true_and,hlen,t0,q1,q2,c14,c9,d3]
 refine thenL_ex (fun r => ∃ H', r = some (AV.im (Dat.bool true), H')) (hloop 1 _ _ ?_ ?_ ?_ ?_ (.im (.str s)) (.im (.int .i64 0)) 0 (.im (.int .i64 0)) (.im (.int .i64 0)) [[.im (.str [116, 101, 120, 116, 95, 111, 102]), .im (.int .i64 0), .im (.str s), .im (.int .i64 0), .im (.sl 0 []), .im (.sl 0 [])]] ?_ ?_ ?_ ?_ ?_ (by decide) ?_) ?_
 ·simp only [List.length_set,hlen]
 ·rfl
 iterate 2 simp only [B3,Nat.reduceLT,Nat.reduceEqDiff,hlen]
 iterate 5 simp only [B3,Nat.reduceLT,Nat.reduceEqDiff,hlen,t0]
 ·rfl
 rintro e tm1 H1 ⟨rfl, g1, g3, g0, g4, g5, g6, g7, gH⟩
 have d2 : decide (([116, 101, 120, 116, 95, 111, 102] : List UInt8) = [116, 101, 120, 116, 95, 111, 102]) = true := rfl
 have d1 : decide (s = s) = true := decide_eq_true rfl
 have w1 : IntKind.i64.wrap (2 + (s.length : Int)) = 2 + (s.length : Int) := Go.Abs.Seat.wrap_small _ (by omega)
 have w2 : IntKind.i64.wrap (3 * (s.length : Int)) = 3 * (s.length : Int) := Go.Abs.Seat.wrap_small _ (by omega)
 have w3 : IntKind.i64.wrap (2 + 3 * (s.length : Int)) = 2 + 3 * (s.length : Int) := Go.Abs.Seat.wrap_small _ (by omega)
 have d5 : decide (2 + (s.length : Int) ≤ (b.length : Int)) = true := decide_eq_true (by omega)
 have d6 : decide ((b.length : Int) ≤ 2 + 3 * (s.length : Int)) = true := decide_eq_true (by omega)
 simp only [B0,B1,B2,List.replicate,Nat.reduceAdd,Nat.reduceSub,Nat.reduceLeDiff,Nat.reduceLT,Nat.reduceEqDiff,reduceCtorEq,Int.reduceEq,Int.reduceLT,Int.reduceLE,lenA,z_ops,z_nil,z_cons,z_guard,z_some,z_drop,z_do,z_not,z_not0,pairK,forall_eq_or_imp,stays,loadOf,List.reverse_cons,List.reverse_nil,List.mem_cons,List.not_mem_nil,or_false,forall_eq,true_or,or_true,Bool.true_and,g0,g1,g3,g4,g5,g6,g7,gH,d1,d2,d3,d5,d6,w1,w2,w3,c10]
 exact hK _ _ (by simp only [List.length_set,g1]) (by simp only [B3,Nat.reduceLT,Nat.reduceEqDiff,g1])
end Go.Abs.Seat
end
