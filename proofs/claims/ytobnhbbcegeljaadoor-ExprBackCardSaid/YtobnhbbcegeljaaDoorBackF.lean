/- Part 6 of what the claim rests on. -/
import Derived.Test.YtobnhbbcegeljaaDoorBackA
import Derived.Test.YtobnhbbcegeljaaDoorBackB
import Derived.Test.YtobnhbbcegeljaaDoorBackC
import Derived.Test.YtobnhbbcegeljaaDoorBackD
import Derived.Test.YtobnhbbcegeljaaDoorBackE
section
set_option linter.unusedVariables false
set_option linter.unusedSimpArgs false
namespace Go.Abs.Seat
open Go.Proofs
theorem l81 (s : List UInt8) (ir N : Nat) (H0 : Heap) (hN : N = H0.length) (hir : ir < N) (hs : s.length ≤ 9223372036854775807) (d d' : Int) (hd : IntKind.i64.wrap (d - 1) = d') (rd : Nat → Nat × KT × Bool)
  (cnt : Nat) (hrd : 0 < cnt → ∀ (k : Nat) (H : Heap), k ≤ s.length → H[ir]? = some (objR s k) → L 81 [.ptr ir 0 0, .im (.int .i64 d')] H = some (.tup [.im (.agg (encT (rd k).2.1)), .im (.bool (rd k).2.2)], H.set ir (objR s (rd k).1)))
  (hle : 0 < cnt → ∀ k, k ≤ s.length → (rd k).1 ≤ s.length) (hcnt : cnt ≤ 2) (kk : Int) (W : HO) :
  ∀ (m i : Nat), i + m = cnt → ∀ (tm : List AV) (H : Heap) (k : Nat) (acc : List KT) (v x y : AV), k ≤ s.length → acc.length = i → tm.length = 60 → tm.getD 0 undefA = .ptr ir 0 0 → tm.getD 1 undefA = .im (.int .i64 d) → tm.getD 4 undefA = .ptr N 0 0 → tm.getD 6 undefA = .ptr (N + 1) 0 0 → tm.getD 8 undefA = .ptr (N + 2) 0 0 →
  tm.getD 25 undefA = .im (.int .i64 (cnt : Int)) → tm.getD 26 undefA = .im (.int .i64 (i : Int)) → H[N]? = some (.obj none [[x, y]]) → H[N + 1]? = some W → H[N + 2]? = some (.obj none [[.im (.int .i64 kk), v]]) → Gath 24 2 (N + 3) v H (acc.map encT) → H[ir]? = some (objR s k) → But N ir H0 H → N + 3 ≤ H.length →
  ∃ e tm' H', Λ c81_0 tm H = some (e, tm', H') ∧ tm'.length = 60 ∧ tm'.getD 0 undefA = .ptr ir 0 0 ∧ tm'.getD 4 undefA = .ptr N 0 0 ∧ tm'.getD 6 undefA = .ptr (N + 1) 0 0 ∧ tm'.getD 8 undefA = .ptr (N + 2) 0 0 ∧ But N ir H0 H' ∧ H'[N + 1]? = some W ∧ N + 3 ≤ H'.length ∧
   H'[ir]? = some (objR s (readL rd s m i k acc).1) ∧ (readL rd s m i k acc).1 ≤ s.length ∧ match (readL rd s m i k acc).2 with
    | none => e = .ret ∧ H'[N]? = some (.obj none [[.im (.int .i64 0), .nils]]) ∧ tm'.getD 5 undefA = .im (.bool false)
    | some l => e = .exit 0 ∧ (∃ x y, H'[N]? = some (.obj none [[x, y]])) ∧ (∃ v', H'[N + 2]? = some (.obj none [[.im (.int .i64 kk), v']]) ∧ Gath 24 2 (N + 3) v' H' (l.map encT)) ∧ l.length = cnt
 | 0, i, hi, tm, H, k, acc, v, x, y, hk, hacc, hlen, h0, h1, h4, h6, h8, h25, h26, oN, o1, o2, hG, oir, hb, hHl => by
  have hc : decide ((i : Int) < (cnt : Int)) = false := decide_eq_false (by omega)
  rw [l81_0]
  simp only [readL,b81_0,B0,B1,B2,List.replicate,Nat.reduceAdd,Nat.reduceSub,Nat.reduceLeDiff,Nat.reduceLT,Nat.reduceEqDiff,reduceCtorEq,Int.reduceEq,Int.reduceLT,Int.reduceLE,lenA,hlen,h25,h26,hc]
  exact ⟨_, _, _, rfl, by simp only [List.length_set,hlen], by simp only [B3,Nat.reduceLT,Nat.reduceEqDiff,hlen,h0], by simp only [B3,Nat.reduceLT,Nat.reduceEqDiff,hlen,h4], by simp only [B3,Nat.reduceLT,Nat.reduceEqDiff,hlen,h6], by simp only [B3,Nat.reduceLT,Nat.reduceEqDiff,hlen,h8], hb, o1, hHl, oir, hk, rfl, ⟨_, _, oN⟩, ⟨_, o2, hG⟩, by omega⟩
 | m + 1, i, hi, tm, H, k, acc, v, x, y, hk, hacc, hlen, h0, h1, h4, h6, h8, h25, h26, oN, o1, o2, hG, oir, hb, hHl => by
  have hc : decide ((i : Int) < (cnt : Int)) = true := decide_eq_true (by omega)
  have hnn : (0 : Int) ≤ (i : Int) := Int.natCast_nonneg i
  have hwr := wrap_nat (i := i) (by omega)
  have hsep : ([40, 44] : List UInt8)[i]? = some (sepB i) := by
   have : i = 0 ∨ i = 1 := by omega
   rcases this with rfl | rfl <;> rfl
  have h70 := s99 s k ir (sepB i) H oir hs
  simp only [byteDat] at h70
  have hirH : ir < H.length := by omega
  rw [l81_0]
  simp only [readL]
  by_cases hsg : signB s k (sepB i) = true
  ·simp only [hsg,if_true] at h70 ⊢
   have hk1 : k + 1 ≤ s.length := sign_lt hsg
   have oir1 : (H.set ir (objR s (k + 1)))[ir]? = some (objR s (k + 1)) := List.getElem?_set_self hirH
   have h45 := hrd (by omega) (k + 1) _ hk1 oir1
   rw [List.set_set] at h45
   have hle1 := hle (by omega) (k + 1) hk1
   generalize hrk : rd (k + 1) = q at *
   obtain ⟨k2, t, ok⟩ := q
   simp only at h45 hle1 ⊢
   have gs : ∀ (j : Nat) (o o' : HO), j ≠ ir → H[j]? = some o → (H.set ir o')[j]? = some o := fun j o o' hne h => by rw [List.getElem?_set_ne (fun e => hne e.symm)]; exact h
   have oN1 := gs N _ (objR s k2) (by omega) oN
   have o11 := gs (N + 1) _ (objR s k2) (by omega) o1
   have o21 := gs (N + 2) _ (objR s k2) (by omega) o2
   have oir2 : (H.set ir (objR s k2))[ir]? = some (objR s k2) := List.getElem?_set_self hirH
   have hb2 := hb.set (objR s k2)
   have hG2 := hG.set_obj oir (objR s k2)
   have hHl2 : N + 3 ≤ (H.set ir (objR s k2)).length := by simpa using hHl
   generalize H.set ir (objR s k2) = H2 at *
   have ga : ∀ (j : Nat) (o : HO) (M : Heap), H2[j]? = some o → (H2 ++ M)[j]? = some o := fun j o M h => by rw [get_app (List.getElem?_eq_some_iff.1 h).1]; exact h
   obtain ⟨k', s', ts⟩ := t
   simp only [encT] at h45
   cases ok with
   | true =>
    have hGx := (hG2.more [.obj none [[.im (.int .i64 k'), .im (.sl s' (encTs ts))]]]).grow (bytes := 32) (by simp; omega) (encT (.mk k' s' ts)) (by simp; omega) (by decide)
    obtain ⟨tok, H3, hap, hG3, hl3, hlow3, hob3⟩ := hGx
    simp only [encT] at hap
    have oN2 := ga _ _ [.obj none [[.im (.int .i64 k'), .im (.sl s' (encTs ts))]]] oN1
    have o12 := ga _ _ [.obj none [[.im (.int .i64 k'), .im (.sl s' (encTs ts))]]] o11
    have o22 := ga _ _ [.obj none [[.im (.int .i64 k'), .im (.sl s' (encTs ts))]]] o21
    have o23 := hob3 _ _ _ o22
    have oir3 := ga _ _ [.obj none [[.im (.int .i64 k'), .im (.sl s' (encTs ts))]]] oir2
    have hid : decide True = true := rfl
    have key := l81 s ir N H0 hN hir hs d d' hd rd cnt hrd hle hcnt kk W m (i + 1) (by omega)
    simp only [b81_0,B0,B1,B2,List.replicate,Nat.reduceAdd,Nat.reduceSub,Nat.reduceLeDiff,Nat.reduceLT,Nat.reduceEqDiff,reduceCtorEq,Int.reduceEq,Int.reduceLT,Int.reduceLE,lenA,intOfA,byteDat,elems,toDatss,toDats,toDat,Int.toNat_natCast,hlen,h0,h1,h4,h6,h8,h25,h26,hc,hnn,hsep,hd,h70,h45,o22,hap,o23,hwr]
    have hnir : N + 2 ≠ ir := by omega
    have oH3 : ∀ j, j < N + 3 → j ≠ N + 2 → ∀ o o', (H2 ++ [.obj none [[.im (.int .i64 k'), .im (.sl s' (encTs ts))]]])[j]? = some o → (H3.set (N + 2) o')[j]? = some o := fun j hj hj2 o o' h => by
     rw [List.getElem?_set_ne (fun e => hj2 e.symm), hlow3 j hj]; exact h
    have hmap : acc.map encT ++ [encT (.mk k' s' ts)] = (acc ++ [KT.mk k' s' ts]).map encT := by simp
    have hN2 : N + 2 < H3.length := by simp at hl3; omega
    refine ex_imp (key _ _ k2 (acc ++ [.mk k' s' ts]) (.asl 2 (acc.map encT ++ [encT (.mk k' s' ts)]) tok) x y hle1 (by simp; omega) ?_ ?_ ?_ ?_ ?_ ?_ ?_ ?_ ?_ ?_ ?_ ?_ ?_ ?_ ?_) fun _ _ _ h => h
    ·simp only [List.length_set,hlen]
    iterate 7 simp only [B3,Nat.reduceLT,Nat.reduceEqDiff,hlen,h0,h1,h4,h6,h8,h25]
    ·exact oH3 N (by omega) (by omega) _ _ oN2
    ·exact oH3 (N + 1) (by omega) (by omega) _ _ o12
    ·rw [List.getElem?_set_self hN2]; simp only [encT]
    ·rw [← hmap]; exact hG3.set_obj o23 _
    ·exact oH3 ir (by omega) (by omega) _ _ oir3
    ·have hb4 := hb2.app (by omega) [.obj none [[.im (.int .i64 k'), .im (.sl s' (encTs ts))]]]
     refine ⟨by have := hb4.1; simp; omega, fun j hj hne => ?_⟩
     rw [List.getElem?_set_ne (by omega), hlow3 j (by omega)]; exact hb4.2 j hj hne
    ·simp; omega
   | false =>
    simp only [Bool.false_eq_true,if_false]
    have hb4 := hb2.app (by omega) [.obj none [[.im (.int .i64 k'), .im (.sl s' (encTs ts))]]]
    have oN2 := ga _ _ [.obj none [[.im (.int .i64 k'), .im (.sl s' (encTs ts))]]] oN1
    have o12 := ga _ _ [.obj none [[.im (.int .i64 k'), .im (.sl s' (encTs ts))]]] o11
    have oir3 := ga _ _ [.obj none [[.im (.int .i64 k'), .im (.sl s' (encTs ts))]]] oir2
    simp only [b81_0,B0,B1,B2,List.replicate,Nat.reduceAdd,Nat.reduceSub,Nat.reduceLeDiff,Nat.reduceLT,Nat.reduceEqDiff,reduceCtorEq,Int.reduceEq,Int.reduceLT,Int.reduceLE,lenA,intOfA,byteDat,Int.toNat_natCast,hlen,h0,h1,h4,h6,h8,h25,h26,hc,hnn,hsep,hd,h70,h45,oN2,hwr]
    refine ⟨_, _, _, rfl, ?_, ?_, ?_, ?_, ?_, ?_, ?_, ?_, ?_, hle1, rfl, ?_, ?_⟩
    ·simp only [List.length_set,hlen]
    iterate 4 simp only [B3,Nat.reduceLT,Nat.reduceEqDiff,hlen,h0,h4,h6,h8]
    ·refine ⟨by have := hb4.1; simp at this ⊢; omega, fun j hj hne => ?_⟩
     rw [List.getElem?_set_ne (by omega)]; exact hb4.2 j hj hne
    ·rw [List.getElem?_set_ne (by omega)]; exact o12
    ·simp; omega
    ·rw [List.getElem?_set_ne (by omega)]; exact oir3
    ·rw [List.getElem?_set_self (by simp; omega)]
    ·simp only [B3,Nat.reduceLT,Nat.reduceEqDiff,hlen]
  ·have hsg' : signB s k (sepB i) = false := by simpa using hsg
   rw [hsg'] at h70 ⊢
   simp only [Bool.false_eq_true,if_false] at h70 ⊢
   rw [set_same oir] at h70
   simp only [b81_0,B0,B1,B2,List.replicate,Nat.reduceAdd,Nat.reduceSub,Nat.reduceLeDiff,Nat.reduceLT,Nat.reduceEqDiff,reduceCtorEq,Int.reduceEq,Int.reduceLT,Int.reduceLE,lenA,intOfA,byteDat,Int.toNat_natCast,hlen,h0,h1,h4,h6,h8,h25,h26,hc,hnn,hsep,h70,oN,hwr]
   refine ⟨_, _, _, rfl, ?_, ?_, ?_, ?_, ?_, ?_, ?_, ?_, ?_, hk, rfl, ?_, ?_⟩
   ·simp only [List.length_set,hlen]
   iterate 4 simp only [B3,Nat.reduceLT,Nat.reduceEqDiff,hlen,h0,h4,h6,h8]
   ·refine ⟨by have := hb.1; simp at this ⊢; omega, fun j hj hne => ?_⟩
    rw [List.getElem?_set_ne (by omega)]; exact hb.2 j hj hne
   ·rw [List.getElem?_set_ne (by omega)]; exact o1
   ·simp; omega
   ·rw [List.getElem?_set_ne (by omega)]; exact oir
   ·rw [List.getElem?_set_self (by omega)]
   ·simp only [B3,Nat.reduceLT,Nat.reduceEqDiff,hlen]
end Go.Abs.Seat
end
section
set_option linter.unusedVariables false
set_option linter.unusedSimpArgs false
namespace Go.Abs.Seat
open Go.Proofs
theorem wordGo_some : ∀ (r : List UInt8) (k : Nat) (may : List Word) (n : Nat), n ≤ r.length → n ≤ (wordGo r k may n).1 ∧ (wordGo r k may n).1 ≤ r.length ∧ ∀ w, (wordGo r k may n).2 = some w → w ∈ may
 | r, 0, may, n, h => ⟨Nat.le_refl _, h, fun w hw => List.mem_of_find?_eq_some hw⟩
 | r, k + 1, may, n, h => by
  simp only [wordGo]
  cases hf : may.find? (fun w => decide (w.2.1.length = n)) with
  | some w =>
   refine ⟨Nat.le_refl _, h, fun w' hw => ?_⟩
   simp only [Option.some.injEq] at hw
   subst hw
   exact List.mem_of_find?_eq_some hf
  | none =>
   cases hr : r[n]? with
   | none => exact ⟨Nat.le_refl _, h, fun w' hw => by simp at hw⟩
   | some c =>
    have hn := (List.getElem?_eq_some_iff.1 hr).1
    simp only
    split
    ·exact ⟨Nat.le_refl _, h, fun w' hw => by simp at hw⟩
    ·obtain ⟨h1, h2, h3⟩ := wordGo_some r k (may.filter fun w => decide (w.2.1[n]? = some c)) (n + 1) hn
     exact ⟨by omega, h2, fun w' hw => (List.mem_filter.1 (h3 w' hw)).1⟩
theorem word69_le {s : List UInt8} {k : Nat} {d : Int} (hk : k ≤ s.length) : k + (word69 s k d).1 ≤ s.length ∧ ∀ w, (word69 s k d).2 = some w → w ∈ mayW d := by
 obtain ⟨_, h1, h2⟩ := wordGo_some (s.drop k) 8 (mayW d) 0 (Nat.zero_le _)
 rw [List.length_drop] at h1
 exact ⟨by unfold word69; omega, h2⟩
theorem words_cnt : ∀ w ∈ words, 0 ≤ w.2.2 ∧ w.2.2 ≤ 2 := by decide
theorem mayW_cnt {d : Int} {w : Word} (h : w ∈ mayW d) : 0 ≤ w.2.2 ∧ w.2.2 ≤ 2 ∧ (d = 1 → w.2.2 = 0) := by
 obtain ⟨h1, h2⟩ := List.mem_filter.1 h
 obtain ⟨h3, h4⟩ := words_cnt w h1
 refine ⟨h3, h4, fun hd => ?_⟩
 subst hd
 simp [outW] at h2
 omega
theorem readL_le (rd : Nat → Nat × KT × Bool) (s : List UInt8) (hrd : ∀ k, k ≤ s.length → (rd k).1 ≤ s.length) : ∀ (m i k : Nat) (acc : List KT), k ≤ s.length → (readL rd s m i k acc).1 ≤ s.length
 | 0, i, k, acc, h => h
 | m + 1, i, k, acc, h => by
  simp only [readL]
  split
  ·rename_i hs
   have := hrd (k + 1) (sign_lt hs)
   split
   ·exact readL_le rd s hrd m (i + 1) _ _ this
   ·exact this
  ·exact h
theorem readP_le (s : List UInt8) : ∀ (d k : Nat), k ≤ s.length → (readP s d k).1 ≤ s.length
 | 0, k, h => h
 | d + 1, k, h => by
  obtain ⟨h1, h2⟩ := word69_le (d := (d : Int) + 1) h
  simp only [readP]
  cases hw : word69 s k ((d : Int) + 1) with
  | mk n o =>
   rw [hw] at h1
   cases o with
   | none => exact h1
   | some w =>
    have h3 := readL_le (readP s d) s (fun k hk => readP_le s d k hk) w.2.2.toNat 0 (k + n) [] h1
    simp only
    cases hl : readL (readP s d) s w.2.2.toNat 0 (k + n) [] with
    | mk k' ol =>
     rw [hl] at h3
     cases ol with
     | none => exact h3
     | some l =>
      simp only
      split
      ·exact h3
      ·split
       ·rename_i hs; exact sign_lt hs
       ·exact h3
theorem s81k {H H' : Heap} {tm : List AV} {ir k n : Nat} {s : List UInt8} {kk : Int} {v : AV} {l : List KT} {b : Bool} (hir : ir < H.length) (h4 : tm.getD 4 undefA = .ptr H.length 0 0) (h5 : tm.getD 5 undefA = .im (.bool b)) (hN : H'[H.length]? = some (.obj none [[.im (.int .i64 kk), v]]))
  (hG : Gath 24 2 n v H' (l.map encT)) (hb : But H.length ir H H') (ho : H'[ir]? = some (objR s k)) : endK f81 H .ret tm H' = some (.tup [.im (.agg (encT (mkT kk l))), .im (.bool b)], H.set ir (objR s k)) := by
 have hr : ∀ v, (v = .nils ∧ l.map encT = [] ∨ ∃ tok, v = .asl 2 (l.map encT) tok ∧ l.map encT ≠ []) → leave H false (.tup [.agg [.im (.int .i64 kk), v], .im (.bool b)]) H' = (.tup [.im (.agg (encT (mkT kk l))), .im (.bool b)], H.set ir (objR s k)) := by
  intro v hv
  have hd : degrade (.tup [.agg [.im (.int .i64 kk), v], .im (.bool b)]) = .tup [.im (.agg (encT (mkT kk l))), .im (.bool b)] := by
   rcases hv with ⟨rfl, hl⟩ | ⟨tok, rfl, hl⟩
   ·have hl0 : l = [] := by simpa using hl
    subst hl0
    simp [degrade, degrade1, toDat, toDats, mkT, encT, encTs]
   ·have hl0 : l.length ≠ 0 := by simpa using hl
    simp only [degrade,degrade1,toDat,toDats,mkT,encT,encTs_map,if_neg hl0,List.map_cons,List.map_nil]
  have := leave_but (keep := false) (r := .tup [.agg [.im (.int .i64 kk), v], .im (.bool b)]) hb ho rfl (by simp only [Bool.false_eq_true,if_false,hd,refsLt,refsLts,Bool.and_self]) hir
  simpa only [Bool.false_eq_true, if_false, hd] using this
 have hfr : f81.results = [(4, some (some 2)), (5, none)] := rfl
 have hfk : f81.keep = false := rfl
 rcases hG with ⟨he, rfl⟩ | ⟨he, tok, _, rfl, _⟩
 ·have := hr _ (.inl ⟨rfl, he⟩)
  simp only [endK,hfr,hfk,B0,B1,B2,List.replicate,Nat.reduceAdd,Nat.reduceSub,Nat.reduceLeDiff,Nat.reduceLT,Nat.reduceEqDiff,reduceCtorEq,Int.reduceEq,Int.reduceLT,Int.reduceLE,lenA,resA,tupA,h4,h5,hN,this]
 ·have := hr _ (.inr ⟨tok, rfl, he⟩)
  simp only [endK,hfr,hfk,B0,B1,B2,List.replicate,Nat.reduceAdd,Nat.reduceSub,Nat.reduceLeDiff,Nat.reduceLT,Nat.reduceEqDiff,reduceCtorEq,Int.reduceEq,Int.reduceLT,Int.reduceLE,lenA,resA,tupA,h4,h5,hN,this]
theorem s81step (s : List UInt8) (ir : Nat) (hs : s.length ≤ 9223372036854775807) (d : Nat) (hd : d < 1000)
  (hrec : 0 < d → ∀ (k : Nat) (H : Heap), k ≤ s.length → H[ir]? = some (objR s k) → L 81 [.ptr ir 0 0, .im (.int .i64 (d : Int))] H = some (.tup [.im (.agg (encT (readP s d k).2.1)), .im (.bool (readP s d k).2.2)], H.set ir (objR s (readP s d k).1)))
  (k : Nat) (H : Heap) (hk : k ≤ s.length) (oir : H[ir]? = some (objR s k)) :
  L 81 [.ptr ir 0 0, .im (.int .i64 ((d : Int) + 1))] H = some (.tup [.im (.agg (encT (readP s (d + 1) k).2.1)), .im (.bool (readP s (d + 1) k).2.2)], H.set ir (objR s (readP s (d + 1) k).1)) := by
 have hir := (List.getElem?_eq_some_iff.1 oir).1
 have hoa : (H ++ [HO.obj none [[.im (.int .i64 0), .nils]]])[ir]? = some (objR s k) := by rw [get_app hir]; exact oir
 have h69 := s98 s k ir ((d : Int) + 1) _ hoa hs hk
 obtain ⟨hle, hmay⟩ := word69_le (d := (d : Int) + 1) hk
 have hb1 : But H.length ir H ((H ++ [HO.obj none [[.im (.int .i64 0), .nils]]]).set ir (objR s (k + (word69 s k ((d : Int) + 1)).1))) := (But.refl.app (Nat.le_refl _) _).set _
 have hx : ((H ++ [HO.obj none [[.im (.int .i64 0), .nils]]]).set ir (objR s (k + (word69 s k ((d : Int) + 1)).1))).length = H.length + 1 := by simp
 have hxN : ((H ++ [HO.obj none [[.im (.int .i64 0), .nils]]]).set ir (objR s (k + (word69 s k ((d : Int) + 1)).1)))[H.length]? = some (.obj none [[.im (.int .i64 0), .nils]]) := by rw [List.getElem?_set_ne (by omega), hget0]; rfl
 have hxr : ((H ++ [HO.obj none [[.im (.int .i64 0), .nils]]]).set ir (objR s (k + (word69 s k ((d : Int) + 1)).1)))[ir]? = some (objR s (k + (word69 s k ((d : Int) + 1)).1)) := by rw [List.getElem?_set_self (by simp; omega)]
 rw [leq F81]
 have hK := @s81k H
 have hcode : f81.code = f81.code := rfl
 conv at hcode => rhs; simp only [f81]
 rw [hcode]
 clear hcode
 generalize endK f81 H = K at *
 obtain ⟨hlen, ha⟩ := enter_at (f := f81) (args := [.ptr ir 0 0, .im (.int .i64 ((d : Int) + 1))]) (Nat.le_of_ble_eq_true rfl)
 have h0 := ha 0 _ rfl
 have h1 := ha 1 _ rfl
 generalize enterA f81 [.ptr ir 0 0, .im (.int .i64 ((d : Int) + 1))] = tm at *
 change tm.length = 60 at hlen
 simp only [readP]
 change L 98 _ _ = some (_, List.set _ ir (objR s (k + _))) at h69
 generalize hw : word69 s k ((d : Int) + 1) = q at *
 obtain ⟨n, ow⟩ := q
 simp only at hle hmay h69 hb1 hx hxN hxr ⊢
 generalize (H ++ [HO.obj none [[.im (.int .i64 0), .nils]]]).set ir (objR s (k + n)) = Hx at *
 have hxa : ∀ (j : Nat) (o : HO) (M : Heap), Hx[j]? = some o → (Hx ++ M)[j]? = some o := fun j o M h => by rw [get_app (List.getElem?_eq_some_iff.1 h).1]; exact h
 have hNa := hxa _ _ [HO.obj none [(encW (wordRes ow))]] hxN
 cases ow with
 | none =>
  simp only [wordRes,Option.isSome_none,datW] at h69
  simp only [wordRes,encW,zeroW] at hNa
  simp only [B0,B1,B2,List.replicate,Nat.reduceAdd,Nat.reduceSub,Nat.reduceLeDiff,Nat.reduceLT,Nat.reduceEqDiff,reduceCtorEq,Int.reduceEq,Int.reduceLT,Int.reduceLE,lenA,hlen,h0,h1,h69,zeroW,hNa]
  have hb2 := hb1.app (Nat.le_refl _) [HO.obj none [[.im (.int .i64 0), .im (.str []), .im (.int .i64 0)]]]
  refine hK hir ?_ ?_ (v := .nils) (n := 0) ?_ (l := []) (.inl ⟨rfl, rfl⟩) ?_ ?_
  ·simp only [B3,Nat.reduceLT,Nat.reduceEqDiff,hlen]
  ·simp only [B3,Nat.reduceLT,Nat.reduceEqDiff,hlen]
  ·rw [List.getElem?_set_self (by simp; omega)]
  ·refine ⟨by have := hb2.1; simp at this ⊢; omega, fun j hj hne => ?_⟩
   rw [List.getElem?_set_ne (by omega)]; exact hb2.2 j hj hne
  ·rw [List.getElem?_set_ne (by omega), get_app (by omega)]; exact hxr
 | some w =>
  obtain ⟨hc0, hc2, hc1⟩ := mayW_cnt (hmay w rfl)
  have hcnt : ((w.2.2.toNat : Nat) : Int) = w.2.2 := by omega
  simp only [wordRes,Option.isSome_some,datW] at h69
  simp only [wordRes,encW] at hNa
  have hwrap := Go.Abs.Seat.wrap_small ((d : Int) + 1 - 1) (by omega)
  have hdd : (d : Int) + 1 - 1 = d := by omega
  rw [hdd] at hwrap
  have key := l81 s ir H.length H rfl hir hs ((d : Int) + 1) (d : Int) (by rw [hdd]; exact hwrap) (readP s d) w.2.2.toNat (fun hp => hrec (by
   rcases Nat.eq_zero_or_pos d with h | h
   ·subst h
    have := hc1 rfl
    omega
   ·exact h)) (fun _ k hk => readP_le s d k hk) (by omega) w.1 (.obj none [encW w]) w.2.2.toNat 0 (by omega)
  have zz : ((0 : Nat) : Int) = 0 := rfl
  rw [hcnt, zz] at key
  simp only [e81_0,B0,B1,B2,List.replicate,Nat.reduceAdd,Nat.reduceSub,Nat.reduceLeDiff,Nat.reduceLT,Nat.reduceEqDiff,reduceCtorEq,Int.reduceEq,Int.reduceLT,Int.reduceLE,lenA,hlen,h0,h1,h69]
  generalize hr : thenL _ _ = r
  refine Exists.elim (thenL_inv hr (key _ _ (k + n) [] .nils (.im (.int .i64 0)) .nils hle rfl ?_ ?_ ?_ ?_ ?_ ?_ ?_ ?_ ?_ ?_ ?_ (.inl ⟨rfl, rfl⟩) ?_ ?_ ?_)) ?_
  ·simp only [List.length_set,hlen]
  ·simp only [B3,Nat.reduceLT,Nat.reduceEqDiff,hlen,h0]
  ·simp only [B3,Nat.reduceLT,Nat.reduceEqDiff,hlen,h1]
  ·simp only [B3,Nat.reduceLT,Nat.reduceEqDiff,hlen]
  ·simp only [B3,Nat.reduceLT,Nat.reduceEqDiff,hlen,hx]
  ·simp only [B3,Nat.reduceLT,Nat.reduceEqDiff,hlen,hx,Nat.add_assoc,Nat.reduceAdd]
  ·simp only [B3,Nat.reduceLT,Nat.reduceEqDiff,hlen]
  ·simp only [B3,Nat.reduceLT,Nat.reduceEqDiff,hlen]
  ·exact hxa _ _ _ hxN
  ·rw [← hx, hget0]; rfl
  ·rw [show H.length + 2 = Hx.length + 1 by omega, hget]; rfl
  ·exact hxa _ _ _ hxr
  ·exact hb1.app (Nat.le_refl _) _
  ·simp; omega
  clear hr
  rintro e ⟨tm1, H1, ⟨hl1, g0, g4, g6, g8, gb, gW, gl, gir, gle, hm⟩, rfl⟩
  generalize readL (readP s d) s w.2.2.toNat 0 (k + n) [] = q at *
  obtain ⟨k', ol⟩ := q
  simp only at gir gle hm ⊢
  cases ol with
  | none =>
   obtain ⟨rfl, oN, g5⟩ := hm
   simp only [b_ret,k_ret]
   exact hK hir g4 g5 oN (n := 0) (l := []) (.inl ⟨rfl, rfl⟩) gb gir
  | some l =>
   obtain ⟨rfl, ⟨x, y, oN⟩, ⟨v', o2, hG⟩, hll⟩ := hm
   simp only [encW] at gW
   have hgr : ∀ o, refsO H.length (objR s o) = true := fun o => rfl
   have hgo : HO.obj none [[.im (.str s), .im (.int .i64 (k' : Int))]] = objR s k' := rfl
   have h70 := s99 s k' ir 41 H1 gir hs
   simp only [byteDat,show (((41 : UInt8).toNat : Nat) : Int) = 41 from rfl] at h70
   have hld : ∀ o', loadAt (H1.set ir o') (some 2) (.ptr (H.length + 2) 0 0) = loadAt H1 (some 2) (.ptr (H.length + 2) 0 0) := fun o' => by
    simp only [loadAt,List.getElem?_set_ne (show ir ≠ H.length + 2 by omega)]
   have hbN : ∀ o, But H.length ir H (H1.set H.length o) := fun o => ⟨by have := gb.1; simpa using this, fun j hj hne => by rw [List.getElem?_set_ne (by omega)]; exact gb.2 j hj hne⟩
   have hlN : H.length < H1.length := by omega
   have hlr : ir < H1.length := by omega
   by_cases hw0 : w.2.2 = 0
   ·have hd0 : decide (w.2.2 = 0) = true := decide_eq_true hw0
    simp only [if_pos hw0]
    have hG' := hG
    rcases hG with ⟨he, rfl⟩ | ⟨he, tok, _, rfl, _⟩
    all_goals simp only [B0,B1,B2,List.replicate,Nat.reduceAdd,Nat.reduceSub,Nat.reduceLeDiff,Nat.reduceLT,Nat.reduceEqDiff,reduceCtorEq,Int.reduceEq,Int.reduceLT,Int.reduceLE,lenA,z_ops,z_nil,z_cons,z_guard,z_some,z_drop,z_do,z_not,z_not0,pairK,forall_eq_or_imp,stays,loadOf,List.reverse_cons,List.reverse_nil,List.mem_cons,List.not_mem_nil,or_false,forall_eq,true_or,or_true,Bool.true_and,hl1,g0,g4,g6,g8,gW,o2,oN,hd0]
    all_goals refine hK hir ?_ ?_ (List.getElem?_set_self hlN) (hG'.set_obj oN _) (hbN _) ?_
    ·simp only [B3,Nat.reduceLT,Nat.reduceEqDiff,hl1,g4]
    ·simp only [B3,Nat.reduceLT,Nat.reduceEqDiff,hl1]
    ·rw [List.getElem?_set_ne (by omega)]; exact gir
    ·simp only [B3,Nat.reduceLT,Nat.reduceEqDiff,hl1,g4]
    ·simp only [B3,Nat.reduceLT,Nat.reduceEqDiff,hl1]
    ·rw [List.getElem?_set_ne (by omega)]; exact gir
   ·have hd0 : decide (w.2.2 = 0) = false := decide_eq_false hw0
    simp only [if_neg hw0]
    have hG' := hG
    have oN' : ∀ o', (H1.set ir o')[H.length]? = some (.obj none [[x, y]]) := fun o' => by rw [List.getElem?_set_ne (by omega)]; exact oN
    have o2' : ∀ o', (H1.set ir o')[H.length + 2]? = some (.obj none [[.im (.int .i64 w.1), v']]) := fun o' => by rw [List.getElem?_set_ne (by omega)]; exact o2
    have hbN' : ∀ o o', But H.length ir H ((H1.set ir o').set H.length o) := fun o o' => ⟨by have := gb.1; simpa using this, fun j hj hne => by rw [List.getElem?_set_ne (by omega), List.getElem?_set_ne (by omega)]; exact gb.2 j hj hne⟩
    cases hsg : signB s k' 41 with
    | true =>
     rw [hsg] at h70
     simp only [if_true] at h70 ⊢
     rcases hG with ⟨he, rfl⟩ | ⟨he, tok, _, rfl, _⟩
     all_goals simp only [B0,B1,B2,List.replicate,Nat.reduceAdd,Nat.reduceSub,Nat.reduceLeDiff,Nat.reduceLT,Nat.reduceEqDiff,reduceCtorEq,Int.reduceEq,Int.reduceLT,Int.reduceLE,lenA,z_ops,z_nil,z_cons,z_guard,z_some,z_drop,z_do,z_not,z_not0,pairK,forall_eq_or_imp,stays,loadOf,List.reverse_cons,List.reverse_nil,List.mem_cons,List.not_mem_nil,or_false,forall_eq,true_or,or_true,Bool.true_and,hl1,g0,g4,g6,g8,gW,o2,o2',oN',hd0,h70]
     all_goals refine hK hir ?_ ?_ (List.getElem?_set_self (by simp; omega)) ((hG'.set_obj gir _).set_obj (oN' _) _) (hbN' _ _) ?_
     ·simp only [B3,Nat.reduceLT,Nat.reduceEqDiff,hl1,g4]
     ·simp only [B3,Nat.reduceLT,Nat.reduceEqDiff,hl1]
     ·rw [List.getElem?_set_ne (by omega), List.getElem?_set_self hlr]
     ·simp only [B3,Nat.reduceLT,Nat.reduceEqDiff,hl1,g4]
     ·simp only [B3,Nat.reduceLT,Nat.reduceEqDiff,hl1]
     ·rw [List.getElem?_set_ne (by omega), List.getElem?_set_self hlr]
    | false =>
     rw [hsg] at h70
     simp only [Bool.false_eq_true,if_false] at h70 ⊢
     rcases hG with ⟨he, rfl⟩ | ⟨he, tok, _, rfl, _⟩
     all_goals simp only [B0,B1,B2,List.replicate,Nat.reduceAdd,Nat.reduceSub,Nat.reduceLeDiff,Nat.reduceLT,Nat.reduceEqDiff,reduceCtorEq,Int.reduceEq,Int.reduceLT,Int.reduceLE,lenA,z_ops,z_nil,z_cons,z_guard,z_some,z_drop,z_do,z_not,z_not0,pairK,forall_eq_or_imp,stays,loadOf,List.reverse_cons,List.reverse_nil,List.mem_cons,List.not_mem_nil,or_false,forall_eq,true_or,or_true,Bool.true_and,hl1,g0,g4,g6,g8,gW,o2,o2',oN',hd0,h70]
     all_goals refine hK hir ?_ ?_ (List.getElem?_set_self (by simp; omega)) ((hG'.set_obj gir _).set_obj (oN' _) _) (hbN' _ _) ?_
     ·simp only [B3,Nat.reduceLT,Nat.reduceEqDiff,hl1,g4]
     ·simp only [B3,Nat.reduceLT,Nat.reduceEqDiff,hl1]
     ·rw [List.getElem?_set_ne (by omega), List.getElem?_set_self hlr]
     ·simp only [B3,Nat.reduceLT,Nat.reduceEqDiff,hl1,g4]
     ·simp only [B3,Nat.reduceLT,Nat.reduceEqDiff,hl1]
     ·rw [List.getElem?_set_ne (by omega), List.getElem?_set_self hlr]
theorem s81 (s : List UInt8) (ir : Nat) (hs : s.length ≤ 9223372036854775807) : ∀ (d : Nat), d < 1000 → ∀ (k : Nat) (H : Heap), k ≤ s.length → H[ir]? = some (objR s k) →
  L 81 [.ptr ir 0 0, .im (.int .i64 ((d : Int) + 1))] H = some (.tup [.im (.agg (encT (readP s (d + 1) k).2.1)), .im (.bool (readP s (d + 1) k).2.2)], H.set ir (objR s (readP s (d + 1) k).1)) := by
 intro d
 induction d with
 | zero => exact fun _ k H hk ho => s81step s ir hs 0 (by omega) (fun h => absurd h (by omega)) k H hk ho
 | succ d ih => exact fun hd k H hk ho => s81step s ir hs (d + 1) hd (fun _ => ih (by omega)) k H hk ho
end Go.Abs.Seat
end
section
set_option linter.unusedVariables false
set_option linter.unusedSimpArgs false
namespace Go.Abs.Seat
open Go.Proofs
def parseP (s : List UInt8) : KT × Nat × Int :=
 if (readP s 6 0).2.2 = true ∧ ¬ (readP s 6 0).1 < s.length then ((readP s 6 0).2.1, 0, 0) else (zeroT, (readP s 6 0).1, 40)
theorem s70 (s : List UInt8) (hs : s.length ≤ 9223372036854775807) (H : Heap) : L 70 [.im (.str s)] H = some (.tup [.im (.agg (encT (parseP s).1)), .im (.int .i64 ((parseP s).2.1 : Int)), .im (.int .i64 (parseP s).2.2)], H) := by
 have h45 := s81 s (H.length + 1) hs 5 (by decide) 0 (H ++ [HO.obj none [[.im (.int .i64 0), .nils]], objR s 0]) (Nat.zero_le _) (by rw [hget]; rfl)
 rw [hset, show (((5 : Nat) : Int) + 1) = 6 from rfl] at h45
 simp only [List.set_cons_succ,List.set_cons_zero] at h45
 unfold parseP
 generalize readP s (5 + 1) 0 = q at h45 ⊢
 obtain ⟨p, t, ok⟩ := q
 obtain ⟨k', s', ts⟩ := t
 have z0 : ((0 : Nat) : Int) = 0 := rfl
 simp only [encT,objR,z0] at h45
 have hlv : ∀ (M : Heap) (a b : Int), leave H false (.tup [.im (.agg [.int .i64 k', .sl s' (encTs ts)]), .im (.int .i64 a), .im (.int .i64 b)]) (H ++ M) = (.tup [.im (.agg [.int .i64 k', .sl s' (encTs ts)]), .im (.int .i64 a), .im (.int .i64 b)], H) := fun M a b => leave_deg (by simp [degrade, degrade1, toDat]) (by simp [refsLt, refsLts])
 have hlz : ∀ (M : Heap) (a b : Int), leave H false (.tup [.agg [.im (.int .i64 0), .nils], .im (.int .i64 a), .im (.int .i64 b)]) (H ++ M) = (.tup [.im (.agg [.int .i64 0, .sl 0 []]), .im (.int .i64 a), .im (.int .i64 b)], H) := fun M a b => leave_deg (by simp [degrade, degrade1, toDat, toDats]) (by simp [refsLt, refsLts])
 rw [leq F70]
 obtain ⟨hlen, ha⟩ := enter_at (f := f70) (args := [.im (.str s)]) (Nat.le_of_ble_eq_true rfl)
 have h0 := ha 0 _ rfl
 generalize enterA f70 [.im (.str s)] = tm at *
 change tm.length = 32 at hlen
 have hne : (H.length + 1 = H.length) = False := by simp
 simp only
 cases ok with
 | true =>
  by_cases hp : p < s.length
  ·have hc : decide ((p : Int) < (s.length : Int)) = true := decide_eq_true (by omega)
   rw [if_neg (by simp [hp])]
   simp only [f70,zeroT,mkT,List.length_nil,if_true,encT,encTs,B0,B1,B2,List.replicate,Nat.reduceAdd,Nat.reduceSub,Nat.reduceLeDiff,Nat.reduceLT,Nat.reduceEqDiff,reduceCtorEq,Int.reduceEq,Int.reduceLT,Int.reduceLE,lenA,z_ops,z_nil,z_cons,z_guard,z_some,z_drop,z_do,z_not,z_not0,pairK,forall_eq_or_imp,stays,loadOf,List.reverse_cons,List.reverse_nil,List.mem_cons,List.not_mem_nil,or_false,forall_eq,true_or,or_true,Bool.true_and,endK,resA,tupA,hlen,h0,h45,hc,hlz]
  ·have hc : decide ((p : Int) < (s.length : Int)) = false := decide_eq_false (by omega)
   rw [if_pos (by simp [hp])]
   simp only [f70,encT,B0,B1,B2,List.replicate,Nat.reduceAdd,Nat.reduceSub,Nat.reduceLeDiff,Nat.reduceLT,Nat.reduceEqDiff,reduceCtorEq,Int.reduceEq,Int.reduceLT,Int.reduceLE,lenA,z_ops,z_nil,z_cons,z_guard,z_some,z_drop,z_do,z_not,z_not0,pairK,forall_eq_or_imp,stays,loadOf,List.reverse_cons,List.reverse_nil,List.mem_cons,List.not_mem_nil,or_false,forall_eq,true_or,or_true,Bool.true_and,endK,resA,tupA,hlen,h0,h45,hc,hlv,z0]
 | false =>
  rw [if_neg (by simp)]
  simp only [f70,zeroT,mkT,List.length_nil,if_true,encT,encTs,B0,B1,B2,List.replicate,Nat.reduceAdd,Nat.reduceSub,Nat.reduceLeDiff,Nat.reduceLT,Nat.reduceEqDiff,reduceCtorEq,Int.reduceEq,Int.reduceLT,Int.reduceLE,lenA,z_ops,z_nil,z_cons,z_guard,z_some,z_drop,z_do,z_not,z_not0,pairK,forall_eq_or_imp,stays,loadOf,List.reverse_cons,List.reverse_nil,List.mem_cons,List.not_mem_nil,or_false,forall_eq,true_or,or_true,Bool.true_and,endK,resA,tupA,hlen,h0,h45,hlz]
end Go.Abs.Seat
end
section
set_option linter.unusedVariables false
set_option linter.unusedSimpArgs false
namespace Go.Abs.Seat
open Go.Proofs
def letZ (n : Int) : Bool := decide (97 ≤ n) && decide (n ≤ 122)
def digZ (n : Int) : Bool := decide (48 ≤ n) && decide (n ≤ 57)
def namZ (n : Int) : Bool := (letZ n || digZ n) || decide (n = 95)
def plnZ (n : Int) : Bool := ((decide (32 ≤ n) && decide (n ≤ 126)) && !decide (n = 34)) && !decide (n = 92)
theorem s34 (n : Int) (H : Heap) : L 34 [.im (.int .u8 n)] H = some (.im (.bool (namZ n)), H) := by
 rw [leq F34]
 obtain ⟨hlen, ha⟩ := enter_at (f := f34) (args := [.im (.int .u8 n)]) (Nat.le_of_ble_eq_true rfl)
 have h0 := ha 0 _ rfl
 generalize enterA f34 [.im (.int .u8 n)] = tm at *
 change tm.length = 21 at hlen
 unfold namZ letZ digZ
 rcases Bool.eq_false_or_eq_true (decide (97 ≤ n)) with h1 | h1 <;> rcases Bool.eq_false_or_eq_true (decide (n ≤ 122)) with h2 | h2 <;> rcases Bool.eq_false_or_eq_true (decide (48 ≤ n)) with h3 | h3 <;> rcases Bool.eq_false_or_eq_true (decide (n ≤ 57)) with h4 | h4 <;>
  (rw [h1, h2, h3, h4]; simp only [f34,B0,B1,B2,List.replicate,Nat.reduceAdd,Nat.reduceSub,Nat.reduceLeDiff,Nat.reduceLT,Nat.reduceEqDiff,reduceCtorEq,Int.reduceEq,Int.reduceLT,Int.reduceLE,lenA,endK,resA,tupA,hlen,h0,h1,h2,h3,h4,leave_same,Bool.true_and,Bool.false_and,Bool.true_or,Bool.false_or,Bool.or_true,Bool.or_false])
theorem s51 (n : Int) (H : Heap) : L 51 [.im (.int .u8 n)] H = some (.im (.bool (plnZ n)), H) := by
 rw [leq F51]
 obtain ⟨hlen, ha⟩ := enter_at (f := f51) (args := [.im (.int .u8 n)]) (Nat.le_of_ble_eq_true rfl)
 have h0 := ha 0 _ rfl
 generalize enterA f51 [.im (.int .u8 n)] = tm at *
 change tm.length = 17 at hlen
 unfold plnZ
 rcases Bool.eq_false_or_eq_true (decide (32 ≤ n)) with h1 | h1 <;> rcases Bool.eq_false_or_eq_true (decide (n ≤ 126)) with h2 | h2 <;> rcases Bool.eq_false_or_eq_true (decide (n = 34)) with h3 | h3 <;>
  (rw [h1, h2, h3]; simp only [f51,B0,B1,B2,List.replicate,Nat.reduceAdd,Nat.reduceSub,Nat.reduceLeDiff,Nat.reduceLT,Nat.reduceEqDiff,reduceCtorEq,Int.reduceEq,Int.reduceLT,Int.reduceLE,lenA,endK,resA,tupA,hlen,h0,h1,h2,h3,leave_same,Bool.true_and,Bool.false_and,Bool.not_true,Bool.not_false,Bool.and_false,Bool.and_true])
def nibZ (n : Int) : Int := if digZ n = true then n - 48 else if (decide (97 ≤ n) && decide (n ≤ 102)) = true then n - 87 else -1
def peekB (b : List UInt8) (p : Nat) : UInt8 := (b[p]?).getD 0
def objS (b : List UInt8) (p : Nat) (bad : Bool) : HO := .obj none [[.im (.str b), .im (.int .i64 (p : Int)), .im (.bool bad)]]
theorem s29 (b : List UInt8) (p ir : Nat) (bad : Bool) (H : Heap) (hir : H[ir]? = some (objS b p bad)) (hb : b.length ≤ 4611686018427387904) :
  L 29 [.ptr ir 0 0] H = some (.im (.int .u8 ((peekB b p).toNat : Int)), H) := by
 have p2 : (0 : Int) ≤ (p : Int) := Int.natCast_nonneg p
 simp only [objS] at hir
 rw [leq F29]
 obtain ⟨hlen, ha⟩ := enter_at (f := f29) (args := [.ptr ir 0 0]) (Nat.le_of_ble_eq_true rfl)
 have h0 := ha 0 _ rfl
 generalize enterA f29 [.ptr ir 0 0] = tm at *
 change tm.length = 22 at hlen
 unfold peekB
 by_cases hk : p < b.length
 ·have hc : decide ((p : Int) < (b.length : Int)) = true := decide_eq_true (by omega)
  have hsk : b[p]? = some b[p] := List.getElem?_eq_getElem hk
  rw [hsk]
  generalize b[p] = a at hsk
  simp only [f29,B0,B1,B2,List.replicate,Nat.reduceAdd,Nat.reduceSub,Nat.reduceLeDiff,Nat.reduceLT,Nat.reduceEqDiff,reduceCtorEq,Int.reduceEq,Int.reduceLT,Int.reduceLE,lenA,endK,resA,tupA,intOfA,byteDat,Int.toNat_natCast,hlen,h0,hir,hc,p2,hsk,leave_same,Option.getD_some]
 ·have hc : decide ((p : Int) < (b.length : Int)) = false := decide_eq_false (by omega)
  have hsk : b[p]? = none := List.getElem?_eq_none (by omega)
  rw [hsk]
  simp only [f29,B0,B1,B2,List.replicate,Nat.reduceAdd,Nat.reduceSub,Nat.reduceLeDiff,Nat.reduceLT,Nat.reduceEqDiff,reduceCtorEq,Int.reduceEq,Int.reduceLT,Int.reduceLE,lenA,endK,resA,tupA,hlen,h0,hir,hc,leave_same,Option.getD_none]
  rfl
def skipN (b : List UInt8) : Nat → Nat → Nat
 | 0, p => p
 | f + 1, p => if b[p]? = some 32 then skipN b f (p + 1) else p
def skipB (b : List UInt8) (p : Nat) : Nat := skipN b (b.length - p) p
theorem skipN_le (b : List UInt8) : ∀ f p, p ≤ skipN b f p
 | 0, p => Nat.le_refl _
 | f + 1, p => by
  unfold skipN
  split
  ·have := skipN_le b f (p + 1); omega
  ·exact Nat.le_refl _
theorem skipN_len (b : List UInt8) : ∀ f p, p ≤ b.length → skipN b f p ≤ b.length
 | 0, p, h => h
 | f + 1, p, h => by
  unfold skipN
  split
  ·rename_i hp
   have := (List.getElem?_eq_some_iff.1 hp).1
   exact skipN_len b f (p + 1) (by omega)
  ·exact h
theorem skip_le (b : List UInt8) (p : Nat) : p ≤ skipB b p := skipN_le b _ p
theorem skip_len {b : List UInt8} {p : Nat} (h : p ≤ b.length) : skipB b p ≤ b.length := skipN_len b _ p h
theorem b32 (a : UInt8) : decide (((a.toNat : Nat) : Int) = 32) = decide (a = 32) := byte_eq a 32
theorem l19 (b : List UInt8) (ir : Nat) (bad : Bool) (hb : b.length ≤ 4611686018427387904) :
  ∀ (f p : Nat) (tm : List AV) (H : Heap), b.length ≤ p + f → p ≤ b.length → H[ir]? = some (objS b p bad) → tm.length = 31 → tm.getD 0 undefA = .ptr ir 0 0 →
  ∃ e tm' H', Λ c19_0 tm H = some (e, tm', H') ∧ (e = .exit 0 ∧ tm'.length = 31 ∧ H' = H.set ir (objS b (skipN b f p) bad))
 | 0, p, tm, H, hf, hp, hir, hlen, h0 => by
  have hc : decide ((p : Int) < (b.length : Int)) = false := decide_eq_false (by omega)
  have hset : H.set ir (objS b (skipN b 0 p) bad) = H := set_same hir
  rw [hset]
  simp only [objS] at hir
  rw [l19_0]
  simp only [b19_0,B0,B1,B2,List.replicate,Nat.reduceAdd,Nat.reduceSub,Nat.reduceLeDiff,Nat.reduceLT,Nat.reduceEqDiff,reduceCtorEq,Int.reduceEq,Int.reduceLT,Int.reduceLE,lenA,hlen,h0,hir,hc]
  exact ⟨_, _, _, rfl, rfl, by simp only [List.length_set,hlen], rfl⟩
 | f + 1, p, tm, H, hf, hp, hir, hlen, h0 => by
  have p2 : (0 : Int) ≤ (p : Int) := Int.natCast_nonneg p
  have hirl := (List.getElem?_eq_some_iff.1 hir).1
  by_cases hk : p < b.length
  ·have hc : decide ((p : Int) < (b.length : Int)) = true := decide_eq_true (by omega)
   have hsk : b[p]? = some b[p] := List.getElem?_eq_getElem hk
   have hwr := wrap_nat (i := p) (by omega)
   unfold skipN
   rw [hsk]
   generalize b[p] = a at hsk
   by_cases ha : a = 32
   ·have hd : decide (((a.toNat : Nat) : Int) = 32) = true := by rw [b32]; exact decide_eq_true ha
    rw [if_pos (by rw [ha])]
    have key := fun tm1 => l19 b ir bad hb f (p + 1) tm1 (H.set ir (objS b (p + 1) bad)) (by omega) (by omega) (List.getElem?_set_self hirl)
    simp only [List.set_set] at key
    simp only [objS] at hir key ⊢
    rw [l19_0]
    simp only [b19_0,B0,B1,B2,List.replicate,Nat.reduceAdd,Nat.reduceSub,Nat.reduceLeDiff,Nat.reduceLT,Nat.reduceEqDiff,reduceCtorEq,Int.reduceEq,Int.reduceLT,Int.reduceLE,lenA,intOfA,byteDat,Int.toNat_natCast,hlen,h0,hir,hc,p2,hsk,hd,hwr]
    refine ex_imp (key _ ?_ ?_) fun _ _ _ h => h
    all_goals simp only [B3,Nat.reduceLT,Nat.reduceEqDiff,hlen,h0]
   ·have hd : decide (((a.toNat : Nat) : Int) = 32) = false := by rw [b32]; exact decide_eq_false ha
    rw [if_neg (by simpa using ha)]
    rw [show H.set ir (objS b p bad) = H from set_same hir]
    simp only [objS] at hir
    rw [l19_0]
    simp only [b19_0,B0,B1,B2,List.replicate,Nat.reduceAdd,Nat.reduceSub,Nat.reduceLeDiff,Nat.reduceLT,Nat.reduceEqDiff,reduceCtorEq,Int.reduceEq,Int.reduceLT,Int.reduceLE,lenA,intOfA,byteDat,Int.toNat_natCast,hlen,h0,hir,hc,p2,hsk,hd]
    exact ⟨_, _, _, rfl, rfl, by simp only [List.length_set,hlen], rfl⟩
  ·have hc : decide ((p : Int) < (b.length : Int)) = false := decide_eq_false (by omega)
   have hsk : b[p]? = none := List.getElem?_eq_none (by omega)
   unfold skipN
   rw [hsk, if_neg (by simp)]
   rw [show H.set ir (objS b p bad) = H from set_same hir]
   simp only [objS] at hir
   rw [l19_0]
   simp only [b19_0,B0,B1,B2,List.replicate,Nat.reduceAdd,Nat.reduceSub,Nat.reduceLeDiff,Nat.reduceLT,Nat.reduceEqDiff,reduceCtorEq,Int.reduceEq,Int.reduceLT,Int.reduceLE,lenA,hlen,h0,hir,hc]
   exact ⟨_, _, _, rfl, rfl, by simp only [List.length_set,hlen], rfl⟩
theorem leave_S {H : Heap} {ir : Nat} {b : List UInt8} {p : Nat} {bad bad' : Bool} {p' : Nat} {r r' : AV} (hir : H[ir]? = some (objS b p bad)) (hd : degrade r = r') (hr : refsLt H.length r' = true) : leave H false r (H.set ir (objS b p' bad')) = (r', H.set ir (objS b p' bad')) := by
 have hirl := (List.getElem?_eq_some_iff.1 hir).1
 have := leave_but (keep := false) (r := r) (But.refl.set (objS b p' bad')) (List.getElem?_set_self hirl) rfl (by simpa [hd] using hr) hirl
 simpa [hd] using this
theorem s19 (b : List UInt8) (p ir : Nat) (bad : Bool) (H : Heap) (hir : H[ir]? = some (objS b p bad)) (hb : b.length ≤ 4611686018427387904) (hp : p ≤ b.length) :
  L 19 [.ptr ir 0 0] H = some (.tup [], H.set ir (objS b (skipB b p) bad)) := by
 have key := fun tm1 => l19 b ir bad hb (b.length - p) p tm1 H (by omega) hp hir
 have hlv := leave_S (p' := skipB b p) (bad' := bad) (r := .tup []) hir rfl rfl
 rw [leq F19]
 obtain ⟨hlen, ha⟩ := enter_at (f := f19) (args := [.ptr ir 0 0]) (Nat.le_of_ble_eq_true rfl)
 have h0 := ha 0 _ rfl
 generalize enterA f19 [.ptr ir 0 0] = tm at *
 change tm.length = 31 at hlen
 simp only [f19,e19_0,B0,B1,B2,List.replicate,Nat.reduceAdd,Nat.reduceSub,Nat.reduceLeDiff,Nat.reduceLT,Nat.reduceEqDiff,reduceCtorEq,Int.reduceEq,Int.reduceLT,Int.reduceLE,lenA,hlen,h0]
 generalize hr : thenL (Λ c19_0 _ _) _ = r
 refine Exists.elim (thenL_inv hr (key _ ?_ ?_)) ?_
 ·first | exact hlen | simp only [B3,Nat.reduceLT,Nat.reduceEqDiff,hlen]
 ·first | exact h0 | simp only [B3,Nat.reduceLT,Nat.reduceEqDiff,hlen,h0]
 clear hr key
 rintro e ⟨tm1, H1, ⟨rfl, g1, rfl⟩, rfl⟩
 simp only [B0,B1,B2,List.replicate,Nat.reduceAdd,Nat.reduceSub,Nat.reduceLeDiff,Nat.reduceLT,Nat.reduceEqDiff,reduceCtorEq,Int.reduceEq,Int.reduceLT,Int.reduceLE,lenA,endK,resA,tupA,g1]
 exact congrArg some hlv
end Go.Abs.Seat
end
section
set_option linter.unusedVariables false
set_option linter.unusedSimpArgs false
namespace Go.Abs.Seat
open Go.Proofs
theorem peek_lt {b : List UInt8} {p : Nat} (h : peekB b p ≠ 0) : p < b.length := by
 rcases Nat.lt_or_ge p b.length with h' | h'
 ·exact h'
 ·exact absurd (by unfold peekB; rw [List.getElem?_eq_none h']; rfl) h
theorem peek_some {b : List UInt8} {p : Nat} (h : p < b.length) : b[p]? = some (peekB b p) := by
 unfold peekB
 rw [List.getElem?_eq_getElem h]; rfl
def signP (b : List UInt8) (p : Nat) (bad : Bool) (c : UInt8) : Nat × Bool :=
 if bad = true then (p, true) else if peekB b (skipB b p) = c then (skipB b p + 1, false) else (skipB b p, true)
theorem s53 (b : List UInt8) (p ir : Nat) (bad : Bool) (c : UInt8) (H : Heap) (hc0 : c ≠ 0) (hir : H[ir]? = some (objS b p bad)) (hb : b.length ≤ 4611686018427387904) (hp : p ≤ b.length) :
  L 53 [.ptr ir 0 0, .im (.int .u8 (c.toNat : Int))] H = some (.tup [], H.set ir (objS b (signP b p bad c).1 (signP b p bad c).2)) := by
 have hirl := (List.getElem?_eq_some_iff.1 hir).1
 have c1 := s19 b p ir bad H hir hb hp
 have c2 := s29 b (skipB b p) ir bad (H.set ir (objS b (skipB b p) bad)) (List.getElem?_set_self hirl) hb
 have hq : (H.set ir (objS b (skipB b p) bad))[ir]? = some (objS b (skipB b p) bad) := List.getElem?_set_self hirl
 have hlv : ∀ q bd, leave H false (.tup []) (H.set ir (objS b q bd)) = (.tup [], H.set ir (objS b q bd)) := fun q bd => leave_S hir rfl rfl
 have hle := skip_len hp
 rw [leq F53]
 obtain ⟨hlen, ha⟩ := enter_at (f := f53) (args := [.ptr ir 0 0, .im (.int .u8 (c.toNat : Int))]) (Nat.le_of_ble_eq_true rfl)
 have h0 := ha 0 _ rfl
 have h1 := ha 1 _ rfl
 generalize enterA f53 [.ptr ir 0 0, .im (.int .u8 (c.toNat : Int))] = tm at *
 change tm.length = 24 at hlen
 unfold signP
 cases bad with
 | true =>
  rw [if_pos rfl]
  have hsm : H.set ir (objS b p true) = H := set_same hir
  have hlv' := hlv p true
  rw [hsm] at hlv' ⊢
  simp only [objS] at hir
  simp only [f53,B0,B1,B2,List.replicate,Nat.reduceAdd,Nat.reduceSub,Nat.reduceLeDiff,Nat.reduceLT,Nat.reduceEqDiff,reduceCtorEq,Int.reduceEq,Int.reduceLT,Int.reduceLE,lenA,endK,resA,tupA,hlen,h0,h1,hir,hlv']
 | false =>
  rw [if_neg (by simp)]
  generalize skipB b p = q at *
  by_cases hc : peekB b q = c
  ·have hd : decide ((((peekB b q).toNat : Nat) : Int) = ((c.toNat : Nat) : Int)) = true := by rw [byte_eq]; exact decide_eq_true hc
   have hlt : q < b.length := peek_lt (by rw [hc]; exact hc0)
   have hwr := wrap_nat (i := q) (by omega)
   have hlv' := hlv (q + 1) false
   rw [if_pos hc]
   simp only [objS] at hir hq c1 c2 hlv' ⊢
   simp only [f53,B0,B1,B2,List.replicate,Nat.reduceAdd,Nat.reduceSub,Nat.reduceLeDiff,Nat.reduceLT,Nat.reduceEqDiff,reduceCtorEq,Int.reduceEq,Int.reduceLT,Int.reduceLE,lenA,endK,resA,tupA,hlen,h0,h1,hir,c1,hq,c2,hd,hwr,List.set_set,hlv']
  ·have hd : decide ((((peekB b q).toNat : Nat) : Int) = ((c.toNat : Nat) : Int)) = false := by rw [byte_eq]; exact decide_eq_false hc
   have hlv' := hlv q true
   rw [if_neg hc]
   simp only [objS] at hir hq c1 c2 hlv' ⊢
   simp only [f53,B0,B1,B2,List.replicate,Nat.reduceAdd,Nat.reduceSub,Nat.reduceLeDiff,Nat.reduceLT,Nat.reduceEqDiff,reduceCtorEq,Int.reduceEq,Int.reduceLT,Int.reduceLE,lenA,endK,resA,tupA,hlen,h0,h1,hir,c1,hq,c2,hd,List.set_set,hlv']
def goesB (b : List UInt8) (p0 p : Nat) : Bool := (decide (p - p0 < 16) && namZ (peekB b p).toNat) && (decide (p0 < p) || decide (97 ≤ ((peekB b p).toNat : Int)))
def runN (b : List UInt8) (p0 : Nat) : Nat → Nat → Nat
 | 0, p => p
 | f + 1, p => if goesB b p0 p = true then runN b p0 f (p + 1) else p
def runB (b : List UInt8) (p : Nat) : Nat := runN b p 16 p
def wordB (b : List UInt8) (p : Nat) : List UInt8 := (b.drop p).take (runB b p - p)
theorem nam0 : namZ ((0 : UInt8).toNat : Int) = false := by decide
theorem goes_lt {b : List UInt8} {p0 p : Nat} (h : goesB b p0 p = true) : p < b.length ∧ p - p0 < 16 := by
 unfold goesB at h
 simp only [Bool.and_eq_true,decide_eq_true_eq] at h
 refine ⟨peek_lt fun e => ?_, h.1.1⟩
 have := h.1.2
 rw [e, nam0] at this
 simp at this
theorem runN_le (b : List UInt8) (p0 : Nat) : ∀ f p, p ≤ runN b p0 f p
 | 0, p => Nat.le_refl _
 | f + 1, p => by
  unfold runN
  split
  ·have := runN_le b p0 f (p + 1); omega
  ·exact Nat.le_refl _
theorem runN_len (b : List UInt8) (p0 : Nat) : ∀ f p, p ≤ b.length → runN b p0 f p ≤ b.length
 | 0, p, h => h
 | f + 1, p, h => by
  unfold runN
  split
  ·rename_i hg
   have := (goes_lt hg).1
   exact runN_len b p0 f (p + 1) (by omega)
  ·exact h
theorem runN_16 (b : List UInt8) (p0 : Nat) : ∀ f p, p0 ≤ p → p - p0 ≤ 16 → runN b p0 f p - p0 ≤ 16
 | 0, p, h0, h => h
 | f + 1, p, h0, h => by
  unfold runN
  split
  ·rename_i hg
   have := (goes_lt hg).2
   exact runN_16 b p0 f (p + 1) (by omega) (by omega)
  ·exact h
theorem run_le (b : List UInt8) (p : Nat) : p ≤ runB b p := runN_le b p _ p
theorem run_len {b : List UInt8} {p : Nat} (h : p ≤ b.length) : runB b p ≤ b.length := runN_len b p _ p h
theorem run_16 (b : List UInt8) (p : Nat) : runB b p - p ≤ 16 := runN_16 b p _ p (Nat.le_refl _) (by omega)
theorem l32 (b : List UInt8) (ir p0 : Nat) (bad : Bool) (hb : b.length ≤ 4611686018427387904) :
  ∀ (f p : Nat) (tm : List AV) (H : Heap), 16 ≤ (p - p0) + f → p0 ≤ p → p ≤ b.length → H[ir]? = some (objS b p bad) → tm.length = 50 → tm.getD 0 undefA = .ptr ir 0 0 → tm.getD 3 undefA = .im (.int .i64 (p0 : Int)) →
  ∃ e tm' H', Λ c32_0 tm H = some (e, tm', H') ∧ (e = .exit 0 ∧ tm'.length = 50 ∧ tm'.getD 0 undefA = .ptr ir 0 0 ∧ tm'.getD 3 undefA = .im (.int .i64 (p0 : Int)) ∧ H' = H.set ir (objS b (runN b p0 f p) bad))
 | 0, p, tm, H, hf, h0p, hp, hir, hlen, h0, h3 => by
  have hws : IntKind.i64.wrap ((p : Int) - (p0 : Int)) = (p : Int) - (p0 : Int) := Go.Abs.Seat.wrap_small _ (by omega)
  have hc : decide ((p : Int) - (p0 : Int) < 16) = false := decide_eq_false (by omega)
  have hset : H.set ir (objS b (runN b p0 0 p) bad) = H := set_same hir
  rw [hset]
  simp only [objS] at hir
  rw [l32_0]
  simp only [b32_0,B0,B1,B2,List.replicate,Nat.reduceAdd,Nat.reduceSub,Nat.reduceLeDiff,Nat.reduceLT,Nat.reduceEqDiff,reduceCtorEq,Int.reduceEq,Int.reduceLT,Int.reduceLE,lenA,hlen,h0,h3,hir,hws,hc]
  exact ⟨_, _, _, rfl, rfl, by simp only [List.length_set,hlen], by simp only [B3,Nat.reduceLT,Nat.reduceEqDiff,hlen,h0], by simp only [B3,Nat.reduceLT,Nat.reduceEqDiff,hlen,h3], rfl⟩
 | f + 1, p, tm, H, hf, h0p, hp, hir, hlen, h0, h3 => by
  have hirl := (List.getElem?_eq_some_iff.1 hir).1
  have hws : IntKind.i64.wrap ((p : Int) - (p0 : Int)) = (p : Int) - (p0 : Int) := Go.Abs.Seat.wrap_small _ (by omega)
  have c1 := s29 b p ir bad H hir hb
  have c2 := fun H => s34 ((peekB b p).toNat : Int) H
  have hx : decide ((p : Int) - (p0 : Int) < 16) = decide (p - p0 < 16) := by
   by_cases h : p - p0 < 16
   ·rw [decide_eq_true h, decide_eq_true (by omega)]
   ·rw [decide_eq_false h, decide_eq_false (by omega)]
  have hy : decide ((p0 : Int) < (p : Int)) = decide (p0 < p) := by
   by_cases h : p0 < p
   ·rw [decide_eq_true h, decide_eq_true (by omega)]
   ·rw [decide_eq_false h, decide_eq_false (by omega)]
  have stop : goesB b p0 p = false → ∃ e tm' H', Λ c32_0 tm H = some (e, tm', H') ∧ (e = .exit 0 ∧ tm'.length = 50 ∧ tm'.getD 0 undefA = .ptr ir 0 0 ∧ tm'.getD 3 undefA = .im (.int .i64 (p0 : Int)) ∧ H' = H.set ir (objS b (runN b p0 (f + 1) p) bad)) := by
   intro hg
   have hr : runN b p0 (f + 1) p = p := by unfold runN; rw [hg, if_neg (by simp)]
   rw [hr, show H.set ir (objS b p bad) = H from set_same hir]
   unfold goesB at hg
   simp only [objS] at hir
   rcases Bool.eq_false_or_eq_true (decide (p - p0 < 16)) with g1 | g1 <;> rcases Bool.eq_false_or_eq_true (namZ ((peekB b p).toNat : Int)) with g2 | g2 <;> rcases Bool.eq_false_or_eq_true (decide (p0 < p)) with g3 | g3 <;> rcases Bool.eq_false_or_eq_true (decide (97 ≤ ((peekB b p).toNat : Int))) with g4 | g4 <;>
    first
    |(rw [g1, g2, g3, g4] at hg; simp at hg; done)
    |(rw [l32_0]
      simp only [b32_0,B0,B1,B2,List.replicate,Nat.reduceAdd,Nat.reduceSub,Nat.reduceLeDiff,Nat.reduceLT,Nat.reduceEqDiff,reduceCtorEq,Int.reduceEq,Int.reduceLT,Int.reduceLE,lenA,hlen,h0,h3,hir,hws,hx,hy,c1,c2,g1,g2,g3,g4]
      exact ⟨_, _, _, rfl, rfl, by simp only [List.length_set,hlen], by simp only [B3,Nat.reduceLT,Nat.reduceEqDiff,hlen,h0], by simp only [B3,Nat.reduceLT,Nat.reduceEqDiff,hlen,h3], rfl⟩)
  rcases Bool.eq_false_or_eq_true (goesB b p0 p) with hg | hg
  ·have hlt := goes_lt hg
   have hwr := wrap_nat (i := p) (by omega)
   have key := fun tm1 => l32 b ir p0 bad hb f (p + 1) tm1 (H.set ir (objS b (p + 1) bad)) (by omega) (by omega) (by omega) (List.getElem?_set_self hirl)
   simp only [List.set_set] at key
   have hr : runN b p0 (f + 1) p = runN b p0 f (p + 1) := by rw [runN, hg, if_pos rfl]
   rw [hr]
   unfold goesB at hg
   simp only [Bool.and_eq_true] at hg
   obtain ⟨⟨g1, g2⟩, g3⟩ := hg
   simp only [objS] at hir key ⊢
   rcases Bool.eq_false_or_eq_true (decide (p0 < p)) with g5 | g5
   ·rw [l32_0]
    simp only [b32_0,B0,B1,B2,List.replicate,Nat.reduceAdd,Nat.reduceSub,Nat.reduceLeDiff,Nat.reduceLT,Nat.reduceEqDiff,reduceCtorEq,Int.reduceEq,Int.reduceLT,Int.reduceLE,lenA,hlen,h0,h3,hir,hws,hx,hy,c1,c2,g1,g2,g5,hwr]
    refine ex_imp (key _ ?_ ?_ ?_) fun _ _ _ h => h
    all_goals simp only [B3,Nat.reduceLT,Nat.reduceEqDiff,hlen,h0,h3]
   ·rw [g5, Bool.false_or] at g3
    rw [l32_0]
    simp only [b32_0,B0,B1,B2,List.replicate,Nat.reduceAdd,Nat.reduceSub,Nat.reduceLeDiff,Nat.reduceLT,Nat.reduceEqDiff,reduceCtorEq,Int.reduceEq,Int.reduceLT,Int.reduceLE,lenA,hlen,h0,h3,hir,hws,hx,hy,c1,c2,g1,g2,g5,g3,hwr]
    refine ex_imp (key _ ?_ ?_ ?_) fun _ _ _ h => h
    all_goals simp only [B3,Nat.reduceLT,Nat.reduceEqDiff,hlen,h0,h3]
  ·exact stop hg
theorem s32 (b : List UInt8) (p ir : Nat) (bad : Bool) (H : Heap) (hir : H[ir]? = some (objS b p bad)) (hb : b.length ≤ 4611686018427387904) (hp : p ≤ b.length) :
  L 32 [.ptr ir 0 0] H = some (.im (.str (wordB b p)), H.set ir (objS b (runB b p) bad)) := by
 have hirl := (List.getElem?_eq_some_iff.1 hir).1
 have key := fun tm1 => l32 b ir p bad hb 16 p tm1 H (by omega) (Nat.le_refl _) hp hir
 have hlv : ∀ q w, leave H false (.im (.str w)) (H.set ir (objS b q bad)) = (.im (.str w), H.set ir (objS b q bad)) := fun q w => leave_S hir rfl rfl
 have hq : (H.set ir (objS b (runB b p) bad))[ir]? = some (objS b (runB b p) bad) := List.getElem?_set_self hirl
 have hle := run_len hp
 have hle2 := run_le b p
 have ki : runN b p 16 p = runB b p := rfl
 rw [ki] at key
 unfold wordB
 generalize runB b p = q at *
 have hlv' := hlv q ((b.drop p).take (q - p))
 simp only [objS] at hir hq key hlv' ⊢
 rw [leq F32]
 obtain ⟨hlen, ha⟩ := enter_at (f := f32) (args := [.ptr ir 0 0]) (Nat.le_of_ble_eq_true rfl)
 have h0 := ha 0 _ rfl
 generalize enterA f32 [.ptr ir 0 0] = tm at *
 change tm.length = 50 at hlen
 simp only [f32,e32_0,B0,B1,B2,List.replicate,Nat.reduceAdd,Nat.reduceSub,Nat.reduceLeDiff,Nat.reduceLT,Nat.reduceEqDiff,reduceCtorEq,Int.reduceEq,Int.reduceLT,Int.reduceLE,lenA,hlen,h0,hir]
 generalize hr : thenL (Λ c32_0 _ _) _ = r
 refine Exists.elim (thenL_inv hr (key _ ?_ ?_ ?_)) ?_
 iterate 3 simp only [B3,Nat.reduceLT,Nat.reduceEqDiff,hlen,h0]
 clear hr key
 rintro e ⟨tm1, H1, ⟨rfl, g1, g2, g3, rfl⟩, rfl⟩
 have hba : boundA (fun x => ev tm1 x) 0 (some (.c (.im (.int .i64 (p : Int))))) = some p := by simp [boundA, intOfA, ev]
 have hc1 : p ≤ q ∧ q ≤ b.length := ⟨hle2, hle⟩
 simp only [B0,B1,B2,List.replicate,Nat.reduceAdd,Nat.reduceSub,Nat.reduceLeDiff,Nat.reduceLT,Nat.reduceEqDiff,reduceCtorEq,Int.reduceEq,Int.reduceLT,Int.reduceLE,lenA,endK,resA,tupA,boundA,intOfA,Int.natCast_nonneg,Int.toNat_natCast,if_true,g1,g2,g3,hq,hc1,hlv']
end Go.Abs.Seat
end
section
set_option linter.unusedVariables false
set_option linter.unusedSimpArgs false
namespace Go.Abs.Seat
open Go.Proofs
def shapes : List (List UInt8 × List UInt8) := [([116, 114, 117, 101], []),
 ([102, 97, 108, 115, 101], []),
 ([105, 116], []),
 ([110, 101, 103], [101]),
 ([110, 111, 116], [101]),
 ([102, 105, 114, 115, 116], [101]),
 ([115, 101, 99, 111, 110, 100], [101]),
 ([108, 101, 110], [101]),
 ([115, 111, 114, 116], [101]),
 ([115, 111, 109, 101], [101]),
 ([105, 115, 95, 115, 111, 109, 101], [101]),
 ([115, 105, 122, 101], [101]),
 ([98, 121, 116, 101, 115], [101]),
 ([116, 101, 120, 116], [101]),
 ([115, 104, 111, 119], [101]),
 ([114, 101], [101]),
 ([105, 109], [101]),
 ([99, 111, 110, 106], [101]),
 ([114, 97, 110, 103, 101], [101]),
 ([97, 100, 100], [101, 101]),
 ([115, 117, 98], [101, 101]),
 ([109, 117, 108], [101, 101]),
 ([100, 105, 118], [101, 101]),
 ([109, 111, 100], [101, 101]),
 ([101, 113], [101, 101]),
 ([108, 116], [101, 101]),
 ([97, 110, 100], [101, 101]),
 ([111, 114], [101, 101]),
 ([112, 97, 105, 114], [101, 101]),
 ([99, 111, 110, 115], [101, 101]),
 ([99, 111, 110, 99, 97, 116], [101, 101]),
 ([97, 116], [101, 101]),
 ([111, 114, 95, 101, 108, 115, 101], [101, 101]),
 ([106, 111, 105, 110], [101, 101]),
 ([112, 111, 105, 110, 116], [101, 101]),
 ([105, 102], [101, 101, 101]),
 ([99, 117, 116], [101, 101, 101]),
 ([108, 105, 115, 116], [43]),
 ([115, 105, 100, 101], [100]),
 ([110, 105, 108], [116]),
 ([110, 111, 110, 101], [116]),
 ([108, 101, 116], [110, 101, 101]),
 ([109, 97, 112], [101, 110, 101]),
 ([102, 105, 108, 116, 101, 114], [101, 110, 101]),
 ([102, 111, 108, 100], [101, 101, 110, 110, 101])]
def shapeT (w : List UInt8) : Option (List UInt8) := shapes.lookup w
set_option maxRecDepth 100000 in
theorem shape_run : ∀ e ∈ shapes, runC bld T 400 33 [.im (.str e.1)] [] = some (.tup [.im (.str e.2), .im (.bool true)], []) := by
 intro e he
 simp only [shapes,List.mem_cons,List.not_mem_nil,or_false] at he
 rcases he with rfl | rfl | rfl | rfl | rfl | rfl | rfl | rfl | rfl | rfl | rfl | rfl | rfl | rfl | rfl | rfl | rfl | rfl | rfl | rfl | rfl | rfl | rfl | rfl | rfl | rfl | rfl | rfl | rfl | rfl | rfl | rfl | rfl | rfl | rfl | rfl | rfl | rfl | rfl | rfl | rfl | rfl | rfl | rfl | rfl <;> kernel_rfl
theorem lookup_mem {α β : Type} [BEq α] [LawfulBEq α] : ∀ {l : List (α × β)} {a : α} {b : β}, l.lookup a = some b → (a, b) ∈ l
 |(x, y) :: l, a, b, h => by
  simp only [List.lookup] at h
  split at h
  ·rename_i he
   have : a = x := by simpa using he
   subst this
   injection h with h
   subst h
   simp
  ·exact List.mem_cons_of_mem _ (lookup_mem h)
theorem lookup_none {α β : Type} [BEq α] [LawfulBEq α] : ∀ {l : List (α × β)} {a : α}, l.lookup a = none → ∀ e ∈ l, a ≠ e.1
 |(x, y) :: l, a, h, e, he => by
  simp only [List.lookup] at h
  split at h
  ·simp at h
  ·rename_i hne
   rcases List.mem_cons.1 he with rfl | he
   ·simpa using hne
   ·exact lookup_none h e he
theorem s33_some {w p : List UInt8} (h : shapeT w = some p) (H : Heap) : L 33 [.im (.str w)] H = some (.tup [.im (.str p), .im (.bool true)], H) :=
 lim_args bsh Tok Tno (shape_run (w, p) (lookup_mem h)) (fun _ => rfl) (fun _ => rfl) H
structure NoW (w : List UInt8) : Prop where
 h0 : decide (w = [116, 114, 117, 101]) = false
 h1 : decide (w = [102, 97, 108, 115, 101]) = false
 h2 : decide (w = [105, 116]) = false
 h3 : decide (w = [110, 101, 103]) = false
 h4 : decide (w = [110, 111, 116]) = false
 h5 : decide (w = [102, 105, 114, 115, 116]) = false
 h6 : decide (w = [115, 101, 99, 111, 110, 100]) = false
 h7 : decide (w = [108, 101, 110]) = false
 h8 : decide (w = [115, 111, 114, 116]) = false
 h9 : decide (w = [115, 111, 109, 101]) = false
 h10 : decide (w = [105, 115, 95, 115, 111, 109, 101]) = false
 h11 : decide (w = [115, 105, 122, 101]) = false
 h12 : decide (w = [98, 121, 116, 101, 115]) = false
 h13 : decide (w = [116, 101, 120, 116]) = false
 h14 : decide (w = [115, 104, 111, 119]) = false
 h15 : decide (w = [114, 101]) = false
 h16 : decide (w = [105, 109]) = false
 h17 : decide (w = [99, 111, 110, 106]) = false
 h18 : decide (w = [114, 97, 110, 103, 101]) = false
 h19 : decide (w = [97, 100, 100]) = false
 h20 : decide (w = [115, 117, 98]) = false
 h21 : decide (w = [109, 117, 108]) = false
 h22 : decide (w = [100, 105, 118]) = false
 h23 : decide (w = [109, 111, 100]) = false
 h24 : decide (w = [101, 113]) = false
 h25 : decide (w = [108, 116]) = false
 h26 : decide (w = [97, 110, 100]) = false
 h27 : decide (w = [111, 114]) = false
 h28 : decide (w = [112, 97, 105, 114]) = false
 h29 : decide (w = [99, 111, 110, 115]) = false
 h30 : decide (w = [99, 111, 110, 99, 97, 116]) = false
 h31 : decide (w = [97, 116]) = false
 h32 : decide (w = [111, 114, 95, 101, 108, 115, 101]) = false
 h33 : decide (w = [106, 111, 105, 110]) = false
 h34 : decide (w = [112, 111, 105, 110, 116]) = false
 h35 : decide (w = [105, 102]) = false
 h36 : decide (w = [99, 117, 116]) = false
 h37 : decide (w = [108, 105, 115, 116]) = false
 h38 : decide (w = [115, 105, 100, 101]) = false
 h39 : decide (w = [110, 105, 108]) = false
 h40 : decide (w = [110, 111, 110, 101]) = false
 h41 : decide (w = [108, 101, 116]) = false
 h42 : decide (w = [109, 97, 112]) = false
 h43 : decide (w = [102, 105, 108, 116, 101, 114]) = false
 h44 : decide (w = [102, 111, 108, 100]) = false
theorem now_of {w : List UInt8} (h : shapeT w = none) : NoW w := by
 have hn := lookup_none h
 simp only [shapes,List.forall_mem_cons,ne_eq] at hn
 obtain ⟨n0, n1, n2, n3, n4, n5, n6, n7, n8, n9, n10, n11, n12, n13, n14, n15, n16, n17, n18, n19, n20, n21, n22, n23, n24, n25, n26, n27, n28, n29, n30, n31, n32, n33, n34, n35, n36, n37, n38, n39, n40, n41, n42, n43, n44, _⟩ := hn
 exact ⟨decide_eq_false n0, decide_eq_false n1, decide_eq_false n2, decide_eq_false n3, decide_eq_false n4, decide_eq_false n5, decide_eq_false n6, decide_eq_false n7, decide_eq_false n8, decide_eq_false n9, decide_eq_false n10, decide_eq_false n11, decide_eq_false n12, decide_eq_false n13, decide_eq_false n14, decide_eq_false n15, decide_eq_false n16, decide_eq_false n17, decide_eq_false n18, decide_eq_false n19, decide_eq_false n20, decide_eq_false n21, decide_eq_false n22, decide_eq_false n23, decide_eq_false n24, decide_eq_false n25, decide_eq_false n26, decide_eq_false n27, decide_eq_false n28, decide_eq_false n29, decide_eq_false n30, decide_eq_false n31, decide_eq_false n32, decide_eq_false n33, decide_eq_false n34, decide_eq_false n35, decide_eq_false n36, decide_eq_false n37, decide_eq_false n38, decide_eq_false n39, decide_eq_false n40, decide_eq_false n41, decide_eq_false n42, decide_eq_false n43, decide_eq_false n44⟩
def Passes (w : List UInt8) (code : ACode) (post : List AV → Prop) : Prop := ∀ (tm : List AV) (H : Heap) (K : AEx → List AV → Heap → Option (AV × Heap)), tm.length = 60 → tm.getD 4 undefA = .im (.str w) →
 ∃ tm', tm'.length = 60 ∧ tm'.getD 4 undefA = .im (.str w) ∧ post tm' ∧ exec0 L Λ code tm H K = K .normal tm' H
theorem pass_skip {w : List UInt8} : Passes w .skip (fun _ => True) := fun tm H K hl h4 => ⟨tm, hl, h4, trivial, x_skip⟩
theorem pass_eq {w lit : List UInt8} {a c : Nat} (ha : a < 60 ∧ c < 60 ∧ a ≠ 4 ∧ c ≠ 4) (h : decide (w = lit) = false) :
  Passes w (.ops [⟨some a, .bin .eql (.t 4) (.c (.im (.str lit))), none⟩, ⟨some c, .move (.t a), none⟩] []) (fun tm => tm.getD c undefA = .im (.bool false)) := fun tm H K hl h4 => by
 obtain ⟨h1, h2, h3, h5⟩ := ha
 refine ⟨(tm.set a (.im (.bool false))).set c (.im (.bool false)), by simp only [List.length_set,hl], ?_, ?_, ?_⟩
 ·rw [gs_ne h5, gs_ne h3, h4]
 ·exact gs_same (by simp only [List.length_set,hl]; exact h2)
 ·have e : (tm.set a (.im (.bool false))).getD a undefA = .im (.bool false) := gs_same (by rw [hl]; exact h1)
  simp only [B0,B1,B2,List.replicate,Nat.reduceAdd,Nat.reduceSub,Nat.reduceLeDiff,Nat.reduceLT,Nat.reduceEqDiff,reduceCtorEq,Int.reduceEq,Int.reduceLT,Int.reduceLE,lenA,h4,h,e]
theorem pass_grp {w lit : List UInt8} {a c : Nat} {G : ACode} (ha : a < 60 ∧ c < 60 ∧ a ≠ 4 ∧ c ≠ 4) (h : decide (w = lit) = false) (hG : Passes w G (fun tm => tm.getD c undefA = .im (.bool false))) :
  Passes w (.seq (.ops [⟨some a, .bin .eql (.t 4) (.c (.im (.str lit))), none⟩, ⟨some c, .move (.t a), none⟩] []) (.cond (.t c) .skip G)) (fun tm => tm.getD c undefA = .im (.bool false)) := fun tm H K hl h4 => by
 obtain ⟨tm1, a1, a2, a3, a4⟩ := pass_eq ha h tm H (seqK L Λ (.cond (.t c) .skip G) K) hl h4
 obtain ⟨tm2, b1, b2, b3, b4⟩ := hG tm1 H K a1 a2
 refine ⟨tm2, b1, b2, b3, ?_⟩
 rw [x_seq, a4, k_normal]
 simp only [x_cond,ev,a3,Bool.false_eq_true,if_false]
 exact b4
theorem pass_case {w : List UInt8} {c : Nat} {G A X : ACode} (hG : Passes w G (fun tm => tm.getD c undefA = .im (.bool false))) (hX : Passes w X (fun _ => True)) :
  Passes w (.seq G (.cond (.t c) A X)) (fun _ => True) := fun tm H K hl h4 => by
 obtain ⟨tm1, a1, a2, a3, a4⟩ := hG tm H (seqK L Λ (.cond (.t c) A X) K) hl h4
 obtain ⟨tm2, b1, b2, b3, b4⟩ := hX tm1 H K a1 a2
 refine ⟨tm2, b1, b2, trivial, ?_⟩
 rw [x_seq, a4, k_normal]
 simp only [x_cond,ev,a3,Bool.false_eq_true,if_false]
 exact b4
def d33 : ACode := (.seq (.seq (.ops [⟨some 6,.bin .eql (.t 4) (.c (.im (.str [116,114,117,101]))),none⟩,⟨some 5,.move (.t 6),none⟩] []) (.cond (.t 5) .skip (.seq (.ops [⟨some 7,.bin .eql (.t 4) (.c (.im (.str [102,97,108,115,101]))),none⟩,⟨some 5,.move (.t 7),none⟩] []) (.cond (.t 5) .skip (.ops [⟨some 8,.bin .eql (.t 4) (.c (.im (.str [105,116]))),none⟩,⟨some 5,.move (.t 8),none⟩] []))))) (.cond (.t 5) (.seq (.ops [⟨some 2,.move (.c (.im (.str []))),none⟩,⟨some 3,.move (.c (.im (.bool true))),none⟩] []) .ret) (.seq (.seq (.ops [⟨some 10,.bin .eql (.t 4) (.c (.im (.str [110,101,103]))),none⟩,⟨some 9,.move (.t 10),none⟩] []) (.cond (.t 9) .skip (.seq (.ops [⟨some 11,.bin .eql (.t 4) (.c (.im (.str [110,111,116]))),none⟩,⟨some 9,.move (.t 11),none⟩] []) (.cond (.t 9) .skip (.seq (.ops [⟨some 12,.bin .eql (.t 4) (.c (.im (.str [102,105,114,115,116]))),none⟩,⟨some 9,.move (.t 12),none⟩] []) (.cond (.t 9) .skip (.seq (.ops [⟨some 13,.bin .eql (.t 4) (.c (.im (.str [115,101,99,111,110,100]))),none⟩,⟨some 9,.move (.t 13),none⟩] []) (.cond (.t 9) .skip (.seq (.ops [⟨some 14,.bin .eql (.t 4) (.c (.im (.str [108,101,110]))),none⟩,⟨some 9,.move (.t 14),none⟩] []) (.cond (.t 9) .skip (.seq (.ops [⟨some 15,.bin .eql (.t 4) (.c (.im (.str [115,111,114,116]))),none⟩,⟨some 9,.move (.t 15),none⟩] []) (.cond (.t 9) .skip (.seq (.ops [⟨some 16,.bin .eql (.t 4) (.c (.im (.str [115,111,109,101]))),none⟩,⟨some 9,.move (.t 16),none⟩] []) (.cond (.t 9) .skip (.seq (.ops [⟨some 17,.bin .eql (.t 4) (.c (.im (.str [105,115,95,115,111,109,101]))),none⟩,⟨some 9,.move (.t 17),none⟩] []) (.cond (.t 9) .skip (.seq (.ops [⟨some 18,.bin .eql (.t 4) (.c (.im (.str [115,105,122,101]))),none⟩,⟨some 9,.move (.t 18),none⟩] []) (.cond (.t 9) .skip (.seq (.ops [⟨some 19,.bin .eql (.t 4) (.c (.im (.str [98,121,116,101,115]))),none⟩,⟨some 9,.move (.t 19),none⟩] []) (.cond (.t 9) .skip (.seq (.ops [⟨some 20,.bin .eql (.t 4) (.c (.im (.str [116,101,120,116]))),none⟩,⟨some 9,.move (.t 20),none⟩] []) (.cond (.t 9) .skip (.seq (.ops [⟨some 21,.bin .eql (.t 4) (.c (.im (.str [115,104,111,119]))),none⟩,⟨some 9,.move (.t 21),none⟩] []) (.cond (.t 9) .skip (.seq (.ops [⟨some 22,.bin .eql (.t 4) (.c (.im (.str [114,101]))),none⟩,⟨some 9,.move (.t 22),none⟩] []) (.cond (.t 9) .skip (.seq (.ops [⟨some 23,.bin .eql (.t 4) (.c (.im (.str [105,109]))),none⟩,⟨some 9,.move (.t 23),none⟩] []) (.cond (.t 9) .skip (.seq (.ops [⟨some 24,.bin .eql (.t 4) (.c (.im (.str [99,111,110,106]))),none⟩,⟨some 9,.move (.t 24),none⟩] []) (.cond (.t 9) .skip (.ops [⟨some 25,.bin .eql (.t 4) (.c (.im (.str [114,97,110,103,101]))),none⟩,⟨some 9,.move (.t 25),none⟩] []))))))))))))))))))))))))))))))) (.cond (.t 9) (.seq (.ops [⟨some 2,.move (.c (.im (.str [101]))),none⟩,⟨some 3,.move (.c (.im (.bool true))),none⟩] []) .ret) (.seq (.seq (.ops [⟨some 27,.bin .eql (.t 4) (.c (.im (.str [97,100,100]))),none⟩,⟨some 26,.move (.t 27),none⟩] []) (.cond (.t 26) .skip (.seq (.ops [⟨some 28,.bin .eql (.t 4) (.c (.im (.str [115,117,98]))),none⟩,⟨some 26,.move (.t 28),none⟩] []) (.cond (.t 26) .skip (.seq (.ops [⟨some 29,.bin .eql (.t 4) (.c (.im (.str [109,117,108]))),none⟩,⟨some 26,.move (.t 29),none⟩] []) (.cond (.t 26) .skip (.seq (.ops [⟨some 30,.bin .eql (.t 4) (.c (.im (.str [100,105,118]))),none⟩,⟨some 26,.move (.t 30),none⟩] []) (.cond (.t 26) .skip (.seq (.ops [⟨some 31,.bin .eql (.t 4) (.c (.im (.str [109,111,100]))),none⟩,⟨some 26,.move (.t 31),none⟩] []) (.cond (.t 26) .skip (.seq (.ops [⟨some 32,.bin .eql (.t 4) (.c (.im (.str [101,113]))),none⟩,⟨some 26,.move (.t 32),none⟩] []) (.cond (.t 26) .skip (.seq (.ops [⟨some 33,.bin .eql (.t 4) (.c (.im (.str [108,116]))),none⟩,⟨some 26,.move (.t 33),none⟩] []) (.cond (.t 26) .skip (.seq (.ops [⟨some 34,.bin .eql (.t 4) (.c (.im (.str [97,110,100]))),none⟩,⟨some 26,.move (.t 34),none⟩] []) (.cond (.t 26) .skip (.seq (.ops [⟨some 35,.bin .eql (.t 4) (.c (.im (.str [111,114]))),none⟩,⟨some 26,.move (.t 35),none⟩] []) (.cond (.t 26) .skip (.seq (.ops [⟨some 36,.bin .eql (.t 4) (.c (.im (.str [112,97,105,114]))),none⟩,⟨some 26,.move (.t 36),none⟩] []) (.cond (.t 26) .skip (.seq (.ops [⟨some 37,.bin .eql (.t 4) (.c (.im (.str [99,111,110,115]))),none⟩,⟨some 26,.move (.t 37),none⟩] []) (.cond (.t 26) .skip (.seq (.ops [⟨some 38,.bin .eql (.t 4) (.c (.im (.str [99,111,110,99,97,116]))),none⟩,⟨some 26,.move (.t 38),none⟩] []) (.cond (.t 26) .skip (.seq (.ops [⟨some 39,.bin .eql (.t 4) (.c (.im (.str [97,116]))),none⟩,⟨some 26,.move (.t 39),none⟩] []) (.cond (.t 26) .skip (.seq (.ops [⟨some 40,.bin .eql (.t 4) (.c (.im (.str [111,114,95,101,108,115,101]))),none⟩,⟨some 26,.move (.t 40),none⟩] []) (.cond (.t 26) .skip (.seq (.ops [⟨some 41,.bin .eql (.t 4) (.c (.im (.str [106,111,105,110]))),none⟩,⟨some 26,.move (.t 41),none⟩] []) (.cond (.t 26) .skip (.ops [⟨some 42,.bin .eql (.t 4) (.c (.im (.str [112,111,105,110,116]))),none⟩,⟨some 26,.move (.t 42),none⟩] []))))))))))))))))))))))))))))))) (.cond (.t 26) (.seq (.ops [⟨some 2,.move (.c (.im (.str [101,101]))),none⟩,⟨some 3,.move (.c (.im (.bool true))),none⟩] []) .ret) (.seq (.seq (.ops [⟨some 44,.bin .eql (.t 4) (.c (.im (.str [105,102]))),none⟩,⟨some 43,.move (.t 44),none⟩] []) (.cond (.t 43) .skip (.ops [⟨some 45,.bin .eql (.t 4) (.c (.im (.str [99,117,116]))),none⟩,⟨some 43,.move (.t 45),none⟩] []))) (.cond (.t 43) (.seq (.ops [⟨some 2,.move (.c (.im (.str [101,101,101]))),none⟩,⟨some 3,.move (.c (.im (.bool true))),none⟩] []) .ret) (.seq (.ops [⟨some 47,.bin .eql (.t 4) (.c (.im (.str [108,105,115,116]))),none⟩,⟨some 46,.move (.t 47),none⟩] []) (.cond (.t 46) (.seq (.ops [⟨some 2,.move (.c (.im (.str [43]))),none⟩,⟨some 3,.move (.c (.im (.bool true))),none⟩] []) .ret) (.seq (.ops [⟨some 49,.bin .eql (.t 4) (.c (.im (.str [115,105,100,101]))),none⟩,⟨some 48,.move (.t 49),none⟩] []) (.cond (.t 48) (.seq (.ops [⟨some 2,.move (.c (.im (.str [100]))),none⟩,⟨some 3,.move (.c (.im (.bool true))),none⟩] []) .ret) (.seq (.seq (.ops [⟨some 51,.bin .eql (.t 4) (.c (.im (.str [110,105,108]))),none⟩,⟨some 50,.move (.t 51),none⟩] []) (.cond (.t 50) .skip (.ops [⟨some 52,.bin .eql (.t 4) (.c (.im (.str [110,111,110,101]))),none⟩,⟨some 50,.move (.t 52),none⟩] []))) (.cond (.t 50) (.seq (.ops [⟨some 2,.move (.c (.im (.str [116]))),none⟩,⟨some 3,.move (.c (.im (.bool true))),none⟩] []) .ret) (.seq (.ops [⟨some 54,.bin .eql (.t 4) (.c (.im (.str [108,101,116]))),none⟩,⟨some 53,.move (.t 54),none⟩] []) (.cond (.t 53) (.seq (.ops [⟨some 2,.move (.c (.im (.str [110,101,101]))),none⟩,⟨some 3,.move (.c (.im (.bool true))),none⟩] []) .ret) (.seq (.seq (.ops [⟨some 56,.bin .eql (.t 4) (.c (.im (.str [109,97,112]))),none⟩,⟨some 55,.move (.t 56),none⟩] []) (.cond (.t 55) .skip (.ops [⟨some 57,.bin .eql (.t 4) (.c (.im (.str [102,105,108,116,101,114]))),none⟩,⟨some 55,.move (.t 57),none⟩] []))) (.cond (.t 55) (.seq (.ops [⟨some 2,.move (.c (.im (.str [101,110,101]))),none⟩,⟨some 3,.move (.c (.im (.bool true))),none⟩] []) .ret) (.seq (.ops [⟨some 59,.bin .eql (.t 4) (.c (.im (.str [102,111,108,100]))),none⟩,⟨some 58,.move (.t 59),none⟩] []) (.cond (.t 58) (.seq (.ops [⟨some 2,.move (.c (.im (.str [101,101,110,110,101]))),none⟩,⟨some 3,.move (.c (.im (.bool true))),none⟩] []) .ret) .skip))))))))))))))))))))
theorem pass33 {w : List UInt8} (h : NoW w) : Passes w d33 (fun _ => True) := by
 obtain ⟨n0, n1, n2, n3, n4, n5, n6, n7, n8, n9, n10, n11, n12, n13, n14, n15, n16, n17, n18, n19, n20, n21, n22, n23, n24, n25, n26, n27, n28, n29, n30, n31, n32, n33, n34, n35, n36, n37, n38, n39, n40, n41, n42, n43, n44⟩ := h
 unfold d33
 repeat' first
  | exact pass_skip
  | exact pass_eq (by decide) (by assumption)
  | refine pass_grp (by decide) (by assumption) ?_
  | refine pass_case ?_ ?_
theorem s33_none {w : List UInt8} (h : shapeT w = none) (H : Heap) : L 33 [.im (.str w)] H = some (.tup [.im (.str []), .im (.bool false)], H) := by
 have hp := pass33 (now_of h)
 have hlv : leave H false (.tup [.im (.str []), .im (.bool false)]) H = (.tup [.im (.str []), .im (.bool false)], H) := by
  have := leave_deg (H := H) (M := []) (r := .tup [.im (.str []), .im (.bool false)]) rfl rfl
  rwa [List.append_nil] at this
 have hf : f33 = ⟨60, [(2, none), (3, none)], (.seq (.ops [⟨(some 2), (.move (.c (.im (.str [])))), none⟩, ⟨(some 3), (.move (.c (.im (.bool false)))), none⟩] []) (.seq (.seq (.ops [⟨(some 4), (.move (.t 0)), none⟩] []) (.block 0 d33)) (.seq (.ops [⟨(some 2), (.move (.c (.im (.str [])))), none⟩, ⟨(some 3), (.move (.c (.im (.bool false)))), none⟩] []) .ret))), false⟩ := rfl
 rw [leq F33]
 obtain ⟨hlen, ha⟩ := enter_at (f := f33) (args := [.im (.str w)]) (Nat.le_of_ble_eq_true rfl)
 have h0 := ha 0 _ rfl
 generalize enterA f33 [.im (.str w)] = tm at *
 change tm.length = 60 at hlen
 rw [hf]
 have hp' := fun H K => hp (((tm.set 2 (.im (.str []))).set 3 (.im (.bool false))).set 4 (.im (.str w))) H K (by simp only [List.length_set,hlen]) (by simp only [B3,Nat.reduceLT,Nat.reduceEqDiff,hlen])
 simp only [B0,B1,B2,List.replicate,Nat.reduceAdd,Nat.reduceSub,Nat.reduceLeDiff,Nat.reduceLT,Nat.reduceEqDiff,reduceCtorEq,Int.reduceEq,Int.reduceLT,Int.reduceLE,lenA,hlen,h0]
 obtain ⟨tm1, a1, a2, _, a4⟩ := hp' H _
 rw [a4]
 simp only [B0,B1,B2,List.replicate,Nat.reduceAdd,Nat.reduceSub,Nat.reduceLeDiff,Nat.reduceLT,Nat.reduceEqDiff,reduceCtorEq,Int.reduceEq,Int.reduceLT,Int.reduceLE,lenA,endK,resA,tupA,a1,hlv]
def hitN (s w : List UInt8) : Nat → Nat → Nat → Bool
 | 0, _, _ => false
 | f + 1, fr, k => if k = s.length ∨ s[k]? = some 32 then (decide (w = (s.drop fr).take (k - fr)) || hitN s w f (k + 1) (k + 1)) else hitN s w f fr (k + 1)
abbrev ls2 : List UInt8 := k40_1
set_option maxRecDepth 100000 in
theorem hit2 (w : List UInt8) : hitN ls2 w (ls2.length + 1) 0 0 = (decide (w = [97, 100, 100]) || (decide (w = [115, 117, 98]) || (decide (w = [109, 117, 108]) || (decide (w = [100, 105, 118]) || (decide (w = [109, 111, 100]) || (decide (w = [101, 113]) || (decide (w = [108, 116]) || (decide (w = [97, 110, 100]) || (decide (w = [111, 114]) || (decide (w = [112, 97, 105, 114]) || (decide (w = [99, 111, 110, 115]) || (decide (w = [99, 111, 110, 99, 97, 116]) || (decide (w = [97, 116]) || (decide (w = [111, 114, 95, 101, 108, 115, 101]) || (decide (w = [106, 111, 105, 110]) || (decide (w = [112, 111, 105, 110, 116]) || false)))))))))))))))) := by kernel_rfl
end Go.Abs.Seat
end
section
set_option linter.unusedVariables false
set_option linter.unusedSimpArgs false
namespace Go.Abs.Seat
open Go.Proofs
theorem zc0 : ((0 : Nat) : Int) = 0 := _root_.id rfl
end Go.Abs.Seat
end
section
set_option linter.unusedVariables false
set_option linter.unusedSimpArgs false
namespace Go.Abs.Seat
open Go.Proofs
variable {n : Nat} {ty : TypeId × Nat} {rest : List AV} {txt : List UInt8} {H : Heap} {id : Nat}
theorem L60 (args : List AV) (H : Heap) : L 60 args H = ccE Tryd.okB args H := by
 have h : F 60 = none := by kernel_rfl
 exact lim_none h args H
theorem L26 (args : List AV) (H : Heap) : L 26 args H = stE Tryd.okB 5 args H := by
 have h : F 26 = none := by kernel_rfl
 exact lim_none h args H
theorem s44 (hok : Tryd.okB ty = true) (h : HoldE ty 5 n H id rest txt) (s : List UInt8) (hb : txt.length + s.length ≤ 2 ^ 46) :
  ∃ H', L 44 [.ptr id 0 0, .im (.str s)] H = some (.tup [.im (.int .i64 s.length), .im .nili], H') ∧ HoldE ty 5 n H' id rest (txt ++ s) ∧ Keeps n id H H' := by
 obtain ⟨v, H1, hcc, hid, hG, hK, hn1⟩ := cc_holdE hok h
 obtain ⟨v', H2, hap, hG2, hcs, hco, hl2, hk2⟩ := gath_bytes hn1 hG s hb
 have hid2 := (hk2 _ _ _).1 hid
 have hH3 : HoldE ty 5 n (H2.set id (.obj (some ty) [.ptr id 0 0 :: v' :: rest])) id rest (txt ++ s) :=
  ⟨_, v', by rw [List.getElem?_set_self (List.getElem?_eq_some_iff.1 hid2).1], .inr rfl, hG2.set_obj hid2 _, by simp; omega⟩
 have hK3 : Keeps n id H (H2.set id (.obj (some ty) [.ptr id 0 0 :: v' :: rest])) :=
  (hK.trans ⟨hl2, fun i ty es _ hi => (hk2 i ty es).1 hi, fun i hi _ _ => (hk2 i none []).2 hi⟩).set _
 obtain ⟨H', hlv, hH', hK'⟩ := leave_holdE (r := .tup [.im (.int .i64 s.length), .im .nili]) (r' := .tup [.im (.int .i64 s.length), .im .nili]) rfl h hH3 hK3
 refine ⟨H', ?_, hH', hK'⟩
 rw [leq F44]
 obtain ⟨hlen, ha⟩ := enter_at (f := f44) (args := [.ptr id 0 0, .im (.str s)]) (Nat.le_of_ble_eq_true rfl)
 have h0 := ha 0 _ rfl
 have h1 := ha 1 _ rfl
 generalize enterA f44 [.ptr id 0 0, .im (.str s)] = tm at *
 change tm.length = 19 at hlen
 have hel : elems H1 1 (.im (.str s)) = some (s.map fun b => [byteDat b]) := by simp [elems]
 simp only [exec0,xreg,xops,wantedA,aopc,aop,ev,putA,gs_same,gs_ne,List.length_set,hlen,Nat.reduceLT,Nat.reduceEqDiff,not_false_eq_true,if_true,h0,h1,List.map_cons,List.map_nil,List.append_nil,f44,L60,hcc,loadAt,hid,List.getElem?_cons_zero,List.getElem?_cons_succ,Nat.zero_add,Nat.reduceAdd,hel,hap,storeAt,hid2,hcs,List.length_cons,List.length_nil,Nat.reduceLeDiff,Nat.le_refl,List.all_cons,List.all_nil,hco,Bool.and_true,and_self,setAt,List.set_cons_zero,List.set_cons_succ,endK,resA,tupA,hlv]
theorem s62 (hok : Tryd.okB ty = true) (h : HoldE ty 5 n H id rest txt) (b : UInt8) (hb : txt.length + 1 ≤ 2 ^ 46) :
  ∃ H', L 62 [.ptr id 0 0, .im (byteDat b)] H = some (.im .nili, H') ∧ HoldE ty 5 n H' id rest (txt ++ [b]) ∧ Keeps n id H H' := by
 obtain ⟨v, H1, hcc, hid, hG, hK, hn1⟩ := cc_holdE hok h
 obtain ⟨v', H2, hap, hG2, hcs, hco, hl2, hk2⟩ := gath_bytes hn1 hG [b] hb
 have hid2 := (hk2 _ _ _).1 hid
 have hH3 : HoldE ty 5 n (H2.set id (.obj (some ty) [.ptr id 0 0 :: v' :: rest])) id rest (txt ++ [b]) :=
  ⟨_, v', by rw [List.getElem?_set_self (List.getElem?_eq_some_iff.1 hid2).1], .inr rfl, hG2.set_obj hid2 _, by simp; omega⟩
 have hK3 : Keeps n id H (H2.set id (.obj (some ty) [.ptr id 0 0 :: v' :: rest])) :=
  (hK.trans ⟨hl2, fun i ty es _ hi => (hk2 i ty es).1 hi, fun i hi _ _ => (hk2 i none []).2 hi⟩).set _
 obtain ⟨H', hlv, hH', hK'⟩ := leave_holdE (r := .im .nili) (r' := .im .nili) rfl h hH3 hK3
 refine ⟨H', ?_, hH', hK'⟩
 rw [leq F62]
 obtain ⟨hlen, ha⟩ := enter_at (f := f62) (args := [.ptr id 0 0, .im (byteDat b)]) (Nat.le_of_ble_eq_true rfl)
 have h0 := ha 0 _ rfl
 have h1 := ha 1 _ rfl
 generalize enterA f62 [.ptr id 0 0, .im (byteDat b)] = tm at *
 change tm.length = 17 at hlen
 simp only [List.map_cons,List.map_nil,byteDat] at hap
 have hck : ∀ (k : IntKind) (n : Int), cellOk (.im (.int k n)) = true := fun _ _ => rfl
 have hci : ∀ (k : IntKind) (n : Int), cellsOf (.im (.int k n)) = [.im (.int k n)] := fun _ _ => rfl
 simp only [exec0,xreg,xops,wantedA,aopc,aop,ev,putA,gs_same,gs_ne,List.length_set,hlen,Nat.reduceLT,Nat.reduceEqDiff,not_false_eq_true,if_true,h0,h1,List.map_cons,List.map_nil,List.append_nil,f62,L60,hcc,loadAt,hid,List.getElem?_cons_zero,List.getElem?_cons_succ,Nat.zero_add,Nat.reduceAdd,elems,byteDat,hcs,hci,List.replicate,fillE,toDatss,toDats,toDat,hck,Bool.false_eq_true,if_false,hap,storeAt,hid2,List.length_cons,List.length_nil,Nat.reduceLeDiff,Nat.le_refl,List.all_cons,List.all_nil,hco,Bool.and_true,and_self,setAt,List.set_cons_zero,List.set_cons_succ,endK,resA,tupA,hlv]
theorem s25 (h : HoldE ty 5 n H id rest txt) : L 25 [.ptr id 0 0] H = some (.im (.int .i64 txt.length), H) := by
 obtain ⟨a0, v, h1, h2⟩ := h.len
 rw [leq F25]
 obtain ⟨hlen, ha⟩ := enter_at (f := f25) (args := [.ptr id 0 0]) (Nat.le_of_ble_eq_true rfl)
 have h0 := ha 0 _ rfl
 generalize enterA f25 [.ptr id 0 0] = tm at *
 change tm.length = 8 at hlen
 simp only [f25,B0,B1,B2,List.replicate,Nat.reduceAdd,Nat.reduceSub,Nat.reduceLeDiff,Nat.reduceLT,Nat.reduceEqDiff,reduceCtorEq,Int.reduceEq,Int.reduceLT,Int.reduceLE,endK,resA,tupA,hlen,h0,h1,h2,leave_same]
end Go.Abs.Seat
end
section
set_option linter.unusedVariables false
set_option linter.unusedSimpArgs false
namespace Go.Abs.Seat
open Go.Proofs
variable {n : Nat} {ty : TypeId × Nat} {rest : List AV}
def kgath (k : Int) : List Word → List UInt8
 | [] => []
 | w :: l => (if w.1 = k then w.2.1 else []) ++ kgath k l
theorem kgath_len (k : Int) : ∀ l : List Word, (∀ w ∈ l, w.2.1.length ≤ 8) → (kgath k l).length ≤ 8 * l.length
 | [], _ => by simp [kgath]
 | w :: l, h => by
  have h1 := kgath_len k l fun x hx => h x (by simp [hx])
  have h2 := h w (by simp)
  simp only [kgath,List.length_append,List.length_cons]
  split <;> simp <;> omega
section
variable (hty : Tryd.okB ty = true)
include hty
theorem l66w (k : Int) (x : AV) (id idt idw : Nat) (hne : idt ≠ id) (hnw : idw ≠ id) (rows : List Word) (hr : ∀ w ∈ rows, w.2.1.length ≤ 8) (hrn : rows.length ≤ 1000) :
  ∀ (m i : Nat), i + m = rows.length → ∀ (tm : List AV) (Hc : Heap) (txt : List UInt8), txt.length + 8 * m ≤ 2 ^ 46 → HoldE ty 5 n Hc id rest txt → Hc[idt]? = some (.obj none [[.im (.int .i64 k), x]]) → Hc[idw]? = some (.obj none (rows.map encW)) →
  tm.length = 46 → tm.getD 0 undefA = .ptr id 0 0 → tm.getD 3 undefA = .ptr idt 0 0 → tm.getD 8 undefA = .ms 3 idw 0 rows.length → tm.getD 9 undefA = .im (.int .i64 rows.length) → tm.getD 10 undefA = .im (.int .i64 i) →
  ∃ e tm' H', Λ c66_1 tm Hc = some (e, tm', H') ∧ tm'.length = 46 ∧ e = .exit 0 ∧ tm'.getD 0 undefA = .ptr id 0 0 ∧ tm'.getD 3 undefA = .ptr idt 0 0 ∧ HoldE ty 5 n H' id rest (txt ++ kgath k (rows.drop i)) ∧ Keeps n id Hc H'
 | 0, i, hi, tm, Hc, txt, hb, hH, ht, hw, hlen, h0, h3, h8, h9, h10 => by
  have e : rows.drop i = [] := by rw [List.drop_eq_nil_iff]; omega
  have hc : decide ((i : Int) < (rows.length : Int)) = false := decide_eq_false (by omega)
  rw [l66_1, e]
  simp only [b66_1,exec0,xreg,xops,wantedA,aopc,aop,ev,putA,endK,resA,tupA,List.length_cons,List.length_nil,List.replicate,List.cons_append,List.nil_append,List.append_nil,List.append_assoc,gs_same,gs_ne,gq_same,gq_ne,List.length_set,List.map_cons,List.map_nil,cellsOf,List.all_cons,List.all_nil,cellOk,boxTy,Bool.and_true,Bool.and_self,if_true,ite_true,ite_false,loadAt,storeAt,setAt,hget,hget0,hset,hset0,List.getElem?_cons_zero,List.getElem?_cons_succ,List.set_cons_zero,List.set_cons_succ,Nat.add_zero,Nat.zero_add,Nat.reduceAdd,Nat.reduceSub,Nat.reduceLeDiff,Nat.reduceLT,Nat.reduceEqDiff,Nat.le_refl,and_self,and_true,true_and,mkAgg,toIms,List.drop_zero,List.drop_succ_cons,List.take_succ_cons,List.take_zero,List.length_append,binA,isShift,binInt,binBool,unA,Bool.false_eq_true,if_false,partA,fillA,fillE,List.take_nil,Nat.zero_ne_one,Nat.one_ne_zero,not_false_eq_true,ne_eq,Nat.succ_ne_self,reduceCtorEq,Int.reduceEq,Int.reduceLT,Int.reduceLE,decide_true,decide_false,lenA,beq_self_eq_true,beq_true,beq_false,Bool.not_true,Bool.not_false,hlen,h0,h3,h8,h9,h10,hc]
  exact ⟨_, _, _, rfl, by simp only [List.length_set,hlen], rfl, by simp only [B3,Nat.reduceLT,Nat.reduceEqDiff,hlen,h0], by simp only [B3,Nat.reduceLT,Nat.reduceEqDiff,hlen,h3], by simpa only [kgath, List.append_nil] using hH, Keeps.refl _ _ _⟩
 | m + 1, i, hi, tm, Hc, txt, hb, hH, ht, hw, hlen, h0, h3, h8, h9, h10 => by
  have hlt : i < rows.length := by omega
  obtain ⟨w, hwi⟩ : ∃ w, rows[i]? = some w := ⟨_, List.getElem?_eq_getElem hlt⟩
  have e : rows.drop i = w :: rows.drop (i + 1) := by
   rw [List.drop_eq_getElem_cons hlt]
   congr 1
   rw [List.getElem?_eq_getElem hlt] at hwi
   exact Option.some.inj hwi
  have hc : decide ((i : Int) < (rows.length : Int)) = true := decide_eq_true (by omega)
  have hix := idx_nat hlt
  have hgw : (rows.map encW)[i]? = some (encW w) := by rw [List.getElem?_map, hwi]; rfl
  have hwl := hr w (List.mem_of_getElem? hwi)
  have hwr := wrap_nat (i := i) (by omega)
  have hta : ∀ M : Heap, (Hc ++ M)[idt]? = some (.obj none [[.im (.int .i64 k), x]]) := fun M => by rw [get_app (List.getElem?_eq_some_iff.1 ht).1]; exact ht
  have key := l66w k x id idt idw hne hnw rows hr hrn m (i + 1) (by omega)
  have hH1 := hH.more [.obj none [encW w]]
  simp only [encW] at hH1 hgw
  rw [l66_1, e]
  by_cases hk : w.1 = k
  ·have hd : decide (w.1 = k) = true := decide_eq_true hk
   obtain ⟨H2, hcall, hH2, hK2⟩ := s44 hty hH1 w.2.1 (by omega)
   have hK := hK2.down
   simp only [b66_1,exec0,xreg,xops,wantedA,aopc,aop,ev,putA,endK,resA,tupA,List.length_cons,List.length_nil,List.replicate,List.cons_append,List.nil_append,List.append_nil,List.append_assoc,gs_same,gs_ne,gq_same,gq_ne,List.length_set,List.map_cons,List.map_nil,cellsOf,List.all_cons,List.all_nil,cellOk,boxTy,Bool.and_true,Bool.and_self,if_true,ite_true,ite_false,loadAt,storeAt,setAt,hget,hget0,hset,hset0,List.getElem?_cons_zero,List.getElem?_cons_succ,List.set_cons_zero,List.set_cons_succ,Nat.add_zero,Nat.zero_add,Nat.reduceAdd,Nat.reduceSub,Nat.reduceLeDiff,Nat.reduceLT,Nat.reduceEqDiff,Nat.le_refl,and_self,and_true,true_and,mkAgg,toIms,List.drop_zero,List.drop_succ_cons,List.take_succ_cons,List.take_zero,List.length_append,binA,isShift,binInt,binBool,unA,Bool.false_eq_true,if_false,partA,fillA,fillE,List.take_nil,Nat.zero_ne_one,Nat.one_ne_zero,not_false_eq_true,ne_eq,Nat.succ_ne_self,reduceCtorEq,Int.reduceEq,Int.reduceLT,Int.reduceLE,decide_true,decide_false,lenA,beq_self_eq_true,beq_true,beq_false,Bool.not_true,Bool.not_false,hlen,h0,h3,h8,h9,h10,hc,hix,hw,hgw,hta,hd,hcall,hwr]
   refine ex_imp (key _ H2 (txt ++ w.2.1) (by simp; omega) hH2 (hK.2.1 _ _ _ hne ht) (hK.2.1 _ _ _ hnw hw) ?_ ?_ ?_ ?_ ?_ ?_) ?_
   iterate 6 simp only [B3,Nat.reduceLT,Nat.reduceEqDiff,hlen,h0,h3,h8,h9]
   rintro e tm' H' ⟨hl', he, g0, g3, gH, gK⟩
   refine ⟨hl', he, g0, g3, ?_, hK.trans gK⟩
   simp only [kgath,hk,if_true]
   rwa [List.append_assoc] at gH
  ·have hd : decide (w.1 = k) = false := decide_eq_false hk
   have hK := (Keeps.refl n id Hc).app [.obj none [[.im (.int .i64 w.1), .im (.str w.2.1), .im (.int .i64 w.2.2)]]]
   simp only [b66_1,exec0,xreg,xops,wantedA,aopc,aop,ev,putA,endK,resA,tupA,List.length_cons,List.length_nil,List.replicate,List.cons_append,List.nil_append,List.append_nil,List.append_assoc,gs_same,gs_ne,gq_same,gq_ne,List.length_set,List.map_cons,List.map_nil,cellsOf,List.all_cons,List.all_nil,cellOk,boxTy,Bool.and_true,Bool.and_self,if_true,ite_true,ite_false,loadAt,storeAt,setAt,hget,hget0,hset,hset0,List.getElem?_cons_zero,List.getElem?_cons_succ,List.set_cons_zero,List.set_cons_succ,Nat.add_zero,Nat.zero_add,Nat.reduceAdd,Nat.reduceSub,Nat.reduceLeDiff,Nat.reduceLT,Nat.reduceEqDiff,Nat.le_refl,and_self,and_true,true_and,mkAgg,toIms,List.drop_zero,List.drop_succ_cons,List.take_succ_cons,List.take_zero,List.length_append,binA,isShift,binInt,binBool,unA,Bool.false_eq_true,if_false,partA,fillA,fillE,List.take_nil,Nat.zero_ne_one,Nat.one_ne_zero,not_false_eq_true,ne_eq,Nat.succ_ne_self,reduceCtorEq,Int.reduceEq,Int.reduceLT,Int.reduceLE,decide_true,decide_false,lenA,beq_self_eq_true,beq_true,beq_false,Bool.not_true,Bool.not_false,hlen,h0,h3,h8,h9,h10,hc,hix,hw,hgw,hta,hd,hwr]
   refine ex_imp (key _ _ txt (by omega) hH1 (hK.2.1 _ _ _ hne ht) (hK.2.1 _ _ _ hnw hw) ?_ ?_ ?_ ?_ ?_ ?_) ?_
   iterate 6 simp only [B3,Nat.reduceLT,Nat.reduceEqDiff,hlen,h0,h3,h8,h9]
   rintro e tm' H' ⟨hl', he, g0, g3, gH, gK⟩
   refine ⟨hl', he, g0, g3, ?_, hK.trans gK⟩
   simp only [kgath,hk,if_false,List.nil_append]
   exact gH
end
mutual
def showT : KT → List UInt8
 | .mk k _ args => kgath k words ++ (showTs args 40 ++ if args.length = 0 then [] else [41])
def showTs : List KT → UInt8 → List UInt8
 | [], _ => []
 | a :: l, c => c :: (showT a ++ showTs l 44)
end
section
variable (hty : Tryd.okB ty = true)
include hty
theorem l66a (args : List KT) (s : Nat) (hs : args = [] ∨ s = 2) (hn : args.length ≤ 2) (id : Nat)
  (hc : ∀ a ∈ args, ∀ (H : Heap) (txt : List UInt8), txt.length + (showT a).length + 100 ≤ 2 ^ 46 → HoldE ty 5 n H id rest txt → ∃ H', L 66 [.ptr id 0 0, .im (.agg (encT a))] H = some (.tup [], H') ∧ HoldE ty 5 n H' id rest (txt ++ showT a) ∧ Keeps n id H H') :
  ∀ (m i : Nat), i + m = args.length → ∀ (tm : List AV) (Hc : Heap) (txt : List UInt8), txt.length + (showTs (args.drop i) (sepB i)).length + 100 ≤ 2 ^ 46 → HoldE ty 5 n Hc id rest txt →
  tm.length = 46 → tm.getD 0 undefA = .ptr id 0 0 → tm.getD 25 undefA = .im (.sl s (args.map encT)) → tm.getD 26 undefA = .im (.int .i64 args.length) → tm.getD 27 undefA = .im (.int .i64 i) →
  ∃ e tm' H', Λ c66_0 tm Hc = some (e, tm', H') ∧ tm'.length = 46 ∧ e = .exit 2 ∧ tm'.getD 0 undefA = .ptr id 0 0 ∧ tm'.getD 3 undefA = tm.getD 3 undefA ∧ HoldE ty 5 n H' id rest (txt ++ showTs (args.drop i) (sepB i)) ∧ Keeps n id Hc H'
 | 0, i, hi, tm, Hc, txt, hb, hH, hlen, h0, h25, h26, h27 => by
  have e : args.drop i = [] := by rw [List.drop_eq_nil_iff]; omega
  have hc : decide ((i : Int) < (args.length : Int)) = false := decide_eq_false (by omega)
  rw [l66_0, e]
  simp only [b66_0,exec0,xreg,xops,wantedA,aopc,aop,ev,putA,endK,resA,tupA,List.length_cons,List.length_nil,List.replicate,List.cons_append,List.nil_append,List.append_nil,List.append_assoc,gs_same,gs_ne,gq_same,gq_ne,List.length_set,List.map_cons,List.map_nil,cellsOf,List.all_cons,List.all_nil,cellOk,boxTy,Bool.and_true,Bool.and_self,if_true,ite_true,ite_false,loadAt,storeAt,setAt,hget,hget0,hset,hset0,List.getElem?_cons_zero,List.getElem?_cons_succ,List.set_cons_zero,List.set_cons_succ,Nat.add_zero,Nat.zero_add,Nat.reduceAdd,Nat.reduceSub,Nat.reduceLeDiff,Nat.reduceLT,Nat.reduceEqDiff,Nat.le_refl,and_self,and_true,true_and,mkAgg,toIms,List.drop_zero,List.drop_succ_cons,List.take_succ_cons,List.take_zero,List.length_append,binA,isShift,binInt,binBool,unA,Bool.false_eq_true,if_false,partA,fillA,fillE,List.take_nil,Nat.zero_ne_one,Nat.one_ne_zero,not_false_eq_true,ne_eq,Nat.succ_ne_self,reduceCtorEq,Int.reduceEq,Int.reduceLT,Int.reduceLE,decide_true,decide_false,lenA,beq_self_eq_true,beq_true,beq_false,Bool.not_true,Bool.not_false,hlen,h0,h25,h26,h27,hc]
  exact ⟨_, _, _, rfl, by simp only [List.length_set,hlen], rfl, by simp only [B3,Nat.reduceLT,Nat.reduceEqDiff,hlen,h0], by simp only [B3,Nat.reduceLT,Nat.reduceEqDiff,hlen], by simpa only [showTs, List.append_nil] using hH, Keeps.refl _ _ _⟩
 | m + 1, i, hi, tm, Hc, txt, hb, hH, hlen, h0, h25, h26, h27 => by
  have hlt : i < args.length := by omega
  obtain ⟨w, hwi⟩ : ∃ w, args[i]? = some w := ⟨_, List.getElem?_eq_getElem hlt⟩
  have e : args.drop i = w :: args.drop (i + 1) := by
   rw [List.drop_eq_getElem_cons hlt]
   congr 1
   rw [List.getElem?_eq_getElem hlt] at hwi
   exact Option.some.inj hwi
  have hs2 : s = 2 := by
   rcases hs with hs | hs
   ·subst hs; simp at hlt
   ·exact hs
  subst hs2
  have hc' : decide ((i : Int) < (args.length : Int)) = true := decide_eq_true (by omega)
  have hix := idx_nat (n := (args.map encT).length) (i := i) (by simpa using hlt)
  have hix2 := idx_nat (n := 2) (i := i) (by omega)
  have hgw : (args.map encT)[i]? = some (encT w) := by rw [List.getElem?_map, hwi]; rfl
  have hwr := wrap_nat (i := i) (by omega)
  have key := l66a args 2 hs hn id hc m (i + 1) (by omega)
  rw [e] at hb
  simp only [showTs,List.length_cons,List.length_append] at hb
  have hsb : sepB (i + 1) = 44 := by simp [sepB]
  have hsep : ([40, 44] : List UInt8)[i]? = some (sepB i) := by
   have : i = 0 ∨ i = 1 := by omega
   rcases this with rfl | rfl <;> rfl
  have hH1 := hH.more [.obj none [(encT w).map .im]]
  obtain ⟨H2, hcall2, hH2, hK2⟩ := s62 hty hH1 (sepB i) (by omega)
  obtain ⟨H3, hcall3, hH3, hK3⟩ := hc w (List.mem_of_getElem? hwi) H2 (txt ++ [sepB i]) (by simp; omega) hH2
  have hloc := hK2.2.1 Hc.length none [(encT w).map .im]
  have hidlt : id < Hc.length := by obtain ⟨_, _, h, _⟩ := hH; exact (List.getElem?_eq_some_iff.1 h).1
  have hloc := hloc (by omega) (by rw [Go.Abs.hget0]; rfl)
  have hK := hK2.down.trans hK3
  rw [l66_0, e]
  generalize hsw : showT w = sw at *
  generalize hsbi : sepB i = c at *
  obtain ⟨k, s', ts⟩ := w
  simp only [encT,List.map_cons,List.map_nil,byteDat] at hcall2 hcall3 hgw hloc
  have hnn : (0 : Int) ≤ (i : Int) := Int.natCast_nonneg i
  simp only [b66_0,exec0,xreg,xops,wantedA,aopc,aop,ev,putA,endK,resA,tupA,List.length_cons,List.length_nil,List.replicate,List.cons_append,List.nil_append,List.append_nil,List.append_assoc,gs_same,gs_ne,gq_same,gq_ne,List.length_set,List.map_cons,List.map_nil,cellsOf,List.all_cons,List.all_nil,cellOk,boxTy,Bool.and_true,Bool.and_self,if_true,ite_true,ite_false,loadAt,storeAt,setAt,hget,hget0,hset,hset0,List.getElem?_cons_zero,List.getElem?_cons_succ,List.set_cons_zero,List.set_cons_succ,Nat.add_zero,Nat.zero_add,Nat.reduceAdd,Nat.reduceSub,Nat.reduceLeDiff,Nat.reduceLT,Nat.reduceEqDiff,Nat.le_refl,and_self,and_true,true_and,mkAgg,toIms,List.drop_zero,List.drop_succ_cons,List.take_succ_cons,List.take_zero,List.length_append,binA,isShift,binInt,binBool,unA,Bool.false_eq_true,if_false,partA,fillA,fillE,List.take_nil,Nat.zero_ne_one,Nat.one_ne_zero,not_false_eq_true,ne_eq,Nat.succ_ne_self,reduceCtorEq,Int.reduceEq,Int.reduceLT,Int.reduceLE,decide_true,decide_false,lenA,beq_self_eq_true,beq_true,beq_false,Bool.not_true,Bool.not_false,intOfA,hnn,Int.toNat_natCast,hlen,h0,h25,h26,h27,hc',hix,hix2,hgw,hwr,hsep,hcall2,hloc,hcall3,byteDat]
  refine ex_imp (key _ H3 (txt ++ [c] ++ sw) (by rw [hsb]; simp; omega) hH3 ?_ ?_ ?_ ?_ ?_) ?_
  iterate 5 simp only [B3,Nat.reduceLT,Nat.reduceEqDiff,hlen,h0,h25,h26]
  rintro e tm' H' ⟨hl', he, g0, g3, gH, gK⟩
  refine ⟨hl', he, g0, ?_, ?_, hK.trans gK⟩
  ·rw [g3]; simp only [B3,Nat.reduceLT,Nat.reduceEqDiff,hlen]
  ·rw [hsb] at gH
   simp only [showTs,hsw]
   simpa only [List.append_assoc, List.cons_append, List.nil_append] using gH
theorem s66 : ∀ (t : KT), okT t → narrow t → ∀ (id : Nat) (H : Heap) (txt : List UInt8), txt.length + (showT t).length + 100 ≤ 2 ^ 46 → HoldE ty 5 n H id rest txt →
  ∃ H', L 66 [.ptr id 0 0, .im (.agg (encT t))] H = some (.tup [], H') ∧ HoldE ty 5 n H' id rest (txt ++ showT t) ∧ Keeps n id H H'
 | .mk k s args, hok, hnw, id, H, txt, hb, hH => by
  simp only [okT] at hok
  obtain ⟨hs, _, hoks⟩ := hok
  simp only [narrow] at hnw
  obtain ⟨hn, hnws⟩ := hnw
  have hc : ∀ a ∈ args, ∀ (H : Heap) (txt : List UInt8), txt.length + (showT a).length + 100 ≤ 2 ^ 46 → HoldE ty 5 n H id rest txt → ∃ H', L 66 [.ptr id 0 0, .im (.agg (encT a))] H = some (.tup [], H') ∧ HoldE ty 5 n H' id rest (txt ++ showT a) ∧ Keeps n id H H' :=
   fun a ha H txt hb hH => s66 a (okTs_mem hoks a ha) (narrows_mem hnws a ha) id H txt hb hH
  have hidlt : id < H.length := by obtain ⟨_, _, h, _⟩ := hH; exact (List.getElem?_eq_some_iff.1 h).1
  simp only [showT,List.length_append] at hb
  have hgl := kgath_len k words word_len
  have hw8 : words.length = 8 := rfl
  have hH1 := hH.more [.obj none [[.im (.int .i64 k), .im (.sl s (encTs args))]], .obj none (words.map encW)]
  have keyw := l66w (n := n) (rest := rest) hty k (.im (.sl s (encTs args))) id H.length (H.length + 1) (by omega) (by omega) words word_len (by decide) 8 0 (by decide)
  have z : ((0 : Nat) : Int) = 0 := rfl
  have z8 : ((8 : Nat) : Int) = 8 := rfl
  simp only [z,hw8,List.drop_zero,z8] at keyw
  have hel : (encTs args).length = args.length := by rw [encTs_map]; simp
  have keya := l66a hty args s hs hn id hc args.length 0 (by omega)
  simp only [z,List.drop_zero] at keya
  have hsep0 : sepB 0 = 40 := rfl
  rw [hsep0] at keya
  simp only [encT]
  have fin : ∀ (H2 : Heap), HoldE ty 5 n H2 id rest (txt ++ showT (.mk k s args)) → Keeps n id H H2 → ∃ H', leave H false (.tup []) H2 = (.tup [], H') ∧ HoldE ty 5 n H' id rest (txt ++ showT (.mk k s args)) ∧ Keeps n id H H' :=
   fun H2 h1 h2 => leave_holdE rfl hH h1 h2
  suffices hsuf : ∃ H2, HoldE ty 5 n H2 id rest (txt ++ showT (.mk k s args)) ∧ Keeps n id H H2 ∧ L 66 [.ptr id 0 0, .im (.agg [.int .i64 k, .sl s (encTs args)])] H = some (leave H false (.tup []) H2) by
   obtain ⟨H2, h1, h2, h3⟩ := hsuf
   obtain ⟨H', e1, e2, e3⟩ := fin H2 h1 h2
   exact ⟨H', by rw [h3, e1], e2, e3⟩
  rw [leq F66]
  obtain ⟨hlen, ha⟩ := enter_at (f := f66) (args := [.ptr id 0 0, .im (.agg [.int .i64 k, .sl s (encTs args)])]) (Nat.le_of_ble_eq_true rfl)
  have h0 := ha 0 _ rfl
  have h1 := ha 1 _ rfl
  generalize enterA f66 [.ptr id 0 0, .im (.agg [.int .i64 k, .sl s (encTs args)])] = tm at *
  change tm.length = 46 at hlen
  simp only [f66,e66_0,e66_1,exec0,xreg,xops,wantedA,aopc,aop,ev,putA,endK,resA,tupA,List.length_cons,List.length_nil,List.replicate,List.cons_append,List.nil_append,List.append_nil,List.append_assoc,gs_same,gs_ne,gq_same,gq_ne,List.length_set,List.map_cons,List.map_nil,cellsOf,List.all_cons,List.all_nil,cellOk,boxTy,Bool.and_true,Bool.and_self,if_true,ite_true,ite_false,loadAt,storeAt,setAt,hget,hget0,hset,hset0,List.getElem?_cons_zero,List.getElem?_cons_succ,List.set_cons_zero,List.set_cons_succ,Nat.add_zero,Nat.zero_add,Nat.reduceAdd,Nat.reduceSub,Nat.reduceLeDiff,Nat.reduceLT,Nat.reduceEqDiff,Nat.le_refl,and_self,and_true,true_and,mkAgg,toIms,List.drop_zero,List.drop_succ_cons,List.take_succ_cons,List.take_zero,List.length_append,binA,isShift,binInt,binBool,unA,Bool.false_eq_true,if_false,partA,fillA,fillE,List.take_nil,Nat.zero_ne_one,Nat.one_ne_zero,not_false_eq_true,ne_eq,Nat.succ_ne_self,reduceCtorEq,Int.reduceEq,Int.reduceLT,Int.reduceLE,decide_true,decide_false,lenA,beq_self_eq_true,beq_true,beq_false,Bool.not_true,Bool.not_false,hlen,h0,h1,s76]
  refine thenL_ex (fun r => ∃ H2, HoldE ty 5 n H2 id rest (txt ++ showT (.mk k s args)) ∧ Keeps n id H H2 ∧ r = some (leave H false (.tup []) H2)) (keyw _ _ txt (by omega) hH1 (by rw [Go.Abs.hget0]; rfl) (by rw [Go.Abs.hget]; rfl) ?_ ?_ ?_ ?_ ?_ ?_) ?_
  iterate 6 simp only [B3,Nat.reduceLT,Nat.reduceEqDiff,hlen,h0,z8]
  rintro e tm1 H1 ⟨hl1, rfl, a0, a3, aH, aK⟩
  have hob1 : H1[H.length]? = some (.obj none [[.im (.int .i64 k), .im (.sl s (encTs args))]]) := aK.2.1 _ _ _ (by omega) (by rw [Go.Abs.hget0]; rfl)
  simp only [exec0,xreg,xops,wantedA,aopc,aop,ev,putA,endK,resA,tupA,List.length_cons,List.length_nil,List.replicate,List.cons_append,List.nil_append,List.append_nil,List.append_assoc,gs_same,gs_ne,gq_same,gq_ne,List.length_set,List.map_cons,List.map_nil,cellsOf,List.all_cons,List.all_nil,cellOk,boxTy,Bool.and_true,Bool.and_self,if_true,ite_true,ite_false,loadAt,storeAt,setAt,hget,hget0,hset,hset0,List.getElem?_cons_zero,List.getElem?_cons_succ,List.set_cons_zero,List.set_cons_succ,Nat.add_zero,Nat.zero_add,Nat.reduceAdd,Nat.reduceSub,Nat.reduceLeDiff,Nat.reduceLT,Nat.reduceEqDiff,Nat.le_refl,and_self,and_true,true_and,mkAgg,toIms,List.drop_zero,List.drop_succ_cons,List.take_succ_cons,List.take_zero,List.length_append,binA,isShift,binInt,binBool,unA,Bool.false_eq_true,if_false,partA,fillA,fillE,List.take_nil,Nat.zero_ne_one,Nat.one_ne_zero,not_false_eq_true,ne_eq,Nat.succ_ne_self,reduceCtorEq,Int.reduceEq,Int.reduceLT,Int.reduceLE,decide_true,decide_false,lenA,beq_self_eq_true,beq_true,beq_false,Bool.not_true,Bool.not_false,hl1,a0,a3,hob1,hel]
  refine thenL_ex (fun r => ∃ H2, HoldE ty 5 n H2 id rest (txt ++ showT (.mk k s args)) ∧ Keeps n id H H2 ∧ r = some (leave H false (.tup []) H2)) (keya _ _ (txt ++ kgath k words) (by simp; omega) aH ?_ ?_ ?_ ?_ ?_) ?_
  iterate 5 simp only [B3,Nat.reduceLT,Nat.reduceEqDiff,hl1,a0,encTs_map]
  rintro e tm2 H2 ⟨hl2, rfl, b0, b3, bH, bK⟩
  have hob2 : H2[H.length]? = some (.obj none [[.im (.int .i64 k), .im (.sl s (encTs args))]]) := bK.2.1 _ _ _ (by omega) hob1
  have b3' : tm2.getD 3 undefA = .ptr H.length 0 0 := by rw [b3]; simp only [B3,Nat.reduceLT,Nat.reduceEqDiff,hl1,a3]
  have hK2 : Keeps n id H H2 := aK.down.trans bK
  by_cases h0 : args.length = 0
  ·have hd : decide ((0 : Int) < (args.length : Int)) = false := decide_eq_false (by omega)
   simp only [exec0,xreg,xops,wantedA,aopc,aop,ev,putA,endK,resA,tupA,List.length_cons,List.length_nil,List.replicate,List.cons_append,List.nil_append,List.append_nil,List.append_assoc,gs_same,gs_ne,gq_same,gq_ne,List.length_set,List.map_cons,List.map_nil,cellsOf,List.all_cons,List.all_nil,cellOk,boxTy,Bool.and_true,Bool.and_self,if_true,ite_true,ite_false,loadAt,storeAt,setAt,hget,hget0,hset,hset0,List.getElem?_cons_zero,List.getElem?_cons_succ,List.set_cons_zero,List.set_cons_succ,Nat.add_zero,Nat.zero_add,Nat.reduceAdd,Nat.reduceSub,Nat.reduceLeDiff,Nat.reduceLT,Nat.reduceEqDiff,Nat.le_refl,and_self,and_true,true_and,mkAgg,toIms,List.drop_zero,List.drop_succ_cons,List.take_succ_cons,List.take_zero,List.length_append,binA,isShift,binInt,binBool,unA,Bool.false_eq_true,if_false,partA,fillA,fillE,List.take_nil,Nat.zero_ne_one,Nat.one_ne_zero,not_false_eq_true,ne_eq,Nat.succ_ne_self,reduceCtorEq,Int.reduceEq,Int.reduceLT,Int.reduceLE,decide_true,decide_false,lenA,beq_self_eq_true,beq_true,beq_false,Bool.not_true,Bool.not_false,hl2,b0,b3',hob2,hel,hd]
   refine ⟨H2, ?_, hK2, rfl⟩
   simp only [showT,if_pos h0,List.append_nil]
   rwa [List.append_assoc] at bH
  ·have hd : decide ((0 : Int) < (args.length : Int)) = true := decide_eq_true (by omega)
   obtain ⟨H3, hc3, cH, cK⟩ := s62 hty bH 41 (by simp only [List.length_append]; rw [if_neg h0] at hb; simp at hb; omega)
   simp only [byteDat,show (((41 : UInt8).toNat : Nat) : Int) = 41 from rfl] at hc3
   simp only [exec0,xreg,xops,wantedA,aopc,aop,ev,putA,endK,resA,tupA,List.length_cons,List.length_nil,List.replicate,List.cons_append,List.nil_append,List.append_nil,List.append_assoc,gs_same,gs_ne,gq_same,gq_ne,List.length_set,List.map_cons,List.map_nil,cellsOf,List.all_cons,List.all_nil,cellOk,boxTy,Bool.and_true,Bool.and_self,if_true,ite_true,ite_false,loadAt,storeAt,setAt,hget,hget0,hset,hset0,List.getElem?_cons_zero,List.getElem?_cons_succ,List.set_cons_zero,List.set_cons_succ,Nat.add_zero,Nat.zero_add,Nat.reduceAdd,Nat.reduceSub,Nat.reduceLeDiff,Nat.reduceLT,Nat.reduceEqDiff,Nat.le_refl,and_self,and_true,true_and,mkAgg,toIms,List.drop_zero,List.drop_succ_cons,List.take_succ_cons,List.take_zero,List.length_append,binA,isShift,binInt,binBool,unA,Bool.false_eq_true,if_false,partA,fillA,fillE,List.take_nil,Nat.zero_ne_one,Nat.one_ne_zero,not_false_eq_true,ne_eq,Nat.succ_ne_self,reduceCtorEq,Int.reduceEq,Int.reduceLT,Int.reduceLE,decide_true,decide_false,lenA,beq_self_eq_true,beq_true,beq_false,Bool.not_true,Bool.not_false,hl2,b0,b3',hob2,hel,hd,hc3]
   refine ⟨H3, ?_, hK2.trans cK, rfl⟩
   simp only [showT,if_neg h0]
   simpa only [List.append_assoc] using cH
termination_by t => SizeOf.sizeOf t
decreasing_by
 have := List.sizeOf_lt_of_mem ha
 simp only [KT.mk.sizeOf_spec]
 omega
end
end Go.Abs.Seat
end
section
set_option linter.unusedVariables false
set_option linter.unusedSimpArgs false
namespace Go.Abs.Seat
open Go.Proofs
theorem kcnt_le : ∀ i, i < 8 → kcnt i ≤ 2 := by decide
mutual
theorem right_narrow : ∀ (t : KT) (d : Int), rightT t d = true → narrow t
 | .mk k s args, d, h => by
  simp only [rightT] at h
  split at h
  ·rename_i i hi
   split at h
   ·simp at h
   ·split at h
    ·rename_i hl
     have := kcnt_le i (kidx_lt hi).1
     simp only [narrow]
     exact ⟨by omega, right_narrows args (d - 1) (by simpa using h)⟩
    ·simp at h
  ·simp at h
theorem right_narrows : ∀ (l : List KT) (d : Int), rightNot l d = false → narrows l
 | [], d, h => by simp only [narrows]
 | a :: l, d, h => by
  simp only [rightNot,Bool.or_eq_false_iff,Bool.not_eq_false'] at h
  simp only [narrows]
  exact ⟨right_narrow a d h.1, right_narrows l d h.2⟩
end
theorem bytesE_of : ∀ l : List UInt8, bytesE (l.map fun b => [byteDat b]) = some l
 | [] => rfl
 | b :: l => by
  have h := bytesE_of l
  simp only [List.map_cons,byteDat,bytesE]
  simp only [byteDat] at h
  rw [h]
  have hb := b.toNat_lt
  simp only
  rw [if_pos ⟨by omega, by omega⟩]
  simp
mutual
theorem show_len : ∀ (t : KT) (d : Nat), rightT t d = true → (showT t).length ≤ 100 * 4 ^ d
 | .mk k s args, d, h => by
  have hg := kgath_len k words word_len
  have hw8 : words.length = 8 := rfl
  simp only [rightT] at h
  split at h
  ·rename_i i hi
   split at h
   ·simp at h
   ·rename_i hd
    obtain ⟨d, rfl⟩ : ∃ d', d = d' + 1 := ⟨d - 1, by omega⟩
    split at h
    ·rename_i hl
     have h2 := kcnt_le i (kidx_lt hi).1
     have := show_lens args d 40 (by simpa using h)
     have hp : 0 < 4 ^ d := Nat.pos_of_ne_zero (by simp)
     have hm : args.length * (1 + 100 * 4 ^ d) ≤ 2 * (1 + 100 * 4 ^ d) := Nat.mul_le_mul_right _ (by omega)
     have he : 4 ^ (d + 1) = 4 * 4 ^ d := by rw [Nat.pow_succ]; omega
     simp only [showT,List.length_append]
     split <;> simp <;> omega
    ·simp at h
  ·simp at h
theorem show_lens : ∀ (l : List KT) (d : Nat) (c : UInt8), rightNot l d = false → (showTs l c).length ≤ l.length * (1 + 100 * 4 ^ d)
 | [], d, c, h => by simp [showTs]
 | a :: l, d, c, h => by
  simp only [rightNot,Bool.or_eq_false_iff,Bool.not_eq_false'] at h
  have h1 := show_len a d h.1
  have h2 := show_lens l d 44 h.2
  simp only [showTs,List.length_cons,List.length_append,Nat.add_mul]
  omega
end
theorem show_ne : ∀ (t : KT) (d : Int), rightT t d = true → showT t ≠ []
 | .mk k s args, d, h => by
  simp only [rightT] at h
  split at h
  ·rename_i i hi
   simp only [showT]
   intro e
   have e2 := (List.append_eq_nil_iff.1 e).1
   have hi' := hi
   unfold kidx at hi'
   obtain ⟨h1, h2, _⟩ := List.findIdx?_eq_some_iff_getElem.1 hi'
   have key : ∀ w ∈ words, kgath w.1 words ≠ [] := by decide
   have := key words[i] (List.getElem_mem h1)
   rw [of_decide_eq_true h2] at this
   exact this e2
  ·simp at h
def checkT (t : KT) : Int := if rightT t 6 = true then 0 else 20
theorem s65 (t : KT) (hok : okT t) (H : Heap) : L 65 [.im (.agg (encT t))] H = some (.im (.int .i64 (checkT t)), H) := by
 have h51 := fun H => s75 t hok 6 (by decide) (by decide) H
 obtain ⟨k, s, ts⟩ := t
 simp only [encT] at h51 ⊢
 rw [leq F65]
 obtain ⟨hlen, ha⟩ := enter_at (f := f65) (args := [.im (.agg [.int .i64 k, .sl s (encTs ts)])]) (Nat.le_of_ble_eq_true rfl)
 have h0 := ha 0 _ rfl
 generalize enterA f65 [.im (.agg [.int .i64 k, .sl s (encTs ts)])] = tm at *
 change tm.length = 6 at hlen
 unfold checkT
 cases hr : rightT (.mk k s ts) 6 with
 | true =>
  simp only [hr] at h51
  simp only [f65,exec0,xreg,xops,wantedA,aopc,aop,ev,putA,endK,resA,tupA,List.length_cons,List.length_nil,List.replicate,List.cons_append,List.nil_append,List.append_nil,List.append_assoc,gs_same,gs_ne,gq_same,gq_ne,List.length_set,List.map_cons,List.map_nil,cellsOf,List.all_cons,List.all_nil,cellOk,boxTy,Bool.and_true,Bool.and_self,if_true,ite_true,ite_false,loadAt,storeAt,setAt,hget,hget0,hset,hset0,List.getElem?_cons_zero,List.getElem?_cons_succ,List.set_cons_zero,List.set_cons_succ,Nat.add_zero,Nat.zero_add,Nat.reduceAdd,Nat.reduceSub,Nat.reduceLeDiff,Nat.reduceLT,Nat.reduceEqDiff,Nat.le_refl,and_self,and_true,true_and,mkAgg,toIms,List.drop_zero,List.drop_succ_cons,List.take_succ_cons,List.take_zero,List.length_append,binA,isShift,binInt,binBool,unA,Bool.false_eq_true,if_false,partA,fillA,fillE,List.take_nil,Nat.zero_ne_one,Nat.one_ne_zero,not_false_eq_true,ne_eq,Nat.succ_ne_self,reduceCtorEq,Int.reduceEq,Int.reduceLT,Int.reduceLE,decide_true,decide_false,lenA,beq_self_eq_true,beq_true,beq_false,Bool.not_true,Bool.not_false,hlen,h0,h51,leave_app]
 | false =>
  simp only [hr] at h51
  simp only [f65,exec0,xreg,xops,wantedA,aopc,aop,ev,putA,endK,resA,tupA,List.length_cons,List.length_nil,List.replicate,List.cons_append,List.nil_append,List.append_nil,List.append_assoc,gs_same,gs_ne,gq_same,gq_ne,List.length_set,List.map_cons,List.map_nil,cellsOf,List.all_cons,List.all_nil,cellOk,boxTy,Bool.and_true,Bool.and_self,if_true,ite_true,ite_false,loadAt,storeAt,setAt,hget,hget0,hset,hset0,List.getElem?_cons_zero,List.getElem?_cons_succ,List.set_cons_zero,List.set_cons_succ,Nat.add_zero,Nat.zero_add,Nat.reduceAdd,Nat.reduceSub,Nat.reduceLeDiff,Nat.reduceLT,Nat.reduceEqDiff,Nat.le_refl,and_self,and_true,true_and,mkAgg,toIms,List.drop_zero,List.drop_succ_cons,List.take_succ_cons,List.take_zero,List.length_append,binA,isShift,binInt,binBool,unA,Bool.false_eq_true,if_false,partA,fillA,fillE,List.take_nil,Nat.zero_ne_one,Nat.one_ne_zero,not_false_eq_true,ne_eq,Nat.succ_ne_self,reduceCtorEq,Int.reduceEq,Int.reduceLT,Int.reduceLE,decide_true,decide_false,lenA,beq_self_eq_true,beq_true,beq_false,Bool.not_true,Bool.not_false,hlen,h0,h51,leave_app]
theorem s48 (t : KT) (hok : okT t) (H : Heap) : L 48 [.im (.agg (encT t))] H = some (.tup [.im (.str (if rightT t 6 = true then showT t else [])), .im (.int .i64 (checkT t))], H) := by
 have h19 := fun H => s65 t hok H
 unfold checkT at h19 ⊢
 rcases Bool.eq_false_or_eq_true (rightT t 6) with hr | hr
 ·simp only [hr,if_true] at h19 ⊢
  have hlen := show_len t 6 hr
  have hne := show_ne t 6 hr
  have h48 := s66 (n := H.length + 2) (ty := (64, 2)) (rest := []) (by decide) t hok (right_narrow t 6 hr) (H.length + 1) (H ++ [.obj none [(encT t).map .im], .obj (some (64, 2)) [[.im .nilp, .nils]]]) []
   (by simp; omega) ⟨.im .nilp, .nils, by rw [Go.Abs.hget]; rfl, .inl rfl, .inl ⟨rfl, rfl⟩, by simp⟩
  obtain ⟨H2, hc, ⟨a0, v, hid, _, hG, _⟩, hK⟩ := h48
  rw [List.nil_append] at hG
  rcases hG with ⟨hes, _⟩ | ⟨_, tok, htok, rfl, hhw⟩
  ·exact absurd (by simpa using hes) hne
  ·have h49 : L 26 [.ptr (H.length + 1) 0 0] H2 = some (.im (.str (showT t)), H2.set tok (.hw 5 ((showT t).length + 1))) := by
    rw [L26]
    simp only [stE,hid,hhw,bytesE_of]
    rw [if_pos ⟨by decide, trivial, by simp, trivial, List.length_pos_iff.2 hne, by omega⟩]
    simp
   have hheld : heldIn H (H2.set tok (.hw 5 ((showT t).length + 1))) := fun i hi => by
    left
    rw [List.getElem?_set_ne (by omega), hK.2.2 i (by omega) (by simp; omega) (by omega), List.getElem?_append_left hi]
   have htake : (H2.set tok (.hw 5 ((showT t).length + 1))).take H.length = H := by
    apply List.ext_getElem?
    intro i
    rw [List.getElem?_take]
    split
    ·rename_i hi
     rcases hheld i hi with h | ⟨o, h, _⟩
     ·exact h
     ·rw [List.getElem?_set_ne (by omega), hK.2.2 i (by omega) (by simp; omega) (by omega), List.getElem?_append_left hi]
    ·rename_i hi
     rw [List.getElem?_eq_none (by omega)]
   have hlv : leave H false (.tup [.im (.str (showT t)), .im (.int .i64 0)]) (H2.set tok (.hw 5 ((showT t).length + 1))) = (.tup [.im (.str (showT t)), .im (.int .i64 0)], H) := by
    unfold leave
    have e : (if (false : Bool) = true then AV.tup [.im (.str (showT t)), .im (.int .i64 0)] else degrade (.tup [.im (.str (showT t)), .im (.int .i64 0)])) = .tup [.im (.str (showT t)), .im (.int .i64 0)] := by simp [degrade, degrade1, toDat]
    rw [e, if_pos ⟨by simp only [refsLt,refsLts,Bool.and_self], hheld⟩, htake]
   generalize showT t = txt at *
   obtain ⟨k, s, ts⟩ := t
   simp only [encT,List.map_cons,List.map_nil] at h19 hc ⊢
   rw [leq F48]
   obtain ⟨hln, ha⟩ := enter_at (f := f48) (args := [.im (.agg [.int .i64 k, .sl s (encTs ts)])]) (Nat.le_of_ble_eq_true rfl)
   have h0 := ha 0 _ rfl
   generalize enterA f48 [.im (.agg [.int .i64 k, .sl s (encTs ts)])] = tm at *
   change tm.length = 18 at hln
   simp only [f48,exec0,xreg,xops,wantedA,aopc,aop,ev,putA,endK,resA,tupA,List.length_cons,List.length_nil,List.replicate,List.cons_append,List.nil_append,List.append_nil,List.append_assoc,gs_same,gs_ne,gq_same,gq_ne,List.length_set,List.map_cons,List.map_nil,cellsOf,List.all_cons,List.all_nil,cellOk,boxTy,Bool.and_true,Bool.and_self,if_true,ite_true,ite_false,loadAt,storeAt,setAt,hget,hget0,hset,hset0,List.getElem?_cons_zero,List.getElem?_cons_succ,List.set_cons_zero,List.set_cons_succ,Nat.add_zero,Nat.zero_add,Nat.reduceAdd,Nat.reduceSub,Nat.reduceLeDiff,Nat.reduceLT,Nat.reduceEqDiff,Nat.le_refl,and_self,and_true,true_and,mkAgg,toIms,List.drop_zero,List.drop_succ_cons,List.take_succ_cons,List.take_zero,List.length_append,binA,isShift,binInt,binBool,unA,Bool.false_eq_true,if_false,partA,fillA,fillE,List.take_nil,Nat.zero_ne_one,Nat.one_ne_zero,not_false_eq_true,ne_eq,Nat.succ_ne_self,reduceCtorEq,Int.reduceEq,Int.reduceLT,Int.reduceLE,decide_true,decide_false,lenA,beq_self_eq_true,beq_true,beq_false,Bool.not_true,Bool.not_false,hln,h0,h19,hc,h49,hlv]
 ·simp only [hr,Bool.false_eq_true,if_false] at h19 ⊢
  obtain ⟨k, s, ts⟩ := t
  simp only [encT] at h19 ⊢
  rw [leq F48]
  obtain ⟨hln, ha⟩ := enter_at (f := f48) (args := [.im (.agg [.int .i64 k, .sl s (encTs ts)])]) (Nat.le_of_ble_eq_true rfl)
  have h0 := ha 0 _ rfl
  generalize enterA f48 [.im (.agg [.int .i64 k, .sl s (encTs ts)])] = tm at *
  change tm.length = 18 at hln
  simp only [f48,exec0,xreg,xops,wantedA,aopc,aop,ev,putA,endK,resA,tupA,List.length_cons,List.length_nil,List.replicate,List.cons_append,List.nil_append,List.append_nil,List.append_assoc,gs_same,gs_ne,gq_same,gq_ne,List.length_set,List.map_cons,List.map_nil,cellsOf,List.all_cons,List.all_nil,cellOk,boxTy,Bool.and_true,Bool.and_self,if_true,ite_true,ite_false,loadAt,storeAt,setAt,hget,hget0,hset,hset0,List.getElem?_cons_zero,List.getElem?_cons_succ,List.set_cons_zero,List.set_cons_succ,Nat.add_zero,Nat.zero_add,Nat.reduceAdd,Nat.reduceSub,Nat.reduceLeDiff,Nat.reduceLT,Nat.reduceEqDiff,Nat.le_refl,and_self,and_true,true_and,mkAgg,toIms,List.drop_zero,List.drop_succ_cons,List.take_succ_cons,List.take_zero,List.length_append,binA,isShift,binInt,binBool,unA,Bool.false_eq_true,if_false,partA,fillA,fillE,List.take_nil,Nat.zero_ne_one,Nat.one_ne_zero,not_false_eq_true,ne_eq,Nat.succ_ne_self,reduceCtorEq,Int.reduceEq,Int.reduceLT,Int.reduceLE,decide_true,decide_false,lenA,beq_self_eq_true,beq_true,beq_false,Bool.not_true,Bool.not_false,hln,h0,h19,leave_tup2]
end Go.Abs.Seat
end
section
set_option linter.unusedVariables false
set_option linter.unusedSimpArgs false
namespace Go.Abs.Seat
open Go.Proofs
structure Nm (s : List UInt8) : Prop where
 ne : s ≠ []
 len : s.length ≤ 16
 hd : ∀ a, s[0]? = some a → letZ (a.toNat : Int) = true
 all : ∀ (i : Nat) a, s[i]? = some a → namZ (a.toNat : Int) = true
theorem s64 (n : Int) (H : Heap) : L 64 [.im (.int .u8 n)] H = some (.im (.bool (!namZ n)), H) := by
 have c1 := fun H => s34 n H
 rw [leq F64]
 obtain ⟨hlen, ha⟩ := enter_at (f := f64) (args := [.im (.int .u8 n)]) (Nat.le_of_ble_eq_true rfl)
 have h0 := ha 0 _ rfl
 generalize enterA f64 [.im (.int .u8 n)] = tm at *
 change tm.length = 6 at hlen
 simp only [f64,B0,B1,B2,List.replicate,Nat.reduceAdd,Nat.reduceSub,Nat.reduceLeDiff,Nat.reduceLT,Nat.reduceEqDiff,reduceCtorEq,Int.reduceEq,Int.reduceLT,Int.reduceLE,lenA,endK,resA,tupA,hlen,h0,c1,leave_same]
theorem l74 (s : List UInt8) (hn : s.length ≤ 1000) (hal : ∀ (i : Nat) a, s[i]? = some a → namZ (a.toNat : Int) = true) (H : Heap) :
  ∀ (m i : Nat) (tm : List AV), i + m = s.length → tm.length = 19 → tm.getD 0 undefA = .im (.sl 1 (s.map fun c => [byteDat c])) → tm.getD 1 undefA = .clo 64 [] → tm.getD 7 undefA = .im (.int .i64 (s.length : Int)) → tm.getD 8 undefA = .im (.int .i64 (i : Int)) →
  ∃ e tm' H', Λ c74_0 tm H = some (e, tm', H') ∧ (e = .exit 0 ∧ tm'.length = 19 ∧ H' = H)
 | 0, i, tm, hi, hlen, h0, h1, h7, h8 => by
  have hc : decide ((i : Int) < (s.length : Int)) = false := decide_eq_false (by omega)
  rw [l74_0]
  simp only [b74_0,B0,B1,B2,List.replicate,Nat.reduceAdd,Nat.reduceSub,Nat.reduceLeDiff,Nat.reduceLT,Nat.reduceEqDiff,reduceCtorEq,Int.reduceEq,Int.reduceLT,Int.reduceLE,lenA,hlen,h7,h8,hc]
  exact ⟨_, _, _, rfl, rfl, by simp only [List.length_set,hlen], rfl⟩
 | m + 1, i, tm, hi, hlen, h0, h1, h7, h8 => by
  have hlt : i < s.length := by omega
  have hc : decide ((i : Int) < (s.length : Int)) = true := decide_eq_true (by omega)
  obtain ⟨a, hai⟩ : ∃ a, s[i]? = some a := ⟨s[i], List.getElem?_eq_getElem hlt⟩
  have hg : (s.map fun c => [byteDat c])[i]? = some [.int .u8 (a.toNat : Int)] := by rw [List.getElem?_map, hai]; rfl
  have hix := idx_nat (n := s.length) (i := i) hlt
  have hwr := wrap_nat (i := i) (by omega)
  have c1 := fun H => s64 (a.toNat : Int) H
  rw [hal i a hai] at c1
  have key := fun tm1 => l74 s hn hal H m (i + 1) tm1 (by omega)
  rw [l74_0]
  simp only [b74_0,B0,B1,B2,List.replicate,Nat.reduceAdd,Nat.reduceSub,Nat.reduceLeDiff,Nat.reduceLT,Nat.reduceEqDiff,reduceCtorEq,Int.reduceEq,Int.reduceLT,Int.reduceLE,lenA,hlen,h0,h1,h7,h8,hc,hix,hg,List.length_map,c1,hwr]
  refine ex_imp (key _ ?_ ?_ ?_ ?_ ?_) fun _ _ _ h => h
  all_goals simp only [B3,Nat.reduceLT,Nat.reduceEqDiff,hlen,h0,h1,h7]
theorem s74 (s : List UInt8) (hn : s.length ≤ 1000) (hal : ∀ (i : Nat) a, s[i]? = some a → namZ (a.toNat : Int) = true) (H : Heap) : L 74 [.im (.sl 1 (s.map fun c => [byteDat c])), .clo 64 []] H = some (.im (.int .i64 (-1)), H) := by
 have key := fun tm1 => l74 s hn hal H s.length 0 tm1 (by omega)
 simp only [zc0] at key
 have hlA : lenA (.im (.sl 1 (s.map fun c => [byteDat c]))) = some s.length := by simp [lenA]
 rw [leq F74]
 obtain ⟨hlen, ha⟩ := enter_at (f := f74) (args := [.im (.sl 1 (s.map fun c => [byteDat c])), .clo 64 []]) (Nat.le_of_ble_eq_true rfl)
 have h0 := ha 0 _ rfl
 have h1 := ha 1 _ rfl
 generalize enterA f74 [.im (.sl 1 (s.map fun c => [byteDat c])), .clo 64 []] = tm at *
 change tm.length = 19 at hlen
 simp only [f74,e74_0,B0,B1,B2,List.replicate,Nat.reduceAdd,Nat.reduceSub,Nat.reduceLeDiff,Nat.reduceLT,Nat.reduceEqDiff,reduceCtorEq,Int.reduceEq,Int.reduceLT,Int.reduceLE,hlen,h0,h1,hlA]
 generalize hr : thenL (Λ c74_0 _ _) _ = r
 refine Exists.elim (thenL_inv hr (key _ ?_ ?_ ?_ ?_ ?_)) ?_
 iterate 5 simp only [B3,Nat.reduceLT,Nat.reduceEqDiff,hlen,h0,h1]
 clear hr key
 rintro e ⟨tm1, H1, ⟨rfl, g1, rfl⟩, rfl⟩
 simp only [B0,B1,B2,List.replicate,Nat.reduceAdd,Nat.reduceSub,Nat.reduceLeDiff,Nat.reduceLT,Nat.reduceEqDiff,reduceCtorEq,Int.reduceEq,Int.reduceLT,Int.reduceLE,lenA,endK,resA,tupA,g1,leave_same]
theorem s63 (s : List UInt8) (hn : s.length ≤ 1000) (hal : ∀ (i : Nat) a, s[i]? = some a → namZ (a.toNat : Int) = true) (H : Heap) : L 63 [.im (.sl 1 (s.map fun c => [byteDat c])), .clo 64 []] H = some (.im (.bool false), H) := by
 have c1 := fun H => s74 s hn hal H
 rw [leq F63]
 obtain ⟨hlen, ha⟩ := enter_at (f := f63) (args := [.im (.sl 1 (s.map fun c => [byteDat c])), .clo 64 []]) (Nat.le_of_ble_eq_true rfl)
 have h0 := ha 0 _ rfl
 have h1 := ha 1 _ rfl
 generalize enterA f63 [.im (.sl 1 (s.map fun c => [byteDat c])), .clo 64 []] = tm at *
 change tm.length = 9 at hlen
 simp only [f63,B0,B1,B2,List.replicate,Nat.reduceAdd,Nat.reduceSub,Nat.reduceLeDiff,Nat.reduceLT,Nat.reduceEqDiff,reduceCtorEq,Int.reduceEq,Int.reduceLT,Int.reduceLE,lenA,endK,resA,tupA,hlen,h0,h1,c1,leave_same]
theorem s33 (w : List UInt8) (H : Heap) : L 33 [.im (.str w)] H = some (.tup [.im (.str ((shapeT w).getD [])), .im (.bool (shapeT w).isSome)], H) := by
 cases hs : shapeT w with
 | none => exact s33_none hs H
 | some p => exact s33_some hs H
theorem s47 (s : List UInt8) (h : Nm s) (H : Heap) : L 47 [.im (.str s)] H = some (.im (.bool (shapeT s).isNone), H) := by
 have c1 := fun H => s33 s H
 have c2 := fun H => s63 s (by have := h.len; omega) h.all H
 obtain ⟨a, r, hs⟩ : ∃ a r, s = a :: r := by
  cases s with
  | nil => exact absurd rfl h.ne
  | cons a r => exact ⟨a, r, rfl⟩
 have ha0 : s[0]? = some a := by rw [hs]; rfl
 have hl := h.hd a ha0
 unfold letZ at hl
 simp only [Bool.and_eq_true,decide_eq_true_eq] at hl
 have d0 : decide (s = []) = false := decide_eq_false h.ne
 have d1 : decide (16 < (s.length : Int)) = false := decide_eq_false (by have := h.len; omega)
 have d2 : decide ((a.toNat : Int) < 97) = false := decide_eq_false (by omega)
 have d3 : decide (122 < (a.toNat : Int)) = false := decide_eq_false (by omega)
 have t0 : (0 : Int).toNat = 0 := rfl
 have hbd : byteDat a = .int .u8 (a.toNat : Int) := rfl
 have z0 : (0 : Int) ≤ 0 := Int.le_refl 0
 rw [leq F47]
 obtain ⟨hlen, hg⟩ := enter_at (f := f47) (args := [.im (.str s)]) (Nat.le_of_ble_eq_true rfl)
 have h0 := hg 0 _ rfl
 generalize enterA f47 [.im (.str s)] = tm at *
 change tm.length = 35 at hlen
 clear hs
 cases hsh : shapeT s with
 | none =>
  rw [hsh] at c1
  simp only [Option.getD_none,Option.isSome_none] at c1
  simp only [f47,B0,B1,B2,List.replicate,Nat.reduceAdd,Nat.reduceSub,Nat.reduceLeDiff,Nat.reduceLT,Nat.reduceEqDiff,reduceCtorEq,Int.reduceEq,Int.reduceLT,Int.reduceLE,lenA,intOfA,hbd,endK,resA,tupA,hlen,h0,d0,d1,d2,d3,ha0,t0,z0,c1,c2,leave_same,Option.isNone_none]
 | some p =>
  rw [hsh] at c1
  simp only [Option.getD_some,Option.isSome_some] at c1
  simp only [f47,B0,B1,B2,List.replicate,Nat.reduceAdd,Nat.reduceSub,Nat.reduceLeDiff,Nat.reduceLT,Nat.reduceEqDiff,reduceCtorEq,Int.reduceEq,Int.reduceLT,Int.reduceLE,lenA,intOfA,hbd,endK,resA,tupA,hlen,h0,d0,d1,d2,d3,ha0,t0,z0,c1,c2,leave_same,Option.isNone_some]
end Go.Abs.Seat
end
section
set_option linter.unusedVariables false
set_option linter.unusedSimpArgs false
namespace Go.Abs.Seat
open Go.Proofs
theorem runN_goes (b : List UInt8) (p0 : Nat) : ∀ f p i, p ≤ i → i < runN b p0 f p → goesB b p0 i = true
 | 0, p, i, h1, h2 => by simp only [runN] at h2; omega
 | f + 1, p, i, h1, h2 => by
  unfold runN at h2
  split at h2
  ·rename_i hg
   by_cases hi : i = p
   ·subst hi; exact hg
   ·exact runN_goes b p0 f (p + 1) i (by omega) h2
  ·omega
theorem goes_nam {b : List UInt8} {p0 p : Nat} (h : goesB b p0 p = true) : namZ ((peekB b p).toNat : Int) = true := by
 unfold goesB at h
 simp only [Bool.and_eq_true] at h
 exact h.1.2
theorem nam_let {n : Int} (h : namZ n = true) (h2 : 97 ≤ n) : letZ n = true := by
 unfold namZ letZ digZ at h
 unfold letZ
 simp only [Bool.or_eq_true,Bool.and_eq_true,decide_eq_true_eq] at h ⊢
 omega
theorem wordB_len {b : List UInt8} {p : Nat} (hp : p ≤ b.length) : (wordB b p).length = runB b p - p := by
 have := run_len hp
 unfold wordB
 rw [List.length_take, List.length_drop]
 omega
theorem wordB_get {b : List UInt8} {p i : Nat} (hi : i < runB b p - p) (hp : p ≤ b.length) : (wordB b p)[i]? = some (peekB b (p + i)) := by
 have := run_len hp
 unfold wordB
 rw [List.getElem?_take, if_pos hi, List.getElem?_drop, peek_some (by omega)]
theorem word_nm {b : List UInt8} {p : Nat} (hp : p ≤ b.length) (h : p < runB b p) : Nm (wordB b p) := by
 have hl := wordB_len hp
 have h16 := run_16 b p
 refine ⟨fun e => by rw [e] at hl; simp at hl; omega, by omega, fun a ha => ?_, fun i a ha => ?_⟩
 ·rw [wordB_get (by omega) hp] at ha
  injection ha with ha
  have hg := runN_goes b p 16 p p (Nat.le_refl _) h
  have hnm := goes_nam hg
  unfold goesB at hg
  simp only [Bool.and_eq_true,Nat.lt_irrefl,decide_false,Bool.false_or,decide_eq_true_eq] at hg
  rw [← ha]
  exact nam_let hnm hg.2
 ·have hi : i < runB b p - p := by
   have := (List.getElem?_eq_some_iff.1 ha).1
   omega
  rw [wordB_get hi hp] at ha
  injection ha with ha
  rw [← ha]
  exact goes_nam (runN_goes b p 16 p (p + i) (by omega) (by unfold runB at hi; omega))
theorem leave_SM {H M : Heap} {ir : Nat} {b : List UInt8} {p : Nat} {bad bad' : Bool} {p' : Nat} {r r' : AV} (hir : H[ir]? = some (objS b p bad)) (hd : degrade r = r') (hr : refsLt H.length r' = true) : leave H false r (H.set ir (objS b p' bad') ++ M) = (r', H.set ir (objS b p' bad')) := by
 have hirl := (List.getElem?_eq_some_iff.1 hir).1
 have hbut : But H.length ir H (H.set ir (objS b p' bad') ++ M) := ⟨by simp, fun i hi hne => by rw [List.getElem?_append_left (by simpa using hi), List.getElem?_set_ne (fun e => hne e.symm)]⟩
 have := leave_but (keep := false) (r := r) (o := objS b p' bad') hbut (by rw [List.getElem?_append_left (by simpa using hirl)]; exact List.getElem?_set_self hirl) rfl (by simpa [hd] using hr) hirl
 simpa [hd] using this
inductive NT where
 | mk (op : List UInt8) (i : Int) (txt : List UInt8) (ty : KT) (s : Nat) (kids : List NT)
mutual
def encN : NT → List Dat
 | .mk op i txt (.mk k st args) s kids => [.str op, .int .i64 i, .str txt, .int .i64 k, .sl st (encTs args), .sl s (encNs kids)]
def encNs : List NT → List (List Dat)
 | [] => []
 | a :: l => encN a :: encNs l
end
theorem encNs_map : ∀ l : List NT, encNs l = l.map encN
 | [] => rfl
 | a :: l => by simp only [encNs,List.map_cons,encNs_map l]
def mkN (op : List UInt8) (i : Int) (txt : List UInt8) (ty : KT) (kids : List NT) : NT := .mk op i txt ty (if kids.length = 0 then 0 else 6) kids
def zeroN : NT := mkN [] 0 [] zeroT []
def nameW : List UInt8 := [110, 97, 109, 101]
def longB (b : List UInt8) (p : Nat) : Bool := decide (runB b p - p = 16) && namZ ((peekB b (runB b p)).toNat : Int)
def nameP (b : List UInt8) (p : Nat) : NT × Nat × Bool :=
 if (longB b (skipB b p) || decide (wordB b (skipB b p) = [])) = true then (zeroN, runB b (skipB b p), true)
 else if (shapeT (wordB b (skipB b p))).isNone = true then (mkN nameW 0 (wordB b (skipB b p)) zeroT [], runB b (skipB b p), false) else (zeroN, runB b (skipB b p), true)
theorem s55 (b : List UInt8) (p ir : Nat) (H : Heap) (hir : H[ir]? = some (objS b p false)) (hb : b.length ≤ 4611686018427387904) (hp : p ≤ b.length) :
  L 55 [.ptr ir 0 0] H = some (.im (.agg (encN (nameP b p).1)), H.set ir (objS b (nameP b p).2.1 (nameP b p).2.2)) := by
 have hirl := (List.getElem?_eq_some_iff.1 hir).1
 have hle := skip_len hp
 have hle2 := run_len hle
 have hge2 := run_le b (skipB b p)
 have hwl := wordB_len hle
 have hap : ∀ M : Heap, (H ++ M)[ir]? = some (objS b p false) := fun M => by rw [get_app hirl]; exact hir
 have hsp : ∀ (M : Heap) o, (H ++ M).set ir o = H.set ir o ++ M := fun M o => by rw [List.set_append_left _ _ hirl]
 have c1 : ∀ M, L 19 [.ptr ir 0 0] (H ++ M) = some (.tup [], H.set ir (objS b (skipB b p) false) ++ M) := fun M => by rw [s19 b p ir false (H ++ M) (hap M) hb hp, hsp]
 have g1 : ∀ (q : Nat) (bd : Bool) (M : Heap), (H.set ir (objS b q bd) ++ M)[ir]? = some (objS b q bd) := fun q bd M => by rw [get_app (by simpa using hirl)]; exact List.getElem?_set_self hirl
 have sp2 : ∀ (q : Nat) (bd : Bool) (M : Heap) o, (H.set ir (objS b q bd) ++ M).set ir o = H.set ir o ++ M := fun q bd M o => by rw [List.set_append_left _ _ (by simpa using hirl), List.set_set]
 have c2 : ∀ M, L 32 [.ptr ir 0 0] (H.set ir (objS b (skipB b p) false) ++ M) = some (.im (.str (wordB b (skipB b p))), H.set ir (objS b (runB b (skipB b p)) false) ++ M) := fun M => by rw [s32 b (skipB b p) ir false _ (g1 _ _ M) hb hle, sp2]
 have c3 : ∀ M, L 29 [.ptr ir 0 0] (H.set ir (objS b (runB b (skipB b p)) false) ++ M) = some (.im (.int .u8 ((peekB b (runB b (skipB b p))).toNat : Int)), H.set ir (objS b (runB b (skipB b p)) false) ++ M) := fun M => s29 b _ ir false _ (g1 _ _ M) hb
 have c4 := fun H => s34 ((peekB b (runB b (skipB b p))).toNat : Int) H
 have hlv : ∀ (q : Nat) (bd : Bool) (M : Heap) (op txt : List UInt8) (i : Int), leave H false (.agg [.im (.str op), .im (.int .i64 i), .im (.str txt), .im (.int .i64 0), .nils, .nils]) (H.set ir (objS b q bd) ++ M) = (.im (.agg [.str op, .int .i64 i, .str txt, .int .i64 0, .sl 0 [], .sl 0 []]), H.set ir (objS b q bd)) := fun q bd M op txt i => leave_SM hir rfl rfl
 have gN : ∀ o x, (H.set ir o ++ [x])[H.length]? = some x := fun o x => by rw [List.getElem?_append_right (by simp)]; simp
 have sN : ∀ o x y, (H.set ir o ++ [x]).set H.length y = H.set ir o ++ [y] := fun o x y => by rw [List.set_append_right _ _ (by simp)]; simp
 have hws : IntKind.i64.wrap ((runB b (skipB b p) : Nat) - (skipB b p : Nat) : Int) = ((runB b (skipB b p) - skipB b p : Nat) : Int) := by rw [Go.Abs.Seat.wrap_small _ (by omega)]; omega
 have hcast : ∀ x : Nat, decide ((x : Int) = 16) = decide (x = 16) := fun x => by
  by_cases h : x = 16
  ·subst h; rfl
  ·rw [decide_eq_false h, decide_eq_false (by omega)]
 have hnm := fun h => word_nm (b := b) (p := skipB b p) hle h
 unfold nameP longB
 rw [leq F55]
 obtain ⟨hlen, ha⟩ := enter_at (f := f55) (args := [.ptr ir 0 0]) (Nat.le_of_ble_eq_true rfl)
 have h0 := ha 0 _ rfl
 generalize enterA f55 [.ptr ir 0 0] = tm at *
 change tm.length = 42 at hlen
 generalize hw : wordB b (skipB b p) = w at *
 generalize hq : runB b (skipB b p) = q at *
 generalize skipB b p = q0 at *
 simp only [objS] at c1 c2 c3 g1 sp2 hlv ⊢
 rcases Bool.eq_false_or_eq_true (decide (q - q0 = 16)) with e1 | e1
 ·rcases Bool.eq_false_or_eq_true (namZ ((peekB b q).toNat : Int)) with e2 | e2
  ·rw [e2] at c4
   rw [e1, e2]
   simp only [Bool.and_self,Bool.true_or,if_true]
   simp only [zeroN,zeroT,mkT,mkN,List.length_nil,if_true,encN,encTs,encNs]
   simp only [f55,B0,B1,B2,List.replicate,Nat.reduceAdd,Nat.reduceSub,Nat.reduceLeDiff,Nat.reduceLT,Nat.reduceEqDiff,reduceCtorEq,Int.reduceEq,Int.reduceLT,Int.reduceLE,lenA,endK,resA,tupA,hlen,h0,c1,c2,c3,c4,g1,sp2,gN,sN,hws,hcast,e1,hlv]
  ·rw [e2] at c4
   have hne : w ≠ [] := fun e => by
    rw [e] at hwl; simp at hwl
    have := of_decide_eq_true e1; omega
   have e3 : decide (w = []) = false := decide_eq_false hne
   have c5 := fun H => s47 w (hnm (by have := of_decide_eq_true e1; omega)) H
   rw [e1, e2, e3]
   simp only [Bool.and_false,Bool.or_self,Bool.false_eq_true,if_false]
   rcases Bool.eq_false_or_eq_true ((shapeT w).isNone) with e4 | e4
   ·rw [e4] at c5
    rw [e4, if_pos rfl]
    simp only [nameW,zeroT,mkT,mkN,List.length_nil,if_true,encN,encTs,encNs]
    simp only [f55,B0,B1,B2,List.replicate,Nat.reduceAdd,Nat.reduceSub,Nat.reduceLeDiff,Nat.reduceLT,Nat.reduceEqDiff,reduceCtorEq,Int.reduceEq,Int.reduceLT,Int.reduceLE,lenA,endK,resA,tupA,hlen,h0,c1,c2,c3,c4,c5,g1,sp2,gN,sN,hws,hcast,e1,e3,hlv]
   ·rw [e4] at c5
    rw [e4, if_neg (by simp)]
    simp only [zeroN,zeroT,mkT,mkN,List.length_nil,if_true,encN,encTs,encNs]
    simp only [f55,B0,B1,B2,List.replicate,Nat.reduceAdd,Nat.reduceSub,Nat.reduceLeDiff,Nat.reduceLT,Nat.reduceEqDiff,reduceCtorEq,Int.reduceEq,Int.reduceLT,Int.reduceLE,lenA,endK,resA,tupA,hlen,h0,c1,c2,c3,c4,c5,g1,sp2,gN,sN,hws,hcast,e1,e3,hlv]
 ·rw [e1]
  simp only [Bool.false_and,Bool.false_or]
  by_cases hne : w = []
  ·have e3 : decide (w = []) = true := decide_eq_true hne
   rw [e3, if_pos rfl]
   simp only [zeroN,zeroT,mkT,mkN,List.length_nil,if_true,encN,encTs,encNs]
   simp only [f55,B0,B1,B2,List.replicate,Nat.reduceAdd,Nat.reduceSub,Nat.reduceLeDiff,Nat.reduceLT,Nat.reduceEqDiff,reduceCtorEq,Int.reduceEq,Int.reduceLT,Int.reduceLE,lenA,endK,resA,tupA,hlen,h0,c1,c2,g1,sp2,gN,sN,hws,hcast,e1,e3,hlv]
  ·have e3 : decide (w = []) = false := decide_eq_false hne
   have hlt : q0 < q := by
    rcases Nat.lt_or_ge q0 q with h | h
    ·exact h
    ·exact absurd (List.length_eq_zero_iff.1 (by omega)) hne
   have c5 := fun H => s47 w (hnm hlt) H
   rw [e3, if_neg (by simp)]
   rcases Bool.eq_false_or_eq_true ((shapeT w).isNone) with e4 | e4
   ·rw [e4] at c5
    rw [e4, if_pos rfl]
    simp only [nameW,zeroT,mkT,mkN,List.length_nil,if_true,encN,encTs,encNs]
    simp only [f55,B0,B1,B2,List.replicate,Nat.reduceAdd,Nat.reduceSub,Nat.reduceLeDiff,Nat.reduceLT,Nat.reduceEqDiff,reduceCtorEq,Int.reduceEq,Int.reduceLT,Int.reduceLE,lenA,endK,resA,tupA,hlen,h0,c1,c2,c5,g1,sp2,gN,sN,hws,hcast,e1,e3,hlv]
   ·rw [e4] at c5
    rw [e4, if_neg (by simp)]
    simp only [zeroN,zeroT,mkT,mkN,List.length_nil,if_true,encN,encTs,encNs]
    simp only [f55,B0,B1,B2,List.replicate,Nat.reduceAdd,Nat.reduceSub,Nat.reduceLeDiff,Nat.reduceLT,Nat.reduceEqDiff,reduceCtorEq,Int.reduceEq,Int.reduceLT,Int.reduceLE,lenA,endK,resA,tupA,hlen,h0,c1,c2,c5,g1,sp2,gN,sN,hws,hcast,e1,e3,hlv]
end Go.Abs.Seat
end
section
set_option linter.unusedVariables false
set_option linter.unusedSimpArgs false
namespace Go.Abs.Seat
open Go.Proofs
theorem let_nam {n : Int} (h : letZ n = true) : namZ n = true ∧ 97 ≤ n := by
 unfold letZ at h
 unfold namZ letZ digZ
 simp only [Bool.or_eq_true,Bool.and_eq_true,decide_eq_true_eq] at h ⊢
 omega
theorem let0 : letZ ((0 : UInt8).toNat : Int) = false := by decide
end Go.Abs.Seat
end
section
set_option linter.unusedVariables false
set_option linter.unusedSimpArgs false
namespace Go.Abs.Seat
open Go.Proofs
def intW : List UInt8 := [105, 110, 116]
def numN (b : List UInt8) (most : Nat) : Nat → Nat → Nat → Nat × Nat × Bool
 | 0, n, p => (n, p, false)
 | f + 1, n, p => if digZ ((peekB b p).toNat : Int) = true then
   (if 0 < n ∧ n ≤ (most - ((peekB b p).toNat - 48)) / 10 then numN b most f (10 * n + ((peekB b p).toNat - 48)) (p + 1) else (n, p, true))
  else (n, p, false)
def mostN (neg : Bool) : Nat := if neg = true then 9223372036854775808 else 9223372036854775807
def sgnN (neg : Bool) (n : Nat) : Int := if neg = true then -(n : Int) else (n : Int)
def numP (b : List UInt8) (p : Nat) : NT × Nat × Bool :=
 let neg := decide (peekB b p = 45)
 let p1 := if neg = true then p + 1 else p
 if (!digZ ((peekB b p1).toNat : Int) || (decide (peekB b p1 = 48) && neg)) = true then (zeroN, p1, true)
 else match numN b (mostN neg) (b.length - (p1 + 1)) ((peekB b p1).toNat - 48) (p1 + 1) with
  |(n, q, true) => (zeroN, q, true)
  |(n, q, false) => (mkN intW (sgnN neg n) [] zeroT [], q, false)
theorem b_quo10 (x : Int) : binA .quo (.im (.int .u64 x)) (.im (.int .u64 10)) = some (.im (.int .u64 (IntKind.u64.wrap (x.tdiv 10)))) := by
 simp only [binA,isShift,Bool.false_eq_true,if_false,if_true,binInt,if_neg (show ¬ (10 : Int) = 0 by decide)]
theorem u64w {z : Int} (h : 0 ≤ z ∧ z < 18446744073709551616) : IntKind.u64.wrap z = z := by
 have e : IntKind.u64.wrap z = z % 18446744073709551616 := rfl
 rw [e]; omega
theorem u8w {z : Int} (h : 0 ≤ z ∧ z < 256) : IntKind.u8.wrap z = z := by
 have e : IntKind.u8.wrap z = z % 256 := rfl
 rw [e]; omega
theorem dig_range {n : Int} (h : digZ n = true) : 48 ≤ n ∧ n ≤ 57 := by
 unfold digZ at h
 simpa using h
theorem dig_not {n : Int} (h : digZ n = false) : n < 48 ∨ 57 < n := by
 unfold digZ at h
 simp only [Bool.and_eq_false_iff,decide_eq_false_iff_not] at h
 omega
theorem dig0 : digZ ((0 : UInt8).toNat : Int) = false := by decide
theorem numN_bound (b : List UInt8) (most : Nat) : ∀ f n p, n ≤ most → (numN b most f n p).1 ≤ most
 | 0, n, p, h => h
 | f + 1, n, p, h => by
  unfold numN
  split
  ·split
   ·rename_i hd h2
    have hr := dig_range hd
    have h3 : ((peekB b p).toNat - 48) ≤ 9 := by omega
    refine numN_bound b most f _ _ ?_
    have := h2.2
    omega
   ·exact h
  ·exact h
abbrev zO : HO := .obj none [[.im (.str []), .im (.int .i64 0), .im (.str []), .im (.int .i64 0), .nils, .nils]]
abbrev nO (op txt : List UInt8) (i : Int) : HO := .obj none [[.im (.str op), .im (.int .i64 i), .im (.str txt), .im (.int .i64 0), .nils, .nils]]
section
variable {H : Heap} {ir : Nat} {b : List UInt8}
theorem hp_get (hirl : ir < H.length) (o : HO) (M : Heap) : (H.set ir o ++ M)[ir]? = some o := by rw [get_app (by simpa using hirl)]; exact List.getElem?_set_self hirl
theorem hp_set (hirl : ir < H.length) (o o' : HO) (M : Heap) : (H.set ir o ++ M).set ir o' = H.set ir o' ++ M := by rw [List.set_append_left _ _ (by simpa using hirl), List.set_set]
theorem hp_getN (o x : HO) : (H.set ir o ++ [x])[H.length]? = some x := by rw [List.getElem?_append_right (by simp)]; simp
theorem hp_setN (o x y : HO) : (H.set ir o ++ [x]).set H.length y = H.set ir o ++ [y] := by rw [List.set_append_right _ _ (by simp)]; simp
end
theorem l31 (b : List UInt8) (hb : b.length ≤ 4611686018427387904) (ir : Nat) (H : Heap) (hirl : ir < H.length) (neg : Bool) :
  ∀ (f p n : Nat) (tm : List AV) (n' q : Nat) (bad : Bool), numN b (mostN neg) f n p = (n', q, bad) → b.length ≤ p + f → p ≤ b.length → n ≤ mostN neg → tm.length = 91 → tm.getD 0 undefA = .ptr ir 0 0 → tm.getD 2 undefA = .ptr H.length 0 0 →
   tm.getD 3 undefA = .im (.int .i64 (if neg = true then -1 else 1)) → tm.getD 4 undefA = .im (.int .u64 ((mostN neg : Nat) : Int)) → tm.getD 6 undefA = .im (.int .u64 (n : Int)) →
  ∃ e tm' H', Λ g31_0 tm (H.set ir (objS b p false) ++ [zO]) = some (e, tm', H') ∧ (e = .ret ∧ tm'.length = 91 ∧ tm'.getD 2 undefA = .ptr H.length 0 0 ∧ H' = H.set ir (objS b q bad) ++ [if bad = true then zO else nO intW [] (sgnN neg n')]) := by
 intro f
 induction f with
 | zero =>
  intro p n tm n' q bad hN hf hp hn hlen h0 h2 h3 h4 h6
  simp only [numN,Prod.mk.injEq] at hN
  obtain ⟨rfl, rfl, rfl⟩ := hN
  have hz : peekB b p = 0 := by unfold peekB; rw [List.getElem?_eq_none (by omega)]; rfl
  have c1 := s29 b p ir false (H.set ir (objS b p false) ++ [zO]) (hp_get hirl _ _) hb
  rw [hz] at c1
  have d1 : decide (((0 : UInt8).toNat : Int) < 48) = true := rfl
  have hi : IntKind.i64.wrap ((if neg = true then -1 else 1) * IntKind.i64.wrap (n : Int)) = sgnN neg n := by
   unfold sgnN mostN at *
   cases neg with
   | true =>
    simp only [if_true] at hn ⊢
    by_cases hm : n = 9223372036854775808
    ·subst hm; decide
    ·rw [Go.Abs.Seat.wrap_small (n : Int) (by omega), Go.Abs.Seat.wrap_small _ (by omega)]; omega
   | false =>
    simp only [Bool.false_eq_true,if_false] at hn ⊢
    rw [Go.Abs.Seat.wrap_small (n : Int) (by omega), Go.Abs.Seat.wrap_small _ (by omega)]; omega
  have g1 := hp_get (H := H) hirl
  have g2 := hp_getN (H := H) (ir := ir)
  have g3 := hp_setN (H := H) (ir := ir)
  rw [g31_0_eq]
  simp only [intW,zO,Bool.false_eq_true,if_false] at *
  simp only [w31_0,B0,B1,B2,List.replicate,Nat.reduceAdd,Nat.reduceSub,Nat.reduceLeDiff,Nat.reduceLT,Nat.reduceEqDiff,reduceCtorEq,Int.reduceEq,Int.reduceLT,Int.reduceLE,lenA,hlen,h0,h2,h3,h4,h6,c1,d1,hi,g2,g3,K31_ret]
  exact ⟨_, _, _, rfl, rfl, by simp only [List.length_set,hlen], by simp only [B3,Nat.reduceLT,Nat.reduceEqDiff,hlen,h2], rfl⟩
 | succ f ih =>
  intro p n tm n' q bad hN hf hp hn hlen h0 h2 h3 h4 h6
  have c1 := s29 b p ir false (H.set ir (objS b p false) ++ [zO]) (hp_get hirl _ _) hb
  have hlt := peek_lt (b := b) (p := p)
  have hi : IntKind.i64.wrap ((if neg = true then -1 else 1) * IntKind.i64.wrap (n : Int)) = sgnN neg n := by
   unfold sgnN mostN at *
   cases neg with
   | true =>
    simp only [if_true] at hn ⊢
    by_cases hm : n = 9223372036854775808
    ·subst hm; decide
    ·rw [Go.Abs.Seat.wrap_small (n : Int) (by omega), Go.Abs.Seat.wrap_small _ (by omega)]; omega
   | false =>
    simp only [Bool.false_eq_true,if_false] at hn ⊢
    rw [Go.Abs.Seat.wrap_small (n : Int) (by omega), Go.Abs.Seat.wrap_small _ (by omega)]; omega
  have g1 := hp_get (H := H) hirl
  have g2 := hp_getN (H := H) (ir := ir)
  have g3 := hp_setN (H := H) (ir := ir)
  have g4 := hp_set (H := H) hirl
  have hmost : mostN neg ≤ 9223372036854775808 := by unfold mostN; split <;> omega
  unfold numN at hN
  generalize hpk : peekB b p = c at *
  have hc256 : c.toNat < 256 := c.toNat_lt
  rcases Bool.eq_false_or_eq_true (digZ (c.toNat : Int)) with hd | hd
  ·have hr := dig_range hd
   have e1 : decide ((c.toNat : Int) < 48) = false := decide_eq_false (by omega)
   have e2 : decide (57 < (c.toNat : Int)) = false := decide_eq_false (by omega)
   have w1 : IntKind.u8.wrap ((c.toNat : Int) - 48) = ((c.toNat - 48 : Nat) : Int) := by rw [u8w (by omega)]; omega
   have w2 : IntKind.u64.wrap ((c.toNat - 48 : Nat) : Int) = ((c.toNat - 48 : Nat) : Int) := u64w (by omega)
   have w3 : IntKind.u64.wrap (((mostN neg : Nat) : Int) - ((c.toNat - 48 : Nat) : Int)) = ((mostN neg - (c.toNat - 48) : Nat) : Int) := by
    have : 100 ≤ mostN neg := by unfold mostN; split <;> omega
    rw [u64w (by omega)]; omega
   have w4 : IntKind.u64.wrap ((((mostN neg - (c.toNat - 48) : Nat) : Int)).tdiv 10) = (((mostN neg - (c.toNat - 48)) / 10 : Nat) : Int) := by
    rw [show (((mostN neg - (c.toNat - 48) : Nat) : Int)).tdiv 10 = (((mostN neg - (c.toNat - 48)) / 10 : Nat) : Int) from rfl, u64w (by omega)]
   have hcp : p < b.length := hlt (fun e => by subst e; revert hd; decide)
   rw [hd, if_pos rfl] at hN
   by_cases hok : 0 < n ∧ n ≤ (mostN neg - (c.toNat - 48)) / 10
   ·rw [if_pos hok] at hN
    have e3 : decide ((0 : Int) < (n : Int)) = true := decide_eq_true (by omega)
    have e4 : decide ((n : Int) ≤ (((mostN neg - (c.toNat - 48)) / 10 : Nat) : Int)) = true := decide_eq_true (by omega)
    have w5 : IntKind.u64.wrap (10 * (n : Int)) = ((10 * n : Nat) : Int) := by rw [u64w (by omega)]; omega
    have w6 : IntKind.u64.wrap (((10 * n : Nat) : Int) + ((c.toNat - 48 : Nat) : Int)) = ((10 * n + (c.toNat - 48) : Nat) : Int) := by rw [u64w (by omega)]; omega
    have hwr := wrap_nat (i := p) (by omega)
    have key := fun tm1 => ih (p + 1) (10 * n + (c.toNat - 48)) tm1 n' q bad hN (by omega) (by omega) (by omega)
    rw [g31_0_eq]
    simp only [objS] at *
    simp only [w31_0,B0,B1,B2,List.replicate,Nat.reduceAdd,Nat.reduceSub,Nat.reduceLeDiff,Nat.reduceLT,Nat.reduceEqDiff,reduceCtorEq,Int.reduceEq,Int.reduceLT,Int.reduceLE,lenA,hlen,h0,h2,h3,h4,h6,c1,e1,e2,w1,w2,w3,b_quo10,w4,e3,e4,w5,w6,hwr,g1,g4,K31_goto0]
    refine ex_imp (key _ ?_ ?_ ?_ ?_ ?_ ?_) fun _ _ _ h => h
    all_goals simp only [B3,Nat.reduceLT,Nat.reduceEqDiff,hlen,h0,h2,h3,h4]
   ·rw [if_neg hok] at hN
    simp only [Prod.mk.injEq] at hN
    obtain ⟨rfl, rfl, rfl⟩ := hN
    rw [g31_0_eq]
    simp only [objS,zO,if_true] at *
    rcases Bool.eq_false_or_eq_true (decide ((0 : Int) < (n : Int))) with e3 | e3
    ·have e4 : decide ((n : Int) ≤ (((mostN neg - (c.toNat - 48)) / 10 : Nat) : Int)) = false := decide_eq_false fun h => hok ⟨by have := of_decide_eq_true e3; omega, by omega⟩
     simp only [w31_0,B0,B1,B2,List.replicate,Nat.reduceAdd,Nat.reduceSub,Nat.reduceLeDiff,Nat.reduceLT,Nat.reduceEqDiff,reduceCtorEq,Int.reduceEq,Int.reduceLT,Int.reduceLE,lenA,hlen,h0,h2,h3,h4,h6,c1,e1,e2,w1,w2,w3,b_quo10,w4,e3,e4,g1,g2,g3,g4,K31_ret]
     exact ⟨_, _, _, rfl, rfl, by simp only [List.length_set,hlen], by simp only [B3,Nat.reduceLT,Nat.reduceEqDiff,hlen,h2], rfl⟩
    ·simp only [w31_0,B0,B1,B2,List.replicate,Nat.reduceAdd,Nat.reduceSub,Nat.reduceLeDiff,Nat.reduceLT,Nat.reduceEqDiff,reduceCtorEq,Int.reduceEq,Int.reduceLT,Int.reduceLE,lenA,hlen,h0,h2,h3,h4,h6,c1,e1,e2,w1,w2,e3,g1,g2,g3,g4,K31_ret]
     exact ⟨_, _, _, rfl, rfl, by simp only [List.length_set,hlen], by simp only [B3,Nat.reduceLT,Nat.reduceEqDiff,hlen,h2], rfl⟩
  ·rw [hd, if_neg (by simp)] at hN
   simp only [Prod.mk.injEq] at hN
   obtain ⟨rfl, rfl, rfl⟩ := hN
   rw [g31_0_eq]
   simp only [objS,intW,zO,Bool.false_eq_true,if_false] at *
   rcases dig_not hd with hd | hd
   ·have e1 : decide ((c.toNat : Int) < 48) = true := decide_eq_true hd
    simp only [w31_0,B0,B1,B2,List.replicate,Nat.reduceAdd,Nat.reduceSub,Nat.reduceLeDiff,Nat.reduceLT,Nat.reduceEqDiff,reduceCtorEq,Int.reduceEq,Int.reduceLT,Int.reduceLE,lenA,hlen,h0,h2,h3,h4,h6,c1,e1,hi,g2,g3,K31_ret]
    exact ⟨_, _, _, rfl, rfl, by simp only [List.length_set,hlen], by simp only [B3,Nat.reduceLT,Nat.reduceEqDiff,hlen,h2], rfl⟩
   ·have e1 : decide ((c.toNat : Int) < 48) = false := decide_eq_false (by omega)
    have e2 : decide (57 < (c.toNat : Int)) = true := decide_eq_true hd
    simp only [w31_0,B0,B1,B2,List.replicate,Nat.reduceAdd,Nat.reduceSub,Nat.reduceLeDiff,Nat.reduceLT,Nat.reduceEqDiff,reduceCtorEq,Int.reduceEq,Int.reduceLT,Int.reduceLE,lenA,hlen,h0,h2,h3,h4,h6,c1,e1,e2,hi,g2,g3,K31_ret]
    exact ⟨_, _, _, rfl, rfl, by simp only [List.length_set,hlen], by simp only [B3,Nat.reduceLT,Nat.reduceEqDiff,hlen,h2], rfl⟩
theorem zm1 : ((9223372036854775808 : Nat) : Int) = 9223372036854775808 := _root_.id rfl
theorem zm2 : ((9223372036854775807 : Nat) : Int) = 9223372036854775807 := _root_.id rfl
theorem leave_N {H : Heap} {ir : Nat} {b : List UInt8} {p : Nat} {bad : Bool} (hir : H[ir]? = some (objS b p bad)) (q : Nat) (bd : Bool) (M : Heap) (op txt : List UInt8) (i : Int) :
  leave H false (.agg [.im (.str op), .im (.int .i64 i), .im (.str txt), .im (.int .i64 0), .nils, .nils]) (H.set ir (objS b q bd) ++ M) = (.im (.agg [.str op, .int .i64 i, .str txt, .int .i64 0, .sl 0 [], .sl 0 []]), H.set ir (objS b q bd)) := leave_SM hir rfl rfl
theorem enc_flat (op txt : List UInt8) (i : Int) : encN (mkN op i txt zeroT []) = [.str op, .int .i64 i, .str txt, .int .i64 0, .sl 0 [], .sl 0 []] := _root_.id rfl
theorem s31 (b : List UInt8) (p ir : Nat) (H : Heap) (hir : H[ir]? = some (objS b p false)) (hb : b.length ≤ 4611686018427387904) (hp : p < b.length) :
  L 31 [.ptr ir 0 0] H = some (.im (.agg (encN (numP b p).1)), H.set ir (objS b (numP b p).2.1 (numP b p).2.2)) := by
 have hirl := (List.getElem?_eq_some_iff.1 hir).1
 have hself : H = H.set ir (objS b p false) := (set_same hir).symm
 have c0 : ∀ (q : Nat), L 29 [.ptr ir 0 0] (H.set ir (objS b q false) ++ [zO]) = some (.im (.int .u8 ((peekB b q).toNat : Int)), H.set ir (objS b q false) ++ [zO]) := fun q => s29 b q ir false _ (hp_get hirl _ _) hb
 have hlv := leave_N hir
 have g1 := hp_get (H := H) hirl
 have g2 := hp_getN (H := H) (ir := ir)
 have g3 := hp_setN (H := H) (ir := ir)
 have g4 := hp_set (H := H) hirl
 rw [leq F31]
 obtain ⟨hlen, ha⟩ := enter_at (f := f31) (args := [.ptr ir 0 0]) (Nat.le_of_ble_eq_true rfl)
 have h0 := ha 0 _ rfl
 generalize enterA f31 [.ptr ir 0 0] = tm at *
 change tm.length = 91 at hlen
 have c00 : L 29 [.ptr ir 0 0] (H ++ [zO]) = some (.im (.int .u8 ((peekB b p).toNat : Int)), H ++ [zO]) := by have := c0 p; rwa [← hself] at this
 have g0 : (H ++ [zO])[ir]? = some (objS b p false) := by rw [get_app hirl]; exact hir
 have g5 : ∀ o M, (H ++ M).set ir o = H.set ir o ++ M := fun o M => by rw [List.set_append_left _ _ hirl]
 have thenS : ∀ (e : AEx) (tm : List AV) (H' : Heap) (K : AEx → List AV → Heap → Option (AV × Heap)), thenL (some (e, tm, H')) K = K e tm H' := fun _ _ _ _ => rfl
 unfold numP
 simp only
 by_cases hsg : peekB b p = 45
 ·-- with a sign
  have hs : decide (peekB b p = 45) = true := decide_eq_true hsg
  have hs2 : decide (((peekB b p).toNat : Int) = 45) = true := (byte_eq (peekB b p) 45).trans hs
  rw [hs]
  simp only [if_true,Bool.false_eq_true,if_false,Bool.and_true,Bool.and_false,Bool.or_false]
  have hwr0 := wrap_nat (i := p) (by omega)
  have hwr := wrap_nat (i := (p + 1)) (by omega)
  have c1 := c0 p
  have c2 := c0 (p + 1)
  have hlt := peek_lt (b := b) (p := (p + 1))
  generalize hc : peekB b (p + 1) = c at *
  have hc256 : c.toNat < 256 := c.toNat_lt
  have key := fun n q bad tm1 hN => l31 b hb ir H hirl true (b.length - ((p + 1) + 1)) ((p + 1) + 1) (c.toNat - 48) tm1 n q bad hN
  rcases Bool.eq_false_or_eq_true (digZ (c.toNat : Int)) with hd | hd
  ·have hr := dig_range hd
   have e1 : decide ((c.toNat : Int) < 48) = false := decide_eq_false (by omega)
   have e2 : decide (57 < (c.toNat : Int)) = false := decide_eq_false (by omega)
   have w1 : IntKind.u8.wrap ((c.toNat : Int) - 48) = ((c.toNat - 48 : Nat) : Int) := by rw [u8w (by omega)]; omega
   have w2 : IntKind.u64.wrap ((c.toNat - 48 : Nat) : Int) = ((c.toNat - 48 : Nat) : Int) := u64w (by omega)
   have hcp : (p + 1) < b.length := hlt (fun e => by subst e; revert hd; decide)
   rw [hd]
   simp only [Bool.not_true,Bool.false_or]
   have e3' : decide ((c.toNat : Int) = 48) = decide (c = 48) := byte_eq c 48
   rcases Bool.eq_false_or_eq_true (decide (c = 48)) with e3 | e3
   ·rw [e3] at e3'
    rw [e3, if_pos rfl]
    simp only [zeroN,enc_flat]
    simp only [objS,zO] at *
    simp only [f31,e31_0,c31_0_eq,s31b,B0,B1,B2,List.replicate,Nat.reduceAdd,Nat.reduceSub,Nat.reduceLeDiff,Nat.reduceLT,Nat.reduceEqDiff,reduceCtorEq,Int.reduceEq,Int.reduceLT,Int.reduceLE,lenA,endK,resA,tupA,hlen,h0,c00,c1,c2,g0,g5,hs2,hwr0,e1,e2,e3',g1,g2,g3,g4,K31_ret,thenS,hlv]
   ·rw [e3] at e3'
    rw [e3, if_neg (by simp)]
    cases hN : numN b (mostN true) (b.length - ((p + 1) + 1)) (c.toNat - 48) ((p + 1) + 1) with
    | mk n qb =>
     obtain ⟨q, bad⟩ := qb
     have key := key n q bad
     simp only [mostN,if_true,Bool.false_eq_true,if_false,zm1,zm2] at hN key
     have key := fun tm1 => key tm1 hN (by omega) (by omega) (by omega)
     simp only [objS,zO] at *
     simp only [f31,e31_0,c31_0_eq,s31b,B0,B1,B2,List.replicate,Nat.reduceAdd,Nat.reduceSub,Nat.reduceLeDiff,Nat.reduceLT,Nat.reduceEqDiff,reduceCtorEq,Int.reduceEq,Int.reduceLT,Int.reduceLE,lenA,hlen,h0,c00,c1,c2,g0,g5,hs2,hwr0,hwr,e1,e2,e3',w1,w2,g1,g2,g3,g4]
     rw [← g31_0_eq]
     generalize hr2 : thenL (Λ g31_0 _ _) _ = r
     refine Exists.elim (thenL_inv hr2 (key _ ?_ ?_ ?_ ?_ ?_ ?_)) ?_
     iterate 6 simp only [B3,Nat.reduceLT,Nat.reduceEqDiff,hlen,h0]
     clear hr2 key
     rintro e ⟨tm1, H1, ⟨rfl, k1, k2, rfl⟩, rfl⟩
     cases bad with
     | true =>
      simp only [if_true,zeroN,enc_flat]
      simp only [B0,B1,B2,List.replicate,Nat.reduceAdd,Nat.reduceSub,Nat.reduceLeDiff,Nat.reduceLT,Nat.reduceEqDiff,reduceCtorEq,Int.reduceEq,Int.reduceLT,Int.reduceLE,lenA,endK,resA,tupA,k1,k2,g2,hlv]
     | false =>
      simp only [Bool.false_eq_true,if_false,enc_flat,nO]
      simp only [B0,B1,B2,List.replicate,Nat.reduceAdd,Nat.reduceSub,Nat.reduceLeDiff,Nat.reduceLT,Nat.reduceEqDiff,reduceCtorEq,Int.reduceEq,Int.reduceLT,Int.reduceLE,lenA,endK,resA,tupA,k1,k2,g2,hlv]
  ·rw [hd]
   simp only [Bool.not_false,Bool.true_or,if_true,zeroN,enc_flat]
   simp only [objS,zO] at *
   rcases dig_not hd with hd | hd
   ·have e1 : decide ((c.toNat : Int) < 48) = true := decide_eq_true hd
    simp only [f31,e31_0,c31_0_eq,s31b,B0,B1,B2,List.replicate,Nat.reduceAdd,Nat.reduceSub,Nat.reduceLeDiff,Nat.reduceLT,Nat.reduceEqDiff,reduceCtorEq,Int.reduceEq,Int.reduceLT,Int.reduceLE,lenA,endK,resA,tupA,hlen,h0,c00,c1,c2,g0,g5,hs2,hwr0,e1,g1,g2,g3,g4,K31_ret,thenS,hlv]
   ·have e1 : decide ((c.toNat : Int) < 48) = false := decide_eq_false (by omega)
    have e2 : decide (57 < (c.toNat : Int)) = true := decide_eq_true hd
    simp only [f31,e31_0,c31_0_eq,s31b,B0,B1,B2,List.replicate,Nat.reduceAdd,Nat.reduceSub,Nat.reduceLeDiff,Nat.reduceLT,Nat.reduceEqDiff,reduceCtorEq,Int.reduceEq,Int.reduceLT,Int.reduceLE,lenA,endK,resA,tupA,hlen,h0,c00,c1,c2,g0,g5,hs2,hwr0,e1,e2,g1,g2,g3,g4,K31_ret,thenS,hlv]
 ·-- without a sign
  have hs : decide (peekB b p = 45) = false := decide_eq_false hsg
  have hs2 : decide (((peekB b p).toNat : Int) = 45) = false := (byte_eq (peekB b p) 45).trans hs
  rw [hs]
  simp only [if_true,Bool.false_eq_true,if_false,Bool.and_true,Bool.and_false,Bool.or_false]
  have hwr0 := wrap_nat (i := p) (by omega)
  have hwr := wrap_nat (i := p) (by omega)
  have c1 := c0 p
  have c2 := c0 p
  have hlt := peek_lt (b := b) (p := p)
  generalize hc : peekB b p = c at *
  have hc256 : c.toNat < 256 := c.toNat_lt
  have key := fun n q bad tm1 hN => l31 b hb ir H hirl false (b.length - (p + 1)) (p + 1) (c.toNat - 48) tm1 n q bad hN
  rcases Bool.eq_false_or_eq_true (digZ (c.toNat : Int)) with hd | hd
  ·have hr := dig_range hd
   have e1 : decide ((c.toNat : Int) < 48) = false := decide_eq_false (by omega)
   have e2 : decide (57 < (c.toNat : Int)) = false := decide_eq_false (by omega)
   have w1 : IntKind.u8.wrap ((c.toNat : Int) - 48) = ((c.toNat - 48 : Nat) : Int) := by rw [u8w (by omega)]; omega
   have w2 : IntKind.u64.wrap ((c.toNat - 48 : Nat) : Int) = ((c.toNat - 48 : Nat) : Int) := u64w (by omega)
   have hcp : p < b.length := hlt (fun e => by subst e; revert hd; decide)
   rw [hd]
   simp only [Bool.not_true,Bool.false_or]
   have e3' : decide ((c.toNat : Int) = 48) = decide (c = 48) := byte_eq c 48
   rcases Bool.eq_false_or_eq_true (decide (c = 48)) with e3 | e3
   all_goals rw [e3] at e3'
   all_goals
    cases hN : numN b (mostN false) (b.length - (p + 1)) (c.toNat - 48) (p + 1) with
    | mk n qb =>
     obtain ⟨q, bad⟩ := qb
     have key := key n q bad
     simp only [mostN,if_true,Bool.false_eq_true,if_false,zm1,zm2] at hN key
     have key := fun tm1 => key tm1 hN (by omega) (by omega) (by omega)
     simp only [objS,zO] at *
     simp only [f31,e31_0,c31_0_eq,s31b,B0,B1,B2,List.replicate,Nat.reduceAdd,Nat.reduceSub,Nat.reduceLeDiff,Nat.reduceLT,Nat.reduceEqDiff,reduceCtorEq,Int.reduceEq,Int.reduceLT,Int.reduceLE,lenA,hlen,h0,c00,c1,c2,g0,g5,hs2,hwr0,hwr,e1,e2,e3',w1,w2,g1,g2,g3,g4]
     rw [← g31_0_eq]
     generalize hr2 : thenL (Λ g31_0 _ _) _ = r
     refine Exists.elim (thenL_inv hr2 (key _ ?_ ?_ ?_ ?_ ?_ ?_)) ?_
     iterate 6 simp only [B3,Nat.reduceLT,Nat.reduceEqDiff,hlen,h0]
     clear hr2 key
     rintro e ⟨tm1, H1, ⟨rfl, k1, k2, rfl⟩, rfl⟩
     cases bad with
     | true =>
      simp only [if_true,zeroN,enc_flat]
      simp only [B0,B1,B2,List.replicate,Nat.reduceAdd,Nat.reduceSub,Nat.reduceLeDiff,Nat.reduceLT,Nat.reduceEqDiff,reduceCtorEq,Int.reduceEq,Int.reduceLT,Int.reduceLE,lenA,endK,resA,tupA,k1,k2,g2,hlv]
     | false =>
      simp only [Bool.false_eq_true,if_false,enc_flat,nO]
      simp only [B0,B1,B2,List.replicate,Nat.reduceAdd,Nat.reduceSub,Nat.reduceLeDiff,Nat.reduceLT,Nat.reduceEqDiff,reduceCtorEq,Int.reduceEq,Int.reduceLT,Int.reduceLE,lenA,endK,resA,tupA,k1,k2,g2,hlv]
  ·rw [hd]
   simp only [Bool.not_false,Bool.true_or,if_true,zeroN,enc_flat]
   simp only [objS,zO] at *
   rcases dig_not hd with hd | hd
   ·have e1 : decide ((c.toNat : Int) < 48) = true := decide_eq_true hd
    simp only [f31,e31_0,c31_0_eq,s31b,B0,B1,B2,List.replicate,Nat.reduceAdd,Nat.reduceSub,Nat.reduceLeDiff,Nat.reduceLT,Nat.reduceEqDiff,reduceCtorEq,Int.reduceEq,Int.reduceLT,Int.reduceLE,lenA,endK,resA,tupA,hlen,h0,c00,c1,c2,g0,g5,hs2,hwr0,e1,g1,g2,g3,g4,K31_ret,thenS,hlv]
   ·have e1 : decide ((c.toNat : Int) < 48) = false := decide_eq_false (by omega)
    have e2 : decide (57 < (c.toNat : Int)) = true := decide_eq_true hd
    simp only [f31,e31_0,c31_0_eq,s31b,B0,B1,B2,List.replicate,Nat.reduceAdd,Nat.reduceSub,Nat.reduceLeDiff,Nat.reduceLT,Nat.reduceEqDiff,reduceCtorEq,Int.reduceEq,Int.reduceLT,Int.reduceLE,lenA,endK,resA,tupA,hlen,h0,c00,c1,c2,g0,g5,hs2,hwr0,e1,e2,g1,g2,g3,g4,K31_ret,thenS,hlv]
end Go.Abs.Seat
end
section
set_option linter.unusedVariables false
set_option linter.unusedSimpArgs false
namespace Go.Abs.Seat
open Go.Proofs
def hexW : List UInt8 := [48, 49, 50, 51, 52, 53, 54, 55, 56, 57, 97, 98, 99, 100, 101, 102]
theorem hex_nib : ∀ c : UInt8, Lib.indexByte hexW c = nibZ (c.toNat : Int) := by
 have h : ∀ n : Fin 256, Lib.indexByte hexW (UInt8.ofNat n.val) = nibZ ((UInt8.ofNat n.val).toNat : Int) := by decide +kernel
 intro c
 have := h ⟨c.toNat, c.toNat_lt⟩
 simpa using this
theorem L80 (args : List AV) (H : Heap) : L 80 args H = idxO 80 (strO 60 26 Tryd.okB 5 fun _ _ _ => none) 80 args H := by
 have h : F 80 = none := by kernel_rfl
 exact lim_none h args H
theorem s80 (s : List UInt8) (c : UInt8) (H : Heap) : L 80 [.im (.str s), .im (.int .u8 (c.toNat : Int))] H = some (.im (.int .i64 (Lib.indexByte s c)), H) := by
 have e : ((c.toNat : Int).toNat).toUInt8 = c := by simp
 rw [L80]
 have : idxO 80 (strO 60 26 Tryd.okB 5 fun _ _ _ => none) 80 [.im (.str s), .im (.int .u8 (c.toNat : Int))] H = some (.im (.int .i64 (Lib.indexByte s ((c.toNat : Int).toNat).toUInt8)), H) := rfl
 rw [this, e]
theorem s69 (s : List UInt8) (c : UInt8) (H : Heap) : L 69 [.im (.str s), .im (.int .u8 (c.toNat : Int))] H = some (.im (.int .i64 (Lib.indexByte s c)), H) := by
 have c1 := fun H => s80 s c H
 rw [leq F69]
 obtain ⟨hlen, ha⟩ := enter_at (f := f69) (args := [.im (.str s), .im (.int .u8 (c.toNat : Int))]) (Nat.le_of_ble_eq_true rfl)
 have h0 := ha 0 _ rfl
 have h1 := ha 1 _ rfl
 generalize enterA f69 [.im (.str s), .im (.int .u8 (c.toNat : Int))] = tm at *
 change tm.length = 8 at hlen
 simp only [f69,B0,B1,B2,List.replicate,Nat.reduceAdd,Nat.reduceSub,Nat.reduceLeDiff,Nat.reduceLT,Nat.reduceEqDiff,reduceCtorEq,Int.reduceEq,Int.reduceLT,Int.reduceLE,lenA,endK,resA,tupA,hlen,h0,h1,c1,leave_same]
theorem s68 (c : UInt8) (H : Heap) : L 68 [.im (.int .u8 (c.toNat : Int))] H = some (.im (.int .i64 (nibZ (c.toNat : Int))), H) := by
 have c1 := fun H => s69 hexW c H
 rw [hex_nib] at c1
 simp only [hexW] at c1
 rw [leq F68]
 obtain ⟨hlen, ha⟩ := enter_at (f := f68) (args := [.im (.int .u8 (c.toNat : Int))]) (Nat.le_of_ble_eq_true rfl)
 have h0 := ha 0 _ rfl
 generalize enterA f68 [.im (.int .u8 (c.toNat : Int))] = tm at *
 change tm.length = 5 at hlen
 simp only [f68,B0,B1,B2,List.replicate,Nat.reduceAdd,Nat.reduceSub,Nat.reduceLeDiff,Nat.reduceLT,Nat.reduceEqDiff,reduceCtorEq,Int.reduceEq,Int.reduceLT,Int.reduceLE,lenA,endK,resA,tupA,hlen,h0,c1,leave_same]
theorem nib_range (n : Int) : -1 ≤ nibZ n ∧ nibZ n < 16 := by
 unfold nibZ digZ
 split
 ·rename_i h
  simp only [Bool.and_eq_true,decide_eq_true_eq] at h
  omega
 ·split
  ·rename_i h
   simp only [Bool.and_eq_true,decide_eq_true_eq] at h
   omega
  ·omega
theorem nib0 : nibZ ((0 : UInt8).toNat : Int) = -1 := by decide
def shut (h : Int) : Bool := decide (h < 0) || (decide (h = 3) || (decide (h = 4) || decide (h = 6)))
def escP (b : List UInt8) (p : Nat) : Int × Nat × Bool :=
 if shut (nibZ ((peekB b p).toNat : Int)) = true then (0, p, true)
 else if (decide (nibZ ((peekB b (p + 1)).toNat : Int) < 0) || plnZ (16 * nibZ ((peekB b p).toNat : Int) + nibZ ((peekB b (p + 1)).toNat : Int))) = true then (0, p + 1, true)
 else (16 * nibZ ((peekB b p).toNat : Int) + nibZ ((peekB b (p + 1)).toNat : Int), p + 2, false)
theorem shl_all : ∀ h : Fin 16, binShift .shl .i64 (h.val : Int) 4 = some (.int .i64 (16 * (h.val : Int))) := by
 have hx : ∀ h : Fin 16, IntKind.i64.wrap ((h.val : Int) * 2 ^ 4) = 16 * (h.val : Int) := by decide +kernel
 intro h
 have : binShift .shl .i64 (h.val : Int) 4 = some (.int .i64 (IntKind.i64.wrap ((h.val : Int) * 2 ^ 4))) := rfl
 rw [this, hx]
theorem b_pack (h l : Int) (hh : 0 ≤ h ∧ h < 16) (hl : -1 ≤ l ∧ l < 16) : ∃ x y, binA .shl (.im (.int .i64 h)) (.im (.int .u64 4)) = some (.im (.int .i64 (16 * h))) ∧ binA .and (.im (.int .i64 l)) (.im (.int .i64 15)) = some (.im (.int .i64 x)) ∧
  binA .or (.im (.int .i64 (16 * h))) (.im (.int .i64 x)) = some (.im (.int .i64 y)) ∧ (0 ≤ l → IntKind.u8.wrap y = 16 * h + l) := by
 have h1 := shl_all ⟨h.toNat, by omega⟩
 simp only [Int.toNat_of_nonneg hh.1] at h1
 have hand : ∀ l : Fin 16, IntKind.i64.wrap (((BitVec.ofInt IntKind.i64.bits (l.val : Int)) &&& (BitVec.ofInt IntKind.i64.bits 15)).toNat : Int) = (l.val : Int) := by decide +kernel
 have hor : ∀ (h x : Fin 16), IntKind.u8.wrap (IntKind.i64.wrap (((BitVec.ofInt IntKind.i64.bits (16 * (h.val : Int))) ||| (BitVec.ofInt IntKind.i64.bits (x.val : Int))).toNat : Int)) = 16 * (h.val : Int) + (x.val : Int) := by decide +kernel
 refine ⟨_, _, ?_, rfl, rfl, fun hl0 => ?_⟩
 ·simp only [binA,isShift,if_true,h1]
 ·have e1 := hand ⟨l.toNat, by omega⟩
  simp only [Int.toNat_of_nonneg hl0] at e1
  rw [e1]
  have e2 := hor ⟨h.toNat, by omega⟩ ⟨l.toNat, by omega⟩
  simp only [Int.toNat_of_nonneg hl0,Int.toNat_of_nonneg hh.1] at e2
  exact e2
theorem s52 (b : List UInt8) (p ir : Nat) (H : Heap) (hir : H[ir]? = some (objS b p false)) (hb : b.length ≤ 4611686018427387904) (hp : p ≤ b.length) :
  L 52 [.ptr ir 0 0] H = some (.im (.int .u8 (escP b p).1), H.set ir (objS b (escP b p).2.1 (escP b p).2.2)) := by
 have hirl := (List.getElem?_eq_some_iff.1 hir).1
 have hset : ∀ o, (H.set ir o)[ir]? = some o := fun o => List.getElem?_set_self hirl
 have hself : H.set ir (objS b p false) = H := set_same hir
 have c1 := s29 b p ir false H hir hb
 have c2 := s29 b (p + 1) ir false (H.set ir (objS b (p + 1) false)) (hset _) hb
 have c3 := fun H => s68 (peekB b p) H
 have c4 := fun H => s68 (peekB b (p + 1)) H
 have hlv : ∀ q bd n, leave H false (.im (.int .u8 n)) (H.set ir (objS b q bd)) = (.im (.int .u8 n), H.set ir (objS b q bd)) := fun q bd n => leave_S hir rfl rfl
 have z1 : decide (((peekB b p).toNat : Int) = 0) = decide (peekB b p = 0) := byte_eq _ 0
 have z2 : decide (((peekB b (p + 1)).toNat : Int) = 0) = decide (peekB b (p + 1) = 0) := byte_eq _ 0
 have hlt := peek_lt (b := b) (p := p)
 have hlt2 := peek_lt (b := b) (p := p + 1)
 have r1 := nib_range ((peekB b p).toNat : Int)
 have r2 := nib_range ((peekB b (p + 1)).toNat : Int)
 have n1 : peekB b p = 0 → nibZ ((peekB b p).toNat : Int) = -1 := fun h => by rw [h]; exact nib0
 have n2 : peekB b (p + 1) = 0 → nibZ ((peekB b (p + 1)).toNat : Int) = -1 := fun h => by rw [h]; exact nib0
 rw [leq F52]
 obtain ⟨hlen, ha⟩ := enter_at (f := f52) (args := [.ptr ir 0 0]) (Nat.le_of_ble_eq_true rfl)
 have h0 := ha 0 _ rfl
 generalize enterA f52 [.ptr ir 0 0] = tm at *
 change tm.length = 69 at hlen
 unfold escP
 generalize peekB b p = c at *
 generalize peekB b (p + 1) = d at *
 generalize nibZ (c.toNat : Int) = h at *
 generalize nibZ (d.toNat : Int) = l at *
 simp only [objS] at *
 rcases Bool.eq_false_or_eq_true (shut h) with hs | hs
 ·rw [hs, if_pos rfl]
  unfold shut at hs
  rcases Bool.eq_false_or_eq_true (decide (c = 0)) with e0 | e0
  ·rw [e0] at z1
   simp only [f52,B0,B1,B2,List.replicate,Nat.reduceAdd,Nat.reduceSub,Nat.reduceLeDiff,Nat.reduceLT,Nat.reduceEqDiff,reduceCtorEq,Int.reduceEq,Int.reduceLT,Int.reduceLE,lenA,endK,resA,tupA,hlen,h0,hir,c1,c3,z1,hlv]
  ·rw [e0] at z1
   rcases Bool.eq_false_or_eq_true (decide (h < 0)) with e1 | e1
   ·simp only [f52,B0,B1,B2,List.replicate,Nat.reduceAdd,Nat.reduceSub,Nat.reduceLeDiff,Nat.reduceLT,Nat.reduceEqDiff,reduceCtorEq,Int.reduceEq,Int.reduceLT,Int.reduceLE,lenA,endK,resA,tupA,hlen,h0,hir,c1,c3,z1,e1,hlv]
   ·rcases Bool.eq_false_or_eq_true (decide (h = 3)) with e2 | e2
    ·simp only [f52,B0,B1,B2,List.replicate,Nat.reduceAdd,Nat.reduceSub,Nat.reduceLeDiff,Nat.reduceLT,Nat.reduceEqDiff,reduceCtorEq,Int.reduceEq,Int.reduceLT,Int.reduceLE,lenA,endK,resA,tupA,hlen,h0,hir,c1,c3,z1,e1,e2,hlv]
    ·rcases Bool.eq_false_or_eq_true (decide (h = 4)) with e3 | e3
     ·simp only [f52,B0,B1,B2,List.replicate,Nat.reduceAdd,Nat.reduceSub,Nat.reduceLeDiff,Nat.reduceLT,Nat.reduceEqDiff,reduceCtorEq,Int.reduceEq,Int.reduceLT,Int.reduceLE,lenA,endK,resA,tupA,hlen,h0,hir,c1,c3,z1,e1,e2,e3,hlv]
     ·rw [e1, e2, e3] at hs
      simp only [Bool.false_or] at hs
      simp only [f52,B0,B1,B2,List.replicate,Nat.reduceAdd,Nat.reduceSub,Nat.reduceLeDiff,Nat.reduceLT,Nat.reduceEqDiff,reduceCtorEq,Int.reduceEq,Int.reduceLT,Int.reduceLE,lenA,endK,resA,tupA,hlen,h0,hir,c1,c3,z1,e1,e2,e3,hs,hlv]
 ·rw [hs, if_neg (by simp)]
  unfold shut at hs
  simp only [Bool.or_eq_false_iff] at hs
  obtain ⟨e1, e2, e3, e4⟩ := hs
  have hh : 0 ≤ h ∧ h < 16 := ⟨by have := of_decide_eq_false e1; omega, r1.2⟩
  have hc0 : c ≠ 0 := fun e => by have := n1 e; omega
  have e0 : decide (c = 0) = false := decide_eq_false hc0
  rw [e0] at z1
  have hp1 := hlt hc0
  have hwr := wrap_nat (i := p) (by omega)
  have hwr2 := wrap_nat (i := p + 1) (by omega)
  obtain ⟨x, y, b1, b2, b3, b4⟩ := b_pack h l hh r2
  rcases Bool.eq_false_or_eq_true (decide (l < 0)) with f1 | f1
  ·rw [f1, Bool.true_or, if_pos rfl]
   rcases Bool.eq_false_or_eq_true (decide (d = 0)) with f0 | f0
   ·rw [f0] at z2
    simp only [f52,B0,B1,B2,List.replicate,Nat.reduceAdd,Nat.reduceSub,Nat.reduceLeDiff,Nat.reduceLT,Nat.reduceEqDiff,reduceCtorEq,Int.reduceEq,Int.reduceLT,Int.reduceLE,lenA,endK,resA,tupA,hlen,h0,hir,c1,c2,c3,c4,z1,z2,e1,e2,e3,e4,f1,b1,b2,b3,hset,hwr,List.set_set,hlv]
   ·rw [f0] at z2
    simp only [f52,B0,B1,B2,List.replicate,Nat.reduceAdd,Nat.reduceSub,Nat.reduceLeDiff,Nat.reduceLT,Nat.reduceEqDiff,reduceCtorEq,Int.reduceEq,Int.reduceLT,Int.reduceLE,lenA,endK,resA,tupA,hlen,h0,hir,c1,c2,c3,c4,z1,z2,e1,e2,e3,e4,f1,b1,b2,b3,hset,hwr,List.set_set,hlv]
  ·have hl0 : 0 ≤ l := by have := of_decide_eq_false f1; omega
   have hd0 : d ≠ 0 := fun e => by have := n2 e; omega
   have f0 : decide (d = 0) = false := decide_eq_false hd0
   rw [f0] at z2
   have b4 := b4 hl0
   have hp2 := hlt2 hd0
   have c5 := fun H => s51 (16 * h + l) H
   rw [f1, Bool.false_or]
   rcases Bool.eq_false_or_eq_true (plnZ (16 * h + l)) with g | g
   ·rw [g] at c5
    rw [g, if_pos rfl]
    simp only [f52,B0,B1,B2,List.replicate,Nat.reduceAdd,Nat.reduceSub,Nat.reduceLeDiff,Nat.reduceLT,Nat.reduceEqDiff,reduceCtorEq,Int.reduceEq,Int.reduceLT,Int.reduceLE,lenA,endK,resA,tupA,hlen,h0,hir,c1,c2,c3,c4,c5,z1,z2,e1,e2,e3,e4,f1,b1,b2,b3,b4,hset,hwr,List.set_set,hlv]
   ·rw [g] at c5
    rw [g, if_neg (by simp)]
    simp only [f52,B0,B1,B2,List.replicate,Nat.reduceAdd,Nat.reduceSub,Nat.reduceLeDiff,Nat.reduceLT,Nat.reduceEqDiff,reduceCtorEq,Int.reduceEq,Int.reduceLT,Int.reduceLE,lenA,endK,resA,tupA,hlen,h0,hir,c1,c2,c3,c4,c5,z1,z2,e1,e2,e3,e4,f1,b1,b2,b3,b4,hset,hwr,hwr2,List.set_set,hlv]
end Go.Abs.Seat
end
section
set_option linter.unusedVariables false
set_option linter.unusedSimpArgs false
namespace Go.Abs.Seat
open Go.Proofs
def textW : List UInt8 := [116, 101, 120, 116, 95, 111, 102]
def strN (b : List UInt8) : Nat → List UInt8 → Nat → List UInt8 × Nat × Bool
 | 0, out, p => ([], p, true)
 | f + 1, out, p => if peekB b p = 34 then (out, p + 1, false)
  else if (decide (out.length = 256) || (!plnZ ((peekB b p).toNat : Int) && !decide (peekB b p = 92))) = true then ([], p, true)
  else if peekB b p = 92 then (if (escP b (p + 1)).2.2 = true then ([], (escP b (p + 1)).2.1, true) else strN b f (out ++ [UInt8.ofNat (escP b (p + 1)).1.toNat]) (escP b (p + 1)).2.1)
  else strN b f (out ++ [peekB b p]) (p + 1)
def strP (b : List UInt8) (p : Nat) : NT × Nat × Bool :=
 match strN b (b.length + 1 - p) [] p with
 |(_, q, true) => (zeroN, q, true)
 |(t, q, false) => (mkN textW 0 t zeroT [], q, false)
theorem bytesOf_map' : ∀ l : List UInt8, bytesOf (l.map fun b => [byteDat b]) = some l
 | [] => rfl
 | b :: l => by
  have h := bytesOf_map' l
  simp only [List.map_cons,byteDat,bytesOf]
  simp only [byteDat] at h
  rw [h]
  simp
theorem el_byte {H : Heap} {c : UInt8} : elems H 1 (.im (.sl 1 [[.int .u8 (c.toNat : Int)]])) = some [[byteDat c]] := by simp [elems, byteDat]
theorem tD_byte (n : Int) : toDatss [[AV.im (.int .u8 n)]] = some [[.int .u8 n]] := _root_.id rfl
theorem esc_byte (b : List UInt8) (p : Nat) : (((UInt8.ofNat (escP b p).1.toNat).toNat : Nat) : Int) = (escP b p).1 := by
 have h : 0 ≤ (escP b p).1 ∧ (escP b p).1 < 256 := by
  unfold escP
  split
  ·simp
  ·rename_i hs
   split
   ·simp
   ·rename_i hl
    simp only [Bool.not_eq_true,Bool.or_eq_false_iff] at hl hs
    have r1 := nib_range ((peekB b p).toNat : Int)
    have r2 := nib_range ((peekB b (p + 1)).toNat : Int)
    unfold shut at hs
    simp only [Bool.or_eq_false_iff] at hs
    have h1 := of_decide_eq_false hs.1
    have h2 := of_decide_eq_false hl.1
    simp only
    omega
 rw [UInt8.toNat_ofNat']
 omega
theorem esc_le {b : List UInt8} {p : Nat} (hp : p ≤ b.length) : p ≤ (escP b p).2.1 ∧ (escP b p).2.1 ≤ b.length := by
 unfold escP
 split
 ·exact ⟨Nat.le_refl _, hp⟩
 ·rename_i hs
  have hc : p < b.length := peek_lt fun e => by rw [e, nib0] at hs; exact hs rfl
  split
  ·exact ⟨by simp, by simp; omega⟩
  ·rename_i hl
   have hd : p + 1 < b.length := peek_lt fun e => by rw [e, nib0] at hl; exact hl rfl
   exact ⟨by simp, by simp; omega⟩
theorem l30 (b : List UInt8) (hb : b.length ≤ 4611686018427387904) (ir N : Nat) (hirN : ir < N) (H0 : Heap) (hN : N = H0.length) :
  ∀ (f : Nat) (out : List UInt8) (p : Nat) (tm : List AV) (Hc : Heap) (v : AV) (t : List UInt8) (q : Nat) (bad : Bool), strN b f out p = (t, q, bad) → b.length < p + f → p ≤ b.length → out.length ≤ 256 → tm.length = 58 → tm.getD 0 undefA = .ptr ir 0 0 → tm.getD 2 undefA = .ptr N 0 0 → tm.getD 3 undefA = v →
   Gath 5 1 (N + 1) v Hc (out.map fun b => [byteDat b]) → N + 1 ≤ Hc.length → Hc[ir]? = some (objS b p false) → Hc[N]? = some zO → But N ir H0 Hc →
  ∃ e tm' H', Λ g30_0 tm Hc = some (e, tm', H') ∧ (e = .ret ∧ tm'.length = 58 ∧ tm'.getD 2 undefA = .ptr N 0 0 ∧ H'[N]? = some (if bad = true then zO else nO textW t 0) ∧ H'[ir]? = some (objS b q bad) ∧ But N ir H0 H') := by
 intro f
 induction f with
 | zero => intro out p tm Hc v t q bad hS hf hp; omega
 | succ f ih =>
  intro out p tm Hc v t q bad hS hf hp ho hlen h0 h2 h3 hG hHl hir hz hbut
  have hirl := (List.getElem?_eq_some_iff.1 hir).1
  have hset : ∀ o, (Hc.set ir o)[ir]? = some o := fun o => List.getElem?_set_self hirl
  have hsetN : ∀ o, (Hc.set ir o)[N]? = some zO := fun o => by rw [List.getElem?_set_ne (by omega)]; exact hz
  have hgN : ∀ (X : Heap) o, N < X.length → (X.set N o)[N]? = some o := fun X o h => List.getElem?_set_self h
  have hgI : ∀ (X : Heap) o, (X.set N o)[ir]? = X[ir]? := fun X o => List.getElem?_set_ne (by omega)
  have bset : ∀ (X : Heap) o, But N ir H0 X → But N ir H0 (X.set ir o) := fun X o h => h.set o
  have bsetN : ∀ (X : Heap) o, But N ir H0 X → But N ir H0 (X.set N o) := fun X o h => ⟨by have := h.1; simpa using this, fun i hi hne => by rw [List.getElem?_set_ne (by omega)]; exact h.2 i hi hne⟩
  have c1 := s29 b p ir false Hc hir hb
  have hvc : v = AV.nils ∧ out = [] ∨ ∃ tok, v = .asl 1 (out.map fun b => [byteDat b]) tok := by
   rcases hG with ⟨he, rfl⟩ | ⟨_, tok, _, rfl, _⟩
   ·exact .inl ⟨rfl, by simpa using he⟩
   ·exact .inr ⟨tok, rfl⟩
  have hlA : lenA v = some out.length := by
   rcases hvc with ⟨rfl, rfl⟩ | ⟨tok, rfl⟩
   ·rfl
   ·simp [lenA]
  have hlt := peek_lt (b := b) (p := p)
  have z34 : decide (((peekB b p).toNat : Int) = 34) = decide (peekB b p = 34) := byte_eq _ 34
  have z92 : decide (((peekB b p).toNat : Int) = 92) = decide (peekB b p = 92) := byte_eq _ 92
  have cpl := fun H => s51 ((peekB b p).toNat : Int) H
  have hcast : decide ((out.length : Int) = 256) = decide (out.length = 256) := by
   by_cases h : out.length = 256
   ·rw [decide_eq_true h, decide_eq_true (by omega)]
   ·rw [decide_eq_false h, decide_eq_false (by omega)]
  have pl0 : plnZ ((0 : UInt8).toNat : Int) = false := by decide
  unfold strN at hS
  generalize hpk : peekB b p = c at *
  by_cases hq : c = 34
  ·-- the end
   have hcp := hlt (by rw [hq]; decide)
   have hwr := wrap_nat (i := p) (by omega)
   rw [decide_eq_true hq] at z34
   rw [if_pos hq] at hS
   simp only [Prod.mk.injEq] at hS
   obtain ⟨rfl, rfl, rfl⟩ := hS
   simp only [Bool.false_eq_true,if_false]
   rw [g30_0_eq]
   simp only [objS,zO,nO,textW] at *
   rcases hvc with ⟨rfl, rfl⟩ | ⟨tok, rfl⟩
   all_goals simp only [w30_0,B0,B1,B2,List.replicate,Nat.reduceAdd,Nat.reduceSub,Nat.reduceLeDiff,Nat.reduceLT,Nat.reduceEqDiff,reduceCtorEq,Int.reduceEq,Int.reduceLT,Int.reduceLE,lenA,bytesOf_map',hlen,h0,h2,h3,c1,z34,hwr,hir,hset,hsetN,K30_ret]
   all_goals refine ⟨_, _, _, rfl, rfl, by simp only [List.length_set,hlen], by simp only [B3,Nat.reduceLT,Nat.reduceEqDiff,hlen,h2], hgN _ _ (by simp; omega), ?_, bsetN _ _ (bset _ _ hbut)⟩
   all_goals rw [hgI]; exact hset _
  ·rw [decide_eq_false hq] at z34
   rw [if_neg hq] at hS
   rcases Bool.eq_false_or_eq_true (decide (out.length = 256) || (!plnZ (c.toNat : Int) && !decide (c = 92))) with hbd | hbd
   ·-- refused
    rw [hbd, if_pos rfl] at hS
    simp only [Prod.mk.injEq] at hS
    obtain ⟨rfl, rfl, rfl⟩ := hS
    simp only [if_true]
    rw [g30_0_eq]
    simp only [objS,zO] at *
    rcases Bool.eq_false_or_eq_true (decide (out.length = 256)) with e1 | e1
    ·simp only [w30_0,B0,B1,B2,List.replicate,Nat.reduceAdd,Nat.reduceSub,Nat.reduceLeDiff,Nat.reduceLT,Nat.reduceEqDiff,reduceCtorEq,Int.reduceEq,Int.reduceLT,Int.reduceLE,hlA,hlen,h0,h2,h3,c1,z34,hcast,e1,hir,hset,hsetN,K30_ret]
     refine ⟨_, _, _, rfl, rfl, by simp only [List.length_set,hlen], by simp only [B3,Nat.reduceLT,Nat.reduceEqDiff,hlen,h2], hgN _ _ (by simp; omega), ?_, bsetN _ _ (bset _ _ hbut)⟩
     rw [hgI]; exact hset _
    ·rw [e1, Bool.false_or, Bool.and_eq_true] at hbd
     obtain ⟨e2, e3⟩ := hbd
     have e2' : plnZ (c.toNat : Int) = false := by simpa using e2
     have e3' : decide (c = 92) = false := by simpa using e3
     rw [e2'] at cpl
     rw [e3'] at z92
     simp only [w30_0,B0,B1,B2,List.replicate,Nat.reduceAdd,Nat.reduceSub,Nat.reduceLeDiff,Nat.reduceLT,Nat.reduceEqDiff,reduceCtorEq,Int.reduceEq,Int.reduceLT,Int.reduceLE,hlA,hlen,h0,h2,h3,c1,z34,hcast,e1,cpl,z92,hir,hset,hsetN,K30_ret]
     refine ⟨_, _, _, rfl, rfl, by simp only [List.length_set,hlen], by simp only [B3,Nat.reduceLT,Nat.reduceEqDiff,hlen,h2], hgN _ _ (by simp; omega), ?_, bsetN _ _ (bset _ _ hbut)⟩
     rw [hgI]; exact hset _
   ·rw [hbd, if_neg (by simp)] at hS
    rw [Bool.or_eq_false_iff] at hbd
    obtain ⟨e1, e23⟩ := hbd
    have hcp : p < b.length := by
     refine hlt fun e => ?_
     subst e
     rw [pl0] at e23
     simp at e23
    have hol : out.length < 256 := by have := of_decide_eq_false e1; omega
    have hwr := wrap_nat (i := p) (by omega)
    by_cases h92 : c = 92
    ·-- an escape
     rw [if_pos h92] at hS
     rw [decide_eq_true h92] at z92
     have hesc := s52 b (p + 1) ir (Hc.set ir (objS b (p + 1) false)) (hset _) hb (by omega)
     have hel := esc_le (b := b) (p := p + 1) (by omega)
     have hby := esc_byte b (p + 1)
     generalize escP b (p + 1) = E at *
     obtain ⟨ev1, ev2, ev3⟩ := E
     simp only at hS hesc hel hby
     rw [← hby] at hesc
     generalize UInt8.ofNat ev1.toNat = ec at *
     simp only [List.set_set] at hesc
     obtain ⟨tok, H4, hap, hG4, hl4, hlow4, hob4⟩ := (hG.set_obj (id := ir) (t := none) (by simpa only [objS] using hir) (objS b ev2 ev3)).grow (bytes := 1) (by simpa using hHl) [byteDat ec] (by simp; omega) (by decide)
     have g4i : H4[ir]? = some (objS b ev2 ev3) := hob4 _ _ _ (by simpa only [objS] using hset (objS b ev2 ev3))
     have g4n : H4[N]? = some zO := hob4 _ _ _ (hsetN _)
     have bH4 : But N ir H0 H4 := ⟨by have := hbut.1; simp at hl4; omega, fun i hi hne => by rw [hlow4 i (by omega), List.getElem?_set_ne (fun e => hne e.symm)]; exact hbut.2 i hi hne⟩
     have pl92 : (plnZ ((92 : UInt8).toNat : Int)) = false := by decide
     rw [h92, pl92] at cpl
     have hob' : ∀ (bd : Bool), ev3 = bd → H4[ir]? = some (.obj none [[.im (.str b), .im (.int .i64 (ev2 : Int)), .im (.bool bd)]]) := fun bd h => by rw [← h]; exact g4i
     rw [h92] at c1 z34
     cases ev3 with
     | true =>
      rw [if_pos rfl] at hS
      simp only [Prod.mk.injEq] at hS
      obtain ⟨rfl, rfl, rfl⟩ := hS
      simp only [if_true]
      rw [g30_0_eq]
      simp only [objS,zO] at *
      rw [h92] at z92
      simp only [w30_0,B0,B1,B2,List.replicate,Nat.reduceAdd,Nat.reduceSub,Nat.reduceLeDiff,Nat.reduceLT,Nat.reduceEqDiff,reduceCtorEq,Int.reduceEq,Int.reduceLT,Int.reduceLE,hlA,hlen,h0,h2,h3,c1,z34,hcast,e1,cpl,z92,hir,hset,hsetN,hwr,hesc,tD_byte,el_byte,hap,g4i,g4n,K30_ret]
      refine ⟨_, _, _, rfl, rfl, by simp only [List.length_set,hlen], by simp only [B3,Nat.reduceLT,Nat.reduceEqDiff,hlen,h2], hgN _ _ ((List.getElem?_eq_some_iff.1 g4n).1), ?_, bsetN _ _ bH4⟩
      rw [hgI]; exact g4i
     | false =>
      rw [if_neg (by simp)] at hS
      have key := fun tm1 => ih (out ++ [ec]) ev2 tm1 H4 (.asl 1 ((out ++ [ec]).map fun b => [byteDat b]) tok) t q bad hS (by omega) (by omega) (by simp; omega)
      simp only [List.map_append,List.map_cons,List.map_nil] at key
      rw [g30_0_eq]
      simp only [objS,zO] at *
      rw [h92] at z92
      simp only [w30_0,B0,B1,B2,List.replicate,Nat.reduceAdd,Nat.reduceSub,Nat.reduceLeDiff,Nat.reduceLT,Nat.reduceEqDiff,reduceCtorEq,Int.reduceEq,Int.reduceLT,Int.reduceLE,hlA,hlen,h0,h2,h3,c1,z34,hcast,e1,cpl,z92,hir,hset,hsetN,hwr,hesc,tD_byte,el_byte,hap,g4i,g4n,K30_goto0]
      refine ex_imp (key _ ?_ ?_ ?_ ?_ hG4 (by have := (List.getElem?_eq_some_iff.1 g4n).1; omega) g4i g4n bH4) fun _ _ _ h => h
      all_goals simp only [B3,Nat.reduceLT,Nat.reduceEqDiff,hlen,h0,h2]
    ·rw [if_neg h92] at hS
     have e2 : plnZ (c.toNat : Int) = true := by
      rw [decide_eq_false h92] at e23
      simpa using e23
     rw [e2] at cpl
     rw [decide_eq_false h92] at z92
     obtain ⟨tok, H4, hap, hG4, hl4, hlow4, hob4⟩ := (hG.set_obj (id := ir) (t := none) (by simpa only [objS] using hir) (objS b (p + 1) false)).grow (bytes := 1) (by simpa using hHl) [byteDat c] (by simp; omega) (by decide)
     have g4i : H4[ir]? = some (objS b (p + 1) false) := hob4 _ _ _ (by simpa only [objS] using hset (objS b (p + 1) false))
     have g4n : H4[N]? = some zO := hob4 _ _ _ (hsetN _)
     have bH4 : But N ir H0 H4 := ⟨by have := hbut.1; simp at hl4; omega, fun i hi hne => by rw [hlow4 i (by omega), List.getElem?_set_ne (fun e => hne e.symm)]; exact hbut.2 i hi hne⟩
     have key := fun tm1 => ih (out ++ [c]) (p + 1) tm1 H4 (.asl 1 ((out ++ [c]).map fun b => [byteDat b]) tok) t q bad hS (by omega) (by omega) (by simp; omega)
     simp only [List.map_append,List.map_cons,List.map_nil] at key
     rw [g30_0_eq]
     simp only [objS,zO] at *
     simp only [w30_0,B0,B1,B2,List.replicate,Nat.reduceAdd,Nat.reduceSub,Nat.reduceLeDiff,Nat.reduceLT,Nat.reduceEqDiff,reduceCtorEq,Int.reduceEq,Int.reduceLT,Int.reduceLE,hlA,hlen,h0,h2,h3,c1,z34,hcast,e1,cpl,z92,hir,hset,hsetN,hwr,tD_byte,el_byte,hap,g4i,g4n,K30_goto0]
     refine ex_imp (key _ ?_ ?_ ?_ ?_ hG4 (by have := (List.getElem?_eq_some_iff.1 g4n).1; omega) g4i g4n bH4) fun _ _ _ h => h
     all_goals simp only [B3,Nat.reduceLT,Nat.reduceEqDiff,hlen,h0,h2]
theorem s30 (b : List UInt8) (p ir : Nat) (H : Heap) (hir : H[ir]? = some (objS b p false)) (hb : b.length ≤ 4611686018427387904) (hp : p ≤ b.length) :
  L 30 [.ptr ir 0 0] H = some (.im (.agg (encN (strP b p).1)), H.set ir (objS b (strP b p).2.1 (strP b p).2.2)) := by
 have hirl := (List.getElem?_eq_some_iff.1 hir).1
 have g0 : (H ++ [zO])[ir]? = some (objS b p false) := by rw [get_app hirl]; exact hir
 have gN : (H ++ [zO])[H.length]? = some zO := by simp
 rw [leq F30]
 obtain ⟨hlen, ha⟩ := enter_at (f := f30) (args := [.ptr ir 0 0]) (Nat.le_of_ble_eq_true rfl)
 have h0 := ha 0 _ rfl
 generalize enterA f30 [.ptr ir 0 0] = tm at *
 change tm.length = 58 at hlen
 unfold strP
 cases hS : strN b (b.length + 1 - p) [] p with
 | mk t qb =>
  obtain ⟨q, bad⟩ := qb
  have key := fun tm1 => l30 b hb ir H.length hirl H rfl (b.length + 1 - p) [] p tm1 (H ++ [zO]) .nils t q bad hS (by omega) hp (by simp)
  simp only [f30,e30_0,c30_0_eq,s30b,B0,B1,B2,List.replicate,Nat.reduceAdd,Nat.reduceSub,Nat.reduceLeDiff,Nat.reduceLT,Nat.reduceEqDiff,reduceCtorEq,Int.reduceEq,Int.reduceLT,Int.reduceLE,lenA,hlen,h0]
  rw [← g30_0_eq]
  generalize hr2 : thenL (Λ g30_0 _ _) _ = r
  refine Exists.elim (thenL_inv hr2 (key _ ?_ ?_ ?_ ?_ (.inl ⟨rfl, rfl⟩) (by simp) g0 gN (But.refl.app (Nat.le_refl _) _))) ?_
  iterate 4 simp only [B3,Nat.reduceLT,Nat.reduceEqDiff,hlen,h0]
  clear hr2 key
  rintro e ⟨tm1, H1, ⟨rfl, k1, k2, k3, k4, k5⟩, rfl⟩
  cases bad with
  | true =>
   simp only [if_true] at k3
   have hlv := leave_but (keep := false) (r := .agg [.im (.str []), .im (.int .i64 0), .im (.str []), .im (.int .i64 0), .nils, .nils]) k5 k4 rfl rfl hirl
   simp only [zeroN,enc_flat]
   simp only [zO] at k3
   simp only [B0,B1,B2,List.replicate,Nat.reduceAdd,Nat.reduceSub,Nat.reduceLeDiff,Nat.reduceLT,Nat.reduceEqDiff,reduceCtorEq,Int.reduceEq,Int.reduceLT,Int.reduceLE,lenA,endK,resA,tupA,k1,k2,k3]
   exact congrArg some hlv
  | false =>
   simp only [Bool.false_eq_true,if_false] at k3
   have hlv := leave_but (keep := false) (r := .agg [.im (.str textW), .im (.int .i64 0), .im (.str t), .im (.int .i64 0), .nils, .nils]) k5 k4 rfl rfl hirl
   simp only [enc_flat]
   simp only [nO] at k3
   simp only [B0,B1,B2,List.replicate,Nat.reduceAdd,Nat.reduceSub,Nat.reduceLeDiff,Nat.reduceLT,Nat.reduceEqDiff,reduceCtorEq,Int.reduceEq,Int.reduceLT,Int.reduceLE,lenA,endK,resA,tupA,k1,k2,k3]
   exact congrArg some hlv
end Go.Abs.Seat
end
section
set_option linter.unusedVariables false
set_option linter.unusedSimpArgs false
namespace Go.Abs.Seat
open Go.Proofs
def begB (w r : List UInt8) : Bool := decide (w.length ≤ r.length) && decide (r.take w.length = w)
end Go.Abs.Seat
end
section
set_option linter.unusedVariables false
set_option linter.unusedSimpArgs false
namespace Go.Abs.Seat
open Go.Proofs
def lcp : List UInt8 → List UInt8 → Nat
 | a :: w, b :: r => if b = a then lcp w r + 1 else 0
 | _, _ => 0
def skipK (d kd : Int) : Bool := decide (wordK kd = []) || (decide (d = 1) && decide (0 < cntK kd))
def bestL (d : Int) (r : List UInt8) : List Int → Nat → Nat
 | [], b => b
 | kd :: l, b => bestL d r l (if skipK d kd = true then b else if b < lcp (wordK kd) r then lcp (wordK kd) r else b)
def kindsF : Nat → Nat → List Int
 | 0, _ => []
 | m + 1, i => (i : Int) :: kindsF m (i + 1)
end Go.Abs.Seat
end
section
set_option linter.unusedVariables false
set_option linter.unusedSimpArgs false
namespace Go.Abs.Seat
open Go.Proofs
def okK (d : Int) (r : List UInt8) (kd : Int) : Bool := !skipK d kd && begB (wordK kd) r
def scanK (rd : Nat → Nat × KT × Bool) (s : List UInt8) (k : Nat) (kd : Int) : Nat × KT × Bool :=
 match readL rd s (cntK kd).toNat 0 (k + (wordK kd).length) [] with
 |(k', none) => (k', zeroT, false)
 |(k', some l) => if cntK kd = 0 then (k', mkT kd l, true) else (if signB s k' 41 = true then (k' + 1, mkT kd l, true) else (k', zeroT, false))
def scanP (s : List UInt8) : Nat → Nat → Nat × KT × Bool
 | 0, k => (k, zeroT, false)
 | d + 1, k => match (kindsF 9 1).find? (okK ((d : Int) + 1) (s.drop k)) with
  | some kd => scanK (scanP s d) s k kd
  | none => (k + bestL ((d : Int) + 1) (s.drop k) (kindsF 9 1) 0, zeroT, false)
theorem lcp_le : ∀ (w r : List UInt8), lcp w r ≤ r.length ∧ lcp w r ≤ w.length
 | [], r => by cases r <;> simp [lcp]
 | a :: w, [] => by simp [lcp]
 | a :: w, b :: r => by
  have := lcp_le w r
  simp only [lcp]
  split <;> simp <;> omega
end Go.Abs.Seat
end
section
set_option linter.unusedVariables false
set_option linter.unusedSimpArgs false
namespace Go.Abs.Seat
open Go.Proofs
def parseR (s : List UInt8) : KT × Nat × Bool :=
 if (scanP s 6 0).2.2 = true ∧ ¬ (scanP s 6 0).1 < s.length then ((scanP s 6 0).2.1, 0, true) else (zeroT, (scanP s 6 0).1, false)
end Go.Abs.Seat
end
section
set_option linter.unusedVariables false
set_option linter.unusedSimpArgs false
namespace Go.Abs.Seat
open Go.Proofs
mutual
def slim : KT → Prop
 | .mk _ _ args => args.length ≤ 1000000 ∧ slims args
def slims : List KT → Prop
 | [] => True
 | a :: l => slim a ∧ slims l
end
theorem slims_mem : ∀ {l : List KT}, slims l → ∀ a ∈ l, slim a
 | [], _, a, h => by simp at h
 | b :: l, h, a, hm => by
  simp only [slims] at h
  rcases List.mem_cons.1 hm with rfl | hm
  ·exact h.1
  ·exact slims_mem h.2 a hm
mutual
theorem narrow_slim : ∀ t : KT, narrow t → slim t
 | .mk _ _ args, h => by
  simp only [narrow] at h
  simp only [slim]
  exact ⟨by omega, narrows_slims args h.2⟩
theorem narrows_slims : ∀ l : List KT, narrows l → slims l
 | [], _ => by simp only [slims]
 | a :: l, h => by
  simp only [narrows] at h
  simp only [slims]
  exact ⟨narrow_slim a h.1, narrows_slims l h.2⟩
end
theorem l23 (args : List KT) (s : Nat) (hs : args = [] ∨ s = 2) (hn : args.length ≤ 1000000) (H0 : Heap)
  (hc : ∀ a ∈ args, ∀ H, L 23 [.im (.agg (encT a))] H = some (.im (.agg (encT (cloneT a))), H)) :
  ∀ (m i : Nat), i + m = args.length → ∀ (tm : List AV) (M : Heap) (v : AV), Gath 34 2 H0.length v (H0 ++ M) ((args.take i).map fun a => encT (cloneT a)) → tm.length = 23 → tm.getD 3 undefA = v → tm.getD 7 undefA = .im (.sl s (args.map encT)) → tm.getD 8 undefA = .im (.int .i64 args.length) → tm.getD 9 undefA = .im (.int .i64 i) →
  ∃ e tm' H', Λ c23_0 tm (H0 ++ M) = some (e, tm', H') ∧ tm'.length = 23 ∧ e = .exit 0 ∧ tm'.getD 1 undefA = tm.getD 1 undefA ∧ tm'.getD 2 undefA = tm.getD 2 undefA ∧ ∃ M', H' = H0 ++ M' ∧ Gath 34 2 H0.length (tm'.getD 3 undefA) (H0 ++ M') (args.map fun a => encT (cloneT a))
 | 0, i, hi, tm, M, v, hG, hlen, h3, h7, h8, h9 => by
  have hc : decide ((i : Int) < (args.length : Int)) = false := decide_eq_false (by omega)
  rw [l23_0]
  simp only [b23_0,exec0,xreg,xops,wantedA,aopc,aop,ev,putA,endK,resA,tupA,List.length_cons,List.length_nil,List.replicate,List.cons_append,List.nil_append,List.append_nil,List.append_assoc,gs_same,gs_ne,gq_same,gq_ne,List.length_set,List.map_cons,List.map_nil,cellsOf,List.all_cons,List.all_nil,cellOk,boxTy,Bool.and_true,Bool.and_self,if_true,ite_true,ite_false,loadAt,storeAt,setAt,hget,hget0,hset,hset0,List.getElem?_cons_zero,List.getElem?_cons_succ,List.set_cons_zero,List.set_cons_succ,Nat.add_zero,Nat.zero_add,Nat.reduceAdd,Nat.reduceSub,Nat.reduceLeDiff,Nat.reduceLT,Nat.reduceEqDiff,Nat.le_refl,and_self,and_true,true_and,mkAgg,toIms,List.drop_zero,List.drop_succ_cons,List.take_succ_cons,List.take_zero,List.length_append,binA,isShift,binInt,binBool,unA,Bool.false_eq_true,if_false,partA,fillA,fillE,List.take_nil,Nat.zero_ne_one,Nat.one_ne_zero,not_false_eq_true,ne_eq,Nat.succ_ne_self,reduceCtorEq,Int.reduceEq,Int.reduceLT,Int.reduceLE,decide_true,decide_false,lenA,beq_self_eq_true,beq_true,beq_false,Bool.not_true,Bool.not_false,hlen,h3,h7,h8,h9,hc]
  have e : args.take i = args := List.take_of_length_le (by omega)
  rw [e] at hG
  exact ⟨_, _, _, rfl, by simp only [List.length_set,hlen], rfl, by simp only [B3,Nat.reduceLT,Nat.reduceEqDiff,hlen], by simp only [B3,Nat.reduceLT,Nat.reduceEqDiff,hlen], M, rfl, by simp only [B3,Nat.reduceLT,Nat.reduceEqDiff,hlen,h3]; exact hG⟩
 | m + 1, i, hi, tm, M, v, hG, hlen, h3, h7, h8, h9 => by
  have hlt : i < args.length := by omega
  obtain ⟨w, hwi⟩ : ∃ w, args[i]? = some w := ⟨_, List.getElem?_eq_getElem hlt⟩
  have hs2 : s = 2 := by
   rcases hs with hs | hs
   ·subst hs; simp at hlt
   ·exact hs
  subst hs2
  have hc' : decide ((i : Int) < (args.length : Int)) = true := decide_eq_true (by omega)
  have hix := idx_nat (n := (args.map encT).length) (i := i) (by simpa using hlt)
  have hgw : (args.map encT)[i]? = some (encT w) := by rw [List.getElem?_map, hwi]; rfl
  have hcall := hc w (List.mem_of_getElem? hwi)
  have hwr := wrap_nat (i := i) (by omega)
  have key := l23 args 2 hs hn H0 hc m (i + 1) (by omega)
  have hG2 := hG.more [.obj none [(encT w).map .im]]
  rw [List.append_assoc] at hG2
  obtain ⟨v', M', hap, hG', hok, _⟩ := hG2.push (bytes := 32) (encT (cloneT w)) (by simp; omega) (by decide)
  have htk : (args.take (i + 1)).map (fun a => encT (cloneT a)) = (args.take i).map (fun a => encT (cloneT a)) ++ [encT (cloneT w)] := by
   rw [List.take_add_one, hwi]; simp
  rw [← htk] at hG'
  have hset0 : ∀ o o' : HO, (H0 ++ (M ++ [o])).set (H0.length + M.length) o' = H0 ++ (M ++ [o']) := fun o o' => by
   rw [← List.append_assoc, ← List.append_assoc, ← List.length_append, Go.Abs.hset0]; rfl
  have hgetA : ∀ o, (H0 ++ (M ++ [o]))[H0.length + M.length]? = some o := fun o => by
   rw [← List.append_assoc, ← List.length_append, Go.Abs.hget0]; rfl
  rw [l23_0]
  generalize hcw : cloneT w = cw at *
  obtain ⟨k, s', ts⟩ := w
  obtain ⟨k2, s2, ts2⟩ := cw
  simp only [encT,List.map_cons,List.map_nil] at hcall hgw hap
  simp only [b23_0,exec0,xreg,xops,wantedA,aopc,aop,ev,putA,endK,resA,tupA,List.length_cons,List.length_nil,List.replicate,List.cons_append,List.nil_append,List.append_nil,List.append_assoc,gs_same,gs_ne,gq_same,gq_ne,List.length_set,List.map_cons,List.map_nil,cellsOf,List.all_cons,List.all_nil,cellOk,boxTy,Bool.and_true,Bool.and_self,if_true,ite_true,ite_false,loadAt,storeAt,setAt,hget,hget0,hset,hset0,List.getElem?_cons_zero,List.getElem?_cons_succ,List.set_cons_zero,List.set_cons_succ,Nat.add_zero,Nat.zero_add,Nat.reduceAdd,Nat.reduceSub,Nat.reduceLeDiff,Nat.reduceLT,Nat.reduceEqDiff,Nat.le_refl,and_self,and_true,true_and,mkAgg,toIms,List.drop_zero,List.drop_succ_cons,List.take_succ_cons,List.take_zero,List.length_append,binA,isShift,binInt,binBool,unA,Bool.false_eq_true,if_false,partA,fillA,fillE,List.take_nil,Nat.zero_ne_one,Nat.one_ne_zero,not_false_eq_true,ne_eq,Nat.succ_ne_self,reduceCtorEq,Int.reduceEq,Int.reduceLT,Int.reduceLE,decide_true,decide_false,lenA,beq_self_eq_true,beq_true,beq_false,Bool.not_true,Bool.not_false,hlen,h3,h7,h8,h9,hc',hix,hgw,hcall,hwr,hgetA,hset0,toDatss,toDats,toDat,elems,hap]
  refine ex_imp (key _ M' v' hG' ?_ ?_ ?_ ?_ ?_) ?_
  iterate 5 simp only [B3,Nat.reduceLT,Nat.reduceEqDiff,hlen,h3,h7,h8,h9]
  rintro e tm' H' ⟨hl', he, g1, g2, hM⟩
  refine ⟨hl', he, ?_, ?_, hM⟩
  ·rw [g1]; simp only [B3,Nat.reduceLT,Nat.reduceEqDiff,hlen]
  ·rw [g2]; simp only [B3,Nat.reduceLT,Nat.reduceEqDiff,hlen]
theorem s23 : ∀ (t : KT), okT t → slim t → ∀ H, L 23 [.im (.agg (encT t))] H = some (.im (.agg (encT (cloneT t))), H)
 | .mk k s args, hok, hnw, H => by
  simp only [okT] at hok
  obtain ⟨hs, _, hoks⟩ := hok
  simp only [slim] at hnw
  obtain ⟨hn, hnws⟩ := hnw
  have hc : ∀ a ∈ args, ∀ H, L 23 [.im (.agg (encT a))] H = some (.im (.agg (encT (cloneT a))), H) := fun a ha H => s23 a (okTs_mem hoks a ha) (slims_mem hnws a ha) H
  have key := l23 args s hs (by omega) (H ++ [.obj none [[.im (.int .i64 k), .im (.sl s (encTs args))]], .obj none [[.im (.int .i64 0), .nils]]]) hc args.length 0 (by omega)
  have z : ((0 : Nat) : Int) = 0 := rfl
  simp only [z] at key
  have hel : (encTs args).length = args.length := by rw [encTs_map]; simp
  simp only [encT]
  rw [leq F23]
  obtain ⟨hlen, ha⟩ := enter_at (f := f23) (args := [.im (.agg [.int .i64 k, .sl s (encTs args)])]) (Nat.le_of_ble_eq_true rfl)
  have h0 := ha 0 _ rfl
  generalize enterA f23 [.im (.agg [.int .i64 k, .sl s (encTs args)])] = tm at *
  change tm.length = 23 at hlen
  simp only [f23,e23_0,exec0,xreg,xops,wantedA,aopc,aop,ev,putA,endK,resA,tupA,List.length_cons,List.length_nil,List.replicate,List.cons_append,List.nil_append,List.append_nil,List.append_assoc,gs_same,gs_ne,gq_same,gq_ne,List.length_set,List.map_cons,List.map_nil,cellsOf,List.all_cons,List.all_nil,cellOk,boxTy,Bool.and_true,Bool.and_self,if_true,ite_true,ite_false,loadAt,storeAt,setAt,hget,hget0,hset,hset0,List.getElem?_cons_zero,List.getElem?_cons_succ,List.set_cons_zero,List.set_cons_succ,Nat.add_zero,Nat.zero_add,Nat.reduceAdd,Nat.reduceSub,Nat.reduceLeDiff,Nat.reduceLT,Nat.reduceEqDiff,Nat.le_refl,and_self,and_true,true_and,mkAgg,toIms,List.drop_zero,List.drop_succ_cons,List.take_succ_cons,List.take_zero,List.length_append,binA,isShift,binInt,binBool,unA,Bool.false_eq_true,if_false,partA,fillA,fillE,List.take_nil,Nat.zero_ne_one,Nat.one_ne_zero,not_false_eq_true,ne_eq,Nat.succ_ne_self,reduceCtorEq,Int.reduceEq,Int.reduceLT,Int.reduceLE,decide_true,decide_false,lenA,beq_self_eq_true,beq_true,beq_false,Bool.not_true,Bool.not_false,hlen,h0,hel]
  have key := fun tm => key tm [] .nils (.inl ⟨rfl, rfl⟩)
  simp only [List.append_nil] at key
  refine thenL_of (key _ ?_ ?_ ?_ ?_ ?_) ?_
  iterate 5 simp only [B3,Nat.reduceLT,Nat.reduceEqDiff,hlen,h0,encTs_map]
  rintro e tm' H' ⟨hl', rfl, g1, g2, M, rfl, hG⟩
  simp only [B3,Nat.reduceLT,Nat.reduceEqDiff,hlen] at g1 g2
  have hm : encTs (cloneTs args) = args.map fun a => encT (cloneT a) := by rw [encTs_map, cloneTs_map, List.map_map]; rfl
  rcases hG with ⟨hes, hv⟩ | ⟨hes, tok, _, hv, _⟩
  ·have ha0 : args = [] := by simpa using hes
   have e1 : toDat (.agg [.im (.int .i64 k), .nils]) = some (.agg (encT (cloneT (.mk k s args)))) := by
    simp [toDat, toDats, cloneT, encT, ha0, encTs, cloneTs]
   have hlv := fun L' => leave_one (H := H) (M := L') e1
   simp only [cloneT,encT] at hlv ⊢
   simp only [exec0,xreg,xops,wantedA,aopc,aop,ev,putA,endK,resA,tupA,List.length_cons,List.length_nil,List.replicate,List.cons_append,List.nil_append,List.append_nil,List.append_assoc,gs_same,gs_ne,gq_same,gq_ne,List.length_set,List.map_cons,List.map_nil,cellsOf,List.all_cons,List.all_nil,cellOk,boxTy,Bool.and_true,Bool.and_self,if_true,ite_true,ite_false,loadAt,storeAt,setAt,hget,hget0,hset,hset0,List.getElem?_cons_zero,List.getElem?_cons_succ,List.set_cons_zero,List.set_cons_succ,Nat.add_zero,Nat.zero_add,Nat.reduceAdd,Nat.reduceSub,Nat.reduceLeDiff,Nat.reduceLT,Nat.reduceEqDiff,Nat.le_refl,and_self,and_true,true_and,mkAgg,toIms,List.drop_zero,List.drop_succ_cons,List.take_succ_cons,List.take_zero,List.length_append,binA,isShift,binInt,binBool,unA,Bool.false_eq_true,if_false,partA,fillA,fillE,List.take_nil,Nat.zero_ne_one,Nat.one_ne_zero,not_false_eq_true,ne_eq,Nat.succ_ne_self,reduceCtorEq,Int.reduceEq,Int.reduceLT,Int.reduceLE,decide_true,decide_false,lenA,beq_self_eq_true,beq_true,beq_false,Bool.not_true,Bool.not_false,hl',g1,g2,hv,toDatss,toDats,toDat,hlv]
  ·have ha0 : args.length ≠ 0 := by simpa using hes
   have e1 : toDat (.agg [.im (.int .i64 k), .asl 2 (args.map fun a => encT (cloneT a)) tok]) = some (.agg (encT (cloneT (.mk k s args)))) := by
    simp only [toDat,toDats,cloneT,encT,if_neg ha0,hm]
   have hlv := fun L' => leave_one (H := H) (M := L') e1
   simp only [cloneT,encT] at hlv ⊢
   simp only [exec0,xreg,xops,wantedA,aopc,aop,ev,putA,endK,resA,tupA,List.length_cons,List.length_nil,List.replicate,List.cons_append,List.nil_append,List.append_nil,List.append_assoc,gs_same,gs_ne,gq_same,gq_ne,List.length_set,List.map_cons,List.map_nil,cellsOf,List.all_cons,List.all_nil,cellOk,boxTy,Bool.and_true,Bool.and_self,if_true,ite_true,ite_false,loadAt,storeAt,setAt,hget,hget0,hset,hset0,List.getElem?_cons_zero,List.getElem?_cons_succ,List.set_cons_zero,List.set_cons_succ,Nat.add_zero,Nat.zero_add,Nat.reduceAdd,Nat.reduceSub,Nat.reduceLeDiff,Nat.reduceLT,Nat.reduceEqDiff,Nat.le_refl,and_self,and_true,true_and,mkAgg,toIms,List.drop_zero,List.drop_succ_cons,List.take_succ_cons,List.take_zero,List.length_append,binA,isShift,binInt,binBool,unA,Bool.false_eq_true,if_false,partA,fillA,fillE,List.take_nil,Nat.zero_ne_one,Nat.one_ne_zero,not_false_eq_true,ne_eq,Nat.succ_ne_self,reduceCtorEq,Int.reduceEq,Int.reduceLT,Int.reduceLE,decide_true,decide_false,lenA,beq_self_eq_true,beq_true,beq_false,Bool.not_true,Bool.not_false,hl',g1,g2,hv,toDatss,toDats,toDat,hlv]
termination_by t => SizeOf.sizeOf t
decreasing_by
 have := List.sizeOf_lt_of_mem ha
 simp only [KT.mk.sizeOf_spec]
 omega
end Go.Abs.Seat
end
section
set_option linter.unusedVariables false
set_option linter.unusedSimpArgs false
namespace Go.Abs.Seat
open Go.Proofs
mutual
def sameT : KT → KT → Bool
 | .mk k _ xs, .mk k' _ ys => decide (k = k') && (decide (xs.length = ys.length) && sameTs xs ys)
def sameTs : List KT → List KT → Bool
 | a :: xs, b :: ys => sameT a b && sameTs xs ys
 | _, _ => true
end
theorem l22 (xs ys : List KT) (s s' : Nat) (hs : xs = [] ∨ s = 2) (hs' : ys = [] ∨ s' = 2) (hl : xs.length = ys.length) (hn : xs.length ≤ 9223372036854775807) (ka kb : Int) (ia ib : Nat) (H : Heap) (oa : H[ia]? = some (.obj none [[.im (.int .i64 ka), .im (.sl s (xs.map encT))]])) (ob : H[ib]? = some (.obj none [[.im (.int .i64 kb), .im (.sl s' (ys.map encT))]]))
  (hc : ∀ a ∈ xs, ∀ b ∈ ys, L 22 [.im (.agg (encT a)), .im (.agg (encT b))] H = some (.im (.bool (sameT a b)), H)) :
  ∀ (m i : Nat), i + m = xs.length → ∀ tm : List AV, tm.length = 39 → tm.getD 2 undefA = .ptr ia 0 0 → tm.getD 3 undefA = .ptr ib 0 0 → tm.getD 5 undefA = .im (.int .i64 (i : Int)) →
  ∃ e tm' H', Λ c22_0 tm H = some (e, tm', H') ∧ tm'.length = 39 ∧ H' = H ∧ ((sameTs (xs.drop i) (ys.drop i) = true ∧ e = .exit 0) ∨ (sameTs (xs.drop i) (ys.drop i) = false ∧ e = .ret ∧ tm'.getD 4 undefA = .im (.bool false)))
 | 0, i, hi, tm, hlen, h2, h3, h5 => by
  have e : xs.drop i = [] := by rw [List.drop_eq_nil_iff]; omega
  have hc' : decide ((i : Int) < (xs.length : Int)) = false := decide_eq_false (by omega)
  rw [e, l22_0]
  simp only [b22_0,B0,B1,B2,List.replicate,Nat.reduceAdd,Nat.reduceSub,Nat.reduceLeDiff,Nat.reduceLT,Nat.reduceEqDiff,reduceCtorEq,Int.reduceEq,Int.reduceLT,Int.reduceLE,lenA,hlen,h2,h3,h5,oa,List.length_map,hc',sameTs]
  exact ⟨_, _, _, rfl, by simp only [List.length_set,hlen], rfl, by simp⟩
 | m + 1, i, hi, tm, hlen, h2, h3, h5 => by
  have hlt : i < xs.length := by omega
  have hltb : i < ys.length := by omega
  obtain ⟨a, hai, ea⟩ := drop_cons hlt
  obtain ⟨b, hbi, eb⟩ := drop_cons hltb
  have hs2 : s = 2 := by
   rcases hs with hs | hs
   ·subst hs; simp at hlt
   ·exact hs
  have hs2' : s' = 2 := by
   rcases hs' with hs | hs
   ·subst hs; simp at hltb
   ·exact hs
  subst hs2 hs2'
  have hc' : decide ((i : Int) < (xs.length : Int)) = true := decide_eq_true (by omega)
  have hixa := idx_nat (n := xs.length) (i := i) hlt
  have hixb := idx_nat (n := ys.length) (i := i) hltb
  have hga : (xs.map encT)[i]? = some (encT a) := by rw [List.getElem?_map, hai]; rfl
  have hgb : (ys.map encT)[i]? = some (encT b) := by rw [List.getElem?_map, hbi]; rfl
  have hcall := hc a (List.mem_of_getElem? hai) b (List.mem_of_getElem? hbi)
  have hwr := wrap_nat (i := i) (by omega)
  have key := l22 xs ys 2 2 hs hs' hl hn ka kb ia ib H oa ob hc m (i + 1) (by omega)
  rw [ea, eb, l22_0]
  simp only [sameTs]
  generalize sameT a b = sb at *
  obtain ⟨k1, s1, ts1⟩ := a
  obtain ⟨k2, s2, ts2⟩ := b
  simp only [encT] at hcall hga hgb
  cases sb with
  | true =>
   simp only [b22_0,B0,B1,B2,List.replicate,Nat.reduceAdd,Nat.reduceSub,Nat.reduceLeDiff,Nat.reduceLT,Nat.reduceEqDiff,reduceCtorEq,Int.reduceEq,Int.reduceLT,Int.reduceLE,lenA,hlen,h2,h3,h5,oa,ob,List.length_map,hc',hixa,hixb,hga,hgb,hcall,hwr,Bool.true_and]
   refine ex_imp (key _ ?_ ?_ ?_ ?_) fun _ _ _ h => h
   all_goals simp only [B3,Nat.reduceLT,Nat.reduceEqDiff,hlen,h2,h3]
  | false =>
   simp only [b22_0,B0,B1,B2,List.replicate,Nat.reduceAdd,Nat.reduceSub,Nat.reduceLeDiff,Nat.reduceLT,Nat.reduceEqDiff,reduceCtorEq,Int.reduceEq,Int.reduceLT,Int.reduceLE,lenA,hlen,h2,h3,h5,oa,ob,List.length_map,hc',hixa,hixb,hga,hgb,hcall,hwr,Bool.false_and]
   exact ⟨_, _, _, rfl, by simp only [List.length_set,hlen], rfl, by simp only [B3,Nat.reduceLT,Nat.reduceEqDiff,hlen,true_and,and_true,and_self,or_true]⟩
theorem s22 : ∀ (a b : KT), okT a → okT b → ∀ H, L 22 [.im (.agg (encT a)), .im (.agg (encT b))] H = some (.im (.bool (sameT a b)), H)
 | .mk ka s xs, .mk kb s' ys, ha, hb, H => by
  simp only [okT] at ha hb
  obtain ⟨hs, hn, hoa⟩ := ha
  obtain ⟨hs', hn', hob⟩ := hb
  have hc : ∀ H : Heap, ∀ a ∈ xs, ∀ b ∈ ys, L 22 [.im (.agg (encT a)), .im (.agg (encT b))] H = some (.im (.bool (sameT a b)), H) := fun H a ha b hb => s22 a b (okTs_mem hoa a ha) (okTs_mem hob b hb) H
  simp only [encT,encTs_map,sameT]
  rw [leq F22]
  obtain ⟨hlen, hg⟩ := enter_at (f := f22) (args := [.im (.agg [.int .i64 ka, .sl s (xs.map encT)]), .im (.agg [.int .i64 kb, .sl s' (ys.map encT)])]) (Nat.le_of_ble_eq_true rfl)
  have h0 := hg 0 _ rfl
  have h1 := hg 1 _ rfl
  generalize enterA f22 [.im (.agg [.int .i64 ka, .sl s (xs.map encT)]), .im (.agg [.int .i64 kb, .sl s' (ys.map encT)])] = tm at *
  change tm.length = 39 at hlen
  by_cases hk : ka = kb
  ·have hdk : decide (ka = kb) = true := decide_eq_true hk
   by_cases hl : xs.length = ys.length
   ·have hdl : decide ((xs.length : Int) = (ys.length : Int)) = true := decide_eq_true (by omega)
    have hdl' : decide (xs.length = ys.length) = true := decide_eq_true hl
    have key := l22 xs ys s s' hs hs' hl hn ka kb H.length (H.length + 1) (H ++ [HO.obj none [[.im (.int .i64 ka), .im (.sl s (xs.map encT))]], HO.obj none [[.im (.int .i64 kb), .im (.sl s' (ys.map encT))]]]) (by rw [hget0]; rfl) (by rw [hget]; rfl) (hc _) xs.length 0 (by omega)
    have z : ((0 : Nat) : Int) = 0 := rfl
    simp only [z,List.drop_zero] at key
    simp only [f22,e22_0,B0,B1,B2,List.replicate,Nat.reduceAdd,Nat.reduceSub,Nat.reduceLeDiff,Nat.reduceLT,Nat.reduceEqDiff,reduceCtorEq,Int.reduceEq,Int.reduceLT,Int.reduceLE,lenA,hlen,h0,h1,List.length_map,hdk,hdl,hdl',Bool.true_and]
    generalize hr : thenL _ _ = r
    refine Exists.elim (thenL_inv hr (key _ ?_ ?_ ?_ ?_)) ?_
    iterate 4 simp only [B3,Nat.reduceLT,Nat.reduceEqDiff,hlen]
    clear hr key
    rintro e ⟨tm1, H1, ⟨hl1, rfl, hm⟩, rfl⟩
    rcases hm with ⟨he, rfl⟩ | ⟨he, rfl, g4⟩
    ·rw [he]
     simp only [B0,B1,B2,List.replicate,Nat.reduceAdd,Nat.reduceSub,Nat.reduceLeDiff,Nat.reduceLT,Nat.reduceEqDiff,reduceCtorEq,Int.reduceEq,Int.reduceLT,Int.reduceLE,lenA,endK,resA,tupA,hl1,leave_app]
    ·rw [he]
     simp only [B0,B1,B2,List.replicate,Nat.reduceAdd,Nat.reduceSub,Nat.reduceLeDiff,Nat.reduceLT,Nat.reduceEqDiff,reduceCtorEq,Int.reduceEq,Int.reduceLT,Int.reduceLE,lenA,endK,resA,tupA,hl1,g4,leave_app]
   ·have hdl : decide ((xs.length : Int) = (ys.length : Int)) = false := decide_eq_false (by omega)
    have hdl' : decide (xs.length = ys.length) = false := decide_eq_false hl
    simp only [f22,B0,B1,B2,List.replicate,Nat.reduceAdd,Nat.reduceSub,Nat.reduceLeDiff,Nat.reduceLT,Nat.reduceEqDiff,reduceCtorEq,Int.reduceEq,Int.reduceLT,Int.reduceLE,lenA,endK,resA,tupA,hlen,h0,h1,List.length_map,hdk,hdl,hdl',Bool.true_and,Bool.false_and,leave_app]
  ·have hdk : decide (ka = kb) = false := decide_eq_false hk
   simp only [f22,B0,B1,B2,List.replicate,Nat.reduceAdd,Nat.reduceSub,Nat.reduceLeDiff,Nat.reduceLT,Nat.reduceEqDiff,reduceCtorEq,Int.reduceEq,Int.reduceLT,Int.reduceLE,lenA,endK,resA,tupA,hlen,h0,h1,hdk,Bool.false_and,leave_app]
termination_by a => SizeOf.sizeOf a
decreasing_by
 have := List.sizeOf_lt_of_mem ha
 simp only [KT.mk.sizeOf_spec]
 omega
end Go.Abs.Seat
end
section
set_option linter.unusedVariables false
set_option linter.unusedSimpArgs false
namespace Go.Abs.Seat
open Go.Proofs
theorem lcp_ge : ∀ (n : Nat) (w r : List UInt8), n ≤ lcp w r ↔ (w.take n = r.take n ∧ n ≤ w.length ∧ n ≤ r.length)
 | 0, w, r => by simp
 | n + 1, [], r => by cases r <;> simp [lcp]
 | n + 1, a :: w, [] => by simp [lcp]
 | n + 1, a :: w, b :: r => by
  have := lcp_ge n w r
  simp only [lcp,List.take_succ_cons,List.cons.injEq,List.length_cons]
  by_cases h : b = a
  ·rw [if_pos h]
   constructor
   ·intro h1
    obtain ⟨h2, h3, h4⟩ := this.1 (by omega)
    exact ⟨⟨h.symm, h2⟩, by omega, by omega⟩
   ·rintro ⟨⟨_, h2⟩, h3, h4⟩
    have := this.2 ⟨h2, by omega, by omega⟩
    omega
  ·rw [if_neg h]
   constructor
   ·intro h1; omega
   ·rintro ⟨⟨h2, _⟩, _⟩; exact absurd h2.symm h
theorem begB_prefix {w r : List UInt8} : begB w r = true ↔ w <+: r := by
 unfold begB
 rw [List.prefix_iff_eq_take, Bool.and_eq_true, decide_eq_true_eq, decide_eq_true_eq]
 constructor
 ·rintro ⟨_, h⟩; exact h.symm
 ·intro h
  refine ⟨?_, h.symm⟩
  have := congrArg List.length h
  simp at this
  omega
theorem take_more {w r : List UInt8} {n : Nat} {c : UInt8} (hr : r[n]? = some c) : w.take (n + 1) = r.take (n + 1) ↔ (w.take n = r.take n ∧ w[n]? = some c) := by
 have hn := (List.getElem?_eq_some_iff.1 hr).1
 rw [List.take_add_one, List.take_add_one, hr]
 constructor
 ·intro h
  cases hw : w[n]? with
  | none =>
   rw [hw] at h
   have := congrArg List.length h
   simp at this
   omega
  | some x =>
   rw [hw] at h
   have hwn := (List.getElem?_eq_some_iff.1 hw).1
   obtain ⟨h1, h2⟩ := List.append_inj h (by simp; omega)
   simp at h2
   exact ⟨h1, by rw [h2]⟩
 ·rintro ⟨h1, h2⟩
  rw [h1, h2]
theorem wordGo_spec (M : List Word) (r : List UInt8) : ∀ (k n : Nat) (may : List Word), may = M.filter (fun w => decide (w.2.1.take n = r.take n)) → may ≠ [] → (∀ w ∈ may, n ≤ w.2.1.length ∧ w.2.1.length ≤ n + k) → n ≤ r.length → (∀ w ∈ M, w.2.1 <+: r → n ≤ w.2.1.length) →
  match wordGo r k may n with
  |(n', some w) => w ∈ M ∧ w.2.1.length = n' ∧ w.2.1 <+: r
  |(n', none) => (∀ w ∈ M, ¬ w.2.1 <+: r) ∧ (∀ w ∈ M, lcp w.2.1 r ≤ n') ∧ ∃ w ∈ M, n' ≤ lcp w.2.1 r
 | 0, n, may, hm, hne, hl, hn, hpre => by
  simp only [wordGo]
  cases hf : may.find? (fun w => decide (w.2.1.length = n)) with
  | some w =>
   have h1 := List.mem_of_find?_eq_some hf
   have h2 := List.find?_some hf
   rw [hm] at h1
   obtain ⟨h3, h4⟩ := List.mem_filter.1 h1
   simp only [decide_eq_true_eq] at h2 h4
   refine ⟨h3, h2, ?_⟩
   rw [List.prefix_iff_eq_take, h2, ← h4, ← h2, List.take_length]
  | none =>
   obtain ⟨w, hw⟩ := List.exists_mem_of_ne_nil _ hne
   have h1 := List.find?_eq_none.1 hf w hw
   have h2 := hl w hw
   simp at h1
   omega
 | k + 1, n, may, hm, hne, hl, hn, hpre => by
  simp only [wordGo]
  cases hf : may.find? (fun w => decide (w.2.1.length = n)) with
  | some w =>
   have h1 := List.mem_of_find?_eq_some hf
   have h2 := List.find?_some hf
   rw [hm] at h1
   obtain ⟨h3, h4⟩ := List.mem_filter.1 h1
   simp only [decide_eq_true_eq] at h2 h4
   refine ⟨h3, h2, ?_⟩
   rw [List.prefix_iff_eq_take, h2, ← h4, ← h2, List.take_length]
  | none =>
   have hno : ∀ w ∈ may, w.2.1.length ≠ n := fun w hw => by
    have := List.find?_eq_none.1 hf w hw
    simpa using this
   have hpre' : ∀ w ∈ M, w.2.1 <+: r → n + 1 ≤ w.2.1.length := by
    intro w hw hp
    have h1 := hpre w hw hp
    by_cases he : w.2.1.length = n
    ·have : w ∈ may := by
      rw [hm, List.mem_filter]
      refine ⟨hw, decide_eq_true ?_⟩
      rw [List.prefix_iff_eq_take] at hp
      rw [← he, List.take_length]
      exact hp
     exact absurd he (hno w this)
    ·omega
   have hex : ∃ w ∈ M, n ≤ lcp w.2.1 r := by
    obtain ⟨w, hw⟩ := List.exists_mem_of_ne_nil _ hne
    have h2 := hl w hw
    rw [hm] at hw
    obtain ⟨h3, h4⟩ := List.mem_filter.1 hw
    exact ⟨w, h3, (lcp_ge n w.2.1 r).2 ⟨of_decide_eq_true h4, h2.1, hn⟩⟩
   cases hr : r[n]? with
   | none =>
    have hrn : r.length ≤ n := List.getElem?_eq_none_iff.1 hr
    refine ⟨fun w hw hp => ?_, fun w hw => ?_, hex⟩
    ·have h1 := hpre' w hw hp
     have := hp.length_le
     omega
    ·have := (lcp_le w.2.1 r).1
     omega
   | some c =>
    have hrn := (List.getElem?_eq_some_iff.1 hr).1
    have hm' : may.filter (fun w => decide (w.2.1[n]? = some c)) = M.filter (fun w => decide (w.2.1.take (n + 1) = r.take (n + 1))) := by
     rw [hm, List.filter_filter]
     congr 1
     funext w
     rw [Bool.eq_iff_iff]
     simp only [Bool.and_eq_true,decide_eq_true_eq]
     rw [take_more hr]
     exact ⟨fun h => ⟨h.2, h.1⟩, fun h => ⟨h.2, h.1⟩⟩
    simp only
    by_cases he : may.filter (fun w => decide (w.2.1[n]? = some c)) = []
    ·rw [if_pos he]
     rw [hm'] at he
     have hnone : ∀ w ∈ M, w.2.1.take (n + 1) ≠ r.take (n + 1) := fun w hw h => by
      have := List.filter_eq_nil_iff.1 he w hw
      simp [h] at this
     refine ⟨fun w hw hp => ?_, fun w hw => ?_, hex⟩
     ·have h1 := hpre' w hw hp
      apply hnone w hw
      obtain ⟨t, rfl⟩ := hp
      rw [List.take_append_of_le_length h1]
     ·by_cases h : lcp w.2.1 r ≤ n
      ·exact h
      ·exact absurd ((lcp_ge (n + 1) w.2.1 r).1 (by omega)).1 (hnone w hw)
    ·rw [if_neg he]
     refine wordGo_spec M r k (n + 1) _ hm' he ?_ hrn hpre'
     intro w hw
     have h1 := (List.mem_filter.1 hw).1
     have h2 := hl w h1
     have h3 := hno w h1
     omega
theorem bestL_ge (d : Int) (r : List UInt8) : ∀ (l : List Int) (b : Nat), b ≤ bestL d r l b ∧ ∀ kd ∈ l, skipK d kd = false → lcp (wordK kd) r ≤ bestL d r l b
 | [], b => ⟨Nat.le_refl _, by simp⟩
 | kd :: l, b => by
  simp only [bestL]
  have h := fun b => bestL_ge d r l b
  cases hs : skipK d kd with
  | true =>
   simp only [if_true]
   refine ⟨(h b).1, fun x hx hsx => ?_⟩
   rcases List.mem_cons.1 hx with rfl | hx
   ·rw [hs] at hsx; simp at hsx
   ·exact (h b).2 x hx hsx
  | false =>
   simp only [Bool.false_eq_true,if_false]
   by_cases hlt : b < lcp (wordK kd) r
   ·rw [if_pos hlt]
    have := h (lcp (wordK kd) r)
    refine ⟨by omega, fun x hx hsx => ?_⟩
    rcases List.mem_cons.1 hx with rfl | hx
    ·exact this.1
    ·exact this.2 x hx hsx
   ·rw [if_neg hlt]
    have := h b
    refine ⟨this.1, fun x hx hsx => ?_⟩
    rcases List.mem_cons.1 hx with rfl | hx
    ·omega
    ·exact this.2 x hx hsx
theorem bestL_upto (d : Int) (r : List UInt8) (n : Nat) : ∀ (l : List Int) (b : Nat), b ≤ n → (∀ kd ∈ l, skipK d kd = false → lcp (wordK kd) r ≤ n) → bestL d r l b ≤ n
 | [], b, h, _ => h
 | kd :: l, b, h, hl => by
  simp only [bestL]
  apply bestL_upto d r n l
  ·cases hs : skipK d kd with
   | true => simpa using h
   | false =>
    have := hl kd (by simp) hs
    simp only [Bool.false_eq_true,if_false]
    split
    ·exact this
    ·exact h
  ·exact fun x hx => hl x (by simp [hx])
theorem kind_word : ∀ w ∈ words, w.1 ∈ kindsF 9 1 ∧ wordK w.1 = w.2.1 ∧ cntK w.1 = w.2.2 := by decide
theorem word_kind : ∀ kd ∈ kindsF 9 1, wordK kd = [] ∨ ∃ w ∈ words, w.1 = kd := by decide
theorem words_free : ∀ w ∈ words, ∀ v ∈ words, w.2.1 <+: v.2.1 → w = v := by decide
theorem words_full : ∀ w ∈ words, w.2.1 ≠ [] := by decide
theorem skip_word {d : Int} {w : Word} (hw : w ∈ words) : skipK d w.1 = outW d w := by
 obtain ⟨_, h1, h2⟩ := kind_word w hw
 unfold skipK outW
 rw [h1, h2, decide_eq_false (words_full w hw), Bool.false_or, Bool.and_comm]
theorem find_uniq {α : Type} {p : α → Bool} {x : α} : ∀ {l : List α}, x ∈ l → p x = true → (∀ y ∈ l, p y = true → y = x) → l.find? p = some x
 | [], h, _, _ => by simp at h
 | y :: l, h, hp, hu => by
  rw [List.find?_cons]
  cases hy : p y with
  | true => rw [hu y (by simp) hy]
  | false =>
   rcases List.mem_cons.1 h with rfl | h
   ·rw [hp] at hy; simp at hy
   ·exact find_uniq h hp fun z hz => hu z (by simp [hz])
theorem word_find (s : List UInt8) (k : Nat) (d : Int) : match word69 s k d with
  |(n, some w) => (kindsF 9 1).find? (okK d (s.drop k)) = some w.1 ∧ n = (wordK w.1).length ∧ w.2.2 = cntK w.1
  |(n, none) => (kindsF 9 1).find? (okK d (s.drop k)) = none ∧ n = bestL d (s.drop k) (kindsF 9 1) 0 := by
 have key := wordGo_spec (mayW d) (s.drop k) 8 0 (mayW d) (List.filter_eq_self.2 (fun w _ => by simp)).symm (mayW_ne d) (fun w hw => by have := word_len w (List.mem_filter.1 hw).1; omega) (Nat.zero_le _) (fun _ _ _ => Nat.zero_le _)
 unfold word69
 generalize s.drop k = r at *
 generalize wordGo r 8 (mayW d) 0 = q at *
 obtain ⟨n, ow⟩ := q
 have hmay : ∀ w, w ∈ mayW d ↔ w ∈ words ∧ skipK d w.1 = false := fun w => by
  simp only [mayW,List.mem_filter,Bool.not_eq_true']
  exact ⟨fun h => ⟨h.1, by rw [skip_word h.1]; exact h.2⟩, fun h => ⟨h.1, by rw [← skip_word h.1]; exact h.2⟩⟩
 have hok : ∀ kd ∈ kindsF 9 1, okK d r kd = true → ∃ w ∈ mayW d, w.1 = kd ∧ w.2.1 <+: r := by
  intro kd hkd ho
  simp only [okK,Bool.and_eq_true,Bool.not_eq_true'] at ho
  rcases word_kind kd hkd with h | ⟨w, hw, rfl⟩
  ·have := ho.1
   simp [skipK, h] at this
  ·refine ⟨w, (hmay w).2 ⟨hw, ho.1⟩, rfl, ?_⟩
   rw [← (kind_word w hw).2.1]
   exact begB_prefix.1 ho.2
 cases ow with
 | some w =>
  obtain ⟨h1, h2, h3⟩ := key
  obtain ⟨hw, hsk⟩ := (hmay w).1 h1
  obtain ⟨g1, g2, g3⟩ := kind_word w hw
  refine ⟨find_uniq g1 ?_ ?_, by rw [g2, h2], g3.symm⟩
  ·simp only [okK,hsk,Bool.not_false,Bool.true_and]
   rw [g2]
   exact begB_prefix.2 h3
  ·intro y hy hoy
   obtain ⟨v, hv, rfl, hvp⟩ := hok y hy hoy
   have hvw := ((hmay v).1 hv).1
   rcases List.prefix_or_prefix_of_prefix h3 hvp with h | h
   ·rw [words_free w hw v hvw h]
   ·rw [words_free v hvw w hw h]
 | none =>
  obtain ⟨h1, h2, h3⟩ := key
  refine ⟨?_, ?_⟩
  ·rw [List.find?_eq_none]
   intro kd hkd ho
   obtain ⟨w, hw, _, hp⟩ := hok kd hkd ho
   exact h1 w hw hp
  ·obtain ⟨w, hw, hn⟩ := h3
   obtain ⟨hww, hsk⟩ := (hmay w).1 hw
   obtain ⟨g1, g2, g3⟩ := kind_word w hww
   have ha := (bestL_ge d r (kindsF 9 1) 0).2 w.1 g1 hsk
   rw [g2] at ha
   have hb := bestL_upto d r n (kindsF 9 1) 0 (Nat.zero_le _) (fun kd hkd hs => by
    rcases word_kind kd hkd with h | ⟨v, hv, rfl⟩
    ·simp [skipK, h] at hs
    ·rw [(kind_word v hv).2.1]
     exact h2 v ((hmay v).2 ⟨hv, hs⟩))
   omega
def Alike (a b : Nat × KT × Bool) : Prop := a.1 = b.1 ∧ a.2.2 = b.2.2 ∧ (a.2.2 = true → a.2.1 = b.2.1)
theorem readL_alike (s : List UInt8) (rd rd' : Nat → Nat × KT × Bool) (h : ∀ k, Alike (rd k) (rd' k)) : ∀ (m i k : Nat) (acc : List KT), readL rd s m i k acc = readL rd' s m i k acc
 | 0, i, k, acc => rfl
 | m + 1, i, k, acc => by
  obtain ⟨h1, h2, h3⟩ := h (k + 1)
  simp only [readL]
  split
  ·rw [← h2]
   by_cases ho : (rd (k + 1)).2.2 = true
   ·rw [if_pos ho, if_pos ho, h1, h3 ho]
    exact readL_alike s rd rd' h m (i + 1) _ _
   ·rw [if_neg ho, if_neg ho, h1]
  ·rfl
theorem read_scan (s : List UInt8) : ∀ (d k : Nat), Alike (readP s d k) (scanP s d k)
 | 0, k => ⟨rfl, rfl, fun _ => rfl⟩
 | d + 1, k => by
  have hw := word_find s k ((d : Int) + 1)
  simp only [readP,scanP]
  generalize word69 s k ((d : Int) + 1) = q at *
  obtain ⟨n, ow⟩ := q
  cases ow with
  | none =>
   obtain ⟨h1, h2⟩ := hw
   rw [h1, h2]
   exact ⟨rfl, rfl, fun _ => rfl⟩
  | some w =>
   obtain ⟨h1, h2, h3⟩ := hw
   rw [h1]
   simp only [scanK]
   rw [readL_alike s (readP s d) (scanP s d) (fun k => read_scan s d k), h2, h3]
   generalize readL (scanP s d) s (cntK w.1).toNat 0 (k + (wordK w.1).length) [] = q
   obtain ⟨k', ol⟩ := q
   cases ol with
   | none => exact ⟨rfl, rfl, fun _ => rfl⟩
   | some l =>
    simp only
    split
    ·exact ⟨rfl, rfl, fun _ => rfl⟩
    ·split
     ·exact ⟨rfl, rfl, fun _ => rfl⟩
     ·exact ⟨rfl, rfl, fun h => by simp at h⟩
end Go.Abs.Seat
end
section
set_option linter.unusedVariables false
set_option linter.unusedSimpArgs false
namespace Go.Abs.Seat
open Go.Proofs
def goodT (t : KT) : Prop := okT t ∧ narrow t
theorem okTs_of : ∀ {l : List KT}, (∀ a ∈ l, okT a) → okTs l
 | [], _ => by simp only [okTs]
 | a :: l, h => by simp only [okTs]; exact ⟨h a (by simp), okTs_of fun x hx => h x (by simp [hx])⟩
theorem narrows_of : ∀ {l : List KT}, (∀ a ∈ l, narrow a) → narrows l
 | [], _ => by simp only [narrows]
 | a :: l, h => by simp only [narrows]; exact ⟨h a (by simp), narrows_of fun x hx => h x (by simp [hx])⟩
theorem good_mk (k : Int) (l : List KT) (hl : l.length ≤ 2) (h : ∀ a ∈ l, goodT a) : goodT (mkT k l) := by
 unfold goodT mkT
 simp only [okT,narrow]
 refine ⟨⟨?_, by omega, okTs_of fun a ha => (h a ha).1⟩, hl, narrows_of fun a ha => (h a ha).2⟩
 by_cases h0 : l.length = 0
 ·left; exact List.length_eq_zero_iff.1 h0
 ·right; rw [if_neg h0]
theorem good_zero : goodT zeroT := good_mk 0 [] (by simp) (by simp)
theorem readL_good (s : List UInt8) (rd : Nat → Nat × KT × Bool) (h : ∀ k, goodT (rd k).2.1) : ∀ (m i k : Nat) (acc l : List KT), (∀ a ∈ acc, goodT a) → (readL rd s m i k acc).2 = some l → (∀ a ∈ l, goodT a) ∧ l.length = acc.length + m
 | 0, i, k, acc, l, hacc, he => by
  simp only [readL,Option.some.injEq] at he
  subst he
  exact ⟨hacc, by omega⟩
 | m + 1, i, k, acc, l, hacc, he => by
  simp only [readL] at he
  split at he
  ·split at he
   ·have := readL_good s rd h m (i + 1) _ _ l (by
     intro a ha
     rcases List.mem_append.1 ha with ha | ha
     ·exact hacc a ha
     ·rw [List.mem_singleton.1 ha]; exact h _) he
    refine ⟨this.1, ?_⟩
    rw [this.2]
    simp
    omega
   ·simp at he
  ·simp at he
theorem readP_good (s : List UInt8) : ∀ (d k : Nat), goodT (readP s d k).2.1
 | 0, k => good_zero
 | d + 1, k => by
  have hmay : ∀ w, (word69 s k ((d : Int) + 1)).2 = some w → w ∈ words := fun w hw => by
   unfold word69 at hw
   by_cases hk : k ≤ s.length
   ·exact (List.mem_filter.1 ((wordGo_some (s.drop k) 8 (mayW ((d : Int) + 1)) 0 (Nat.zero_le _)).2.2 w hw)).1
   ·exact (List.mem_filter.1 ((wordGo_some (s.drop k) 8 (mayW ((d : Int) + 1)) 0 (Nat.zero_le _)).2.2 w hw)).1
  simp only [readP]
  generalize word69 s k ((d : Int) + 1) = q at *
  obtain ⟨n, ow⟩ := q
  cases ow with
  | none => exact good_zero
  | some w =>
   have hc := words_cnt w (hmay w rfl)
   simp only
   have hg := fun l => readL_good s (readP s d) (fun k => readP_good s d k) w.2.2.toNat 0 (k + n) [] l (by simp)
   generalize readL (readP s d) s w.2.2.toNat 0 (k + n) [] = q at *
   obtain ⟨k', ol⟩ := q
   cases ol with
   | none => exact good_zero
   | some l =>
    obtain ⟨h1, h2⟩ := hg l rfl
    simp only [List.length_nil,Nat.zero_add] at h2
    have h3 := good_mk w.1 l (by omega) h1
    simp only
    split
    ·exact h3
    ·split
     ·exact h3
     ·exact h3
theorem parse_alike (s : List UInt8) : ((parseR s).2.2 = true ∧ parseP s = ((parseR s).1, 0, 0) ∧ (parseR s).2.1 = 0 ∧ goodT (parseR s).1) ∨ ((parseR s).2.2 = false ∧ parseP s = (zeroT, (parseR s).2.1, 40) ∧ (parseR s).1 = zeroT) := by
 obtain ⟨h1, h2, h3⟩ := read_scan s 6 0
 have hg := readP_good s 6 0
 unfold parseP parseR
 by_cases ho : (scanP s 6 0).2.2 = true ∧ ¬ (scanP s 6 0).1 < s.length
 ·left
  have ho' : (readP s 6 0).2.2 = true ∧ ¬ (readP s 6 0).1 < s.length := by rw [h1, h2]; exact ho
  rw [if_pos ho, if_pos ho', h3 ho'.1]
  rw [h3 ho'.1] at hg
  exact ⟨rfl, rfl, rfl, hg⟩
 ·right
  have ho' : ¬ ((readP s 6 0).2.2 = true ∧ ¬ (readP s 6 0).1 < s.length) := by rw [h1, h2]; exact ho
  rw [if_neg ho, if_neg ho', h1]
  exact ⟨rfl, rfl, rfl⟩
end Go.Abs.Seat
end
section
set_option linter.unusedVariables false
set_option linter.unusedSimpArgs false
namespace Go.Abs.Seat
open Go.Proofs
theorem wordGo_loc (r r' : List UInt8) : ∀ (k : Nat) (may : List Word) (n : Nat), (∀ i, n ≤ i → i < (wordGo r k may n).1 → r'[i]? = r[i]?) → ((wordGo r k may n).2.isSome = true ∨ r'[(wordGo r k may n).1]? = r[(wordGo r k may n).1]? ∨ r'[(wordGo r k may n).1]? = none) → wordGo r' k may n = wordGo r k may n
 | 0, may, n, _, _ => rfl
 | k + 1, may, n, ha, hf => by
  simp only [wordGo] at ha hf ⊢
  cases hm : may.find? (fun w => decide (w.2.1.length = n)) with
  | some w => rfl
  | none =>
   rw [hm] at ha hf
   simp only at ha hf ⊢
   cases hr : r[n]? with
   | none =>
    rw [hr] at ha hf
    simp only [Option.isSome_none,Bool.false_eq_true,false_or,hr,or_self] at hf
    rw [hf]
   | some c =>
    rw [hr] at ha hf
    simp only at ha hf ⊢
    by_cases he : may.filter (fun w => decide (w.2.1[n]? = some c)) = []
    ·rw [if_pos he] at ha hf ⊢
     simp only [Option.isSome_none,Bool.false_eq_true,false_or,hr] at hf
     rcases hf with hf | hf
     ·rw [hf]
      simp only [if_pos he]
     ·rw [hf]
    ·rw [if_neg he] at ha hf ⊢
     have hlt : n + 1 ≤ (wordGo r k (may.filter fun w => decide (w.2.1[n]? = some c)) (n + 1)).1 := (wordGo_some r k _ (n + 1) (List.getElem?_eq_some_iff.1 hr).1).1
     rw [ha n (Nat.le_refl _) (by omega), hr]
     simp only [if_neg he]
     exact wordGo_loc r r' k _ (n + 1) (fun i h1 h2 => ha i (by omega) h2) hf
def Loc (s s' : List UInt8) (q q' : Nat × KT × Bool) : Prop := (∀ i, i < q.1 → s'[i]? = s[i]?) → (q.2.2 = true ∨ s'[q.1]? = s[q.1]? ∨ s'[q.1]? = none) → q'.1 = q.1 ∧ q'.2.2 = q.2.2 ∧ (q.2.2 = true → q'.2.1 = q.2.1)
theorem sign_loc {s s' : List UInt8} {k : Nat} {c : UInt8} (h : s'[k]? = s[k]?) : signB s' k c = signB s k c := by unfold signB; rw [h]
theorem sign_none {s : List UInt8} {k : Nat} {c : UInt8} (h : s[k]? = none) : signB s k c = false := by unfold signB; rw [h]; simp
theorem readL_up (rd : Nat → Nat × KT × Bool) (s : List UInt8) (h : ∀ k, k ≤ (rd k).1) : ∀ (m i k : Nat) (acc : List KT), k ≤ (readL rd s m i k acc).1
 | 0, i, k, acc => Nat.le_refl _
 | m + 1, i, k, acc => by
  have h1 := h (k + 1)
  simp only [readL]
  split
  ·split
   ·have := readL_up rd s h m (i + 1) (rd (k + 1)).1 (acc ++ [(rd (k + 1)).2.1])
    omega
   ·simp only; omega
  ·exact Nat.le_refl _
theorem readL_loc (s s' : List UInt8) (rd rd' : Nat → Nat × KT × Bool) (hup : ∀ k, k ≤ (rd k).1) (h : ∀ k, Loc s s' (rd k) (rd' k)) :
  ∀ (m i k : Nat) (acc : List KT), (∀ j, j < (readL rd s m i k acc).1 → s'[j]? = s[j]?) → ((readL rd s m i k acc).2.isSome = true ∨ s'[(readL rd s m i k acc).1]? = s[(readL rd s m i k acc).1]? ∨ s'[(readL rd s m i k acc).1]? = none) → readL rd' s' m i k acc = readL rd s m i k acc
 | 0, i, k, acc, _, _ => rfl
 | m + 1, i, k, acc, ha, hf => by
  have h1 := hup (k + 1)
  simp only [readL] at ha hf ⊢
  cases hs : signB s k (sepB i) with
  | false =>
   rw [hs] at ha hf
   simp only [Bool.false_eq_true,if_false,Option.isSome_none,false_or] at ha hf ⊢
   have : signB s' k (sepB i) = false := by
    rcases hf with hf | hf
    ·rw [sign_loc hf, hs]
    ·exact sign_none hf
   rw [this]
   simp
  | true =>
   rw [hs] at ha hf
   simp only [if_true] at ha hf ⊢
   by_cases ho : (rd (k + 1)).2.2 = true
   ·rw [if_pos ho] at ha hf ⊢
    have hu := readL_up rd s hup m (i + 1) (rd (k + 1)).1 (acc ++ [(rd (k + 1)).2.1])
    rw [sign_loc (ha k (by omega)), hs]
    obtain ⟨a1, a2, a3⟩ := h (k + 1) (fun j hj => ha j (by omega)) (.inl ho)
    simp only [if_true]
    rw [a2, if_pos ho, a1, a3 ho]
    exact readL_loc s s' rd rd' hup h m (i + 1) _ _ ha hf
   ·rw [if_neg ho] at ha hf ⊢
    simp only [Option.isSome_none,Bool.false_eq_true,false_or] at ha hf
    rw [sign_loc (ha k (by omega)), hs]
    obtain ⟨a1, a2, a3⟩ := h (k + 1) ha (.inr hf)
    simp only [if_true]
    rw [a2, if_neg ho, a1]
theorem readP_up (s : List UInt8) : ∀ (d k : Nat), k ≤ (readP s d k).1
 | 0, k => Nat.le_refl _
 | d + 1, k => by
  simp only [readP]
  generalize word69 s k ((d : Int) + 1) = q
  obtain ⟨n, ow⟩ := q
  cases ow with
  | none => simp only; omega
  | some w =>
   simp only
   have h3 := readL_up (readP s d) s (fun k => readP_up s d k) w.2.2.toNat 0 (k + n) []
   generalize readL (readP s d) s w.2.2.toNat 0 (k + n) [] = q at *
   obtain ⟨k', ol⟩ := q
   simp only at h3
   cases ol with
   | none => simp only; omega
   | some l =>
    simp only
    split
    ·simp only; omega
    ·split <;> (simp only; omega)
theorem readP_loc (s s' : List UInt8) : ∀ (d k : Nat), Loc s s' (readP s d k) (readP s' d k)
 | 0, k => fun _ _ => ⟨rfl, rfl, fun _ => rfl⟩
 | d + 1, k => by
  intro ha hf
  have hw := wordGo_loc (s.drop k) (s'.drop k) 8 (mayW ((d : Int) + 1)) 0
  simp only [readP] at ha hf ⊢
  unfold word69 at ha hf ⊢
  generalize hq : wordGo (s.drop k) 8 (mayW ((d : Int) + 1)) 0 = q at *
  obtain ⟨n, ow⟩ := q
  simp only [List.getElem?_drop] at hw
  cases ow with
  | none =>
   simp only [Bool.false_eq_true,false_or] at ha hf hw ⊢
   rw [hw (fun i _ hi => ha (k + i) (by omega)) (.inr hf)]
   exact ⟨rfl, rfl, fun _ => rfl⟩
  | some w =>
   have h3 := readL_up (readP s d) s (fun k => readP_up s d k) w.2.2.toNat 0 (k + n) []
   have hl := readL_loc s s' (readP s d) (readP s' d) (fun k => readP_up s d k) (fun k => readP_loc s s' d k) w.2.2.toNat 0 (k + n) []
   simp only [Option.isSome_some,true_or,forall_const] at ha hf hw ⊢
   generalize readL (readP s d) s w.2.2.toNat 0 (k + n) [] = q at *
   obtain ⟨k', ol⟩ := q
   simp only at h3 hl
   cases ol with
   | none =>
    simp only [Bool.false_eq_true,false_or,Option.isSome_none] at ha hf hl ⊢
    rw [hw (fun i _ hi => ha (k + i) (by omega))]
    simp only
    rw [hl ha hf]
    exact ⟨rfl, rfl, fun _ => rfl⟩
   | some l =>
    simp only [Option.isSome_some,true_or,forall_const] at ha hf hl ⊢
    by_cases h0 : w.2.2 = 0
    ·simp only [if_pos h0] at ha hf ⊢
     rw [hw (fun i _ hi => ha (k + i) (by omega))]
     simp only
     rw [hl ha]
     simp [h0]
    ·simp only [if_neg h0] at ha hf ⊢
     cases hs : signB s k' 41 with
     | true =>
      rw [hs] at ha hf
      simp only [if_true] at ha hf ⊢
      rw [hw (fun i _ hi => ha (k + i) (by omega))]
      simp only
      rw [hl (fun j hj => ha j (by omega))]
      simp only [if_neg h0]
      rw [sign_loc (ha k' (by omega)), hs]
      exact ⟨rfl, rfl, fun _ => rfl⟩
     | false =>
      rw [hs] at ha hf
      simp only [Bool.false_eq_true,if_false,false_or] at ha hf ⊢
      rw [hw (fun i _ hi => ha (k + i) (by omega))]
      simp only
      rw [hl ha]
      simp only [if_neg h0]
      have : signB s' k' 41 = false := by
       rcases hf with hf | hf
       ·rw [sign_loc hf, hs]
       ·exact sign_none hf
      rw [this]
      exact ⟨rfl, rfl, fun h => by simp at h⟩
end Go.Abs.Seat
end
section
set_option linter.unusedVariables false
set_option linter.unusedSimpArgs false
namespace Go.Abs.Seat
open Go.Proofs
def sigW : List UInt8 := [40, 41, 44]
def tyC (c : UInt8) : Bool := letZ (c.toNat : Int) || decide (0 ≤ Lib.indexByte sigW c)
def tyAt (s : List UInt8) (i : Nat) : Bool := match s[i]? with | some c => tyC c | none => false
theorem words_ty : ∀ w ∈ words, ∀ c ∈ w.2.1, tyC c = true := by decide
theorem wordGo_ty (r : List UInt8) : ∀ (k : Nat) (may : List Word) (n : Nat), (∀ w ∈ may, ∀ c ∈ w.2.1, tyC c = true) → ∀ i, n ≤ i → i < (wordGo r k may n).1 → tyAt r i = true
 | 0, may, n, hm, i, h1, h2 => by simp only [wordGo] at h2; omega
 | k + 1, may, n, hm, i, h1, h2 => by
  simp only [wordGo] at h2
  split at h2
  ·simp only at h2; omega
  ·split at h2
   ·simp only at h2; omega
   ·rename_i c hc
    split at h2
    ·simp only at h2; omega
    ·rename_i hne
     by_cases hi : i = n
     ·subst hi
      obtain ⟨w, hw⟩ := List.exists_mem_of_ne_nil _ hne
      rw [List.mem_filter] at hw
      have h3 := of_decide_eq_true hw.2
      unfold tyAt
      rw [hc]
      exact hm w hw.1 c (List.mem_of_getElem? h3)
     ·exact wordGo_ty r k _ (n + 1) (fun w hw => hm w (List.mem_filter.1 hw).1) i (by omega) h2
theorem sign_ty {s : List UInt8} {k : Nat} {c : UInt8} (hc : tyC c = true) (h : signB s k c = true) : tyAt s k = true := by
 have := of_decide_eq_true h
 unfold tyAt
 rw [this]
 exact hc
theorem sep_ty (i : Nat) : tyC (sepB i) = true := by
 unfold sepB
 split <;> decide
theorem readL_ty (s : List UInt8) (rd : Nat → Nat × KT × Bool) (h : ∀ k i, k ≤ i → i < (rd k).1 → tyAt s i = true) : ∀ (m i k : Nat) (acc : List KT) (j : Nat), k ≤ j → j < (readL rd s m i k acc).1 → tyAt s j = true
 | 0, i, k, acc, j, h1, h2 => by simp only [readL] at h2; omega
 | m + 1, i, k, acc, j, h1, h2 => by
  simp only [readL] at h2
  split at h2
  ·rename_i hs
   by_cases hj : j = k
   ·subst hj; exact sign_ty (sep_ty i) hs
   ·by_cases hj2 : j < (rd (k + 1)).1
    ·exact h (k + 1) j (by omega) hj2
    ·split at h2
     ·exact readL_ty s rd h m (i + 1) _ _ j (by omega) h2
     ·simp only at h2; omega
  ·simp only at h2; omega
theorem readP_ty (s : List UInt8) : ∀ (d k i : Nat), k ≤ i → i < (readP s d k).1 → tyAt s i = true
 | 0, k, i, h1, h2 => by simp only [readP] at h2; omega
 | d + 1, k, i, h1, h2 => by
  have hw := wordGo_ty (s.drop k) 8 (mayW ((d : Int) + 1)) 0 (fun w hw => words_ty w (List.mem_filter.1 hw).1)
  simp only [readP] at h2
  change ∀ j, 0 ≤ j → j < (word69 s k ((d : Int) + 1)).1 → _ at hw
  generalize word69 s k ((d : Int) + 1) = q at hw h2
  obtain ⟨n, ow⟩ := q
  simp only at hw
  have hw' : i < k + n → tyAt s i = true := fun hi => by
   have := hw (i - k) (Nat.zero_le _) (by omega)
   unfold tyAt at this ⊢
   rwa [List.getElem?_drop, Nat.add_sub_cancel' h1] at this
  cases ow with
  | none => simp only at h2; exact hw' h2
  | some w =>
   simp only at h2
   by_cases hi : i < k + n
   ·exact hw' hi
   have h3 := readL_ty s (readP s d) (fun k i => readP_ty s d k i) w.2.2.toNat 0 (k + n) [] i (by omega)
   generalize readL (readP s d) s w.2.2.toNat 0 (k + n) [] = q at *
   obtain ⟨k', ol⟩ := q
   simp only at h3
   cases ol with
   | none => simp only at h2; exact h3 h2
   | some l =>
    simp only at h2
    split at h2
    ·exact h3 h2
    ·split at h2
     ·rename_i hs
      simp only at h2
      by_cases hj : i = k'
      ·subst hj; exact sign_ty (by decide) hs
      ·exact h3 (by omega)
     ·exact h3 h2
theorem read_cut (s : List UInt8) (n : Nat) (hn : n = s.length ∨ n < s.length ∧ tyAt s n = false) :
  (readP (s.take n) 6 0).1 = (readP s 6 0).1 ∧ (readP (s.take n) 6 0).2.2 = (readP s 6 0).2.2 ∧ ((readP s 6 0).2.2 = true → (readP (s.take n) 6 0).2.1 = (readP s 6 0).2.1) ∧ (readP s 6 0).1 ≤ n := by
 have hle := readP_le s 6 0 (Nat.zero_le _)
 have hk : (readP s 6 0).1 ≤ n := by
  rcases hn with rfl | ⟨h1, h2⟩
  ·exact hle
  ·rcases Nat.lt_or_ge n (readP s 6 0).1 with h | h
   ·rw [readP_ty s 6 0 n (Nat.zero_le _) h] at h2; simp at h2
   ·exact h
 obtain ⟨h1, h2, h3⟩ := readP_loc s (s.take n) 6 0 (fun i hi => by rw [List.getElem?_take, if_pos (by omega)]) (by
  right
  by_cases h : (readP s 6 0).1 < n
  ·left; rw [List.getElem?_take, if_pos h]
  ·right; rw [List.getElem?_take, if_neg h])
 exact ⟨h1, h2, h3, hk⟩
def spanN (b : List UInt8) : Nat → Nat → Nat
 | 0, p => p
 | f + 1, p => if tyAt b p = true then spanN b f (p + 1) else p
def spanB (b : List UInt8) (p : Nat) : Nat := spanN b (b.length - p) p
theorem spanN_le (b : List UInt8) : ∀ f p, p ≤ spanN b f p
 | 0, p => Nat.le_refl _
 | f + 1, p => by
  unfold spanN
  split
  ·have := spanN_le b f (p + 1); omega
  ·exact Nat.le_refl _
theorem ty_lt {b : List UInt8} {p : Nat} (h : tyAt b p = true) : p < b.length := by
 rcases Nat.lt_or_ge p b.length with h1 | h1
 ·exact h1
 ·unfold tyAt at h; rw [List.getElem?_eq_none h1] at h; simp at h
theorem spanN_end (b : List UInt8) : ∀ f p, p ≤ b.length → b.length ≤ p + f → spanN b f p = b.length ∨ spanN b f p < b.length ∧ tyAt b (spanN b f p) = false
 | 0, p, h1, h2 => .inl (by simp only [spanN]; omega)
 | f + 1, p, h1, h2 => by
  unfold spanN
  split
  ·rename_i h
   exact spanN_end b f (p + 1) (ty_lt h) (by omega)
  ·rename_i h
   rcases Nat.lt_or_ge p b.length with h3 | h3
   ·exact .inr ⟨h3, by simpa using h⟩
   ·exact .inl (by omega)
theorem span_le (b : List UInt8) (p : Nat) : p ≤ spanB b p := spanN_le b _ p
theorem span_len {b : List UInt8} {p : Nat} (h : p ≤ b.length) : spanB b p ≤ b.length := by
 rcases spanN_end b (b.length - p) p h (by omega) with h | h
 ·unfold spanB; omega
 ·unfold spanB; omega
def typP (b : List UInt8) (p : Nat) : KT × Nat × Bool :=
 if (parseP ((b.drop p).take (spanB b p - p))).2.2 = 0 then ((parseP ((b.drop p).take (spanB b p - p))).1, spanB b p, false)
 else ((parseP ((b.drop p).take (parseP ((b.drop p).take (spanB b p - p))).2.1)).1, p + (parseP ((b.drop p).take (spanB b p - p))).2.1, !decide ((parseP ((b.drop p).take (parseP ((b.drop p).take (spanB b p - p))).2.1)).2.2 = 0))
theorem parse_same (s : List UInt8) : (parseP s).1 = (parseR s).1 ∧ (parseP s).2.1 = (parseR s).2.1 ∧ decide ((parseP s).2.2 = 0) = (parseR s).2.2 := by
 rcases parse_alike s with ⟨h1, h2, h3, h4⟩ | ⟨h1, h2, h3⟩
 ·rw [h2, h1, h3]; exact ⟨rfl, rfl, rfl⟩
 ·rw [h2, h1, h3]; exact ⟨rfl, rfl, rfl⟩
end Go.Abs.Seat
end
section
set_option linter.unusedVariables false
set_option linter.unusedSimpArgs false
namespace Go.Abs.Seat
open Go.Proofs
theorem parseR_le (s : List UInt8) : (parseR s).2.1 ≤ s.length := by
 have h := parse_same s
 rw [← h.2.1]
 unfold parseP
 split
 ·exact Nat.zero_le _
 ·exact readP_le s 6 0 (Nat.zero_le _)
theorem parseP_le (s : List UInt8) : (parseP s).2.1 ≤ s.length := by
 rw [(parse_same s).2.1]; exact parseR_le s
section
variable {H : Heap} {ir : Nat}
theorem hq_get (o : HO) (i : Nat) (M : Heap) : (H.set ir o ++ M)[H.length + i]? = M[i]? := by rw [List.getElem?_append_right (by simp)]; simp
theorem hq_get0 (o : HO) (M : Heap) : (H.set ir o ++ M)[H.length]? = M[0]? := hq_get o 0 M
theorem hq_set (o x : HO) (i : Nat) (M : Heap) : (H.set ir o ++ M).set (H.length + i) x = H.set ir o ++ M.set i x := by rw [List.set_append_right _ _ (by simp)]; simp
theorem hq_set0 (o x : HO) (M : Heap) : (H.set ir o ++ M).set H.length x = H.set ir o ++ M.set 0 x := hq_set o x 0 M
end
abbrev tyO : HO := .obj none [[.im (.int .i64 0), .nils]]
theorem l54 (b : List UInt8) (hb : b.length ≤ 4611686018427387904) (ir q : Nat) (bad : Bool) (H : Heap) (hir : H[ir]? = some (objS b q bad)) :
  ∀ (f p : Nat) (tm : List AV), b.length ≤ p + f → p ≤ b.length → tm.length = 106 → tm.getD 0 undefA = .ptr ir 0 0 → tm.getD 3 undefA = .im (.int .i64 (p : Int)) →
  ∃ e tm' H', Λ c54_0 tm H = some (e, tm', H') ∧ (e = .exit 0 ∧ tm'.length = 106 ∧ tm'.getD 0 undefA = .ptr ir 0 0 ∧ tm'.getD 2 undefA = tm.getD 2 undefA ∧ tm'.getD 3 undefA = .im (.int .i64 ((spanN b f p : Nat) : Int)) ∧ H' = H)
 | 0, p, tm, hf, hp, hlen, h0, h3 => by
  have hc : decide ((p : Int) < (b.length : Int)) = false := decide_eq_false (by omega)
  simp only [objS] at hir
  rw [l54_0]
  simp only [b54_0,B0,B1,B2,List.replicate,Nat.reduceAdd,Nat.reduceSub,Nat.reduceLeDiff,Nat.reduceLT,Nat.reduceEqDiff,reduceCtorEq,Int.reduceEq,Int.reduceLT,Int.reduceLE,lenA,hlen,h0,h3,hc,hir]
  exact ⟨_, _, _, rfl, rfl, by simp only [List.length_set,hlen], by simp only [B3,Nat.reduceLT,Nat.reduceEqDiff,hlen,h0], by simp only [B3,Nat.reduceLT,Nat.reduceEqDiff,hlen], by simp only [B3,Nat.reduceLT,Nat.reduceEqDiff,hlen,h3,spanN], rfl⟩
 | f + 1, p, tm, hf, hp, hlen, h0, h3 => by
  have p2 : (0 : Int) ≤ (p : Int) := Int.natCast_nonneg p
  by_cases hk : p < b.length
  ·have hc : decide ((p : Int) < (b.length : Int)) = true := decide_eq_true (by omega)
   have hsk : b[p]? = some b[p] := List.getElem?_eq_getElem hk
   have hwr := wrap_nat (i := p) (by omega)
   have key := fun tm1 => l54 b hb ir q bad H hir f (p + 1) tm1 (by omega) (by omega)
   unfold spanN tyAt
   simp only [hsk]
   generalize b[p] = a at hsk
   have c1 := fun H => s69 sigW a H
   obtain ⟨ix, hix⟩ : ∃ ix, Lib.indexByte sigW a = ix := ⟨_, rfl⟩
   have htc : tyC a = ((decide ((97 : Int) ≤ (a.toNat : Int)) && decide ((a.toNat : Int) ≤ 122)) || decide ((0 : Int) ≤ ix)) := by unfold tyC letZ; rw [hix]
   simp only [hix] at c1
   simp only [sigW] at c1
   simp only [htc]
   clear htc hix
   simp only [objS] at hir
   rcases Bool.eq_false_or_eq_true (decide ((97 : Int) ≤ (a.toNat : Int))) with e1 | e1
   ·rcases Bool.eq_false_or_eq_true (decide ((a.toNat : Int) ≤ 122)) with e2 | e2
    ·rw [e1, e2]
     simp only [Bool.and_self,Bool.true_or,if_true]
     rw [l54_0]
     simp only [b54_0,B0,B1,B2,List.replicate,Nat.reduceAdd,Nat.reduceSub,Nat.reduceLeDiff,Nat.reduceLT,Nat.reduceEqDiff,reduceCtorEq,Int.reduceEq,Int.reduceLT,Int.reduceLE,lenA,intOfA,byteDat,Int.toNat_natCast,hlen,h0,h3,hc,hir,p2,hsk,e1,e2,hwr]
     refine ex_imp (key _ ?_ ?_ ?_) fun _ _ _ h => ?_
     iterate 3 simp only [B3,Nat.reduceLT,Nat.reduceEqDiff,hlen,h0]
     simpa only [B3, Nat.reduceLT, Nat.reduceEqDiff, hlen] using h
    ·rcases Bool.eq_false_or_eq_true (decide ((0 : Int) ≤ ix)) with e3 | e3
     ·rw [e1, e2, e3]
      simp only [Bool.and_false,Bool.false_or,if_true]
      rw [l54_0]
      simp only [b54_0,B0,B1,B2,List.replicate,Nat.reduceAdd,Nat.reduceSub,Nat.reduceLeDiff,Nat.reduceLT,Nat.reduceEqDiff,reduceCtorEq,Int.reduceEq,Int.reduceLT,Int.reduceLE,lenA,intOfA,byteDat,Int.toNat_natCast,hlen,h0,h3,hc,hir,p2,hsk,e1,e2,e3,c1,hwr]
      refine ex_imp (key _ ?_ ?_ ?_) fun _ _ _ h => ?_
      iterate 3 simp only [B3,Nat.reduceLT,Nat.reduceEqDiff,hlen,h0]
      simpa only [B3, Nat.reduceLT, Nat.reduceEqDiff, hlen] using h
     ·rw [e1, e2, e3]
      simp only [Bool.and_false,Bool.false_or,Bool.false_eq_true,if_false]
      rw [l54_0]
      simp only [b54_0,B0,B1,B2,List.replicate,Nat.reduceAdd,Nat.reduceSub,Nat.reduceLeDiff,Nat.reduceLT,Nat.reduceEqDiff,reduceCtorEq,Int.reduceEq,Int.reduceLT,Int.reduceLE,lenA,intOfA,byteDat,Int.toNat_natCast,hlen,h0,h3,hc,hir,p2,hsk,e1,e2,e3,c1]
      exact ⟨_, _, _, rfl, rfl, by simp only [List.length_set,hlen], by simp only [B3,Nat.reduceLT,Nat.reduceEqDiff,hlen,h0], by simp only [B3,Nat.reduceLT,Nat.reduceEqDiff,hlen], by simp only [B3,Nat.reduceLT,Nat.reduceEqDiff,hlen,h3], rfl⟩
   ·rcases Bool.eq_false_or_eq_true (decide ((0 : Int) ≤ ix)) with e3 | e3
    ·rw [e1, e3]
     simp only [Bool.false_and,Bool.false_or,if_true]
     rw [l54_0]
     simp only [b54_0,B0,B1,B2,List.replicate,Nat.reduceAdd,Nat.reduceSub,Nat.reduceLeDiff,Nat.reduceLT,Nat.reduceEqDiff,reduceCtorEq,Int.reduceEq,Int.reduceLT,Int.reduceLE,lenA,intOfA,byteDat,Int.toNat_natCast,hlen,h0,h3,hc,hir,p2,hsk,e1,e3,c1,hwr]
     refine ex_imp (key _ ?_ ?_ ?_) fun _ _ _ h => ?_
     iterate 3 simp only [B3,Nat.reduceLT,Nat.reduceEqDiff,hlen,h0]
     simpa only [B3, Nat.reduceLT, Nat.reduceEqDiff, hlen] using h
    ·rw [e1, e3]
     simp only [Bool.false_and,Bool.false_or,Bool.false_eq_true,if_false]
     rw [l54_0]
     simp only [b54_0,B0,B1,B2,List.replicate,Nat.reduceAdd,Nat.reduceSub,Nat.reduceLeDiff,Nat.reduceLT,Nat.reduceEqDiff,reduceCtorEq,Int.reduceEq,Int.reduceLT,Int.reduceLE,lenA,intOfA,byteDat,Int.toNat_natCast,hlen,h0,h3,hc,hir,p2,hsk,e1,e3,c1]
     exact ⟨_, _, _, rfl, rfl, by simp only [List.length_set,hlen], by simp only [B3,Nat.reduceLT,Nat.reduceEqDiff,hlen,h0], by simp only [B3,Nat.reduceLT,Nat.reduceEqDiff,hlen], by simp only [B3,Nat.reduceLT,Nat.reduceEqDiff,hlen,h3], rfl⟩
  ·have hc : decide ((p : Int) < (b.length : Int)) = false := decide_eq_false (by omega)
   have hsk : b[p]? = none := List.getElem?_eq_none (by omega)
   unfold spanN tyAt
   simp only [hsk,Bool.false_eq_true,if_false]
   simp only [objS] at hir
   rw [l54_0]
   simp only [b54_0,B0,B1,B2,List.replicate,Nat.reduceAdd,Nat.reduceSub,Nat.reduceLeDiff,Nat.reduceLT,Nat.reduceEqDiff,reduceCtorEq,Int.reduceEq,Int.reduceLT,Int.reduceLE,lenA,hlen,h0,h3,hc,hir]
   exact ⟨_, _, _, rfl, rfl, by simp only [List.length_set,hlen], by simp only [B3,Nat.reduceLT,Nat.reduceEqDiff,hlen,h0], by simp only [B3,Nat.reduceLT,Nat.reduceEqDiff,hlen], by simp only [B3,Nat.reduceLT,Nat.reduceEqDiff,hlen,h3], rfl⟩
theorem s54 (b : List UInt8) (p ir : Nat) (H : Heap) (hir : H[ir]? = some (objS b p false)) (hb : b.length ≤ 2305843009213693952) (hp : p ≤ b.length) :
  L 54 [.ptr ir 0 0] H = some (.im (.agg (encT (typP b (skipB b p)).1)), H.set ir (objS b (typP b (skipB b p)).2.1 (typP b (skipB b p)).2.2)) := by
 have hirl := (List.getElem?_eq_some_iff.1 hir).1
 have hle := skip_len hp
 have c1 : ∀ M, L 19 [.ptr ir 0 0] (H ++ M) = some (.tup [], H.set ir (objS b (skipB b p) false) ++ M) := fun M => by
  rw [s19 b p ir false (H ++ M) (by rw [get_app hirl]; exact hir) (by omega) hp, List.set_append_left _ _ hirl]
 generalize skipB b p = q at *
 have g1 := hp_get (H := H) hirl
 have g4 := hp_set (H := H) hirl
 have hsl := span_len hle
 have hsg := span_le b q
 have key := fun M tm1 => l54 b (by omega) ir q false (H.set ir (objS b q false) ++ M) (g1 _ _) (b.length - q) q tm1 (by omega) hle
 have hspd : spanN b (b.length - q) q = spanB b q := rfl
 simp only [hspd] at key
 have d1 := fun H => s70 ((b.drop q).take (spanB b q - q)) (by simp; omega) H
 have hpl := parseP_le ((b.drop q).take (spanB b q - q))
 have hln : ((b.drop q).take (spanB b q - q)).length = spanB b q - q := by simp; omega
 rw [hln] at hpl
 have d2 := fun H => s70 ((b.drop q).take (parseP ((b.drop q).take (spanB b q - q))).2.1) (by simp; omega) H
 have hlv : ∀ (q : Nat) (bd : Bool) (M : Heap) (k : Int) (s : Nat) (ts : List KT), leave H false (.im (.agg [.int .i64 k, .sl s (encTs ts)])) (H.set ir (objS b q bd) ++ M) = (.im (.agg [.int .i64 k, .sl s (encTs ts)]), H.set ir (objS b q bd)) := fun q bd M k s ts => leave_SM hir (by simp [degrade, toDat]) (by simp [refsLt])
 unfold typP
 generalize parseP ((b.drop q).take (spanB b q - q)) = r1 at *
 obtain ⟨t, n, e⟩ := r1
 obtain ⟨k', s', ts⟩ := t
 simp only at d1 d2 hpl
 generalize parseP ((b.drop q).take n) = r2 at *
 obtain ⟨t2, n2, e2⟩ := r2
 obtain ⟨k2, s2, ts2⟩ := t2
 generalize hsp : spanB b q = sp at *
 have hcc : q ≤ sp ∧ sp ≤ b.length := ⟨hsg, hsl⟩
 have hcn : q ≤ q + n ∧ q + n ≤ b.length := ⟨by omega, by omega⟩
 have hsub : q + n - q = n := by omega
 have hw1 : IntKind.i64.wrap ((q : Int) + (n : Int)) = ((q + n : Nat) : Int) := by rw [Go.Abs.Seat.wrap_small _ (by omega)]; omega
 rw [leq F54]
 obtain ⟨hlen, ha⟩ := enter_at (f := f54) (args := [.ptr ir 0 0]) (Nat.le_of_ble_eq_true rfl)
 have h0 := ha 0 _ rfl
 generalize enterA f54 [.ptr ir 0 0] = tm at *
 change tm.length = 106 at hlen
 simp only [objS,encT] at *
 simp only [f54,e54_0,B0,B1,B2,List.replicate,Nat.reduceAdd,Nat.reduceSub,Nat.reduceLeDiff,Nat.reduceLT,Nat.reduceEqDiff,reduceCtorEq,Int.reduceEq,Int.reduceLT,Int.reduceLE,lenA,hlen,h0,c1,g1]
 generalize hr : thenL (Λ c54_0 _ _) _ = r
 refine Exists.elim (thenL_inv hr (key _ _ ?_ ?_ ?_)) ?_
 iterate 3 simp only [B3,Nat.reduceLT,Nat.reduceEqDiff,hlen,h0]
 clear hr key
 rintro e1 ⟨tm1, H1, ⟨rfl, k1, k2', k3, k4, rfl⟩, rfl⟩
 simp only [B3,Nat.reduceLT,Nat.reduceEqDiff,hlen,List.length_set] at k3
 rcases Bool.eq_false_or_eq_true (decide (e = 0)) with e1 | e1
 ·rw [if_pos (of_decide_eq_true e1)]
  simp only [B0,B1,B2,List.replicate,Nat.reduceAdd,Nat.reduceSub,Nat.reduceLeDiff,Nat.reduceLT,Nat.reduceEqDiff,reduceCtorEq,Int.reduceEq,Int.reduceLT,Int.reduceLE,lenA,z_ops,z_nil,z_cons,z_guard,z_some,z_drop,z_do,z_not,z_not0,pairK,forall_eq_or_imp,stays,loadOf,List.reverse_cons,List.reverse_nil,List.mem_cons,List.not_mem_nil,or_false,forall_eq,true_or,or_true,Bool.true_and,endK,resA,tupA,boundA,intOfA,Int.natCast_nonneg,Int.toNat_natCast,k1,k2',k3,k4,g1,g4,hq_get,hq_get0,hq_set,hq_set0,hcc,d1,e1,hlv]
  rfl
 ·rw [if_neg (of_decide_eq_false e1)]
  simp only [B0,B1,B2,List.replicate,Nat.reduceAdd,Nat.reduceSub,Nat.reduceLeDiff,Nat.reduceLT,Nat.reduceEqDiff,reduceCtorEq,Int.reduceEq,Int.reduceLT,Int.reduceLE,lenA,z_ops,z_nil,z_cons,z_guard,z_some,z_drop,z_do,z_not,z_not0,pairK,forall_eq_or_imp,stays,loadOf,List.reverse_cons,List.reverse_nil,List.mem_cons,List.not_mem_nil,or_false,forall_eq,true_or,or_true,Bool.true_and,endK,resA,tupA,boundA,intOfA,Int.natCast_nonneg,Int.toNat_natCast,k1,k2',k3,k4,g1,g4,hq_get,hq_get0,hq_set,hq_set0,hcc,hcn,hsub,hw1,d1,d2,e1,hlv]
  rcases Bool.eq_false_or_eq_true (decide (e2 = 0)) with e3 | e3 <;> rw [e3] <;> rfl
end Go.Abs.Seat
end
section
set_option linter.unusedVariables false
set_option linter.unusedSimpArgs false
namespace Go.Abs.Seat
open Go.Proofs
abbrev St := Int × KT × List NT
def isE (c : UInt8) : Bool := !decide (c = 100) && (!decide (c = 116) && !decide (c = 110))
def itemX (rd : Nat → NT × Nat × Bool) (b : List UInt8) (c : UInt8) (st : St) (p : Nat) : St × Nat × Bool :=
 if c = 100 then (if digZ ((peekB b (skipB b p)).toNat : Int) = true then ((((peekB b (skipB b p)).toNat : Int) - 48, st.2.1, st.2.2), skipB b p + 1, false) else (st, skipB b p, true))
 else if c = 116 then ((st.1, (typP b (skipB b p)).1, st.2.2), (typP b (skipB b p)).2.1, (typP b (skipB b p)).2.2)
 else if c = 110 then ((st.1, st.2.1, st.2.2 ++ [(nameP b p).1]), (nameP b p).2.1, (nameP b p).2.2)
 else ((st.1, st.2.1, st.2.2 ++ [(rd p).1]), (rd p).2.1, (rd p).2.2)
def moreX (b : List UInt8) (lst : Bool) (st : St) (q : Nat) : Bool := lst && (decide (st.2.2.length < 64) && decide (peekB b (skipB b q) = 44))
def goX (rd : Nat → NT × Nat × Bool) (b : List UInt8) (lst : Bool) : Nat → UInt8 → List UInt8 → St → Nat → St × Nat × Bool
 | _, _, [], st, p => (st, p, false)
 | 0, _, _, st, p => (st, p, false)
 | f + 1, mark, c :: cs, st, p =>
  if (signP b p false mark).2 = true then (st, (signP b p false mark).1, true)
  else if (itemX rd b c st (signP b p false mark).1).2.2 = true then itemX rd b c st (signP b p false mark).1
  else if moreX b lst (itemX rd b c st (signP b p false mark).1).1 (itemX rd b c st (signP b p false mark).1).2.1 = true
   then goX rd b lst f 44 (c :: cs) (itemX rd b c st (signP b p false mark).1).1 (itemX rd b c st (signP b p false mark).1).2.1
   else goX rd b lst f 44 cs (itemX rd b c st (signP b p false mark).1).1 (itemX rd b c st (signP b p false mark).1).2.1
def callX (rd : Nat → NT × Nat × Bool) (b w ps : List UInt8) (p : Nat) : NT × Nat × Bool :=
 if (goX rd b (decide (ps = [43])) 70 40 ps (0, zeroT, []) p).2.2 = true then (zeroN, (goX rd b (decide (ps = [43])) 70 40 ps (0, zeroT, []) p).2.1, true)
 else (mkN w (goX rd b (decide (ps = [43])) 70 40 ps (0, zeroT, []) p).1.1 [] (goX rd b (decide (ps = [43])) 70 40 ps (0, zeroT, []) p).1.2.1 (goX rd b (decide (ps = [43])) 70 40 ps (0, zeroT, []) p).1.2.2,
  (signP b (goX rd b (decide (ps = [43])) 70 40 ps (0, zeroT, []) p).2.1 false 41).1, (signP b (goX rd b (decide (ps = [43])) 70 40 ps (0, zeroT, []) p).2.1 false 41).2)
def exprX (b : List UInt8) : Nat → Nat → NT × Nat × Bool
 | 0, p => (zeroN, p, true)
 | d + 1, p =>
  if peekB b (skipB b p) = 34 then strP b (skipB b p + 1)
  else if (decide (peekB b (skipB b p) = 45) || digZ ((peekB b (skipB b p)).toNat : Int)) = true then numP b (skipB b p)
  else if letZ ((peekB b (skipB b p)).toNat : Int) = false then (zeroN, skipB b p, true)
  else if longB b (skipB b p) = true then (zeroN, runB b (skipB b p), true)
  else match shapeT (wordB b (skipB b p)) with
   | none => (mkN nameW 0 (wordB b (skipB b p)) zeroT [], runB b (skipB b p), false)
   | some ps => if ps = [] then (mkN (wordB b (skipB b p)) 0 [] zeroT [], runB b (skipB b p), false)
    else if d = 0 ∧ ps ≠ [100] ∧ ps ≠ [116] then (zeroN, runB b (skipB b p), true)
    else callX (exprX b d) b (wordB b (skipB b p)) ps (runB b (skipB b p))
theorem skipN_skip (b : List UInt8) : ∀ f p, b.length ≤ p + f → p ≤ b.length → b[skipN b f p]? ≠ some 32
 | 0, p, h, h2 => by
  simp only [skipN]
  rw [List.getElem?_eq_none (by omega)]; simp
 | f + 1, p, h, h2 => by
  unfold skipN
  split
  ·rename_i hs
   have := (List.getElem?_eq_some_iff.1 hs).1
   exact skipN_skip b f (p + 1) (by omega) (by omega)
  ·assumption
theorem skip_ne {b : List UInt8} {p : Nat} (h : p ≤ b.length) : b[skipB b p]? ≠ some 32 := skipN_skip b _ p (by omega) h
theorem skip_at {b : List UInt8} {p : Nat} (h : b[p]? ≠ some 32) : skipB b p = p := by
 unfold skipB
 cases b.length - p with
 | zero => rfl
 | succ f => unfold skipN; rw [if_neg h]
theorem skip_skip {b : List UInt8} {p : Nat} (h : p ≤ b.length) : skipB b (skipB b p) = skipB b p := skip_at (skip_ne h)
theorem sign_skip {b : List UInt8} {p : Nat} (h : p ≤ b.length) (c : UInt8) : signP b (skipB b p) false c = signP b p false c := by
 unfold signP
 simp only [Bool.false_eq_true,if_false,skip_skip h]
theorem sign_len {b : List UInt8} {p : Nat} {bad : Bool} {c : UInt8} (h : p ≤ b.length) (hc : c ≠ 0) : (signP b p bad c).1 ≤ b.length := by
 unfold signP
 split
 ·exact h
 ·split
  ·rename_i hk
   have := peek_lt (b := b) (p := skipB b p) (by rw [hk]; exact hc)
   simp only; omega
  ·exact skip_len h
theorem strN_len (b : List UInt8) : ∀ f out p, p ≤ b.length → (strN b f out p).2.1 ≤ b.length
 | 0, out, p, h => h
 | f + 1, out, p, h => by
  unfold strN
  split
  ·rename_i hk
   have := peek_lt (b := b) (p := p) (by rw [hk]; decide)
   simp only; omega
  ·split
   ·exact h
   ·rename_i hb
    have hp : p < b.length := by
     rcases Nat.lt_or_ge p b.length with h1 | h1
     ·exact h1
     ·exfalso; apply hb
      have h0 : peekB b p = 0 := by unfold peekB; rw [List.getElem?_eq_none h1]; rfl
      rw [h0]
      simp [plnZ]
    split
    ·have := esc_le (b := b) (p := p + 1) (by omega)
     split
     ·exact this.2
     ·exact strN_len b f _ _ this.2
    ·exact strN_len b f _ _ (by omega)
theorem strP_len {b : List UInt8} {p : Nat} (h : p ≤ b.length) : (strP b p).2.1 ≤ b.length := by
 have := strN_len b (b.length + 1 - p) [] p h
 unfold strP
 split
 all_goals rename_i hs; rw [hs] at this; exact this
theorem numN_len (b : List UInt8) (most : Nat) : ∀ f n p, p ≤ b.length → (numN b most f n p).2.1 ≤ b.length
 | 0, n, p, h => h
 | f + 1, n, p, h => by
  unfold numN
  split
  ·rename_i hd
   have := peek_lt (b := b) (p := p) (fun e => by rw [e, dig0] at hd; simp at hd)
   split
   ·exact numN_len b most f _ _ (by omega)
   ·exact h
  ·exact h
theorem numP_len {b : List UInt8} {p : Nat} (h : p < b.length) : (numP b p).2.1 ≤ b.length := by
 unfold numP
 simp only
 have hp1 : (if decide (peekB b p = 45) = true then p + 1 else p) ≤ b.length := by split <;> omega
 generalize (if decide (peekB b p = 45) = true then p + 1 else p) = p1 at *
 split
 ·exact hp1
 ·rename_i hd
  have := peek_lt (b := b) (p := p1) (fun e => by apply hd; rw [e, dig0]; rfl)
  have := numN_len b (mostN (decide (peekB b p = 45))) (b.length - (p1 + 1)) ((peekB b p1).toNat - 48) (p1 + 1) (by omega)
  split
  all_goals rename_i hs; rw [hs] at this; exact this
theorem nameP_len {b : List UInt8} {p : Nat} (h : p ≤ b.length) : (nameP b p).2.1 ≤ b.length := by
 have := run_len (skip_len h)
 unfold nameP
 split
 ·exact this
 ·split <;> exact this
theorem typP_len {b : List UInt8} {p : Nat} (h : p ≤ b.length) : (typP b p).2.1 ≤ b.length := by
 have h1 := span_len h
 have h2 := span_le b p
 have h3 := parseP_le ((b.drop p).take (spanB b p - p))
 simp only [List.length_take,List.length_drop] at h3
 unfold typP
 split
 ·exact h1
 ·simp only; omega
theorem item_len {rd : Nat → NT × Nat × Bool} {b : List UInt8} (hrd : ∀ p, p ≤ b.length → (rd p).2.1 ≤ b.length) (c : UInt8) (st : St) {p : Nat} (h : p ≤ b.length) : (itemX rd b c st p).2.1 ≤ b.length := by
 unfold itemX
 split
 ·split
  ·rename_i hd
   have := peek_lt (b := b) (p := skipB b p) (fun e => by rw [e, dig0] at hd; simp at hd)
   simp only; omega
  ·exact skip_len h
 ·split
  ·exact typP_len (skip_len h)
  ·split
   ·exact nameP_len h
   ·exact hrd p h
theorem go_len {rd : Nat → NT × Nat × Bool} {b : List UInt8} (hrd : ∀ p, p ≤ b.length → (rd p).2.1 ≤ b.length) (lst : Bool) : ∀ (f : Nat) (mark : UInt8) (cs : List UInt8) (st : St) (p : Nat), mark ≠ 0 → p ≤ b.length → (goX rd b lst f mark cs st p).2.1 ≤ b.length
 | 0, mark, [], st, p, hm, h => by unfold goX; exact h
 | f + 1, mark, [], st, p, hm, h => by unfold goX; exact h
 | 0, mark, c :: cs, st, p, hm, h => by unfold goX; exact h
 | f + 1, mark, c :: cs, st, p, hm, h => by
  have h1 := sign_len (bad := false) h hm
  have h2 := item_len hrd c st h1
  unfold goX
  split
  ·exact h1
  ·split
   ·exact h2
   ·split
    ·exact go_len hrd lst f 44 _ _ _ (by decide) h2
    ·exact go_len hrd lst f 44 _ _ _ (by decide) h2
theorem call_len {rd : Nat → NT × Nat × Bool} {b : List UInt8} (hrd : ∀ p, p ≤ b.length → (rd p).2.1 ≤ b.length) (w ps : List UInt8) {p : Nat} (h : p ≤ b.length) : (callX rd b w ps p).2.1 ≤ b.length := by
 have h1 := go_len hrd (decide (ps = [43])) 70 40 ps (0, zeroT, []) p (by decide) h
 unfold callX
 split
 ·exact h1
 ·exact sign_len h1 (by decide)
theorem expr_len (b : List UInt8) : ∀ (d p : Nat), p ≤ b.length → (exprX b d p).2.1 ≤ b.length
 | 0, p, h => h
 | d + 1, p, h => by
  have h1 := skip_len h
  have h2 := run_len h1
  unfold exprX
  split
  ·rename_i hk
   have := peek_lt (b := b) (p := skipB b p) (by rw [hk]; decide)
   exact strP_len (by omega)
  ·split
   ·rename_i hk
    have : peekB b (skipB b p) ≠ 0 := fun e => by rw [e, dig0] at hk; simp at hk
    exact numP_len (peek_lt this)
   ·split
    ·exact h1
    ·split
     ·exact h2
     ·split
      ·exact h2
      ·split
       ·exact h2
       ·split
        ·exact h2
        ·exact call_len (fun p h => expr_len b d p h) _ _ h2
def okPs (ps : List UInt8) : Bool := decide (ps.length ≤ 5) && (decide (ps = [43]) || !ps.contains 43) && (decide (ps = [100]) || decide (ps = [116]) || !(ps.contains 100 || ps.contains 116)) && !ps.contains 108
theorem shapes_ok : ∀ e ∈ shapes, okPs e.2 = true := by decide
theorem shape_ok {w p : List UInt8} (h : shapeT w = some p) : okPs p = true := shapes_ok (w, p) (lookup_mem h)
end Go.Abs.Seat
end
section
set_option linter.unusedVariables false
set_option linter.unusedSimpArgs false
set_option maxRecDepth 10000
namespace Go.Abs.Seat
def T35 : ACode := (.seq (.ops [⟨some 14,.move (.t 11),none⟩,⟨some 15,.move (.t 2),none⟩,⟨some 16,.lenStr (.t 15),none⟩,⟨some 17,.bin .lss (.t 14) (.t 16),none⟩,⟨some 18,.move (.t 17),none⟩,⟨some 19,.move (.t 0),some (18,true)⟩,⟨some 20,.nilCheck (.t 19),some (18,true)⟩,⟨some 21,.fieldAddr 2 (.t 20),some (18,true)⟩,⟨some 22,.load none (.t 21),some (18,true)⟩,⟨some 23,.un .not (.t 22),some (18,true)⟩,⟨some 24,.pick (.t 18) (.t 23) (.c (.im (.bool false))),none⟩] []) (.cond (.t 24) .skip (.exit 0)))
def S35 : ACode := (.ops [⟨some 27,.move (.t 0),none⟩,⟨some 28,.move (.t 10),none⟩,⟨some 29,.call (.c (.clo 53 [])) [(.t 27),(.t 28)],none⟩] [])
def M35 : ACode := (.ops [⟨some 10,.move (.c (.im (.int .u8 44))),none⟩] [])
def B35 : ACode := (.seq (.ops [⟨some 30,.move (.t 0),none⟩,⟨some 31,.nilCheck (.t 30),none⟩,⟨some 32,.fieldAddr 2 (.t 31),none⟩,⟨some 33,.load none (.t 32),none⟩] []) (.cond (.t 33) (.exit 0) .skip))
def sw35 : ACode := (.seq (.ops [⟨some 34,.move (.t 2),none⟩,⟨some 35,.move (.t 11),none⟩,⟨some 36,.indexStr (.t 34) (.t 35),none⟩] []) (.block 2 (.seq (.ops [⟨some 47,.bin .eql (.t 36) (.c (.im (.int .u8 100))),none⟩,⟨some 46,.move (.t 47),none⟩] []) (.cond (.t 46) (.seq (.ops [⟨some 48,.move (.t 0),none⟩,⟨some 49,.call (.c (.clo 19 [])) [(.t 48)],none⟩] []) (.seq (.seq (.ops [⟨some 50,.move (.t 0),none⟩,⟨some 51,.call (.c (.clo 29 [])) [(.t 50)],none⟩,⟨some 52,.i2i .i64 (.t 51),none⟩,⟨some 53,.bin .sub (.t 52) (.c (.im (.int .i64 48))),none⟩,⟨some 54,.fieldAddr 1 (.t 9),none⟩,⟨none,.store 1 (.t 54) (.t 53),none⟩] []) (.seq (.ops [⟨some 55,.fieldAddr 1 (.t 9),none⟩,⟨some 56,.load none (.t 55),none⟩,⟨some 57,.bin .lss (.t 56) (.c (.im (.int .i64 0))),none⟩,⟨some 58,.move (.t 57),none⟩,⟨some 59,.fieldAddr 1 (.t 9),some (58,false)⟩,⟨some 60,.load none (.t 59),some (58,false)⟩,⟨some 61,.bin .gtr (.t 60) (.c (.im (.int .i64 9))),some (58,false)⟩,⟨some 62,.pick (.t 58) (.c (.im (.bool true))) (.t 61),none⟩] []) (.cond (.t 62) (.seq (.ops [⟨some 63,.move (.t 0),none⟩,⟨some 64,.nilCheck (.t 63),none⟩,⟨some 65,.fieldAddr 2 (.t 64),none⟩,⟨none,.store 1 (.t 65) (.c (.im (.bool true))),none⟩] []) (.exit 2)) .skip))) (.ops [⟨some 66,.move (.t 0),none⟩,⟨some 67,.nilCheck (.t 66),none⟩,⟨some 68,.fieldAddr 1 (.t 67),none⟩,⟨some 69,.load none (.t 68),none⟩,⟨some 70,.bin .add (.t 69) (.c (.im (.int .i64 1))),none⟩,⟨some 71,.nilCheck (.t 66),none⟩,⟨some 72,.fieldAddr 1 (.t 71),none⟩,⟨none,.store 1 (.t 72) (.t 70),none⟩] []))) (.seq (.ops [⟨some 74,.bin .eql (.t 36) (.c (.im (.int .u8 116))),none⟩,⟨some 73,.move (.t 74),none⟩] []) (.cond (.t 73) (.ops [⟨some 75,.move (.t 0),none⟩,⟨some 76,.call (.c (.clo 54 [])) [(.t 75)],none⟩,⟨some 77,.fieldAddr 3 (.t 9),none⟩,⟨none,.store 2 (.t 77) (.t 76),none⟩] []) (.seq (.ops [⟨some 79,.bin .eql (.t 36) (.c (.im (.int .u8 110))),none⟩,⟨some 78,.move (.t 79),none⟩] []) (.cond (.t 78) (.ops [⟨some 80,.fieldAddr 5 (.t 9),none⟩,⟨some 81,.load none (.t 80),none⟩,⟨some 82,.move (.t 0),none⟩,⟨some 83,.call (.c (.clo 55 [])) [(.t 82)],none⟩,⟨some 84,.bslice false 6 1 [(.im (.str [])),(.im (.int .i64 0)),(.im (.str [])),(.im (.int .i64 0)),.nils,.nils] [(0,(.t 83))],none⟩,⟨some 85,.append 27 96 6 (.t 81) (.t 84),none⟩,⟨some 86,.fieldAddr 5 (.t 9),none⟩,⟨none,.store 1 (.t 86) (.t 85),none⟩] [(1,3)]) (.ops [⟨some 37,.fieldAddr 5 (.t 9),none⟩,⟨some 38,.load none (.t 37),none⟩,⟨some 39,.move (.t 0),none⟩,⟨some 40,.move (.t 3),none⟩,⟨some 41,.bin .sub (.t 40) (.c (.im (.int .i64 1))),none⟩,⟨some 42,.call (.c (.clo 18 [])) [(.t 39),(.t 41)],none⟩,⟨some 43,.bslice false 6 1 [(.im (.str [])),(.im (.int .i64 0)),(.im (.str [])),(.im (.int .i64 0)),.nils,.nils] [(0,(.t 42))],none⟩,⟨some 44,.append 27 96 6 (.t 38) (.t 43),none⟩,⟨some 45,.fieldAddr 5 (.t 9),none⟩,⟨none,.store 1 (.t 45) (.t 44),none⟩] [(1,5)])))))))))
def tl35 : ACode := (.seq (.ops [⟨some 87,.move (.t 2),none⟩,⟨some 88,.bin .eql (.t 87) (.c (.im (.str [43]))),none⟩,⟨some 89,.move (.t 88),none⟩,⟨some 90,.move (.t 0),some (89,true)⟩,⟨some 91,.nilCheck (.t 90),some (89,true)⟩,⟨some 92,.fieldAddr 2 (.t 91),some (89,true)⟩,⟨some 93,.load none (.t 92),some (89,true)⟩,⟨some 94,.un .not (.t 93),some (89,true)⟩,⟨some 95,.pick (.t 89) (.t 94) (.c (.im (.bool false))),none⟩,⟨some 96,.move (.t 95),none⟩,⟨some 97,.fieldAddr 5 (.t 9),some (96,true)⟩,⟨some 98,.load none (.t 97),some (96,true)⟩,⟨some 99,.lenSl (.t 98),some (96,true)⟩,⟨some 100,.bin .lss (.t 99) (.c (.im (.int .i64 64))),some (96,true)⟩,⟨some 101,.pick (.t 96) (.t 100) (.c (.im (.bool false))),none⟩] []) (.cond (.t 101) (.seq (.ops [⟨some 102,.move (.t 0),none⟩,⟨some 103,.call (.c (.clo 19 [])) [(.t 102)],none⟩] []) (.seq (.ops [⟨some 104,.move (.t 0),none⟩,⟨some 105,.call (.c (.clo 29 [])) [(.t 104)],none⟩,⟨some 106,.bin .eql (.t 105) (.c (.im (.int .u8 44))),none⟩] []) (.cond (.t 106) (.ops [⟨some 107,.move (.t 11),none⟩,⟨some 108,.bin .sub (.t 107) (.c (.im (.int .i64 1))),none⟩,⟨some 11,.move (.t 108),none⟩] []) .skip))) .skip))
def I35 : ACode := (.ops [⟨some 25,.move (.t 11),none⟩,⟨some 26,.bin .add (.t 25) (.c (.im (.int .i64 1))),none⟩,⟨some 11,.move (.t 26),none⟩] [])
theorem cut35 : b35_0 = .seq T35 (.seq (.block 1 (.seq S35 (.seq M35 (.seq B35 (.seq sw35 tl35))))) I35) := _root_.id rfl
end Go.Abs.Seat
end
section
set_option linter.unusedVariables false
set_option linter.unusedSimpArgs false
namespace Go.Abs.Seat
open Go.Proofs
def TyA (ty : KT) (k : Int) (y : AV) : Prop := (ty = zeroT ∧ k = 0 ∧ y = .nils) ∨ ∃ s args, ty = .mk k s args ∧ y = .im (.sl s (encTs args))
def NodeAt (tid : TypeId) (n id : Nat) (w : List UInt8) (st : St) (H : Heap) : Prop :=
 ∃ (k : Int) (y v : AV), H[id]? = some (.obj none [[.im (.str w), .im (.int .i64 st.1), .im (.str []), .im (.int .i64 k), y, v]]) ∧ TyA st.2.1 k y ∧ Gath tid 6 n v H (st.2.2.map encN)
theorem NodeAt.set {tid : TypeId} {n id ir : Nat} {w : List UInt8} {st : St} {H : Heap} {t : Option (TypeId × Nat)} {xs : List (List AV)} (h : NodeAt tid n id w st H) (hne : ir ≠ id) (ho : H[ir]? = some (.obj t xs)) (x : HO) : NodeAt tid n id w st (H.set ir x) := by
 obtain ⟨k, y, v, h1, h2, h3⟩ := h
 exact ⟨k, y, v, by rw [List.getElem?_set_ne hne]; exact h1, h2, h3.set_obj ho x⟩
theorem NodeAt.more {tid : TypeId} {n id : Nat} {w : List UInt8} {st : St} {H : Heap} (h : NodeAt tid n id w st H) (M : Heap) : NodeAt tid n id w st (H ++ M) := by
 obtain ⟨k, y, v, h1, h2, h3⟩ := h
 exact ⟨k, y, v, by rw [get_app (List.getElem?_eq_some_iff.1 h1).1]; exact h1, h2, h3.more M⟩
def Regs (l : List Nat) (tm tm' : List AV) : Prop := ∀ j ∈ l, tm'.getD j undefA = tm.getD j undefA
def But2 (n ir id : Nat) (H H' : Heap) : Prop := H.length ≤ H'.length ∧ ∀ i, i < n → i ≠ ir → i ≠ id → H'[i]? = H[i]?
theorem s19' {H : Heap} {ir : Nat} (hirl : ir < H.length) {b : List UInt8} (hb : b.length ≤ 4611686018427387904) {p : Nat} (hp : p ≤ b.length) (bad : Bool) : L 19 [.ptr ir 0 0] (H.set ir (objS b p bad)) = some (.tup [], H.set ir (objS b (skipB b p) bad)) := by
 rw [s19 b p ir bad _ (List.getElem?_set_self hirl) hb hp, List.set_set]
theorem s29' {H : Heap} {ir : Nat} (hirl : ir < H.length) {b : List UInt8} (hb : b.length ≤ 4611686018427387904) (p : Nat) (bad : Bool) : L 29 [.ptr ir 0 0] (H.set ir (objS b p bad)) = some (.im (.int .u8 ((peekB b p).toNat : Int)), H.set ir (objS b p bad)) :=
 s29 b p ir bad _ (List.getElem?_set_self hirl) hb
def Did {R : Type} (b w : List UInt8) (ir N : Nat) (tm : List AV) (H : Heap) (K : AEx → List AV → Heap → Option R) (o : Option R) (r : St × Nat × Bool) : Prop :=
 ∃ tm' H' st', o = K .normal tm' H' ∧ tm'.length = 112 ∧ Regs [0, 1, 2, 3, 8, 9, 10, 11] tm tm' ∧ But2 (N + 2) ir (N + 1) H H' ∧ H'[ir]? = some (objS b r.2.1 r.2.2) ∧ NodeAt 27 (N + 2) (N + 1) w st' H' ∧ (r.2.2 = false → st' = r.1)
theorem sw35_e (b : List UInt8) (hb : b.length ≤ 2305843009213693952) (ir N : Nat) (hne : ir ≠ N + 1) (w ps : List UInt8) (i : Nat) (c : UInt8) (hc : ps[i]? = some c) (d d' : Int) (hd : IntKind.i64.wrap (d - 1) = d') (rd : Nat → NT × Nat × Bool) (he : isE c = true)
  (p : Nat) (hp : p ≤ b.length) (st : St) (hst : st.2.2.length ≤ 100) (tm : List AV) (H : Heap) (hlen : tm.length = 112) (h0 : tm.getD 0 undefA = .ptr ir 0 0) (h2 : tm.getD 2 undefA = .im (.str ps)) (h3 : tm.getD 3 undefA = .im (.int .i64 d)) (h9 : tm.getD 9 undefA = .ptr (N + 1) 0 0) (h11 : tm.getD 11 undefA = .im (.int .i64 (i : Int)))
  (hir : H[ir]? = some (objS b p false)) (hnd : NodeAt 27 (N + 2) (N + 1) w st H) (hN : N + 2 ≤ H.length) (hirN : ir < N + 2)
  (hcall : ∃ nd, L 18 [.ptr ir 0 0, .im (.int .i64 d')] H = some (.im (.agg (encN nd)), H.set ir (objS b (rd p).2.1 (rd p).2.2)) ∧ ((rd p).2.2 = false → nd = (rd p).1)) {R : Type} (K : AEx → List AV → Heap → Option R) :
  Did b w ir N tm H K (exec0 L Λ sw35 tm H K) (itemX rd b c st p) := by
 have hirl := (List.getElem?_eq_some_iff.1 hir).1
 obtain ⟨nd, hcl, hnn⟩ := hcall
 obtain ⟨k, y, v, o1, hty, hG⟩ := hnd
 have hitem : itemX rd b c st p = ((st.1, st.2.1, st.2.2 ++ [(rd p).1]), (rd p).2.1, (rd p).2.2) := by
  unfold isE at he
  simp only [Bool.and_eq_true,Bool.not_eq_true',decide_eq_false_iff_not] at he
  unfold itemX
  rw [if_neg he.1, if_neg he.2.1, if_neg he.2.2]
 have n100 : decide ((c.toNat : Int) = 100) = false := by
  refine (byte_eq c 100).trans ?_; unfold isE at he; simp only [Bool.and_eq_true,Bool.not_eq_true'] at he; exact he.1
 have n116 : decide ((c.toNat : Int) = 116) = false := by
  refine (byte_eq c 116).trans ?_; unfold isE at he; simp only [Bool.and_eq_true,Bool.not_eq_true'] at he; exact he.2.1
 have n110 : decide ((c.toNat : Int) = 110) = false := by
  refine (byte_eq c 110).trans ?_; unfold isE at he; simp only [Bool.and_eq_true,Bool.not_eq_true'] at he; exact he.2.2
 have p2 : (0 : Int) ≤ (i : Int) := Int.natCast_nonneg i
 rw [hitem]
 generalize (rd p).2.1 = q at *
 generalize (rd p).2.2 = bad at *
 generalize (rd p).1 = nx at *
 unfold Did
 have oir2 : (H.set ir (objS b q bad))[ir]? = some (objS b q bad) := List.getElem?_set_self hirl
 have o12 : (H.set ir (objS b q bad))[N + 1]? = some (.obj none [[.im (.str w), .im (.int .i64 st.1), .im (.str []), .im (.int .i64 k), y, v]]) := by rw [List.getElem?_set_ne hne]; exact o1
 have hG2 := hG.set_obj hir (objS b q bad)
 have hb2 : ∀ j, j ≠ ir → (H.set ir (objS b q bad))[j]? = H[j]? := fun j hj => List.getElem?_set_ne (fun e => hj e.symm)
 have hl2 : (H.set ir (objS b q bad)).length = H.length := by simp
 generalize H.set ir (objS b q bad) = H2 at *
 obtain ⟨op, ni, txt, ty, ns, kids⟩ := nd
 obtain ⟨tk, ts, targs⟩ := ty
 have hGx := hG2.grow (bytes := 96) (by omega) (encN (.mk op ni txt (.mk tk ts targs) ns kids)) (by simp; omega) (by decide)
 obtain ⟨tok, H3, hap, hG3, hl3, hlow3, hob3⟩ := hGx
 have o13 := hob3 _ _ _ o12
 have o1l := (List.getElem?_eq_some_iff.1 o13).1
 simp only [encN] at hcl hap
 simp only [sw35,B0,B1,B2,List.replicate,Nat.reduceAdd,Nat.reduceSub,Nat.reduceLeDiff,Nat.reduceLT,Nat.reduceEqDiff,reduceCtorEq,Int.reduceEq,Int.reduceLT,Int.reduceLE,lenA,z_ops,z_nil,z_cons,z_guard,z_some,z_drop,z_do,z_not,z_not0,pairK,forall_eq_or_imp,stays,loadOf,List.reverse_cons,List.reverse_nil,List.mem_cons,List.not_mem_nil,or_false,forall_eq,true_or,or_true,Bool.true_and,intOfA,byteDat,elems,toDatss,toDats,toDat,Int.toNat_natCast,hlen,h0,h2,h3,h9,h11,hc,p2,n100,n116,n110,hd,hcl,o1,o12,o13,hap]
 refine ⟨_, _, (st.1, st.2.1, st.2.2 ++ [.mk op ni txt (.mk tk ts targs) ns kids]), rfl, by simp only [List.length_set,hlen], ?_, ?_, ?_, ?_, ?_⟩
 ·intro j hj
  simp only [List.mem_cons,List.not_mem_nil,or_false] at hj
  rcases hj with rfl | rfl | rfl | rfl | rfl | rfl | rfl | rfl <;> simp only [B3,Nat.reduceLT,Nat.reduceEqDiff,hlen]
 ·refine ⟨by simp; omega, fun j hj h1 h2 => ?_⟩
  rw [List.getElem?_set_ne (fun e => h2 e.symm), hlow3 j hj, hb2 j h1]
 ·rw [List.getElem?_set_ne (fun e => hne e.symm), hlow3 ir hirN, oir2]
 ·refine ⟨k, y, _, List.getElem?_set_self o1l, hty, ?_⟩
  rw [show (st.2.2 ++ [NT.mk op ni txt (.mk tk ts targs) ns kids]).map encN = st.2.2.map encN ++ [encN (.mk op ni txt (.mk tk ts targs) ns kids)] by simp]
  simp only [encN] at hG3 ⊢
  exact hG3.set_obj o13 _
 ·intro hbad
  rw [hnn hbad]
theorem sw35_n (b : List UInt8) (hb : b.length ≤ 2305843009213693952) (ir N : Nat) (hne : ir ≠ N + 1) (w ps : List UInt8) (i : Nat) (c : UInt8) (hc : ps[i]? = some c) (rd : Nat → NT × Nat × Bool) (he : c = 110)
  (p : Nat) (hp : p ≤ b.length) (st : St) (hst : st.2.2.length ≤ 100) (tm : List AV) (H : Heap) (hlen : tm.length = 112) (h0 : tm.getD 0 undefA = .ptr ir 0 0) (h2 : tm.getD 2 undefA = .im (.str ps)) (h9 : tm.getD 9 undefA = .ptr (N + 1) 0 0) (h11 : tm.getD 11 undefA = .im (.int .i64 (i : Int)))
  (hir : H[ir]? = some (objS b p false)) (hnd : NodeAt 27 (N + 2) (N + 1) w st H) (hN : N + 2 ≤ H.length) (hirN : ir < N + 2)
  {R : Type} (K : AEx → List AV → Heap → Option R) :
  Did b w ir N tm H K (exec0 L Λ sw35 tm H K) (itemX rd b c st p) := by
 have hirl := (List.getElem?_eq_some_iff.1 hir).1
 have hcl := s55 b p ir H hir (by omega) hp
 obtain ⟨k, y, v, o1, hty, hG⟩ := hnd
 have hitem : itemX rd b c st p = ((st.1, st.2.1, st.2.2 ++ [(nameP b p).1]), (nameP b p).2.1, (nameP b p).2.2) := by
  unfold itemX
  rw [if_neg (by rw [he]; decide), if_neg (by rw [he]; decide), if_pos he]
 have n100 : decide ((c.toNat : Int) = 100) = false := by rw [he]; rfl
 have n116 : decide ((c.toNat : Int) = 116) = false := by rw [he]; rfl
 have n110 : decide ((c.toNat : Int) = 110) = true := by rw [he]; rfl
 have p2 : (0 : Int) ≤ (i : Int) := Int.natCast_nonneg i
 rw [hitem]
 generalize (nameP b p).2.1 = q at *
 generalize (nameP b p).2.2 = bad at *
 generalize (nameP b p).1 = nd at *
 unfold Did
 have oir2 : (H.set ir (objS b q bad))[ir]? = some (objS b q bad) := List.getElem?_set_self hirl
 have o12 : (H.set ir (objS b q bad))[N + 1]? = some (.obj none [[.im (.str w), .im (.int .i64 st.1), .im (.str []), .im (.int .i64 k), y, v]]) := by rw [List.getElem?_set_ne hne]; exact o1
 have hG2 := hG.set_obj hir (objS b q bad)
 have hb2 : ∀ j, j ≠ ir → (H.set ir (objS b q bad))[j]? = H[j]? := fun j hj => List.getElem?_set_ne (fun e => hj e.symm)
 have hl2 : (H.set ir (objS b q bad)).length = H.length := by simp
 generalize H.set ir (objS b q bad) = H2 at *
 obtain ⟨op, ni, txt, ty, ns, kids⟩ := nd
 obtain ⟨tk, ts, targs⟩ := ty
 have hGx := hG2.grow (bytes := 96) (by omega) (encN (.mk op ni txt (.mk tk ts targs) ns kids)) (by simp; omega) (by decide)
 obtain ⟨tok, H3, hap, hG3, hl3, hlow3, hob3⟩ := hGx
 have o13 := hob3 _ _ _ o12
 have o1l := (List.getElem?_eq_some_iff.1 o13).1
 simp only [encN] at hcl hap
 simp only [sw35,B0,B1,B2,List.replicate,Nat.reduceAdd,Nat.reduceSub,Nat.reduceLeDiff,Nat.reduceLT,Nat.reduceEqDiff,reduceCtorEq,Int.reduceEq,Int.reduceLT,Int.reduceLE,lenA,z_ops,z_nil,z_cons,z_guard,z_some,z_drop,z_do,z_not,z_not0,pairK,forall_eq_or_imp,stays,loadOf,List.reverse_cons,List.reverse_nil,List.mem_cons,List.not_mem_nil,or_false,forall_eq,true_or,or_true,Bool.true_and,intOfA,byteDat,elems,toDatss,toDats,toDat,Int.toNat_natCast,hlen,h0,h2,h9,h11,hc,p2,n100,n116,n110,hcl,o1,o12,o13,hap]
 refine ⟨_, _, (st.1, st.2.1, st.2.2 ++ [.mk op ni txt (.mk tk ts targs) ns kids]), rfl, by simp only [List.length_set,hlen], ?_, ?_, ?_, ?_, ?_⟩
 ·intro j hj
  simp only [List.mem_cons,List.not_mem_nil,or_false] at hj
  rcases hj with rfl | rfl | rfl | rfl | rfl | rfl | rfl | rfl <;> simp only [B3,Nat.reduceLT,Nat.reduceEqDiff,hlen]
 ·refine ⟨by simp; omega, fun j hj h1 h2 => ?_⟩
  rw [List.getElem?_set_ne (fun e => h2 e.symm), hlow3 j hj, hb2 j h1]
 ·rw [List.getElem?_set_ne (fun e => hne e.symm), hlow3 ir hirN, oir2]
 ·refine ⟨k, y, _, List.getElem?_set_self o1l, hty, ?_⟩
  rw [show (st.2.2 ++ [NT.mk op ni txt (.mk tk ts targs) ns kids]).map encN = st.2.2.map encN ++ [encN (.mk op ni txt (.mk tk ts targs) ns kids)] by simp]
  simp only [encN] at hG3 ⊢
  exact hG3.set_obj o13 _
 ·exact fun _ => rfl
theorem sw35_t (b : List UInt8) (hb : b.length ≤ 2305843009213693952) (ir N : Nat) (hne : ir ≠ N + 1) (w ps : List UInt8) (i : Nat) (c : UInt8) (hc : ps[i]? = some c) (rd : Nat → NT × Nat × Bool) (he : c = 116)
  (p : Nat) (hp : p ≤ b.length) (st : St) (hst : st.2.2.length ≤ 100) (tm : List AV) (H : Heap) (hlen : tm.length = 112) (h0 : tm.getD 0 undefA = .ptr ir 0 0) (h2 : tm.getD 2 undefA = .im (.str ps)) (h9 : tm.getD 9 undefA = .ptr (N + 1) 0 0) (h11 : tm.getD 11 undefA = .im (.int .i64 (i : Int)))
  (hir : H[ir]? = some (objS b p false)) (hnd : NodeAt 27 (N + 2) (N + 1) w st H) (hN : N + 2 ≤ H.length) (hirN : ir < N + 2)
  {R : Type} (K : AEx → List AV → Heap → Option R) :
  Did b w ir N tm H K (exec0 L Λ sw35 tm H K) (itemX rd b c st p) := by
 have hirl := (List.getElem?_eq_some_iff.1 hir).1
 have hcl := s54 b p ir H hir hb hp
 obtain ⟨k, y, v, o1, hty, hG⟩ := hnd
 have hitem : itemX rd b c st p = ((st.1, (typP b (skipB b p)).1, st.2.2), (typP b (skipB b p)).2.1, (typP b (skipB b p)).2.2) := by
  unfold itemX
  rw [if_neg (by rw [he]; decide), if_pos he]
 have n100 : decide ((c.toNat : Int) = 100) = false := by rw [he]; rfl
 have n116 : decide ((c.toNat : Int) = 116) = true := by rw [he]; rfl
 have p2 : (0 : Int) ≤ (i : Int) := Int.natCast_nonneg i
 rw [hitem]
 generalize (typP b (skipB b p)).2.1 = q at *
 generalize (typP b (skipB b p)).2.2 = bad at *
 generalize (typP b (skipB b p)).1 = ty at *
 unfold Did
 have oir2 : (H.set ir (objS b q bad))[ir]? = some (objS b q bad) := List.getElem?_set_self hirl
 have o12 : (H.set ir (objS b q bad))[N + 1]? = some (.obj none [[.im (.str w), .im (.int .i64 st.1), .im (.str []), .im (.int .i64 k), y, v]]) := by rw [List.getElem?_set_ne hne]; exact o1
 have hG2 := hG.set_obj hir (objS b q bad)
 have hb2 : ∀ j, j ≠ ir → (H.set ir (objS b q bad))[j]? = H[j]? := fun j hj => List.getElem?_set_ne (fun e => hj e.symm)
 have hl2 : (H.set ir (objS b q bad)).length = H.length := by simp
 generalize H.set ir (objS b q bad) = H2 at *
 obtain ⟨tk, ts, targs⟩ := ty
 simp only [encT] at hcl
 simp only [sw35,B0,B1,B2,List.replicate,Nat.reduceAdd,Nat.reduceSub,Nat.reduceLeDiff,Nat.reduceLT,Nat.reduceEqDiff,reduceCtorEq,Int.reduceEq,Int.reduceLT,Int.reduceLE,lenA,z_ops,z_nil,z_cons,z_guard,z_some,z_drop,z_do,z_not,z_not0,pairK,forall_eq_or_imp,stays,loadOf,List.reverse_cons,List.reverse_nil,List.mem_cons,List.not_mem_nil,or_false,forall_eq,true_or,or_true,Bool.true_and,intOfA,byteDat,Int.toNat_natCast,hlen,h0,h2,h9,h11,hc,p2,n100,n116,hcl,o12]
 refine ⟨_, _, (st.1, .mk tk ts targs, st.2.2), rfl, by simp only [List.length_set,hlen], ?_, ?_, ?_, ?_, fun _ => rfl⟩
 ·intro j hj
  simp only [List.mem_cons,List.not_mem_nil,or_false] at hj
  rcases hj with rfl | rfl | rfl | rfl | rfl | rfl | rfl | rfl <;> simp only [B3,Nat.reduceLT,Nat.reduceEqDiff,hlen]
 ·refine ⟨by simp; omega, fun j hj h1 h2 => ?_⟩
  rw [List.getElem?_set_ne (fun e => h2 e.symm), hb2 j h1]
 ·rw [List.getElem?_set_ne (fun e => hne e.symm), oir2]
 ·exact ⟨tk, _, v, List.getElem?_set_self (by omega), .inr ⟨ts, targs, rfl, rfl⟩, hG2.set_obj o12 _⟩
theorem sw35_d (b : List UInt8) (hb : b.length ≤ 2305843009213693952) (ir N : Nat) (hne : ir ≠ N + 1) (w ps : List UInt8) (i : Nat) (c : UInt8) (hc : ps[i]? = some c) (rd : Nat → NT × Nat × Bool) (he : c = 100)
  (p : Nat) (hp : p ≤ b.length) (st : St) (hst : st.2.2.length ≤ 100) (tm : List AV) (H : Heap) (hlen : tm.length = 112) (h0 : tm.getD 0 undefA = .ptr ir 0 0) (h2 : tm.getD 2 undefA = .im (.str ps)) (h9 : tm.getD 9 undefA = .ptr (N + 1) 0 0) (h11 : tm.getD 11 undefA = .im (.int .i64 (i : Int)))
  (hir : H[ir]? = some (objS b p false)) (hnd : NodeAt 27 (N + 2) (N + 1) w st H) (hN : N + 2 ≤ H.length) (hirN : ir < N + 2)
  {R : Type} (K : AEx → List AV → Heap → Option R) :
  Did b w ir N tm H K (exec0 L Λ sw35 tm H K) (itemX rd b c st p) := by
 have hirl := (List.getElem?_eq_some_iff.1 hir).1
 have hself : H = H.set ir (objS b p false) := (set_same hir).symm
 have c1 := s19' (b := b) hirl (by omega) hp false
 rw [← hself] at c1
 have c2 := s29' (b := b) hirl (by omega) (skipB b p) false
 obtain ⟨k, y, v, o1, hty, hG⟩ := hnd
 have n100 : decide ((c.toNat : Int) = 100) = true := by rw [he]; rfl
 have p2 : (0 : Int) ≤ (i : Int) := Int.natCast_nonneg i
 have hq := skip_len hp
 have hwr := wrap_nat (i := skipB b p) (by omega)
 have hc256 : (peekB b (skipB b p)).toNat < 256 := (peekB b (skipB b p)).toNat_lt
 have hsub : IntKind.i64.wrap (((peekB b (skipB b p)).toNat : Int) - 48) = ((peekB b (skipB b p)).toNat : Int) - 48 := Go.Abs.Seat.wrap_small _ (by omega)
 have hid : IntKind.i64.wrap ((peekB b (skipB b p)).toNat : Int) = ((peekB b (skipB b p)).toNat : Int) := Go.Abs.Seat.wrap_small _ (by omega)
 unfold itemX
 rw [if_pos he]
 generalize skipB b p = q at *
 generalize peekB b q = a at *
 have f1 : ∀ o, (H.set ir o)[N + 1]? = some (.obj none [[.im (.str w), .im (.int .i64 st.1), .im (.str []), .im (.int .i64 k), y, v]]) := fun o => by rw [List.getElem?_set_ne hne]; exact o1
 have f2 : ∀ o x, ((H.set ir o).set (N + 1) x)[ir]? = some o := fun o x => by rw [List.getElem?_set_ne (fun e => hne e.symm)]; exact List.getElem?_set_self hirl
 have f3 : ∀ o x, ((H.set ir o).set (N + 1) x)[N + 1]? = some x := fun o x => List.getElem?_set_self (by simp; omega)
 have f4 : ∀ o x o', ((H.set ir o).set (N + 1) x).set ir o' = (H.set ir o').set (N + 1) x := fun o x o' => by rw [List.set_comm _ _ (fun e => hne e.symm), List.set_set]
 have hfin : ∀ (q' : Nat) (bd : Bool) (z : Int), But2 (N + 2) ir (N + 1) H ((H.set ir (objS b q' bd)).set (N + 1) (.obj none [[.im (.str w), .im (.int .i64 z), .im (.str []), .im (.int .i64 k), y, v]])) ∧
   ((H.set ir (objS b q' bd)).set (N + 1) (.obj none [[.im (.str w), .im (.int .i64 z), .im (.str []), .im (.int .i64 k), y, v]]))[ir]? = some (objS b q' bd) ∧
   NodeAt 27 (N + 2) (N + 1) w (z, st.2.1, st.2.2) ((H.set ir (objS b q' bd)).set (N + 1) (.obj none [[.im (.str w), .im (.int .i64 z), .im (.str []), .im (.int .i64 k), y, v]])) := fun q' bd z =>
  ⟨⟨by simp, fun j hj h1 h2 => by rw [List.getElem?_set_ne (fun e => h2 e.symm), List.getElem?_set_ne (fun e => h1 e.symm)]⟩, f2 _ _, ⟨k, y, v, f3 _ _, hty, (hG.set_obj hir _).set_obj (f1 _) _⟩⟩
 simp only [objS] at c1 c2 hir f1 f2 f3 f4
 unfold Did
 rcases Bool.eq_false_or_eq_true (digZ (a.toNat : Int)) with hd | hd
 ·have hr := dig_range hd
  have e1 : decide ((a.toNat : Int) - 48 < 0) = false := decide_eq_false (by omega)
  have e2 : decide (9 < (a.toNat : Int) - 48) = false := decide_eq_false (by omega)
  rw [hd, if_pos rfl]
  simp only [sw35,B0,B1,B2,List.replicate,Nat.reduceAdd,Nat.reduceSub,Nat.reduceLeDiff,Nat.reduceLT,Nat.reduceEqDiff,reduceCtorEq,Int.reduceEq,Int.reduceLT,Int.reduceLE,lenA,z_ops,z_nil,z_cons,z_guard,z_some,z_drop,z_do,z_not,z_not0,pairK,forall_eq_or_imp,stays,loadOf,List.reverse_cons,List.reverse_nil,List.mem_cons,List.not_mem_nil,or_false,forall_eq,true_or,or_true,Bool.true_and,intOfA,byteDat,Int.toNat_natCast,hlen,h0,h2,h9,h11,hc,p2,n100,c1,c2,f1,f2,f3,f4,hid,hsub,e1,e2,hwr]
  obtain ⟨k1, k2, k3⟩ := hfin (q + 1) false ((a.toNat : Int) - 48)
  refine ⟨_, _, (((a.toNat : Int) - 48), st.2.1, st.2.2), rfl, by simp only [List.length_set,hlen], ?_, k1, k2, k3, fun _ => rfl⟩
  intro j hj
  simp only [List.mem_cons,List.not_mem_nil,or_false] at hj
  rcases hj with rfl | rfl | rfl | rfl | rfl | rfl | rfl | rfl <;> simp only [B3,Nat.reduceLT,Nat.reduceEqDiff,hlen]
 ·rw [hd, if_neg (by simp)]
  obtain ⟨k1, k2, k3⟩ := hfin q true ((a.toNat : Int) - 48)
  rcases dig_not hd with hd | hd
  ·have e1 : decide ((a.toNat : Int) - 48 < 0) = true := decide_eq_true (by omega)
   simp only [sw35,B0,B1,B2,List.replicate,Nat.reduceAdd,Nat.reduceSub,Nat.reduceLeDiff,Nat.reduceLT,Nat.reduceEqDiff,reduceCtorEq,Int.reduceEq,Int.reduceLT,Int.reduceLE,lenA,z_ops,z_nil,z_cons,z_guard,z_some,z_drop,z_do,z_not,z_not0,pairK,forall_eq_or_imp,stays,loadOf,List.reverse_cons,List.reverse_nil,List.mem_cons,List.not_mem_nil,or_false,forall_eq,true_or,or_true,Bool.true_and,intOfA,byteDat,Int.toNat_natCast,hlen,h0,h2,h9,h11,hc,p2,n100,c1,c2,f1,f2,f3,f4,hid,hsub,e1]
   refine ⟨_, _, (((a.toNat : Int) - 48), st.2.1, st.2.2), rfl, by simp only [List.length_set,hlen], ?_, k1, k2, k3, fun h => by simp at h⟩
   intro j hj
   simp only [List.mem_cons,List.not_mem_nil,or_false] at hj
   rcases hj with rfl | rfl | rfl | rfl | rfl | rfl | rfl | rfl <;> simp only [B3,Nat.reduceLT,Nat.reduceEqDiff,hlen]
  ·have e1 : decide ((a.toNat : Int) - 48 < 0) = false := decide_eq_false (by omega)
   have e2 : decide (9 < (a.toNat : Int) - 48) = true := decide_eq_true (by omega)
   simp only [sw35,B0,B1,B2,List.replicate,Nat.reduceAdd,Nat.reduceSub,Nat.reduceLeDiff,Nat.reduceLT,Nat.reduceEqDiff,reduceCtorEq,Int.reduceEq,Int.reduceLT,Int.reduceLE,lenA,z_ops,z_nil,z_cons,z_guard,z_some,z_drop,z_do,z_not,z_not0,pairK,forall_eq_or_imp,stays,loadOf,List.reverse_cons,List.reverse_nil,List.mem_cons,List.not_mem_nil,or_false,forall_eq,true_or,or_true,Bool.true_and,intOfA,byteDat,Int.toNat_natCast,hlen,h0,h2,h9,h11,hc,p2,n100,c1,c2,f1,f2,f3,f4,hid,hsub,e1,e2]
   refine ⟨_, _, (((a.toNat : Int) - 48), st.2.1, st.2.2), rfl, by simp only [List.length_set,hlen], ?_, k1, k2, k3, fun h => by simp at h⟩
   intro j hj
   simp only [List.mem_cons,List.not_mem_nil,or_false] at hj
   rcases hj with rfl | rfl | rfl | rfl | rfl | rfl | rfl | rfl <;> simp only [B3,Nat.reduceLT,Nat.reduceEqDiff,hlen]
theorem did_elim {R : Type} {b w : List UInt8} {ir N : Nat} {tm : List AV} {H : Heap} {K : AEx → List AV → Heap → Option R} {o : Option R} {r : St × Nat × Bool} {P : Option R → Prop} (h : Did b w ir N tm H K o r)
  (hP : ∀ tm' H' st', tm'.length = 112 → Regs [0, 1, 2, 3, 8, 9, 10, 11] tm tm' → But2 (N + 2) ir (N + 1) H H' → H'[ir]? = some (objS b r.2.1 r.2.2) → NodeAt 27 (N + 2) (N + 1) w st' H' → (r.2.2 = false → st' = r.1) → P (K .normal tm' H')) : P o := by
 obtain ⟨tm', H', st', rfl, h1, h2, h3, h4, h5, h6⟩ := h
 exact hP tm' H' st' h1 h2 h3 h4 h5 h6
theorem sw35_all (b : List UInt8) (hb : b.length ≤ 2305843009213693952) (ir N : Nat) (hne : ir ≠ N + 1) (w ps : List UInt8) (i : Nat) (c : UInt8) (hc : ps[i]? = some c) (d d' : Int) (hd : IntKind.i64.wrap (d - 1) = d') (rd : Nat → NT × Nat × Bool)
  (p : Nat) (hp : p ≤ b.length) (st : St) (hst : st.2.2.length ≤ 100) (tm : List AV) (H : Heap) (hlen : tm.length = 112) (h0 : tm.getD 0 undefA = .ptr ir 0 0) (h2 : tm.getD 2 undefA = .im (.str ps)) (h3 : tm.getD 3 undefA = .im (.int .i64 d)) (h9 : tm.getD 9 undefA = .ptr (N + 1) 0 0) (h11 : tm.getD 11 undefA = .im (.int .i64 (i : Int)))
  (hir : H[ir]? = some (objS b p false)) (hnd : NodeAt 27 (N + 2) (N + 1) w st H) (hN : N + 2 ≤ H.length) (hirN : ir < N + 2)
  (hcall : isE c = true → ∃ nd, L 18 [.ptr ir 0 0, .im (.int .i64 d')] H = some (.im (.agg (encN nd)), H.set ir (objS b (rd p).2.1 (rd p).2.2)) ∧ ((rd p).2.2 = false → nd = (rd p).1)) {R : Type} (K : AEx → List AV → Heap → Option R) :
  Did b w ir N tm H K (exec0 L Λ sw35 tm H K) (itemX rd b c st p) := by
 by_cases h100 : c = 100
 ·exact sw35_d b hb ir N hne w ps i c hc rd h100 p hp st hst tm H hlen h0 h2 h9 h11 hir hnd hN hirN K
 by_cases h116 : c = 116
 ·exact sw35_t b hb ir N hne w ps i c hc rd h116 p hp st hst tm H hlen h0 h2 h9 h11 hir hnd hN hirN K
 by_cases h110 : c = 110
 ·exact sw35_n b hb ir N hne w ps i c hc rd h110 p hp st hst tm H hlen h0 h2 h9 h11 hir hnd hN hirN K
 have he : isE c = true := by unfold isE; rw [decide_eq_false h100, decide_eq_false h116, decide_eq_false h110]; rfl
 exact sw35_e b hb ir N hne w ps i c hc d d' hd rd he p hp st hst tm H hlen h0 h2 h3 h9 h11 hir hnd hN hirN (hcall he) K
end Go.Abs.Seat
end
