/- Part 7 of what the claim rests on. -/
import Derived.Test.YtadhcgjcgfejcaaGreatDoorAboveA
import Derived.Test.YtadhcgjcgfejcaaGreatDoorAboveB
import Derived.Test.YtadhcgjcgfejcaaGreatDoorAboveC
import Derived.Test.YtadhcgjcgfejcaaGreatDoorAboveD
import Derived.Test.YtadhcgjcgfejcaaGreatDoorAboveE
import Derived.Test.YtadhcgjcgfejcaaGreatDoorAboveF
section
set_option linter.unusedVariables false
set_option linter.unusedSimpArgs false
namespace Go.Abs.Seat
open Go.Proofs
theorem boolsE_rep (n : Nat) : List.replicate n [AV.im (.bool false)] = boolsE (List.replicate n false) := by
 unfold boolsE
 rw [List.map_replicate]
theorem s35 (p : List GN) (s : Nat) (hs : p = [] ∨ s = 14) (hn : p.length ≤ 1000000) (hok : pOk p) (hf : (checkB p).2 = 0) (i : Nat) (hi : i < p.length) (H : Heap) : L 35 [.im (.agg [.sl s (p.map encG)]), .im (.int .i64 (i : Int))] H = some (.im (slI (upB p i)), H) := by
 have hml : (p.map encG).length = p.length := List.length_map ..
 have c16 := fun H => s16 p s hs hn hok H
 rw [hf] at c16
 have c65 := fun id m hm H hH => s65 p s hs hn hok (fine_down hf) id m hm H hH
 have d1 : decide ((i : Int) < 0) = false := decide_eq_false (by omega)
 have d2 : decide ((p.length : Int) ≤ (i : Int)) = false := decide_eq_false (by omega)
 have hix := idx_nat (n := p.length) (i := i) hi
 have gi := boolsE_get (m := List.replicate p.length false) (k := i) (by simpa using hi)
 have hlr : ((List.replicate p.length false).set i true).length = p.length := by simp
 have hla : (aboveM p p.length ((List.replicate p.length false).set i true)).length = p.length := by rw [aboveM_len, hlr]
 have hnn : (0 : Int) ≤ (p.length : Int) := by omega
 have hn46 : (p.length : Int) ≤ 70368744177664 := by omega
 have k65 := c65 (H.length + 1) _ hlr (H ++ [.obj none [[.im (.sl s (p.map encG))]], .obj none (boolsE ((List.replicate p.length false).set i true))]) (by rw [hget 1]; rfl)
 rw [hset 1] at k65
 have k64 := s64 (aboveM p p.length ((List.replicate p.length false).set i true)) (i : Int) (H.length + 1) (H ++ [.obj none [[.im (.sl s (p.map encG))]], .obj none (boolsE (aboveM p p.length ((List.replicate p.length false).set i true)))]) (by rw [hget 1]; rfl) (by omega)
 rw [hla] at k64
 rw [leq F35]
 obtain ⟨hlen, hx⟩ := enter_at (f := f35) (args := [.im (.agg [.sl s (p.map encG)]), .im (.int .i64 (i : Int))]) (Nat.le_of_ble_eq_true rfl)
 have h0 := hx 0 _ rfl
 have h1 := hx 1 _ rfl
 generalize enterA f35 [.im (.agg [.sl s (p.map encG)]), .im (.int .i64 (i : Int))] = tm at *
 change tm.length = 38 at hlen
 unfold upB
 simp only [f35,B0,B1,B2,List.replicate,reduceCtorEq,lenA,seval,B5,pairK,B4,stays,loadOf,endK,resA,tupA,hlen,h0,h1,c16,hml,d1,d2,hix,intOfA,hnn,hn46,Int.one_mul,Int.toNat_natCast,boolsE_rep,gi,boolsE_set,k65,k64,leave_app]
theorem s35_out (p : List GN) (s : Nat) (hs : p = [] ∨ s = 14) (hn : p.length ≤ 1000000) (hok : pOk p) (hf : (checkB p).2 = 0) (H : Heap) : L 35 [.im (.agg [.sl s (p.map encG)]), .im (.int .i64 (p.length : Int))] H = some (.im (.sl 0 []), H) := by
 have hml : (p.map encG).length = p.length := List.length_map ..
 have c16 := fun H => s16 p s hs hn hok H
 rw [hf] at c16
 have d1 : decide ((p.length : Int) < 0) = false := decide_eq_false (by omega)
 have d2 : decide ((p.length : Int) ≤ (p.length : Int)) = true := decide_eq_true (by omega)
 rw [leq F35]
 obtain ⟨hlen, hx⟩ := enter_at (f := f35) (args := [.im (.agg [.sl s (p.map encG)]), .im (.int .i64 (p.length : Int))]) (Nat.le_of_ble_eq_true rfl)
 have h0 := hx 0 _ rfl
 have h1 := hx 1 _ rfl
 generalize enterA f35 [.im (.agg [.sl s (p.map encG)]), .im (.int .i64 (p.length : Int))] = tm at *
 change tm.length = 38 at hlen
 have hlv := fun M => leave_one (H := H) (M := M) (a := .nils) (d := .sl 0 []) (by simp [toDat])
 simp only [f35,B0,B1,B2,List.replicate,reduceCtorEq,lenA,seval,B5,pairK,B4,stays,loadOf,endK,resA,tupA,hlen,h0,h1,c16,hml,d1,d2,hlv]
theorem m36 (p : List GN) (s : Nat) (hs : p = [] ∨ s = 14) (hn : p.length ≤ 1000000) (id N : Nat) (hidN : id < N) :
  ∀ (k i : Nat), i + k = p.length → ∀ (m : List Bool) (A M : Heap) (tm : List AV), m.length = p.length → A.length = N → A[id]? = some (.obj none (boolsE m)) → tm.length = 38 → tm.getD 5 undefA = .ms 1 id 0 p.length → tm.getD 20 undefA = .im (.sl s (p.map encG)) → tm.getD 21 undefA = .im (.int .i64 (p.length : Int)) → tm.getD 22 undefA = .im (.int .i64 (i : Int)) →
  ∃ e tm' H', Λ c36_0 tm (A ++ M) = some (e, tm', H') ∧ tm'.length = 38 ∧ e = .exit 0 ∧ tm'.getD 5 undefA = .ms 1 id 0 p.length ∧ tm'.getD 1 undefA = tm.getD 1 undefA ∧ ∃ M', H' = A.set id (.obj none (boolsE (m.take i ++ (sinksM p).drop i))) ++ M'
 | 0, i, hi, m, A, M, tm, hm, hA, hI, hlen, h5, h20, h21, h22 => by
  have hc : decide ((i : Int) < (p.length : Int)) = false := decide_eq_false (by omega)
  rw [l36_0]
  simp only [b36_0,B0,B1,B2,List.replicate,reduceCtorEq,lenA,seval,hlen,h5,h20,h21,h22,hc]
  refine ⟨_, _, _, rfl, by simp only [List.length_set,hlen], rfl, by simp only [B3,seval,hlen,h5], by simp only [B3,seval,hlen], M, ?_⟩
  obtain ⟨hl, he⟩ := (List.getElem?_eq_some_iff.1 hI)
  have e1 : m.take i ++ (sinksM p).drop i = m := by
   rw [List.take_of_length_le (by omega), List.drop_eq_nil_iff.2 (by simp [sinksM]; omega), List.append_nil]
  rw [e1, ← he, List.set_getElem_self]
 | k + 1, i, hi, m, A, M, tm, hm, hA, hI, hlen, h5, h20, h21, h22 => by
  have hlt : i < p.length := by omega
  obtain ⟨w, hwi⟩ : ∃ w, p[i]? = some w := ⟨_, List.getElem?_eq_getElem hlt⟩
  have hs2 : s = 14 := by
   rcases hs with hs | hs
   ·subst hs; simp at hlt
   ·exact hs
  subst hs2
  have hml : (p.map encG).length = p.length := List.length_map ..
  have hc' : decide ((i : Int) < (p.length : Int)) = true := decide_eq_true (by omega)
  have hix := idx_nat (n := p.length) (i := i) hlt
  have hgw : (p.map encG)[i]? = some (encG w) := by rw [List.getElem?_map, hwi]; rfl
  have hwr := wrap_nat (i := i) (by omega)
  have hE : encG w = [.int .i64 w.op, .sl w.si (rowsI w.ins), .sl w.ss (rowsI w.side), .str w.txt, .int .i64 w.ty.k, .sl w.ty.s (encTs w.ty.args), .int .i64 w.fk, .int .i64 w.fs, .int .i64 w.fp, .int .i64 w.fo, .int .i64 w.te, .int .i64 w.tl, .int .i64 w.tt, .bool w.acc] := rfl
  rw [hE] at hgw
  have gi := boolsE_get (m := m) (k := i) (by omega)
  have hidl : id < A.length := by omega
  have hset0 : ∀ o o' : HO, (A ++ (M ++ [o])).set (A.length + M.length) o' = A ++ (M ++ [o']) := fun o o' => by
   rw [← List.append_assoc, ← List.append_assoc, ← List.length_append, Go.Abs.hset0]; rfl
  have hgetA : ∀ o, (A ++ (M ++ [o]))[A.length + M.length]? = some o := fun o => by
   rw [← List.append_assoc, ← List.length_append, Go.Abs.hget0]; rfl
  have hgid : ∀ M, (A ++ M)[id]? = some (.obj none (boolsE m)) := fun M => by rw [get_app hidl]; exact hI
  have hsid : ∀ M x, (A ++ M).set id x = A.set id x ++ M := fun M x => set_app hidl
  have key := fun M tm => m36 p 14 hs hn id N hidN k (i + 1) (by omega) (m.set i (decide (w.op = 6))) (A.set id (.obj none (boolsE (m.set i (decide (w.op = 6)))))) M tm (by rw [List.length_set]; exact hm) (by rw [List.length_set]; exact hA) (List.getElem?_set_self hidl)
  rw [List.set_set] at key
  have e1 : (m.set i (decide (w.op = 6))).take (i + 1) ++ (sinksM p).drop (i + 1) = m.take i ++ (sinksM p).drop i := by
   have hsi : (sinksM p)[i]? = some (decide (w.op = 6)) := by unfold sinksM; rw [List.getElem?_map, hwi]; rfl
   have hls : i < (sinksM p).length := by simp [sinksM]; omega
   rw [List.take_add_one, List.getElem?_set_self (by omega), List.take_set_of_le (Nat.le_refl _), List.drop_eq_getElem_cons hls]
   rw [List.getElem?_eq_getElem hls] at hsi
   rw [Option.some.inj hsi]
   simp
  rw [e1] at key
  rw [l36_0]
  simp only [b36_0,B0,B1,B2,List.replicate,reduceCtorEq,lenA,seval,B5,pairK,B4,stays,loadOf,hlen,h5,h20,h21,h22,hc',hml,hix,hgw,hwr,hset0,hgetA,hgid,hsid,gi,boolsE_set]
  refine ex_imp (key _ _ ?_ ?_ ?_ ?_ ?_) ?_
  ·simp only [List.length_set,hlen]
  iterate 4 simp only [B3,seval,hlen,h5,h20,h21]
  rintro e tm' H' ⟨hl', he, g5, g1, hM⟩
  refine ⟨hl', he, g5, ?_, hM⟩
  rw [g1]; simp only [B3,seval,hlen]
theorem s36 (p : List GN) (s : Nat) (hs : p = [] ∨ s = 14) (hn : p.length ≤ 1000000) (hok : pOk p) (hf : (checkB p).2 = 0) (H : Heap) : L 36 [.im (.agg [.sl s (p.map encG)])] H = some (.im (slI (liveB p)), H) := by
 have hml : (p.map encG).length = p.length := List.length_map ..
 have c16 := fun H => s16 p s hs hn hok H
 rw [hf] at c16
 have hlr : (sinksM p).length = p.length := by simp [sinksM]
 have hla : (aboveM p p.length (sinksM p)).length = p.length := by rw [aboveM_len, hlr]
 have hnn : (0 : Int) ≤ (p.length : Int) := by omega
 have hn46 : (p.length : Int) ≤ 70368744177664 := by omega
 have key := fun tm => m36 p s hs hn (H.length + 1) (H.length + 2) (by omega) p.length 0 (by omega) (List.replicate p.length false) (H ++ [.obj none [[.im (.sl s (p.map encG))]], .obj none (boolsE (List.replicate p.length false))]) [] tm (by simp) (by simp) (by rw [hget 1]; rfl)
 rw [hset 1, List.append_nil, List.take_zero, List.drop_zero, List.nil_append] at key
 have k65 := fun M => s65 p s hs hn hok (fine_down hf) (H.length + 1) _ hlr (H ++ [.obj none [[.im (.sl s (p.map encG))]], .obj none (boolsE (sinksM p))] ++ M) (by rw [get_app (by simp), hget 1]; rfl)
 have hst : ∀ M x y, (H ++ [HO.obj none [[.im (.sl s (p.map encG))]], x] ++ M).set (H.length + 1) y = H ++ [.obj none [[.im (.sl s (p.map encG))]], y] ++ M := fun M x y => by
  rw [set_app (by simp), hset 1]; rfl
 simp only [hst] at k65
 have k64 := fun M => s64 (aboveM p p.length (sinksM p)) (-1) (H.length + 1) (H ++ [.obj none [[.im (.sl s (p.map encG))]], .obj none (boolsE (aboveM p p.length (sinksM p)))] ++ M) (by rw [get_app (by simp), hget 1]; rfl) (by omega)
 rw [hla] at k64
 have hg0 : ∀ (x : HO) M, (H ++ x :: M)[H.length]? = some x := fun x M => by rw [hget0]; rfl
 simp only [List.append_assoc,List.cons_append,List.nil_append] at k65 k64
 rw [leq F36]
 obtain ⟨hlen, hx⟩ := enter_at (f := f36) (args := [.im (.agg [.sl s (p.map encG)])]) (Nat.le_of_ble_eq_true rfl)
 have h0 := hx 0 _ rfl
 generalize enterA f36 [.im (.agg [.sl s (p.map encG)])] = tm at *
 change tm.length = 38 at hlen
 unfold liveB
 simp only [f36,e36_0,B0,B1,B2,List.replicate,reduceCtorEq,lenA,seval,B5,pairK,B4,stays,loadOf,hlen,h0,c16,hml,intOfA,hnn,hn46,Int.one_mul,Int.toNat_natCast,boolsE_rep]
 generalize hr : thenL (Λ c36_0 _ _) _ = r
 refine Exists.elim (thenL_inv hr (key _ ?_ ?_ ?_ ?_ ?_)) ?_
 ·simp only [List.length_set,hlen]
 iterate 3 simp only [B3,seval,hlen]
 ·simp only [B3,seval,hlen]; first | done | rfl
 clear hr key
 rintro e ⟨tm', H', ⟨hl', rfl, g5, g1, M', rfl⟩, rfl⟩
 simp only [B3,seval,hlen] at g1
 simp only [B0,B1,B2,List.replicate,reduceCtorEq,lenA,seval,B5,pairK,B4,stays,loadOf,endK,resA,tupA,hl',g5,g1,hg0,k65,k64,leave_app]
end Go.Abs.Seat
end
section
set_option linter.unusedVariables false
set_option linter.unusedSimpArgs false
namespace Go.Abs.Seat
open Go.Proofs
theorem slI_s (l : List Int) : l = [] ∨ (if rowsI l = [] then 0 else 1) = 1 := by
 cases l with
 | nil => exact .inl rfl
 | cons x l => right; rw [if_neg (by simp [rowsI])]
theorem m38 (us live : List Int) (su sl : Nat) (hsu : us = [] ∨ su = 1) (hsl : live = [] ∨ sl = 1) (hn : us.length ≤ 1000000) (hnl : live.length ≤ 1000000) (H : Heap) :
  ∀ (k i : Nat), i + k = us.length → ∀ (tm : List AV), tm.length = 21 → tm.getD 1 undefA = .im (.sl sl (rowsI live)) → tm.getD 11 undefA = .im (.sl su (rowsI us)) → tm.getD 12 undefA = .im (.int .i64 (us.length : Int)) → tm.getD 13 undefA = .im (.int .i64 (i : Int)) →
  ∃ e tm' H', Λ c38_0 tm H = some (e, tm', H') ∧ (tm'.length = 21 ∧ H' = H ∧ ((e = .exit 0 ∧ (us.drop i).any (fun k => live.any fun y => decide (y = k)) = false) ∨ (e = .ret ∧ (us.drop i).any (fun k => live.any fun y => decide (y = k)) = true ∧ tm'.getD 6 undefA = .im (.bool true))))
 | 0, i, hi, tm, hlen, h1, h11, h12, h13 => by
  have e : us.drop i = [] := by rw [List.drop_eq_nil_iff]; omega
  have hc : decide ((i : Int) < (us.length : Int)) = false := decide_eq_false (by omega)
  rw [e, l38_0]
  simp only [b38_0,B0,B1,B2,List.replicate,reduceCtorEq,lenA,seval,hlen,h12,h13,hc]
  exact ⟨_, _, _, rfl, by simp only [List.length_set,hlen], rfl, .inl ⟨rfl, rfl⟩⟩
 | k + 1, i, hi, tm, hlen, h1, h11, h12, h13 => by
  have hlt : i < us.length := by omega
  obtain ⟨w, hwi⟩ : ∃ w, us[i]? = some w := ⟨_, List.getElem?_eq_getElem hlt⟩
  have e : us.drop i = w :: us.drop (i + 1) := by
   rw [List.drop_eq_getElem_cons hlt]
   congr 1
   rw [List.getElem?_eq_getElem hlt] at hwi
   exact Option.some.inj hwi
  have hs2 : su = 1 := by
   rcases hsu with hs | hs
   ·subst hs; simp at hlt
   ·exact hs
  subst hs2
  have hml := rowsI_len us
  have hc' : decide ((i : Int) < (us.length : Int)) = true := decide_eq_true (by omega)
  have hix := idx_nat (n := us.length) (i := i) hlt
  have hgw : (rowsI us)[i]? = some [.int .i64 w] := by unfold rowsI; rw [List.getElem?_map, hwi]; rfl
  have hwr := wrap_nat (i := i) (by omega)
  have c37 := fun H => s37 live w sl hsl (by omega) H
  have key := m38 us live 1 sl hsu hsl hn hnl H k (i + 1) (by omega)
  rw [l38_0, e]
  generalize hz : (w :: us.drop (i + 1)).any (fun k => live.any fun y => decide (y = k)) = z
  rw [List.any_cons] at hz
  cases b : live.any (fun y => decide (y = w)) with
  | true =>
   rw [b, Bool.true_or] at hz
   rw [b] at c37
   simp only [b38_0,B0,B1,B2,List.replicate,reduceCtorEq,lenA,seval,B5,pairK,B4,stays,loadOf,hlen,h1,h11,h12,h13,hc',hml,hix,hgw,hwr,c37]
   exact ⟨_, _, _, rfl, by simp only [List.length_set,hlen], rfl, .inr ⟨rfl, hz.symm, by simp only [B3,seval,hlen]⟩⟩
  | false =>
   rw [b, Bool.false_or] at hz
   rw [b] at c37
   rw [hz] at key
   simp only [b38_0,B0,B1,B2,List.replicate,reduceCtorEq,lenA,seval,B5,pairK,B4,stays,loadOf,hlen,h1,h11,h12,h13,hc',hml,hix,hgw,hwr,c37]
   refine key _ ?_ ?_ ?_ ?_ ?_
   all_goals simp only [B3,seval,hlen,h1,h11,h12,h13]
   all_goals rfl
theorem usersF_len (x : Int) : ∀ (p : List GN) (i : Nat), (usersF x p i).length ≤ p.length
 | [], i => by simp [usersF]
 | g :: l, i => by
  rw [usersF]
  have := usersF_len x l (i + 1)
  split <;> simp <;> omega
theorem listM_len (but : Int) : ∀ (m : List Bool) (i : Nat), (listM but m i).length ≤ m.length
 | [], i => by simp [listM]
 | b :: l, i => by
  rw [listM]
  have := listM_len but l (i + 1)
  split
  ·split <;> simp <;> omega
  ·simp; omega
theorem upB_len (p : List GN) (i : Nat) : (upB p i).length ≤ p.length := by
 unfold upB
 have := listM_len (i : Int) (aboveM p p.length ((List.replicate p.length false).set i true)) 0
 rw [aboveM_len] at this
 simpa using this
theorem liveB_len (p : List GN) : (liveB p).length ≤ p.length := by
 unfold liveB
 have := listM_len (-1) (aboveM p p.length (sinksM p)) 0
 rw [aboveM_len] at this
 simpa [sinksM] using this
theorem s38 (p : List GN) (s : Nat) (hs : p = [] ∨ s = 14) (hn : p.length ≤ 1000000) (hok : pOk p) (hf : (checkB p).2 = 0) (live : List Int) (hnl : live.length ≤ 1000000) (x : Int) (H : Heap) : L 38 [.im (.agg [.sl s (p.map encG)]), .im (slI live), .im (.int .i64 x)] H = some (.im (.bool ((usersF x p 0).any fun k => live.any fun y => decide (y = k))), H) := by
 have c34 := fun H => s34 p s hs hn hok hf x H
 have hrl := rowsI_len (usersF x p 0)
 have key := fun tm => m38 (usersF x p 0) live (if rowsI (usersF x p 0) = [] then 0 else 1) (if rowsI live = [] then 0 else 1) (slI_s _) (slI_s _) (Nat.le_trans (usersF_len x p 0) hn) hnl (H ++ [.obj none [[.im (.sl s (p.map encG))]]]) (usersF x p 0).length 0 (by omega) tm
 rw [List.drop_zero] at key
 unfold slI at c34 ⊢
 generalize (if rowsI live = [] then 0 else 1) = sl at *
 generalize (if rowsI (usersF x p 0) = [] then 0 else 1) = su at *
 rw [leq F38]
 obtain ⟨hlen, hx⟩ := enter_at (f := f38) (args := [.im (.agg [.sl s (p.map encG)]), .im (.sl sl (rowsI live)), .im (.int .i64 x)]) (Nat.le_of_ble_eq_true rfl)
 have h0 := hx 0 _ rfl
 have h1 := hx 1 _ rfl
 have h2 := hx 2 _ rfl
 generalize enterA f38 [.im (.agg [.sl s (p.map encG)]), .im (.sl sl (rowsI live)), .im (.int .i64 x)] = tm at *
 change tm.length = 21 at hlen
 simp only [f38,e38_0,B0,B1,B2,List.replicate,reduceCtorEq,lenA,seval,B5,pairK,B4,stays,loadOf,hlen,h0,h1,h2,c34,hrl]
 generalize hr : thenL (Λ c38_0 _ _) _ = r
 refine Exists.elim (thenL_inv hr (key _ ?_ ?_ ?_ ?_ ?_)) ?_
 ·simp only [List.length_set,hlen]
 iterate 3 simp only [B3,seval,hlen,h1]
 ·simp only [B3,seval,hlen]; first | done | rfl
 clear hr key
 rintro e ⟨tm', H', ⟨hl', rfl, hm⟩, rfl⟩
 rcases hm with ⟨rfl, hz⟩ | ⟨rfl, hz, g6⟩
 ·rw [hz]
  simp only [B0,B1,B2,List.replicate,reduceCtorEq,lenA,seval,B5,pairK,B4,stays,loadOf,endK,resA,tupA,hl',leave_app]
 ·rw [hz]
  simp only [B0,B1,B2,List.replicate,reduceCtorEq,lenA,seval,B5,pairK,B4,stays,loadOf,endK,resA,tupA,hl',g6,leave_app]
end Go.Abs.Seat
end
section
set_option linter.unusedVariables false
set_option linter.unusedSimpArgs false
namespace Go.Abs.Seat
open Go.Proofs
def pipeG (g : GN) : GN := { g with si := if rowsI g.ins = [] then 0 else 1, ss := if rowsI g.side = [] then 0 else 1, ty := cloneT g.ty }
def slimG (g : GN) : Prop := GOk g ∧ slim g.ty ∧ g.ins.length ≤ 1000000 ∧ g.side.length ≤ 1000000
theorem gath_swap {ty : TypeId} {s n : Nat} {v : AV} {A A' M : Heap} {es : List (List Dat)} (hA : A.length = n) (hA' : A'.length = n) (h : Gath ty s n v (A ++ M) es) : Gath ty s n v (A' ++ M) es := by
 rcases h with h | ⟨h1, tok, h2, h3, h4⟩
 ·exact .inl h
 ·refine .inr ⟨h1, tok, h2, h3, ?_⟩
  rw [List.getElem?_append_right (by omega)] at h4 ⊢
  rw [hA', ← hA]
  exact h4
theorem append_em (a : List Int) (ha : a.length ≤ 1000000) (A : Heap) : ∃ v K, appendA A 3 8 1 .em (rowsI a) = some (v, A ++ K) ∧ ((a = [] ∧ v = .em) ∨ (a ≠ [] ∧ ∃ tok, v = .asl 1 (rowsI a) tok)) := by
 cases a with
 | nil => exact ⟨.em, [], by simp [appendA, rowsI], .inl ⟨rfl, rfl⟩⟩
 | cons y l =>
  have h2 := rowsI_len l
  simp only [List.length_cons] at ha
  refine ⟨.asl 1 (rowsI (y :: l)) A.length, [.hw 3 (l.length + 1)], ?_, .inr ⟨by simp, _, rfl⟩⟩
  have h1 : ((rowsI l).length + 1) * 8 ≤ 70368744177664 := by rw [h2]; omega
  unfold rowsI at *
  simp only [List.map_cons,appendA]
  rw [if_pos ⟨h1, by decide⟩, h2]
theorem m21 (l : List GN) (s : Nat) (hs : l = [] ∨ s = 14) (hn : l.length ≤ 1000000) (hok : ∀ g ∈ l, slimG g) (N : Nat) :
  ∀ (k i : Nat), i + k = l.length → ∀ (A M : Heap) (tm : List AV) (v : AV), N < A.length → A[N]? = some (.obj none [[v]]) → Gath 83 14 A.length v (A ++ M) ((l.take i).map fun g => encG (pipeG g)) → tm.length = 39 → tm.getD 3 undefA = .ptr N 0 0 → tm.getD 6 undefA = .im (.sl s (l.map encG)) → tm.getD 7 undefA = .im (.int .i64 (l.length : Int)) → tm.getD 8 undefA = .im (.int .i64 (i : Int)) →
  ∃ e tm' H', Λ c21_0 tm (A ++ M) = some (e, tm', H') ∧ tm'.length = 39 ∧ e = .exit 0 ∧ tm'.getD 2 undefA = tm.getD 2 undefA ∧ tm'.getD 3 undefA = .ptr N 0 0 ∧ ∃ v' M', H' = A.set N (.obj none [[v']]) ++ M' ∧ Gath 83 14 A.length v' (A ++ M') (l.map fun g => encG (pipeG g))
 | 0, i, hi, A, M, tm, v, hN, hv, hG, hlen, h3, h6, h7, h8 => by
  have hc : decide ((i : Int) < (l.length : Int)) = false := decide_eq_false (by omega)
  rw [l21_0]
  simp only [b21_0,B0,B1,B2,List.replicate,reduceCtorEq,lenA,seval,hlen,h3,h6,h7,h8,hc]
  rw [List.take_of_length_le (by omega)] at hG
  refine ⟨_, _, _, rfl, by simp only [List.length_set,hlen], rfl, by simp only [B3,seval,hlen], by simp only [B3,seval,hlen,h3], v, M, ?_, hG⟩
  obtain ⟨hl, he⟩ := (List.getElem?_eq_some_iff.1 hv)
  rw [← he, List.set_getElem_self]
 | k + 1, i, hi, A, M, tm, v, hN, hv, hG, hlen, h3, h6, h7, h8 => by
  have hlt : i < l.length := by omega
  obtain ⟨w, hwi⟩ : ∃ w, l[i]? = some w := ⟨_, List.getElem?_eq_getElem hlt⟩
  have hs2 : s = 14 := by
   rcases hs with hs | hs
   ·subst hs; simp at hlt
   ·exact hs
  subst hs2
  have hw := hok w (List.mem_of_getElem? hwi)
  have hml : (l.map encG).length = l.length := List.length_map ..
  have hc' : decide ((i : Int) < (l.length : Int)) = true := decide_eq_true (by omega)
  have hix := idx_nat (n := l.length) (i := i) hlt
  have hgw : (l.map encG)[i]? = some (encG w) := by rw [List.getElem?_map, hwi]; rfl
  have hwr := wrap_nat (i := i) (by omega)
  have hE : encG w = [.int .i64 w.op, .sl w.si (rowsI w.ins), .sl w.ss (rowsI w.side), .str w.txt, .int .i64 w.ty.k, .sl w.ty.s (encTs w.ty.args), .int .i64 w.fk, .int .i64 w.fs, .int .i64 w.fp, .int .i64 w.fo, .int .i64 w.te, .int .i64 w.tl, .int .i64 w.tt, .bool w.acc] := rfl
  rw [hE] at hgw
  have c23 := fun H => s23 w.ty hw.1.ty hw.2.1 H
  simp only [encT_eq] at c23
  obtain ⟨ob, hob⟩ : ∃ ob, HO.obj none [[.im (.int .i64 w.op), .im (.sl w.si (rowsI w.ins)), .im (.sl w.ss (rowsI w.side)), .im (.str w.txt), .im (.int .i64 w.ty.k), .im (.sl w.ty.s (encTs w.ty.args)), .im (.int .i64 w.fk), .im (.int .i64 w.fs), .im (.int .i64 w.fp), .im (.int .i64 w.fo), .im (.int .i64 w.te), .im (.int .i64 w.tl), .im (.int .i64 w.tt), .im (.bool w.acc)]] = ob := ⟨_, rfl⟩
  obtain ⟨v1, K1, hap1, hv1⟩ := append_em w.ins hw.2.2.1 (A ++ (M ++ [ob]))
  obtain ⟨v2, K2, hap2, hv2⟩ := append_em w.side hw.2.2.2 (A ++ (M ++ [ob]) ++ K1)
  have hG1 := (hG.more [ob]).more (K1 ++ K2)
  have hel1 : ∀ J, elems J 1 (.im (.sl w.si (rowsI w.ins))) = some (rowsI w.ins) := fun J => by
   rcases hw.1.si with h | h
   ·rw [h]; rfl
   ·rw [h]; unfold rowsI; cases w.ins <;> simp [elems]
  have hel2 : ∀ J, elems J 1 (.im (.sl w.ss (rowsI w.side))) = some (rowsI w.side) := fun J => by
   rcases hw.1.ss with h | h
   ·rw [h]; rfl
   ·rw [h]; unfold rowsI; cases w.side <;> simp [elems]
  simp only [List.append_assoc,List.cons_append,List.nil_append] at hap1 hap2 hG1
  obtain ⟨v', M', hap, hG', hokv, _⟩ := hG1.push (bytes := 168) (encG (pipeG w)) (by simp; omega) (by decide)
  have htk : (l.take (i + 1)).map (fun g => encG (pipeG g)) = (l.take i).map (fun g => encG (pipeG g)) ++ [encG (pipeG w)] := by
   rw [List.take_add_one, hwi]; simp
  rw [← htk] at hG'
  have hgid : ∀ K, (A ++ K)[N]? = some (.obj none [[v]]) := fun K => by rw [get_app hN]; exact hv
  have hsid : ∀ K x, (A ++ K).set N x = A.set N x ++ K := fun K x => set_app hN
  have hset0 : ∀ o o' : HO, (A ++ (M ++ [o])).set (A.length + M.length) o' = A ++ (M ++ [o']) := fun o o' => by
   rw [← List.append_assoc, ← List.append_assoc, ← List.length_append, Go.Abs.hset0]; rfl
  have hgetA : ∀ o K, (A ++ (M ++ o :: K))[A.length + M.length]? = some o := fun o K => by
   rw [← List.append_assoc, ← List.length_append, Go.Abs.hget0]; rfl
  have hcv : cellsOf v' = [v'] := by
   rcases hG' with ⟨_, rfl⟩ | ⟨_, _, _, rfl, _⟩ <;> rfl
  have key := fun tm => m21 l 14 hs hn hok N k (i + 1) (by omega) (A.set N (.obj none [[v']])) M' tm v' (by rw [List.length_set]; exact hN) (List.getElem?_set_self hN)
  simp only [List.set_set,List.length_set] at key
  have key := fun tm => key tm (gath_swap rfl (List.length_set ..) hG')
  have hfin : ∀ v'' M'', Gath 83 14 A.length v'' (A.set N (.obj none [[v']]) ++ M'') (l.map fun g => encG (pipeG g)) → Gath 83 14 A.length v'' (A ++ M'') (l.map fun g => encG (pipeG g)) := fun v'' M'' h => gath_swap (List.length_set ..) rfl h
  have hE2 : encG (pipeG w) = [.int .i64 w.op, .sl (if rowsI w.ins = [] then 0 else 1) (rowsI w.ins), .sl (if rowsI w.side = [] then 0 else 1) (rowsI w.side), .str w.txt, .int .i64 (cloneT w.ty).k, .sl (cloneT w.ty).s (encTs (cloneT w.ty).args), .int .i64 w.fk, .int .i64 w.fs, .int .i64 w.fp, .int .i64 w.fo, .int .i64 w.te, .int .i64 w.tl, .int .i64 w.tt, .bool w.acc] := rfl
  rw [hE2] at hap
  rw [← hob] at hap1 hap2 hap
  have helR : ∀ (J : Heap) r, elems J 14 (.im (.sl 14 [r])) = some [r] := fun _ _ => rfl
  rcases hv1 with ⟨he1, rfl⟩ | ⟨he1, tk1, rfl⟩ <;> rcases hv2 with ⟨he2, rfl⟩ | ⟨he2, tk2, rfl⟩
  ·have d1 : Dat.sl (if rowsI w.ins = [] then 0 else 1) (rowsI w.ins) = .sl 0 [] := by rw [he1]; rfl
   have d2 : Dat.sl (if rowsI w.side = [] then 0 else 1) (rowsI w.side) = .sl 0 [] := by rw [he2]; rfl
   rw [d1, d2] at hap
   rw [l21_0]
   simp only [b21_0,B0,B1,B2,List.replicate,reduceCtorEq,lenA,seval,B5,pairK,B4,stays,loadOf,hlen,h3,h6,h7,h8,hc',hml,hix,hgw,hwr,hgid,hsid,hset0,hgetA,hel1,hel2,helR,hap1,hap2,c23,toDatss,toDats,toDat,hap,hcv,hokv]
   refine ex_imp (key _ ?_ ?_ ?_ ?_ ?_) ?_
   ·simp only [List.length_set,hlen]
   iterate 4 simp only [B3,seval,hlen,h3,h6,h7]
   rintro e tm' H' ⟨hl', he, g2, g3, v'', M'', hH, hG''⟩
   refine ⟨hl', he, ?_, g3, v'', M'', hH, hfin _ _ hG''⟩
   rw [g2]; simp only [B3,seval,hlen]
  ·have d1 : Dat.sl (if rowsI w.ins = [] then 0 else 1) (rowsI w.ins) = .sl 0 [] := by rw [he1]; rfl
   have d2 : Dat.sl (if rowsI w.side = [] then 0 else 1) (rowsI w.side) = .sl 1 (rowsI w.side) := by rw [if_neg (by simpa [rowsI] using he2)]
   rw [d1, d2] at hap
   rw [l21_0]
   simp only [b21_0,B0,B1,B2,List.replicate,reduceCtorEq,lenA,seval,B5,pairK,B4,stays,loadOf,hlen,h3,h6,h7,h8,hc',hml,hix,hgw,hwr,hgid,hsid,hset0,hgetA,hel1,hel2,helR,hap1,hap2,c23,toDatss,toDats,toDat,hap,hcv,hokv]
   refine ex_imp (key _ ?_ ?_ ?_ ?_ ?_) ?_
   ·simp only [List.length_set,hlen]
   iterate 4 simp only [B3,seval,hlen,h3,h6,h7]
   rintro e tm' H' ⟨hl', he, g2, g3, v'', M'', hH, hG''⟩
   refine ⟨hl', he, ?_, g3, v'', M'', hH, hfin _ _ hG''⟩
   rw [g2]; simp only [B3,seval,hlen]
  ·have d1 : Dat.sl (if rowsI w.ins = [] then 0 else 1) (rowsI w.ins) = .sl 1 (rowsI w.ins) := by rw [if_neg (by simpa [rowsI] using he1)]
   have d2 : Dat.sl (if rowsI w.side = [] then 0 else 1) (rowsI w.side) = .sl 0 [] := by rw [he2]; rfl
   rw [d1, d2] at hap
   rw [l21_0]
   simp only [b21_0,B0,B1,B2,List.replicate,reduceCtorEq,lenA,seval,B5,pairK,B4,stays,loadOf,hlen,h3,h6,h7,h8,hc',hml,hix,hgw,hwr,hgid,hsid,hset0,hgetA,hel1,hel2,helR,hap1,hap2,c23,toDatss,toDats,toDat,hap,hcv,hokv]
   refine ex_imp (key _ ?_ ?_ ?_ ?_ ?_) ?_
   ·simp only [List.length_set,hlen]
   iterate 4 simp only [B3,seval,hlen,h3,h6,h7]
   rintro e tm' H' ⟨hl', he, g2, g3, v'', M'', hH, hG''⟩
   refine ⟨hl', he, ?_, g3, v'', M'', hH, hfin _ _ hG''⟩
   rw [g2]; simp only [B3,seval,hlen]
  ·have d1 : Dat.sl (if rowsI w.ins = [] then 0 else 1) (rowsI w.ins) = .sl 1 (rowsI w.ins) := by rw [if_neg (by simpa [rowsI] using he1)]
   have d2 : Dat.sl (if rowsI w.side = [] then 0 else 1) (rowsI w.side) = .sl 1 (rowsI w.side) := by rw [if_neg (by simpa [rowsI] using he2)]
   rw [d1, d2] at hap
   rw [l21_0]
   simp only [b21_0,B0,B1,B2,List.replicate,reduceCtorEq,lenA,seval,B5,pairK,B4,stays,loadOf,hlen,h3,h6,h7,h8,hc',hml,hix,hgw,hwr,hgid,hsid,hset0,hgetA,hel1,hel2,helR,hap1,hap2,c23,toDatss,toDats,toDat,hap,hcv,hokv]
   refine ex_imp (key _ ?_ ?_ ?_ ?_ ?_) ?_
   ·simp only [List.length_set,hlen]
   iterate 4 simp only [B3,seval,hlen,h3,h6,h7]
   rintro e tm' H' ⟨hl', he, g2, g3, v'', M'', hH, hG''⟩
   refine ⟨hl', he, ?_, g3, v'', M'', hH, hfin _ _ hG''⟩
   rw [g2]; simp only [B3,seval,hlen]
theorem pipe_dat (l : List GN) {n : Nat} {v : AV} {J : Heap} (h : Gath 83 14 n v J (l.map fun g => encG (pipeG g))) : toDat v = some (.sl (if l = [] then 0 else 14) ((l.map pipeG).map encG)) := by
 have := h.dat
 rw [List.map_map]
 rw [this]
 have e : (l.map fun g => encG (pipeG g)) = [] ↔ l = [] := by simp
 simp only [e]
 rfl
theorem s21 (l : List GN) (s : Nat) (hs : l = [] ∨ s = 14) (hn : l.length ≤ 1000000) (hok : ∀ g ∈ l, slimG g) (H : Heap) : L 21 [.im (.sl s (l.map encG))] H = some (.im (.agg [.sl (if l = [] then 0 else 14) ((l.map pipeG).map encG)]), H) := by
 have hml : (l.map encG).length = l.length := List.length_map ..
 have key := fun tm => m21 l s hs hn hok (H.length + 1) l.length 0 (by omega) (H ++ [.obj none [[.nils]], .obj none [[.nils]]]) [] tm .nils (by simp) (by rw [hget 1]; rfl) (.inl ⟨by simp, rfl⟩)
 simp only [hset 1,List.append_nil] at key
 rw [leq F21]
 obtain ⟨hlen, hx⟩ := enter_at (f := f21) (args := [.im (.sl s (l.map encG))]) (Nat.le_of_ble_eq_true rfl)
 have h0 := hx 0 _ rfl
 generalize enterA f21 [.im (.sl s (l.map encG))] = tm at *
 change tm.length = 39 at hlen
 simp only [f21,e21_0,B0,B1,B2,List.replicate,reduceCtorEq,lenA,seval,B5,pairK,B4,stays,loadOf,hlen,h0,hml]
 generalize hr : thenL (Λ c21_0 _ _) _ = r
 refine Exists.elim (thenL_inv hr (key _ ?_ ?_ ?_ ?_ ?_)) ?_
 ·simp only [List.length_set,hlen]
 iterate 3 simp only [B3,seval,hlen]
 ·simp only [B3,seval,hlen]; first | done | rfl
 clear hr key
 rintro e ⟨tm', H', ⟨hl', rfl, g2, g3, v', M', rfl, hG⟩, rfl⟩
 simp only [B3,seval,hlen] at g2
 have hd := pipe_dat l hG
 have hd2 : toDat (.agg [v']) = some (.agg [.sl (if l = [] then 0 else 14) ((l.map pipeG).map encG)]) := by simp [toDat, toDats, hd]
 have hlv := fun M => leave_one (H := H) (M := M) hd2
 have hst : ∀ x y z : HO, (H ++ x :: y :: M').set H.length z = H ++ z :: y :: M' := fun x y z => by rw [hset0]; rfl
 have hgt : ∀ x y : HO, (H ++ x :: y :: M')[H.length]? = some x := fun x y => by rw [hget0]; rfl
 have hgt1 : ∀ x y : HO, (H ++ x :: y :: M')[H.length + 1]? = some y := fun x y => by rw [hget 1]; rfl
 rcases hG with ⟨_, rfl⟩ | ⟨_, tok, _, rfl, _⟩
 ·simp only [B0,B1,B2,List.replicate,reduceCtorEq,lenA,seval,B5,pairK,B4,stays,loadOf,endK,resA,tupA,hl',g2,g3,hst,hgt,hgt1,hlv]
 ·simp only [B0,B1,B2,List.replicate,reduceCtorEq,lenA,seval,B5,pairK,B4,stays,loadOf,endK,resA,tupA,hl',g2,g3,hst,hgt,hgt1,hlv]
end Go.Abs.Seat
end
section
set_option linter.unusedVariables false
set_option linter.unusedSimpArgs false
namespace Go.Abs.Seat
open Go.Proofs
def Kp (lo : List Nat) (tm tm' : List AV) : Prop := ∀ q ∈ lo, tm'.getD q undefA = tm.getD q undefA
theorem Kp.refl {lo : List Nat} {tm : List AV} : Kp lo tm tm := fun _ _ => rfl
theorem Kp.trans {lo : List Nat} {a b c : List AV} (h : Kp lo a b) (k : Kp lo b c) : Kp lo a c := fun q hq => (k q hq).trans (h q hq)
theorem Kp.set {lo : List Nat} {a b : List AV} {i : Nat} {v : AV} (hi : i ∉ lo) (h : Kp lo a b) : Kp lo a (b.set i v) := fun q hq => by
 rw [gs_ne (fun e => hi (by rw [e]; exact hq))]
 exact h q hq
theorem Kp.less {lo lo' : List Nat} {a b : List AV} (h : Kp lo a b) (hs : ∀ q ∈ lo', q ∈ lo) : Kp lo' a b := fun q hq => h q (hs q hq)
def keep9 : List Nat := [0, 3, 6, 7, 14, 31, 32, 33]
theorem app2 (a b : List Int) (hal : a.length ≤ 1000000) (hbl : b.length ≤ 1000000) (J : Heap) :
  ∃ v1 K1 v2 K2, appendA J 3 8 1 .em (rowsI a) = some (v1, J ++ K1) ∧ appendA (J ++ K1) 3 8 1 v1 (rowsI b) = some (v2, J ++ K2) ∧ Ks v2 (a ++ b) := by
 obtain ⟨v1, K1, h1, hv1⟩ := append_em a hal J
 rcases hv1 with ⟨rfl, rfl⟩ | ⟨hne, tok, rfl⟩
 ·obtain ⟨v2, K2, h2, hv2⟩ := append_em b hbl (J ++ K1)
  refine ⟨_, K1, v2, K1 ++ K2, h1, by rw [h2, List.append_assoc], ?_⟩
  rcases hv2 with ⟨rfl, rfl⟩ | ⟨_, tok, rfl⟩
  ·exact .inl ⟨rfl, rfl⟩
  ·exact .inr ⟨tok, rfl⟩
 ·have hG : Gath 3 1 J.length (.asl 1 (rowsI a) tok) (J ++ K1) (rowsI a) := by
   cases a with
   | nil => exact absurd rfl hne
   | cons y l =>
    have h2 := rowsI_len l
    unfold rowsI at h1 ⊢
    simp only [List.map_cons,appendA] at h1
    split at h1
    ·simp only [Option.some.injEq,Prod.mk.injEq,AV.asl.injEq] at h1
     obtain ⟨⟨_, _, rfl⟩, hK⟩ := h1
     have hK := List.append_cancel_left hK
     subst hK
     exact .inr ⟨by simp, _, Nat.le_refl _, rfl, by rw [hget0]; simp⟩
    ·simp at h1
  rcases hG with ⟨h, _⟩ | ⟨_, tok', ht, he, hh⟩
  ·exact absurd h (by simpa [rowsI] using hne)
  ·injection he with _ _ he
   subst he
   have hal' := rowsI_len a
   have hbl' := rowsI_len b
   refine ⟨_, K1, .asl 1 (rowsI a ++ rowsI b) tok, K1.set (tok - J.length) (.hw 3 (a.length + b.length)), h1, ?_, .inr ⟨tok, by rw [rowsI_app]⟩⟩
   unfold appendA
   simp only [hh,hal',hbl']
   rw [if_pos ⟨trivial, trivial, by omega, by decide, trivial⟩, List.set_append_right _ _ ht]
section
variable (up : List Int) (hul : up.length ≤ 1000000)
include hul
theorem m9_2 (uk : List Int) (s2 : Nat) (hs2 : uk = [] ∨ s2 = 1) (hkl : uk.length ≤ 1000000) (hin : ∀ j ∈ uk, j ∈ up) (H : Heap) :
  ∀ (k i : Nat), i + k = uk.length → ∀ (tm : List AV), tm.length = 135 → tm.getD 7 undefA = .im (slI up) → tm.getD 54 undefA = .im (.sl s2 (rowsI uk)) → tm.getD 55 undefA = .im (.int .i64 (uk.length : Int)) → tm.getD 56 undefA = .im (.int .i64 (i : Int)) →
  ∃ e tm' H', Λ c9_2 tm H = some (e, tm', H') ∧ tm'.length = 135 ∧ e = .exit 4 ∧ H' = H ∧ Kp [0, 3, 6, 7, 14, 31, 32, 33, 39, 40, 41] tm tm'
 | 0, i, hi, tm, hlen, h7, h54, h55, h56 => by
  have hc : decide ((i : Int) < (uk.length : Int)) = false := decide_eq_false (by omega)
  rw [l9_2]
  simp only [b9_2,B0,B1,B2,List.replicate,reduceCtorEq,lenA,seval,hlen,h7,h54,h55,h56,hc]
  exact ⟨_, _, _, rfl, by simp only [List.length_set,hlen], rfl, rfl, Kp.set (by decide) Kp.refl⟩
 | k + 1, i, hi, tm, hlen, h7, h54, h55, h56 => by
  have hlt : i < uk.length := by omega
  obtain ⟨w, hwi⟩ : ∃ w, uk[i]? = some w := ⟨_, List.getElem?_eq_getElem hlt⟩
  have hs2' : s2 = 1 := by
   rcases hs2 with hs | hs
   ·subst hs; simp at hlt
   ·exact hs
  subst hs2'
  have hml := rowsI_len uk
  have hc' : decide ((i : Int) < (uk.length : Int)) = true := decide_eq_true (by omega)
  have hix := idx_nat (n := uk.length) (i := i) hlt
  have hgw : (rowsI uk)[i]? = some [.int .i64 w] := by unfold rowsI; rw [List.getElem?_map, hwi]; rfl
  have hwr := wrap_nat (i := i) (by omega)
  have c37 := s37 up w _ (slI_s up) (by omega) H
  rw [show (up.any fun y => decide (y = w)) = true from List.any_eq_true.2 ⟨w, hin w (List.mem_of_getElem? hwi), decide_eq_true rfl⟩] at c37
  change L 37 [.im (slI up), _] H = _ at c37
  have key := m9_2 uk 1 hs2 hkl hin H k (i + 1) (by omega)
  rw [l9_2]
  simp only [b9_2,B0,B1,B2,List.replicate,reduceCtorEq,lenA,seval,B5,pairK,B4,stays,loadOf,hlen,h7,h54,h55,h56,hc',hml,hix,hgw,hwr,dgA,toDat,toDats,c37]
  refine ex_imp (key _ ?_ ?_ ?_ ?_ ?_) ?_
  ·simp only [List.length_set,hlen]
  iterate 4 simp only [B3,seval,hlen,h7,h54,h55]
  rintro e tm' H' ⟨hl', he, hH, hk⟩
  refine ⟨hl', he, hH, Kp.trans ?_ hk⟩
  ((repeat with_reducible refine Kp.set (by decide) ?_); exact Kp.refl)
variable (P : List GN) (sp : Nat) (hsp : P = [] ∨ sp = 14) (hnP : P.length ≤ 1000000) (hok : pOk P) (hf : (checkB P).2 = 0)
include hsp hnP hok hf
theorem m9_3 (n : Nat) (hnl : n < P.length) (hup : up = upB P n) (N : Nat) (J : Heap) (hJ : J[N]? = some (.obj none [[.im (.sl sp (P.map encG))]])) :
  ∀ (k i : Nat), i + k = up.length → ∀ (tm : List AV), tm.length = 135 → tm.getD 3 undefA = .ptr N 0 0 → tm.getD 6 undefA = .im (.int .i64 (n : Int)) → tm.getD 7 undefA = .im (slI up) → tm.getD 39 undefA = .im (slI up) → tm.getD 40 undefA = .im (.int .i64 (up.length : Int)) → tm.getD 41 undefA = .im (.int .i64 (i : Int)) →
  ∃ e tm' H', Λ c9_3 tm J = some (e, tm', H') ∧ tm'.length = 135 ∧ e = .exit 2 ∧ H' = J ∧ Kp keep9 tm tm'
 | 0, i, hi, tm, hlen, h3, h6, h7, h39, h40, h41 => by
  have hc : decide ((i : Int) < (up.length : Int)) = false := decide_eq_false (by omega)
  rw [l9_3]
  simp only [b9_3,B0,B1,B2,List.replicate,reduceCtorEq,lenA,seval,hlen,h39,h40,h41,hc]
  exact ⟨_, _, _, rfl, by simp only [List.length_set,hlen], rfl, rfl, Kp.set (by decide) Kp.refl⟩
 | k + 1, i, hi, tm, hlen, h3, h6, h7, h39, h40, h41 => by
  have hlt : i < up.length := by omega
  obtain ⟨w, hwi⟩ : ∃ w, up[i]? = some w := ⟨_, List.getElem?_eq_getElem hlt⟩
  have hwm := List.mem_of_getElem? hwi
  have hdn := fine_down hf
  have hw := up_down hdn hnl (hup ▸ hwm)
  obtain ⟨u, rfl⟩ : ∃ u : Nat, w = (u : Int) := ⟨w.toNat, by omega⟩
  have hune : rowsI up ≠ [] := by
   intro h
   have := rowsI_len up
   rw [h] at this
   simp at this
   omega
  have hsl : slI up = .sl 1 (rowsI up) := by unfold slI; rw [if_neg hune]
  have hul2 : u < P.length := by omega
  have c35 := s35 P sp hsp hnP hok hf u hul2 J
  have hml := rowsI_len up
  have hmk := rowsI_len (upB P u)
  have hc' : decide ((i : Int) < (up.length : Int)) = true := decide_eq_true (by omega)
  have d1 : decide ((n : Int) ≤ (u : Int)) = false := decide_eq_false (by omega)
  have d2 : decide ((u : Int) < 0) = false := decide_eq_false (by omega)
  have hix := idx_nat (n := up.length) (i := i) hlt
  have hgw : (rowsI up)[i]? = some [.int .i64 (u : Int)] := by unfold rowsI; rw [List.getElem?_map, hwi]; rfl
  have hwr := wrap_nat (i := i) (by omega)
  have kin := fun tm => m9_2 up hul (upB P u) _ (slI_s _) (Nat.le_trans (upB_len P u) hnP) (fun j hj => by rw [hup]; exact up_up hdn hnl (hup ▸ hwm) hj) J (upB P u).length 0 (by omega) tm
  have key := m9_3 n hnl hup N J hJ k (i + 1) (by omega)
  rw [hsl] at h39
  rw [l9_3]
  simp only [slI] at c35
  simp only [b9_3,e9_2,B0,B1,B2,List.replicate,reduceCtorEq,lenA,seval,B5,pairK,B4,stays,loadOf,hlen,h3,h6,h7,h39,h40,h41,hc',hml,hmk,hix,hgw,hwr,d1,d2,hJ,dgA,toDat,toDats,c35]
  refine ex_then (kin _ ?_ ?_ ?_ ?_ ?_) ?_
  ·simp only [List.length_set,hlen]
  iterate 3 simp only [B3,seval,hlen,h7]
  ·simp only [B3,seval,hlen]; first | done | rfl
  rintro e tm' H' ⟨hl', rfl, rfl, hk⟩
  have hk41 := hk 41 (by decide)
  simp only [B3,seval,hlen,h41] at hk41
  simp only [B0,B1,B2,List.replicate,reduceCtorEq,lenA,seval,B5,pairK,B4,stays,loadOf,hl',hk41,hwr]
  have hk3 := hk 3 (by decide)
  have hk6 := hk 6 (by decide)
  have hk7 := hk 7 (by decide)
  have hk39 := hk 39 (by decide)
  have hk40 := hk 40 (by decide)
  simp only [B3,seval,hlen,h3,h6,h7,h39,h40] at hk3 hk6 hk7 hk39 hk40
  refine ex_imp (key _ ?_ ?_ ?_ ?_ ?_ ?_ ?_) ?_
  ·simp only [List.length_set,hl']
  iterate 3 simp only [B3,seval,hl',hk3,hk6,hk7]
  ·simp only [B3,seval,hl',hk39,hsl]
  iterate 2 simp only [B3,seval,hl',hk40]
  rintro e tm2 H2 ⟨hl2, he, hH, hk2⟩
  refine ⟨hl2, he, hH, Kp.trans (Kp.trans ?_ (hk.less (by decide))) (Kp.trans ?_ hk2)⟩
  ·((repeat with_reducible refine Kp.set (by decide) ?_); exact Kp.refl)
  ·((repeat with_reducible refine Kp.set (by decide) ?_); exact Kp.refl)
end
end Go.Abs.Seat
end
section
set_option linter.unusedVariables false
set_option linter.unusedSimpArgs false
namespace Go.Abs.Seat
open Go.Proofs
set_option maxRecDepth 10000 in
theorem Tok (f : FuncId) (af : AFunc) (h : T f = some af) : F f = some af ∧ closedC af.code = true := by
 unfold T at h
 by_cases h10 : f = 10
 ·subst h10; rw [if_pos rfl] at h; injection h with h; subst h; exact ⟨F10, by kernel_rfl⟩
 rw [if_neg h10] at h
 by_cases h11 : f = 11
 ·subst h11; rw [if_pos rfl] at h; injection h with h; subst h; exact ⟨F11, by kernel_rfl⟩
 rw [if_neg h11] at h
 by_cases h15 : f = 15
 ·subst h15; rw [if_pos rfl] at h; injection h with h; subst h; exact ⟨F15, by kernel_rfl⟩
 rw [if_neg h15] at h
 by_cases h16 : f = 16
 ·subst h16; rw [if_pos rfl] at h; injection h with h; subst h; exact ⟨F16, by kernel_rfl⟩
 rw [if_neg h16] at h
 by_cases h34 : f = 34
 ·subst h34; rw [if_pos rfl] at h; injection h with h; subst h; exact ⟨F34, by kernel_rfl⟩
 rw [if_neg h34] at h
 by_cases h39 : f = 39
 ·subst h39; rw [if_pos rfl] at h; injection h with h; subst h; exact ⟨F39, by kernel_rfl⟩
 rw [if_neg h39] at h
 by_cases h40 : f = 40
 ·subst h40; rw [if_pos rfl] at h; injection h with h; subst h; exact ⟨F40, by kernel_rfl⟩
 rw [if_neg h40] at h
 by_cases h45 : f = 45
 ·subst h45; rw [if_pos rfl] at h; injection h with h; subst h; exact ⟨F45, by kernel_rfl⟩
 rw [if_neg h45] at h
 by_cases h46 : f = 46
 ·subst h46; rw [if_pos rfl] at h; injection h with h; subst h; exact ⟨F46, by kernel_rfl⟩
 rw [if_neg h46] at h
 by_cases h48 : f = 48
 ·subst h48; rw [if_pos rfl] at h; injection h with h; subst h; exact ⟨F48, by kernel_rfl⟩
 rw [if_neg h48] at h
 by_cases h49 : f = 49
 ·subst h49; rw [if_pos rfl] at h; injection h with h; subst h; exact ⟨F49, by kernel_rfl⟩
 rw [if_neg h49] at h
 by_cases h63 : f = 63
 ·subst h63; rw [if_pos rfl] at h; injection h with h; subst h; exact ⟨F63, by kernel_rfl⟩
 rw [if_neg h63] at h
 by_cases h66 : f = 66
 ·subst h66; rw [if_pos rfl] at h; injection h with h; subst h; exact ⟨F66, by kernel_rfl⟩
 rw [if_neg h66] at h
 by_cases h67 : f = 67
 ·subst h67; rw [if_pos rfl] at h; injection h with h; subst h; exact ⟨F67, by kernel_rfl⟩
 rw [if_neg h67] at h
 by_cases h68 : f = 68
 ·subst h68; rw [if_pos rfl] at h; injection h with h; subst h; exact ⟨F68, by kernel_rfl⟩
 rw [if_neg h68] at h
 by_cases h69 : f = 69
 ·subst h69; rw [if_pos rfl] at h; injection h with h; subst h; exact ⟨F69, by kernel_rfl⟩
 rw [if_neg h69] at h
 by_cases h70 : f = 70
 ·subst h70; rw [if_pos rfl] at h; injection h with h; subst h; exact ⟨F70, by kernel_rfl⟩
 rw [if_neg h70] at h
 by_cases h71 : f = 71
 ·subst h71; rw [if_pos rfl] at h; injection h with h; subst h; exact ⟨F71, by kernel_rfl⟩
 rw [if_neg h71] at h
 by_cases h72 : f = 72
 ·subst h72; rw [if_pos rfl] at h; injection h with h; subst h; exact ⟨F72, by kernel_rfl⟩
 rw [if_neg h72] at h
 by_cases h74 : f = 74
 ·subst h74; rw [if_pos rfl] at h; injection h with h; subst h; exact ⟨F74, by kernel_rfl⟩
 rw [if_neg h74] at h
 by_cases h75 : f = 75
 ·subst h75; rw [if_pos rfl] at h; injection h with h; subst h; exact ⟨F75, by kernel_rfl⟩
 rw [if_neg h75] at h
 by_cases h78 : f = 78
 ·subst h78; rw [if_pos rfl] at h; injection h with h; subst h; exact ⟨F78, by kernel_rfl⟩
 rw [if_neg h78] at h
 by_cases h79 : f = 79
 ·subst h79; rw [if_pos rfl] at h; injection h with h; subst h; exact ⟨F79, by kernel_rfl⟩
 rw [if_neg h79] at h
 by_cases h80 : f = 80
 ·subst h80; rw [if_pos rfl] at h; injection h with h; subst h; exact ⟨F80, by kernel_rfl⟩
 rw [if_neg h80] at h
 by_cases h81 : f = 81
 ·subst h81; rw [if_pos rfl] at h; injection h with h; subst h; exact ⟨F81, by kernel_rfl⟩
 rw [if_neg h81] at h
 by_cases h82 : f = 82
 ·subst h82; rw [if_pos rfl] at h; injection h with h; subst h; exact ⟨F82, by kernel_rfl⟩
 rw [if_neg h82] at h
 by_cases h83 : f = 83
 ·subst h83; rw [if_pos rfl] at h; injection h with h; subst h; exact ⟨F83, by kernel_rfl⟩
 rw [if_neg h83] at h
 by_cases h84 : f = 84
 ·subst h84; rw [if_pos rfl] at h; injection h with h; subst h; exact ⟨F84, by kernel_rfl⟩
 rw [if_neg h84] at h
 by_cases h93 : f = 93
 ·subst h93; rw [if_pos rfl] at h; injection h with h; subst h; exact ⟨F93, by kernel_rfl⟩
 rw [if_neg h93] at h
 by_cases h95 : f = 95
 ·subst h95; rw [if_pos rfl] at h; injection h with h; subst h; exact ⟨F95, by kernel_rfl⟩
 rw [if_neg h95] at h
 by_cases h96 : f = 96
 ·subst h96; rw [if_pos rfl] at h; injection h with h; subst h; exact ⟨F96, by kernel_rfl⟩
 rw [if_neg h96] at h
 by_cases h97 : f = 97
 ·subst h97; rw [if_pos rfl] at h; injection h with h; subst h; exact ⟨F97, by kernel_rfl⟩
 rw [if_neg h97] at h
 by_cases h99 : f = 99
 ·subst h99; rw [if_pos rfl] at h; injection h with h; subst h; exact ⟨F99, by kernel_rfl⟩
 rw [if_neg h99] at h
 by_cases h102 : f = 102
 ·subst h102; rw [if_pos rfl] at h; injection h with h; subst h; exact ⟨F102, by kernel_rfl⟩
 rw [if_neg h102] at h
 by_cases h103 : f = 103
 ·subst h103; rw [if_pos rfl] at h; injection h with h; subst h; exact ⟨F103, by kernel_rfl⟩
 rw [if_neg h103] at h
 by_cases h104 : f = 104
 ·subst h104; rw [if_pos rfl] at h; injection h with h; subst h; exact ⟨F104, by kernel_rfl⟩
 rw [if_neg h104] at h
 by_cases h105 : f = 105
 ·subst h105; rw [if_pos rfl] at h; injection h with h; subst h; exact ⟨F105, by kernel_rfl⟩
 rw [if_neg h105] at h
 by_cases h106 : f = 106
 ·subst h106; rw [if_pos rfl] at h; injection h with h; subst h; exact ⟨F106, by kernel_rfl⟩
 rw [if_neg h106] at h
 by_cases h107 : f = 107
 ·subst h107; rw [if_pos rfl] at h; injection h with h; subst h; exact ⟨F107, by kernel_rfl⟩
 rw [if_neg h107] at h
 by_cases h112 : f = 112
 ·subst h112; rw [if_pos rfl] at h; injection h with h; subst h; exact ⟨F112, by kernel_rfl⟩
 rw [if_neg h112] at h
 by_cases h117 : f = 117
 ·subst h117; rw [if_pos rfl] at h; injection h with h; subst h; exact ⟨F117, by kernel_rfl⟩
 rw [if_neg h117] at h
 by_cases h118 : f = 118
 ·subst h118; rw [if_pos rfl] at h; injection h with h; subst h; exact ⟨F118, by kernel_rfl⟩
 rw [if_neg h118] at h
 by_cases h119 : f = 119
 ·subst h119; rw [if_pos rfl] at h; injection h with h; subst h; exact ⟨F119, by kernel_rfl⟩
 rw [if_neg h119] at h
 by_cases h120 : f = 120
 ·subst h120; rw [if_pos rfl] at h; injection h with h; subst h; exact ⟨F120, by kernel_rfl⟩
 rw [if_neg h120] at h
 by_cases h121 : f = 121
 ·subst h121; rw [if_pos rfl] at h; injection h with h; subst h; exact ⟨F121, by kernel_rfl⟩
 rw [if_neg h121] at h
 by_cases h122 : f = 122
 ·subst h122; rw [if_pos rfl] at h; injection h with h; subst h; exact ⟨F122, by kernel_rfl⟩
 rw [if_neg h122] at h
 by_cases h125 : f = 125
 ·subst h125; rw [if_pos rfl] at h; injection h with h; subst h; exact ⟨F125, by kernel_rfl⟩
 rw [if_neg h125] at h
 by_cases h126 : f = 126
 ·subst h126; rw [if_pos rfl] at h; injection h with h; subst h; exact ⟨F126, by kernel_rfl⟩
 rw [if_neg h126] at h
 by_cases h127 : f = 127
 ·subst h127; rw [if_pos rfl] at h; injection h with h; subst h; exact ⟨F127, by kernel_rfl⟩
 rw [if_neg h127] at h
 by_cases h128 : f = 128
 ·subst h128; rw [if_pos rfl] at h; injection h with h; subst h; exact ⟨F128, by kernel_rfl⟩
 rw [if_neg h128] at h
 by_cases h129 : f = 129
 ·subst h129; rw [if_pos rfl] at h; injection h with h; subst h; exact ⟨F129, by kernel_rfl⟩
 rw [if_neg h129] at h
 by_cases h132 : f = 132
 ·subst h132; rw [if_pos rfl] at h; injection h with h; subst h; exact ⟨F132, by kernel_rfl⟩
 rw [if_neg h132] at h
 by_cases h133 : f = 133
 ·subst h133; rw [if_pos rfl] at h; injection h with h; subst h; exact ⟨F133, by kernel_rfl⟩
 rw [if_neg h133] at h
 by_cases h134 : f = 134
 ·subst h134; rw [if_pos rfl] at h; injection h with h; subst h; exact ⟨F134, by kernel_rfl⟩
 rw [if_neg h134] at h
 by_cases h135 : f = 135
 ·subst h135; rw [if_pos rfl] at h; injection h with h; subst h; exact ⟨F135, by kernel_rfl⟩
 rw [if_neg h135] at h
 by_cases h136 : f = 136
 ·subst h136; rw [if_pos rfl] at h; injection h with h; subst h; exact ⟨F136, by kernel_rfl⟩
 rw [if_neg h136] at h
 by_cases h137 : f = 137
 ·subst h137; rw [if_pos rfl] at h; injection h with h; subst h; exact ⟨F137, by kernel_rfl⟩
 rw [if_neg h137] at h
 by_cases h138 : f = 138
 ·subst h138; rw [if_pos rfl] at h; injection h with h; subst h; exact ⟨F138, by kernel_rfl⟩
 rw [if_neg h138] at h
 by_cases h139 : f = 139
 ·subst h139; rw [if_pos rfl] at h; injection h with h; subst h; exact ⟨F139, by kernel_rfl⟩
 rw [if_neg h139] at h
 by_cases h145 : f = 145
 ·subst h145; rw [if_pos rfl] at h; injection h with h; subst h; exact ⟨F145, by kernel_rfl⟩
 rw [if_neg h145] at h
 by_cases h146 : f = 146
 ·subst h146; rw [if_pos rfl] at h; injection h with h; subst h; exact ⟨F146, by kernel_rfl⟩
 rw [if_neg h146] at h
 by_cases h147 : f = 147
 ·subst h147; rw [if_pos rfl] at h; injection h with h; subst h; exact ⟨F147, by kernel_rfl⟩
 rw [if_neg h147] at h
 by_cases h148 : f = 148
 ·subst h148; rw [if_pos rfl] at h; injection h with h; subst h; exact ⟨F148, by kernel_rfl⟩
 rw [if_neg h148] at h
 by_cases h149 : f = 149
 ·subst h149; rw [if_pos rfl] at h; injection h with h; subst h; exact ⟨F149, by kernel_rfl⟩
 rw [if_neg h149] at h
 by_cases h150 : f = 150
 ·subst h150; rw [if_pos rfl] at h; injection h with h; subst h; exact ⟨F150, by kernel_rfl⟩
 rw [if_neg h150] at h
 by_cases h151 : f = 151
 ·subst h151; rw [if_pos rfl] at h; injection h with h; subst h; exact ⟨F151, by kernel_rfl⟩
 rw [if_neg h151] at h
 by_cases h152 : f = 152
 ·subst h152; rw [if_pos rfl] at h; injection h with h; subst h; exact ⟨F152, by kernel_rfl⟩
 rw [if_neg h152] at h
 by_cases h153 : f = 153
 ·subst h153; rw [if_pos rfl] at h; injection h with h; subst h; exact ⟨F153, by kernel_rfl⟩
 rw [if_neg h153] at h
 by_cases h160 : f = 160
 ·subst h160; rw [if_pos rfl] at h; injection h with h; subst h; exact ⟨F160, by kernel_rfl⟩
 rw [if_neg h160] at h
 by_cases h161 : f = 161
 ·subst h161; rw [if_pos rfl] at h; injection h with h; subst h; exact ⟨F161, by kernel_rfl⟩
 rw [if_neg h161] at h
 by_cases h162 : f = 162
 ·subst h162; rw [if_pos rfl] at h; injection h with h; subst h; exact ⟨F162, by kernel_rfl⟩
 rw [if_neg h162] at h
 by_cases h163 : f = 163
 ·subst h163; rw [if_pos rfl] at h; injection h with h; subst h; exact ⟨F163, by kernel_rfl⟩
 rw [if_neg h163] at h
 by_cases h166 : f = 166
 ·subst h166; rw [if_pos rfl] at h; injection h with h; subst h; exact ⟨F166, by kernel_rfl⟩
 rw [if_neg h166] at h
 by_cases h167 : f = 167
 ·subst h167; rw [if_pos rfl] at h; injection h with h; subst h; exact ⟨F167, by kernel_rfl⟩
 rw [if_neg h167] at h
 simp at h
theorem bsh : ∀ n H0, n = H0.length → ShO n H0 bld bld := fun _ _ h => itoaO_sh (joinO_sh (one1O_sh (cloneO_sh h (strO_sh h none_sh))))
theorem Tno (f : FuncId) (_ : T f = none) : F f = none ∨ ∀ args H, bld f args H = none := by
 by_cases h1 : f = 73
 ·subst h1; left; kernel_rfl
 by_cases h2 : f = 47
 ·subst h2; left; kernel_rfl
 by_cases h3 : f = 76
 ·subst h3; left; kernel_rfl
 by_cases h4 : f = 77
 ·subst h4; left; kernel_rfl
 by_cases h5 : f = 94
 ·subst h5; left; kernel_rfl
 by_cases h6 : f = 61
 ·subst h6; left; kernel_rfl
 right
 intro args H
 simp only [bld,itoaO,joinO,one1O,cloneO,strO,h1,h2,h3,h4,h5,h6,if_false]
end Go.Abs.Seat
end
section
set_option linter.unusedVariables false
set_option linter.unusedSimpArgs false
namespace Go.Abs.Seat
open Go.Proofs
set_option maxRecDepth 100000 in
theorem awakeG : runC bld T 400 10 [] [] = some (.im (.bool true), []) := by kernel_rfl
theorem s10 (H : Heap) : L 10 [] H = some (.im (.bool true), H) := lim_at bsh Tok Tno awakeG H
end Go.Abs.Seat
end
section
set_option linter.unusedVariables false
set_option linter.unusedSimpArgs false
namespace Go.Abs.Seat
open Go.Proofs
section
variable (P : List GN) (sp : Nat) (hsp : P = [] ∨ sp = 14) (hnP : P.length ≤ 1000000) (hok : pOk P) (hf : (checkB P).2 = 0)
include hsp hnP hok hf
theorem m9_1 (n : Nat) (hnl : n < P.length) (ks : List Int) (hks : ks = ksAt P n) (hkl : ks.length ≤ 9000000) (v : AV) (hv : Ks v ks) (N : Nat) (J : Heap) (hJ : J[N]? = some (.obj none [[.im (.sl sp (P.map encG))]])) :
  ∀ (k i : Nat), i + k = ks.length → ∀ (tm : List AV), tm.length = 135 → tm.getD 3 undefA = .ptr N 0 0 → tm.getD 6 undefA = .im (.int .i64 (n : Int)) → tm.getD 7 undefA = .im (slI (upB P n)) → tm.getD 78 undefA = v → tm.getD 79 undefA = .im (.int .i64 (ks.length : Int)) → tm.getD 80 undefA = .im (.int .i64 (i : Int)) →
  ∃ e tm' H', Λ c9_1 tm J = some (e, tm', H') ∧ tm'.length = 135 ∧ e = .exit 6 ∧ H' = J ∧ Kp keep9 tm tm'
 | 0, i, hi, tm, hlen, h3, h6, h7, h78, h79, h80 => by
  have hc : decide ((i : Int) < (ks.length : Int)) = false := decide_eq_false (by omega)
  rw [l9_1]
  simp only [b9_1,B0,B1,B2,List.replicate,reduceCtorEq,lenA,seval,hlen,h78,h79,h80,hc]
  exact ⟨_, _, _, rfl, by simp only [List.length_set,hlen], rfl, rfl, Kp.set (by decide) Kp.refl⟩
 | k + 1, i, hi, tm, hlen, h3, h6, h7, h78, h79, h80 => by
  have hlt : i < ks.length := by omega
  obtain ⟨w, hwi⟩ : ∃ w, ks[i]? = some w := ⟨_, List.getElem?_eq_getElem hlt⟩
  have hwm := List.mem_of_getElem? hwi
  rw [hks] at hwm
  have hdn := fine_down hf
  obtain ⟨tok, hvt⟩ : ∃ tok, v = .asl 1 (rowsI ks) tok := by
   rcases hv with ⟨h, _⟩ | h
   ·subst h; simp at hlt
   ·exact h
  have hul := Nat.le_trans (upB_len P n) hnP
  have c37 := s37 (upB P n) w _ (slI_s _) (by omega) J
  rw [show ((upB P n).any fun y => decide (y = w)) = true from List.any_eq_true.2 ⟨w, ks_up hdn hnl hwm, decide_eq_true rfl⟩] at c37
  change L 37 [.im (slI (upB P n)), _] J = _ at c37
  have c34 := s34 P sp hsp hnP hok hf w J
  have c37u := s37 (usersF w P 0) (n : Int) _ (slI_s _) (by have := usersF_len w P 0; omega) J
  rw [show ((usersF w P 0).any fun y => decide (y = (n : Int))) = true from List.any_eq_true.2 ⟨_, ks_users hwm, decide_eq_true rfl⟩] at c37u
  change L 37 [.im (slI (usersF w P 0)), _] J = _ at c37u
  have hml := rowsI_len ks
  have hc' : decide ((i : Int) < (ks.length : Int)) = true := decide_eq_true (by omega)
  have hix := idx_nat (n := ks.length) (i := i) hlt
  have hgw : (rowsI ks)[i]? = some [.int .i64 w] := by unfold rowsI; rw [List.getElem?_map, hwi]; rfl
  have hwr := wrap_nat (i := i) (by omega)
  have key := m9_1 n hnl ks hks hkl v hv N J hJ k (i + 1) (by omega)
  rw [hvt] at h78 key
  rw [l9_1]
  simp only [b9_1,B0,B1,B2,List.replicate,reduceCtorEq,lenA,seval,B5,pairK,B4,stays,loadOf,hlen,h3,h6,h7,h78,h79,h80,hc',hml,hix,hgw,hwr,hJ,dgA,toDat,toDats,c37,c34,c37u]
  refine ex_imp (key _ ?_ ?_ ?_ ?_ ?_ ?_ ?_) ?_
  ·simp only [List.length_set,hlen]
  iterate 6 simp only [B3,seval,hlen,h3,h6,h7,h78,h79]
  rintro e tm' H' ⟨hl', he, hH, hk⟩
  refine ⟨hl', he, hH, Kp.trans ?_ hk⟩
  ((repeat with_reducible refine Kp.set (by decide) ?_); exact Kp.refl)
theorem m9_0 (l : List GN) (s : Nat) (hs : l = [] ∨ s = 14) (hPl : P = l.map pipeG) (N : Nat) (J : Heap) (hJ : J[N]? = some (.obj none [[.im (.sl sp (P.map encG))]])) :
  ∀ (k i : Nat), i + k = (liveB P).length → ∀ (tm : List AV), tm.length = 135 → tm.getD 0 undefA = .im (.sl s (l.map encG)) → tm.getD 3 undefA = .ptr N 0 0 → tm.getD 14 undefA = .im (slI (liveB P)) → tm.getD 100 undefA = .im (slI (liveB P)) → tm.getD 101 undefA = .im (.int .i64 ((liveB P).length : Int)) → tm.getD 102 undefA = .im (.int .i64 (i : Int)) →
  ∃ e tm' H', Λ c9_0 tm J = some (e, tm', H') ∧ tm'.length = 135 ∧ e = .exit 8 ∧ H' = J ∧ Kp [0, 3] tm tm'
 | 0, i, hi, tm, hlen, h0, h3, h14, h100, h101, h102 => by
  have hc : decide ((i : Int) < ((liveB P).length : Int)) = false := decide_eq_false (by omega)
  rw [l9_0]
  simp only [b9_0,B0,B1,B2,List.replicate,reduceCtorEq,lenA,seval,hlen,h101,h102,hc]
  exact ⟨_, _, _, rfl, by simp only [List.length_set,hlen], rfl, rfl, Kp.set (by decide) Kp.refl⟩
 | k + 1, i, hi, tm, hlen, h0, h3, h14, h100, h101, h102 => by
  have hlt : i < (liveB P).length := by omega
  obtain ⟨w, hwi⟩ : ∃ w, (liveB P)[i]? = some w := ⟨_, List.getElem?_eq_getElem hlt⟩
  have hwm := List.mem_of_getElem? hwi
  have hdn := fine_down hf
  have hw := live_lt hdn hwm
  obtain ⟨u, rfl⟩ : ∃ u : Nat, w = (u : Int) := ⟨w.toNat, by omega⟩
  have hPlen : P.length = l.length := by rw [hPl, List.length_map]
  have hul : u < l.length := by omega
  have hs2 : s = 14 := by
   rcases hs with hs | hs
   ·subst hs; simp at hul
   ·exact hs
  subst hs2
  obtain ⟨g, hg⟩ : ∃ g, l[u]? = some g := ⟨_, List.getElem?_eq_getElem hul⟩
  have hPg : P[u]? = some (pipeG g) := by rw [hPl, List.getElem?_map, hg]; rfl
  have hune : rowsI (liveB P) ≠ [] := by
   intro h
   have := rowsI_len (liveB P)
   rw [h] at this
   simp at this
   omega
  have hsl : slI (liveB P) = .sl 1 (rowsI (liveB P)) := by unfold slI; rw [if_neg hune]
  have c38 := s38 P sp hsp hnP hok hf (liveB P) (Nat.le_trans (liveB_len P) hnP) (u : Int) J
  have hml := rowsI_len (liveB P)
  have hmn : (l.map encG).length = l.length := List.length_map ..
  have hc' : decide ((i : Int) < ((liveB P).length : Int)) = true := decide_eq_true (by omega)
  have hix := idx_nat (n := (liveB P).length) (i := i) hlt
  have hiu := idx_nat (n := l.length) (i := u) hul
  have hgw : (rowsI (liveB P))[i]? = some [.int .i64 (u : Int)] := by unfold rowsI; rw [List.getElem?_map, hwi]; rfl
  have hgn : (l.map encG)[u]? = some (encG g) := by rw [List.getElem?_map, hg]; rfl
  have hE : encG g = [.int .i64 g.op, .sl g.si (rowsI g.ins), .sl g.ss (rowsI g.side), .str g.txt, .int .i64 g.ty.k, .sl g.ty.s (encTs g.ty.args), .int .i64 g.fk, .int .i64 g.fs, .int .i64 g.fp, .int .i64 g.fo, .int .i64 g.te, .int .i64 g.tl, .int .i64 g.tt, .bool g.acc] := rfl
  rw [hE] at hgn
  have hwr := wrap_nat (i := i) (by have := liveB_len P; omega)
  have key := m9_0 l 14 hs hPl N J hJ k (i + 1) (by omega)
  rw [hsl] at h100 key
  rw [l9_0]
  by_cases h6 : g.op = 6
  ·have d6 : decide (g.op = 6) = true := decide_eq_true h6
   simp only [b9_0,B0,B1,B2,List.replicate,reduceCtorEq,lenA,seval,B5,pairK,B4,stays,loadOf,hlen,h0,h3,h14,h100,h101,h102,hc',hml,hmn,hix,hiu,hgw,hgn,hwr,d6]
   refine ex_imp (key _ ?_ ?_ ?_ ?_ ?_ ?_ ?_) ?_
   ·simp only [List.length_set,hlen]
   iterate 6 simp only [B3,seval,hlen,h0,h3,h14,h100,h101,hsl]
   rintro e tm' H' ⟨hl', he, hH, hk⟩
   refine ⟨hl', he, hH, Kp.trans ?_ hk⟩
   ((repeat with_reducible refine Kp.set (by decide) ?_); exact Kp.refl)
  ·have d6 : decide (g.op = 6) = false := decide_eq_false h6
   obtain ⟨q, hq1, hq2⟩ := live_leads hdn hwm hPg h6
   rw [show ((usersF (u : Int) P 0).any fun k => (liveB P).any fun y => decide (y = k)) = true from List.any_eq_true.2 ⟨q, hq1, List.any_eq_true.2 ⟨q, hq2, decide_eq_true rfl⟩⟩] at c38
   simp only [b9_0,B0,B1,B2,List.replicate,reduceCtorEq,lenA,seval,B5,pairK,B4,stays,loadOf,hlen,h0,h3,h14,h100,h101,h102,hc',hml,hmn,hix,hiu,hgw,hgn,hwr,d6,hJ,dgA,toDat,toDats,c38]
   refine ex_imp (key _ ?_ ?_ ?_ ?_ ?_ ?_ ?_) ?_
   ·simp only [List.length_set,hlen]
   iterate 6 simp only [B3,seval,hlen,h0,h3,h14,h100,h101,hsl]
   rintro e tm' H' ⟨hl', he, hH, hk⟩
   refine ⟨hl', he, hH, Kp.trans ?_ hk⟩
   ((repeat with_reducible refine Kp.set (by decide) ?_); exact Kp.refl)
theorem m9_4 (l : List GN) (s : Nat) (hs : l = [] ∨ s = 14) (hPl : P = l.map pipeG) (hlo : ∀ g ∈ l, slimG g) (N : Nat) :
  ∀ (k i : Nat), i + k = l.length → ∀ (J : Heap) (tm : List AV), J[N]? = some (.obj none [[.im (.sl sp (P.map encG))]]) → tm.length = 135 → tm.getD 0 undefA = .im (.sl s (l.map encG)) → tm.getD 3 undefA = .ptr N 0 0 → tm.getD 32 undefA = .im (.int .i64 (l.length : Int)) → tm.getD 33 undefA = .im (.int .i64 (i : Int)) →
  ∃ e tm' H', Λ c9_4 tm J = some (e, tm', H') ∧ tm'.length = 135 ∧ e = .exit 0 ∧ (∃ K, H' = J ++ K) ∧ Kp [0, 3] tm tm'
 | 0, i, hi, J, tm, hJ, hlen, h0, h3, h32, h33 => by
  have hc : decide ((i : Int) < (l.length : Int)) = false := decide_eq_false (by omega)
  rw [l9_4]
  simp only [b9_4,B0,B1,B2,List.replicate,reduceCtorEq,lenA,seval,hlen,h32,h33,hc]
  exact ⟨_, _, _, rfl, by simp only [List.length_set,hlen], rfl, ⟨[], by simp⟩, Kp.set (by decide) Kp.refl⟩
 | k + 1, i, hi, J, tm, hJ, hlen, h0, h3, h32, h33 => by
  have hlt : i < l.length := by omega
  obtain ⟨w, hwi⟩ : ∃ w, l[i]? = some w := ⟨_, List.getElem?_eq_getElem hlt⟩
  have hs2 : s = 14 := by
   rcases hs with hs | hs
   ·subst hs; simp at hlt
   ·exact hs
  subst hs2
  have hw := hlo w (List.mem_of_getElem? hwi)
  have hPlen : P.length = l.length := by rw [hPl, List.length_map]
  have hiP : i < P.length := by omega
  have hPg : P[i]? = some (pipeG w) := by rw [hPl, List.getElem?_map, hwi]; rfl
  have hks : w.ins ++ w.side = ksAt P i := by unfold ksAt; rw [hPg]; rfl
  have hul := Nat.le_trans (upB_len P i) hnP
  have c35 := s35 P sp hsp hnP hok hf i hiP J
  have hmu := rowsI_len (upB P i)
  have hmn : (l.map encG).length = l.length := List.length_map ..
  have hc' : decide ((i : Int) < (l.length : Int)) = true := decide_eq_true (by omega)
  have hix := idx_nat (n := l.length) (i := i) hlt
  have hgw : (l.map encG)[i]? = some (encG w) := by rw [List.getElem?_map, hwi]; rfl
  have hE : encG w = [.int .i64 w.op, .sl w.si (rowsI w.ins), .sl w.ss (rowsI w.side), .str w.txt, .int .i64 w.ty.k, .sl w.ty.s (encTs w.ty.args), .int .i64 w.fk, .int .i64 w.fs, .int .i64 w.fp, .int .i64 w.fo, .int .i64 w.te, .int .i64 w.tl, .int .i64 w.tt, .bool w.acc] := rfl
  rw [hE] at hgw
  have hwr := wrap_nat (i := i) (by omega)
  obtain ⟨v1, K1, v2, K2, hap1, hap2, hK⟩ := app2 w.ins w.side hw.2.2.1 hw.2.2.2 J
  have hl2 := hK.len
  have hel1 : ∀ J, elems J 1 (.im (.sl w.si (rowsI w.ins))) = some (rowsI w.ins) := fun J => by
   rcases hw.1.si with h | h
   ·rw [h]; rfl
   ·rw [h]; unfold rowsI; cases w.ins <;> simp [elems]
  have hel2 : ∀ J, elems J 1 (.im (.sl w.ss (rowsI w.side))) = some (rowsI w.side) := fun J => by
   rcases hw.1.ss with h | h
   ·rw [h]; rfl
   ·rw [h]; unfold rowsI; cases w.side <;> simp [elems]
  have hNJ : N < J.length := (List.getElem?_eq_some_iff.1 hJ).1
  have hJ2 : (J ++ K2)[N]? = some (.obj none [[.im (.sl sp (P.map encG))]]) := by rw [get_app hNJ]; exact hJ
  have k3 := fun tm => m9_3 (upB P i) hul P sp hsp hnP hok hf i hiP rfl N J hJ (upB P i).length 0 (by omega) tm
  have k1 := fun tm => m9_1 P sp hsp hnP hok hf i hiP (w.ins ++ w.side) hks (by have := hw.2.2.1; have := hw.2.2.2; simp; omega) v2 hK N (J ++ K2) hJ2 (w.ins ++ w.side).length 0 (by omega) tm
  have key := fun tm => m9_4 l 14 hs hPl hlo N k (i + 1) (by omega) (J ++ K2) tm hJ2
  have hsu : lenA (.im (slI (upB P i))) = some (upB P i).length := by unfold slI lenA; simp only [hmu]
  rw [l9_4]
  simp only [b9_4,e9_3,e9_1,B0,B1,B2,List.replicate,reduceCtorEq,seval,B5,pairK,B4,stays,loadOf,hlen,h0,h3,h32,h33,hc',hmn,hix,hgw,hJ,hsu,dgA,toDat,toDats,c35]
  refine ex_then (k3 _ ?_ ?_ ?_ ?_ ?_ ?_ ?_) ?_
  ·simp only [List.length_set,hlen]
  iterate 5 simp only [B3,seval,hlen,h3]
  ·simp only [B3,seval,hlen]; first | done | rfl
  rintro e tm' H' ⟨hl', rfl, rfl, hk⟩
  have q0 := hk 0 (by decide)
  have q3 := hk 3 (by decide)
  have q6 := hk 6 (by decide)
  have q7 := hk 7 (by decide)
  have q32 := hk 32 (by decide)
  have q33 := hk 33 (by decide)
  simp only [B3,seval,hlen,h0,h3,h32,h33] at q0 q3 q6 q7 q32 q33
  simp only [e9_1,B0,B1,B2,List.replicate,reduceCtorEq,seval,B5,pairK,B4,stays,loadOf,hl',q0,q3,q6,q7,q32,q33,hmn,hix,hgw,hel1,hel2,hap1,hap2,hl2]
  refine ex_then (k1 _ ?_ ?_ ?_ ?_ ?_ ?_ ?_) ?_
  ·simp only [List.length_set,hl']
  iterate 4 simp only [B3,seval,hl',q3,q6,q7]
  ·simp only [B3,seval,hl',List.length_append]
  ·simp only [B3,seval,hl']; first | done | rfl
  rintro e tm2 H2 ⟨hl2', rfl, rfl, hk2⟩
  have r0 := hk2 0 (by decide)
  have r3 := hk2 3 (by decide)
  have r32 := hk2 32 (by decide)
  have r33 := hk2 33 (by decide)
  simp only [B3,seval,hl',q0,q3,q32,q33] at r0 r3 r32 r33
  simp only [B0,B1,B2,List.replicate,reduceCtorEq,seval,B5,pairK,B4,stays,loadOf,hl2',r0,r3,r32,r33,hwr]
  refine ex_imp (key _ ?_ ?_ ?_ ?_ ?_) ?_
  ·simp only [List.length_set,hl2']
  iterate 4 simp only [B3,seval,hl2',r0,r3,r32]
  rintro e tm3 H3 ⟨hl3, he, ⟨K, hH⟩, hk3⟩
  refine ⟨hl3, he, ⟨K2 ++ K, by rw [hH, List.append_assoc]⟩, Kp.trans (Kp.trans (Kp.trans ?_ (hk.less (by decide))) (Kp.trans ?_ (hk2.less (by decide)))) (Kp.trans ?_ hk3)⟩
  ·((repeat with_reducible refine Kp.set (by decide) ?_); exact Kp.refl)
  ·((repeat with_reducible refine Kp.set (by decide) ?_); exact Kp.refl)
  ·((repeat with_reducible refine Kp.set (by decide) ?_); exact Kp.refl)
end
end Go.Abs.Seat
end
section
set_option linter.unusedVariables false
set_option linter.unusedSimpArgs false
namespace Go.Abs.Seat
open Go.Proofs
theorem smallG_ok : ∀ (l : List GN) (left : Int), 0 ≤ left → left ≤ 1000000 → smallG l left = true → ∀ g ∈ l, slim g.ty ∧ g.ins.length ≤ 100 ∧ g.side.length ≤ 100 ∧ g.txt.length ≤ 5000
 | [], _, _, _, _, g, h => by cases h
 | x :: l, left, h0, h1, h, g, hg => by
  unfold smallG at h
  split at h
  ·cases h
  ·rename_i hb
   split at h
   ·rename_i hs
    have hl := smallT_left x.ty left 30 h0
    have hsl := small_slim x.ty left 30 h0 h1 hs
    rcases List.mem_cons.1 hg with rfl | hg
    ·refine ⟨hsl.2, ?_⟩
     unfold bigG at hb
     simp only [Bool.or_eq_true,decide_eq_true_eq,not_or] at hb
     omega
    ·exact smallG_ok l _ (hl.2.2 hs) (by have := hl.2.1; omega) h g hg
   ·cases h
theorem smalls_ok {l : List GN} (h : smallsB l = true) : l.length ≤ 100 ∧ ∀ g ∈ l, slim g.ty ∧ g.ins.length ≤ 100 ∧ g.side.length ≤ 100 ∧ g.txt.length ≤ 5000 := by
 unfold smallsB at h
 split at h
 ·cases h
 ·exact ⟨by omega, smallG_ok l 5000 (by decide) (by decide) h⟩
theorem pipe_ok {l : List GN} (hok : ∀ g ∈ l, GOk g) (h : ∀ g ∈ l, slim g.ty ∧ g.ins.length ≤ 100 ∧ g.side.length ≤ 100 ∧ g.txt.length ≤ 5000) : pOk (l.map pipeG) := fun g hg => by
 obtain ⟨x, hx, rfl⟩ := List.mem_map.1 hg
 have hs := h x hx
 have ho := hok x hx
 refine ⟨⟨clone_ok x.ty ho.ty, ?_, ?_, ho.il, ho.sl, ho.xl⟩, Nat.le_trans hs.2.1 (by decide), Nat.le_trans hs.2.2.1 (by decide)⟩
 ·exact slI_s x.ins
 ·exact slI_s x.side
theorem law9 (l : List GN) (s : Nat) (hs : l = [] ∨ s = 14) (hok : ∀ g ∈ l, GOk g) (hn : l.length ≤ 9223372036854775807) (H : Heap) : L 9 [.im (.sl s (l.map encG))] H = some (.im (.bool true), H) := by
 have c17 := fun H => s17 l s hs hok hn H
 have hml : (l.map encG).length = l.length := List.length_map ..
 rw [leq F9]
 obtain ⟨hlen, hx⟩ := enter_at (f := f9) (args := [.im (.sl s (l.map encG))]) (Nat.le_of_ble_eq_true rfl)
 have h0 := hx 0 _ rfl
 generalize enterA f9 [.im (.sl s (l.map encG))] = tm at *
 change tm.length = 135 at hlen
 cases hb : smallsB l with
 | false =>
  rw [hb] at c17
  simp only [f9,B0,B1,B2,List.replicate,reduceCtorEq,lenA,seval,B5,pairK,B4,stays,loadOf,endK,resA,tupA,hlen,h0,hml,dgA,toDat,toDats,c17,s10,leave_app,leave_same]
 | true =>
  rw [hb] at c17
  obtain ⟨hl1, hsm⟩ := smalls_ok hb
  have hslim : ∀ g ∈ l, slimG g := fun g hg => ⟨hok g hg, (hsm g hg).1, Nat.le_trans (hsm g hg).2.1 (by decide), Nat.le_trans (hsm g hg).2.2.1 (by decide)⟩
  have c21 := fun H => s21 l s hs (Nat.le_trans hl1 (by decide)) hslim H
  have hP := pipe_ok hok hsm
  have hPn : (l.map pipeG).length ≤ 1000000 := by rw [List.length_map]; omega
  have hPs : l.map pipeG = [] ∨ (if l = [] then 0 else 14) = 14 := by
   cases l with
   | nil => exact .inl rfl
   | cons x l => right; rw [if_neg (by simp)]
  have hPl : ∃ P, P = l.map pipeG := ⟨_, rfl⟩
  obtain ⟨P, hPl⟩ := hPl
  have hPlen : P.length = l.length := by rw [hPl, List.length_map]
  rw [← hPl] at c21 hP hPn hPs
  generalize (if l = [] then 0 else 14) = sp at *
  have c16 := fun H => s16 P sp hPs hPn hP H
  by_cases hf : (checkB P).2 = 0
  ·rw [hf] at c16
   have hJ : ∀ M, (H ++ HO.obj none [[AV.im (.sl sp (P.map encG))]] :: M)[H.length]? = some (.obj none [[.im (.sl sp (P.map encG))]]) := fun M => by rw [hget0]; rfl
   have k4 := fun tm => m9_4 P sp hPs hPn hP hf l s hs hPl hslim H.length l.length 0 (by omega) (H ++ [.obj none [[.im (.sl sp (P.map encG))]]]) tm (hJ [])
   have k0 := fun K tm => m9_0 P sp hPs hPn hP hf l s hs hPl H.length (H ++ .obj none [[.im (.sl sp (P.map encG))]] :: K) (hJ K) (liveB P).length 0 (by omega) tm
   have c36 := fun J => s36 P sp hPs hPn hP hf J
   have c34 := fun J => s34 P sp hPs hPn hP hf (-1) J
   rw [users_none (fine_down hf)] at c34
   have c35 := fun J => s35_out P sp hPs hPn hP hf J
   rw [hPlen] at c35
   have hsv : lenA (.im (slI (liveB P))) = some (liveB P).length := by unfold slI lenA; simp only [rowsI_len]
   have hsz : ∀ x, lenA (.im (slI [])) = x → lenA (.im (slI [])) = some 0 := fun _ _ => rfl
   have hs0 : slI [] = .sl 0 [] := rfl
   rw [hs0] at c34
   have hl0 : lenA (.im (.sl 0 [])) = some 0 := rfl
   have hlm : lenA (.im (.sl s (l.map encG))) = some l.length := by unfold lenA; simp only [hml]
   simp only [f9,e9_4,B0,B1,B2,List.replicate,reduceCtorEq,seval,B5,pairK,B4,stays,loadOf,hlen,h0,hlm,dgA,toDat,toDats,c17,c21,c16]
   generalize hr : thenL (Λ c9_4 _ _) _ = r
   refine Exists.elim (thenL_inv hr (k4 _ ?_ ?_ ?_ ?_ ?_)) ?_
   ·simp only [List.length_set,hlen]
   iterate 3 simp only [B3,seval,hlen,h0]
   ·simp only [B3,seval,hlen]; first | done | rfl
   clear hr k4
   rintro e ⟨tm', H', ⟨hl', rfl, ⟨K, rfl⟩, hk⟩, rfl⟩
   have q0 := hk 0 (by decide)
   have q3 := hk 3 (by decide)
   simp only [B3,seval,hlen,h0] at q0 q3
   simp only [e9_0,B0,B1,B2,List.replicate,reduceCtorEq,seval,B5,pairK,B4,stays,loadOf,hl',q0,q3,hJ,dgA,toDat,toDats,c36,hsv]
   generalize hr : thenL (Λ c9_0 _ _) _ = r
   refine Exists.elim (thenL_inv hr (k0 K _ ?_ ?_ ?_ ?_ ?_ ?_ ?_)) ?_
   ·simp only [List.length_set,hl']
   iterate 5 simp only [B3,seval,hl',q0,q3]
   ·simp only [B3,seval,hl']; first | done | rfl
   clear hr k0
   rintro e ⟨tm2, H2, ⟨hl2, rfl, rfl, hk2⟩, rfl⟩
   have r0 := hk2 0 (by decide)
   have r3 := hk2 3 (by decide)
   simp only [B3,seval,hl',q0,q3] at r0 r3
   simp only [B0,B1,B2,List.replicate,reduceCtorEq,seval,B5,pairK,B4,stays,loadOf,endK,resA,tupA,hl2,r0,r3,hJ,dgA,toDat,toDats,c34,c35,hl0,hlm,s10,leave_app]
   trace_state
  ·have hne : decide ((checkB P).2 = 0) = false := decide_eq_false hf
   simp only [f9,B0,B1,B2,List.replicate,reduceCtorEq,lenA,seval,B5,pairK,B4,stays,loadOf,endK,resA,tupA,hlen,h0,hml,dgA,toDat,toDats,c17,c21,c16,hne,s10,leave_app]
end Go.Abs.Seat
end
