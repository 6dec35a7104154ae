/- Part 9 of what the claim rests on. -/
import Derived.Test.YtmlpfgibpigcdaaGreatDoorListsA
import Derived.Test.YtmlpfgibpigcdaaGreatDoorListsB
import Derived.Test.YtmlpfgibpigcdaaGreatDoorListsC
import Derived.Test.YtmlpfgibpigcdaaGreatDoorListsD
import Derived.Test.YtmlpfgibpigcdaaGreatDoorListsE
import Derived.Test.YtmlpfgibpigcdaaGreatDoorListsF
import Derived.Test.YtmlpfgibpigcdaaGreatDoorListsG
import Derived.Test.YtmlpfgibpigcdaaGreatDoorListsH
section
set_option linter.unusedVariables false
set_option linter.unusedSimpArgs false
namespace Go.Abs.Seat
open Go.Proofs
theorem gath_swap {ty : TypeId} {s : Nat} {v : AV} {A B J : Heap} {es : List (List Dat)} (h : Gath ty s A.length v (A ++ J) es) (hl : A.length = B.length) : Gath ty s B.length v (B ++ J) es := by
 rcases h with h | ⟨h1, tok, h2, h3, h4⟩
 ·exact .inl h
 ·refine .inr ⟨h1, tok, by omega, h3, ?_⟩
  rw [List.getElem?_append_right h2] at h4
  rw [List.getElem?_append_right (by omega), ← hl]
  exact h4
def OE (k : Int) (s : Nat) (ta : List KT) (v : AV) : HO := .obj none [[.im (.int .i64 k), .im (.sl s (encTs ta)), v]]
theorem l12 (sides : List KT) (ss : Nat) (hs : sides = [] ∨ ss = 2) (hc : ∀ t ∈ sides, ∀ H, L 31 [.im (.agg (encT t))] H = some (.im (.agg (encT (cloneT t))), H)) (hn : sides.length ≤ 1000000) (H : Heap) (a b : HO) (k : Int) (s1 : Nat) (ta : List KT) :
  ∀ (m i : Nat), i + m = sides.length → ∀ (tm : List AV) (J : Heap) (v : AV), Gath 34 2 (H.length + 3) v (H ++ a :: b :: OE k s1 ta v :: J) ((sides.take i).map fun t => encT (cloneT t)) → tm.length = 26 → tm.getD 2 undefA = .ptr (H.length + 1) 0 0 → tm.getD 3 undefA = .ptr (H.length + 2) 0 0 → tm.getD 11 undefA = .im (.sl ss (sides.map encT)) → tm.getD 12 undefA = .im (.int .i64 (sides.length : Int)) → tm.getD 13 undefA = .im (.int .i64 (i : Int)) →
  ∃ e tm' A', Λ c12_0 tm (H ++ a :: b :: OE k s1 ta v :: J) = some (e, tm', A') ∧ (tm'.length = 26 ∧ e = .exit 0 ∧ tm'.getD 2 undefA = .ptr (H.length + 1) 0 0 ∧ tm'.getD 3 undefA = .ptr (H.length + 2) 0 0 ∧ ∃ J' v', A' = H ++ a :: b :: OE k s1 ta v' :: J' ∧ Gath 34 2 (H.length + 3) v' (H ++ a :: b :: OE k s1 ta v' :: J') (sides.map fun t => encT (cloneT t)))
 | 0, i, hi, tm, J, v, hG, hlen, h2, h3, h11, h12, h13 => by
  have hc' : decide ((i : Int) < (sides.length : Int)) = false := decide_eq_false (by omega)
  have e : sides.take i = sides := List.take_of_length_le (by omega)
  rw [e] at hG
  rw [l12_0]
  simp only [b12_0,B0,B1,B2,List.replicate,reduceCtorEq,lenA,seval,hlen,h12,h13,hc']
  refine ⟨_, _, _, rfl, by simp only [List.length_set,hlen], rfl, by simp only [B3,seval,hlen,h2], by simp only [B3,seval,hlen,h3], J, v, ?_, hG⟩
  rfl
 | m + 1, i, hi, tm, J, v, hG, hlen, h2, h3, h11, h12, h13 => by
  have hlt : i < sides.length := by omega
  obtain ⟨w, hwi⟩ : ∃ w, sides[i]? = some w := ⟨_, List.getElem?_eq_getElem hlt⟩
  have hss : ss = 2 := by
   rcases hs with h | h
   ·subst h; simp at hlt
   ·exact h
  subst hss
  have hc' : decide ((i : Int) < (sides.length : Int)) = true := decide_eq_true (by omega)
  have hml : (sides.map encT).length = sides.length := List.length_map ..
  have hix := idx_nat (n := sides.length) (i := i) hlt
  have hgw : (sides.map encT)[i]? = some (encT w) := by rw [List.getElem?_map, hwi]; rfl
  have hcall := hc w (List.mem_of_getElem? hwi)
  have hwr := wrap_nat (i := i) (by omega)
  have fl : ∀ (o : HO) (J : Heap), (H ++ [a, b, o]) ++ J = H ++ (a :: b :: o :: J) := fun o J => by simp
  have hL3 : ∀ o : HO, (H ++ [a, b, o]).length = H.length + 3 := fun o => by simp
  have hG2 := hG.more [TyO w]
  rw [← fl, ← hL3 (OE k s1 ta v), List.append_assoc] at hG2
  obtain ⟨v', M', hap, hG', _, _⟩ := hG2.push (bytes := 32) (encT (cloneT w)) (by simp; omega) (by decide)
  have htk : (sides.take (i + 1)).map (fun t => encT (cloneT t)) = (sides.take i).map (fun t => encT (cloneT t)) ++ [encT (cloneT w)] := by
   rw [List.take_add_one, hwi]; simp
  rw [← htk] at hG'
  have hv' : ∃ es tok, v' = .asl 2 es tok := by
   rcases hG' with ⟨h, _⟩ | ⟨_, tok, _, h, _⟩
   ·rw [htk] at h; simp at h
   ·exact ⟨_, tok, h⟩
  have hGn := gath_swap (B := H ++ [a, b, OE k s1 ta v']) hG' (by simp)
  rw [hL3, fl] at hGn
  have key := l12 sides 2 hs hc hn H a b k s1 ta m (i + 1) (by omega)
  have hO : ∀ (o : HO) (J : Heap), (H ++ (a :: b :: o :: J))[H.length + 2]? = some o := fun o J => by rw [hget 2]; rfl
  have hOs : ∀ (o o' : HO) (J : Heap), (H ++ (a :: b :: o :: J)).set (H.length + 2) o' = H ++ (a :: b :: o' :: J) := fun o o' J => by rw [hset 2]; rfl
  have hj : ∀ o : HO, (H ++ (a :: b :: o :: J)).length = H.length + 3 + J.length := fun o => by simp; omega
  have hap' : ∀ o o' : HO, (H ++ (a :: b :: o :: J)) ++ [o'] = H ++ (a :: b :: o :: (J ++ [o'])) := fun o o' => by simp
  have hgl : ∀ o o' : HO, (H ++ (a :: b :: o' :: (J ++ [o])))[H.length + 3 + J.length]? = some o := fun o o' => by
   rw [show H.length + 3 + J.length = H.length + (3 + J.length) by omega, hget (3 + J.length), show 3 + J.length = J.length + 3 by omega]
   simp
  have hsl : ∀ o o' o2 : HO, (H ++ (a :: b :: o2 :: (J ++ [o]))).set (H.length + 3 + J.length) o' = H ++ (a :: b :: o2 :: (J ++ [o'])) := fun o o' o2 => by
   rw [show H.length + 3 + J.length = H.length + (3 + J.length) by omega, hset (3 + J.length), show 3 + J.length = J.length + 3 by omega]
   simp [List.set_append_right]
  have key9 : ∀ tm : List AV, tm.length = 26 → tm.getD 2 undefA = .ptr (H.length + 1) 0 0 → tm.getD 3 undefA = .ptr (H.length + 2) 0 0 → tm.getD 11 undefA = .im (.sl 2 (sides.map encT)) → tm.getD 12 undefA = .im (.int .i64 (sides.length : Int)) → tm.getD 13 undefA = .im (.int .i64 ((i + 1 : Nat) : Int)) → _ := fun tm a1 a2 a3 a4 a5 a6 => key tm M' v' hGn a1 a2 a3 a4 a5 a6
  have key' := fun tm => key tm M' v' hGn
  clear key9 key
  obtain ⟨es', tok', rfl⟩ := hv'
  rw [fl] at hap
  rw [fl] at hap
  obtain ⟨wk, ws, wa⟩ := w
  generalize cloneT (.mk wk ws wa) = cw at *
  obtain ⟨ck, cs, ca⟩ := cw
  have td : toDatss [[AV.im (.int .i64 ck), .im (.sl cs (encTs ca))]] = some [[.int .i64 ck, .sl cs (encTs ca)]] := rfl
  simp only [encT] at hcall hgw hap
  unfold OE TyO at *
  simp only [KT.k,KT.s,KT.args] at hap
  rw [l12_0]
  simp only [b12_0,B0,B1,B2,List.replicate,reduceCtorEq,lenA,seval,B5,pairK,B4,stays,loadOf,hlen,h2,h3,h11,h12,h13,hc',hml,hix,hgw,hcall,hwr,hO,hOs,hj,hap',hgl,hsl,td,elems,hap]
  refine key' _ ?_ ?_ ?_ ?_ ?_ ?_
  all_goals simp only [B3,seval,hlen,h2,h3,h11,h12]
def envC (v : EnvT) : EnvT := ⟨cloneT v.it, if v.sides.length = 0 then 0 else 2, v.sides.map cloneT⟩
theorem s12 (v : EnvT) (hv : EnvH v) (hs : slim v.it) (hss : ∀ t ∈ v.sides, slim t) (hn : v.sides.length ≤ 1000000) (H : Heap) : L 12 [.im (.agg (encE v))] H = some (.im (.agg (encE (envC v))), H) := by
 have c31 := fun H => s31 v.it hv.it hs H
 have hC : envC v = ⟨cloneT v.it, if v.sides.length = 0 then 0 else 2, v.sides.map cloneT⟩ := rfl
 rw [hC]
 have hcs : ∀ t ∈ v.sides, ∀ H, L 31 [.im (.agg (encT t))] H = some (.im (.agg (encT (cloneT t))), H) := fun t ht H => s31 t (hv.sides t ht) (hss t ht) H
 obtain ⟨⟨k, es, ea⟩, ss, sides⟩ := v
 have hE : encE ⟨.mk k es ea, ss, sides⟩ = [.int .i64 k, .sl es (encTs ea), .sl ss (sides.map encT)] := rfl
 have hml : (sides.map encT).length = sides.length := List.length_map ..
 generalize cloneT (.mk k es ea) = ct at *
 obtain ⟨k2, s2, a2⟩ := ct
 have key := l12 sides ss hv.ss hcs hn H (.obj none [[.im (.int .i64 k), .im (.sl es (encTs ea)), .im (.sl ss (sides.map encT))]]) (.obj none [[.im (.int .i64 0), .nils, .nils]]) k2 s2 a2 sides.length 0 (by omega)
 have key := fun tm => key tm [] .nils (.inl ⟨by simp, rfl⟩)
 unfold OE at key
 simp only [hE,encT,encE,KT.k,KT.s,KT.args] at c31 ⊢
 rw [leq F12]
 obtain ⟨hlen, hx⟩ := enter_at (f := f12) (args := [.im (.agg [.int .i64 k, .sl es (encTs ea), .sl ss (sides.map encT)])]) (Nat.le_of_ble_eq_true rfl)
 have h0 := hx 0 _ rfl
 generalize enterA f12 [.im (.agg [.int .i64 k, .sl es (encTs ea), .sl ss (sides.map encT)])] = tm at *
 change tm.length = 26 at hlen
 simp only [f12,e12_0,B0,B1,B2,List.replicate,reduceCtorEq,lenA,seval,hlen,h0,c31,hml]
 generalize hr : thenL (Λ c12_0 _ _) _ = r
 refine Exists.elim (thenL_inv hr (key _ ?_ ?_ ?_ ?_ ?_ ?_)) ?_
 iterate 5 simp only [B3,seval,hlen]
 ·simp only [B3,seval,hlen]; first | done | rfl
 clear hr key
 rintro e ⟨tm', A', ⟨hl', rfl, g2, g3, J, v', rfl, hG⟩, rfl⟩
 rcases hG with ⟨hes, rfl⟩ | ⟨hes, tok, _, rfl, _⟩
 ·have ha0 : sides = [] := by simpa using hes
  subst ha0
  have hlv := fun L' => leave_one (H := H) (M := L') (show toDat (.agg [.im (.int .i64 k2), .im (.sl s2 (encTs a2)), .nils]) = some (.agg [.int .i64 k2, .sl s2 (encTs a2), .sl 0 []]) from rfl)
  simp only [B0,B1,B2,List.replicate,reduceCtorEq,lenA,seval,B5,pairK,B4,stays,loadOf,endK,resA,tupA,hl',g2,g3,hlv]
 ·have ha0 : sides.length ≠ 0 := by simpa using hes
  rw [if_neg ha0]
  have hm : (sides.map cloneT).map encT = sides.map fun t => encT (cloneT t) := by rw [List.map_map]; rfl
  rw [hm]
  have hlv := fun L' => leave_one (H := H) (M := L') (show toDat (.agg [.im (.int .i64 k2), .im (.sl s2 (encTs a2)), .asl 2 (sides.map fun t => encT (cloneT t)) tok]) = some (.agg [.int .i64 k2, .sl s2 (encTs a2), .sl 2 (sides.map fun t => encT (cloneT t))]) from rfl)
  simp only [B0,B1,B2,List.replicate,reduceCtorEq,lenA,seval,B5,pairK,B4,stays,loadOf,endK,resA,tupA,hl',g2,g3,hlv]
end Go.Abs.Seat
end
section
set_option linter.unusedVariables false
set_option linter.unusedSimpArgs false
namespace Go.Abs.Seat
open Go.Proofs
theorem nodeW_bad (d : Nat) (t : NT) (acc : List UInt8) : nodeW d t (acc, true) = (acc, true) := by
 cases d with
 | zero => rfl
 | succ d =>
  obtain ⟨op, i, txt, ty, s, kids⟩ := t
  simp only [nodeW]
  rw [if_pos (by simp)]
theorem kidsW_good (d : Nat) (ps : List UInt8) : ∀ (kids : List NT) (i : Nat) (st : WSt), (kidsW (nodeW d) ps i kids st).2 = false → st.2 = false ∧ ∀ k ∈ kids, ∃ acc, (nodeW d k (acc, false)).2 = false
 | [], i, st, h => ⟨h, by simp⟩
 | k :: ks, i, st, h => by
  simp only [kidsW] at h
  obtain ⟨h1, h2⟩ := kidsW_good d ps ks (i + 1) _ h
  have hb : (st.2 || (decide (ps[i]? = some 110) && !isNam k)) = false := by
   cases hx : (st.2 || (decide (ps[i]? = some 110) && !isNam k)) with
   | false => rfl
   | true =>
    rw [hx, nodeW_bad] at h1
    cases h1
  rw [hb] at h1
  refine ⟨?_, fun k' hk' => ?_⟩
  ·rw [Bool.or_eq_false_iff] at hb; exact hb.1
  ·rcases List.mem_cons.1 hk' with rfl | hk'
   ·exact ⟨_, h1⟩
   ·exact h2 k' hk'
theorem shp1 : ∀ q ∈ shapes, q.1 = [108, 101, 116] → q.2.length = 3 ∧ q.2 ≠ [43] := by decide
theorem shp2 : ∀ q ∈ shapes, q.1 = [109, 97, 112] → q.2.length = 3 ∧ q.2 ≠ [43] := by decide
theorem shp3 : ∀ q ∈ shapes, q.1 = [102, 105, 108, 116, 101, 114] → q.2.length = 3 ∧ q.2 ≠ [43] := by decide
theorem shp4 : ∀ q ∈ shapes, q.1 = [102, 111, 108, 100] → q.2.length = 5 ∧ q.2 ≠ [43] := by decide
theorem shp5 : ∀ q ∈ shapes, q.1 = [105, 102] → q.2.length = 3 ∧ q.2 ≠ [43] := by decide
theorem shp6 : ∀ q ∈ shapes, q.1 = [111, 114, 95, 101, 108, 115, 101] → q.2.length = 2 ∧ q.2 ≠ [43] := by decide
theorem shp7 : ∀ q ∈ shapes, q.2 = [] → q.1 = [116, 114, 117, 101] ∨ q.1 = [102, 97, 108, 115, 101] ∨ q.1 = [105, 116] := by decide
theorem shp8 : ∀ q ∈ shapes, q.2 = [100] → q.1 = [115, 105, 100, 101] := by decide
theorem shp9 : ∀ q ∈ shapes, q.1 = [115, 105, 100, 101] → q.2 = [100] := by decide
theorem shp10 : ∀ q ∈ shapes, q.2 = [116] → q.1 = [110, 105, 108] ∨ q.1 = [110, 111, 110, 101] := by decide
theorem shp11 : ∀ q ∈ shapes, q.2.length ≤ 5 := by decide
theorem bare_kids {t : NT} {a b c : Bool} (h : bareN t a b c false = true) : ∃ op i txt ty s, t = .mk op i txt ty s [] := by
 obtain ⟨op, i, txt, ⟨k, ts, args⟩, s, kids⟩ := t
 simp only [bareN,Bool.and_eq_true,Bool.false_or,decide_eq_true_eq] at h
 have : kids = [] := by
  have := h.2
  cases kids with
  | nil => rfl
  | cons x l => simp at this; omega
 subst this
 exact ⟨op, i, txt, _, s, rfl⟩
theorem arOk_leaf {op : List UInt8} {n : Nat} (h : leafW op) : ArOk op n := by
 have hn : ¬ leafW [108, 101, 116] ∧ ¬ leafW [109, 97, 112] ∧ ¬ leafW [102, 105, 108, 116, 101, 114] ∧ ¬ leafW [102, 111, 108, 100] ∧ ¬ leafW [105, 102] ∧ ¬ leafW [111, 114, 95, 101, 108, 115, 101] := by
  refine ⟨?_, ?_, ?_, ?_, ?_, ?_⟩ <;> (unfold leafW; decide)
 exact ⟨fun e => absurd (e ▸ h) hn.1, fun e => absurd (e ▸ h) hn.2.1, fun e => absurd (e ▸ h) hn.2.2.1, fun e => absurd (e ▸ h) hn.2.2.2.1, fun e => absurd (e ▸ h) hn.2.2.2.2.1, fun e => absurd (e ▸ h) hn.2.2.2.2.2, fun e => absurd h e⟩
theorem gd_of : ∀ (d : Nat) (t : NT), fineN t → ∀ acc : List UInt8, (nodeW d t (acc, false)).2 = false → Gd d t ∧ tidyN t
 | 0, t, _, acc, h => by simp only [nodeW] at h; cases h
 | d + 1, .mk op i txt ty s kids, hf, acc, h => by
  simp only [fineN] at hf
  obtain ⟨_, _, _, hs, hty, hks⟩ := hf
  have leafCase : ∀ (hl : leafW op) (hk : kids = []) (hsd : op = [115, 105, 100, 101] → 0 ≤ i), Gd (d + 1) (.mk op i txt ty s kids) ∧ tidyN (.mk op i txt ty s kids) := fun hl hk hsd => by
   subst hk
   exact ⟨⟨.inl rfl, arOk_leaf hl, by simp⟩, hty, by simp, hsd, trivial⟩
  have bk : ∀ {a b c : Bool}, bareN (.mk op i txt ty s kids) a b c false = true → kids = [] := fun hb => by
   obtain ⟨_, _, _, _, _, he⟩ := bare_kids hb
   injection he
  simp only [nodeW] at h
  split at h
  ·cases h
  split at h
  ·rename_i ho
   subst ho
   exact leafCase (.inl rfl) (bk (by simpa using h)) (fun e => absurd e (by decide))
  split at h
  ·rename_i ho
   subst ho
   split at h
   ·cases h
   ·rename_i hb
    simp only [Bool.or_eq_true,not_or,Bool.not_eq_true',Bool.not_eq_false] at hb
    exact leafCase (.inr (.inl rfl)) (bk hb.1) (fun e => absurd e (by decide))
  split at h
  ·rename_i ho
   subst ho
   simp only [Bool.or_eq_false_iff,Bool.not_eq_false'] at h
   exact leafCase (.inr (.inr (.inr (.inr (.inl rfl))))) (bk h.1) (fun e => absurd e (by decide))
  split at h
  ·cases h
  ·rename_i ps hps
   have hm := lookup_mem hps
   have a1 := shp1 _ hm
   have a2 := shp2 _ hm
   have a3 := shp3 _ hm
   have a4 := shp4 _ hm
   have a5 := shp5 _ hm
   have a6 := shp6 _ hm
   have a7 := shp7 _ hm
   have a8 := shp8 _ hm
   have a9 := shp9 _ hm
   have a10 := shp10 _ hm
   have a11 := shp11 _ hm
   simp only at a1 a2 a3 a4 a5 a6 a7 a8 a9 a10 a11
   split at h
   ·rename_i hp
    have ho := a8 hp
    simp only [Bool.or_eq_false_iff,Bool.not_eq_false',decide_eq_false_iff_not] at h
    exact leafCase (by unfold leafW; simp [ho]) (bk h.1.1) (fun _ => by omega)
   split at h
   ·rename_i hnd hp
    have ho := a10 hp
    simp only [Bool.or_eq_false_iff,Bool.not_eq_false'] at h
    refine leafCase (by unfold leafW; rcases ho with ho | ho <;> simp [ho]) (bk h.1) (fun e => ?_)
    rw [a9 e] at hnd
    exact absurd rfl hnd
   rename_i hnd hnt
   unfold callW at h
   split at h
   ·cases h
   rename_i hc
   simp only [Bool.or_eq_true,not_or,Bool.not_eq_true',Bool.not_eq_false,decide_eq_true_eq] at hc
   obtain ⟨hc1, hc2⟩ := hc
   have hk : ∀ k ∈ kids, ∃ acc, (nodeW d k (acc, false)).2 = false := by
    split at h
    ·exact (kidsW_good d _ kids 0 _ h).2
    ·exact (kidsW_good d _ kids 0 _ h).2
   have hrec : ∀ k ∈ kids, Gd d k ∧ tidyN k := fun k hkm => by
    obtain ⟨acc', ha⟩ := hk k hkm
    exact gd_of d k (fineNs_mem hks k hkm) acc' ha
   have hlen : ps ≠ [43] → kids.length = ps.length := fun h43 => by
    rw [hc1]; unfold partsW; rw [if_neg h43]
   have hpos : ¬ leafW op → 0 < kids.length := fun hl => by
    by_cases h43 : ps = [43]
    ·rw [hc1]; unfold partsW; rw [if_pos h43, List.length_replicate]; omega
    ·rw [hlen h43]
     cases ps with
     | nil =>
      exfalso
      apply hl
      unfold leafW
      rcases a7 rfl with e | e | e <;> simp [e]
     | cons x l => simp
   have hle : kids.length ≤ 1000 := by
    by_cases h43 : ps = [43]
    ·rw [hc1]; unfold partsW; rw [if_pos h43, List.length_replicate]; omega
    ·rw [hlen h43]; omega
   have tns : ∀ l : List NT, (∀ k ∈ l, tidyN k) → tidyNs l := fun l => by
    induction l with
    | nil => intro _; trivial
    | cons a l ih => intro hh; exact ⟨hh a (by simp), ih fun k hk => hh k (List.mem_cons_of_mem _ hk)⟩
   refine ⟨⟨hs, ⟨fun e => ?_, fun e => ?_, fun e => ?_, fun e => ?_, fun e => ?_, fun e => ?_, hpos⟩, fun k hkm => (hrec k hkm).1⟩, hty, hle, fun e => absurd (a9 e) hnd, tns kids fun k hkm => (hrec k hkm).2⟩
   ·rw [hlen (a1 e).2]; exact (a1 e).1
   ·rw [hlen (a2 e).2]; exact (a2 e).1
   ·rw [hlen (a3 e).2]; exact (a3 e).1
   ·rw [hlen (a4 e).2]; exact (a4 e).1
   ·rw [hlen (a5 e).2, (a5 e).1]; decide
   ·rw [hlen (a6 e).2, (a6 e).1]; decide
theorem show_gd {t : NT} (hf : fineN t) (h : (showX t).2 = 0) : Gd 24 t ∧ tidyN t := by
 refine gd_of 24 t hf [] ?_
 unfold showX at h
 split at h
 ·cases h
 ·rename_i hc
  simp only [Bool.or_eq_true,not_or,Bool.not_eq_true] at hc
  exact hc.1
end Go.Abs.Seat
end
section
set_option linter.unusedVariables false
set_option linter.unusedSimpArgs false
namespace Go.Abs.Seat
open Go.Proofs
theorem kidsW_bad (d : Nat) (ps : List UInt8) : ∀ (kids : List NT) (i : Nat) (acc : List UInt8), (kidsW (nodeW d) ps i kids (acc, true)).2 = true
 | [], i, acc => rfl
 | k :: ks, i, acc => by
  simp only [kidsW,Bool.true_or]
  rw [nodeW_bad]
  exact kidsW_bad d ps ks (i + 1) _
def Shift (d : Nat) (t : NT) : Prop := ∀ acc : List UInt8, (nodeW d t (acc, false)).2 = false →
 ∃ w, (nodeW d t (acc, false)).1 = acc ++ w ∧ ∀ d', d ≤ d' → ∀ acc' : List UInt8, acc'.length ≤ acc.length → nodeW d' t (acc', false) = (acc' ++ w, false)
theorem kidsW_shift (d : Nat) (ps : List UInt8) : ∀ (kids : List NT), (∀ k ∈ kids, Shift d k) → ∀ (i : Nat) (acc : List UInt8), (kidsW (nodeW d) ps i kids (acc, false)).2 = false →
  (∃ w, (kidsW (nodeW d) ps i kids (acc, false)).1 = acc ++ w ∧ ∀ d', d ≤ d' → ∀ acc' : List UInt8, acc'.length ≤ acc.length → kidsW (nodeW d') ps i kids (acc', false) = (acc' ++ w, false)) ∧
  ∀ k ∈ kids, ∃ acc1, (nodeW d k (acc1, false)).2 = false ∧ (nodeW d k (acc1, false)).1.length ≤ (kidsW (nodeW d) ps i kids (acc, false)).1.length
 | [], _, i, acc, h => ⟨⟨[], by simp [kidsW], fun d' _ acc' _ => by simp [kidsW]⟩, fun k hk => by simp at hk⟩
 | k :: ks, hk, i, acc, h => by
  simp only [kidsW,Bool.false_or] at h ⊢
  cases hfl : (decide (ps[i]? = some 110) && !isNam k) with
  | true =>
   rw [hfl, nodeW_bad, kidsW_bad] at h
   simp at h
  | false =>
   rw [hfl] at h
   cases hb : (nodeW d k (acc ++ [sepB i], false)).2 with
   | true =>
    have e : nodeW d k (acc ++ [sepB i], false) = ((nodeW d k (acc ++ [sepB i], false)).1, true) := Prod.ext rfl hb
    rw [e, kidsW_bad] at h
    simp at h
   | false =>
    obtain ⟨w1, h1, h2⟩ := hk k (by simp) (acc ++ [sepB i]) hb
    have e : nodeW d k (acc ++ [sepB i], false) = (acc ++ [sepB i] ++ w1, false) := Prod.ext h1 hb
    rw [e] at h ⊢
    obtain ⟨⟨w2, h3, h4⟩, h5⟩ := kidsW_shift d ps ks (fun k hk' => hk k (by simp [hk'])) (i + 1) _ h
    refine ⟨⟨[sepB i] ++ w1 ++ w2, by rw [h3]; simp [List.append_assoc], fun d' hd acc' ha => ?_⟩, fun k' hk' => ?_⟩
    ·rw [h2 d' hd (acc' ++ [sepB i]) (by simp; omega), h4 d' hd _ (by simp; omega)]
     simp [List.append_assoc]
    ·rcases List.mem_cons.1 hk' with rfl | hk'
     ·refine ⟨acc ++ [sepB i], hb, ?_⟩
      rw [e]
      exact kidsW_ge ks (fun k _ st => nodeW_ge d k st) (i + 1) _
     ·exact h5 k' hk'
theorem shift_all : ∀ (d : Nat) (t : NT), Shift d t
 | 0, t => fun acc h => by simp [nodeW] at h
 | d + 1, .mk op i txt ty s kids => by
  intro acc h
  have hkids : ∀ k ∈ kids, Shift d k := fun k _ => shift_all d k
  by_cases hl : 4096 < acc.length
  ·simp only [nodeW] at h
   rw [if_pos (by rw [decide_eq_true hl]; simp)] at h
   simp at h
  have go : ∀ (w : List UInt8), nodeW (d + 1) (.mk op i txt ty s kids) (acc, false) = (acc ++ w, false) → (∀ d', d ≤ d' → ∀ acc' : List UInt8, acc'.length ≤ acc.length → nodeW (d' + 1) (.mk op i txt ty s kids) (acc', false) = (acc' ++ w, false)) →
    ∃ w, (nodeW (d + 1) (.mk op i txt ty s kids) (acc, false)).1 = acc ++ w ∧ ∀ d', d + 1 ≤ d' → ∀ acc' : List UInt8, acc'.length ≤ acc.length → nodeW d' (.mk op i txt ty s kids) (acc', false) = (acc' ++ w, false) := fun w h1 h2 =>
   ⟨w, by rw [h1], fun d' hd acc' ha => by
    obtain ⟨d'', rfl⟩ : ∃ d'', d' = d'' + 1 := ⟨d' - 1, by omega⟩
    exact h2 d'' (by omega) acc' ha⟩
  have st : ∀ acc' : List UInt8, acc'.length ≤ acc.length → (false || decide (4096 < acc'.length)) = false := fun acc' ha => by rw [decide_eq_false (by omega)]; rfl
  have e0 : ∀ (d' : Nat) (acc' : List UInt8), acc'.length ≤ acc.length → nodeW (d' + 1) (.mk op i txt ty s kids) (acc', false) =
    (if op = intW then (acc' ++ itoaN i, !bareN (.mk op i txt ty s kids) true false false false)
    else if op = textW then (if (!bareN (.mk op i txt ty s kids) false true false false || decide (256 < txt.length)) = true then (acc', true) else (acc' ++ quoteB txt, false))
    else if op = nameW then (acc' ++ txt, !bareN (.mk op i txt ty s kids) false true false false || !nameOk txt)
    else match shapeT op with
     | none => (acc', true)
     | some ps =>
      if ps = [100] then (acc' ++ ((sideW ++ itoaN i) ++ [41]), (!bareN (.mk op i txt ty s kids) true false false false || decide (i < 0)) || decide (9 < i))
      else if ps = [116] then (acc' ++ (((op ++ [40]) ++ showW ty) ++ [41]), !bareN (.mk op i txt ty s kids) false false true false || !decide (checkT ty = 0))
      else callW (nodeW d') op ps (.mk op i txt ty s kids) kids (acc', false)) := fun d' acc' ha => by
   simp only [nodeW]
   rw [if_neg (by rw [st acc' ha]; simp)]
   rfl
  rw [e0 d acc (Nat.le_refl _)] at h
  by_cases h1 : op = intW
  ·rw [if_pos h1] at h
   simp only at h
   refine go (itoaN i) ?_ fun d' _ acc' ha => ?_
   ·rw [e0 d acc (Nat.le_refl _), if_pos h1, h]
   ·rw [e0 d' acc' ha, if_pos h1, h]
  rw [if_neg h1] at h
  by_cases h2 : op = textW
  ·rw [if_pos h2] at h
   by_cases h3 : (!bareN (.mk op i txt ty s kids) false true false false || decide (256 < txt.length)) = true
   ·rw [if_pos h3] at h; simp at h
   ·refine go (quoteB txt) ?_ fun d' _ acc' ha => ?_
    ·rw [e0 d acc (Nat.le_refl _), if_neg h1, if_pos h2, if_neg h3]
    ·rw [e0 d' acc' ha, if_neg h1, if_pos h2, if_neg h3]
  rw [if_neg h2] at h
  by_cases h3 : op = nameW
  ·rw [if_pos h3] at h
   simp only at h
   refine go txt ?_ fun d' _ acc' ha => ?_
   ·rw [e0 d acc (Nat.le_refl _), if_neg h1, if_neg h2, if_pos h3, h]
   ·rw [e0 d' acc' ha, if_neg h1, if_neg h2, if_pos h3, h]
  rw [if_neg h3] at h
  cases hsh : shapeT op with
  | none => rw [hsh] at h; simp at h
  | some ps =>
   rw [hsh] at h
   simp only at h
   by_cases h4 : ps = [100]
   ·rw [if_pos h4] at h
    simp only at h
    refine go ((sideW ++ itoaN i) ++ [41]) ?_ fun d' _ acc' ha => ?_
    ·rw [e0 d acc (Nat.le_refl _), if_neg h1, if_neg h2, if_neg h3, hsh]; simp only; rw [if_pos h4, h]
    ·rw [e0 d' acc' ha, if_neg h1, if_neg h2, if_neg h3, hsh]; simp only; rw [if_pos h4, h]
   rw [if_neg h4] at h
   by_cases h5 : ps = [116]
   ·rw [if_pos h5] at h
    simp only at h
    refine go (((op ++ [40]) ++ showW ty) ++ [41]) ?_ fun d' _ acc' ha => ?_
    ·rw [e0 d acc (Nat.le_refl _), if_neg h1, if_neg h2, if_neg h3, hsh]; simp only; rw [if_neg h4, if_pos h5, h]
    ·rw [e0 d' acc' ha, if_neg h1, if_neg h2, if_neg h3, hsh]; simp only; rw [if_neg h4, if_pos h5, h]
   rw [if_neg h5] at h
   unfold callW at h
   by_cases hc : (!decide (kids.length = (partsW ps kids.length).length) || !bareN (.mk op i txt ty s kids) false false false true) = true
   ·rw [if_pos hc] at h; simp at h
   rw [if_neg hc] at h
   have hkb : (kidsW (nodeW d) (partsW ps kids.length) 0 kids (acc ++ op, false)).2 = false := by
    split at h <;> exact h
   obtain ⟨⟨w, k1, k2⟩, _⟩ := kidsW_shift d (partsW ps kids.length) kids hkids 0 (acc ++ op) hkb
   have ek : ∀ d', d ≤ d' → ∀ acc' : List UInt8, acc'.length ≤ acc.length → kidsW (nodeW d') (partsW ps kids.length) 0 kids (acc' ++ op, false) = (acc' ++ op ++ w, false) := fun d' hd acc' ha => k2 d' hd (acc' ++ op) (by simp; omega)
   have ec : ∀ d', d ≤ d' → ∀ acc' : List UInt8, acc'.length ≤ acc.length → callW (nodeW d') op ps (.mk op i txt ty s kids) kids (acc', false) = (acc' ++ (op ++ w ++ (if 0 < kids.length then [41] else [])), false) := fun d' hd acc' ha => by
    unfold callW
    rw [if_neg hc]
    simp only [ek d' hd acc' ha]
    split <;> simp [List.append_assoc]
   refine go (op ++ w ++ (if 0 < kids.length then [41] else [])) ?_ fun d' hd acc' ha => ?_
   ·rw [e0 d acc (Nat.le_refl _), if_neg h1, if_neg h2, if_neg h3, hsh]; simp only; rw [if_neg h4, if_neg h5, ec d (Nat.le_refl _) acc (Nat.le_refl _)]
   ·rw [e0 d' acc' ha, if_neg h1, if_neg h2, if_neg h3, hsh]; simp only; rw [if_neg h4, if_neg h5, ec d' hd acc' ha]
theorem kids_right (op txt : List UInt8) (i : Int) (ty : KT) (s : Nat) (kids : List NT) (h : (showX (.mk op i txt ty s kids)).2 = 0) : ∀ k ∈ kids, (showX k).2 = 0 := by
 intro k hk
 unfold showX at h
 by_cases hb : ((nodeW 24 (.mk op i txt ty s kids) ([], false)).2 || decide (4096 < (nodeW 24 (.mk op i txt ty s kids) ([], false)).1.length)) = true
 ·rw [if_pos hb] at h; simp at h
 clear h
 simp only [Bool.or_eq_true,decide_eq_true_eq,not_or,Bool.not_eq_true] at hb
 obtain ⟨hb, hl⟩ := hb
 have e0 : nodeW 24 (.mk op i txt ty s kids) ([], false) =
    (if op = intW then ([] ++ itoaN i, !bareN (.mk op i txt ty s kids) true false false false)
    else if op = textW then (if (!bareN (.mk op i txt ty s kids) false true false false || decide (256 < txt.length)) = true then ([], true) else ([] ++ quoteB txt, false))
    else if op = nameW then ([] ++ txt, !bareN (.mk op i txt ty s kids) false true false false || !nameOk txt)
    else match shapeT op with
     | none => ([], true)
     | some ps =>
      if ps = [100] then ([] ++ ((sideW ++ itoaN i) ++ [41]), (!bareN (.mk op i txt ty s kids) true false false false || decide (i < 0)) || decide (9 < i))
      else if ps = [116] then ([] ++ (((op ++ [40]) ++ showW ty) ++ [41]), !bareN (.mk op i txt ty s kids) false false true false || !decide (checkT ty = 0))
      else callW (nodeW 23) op ps (.mk op i txt ty s kids) kids ([], false)) := by
  show nodeW (23 + 1) _ _ = _
  simp only [nodeW]
  rw [if_neg (by simp)]
  rfl
 rw [e0] at hb hl
 have nokids : ∀ a b c : Bool, bareN (.mk op i txt ty s kids) a b c false = true → False := fun a b c h => by
  obtain ⟨tk, ts, targs⟩ := ty
  simp only [bareN,Bool.false_or,Bool.and_eq_true,decide_eq_true_eq] at h
  have : 0 < kids.length := List.length_pos_of_mem hk
  omega
 by_cases h1 : op = intW
 ·rw [if_pos h1] at hb
  exact (nokids true false false (by simpa using hb)).elim
 rw [if_neg h1] at hb hl
 by_cases h2 : op = textW
 ·rw [if_pos h2] at hb
  by_cases h3 : (!bareN (.mk op i txt ty s kids) false true false false || decide (256 < txt.length)) = true
  ·rw [if_pos h3] at hb; simp at hb
  ·simp only [Bool.or_eq_true,not_or,Bool.not_eq_true,Bool.not_eq_false'] at h3
   exact (nokids false true false h3.1).elim
 rw [if_neg h2] at hb hl
 by_cases h3 : op = nameW
 ·rw [if_pos h3] at hb
  simp only [Bool.or_eq_false_iff,Bool.not_eq_false'] at hb
  exact (nokids false true false hb.1).elim
 rw [if_neg h3] at hb hl
 cases hsh : shapeT op with
 | none => rw [hsh] at hb; simp at hb
 | some ps =>
  rw [hsh] at hb hl
  simp only at hb hl
  by_cases h4 : ps = [100]
  ·rw [if_pos h4] at hb
   simp only [Bool.or_eq_false_iff,Bool.not_eq_false'] at hb
   exact (nokids true false false hb.1.1).elim
  rw [if_neg h4] at hb hl
  by_cases h5 : ps = [116]
  ·rw [if_pos h5] at hb
   simp only [Bool.or_eq_false_iff,Bool.not_eq_false'] at hb
   exact (nokids false false true hb.1).elim
  rw [if_neg h5] at hb hl
  unfold callW at hb hl
  by_cases hc : (!decide (kids.length = (partsW ps kids.length).length) || !bareN (.mk op i txt ty s kids) false false false true) = true
  ·rw [if_pos hc] at hb; simp at hb
  rw [if_neg hc] at hb hl
  have hkb : (kidsW (nodeW 23) (partsW ps kids.length) 0 kids ([] ++ op, false)).2 = false := by split at hb <;> exact hb
  have hkl : (kidsW (nodeW 23) (partsW ps kids.length) 0 kids ([] ++ op, false)).1.length ≤ 4096 := by
   split at hl
   ·simp only [List.length_append] at hl; omega
   ·exact Nat.not_lt.1 hl
  obtain ⟨acc1, a1, a2⟩ := (kidsW_shift 23 (partsW ps kids.length) kids (fun k _ => shift_all 23 k) 0 ([] ++ op) hkb).2 k hk
  obtain ⟨w, b1, b2⟩ := shift_all 23 k acc1 a1
  have b3 := b2 24 (by omega) [] (Nat.zero_le _)
  unfold showX
  rw [b3]
  rw [b1, List.length_append] at a2
  rw [if_neg (by simp only [List.nil_append,Bool.false_or,decide_eq_true_eq]; omega)]
end Go.Abs.Seat
end
section
set_option linter.unusedVariables false
set_option linter.unusedSimpArgs false
namespace Go.Abs.Seat
open Go.Proofs
theorem then_inr {r : RT} {f : KT → RT} {x : List Nat × Int} (h : thenR r f = .inr x) : r = .inr x ∨ ∃ t, r = .inl t ∧ f t = .inr x := by
 cases r with
 | inl t => exact .inr ⟨t, rfl, h⟩
 | inr y => exact .inl h
end Go.Abs.Seat
end
section
set_option linter.unusedVariables false
set_option linter.unusedSimpArgs false
namespace Go.Abs.Seat
open Go.Proofs
theorem fineNs_of : ∀ {l : List NT}, (∀ a ∈ l, fineN a) → fineNs l
 | [], _ => trivial
 | a :: l, h => ⟨h a (List.mem_cons_self ..), fineNs_of fun b hb => h b (List.mem_cons_of_mem _ hb)⟩
mutual
theorem clone_fine : ∀ t : NT, fineN t → fineN (cloneN t)
 | .mk op i txt ty s kids, h => by
  simp only [fineN] at h
  simp only [cloneN,mkN,fineN]
  have := clone_fines kids h.2.2.2.2.2
  refine ⟨h.1, h.2.1, h.2.2.1, ?_, clone_ok ty h.2.2.2.2.1, this⟩
  by_cases h0 : (cloneNs kids).length = 0
  ·exact .inl (List.length_eq_zero_iff.1 h0)
  ·right; rw [if_neg h0]
theorem clone_fines : ∀ l : List NT, fineNs l → fineNs (cloneNs l)
 | [], _ => trivial
 | a :: l, h => by
  simp only [fineNs] at h
  simp only [cloneNs,fineNs]
  exact ⟨clone_fine a h.1, clone_fines l h.2⟩
end
theorem envC_h {v : EnvT} (h : EnvH v) : EnvH (envC v) := by
 refine ⟨clone_ok _ h.it, fun t ht => ?_, ?_, by simp [envC]; exact h.len⟩
 ·obtain ⟨u, hu, rfl⟩ := List.mem_map.1 ht
  exact clone_ok u (h.sides u hu)
 ·by_cases h0 : v.sides.length = 0
  ·left; simp [envC, List.length_eq_zero_iff.1 h0]
  ·right; simp [envC, h0]
theorem small_says {t : NT} {v : EnvT} (hh : handN t) (hv : EnvH v) (h : smallE t v = true) : okN t ∧ fineN t ∧ slim v.it ∧ (∀ u ∈ v.sides, slim u) ∧ v.sides.length ≤ 1000000 := by
 unfold smallE at h
 split at h
 ·rename_i h1
  split at h
  ·rename_i h2
   have q0 := fewN_left t 5000 60 (by decide)
   have q1 := few_ok t 5000 60 (by decide) (by decide) hh h1
   have q2 := smallT_left v.it (fewN t 5000 60).2 30 (q0.2.2 h1)
   have q3 := small_slim v.it (fewN t 5000 60).2 30 (q0.2.2 h1) (by omega) h2
   have q4 := small_slims v.sides _ 30 (q2.2.2 h2) (by omega) h
   have q5 := smallTs_left v.sides (smallT v.it (fewN t 5000 60).2 30).2 30 (q2.2.2 h2)
   have q6 := q5.2.2 h
   have q7 := q4.1
   exact ⟨q1.2.1, q1.2.2, q3.2, fun u hu => slims_mem q4.2 u hu, by omega⟩
  ·cases h
 ·cases h
theorem dg_im (d : Dat) : dgA true (.im d) = .im d := rfl
end Go.Abs.Seat
end
section
set_option linter.unusedVariables false
set_option linter.unusedSimpArgs false
namespace Go.Abs.Seat
open Go.Proofs
def cdOk (c : Int) : Prop := c = 50 ∨ c = 51 ∨ c = 53
theorem kid_cd {j : Nat} {r : RT} {p : List Nat} {c : Int} (h : kidR j r = .inr (p, c)) (hr : ∀ p' c', r = .inr (p', c') → cdOk c') : cdOk c := by
 cases r with
 | inl u => cases h
 | inr x =>
  obtain ⟨p', c'⟩ := x
  simp only [kidR] at h
  injection h with h
  injection h with h1 h2
  subst h2
  exact hr p' c' rfl
theorem cd_of {p : List Nat} {c e : Int} (h : (.inr ([], e) : RT) = .inr (p, c)) (he : cdOk e) : cdOk c := by
 injection h with h; injection h with h1 h2; subst h2; exact he
theorem made_cd {t : KT} {p : List Nat} {c : Int} (h : madeX t = .inr (p, c)) : cdOk c := by
 unfold madeX at h
 split at h
 ·cases h
 ·exact cd_of h (.inl rfl)
theorem looks_code (v : EnvT) (d : Nat) (nm : Nms) : ∀ (kids : List NT) (j : Nat) (p : List Nat) (c : Int), (∀ k ∈ kids, ∀ p c, lookX v k nm = .inr (p, c) → cdOk c) → looksX v kids j nm = .inr (p, c) → cdOk c
 | [], j, p, c, _, h => by simp only [looksX] at h; cases h
 | k :: ks, j, p, c, hk, h => by
  simp only [looksX] at h
  split at h
  ·rename_i e he
   injection h with h
   subst h
   exact kid_cd he fun p' c' hp => hk k (List.mem_cons_self ..) p' c' hp
  ·split at h
   ·cases h
   ·rename_i e he
    injection h with h
    subst h
    exact looks_code v d nm ks (j + 1) p c (fun k' hk' => hk k' (List.mem_cons_of_mem _ hk')) he
theorem look_code (v : EnvT) : ∀ (d : Nat) (t : NT) (nm : Nms) (p : List Nat) (c : Int), Gd d t → lookX v t nm = .inr (p, c) → cdOk c
 | 0, t, nm, p, c, hg, _ => by simp only [Gd] at hg
 | d + 1, .mk op i txt ty s kids, nm, p, c, hg, h => by
  simp only [Gd] at hg
  obtain ⟨_, har, hgk⟩ := hg
  have kid : ∀ j nm' p c, j < kids.length → kidR j (lookAt v kids j nm') = .inr (p, c) → cdOk c := fun j nm' p c hj he => kid_cd he fun p' c' hp => by
   rw [lookAt_get v kids j _ nm' (List.getElem?_eq_getElem hj)] at hp
   exact look_code v d _ nm' p' c' (hgk _ (List.getElem_mem hj)) hp
  simp only [lookX] at h
  split at h
  ·cases h
  split at h
  ·cases h
  split at h
  ·cases h
  split at h
  ·cases h
  split at h
  ·unfold nameX at h
   split at h
   ·cases h
   ·exact cd_of h (by unfold cdOk; decide)
  split at h
  ·exact made_cd h
  split at h
  ·exact made_cd h
  split at h
  ·split at h
   ·exact cd_of h (by unfold cdOk; decide)
   ·cases h
  split at h
  ·rename_i hbw
   unfold bindsR at h
   split at h
   ·rcases then_inr h with h1 | ⟨t, _, h1⟩ <;> exact kid _ _ _ _ (by first | (have := har.l (by assumption); omega) | (have := har.d (by assumption); omega) | (have h3' : kids.length = 3 := (by rcases hbw with hh | hh | hh | hh <;> first | exact har.l hh | exact har.m hh | exact har.f hh | (exfalso; simp_all [foldW])); omega)) h1
   split at h
   ·rcases then_inr h with h1 | ⟨t, _, h1⟩
    ·exact kid _ _ _ _ (by first | (have := har.l (by assumption); omega) | (have := har.d (by assumption); omega) | (have h3' : kids.length = 3 := (by rcases hbw with hh | hh | hh | hh <;> first | exact har.l hh | exact har.m hh | exact har.f hh | (exfalso; simp_all [foldW])); omega)) h1
    rcases then_inr h1 with h2 | ⟨t1, _, h2⟩
    ·exact kid _ _ _ _ (by first | (have := har.l (by assumption); omega) | (have := har.d (by assumption); omega) | (have h3' : kids.length = 3 := (by rcases hbw with hh | hh | hh | hh <;> first | exact har.l hh | exact har.m hh | exact har.f hh | (exfalso; simp_all [foldW])); omega)) h2
    split at h2
    ·rcases then_inr h2 with h3 | ⟨t4, _, h3⟩
     ·exact kid _ _ _ _ (by first | (have := har.l (by assumption); omega) | (have := har.d (by assumption); omega) | (have h3' : kids.length = 3 := (by rcases hbw with hh | hh | hh | hh <;> first | exact har.l hh | exact har.m hh | exact har.f hh | (exfalso; simp_all [foldW])); omega)) h3
     split at h3
     ·cases h3
     ·exact cd_of h3 (by unfold cdOk; decide)
    ·exact cd_of h2 (by unfold cdOk; decide)
   ·rcases then_inr h with h1 | ⟨t, _, h1⟩
    ·exact kid _ _ _ _ (by first | (have := har.l (by assumption); omega) | (have := har.d (by assumption); omega) | (have h3' : kids.length = 3 := (by rcases hbw with hh | hh | hh | hh <;> first | exact har.l hh | exact har.m hh | exact har.f hh | (exfalso; simp_all [foldW])); omega)) h1
    split at h1
    ·rcases then_inr h1 with h3 | ⟨t4, _, h3⟩
     ·exact kid _ _ _ _ (by first | (have := har.l (by assumption); omega) | (have := har.d (by assumption); omega) | (have h3' : kids.length = 3 := (by rcases hbw with hh | hh | hh | hh <;> first | exact har.l hh | exact har.m hh | exact har.f hh | (exfalso; simp_all [foldW])); omega)) h3
     split at h3
     ·exact made_cd h3
     split at h3
     ·cases h3
     ·exact cd_of h3 (by unfold cdOk; decide)
    ·exact cd_of h1 (by unfold cdOk; decide)
  ·split at h
   ·unfold plainR at h
    split at h
    ·cases h
    ·exact cd_of h (by unfold cdOk; decide)
   ·rename_i e he
    injection h with h
    subst h
    exact looks_code v d nm kids 0 p c (fun k hk p c hp => look_code v d k nm p c (hgk k hk) hp) he
end Go.Abs.Seat
end
section
set_option linter.unusedVariables false
set_option linter.unusedSimpArgs false
namespace Go.Abs.Seat
open Go.Proofs
theorem s10h (t : NT) (v : EnvT) (hf : fineN t) (hv : EnvH v) :
  ∃ sF : Heap → Nat, (∀ H, L 10 [.im (.agg (encN t)), .im (.agg (encE v))] H = some (.tup [.im (.agg (encT (inferX t v).1)), .im (.sl (sF H) (rowsP (inferX t v).2.1)), .im (.int .i64 (inferX t v).2.2)], H)) ∧ ∀ H, (inferX t v).2.1 = [] ∨ sF H = 1 := by
 have h := s10 t v hf (show_gd hf) hv
 exact ⟨fun H => (h H).choose, fun H => (h H).choose_spec.1, fun H => (h H).choose_spec.2⟩
theorem infer_okT {t : NT} {v : EnvT} (hf : fineN t) (hv : EnvH v) : okT (inferX t v).1 ∧ ((inferX t v).2.2 = 0 → rightT (inferX t v).1 6 = true) := by
 have hz : okT zeroT := simp_ok 0
 unfold inferX
 split
 ·rename_i h
  split
  ·rename_i he
   have ht := show_gd hf h
   split
   ·rename_i u hu
    have hr := look_rt v (envOk hv he) t [] u ht.2 (by simp) hu
    exact ⟨clone_ok u hr.1, fun _ => by rw [clone_right]; exact hr.2⟩
   ·rename_i p c hp
    refine ⟨hz, fun h0 => ?_⟩
    have := look_code v 24 t [] p c ht.1 hp
    change c = 0 at h0
    subst h0
    rcases this with h | h | h <;> cases h
  ·exact ⟨hz, fun h0 => by cases h0⟩
 ·exact ⟨hz, fun h0 => by cases h0⟩
theorem parts (t : NT) : ∃ op i txt tk ts ta s kids, t = .mk op i txt (.mk tk ts ta) s kids := by
 obtain ⟨op, i, txt, ⟨tk, ts, ta⟩, s, kids⟩ := t
 exact ⟨op, i, txt, tk, ts, ta, s, kids, rfl⟩
end Go.Abs.Seat
end
section
set_option linter.unusedVariables false
set_option linter.unusedSimpArgs false
namespace Go.Abs.Seat
open Go.Proofs Go.Abs Go.ChangeShapes
section
variable {Hd : Type} {enc : TypeId × Value → Hd} {P : Program} {w : World}
theorem reads_map {n : Nat} {t : TypeId} {α β : Type} {ea : α → List Dat} {eb : β → List Dat} {ga : α → Prop} {gb : β → Prop} (h : Reads enc P w n t α ea ga) (hm : ∀ a, ga a → ∃ b, gb b ∧ eb b = ea a) : Reads enc P w n t β eb gb := by
 intro cs x hx
 obtain ⟨a, hg, hr, hl, hc⟩ := h cs x hx
 obtain ⟨b, hb, he⟩ := hm a hg
 exact ⟨b, hb, by rw [he]; exact hr, by rw [he]; exact hl, by rw [he]; exact hc⟩
theorem reads_zero {t : TypeId} {α : Type} {en : α → List Dat} {good : α → Prop} : Reads enc P w 0 t α en good := by
 intro cs x hx
 simp [DataW.trod] at hx
theorem readsT : ∀ n, Reads enc Tryz.prog w n 24 KT encT okT ∧ Reads enc Tryz.prog w n 22 (List KT) (fun l => [.sl 2 (l.map encT)]) (fun l => (∀ a ∈ l, okT a) ∧ l.length ≤ maxLen)
 | 0 => ⟨reads_zero, reads_zero⟩
 | n + 1 => by
  obtain ⟨h1, h2⟩ := readsT n
  have hc : Tryz.prog.cellsOf 24 = 2 := by kernel_rfl
  have h3 : Reads enc Tryz.prog w n 3 Int (fun z => [.int .i64 z]) (fun z => (Lit.int .i64 z).wf = true) := reads_int Tryz.underlying3 (by kernel_rfl)
  have hsl := reads_slice (n := n) (enc := enc) (w := w) Tryz.underlying22 (by kernel_rfl) (by rw [hc]; decide) h1
  rw [hc] at hsl
  refine ⟨?_, hsl⟩
  have hF := readsF_cons (f := { name := "Kind", type := 3, offset := 0, embedded := false, tag := "", pkgPath := "", byteOffset := 0 }) (L := 2) (o := 0) (o' := 1) rfl (by kernel_rfl) (by decide) h3
   (readsF_cons (f := { name := "Args", type := 22, offset := 1, embedded := false, tag := "", pkgPath := "", byteOffset := 8 }) (L := 2) (o := 1) (o' := 2) rfl (by kernel_rfl) (by decide) h2 readsF_nil)
  have hs := reads_struct (t := 24) (enc := enc) (w := w) Tryz.underlying24 (by rw [hc]; exact hF)
  refine reads_map hs fun ⟨k, l, u⟩ ⟨_, ⟨hg, hl⟩, _⟩ => ⟨.mk k 2 l, ?_, ?_⟩
  ·simp only [okT]
   refine ⟨.inr trivial, by simpa [maxLen] using hl, ?_⟩
   have : ∀ l : List KT, (∀ a ∈ l, okT a) → okTs l := by
    intro l
    induction l with
    | nil => intro _; simp only [okTs]
    | cons a l ih => intro h; simp only [okTs]; exact ⟨h a (by simp), ih fun x hx => h x (by simp [hx])⟩
   exact this l hg
  ·simp only [encT,encTs_map]
   rfl
theorem readsN : ∀ n, Reads enc Tryz.prog w n 27 NT encN handN ∧ Reads enc Tryz.prog w n 25 (List NT) (fun l => [.sl 6 (l.map encN)]) (fun l => (∀ a ∈ l, handN a) ∧ l.length ≤ maxLen)
 | 0 => ⟨reads_zero, reads_zero⟩
 | n + 1 => by
  obtain ⟨h1, h2⟩ := readsN n
  have hc : Tryz.prog.cellsOf 27 = 6 := by kernel_rfl
  have h3 : Reads enc Tryz.prog w n 3 Int (fun z => [.int .i64 z]) (fun z => (Lit.int .i64 z).wf = true) := reads_int Tryz.underlying3 (by kernel_rfl)
  have h9 : Reads enc Tryz.prog w n 9 (List UInt8) (fun s => [.str s]) (fun s => s.length ≤ maxLen) := reads_str Tryz.underlying9 (by kernel_rfl)
  have hsl := reads_slice (n := n) (enc := enc) (w := w) Tryz.underlying25 (by kernel_rfl) (by rw [hc]; decide) h1
  rw [hc] at hsl
  refine ⟨?_, hsl⟩
  have hF := readsF_cons (f := { name := "Op", type := 9, offset := 0, embedded := false, tag := "", pkgPath := "", byteOffset := 0 }) (L := 6) (o := 0) (o' := 1) rfl (by kernel_rfl) (by decide) h9
   (readsF_cons (f := { name := "Int", type := 3, offset := 1, embedded := false, tag := "", pkgPath := "", byteOffset := 16 }) (L := 6) (o := 1) (o' := 2) rfl (by kernel_rfl) (by decide) h3
   (readsF_cons (f := { name := "Text", type := 9, offset := 2, embedded := false, tag := "", pkgPath := "", byteOffset := 24 }) (L := 6) (o := 2) (o' := 3) rfl (by kernel_rfl) (by decide) h9
   (readsF_cons (f := { name := "Type", type := 24, offset := 3, embedded := false, tag := "", pkgPath := "", byteOffset := 40 }) (L := 6) (o := 3) (o' := 5) rfl (by kernel_rfl) (by decide) (readsT n).1
   (readsF_cons (f := { name := "Kids", type := 25, offset := 5, embedded := false, tag := "", pkgPath := "", byteOffset := 72 }) (L := 6) (o := 5) (o' := 6) rfl (by kernel_rfl) (by decide) h2 readsF_nil))))
  have hs := reads_struct (t := 27) (enc := enc) (w := w) Tryz.underlying27 (by rw [hc]; exact hF)
  refine reads_map hs fun ⟨op, i, txt, ty, l, u⟩ ⟨_, hi, _, hty, ⟨hg, hl⟩, _⟩ => ⟨.mk op i txt ty 6 l, ?_, ?_⟩
  ·simp only [handN]
   refine ⟨?_, .inr trivial, by simpa [maxLen] using hl, hty, ?_⟩
   ·simp only [Lit.wf,Bool.and_eq_true,decide_eq_true_eq] at hi
    exact hi
   ·have : ∀ l : List NT, (∀ a ∈ l, handN a) → handNs l := by
     intro l
     induction l with
     | nil => intro _; simp only [handNs]
     | cons a l ih => intro h; simp only [handNs]; exact ⟨h a (by simp), ih fun x hx => h x (by simp [hx])⟩
    exact this l hg
  ·obtain ⟨k, sa, args⟩ := ty
   simp only [encN,encT,encTs_map,encNs_map]
   rfl
theorem readsE : ∀ n, Reads enc Tryz.prog w n 29 EnvT encE EnvH
 | 0 => reads_zero
 | n + 1 => by
  have hc : Tryz.prog.cellsOf 29 = 3 := by kernel_rfl
  have hF := readsF_cons (f := { name := "It", type := 24, offset := 0, embedded := false, tag := "", pkgPath := "", byteOffset := 0 }) (L := 3) (o := 0) (o' := 2) rfl (by kernel_rfl) (by decide) (readsT (enc := enc) (w := w) n).1
   (readsF_cons (f := { name := "Sides", type := 22, offset := 2, embedded := false, tag := "", pkgPath := "", byteOffset := 32 }) (L := 3) (o := 2) (o' := 3) rfl (by kernel_rfl) (by decide) (readsT n).2 readsF_nil)
  have hs := reads_struct (t := 29) (enc := enc) (w := w) Tryz.underlying29 (by rw [hc]; exact hF)
  refine reads_map hs fun ⟨it, l, u⟩ ⟨hit, ⟨hg, hl⟩, _⟩ => ⟨⟨it, 2, l⟩, ?_, ?_⟩
  ·exact ⟨hit, hg, .inr rfl, by simpa [maxLen] using hl⟩
  ·obtain ⟨k, s, a⟩ := it
   simp only [encE,encT,KT.k,KT.s,KT.args]
   rfl
structure ChoiceT where
 c : NT
 x : NT
 y : NT
 v : EnvT
structure ChoiceH (z : ChoiceT) : Prop where
 c : handN z.c
 x : handN z.x
 y : handN z.y
 v : EnvH z.v
end
end Go.Abs.Seat
end
section
set_option linter.unusedVariables false
set_option linter.unusedSimpArgs false
namespace Go.Abs.Seat
open Go.Proofs
mutual
theorem same_clone : ∀ (a b : KT), sameT (cloneT a) (cloneT b) = sameT a b
 | .mk k s xs, .mk k' s' ys => by
  have h := same_clones xs ys
  have l1 : (cloneTs xs).length = xs.length := by rw [cloneTs_map, List.length_map]
  have l2 : (cloneTs ys).length = ys.length := by rw [cloneTs_map, List.length_map]
  simp only [cloneT,sameT,h,l1,l2]
theorem same_clones : ∀ (a b : List KT), sameTs (cloneTs a) (cloneTs b) = sameTs a b
 | [], [] => rfl
 | [], _ :: _ => by simp [cloneTs, sameTs]
 | _ :: _, [] => by simp [cloneTs, sameTs]
 | a :: l, b :: m => by
  simp only [cloneTs,sameTs,same_clone a b,same_clones l m]
end
theorem sameR_clone (a b : KT) : sameR (cloneT a) (cloneT b) = sameR a b := by
 unfold sameR
 rw [clone_right, clone_right, same_clone]
end Go.Abs.Seat
end
section
set_option linter.unusedVariables false
set_option linter.unusedSimpArgs false
namespace Go.Abs.Seat
open Go.Proofs
def emitsX (t : NT) (v : EnvT) : KT × List Nat × Int :=
 if (inferX t v).2.2 = 0 then (if (argX (inferX t v).1 7 0).2 = true then ((argX (inferX t v).1 7 0).1, [], 0) else (zeroT, [], 50)) else (zeroT, (inferX t v).2.1, (inferX t v).2.2)
set_option maxHeartbeats 1000000 in
theorem s19 (t : NT) (v : EnvT) (hf : fineN t) (hv : EnvH v) :
  ∃ sF : Heap → Nat, (∀ H, L 19 [.im (.agg (encN t)), .im (.agg (encE v))] H = some (.tup [.im (.agg (encT (emitsX t v).1)), .im (.sl (sF H) (rowsP (emitsX t v).2.1)), .im (.int .i64 (emitsX t v).2.2)], H)) ∧ ∀ H, (emitsX t v).2.1 = [] ∨ sF H = 1 := by
 obtain ⟨sF, c10, jF⟩ := s10h t v hf hv
 have hok := infer_okT (t := t) (v := v) hf hv
 unfold emitsX
 obtain ⟨op, i, txt, tk, tys, ta, s, kids, ht⟩ := parts t
 obtain ⟨vk, vt, va, hvit⟩ : ∃ k s a, v.it = .mk k s a := by
  cases hx : v.it with
  | mk k s a => exact ⟨k, s, a, rfl⟩
 have hE0 : encE v = [.int .i64 vk, .sl vt (encTs va), .sl v.ss (v.sides.map encT)] := by unfold encE; rw [hvit]; rfl
 have hN0 : encN t = [.str op, .int .i64 i, .str txt, .int .i64 tk, .sl tys (encTs ta), .sl s (encNs kids)] := by rw [ht]; simp only [encN]
 have c36 := fun (h : (inferX t v).2.2 = 0) H => s36 (inferX t v).1 hok.1 7 0 (fun hk => by
  have hr := hok.2 h
  generalize (inferX t v).1 = u at *
  obtain ⟨uk, us, ua⟩ := u
  exact right_cnt hr (.inl hk)) H
 generalize inferX t v = r at *
 obtain ⟨⟨k, st, ar⟩, p, e⟩ := r
 rw [hN0, hE0] at c10 ⊢
 simp only [encT] at c10 c36 ⊢
 have fin : ∀ (H : Heap) (r : AV), (∀ tm : List AV, tm.length = 30 → tm.getD 0 undefA = .im (.agg [.str op, .int .i64 i, .str txt, .int .i64 tk, .sl tys (encTs ta), .sl s (encNs kids)]) → tm.getD 1 undefA = .im (.agg [.int .i64 vk, .sl vt (encTs va), .sl v.ss (v.sides.map encT)]) → exec0 L Λ f19.code tm H (endK f19 H) = some (r, H)) →
   L 19 [.im (.agg [.str op, .int .i64 i, .str txt, .int .i64 tk, .sl tys (encTs ta), .sl s (encNs kids)]), .im (.agg [.int .i64 vk, .sl vt (encTs va), .sl v.ss (v.sides.map encT)])] H = some (r, H) := fun H r hr => by
  rw [leq F19]
  obtain ⟨hlen, hx⟩ := enter_at (f := f19) (args := [.im (.agg [.str op, .int .i64 i, .str txt, .int .i64 tk, .sl tys (encTs ta), .sl s (encNs kids)]), .im (.agg [.int .i64 vk, .sl vt (encTs va), .sl v.ss (v.sides.map encT)])]) (Nat.le_of_ble_eq_true rfl)
  exact hr _ hlen (hx 0 _ rfl) (hx 1 _ rfl)
 by_cases he : e = 0
 rotate_left
 ·have de : (!decide (e = 0)) = true := by rw [decide_eq_false he]; rfl
  rw [if_neg he]
  refine ⟨fun H => sF (H ++ [.obj none [[.im (.str op), .im (.int .i64 i), .im (.str txt), .im (.int .i64 tk), .im (.sl tys (encTs ta)), .im (.sl s (encNs kids))]], .obj none [[.im (.int .i64 vk), .im (.sl vt (encTs va)), .im (.sl v.ss (v.sides.map encT))]], .obj none [[.im (.int .i64 0), .nils]]]), fun H => fin H _ fun tm hlen h0 h1 => ?_, fun H => jF _⟩
  have hlv : ∀ x (M : Heap), leave H false (.tup [.agg [.im (.int .i64 0), .nils], .im (.sl x (rowsP p)), .im (.int .i64 e)]) (H ++ M) = (.tup [.im (.agg [.int .i64 0, .sl 0 []]), .im (.sl x (rowsP p)), .im (.int .i64 e)], H) := fun x M => leave_three rfl rfl rfl
  simp only [f19,B0,B1,B2,List.replicate,reduceCtorEq,lenA,seval,B5,pairK,B4,stays,loadOf,endK,resA,tupA,hlen,h0,h1,c10,de,hlv]
  rfl
 subst he
 have c36 := c36 rfl
 have de : (!decide ((0 : Int) = 0)) = false := rfl
 rw [if_pos rfl]
 refine ⟨fun _ => 0, fun H => fin H _ fun tm hlen h0 h1 => ?_, fun H => ?_⟩
 ·generalize argX (.mk k st ar) 7 0 = q at *
  obtain ⟨⟨qk, qs, qa⟩, b⟩ := q
  have c36 := fun H => c36 H
  have z : ((0 : Nat) : Int) = 0 := rfl
  rw [z] at c36
  cases b with
  | true =>
   rw [if_pos rfl]
   have hlv : ∀ (d : List Dat) (M : Heap), leave H false (.tup [.im (.agg d), .nils, .im (.int .i64 0)]) (H ++ M) = (.tup [.im (.agg d), .im (.sl 0 []), .im (.int .i64 0)], H) := fun d M => leave_three rfl rfl rfl
   simp only [encT] at c36
   simp only [f19,B0,B1,B2,List.replicate,reduceCtorEq,lenA,seval,B5,pairK,B4,stays,loadOf,endK,resA,tupA,hlen,h0,h1,c10,c36,de,hlv]
   rfl
  | false =>
   rw [if_neg Bool.false_ne_true]
   have hlv : ∀ (M : Heap), leave H false (.tup [.agg [.im (.int .i64 0), .nils], .nils, .im (.int .i64 50)]) (H ++ M) = (.tup [.im (.agg [.int .i64 0, .sl 0 []]), .im (.sl 0 []), .im (.int .i64 50)], H) := fun M => leave_three rfl rfl rfl
   simp only [encT] at c36
   simp only [f19,B0,B1,B2,List.replicate,reduceCtorEq,lenA,seval,B5,pairK,B4,stays,loadOf,endK,resA,tupA,hlen,h0,h1,c10,c36,de,hlv]
   rfl
 ·left
  split <;> rfl
end Go.Abs.Seat
end
section
set_option linter.unusedVariables false
set_option linter.unusedSimpArgs false
namespace Go.Abs.Seat
open Go.Proofs
def LO (v : AV) : HO := .obj none [[.im (.str [108, 105, 115, 116]), .im (.int .i64 0), .im (.str []), .im (.int .i64 0), .nils, v]]
theorem l7 (t : NT) (hok : okN t) (op : List UInt8) (oi : Int) (txt : List UInt8) (tk : Int) (tys : Nat) (ta : List KT) (s : Nat) (kids : List NT) (ht : t = .mk op oi txt (.mk tk tys ta) s kids) (n : Nat) (hn : n ≤ 5) (H : Heap) (b c : HO) (x10 : AV) :
  ∀ (m i : Nat), i + m = n → ∀ (tm : List AV) (J : Heap) (v : AV), Gath 41 6 (H.length + 4) v (H ++ NOs op oi txt (.mk tk tys ta) s kids :: b :: c :: LO v :: J) (List.replicate i (encN (cloneN t))) →
  tm.length = 123 → tm.getD 3 undefA = .ptr H.length 0 0 → tm.getD 4 undefA = .ptr (H.length + 1) 0 0 → tm.getD 7 undefA = .ptr (H.length + 2) 0 0 → tm.getD 12 undefA = .ptr (H.length + 3) 0 0 → tm.getD 10 undefA = x10 → tm.getD 59 undefA = .im (.int .i64 (n : Int)) → tm.getD 60 undefA = .im (.int .i64 (i : Int)) →
  ∃ e tm' A', Λ c7_0 tm (H ++ NOs op oi txt (.mk tk tys ta) s kids :: b :: c :: LO v :: J) = some (e, tm', A') ∧ (tm'.length = 123 ∧ e = .exit 0 ∧ tm'.getD 3 undefA = .ptr H.length 0 0 ∧ tm'.getD 4 undefA = .ptr (H.length + 1) 0 0 ∧ tm'.getD 7 undefA = .ptr (H.length + 2) 0 0 ∧ tm'.getD 12 undefA = .ptr (H.length + 3) 0 0 ∧ tm'.getD 10 undefA = x10 ∧
   ∃ J' v', A' = H ++ NOs op oi txt (.mk tk tys ta) s kids :: b :: c :: LO v' :: J' ∧ Gath 41 6 (H.length + 4) v' (H ++ NOs op oi txt (.mk tk tys ta) s kids :: b :: c :: LO v' :: J') (List.replicate n (encN (cloneN t))))
 | 0, i, hi, tm, J, v, hG, hlen, h3, h4, h7, h12, h10, h59, h60 => by
  have hc' : decide ((i : Int) < (n : Int)) = false := decide_eq_false (by omega)
  have e : i = n := by omega
  subst e
  rw [l7_0]
  simp only [b7_0,B0,B1,B2,List.replicate,reduceCtorEq,lenA,seval,hlen,h59,h60,hc']
  refine ⟨_, _, _, rfl, by simp only [List.length_set,hlen], rfl, by simp only [B3,seval,hlen,h3], by simp only [B3,seval,hlen,h4], by simp only [B3,seval,hlen,h7], by simp only [B3,seval,hlen,h12], by simp only [B3,seval,hlen,h10], J, v, ?_, hG⟩
  rfl
 | m + 1, i, hi, tm, J, v, hG, hlen, h3, h4, h7, h12, h10, h59, h60 => by
  have hlt : i < n := by omega
  have hc' : decide ((i : Int) < (n : Int)) = true := decide_eq_true (by omega)
  have c11 := fun H => s11 t hok H
  have hwr := wrap_nat (i := i) (by omega)
  have hN0 : encN t = [.str op, .int .i64 oi, .str txt, .int .i64 tk, .sl tys (encTs ta), .sl s (encNs kids)] := by rw [ht]; simp only [encN]
  obtain ⟨op2, i2, txt2, tk2, ts2, ta2, s2, kids2, ht2⟩ := parts (cloneN t)
  have hNc : encN (cloneN t) = [.str op2, .int .i64 i2, .str txt2, .int .i64 tk2, .sl ts2 (encTs ta2), .sl s2 (encNs kids2)] := by rw [ht2]; simp only [encN]
  generalize ha : NOs op oi txt (.mk tk tys ta) s kids = a at *
  have fl : ∀ (o : HO) (J : Heap), (H ++ [a, b, c, o]) ++ J = H ++ (a :: b :: c :: o :: J) := fun o J => by simp
  have hL3 : ∀ o : HO, (H ++ [a, b, c, o]).length = H.length + 4 := fun o => by simp
  have hG2 := hG
  rw [← fl, ← hL3 (LO v)] at hG2
  obtain ⟨v', M', hap, hG', _, _⟩ := hG2.push (bytes := 96) (encN (cloneN t)) (by simp; omega) (by decide)
  have htk : List.replicate (i + 1) (encN (cloneN t)) = List.replicate i (encN (cloneN t)) ++ [encN (cloneN t)] := List.replicate_succ'
  rw [← htk] at hG'
  have hGn := gath_swap (B := H ++ [a, b, c, LO v']) hG' (by simp)
  rw [hL3, fl] at hGn
  have key := l7 t hok op oi txt tk tys ta s kids ht n hn H b c x10 m (i + 1) (by omega)
  rw [ha] at key
  have hv' : ∃ es tok, v' = .asl 6 es tok := by
   rcases hG' with ⟨h, _⟩ | ⟨_, tok, _, h, _⟩
   ·simp at h
   ·exact ⟨_, tok, h⟩
  have key' := fun tm => key tm M' v' hGn
  clear key
  have hO : ∀ (o : HO) (J : Heap), (H ++ (a :: b :: c :: o :: J))[H.length + 3]? = some o := fun o J => by rw [hget 3]; rfl
  have hOs : ∀ (o o' : HO) (J : Heap), (H ++ (a :: b :: c :: o :: J)).set (H.length + 3) o' = H ++ (a :: b :: c :: o' :: J) := fun o o' J => by rw [hset 3]; rfl
  have hA : ∀ (o : HO) (J : Heap), (H ++ (a :: b :: c :: o :: J))[H.length]? = some (.obj none [[.im (.str op), .im (.int .i64 oi), .im (.str txt), .im (.int .i64 tk), .im (.sl tys (encTs ta)), .im (.sl s (encNs kids))]]) := fun o J => by rw [hget0, ← ha]; rfl
  obtain ⟨es', tok', rfl⟩ := hv'
  rw [fl] at hap
  rw [fl] at hap
  have td : ∀ x, toDatss [[.im (.str op2), .im (.int .i64 i2), .im (.str txt2), .im (.int .i64 tk2), .im (.sl ts2 (encTs ta2)), .im x]] = some [[.str op2, .int .i64 i2, .str txt2, .int .i64 tk2, .sl ts2 (encTs ta2), x]] := fun _ => rfl
  rw [hN0, hNc] at c11
  rw [hNc] at hap
  have hvk : v = .nils ∨ ∃ es tok, v = .asl 6 es tok := by
   rcases hG with ⟨_, h⟩ | ⟨_, tok, _, h, _⟩
   ·exact .inl h
   ·exact .inr ⟨_, tok, h⟩
  unfold LO at *
  rw [l7_0]
  rcases hvk with rfl | ⟨es, tok, rfl⟩
  ·simp only [b7_0,B0,B1,B2,List.replicate,reduceCtorEq,lenA,seval,B5,pairK,B4,stays,loadOf,hlen,h3,h4,h7,h12,h10,h59,h60,hc',c11,hwr,hO,hOs,hA,td,dg_im,elems,hap]
   refine key' _ ?_ ?_ ?_ ?_ ?_ ?_ ?_ ?_
   all_goals simp only [B3,seval,hlen,h3,h4,h7,h12,h10,h59,h60]
   all_goals rfl
  ·simp only [b7_0,B0,B1,B2,List.replicate,reduceCtorEq,lenA,seval,B5,pairK,B4,stays,loadOf,hlen,h3,h4,h7,h12,h10,h59,h60,hc',c11,hwr,hO,hOs,hA,td,dg_im,elems,hap]
   refine key' _ ?_ ?_ ?_ ?_ ?_ ?_ ?_ ?_
   all_goals simp only [B3,seval,hlen,h3,h4,h7,h12,h10,h59,h60]
   all_goals rfl
end Go.Abs.Seat
end
section
set_option linter.unusedVariables false
set_option linter.unusedSimpArgs false
namespace Go.Abs.Seat
open Go.Proofs
def listW : List UInt8 := [108, 105, 115, 116]
def lenW : List UInt8 := [108, 101, 110]
def listN (n : Nat) (u : NT) : NT := .mk listW 0 [] (.mk 0 0 []) 6 (List.replicate n u)
def lenN (u : NT) : NT := .mk lenW 0 [] (.mk 0 0 []) 6 [u]
theorem list_fine {u : NT} (h : fineN u) {n : Nat} (hn : n ≤ 5) : fineN (listN n u) := by
 unfold listN listW
 simp only [fineN]
 refine ⟨by decide, by decide, by decide, .inr trivial, simp_ok 0, fineNs_of fun a ha => ?_⟩
 rw [List.eq_of_mem_replicate ha]
 exact h
theorem len_fine {u : NT} (h : fineN u) : fineN (lenN u) := by
 unfold lenN lenW
 simp only [fineN,fineNs]
 exact ⟨by decide, by decide, by simp, .inr trivial, simp_ok 0, h, trivial⟩
def depT (u : KT) : Int := if rightT u 6 = true then depthT u else 0
def listsB (t : NT) (v : EnvT) (z : Int) : Bool :=
 if smallE t v = true then (if z < 1 then true else if 5 < z then true else (
  if (inferX (cloneN t) (envC v)).2.2 = 0 then (if checkT (inferX (cloneN t) (envC v)).1 = 0 then (
   if (showX (lenN (listN z.toNat (cloneN t)))).2 = 0 then (
    if depT (inferX (cloneN t) (envC v)).1 = 6 then (decide ((emitsX (listN z.toNat (cloneN t)) (envC v)).2.2 = 50) && decide ((inferX (lenN (listN z.toNat (cloneN t))) (envC v)).2.2 = 50))
    else ((decide ((emitsX (listN z.toNat (cloneN t)) (envC v)).2.2 = 0) && decide ((inferX (lenN (listN z.toNat (cloneN t))) (envC v)).2.2 = 0)) && sameR (inferX (cloneN t) (envC v)).1 (emitsX (listN z.toNat (cloneN t)) (envC v)).1) && decide ((inferX (lenN (listN z.toNat (cloneN t))) (envC v)).1.k = 2))
   else true)
  else false)
  else true))
 else true
theorem emits_okT {t : NT} {v : EnvT} (hf : fineN t) (hv : EnvH v) : okT (emitsX t v).1 := by
 have h := infer_okT hf hv
 have hz : okT zeroT := simp_ok 0
 unfold emitsX
 generalize inferX t v = r at *
 obtain ⟨⟨k, s, a⟩, p, e⟩ := r
 split
 ·split
  ·have h1 := h.1
   simp only [okT] at h1
   by_cases hk : k = 7
   ·simp only [argX,KT.args,KT.k,hk,if_true]
    cases a with
    | nil => exact hz
    | cons x l => exact okTs_mem h1.2.2 x (by simp)
   ·simp only [argX,KT.args,KT.k,hk,if_false]
    exact hz
  ·exact hz
 ·exact hz
set_option maxHeartbeats 4000000 in
set_option maxRecDepth 8000 in
theorem law7 (t : NT) (v : EnvT) (z : Int) (hh : handN t) (hv : EnvH v) (H : Heap) :
  L 7 [.im (.agg (encN t)), .im (.agg (encE v)), .im (.int .i64 z)] H = some (.im (.bool (listsB t v z)), H) := by
 have c8 := fun H => s8 t v hh hv H
 have c9 := fun H => s9 H
 unfold listsB
 obtain ⟨vk, vt, va, hvit⟩ : ∃ k s a, v.it = .mk k s a := by
  cases hx : v.it with
  | mk k s a => exact ⟨k, s, a, rfl⟩
 have hE0 : encE v = [.int .i64 vk, .sl vt (encTs va), .sl v.ss (v.sides.map encT)] := by unfold encE; rw [hvit]; rfl
 obtain ⟨op, i, txt, tk, ts, ta, s, kids, ht⟩ := parts t
 have hN0 : encN t = [.str op, .int .i64 i, .str txt, .int .i64 tk, .sl ts (encTs ta), .sl s (encNs kids)] := by rw [ht]; simp only [encN]
 have fin : ∀ r : Bool, (∀ tm : List AV, tm.length = 123 → tm.getD 0 undefA = .im (.agg (encN t)) → tm.getD 1 undefA = .im (.agg (encE v)) → tm.getD 2 undefA = .im (.int .i64 z) → exec0 L Λ f7.code tm H (endK f7 H) = some (.im (.bool r), H)) → L 7 [.im (.agg (encN t)), .im (.agg (encE v)), .im (.int .i64 z)] H = some (.im (.bool r), H) := fun r hr => by
  rw [leq F7]
  obtain ⟨hlen, hx⟩ := enter_at (f := f7) (args := [.im (.agg (encN t)), .im (.agg (encE v)), .im (.int .i64 z)]) (Nat.le_of_ble_eq_true rfl)
  exact hr _ hlen (hx 0 _ rfl) (hx 1 _ rfl) (hx 2 _ rfl)
 rw [hN0, hE0] at fin
 rw [hN0, hE0] at c8
 rw [hN0, hE0]
 cases hsa : smallE t v with
 | false =>
  rw [if_neg Bool.false_ne_true]
  rw [hsa] at c8
  refine fin _ fun tm hlen h0 h1 h2 => ?_
  simp only [f7,B0,B1,B2,List.replicate,reduceCtorEq,lenA,seval,B5,pairK,B4,stays,loadOf,endK,resA,tupA,hlen,h0,h1,h2,c8,c9,dg_im,leave_app]
 | true =>
 rw [if_pos rfl]
 rw [hsa] at c8
 by_cases z1 : z < 1
 ·rw [if_pos z1]
  have d1 : decide (z < 1) = true := decide_eq_true z1
  refine fin _ fun tm hlen h0 h1 h2 => ?_
  simp only [f7,B0,B1,B2,List.replicate,reduceCtorEq,lenA,seval,B5,pairK,B4,stays,loadOf,endK,resA,tupA,hlen,h0,h1,h2,c8,c9,d1,dg_im,leave_app]
 rw [if_neg z1]
 have d1 : decide (z < 1) = false := decide_eq_false z1
 by_cases z5 : 5 < z
 ·rw [if_pos z5]
  have d5 : decide (5 < z) = true := decide_eq_true z5
  refine fin _ fun tm hlen h0 h1 h2 => ?_
  simp only [f7,B0,B1,B2,List.replicate,reduceCtorEq,lenA,seval,B5,pairK,B4,stays,loadOf,endK,resA,tupA,hlen,h0,h1,h2,c8,c9,d1,d5,dg_im,leave_app]
 rw [if_neg z5]
 have d5 : decide (5 < z) = false := decide_eq_false z5
 obtain ⟨n, hn⟩ : ∃ n : Nat, z = (n : Int) := ⟨z.toNat, by omega⟩
 subst hn
 rw [Int.toNat_natCast]
 obtain ⟨oka, fa, hs1, hs2, hs3⟩ := small_says hh hv hsa
 have c11 := fun H => s11 t oka H
 have c12 := fun H => s12 v hv hs1 hs2 hs3 H
 have gf := clone_fine t fa
 have hEh := envC_h hv
 have hlf := list_fine gf (n := n) (by omega)
 have hqf := len_fine hlf
 have c14 := fun H => s14 (lenN (listN n (cloneN t))) hqf H
 obtain ⟨sa, ia, ja⟩ := s10h (cloneN t) (envC v) gf hEh
 obtain ⟨sg, ig, jg⟩ := s19 (listN n (cloneN t)) (envC v) hlf hEh
 obtain ⟨sh, ih, jh⟩ := s10h (lenN (listN n (cloneN t))) (envC v) hqf hEh
 have c24 := fun H => s24 (inferX (cloneN t) (envC v)).1 (infer_okT gf hEh).1 H
 change ∀ H, L 24 _ H = some (.tup [.im (.int .i64 (depT _)), _], H) at c24
 have c16 := fun H => s16 (inferX (cloneN t) (envC v)).1 (emitsX (listN n (cloneN t)) (envC v)).1 (infer_okT gf hEh).1 (emits_okT hlf hEh) H
 change ∀ H, L 16 _ H = some (.im (.bool (sameR _ _)), H) at c16
 have kl := fun b c x10 => l7 t oka op i txt tk ts ta s kids ht n (by omega) H b c x10 n 0 (by omega)
 obtain ⟨op2, i2, txt2, tk2, ts2, ta2, s2, kids2, ht2⟩ := parts (cloneN t)
 have hMa : encN (cloneN t) = [.str op2, .int .i64 i2, .str txt2, .int .i64 tk2, .sl ts2 (encTs ta2), .sl s2 (encNs kids2)] := by rw [ht2]; simp only [encN]
 have hMl : encN (listN n (cloneN t)) = [.str [108, 105, 115, 116], .int .i64 0, .str [], .int .i64 0, .sl 0 [], .sl 6 (List.replicate n (encN (cloneN t)))] := by
  unfold listN listW
  simp only [encN,encNs_map,List.map_replicate,encTs]
 have hMq : encN (lenN (listN n (cloneN t))) = [.str [108, 101, 110], .int .i64 0, .str [], .int .i64 0, .sl 0 [], .sl 6 [[.str [108, 105, 115, 116], .int .i64 0, .str [], .int .i64 0, .sl 0 [], .sl 6 (List.replicate n (encN (cloneN t)))]]] := by
  rw [← hMl]
  unfold lenN lenW
  simp only [encN,encNs,encTs]
 generalize (showX (lenN (listN n (cloneN t)))).2 = w at *
 generalize inferX (cloneN t) (envC v) = ra at *
 generalize emitsX (listN n (cloneN t)) (envC v) = rg at *
 generalize inferX (lenN (listN n (cloneN t))) (envC v) = rh at *
 obtain ⟨⟨ka, sta, ara⟩, pa, ea⟩ := ra
 obtain ⟨⟨kg, stg, arg⟩, pg, eg⟩ := rg
 obtain ⟨⟨kh, sth, arh⟩, ph, eh⟩ := rh
 generalize sameR (.mk ka sta ara) (.mk kg stg arg) = q1 at *
 generalize depT (.mk ka sta ara) = dp at *
 generalize checkT (.mk ka sta ara) = cp at *
 generalize hec : encE (envC v) = ev at *
 rw [hMq] at ih c14
 rw [hMl] at ig
 have hRn : ∃ y ys, List.replicate n (encN (cloneN t)) = y :: ys := by
  cases n with
  | zero => omega
  | succ n => exact ⟨_, _, List.replicate_succ⟩
 generalize List.replicate n (encN (cloneN t)) = rep at *
 simp only [hMa,hE0,hN0,encT,KT.k,KT.s,KT.args] at ia ig ih c11 c12 c14 c16 c24 ⊢
 by_cases za : ea = 0
 rotate_left
 ·rw [if_neg za]
  have dza : (!decide (ea = 0)) = true := by rw [decide_eq_false za]; rfl
  refine fin _ fun tm hlen h0 h1 h2 => ?_
  simp only [f7,B0,B1,B2,List.replicate,reduceCtorEq,lenA,seval,B5,pairK,B4,stays,loadOf,endK,resA,tupA,hlen,h0,h1,h2,c8,c9,c11,c12,c24,ia,d1,d5,dza,dg_im,leave_app]
 rw [if_pos za]
 have dza : (!decide (ea = 0)) = false := by rw [decide_eq_true za]; rfl
 by_cases zc : cp = 0
 rotate_left
 ·rw [if_neg zc]
  have dzc : (!decide (cp = 0)) = true := by rw [decide_eq_false zc]; rfl
  refine fin _ fun tm hlen h0 h1 h2 => ?_
  simp only [f7,B0,B1,B2,List.replicate,reduceCtorEq,lenA,seval,B5,pairK,B4,stays,loadOf,endK,resA,tupA,hlen,h0,h1,h2,c8,c9,c11,c12,c24,ia,d1,d5,dza,dzc,dg_im,leave_app]
 rw [if_pos zc]
 have dzc : (!decide (cp = 0)) = false := by rw [decide_eq_true zc]; rfl
 refine fin _ fun tm hlen h0 h1 h2 => ?_
 have kl := fun tm => kl (.obj none [[.im (.int .i64 vk), .im (.sl vt (encTs va)), .im (.sl v.ss (v.sides.map encT))]]) (.obj none [[.im (.int .i64 ka), .im (.sl sta (encTs ara))]]) (.im (.int .i64 dp)) tm [] .nils (.inl ⟨by simp, rfl⟩)
 unfold NOs LO at kl
 simp only [KT.k,KT.s,KT.args] at kl
 simp only [f7,e7_0,B0,B1,B2,List.replicate,reduceCtorEq,lenA,seval,B5,pairK,B4,stays,loadOf,hlen,h0,h1,h2,c8,c9,c11,c12,c24,ia,d1,d5,dza,dzc,dg_im]
 generalize hr : thenL (Λ c7_0 _ _) _ = r
 refine Exists.elim (thenL_inv hr (kl _ ?_ ?_ ?_ ?_ ?_ ?_ ?_ ?_)) ?_
 ·simp only [List.length_set,hlen]
 ·simp only [B3,seval,hlen]
 ·simp only [B3,seval,hlen]
 ·simp only [B3,seval,hlen]
 ·simp only [B3,seval,hlen]
 ·simp only [B3,seval,hlen]
 ·simp only [B3,seval,hlen]
 ·simp only [B3,seval,hlen]; first | done | rfl
 clear hr kl
 rintro e ⟨tm', A', ⟨hl', rfl, g3, g4, g7, g12, g10, J', v', rfl, hG⟩, rfl⟩
 obtain ⟨y, ys, hy⟩ := hRn
 obtain ⟨tok, rfl⟩ : ∃ tok, v' = .asl 6 rep tok := by
  rcases hG with ⟨h, _⟩ | ⟨_, tok, _, h, _⟩
  ·rw [hy] at h; cases h
  ·exact ⟨tok, h⟩
 clear hG
 generalize hAA : (H ++ HO.obj none [[.im (.str op), .im (.int .i64 i), .im (.str txt), .im (.int .i64 tk), .im (.sl ts (encTs ta)), .im (.sl s (encNs kids))]] :: _) = A
 have a1 : ∀ l, (A ++ l)[H.length + 1]? = some (.obj none [[.im (.int .i64 vk), .im (.sl vt (encTs va)), .im (.sl v.ss (v.sides.map encT))]]) := fun l => by rw [← hAA, List.append_assoc, hget 1]; rfl
 have a2 : ∀ l, (A ++ l)[H.length + 2]? = some (.obj none [[.im (.int .i64 ka), .im (.sl sta (encTs ara))]]) := fun l => by rw [← hAA, List.append_assoc, hget 2]; rfl
 have a3 : ∀ l, (A ++ l)[H.length + 3]? = some (.obj none [[.im (.str [108, 105, 115, 116]), .im (.int .i64 0), .im (.str []), .im (.int .i64 0), .nils, .asl 6 rep tok]]) := fun l => by rw [← hAA, List.append_assoc, hget 3]; rfl
 have a1' := a1 []
 have a2' := a2 []
 have a3' := a3 []
 rw [List.append_nil] at a1' a2' a3'
 have lv : ∀ (b : Bool) l, leave H false (.im (.bool b)) (A ++ l) = (.im (.bool b), H) := fun b l => by rw [← hAA, List.append_assoc]; exact leave_app
 have lv' : ∀ (b : Bool), leave H false (.im (.bool b)) A = (.im (.bool b), H) := fun b => by rw [← hAA]; exact leave_app
 have td : toDatss [[.im (.str [108, 105, 115, 116]), .im (.int .i64 0), .im (.str []), .im (.int .i64 0), .nils, .asl 6 rep tok]] = some [[.str [108, 105, 115, 116], .int .i64 0, .str [], .int .i64 0, .sl 0 [], .sl 6 rep]] := rfl
 have dp1 : dgA true (.agg [.im (.str [108, 105, 115, 116]), .im (.int .i64 0), .im (.str []), .im (.int .i64 0), .nils, .asl 6 rep tok]) = .im (.agg [.str [108, 105, 115, 116], .int .i64 0, .str [], .int .i64 0, .sl 0 [], .sl 6 rep]) := rfl
 have dp2 : ∀ x, dgA true (.agg [.im (.str [108, 101, 110]), .im (.int .i64 0), .im (.str []), .im (.int .i64 0), .nils, .im x]) = .im (.agg [.str [108, 101, 110], .int .i64 0, .str [], .int .i64 0, .sl 0 [], x]) := fun _ => rfl
 clear hAA
 by_cases hw : w = 0
 rotate_left
 ·rw [if_neg hw]
  have zw : (!decide (w = 0)) = true := by rw [decide_eq_false hw]; rfl
  simp only [f7,B0,B1,B2,List.replicate,reduceCtorEq,lenA,seval,B5,pairK,B4,stays,loadOf,endK,resA,tupA,hl',g3,g4,g7,g12,g10,c9,c12,c14,ig,ih,c16,dg_im,dp1,dp2,td,a1,a1',a2,a2',a3,a3',lv,lv',zw]
 rw [if_pos hw]
 have zw : (!decide (w = 0)) = false := by rw [decide_eq_true hw]; rfl
 by_cases h6 : dp = 6
 ·rw [if_pos h6]
  have d6 : decide (dp = 6) = true := decide_eq_true h6
  cases hq : decide (eg = 50) <;> cases hq2 : decide (eh = 50) <;>
   simp only [f7,B0,B1,B2,List.replicate,reduceCtorEq,lenA,seval,B5,pairK,B4,stays,loadOf,endK,resA,tupA,hl',g3,g4,g7,g12,g10,c9,c12,c14,ig,ih,c16,dg_im,dp1,dp2,td,a1,a1',a2,a2',a3,a3',lv,lv',zw,d6,hq,hq2] <;> rfl
 ·rw [if_neg h6]
  have d6 : decide (dp = 6) = false := decide_eq_false h6
  cases hq : decide (eg = 0) <;> cases hq2 : decide (eh = 0) <;> cases q1 <;> cases hq3 : decide (kh = 2) <;>
   simp only [f7,B0,B1,B2,List.replicate,reduceCtorEq,lenA,seval,B5,pairK,B4,stays,loadOf,endK,resA,tupA,hl',g3,g4,g7,g12,g10,c9,c12,c14,ig,ih,c16,dg_im,dp1,dp2,td,a1,a1',a2,a2',a3,a3',lv,lv',zw,d6,hq,hq2,hq3] <;> first | rfl | (change _ = some (AV.im (Dat.bool (decide (kh = 2))), H); rw [hq3])
end Go.Abs.Seat
end
section
set_option linter.unusedVariables false
set_option linter.unusedSimpArgs false
namespace Go.Abs.Seat
open Go.Proofs
mutual
theorem right_for : ∀ (t : KT) (d d' : Int), rightT t d = true → depthT t ≤ d' → rightT t d' = true
 | .mk k s args, d, d', h, hd => by
  simp only [depthT] at hd
  have hp := depthTs_pos args
  simp only [rightT] at h ⊢
  split at h
  ·rename_i i hi
   split at h
   ·simp at h
   ·rw [if_neg (by omega)]
    split at h
    ·rename_i hl
     rw [if_pos hl]
     have := right_fors args (d - 1) (d' - 1) (by simpa using h) (by omega)
     simpa using this
    ·simp at h
  ·simp at h
theorem right_fors : ∀ (l : List KT) (d d' : Int), rightNot l d = false → depthTs l ≤ d' → rightNot l d' = false
 | [], d, d', h, hd => by simp only [rightNot]
 | a :: l, d, d', h, hd => by
  simp only [rightNot,Bool.or_eq_false_iff,Bool.not_eq_false'] at h ⊢
  simp only [depthTs] at hd
  exact ⟨right_for a d d' h.1 (by omega), right_fors l d d' h.2 (by omega)⟩
end
mutual
theorem depth_clone : ∀ t : KT, depthT (cloneT t) = depthT t
 | .mk k s args => by simp only [cloneT,depthT,depth_clones args]
theorem depth_clones : ∀ l : List KT, depthTs (cloneTs l) = depthTs l
 | [] => rfl
 | a :: l => by simp only [cloneTs,depthTs,depth_clone a,depth_clones l]
end
mutual
theorem same_refl : ∀ t : KT, sameT t t = true
 | .mk k s args => by simp only [sameT,decide_true,Bool.true_and,same_refls args]
theorem same_refls : ∀ l : List KT, sameTs l l = true
 | [] => rfl
 | a :: l => by simp only [sameTs,same_refl a,same_refls l,Bool.and_self]
end
theorem sameR_refl {t : KT} (h : rightT t 6 = true) : sameR t t = true := by
 unfold sameR
 rw [h, same_refl]; rfl
theorem looks_rep (v : EnvT) (t : NT) (u : KT) (nm : Nms) (h : lookX v t nm = .inl u) : ∀ (n j : Nat), looksX v (List.replicate n t) j nm = .inl (List.replicate n u)
 | 0, j => by simp only [List.replicate,looksX]
 | n + 1, j => by
  simp only [List.replicate_succ,looksX,h,kidR,looks_rep v t u nm h n (j + 1)]
theorem right_list (u : KT) : rightT (.mk 7 2 [u]) 6 = rightT u 5 := by
 have : kidx 7 = some 6 := rfl
 change (if ((6 : Int) < 1) then false else if ((1 : Int) = 1) then !(!rightT u 5 || false) else false) = rightT u 5
 rw [if_neg (by decide), if_pos rfl, Bool.or_false, Bool.not_not]
theorem look_list (v : EnvT) (t : NT) (u : KT) (h : lookX v t [] = .inl u) (hu : rightT u 6 = true) (n : Nat) (hn : 1 ≤ n) : lookX v (listN n t) [] = if rightT u 5 = true then .inl (.mk 7 2 [u]) else .inr ([], 50) := by
 obtain ⟨m, rfl⟩ : ∃ m, n = m + 1 := ⟨n - 1, by omega⟩
 have e : lookX v (listN (m + 1) t) [] = plainR listW (List.replicate (m + 1) u) := by
  unfold listN listW
  simp only [lookX, looks_rep v t u [] h (m + 1) 0]
  rfl
 rw [e]
 have hs := sameR_refl hu
 have hany : ((List.replicate (m + 1) u).any fun t => !sameR t u) = false := by
  rw [List.any_eq_false]
  intro x hx
  rw [List.eq_of_mem_replicate hx, hs]
  decide
 have hX : plainX listW (List.replicate (m + 1) u) ((List.replicate (m + 1) u).getD 0 zeroT) ((List.replicate (m + 1) u).getD ((List.replicate (m + 1) u).length - 1) zeroT) = (.mk 7 2 [u], true) := by
  have h0 : (List.replicate (m + 1) u).getD 0 zeroT = u := rfl
  rw [h0]
  have : ∀ tl, plainX listW (List.replicate (m + 1) u) u tl = (.mk 7 2 ((List.replicate (m + 1) u).take 1), !((List.replicate (m + 1) u).any fun t => !sameR t u)) := fun tl => rfl
  rw [this, hany]
  rfl
 unfold plainR
 rw [hX]
 simp only [Bool.true_and,right_list]
theorem look_len (v : EnvT) (t : NT) : lookX v (lenN t) [] = match kidR 0 (lookX v t []) with
  | .inr e => .inr e
  | .inl u => plainR lenW [u] := by
 unfold lenN
 have nb : ¬ bindsW lenW := by unfold bindsW lenW; decide
 simp only [lookX,looksX]
 simp only [lenW]
 cases lookX v t [] <;> rfl
theorem lists_true (t : NT) (v : EnvT) (z : Int) (hh : handN t) (hv : EnvH v) : listsB t v z = true := by
 unfold listsB
 by_cases ha : smallE t v = true
 rotate_left
 ·rw [if_neg ha]
 rw [if_pos ha]
 by_cases z1 : z < 1
 ·rw [if_pos z1]
 rw [if_neg z1]
 by_cases z5 : 5 < z
 ·rw [if_pos z5]
 rw [if_neg z5]
 have hn : 1 ≤ z.toNat := by omega
 have hn5 : z.toNat ≤ 5 := by omega
 generalize z.toNat = n at *
 have fa := clone_fine t (small_says hh hv ha).2.1
 have hEh := envC_h hv
 generalize cloneN t = t' at *
 generalize envC v = v' at *
 by_cases he : (inferX t' v').2.2 = 0
 rotate_left
 ·rw [if_neg he]
 rw [if_pos he]
 have hi : (showX t').2 = 0 ∧ envR v' = true ∧ ∃ u, lookX v' t' [] = .inl u ∧ inferX t' v' = (cloneT u, [], 0) := by
  have hI : inferX t' v' = if (showX t').2 = 0 then (if envR v' = true then (match lookX v' t' [] with | .inl u => (cloneT u, [], 0) | .inr (p, c) => (zeroT, p, c)) else (zeroT, [], 20)) else (zeroT, [], 110) := rfl
  rw [hI] at he ⊢
  by_cases h1 : (showX t').2 = 0
  rotate_left
  ·rw [if_neg h1] at he; cases he
  rw [if_pos h1] at he ⊢
  by_cases h2 : envR v' = true
  rotate_left
  ·rw [if_neg h2] at he; cases he
  rw [if_pos h2] at he ⊢
  refine ⟨h1, h2, ?_⟩
  cases hl : lookX v' t' [] with
  | inl u => exact ⟨u, rfl, rfl⟩
  | inr e =>
   obtain ⟨p, c⟩ := e
   rw [hl] at he
   have hc : c = 0 := he
   subst hc
   have := look_code v' 24 t' [] p 0 (show_gd fa h1).1 hl
   rcases this with h | h | h <;> cases h
 obtain ⟨hs, hr, u, hl, hi⟩ := hi
 have hu : Rt u := look_rt v' (envOk hEh hr) t' [] u (show_gd fa hs).2 (by simp) hl
 have hck : checkT (cloneT u) = 0 := by
  unfold checkT
  rw [clone_right, hu.2]; rfl
 have hdp : depT (cloneT u) = depthT u := by
  unfold depT
  rw [clone_right, hu.2, depth_clone]; rfl
 rw [hi]
 simp only [hck,hdp,if_true]
 by_cases hw : (showX (lenN (listN n t'))).2 = 0
 rotate_left
 ·rw [if_neg hw]
 rw [if_pos hw]
 have hsl : (showX (listN n t')).2 = 0 := kids_right lenW [] 0 (.mk 0 0 []) 6 [listN n t'] hw _ (by simp)
 have inf : ∀ t, (showX t).2 = 0 → inferX t v' = (match lookX v' t [] with | .inl u => (cloneT u, [], 0) | .inr (p, c) => (zeroT, p, c)) := fun t ht => by
  unfold inferX
  rw [if_pos ht, if_pos hr]
  try rfl
 have i1 := inf _ hsl
 have i2 := inf _ hw
 rw [look_list v' t' u hl hu.2 n hn] at i1
 rw [look_len, look_list v' t' u hl hu.2 n hn] at i2
 have hem : ∀ t, emitsX t v' = if (inferX t v').2.2 = 0 then (if (argX (inferX t v').1 7 0).2 = true then ((argX (inferX t v').1 7 0).1, [], 0) else (zeroT, [], 50)) else (zeroT, (inferX t v').2.1, (inferX t v').2.2) := fun _ => rfl
 have hd6 := right_depth u 6 hu.2
 by_cases h5 : rightT u 5 = true
 ·have hd5 := right_depth u 5 h5
  rw [if_pos h5] at i1 i2
  simp only [kidR] at i2
  have hpl : plainR lenW [.mk 7 2 [u]] = .inl (.mk 2 0 []) := rfl
  rw [hpl] at i2
  rw [if_neg (by omega), hem, i1, i2]
  have hc7 : cloneT (.mk 7 2 [u]) = .mk 7 2 [cloneT u] := rfl
  have hax : argX (.mk 7 2 [cloneT u]) 7 0 = (cloneT u, true) := rfl
  simp only [hc7,hax,if_true,sameR_clone,sameR_refl hu.2]
  rfl
 ·have hd5 : depthT u = 6 := by
   by_cases h : depthT u ≤ 5
   ·exact absurd (right_for u 6 5 hu.2 h) h5
   ·omega
  rw [if_neg h5] at i1 i2
  simp only [kidR] at i2
  rw [if_pos hd5, hem, i1, i2]
  rfl
theorem s7t (t : NT) (v : EnvT) (z : Int) (hh : handN t) (hv : EnvH v) : ∃ H', L 7 [.im (.agg (encN t)), .im (.agg (encE v)), .im (.int .i64 z)] [] = some (.im (.bool true), H') := ⟨[], by rw [law7 t v z hh hv, lists_true t v z hh hv]⟩
end Go.Abs.Seat
end
