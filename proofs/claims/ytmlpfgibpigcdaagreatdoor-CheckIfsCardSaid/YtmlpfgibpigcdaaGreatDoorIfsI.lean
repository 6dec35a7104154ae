/- Part 9 of what the claim rests on. -/
import Derived.Test.YtmlpfgibpigcdaaGreatDoorIfsA
import Derived.Test.YtmlpfgibpigcdaaGreatDoorIfsB
import Derived.Test.YtmlpfgibpigcdaaGreatDoorIfsC
import Derived.Test.YtmlpfgibpigcdaaGreatDoorIfsD
import Derived.Test.YtmlpfgibpigcdaaGreatDoorIfsE
import Derived.Test.YtmlpfgibpigcdaaGreatDoorIfsF
import Derived.Test.YtmlpfgibpigcdaaGreatDoorIfsG
import Derived.Test.YtmlpfgibpigcdaaGreatDoorIfsH
section
set_option linter.unusedVariables false
set_option linter.unusedSimpArgs false
namespace Go.Abs.Seat
open Go.Proofs
def wordK (k : Int) : List UInt8 := match kidx k with
 | some i => match words[i]? with
  | some w => w.2.1
  | none => []
 | none => []
def cntK (k : Int) : Int := match kidx k with
 | some i => kcnt i
 | none => 0
theorem kidx_none {k : Int} (h1 : k ≠ 1) (h2 : k ≠ 2) (h3 : k ≠ 3) (h4 : k ≠ 4) (h5 : k ≠ 5) (h6 : k ≠ 6) (h7 : k ≠ 7) (h9 : k ≠ 9) : kidx k = none := by
 have e : ∀ j : Int, k ≠ j → decide (j = k) = false := fun j h => decide_eq_false (Ne.symm h)
 simp only [kidx,words,List.findIdx?_cons,List.findIdx?_nil,e 1 h1,e 2 h2,e 3 h3,e 4 h4,e 5 h5,e 6 h6,e 7 h7,e 9 h9,Bool.false_eq_true,if_false,Option.map_none]
theorem s62 (k : Int) (H : Heap) : L 62 [.im (.int .i64 k)] H = some (.im (.str (wordK k)), H) := by
 rw [leq F62]
 obtain ⟨hlen, ha⟩ := enter_at (f := f62) (args := [.im (.int .i64 k)]) (Nat.le_of_ble_eq_true rfl)
 have h0 := ha 0 _ rfl
 generalize enterA f62 [.im (.int .i64 k)] = tm at *
 change tm.length = 20 at hlen
 by_cases h1 : k = 1
 ·subst h1
  simp only [f62,B0,B1,B2,List.replicate,reduceCtorEq,lenA,seval,endK,resA,tupA,hlen,h0,leave_same]
  rfl
 by_cases h2 : k = 2
 ·subst h2
  simp only [f62,B0,B1,B2,List.replicate,reduceCtorEq,lenA,seval,endK,resA,tupA,hlen,h0,leave_same]
  rfl
 by_cases h3 : k = 3
 ·subst h3
  simp only [f62,B0,B1,B2,List.replicate,reduceCtorEq,lenA,seval,endK,resA,tupA,hlen,h0,leave_same]
  rfl
 by_cases h4 : k = 4
 ·subst h4
  simp only [f62,B0,B1,B2,List.replicate,reduceCtorEq,lenA,seval,endK,resA,tupA,hlen,h0,leave_same]
  rfl
 by_cases h5 : k = 5
 ·subst h5
  simp only [f62,B0,B1,B2,List.replicate,reduceCtorEq,lenA,seval,endK,resA,tupA,hlen,h0,leave_same]
  rfl
 by_cases h6 : k = 6
 ·subst h6
  simp only [f62,B0,B1,B2,List.replicate,reduceCtorEq,lenA,seval,endK,resA,tupA,hlen,h0,leave_same]
  rfl
 by_cases h7 : k = 7
 ·subst h7
  simp only [f62,B0,B1,B2,List.replicate,reduceCtorEq,lenA,seval,endK,resA,tupA,hlen,h0,leave_same]
  rfl
 by_cases h9 : k = 9
 ·subst h9
  simp only [f62,B0,B1,B2,List.replicate,reduceCtorEq,lenA,seval,endK,resA,tupA,hlen,h0,leave_same]
  rfl
 have e : wordK k = [] := by unfold wordK; rw [kidx_none h1 h2 h3 h4 h5 h6 h7 h9]
 simp only [f62,B0,B1,B2,List.replicate,reduceCtorEq,lenA,seval,endK,resA,tupA,hlen,h0,h1,h2,h3,h4,h5,h6,h7,h9,leave_same,e]
theorem s63 (k : Int) (H : Heap) : L 63 [.im (.int .i64 k)] H = some (.im (.int .i64 (cntK k)), H) := by
 rw [leq F63]
 obtain ⟨hlen, ha⟩ := enter_at (f := f63) (args := [.im (.int .i64 k)]) (Nat.le_of_ble_eq_true rfl)
 have h0 := ha 0 _ rfl
 generalize enterA f63 [.im (.int .i64 k)] = tm at *
 change tm.length = 11 at hlen
 by_cases h6 : k = 6
 ·subst h6
  simp only [f63,B0,B1,B2,List.replicate,reduceCtorEq,lenA,seval,endK,resA,tupA,hlen,h0,leave_same]
  rfl
 by_cases h7 : k = 7
 ·subst h7
  simp only [f63,B0,B1,B2,List.replicate,reduceCtorEq,lenA,seval,endK,resA,tupA,hlen,h0,leave_same]
  rfl
 by_cases h9 : k = 9
 ·subst h9
  simp only [f63,B0,B1,B2,List.replicate,reduceCtorEq,lenA,seval,endK,resA,tupA,hlen,h0,leave_same]
  rfl
 have e : cntK k = 0 := by
  by_cases h1 : k = 1
  ·subst h1; rfl
  by_cases h2 : k = 2
  ·subst h2; rfl
  by_cases h3 : k = 3
  ·subst h3; rfl
  by_cases h4 : k = 4
  ·subst h4; rfl
  by_cases h5 : k = 5
  ·subst h5; rfl
  unfold cntK; rw [kidx_none h1 h2 h3 h4 h5 h6 h7 h9]
 simp only [f63,B0,B1,B2,List.replicate,reduceCtorEq,lenA,seval,endK,resA,tupA,hlen,h0,h6,h7,h9,leave_same,e]
theorem kidx_cases (k : Int) : (k = 1 ∨ k = 2 ∨ k = 3 ∨ k = 4 ∨ k = 5 ∨ k = 6 ∨ k = 7 ∨ k = 9) ∨ kidx k = none := by
 by_cases h1 : k = 1
 ·simp [h1]
 by_cases h2 : k = 2
 ·simp [h2]
 by_cases h3 : k = 3
 ·simp [h3]
 by_cases h4 : k = 4
 ·simp [h4]
 by_cases h5 : k = 5
 ·simp [h5]
 by_cases h6 : k = 6
 ·simp [h6]
 by_cases h7 : k = 7
 ·simp [h7]
 by_cases h9 : k = 9
 ·simp [h9]
 exact .inr (kidx_none h1 h2 h3 h4 h5 h6 h7 h9)
theorem word_none {k : Int} (h : wordK k = []) : kidx k = none := by
 rcases kidx_cases k with (rfl | rfl | rfl | rfl | rfl | rfl | rfl | rfl) | h'
 ·exact absurd h (by decide)
 ·exact absurd h (by decide)
 ·exact absurd h (by decide)
 ·exact absurd h (by decide)
 ·exact absurd h (by decide)
 ·exact absurd h (by decide)
 ·exact absurd h (by decide)
 ·exact absurd h (by decide)
 ·exact h'
theorem l35 (k : Int) (args : List KT) (s : Nat) (hs : args = [] ∨ s = 2) (hn : args.length ≤ 9223372036854775807) (d : Int) (hd : 1 ≤ d ∧ d ≤ 1000) (H : Heap)
  (hc : ∀ a ∈ args, ∀ H, L 35 [.im (.agg (encT a)), .im (.int .i64 (d - 1))] H = some (.im (.bool (rightT a (d - 1))), H)) :
  ∀ (m i : Nat), i + m = args.length → ∀ (tm : List AV), tm.length = 39 → tm.getD 1 undefA = .im (.int .i64 d) → tm.getD 2 undefA = .ptr H.length 0 0 → tm.getD 5 undefA = .im (.int .i64 i) →
  ∃ e tm' H', Λ c35_0 tm (H ++ [.obj none [[.im (.int .i64 k), .im (.sl s (args.map encT))]]]) = some (e, tm', H') ∧ (tm'.length = 39 ∧ H' = H ++ [.obj none [[.im (.int .i64 k), .im (.sl s (args.map encT))]]] ∧
   ((e = .exit 0 ∧ rightNot (args.drop i) (d - 1) = false) ∨ (e = .ret ∧ rightNot (args.drop i) (d - 1) = true ∧ tm'.getD 4 undefA = .im (.bool false))))
 | 0, i, hi, tm, hlen, h1, h2, h5 => by
  have e : args.drop i = [] := by rw [List.drop_eq_nil_iff]; omega
  have hml : (args.map encT).length = args.length := List.length_map ..
  have hc : decide ((i : Int) < (args.length : Int)) = false := decide_eq_false (by omega)
  rw [l35_0, e]
  simp only [b35_0,B0,B1,B2,List.replicate,reduceCtorEq,lenA,seval,hlen,h1,h2,h5,hml,hc]
  exact ⟨_, _, _, rfl, by simp only [List.length_set,hlen], rfl, .inl ⟨rfl, rfl⟩⟩
 | m + 1, i, hi, tm, hlen, h1, h2, h5 => by
  have hlt : i < args.length := by omega
  obtain ⟨w, hwi⟩ : ∃ w, args[i]? = some w := ⟨_, List.getElem?_eq_getElem hlt⟩
  have e : args.drop i = w :: args.drop (i + 1) := by
   rw [List.drop_eq_getElem_cons hlt]
   congr 1
   rw [List.getElem?_eq_getElem hlt] at hwi
   exact Option.some.inj hwi
  have hs2 : s = 2 := by
   rcases hs with hs | hs
   ·subst hs; simp at hlt
   ·exact hs
  subst hs2
  have hml : (args.map encT).length = args.length := List.length_map ..
  have hc' : decide ((i : Int) < (args.length : Int)) = true := decide_eq_true (by omega)
  have hix := idx_nat (n := args.length) (i := i) hlt
  have hgw : (args.map encT)[i]? = some (encT w) := by rw [List.getElem?_map, hwi]; rfl
  have hcall := hc w (List.mem_of_getElem? hwi)
  have hwr := wrap_nat (i := i) (by omega)
  have hwd := wrap_small (d - 1) (by omega)
  have key := l35 k args 2 hs hn d hd H hc m (i + 1) (by omega)
  rw [l35_0, e]
  simp only [rightNot]
  cases hb : rightT w (d - 1) with
  | true =>
   rw [hb] at hcall
   rw [Bool.not_true, Bool.false_or]
   obtain ⟨wk, ws, wa⟩ := w
   simp only [encT] at hcall hgw
   simp only [b35_0,B0,B1,B2,List.replicate,reduceCtorEq,lenA,seval,B5,pairK,B4,stays,loadOf,hlen,h1,h2,h5,hml,hc',hix,hgw,hcall,hwr,hwd]
   refine key _ ?_ ?_ ?_ ?_
   all_goals simp only [B3,seval,hlen,h1,h2,h5]
   all_goals rfl
  | false =>
   rw [hb] at hcall
   generalize hz : (!false || rightNot (args.drop (i + 1)) (d - 1)) = z
   rw [Bool.not_false, Bool.true_or] at hz
   obtain ⟨wk, ws, wa⟩ := w
   simp only [encT] at hcall hgw
   simp only [b35_0,B0,B1,B2,List.replicate,reduceCtorEq,lenA,seval,B5,pairK,B4,stays,loadOf,hlen,h1,h2,h5,hml,hc',hix,hgw,hcall,hwr,hwd]
   exact ⟨_, _, _, rfl, by simp only [List.length_set,hlen], rfl, .inr ⟨rfl, hz.symm, by simp only [B3,seval,hlen]⟩⟩
theorem s35 : ∀ (t : KT), okT t → ∀ (d : Int), 0 ≤ d → d ≤ 1000 → ∀ H, L 35 [.im (.agg (encT t)), .im (.int .i64 d)] H = some (.im (.bool (rightT t d)), H)
 | .mk k s args, hok, d, hd0, hd1, H => by
  simp only [okT] at hok
  obtain ⟨hs, hn, hoks⟩ := hok
  have c62 := fun H => s62 k H
  have c63 := fun H => s63 k H
  have hml : (args.map encT).length = args.length := List.length_map ..
  have key := fun (hd : 1 ≤ d) => l35 k args s hs hn d ⟨hd, hd1⟩ H (fun a ha H => s35 a (okTs_mem hoks a ha) (d - 1) (by omega) (by omega) H) args.length 0 (by omega)
  simp only [encT,encTs_map]
  have hR : rightT (.mk k s args) d = if d = 0 then false else if wordK k = [] then false else if (args.length : Int) = cntK k then !rightNot args (d - 1) else false := by
   simp only [rightT]
   by_cases h0 : d = 0
   ·subst h0
    rw [if_pos rfl]
    split
    ·rw [if_pos (by omega)]
    ·rfl
   rw [if_neg h0]
   by_cases hw : wordK k = []
   ·rw [if_pos hw, word_none hw]
   rw [if_neg hw]
   cases hk : kidx k with
   | none => exact absurd (by unfold wordK; rw [hk]) hw
   | some i =>
    have : cntK k = kcnt i := by unfold cntK; rw [hk]
    simp only [this]
    rw [if_neg (by omega)]
  rw [hR]
  generalize wordK k = wk at *
  generalize cntK k = ck at *
  rw [leq F35]
  obtain ⟨hlen, ha⟩ := enter_at (f := f35) (args := [.im (.agg [.int .i64 k, .sl s (args.map encT)]), .im (.int .i64 d)]) (Nat.le_of_ble_eq_true rfl)
  have h0 := ha 0 _ rfl
  have h1 := ha 1 _ rfl
  generalize enterA f35 [.im (.agg [.int .i64 k, .sl s (args.map encT)]), .im (.int .i64 d)] = tm at *
  change tm.length = 39 at hlen
  by_cases hd : d = 0
  ·rw [if_pos hd]
   have e1 : decide (d = 0) = true := decide_eq_true hd
   simp only [f35,e35_0,B0,B1,B2,List.replicate,reduceCtorEq,lenA,seval,B5,pairK,B4,stays,loadOf,endK,resA,tupA,hlen,h0,h1,e1,leave_app]
  rw [if_neg hd]
  have e1 : decide (d = 0) = false := decide_eq_false hd
  by_cases hw : wk = []
  ·rw [if_pos hw]
   have e2 : decide (wk = []) = true := decide_eq_true hw
   simp only [f35,e35_0,B0,B1,B2,List.replicate,reduceCtorEq,lenA,seval,B5,pairK,B4,stays,loadOf,endK,resA,tupA,hlen,h0,h1,c62,e1,e2,leave_app]
  rw [if_neg hw]
  have e2 : decide (wk = []) = false := decide_eq_false hw
  by_cases hl : (args.length : Int) = ck
  ·rw [if_pos hl]
   have e3 : decide ((args.length : Int) = ck) = true := decide_eq_true hl
   have key := key (by omega)
   simp only [f35,e35_0,B0,B1,B2,List.replicate,reduceCtorEq,lenA,seval,B5,pairK,B4,stays,loadOf,hlen,h0,h1,c62,c63,hml,e1,e2,e3]
   generalize hr : thenL (Λ c35_0 _ _) _ = r
   refine Exists.elim (thenL_inv hr (key _ ?_ ?_ ?_ ?_)) ?_
   ·simp only [List.length_set,hlen]
   iterate 2 simp only [B3,seval,hlen,h1]
   ·simp only [B3,seval,hlen]; first | done | rfl
   clear hr key
   rintro e ⟨tm', A', ⟨hl', rfl, hm⟩, rfl⟩
   rw [List.drop_zero] at hm
   rcases hm with ⟨rfl, hz⟩ | ⟨rfl, hz, g4⟩
   ·rw [hz]
    simp only [B0,B1,B2,List.replicate,reduceCtorEq,lenA,seval,B5,pairK,B4,stays,loadOf,endK,resA,tupA,hl',leave_app]
   ·rw [hz]
    simp only [B0,B1,B2,List.replicate,reduceCtorEq,lenA,seval,B5,pairK,B4,stays,loadOf,endK,resA,tupA,hl',g4,leave_app]
  ·rw [if_neg hl]
   have e3 : decide ((args.length : Int) = ck) = false := decide_eq_false hl
   simp only [f35,e35_0,B0,B1,B2,List.replicate,reduceCtorEq,lenA,seval,B5,pairK,B4,stays,loadOf,endK,resA,tupA,hlen,h0,h1,c62,c63,hml,e1,e2,e3,leave_app]
termination_by t => SizeOf.sizeOf t
decreasing_by
 have := List.sizeOf_lt_of_mem ha
 simp only [KT.mk.sizeOf_spec]
 omega
theorem l18 (v : EnvT) (hv : EnvH v) (H : Heap) :
  ∀ (m i : Nat), i + m = v.sides.length → ∀ (tm : List AV), tm.length = 27 → tm.getD 1 undefA = .ptr H.length 0 0 → tm.getD 3 undefA = .im (.int .i64 i) →
  ∃ e tm' H', Λ c18_0 tm (H ++ [.obj none [[.im (.int .i64 v.it.k), .im (.sl v.it.s (encTs v.it.args)), .im (.sl v.ss (v.sides.map encT))]]]) = some (e, tm', H') ∧ (tm'.length = 27 ∧ H' = H ++ [.obj none [[.im (.int .i64 v.it.k), .im (.sl v.it.s (encTs v.it.args)), .im (.sl v.ss (v.sides.map encT))]]] ∧
   ((e = .exit 0 ∧ tm'.getD 1 undefA = .ptr H.length 0 0 ∧ ((v.sides.drop i).any fun t => !rightT t 6) = false) ∨ (e = .ret ∧ ((v.sides.drop i).any fun t => !rightT t 6) = true ∧ tm'.getD 2 undefA = .im (.bool false))))
 | 0, i, hi, tm, hlen, h1, h3 => by
  have e : v.sides.drop i = [] := by rw [List.drop_eq_nil_iff]; omega
  have hml : (v.sides.map encT).length = v.sides.length := List.length_map ..
  have hc : decide ((i : Int) < (v.sides.length : Int)) = false := decide_eq_false (by omega)
  rw [l18_0, e]
  simp only [b18_0,B0,B1,B2,List.replicate,reduceCtorEq,lenA,seval,hlen,h1,h3,hml,hc]
  exact ⟨_, _, _, rfl, by simp only [List.length_set,hlen], rfl, .inl ⟨rfl, by simp only [B3,seval,hlen,h1], rfl⟩⟩
 | m + 1, i, hi, tm, hlen, h1, h3 => by
  have hlt : i < v.sides.length := by omega
  obtain ⟨w, hwi⟩ : ∃ w, v.sides[i]? = some w := ⟨_, List.getElem?_eq_getElem hlt⟩
  have e : v.sides.drop i = w :: v.sides.drop (i + 1) := by
   rw [List.drop_eq_getElem_cons hlt]
   congr 1
   rw [List.getElem?_eq_getElem hlt] at hwi
   exact Option.some.inj hwi
  have hs2 : v.ss = 2 := by
   rcases hv.ss with hs | hs
   ·rw [hs] at hlt; simp at hlt
   ·exact hs
  have hml : (v.sides.map encT).length = v.sides.length := List.length_map ..
  have hc' : decide ((i : Int) < (v.sides.length : Int)) = true := decide_eq_true (by omega)
  have hix := idx_nat (n := v.sides.length) (i := i) hlt
  have hgw : (v.sides.map encT)[i]? = some (encT w) := by rw [List.getElem?_map, hwi]; rfl
  have hcall := fun H => s35 w (hv.sides w (List.mem_of_getElem? hwi)) 6 (by decide) (by decide) H
  have hln := hv.len
  have hwr := wrap_nat (i := i) (by omega)
  have key := l18 v hv H m (i + 1) (by omega)
  rw [l18_0, e]
  rw [hs2] at key ⊢
  simp only [List.any_cons]
  cases hb : rightT w 6 with
  | true =>
   rw [hb] at hcall
   rw [Bool.not_true, Bool.false_or]
   obtain ⟨wk, ws, wa⟩ := w
   simp only [encT] at hcall hgw
   simp only [b18_0,B0,B1,B2,List.replicate,reduceCtorEq,lenA,seval,B5,pairK,B4,stays,loadOf,hlen,h1,h3,hml,hc',hix,hgw,hcall,hwr]
   refine key _ ?_ ?_ ?_
   all_goals simp only [B3,seval,hlen,h1,h3]
   all_goals rfl
  | false =>
   rw [hb] at hcall
   generalize hz : (!false || (v.sides.drop (i + 1)).any fun t => !rightT t 6) = z
   rw [Bool.not_false, Bool.true_or] at hz
   obtain ⟨wk, ws, wa⟩ := w
   simp only [encT] at hcall hgw
   simp only [b18_0,B0,B1,B2,List.replicate,reduceCtorEq,lenA,seval,B5,pairK,B4,stays,loadOf,hlen,h1,h3,hml,hc',hix,hgw,hcall,hwr]
   exact ⟨_, _, _, rfl, by simp only [List.length_set,hlen], rfl, .inr ⟨rfl, hz.symm, by simp only [B3,seval,hlen]⟩⟩
theorem s18 (v : EnvT) (hv : EnvH v) (H : Heap) : L 18 [.im (.agg (encE v))] H = some (.im (.bool (envR v)), H) := by
 have key := l18 v hv H v.sides.length 0 (by omega)
 have c35 := fun H => s35 v.it hv.it 6 (by decide) (by decide) H
 have hml : (v.sides.map encT).length = v.sides.length := List.length_map ..
 unfold envR
 obtain ⟨⟨k, s, a⟩, ss, sides⟩ := v
 simp only [encE,encT,KT.k,KT.s,KT.args] at c35 hml key ⊢
 rw [leq F18]
 obtain ⟨hlen, ha⟩ := enter_at (f := f18) (args := [.im (.agg [.int .i64 k, .sl s (encTs a), .sl ss (sides.map encT)])]) (Nat.le_of_ble_eq_true rfl)
 have h0 := ha 0 _ rfl
 generalize enterA f18 [.im (.agg [.int .i64 k, .sl s (encTs a), .sl ss (sides.map encT)])] = tm at *
 change tm.length = 27 at hlen
 simp only [f18,e18_0,B0,B1,B2,List.replicate,reduceCtorEq,lenA,seval,B5,pairK,B4,stays,loadOf,hlen,h0]
 generalize hr : thenL (Λ c18_0 _ _) _ = r
 refine Exists.elim (thenL_inv hr (key _ ?_ ?_ ?_)) ?_
 ·simp only [List.length_set,hlen]
 ·simp only [B3,seval,hlen]
 ·simp only [B3,seval,hlen]; first | done | rfl
 clear hr key
 rintro e ⟨tm', A', ⟨hl', rfl, hm⟩, rfl⟩
 rw [List.drop_zero] at hm
 rcases hm with ⟨rfl, g1, hz⟩ | ⟨rfl, hz, g2⟩
 ·rw [hz]
  cases hr : rightT (.mk k s a) 6 <;> cases hd : decide ((sides.length : Int) ≤ 10) <;>
   (rw [hr] at c35
    simp only [B0,B1,B2,List.replicate,reduceCtorEq,lenA,seval,B5,pairK,B4,stays,loadOf,endK,resA,tupA,hl',g1,c35,hml,hd,leave_app] <;> rfl)
 ·rw [hz]
  simp only [B0,B1,B2,List.replicate,reduceCtorEq,lenA,seval,B5,pairK,B4,stays,loadOf,endK,resA,tupA,hl',g2,leave_app,Bool.not_true,Bool.and_false]
end Go.Abs.Seat
end
section
set_option linter.unusedVariables false
set_option linter.unusedSimpArgs false
namespace Go.Abs.Seat
open Go.Proofs
def ifN (c x y : NT) : NT := .mk [105, 102] 0 [] (.mk 0 0 []) 6 [c, x, y]
theorem if_fine {c x y : NT} (hc : fineN c) (hx : fineN x) (hy : fineN y) : fineN (ifN c x y) := by
 unfold ifN
 simp only [fineN,fineNs]
 exact ⟨by decide, by decide, by decide, .inr trivial, simp_ok 0, hc, hx, hy, trivial⟩
theorem s10h (t : NT) (v : EnvT) (hf : fineN t) (hv : EnvH v) :
  ∃ sF : Heap → Nat, (∀ H, L 10 [.im (.agg (encN t)), .im (.agg (encE v))] H = some (.tup [.im (.agg (encT (inferX t v).1)), .im (.sl (sF H) (rowsP (inferX t v).2.1)), .im (.int .i64 (inferX t v).2.2)], H)) ∧ ∀ H, (inferX t v).2.1 = [] ∨ sF H = 1 := by
 have h := s10 t v hf (show_gd hf) hv
 exact ⟨fun H => (h H).choose, fun H => (h H).choose_spec.1, fun H => (h H).choose_spec.2⟩
theorem infer_okT {t : NT} {v : EnvT} (hf : fineN t) (hv : EnvH v) : okT (inferX t v).1 ∧ ((inferX t v).2.2 = 0 → rightT (inferX t v).1 6 = true) := by
 have hz : okT zeroT := simp_ok 0
 unfold inferX
 split
 ·rename_i h
  split
  ·rename_i he
   have ht := show_gd hf h
   split
   ·rename_i u hu
    have hr := look_rt v (envOk hv he) t [] u ht.2 (by simp) hu
    exact ⟨clone_ok u hr.1, fun _ => by rw [clone_right]; exact hr.2⟩
   ·rename_i p c hp
    refine ⟨hz, fun h0 => ?_⟩
    have := look_code v 24 t [] p c ht.1 hp
    change c = 0 at h0
    subst h0
    rcases this with h | h | h <;> cases h
  ·exact ⟨hz, fun h0 => by cases h0⟩
 ·exact ⟨hz, fun h0 => by cases h0⟩
def faultB (r a : KT × List Nat × Int) (i : Nat) : Bool := decide (r.2.2 = a.2.2) && decide (r.2.1 = i :: a.2.1)
def ifsB (c x y : NT) (v : EnvT) : Bool :=
 if smallE c v = true then (if smallE x v = true then (if smallE y v = true then (
  if (showX (ifN (cloneN c) (cloneN x) (cloneN y))).2 = 0 then (if envR v = true then (
   if (inferX (cloneN c) (envC v)).2.2 = 0 then (
    if (inferX (cloneN x) (envC v)).2.2 = 0 then (
     if (inferX (cloneN y) (envC v)).2.2 = 0 then (
      if (inferX (cloneN c) (envC v)).1.k = 1 then (
       if sameR (inferX (cloneN x) (envC v)).1 (inferX (cloneN y) (envC v)).1 = true then (decide ((inferX (ifN (cloneN c) (cloneN x) (cloneN y)) (envC v)).2.2 = 0) && sameR (inferX (ifN (cloneN c) (cloneN x) (cloneN y)) (envC v)).1 (inferX (cloneN x) (envC v)).1)
       else (decide ((inferX (ifN (cloneN c) (cloneN x) (cloneN y)) (envC v)).2.2 = 50) && decide ((inferX (ifN (cloneN c) (cloneN x) (cloneN y)) (envC v)).2.1.length = 0)))
      else (decide ((inferX (ifN (cloneN c) (cloneN x) (cloneN y)) (envC v)).2.2 = 50) && decide ((inferX (ifN (cloneN c) (cloneN x) (cloneN y)) (envC v)).2.1.length = 0)))
     else faultB (inferX (ifN (cloneN c) (cloneN x) (cloneN y)) (envC v)) (inferX (cloneN y) (envC v)) 2)
    else faultB (inferX (ifN (cloneN c) (cloneN x) (cloneN y)) (envC v)) (inferX (cloneN x) (envC v)) 1)
   else faultB (inferX (ifN (cloneN c) (cloneN x) (cloneN y)) (envC v)) (inferX (cloneN c) (envC v)) 0)
  else true) else true)
 else true) else true) else true
theorem parts (t : NT) : ∃ op i txt tk ts ta s kids, t = .mk op i txt (.mk tk ts ta) s kids := by
 obtain ⟨op, i, txt, ⟨tk, ts, ta⟩, s, kids⟩ := t
 exact ⟨op, i, txt, tk, ts, ta, s, kids, rfl⟩
theorem elem_rows {p : List Nat} {s : Heap → Nat} (h : ∀ H, p = [] ∨ s H = 1) : ∀ A H, elems A 1 (.im (.sl (s H) (rowsP p))) = some (rowsP p) := fun A H => by
 rcases h H with h | h
 ·subst h; rfl
 ·rw [h]
  cases p <;> rfl
theorem ap_one (z : Int) (p : List Nat) (hp : p.length ≤ 24) : ∀ (A : Heap) (tok : Nat), A[tok]? = some (.hw 3 1) → appendA A 3 8 1 (.asl 1 [[.int .i64 z]] tok) (rowsP p) = some (.asl 1 ([.int .i64 z] :: rowsP p) tok, A.set tok (.hw 3 (1 + (rowsP p).length))) := fun A tok hA => by
 have hrl : (rowsP p).length = p.length := by simp [rowsP]
 unfold appendA
 simp only [hA]
 rw [if_pos ⟨rfl, trivial, by simp only [List.length_cons,List.length_nil]; omega, by decide, trivial⟩]
 rfl
set_option maxHeartbeats 4000000 in
set_option maxRecDepth 8000 in
theorem s5 (c x y : NT) (v : EnvT) (hc : handN c) (hx : handN x) (hy : handN y) (hv : EnvH v) (H : Heap) :
  L 5 [.im (.agg (encN c ++ encN x ++ encN y ++ encE v))] H = some (.im (.bool (ifsB c x y v)), H) := by
 have ca8 := fun H => s8 c v hc hv H
 have cb8 := fun H => s8 x v hx hv H
 have cc8 := fun H => s8 y v hy hv H
 have c9 := fun H => s9 H
 have c18 := fun H => s18 v hv H
 unfold ifsB
 obtain ⟨vk, vt, va, hvit⟩ : ∃ k s a, v.it = .mk k s a := by
  cases hx : v.it with
  | mk k s a => exact ⟨k, s, a, rfl⟩
 have hE0 : encE v = [.int .i64 vk, .sl vt (encTs va), .sl v.ss (v.sides.map encT)] := by unfold encE; rw [hvit]; rfl
 obtain ⟨aop, ai, atx, ak, ats, ata, as', akd, hta⟩ := parts c
 obtain ⟨bop, bi, btx, bk, bts, bta, bs', bkd, htb⟩ := parts x
 obtain ⟨cop, ci, ctx, ck, cts, cta, cs', ckd, htc⟩ := parts y
 have hNa : encN c = [.str aop, .int .i64 ai, .str atx, .int .i64 ak, .sl ats (encTs ata), .sl as' (encNs akd)] := by rw [hta]; simp only [encN]
 have hNb : encN x = [.str bop, .int .i64 bi, .str btx, .int .i64 bk, .sl bts (encTs bta), .sl bs' (encNs bkd)] := by rw [htb]; simp only [encN]
 have hNc : encN y = [.str cop, .int .i64 ci, .str ctx, .int .i64 ck, .sl cts (encTs cta), .sl cs' (encNs ckd)] := by rw [htc]; simp only [encN]
 have fin : ∀ r : Bool, (∀ tm : List AV, tm.length = 175 → tm.getD 0 undefA = .im (.agg (encN c ++ encN x ++ encN y ++ encE v)) → exec0 L Λ f5.code tm H (endK f5 H) = some (.im (.bool r), H)) → L 5 [.im (.agg (encN c ++ encN x ++ encN y ++ encE v))] H = some (.im (.bool r), H) := fun r hr => by
  rw [leq F5]
  obtain ⟨hlen, hx⟩ := enter_at (f := f5) (args := [.im (.agg (encN c ++ encN x ++ encN y ++ encE v))]) (Nat.le_of_ble_eq_true rfl)
  exact hr _ hlen (hx 0 _ rfl)
 rw [hNa, hNb, hNc, hE0] at fin
 rw [hNa, hE0] at ca8
 rw [hNb, hE0] at cb8
 rw [hNc, hE0] at cc8
 rw [hNa, hNb, hNc, hE0]
 rw [hE0] at c18
 simp only [List.cons_append,List.nil_append] at fin ⊢
 cases hsa : smallE c v with
 | false =>
  rw [if_neg Bool.false_ne_true]
  rw [hsa] at ca8
  refine fin _ fun tm hlen h0 => ?_
  simp only [f5,B0,B1,B2,List.replicate,reduceCtorEq,lenA,seval,B5,pairK,B4,stays,loadOf,endK,resA,tupA,hlen,h0,ca8,c9,dg_im,leave_app]
 | true =>
 rw [if_pos rfl]
 rw [hsa] at ca8
 cases hsb : smallE x v with
 | false =>
  rw [if_neg Bool.false_ne_true]
  rw [hsb] at cb8
  refine fin _ fun tm hlen h0 => ?_
  simp only [f5,B0,B1,B2,List.replicate,reduceCtorEq,lenA,seval,B5,pairK,B4,stays,loadOf,endK,resA,tupA,hlen,h0,ca8,cb8,c9,dg_im,leave_app]
 | true =>
 rw [if_pos rfl]
 rw [hsb] at cb8
 cases hsc : smallE y v with
 | false =>
  rw [if_neg Bool.false_ne_true]
  rw [hsc] at cc8
  refine fin _ fun tm hlen h0 => ?_
  simp only [f5,B0,B1,B2,List.replicate,reduceCtorEq,lenA,seval,B5,pairK,B4,stays,loadOf,endK,resA,tupA,hlen,h0,ca8,cb8,cc8,c9,dg_im,leave_app]
 | true =>
 rw [if_pos rfl]
 rw [hsc] at cc8
 obtain ⟨oka, fa, hs1, hs2, hs3⟩ := small_says hc hv hsa
 obtain ⟨okb, fb, _⟩ := small_says hx hv hsb
 obtain ⟨okc, fc, _⟩ := small_says hy hv hsc
 have ca11 := fun H => s11 c oka H
 have cb11 := fun H => s11 x okb H
 have cc11 := fun H => s11 y okc H
 have c12 := fun H => s12 v hv hs1 hs2 hs3 H
 have gfa := clone_fine c fa
 have gfb := clone_fine x fb
 have gfc := clone_fine y fc
 have hEh := envC_h hv
 have hpf := if_fine gfa gfb gfc
 have c14 := fun H => s14 (ifN (cloneN c) (cloneN x) (cloneN y)) hpf H
 obtain ⟨sa, ia, ja⟩ := s10h (cloneN c) (envC v) gfa hEh
 obtain ⟨sb, ib, jb⟩ := s10h (cloneN x) (envC v) gfb hEh
 obtain ⟨sc, ic, jc⟩ := s10h (cloneN y) (envC v) gfc hEh
 obtain ⟨sp, ip, jp⟩ := s10h (ifN (cloneN c) (cloneN x) (cloneN y)) (envC v) hpf hEh
 obtain ⟨aop2, ai2, atx2, ak2, ats2, ata2, as2, akd2, hta2⟩ := parts (cloneN c)
 obtain ⟨bop2, bi2, btx2, bk2, bts2, bta2, bs2, bkd2, htb2⟩ := parts (cloneN x)
 obtain ⟨cop2, ci2, ctx2, ck2, cts2, cta2, cs2, ckd2, htc2⟩ := parts (cloneN y)
 have hMa : encN (cloneN c) = [.str aop2, .int .i64 ai2, .str atx2, .int .i64 ak2, .sl ats2 (encTs ata2), .sl as2 (encNs akd2)] := by rw [hta2]; simp only [encN]
 have hMb : encN (cloneN x) = [.str bop2, .int .i64 bi2, .str btx2, .int .i64 bk2, .sl bts2 (encTs bta2), .sl bs2 (encNs bkd2)] := by rw [htb2]; simp only [encN]
 have hMc : encN (cloneN y) = [.str cop2, .int .i64 ci2, .str ctx2, .int .i64 ck2, .sl cts2 (encTs cta2), .sl cs2 (encNs ckd2)] := by rw [htc2]; simp only [encN]
 have hMp : encN (ifN (cloneN c) (cloneN x) (cloneN y)) = [.str [105, 102], .int .i64 0, .str [], .int .i64 0, .sl 0 [], .sl 6 [[.str aop2, .int .i64 ai2, .str atx2, .int .i64 ak2, .sl ats2 (encTs ata2), .sl as2 (encNs akd2)], [.str bop2, .int .i64 bi2, .str btx2, .int .i64 bk2, .sl bts2 (encTs bta2), .sl bs2 (encNs bkd2)], [.str cop2, .int .i64 ci2, .str ctx2, .int .i64 ck2, .sl cts2 (encTs cta2), .sl cs2 (encNs ckd2)]]] := by
  rw [← hMa, ← hMb, ← hMc]
  unfold ifN
  simp only [encN,encNs,encTs]
 have hpa := infer_path (t := cloneN c) (v := envC v) gfa
 have hpb := infer_path (t := cloneN x) (v := envC v) gfb
 have hpc := infer_path (t := cloneN y) (v := envC v) gfc
 have hpp := infer_path (t := ifN (cloneN c) (cloneN x) (cloneN y)) (v := envC v) hpf
 have ca16 := fun H => s16 (inferX (cloneN x) (envC v)).1 (inferX (cloneN y) (envC v)).1 (infer_okT gfb hEh).1 (infer_okT gfc hEh).1 H
 have cb16 := fun H => s16 (inferX (ifN (cloneN c) (cloneN x) (cloneN y)) (envC v)).1 (inferX (cloneN x) (envC v)).1 (infer_okT hpf hEh).1 (infer_okT gfb hEh).1 H
 change ∀ H, L 16 _ H = some (.im (.bool (sameR _ _)), H) at ca16 cb16
 generalize (showX (ifN (cloneN c) (cloneN x) (cloneN y))).2 = w at *
 generalize inferX (cloneN c) (envC v) = ra at *
 generalize inferX (cloneN x) (envC v) = rb at *
 generalize inferX (cloneN y) (envC v) = rc at *
 generalize inferX (ifN (cloneN c) (cloneN x) (cloneN y)) (envC v) = rp at *
 obtain ⟨⟨ka, sta, ara⟩, pa, ea⟩ := ra
 obtain ⟨⟨kb, stb, arb⟩, pb, eb⟩ := rb
 obtain ⟨⟨kc, stc, arc⟩, pc, ec⟩ := rc
 obtain ⟨⟨kp, stp, arp⟩, pp, ep⟩ := rp
 generalize sameR (.mk kb stb arb) (.mk kc stc arc) = q1 at *
 generalize sameR (.mk kp stp arp) (.mk kb stb arb) = q2 at *
 generalize hec : encE (envC v) = ev at *
 simp only [hMp,hMa,hMb,hMc,hE0,hNa,hNb,hNc,encT,KT.k,KT.s,KT.args] at ia ib ic ip ca11 cb11 cc11 c12 c14 ca16 cb16 ⊢
 have td : ∀ a b c : Dat, toDatss [[.im (.str aop2), .im (.int .i64 ai2), .im (.str atx2), .im (.int .i64 ak2), .im (.sl ats2 (encTs ata2)), .im a], [.im (.str bop2), .im (.int .i64 bi2), .im (.str btx2), .im (.int .i64 bk2), .im (.sl bts2 (encTs bta2)), .im b], [.im (.str cop2), .im (.int .i64 ci2), .im (.str ctx2), .im (.int .i64 ck2), .im (.sl cts2 (encTs cta2)), .im c]] = some [[.str aop2, .int .i64 ai2, .str atx2, .int .i64 ak2, .sl ats2 (encTs ata2), a], [.str bop2, .int .i64 bi2, .str btx2, .int .i64 bk2, .sl bts2 (encTs bta2), b], [.str cop2, .int .i64 ci2, .str ctx2, .int .i64 ck2, .sl cts2 (encTs cta2), c]] := fun _ _ _ => rfl
 have dp : ∀ x, dgA true (.agg [.im (.str [105, 102]), .im (.int .i64 0), .im (.str []), .im (.int .i64 0), .nils, .im x]) = .im (.agg [.str [105, 102], .int .i64 0, .str [], .int .i64 0, .sl 0 [], x]) := fun _ => rfl
 by_cases hw : w = 0
 rotate_left
 ·rw [if_neg hw]
  have zw : (!decide (w = 0)) = true := by rw [decide_eq_false hw]; rfl
  refine fin _ fun tm hlen h0 => ?_
  simp only [f5,B0,B1,B2,List.replicate,reduceCtorEq,lenA,seval,B5,pairK,B4,stays,loadOf,endK,resA,tupA,hlen,h0,ca8,cb8,cc8,c9,ca11,cb11,cc11,c14,dg_im,dp,td,zw,leave_app]
 subst hw
 rw [if_pos rfl]
 have zw : (!decide ((0 : Int) = 0)) = false := rfl
 cases her : envR v with
 | false =>
  rw [if_neg Bool.false_ne_true]
  rw [her] at c18
  refine fin _ fun tm hlen h0 => ?_
  simp only [f5,B0,B1,B2,List.replicate,reduceCtorEq,lenA,seval,B5,pairK,B4,stays,loadOf,endK,resA,tupA,hlen,h0,ca8,cb8,cc8,c9,ca11,cb11,cc11,c14,c18,dg_im,dp,td,zw,leave_app]
 | true =>
 rw [if_pos rfl]
 rw [her] at c18
 change pa.length ≤ 24 at hpa
 change pb.length ≤ 24 at hpb
 change pc.length ≤ 24 at hpc
 change pp.length ≤ 24 at hpp
 change ∀ H, pa = [] ∨ sa H = 1 at ja
 change ∀ H, pb = [] ∨ sb H = 1 at jb
 change ∀ H, pc = [] ∨ sc H = 1 at jc
 change ∀ H, pp = [] ∨ sp H = 1 at jp
 have hra := ja
 have hrb := jb
 have hrc := jc
 have da : ∀ l tok, dgA true (.asl 1 l tok) = .im (.sl 1 l) := fun _ _ => rfl
 by_cases za : ea = 0
 rotate_left
 ·rw [if_neg za]
  have dza : (!decide (ea = 0)) = true := by rw [decide_eq_false za]; rfl
  change _ = some (AV.im (Dat.bool (decide (ep = ea) && decide (pp = 0 :: pa))), H)
  have hel := elem_rows hra
  have hrl : (rowsP pa).length = pa.length := by simp [rowsP]
  have c17 := fun H H' => s17 pp (0 :: pa) (sp H') 1 (jp H') (.inr rfl) (by omega) H
  change ∀ H H', L 17 [_, .im (.sl 1 ([.int .i64 0] :: rowsP pa))] H = _ at c17
  have td1 : toDatss [[AV.im (.int .i64 0)]] = some [[.int .i64 0]] := rfl
  have apA := ap_one 0 pa hpa
  generalize decide (pp = 0 :: pa) = bp at *
  refine fin _ fun tm hlen h0 => ?_
  cases hq : decide (ep = ea) <;> cases bp <;>
   simp only [f5,B0,B1,B2,List.replicate,reduceCtorEq,lenA,seval,B5,pairK,B4,stays,loadOf,endK,resA,tupA,hlen,h0,ca8,cb8,cc8,c9,ca11,cb11,cc11,c12,c14,c18,ia,ib,ic,ip,dg_im,dp,td,zw,dza,hq,td1,hel,apA,da,c17,leave_app] <;> rfl
 rw [if_pos za]
 have dza : (!decide (ea = 0)) = false := by rw [decide_eq_true za]; rfl
 by_cases zb : eb = 0
 rotate_left
 ·rw [if_neg zb]
  have dzb : (!decide (eb = 0)) = true := by rw [decide_eq_false zb]; rfl
  change _ = some (AV.im (Dat.bool (decide (ep = eb) && decide (pp = 1 :: pb))), H)
  have hel := elem_rows hrb
  have hrl : (rowsP pb).length = pb.length := by simp [rowsP]
  have c17 := fun H H' => s17 pp (1 :: pb) (sp H') 1 (jp H') (.inr rfl) (by omega) H
  change ∀ H H', L 17 [_, .im (.sl 1 ([.int .i64 1] :: rowsP pb))] H = _ at c17
  have td1 : toDatss [[AV.im (.int .i64 1)]] = some [[.int .i64 1]] := rfl
  have apA := ap_one 1 pb hpb
  generalize decide (pp = 1 :: pb) = bp at *
  refine fin _ fun tm hlen h0 => ?_
  cases hq : decide (ep = eb) <;> cases bp <;>
   simp only [f5,B0,B1,B2,List.replicate,reduceCtorEq,lenA,seval,B5,pairK,B4,stays,loadOf,endK,resA,tupA,hlen,h0,ca8,cb8,cc8,c9,ca11,cb11,cc11,c12,c14,c18,ia,ib,ic,ip,dg_im,dp,td,zw,dza,dzb,hq,td1,hel,apA,da,c17,leave_app] <;> rfl
 rw [if_pos zb]
 have dzb : (!decide (eb = 0)) = false := by rw [decide_eq_true zb]; rfl
 by_cases zc : ec = 0
 rotate_left
 ·rw [if_neg zc]
  have dzc : (!decide (ec = 0)) = true := by rw [decide_eq_false zc]; rfl
  change _ = some (AV.im (Dat.bool (decide (ep = ec) && decide (pp = 2 :: pc))), H)
  have hel := elem_rows hrc
  have hrl : (rowsP pc).length = pc.length := by simp [rowsP]
  have c17 := fun H H' => s17 pp (2 :: pc) (sp H') 1 (jp H') (.inr rfl) (by omega) H
  change ∀ H H', L 17 [_, .im (.sl 1 ([.int .i64 2] :: rowsP pc))] H = _ at c17
  have td1 : toDatss [[AV.im (.int .i64 2)]] = some [[.int .i64 2]] := rfl
  have apA := ap_one 2 pc hpc
  generalize decide (pp = 2 :: pc) = bp at *
  refine fin _ fun tm hlen h0 => ?_
  cases hq : decide (ep = ec) <;> cases bp <;>
   simp only [f5,B0,B1,B2,List.replicate,reduceCtorEq,lenA,seval,B5,pairK,B4,stays,loadOf,endK,resA,tupA,hlen,h0,ca8,cb8,cc8,c9,ca11,cb11,cc11,c12,c14,c18,ia,ib,ic,ip,dg_im,dp,td,zw,dza,dzb,dzc,hq,td1,hel,apA,da,c17,leave_app] <;> rfl
 rw [if_pos zc]
 have dzc : (!decide (ec = 0)) = false := by rw [decide_eq_true zc]; rfl
 have hpl : (rowsP pp).length = pp.length := by simp [rowsP]
 have dl : decide ((pp.length : Int) = 0) = decide (pp.length = 0) := by
  rw [Bool.eq_iff_iff, decide_eq_true_eq, decide_eq_true_eq]; omega
 by_cases hk : ka = 1
 rotate_left
 ·rw [if_neg hk]
  have dk : (!decide (ka = 1)) = true := by rw [decide_eq_false hk]; rfl
  refine fin _ fun tm hlen h0 => ?_
  cases hq : decide (ep = 50) <;> cases ql : decide (pp.length = 0) <;>
   simp only [f5,B0,B1,B2,List.replicate,reduceCtorEq,lenA,seval,B5,pairK,B4,stays,loadOf,endK,resA,tupA,hlen,h0,ca8,cb8,cc8,c9,ca11,cb11,cc11,c12,c14,c18,ia,ib,ic,ip,dg_im,dp,td,zw,dza,dzb,dzc,dk,hpl,dl,hq,ql,leave_app] <;> rfl
 rw [if_pos hk]
 have dk : (!decide (ka = 1)) = false := by rw [decide_eq_true hk]; rfl
 cases q1 with
 | false =>
  rw [if_neg Bool.false_ne_true]
  refine fin _ fun tm hlen h0 => ?_
  cases hq : decide (ep = 50) <;> cases ql : decide (pp.length = 0) <;>
   simp only [f5,B0,B1,B2,List.replicate,reduceCtorEq,lenA,seval,B5,pairK,B4,stays,loadOf,endK,resA,tupA,hlen,h0,ca8,cb8,cc8,c9,ca11,cb11,cc11,c12,c14,c18,ia,ib,ic,ip,dg_im,dp,td,zw,dza,dzb,dzc,dk,ca16,hpl,dl,hq,ql,leave_app] <;> rfl
 | true =>
  rw [if_pos rfl]
  refine fin _ fun tm hlen h0 => ?_
  cases hq : decide (ep = 0) <;> cases q2 <;>
   simp only [f5,B0,B1,B2,List.replicate,reduceCtorEq,lenA,seval,B5,pairK,B4,stays,loadOf,endK,resA,tupA,hlen,h0,ca8,cb8,cc8,c9,ca11,cb11,cc11,c12,c14,c18,ia,ib,ic,ip,dg_im,dp,td,zw,dza,dzb,dzc,dk,ca16,cb16,hq,leave_app] <;> rfl
end Go.Abs.Seat
end
section
set_option linter.unusedVariables false
set_option linter.unusedSimpArgs false
namespace Go.Abs.Seat
open Go.Proofs Go.Abs Go.ChangeShapes
section
variable {Hd : Type} {enc : TypeId × Value → Hd} {P : Program} {w : World}
theorem reads_map {n : Nat} {t : TypeId} {α β : Type} {ea : α → List Dat} {eb : β → List Dat} {ga : α → Prop} {gb : β → Prop} (h : Reads enc P w n t α ea ga) (hm : ∀ a, ga a → ∃ b, gb b ∧ eb b = ea a) : Reads enc P w n t β eb gb := by
 intro cs x hx
 obtain ⟨a, hg, hr, hl, hc⟩ := h cs x hx
 obtain ⟨b, hb, he⟩ := hm a hg
 exact ⟨b, hb, by rw [he]; exact hr, by rw [he]; exact hl, by rw [he]; exact hc⟩
theorem reads_zero {t : TypeId} {α : Type} {en : α → List Dat} {good : α → Prop} : Reads enc P w 0 t α en good := by
 intro cs x hx
 simp [DataW.trod] at hx
theorem readsT : ∀ n, Reads enc Tryz.prog w n 24 KT encT okT ∧ Reads enc Tryz.prog w n 22 (List KT) (fun l => [.sl 2 (l.map encT)]) (fun l => (∀ a ∈ l, okT a) ∧ l.length ≤ maxLen)
 | 0 => ⟨reads_zero, reads_zero⟩
 | n + 1 => by
  obtain ⟨h1, h2⟩ := readsT n
  have hc : Tryz.prog.cellsOf 24 = 2 := by kernel_rfl
  have h3 : Reads enc Tryz.prog w n 3 Int (fun z => [.int .i64 z]) (fun z => (Lit.int .i64 z).wf = true) := reads_int Tryz.underlying3 (by kernel_rfl)
  have hsl := reads_slice (n := n) (enc := enc) (w := w) Tryz.underlying22 (by kernel_rfl) (by rw [hc]; decide) h1
  rw [hc] at hsl
  refine ⟨?_, hsl⟩
  have hF := readsF_cons (f := { name := "Kind", type := 3, offset := 0, embedded := false, tag := "", pkgPath := "", byteOffset := 0 }) (L := 2) (o := 0) (o' := 1) rfl (by kernel_rfl) (by decide) h3
   (readsF_cons (f := { name := "Args", type := 22, offset := 1, embedded := false, tag := "", pkgPath := "", byteOffset := 8 }) (L := 2) (o := 1) (o' := 2) rfl (by kernel_rfl) (by decide) h2 readsF_nil)
  have hs := reads_struct (t := 24) (enc := enc) (w := w) Tryz.underlying24 (by rw [hc]; exact hF)
  refine reads_map hs fun ⟨k, l, u⟩ ⟨_, ⟨hg, hl⟩, _⟩ => ⟨.mk k 2 l, ?_, ?_⟩
  ·simp only [okT]
   refine ⟨.inr trivial, by simpa [maxLen] using hl, ?_⟩
   have : ∀ l : List KT, (∀ a ∈ l, okT a) → okTs l := by
    intro l
    induction l with
    | nil => intro _; simp only [okTs]
    | cons a l ih => intro h; simp only [okTs]; exact ⟨h a (by simp), ih fun x hx => h x (by simp [hx])⟩
   exact this l hg
  ·simp only [encT,encTs_map]
   rfl
theorem readsN : ∀ n, Reads enc Tryz.prog w n 27 NT encN handN ∧ Reads enc Tryz.prog w n 25 (List NT) (fun l => [.sl 6 (l.map encN)]) (fun l => (∀ a ∈ l, handN a) ∧ l.length ≤ maxLen)
 | 0 => ⟨reads_zero, reads_zero⟩
 | n + 1 => by
  obtain ⟨h1, h2⟩ := readsN n
  have hc : Tryz.prog.cellsOf 27 = 6 := by kernel_rfl
  have h3 : Reads enc Tryz.prog w n 3 Int (fun z => [.int .i64 z]) (fun z => (Lit.int .i64 z).wf = true) := reads_int Tryz.underlying3 (by kernel_rfl)
  have h9 : Reads enc Tryz.prog w n 9 (List UInt8) (fun s => [.str s]) (fun s => s.length ≤ maxLen) := reads_str Tryz.underlying9 (by kernel_rfl)
  have hsl := reads_slice (n := n) (enc := enc) (w := w) Tryz.underlying25 (by kernel_rfl) (by rw [hc]; decide) h1
  rw [hc] at hsl
  refine ⟨?_, hsl⟩
  have hF := readsF_cons (f := { name := "Op", type := 9, offset := 0, embedded := false, tag := "", pkgPath := "", byteOffset := 0 }) (L := 6) (o := 0) (o' := 1) rfl (by kernel_rfl) (by decide) h9
   (readsF_cons (f := { name := "Int", type := 3, offset := 1, embedded := false, tag := "", pkgPath := "", byteOffset := 16 }) (L := 6) (o := 1) (o' := 2) rfl (by kernel_rfl) (by decide) h3
   (readsF_cons (f := { name := "Text", type := 9, offset := 2, embedded := false, tag := "", pkgPath := "", byteOffset := 24 }) (L := 6) (o := 2) (o' := 3) rfl (by kernel_rfl) (by decide) h9
   (readsF_cons (f := { name := "Type", type := 24, offset := 3, embedded := false, tag := "", pkgPath := "", byteOffset := 40 }) (L := 6) (o := 3) (o' := 5) rfl (by kernel_rfl) (by decide) (readsT n).1
   (readsF_cons (f := { name := "Kids", type := 25, offset := 5, embedded := false, tag := "", pkgPath := "", byteOffset := 72 }) (L := 6) (o := 5) (o' := 6) rfl (by kernel_rfl) (by decide) h2 readsF_nil))))
  have hs := reads_struct (t := 27) (enc := enc) (w := w) Tryz.underlying27 (by rw [hc]; exact hF)
  refine reads_map hs fun ⟨op, i, txt, ty, l, u⟩ ⟨_, hi, _, hty, ⟨hg, hl⟩, _⟩ => ⟨.mk op i txt ty 6 l, ?_, ?_⟩
  ·simp only [handN]
   refine ⟨?_, .inr trivial, by simpa [maxLen] using hl, hty, ?_⟩
   ·simp only [Lit.wf,Bool.and_eq_true,decide_eq_true_eq] at hi
    exact hi
   ·have : ∀ l : List NT, (∀ a ∈ l, handN a) → handNs l := by
     intro l
     induction l with
     | nil => intro _; simp only [handNs]
     | cons a l ih => intro h; simp only [handNs]; exact ⟨h a (by simp), ih fun x hx => h x (by simp [hx])⟩
    exact this l hg
  ·obtain ⟨k, sa, args⟩ := ty
   simp only [encN,encT,encTs_map,encNs_map]
   rfl
theorem readsE : ∀ n, Reads enc Tryz.prog w n 29 EnvT encE EnvH
 | 0 => reads_zero
 | n + 1 => by
  have hc : Tryz.prog.cellsOf 29 = 3 := by kernel_rfl
  have hF := readsF_cons (f := { name := "It", type := 24, offset := 0, embedded := false, tag := "", pkgPath := "", byteOffset := 0 }) (L := 3) (o := 0) (o' := 2) rfl (by kernel_rfl) (by decide) (readsT (enc := enc) (w := w) n).1
   (readsF_cons (f := { name := "Sides", type := 22, offset := 2, embedded := false, tag := "", pkgPath := "", byteOffset := 32 }) (L := 3) (o := 2) (o' := 3) rfl (by kernel_rfl) (by decide) (readsT n).2 readsF_nil)
  have hs := reads_struct (t := 29) (enc := enc) (w := w) Tryz.underlying29 (by rw [hc]; exact hF)
  refine reads_map hs fun ⟨it, l, u⟩ ⟨hit, ⟨hg, hl⟩, _⟩ => ⟨⟨it, 2, l⟩, ?_, ?_⟩
  ·exact ⟨hit, hg, .inr rfl, by simpa [maxLen] using hl⟩
  ·obtain ⟨k, s, a⟩ := it
   simp only [encE,encT,KT.k,KT.s,KT.args]
   rfl
structure ChoiceT where
 c : NT
 x : NT
 y : NT
 v : EnvT
def encC (z : ChoiceT) : List Dat := encN z.c ++ encN z.x ++ encN z.y ++ encE z.v
structure ChoiceH (z : ChoiceT) : Prop where
 c : handN z.c
 x : handN z.x
 y : handN z.y
 v : EnvH z.v
theorem readsC : ∀ n, Reads enc Tryz.prog w n 53 ChoiceT encC ChoiceH
 | 0 => reads_zero
 | n + 1 => by
  have hc : Tryz.prog.cellsOf 53 = 21 := by kernel_rfl
  have hF := readsF_cons (f := { name := "If", type := 27, offset := 0, embedded := false, tag := "", pkgPath := "", byteOffset := 0 }) (L := 21) (o := 0) (o' := 6) rfl (by kernel_rfl) (by decide) (readsN (enc := enc) (w := w) n).1
   (readsF_cons (f := { name := "Then", type := 27, offset := 6, embedded := false, tag := "", pkgPath := "", byteOffset := 96 }) (L := 21) (o := 6) (o' := 12) rfl (by kernel_rfl) (by decide) (readsN n).1
   (readsF_cons (f := { name := "Else", type := 27, offset := 12, embedded := false, tag := "", pkgPath := "", byteOffset := 192 }) (L := 21) (o := 12) (o' := 18) rfl (by kernel_rfl) (by decide) (readsN n).1
   (readsF_cons (f := { name := "Env", type := 29, offset := 18, embedded := false, tag := "", pkgPath := "", byteOffset := 288 }) (L := 21) (o := 18) (o' := 21) rfl (by kernel_rfl) (by decide) (readsE n) readsF_nil)))
  have hs := reads_struct (t := 53) (enc := enc) (w := w) Tryz.underlying53 (by rw [hc]; exact hF)
  refine reads_map hs fun ⟨a, b, d, v, u⟩ ⟨ha, hb, hd, hv, _⟩ => ⟨⟨a, b, d, v⟩, ⟨ha, hb, hd, hv⟩, ?_⟩
  simp [encC]
end
end Go.Abs.Seat
end
section
set_option linter.unusedVariables false
set_option linter.unusedSimpArgs false
namespace Go.Abs.Seat
open Go.Proofs
mutual
theorem same_clone : ∀ (a b : KT), sameT (cloneT a) (cloneT b) = sameT a b
 | .mk k s xs, .mk k' s' ys => by
  have h := same_clones xs ys
  have l1 : (cloneTs xs).length = xs.length := by rw [cloneTs_map, List.length_map]
  have l2 : (cloneTs ys).length = ys.length := by rw [cloneTs_map, List.length_map]
  simp only [cloneT,sameT,h,l1,l2]
theorem same_clones : ∀ (a b : List KT), sameTs (cloneTs a) (cloneTs b) = sameTs a b
 | [], [] => rfl
 | [], _ :: _ => by simp [cloneTs, sameTs]
 | _ :: _, [] => by simp [cloneTs, sameTs]
 | a :: l, b :: m => by
  simp only [cloneTs,sameTs,same_clone a b,same_clones l m]
end
mutual
theorem same_symm : ∀ (a b : KT), sameT a b = sameT b a
 | .mk k s xs, .mk k' s' ys => by
  have h := same_symms xs ys
  simp only [sameT,h]
  congr 1
  ·rw [Bool.eq_iff_iff, decide_eq_true_eq, decide_eq_true_eq]; exact eq_comm
  ·congr 1
   rw [Bool.eq_iff_iff, decide_eq_true_eq, decide_eq_true_eq]; exact eq_comm
theorem same_symms : ∀ (a b : List KT), sameTs a b = sameTs b a
 | [], [] => rfl
 | [], _ :: _ => by simp [sameTs]
 | _ :: _, [] => by simp [sameTs]
 | a :: l, b :: m => by
  simp only [sameTs,same_symm a b,same_symms l m]
end
theorem sameR_clone (a b : KT) : sameR (cloneT a) (cloneT b) = sameR a b := by
 unfold sameR
 rw [clone_right, clone_right, same_clone]
theorem sameR_symm (a b : KT) : sameR a b = sameR b a := by
 unfold sameR
 rw [same_symm a b]
 cases rightT a 6 <;> cases rightT b 6 <;> cases sameT b a <;> simp
theorem clone_k (a : KT) : (cloneT a).k = a.k := by
 cases a with
 | mk k s l => simp only [cloneT,KT.k]
theorem look_if (v : EnvT) (c x y : NT) : lookX v (ifN c x y) [] = match kidR 0 (lookX v c []) with
  | .inr e => .inr e
  | .inl a => match kidR 1 (lookX v x []) with
   | .inr e => .inr e
   | .inl b => match kidR 2 (lookX v y []) with
    | .inr e => .inr e
    | .inl d => plainR [105, 102] [a, b, d] := by
 unfold ifN
 simp only [lookX,looksX]
 cases lookX v c [] <;> cases lookX v x [] <;> cases lookX v y [] <;> rfl
theorem plain_if (a b d : KT) : plainR [105, 102] [a, b, d] = if ((decide (a.k = 1) && sameR b d) && rightT d 6) = true then .inl d else .inr ([], 50) := rfl
theorem ifs_true (c x y : NT) (v : EnvT) (hc : handN c) (hx : handN x) (hy : handN y) (hv : EnvH v) : ifsB c x y v = true := by
 unfold ifsB
 by_cases ha : smallE c v = true
 rotate_left
 ·rw [if_neg ha]
 rw [if_pos ha]
 by_cases hb : smallE x v = true
 rotate_left
 ·rw [if_neg hb]
 rw [if_pos hb]
 by_cases hd : smallE y v = true
 rotate_left
 ·rw [if_neg hd]
 rw [if_pos hd]
 have fa := clone_fine c (small_says hc hv ha).2.1
 have fb := clone_fine x (small_says hx hv hb).2.1
 have fd := clone_fine y (small_says hy hv hd).2.1
 have hee : envR v = true → envR (envC v) = true := fun h => by
  unfold envR at h ⊢
  have e : ((envC v).sides.any fun t => !rightT t 6) = (v.sides.any fun t => !rightT t 6) := by
   simp only [envC,List.any_map]
   congr 1
   funext t
   simp only [Function.comp,clone_right]
  rw [e]
  simp only [envC,clone_right,List.length_map]
  exact h
 generalize cloneN c = c' at *
 generalize cloneN x = x' at *
 generalize cloneN y = y' at *
 by_cases hp : (showX (ifN c' x' y')).2 = 0
 rotate_left
 ·rw [if_neg hp]
 rw [if_pos hp]
 by_cases hr : envR v = true
 rotate_left
 ·rw [if_neg hr]
 rw [if_pos hr]
 have he := hee hr
 generalize envC v = v' at *
 have hk := fun t ht => kids_right [105, 102] [] 0 (.mk 0 0 []) 6 [c', x', y'] hp t ht
 have inf : ∀ t, (showX t).2 = 0 → inferX t v' = (match lookX v' t [] with | .inl u => (cloneT u, [], 0) | .inr (p, c) => (zeroT, p, c)) := fun t ht => by
  unfold inferX
  rw [if_pos ht, if_pos he]
  try rfl
 have i1 := inf c' (hk c' (by simp))
 have i2 := inf x' (hk x' (by simp))
 have i3 := inf y' (hk y' (by simp))
 have i4 := inf (ifN c' x' y') hp
 rw [look_if] at i4
 have cd : ∀ t, fineN t → (showX t).2 = 0 → ∀ p c, lookX v' t [] = .inr (p, c) → c ≠ 0 := fun t hf ht p c hl h0 => by
  subst h0
  have := look_code v' 24 t [] p 0 (show_gd hf ht).1 hl
  rcases this with h | h | h <;> cases h
 cases hl1 : lookX v' c' [] with
 | inr e =>
  obtain ⟨p, e⟩ := e
  have hc0 := cd c' fa (hk c' (by simp)) p e hl1
  rw [hl1] at i1 i4
  simp only [kidR] at i1 i4
  rw [i1, i4]
  rw [if_neg hc0]
  simp [faultB]
 | inl a =>
  rw [hl1] at i1 i4
  simp only [kidR] at i1 i4
  rw [i1, if_pos rfl]
  cases hl2 : lookX v' x' [] with
  | inr e =>
   obtain ⟨p, e⟩ := e
   have hc0 := cd x' fb (hk x' (by simp)) p e hl2
   rw [hl2] at i2 i4
   simp only [kidR] at i2 i4
   rw [i2, i4]
   rw [if_neg hc0]
   simp [faultB]
  | inl b =>
   rw [hl2] at i2 i4
   simp only [kidR] at i2 i4
   rw [i2, if_pos rfl]
   cases hl3 : lookX v' y' [] with
   | inr e =>
    obtain ⟨p, e⟩ := e
    have hc0 := cd y' fd (hk y' (by simp)) p e hl3
    rw [hl3] at i3 i4
    simp only [kidR] at i3 i4
    rw [i3, i4]
    rw [if_neg hc0]
    simp [faultB]
   | inl d =>
    rw [hl3] at i3 i4
    simp only [kidR,plain_if] at i3 i4
    rw [i3, if_pos rfl, i4]
    simp only [clone_k,sameR_clone]
    by_cases ka : a.k = 1
    rotate_left
    ·rw [if_neg ka, decide_eq_false ka, Bool.false_and, Bool.false_and]
     simp
    rw [if_pos ka, decide_eq_true ka, Bool.true_and]
    by_cases hs : sameR b d = true
    rotate_left
    ·rw [if_neg hs, Bool.eq_false_iff.2 hs, Bool.false_and]
     simp
    rw [if_pos hs]
    have hrd : rightT d 6 = true := by
     unfold sameR at hs
     simp only [Bool.and_eq_true] at hs
     exact hs.2.1
    rw [hs, hrd]
    simp only [Bool.and_self,if_true,sameR_clone]
    rw [sameR_symm d b, hs]
    simp
theorem s5t (z : ChoiceT) (hz : ChoiceH z) : ∃ H', L 5 [.im (.agg (encC z))] [] = some (.im (.bool true), H') := ⟨[], by
 unfold encC
 rw [s5 z.c z.x z.y z.v hz.c hz.x hz.y hz.v, ifs_true z.c z.x z.y z.v hz.c hz.x hz.y hz.v]⟩
end Go.Abs.Seat
end
