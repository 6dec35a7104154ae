/- Part 7 of what the claim rests on. -/
import Derived.Test.YtobnhbbcegeljaaDoorSizesA
import Derived.Test.YtobnhbbcegeljaaDoorSizesB
import Derived.Test.YtobnhbbcegeljaaDoorSizesC
import Derived.Test.YtobnhbbcegeljaaDoorSizesD
import Derived.Test.YtobnhbbcegeljaaDoorSizesE
import Derived.Test.YtobnhbbcegeljaaDoorSizesF
section
set_option linter.unusedVariables false
set_option linter.unusedSimpArgs false
namespace Go.Abs.Seat
open Go.Proofs
theorem nodeW_bad (d : Nat) (t : NT) (acc : List UInt8) : nodeW d t (acc, true) = (acc, true) := by
 cases d with
 | zero => rfl
 | succ d =>
  obtain ⟨op, i, txt, ty, s, kids⟩ := t
  simp only [nodeW]
  rw [if_pos (by simp)]
theorem kidsW_bad (d : Nat) (ps : List UInt8) : ∀ (kids : List NT) (i : Nat) (acc : List UInt8), (kidsW (nodeW d) ps i kids (acc, true)).2 = true
 | [], i, acc => rfl
 | k :: ks, i, acc => by
  simp only [kidsW,Bool.true_or]
  rw [nodeW_bad]
  exact kidsW_bad d ps ks (i + 1) _
def Shift (d : Nat) (t : NT) : Prop := ∀ acc : List UInt8, (nodeW d t (acc, false)).2 = false →
 ∃ w, (nodeW d t (acc, false)).1 = acc ++ w ∧ ∀ d', d ≤ d' → ∀ acc' : List UInt8, acc'.length ≤ acc.length → nodeW d' t (acc', false) = (acc' ++ w, false)
theorem kidsW_shift (d : Nat) (ps : List UInt8) : ∀ (kids : List NT), (∀ k ∈ kids, Shift d k) → ∀ (i : Nat) (acc : List UInt8), (kidsW (nodeW d) ps i kids (acc, false)).2 = false →
  (∃ w, (kidsW (nodeW d) ps i kids (acc, false)).1 = acc ++ w ∧ ∀ d', d ≤ d' → ∀ acc' : List UInt8, acc'.length ≤ acc.length → kidsW (nodeW d') ps i kids (acc', false) = (acc' ++ w, false)) ∧
  ∀ k ∈ kids, ∃ acc1, (nodeW d k (acc1, false)).2 = false ∧ (nodeW d k (acc1, false)).1.length ≤ (kidsW (nodeW d) ps i kids (acc, false)).1.length
 | [], _, i, acc, h => ⟨⟨[], by simp [kidsW], fun d' _ acc' _ => by simp [kidsW]⟩, fun k hk => by simp at hk⟩
 | k :: ks, hk, i, acc, h => by
  simp only [kidsW,Bool.false_or] at h ⊢
  cases hfl : (decide (ps[i]? = some 110) && !isNam k) with
  | true =>
   rw [hfl, nodeW_bad, kidsW_bad] at h
   simp at h
  | false =>
   rw [hfl] at h
   cases hb : (nodeW d k (acc ++ [sepB i], false)).2 with
   | true =>
    have e : nodeW d k (acc ++ [sepB i], false) = ((nodeW d k (acc ++ [sepB i], false)).1, true) := Prod.ext rfl hb
    rw [e, kidsW_bad] at h
    simp at h
   | false =>
    obtain ⟨w1, h1, h2⟩ := hk k (by simp) (acc ++ [sepB i]) hb
    have e : nodeW d k (acc ++ [sepB i], false) = (acc ++ [sepB i] ++ w1, false) := Prod.ext h1 hb
    rw [e] at h ⊢
    obtain ⟨⟨w2, h3, h4⟩, h5⟩ := kidsW_shift d ps ks (fun k hk' => hk k (by simp [hk'])) (i + 1) _ h
    refine ⟨⟨[sepB i] ++ w1 ++ w2, by rw [h3]; simp [List.append_assoc], fun d' hd acc' ha => ?_⟩, fun k' hk' => ?_⟩
    ·rw [h2 d' hd (acc' ++ [sepB i]) (by simp; omega), h4 d' hd _ (by simp; omega)]
     simp [List.append_assoc]
    ·rcases List.mem_cons.1 hk' with rfl | hk'
     ·refine ⟨acc ++ [sepB i], hb, ?_⟩
      rw [e]
      exact kidsW_ge ks (fun k _ st => nodeW_ge d k st) (i + 1) _
     ·exact h5 k' hk'
theorem shift_all : ∀ (d : Nat) (t : NT), Shift d t
 | 0, t => fun acc h => by simp [nodeW] at h
 | d + 1, .mk op i txt ty s kids => by
  intro acc h
  have hkids : ∀ k ∈ kids, Shift d k := fun k _ => shift_all d k
  by_cases hl : 4096 < acc.length
  ·simp only [nodeW] at h
   rw [if_pos (by rw [decide_eq_true hl]; simp)] at h
   simp at h
  have go : ∀ (w : List UInt8), nodeW (d + 1) (.mk op i txt ty s kids) (acc, false) = (acc ++ w, false) → (∀ d', d ≤ d' → ∀ acc' : List UInt8, acc'.length ≤ acc.length → nodeW (d' + 1) (.mk op i txt ty s kids) (acc', false) = (acc' ++ w, false)) →
    ∃ w, (nodeW (d + 1) (.mk op i txt ty s kids) (acc, false)).1 = acc ++ w ∧ ∀ d', d + 1 ≤ d' → ∀ acc' : List UInt8, acc'.length ≤ acc.length → nodeW d' (.mk op i txt ty s kids) (acc', false) = (acc' ++ w, false) := fun w h1 h2 =>
   ⟨w, by rw [h1], fun d' hd acc' ha => by
    obtain ⟨d'', rfl⟩ : ∃ d'', d' = d'' + 1 := ⟨d' - 1, by omega⟩
    exact h2 d'' (by omega) acc' ha⟩
  have st : ∀ acc' : List UInt8, acc'.length ≤ acc.length → (false || decide (4096 < acc'.length)) = false := fun acc' ha => by rw [decide_eq_false (by omega)]; rfl
  have e0 : ∀ (d' : Nat) (acc' : List UInt8), acc'.length ≤ acc.length → nodeW (d' + 1) (.mk op i txt ty s kids) (acc', false) =
    (if op = intW then (acc' ++ itoaN i, !bareN (.mk op i txt ty s kids) true false false false)
    else if op = textW then (if (!bareN (.mk op i txt ty s kids) false true false false || decide (256 < txt.length)) = true then (acc', true) else (acc' ++ quoteB txt, false))
    else if op = nameW then (acc' ++ txt, !bareN (.mk op i txt ty s kids) false true false false || !nameOk txt)
    else match shapeT op with
     | none => (acc', true)
     | some ps =>
      if ps = [100] then (acc' ++ ((sideW ++ itoaN i) ++ [41]), (!bareN (.mk op i txt ty s kids) true false false false || decide (i < 0)) || decide (9 < i))
      else if ps = [116] then (acc' ++ (((op ++ [40]) ++ showW ty) ++ [41]), !bareN (.mk op i txt ty s kids) false false true false || !decide (checkT ty = 0))
      else callW (nodeW d') op ps (.mk op i txt ty s kids) kids (acc', false)) := fun d' acc' ha => by
   simp only [nodeW]
   rw [if_neg (by rw [st acc' ha]; simp)]
   rfl
  rw [e0 d acc (Nat.le_refl _)] at h
  by_cases h1 : op = intW
  ·rw [if_pos h1] at h
   simp only at h
   refine go (itoaN i) ?_ fun d' _ acc' ha => ?_
   ·rw [e0 d acc (Nat.le_refl _), if_pos h1, h]
   ·rw [e0 d' acc' ha, if_pos h1, h]
  rw [if_neg h1] at h
  by_cases h2 : op = textW
  ·rw [if_pos h2] at h
   by_cases h3 : (!bareN (.mk op i txt ty s kids) false true false false || decide (256 < txt.length)) = true
   ·rw [if_pos h3] at h; simp at h
   ·refine go (quoteB txt) ?_ fun d' _ acc' ha => ?_
    ·rw [e0 d acc (Nat.le_refl _), if_neg h1, if_pos h2, if_neg h3]
    ·rw [e0 d' acc' ha, if_neg h1, if_pos h2, if_neg h3]
  rw [if_neg h2] at h
  by_cases h3 : op = nameW
  ·rw [if_pos h3] at h
   simp only at h
   refine go txt ?_ fun d' _ acc' ha => ?_
   ·rw [e0 d acc (Nat.le_refl _), if_neg h1, if_neg h2, if_pos h3, h]
   ·rw [e0 d' acc' ha, if_neg h1, if_neg h2, if_pos h3, h]
  rw [if_neg h3] at h
  cases hsh : shapeT op with
  | none => rw [hsh] at h; simp at h
  | some ps =>
   rw [hsh] at h
   simp only at h
   by_cases h4 : ps = [100]
   ·rw [if_pos h4] at h
    simp only at h
    refine go ((sideW ++ itoaN i) ++ [41]) ?_ fun d' _ acc' ha => ?_
    ·rw [e0 d acc (Nat.le_refl _), if_neg h1, if_neg h2, if_neg h3, hsh]; simp only; rw [if_pos h4, h]
    ·rw [e0 d' acc' ha, if_neg h1, if_neg h2, if_neg h3, hsh]; simp only; rw [if_pos h4, h]
   rw [if_neg h4] at h
   by_cases h5 : ps = [116]
   ·rw [if_pos h5] at h
    simp only at h
    refine go (((op ++ [40]) ++ showW ty) ++ [41]) ?_ fun d' _ acc' ha => ?_
    ·rw [e0 d acc (Nat.le_refl _), if_neg h1, if_neg h2, if_neg h3, hsh]; simp only; rw [if_neg h4, if_pos h5, h]
    ·rw [e0 d' acc' ha, if_neg h1, if_neg h2, if_neg h3, hsh]; simp only; rw [if_neg h4, if_pos h5, h]
   rw [if_neg h5] at h
   unfold callW at h
   by_cases hc : (!decide (kids.length = (partsW ps kids.length).length) || !bareN (.mk op i txt ty s kids) false false false true) = true
   ·rw [if_pos hc] at h; simp at h
   rw [if_neg hc] at h
   have hkb : (kidsW (nodeW d) (partsW ps kids.length) 0 kids (acc ++ op, false)).2 = false := by
    split at h <;> exact h
   obtain ⟨⟨w, k1, k2⟩, _⟩ := kidsW_shift d (partsW ps kids.length) kids hkids 0 (acc ++ op) hkb
   have ek : ∀ d', d ≤ d' → ∀ acc' : List UInt8, acc'.length ≤ acc.length → kidsW (nodeW d') (partsW ps kids.length) 0 kids (acc' ++ op, false) = (acc' ++ op ++ w, false) := fun d' hd acc' ha => k2 d' hd (acc' ++ op) (by simp; omega)
   have ec : ∀ d', d ≤ d' → ∀ acc' : List UInt8, acc'.length ≤ acc.length → callW (nodeW d') op ps (.mk op i txt ty s kids) kids (acc', false) = (acc' ++ (op ++ w ++ (if 0 < kids.length then [41] else [])), false) := fun d' hd acc' ha => by
    unfold callW
    rw [if_neg hc]
    simp only [ek d' hd acc' ha]
    split <;> simp [List.append_assoc]
   refine go (op ++ w ++ (if 0 < kids.length then [41] else [])) ?_ fun d' hd acc' ha => ?_
   ·rw [e0 d acc (Nat.le_refl _), if_neg h1, if_neg h2, if_neg h3, hsh]; simp only; rw [if_neg h4, if_neg h5, ec d (Nat.le_refl _) acc (Nat.le_refl _)]
   ·rw [e0 d' acc' ha, if_neg h1, if_neg h2, if_neg h3, hsh]; simp only; rw [if_neg h4, if_neg h5, ec d' hd acc' ha]
theorem kids_right (op txt : List UInt8) (i : Int) (ty : KT) (s : Nat) (kids : List NT) (h : (showX (.mk op i txt ty s kids)).2 = 0) : ∀ k ∈ kids, (showX k).2 = 0 := by
 intro k hk
 unfold showX at h
 by_cases hb : ((nodeW 24 (.mk op i txt ty s kids) ([], false)).2 || decide (4096 < (nodeW 24 (.mk op i txt ty s kids) ([], false)).1.length)) = true
 ·rw [if_pos hb] at h; simp at h
 clear h
 simp only [Bool.or_eq_true,decide_eq_true_eq,not_or,Bool.not_eq_true] at hb
 obtain ⟨hb, hl⟩ := hb
 have e0 : nodeW 24 (.mk op i txt ty s kids) ([], false) =
    (if op = intW then ([] ++ itoaN i, !bareN (.mk op i txt ty s kids) true false false false)
    else if op = textW then (if (!bareN (.mk op i txt ty s kids) false true false false || decide (256 < txt.length)) = true then ([], true) else ([] ++ quoteB txt, false))
    else if op = nameW then ([] ++ txt, !bareN (.mk op i txt ty s kids) false true false false || !nameOk txt)
    else match shapeT op with
     | none => ([], true)
     | some ps =>
      if ps = [100] then ([] ++ ((sideW ++ itoaN i) ++ [41]), (!bareN (.mk op i txt ty s kids) true false false false || decide (i < 0)) || decide (9 < i))
      else if ps = [116] then ([] ++ (((op ++ [40]) ++ showW ty) ++ [41]), !bareN (.mk op i txt ty s kids) false false true false || !decide (checkT ty = 0))
      else callW (nodeW 23) op ps (.mk op i txt ty s kids) kids ([], false)) := by
  show nodeW (23 + 1) _ _ = _
  simp only [nodeW]
  rw [if_neg (by simp)]
  rfl
 rw [e0] at hb hl
 have nokids : ∀ a b c : Bool, bareN (.mk op i txt ty s kids) a b c false = true → False := fun a b c h => by
  obtain ⟨tk, ts, targs⟩ := ty
  simp only [bareN,Bool.false_or,Bool.and_eq_true,decide_eq_true_eq] at h
  have : 0 < kids.length := List.length_pos_of_mem hk
  omega
 by_cases h1 : op = intW
 ·rw [if_pos h1] at hb
  exact (nokids true false false (by simpa using hb)).elim
 rw [if_neg h1] at hb hl
 by_cases h2 : op = textW
 ·rw [if_pos h2] at hb
  by_cases h3 : (!bareN (.mk op i txt ty s kids) false true false false || decide (256 < txt.length)) = true
  ·rw [if_pos h3] at hb; simp at hb
  ·simp only [Bool.or_eq_true,not_or,Bool.not_eq_true,Bool.not_eq_false'] at h3
   exact (nokids false true false h3.1).elim
 rw [if_neg h2] at hb hl
 by_cases h3 : op = nameW
 ·rw [if_pos h3] at hb
  simp only [Bool.or_eq_false_iff,Bool.not_eq_false'] at hb
  exact (nokids false true false hb.1).elim
 rw [if_neg h3] at hb hl
 cases hsh : shapeT op with
 | none => rw [hsh] at hb; simp at hb
 | some ps =>
  rw [hsh] at hb hl
  simp only at hb hl
  by_cases h4 : ps = [100]
  ·rw [if_pos h4] at hb
   simp only [Bool.or_eq_false_iff,Bool.not_eq_false'] at hb
   exact (nokids true false false hb.1.1).elim
  rw [if_neg h4] at hb hl
  by_cases h5 : ps = [116]
  ·rw [if_pos h5] at hb
   simp only [Bool.or_eq_false_iff,Bool.not_eq_false'] at hb
   exact (nokids false false true hb.1).elim
  rw [if_neg h5] at hb hl
  unfold callW at hb hl
  by_cases hc : (!decide (kids.length = (partsW ps kids.length).length) || !bareN (.mk op i txt ty s kids) false false false true) = true
  ·rw [if_pos hc] at hb; simp at hb
  rw [if_neg hc] at hb hl
  have hkb : (kidsW (nodeW 23) (partsW ps kids.length) 0 kids ([] ++ op, false)).2 = false := by split at hb <;> exact hb
  have hkl : (kidsW (nodeW 23) (partsW ps kids.length) 0 kids ([] ++ op, false)).1.length ≤ 4096 := by
   split at hl
   ·simp only [List.length_append] at hl; omega
   ·exact Nat.not_lt.1 hl
  obtain ⟨acc1, a1, a2⟩ := (kidsW_shift 23 (partsW ps kids.length) kids (fun k _ => shift_all 23 k) 0 ([] ++ op) hkb).2 k hk
  obtain ⟨w, b1, b2⟩ := shift_all 23 k acc1 a1
  have b3 := b2 24 (by omega) [] (Nat.zero_le _)
  unfold showX
  rw [b3]
  rw [b1, List.length_append] at a2
  rw [if_neg (by simp only [List.nil_append,Bool.false_or,decide_eq_true_eq]; omega)]
end Go.Abs.Seat
end
section
set_option linter.unusedVariables false
set_option linter.unusedSimpArgs false
namespace Go.Abs.Seat
open Go.Proofs
def NT.op6 : NT → List UInt8 × List UInt8 × Int × KT × Nat × List NT
 | .mk op i txt ty s kids => (op, txt, i, ty, s, kids)
theorem showX_e (t : NT) : (showX t).2 = 0 ∨ (showX t).2 = 110 := by
 unfold showX
 split
 ·exact .inr rfl
 ·exact .inl rfl
theorem sizeNs_len : ∀ l : List NT, l.length ≤ sizeNs l
 | [] => Nat.le_refl _
 | a :: l => by
  have h1 := sizeNs_len l
  have h2 : 1 ≤ sizeN a := by obtain ⟨a1, a2, a3, a4, a5, a6⟩ := a; simp only [sizeN]; omega
  simp only [sizeNs,List.length_cons]
  omega
theorem s17 (t : NT) (hh : handN t) (hf : fineN t) (hsz : sizeN t ≤ 1000000000) (H : Heap) : L 17 [.im (.agg (encN t))] H = some (.tup [.im (.int .i64 (if (showX t).2 = 0 then (sizeN t : Int) else 0)), .im (.int .i64 (showX t).2)], H) := by
 have c16 := fun H => s16 t hf H
 have c28 := s28 t hh hsz
 have hx := showX_e t
 generalize (showX t).2 = e at *
 generalize sizeN t = sz at *
 obtain ⟨op, i, txt, ty, s, kids⟩ := t
 obtain ⟨k, sa, args⟩ := ty
 simp only [encN] at c16 c28 ⊢
 rw [leq F17]
 obtain ⟨hlen, ha⟩ := enter_at (f := f17) (args := [.im (.agg [.str op, .int .i64 i, .str txt, .int .i64 k, .sl sa (encTs args), .sl s (encNs kids)])]) (Nat.le_of_ble_eq_true rfl)
 have h0 := ha 0 _ rfl
 generalize enterA f17 [.im (.agg [.str op, .int .i64 i, .str txt, .int .i64 k, .sl sa (encTs args), .sl s (encNs kids)])] = tm at *
 change tm.length = 12 at hlen
 have hlv : ∀ (M : Heap) (a b : Int), leave H false (.tup [.im (.int .i64 a), .im (.int .i64 b)]) (H ++ M) = (.tup [.im (.int .i64 a), .im (.int .i64 b)], H) := fun M a b => leave_deg (by simp [degrade, degrade1, toDat]) (by simp [refsLt, refsLts])
 rcases hx with rfl | rfl
 ·rw [if_pos rfl]
  simp only [f17,B0,B1,B2,List.replicate,Nat.reduceAdd,Nat.reduceSub,Nat.reduceLeDiff,Nat.reduceLT,Nat.reduceEqDiff,reduceCtorEq,Int.reduceEq,Int.reduceLT,Int.reduceLE,lenA,endK,resA,tupA,hlen,h0,c16,c28,hlv]
 ·rw [if_neg (by decide)]
  simp only [f17,B0,B1,B2,List.replicate,Nat.reduceAdd,Nat.reduceSub,Nat.reduceLeDiff,Nat.reduceLT,Nat.reduceEqDiff,reduceCtorEq,Int.reduceEq,Int.reduceLT,Int.reduceLE,lenA,endK,resA,tupA,hlen,h0,c16,c28,hlv]
theorem l8 (kids : List NT) (s : Nat) (hs : kids = [] ∨ s = 6) (hc : ∀ a ∈ kids, ∀ H, L 17 [.im (.agg (encN a))] H = some (.tup [.im (.int .i64 (sizeN a : Int)), .im (.int .i64 0)], H)) :
  ∀ (m i : Nat), i + m = kids.length → ∀ (tm : List AV) (H : Heap) (k : Nat), k + sizeNs (kids.drop i) ≤ 1000000000 → kids.length ≤ 1000000000 → tm.length = 52 → tm.getD 5 undefA = .im (.int .i64 (k : Int)) → tm.getD 25 undefA = .im (.sl s (encNs kids)) → tm.getD 26 undefA = .im (.int .i64 kids.length) → tm.getD 27 undefA = .im (.int .i64 i) →
  ∃ e tm' H', Λ c8_0 tm H = some (e, tm', H') ∧ tm'.length = 52 ∧ e = .exit 0 ∧ tm'.getD 3 undefA = tm.getD 3 undefA ∧ tm'.getD 4 undefA = tm.getD 4 undefA ∧ tm'.getD 5 undefA = .im (.int .i64 ((k + sizeNs (kids.drop i) : Nat) : Int))
 | 0, i, hi, tm, H, k, hk, hkl, hlen, h3, h7, h8, h9 => by
  have e : kids.drop i = [] := by rw [List.drop_eq_nil_iff]; omega
  have hc : decide ((i : Int) < (kids.length : Int)) = false := decide_eq_false (by omega)
  rw [l8_0, e]
  simp only [b8_0,B0,B1,B2,List.replicate,Nat.reduceAdd,Nat.reduceSub,Nat.reduceLeDiff,Nat.reduceLT,Nat.reduceEqDiff,reduceCtorEq,Int.reduceEq,Int.reduceLT,Int.reduceLE,lenA,hlen,h3,h7,h8,h9,hc]
  exact ⟨_, _, _, rfl, by simp only [List.length_set,hlen], rfl, by simp only [B3,Nat.reduceLT,Nat.reduceEqDiff,hlen], by simp only [B3,Nat.reduceLT,Nat.reduceEqDiff,hlen], by simp only [B3,Nat.reduceLT,Nat.reduceEqDiff,hlen,h3,sizeNs,Nat.add_zero]⟩
 | m + 1, i, hi, tm, H, k, hk, hkl, hlen, h3, h7, h8, h9 => by
  have hlt : i < kids.length := by omega
  have e : kids.drop i = kids[i] :: kids.drop (i + 1) := List.drop_eq_getElem_cons hlt
  have hwi : kids[i]? = some kids[i] := List.getElem?_eq_getElem hlt
  generalize kids[i] = w at e hwi
  have hs6 : s = 6 := by
   rcases hs with hs | hs
   ·rw [hs] at hlt; simp at hlt
   ·exact hs
  subst hs6
  rw [e] at hk
  simp only [sizeNs] at hk
  have hc' : decide ((i : Int) < (kids.length : Int)) = true := decide_eq_true (by omega)
  have hix := idx_nat (n := (encNs kids).length) (i := i) (by rw [encNs_map]; simpa using hlt)
  have hgw := encNs_at hwi
  have hcall := hc w (List.mem_of_getElem? hwi)
  have hwr := wrap_nat (i := i) (by omega)
  have hws : IntKind.i64.wrap ((k : Int) + (sizeN w : Int)) = ((k + sizeN w : Nat) : Int) := by rw [Go.Abs.Seat.wrap_small _ (by omega)]; omega
  have key := l8 kids 6 hs hc m (i + 1) (by omega)
  rw [l8_0, e]
  have key := fun tm1 H => key tm1 H (k + sizeN w) (by omega) hkl
  simp only [sizeNs]
  rw [← Nat.add_assoc]
  generalize sizeN w = sw at *
  obtain ⟨op, ni, txt, ty, ns, kk⟩ := w
  obtain ⟨tk, ts, targs⟩ := ty
  simp only [encN,List.map_cons,List.map_nil] at hcall hgw
  simp only [b8_0,B0,B1,B2,List.replicate,Nat.reduceAdd,Nat.reduceSub,Nat.reduceLeDiff,Nat.reduceLT,Nat.reduceEqDiff,reduceCtorEq,Int.reduceEq,Int.reduceLT,Int.reduceLE,lenA,hlen,h3,h7,h8,h9,hc',hix,hgw,hcall,hwr,hws]
  refine ex_imp (key _ _ ?_ ?_ ?_ ?_ ?_) ?_
  iterate 5 simp only [B3,Nat.reduceLT,Nat.reduceEqDiff,hlen,h7,h8]
  rintro e tm' H' ⟨r1, r2, r3, r4, r5⟩
  refine ⟨r1, r2, ?_, ?_, r5⟩
  ·rw [r3]; simp only [B3,Nat.reduceLT,Nat.reduceEqDiff,hlen]
  ·rw [r4]; simp only [B3,Nat.reduceLT,Nat.reduceEqDiff,hlen]
theorem s8 (t : NT) (hh : handN t) : ∃ H', L 8 [.im (.agg (encN t))] [] = some (.im (.bool true), H') := by
 rw [leq F8]
 have hK : ∀ (tm : List AV) (H : Heap), tm.length = 52 → tm.getD 2 undefA = .im (.bool true) → ∃ H', endK f8 [] .ret tm H = some (.im (.bool true), H') := fun tm H hl h => by
  simp only [endK,f8,resA,h,tupA,leave_nil]
  exact ⟨_, rfl⟩
 have hcode : f8.code = f8.code := rfl
 conv at hcode => rhs; simp only [f8]
 rw [hcode]
 clear hcode
 generalize endK f8 [] = K at *
 have c15 := fun H => s15 t hh H
 have c10 := s10
 have hx := showX_e t
 have hkids : (showX t).2 = 0 → ∀ k ∈ (NT.op6 t).2.2.2.2.2, (showX k).2 = 0 := fun h => by
  obtain ⟨op, i, txt, ty, s, kids⟩ := t
  exact kids_right op txt i ty s kids h
 cases hfew : (fewN t 5000 60).1 with
 | false =>
  rw [hfew] at c15
  clear hx hkids
  obtain ⟨op, i, txt, ty, s, kids⟩ := t
  obtain ⟨k, sa, args⟩ := ty
  simp only [encN] at c15 ⊢
  obtain ⟨hlen, ha⟩ := enter_at (f := f8) (args := [.im (.agg [.str op, .int .i64 i, .str txt, .int .i64 k, .sl sa (encTs args), .sl s (encNs kids)])]) (Nat.le_of_ble_eq_true rfl)
  have h0 := ha 0 _ rfl
  generalize enterA f8 [.im (.agg [.str op, .int .i64 i, .str txt, .int .i64 k, .sl sa (encTs args), .sl s (encNs kids)])] = tm at *
  change tm.length = 52 at hlen
  simp only [B0,B1,B2,List.replicate,Nat.reduceAdd,Nat.reduceSub,Nat.reduceLeDiff,Nat.reduceLT,Nat.reduceEqDiff,reduceCtorEq,Int.reduceEq,Int.reduceLT,Int.reduceLE,lenA,hlen,h0,c15,c10]
  exact hK _ _ (by simp only [List.length_set,hlen]) (by simp only [B3,Nat.reduceLT,Nat.reduceEqDiff,hlen])
 | true =>
  rw [hfew] at c15
  have hf := few_fine t 5000 60 hh hfew
  have hsz := few_size t 5000 60 (by decide) hfew
  have hle := fewN_left t 5000 60 (by decide)
  have c16 := fun H => s16 t hf H
  have c17 := s17 t hh hf (by omega)
  have hkf : ∀ a ∈ (NT.op6 t).2.2.2.2.2, handN a ∧ fineN a ∧ sizeN a ≤ 1000000000 := by
   obtain ⟨op, i, txt, ty, s, kids⟩ := t
   intro a ha
   simp only [NT.op6] at ha
   simp only [handN] at hh
   simp only [fineN] at hf
   simp only [sizeN] at hsz
   have := sizeNs_le ha
   exact ⟨handNs_mem hh.2.2.2.2 a ha, fineNs_mem hf.2.2.2.2.2 a ha, by omega⟩
  rcases hx with hx | hx
  ·obtain ⟨op, i, txt, ty, s, kids⟩ := t
   obtain ⟨k, sa, args⟩ := ty
   have hkids := hkids hx
   rw [hx] at c16 c17
   rw [if_pos rfl] at c17
   simp only [NT.op6] at hkids hkf
   simp only [handN] at hh
   obtain ⟨_, hs, _, _, _⟩ := hh
   have ck : ∀ a ∈ kids, ∀ H, L 17 [.im (.agg (encN a))] H = some (.tup [.im (.int .i64 (sizeN a : Int)), .im (.int .i64 0)], H) := fun a ha H => by
    obtain ⟨g1, g2, g3⟩ := hkf a ha
    have := s17 a g1 g2 g3 H
    rw [hkids a ha, if_pos rfl] at this
    exact this
   simp only [sizeN] at hsz c17
   have hkl := sizeNs_len kids
   have key := fun tm1 H => l8 kids s hs ck kids.length 0 (by omega) tm1 H 1 (by simp only [List.drop_zero]; omega) (by omega)
   have z : ((0 : Nat) : Int) = 0 := rfl
   have z1 : ((1 : Nat) : Int) = 1 := rfl
   simp only [List.drop_zero,z,z1] at key
   have hel : (encNs kids).length = kids.length := by rw [encNs_map]; simp
   simp only [encN] at c15 c16 c17 ⊢
   obtain ⟨hlen, ha⟩ := enter_at (f := f8) (args := [.im (.agg [.str op, .int .i64 i, .str txt, .int .i64 k, .sl sa (encTs args), .sl s (encNs kids)])]) (Nat.le_of_ble_eq_true rfl)
   have h0 := ha 0 _ rfl
   generalize enterA f8 [.im (.agg [.str op, .int .i64 i, .str txt, .int .i64 k, .sl sa (encTs args), .sl s (encNs kids)])] = tm at *
   change tm.length = 52 at hlen
   generalize sizeNs kids = sz at *
   have hself : decide (((1 + sz : Nat) : Int) = ((1 + sz : Nat) : Int)) = true := decide_eq_true rfl
   simp only [e8_0,B0,B1,B2,List.replicate,Nat.reduceAdd,Nat.reduceSub,Nat.reduceLeDiff,Nat.reduceLT,Nat.reduceEqDiff,reduceCtorEq,Int.reduceEq,Int.reduceLT,Int.reduceLE,lenA,hlen,h0,c15,c16,c17,hel]
   refine thenL_ex (fun r => ∃ H', r = some (AV.im (Dat.bool true), H')) (key _ _ ?_ ?_ ?_ ?_ ?_) ?_
   iterate 5 simp only [B3,Nat.reduceLT,Nat.reduceEqDiff,hlen]
   rintro e tm1 H1 ⟨g1, rfl, g3, g4, g5⟩
   simp only [B3,Nat.reduceLT,Nat.reduceEqDiff,hlen] at g3 g4
   simp only [B0,B1,B2,List.replicate,Nat.reduceAdd,Nat.reduceSub,Nat.reduceLeDiff,Nat.reduceLT,Nat.reduceEqDiff,reduceCtorEq,Int.reduceEq,Int.reduceLT,Int.reduceLE,lenA,g1,g3,g4,g5,hself,c10]
   exact hK _ _ (by simp only [List.length_set,g1]) (by simp only [B3,Nat.reduceLT,Nat.reduceEqDiff,g1])
  ·clear hkids
   obtain ⟨op, i, txt, ty, s, kids⟩ := t
   obtain ⟨k, sa, args⟩ := ty
   rw [hx] at c16
   simp only [encN] at c15 c16 ⊢
   obtain ⟨hlen, ha⟩ := enter_at (f := f8) (args := [.im (.agg [.str op, .int .i64 i, .str txt, .int .i64 k, .sl sa (encTs args), .sl s (encNs kids)])]) (Nat.le_of_ble_eq_true rfl)
   have h0 := ha 0 _ rfl
   generalize enterA f8 [.im (.agg [.str op, .int .i64 i, .str txt, .int .i64 k, .sl sa (encTs args), .sl s (encNs kids)])] = tm at *
   change tm.length = 52 at hlen
   simp only [B0,B1,B2,List.replicate,Nat.reduceAdd,Nat.reduceSub,Nat.reduceLeDiff,Nat.reduceLT,Nat.reduceEqDiff,reduceCtorEq,Int.reduceEq,Int.reduceLT,Int.reduceLE,lenA,hlen,h0,c15,c16,c10]
   exact hK _ _ (by simp only [List.length_set,hlen]) (by simp only [B3,Nat.reduceLT,Nat.reduceEqDiff,hlen])
end Go.Abs.Seat
end
section
set_option linter.unusedVariables false
set_option linter.unusedSimpArgs false
namespace Go.Abs.Seat
open Go.Proofs Go.Abs Go.ChangeShapes
section
variable {Hd : Type} {enc : TypeId × Value → Hd} {P : Program} {w : World}
theorem reads_map {n : Nat} {t : TypeId} {α β : Type} {ea : α → List Dat} {eb : β → List Dat} {ga : α → Prop} {gb : β → Prop} (h : Reads enc P w n t α ea ga) (hm : ∀ a, ga a → ∃ b, gb b ∧ eb b = ea a) : Reads enc P w n t β eb gb := by
 intro cs x hx
 obtain ⟨a, hg, hr, hl, hc⟩ := h cs x hx
 obtain ⟨b, hb, he⟩ := hm a hg
 exact ⟨b, hb, by rw [he]; exact hr, by rw [he]; exact hl, by rw [he]; exact hc⟩
theorem reads_zero {t : TypeId} {α : Type} {en : α → List Dat} {good : α → Prop} : Reads enc P w 0 t α en good := by
 intro cs x hx
 simp [DataW.trod] at hx
theorem readsT : ∀ n, Reads enc Tryd.prog w n 24 KT encT okT ∧ Reads enc Tryd.prog w n 22 (List KT) (fun l => [.sl 2 (l.map encT)]) (fun l => (∀ a ∈ l, okT a) ∧ l.length ≤ maxLen)
 | 0 => ⟨reads_zero, reads_zero⟩
 | n + 1 => by
  obtain ⟨h1, h2⟩ := readsT n
  have hc : Tryd.prog.cellsOf 24 = 2 := by kernel_rfl
  have h3 : Reads enc Tryd.prog w n 3 Int (fun z => [.int .i64 z]) (fun z => (Lit.int .i64 z).wf = true) := reads_int Tryd.underlying3 (by kernel_rfl)
  have hsl := reads_slice (n := n) (enc := enc) (w := w) Tryd.underlying22 (by kernel_rfl) (by rw [hc]; decide) h1
  rw [hc] at hsl
  refine ⟨?_, hsl⟩
  have hF := readsF_cons (f := { name := "Kind", type := 3, offset := 0, embedded := false, tag := "", pkgPath := "", byteOffset := 0 }) (L := 2) (o := 0) (o' := 1) rfl (by kernel_rfl) (by decide) h3
   (readsF_cons (f := { name := "Args", type := 22, offset := 1, embedded := false, tag := "", pkgPath := "", byteOffset := 8 }) (L := 2) (o := 1) (o' := 2) rfl (by kernel_rfl) (by decide) h2 readsF_nil)
  have hs := reads_struct (t := 24) (enc := enc) (w := w) Tryd.underlying24 (by rw [hc]; exact hF)
  refine reads_map hs fun ⟨k, l, u⟩ ⟨_, ⟨hg, hl⟩, _⟩ => ⟨.mk k 2 l, ?_, ?_⟩
  ·simp only [okT]
   refine ⟨.inr trivial, by simpa [maxLen] using hl, ?_⟩
   have : ∀ l : List KT, (∀ a ∈ l, okT a) → okTs l := by
    intro l
    induction l with
    | nil => intro _; simp only [okTs]
    | cons a l ih => intro h; simp only [okTs]; exact ⟨h a (by simp), ih fun x hx => h x (by simp [hx])⟩
   exact this l hg
  ·simp only [encT,encTs_map]
   rfl
theorem readsN : ∀ n, Reads enc Tryd.prog w n 27 NT encN handN ∧ Reads enc Tryd.prog w n 25 (List NT) (fun l => [.sl 6 (l.map encN)]) (fun l => (∀ a ∈ l, handN a) ∧ l.length ≤ maxLen)
 | 0 => ⟨reads_zero, reads_zero⟩
 | n + 1 => by
  obtain ⟨h1, h2⟩ := readsN n
  have hc : Tryd.prog.cellsOf 27 = 6 := by kernel_rfl
  have h3 : Reads enc Tryd.prog w n 3 Int (fun z => [.int .i64 z]) (fun z => (Lit.int .i64 z).wf = true) := reads_int Tryd.underlying3 (by kernel_rfl)
  have h9 : Reads enc Tryd.prog w n 9 (List UInt8) (fun s => [.str s]) (fun s => s.length ≤ maxLen) := reads_str Tryd.underlying9 (by kernel_rfl)
  have hsl := reads_slice (n := n) (enc := enc) (w := w) Tryd.underlying25 (by kernel_rfl) (by rw [hc]; decide) h1
  rw [hc] at hsl
  refine ⟨?_, hsl⟩
  have hF := readsF_cons (f := { name := "Op", type := 9, offset := 0, embedded := false, tag := "", pkgPath := "", byteOffset := 0 }) (L := 6) (o := 0) (o' := 1) rfl (by kernel_rfl) (by decide) h9
   (readsF_cons (f := { name := "Int", type := 3, offset := 1, embedded := false, tag := "", pkgPath := "", byteOffset := 16 }) (L := 6) (o := 1) (o' := 2) rfl (by kernel_rfl) (by decide) h3
   (readsF_cons (f := { name := "Text", type := 9, offset := 2, embedded := false, tag := "", pkgPath := "", byteOffset := 24 }) (L := 6) (o := 2) (o' := 3) rfl (by kernel_rfl) (by decide) h9
   (readsF_cons (f := { name := "Type", type := 24, offset := 3, embedded := false, tag := "", pkgPath := "", byteOffset := 40 }) (L := 6) (o := 3) (o' := 5) rfl (by kernel_rfl) (by decide) (readsT n).1
   (readsF_cons (f := { name := "Kids", type := 25, offset := 5, embedded := false, tag := "", pkgPath := "", byteOffset := 72 }) (L := 6) (o := 5) (o' := 6) rfl (by kernel_rfl) (by decide) h2 readsF_nil))))
  have hs := reads_struct (t := 27) (enc := enc) (w := w) Tryd.underlying27 (by rw [hc]; exact hF)
  refine reads_map hs fun ⟨op, i, txt, ty, l, u⟩ ⟨_, hi, _, hty, ⟨hg, hl⟩, _⟩ => ⟨.mk op i txt ty 6 l, ?_, ?_⟩
  ·simp only [handN]
   refine ⟨?_, .inr trivial, by simpa [maxLen] using hl, hty, ?_⟩
   ·simp only [Lit.wf,Bool.and_eq_true,decide_eq_true_eq] at hi
    exact hi
   ·have : ∀ l : List NT, (∀ a ∈ l, handN a) → handNs l := by
     intro l
     induction l with
     | nil => intro _; simp only [handNs]
     | cons a l ih => intro h; simp only [handNs]; exact ⟨h a (by simp), ih fun x hx => h x (by simp [hx])⟩
    exact this l hg
  ·obtain ⟨k, sa, args⟩ := ty
   simp only [encN,encT,encTs_map,encNs_map]
   rfl
end
end Go.Abs.Seat
end
