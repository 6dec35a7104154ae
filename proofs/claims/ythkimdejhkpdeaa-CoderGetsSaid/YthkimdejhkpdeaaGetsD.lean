/- Part 4 of what the claim rests on. -/
import Derived.Test.YthkimdejhkpdeaaGetsA
import Derived.Test.YthkimdejhkpdeaaGetsB
import Derived.Test.YthkimdejhkpdeaaGetsC
section
set_option linter.unusedVariables false
set_option linter.unusedSimpArgs false
/- The abstract reading of Go code, twenty-fifth part: closed runs, by reckoning. -/
namespace Go.Abs

mutual
def eqD : Dat → Dat → Bool
  | .int k n, .int k' n' => decide (k = k') && decide (n = n')
  | .bool b, .bool b' => b == b'
  | .str s, .str s' => decide (s = s')
  | .flt k n, .flt k' n' => decide (k = k') && decide (n = n')
  | .cpx k a b, .cpx k' a' b' => decide (k = k') && decide (a = a') && decide (b = b')
  | .nilp, .nilp => true
  | .nilf, .nilf => true
  | .nili, .nili => true
  | .agg cs, .agg cs' => eqDs cs cs'
  | .sl s es, .sl s' es' => decide (s = s') && eqDss es es'
  | .rp cs, .rp cs' => eqDs cs cs'
  | _, _ => false
def eqDs : List Dat → List Dat → Bool
  | [], [] => true
  | a :: l, b :: r => eqD a b && eqDs l r
  | _, _ => false
def eqDss : List (List Dat) → List (List Dat) → Bool
  | [], [] => true
  | a :: l, b :: r => eqDs a b && eqDss l r
  | _, _ => false
end

mutual
theorem eqD_eq : ∀ {a b : Dat}, eqD a b = true → a = b
  | .int k n, b, h => by cases b <;> simp_all [eqD]
  | .bool x, b, h => by cases b <;> simp_all [eqD]
  | .str s, b, h => by cases b <;> simp_all [eqD]
  | .flt k n, b, h => by cases b <;> simp_all [eqD]
  | .cpx k x y, b, h => by cases b <;> simp_all [eqD]
  | .nilp, b, h => by cases b <;> simp_all [eqD]
  | .nilf, b, h => by cases b <;> simp_all [eqD]
  | .nili, b, h => by cases b <;> simp_all [eqD]
  | .agg cs, b, h => by
    cases b <;> simp [eqD] at h
    rw [eqDs_eq h]
  | .sl s es, b, h => by
    cases b <;> simp [eqD] at h
    rw [h.1, eqDss_eq h.2]
  | .rp cs, b, h => by
    cases b <;> simp [eqD] at h
    rw [eqDs_eq h]
theorem eqDs_eq : ∀ {a b : List Dat}, eqDs a b = true → a = b
  | [], b, h => by cases b <;> simp_all [eqDs]
  | a :: l, b, h => by
    cases b <;> simp [eqDs] at h
    rw [eqD_eq h.1, eqDs_eq h.2]
theorem eqDss_eq : ∀ {a b : List (List Dat)}, eqDss a b = true → a = b
  | [], b, h => by cases b <;> simp_all [eqDss]
  | a :: l, b, h => by
    cases b <;> simp [eqDss] at h
    rw [eqDs_eq h.1, eqDss_eq h.2]
end

mutual
def eqA : AV → AV → Bool
  | .im d, .im d' => eqD d d'
  | .nils, .nils => true
  | .asl s es t, .asl s' es' t' => decide (s = s') && eqDss es es' && decide (t = t')
  | .ms s i o n, .ms s' i' o' n' => decide (s = s') && decide (i = i') && decide (o = o') && decide (n = n')
  | .ptr i j k, .ptr i' j' k' => decide (i = i') && decide (j = j') && decide (k = k')
  | .agg cs, .agg cs' => eqAs cs cs'
  | .tup cs, .tup cs' => eqAs cs cs'
  | .clo f cs, .clo f' cs' => decide (f = f') && eqAs cs cs'
  | .any, .any => true
  | _, _ => false
def eqAs : List AV → List AV → Bool
  | [], [] => true
  | a :: l, b :: r => eqA a b && eqAs l r
  | _, _ => false
end

mutual
theorem eqA_eq : ∀ {a b : AV}, eqA a b = true → a = b
  | .im d, b, h => by
    cases b <;> simp [eqA] at h
    rw [eqD_eq h]
  | .nils, b, h => by cases b <;> simp_all [eqA]
  | .asl s es t, b, h => by
    cases b <;> simp [eqA] at h
    rw [h.1.1, eqDss_eq h.1.2, h.2]
  | .ms s i o n, b, h => by cases b <;> simp_all [eqA]
  | .ptr i j k, b, h => by cases b <;> simp_all [eqA]
  | .agg cs, b, h => by
    cases b <;> simp [eqA] at h
    rw [eqAs_eq h]
  | .tup cs, b, h => by
    cases b <;> simp [eqA] at h
    rw [eqAs_eq h]
  | .clo f cs, b, h => by
    cases b <;> simp [eqA] at h
    rw [h.1, eqAs_eq h.2]
  | .any, b, h => by cases b <;> simp_all [eqA]
theorem eqAs_eq : ∀ {a b : List AV}, eqAs a b = true → a = b
  | [], b, h => by cases b <;> simp_all [eqAs]
  | a :: l, b, h => by
    cases b <;> simp [eqAs] at h
    rw [eqA_eq h.1, eqAs_eq h.2]
end


mutual
theorem eqD_refl : ∀ a : Dat, eqD a a = true
  | .int k n => by simp [eqD]
  | .bool x => by simp [eqD]
  | .str s => by simp [eqD]
  | .flt k n => by simp [eqD]
  | .cpx k x y => by simp [eqD]
  | .nilp => by simp [eqD]
  | .nilf => by simp [eqD]
  | .nili => by simp [eqD]
  | .agg cs => by simp [eqD, eqDs_refl cs]
  | .sl s es => by simp [eqD, eqDss_refl es]
  | .rp cs => by simp [eqD, eqDs_refl cs]
theorem eqDs_refl : ∀ a : List Dat, eqDs a a = true
  | [] => by simp [eqDs]
  | a :: l => by simp [eqDs, eqD_refl a, eqDs_refl l]
theorem eqDss_refl : ∀ a : List (List Dat), eqDss a a = true
  | [] => by simp [eqDss]
  | a :: l => by simp [eqDss, eqDs_refl a, eqDss_refl l]
end

mutual
theorem eqA_refl : ∀ a : AV, eqA a a = true
  | .im d => by simp [eqA, eqD_refl d]
  | .nils => by simp [eqA]
  | .asl s es t => by simp [eqA, eqDss_refl es]
  | .ms s i o n => by simp [eqA]
  | .ptr i j k => by simp [eqA]
  | .agg cs => by simp [eqA, eqAs_refl cs]
  | .tup cs => by simp [eqA, eqAs_refl cs]
  | .clo f cs => by simp [eqA, eqAs_refl cs]
  | .any => by simp [eqA]
theorem eqAs_refl : ∀ a : List AV, eqAs a a = true
  | [] => by simp [eqAs]
  | a :: l => by simp [eqAs, eqA_refl a, eqAs_refl l]
end

def eqAss : List (List AV) → List (List AV) → Bool
  | [], [] => true
  | a :: l, b :: r => eqAs a b && eqAss l r
  | _, _ => false
theorem eqAss_eq : ∀ {a b : List (List AV)}, eqAss a b = true → a = b
  | [], b, h => by cases b <;> simp_all [eqAss]
  | a :: l, b, h => by
    cases b <;> simp [eqAss] at h
    rw [eqAs_eq h.1, eqAss_eq h.2]
theorem eqAss_refl : ∀ a : List (List AV), eqAss a a = true
  | [] => by simp [eqAss]
  | a :: l => by simp [eqAss, eqAs_refl a, eqAss_refl l]

def eqH : HO → HO → Bool
  | .obj t es, .obj t' es' => decide (t = t') && eqAss es es'
  | .hw t n, .hw t' n' => decide (t = t') && decide (n = n')
  | _, _ => false
theorem eqH_iff {a b : HO} : eqH a b = true ↔ a = b := by
  constructor
  · intro h
    cases a <;> cases b <;> simp [eqH] at h
    · rw [h.1, eqAss_eq h.2]
    · rw [h.1, h.2]
  · rintro rfl
    cases a <;> simp [eqH, eqAss_refl]

/-- Do the first things of the heap hold places among these alone? n: how many; H0, H: what is left of both. -/
def heldC (n : Nat) : Heap → Heap → Bool
  | [], _ => true
  | o0 :: H0, o :: H => (eqH o o0 || refsO n o) && heldC n H0 H
  | _ :: _, [] => false

theorem heldC_iff {n : Nat} : ∀ {H0 H : Heap}, heldC n H0 H = true ↔ ∀ i, i < H0.length → H[i]? = H0[i]? ∨ ∃ o, H[i]? = some o ∧ refsO n o = true
  | [], H => by simp [heldC]
  | o0 :: H0, [] => by
    simp only [heldC, Bool.false_eq_true, false_iff]
    intro h
    have := h 0 (by simp)
    simp at this
  | o0 :: H0, o :: H => by
    simp only [heldC, Bool.and_eq_true, Bool.or_eq_true, eqH_iff, heldC_iff (H0 := H0) (H := H)]
    constructor
    · rintro ⟨h0, h1⟩ i hi
      cases i with
      | zero =>
        rcases h0 with h0 | h0
        · left; simp [h0]
        · right; exact ⟨o, rfl, h0⟩
      | succ i => simpa using h1 i (by simpa using hi)
    · intro h
      refine ⟨?_, fun i hi => by simpa using h (i + 1) (by simpa using hi)⟩
      have := h 0 (by simp)
      simpa using this

/-- The end of a call, reckoned. -/
def leaveC (H0 : Heap) (keep : Bool) (r : AV) (H : Heap) : AV × Heap :=
  let r' := if keep then r else degrade r
  if refsLt H0.length r' = true ∧ heldC H0.length H0 H = true then (r', H.take H0.length) else (r', H)

theorem leaveC_eq {H0 : Heap} {keep : Bool} {r : AV} {H : Heap} : leave H0 keep r H = leaveC H0 keep r H := by
  unfold leaveC leave
  generalize (if keep = true then r else degrade r) = r1
  have e : (refsLt H0.length r1 = true ∧ heldIn H0 H) ↔ (refsLt H0.length r1 = true ∧ heldC H0.length H0 H = true) := and_congr_right fun _ => heldC_iff.symm
  simp only
  by_cases h : refsLt H0.length r1 = true ∧ heldIn H0 H
  · rw [if_pos h, if_pos (e.1 h)]
  · rw [if_neg h, if_neg (mt e.2 h)]

def endC (f : AFunc) (H0 : Heap) : Option Out → Option (AV × Heap)
  | some (.normal, tm, H) => match resA tm H f.results with
    | some l => some (leaveC H0 f.keep (tupA l) H)
    | none => none
  | some (.ret, tm, H) => match resA tm H f.results with
    | some l => some (leaveC H0 f.keep (tupA l) H)
    | none => none
  | _ => none

theorem endC_eq {f : AFunc} {H0 : Heap} {o : Option Out} {x : AV × Heap} (h : endC f H0 o = some x) : endA f H0 o = some x := by
  unfold endC at h
  split at h
  · split at h
    · rename_i l hl
      simp only [endA, hl, leaveC_eq]; exact h
    · simp at h
  · split at h
    · rename_i l hl
      simp only [endA, hl, leaveC_eq]; exact h
    · simp at h
  · simp at h

end Go.Abs
end
section
set_option linter.unusedVariables false
set_option linter.unusedSimpArgs false
/- The abstract reading of Go code, twenty-sixth part: closed runs, by reckoning: what a load reads is held against what it read. -/
namespace Go.Abs

def eqO : Option AV → Option AV → Bool
  | some a, some b => eqA a b
  | none, none => true
  | _, _ => false

theorem eqO_eq {a b : Option AV} (h : eqO a b = true) : a = b := by
  cases a <;> cases b <;> simp [eqO] at h
  · rfl
  · rw [eqA_eq h]

def staysC (l : List AOper) (sts : List (List AV × Heap)) (p : Nat × Nat) : Bool :=
  match l[p.1]?, sts[p.1]?, sts[p.2]?, sts[p.2 + 1]? with
  | some o, some s, some a, some b => (match wantedA s.1 o.guard with | some false => true | _ => false) || match loadOf o.op with
    | some (k, x) => eqO (loadAt a.2 k (ev s.1 x)) (loadAt b.2 k (ev s.1 x))
    | none => false
  | _, _, _, _ => false

theorem staysC_stays {l : List AOper} {sts : List (List AV × Heap)} {p : Nat × Nat} (h : staysC l sts p = true) : stays l sts p := by
  unfold staysC at h
  unfold stays
  split at h
  · rename_i o s a b h1 h2 h3 h4
    simp only [h1, h2, h3, h4]
    rw [Bool.or_eq_true] at h
    rcases h with h | h
    · left
      split at h
      · assumption
      · simp at h
    · right
      split at h
      · rename_i k x hl
        simp only [hl]
        exact eqO_eq h
      · simp at h
  · simp at h

def xregC {R : Type} (Φ : Oracle) (l : List AOper) (pairs : List (Nat × Nat)) (tm : List AV) (H : Heap) (K : List AV → Heap → Option R) : Option R :=
  match pairs with
  | [] => xops Φ l [] tm H fun _ tm H => K tm H
  | p :: ps => xops Φ l [] tm H fun tr tm' H' => if (p :: ps).all (fun q => staysC l (((tm', H') :: tr).reverse) q) = true then K tm' H' else none

theorem xregC_le {R : Type} {Φ Ψ : Oracle} (h : OLe Φ Ψ) {K K' : List AV → Heap → Option R} (hK : ∀ tm H x, K tm H = some x → K' tm H = some x) {l : List AOper} {ps : List (Nat × Nat)} {tm : List AV} {H : Heap} {x : R} (hx : xregC Φ l ps tm H K = some x) : xreg Ψ l ps tm H K' = some x := by
  unfold xregC at hx
  unfold xreg
  split at hx
  · exact xops_mono h (fun _ tm H x => hK tm H x) hx
  · refine xops_mono h (fun tr tm H x hx => ?_) hx
    split at hx
    · rename_i hc
      rw [List.all_eq_true] at hc
      rw [if_pos fun q hq => staysC_stays (hc q hq)]
      exact hK _ _ _ hx
    · simp at hx

def execC (Φ : Oracle) : Nat → ACode → List AV → Heap → Option Out
  | 0, _, _, _ => none
  | k + 1, code, tm, H => match code with
    | .skip => some (.normal, tm, H)
    | .label _ => some (.normal, tm, H)
    | .ops l ps => xregC Φ l ps tm H fun tm H => some (.normal, tm, H)
    | .seq a b => match execC Φ k a tm H with
      | some (.normal, tm', H') => execC Φ k b tm' H'
      | r => r
    | .cond c a b => match ev tm c with
      | .im (.bool t) => if t = true then execC Φ k a tm H else execC Φ k b tm H
      | _ => none
    | .block id a => match execC Φ k a tm H with
      | some (.exit i, tm', H') => if i = id then some (.normal, tm', H') else some (.exit i, tm', H')
      | r => r
    | .loop a => match execC Φ k a tm H with
      | some (.normal, tm', H') => execC Φ k (.loop a) tm' H'
      | r => r
    | .scope body cur => match execC Φ k cur tm H with
      | some (.goto l, tm', H') => match findA body l with
        | some rest => execC Φ k (.scope body rest) tm' H'
        | none => none
      | r => r
    | .exit i => some (.exit i, tm, H)
    | .goto l => some (.goto l, tm, H)
    | .ret => some (.ret, tm, H)
    | .bad => none

theorem execC_le {Φ Ψ : Oracle} (h : OLe Φ Ψ) : ∀ {k : Nat} {c : ACode} {tm : List AV} {H : Heap} {x : Out}, execC Φ k c tm H = some x → execF Ψ k c tm H = some x
  | 0, _, _, _, _, hx => by simp [execC] at hx
  | k + 1, c, tm, H, x, hx => by
    have ih : ∀ {c : ACode} {tm : List AV} {H : Heap} {x : Out}, execC Φ k c tm H = some x → execF Ψ k c tm H = some x := fun hx => execC_le h hx
    cases c <;> simp only [execC] at hx <;> simp only [execF]
    case ops l ps => exact xregC_le h (fun _ _ _ h => h) hx
    case seq a b =>
      cases ha : execC Φ k a tm H with
      | none => rw [ha] at hx; simp at hx
      | some o =>
        rw [ha] at hx
        rw [ih ha]
        obtain ⟨e, tm1, H1⟩ := o
        cases e <;> first | exact hx | exact ih hx
    case cond c a b =>
      split at hx
      · rename_i t htt
        rw [htt]
        simp only
        split at hx
        · rename_i ht; rw [if_pos ht]; exact ih hx
        · rename_i ht; rw [if_neg ht]; exact ih hx
      · simp at hx
    case block id a =>
      cases ha : execC Φ k a tm H with
      | none => rw [ha] at hx; simp at hx
      | some o => rw [ha] at hx; rw [ih ha]; exact hx
    case loop a =>
      cases ha : execC Φ k a tm H with
      | none => rw [ha] at hx; simp at hx
      | some o =>
        rw [ha] at hx
        rw [ih ha]
        obtain ⟨e, tm1, H1⟩ := o
        cases e <;> first | exact hx | exact ih hx
    case scope body cur =>
      cases ha : execC Φ k cur tm H with
      | none => rw [ha] at hx; simp at hx
      | some o =>
        rw [ha] at hx
        rw [ih ha]
        obtain ⟨e, tm1, H1⟩ := o
        cases e with
        | goto l =>
          simp only at hx ⊢
          cases hf : findA body l with
          | none => rw [hf] at hx; simp at hx
          | some r => rw [hf] at hx; exact ih hx
        | normal => exact hx
        | exit i => exact hx
        | ret => exact hx
    all_goals exact hx

/-- A run over a table of functions, reckoned. -/
def runC (Ψ : Oracle) (T : FuncId → Option AFunc) : Nat → Oracle
  | 0, _, _, _ => none
  | k + 1, f, args, H => match T f with
    | some af => endC af H (execC (runC Ψ T k) k af.code (enterA af args) H)
    | none => Ψ f args H

theorem runC_le {Ψ : Oracle} {T F : FuncId → Option AFunc} (hT : ∀ f af, T f = some af → F f = some af) (hn : ∀ f, T f = none → F f = none ∨ ∀ args H, Ψ f args H = none) : ∀ k, OLe (runC Ψ T k) (runF Ψ F k)
  | 0 => fun f args H x hx => by simp [runC] at hx
  | k + 1 => fun f args H x hx => by
    have ih := runC_le hT hn k
    simp only [runC] at hx
    simp only [runF]
    cases hf : T f with
    | none =>
      rw [hf] at hx
      rcases hn f hf with h | h
      · rw [h]; exact hx
      · simp only [h] at hx; simp at hx
    | some af =>
      rw [hf] at hx
      rw [hT f af hf]
      simp only at hx ⊢
      cases he : execC (runC Ψ T k) k af.code (enterA af args) H with
      | none => rw [he] at hx; simp [endC] at hx
      | some o => rw [he] at hx; rw [execC_le ih he]; exact endC_eq hx

theorem lim_runC {Ψ : Oracle} {T F : FuncId → Option AFunc} (hT : ∀ f af, T f = some af → F f = some af) (hn : ∀ f, T f = none → F f = none ∨ ∀ args H, Ψ f args H = none) {k : Nat} {f : FuncId} {args : List AV} {H : Heap} {x : AV × Heap} (h : runC Ψ T k f args H = some x) : Lim Ψ F f args H = some x :=
  lim_iff.2 ⟨k, runC_le hT hn k _ _ _ _ h⟩

end Go.Abs
end
section
set_option linter.unusedVariables false
set_option linter.unusedSimpArgs false
/- The abstract reading of Go code, twenty-seventh part: the heap's end, as it is met in proofs about one function. -/
namespace Go.Abs

section
variable {α : Type} {H l : List α} {x : α}

theorem hget (k : Nat) : (H ++ l)[H.length + k]? = l[k]? := by
  rw [List.getElem?_append_right (by omega)]
  congr 1
  omega
theorem hget0 : (H ++ l)[H.length]? = l[0]? := hget 0
theorem hset (k : Nat) : (H ++ l).set (H.length + k) x = H ++ l.set k x := by
  rw [List.set_append_right _ _ (by omega)]
  congr 2
  omega
theorem hset0 : (H ++ l).set H.length x = H ++ l.set 0 x := hset 0
theorem htake : (H ++ l).take H.length = H := by simp
end

theorem heldIn_self (H : Heap) : heldIn H H := fun i _ => .inl rfl
theorem heldIn_app (H L : Heap) : heldIn H (H ++ L) := fun i h => .inl (List.getElem?_append_left h)

/-- A call that hands back data and has changed nothing that was there. -/
theorem leave_app {H L : Heap} {keep : Bool} {d : Dat} : leave H keep (.im d) (H ++ L) = (.im d, H) := by
  unfold leave
  have e : (if keep = true then AV.im d else degrade (.im d)) = .im d := by cases keep <;> simp [degrade, toDat]
  rw [e, if_pos ⟨by simp only [refsLt], heldIn_app H L⟩, htake]

theorem leave_same {H : Heap} {keep : Bool} {d : Dat} : leave H keep (.im d) H = (.im d, H) := by
  have := leave_app (H := H) (L := []) (keep := keep) (d := d)
  simpa using this

theorem leave_tup2 {H L : Heap} {d d' : Dat} : leave H false (.tup [.im d, .im d']) (H ++ L) = (.tup [.im d, .im d'], H) := by
  unfold leave
  have e : (if (false : Bool) = true then AV.tup [.im d, .im d'] else degrade (.tup [.im d, .im d'])) = .tup [.im d, .im d'] := by simp [degrade, degrade1, toDat]
  rw [e, if_pos ⟨by simp only [refsLt, refsLts, Bool.and_self], heldIn_app H L⟩, htake]

end Go.Abs

namespace Go.Abs
section
variable {tm : List AV} {v d : AV} {i j : Nat}
theorem gs_same (h : i < tm.length) : (tm.set i v).getD i d = v := by
  simp [List.getD_eq_getElem?_getD, h]
theorem gs_ne (h : ¬ i = j) : (tm.set i v).getD j d = tm.getD j d := by
  simp [List.getD_eq_getElem?_getD, List.getElem?_set_ne h]
theorem gq_same (h : i < tm.length) : (tm.set i v)[i]? = some v := by
  simp [h]
theorem gq_ne (h : ¬ i = j) : (tm.set i v)[j]? = tm[j]? := List.getElem?_set_ne h
end

theorem enter_at {f : AFunc} {args : List AV} (h : args.length ≤ f.ntmps) : (enterA f args).length = f.ntmps ∧ ∀ i a, args[i]? = some a → (enterA f args).getD i undefA = a := by
  refine ⟨by simp [enterA]; omega, fun i a hi => ?_⟩
  have := (List.getElem?_eq_some_iff.1 hi).1
  simp [enterA, List.getD_eq_getElem?_getD, List.getElem?_append_left this, hi]

/-- A slice of data: one of its elements. -/
theorem idx_nat {i n : Nat} (h : i < n) : idx (.im (.int .i64 i)) n = some i := by
  unfold idx intOfA
  simp only
  split <;> simp <;> omega

theorem wrap_nat {i : Nat} (h : i < 9223372036854775807) : IntKind.i64.wrap ((i : Int) + 1) = ((i + 1 : Nat) : Int) := by
  simp [IntKind.wrap, IntKind.bits, IntKind.signed]
  omega
end Go.Abs

namespace Go.Abs
theorem thenL_of {R : Type} {o : Option Out} {K : AEx → List AV → Heap → Option R} {r : Option R} {Q : AEx → List AV → Heap → Prop} (h : ∃ e tm H, o = some (e, tm, H) ∧ Q e tm H) (hK : ∀ e tm H, Q e tm H → K e tm H = r) : thenL o K = r := by
  obtain ⟨e, tm, H, rfl, hq⟩ := h
  exact hK e tm H hq
end Go.Abs

namespace Go.Abs
theorem ex_imp {o : Option Out} {Q Q' : AEx → List AV → Heap → Prop} (h : ∃ e tm H, o = some (e, tm, H) ∧ Q e tm H) (hQ : ∀ e tm H, Q e tm H → Q' e tm H) : ∃ e tm H, o = some (e, tm, H) ∧ Q' e tm H := by
  obtain ⟨e, tm, H, rfl, hq⟩ := h
  exact ⟨e, tm, H, rfl, hQ e tm H hq⟩

theorem max_ii (k : IntKind) (a b : Int) : maxA (.im (.int k a)) (.im (.int k b)) = some (.im (.int k (max a b))) := by
  unfold maxA
  simp only [if_true]
  repeat' split
  all_goals simp_all
  all_goals omega
end Go.Abs

namespace Go.Abs
/-- A call that hands back data and has written one variable of numbers that was there. -/
theorem leave_set {H L : Heap} {d : Dat} {id : Nat} {k : IntKind} {n : Int} : leave H false (.im d) (H.set id (.obj none [[.im (.int k n)]]) ++ L) = (.im d, H.set id (.obj none [[.im (.int k n)]])) := by
  have hh : heldIn H (H.set id (.obj none [[.im (.int k n)]]) ++ L) := fun i hi => by
    rw [List.getElem?_append_left (by simpa using hi)]
    by_cases h : id = i
    · subst h
      right
      exact ⟨_, List.getElem?_set_self hi, by simp [refsO, refsLts, refsLt]⟩
    · left
      rw [List.getElem?_set_ne h]
  have ht : (H.set id (.obj none [[.im (.int k n)]]) ++ L).take H.length = H.set id (.obj none [[.im (.int k n)]]) := by
    rw [List.take_append_of_le_length (by simp), List.take_of_length_le (by simp)]
  unfold leave
  have e : (if false = true then AV.im d else degrade (.im d)) = .im d := by simp [degrade, toDat]
  rw [e, if_pos ⟨by simp only [refsLt], hh⟩, ht]
theorem set_app {α : Type} {A B : List α} {i : Nat} {x : α} (h : i < A.length) : (A ++ B).set i x = A.set i x ++ B := List.set_append_left _ _ h
theorem get_app {α : Type} {A B : List α} {i : Nat} (h : i < A.length) : (A ++ B)[i]? = A[i]? := List.getElem?_append_left h
end Go.Abs

namespace Go.Abs
/-- A call that hands back two things that are data, and has changed nothing that was there. -/
theorem leave_two {H M : Heap} {a b : AV} {d d' : Dat} (ha : toDat a = some d) (hb : toDat b = some d') : leave H false (.tup [a, b]) (H ++ M) = (.tup [.im d, .im d'], H) := by
  unfold leave
  have e : (if (false : Bool) = true then AV.tup [a, b] else degrade (.tup [a, b])) = .tup [.im d, .im d'] := by simp [degrade, degrade1, toDat, ha, hb]
  rw [e, if_pos ⟨by simp only [refsLt, refsLts, Bool.and_self], heldIn_app H M⟩, htake]

/-- .. one thing. -/
theorem leave_one {H M : Heap} {a : AV} {d : Dat} (ha : toDat a = some d) : leave H false a (H ++ M) = (.im d, H) := by
  unfold leave
  have e : (if (false : Bool) = true then a else degrade a) = .im d := by simp [degrade, ha]
  rw [e, if_pos ⟨by simp only [refsLt], heldIn_app H M⟩, htake]

/-- What has been gathered by append, in what came to the heap behind n. -/
def Gath (ty : TypeId) (s n : Nat) (v : AV) (H : Heap) (es : List (List Dat)) : Prop :=
  (es = [] ∧ v = .nils) ∨ (es ≠ [] ∧ ∃ tok, n ≤ tok ∧ v = .asl s es tok ∧ H[tok]? = some (.hw ty es.length))

theorem Gath.more {ty : TypeId} {s n : Nat} {v : AV} {H : Heap} {es : List (List Dat)} (h : Gath ty s n v H es) (M : Heap) : Gath ty s n v (H ++ M) es := by
  rcases h with h | ⟨h1, tok, h2, h3, h4⟩
  · exact .inl h
  · exact .inr ⟨h1, tok, h2, h3, by rw [List.getElem?_append_left (List.getElem?_eq_some_iff.1 h4).1]; exact h4⟩

theorem Gath.dat {ty : TypeId} {s n : Nat} {v : AV} {H : Heap} {es : List (List Dat)} (h : Gath ty s n v H es) : toDat v = some (.sl (if es = [] then 0 else s) es) := by
  rcases h with ⟨rfl, rfl⟩ | ⟨h1, tok, _, rfl, _⟩
  · simp [toDat]
  · simp [toDat, h1]

/-- One element more. -/
theorem Gath.push {ty : TypeId} {s bytes : Nat} {v : AV} {H0 M : Heap} {es : List (List Dat)} (h : Gath ty s H0.length v (H0 ++ M) es) (y : List Dat) (hb : (es.length + 1) * bytes ≤ 2 ^ 46) (hb0 : 0 < bytes) :
    ∃ v' M', appendA (H0 ++ M) ty bytes s v [y] = some (v', H0 ++ M') ∧ Gath ty s H0.length v' (H0 ++ M') (es ++ [y]) ∧ cellOk v' = true ∧ M.length ≤ M'.length := by
  rcases h with ⟨rfl, rfl⟩ | ⟨h1, tok, h2, rfl, h4⟩
  · refine ⟨.asl s [y] (H0 ++ M).length, M ++ [.hw ty 1], ?_, .inr ⟨by simp, (H0 ++ M).length, by simp, rfl, ?_⟩, rfl, by simp⟩
    · simp only [appendA, List.length_nil, Nat.zero_add]
      rw [if_pos ⟨by simpa using hb, hb0⟩, List.append_assoc]
    · rw [← List.append_assoc, hget0]; rfl
  · have hlt := (List.getElem?_eq_some_iff.1 h4).1
    refine ⟨.asl s (es ++ [y]) tok, M.set (tok - H0.length) (.hw ty (es.length + 1)), ?_, .inr ⟨by simp, tok, h2, rfl, ?_⟩, rfl, by simp⟩
    · simp only [appendA, h4, List.length_cons, List.length_nil, Nat.zero_add]
      rw [if_pos ⟨trivial, trivial, hb, hb0, trivial⟩, List.set_append_right _ _ h2]
    · rw [← List.set_append_right _ _ h2, List.getElem?_set_self hlt]
      simp
end Go.Abs
end
section
set_option linter.unusedVariables false
set_option linter.unusedSimpArgs false
/- The seat's functions as abstract code. -/
set_option linter.unusedVariables false
namespace Go.Abs.Seat
open Go.Proofs
/-- The functions that are known without being read. -/
def no : FuncId → Bool := fun k => k == 101 || k == 49
def pol : FuncId → Bool × Bool := fun f => (f == 72, f == 72 || f == 98)
noncomputable def F : FuncId → Option AFunc := compF Try.prog no pol
abbrev bld : Oracle := bldA 101 49 94 5
noncomputable def L : Oracle := Lim bld F
noncomputable def Λ : ACode → List AV → Heap → Option Out := execL bld F
theorem leq {f : FuncId} {af : AFunc} (hf : F f = some af) (args : List AV) (H : Heap) : L f args H = exec0 L Λ af.code (enterA af args) H (endK af H) := lim_eq hf args H
def f3 : AFunc := ⟨57, [(2, none)], (.seq (.ops [⟨(some 2), (.move (.c (.im (.bool false)))), none⟩] []) (.seq (.seq (.ops [⟨(some 9), (.move (.t 0)), none⟩, ⟨(some 10), (.lenStr (.t 9)), none⟩, ⟨(some 11), (.bin .gtr (.t 10) (.c (.im (.int .i64 10000)))), none⟩] []) (.cond (.t 11) (.seq (.ops [⟨(some 12), (.call (.c (.clo 11 [])) []), none⟩, ⟨(some 2), (.move (.t 12)), none⟩] []) .ret) .skip)) (.seq (.ops [⟨(some 14), (.move (.t 0)), none⟩, ⟨(some 15), (.call (.c (.clo 12 [])) [(.t 14)]), none⟩, ⟨(some 13), (.move (.t 15)), none⟩, ⟨(some 16), (.extract 0 (.t 13)), none⟩, ⟨(some 17), (.extract 1 (.t 13)), none⟩, ⟨(some 18), (.extract 2 (.t 13)), none⟩, ⟨(some 3), (.alloc none [(.im (.int .i64 0)), .nils]), none⟩, ⟨none, (.store 2 (.t 3) (.t 16)), none⟩, ⟨(some 4), (.move (.t 17)), none⟩, ⟨(some 5), (.move (.t 18)), none⟩] []) (.seq (.ops [⟨(some 20), (.move (.t 0)), none⟩, ⟨(some 21), (.call (.c (.clo 13 [])) [(.t 20)]), none⟩, ⟨(some 19), (.move (.t 21)), none⟩, ⟨(some 22), (.extract 0 (.t 19)), none⟩, ⟨(some 23), (.extract 1 (.t 19)), none⟩, ⟨(some 24), (.extract 2 (.t 19)), none⟩, ⟨(some 6), (.alloc none [(.im (.int .i64 0)), .nils]), none⟩, ⟨none, (.store 2 (.t 6) (.t 22)), none⟩, ⟨(some 7), (.move (.t 23)), none⟩, ⟨(some 8), (.move (.t 24)), none⟩] []) (.seq (.seq (.ops [⟨(some 25), (.move (.t 8)), none⟩, ⟨(some 26), (.un .not (.t 25)), none⟩] []) (.cond (.t 26) (.seq (.ops [⟨(some 27), (.move (.t 5)), none⟩, ⟨(some 28), (.bin .eql (.t 27) (.c (.im (.int .i64 40)))), none⟩, ⟨(some 29), (.move (.t 28)), none⟩, ⟨(some 30), (.move (.t 4)), (some (29, true))⟩, ⟨(some 31), (.move (.t 7)), (some (29, true))⟩, ⟨(some 32), (.bin .eql (.t 30) (.t 31)), (some (29, true))⟩, ⟨(some 33), (.pick (.t 29) (.t 32) (.c (.im (.bool false)))), none⟩, ⟨(some 34), (.move (.t 33)), none⟩, ⟨(some 35), (.fieldAddr 0 (.t 3)), (some (34, true))⟩, ⟨(some 36), (.load none (.t 35)), (some (34, true))⟩, ⟨(some 37), (.bin .eql (.t 36) (.c (.im (.int .i64 0)))), (some (34, true))⟩, ⟨(some 38), (.pick (.t 34) (.t 37) (.c (.im (.bool false)))), none⟩, ⟨(some 39), (.move (.t 38)), none⟩, ⟨(some 40), (.call (.c (.clo 11 [])) []), (some (39, true))⟩, ⟨(some 41), (.pick (.t 39) (.t 40) (.c (.im (.bool false)))), none⟩, ⟨(some 2), (.move (.t 41)), none⟩] []) .ret) .skip)) (.seq (.ops [⟨(some 42), (.move (.t 5)), none⟩, ⟨(some 43), (.bin .eql (.t 42) (.c (.im (.int .i64 0)))), none⟩, ⟨(some 44), (.move (.t 43)), none⟩, ⟨(some 45), (.move (.t 4)), (some (44, true))⟩, ⟨(some 46), (.bin .eql (.t 45) (.c (.im (.int .i64 0)))), (some (44, true))⟩, ⟨(some 47), (.pick (.t 44) (.t 46) (.c (.im (.bool false)))), none⟩, ⟨(some 48), (.move (.t 47)), none⟩, ⟨(some 49), (.load (some 2) (.t 3)), (some (48, true))⟩, ⟨(some 50), (.call (.c (.clo 15 [])) [(.t 49)]), (some (48, true))⟩, ⟨(some 51), (.load (some 2) (.t 6)), (some (48, true))⟩, ⟨(some 52), (.call (.c (.clo 14 [])) [(.t 50), (.t 51)]), (some (48, true))⟩, ⟨(some 53), (.pick (.t 48) (.t 52) (.c (.im (.bool false)))), none⟩, ⟨(some 54), (.move (.t 53)), none⟩, ⟨(some 55), (.call (.c (.clo 11 [])) []), (some (54, true))⟩, ⟨(some 56), (.pick (.t 54) (.t 55) (.c (.im (.bool false)))), none⟩, ⟨(some 2), (.move (.t 56)), none⟩] [(9, 8)]) .ret)))))), false⟩
theorem F3 : F 3 = some f3 := by kernel_rfl
def f4 : AFunc := ⟨86, [(4, none)], (.seq (.ops [⟨(some 4), (.move (.c (.im (.bool false)))), none⟩] []) (.seq (.seq (.ops [⟨(some 14), (.move (.t 0)), none⟩, ⟨(some 15), (.lenStr (.t 14)), none⟩, ⟨(some 16), (.bin .gtr (.t 15) (.c (.im (.int .i64 1000)))), none⟩, ⟨(some 17), (.move (.t 16)), none⟩, ⟨(some 18), (.move (.t 1)), (some (17, false))⟩, ⟨(some 19), (.lenStr (.t 18)), (some (17, false))⟩, ⟨(some 20), (.bin .gtr (.t 19) (.c (.im (.int .i64 1000)))), (some (17, false))⟩, ⟨(some 21), (.pick (.t 17) (.c (.im (.bool true))) (.t 20)), none⟩] []) (.cond (.t 21) (.seq (.ops [⟨(some 22), (.call (.c (.clo 11 [])) []), none⟩, ⟨(some 4), (.move (.t 22)), none⟩] []) .ret) .skip)) (.seq (.ops [⟨(some 24), (.move (.t 0)), none⟩, ⟨(some 25), (.call (.c (.clo 12 [])) [(.t 24)]), none⟩, ⟨(some 23), (.move (.t 25)), none⟩, ⟨(some 26), (.extract 0 (.t 23)), none⟩, ⟨(some 27), (.extract 1 (.t 23)), none⟩, ⟨(some 28), (.extract 2 (.t 23)), none⟩, ⟨(some 5), (.alloc none [(.im (.int .i64 0)), .nils]), none⟩, ⟨none, (.store 2 (.t 5) (.t 26)), none⟩, ⟨(some 6), (.move (.t 27)), none⟩, ⟨(some 7), (.move (.t 28)), none⟩] []) (.seq (.seq (.ops [⟨(some 29), (.move (.t 7)), none⟩, ⟨(some 30), (.bin .eql (.t 29) (.c (.im (.int .i64 0)))), none⟩] []) (.cond (.t 30) (.seq (.ops [⟨(some 31), (.call (.c (.clo 11 [])) []), none⟩, ⟨(some 4), (.move (.t 31)), none⟩] []) .ret) .skip)) (.seq (.seq (.ops [⟨(some 32), (.move (.t 6)), none⟩, ⟨(some 33), (.bin .lss (.t 32) (.c (.im (.int .i64 0)))), none⟩, ⟨(some 34), (.move (.t 33)), none⟩, ⟨(some 35), (.move (.t 6)), (some (34, false))⟩, ⟨(some 36), (.move (.t 0)), (some (34, false))⟩, ⟨(some 37), (.lenStr (.t 36)), (some (34, false))⟩, ⟨(some 38), (.bin .gtr (.t 35) (.t 37)), (some (34, false))⟩, ⟨(some 39), (.pick (.t 34) (.c (.im (.bool true))) (.t 38)), none⟩] []) (.cond (.t 39) (.seq (.ops [⟨(some 4), (.move (.c (.im (.bool false)))), none⟩] []) .ret) .skip)) (.seq (.ops [⟨(some 41), (.move (.t 0)), none⟩, ⟨(some 42), (.move (.t 6)), none⟩, ⟨(some 43), (.sliceStr (.t 41) none (some (.t 42))), none⟩, ⟨(some 44), (.call (.c (.clo 12 [])) [(.t 43)]), none⟩, ⟨(some 40), (.move (.t 44)), none⟩, ⟨(some 45), (.extract 0 (.t 40)), none⟩, ⟨(some 46), (.extract 1 (.t 40)), none⟩, ⟨(some 47), (.extract 2 (.t 40)), none⟩, ⟨(some 8), (.alloc none [(.im (.int .i64 0)), .nils]), none⟩, ⟨none, (.store 2 (.t 8) (.t 45)), none⟩, ⟨(some 9), (.move (.t 46)), none⟩, ⟨(some 10), (.move (.t 47)), none⟩] []) (.seq (.seq (.ops [⟨(some 48), (.move (.t 10)), none⟩, ⟨(some 49), (.bin .eql (.t 48) (.c (.im (.int .i64 0)))), none⟩, ⟨(some 50), (.move (.t 49)), none⟩, ⟨(some 51), (.move (.t 9)), (some (50, true))⟩, ⟨(some 52), (.bin .neq (.t 51) (.c (.im (.int .i64 0)))), (some (50, true))⟩, ⟨(some 53), (.pick (.t 50) (.t 52) (.c (.im (.bool false)))), none⟩, ⟨(some 54), (.move (.t 53)), none⟩, ⟨(some 55), (.move (.t 10)), (some (54, false))⟩, ⟨(some 56), (.bin .neq (.t 55) (.c (.im (.int .i64 0)))), (some (54, false))⟩, ⟨(some 57), (.move (.t 56)), (some (54, false))⟩, ⟨(some 58), (.move (.t 9)), (some (57, true))⟩, ⟨(some 59), (.move (.t 6)), (some (57, true))⟩, ⟨(some 60), (.bin .neq (.t 58) (.t 59)), (some (57, true))⟩, ⟨(some 61), (.pick (.t 57) (.t 60) (.c (.im (.bool false)))), (some (54, false))⟩, ⟨(some 62), (.pick (.t 54) (.c (.im (.bool true))) (.t 61)), none⟩] []) (.cond (.t 62) (.seq (.ops [⟨(some 4), (.move (.c (.im (.bool false)))), none⟩] []) .ret) .skip)) (.seq (.seq (.ops [⟨(some 63), (.move (.t 6)), none⟩, ⟨(some 64), (.move (.t 0)), none⟩, ⟨(some 65), (.lenStr (.t 64)), none⟩, ⟨(some 66), (.bin .lss (.t 63) (.t 65)), none⟩] []) (.cond (.t 66) (.seq (.ops [⟨(some 68), (.move (.t 0)), none⟩, ⟨(some 69), (.move (.t 6)), none⟩, ⟨(some 70), (.bin .add (.t 69) (.c (.im (.int .i64 1)))), none⟩, ⟨(some 71), (.sliceStr (.t 68) none (some (.t 70))), none⟩, ⟨(some 72), (.move (.t 1)), none⟩, ⟨(some 73), (.bin .add (.t 71) (.t 72)), none⟩, ⟨(some 74), (.call (.c (.clo 12 [])) [(.t 73)]), none⟩, ⟨(some 67), (.move (.t 74)), none⟩, ⟨(some 75), (.extract 0 (.t 67)), none⟩, ⟨(some 76), (.extract 1 (.t 67)), none⟩, ⟨(some 77), (.extract 2 (.t 67)), none⟩, ⟨(some 11), (.alloc none [(.im (.int .i64 0)), .nils]), none⟩, ⟨none, (.store 2 (.t 11) (.t 75)), none⟩, ⟨(some 12), (.move (.t 76)), none⟩, ⟨(some 13), (.move (.t 77)), none⟩] []) (.seq (.ops [⟨(some 78), (.move (.t 13)), none⟩, ⟨(some 79), (.bin .eql (.t 78) (.c (.im (.int .i64 0)))), none⟩, ⟨(some 80), (.move (.t 79)), none⟩, ⟨(some 81), (.move (.t 12)), (some (80, false))⟩, ⟨(some 82), (.move (.t 6)), (some (80, false))⟩, ⟨(some 83), (.bin .neq (.t 81) (.t 82)), (some (80, false))⟩, ⟨(some 84), (.pick (.t 80) (.c (.im (.bool true))) (.t 83)), none⟩] []) (.cond (.t 84) (.seq (.ops [⟨(some 4), (.move (.c (.im (.bool false)))), none⟩] []) .ret) .skip))) .skip)) (.seq (.ops [⟨(some 85), (.call (.c (.clo 11 [])) []), none⟩, ⟨(some 4), (.move (.t 85)), none⟩] []) .ret))))))))), false⟩
theorem F4 : F 4 = some f4 := by kernel_rfl
def f5 : AFunc := ⟨74, [(4, none)], (.seq (.ops [⟨(some 2), (.box none (.t 0)), none⟩, ⟨(some 4), (.move (.c (.im (.bool false)))), none⟩] []) (.seq (.seq (.ops [⟨(some 15), (.load (some 2) (.t 2)), none⟩, ⟨(some 16), (.call (.c (.clo 16 [])) [(.t 15)]), none⟩, ⟨(some 17), (.un .not (.t 16)), none⟩, ⟨(some 18), (.move (.t 17)), none⟩, ⟨(some 19), (.move (.t 1)), (some (18, false))⟩, ⟨(some 20), (.lenStr (.t 19)), (some (18, false))⟩, ⟨(some 21), (.bin .gtr (.t 20) (.c (.im (.int .i64 10000)))), (some (18, false))⟩, ⟨(some 22), (.pick (.t 18) (.c (.im (.bool true))) (.t 21)), none⟩] []) (.cond (.t 22) (.seq (.ops [⟨(some 23), (.call (.c (.clo 11 [])) []), none⟩, ⟨(some 4), (.move (.t 23)), none⟩] []) .ret) .skip)) (.seq (.ops [⟨(some 25), (.load (some 2) (.t 2)), none⟩, ⟨(some 26), (.call (.c (.clo 17 [])) [(.t 25)]), none⟩, ⟨(some 24), (.move (.t 26)), none⟩, ⟨(some 27), (.extract 0 (.t 24)), none⟩, ⟨(some 28), (.extract 1 (.t 24)), none⟩, ⟨(some 5), (.move (.t 27)), none⟩, ⟨(some 6), (.move (.t 28)), none⟩] []) (.seq (.seq (.ops [⟨(some 29), (.move (.t 6)), none⟩, ⟨(some 30), (.bin .eql (.t 29) (.c (.im (.int .i64 0)))), none⟩] []) (.cond (.t 30) (.seq (.ops [⟨(some 32), (.move (.t 5)), none⟩, ⟨(some 33), (.call (.c (.clo 12 [])) [(.t 32)]), none⟩, ⟨(some 31), (.move (.t 33)), none⟩, ⟨(some 34), (.extract 0 (.t 31)), none⟩, ⟨(some 35), (.extract 1 (.t 31)), none⟩, ⟨(some 36), (.extract 2 (.t 31)), none⟩, ⟨(some 7), (.alloc none [(.im (.int .i64 0)), .nils]), none⟩, ⟨none, (.store 2 (.t 7) (.t 34)), none⟩, ⟨(some 8), (.move (.t 35)), none⟩, ⟨(some 9), (.move (.t 36)), none⟩] []) (.seq (.ops [⟨(some 37), (.move (.t 9)), none⟩, ⟨(some 38), (.bin .neq (.t 37) (.c (.im (.int .i64 0)))), none⟩, ⟨(some 39), (.move (.t 38)), none⟩, ⟨(some 40), (.load (some 2) (.t 2)), (some (39, false))⟩, ⟨(some 41), (.load (some 2) (.t 7)), (some (39, false))⟩, ⟨(some 42), (.call (.c (.clo 18 [])) [(.t 40), (.t 41)]), (some (39, false))⟩, ⟨(some 43), (.un .not (.t 42)), (some (39, false))⟩, ⟨(some 44), (.pick (.t 39) (.c (.im (.bool true))) (.t 43)), none⟩] []) (.cond (.t 44) (.seq (.ops [⟨(some 4), (.move (.c (.im (.bool false)))), none⟩] []) .ret) .skip))) .skip)) (.seq (.ops [⟨(some 46), (.move (.t 1)), none⟩, ⟨(some 47), (.call (.c (.clo 12 [])) [(.t 46)]), none⟩, ⟨(some 45), (.move (.t 47)), none⟩, ⟨(some 48), (.extract 0 (.t 45)), none⟩, ⟨(some 49), (.extract 1 (.t 45)), none⟩, ⟨(some 50), (.extract 2 (.t 45)), none⟩, ⟨(some 10), (.alloc none [(.im (.int .i64 0)), .nils]), none⟩, ⟨none, (.store 2 (.t 10) (.t 48)), none⟩, ⟨(some 11), (.move (.t 49)), none⟩, ⟨(some 12), (.move (.t 50)), none⟩] []) (.seq (.seq (.ops [⟨(some 51), (.move (.t 12)), none⟩, ⟨(some 52), (.bin .neq (.t 51) (.c (.im (.int .i64 0)))), none⟩] []) (.cond (.t 52) (.seq (.ops [⟨(some 53), (.call (.c (.clo 11 [])) []), none⟩, ⟨(some 4), (.move (.t 53)), none⟩] []) .ret) .skip)) (.seq (.ops [⟨(some 55), (.load (some 2) (.t 10)), none⟩, ⟨(some 56), (.call (.c (.clo 17 [])) [(.t 55)]), none⟩, ⟨(some 54), (.move (.t 56)), none⟩, ⟨(some 57), (.extract 0 (.t 54)), none⟩, ⟨(some 58), (.extract 1 (.t 54)), none⟩, ⟨(some 13), (.move (.t 57)), none⟩, ⟨(some 14), (.move (.t 58)), none⟩] []) (.seq (.ops [⟨(some 59), (.move (.t 14)), none⟩, ⟨(some 60), (.bin .eql (.t 59) (.c (.im (.int .i64 0)))), none⟩, ⟨(some 61), (.move (.t 60)), none⟩, ⟨(some 62), (.move (.t 13)), (some (61, true))⟩, ⟨(some 63), (.move (.t 1)), (some (61, true))⟩, ⟨(some 64), (.bin .eql (.t 62) (.t 63)), (some (61, true))⟩, ⟨(some 65), (.pick (.t 61) (.t 64) (.c (.im (.bool false)))), none⟩, ⟨(some 66), (.move (.t 65)), none⟩, ⟨(some 67), (.load (some 2) (.t 10)), (some (66, true))⟩, ⟨(some 68), (.call (.c (.clo 19 [])) [(.t 67)]), (some (66, true))⟩, ⟨(some 69), (.bin .eql (.t 68) (.c (.im (.int .i64 0)))), (some (66, true))⟩, ⟨(some 70), (.pick (.t 66) (.t 69) (.c (.im (.bool false)))), none⟩, ⟨(some 71), (.move (.t 70)), none⟩, ⟨(some 72), (.call (.c (.clo 11 [])) []), (some (71, true))⟩, ⟨(some 73), (.pick (.t 71) (.t 72) (.c (.im (.bool false)))), none⟩, ⟨(some 4), (.move (.t 73)), none⟩] []) .ret)))))))), false⟩
theorem F5 : F 5 = some f5 := by kernel_rfl
def b6_0 : ACode := (.seq (.ops [⟨(some 99), (.bin .lss (.t 98) (.t 97)), none⟩] []) (.seq (.cond (.t 99) .skip (.exit 2)) (.seq (.block 3 (.seq (.ops [⟨(some 100), (.move (.t 98)), none⟩, ⟨(some 101), (.indexSl 2 (.t 96) (.t 98)), none⟩, ⟨(some 102), (.load (some 2) (.t 101)), none⟩, ⟨(some 18), (.alloc none [(.im (.int .i64 0)), .nils]), none⟩, ⟨(some 17), (.move (.t 100)), none⟩, ⟨none, (.store 2 (.t 18) (.t 102)), none⟩] []) (.seq (.ops [⟨(some 104), (.load (some 2) (.t 18)), none⟩, ⟨(some 105), (.call (.c (.clo 17 [])) [(.t 104)]), none⟩, ⟨(some 103), (.move (.t 105)), none⟩, ⟨(some 106), (.extract 0 (.t 103)), none⟩, ⟨(some 107), (.extract 1 (.t 103)), none⟩, ⟨(some 19), (.move (.t 106)), none⟩, ⟨(some 20), (.move (.t 107)), none⟩] []) (.ops [⟨(some 108), (.move (.t 14)), none⟩, ⟨(some 109), (.bslice false 1 2 [(.im (.str []))] [(0, (.c (.im (.str [40])))), (1, (.c (.im (.str [44]))))]), none⟩, ⟨(some 110), (.move (.t 17)), none⟩, ⟨(some 111), (.min (.t 110) (.c (.im (.int .i64 1)))), none⟩, ⟨(some 112), (.indexSl 1 (.t 109) (.t 111)), none⟩, ⟨(some 113), (.load none (.t 112)), none⟩, ⟨(some 114), (.move (.t 19)), none⟩, ⟨(some 115), (.bin .add (.t 113) (.t 114)), none⟩, ⟨(some 116), (.bin .add (.t 108) (.t 115)), none⟩, ⟨(some 14), (.move (.t 116)), none⟩] [])))) (.ops [⟨(some 117), (.bin .add (.t 98) (.c (.im (.int .i64 1)))), none⟩, ⟨(some 98), (.move (.t 117)), none⟩] []))))
def c6_0 : ACode := .loop b6_0
theorem e6_0 {R : Type} (Φ : Oracle) (Λ' : ACode → List AV → Heap → Option Out) (tm : List AV) (H : Heap) (K : AEx → List AV → Heap → Option R) : exec0 Φ Λ' c6_0 tm H K = thenL (Λ' c6_0 tm H) K := rfl
theorem l6_0 (tm : List AV) (H : Heap) : Λ c6_0 tm H = exec0 L Λ b6_0 tm H fun e tm H => match e with
    | .normal => Λ c6_0 tm H
    | .exit i => some (.exit i, tm, H)
    | .goto l => some (.goto l, tm, H)
    | .ret => some (.ret, tm, H) := loop_eq
def b6_1 : ACode := (.seq (.ops [⟨(some 30), (.bin .lss (.t 29) (.t 28)), none⟩] []) (.seq (.cond (.t 30) .skip (.exit 0)) (.seq (.block 1 (.seq (.ops [⟨(some 31), (.indexSl 2 (.t 27) (.t 29)), none⟩, ⟨(some 32), (.load (some 2) (.t 31)), none⟩, ⟨(some 7), (.alloc none [(.im (.int .i64 0)), .nils]), none⟩, ⟨none, (.store 2 (.t 7) (.t 32)), none⟩] []) (.seq (.seq (.ops [⟨(some 33), (.load (some 2) (.t 7)), none⟩, ⟨(some 34), (.call (.c (.clo 16 [])) [(.t 33)]), none⟩, ⟨(some 35), (.un .not (.t 34)), none⟩] []) (.cond (.t 35) (.seq (.ops [⟨(some 36), (.call (.c (.clo 11 [])) []), none⟩, ⟨(some 4), (.move (.t 36)), none⟩] []) .ret) .skip)) (.seq (.ops [⟨(some 38), (.load (some 2) (.t 7)), none⟩, ⟨(some 39), (.call (.c (.clo 20 [])) [(.t 38)]), none⟩, ⟨(some 37), (.move (.t 39)), none⟩, ⟨(some 40), (.extract 0 (.t 37)), none⟩, ⟨(some 41), (.extract 1 (.t 37)), none⟩, ⟨(some 8), (.move (.t 40)), none⟩, ⟨(some 9), (.move (.t 41)), none⟩] []) (.seq (.seq (.ops [⟨(some 42), (.move (.t 9)), none⟩, ⟨(some 43), (.bin .neq (.t 42) (.c (.im (.int .i64 0)))), none⟩] []) (.cond (.t 43) (.seq (.ops [⟨(some 45), (.move (.t 0)), none⟩, ⟨(some 46), (.move (.t 1)), none⟩, ⟨(some 47), (.call (.c (.clo 21 [])) [(.t 45), (.t 46)]), none⟩, ⟨(some 44), (.move (.t 47)), none⟩, ⟨(some 48), (.extract 0 (.t 44)), none⟩, ⟨(some 49), (.extract 1 (.t 44)), none⟩, ⟨(some 10), (.alloc none [(.im (.int .i64 0)), .nils]), none⟩, ⟨none, (.store 2 (.t 10) (.t 48)), none⟩, ⟨(some 11), (.move (.t 49)), none⟩] []) (.seq (.ops [⟨(some 50), (.move (.t 11)), none⟩, ⟨(some 51), (.bin .eql (.t 50) (.c (.im (.int .i64 20)))), none⟩, ⟨(some 52), (.move (.t 51)), none⟩, ⟨(some 53), (.call (.c (.clo 11 [])) []), (some (52, true))⟩, ⟨(some 54), (.pick (.t 52) (.t 53) (.c (.im (.bool false)))), none⟩, ⟨(some 4), (.move (.t 54)), none⟩] []) .ret)) .skip)) (.ops [⟨(some 55), (.move (.t 5)), none⟩, ⟨(some 56), (.move (.t 8)), none⟩, ⟨(some 57), (.max (.t 55) (.t 56)), none⟩, ⟨(some 5), (.move (.t 57)), none⟩] [])))))) (.ops [⟨(some 58), (.bin .add (.t 29) (.c (.im (.int .i64 1)))), none⟩, ⟨(some 29), (.move (.t 58)), none⟩] []))))
def c6_1 : ACode := .loop b6_1
theorem e6_1 {R : Type} (Φ : Oracle) (Λ' : ACode → List AV → Heap → Option Out) (tm : List AV) (H : Heap) (K : AEx → List AV → Heap → Option R) : exec0 Φ Λ' c6_1 tm H K = thenL (Λ' c6_1 tm H) K := rfl
theorem l6_1 (tm : List AV) (H : Heap) : Λ c6_1 tm H = exec0 L Λ b6_1 tm H fun e tm H => match e with
    | .normal => Λ c6_1 tm H
    | .exit i => some (.exit i, tm, H)
    | .goto l => some (.goto l, tm, H)
    | .ret => some (.ret, tm, H) := loop_eq
def f6 : AFunc := ⟨152, [(4, none)], (.seq (.ops [⟨(some 4), (.move (.c (.im (.bool false)))), none⟩] []) (.seq (.seq (.ops [⟨(some 23), (.move (.t 1)), none⟩, ⟨(some 24), (.lenSl (.t 23)), none⟩, ⟨(some 25), (.bin .gtr (.t 24) (.c (.im (.int .i64 4)))), none⟩] []) (.cond (.t 25) (.seq (.ops [⟨(some 26), (.call (.c (.clo 11 [])) []), none⟩, ⟨(some 4), (.move (.t 26)), none⟩] []) .ret) .skip)) (.seq (.ops [⟨(some 5), (.move (.c (.im (.int .i64 0)))), none⟩] []) (.seq (.seq (.ops [⟨(some 27), (.move (.t 1)), none⟩, ⟨(some 28), (.lenSl (.t 27)), none⟩, ⟨(some 29), (.move (.c (.im (.int .i64 0)))), none⟩] []) (.block 0 c6_1)) (.seq (.ops [⟨(some 60), (.move (.t 0)), none⟩, ⟨(some 61), (.move (.t 1)), none⟩, ⟨(some 62), (.call (.c (.clo 21 [])) [(.t 60), (.t 61)]), none⟩, ⟨(some 59), (.move (.t 62)), none⟩, ⟨(some 63), (.extract 0 (.t 59)), none⟩, ⟨(some 64), (.extract 1 (.t 59)), none⟩, ⟨(some 12), (.alloc none [(.im (.int .i64 0)), .nils]), none⟩, ⟨none, (.store 2 (.t 12) (.t 63)), none⟩, ⟨(some 13), (.move (.t 64)), none⟩] []) (.seq (.ops [⟨(some 65), (.move (.t 0)), none⟩, ⟨(some 66), (.call (.c (.clo 22 [])) [(.t 65)]), none⟩, ⟨(some 14), (.move (.t 66)), none⟩] []) (.seq (.seq (.ops [⟨(some 67), (.move (.t 14)), none⟩, ⟨(some 68), (.bin .eql (.t 67) (.c (.im (.str [])))), none⟩, ⟨(some 69), (.move (.t 68)), none⟩, ⟨(some 70), (.move (.t 1)), (some (69, false))⟩, ⟨(some 71), (.lenSl (.t 70)), (some (69, false))⟩, ⟨(some 72), (.move (.t 0)), (some (69, false))⟩, ⟨(some 73), (.call (.c (.clo 23 [])) [(.t 72)]), (some (69, false))⟩, ⟨(some 74), (.bin .neq (.t 71) (.t 73)), (some (69, false))⟩, ⟨(some 75), (.pick (.t 69) (.c (.im (.bool true))) (.t 74)), none⟩, ⟨(some 76), (.move (.t 75)), none⟩, ⟨(some 77), (.move (.t 5)), (some (76, false))⟩, ⟨(some 78), (.bin .add (.t 77) (.c (.im (.int .i64 1)))), (some (76, false))⟩, ⟨(some 79), (.bin .gtr (.t 78) (.c (.im (.int .i64 6)))), (some (76, false))⟩, ⟨(some 80), (.pick (.t 76) (.c (.im (.bool true))) (.t 79)), none⟩] []) (.cond (.t 80) (.seq (.ops [⟨(some 81), (.move (.t 13)), none⟩, ⟨(some 82), (.bin .eql (.t 81) (.c (.im (.int .i64 20)))), none⟩, ⟨(some 83), (.move (.t 82)), none⟩, ⟨(some 84), (.fieldAddr 0 (.t 12)), (some (83, true))⟩, ⟨(some 85), (.load none (.t 84)), (some (83, true))⟩, ⟨(some 86), (.bin .eql (.t 85) (.c (.im (.int .i64 0)))), (some (83, true))⟩, ⟨(some 87), (.pick (.t 83) (.t 86) (.c (.im (.bool false)))), none⟩, ⟨(some 88), (.move (.t 87)), none⟩, ⟨(some 89), (.call (.c (.clo 11 [])) []), (some (88, true))⟩, ⟨(some 90), (.pick (.t 88) (.t 89) (.c (.im (.bool false)))), none⟩, ⟨(some 4), (.move (.t 90)), none⟩] []) .ret) .skip)) (.seq (.ops [⟨(some 92), (.load (some 2) (.t 12)), none⟩, ⟨(some 93), (.call (.c (.clo 20 [])) [(.t 92)]), none⟩, ⟨(some 91), (.move (.t 93)), none⟩, ⟨(some 94), (.extract 0 (.t 91)), none⟩, ⟨(some 95), (.extract 1 (.t 91)), none⟩, ⟨(some 15), (.move (.t 94)), none⟩, ⟨(some 16), (.move (.t 95)), none⟩] []) (.seq (.seq (.ops [⟨(some 96), (.move (.t 1)), none⟩, ⟨(some 97), (.lenSl (.t 96)), none⟩, ⟨(some 98), (.move (.c (.im (.int .i64 0)))), none⟩] []) (.block 2 c6_0)) (.seq (.seq (.ops [⟨(some 118), (.move (.t 1)), none⟩, ⟨(some 119), (.lenSl (.t 118)), none⟩, ⟨(some 120), (.bin .gtr (.t 119) (.c (.im (.int .i64 0)))), none⟩] []) (.cond (.t 120) (.ops [⟨(some 121), (.move (.t 14)), none⟩, ⟨(some 122), (.bin .add (.t 121) (.c (.im (.str [41])))), none⟩, ⟨(some 14), (.move (.t 122)), none⟩] []) .skip)) (.seq (.ops [⟨(some 124), (.load (some 2) (.t 12)), none⟩, ⟨(some 125), (.call (.c (.clo 17 [])) [(.t 124)]), none⟩, ⟨(some 123), (.move (.t 125)), none⟩, ⟨(some 126), (.extract 0 (.t 123)), none⟩, ⟨(some 127), (.extract 1 (.t 123)), none⟩, ⟨(some 21), (.move (.t 126)), none⟩, ⟨(some 22), (.move (.t 127)), none⟩] []) (.seq (.ops [⟨(some 128), (.move (.t 13)), none⟩, ⟨(some 129), (.bin .eql (.t 128) (.c (.im (.int .i64 0)))), none⟩, ⟨(some 130), (.move (.t 129)), none⟩, ⟨(some 131), (.move (.t 16)), (some (130, true))⟩, ⟨(some 132), (.bin .eql (.t 131) (.c (.im (.int .i64 0)))), (some (130, true))⟩, ⟨(some 133), (.pick (.t 130) (.t 132) (.c (.im (.bool false)))), none⟩, ⟨(some 134), (.move (.t 133)), none⟩, ⟨(some 135), (.move (.t 22)), (some (134, true))⟩, ⟨(some 136), (.bin .eql (.t 135) (.c (.im (.int .i64 0)))), (some (134, true))⟩, ⟨(some 137), (.pick (.t 134) (.t 136) (.c (.im (.bool false)))), none⟩, ⟨(some 138), (.move (.t 137)), none⟩, ⟨(some 139), (.move (.t 15)), (some (138, true))⟩, ⟨(some 140), (.move (.t 5)), (some (138, true))⟩, ⟨(some 141), (.bin .add (.t 140) (.c (.im (.int .i64 1)))), (some (138, true))⟩, ⟨(some 142), (.bin .eql (.t 139) (.t 141)), (some (138, true))⟩, ⟨(some 143), (.pick (.t 138) (.t 142) (.c (.im (.bool false)))), none⟩, ⟨(some 144), (.move (.t 143)), none⟩, ⟨(some 145), (.move (.t 21)), (some (144, true))⟩, ⟨(some 146), (.move (.t 14)), (some (144, true))⟩, ⟨(some 147), (.bin .eql (.t 145) (.t 146)), (some (144, true))⟩, ⟨(some 148), (.pick (.t 144) (.t 147) (.c (.im (.bool false)))), none⟩, ⟨(some 149), (.move (.t 148)), none⟩, ⟨(some 150), (.call (.c (.clo 11 [])) []), (some (149, true))⟩, ⟨(some 151), (.pick (.t 149) (.t 150) (.c (.im (.bool false)))), none⟩, ⟨(some 4), (.move (.t 151)), none⟩] []) .ret)))))))))))), false⟩
theorem F6 : F 6 = some f6 := by kernel_rfl
def f11 : AFunc := ⟨46, [(0, none)], (.seq (.ops [⟨(some 0), (.move (.c (.im (.bool false)))), none⟩] []) (.seq (.ops [⟨(some 10), (.call (.c (.clo 12 [])) [(.c (.im (.str [112, 97, 105, 114, 40, 105, 110, 116, 44, 108, 105, 115, 116, 40, 116, 101, 120, 116, 41, 41])))]), none⟩, ⟨(some 9), (.move (.t 10)), none⟩, ⟨(some 11), (.extract 0 (.t 9)), none⟩, ⟨(some 12), (.extract 1 (.t 9)), none⟩, ⟨(some 13), (.extract 2 (.t 9)), none⟩, ⟨(some 1), (.alloc none [(.im (.int .i64 0)), .nils]), none⟩, ⟨none, (.store 2 (.t 1) (.t 11)), none⟩, ⟨(some 2), (.move (.t 12)), none⟩, ⟨(some 3), (.move (.t 13)), none⟩] []) (.seq (.ops [⟨(some 15), (.load (some 2) (.t 1)), none⟩, ⟨(some 16), (.call (.c (.clo 17 [])) [(.t 15)]), none⟩, ⟨(some 14), (.move (.t 16)), none⟩, ⟨(some 17), (.extract 0 (.t 14)), none⟩, ⟨(some 18), (.extract 1 (.t 14)), none⟩, ⟨(some 4), (.move (.t 17)), none⟩, ⟨(some 5), (.move (.t 18)), none⟩] []) (.seq (.ops [⟨(some 20), (.call (.c (.clo 12 [])) [(.c (.im (.str [108, 105, 115, 116, 40, 105, 109, 116, 41])))]), none⟩, ⟨(some 19), (.move (.t 20)), none⟩, ⟨(some 21), (.extract 0 (.t 19)), none⟩, ⟨(some 22), (.extract 1 (.t 19)), none⟩, ⟨(some 23), (.extract 2 (.t 19)), none⟩, ⟨(some 6), (.alloc none [(.im (.int .i64 0)), .nils]), none⟩, ⟨none, (.store 2 (.t 6) (.t 21)), none⟩, ⟨(some 7), (.move (.t 22)), none⟩, ⟨(some 8), (.move (.t 23)), none⟩] []) (.seq (.ops [⟨(some 24), (.move (.t 3)), none⟩, ⟨(some 25), (.bin .eql (.t 24) (.c (.im (.int .i64 0)))), none⟩, ⟨(some 26), (.move (.t 25)), none⟩, ⟨(some 27), (.move (.t 5)), (some (26, true))⟩, ⟨(some 28), (.bin .eql (.t 27) (.c (.im (.int .i64 0)))), (some (26, true))⟩, ⟨(some 29), (.pick (.t 26) (.t 28) (.c (.im (.bool false)))), none⟩, ⟨(some 30), (.move (.t 29)), none⟩, ⟨(some 31), (.move (.t 2)), (some (30, true))⟩, ⟨(some 32), (.bin .eql (.t 31) (.c (.im (.int .i64 0)))), (some (30, true))⟩, ⟨(some 33), (.pick (.t 30) (.t 32) (.c (.im (.bool false)))), none⟩, ⟨(some 34), (.move (.t 33)), none⟩, ⟨(some 35), (.move (.t 4)), (some (34, true))⟩, ⟨(some 36), (.bin .eql (.t 35) (.c (.im (.str [112, 97, 105, 114, 40, 105, 110, 116, 44, 108, 105, 115, 116, 40, 116, 101, 120, 116, 41, 41])))), (some (34, true))⟩, ⟨(some 37), (.pick (.t 34) (.t 36) (.c (.im (.bool false)))), none⟩, ⟨(some 38), (.move (.t 37)), none⟩, ⟨(some 39), (.move (.t 7)), (some (38, true))⟩, ⟨(some 40), (.bin .eql (.t 39) (.c (.im (.int .i64 6)))), (some (38, true))⟩, ⟨(some 41), (.pick (.t 38) (.t 40) (.c (.im (.bool false)))), none⟩, ⟨(some 42), (.move (.t 41)), none⟩, ⟨(some 43), (.move (.t 8)), (some (42, true))⟩, ⟨(some 44), (.bin .eql (.t 43) (.c (.im (.int .i64 40)))), (some (42, true))⟩, ⟨(some 45), (.pick (.t 42) (.t 44) (.c (.im (.bool false)))), none⟩, ⟨(some 0), (.move (.t 45)), none⟩] []) .ret))))), false⟩
theorem F11 : F 11 = some f11 := by kernel_rfl
def f12 : AFunc := ⟨32, [(2, (some (some 2))), (3, none), (4, none)], (.seq (.ops [⟨(some 2), (.alloc none [(.im (.int .i64 0)), .nils]), none⟩, ⟨(some 3), (.move (.c (.im (.int .i64 0)))), none⟩, ⟨(some 4), (.move (.c (.im (.int .i64 0)))), none⟩] []) (.seq (.ops [⟨(some 7), (.move (.t 0)), none⟩, ⟨(some 8), (.build [(.im (.str [])), (.im (.int .i64 0))] [(0, (1, (.t 7)))]), none⟩, ⟨(some 9), (.box none (.t 8)), none⟩, ⟨(some 5), (.move (.t 9)), none⟩] []) (.seq (.ops [⟨(some 11), (.move (.t 5)), none⟩, ⟨(some 12), (.call (.c (.clo 45 [])) [(.t 11), (.c (.im (.int .i64 6)))]), none⟩, ⟨(some 10), (.move (.t 12)), none⟩, ⟨(some 13), (.extract 0 (.t 10)), none⟩, ⟨(some 14), (.extract 1 (.t 10)), none⟩, ⟨none, (.store 2 (.t 2) (.t 13)), none⟩, ⟨(some 6), (.move (.t 14)), none⟩] []) (.seq (.seq (.ops [⟨(some 15), (.move (.t 6)), none⟩, ⟨(some 16), (.un .not (.t 15)), none⟩, ⟨(some 17), (.move (.t 16)), none⟩, ⟨(some 18), (.move (.t 5)), (some (17, false))⟩, ⟨(some 19), (.nilCheck (.t 18)), (some (17, false))⟩, ⟨(some 20), (.fieldAddr 1 (.t 19)), (some (17, false))⟩, ⟨(some 21), (.load none (.t 20)), (some (17, false))⟩, ⟨(some 22), (.move (.t 0)), (some (17, false))⟩, ⟨(some 23), (.lenStr (.t 22)), (some (17, false))⟩, ⟨(some 24), (.bin .lss (.t 21) (.t 23)), (some (17, false))⟩, ⟨(some 25), (.pick (.t 17) (.c (.im (.bool true))) (.t 24)), none⟩] []) (.cond (.t 25) (.seq (.ops [⟨(some 26), (.build [(.im (.int .i64 0)), .nils] []), none⟩, ⟨(some 27), (.move (.t 5)), none⟩, ⟨(some 28), (.nilCheck (.t 27)), none⟩, ⟨(some 29), (.fieldAddr 1 (.t 28)), none⟩, ⟨(some 30), (.load none (.t 29)), none⟩, ⟨none, (.store 2 (.t 2) (.t 26)), none⟩, ⟨(some 3), (.move (.t 30)), none⟩, ⟨(some 4), (.move (.c (.im (.int .i64 40)))), none⟩] [(4, 5)]) .ret) .skip)) (.seq (.ops [⟨(some 31), (.load (some 2) (.t 2)), none⟩, ⟨none, (.store 2 (.t 2) (.t 31)), none⟩, ⟨(some 3), (.move (.c (.im (.int .i64 0)))), none⟩, ⟨(some 4), (.move (.c (.im (.int .i64 0)))), none⟩] []) .ret))))), false⟩
theorem F12 : F 12 = some f12 := by kernel_rfl
def f13 : AFunc := ⟨25, [(2, (some (some 2))), (3, none), (4, none)], (.seq (.ops [⟨(some 2), (.alloc none [(.im (.int .i64 0)), .nils]), none⟩, ⟨(some 3), (.move (.c (.im (.int .i64 0)))), none⟩, ⟨(some 4), (.move (.c (.im (.bool false)))), none⟩] []) (.seq (.ops [⟨(some 9), (.move (.t 0)), none⟩, ⟨(some 10), (.call (.c (.clo 46 [])) [(.t 9), (.c (.im (.int .i64 0))), (.c (.im (.int .i64 6)))]), none⟩, ⟨(some 8), (.move (.t 10)), none⟩, ⟨(some 11), (.extract 0 (.t 8)), none⟩, ⟨(some 12), (.extract 1 (.t 8)), none⟩, ⟨(some 13), (.extract 2 (.t 8)), none⟩, ⟨(some 5), (.alloc none [(.im (.int .i64 0)), .nils]), none⟩, ⟨none, (.store 2 (.t 5) (.t 11)), none⟩, ⟨(some 6), (.move (.t 12)), none⟩, ⟨(some 7), (.move (.t 13)), none⟩] []) (.seq (.seq (.ops [⟨(some 14), (.move (.t 7)), none⟩, ⟨(some 15), (.un .not (.t 14)), none⟩, ⟨(some 16), (.move (.t 15)), none⟩, ⟨(some 17), (.move (.t 6)), (some (16, false))⟩, ⟨(some 18), (.move (.t 0)), (some (16, false))⟩, ⟨(some 19), (.lenStr (.t 18)), (some (16, false))⟩, ⟨(some 20), (.bin .lss (.t 17) (.t 19)), (some (16, false))⟩, ⟨(some 21), (.pick (.t 16) (.c (.im (.bool true))) (.t 20)), none⟩] []) (.cond (.t 21) (.seq (.ops [⟨(some 22), (.build [(.im (.int .i64 0)), .nils] []), none⟩, ⟨(some 23), (.move (.t 6)), none⟩, ⟨none, (.store 2 (.t 2) (.t 22)), none⟩, ⟨(some 3), (.move (.t 23)), none⟩, ⟨(some 4), (.move (.c (.im (.bool false)))), none⟩] []) .ret) .skip)) (.seq (.ops [⟨(some 24), (.load (some 2) (.t 5)), none⟩, ⟨none, (.store 2 (.t 2) (.t 24)), none⟩, ⟨(some 3), (.move (.c (.im (.int .i64 0)))), none⟩, ⟨(some 4), (.move (.c (.im (.bool true)))), none⟩] []) .ret)))), false⟩
theorem F13 : F 13 = some f13 := by kernel_rfl
def b14_0 : ACode := (.seq (.seq (.ops [⟨(some 20), (.move (.t 5)), none⟩, ⟨(some 21), (.fieldAddr 1 (.t 2)), none⟩, ⟨(some 22), (.load none (.t 21)), none⟩, ⟨(some 23), (.lenSl (.t 22)), none⟩, ⟨(some 24), (.bin .lss (.t 20) (.t 23)), none⟩] []) (.cond (.t 24) .skip (.exit 0))) (.seq (.block 1 (.seq (.ops [⟨(some 27), (.fieldAddr 1 (.t 2)), none⟩, ⟨(some 28), (.load none (.t 27)), none⟩, ⟨(some 29), (.move (.t 5)), none⟩, ⟨(some 30), (.indexSl 2 (.t 28) (.t 29)), none⟩, ⟨(some 31), (.load (some 2) (.t 30)), none⟩, ⟨(some 32), (.fieldAddr 1 (.t 3)), none⟩, ⟨(some 33), (.load none (.t 32)), none⟩, ⟨(some 34), (.move (.t 5)), none⟩, ⟨(some 35), (.indexSl 2 (.t 33) (.t 34)), none⟩, ⟨(some 36), (.load (some 2) (.t 35)), none⟩, ⟨(some 37), (.call (.c (.clo 14 [])) [(.t 31), (.t 36)]), none⟩, ⟨(some 38), (.un .not (.t 37)), none⟩] []) (.cond (.t 38) (.seq (.ops [⟨(some 4), (.move (.c (.im (.bool false)))), none⟩] []) .ret) .skip))) (.ops [⟨(some 25), (.move (.t 5)), none⟩, ⟨(some 26), (.bin .add (.t 25) (.c (.im (.int .i64 1)))), none⟩, ⟨(some 5), (.move (.t 26)), none⟩] [])))
def c14_0 : ACode := .loop b14_0
theorem e14_0 {R : Type} (Φ : Oracle) (Λ' : ACode → List AV → Heap → Option Out) (tm : List AV) (H : Heap) (K : AEx → List AV → Heap → Option R) : exec0 Φ Λ' c14_0 tm H K = thenL (Λ' c14_0 tm H) K := rfl
theorem l14_0 (tm : List AV) (H : Heap) : Λ c14_0 tm H = exec0 L Λ b14_0 tm H fun e tm H => match e with
    | .normal => Λ c14_0 tm H
    | .exit i => some (.exit i, tm, H)
    | .goto l => some (.goto l, tm, H)
    | .ret => some (.ret, tm, H) := loop_eq
def f14 : AFunc := ⟨39, [(4, none)], (.seq (.ops [⟨(some 2), (.box none (.t 0)), none⟩, ⟨(some 3), (.box none (.t 1)), none⟩, ⟨(some 4), (.move (.c (.im (.bool false)))), none⟩] []) (.seq (.seq (.ops [⟨(some 6), (.fieldAddr 0 (.t 2)), none⟩, ⟨(some 7), (.load none (.t 6)), none⟩, ⟨(some 8), (.fieldAddr 0 (.t 3)), none⟩, ⟨(some 9), (.load none (.t 8)), none⟩, ⟨(some 10), (.bin .neq (.t 7) (.t 9)), none⟩, ⟨(some 11), (.move (.t 10)), none⟩, ⟨(some 12), (.fieldAddr 1 (.t 2)), (some (11, false))⟩, ⟨(some 13), (.load none (.t 12)), (some (11, false))⟩, ⟨(some 14), (.lenSl (.t 13)), (some (11, false))⟩, ⟨(some 15), (.fieldAddr 1 (.t 3)), (some (11, false))⟩, ⟨(some 16), (.load none (.t 15)), (some (11, false))⟩, ⟨(some 17), (.lenSl (.t 16)), (some (11, false))⟩, ⟨(some 18), (.bin .neq (.t 14) (.t 17)), (some (11, false))⟩, ⟨(some 19), (.pick (.t 11) (.c (.im (.bool true))) (.t 18)), none⟩] []) (.cond (.t 19) (.seq (.ops [⟨(some 4), (.move (.c (.im (.bool false)))), none⟩] []) .ret) .skip)) (.seq (.seq (.ops [⟨(some 5), (.move (.c (.im (.int .i64 0)))), none⟩] []) (.block 0 c14_0)) (.seq (.ops [⟨(some 4), (.move (.c (.im (.bool true)))), none⟩] []) .ret)))), false⟩
theorem F14 : F 14 = some f14 := by kernel_rfl
def b15_0 : ACode := (.seq (.ops [⟨(some 10), (.bin .lss (.t 9) (.t 8)), none⟩] []) (.seq (.cond (.t 10) .skip (.exit 0)) (.seq (.block 1 (.seq (.ops [⟨(some 11), (.indexSl 2 (.t 7) (.t 9)), none⟩, ⟨(some 12), (.load (some 2) (.t 11)), none⟩, ⟨(some 5), (.alloc none [(.im (.int .i64 0)), .nils]), none⟩, ⟨none, (.store 2 (.t 5) (.t 12)), none⟩] []) (.ops [⟨(some 13), (.move (.t 3)), none⟩, ⟨(some 14), (.load (some 2) (.t 5)), none⟩, ⟨(some 15), (.call (.c (.clo 15 [])) [(.t 14)]), none⟩, ⟨(some 16), (.bslice false 2 1 [(.im (.int .i64 0)), .nils] [(0, (.t 15))]), none⟩, ⟨(some 17), (.append 31 32 2 (.t 13) (.t 16)), none⟩, ⟨(some 3), (.move (.t 17)), none⟩] []))) (.ops [⟨(some 18), (.bin .add (.t 9) (.c (.im (.int .i64 1)))), none⟩, ⟨(some 9), (.move (.t 18)), none⟩] []))))
def c15_0 : ACode := .loop b15_0
theorem e15_0 {R : Type} (Φ : Oracle) (Λ' : ACode → List AV → Heap → Option Out) (tm : List AV) (H : Heap) (K : AEx → List AV → Heap → Option R) : exec0 Φ Λ' c15_0 tm H K = thenL (Λ' c15_0 tm H) K := rfl
theorem l15_0 (tm : List AV) (H : Heap) : Λ c15_0 tm H = exec0 L Λ b15_0 tm H fun e tm H => match e with
    | .normal => Λ c15_0 tm H
    | .exit i => some (.exit i, tm, H)
    | .goto l => some (.goto l, tm, H)
    | .ret => some (.ret, tm, H) := loop_eq
def f15 : AFunc := ⟨23, [(2, (some (some 2)))], (.seq (.ops [⟨(some 1), (.box none (.t 0)), none⟩, ⟨(some 2), (.alloc none [(.im (.int .i64 0)), .nils]), none⟩] []) (.seq (.ops [⟨(some 3), (.move (.c .nils)), none⟩] []) (.seq (.seq (.ops [⟨(some 6), (.fieldAddr 1 (.t 1)), none⟩, ⟨(some 7), (.load none (.t 6)), none⟩, ⟨(some 8), (.lenSl (.t 7)), none⟩, ⟨(some 9), (.move (.c (.im (.int .i64 0)))), none⟩] []) (.block 0 c15_0)) (.seq (.ops [⟨(some 19), (.fieldAddr 0 (.t 1)), none⟩, ⟨(some 20), (.load none (.t 19)), none⟩, ⟨(some 21), (.move (.t 3)), none⟩, ⟨(some 22), (.build [(.im (.int .i64 0)), .nils] [(0, (1, (.t 20))), (1, (1, (.t 21)))]), none⟩, ⟨none, (.store 2 (.t 2) (.t 22)), none⟩] []) .ret)))), false⟩
theorem F15 : F 15 = some f15 := by kernel_rfl
def f16 : AFunc := ⟨6, [(2, none)], (.seq (.ops [⟨(some 1), (.box none (.t 0)), none⟩, ⟨(some 2), (.move (.c (.im (.bool false)))), none⟩] []) (.seq (.ops [⟨(some 3), (.alloc none [(.im (.int .i64 0))]), none⟩, ⟨none, (.store 1 (.t 3) (.c (.im (.int .i64 2000)))), none⟩] []) (.seq (.ops [⟨(some 4), (.load (some 2) (.t 1)), none⟩, ⟨(some 5), (.call (.c (.clo 47 [])) [(.t 4), (.t 3), (.c (.im (.int .i64 30)))]), none⟩, ⟨(some 2), (.move (.t 5)), none⟩] []) .ret))), false⟩
theorem F16 : F 16 = some f16 := by kernel_rfl
def f17 : AFunc := ⟨18, [(2, none), (3, none)], (.seq (.ops [⟨(some 1), (.box none (.t 0)), none⟩, ⟨(some 2), (.move (.c (.im (.str [])))), none⟩, ⟨(some 3), (.move (.c (.im (.int .i64 0)))), none⟩] []) (.seq (.seq (.ops [⟨(some 6), (.load (some 2) (.t 1)), none⟩, ⟨(some 7), (.call (.c (.clo 19 [])) [(.t 6)]), none⟩, ⟨(some 4), (.move (.t 7)), none⟩] []) (.seq (.ops [⟨(some 8), (.move (.t 4)), none⟩, ⟨(some 9), (.bin .neq (.t 8) (.c (.im (.int .i64 0)))), none⟩] []) (.cond (.t 9) (.seq (.ops [⟨(some 10), (.move (.t 4)), none⟩, ⟨(some 2), (.move (.c (.im (.str [])))), none⟩, ⟨(some 3), (.move (.t 10)), none⟩] []) .ret) .skip))) (.seq (.ops [⟨(some 11), (.build [(.im .nilp), .nils] []), none⟩, ⟨(some 12), (.box (some 94) (.t 11)), none⟩, ⟨(some 5), (.move (.t 12)), none⟩] []) (.seq (.ops [⟨(some 13), (.move (.t 5)), none⟩, ⟨(some 14), (.load (some 2) (.t 1)), none⟩, ⟨(some 15), (.call (.c (.clo 48 [])) [(.t 13), (.t 14)]), none⟩] []) (.seq (.ops [⟨(some 16), (.move (.t 5)), none⟩, ⟨(some 17), (.call (.c (.clo 49 [])) [(.t 16)]), none⟩, ⟨(some 2), (.move (.t 17)), none⟩, ⟨(some 3), (.move (.c (.im (.int .i64 0)))), none⟩] []) .ret))))), false⟩
theorem F17 : F 17 = some f17 := by kernel_rfl
def f18 : AFunc := ⟨18, [(4, none)], (.seq (.ops [⟨(some 2), (.box none (.t 0)), none⟩, ⟨(some 3), (.box none (.t 1)), none⟩, ⟨(some 4), (.move (.c (.im (.bool false)))), none⟩] []) (.seq (.ops [⟨(some 5), (.load (some 2) (.t 2)), none⟩, ⟨(some 6), (.call (.c (.clo 19 [])) [(.t 5)]), none⟩, ⟨(some 7), (.bin .eql (.t 6) (.c (.im (.int .i64 0)))), none⟩, ⟨(some 8), (.move (.t 7)), none⟩, ⟨(some 9), (.load (some 2) (.t 3)), (some (8, true))⟩, ⟨(some 10), (.call (.c (.clo 19 [])) [(.t 9)]), (some (8, true))⟩, ⟨(some 11), (.bin .eql (.t 10) (.c (.im (.int .i64 0)))), (some (8, true))⟩, ⟨(some 12), (.pick (.t 8) (.t 11) (.c (.im (.bool false)))), none⟩, ⟨(some 13), (.move (.t 12)), none⟩, ⟨(some 14), (.load (some 2) (.t 2)), (some (13, true))⟩, ⟨(some 15), (.load (some 2) (.t 3)), (some (13, true))⟩, ⟨(some 16), (.call (.c (.clo 50 [])) [(.t 14), (.t 15)]), (some (13, true))⟩, ⟨(some 17), (.pick (.t 13) (.t 16) (.c (.im (.bool false)))), none⟩, ⟨(some 4), (.move (.t 17)), none⟩] []) .ret)), false⟩
theorem F18 : F 18 = some f18 := by kernel_rfl
def f19 : AFunc := ⟨6, [(2, none)], (.seq (.ops [⟨(some 1), (.box none (.t 0)), none⟩, ⟨(some 2), (.move (.c (.im (.int .i64 0)))), none⟩] []) (.seq (.seq (.ops [⟨(some 3), (.load (some 2) (.t 1)), none⟩, ⟨(some 4), (.call (.c (.clo 51 [])) [(.t 3), (.c (.im (.int .i64 6)))]), none⟩, ⟨(some 5), (.un .not (.t 4)), none⟩] []) (.cond (.t 5) (.seq (.ops [⟨(some 2), (.move (.c (.im (.int .i64 20)))), none⟩] []) .ret) .skip)) (.seq (.ops [⟨(some 2), (.move (.c (.im (.int .i64 0)))), none⟩] []) .ret))), false⟩
theorem F19 : F 19 = some f19 := by kernel_rfl
def f20 : AFunc := ⟨12, [(2, none), (3, none)], (.seq (.ops [⟨(some 1), (.box none (.t 0)), none⟩, ⟨(some 2), (.move (.c (.im (.int .i64 0)))), none⟩, ⟨(some 3), (.move (.c (.im (.int .i64 0)))), none⟩] []) (.seq (.seq (.ops [⟨(some 5), (.load (some 2) (.t 1)), none⟩, ⟨(some 6), (.call (.c (.clo 19 [])) [(.t 5)]), none⟩, ⟨(some 4), (.move (.t 6)), none⟩] []) (.seq (.ops [⟨(some 7), (.move (.t 4)), none⟩, ⟨(some 8), (.bin .neq (.t 7) (.c (.im (.int .i64 0)))), none⟩] []) (.cond (.t 8) (.seq (.ops [⟨(some 9), (.move (.t 4)), none⟩, ⟨(some 2), (.move (.c (.im (.int .i64 0)))), none⟩, ⟨(some 3), (.move (.t 9)), none⟩] []) .ret) .skip))) (.seq (.ops [⟨(some 10), (.load (some 2) (.t 1)), none⟩, ⟨(some 11), (.call (.c (.clo 52 [])) [(.t 10)]), none⟩, ⟨(some 2), (.move (.t 11)), none⟩, ⟨(some 3), (.move (.c (.im (.int .i64 0)))), none⟩] []) .ret))), false⟩
theorem F20 : F 20 = some f20 := by kernel_rfl
def f21 : AFunc := ⟨19, [(4, (some (some 2))), (5, none)], (.seq (.ops [⟨(some 4), (.alloc none [(.im (.int .i64 0)), .nils]), none⟩, ⟨(some 5), (.move (.c (.im (.int .i64 0)))), none⟩] []) (.seq (.ops [⟨(some 8), (.move (.t 0)), none⟩, ⟨(some 9), (.move (.t 1)), none⟩, ⟨(some 10), (.build [(.im (.int .i64 0)), .nils] [(0, (1, (.t 8))), (1, (1, (.t 9)))]), none⟩, ⟨(some 6), (.alloc none [(.im (.int .i64 0)), .nils]), none⟩, ⟨none, (.store 2 (.t 6) (.t 10)), none⟩] []) (.seq (.seq (.ops [⟨(some 11), (.load (some 2) (.t 6)), none⟩, ⟨(some 12), (.call (.c (.clo 19 [])) [(.t 11)]), none⟩, ⟨(some 7), (.move (.t 12)), none⟩] []) (.seq (.ops [⟨(some 13), (.move (.t 7)), none⟩, ⟨(some 14), (.bin .neq (.t 13) (.c (.im (.int .i64 0)))), none⟩] []) (.cond (.t 14) (.seq (.ops [⟨(some 15), (.build [(.im (.int .i64 0)), .nils] []), none⟩, ⟨(some 16), (.move (.t 7)), none⟩, ⟨none, (.store 2 (.t 4) (.t 15)), none⟩, ⟨(some 5), (.move (.t 16)), none⟩] []) .ret) .skip))) (.seq (.ops [⟨(some 17), (.load (some 2) (.t 6)), none⟩, ⟨(some 18), (.call (.c (.clo 53 [])) [(.t 17)]), none⟩, ⟨none, (.store 2 (.t 4) (.t 18)), none⟩, ⟨(some 5), (.move (.c (.im (.int .i64 0)))), none⟩] []) .ret)))), false⟩
theorem F21 : F 21 = some f21 := by kernel_rfl
def f22 : AFunc := ⟨20, [(2, none)], (.seq (.ops [⟨(some 2), (.move (.c (.im (.str [])))), none⟩] []) (.seq (.seq (.ops [⟨(some 3), (.move (.t 0)), none⟩] []) (.block 0 (.seq (.ops [⟨(some 5), (.bin .eql (.t 3) (.c (.im (.int .i64 1)))), none⟩, ⟨(some 4), (.move (.t 5)), none⟩] []) (.cond (.t 4) (.seq (.ops [⟨(some 2), (.move (.c (.im (.str [98, 111, 111, 108])))), none⟩] []) .ret) (.seq (.ops [⟨(some 7), (.bin .eql (.t 3) (.c (.im (.int .i64 2)))), none⟩, ⟨(some 6), (.move (.t 7)), none⟩] []) (.cond (.t 6) (.seq (.ops [⟨(some 2), (.move (.c (.im (.str [105, 110, 116])))), none⟩] []) .ret) (.seq (.ops [⟨(some 9), (.bin .eql (.t 3) (.c (.im (.int .i64 3)))), none⟩, ⟨(some 8), (.move (.t 9)), none⟩] []) (.cond (.t 8) (.seq (.ops [⟨(some 2), (.move (.c (.im (.str [116, 101, 120, 116])))), none⟩] []) .ret) (.seq (.ops [⟨(some 11), (.bin .eql (.t 3) (.c (.im (.int .i64 4)))), none⟩, ⟨(some 10), (.move (.t 11)), none⟩] []) (.cond (.t 10) (.seq (.ops [⟨(some 2), (.move (.c (.im (.str [98, 121, 116, 101, 115])))), none⟩] []) .ret) (.seq (.ops [⟨(some 13), (.bin .eql (.t 3) (.c (.im (.int .i64 5)))), none⟩, ⟨(some 12), (.move (.t 13)), none⟩] []) (.cond (.t 12) (.seq (.ops [⟨(some 2), (.move (.c (.im (.str [112, 111, 105, 110, 116])))), none⟩] []) .ret) (.seq (.ops [⟨(some 15), (.bin .eql (.t 3) (.c (.im (.int .i64 6)))), none⟩, ⟨(some 14), (.move (.t 15)), none⟩] []) (.cond (.t 14) (.seq (.ops [⟨(some 2), (.move (.c (.im (.str [112, 97, 105, 114])))), none⟩] []) .ret) (.seq (.ops [⟨(some 17), (.bin .eql (.t 3) (.c (.im (.int .i64 7)))), none⟩, ⟨(some 16), (.move (.t 17)), none⟩] []) (.cond (.t 16) (.seq (.ops [⟨(some 2), (.move (.c (.im (.str [108, 105, 115, 116])))), none⟩] []) .ret) (.seq (.ops [⟨(some 19), (.bin .eql (.t 3) (.c (.im (.int .i64 9)))), none⟩, ⟨(some 18), (.move (.t 19)), none⟩] []) (.cond (.t 18) (.seq (.ops [⟨(some 2), (.move (.c (.im (.str [111, 112, 116, 105, 111, 110])))), none⟩] []) .ret) .skip)))))))))))))))))) (.seq (.ops [⟨(some 2), (.move (.c (.im (.str [])))), none⟩] []) .ret))), false⟩
theorem F22 : F 22 = some f22 := by kernel_rfl
def f23 : AFunc := ⟨11, [(2, none)], (.seq (.ops [⟨(some 2), (.move (.c (.im (.int .i64 0)))), none⟩] []) (.seq (.seq (.ops [⟨(some 3), (.move (.t 0)), none⟩, ⟨(some 4), (.bin .eql (.t 3) (.c (.im (.int .i64 6)))), none⟩] []) (.cond (.t 4) (.seq (.ops [⟨(some 2), (.move (.c (.im (.int .i64 2)))), none⟩] []) .ret) .skip)) (.seq (.seq (.ops [⟨(some 5), (.move (.t 0)), none⟩, ⟨(some 6), (.bin .eql (.t 5) (.c (.im (.int .i64 7)))), none⟩, ⟨(some 7), (.move (.t 6)), none⟩, ⟨(some 8), (.move (.t 0)), (some (7, false))⟩, ⟨(some 9), (.bin .eql (.t 8) (.c (.im (.int .i64 9)))), (some (7, false))⟩, ⟨(some 10), (.pick (.t 7) (.c (.im (.bool true))) (.t 9)), none⟩] []) (.cond (.t 10) (.seq (.ops [⟨(some 2), (.move (.c (.im (.int .i64 1)))), none⟩] []) .ret) .skip)) (.seq (.ops [⟨(some 2), (.move (.c (.im (.int .i64 0)))), none⟩] []) .ret)))), false⟩
theorem F23 : F 23 = some f23 := by kernel_rfl
def b45_0 : ACode := (.seq (.ops [⟨(some 27), (.bin .lss (.t 26) (.t 25)), none⟩] []) (.seq (.cond (.t 27) .skip (.exit 0)) (.seq (.block 1 (.seq (.ops [⟨(some 28), (.move (.t 26)), none⟩, ⟨(some 9), (.move (.t 28)), none⟩] []) (.seq (.seq (.ops [⟨(some 29), (.move (.t 0)), none⟩, ⟨(some 30), (.move (.t 9)), none⟩, ⟨(some 31), (.indexStr (.c (.im (.str [40, 44]))) (.t 30)), none⟩, ⟨(some 32), (.call (.c (.clo 70 [])) [(.t 29), (.t 31)]), none⟩, ⟨(some 33), (.un .not (.t 32)), none⟩] []) (.cond (.t 33) (.seq (.ops [⟨(some 34), (.build [(.im (.int .i64 0)), .nils] []), none⟩, ⟨none, (.store 2 (.t 4) (.t 34)), none⟩, ⟨(some 5), (.move (.c (.im (.bool false)))), none⟩] []) .ret) .skip)) (.seq (.ops [⟨(some 36), (.move (.t 0)), none⟩, ⟨(some 37), (.move (.t 1)), none⟩, ⟨(some 38), (.bin .sub (.t 37) (.c (.im (.int .i64 1)))), none⟩, ⟨(some 39), (.call (.c (.clo 45 [])) [(.t 36), (.t 38)]), none⟩, ⟨(some 35), (.move (.t 39)), none⟩, ⟨(some 40), (.extract 0 (.t 35)), none⟩, ⟨(some 41), (.extract 1 (.t 35)), none⟩, ⟨(some 10), (.alloc none [(.im (.int .i64 0)), .nils]), none⟩, ⟨none, (.store 2 (.t 10) (.t 40)), none⟩, ⟨(some 11), (.move (.t 41)), none⟩] []) (.seq (.seq (.ops [⟨(some 42), (.move (.t 11)), none⟩, ⟨(some 43), (.un .not (.t 42)), none⟩] []) (.cond (.t 43) (.seq (.ops [⟨(some 44), (.build [(.im (.int .i64 0)), .nils] []), none⟩, ⟨none, (.store 2 (.t 4) (.t 44)), none⟩, ⟨(some 5), (.move (.c (.im (.bool false)))), none⟩] []) .ret) .skip)) (.ops [⟨(some 45), (.fieldAddr 1 (.t 8)), none⟩, ⟨(some 46), (.load none (.t 45)), none⟩, ⟨(some 47), (.load (some 2) (.t 10)), none⟩, ⟨(some 48), (.bslice false 2 1 [(.im (.int .i64 0)), .nils] [(0, (.t 47))]), none⟩, ⟨(some 49), (.append 25 32 2 (.t 46) (.t 48)), none⟩, ⟨(some 50), (.fieldAddr 1 (.t 8)), none⟩, ⟨none, (.store 1 (.t 50) (.t 49)), none⟩] [])))))) (.ops [⟨(some 51), (.bin .add (.t 26) (.c (.im (.int .i64 1)))), none⟩, ⟨(some 26), (.move (.t 51)), none⟩] []))))
def c45_0 : ACode := .loop b45_0
theorem e45_0 {R : Type} (Φ : Oracle) (Λ' : ACode → List AV → Heap → Option Out) (tm : List AV) (H : Heap) (K : AEx → List AV → Heap → Option R) : exec0 Φ Λ' c45_0 tm H K = thenL (Λ' c45_0 tm H) K := rfl
theorem l45_0 (tm : List AV) (H : Heap) : Λ c45_0 tm H = exec0 L Λ b45_0 tm H fun e tm H => match e with
    | .normal => Λ c45_0 tm H
    | .exit i => some (.exit i, tm, H)
    | .goto l => some (.goto l, tm, H)
    | .ret => some (.ret, tm, H) := loop_eq
def f45 : AFunc := ⟨60, [(4, (some (some 2))), (5, none)], (.seq (.ops [⟨(some 4), (.alloc none [(.im (.int .i64 0)), .nils]), none⟩, ⟨(some 5), (.move (.c (.im (.bool false)))), none⟩] []) (.seq (.ops [⟨(some 13), (.move (.t 0)), none⟩, ⟨(some 14), (.move (.t 1)), none⟩, ⟨(some 15), (.call (.c (.clo 69 [])) [(.t 13), (.t 14)]), none⟩, ⟨(some 12), (.move (.t 15)), none⟩, ⟨(some 16), (.extract 0 (.t 12)), none⟩, ⟨(some 17), (.extract 1 (.t 12)), none⟩, ⟨(some 6), (.alloc none [(.im (.int .i64 0)), (.im (.str [])), (.im (.int .i64 0))]), none⟩, ⟨none, (.store 3 (.t 6) (.t 16)), none⟩, ⟨(some 7), (.move (.t 17)), none⟩] []) (.seq (.seq (.ops [⟨(some 18), (.move (.t 7)), none⟩, ⟨(some 19), (.un .not (.t 18)), none⟩] []) (.cond (.t 19) (.seq (.ops [⟨(some 20), (.build [(.im (.int .i64 0)), .nils] []), none⟩, ⟨none, (.store 2 (.t 4) (.t 20)), none⟩, ⟨(some 5), (.move (.c (.im (.bool false)))), none⟩] []) .ret) .skip)) (.seq (.ops [⟨(some 21), (.fieldAddr 0 (.t 6)), none⟩, ⟨(some 22), (.load none (.t 21)), none⟩, ⟨(some 23), (.build [(.im (.int .i64 0)), .nils] [(0, (1, (.t 22)))]), none⟩, ⟨(some 8), (.alloc none [(.im (.int .i64 0)), .nils]), none⟩, ⟨none, (.store 2 (.t 8) (.t 23)), none⟩] []) (.seq (.seq (.ops [⟨(some 24), (.fieldAddr 2 (.t 6)), none⟩, ⟨(some 25), (.load none (.t 24)), none⟩, ⟨(some 26), (.move (.c (.im (.int .i64 0)))), none⟩] []) (.block 0 c45_0)) (.seq (.ops [⟨(some 52), (.load (some 2) (.t 8)), none⟩, ⟨(some 53), (.fieldAddr 2 (.t 6)), none⟩, ⟨(some 54), (.load none (.t 53)), none⟩, ⟨(some 55), (.bin .eql (.t 54) (.c (.im (.int .i64 0)))), none⟩, ⟨(some 56), (.move (.t 55)), none⟩, ⟨(some 57), (.move (.t 0)), (some (56, false))⟩, ⟨(some 58), (.call (.c (.clo 70 [])) [(.t 57), (.c (.im (.int .u8 41)))]), (some (56, false))⟩, ⟨(some 59), (.pick (.t 56) (.c (.im (.bool true))) (.t 58)), none⟩, ⟨none, (.store 2 (.t 4) (.t 52)), none⟩, ⟨(some 5), (.move (.t 59)), none⟩] [(0, 6)]) .ret)))))), false⟩
theorem F45 : F 45 = some f45 := by kernel_rfl
def b46_0 : ACode := (.seq (.seq (.ops [⟨(some 130), (.move (.t 20)), none⟩, ⟨(some 131), (.move (.t 19)), none⟩, ⟨(some 132), (.lenStr (.t 131)), none⟩, ⟨(some 133), (.bin .lss (.t 130) (.t 132)), none⟩, ⟨(some 134), (.move (.t 133)), none⟩, ⟨(some 135), (.move (.t 1)), (some (134, true))⟩, ⟨(some 136), (.move (.t 20)), (some (134, true))⟩, ⟨(some 137), (.bin .add (.t 135) (.t 136)), (some (134, true))⟩, ⟨(some 138), (.move (.t 0)), (some (134, true))⟩, ⟨(some 139), (.lenStr (.t 138)), (some (134, true))⟩, ⟨(some 140), (.bin .lss (.t 137) (.t 139)), (some (134, true))⟩, ⟨(some 141), (.pick (.t 134) (.t 140) (.c (.im (.bool false)))), none⟩, ⟨(some 142), (.move (.t 141)), none⟩, ⟨(some 143), (.move (.t 0)), (some (142, true))⟩, ⟨(some 144), (.move (.t 1)), (some (142, true))⟩, ⟨(some 145), (.move (.t 20)), (some (142, true))⟩, ⟨(some 146), (.bin .add (.t 144) (.t 145)), (some (142, true))⟩, ⟨(some 147), (.indexStr (.t 143) (.t 146)), (some (142, true))⟩, ⟨(some 148), (.move (.t 19)), (some (142, true))⟩, ⟨(some 149), (.move (.t 20)), (some (142, true))⟩, ⟨(some 150), (.indexStr (.t 148) (.t 149)), (some (142, true))⟩, ⟨(some 151), (.bin .eql (.t 147) (.t 150)), (some (142, true))⟩, ⟨(some 152), (.pick (.t 142) (.t 151) (.c (.im (.bool false)))), none⟩] []) (.cond (.t 152) .skip (.exit 6))) (.block 7 (.ops [⟨(some 153), (.move (.t 20)), none⟩, ⟨(some 154), (.bin .add (.t 153) (.c (.im (.int .i64 1)))), none⟩, ⟨(some 20), (.move (.t 154)), none⟩] [])))
def c46_0 : ACode := .loop b46_0
theorem e46_0 {R : Type} (Φ : Oracle) (Λ' : ACode → List AV → Heap → Option Out) (tm : List AV) (H : Heap) (K : AEx → List AV → Heap → Option R) : exec0 Φ Λ' c46_0 tm H K = thenL (Λ' c46_0 tm H) K := rfl
theorem l46_0 (tm : List AV) (H : Heap) : Λ c46_0 tm H = exec0 L Λ b46_0 tm H fun e tm H => match e with
    | .normal => Λ c46_0 tm H
    | .exit i => some (.exit i, tm, H)
    | .goto l => some (.goto l, tm, H)
    | .ret => some (.ret, tm, H) := loop_eq
def b46_1 : ACode := (.seq (.seq (.ops [⟨(some 113), (.move (.t 18)), none⟩, ⟨(some 114), (.bin .leq (.t 113) (.c (.im (.int .i64 9)))), none⟩] []) (.cond (.t 114) .skip (.exit 4))) (.seq (.block 5 (.seq (.ops [⟨(some 117), (.move (.t 18)), none⟩, ⟨(some 118), (.call (.c (.clo 22 [])) [(.t 117)]), none⟩, ⟨(some 19), (.move (.t 118)), none⟩] []) (.seq (.seq (.ops [⟨(some 119), (.move (.t 19)), none⟩, ⟨(some 120), (.bin .eql (.t 119) (.c (.im (.str [])))), none⟩, ⟨(some 121), (.move (.t 120)), none⟩, ⟨(some 122), (.move (.t 2)), (some (121, false))⟩, ⟨(some 123), (.bin .eql (.t 122) (.c (.im (.int .i64 1)))), (some (121, false))⟩, ⟨(some 124), (.move (.t 123)), (some (121, false))⟩, ⟨(some 125), (.move (.t 18)), (some (124, true))⟩, ⟨(some 126), (.call (.c (.clo 23 [])) [(.t 125)]), (some (124, true))⟩, ⟨(some 127), (.bin .gtr (.t 126) (.c (.im (.int .i64 0)))), (some (124, true))⟩, ⟨(some 128), (.pick (.t 124) (.t 127) (.c (.im (.bool false)))), (some (121, false))⟩, ⟨(some 129), (.pick (.t 121) (.c (.im (.bool true))) (.t 128)), none⟩] []) (.cond (.t 129) (.exit 5) .skip)) (.seq (.ops [⟨(some 20), (.move (.c (.im (.int .i64 0)))), none⟩] []) (.seq (.block 6 c46_0) (.seq (.ops [⟨(some 155), (.move (.t 20)), none⟩, ⟨(some 156), (.move (.t 17)), none⟩, ⟨(some 157), (.bin .gtr (.t 155) (.t 156)), none⟩] []) (.cond (.t 157) (.ops [⟨(some 158), (.move (.t 20)), none⟩, ⟨(some 17), (.move (.t 158)), none⟩] []) .skip))))))) (.ops [⟨(some 115), (.move (.t 18)), none⟩, ⟨(some 116), (.bin .add (.t 115) (.c (.im (.int .i64 1)))), none⟩, ⟨(some 18), (.move (.t 116)), none⟩] [])))
def c46_1 : ACode := .loop b46_1
theorem e46_1 {R : Type} (Φ : Oracle) (Λ' : ACode → List AV → Heap → Option Out) (tm : List AV) (H : Heap) (K : AEx → List AV → Heap → Option R) : exec0 Φ Λ' c46_1 tm H K = thenL (Λ' c46_1 tm H) K := rfl
theorem l46_1 (tm : List AV) (H : Heap) : Λ c46_1 tm H = exec0 L Λ b46_1 tm H fun e tm H => match e with
    | .normal => Λ c46_1 tm H
    | .exit i => some (.exit i, tm, H)
    | .goto l => some (.goto l, tm, H)
    | .ret => some (.ret, tm, H) := loop_eq
def b46_2 : ACode := (.seq (.seq (.ops [⟨(some 52), (.move (.t 12)), none⟩, ⟨(some 53), (.move (.t 9)), none⟩, ⟨(some 54), (.call (.c (.clo 23 [])) [(.t 53)]), none⟩, ⟨(some 55), (.bin .lss (.t 52) (.t 54)), none⟩] []) (.cond (.t 55) .skip (.exit 2))) (.seq (.block 3 (.seq (.ops [⟨(some 13), (.move (.c (.im (.int .u8 40)))), none⟩] []) (.seq (.seq (.ops [⟨(some 58), (.move (.t 12)), none⟩, ⟨(some 59), (.bin .gtr (.t 58) (.c (.im (.int .i64 0)))), none⟩] []) (.cond (.t 59) (.ops [⟨(some 13), (.move (.c (.im (.int .u8 44)))), none⟩] []) .skip)) (.seq (.seq (.ops [⟨(some 60), (.move (.t 1)), none⟩, ⟨(some 61), (.move (.t 0)), none⟩, ⟨(some 62), (.lenStr (.t 61)), none⟩, ⟨(some 63), (.bin .geq (.t 60) (.t 62)), none⟩, ⟨(some 64), (.move (.t 63)), none⟩, ⟨(some 65), (.move (.t 0)), (some (64, false))⟩, ⟨(some 66), (.move (.t 1)), (some (64, false))⟩, ⟨(some 67), (.indexStr (.t 65) (.t 66)), (some (64, false))⟩, ⟨(some 68), (.move (.t 13)), (some (64, false))⟩, ⟨(some 69), (.bin .neq (.t 67) (.t 68)), (some (64, false))⟩, ⟨(some 70), (.pick (.t 64) (.c (.im (.bool true))) (.t 69)), none⟩] []) (.cond (.t 70) (.seq (.ops [⟨(some 71), (.build [(.im (.int .i64 0)), .nils] []), none⟩, ⟨(some 72), (.move (.t 1)), none⟩, ⟨none, (.store 2 (.t 6) (.t 71)), none⟩, ⟨(some 7), (.move (.t 72)), none⟩, ⟨(some 8), (.move (.c (.im (.bool false)))), none⟩] []) .ret) .skip)) (.seq (.ops [⟨(some 74), (.move (.t 0)), none⟩, ⟨(some 75), (.move (.t 1)), none⟩, ⟨(some 76), (.bin .add (.t 75) (.c (.im (.int .i64 1)))), none⟩, ⟨(some 77), (.move (.t 2)), none⟩, ⟨(some 78), (.bin .sub (.t 77) (.c (.im (.int .i64 1)))), none⟩, ⟨(some 79), (.call (.c (.clo 46 [])) [(.t 74), (.t 76), (.t 78)]), none⟩, ⟨(some 73), (.move (.t 79)), none⟩, ⟨(some 80), (.extract 0 (.t 73)), none⟩, ⟨(some 81), (.extract 1 (.t 73)), none⟩, ⟨(some 82), (.extract 2 (.t 73)), none⟩, ⟨(some 14), (.alloc none [(.im (.int .i64 0)), .nils]), none⟩, ⟨none, (.store 2 (.t 14) (.t 80)), none⟩, ⟨(some 15), (.move (.t 81)), none⟩, ⟨(some 16), (.move (.t 82)), none⟩] []) (.seq (.seq (.ops [⟨(some 83), (.move (.t 16)), none⟩, ⟨(some 84), (.un .not (.t 83)), none⟩] []) (.cond (.t 84) (.seq (.ops [⟨(some 85), (.build [(.im (.int .i64 0)), .nils] []), none⟩, ⟨(some 86), (.move (.t 15)), none⟩, ⟨none, (.store 2 (.t 6) (.t 85)), none⟩, ⟨(some 7), (.move (.t 86)), none⟩, ⟨(some 8), (.move (.c (.im (.bool false)))), none⟩] []) .ret) .skip)) (.seq (.ops [⟨(some 87), (.fieldAddr 1 (.t 11)), none⟩, ⟨(some 88), (.load none (.t 87)), none⟩, ⟨(some 89), (.load (some 2) (.t 14)), none⟩, ⟨(some 90), (.bslice false 2 1 [(.im (.int .i64 0)), .nils] [(0, (.t 89))]), none⟩, ⟨(some 91), (.append 31 32 2 (.t 88) (.t 90)), none⟩, ⟨(some 92), (.fieldAddr 1 (.t 11)), none⟩, ⟨none, (.store 1 (.t 92) (.t 91)), none⟩] []) (.ops [⟨(some 93), (.move (.t 15)), none⟩, ⟨(some 1), (.move (.t 93)), none⟩] [])))))))) (.ops [⟨(some 56), (.move (.t 12)), none⟩, ⟨(some 57), (.bin .add (.t 56) (.c (.im (.int .i64 1)))), none⟩, ⟨(some 12), (.move (.t 57)), none⟩] [])))
def c46_2 : ACode := .loop b46_2
theorem e46_2 {R : Type} (Φ : Oracle) (Λ' : ACode → List AV → Heap → Option Out) (tm : List AV) (H : Heap) (K : AEx → List AV → Heap → Option R) : exec0 Φ Λ' c46_2 tm H K = thenL (Λ' c46_2 tm H) K := rfl
theorem l46_2 (tm : List AV) (H : Heap) : Λ c46_2 tm H = exec0 L Λ b46_2 tm H fun e tm H => match e with
    | .normal => Λ c46_2 tm H
    | .exit i => some (.exit i, tm, H)
    | .goto l => some (.goto l, tm, H)
    | .ret => some (.ret, tm, H) := loop_eq
def b46_3 : ACode := (.seq (.seq (.ops [⟨(some 21), (.move (.t 9)), none⟩, ⟨(some 22), (.bin .leq (.t 21) (.c (.im (.int .i64 9)))), none⟩] []) (.cond (.t 22) .skip (.exit 0))) (.seq (.block 1 (.seq (.ops [⟨(some 25), (.move (.t 9)), none⟩, ⟨(some 26), (.call (.c (.clo 22 [])) [(.t 25)]), none⟩, ⟨(some 10), (.move (.t 26)), none⟩] []) (.seq (.seq (.ops [⟨(some 27), (.move (.t 10)), none⟩, ⟨(some 28), (.bin .eql (.t 27) (.c (.im (.str [])))), none⟩, ⟨(some 29), (.move (.t 28)), none⟩, ⟨(some 30), (.move (.t 2)), (some (29, false))⟩, ⟨(some 31), (.bin .eql (.t 30) (.c (.im (.int .i64 1)))), (some (29, false))⟩, ⟨(some 32), (.move (.t 31)), (some (29, false))⟩, ⟨(some 33), (.move (.t 9)), (some (32, true))⟩, ⟨(some 34), (.call (.c (.clo 23 [])) [(.t 33)]), (some (32, true))⟩, ⟨(some 35), (.bin .gtr (.t 34) (.c (.im (.int .i64 0)))), (some (32, true))⟩, ⟨(some 36), (.pick (.t 32) (.t 35) (.c (.im (.bool false)))), (some (29, false))⟩, ⟨(some 37), (.pick (.t 29) (.c (.im (.bool true))) (.t 36)), none⟩, ⟨(some 38), (.move (.t 37)), none⟩, ⟨(some 39), (.move (.t 10)), (some (38, false))⟩, ⟨(some 40), (.move (.t 0)), (some (38, false))⟩, ⟨(some 41), (.move (.t 1)), (some (38, false))⟩, ⟨(some 42), (.sliceStr (.t 40) (some (.t 41)) none), (some (38, false))⟩, ⟨(some 43), (.call (.c (.clo 71 [])) [(.t 39), (.t 42)]), (some (38, false))⟩, ⟨(some 44), (.un .not (.t 43)), (some (38, false))⟩, ⟨(some 45), (.pick (.t 38) (.c (.im (.bool true))) (.t 44)), none⟩] []) (.cond (.t 45) (.exit 1) .skip)) (.seq (.ops [⟨(some 46), (.move (.t 9)), none⟩, ⟨(some 47), (.build [(.im (.int .i64 0)), .nils] [(0, (1, (.t 46)))]), none⟩, ⟨(some 11), (.alloc none [(.im (.int .i64 0)), .nils]), none⟩, ⟨none, (.store 2 (.t 11) (.t 47)), none⟩] []) (.seq (.ops [⟨(some 48), (.move (.t 1)), none⟩, ⟨(some 49), (.move (.t 10)), none⟩, ⟨(some 50), (.lenStr (.t 49)), none⟩, ⟨(some 51), (.bin .add (.t 48) (.t 50)), none⟩, ⟨(some 1), (.move (.t 51)), none⟩] []) (.seq (.seq (.ops [⟨(some 12), (.move (.c (.im (.int .i64 0)))), none⟩] []) (.block 2 c46_2)) (.seq (.seq (.ops [⟨(some 94), (.move (.t 9)), none⟩, ⟨(some 95), (.call (.c (.clo 23 [])) [(.t 94)]), none⟩, ⟨(some 96), (.bin .gtr (.t 95) (.c (.im (.int .i64 0)))), none⟩] []) (.cond (.t 96) (.seq (.seq (.ops [⟨(some 97), (.move (.t 1)), none⟩, ⟨(some 98), (.move (.t 0)), none⟩, ⟨(some 99), (.lenStr (.t 98)), none⟩, ⟨(some 100), (.bin .geq (.t 97) (.t 99)), none⟩, ⟨(some 101), (.move (.t 100)), none⟩, ⟨(some 102), (.move (.t 0)), (some (101, false))⟩, ⟨(some 103), (.move (.t 1)), (some (101, false))⟩, ⟨(some 104), (.indexStr (.t 102) (.t 103)), (some (101, false))⟩, ⟨(some 105), (.bin .neq (.t 104) (.c (.im (.int .u8 41)))), (some (101, false))⟩, ⟨(some 106), (.pick (.t 101) (.c (.im (.bool true))) (.t 105)), none⟩] []) (.cond (.t 106) (.seq (.ops [⟨(some 107), (.build [(.im (.int .i64 0)), .nils] []), none⟩, ⟨(some 108), (.move (.t 1)), none⟩, ⟨none, (.store 2 (.t 6) (.t 107)), none⟩, ⟨(some 7), (.move (.t 108)), none⟩, ⟨(some 8), (.move (.c (.im (.bool false)))), none⟩] []) .ret) .skip)) (.ops [⟨(some 109), (.move (.t 1)), none⟩, ⟨(some 110), (.bin .add (.t 109) (.c (.im (.int .i64 1)))), none⟩, ⟨(some 1), (.move (.t 110)), none⟩] [])) .skip)) (.seq (.ops [⟨(some 111), (.load (some 2) (.t 11)), none⟩, ⟨(some 112), (.move (.t 1)), none⟩, ⟨none, (.store 2 (.t 6) (.t 111)), none⟩, ⟨(some 7), (.move (.t 112)), none⟩, ⟨(some 8), (.move (.c (.im (.bool true)))), none⟩] []) .ret)))))))) (.ops [⟨(some 23), (.move (.t 9)), none⟩, ⟨(some 24), (.bin .add (.t 23) (.c (.im (.int .i64 1)))), none⟩, ⟨(some 9), (.move (.t 24)), none⟩] [])))
def c46_3 : ACode := .loop b46_3
theorem e46_3 {R : Type} (Φ : Oracle) (Λ' : ACode → List AV → Heap → Option Out) (tm : List AV) (H : Heap) (K : AEx → List AV → Heap → Option R) : exec0 Φ Λ' c46_3 tm H K = thenL (Λ' c46_3 tm H) K := rfl
theorem l46_3 (tm : List AV) (H : Heap) : Λ c46_3 tm H = exec0 L Λ b46_3 tm H fun e tm H => match e with
    | .normal => Λ c46_3 tm H
    | .exit i => some (.exit i, tm, H)
    | .goto l => some (.goto l, tm, H)
    | .ret => some (.ret, tm, H) := loop_eq
def f46 : AFunc := ⟨163, [(6, (some (some 2))), (7, none), (8, none)], (.seq (.ops [⟨(some 6), (.alloc none [(.im (.int .i64 0)), .nils]), none⟩, ⟨(some 7), (.move (.c (.im (.int .i64 0)))), none⟩, ⟨(some 8), (.move (.c (.im (.bool false)))), none⟩] []) (.seq (.seq (.ops [⟨(some 9), (.move (.c (.im (.int .i64 1)))), none⟩] []) (.block 0 c46_3)) (.seq (.ops [⟨(some 17), (.move (.c (.im (.int .i64 0)))), none⟩] []) (.seq (.seq (.ops [⟨(some 18), (.move (.c (.im (.int .i64 1)))), none⟩] []) (.block 4 c46_1)) (.seq (.ops [⟨(some 159), (.build [(.im (.int .i64 0)), .nils] []), none⟩, ⟨(some 160), (.move (.t 1)), none⟩, ⟨(some 161), (.move (.t 17)), none⟩, ⟨(some 162), (.bin .add (.t 160) (.t 161)), none⟩, ⟨none, (.store 2 (.t 6) (.t 159)), none⟩, ⟨(some 7), (.move (.t 162)), none⟩, ⟨(some 8), (.move (.c (.im (.bool false)))), none⟩] []) .ret))))), false⟩
theorem F46 : F 46 = some f46 := by kernel_rfl
def b47_0 : ACode := (.seq (.ops [⟨(some 26), (.bin .lss (.t 25) (.t 24)), none⟩] []) (.seq (.cond (.t 26) .skip (.exit 0)) (.seq (.block 1 (.seq (.ops [⟨(some 27), (.indexSl 2 (.t 23) (.t 25)), none⟩, ⟨(some 28), (.load (some 2) (.t 27)), none⟩, ⟨(some 8), (.alloc none [(.im (.int .i64 0)), .nils]), none⟩, ⟨none, (.store 2 (.t 8) (.t 28)), none⟩] []) (.seq (.ops [⟨(some 29), (.load (some 2) (.t 8)), none⟩, ⟨(some 30), (.move (.t 1)), none⟩, ⟨(some 31), (.move (.t 2)), none⟩, ⟨(some 32), (.bin .sub (.t 31) (.c (.im (.int .i64 1)))), none⟩, ⟨(some 33), (.call (.c (.clo 47 [])) [(.t 29), (.t 30), (.t 32)]), none⟩, ⟨(some 34), (.un .not (.t 33)), none⟩] []) (.cond (.t 34) (.seq (.ops [⟨(some 6), (.move (.c (.im (.bool false)))), none⟩] []) .ret) .skip)))) (.ops [⟨(some 35), (.bin .add (.t 25) (.c (.im (.int .i64 1)))), none⟩, ⟨(some 25), (.move (.t 35)), none⟩] []))))
def c47_0 : ACode := .loop b47_0
theorem e47_0 {R : Type} (Φ : Oracle) (Λ' : ACode → List AV → Heap → Option Out) (tm : List AV) (H : Heap) (K : AEx → List AV → Heap → Option R) : exec0 Φ Λ' c47_0 tm H K = thenL (Λ' c47_0 tm H) K := rfl
theorem l47_0 (tm : List AV) (H : Heap) : Λ c47_0 tm H = exec0 L Λ b47_0 tm H fun e tm H => match e with
    | .normal => Λ c47_0 tm H
    | .exit i => some (.exit i, tm, H)
    | .goto l => some (.goto l, tm, H)
    | .ret => some (.ret, tm, H) := loop_eq
def f47 : AFunc := ⟨36, [(6, none)], (.seq (.ops [⟨(some 3), (.box none (.t 0)), none⟩, ⟨(some 6), (.move (.c (.im (.bool false)))), none⟩] []) (.seq (.ops [⟨(some 9), (.move (.t 1)), none⟩, ⟨(some 10), (.nilCheck (.t 9)), none⟩, ⟨(some 11), (.load none (.t 10)), none⟩, ⟨(some 12), (.bin .sub (.t 11) (.c (.im (.int .i64 1)))), none⟩, ⟨(some 13), (.nilCheck (.t 9)), none⟩, ⟨none, (.store 1 (.t 13) (.t 12)), none⟩] []) (.seq (.seq (.ops [⟨(some 14), (.move (.t 1)), none⟩, ⟨(some 15), (.nilCheck (.t 14)), none⟩, ⟨(some 16), (.load none (.t 15)), none⟩, ⟨(some 17), (.bin .lss (.t 16) (.c (.im (.int .i64 0)))), none⟩, ⟨(some 18), (.move (.t 17)), none⟩, ⟨(some 19), (.move (.t 2)), (some (18, false))⟩, ⟨(some 20), (.bin .eql (.t 19) (.c (.im (.int .i64 0)))), (some (18, false))⟩, ⟨(some 21), (.pick (.t 18) (.c (.im (.bool true))) (.t 20)), none⟩] []) (.cond (.t 21) (.seq (.ops [⟨(some 6), (.move (.c (.im (.bool false)))), none⟩] []) .ret) .skip)) (.seq (.seq (.ops [⟨(some 22), (.fieldAddr 1 (.t 3)), none⟩, ⟨(some 23), (.load none (.t 22)), none⟩, ⟨(some 24), (.lenSl (.t 23)), none⟩, ⟨(some 25), (.move (.c (.im (.int .i64 0)))), none⟩] []) (.block 0 c47_0)) (.seq (.ops [⟨(some 6), (.move (.c (.im (.bool true)))), none⟩] []) .ret))))), false⟩
theorem F47 : F 47 = some f47 := by kernel_rfl
def b48_0 : ACode := (.seq (.ops [⟨(some 28), (.bin .lss (.t 27) (.t 26)), none⟩] []) (.seq (.cond (.t 28) .skip (.exit 2)) (.seq (.block 3 (.seq (.ops [⟨(some 29), (.move (.t 27)), none⟩, ⟨(some 30), (.indexSl 2 (.t 25) (.t 27)), none⟩, ⟨(some 31), (.load (some 2) (.t 30)), none⟩, ⟨(some 7), (.alloc none [(.im (.int .i64 0)), .nils]), none⟩, ⟨(some 6), (.move (.t 29)), none⟩, ⟨none, (.store 2 (.t 7) (.t 31)), none⟩] []) (.seq (.ops [⟨(some 32), (.move (.t 0)), none⟩, ⟨(some 33), (.move (.t 6)), none⟩, ⟨(some 34), (.indexStr (.c (.im (.str [40, 44]))) (.t 33)), none⟩, ⟨(some 35), (.call (.c (.clo 74 [])) [(.t 32), (.t 34)]), none⟩] []) (.ops [⟨(some 36), (.move (.t 0)), none⟩, ⟨(some 37), (.load (some 2) (.t 7)), none⟩, ⟨(some 38), (.call (.c (.clo 48 [])) [(.t 36), (.t 37)]), none⟩] [])))) (.ops [⟨(some 39), (.bin .add (.t 27) (.c (.im (.int .i64 1)))), none⟩, ⟨(some 27), (.move (.t 39)), none⟩] []))))
def c48_0 : ACode := .loop b48_0
theorem e48_0 {R : Type} (Φ : Oracle) (Λ' : ACode → List AV → Heap → Option Out) (tm : List AV) (H : Heap) (K : AEx → List AV → Heap → Option R) : exec0 Φ Λ' c48_0 tm H K = thenL (Λ' c48_0 tm H) K := rfl
theorem l48_0 (tm : List AV) (H : Heap) : Λ c48_0 tm H = exec0 L Λ b48_0 tm H fun e tm H => match e with
    | .normal => Λ c48_0 tm H
    | .exit i => some (.exit i, tm, H)
    | .goto l => some (.goto l, tm, H)
    | .ret => some (.ret, tm, H) := loop_eq
def b48_1 : ACode := (.seq (.ops [⟨(some 11), (.bin .lss (.t 10) (.t 9)), none⟩] []) (.seq (.cond (.t 11) .skip (.exit 0)) (.seq (.block 1 (.seq (.ops [⟨(some 12), (.indexSl 3 (.t 8) (.t 10)), none⟩, ⟨(some 13), (.load (some 3) (.t 12)), none⟩, ⟨(some 5), (.alloc none [(.im (.int .i64 0)), (.im (.str [])), (.im (.int .i64 0))]), none⟩, ⟨none, (.store 3 (.t 5) (.t 13)), none⟩] []) (.seq (.ops [⟨(some 14), (.fieldAddr 0 (.t 5)), none⟩, ⟨(some 15), (.load none (.t 14)), none⟩, ⟨(some 16), (.fieldAddr 0 (.t 3)), none⟩, ⟨(some 17), (.load none (.t 16)), none⟩, ⟨(some 18), (.bin .eql (.t 15) (.t 17)), none⟩] []) (.cond (.t 18) (.ops [⟨(some 19), (.move (.t 0)), none⟩, ⟨(some 20), (.fieldAddr 1 (.t 5)), none⟩, ⟨(some 21), (.load none (.t 20)), none⟩, ⟨(some 22), (.call (.c (.clo 73 [])) [(.t 19), (.t 21)]), none⟩] []) .skip)))) (.ops [⟨(some 23), (.bin .add (.t 10) (.c (.im (.int .i64 1)))), none⟩, ⟨(some 10), (.move (.t 23)), none⟩] []))))
def c48_1 : ACode := .loop b48_1
theorem e48_1 {R : Type} (Φ : Oracle) (Λ' : ACode → List AV → Heap → Option Out) (tm : List AV) (H : Heap) (K : AEx → List AV → Heap → Option R) : exec0 Φ Λ' c48_1 tm H K = thenL (Λ' c48_1 tm H) K := rfl
theorem l48_1 (tm : List AV) (H : Heap) : Λ c48_1 tm H = exec0 L Λ b48_1 tm H fun e tm H => match e with
    | .normal => Λ c48_1 tm H
    | .exit i => some (.exit i, tm, H)
    | .goto l => some (.goto l, tm, H)
    | .ret => some (.ret, tm, H) := loop_eq
def f48 : AFunc := ⟨46, [], (.seq (.ops [⟨(some 3), (.box none (.t 1)), none⟩] []) (.seq (.seq (.ops [⟨(some 8), (.call (.c (.clo 72 [])) []), none⟩, ⟨(some 9), (.lenSl (.t 8)), none⟩, ⟨(some 10), (.move (.c (.im (.int .i64 0)))), none⟩] []) (.block 0 c48_1)) (.seq (.seq (.ops [⟨(some 24), (.fieldAddr 1 (.t 3)), none⟩, ⟨(some 25), (.load none (.t 24)), none⟩, ⟨(some 26), (.lenSl (.t 25)), none⟩, ⟨(some 27), (.move (.c (.im (.int .i64 0)))), none⟩] []) (.block 2 c48_0)) (.seq (.ops [⟨(some 40), (.fieldAddr 1 (.t 3)), none⟩, ⟨(some 41), (.load none (.t 40)), none⟩, ⟨(some 42), (.lenSl (.t 41)), none⟩, ⟨(some 43), (.bin .gtr (.t 42) (.c (.im (.int .i64 0)))), none⟩] []) (.cond (.t 43) (.ops [⟨(some 44), (.move (.t 0)), none⟩, ⟨(some 45), (.call (.c (.clo 74 [])) [(.t 44), (.c (.im (.int .u8 41)))]), none⟩] []) .skip))))), false⟩
theorem F48 : F 48 = some f48 := by kernel_rfl
def f50 : AFunc := ⟨17, [(4, none)], (.seq (.ops [⟨(some 2), (.box none (.t 0)), none⟩, ⟨(some 3), (.box none (.t 1)), none⟩, ⟨(some 4), (.move (.c (.im (.bool false)))), none⟩] []) (.seq (.ops [⟨(some 5), (.fieldAddr 0 (.t 2)), none⟩, ⟨(some 6), (.load none (.t 5)), none⟩, ⟨(some 7), (.fieldAddr 0 (.t 3)), none⟩, ⟨(some 8), (.load none (.t 7)), none⟩, ⟨(some 9), (.bin .eql (.t 6) (.t 8)), none⟩, ⟨(some 10), (.move (.t 9)), none⟩, ⟨(some 11), (.fieldAddr 1 (.t 2)), (some (10, true))⟩, ⟨(some 12), (.load none (.t 11)), (some (10, true))⟩, ⟨(some 13), (.fieldAddr 1 (.t 3)), (some (10, true))⟩, ⟨(some 14), (.load none (.t 13)), (some (10, true))⟩, ⟨(some 15), (.call (.c (.clo 75 [])) [(.t 12), (.t 14), (.c (.clo 50 []))]), (some (10, true))⟩, ⟨(some 16), (.pick (.t 10) (.t 15) (.c (.im (.bool false)))), none⟩, ⟨(some 4), (.move (.t 16)), none⟩] []) .ret)), false⟩
theorem F50 : F 50 = some f50 := by kernel_rfl
def f51 : AFunc := ⟨31, [(4, none)], (.seq (.ops [⟨(some 2), (.box none (.t 0)), none⟩, ⟨(some 3), (.box none (.t 1)), none⟩, ⟨(some 4), (.move (.c (.im (.bool false)))), none⟩] []) (.seq (.ops [⟨(some 6), (.call (.c (.clo 72 [])) []), none⟩, ⟨(some 7), (.mkfunc 77 [(.t 2)]), none⟩, ⟨(some 8), (.call (.c (.clo 76 [])) [(.t 6), (.t 7)]), none⟩, ⟨(some 5), (.move (.t 8)), none⟩] []) (.seq (.seq (.ops [⟨(some 9), (.move (.t 5)), none⟩, ⟨(some 10), (.bin .lss (.t 9) (.c (.im (.int .i64 0)))), none⟩, ⟨(some 11), (.move (.t 10)), none⟩, ⟨(some 12), (.load none (.t 3)), (some (11, false))⟩, ⟨(some 13), (.bin .lss (.t 12) (.c (.im (.int .i64 1)))), (some (11, false))⟩, ⟨(some 14), (.pick (.t 11) (.c (.im (.bool true))) (.t 13)), none⟩, ⟨(some 15), (.move (.t 14)), none⟩, ⟨(some 16), (.fieldAddr 1 (.t 2)), (some (15, false))⟩, ⟨(some 17), (.load none (.t 16)), (some (15, false))⟩, ⟨(some 18), (.lenSl (.t 17)), (some (15, false))⟩, ⟨(some 19), (.call (.c (.clo 72 [])) []), (some (15, false))⟩, ⟨(some 20), (.move (.t 5)), (some (15, false))⟩, ⟨(some 21), (.indexSl 3 (.t 19) (.t 20)), (some (15, false))⟩, ⟨(some 22), (.fieldAddr 2 (.t 21)), (some (15, false))⟩, ⟨(some 23), (.load none (.t 22)), (some (15, false))⟩, ⟨(some 24), (.bin .neq (.t 18) (.t 23)), (some (15, false))⟩, ⟨(some 25), (.pick (.t 15) (.c (.im (.bool true))) (.t 24)), none⟩] [(8, 10)]) (.cond (.t 25) (.seq (.ops [⟨(some 4), (.move (.c (.im (.bool false)))), none⟩] []) .ret) .skip)) (.seq (.ops [⟨(some 26), (.fieldAddr 1 (.t 2)), none⟩, ⟨(some 27), (.load none (.t 26)), none⟩, ⟨(some 28), (.mkfunc 79 [(.t 3)]), none⟩, ⟨(some 29), (.call (.c (.clo 78 [])) [(.t 27), (.t 28)]), none⟩, ⟨(some 30), (.un .not (.t 29)), none⟩, ⟨(some 4), (.move (.t 30)), none⟩] []) .ret)))), false⟩
theorem F51 : F 51 = some f51 := by kernel_rfl
def b52_0 : ACode := (.seq (.ops [⟨(some 10), (.bin .lss (.t 9) (.t 8)), none⟩] []) (.seq (.cond (.t 10) .skip (.exit 0)) (.seq (.block 1 (.seq (.ops [⟨(some 11), (.indexSl 2 (.t 7) (.t 9)), none⟩, ⟨(some 12), (.load (some 2) (.t 11)), none⟩, ⟨(some 5), (.alloc none [(.im (.int .i64 0)), .nils]), none⟩, ⟨none, (.store 2 (.t 5) (.t 12)), none⟩] []) (.ops [⟨(some 13), (.move (.t 3)), none⟩, ⟨(some 14), (.load (some 2) (.t 5)), none⟩, ⟨(some 15), (.call (.c (.clo 52 [])) [(.t 14)]), none⟩, ⟨(some 16), (.max (.t 13) (.t 15)), none⟩, ⟨(some 3), (.move (.t 16)), none⟩] []))) (.ops [⟨(some 17), (.bin .add (.t 9) (.c (.im (.int .i64 1)))), none⟩, ⟨(some 9), (.move (.t 17)), none⟩] []))))
def c52_0 : ACode := .loop b52_0
theorem e52_0 {R : Type} (Φ : Oracle) (Λ' : ACode → List AV → Heap → Option Out) (tm : List AV) (H : Heap) (K : AEx → List AV → Heap → Option R) : exec0 Φ Λ' c52_0 tm H K = thenL (Λ' c52_0 tm H) K := rfl
theorem l52_0 (tm : List AV) (H : Heap) : Λ c52_0 tm H = exec0 L Λ b52_0 tm H fun e tm H => match e with
    | .normal => Λ c52_0 tm H
    | .exit i => some (.exit i, tm, H)
    | .goto l => some (.goto l, tm, H)
    | .ret => some (.ret, tm, H) := loop_eq
def f52 : AFunc := ⟨20, [(2, none)], (.seq (.ops [⟨(some 1), (.box none (.t 0)), none⟩, ⟨(some 2), (.move (.c (.im (.int .i64 0)))), none⟩] []) (.seq (.ops [⟨(some 3), (.move (.c (.im (.int .i64 0)))), none⟩] []) (.seq (.seq (.ops [⟨(some 6), (.fieldAddr 1 (.t 1)), none⟩, ⟨(some 7), (.load none (.t 6)), none⟩, ⟨(some 8), (.lenSl (.t 7)), none⟩, ⟨(some 9), (.move (.c (.im (.int .i64 0)))), none⟩] []) (.block 0 c52_0)) (.seq (.ops [⟨(some 18), (.move (.t 3)), none⟩, ⟨(some 19), (.bin .add (.t 18) (.c (.im (.int .i64 1)))), none⟩, ⟨(some 2), (.move (.t 19)), none⟩] []) .ret)))), false⟩
theorem F52 : F 52 = some f52 := by kernel_rfl
def b53_0 : ACode := (.seq (.ops [⟨(some 10), (.bin .lss (.t 9) (.t 8)), none⟩] []) (.seq (.cond (.t 10) .skip (.exit 0)) (.seq (.block 1 (.seq (.ops [⟨(some 11), (.indexSl 2 (.t 7) (.t 9)), none⟩, ⟨(some 12), (.load (some 2) (.t 11)), none⟩, ⟨(some 5), (.alloc none [(.im (.int .i64 0)), .nils]), none⟩, ⟨none, (.store 2 (.t 5) (.t 12)), none⟩] []) (.ops [⟨(some 13), (.move (.t 3)), none⟩, ⟨(some 14), (.load (some 2) (.t 5)), none⟩, ⟨(some 15), (.call (.c (.clo 53 [])) [(.t 14)]), none⟩, ⟨(some 16), (.bslice false 2 1 [(.im (.int .i64 0)), .nils] [(0, (.t 15))]), none⟩, ⟨(some 17), (.append 25 32 2 (.t 13) (.t 16)), none⟩, ⟨(some 3), (.move (.t 17)), none⟩] []))) (.ops [⟨(some 18), (.bin .add (.t 9) (.c (.im (.int .i64 1)))), none⟩, ⟨(some 9), (.move (.t 18)), none⟩] []))))
def c53_0 : ACode := .loop b53_0
theorem e53_0 {R : Type} (Φ : Oracle) (Λ' : ACode → List AV → Heap → Option Out) (tm : List AV) (H : Heap) (K : AEx → List AV → Heap → Option R) : exec0 Φ Λ' c53_0 tm H K = thenL (Λ' c53_0 tm H) K := rfl
theorem l53_0 (tm : List AV) (H : Heap) : Λ c53_0 tm H = exec0 L Λ b53_0 tm H fun e tm H => match e with
    | .normal => Λ c53_0 tm H
    | .exit i => some (.exit i, tm, H)
    | .goto l => some (.goto l, tm, H)
    | .ret => some (.ret, tm, H) := loop_eq
def f53 : AFunc := ⟨23, [(2, (some (some 2)))], (.seq (.ops [⟨(some 1), (.box none (.t 0)), none⟩, ⟨(some 2), (.alloc none [(.im (.int .i64 0)), .nils]), none⟩] []) (.seq (.ops [⟨(some 3), (.move (.c .nils)), none⟩] []) (.seq (.seq (.ops [⟨(some 6), (.fieldAddr 1 (.t 1)), none⟩, ⟨(some 7), (.load none (.t 6)), none⟩, ⟨(some 8), (.lenSl (.t 7)), none⟩, ⟨(some 9), (.move (.c (.im (.int .i64 0)))), none⟩] []) (.block 0 c53_0)) (.seq (.ops [⟨(some 19), (.fieldAddr 0 (.t 1)), none⟩, ⟨(some 20), (.load none (.t 19)), none⟩, ⟨(some 21), (.move (.t 3)), none⟩, ⟨(some 22), (.build [(.im (.int .i64 0)), .nils] [(0, (1, (.t 20))), (1, (1, (.t 21)))]), none⟩, ⟨none, (.store 2 (.t 2) (.t 22)), none⟩] []) .ret)))), false⟩
theorem F53 : F 53 = some f53 := by kernel_rfl
def b69_0 : ACode := (.seq (.ops [⟨(some 16), (.bin .lss (.t 15) (.t 14)), none⟩] []) (.seq (.cond (.t 16) .skip (.exit 0)) (.seq (.block 1 (.seq (.ops [⟨(some 17), (.indexSl 3 (.t 13) (.t 15)), none⟩, ⟨(some 18), (.load (some 3) (.t 17)), none⟩, ⟨(some 9), (.alloc none [(.im (.int .i64 0)), (.im (.str [])), (.im (.int .i64 0))]), none⟩, ⟨none, (.store 3 (.t 9) (.t 18)), none⟩] []) (.seq (.ops [⟨(some 19), (.fieldAddr 1 (.t 9)), none⟩, ⟨(some 20), (.load none (.t 19)), none⟩, ⟨(some 21), (.lenStr (.t 20)), none⟩, ⟨(some 22), (.load none (.t 7)), none⟩, ⟨(some 23), (.bin .eql (.t 21) (.t 22)), none⟩] []) (.cond (.t 23) (.seq (.ops [⟨(some 24), (.load (some 3) (.t 9)), none⟩, ⟨none, (.store 3 (.t 4) (.t 24)), none⟩, ⟨(some 5), (.move (.c (.im (.bool true)))), none⟩] []) .ret) .skip)))) (.ops [⟨(some 25), (.bin .add (.t 15) (.c (.im (.int .i64 1)))), none⟩, ⟨(some 15), (.move (.t 25)), none⟩] []))))
def c69_0 : ACode := .loop b69_0
theorem e69_0 {R : Type} (Φ : Oracle) (Λ' : ACode → List AV → Heap → Option Out) (tm : List AV) (H : Heap) (K : AEx → List AV → Heap → Option R) : exec0 Φ Λ' c69_0 tm H K = thenL (Λ' c69_0 tm H) K := rfl
theorem l69_0 (tm : List AV) (H : Heap) : Λ c69_0 tm H = exec0 L Λ b69_0 tm H fun e tm H => match e with
    | .normal => Λ c69_0 tm H
    | .exit i => some (.exit i, tm, H)
    | .goto l => some (.goto l, tm, H)
    | .ret => some (.ret, tm, H) := loop_eq
def c69_1 : ACode := (.scope (.seq (.ops [⟨(some 10), (.call (.c (.clo 72 [])) []), none⟩, ⟨(some 11), (.mkfunc 99 [(.t 3)]), none⟩, ⟨(some 12), (.call (.c (.clo 98 [])) [(.t 10), (.t 11)]), none⟩, ⟨(some 6), (.move (.t 12)), none⟩] []) (.seq (.ops [⟨(some 7), (.alloc none [(.im (.int .i64 0))]), none⟩, ⟨none, (.store 1 (.t 7) (.c (.im (.int .i64 0)))), none⟩] []) (.seq (.label 0) (.seq (.seq (.ops [⟨(some 13), (.move (.t 6)), none⟩, ⟨(some 14), (.lenSl (.t 13)), none⟩, ⟨(some 15), (.move (.c (.im (.int .i64 0)))), none⟩] []) (.block 0 c69_0)) (.seq (.seq (.ops [⟨(some 26), (.load none (.t 2)), none⟩, ⟨(some 27), (.nilCheck (.t 26)), none⟩, ⟨(some 28), (.fieldAddr 1 (.t 27)), none⟩, ⟨(some 29), (.load none (.t 28)), none⟩, ⟨(some 30), (.load none (.t 2)), none⟩, ⟨(some 31), (.nilCheck (.t 30)), none⟩, ⟨(some 32), (.fieldAddr 0 (.t 31)), none⟩, ⟨(some 33), (.load none (.t 32)), none⟩, ⟨(some 34), (.lenStr (.t 33)), none⟩, ⟨(some 35), (.bin .lss (.t 29) (.t 34)), none⟩] []) (.cond (.t 35) (.seq (.ops [⟨(some 36), (.move (.t 6)), none⟩, ⟨(some 37), (.mkfunc 100 [(.t 7), (.t 2)]), none⟩, ⟨(some 38), (.call (.c (.clo 98 [])) [(.t 36), (.t 37)]), none⟩, ⟨(some 6), (.move (.t 38)), none⟩] []) (.seq (.ops [⟨(some 39), (.move (.t 6)), none⟩, ⟨(some 40), (.lenSl (.t 39)), none⟩, ⟨(some 41), (.bin .gtr (.t 40) (.c (.im (.int .i64 0)))), none⟩] []) (.cond (.t 41) (.seq (.ops [⟨(some 42), (.load none (.t 2)), none⟩, ⟨(some 43), (.nilCheck (.t 42)), none⟩, ⟨(some 44), (.fieldAddr 1 (.t 43)), none⟩, ⟨(some 45), (.load none (.t 44)), none⟩, ⟨(some 46), (.bin .add (.t 45) (.c (.im (.int .i64 1)))), none⟩, ⟨(some 47), (.nilCheck (.t 42)), none⟩, ⟨(some 48), (.fieldAddr 1 (.t 47)), none⟩, ⟨none, (.store 1 (.t 48) (.t 46)), none⟩] []) (.seq (.ops [⟨(some 49), (.load none (.t 7)), none⟩, ⟨(some 50), (.bin .add (.t 49) (.c (.im (.int .i64 1)))), none⟩, ⟨none, (.store 1 (.t 7) (.t 50)), none⟩] []) (.goto 0))) .skip))) .skip)) (.seq (.ops [⟨(some 51), (.build [(.im (.int .i64 0)), (.im (.str [])), (.im (.int .i64 0))] []), none⟩, ⟨none, (.store 3 (.t 4) (.t 51)), none⟩, ⟨(some 5), (.move (.c (.im (.bool false)))), none⟩] []) .ret)))))) (.seq (.ops [⟨(some 10), (.call (.c (.clo 72 [])) []), none⟩, ⟨(some 11), (.mkfunc 99 [(.t 3)]), none⟩, ⟨(some 12), (.call (.c (.clo 98 [])) [(.t 10), (.t 11)]), none⟩, ⟨(some 6), (.move (.t 12)), none⟩] []) (.seq (.ops [⟨(some 7), (.alloc none [(.im (.int .i64 0))]), none⟩, ⟨none, (.store 1 (.t 7) (.c (.im (.int .i64 0)))), none⟩] []) (.seq (.label 0) (.seq (.seq (.ops [⟨(some 13), (.move (.t 6)), none⟩, ⟨(some 14), (.lenSl (.t 13)), none⟩, ⟨(some 15), (.move (.c (.im (.int .i64 0)))), none⟩] []) (.block 0 c69_0)) (.seq (.seq (.ops [⟨(some 26), (.load none (.t 2)), none⟩, ⟨(some 27), (.nilCheck (.t 26)), none⟩, ⟨(some 28), (.fieldAddr 1 (.t 27)), none⟩, ⟨(some 29), (.load none (.t 28)), none⟩, ⟨(some 30), (.load none (.t 2)), none⟩, ⟨(some 31), (.nilCheck (.t 30)), none⟩, ⟨(some 32), (.fieldAddr 0 (.t 31)), none⟩, ⟨(some 33), (.load none (.t 32)), none⟩, ⟨(some 34), (.lenStr (.t 33)), none⟩, ⟨(some 35), (.bin .lss (.t 29) (.t 34)), none⟩] []) (.cond (.t 35) (.seq (.ops [⟨(some 36), (.move (.t 6)), none⟩, ⟨(some 37), (.mkfunc 100 [(.t 7), (.t 2)]), none⟩, ⟨(some 38), (.call (.c (.clo 98 [])) [(.t 36), (.t 37)]), none⟩, ⟨(some 6), (.move (.t 38)), none⟩] []) (.seq (.ops [⟨(some 39), (.move (.t 6)), none⟩, ⟨(some 40), (.lenSl (.t 39)), none⟩, ⟨(some 41), (.bin .gtr (.t 40) (.c (.im (.int .i64 0)))), none⟩] []) (.cond (.t 41) (.seq (.ops [⟨(some 42), (.load none (.t 2)), none⟩, ⟨(some 43), (.nilCheck (.t 42)), none⟩, ⟨(some 44), (.fieldAddr 1 (.t 43)), none⟩, ⟨(some 45), (.load none (.t 44)), none⟩, ⟨(some 46), (.bin .add (.t 45) (.c (.im (.int .i64 1)))), none⟩, ⟨(some 47), (.nilCheck (.t 42)), none⟩, ⟨(some 48), (.fieldAddr 1 (.t 47)), none⟩, ⟨none, (.store 1 (.t 48) (.t 46)), none⟩] []) (.seq (.ops [⟨(some 49), (.load none (.t 7)), none⟩, ⟨(some 50), (.bin .add (.t 49) (.c (.im (.int .i64 1)))), none⟩, ⟨none, (.store 1 (.t 7) (.t 50)), none⟩] []) (.goto 0))) .skip))) .skip)) (.seq (.ops [⟨(some 51), (.build [(.im (.int .i64 0)), (.im (.str [])), (.im (.int .i64 0))] []), none⟩, ⟨none, (.store 3 (.t 4) (.t 51)), none⟩, ⟨(some 5), (.move (.c (.im (.bool false)))), none⟩] []) .ret)))))))
theorem e69_1 {R : Type} (Φ : Oracle) (Λ' : ACode → List AV → Heap → Option Out) (tm : List AV) (H : Heap) (K : AEx → List AV → Heap → Option R) : exec0 Φ Λ' c69_1 tm H K = thenL (Λ' c69_1 tm H) K := rfl
def f69 : AFunc := ⟨52, [(4, (some (some 3))), (5, none)], (.seq (.ops [⟨(some 2), (.box none (.t 0)), none⟩, ⟨(some 3), (.box none (.t 1)), none⟩, ⟨(some 4), (.alloc none [(.im (.int .i64 0)), (.im (.str [])), (.im (.int .i64 0))]), none⟩, ⟨(some 5), (.move (.c (.im (.bool false)))), none⟩] []) c69_1), false⟩
theorem F69 : F 69 = some f69 := by kernel_rfl
def f70 : AFunc := ⟨35, [(4, none)], (.seq (.ops [⟨(some 4), (.move (.c (.im (.bool false)))), none⟩] []) (.seq (.seq (.ops [⟨(some 5), (.move (.t 0)), none⟩, ⟨(some 6), (.nilCheck (.t 5)), none⟩, ⟨(some 7), (.fieldAddr 1 (.t 6)), none⟩, ⟨(some 8), (.load none (.t 7)), none⟩, ⟨(some 9), (.move (.t 0)), none⟩, ⟨(some 10), (.nilCheck (.t 9)), none⟩, ⟨(some 11), (.fieldAddr 0 (.t 10)), none⟩, ⟨(some 12), (.load none (.t 11)), none⟩, ⟨(some 13), (.lenStr (.t 12)), none⟩, ⟨(some 14), (.bin .lss (.t 8) (.t 13)), none⟩, ⟨(some 15), (.move (.t 14)), none⟩, ⟨(some 16), (.move (.t 0)), (some (15, true))⟩, ⟨(some 17), (.nilCheck (.t 16)), (some (15, true))⟩, ⟨(some 18), (.fieldAddr 0 (.t 17)), (some (15, true))⟩, ⟨(some 19), (.load none (.t 18)), (some (15, true))⟩, ⟨(some 20), (.move (.t 0)), (some (15, true))⟩, ⟨(some 21), (.nilCheck (.t 20)), (some (15, true))⟩, ⟨(some 22), (.fieldAddr 1 (.t 21)), (some (15, true))⟩, ⟨(some 23), (.load none (.t 22)), (some (15, true))⟩, ⟨(some 24), (.indexStr (.t 19) (.t 23)), (some (15, true))⟩, ⟨(some 25), (.move (.t 1)), (some (15, true))⟩, ⟨(some 26), (.bin .eql (.t 24) (.t 25)), (some (15, true))⟩, ⟨(some 27), (.pick (.t 15) (.t 26) (.c (.im (.bool false)))), none⟩] []) (.cond (.t 27) (.seq (.ops [⟨(some 28), (.move (.t 0)), none⟩, ⟨(some 29), (.nilCheck (.t 28)), none⟩, ⟨(some 30), (.fieldAddr 1 (.t 29)), none⟩, ⟨(some 31), (.load none (.t 30)), none⟩, ⟨(some 32), (.bin .add (.t 31) (.c (.im (.int .i64 1)))), none⟩, ⟨(some 33), (.nilCheck (.t 28)), none⟩, ⟨(some 34), (.fieldAddr 1 (.t 33)), none⟩, ⟨none, (.store 1 (.t 34) (.t 32)), none⟩] []) (.seq (.ops [⟨(some 4), (.move (.c (.im (.bool true)))), none⟩] []) .ret)) .skip)) (.seq (.ops [⟨(some 4), (.move (.c (.im (.bool false)))), none⟩] []) .ret))), false⟩
theorem F70 : F 70 = some f70 := by kernel_rfl
def f71 : AFunc := ⟨18, [(4, none)], (.seq (.ops [⟨(some 4), (.move (.c (.im (.bool false)))), none⟩] []) (.seq (.ops [⟨(some 5), (.move (.t 0)), none⟩, ⟨(some 6), (.lenStr (.t 5)), none⟩, ⟨(some 7), (.move (.t 1)), none⟩, ⟨(some 8), (.lenStr (.t 7)), none⟩, ⟨(some 9), (.bin .leq (.t 6) (.t 8)), none⟩, ⟨(some 10), (.move (.t 9)), none⟩, ⟨(some 11), (.move (.t 1)), (some (10, true))⟩, ⟨(some 12), (.move (.t 0)), (some (10, true))⟩, ⟨(some 13), (.lenStr (.t 12)), (some (10, true))⟩, ⟨(some 14), (.sliceStr (.t 11) none (some (.t 13))), (some (10, true))⟩, ⟨(some 15), (.move (.t 0)), (some (10, true))⟩, ⟨(some 16), (.bin .eql (.t 14) (.t 15)), (some (10, true))⟩, ⟨(some 17), (.pick (.t 10) (.t 16) (.c (.im (.bool false)))), none⟩, ⟨(some 4), (.move (.t 17)), none⟩] []) .ret)), false⟩
theorem F71 : F 71 = some f71 := by kernel_rfl
def f72 : AFunc := ⟨10, [(0, none)], (.seq (.ops [⟨(some 0), (.move (.c .nils)), none⟩] []) (.seq (.ops [⟨(some 1), (.build [(.im (.int .i64 0)), (.im (.str [])), (.im (.int .i64 0))] [(0, (1, (.c (.im (.int .i64 1))))), (1, (1, (.c (.im (.str [98, 111, 111, 108]))))), (2, (1, (.c (.im (.int .i64 0)))))]), none⟩, ⟨(some 2), (.build [(.im (.int .i64 0)), (.im (.str [])), (.im (.int .i64 0))] [(0, (1, (.c (.im (.int .i64 2))))), (1, (1, (.c (.im (.str [105, 110, 116]))))), (2, (1, (.c (.im (.int .i64 0)))))]), none⟩, ⟨(some 3), (.build [(.im (.int .i64 0)), (.im (.str [])), (.im (.int .i64 0))] [(0, (1, (.c (.im (.int .i64 3))))), (1, (1, (.c (.im (.str [116, 101, 120, 116]))))), (2, (1, (.c (.im (.int .i64 0)))))]), none⟩, ⟨(some 4), (.build [(.im (.int .i64 0)), (.im (.str [])), (.im (.int .i64 0))] [(0, (1, (.c (.im (.int .i64 4))))), (1, (1, (.c (.im (.str [98, 121, 116, 101, 115]))))), (2, (1, (.c (.im (.int .i64 0)))))]), none⟩, ⟨(some 5), (.build [(.im (.int .i64 0)), (.im (.str [])), (.im (.int .i64 0))] [(0, (1, (.c (.im (.int .i64 5))))), (1, (1, (.c (.im (.str [112, 111, 105, 110, 116]))))), (2, (1, (.c (.im (.int .i64 0)))))]), none⟩, ⟨(some 6), (.build [(.im (.int .i64 0)), (.im (.str [])), (.im (.int .i64 0))] [(0, (1, (.c (.im (.int .i64 6))))), (1, (1, (.c (.im (.str [112, 97, 105, 114]))))), (2, (1, (.c (.im (.int .i64 2)))))]), none⟩, ⟨(some 7), (.build [(.im (.int .i64 0)), (.im (.str [])), (.im (.int .i64 0))] [(0, (1, (.c (.im (.int .i64 7))))), (1, (1, (.c (.im (.str [108, 105, 115, 116]))))), (2, (1, (.c (.im (.int .i64 1)))))]), none⟩, ⟨(some 8), (.build [(.im (.int .i64 0)), (.im (.str [])), (.im (.int .i64 0))] [(0, (1, (.c (.im (.int .i64 9))))), (1, (1, (.c (.im (.str [111, 112, 116, 105, 111, 110]))))), (2, (1, (.c (.im (.int .i64 1)))))]), none⟩, ⟨(some 9), (.bslice true 3 8 [(.im (.int .i64 0)), (.im (.str [])), (.im (.int .i64 0))] [(0, (.t 1)), (1, (.t 2)), (2, (.t 3)), (3, (.t 4)), (4, (.t 5)), (5, (.t 6)), (6, (.t 7)), (7, (.t 8))]), none⟩, ⟨(some 0), (.move (.t 9)), none⟩] []) .ret)), true⟩
theorem F72 : F 72 = some f72 := by kernel_rfl
def f73 : AFunc := ⟨19, [(4, none), (5, none)], (.seq (.ops [⟨(some 4), (.move (.c (.im (.int .i64 0)))), none⟩, ⟨(some 5), (.move (.c (.im .nili))), none⟩] []) (.seq (.ops [⟨(some 6), (.move (.t 0)), none⟩, ⟨(some 7), (.call (.c (.clo 101 [])) [(.t 6)]), none⟩] []) (.seq (.ops [⟨(some 8), (.move (.t 0)), none⟩, ⟨(some 9), (.move (.t 0)), none⟩, ⟨(some 10), (.nilCheck (.t 9)), none⟩, ⟨(some 11), (.fieldAddr 1 (.t 10)), none⟩, ⟨(some 12), (.load none (.t 11)), none⟩, ⟨(some 13), (.move (.t 1)), none⟩, ⟨(some 14), (.append 5 1 1 (.t 12) (.t 13)), none⟩, ⟨(some 15), (.nilCheck (.t 8)), none⟩, ⟨(some 16), (.fieldAddr 1 (.t 15)), none⟩, ⟨none, (.store 1 (.t 16) (.t 14)), none⟩] []) (.seq (.ops [⟨(some 17), (.move (.t 1)), none⟩, ⟨(some 18), (.lenStr (.t 17)), none⟩, ⟨(some 4), (.move (.t 18)), none⟩, ⟨(some 5), (.move (.c (.im .nili))), none⟩] []) .ret)))), false⟩
theorem F73 : F 73 = some f73 := by kernel_rfl
def f74 : AFunc := ⟨17, [(4, none)], (.seq (.ops [⟨(some 4), (.move (.c (.im .nili))), none⟩] []) (.seq (.ops [⟨(some 5), (.move (.t 0)), none⟩, ⟨(some 6), (.call (.c (.clo 101 [])) [(.t 5)]), none⟩] []) (.seq (.ops [⟨(some 7), (.move (.t 0)), none⟩, ⟨(some 8), (.move (.t 0)), none⟩, ⟨(some 9), (.nilCheck (.t 8)), none⟩, ⟨(some 10), (.fieldAddr 1 (.t 9)), none⟩, ⟨(some 11), (.load none (.t 10)), none⟩, ⟨(some 12), (.move (.t 1)), none⟩, ⟨(some 13), (.bslice false 1 1 [(.im (.int .u8 0))] [(0, (.t 12))]), none⟩, ⟨(some 14), (.append 5 1 1 (.t 11) (.t 13)), none⟩, ⟨(some 15), (.nilCheck (.t 7)), none⟩, ⟨(some 16), (.fieldAddr 1 (.t 15)), none⟩, ⟨none, (.store 1 (.t 16) (.t 14)), none⟩] []) (.seq (.ops [⟨(some 4), (.move (.c (.im .nili))), none⟩] []) .ret)))), false⟩
theorem F74 : F 74 = some f74 := by kernel_rfl
def b75_0 : ACode := (.seq (.ops [⟨(some 18), (.bin .lss (.t 17) (.t 16)), none⟩] []) (.seq (.cond (.t 18) .skip (.exit 0)) (.seq (.block 1 (.seq (.ops [⟨(some 19), (.move (.t 17)), none⟩, ⟨(some 20), (.indexSl 2 (.t 15) (.t 17)), none⟩, ⟨(some 21), (.load (some 2) (.t 20)), none⟩, ⟨(some 8), (.alloc none [(.im (.int .i64 0)), .nils]), none⟩, ⟨(some 7), (.move (.t 19)), none⟩, ⟨none, (.store 2 (.t 8) (.t 21)), none⟩] []) (.seq (.ops [⟨(some 22), (.move (.t 1)), none⟩, ⟨(some 23), (.move (.t 7)), none⟩, ⟨(some 24), (.indexSl 2 (.t 22) (.t 23)), none⟩, ⟨(some 25), (.load (some 2) (.t 24)), none⟩, ⟨(some 9), (.alloc none [(.im (.int .i64 0)), .nils]), none⟩, ⟨none, (.store 2 (.t 9) (.t 25)), none⟩] []) (.seq (.ops [⟨(some 26), (.move (.t 2)), none⟩, ⟨(some 27), (.load (some 2) (.t 8)), none⟩, ⟨(some 28), (.load (some 2) (.t 9)), none⟩, ⟨(some 29), (.call (.t 26) [(.t 27), (.t 28)]), none⟩, ⟨(some 30), (.un .not (.t 29)), none⟩] []) (.cond (.t 30) (.seq (.ops [⟨(some 6), (.move (.c (.im (.bool false)))), none⟩] []) .ret) .skip))))) (.ops [⟨(some 31), (.bin .add (.t 17) (.c (.im (.int .i64 1)))), none⟩, ⟨(some 17), (.move (.t 31)), none⟩] []))))
def c75_0 : ACode := .loop b75_0
theorem e75_0 {R : Type} (Φ : Oracle) (Λ' : ACode → List AV → Heap → Option Out) (tm : List AV) (H : Heap) (K : AEx → List AV → Heap → Option R) : exec0 Φ Λ' c75_0 tm H K = thenL (Λ' c75_0 tm H) K := rfl
theorem l75_0 (tm : List AV) (H : Heap) : Λ c75_0 tm H = exec0 L Λ b75_0 tm H fun e tm H => match e with
    | .normal => Λ c75_0 tm H
    | .exit i => some (.exit i, tm, H)
    | .goto l => some (.goto l, tm, H)
    | .ret => some (.ret, tm, H) := loop_eq
def f75 : AFunc := ⟨32, [(6, none)], (.seq (.ops [⟨(some 6), (.move (.c (.im (.bool false)))), none⟩] []) (.seq (.seq (.ops [⟨(some 10), (.move (.t 0)), none⟩, ⟨(some 11), (.lenSl (.t 10)), none⟩, ⟨(some 12), (.move (.t 1)), none⟩, ⟨(some 13), (.lenSl (.t 12)), none⟩, ⟨(some 14), (.bin .neq (.t 11) (.t 13)), none⟩] []) (.cond (.t 14) (.seq (.ops [⟨(some 6), (.move (.c (.im (.bool false)))), none⟩] []) .ret) .skip)) (.seq (.seq (.ops [⟨(some 15), (.move (.t 0)), none⟩, ⟨(some 16), (.lenSl (.t 15)), none⟩, ⟨(some 17), (.move (.c (.im (.int .i64 0)))), none⟩] []) (.block 0 c75_0)) (.seq (.ops [⟨(some 6), (.move (.c (.im (.bool true)))), none⟩] []) .ret)))), false⟩
theorem F75 : F 75 = some f75 := by kernel_rfl
def b76_0 : ACode := (.seq (.ops [⟨(some 9), (.bin .lss (.t 8) (.t 7)), none⟩] []) (.seq (.cond (.t 9) .skip (.exit 0)) (.seq (.block 1 (.seq (.ops [⟨(some 10), (.move (.t 8)), none⟩, ⟨(some 5), (.move (.t 10)), none⟩] []) (.seq (.ops [⟨(some 11), (.move (.t 1)), none⟩, ⟨(some 12), (.move (.t 0)), none⟩, ⟨(some 13), (.move (.t 5)), none⟩, ⟨(some 14), (.indexSl 3 (.t 12) (.t 13)), none⟩, ⟨(some 15), (.load (some 3) (.t 14)), none⟩, ⟨(some 16), (.call (.t 11) [(.t 15)]), none⟩] []) (.cond (.t 16) (.seq (.ops [⟨(some 17), (.move (.t 5)), none⟩, ⟨(some 4), (.move (.t 17)), none⟩] []) .ret) .skip)))) (.ops [⟨(some 18), (.bin .add (.t 8) (.c (.im (.int .i64 1)))), none⟩, ⟨(some 8), (.move (.t 18)), none⟩] []))))
def c76_0 : ACode := .loop b76_0
theorem e76_0 {R : Type} (Φ : Oracle) (Λ' : ACode → List AV → Heap → Option Out) (tm : List AV) (H : Heap) (K : AEx → List AV → Heap → Option R) : exec0 Φ Λ' c76_0 tm H K = thenL (Λ' c76_0 tm H) K := rfl
theorem l76_0 (tm : List AV) (H : Heap) : Λ c76_0 tm H = exec0 L Λ b76_0 tm H fun e tm H => match e with
    | .normal => Λ c76_0 tm H
    | .exit i => some (.exit i, tm, H)
    | .goto l => some (.goto l, tm, H)
    | .ret => some (.ret, tm, H) := loop_eq
def f76 : AFunc := ⟨19, [(4, none)], (.seq (.ops [⟨(some 4), (.move (.c (.im (.int .i64 0)))), none⟩] []) (.seq (.seq (.ops [⟨(some 6), (.move (.t 0)), none⟩, ⟨(some 7), (.lenSl (.t 6)), none⟩, ⟨(some 8), (.move (.c (.im (.int .i64 0)))), none⟩] []) (.block 0 c76_0)) (.seq (.ops [⟨(some 4), (.move (.c (.im (.int .i64 (-1))))), none⟩] []) .ret))), false⟩
theorem F76 : F 76 = some f76 := by kernel_rfl
def f77 : AFunc := ⟨9, [(3, none)], (.seq (.ops [⟨(some 2), (.box none (.t 0)), none⟩, ⟨(some 3), (.move (.c (.im (.bool false)))), none⟩] []) (.seq (.ops [⟨(some 4), (.fieldAddr 0 (.t 2)), none⟩, ⟨(some 5), (.load none (.t 4)), none⟩, ⟨(some 6), (.fieldAddr 0 (.t 1)), none⟩, ⟨(some 7), (.load none (.t 6)), none⟩, ⟨(some 8), (.bin .eql (.t 5) (.t 7)), none⟩, ⟨(some 3), (.move (.t 8)), none⟩] []) .ret)), false⟩
theorem F77 : F 77 = some f77 := by kernel_rfl
def f78 : AFunc := ⟨9, [(4, none)], (.seq (.ops [⟨(some 4), (.move (.c (.im (.bool false)))), none⟩] []) (.seq (.ops [⟨(some 5), (.move (.t 0)), none⟩, ⟨(some 6), (.move (.t 1)), none⟩, ⟨(some 7), (.call (.c (.clo 102 [])) [(.t 5), (.t 6)]), none⟩, ⟨(some 8), (.bin .geq (.t 7) (.c (.im (.int .i64 0)))), none⟩, ⟨(some 4), (.move (.t 8)), none⟩] []) .ret)), false⟩
theorem F78 : F 78 = some f78 := by kernel_rfl
def f79 : AFunc := ⟨9, [(3, none)], (.seq (.ops [⟨(some 2), (.box none (.t 0)), none⟩, ⟨(some 3), (.move (.c (.im (.bool false)))), none⟩] []) (.seq (.ops [⟨(some 4), (.load (some 2) (.t 2)), none⟩, ⟨(some 5), (.load none (.t 1)), none⟩, ⟨(some 6), (.bin .sub (.t 5) (.c (.im (.int .i64 1)))), none⟩, ⟨(some 7), (.call (.c (.clo 51 [])) [(.t 4), (.t 6)]), none⟩, ⟨(some 8), (.un .not (.t 7)), none⟩, ⟨(some 3), (.move (.t 8)), none⟩] []) .ret)), false⟩
theorem F79 : F 79 = some f79 := by kernel_rfl
def b98_0 : ACode := (.seq (.seq (.ops [⟨(some 16), (.move (.t 6)), none⟩, ⟨(some 17), (.move (.t 0)), none⟩, ⟨(some 18), (.lenSl (.t 17)), none⟩, ⟨(some 19), (.bin .lss (.t 16) (.t 18)), none⟩] []) (.cond (.t 19) .skip (.exit 0))) (.seq (.block 1 (.seq (.ops [⟨(some 22), (.move (.t 0)), none⟩, ⟨(some 23), (.move (.t 6)), none⟩, ⟨(some 24), (.indexSl 3 (.t 22) (.t 23)), none⟩, ⟨(some 25), (.load (some 3) (.t 24)), none⟩, ⟨(some 7), (.alloc none [(.im (.int .i64 0)), (.im (.str [])), (.im (.int .i64 0))]), none⟩, ⟨none, (.store 3 (.t 7) (.t 25)), none⟩] []) (.seq (.ops [⟨(some 26), (.move (.t 1)), none⟩, ⟨(some 27), (.load (some 3) (.t 7)), none⟩, ⟨(some 28), (.call (.t 26) [(.t 27)]), none⟩, ⟨(some 29), (.un .not (.t 28)), none⟩] []) (.cond (.t 29) (.seq (.ops [⟨(some 30), (.move (.t 0)), none⟩, ⟨(some 31), (.move (.t 5)), none⟩, ⟨(some 32), (.load (some 3) (.t 7)), none⟩, ⟨(some 33), (.indexSl 3 (.t 30) (.t 31)), none⟩, ⟨none, (.store 3 (.t 33) (.t 32)), none⟩] []) (.ops [⟨(some 34), (.move (.t 5)), none⟩, ⟨(some 35), (.bin .add (.t 34) (.c (.im (.int .i64 1)))), none⟩, ⟨(some 5), (.move (.t 35)), none⟩] [])) .skip)))) (.ops [⟨(some 20), (.move (.t 6)), none⟩, ⟨(some 21), (.bin .add (.t 20) (.c (.im (.int .i64 1)))), none⟩, ⟨(some 6), (.move (.t 21)), none⟩] [])))
def c98_0 : ACode := .loop b98_0
theorem e98_0 {R : Type} (Φ : Oracle) (Λ' : ACode → List AV → Heap → Option Out) (tm : List AV) (H : Heap) (K : AEx → List AV → Heap → Option R) : exec0 Φ Λ' c98_0 tm H K = thenL (Λ' c98_0 tm H) K := rfl
theorem l98_0 (tm : List AV) (H : Heap) : Λ c98_0 tm H = exec0 L Λ b98_0 tm H fun e tm H => match e with
    | .normal => Λ c98_0 tm H
    | .exit i => some (.exit i, tm, H)
    | .goto l => some (.goto l, tm, H)
    | .ret => some (.ret, tm, H) := loop_eq
def f98 : AFunc := ⟨42, [(4, none)], (.seq (.ops [⟨(some 4), (.move (.c .nils)), none⟩] []) (.seq (.ops [⟨(some 8), (.move (.t 0)), none⟩, ⟨(some 9), (.move (.t 1)), none⟩, ⟨(some 10), (.call (.c (.clo 76 [])) [(.t 8), (.t 9)]), none⟩, ⟨(some 5), (.move (.t 10)), none⟩] []) (.seq (.seq (.ops [⟨(some 11), (.move (.t 5)), none⟩, ⟨(some 12), (.bin .eql (.t 11) (.c (.im (.int .i64 (-1))))), none⟩] []) (.cond (.t 12) (.seq (.ops [⟨(some 13), (.move (.t 0)), none⟩, ⟨(some 4), (.move (.t 13)), none⟩] []) .ret) .skip)) (.seq (.seq (.ops [⟨(some 14), (.move (.t 5)), none⟩, ⟨(some 15), (.bin .add (.t 14) (.c (.im (.int .i64 1)))), none⟩, ⟨(some 6), (.move (.t 15)), none⟩] []) (.block 0 c98_0)) (.seq (.ops [⟨(some 36), (.move (.t 0)), none⟩, ⟨(some 37), (.move (.t 5)), none⟩, ⟨(some 38), (.slice 3 (.t 36) (some (.t 37)) none none), none⟩, ⟨none, (.clear 3 [(.im (.int .i64 0)), (.im (.str [])), (.im (.int .i64 0))] (.t 38)), none⟩] []) (.seq (.ops [⟨(some 39), (.move (.t 0)), none⟩, ⟨(some 40), (.move (.t 5)), none⟩, ⟨(some 41), (.slice 3 (.t 39) none (some (.t 40)) none), none⟩, ⟨(some 4), (.move (.t 41)), none⟩] []) .ret)))))), true⟩
theorem F98 : F 98 = some f98 := by kernel_rfl
def f99 : AFunc := ⟨11, [(3, none)], (.seq (.ops [⟨(some 2), (.box none (.t 0)), none⟩, ⟨(some 3), (.move (.c (.im (.bool false)))), none⟩] []) (.seq (.ops [⟨(some 4), (.fieldAddr 2 (.t 2)), none⟩, ⟨(some 5), (.load none (.t 4)), none⟩, ⟨(some 6), (.bin .gtr (.t 5) (.c (.im (.int .i64 0)))), none⟩, ⟨(some 7), (.move (.t 6)), none⟩, ⟨(some 8), (.load none (.t 1)), (some (7, true))⟩, ⟨(some 9), (.bin .eql (.t 8) (.c (.im (.int .i64 1)))), (some (7, true))⟩, ⟨(some 10), (.pick (.t 7) (.t 9) (.c (.im (.bool false)))), none⟩, ⟨(some 3), (.move (.t 10)), none⟩] []) .ret)), false⟩
theorem F99 : F 99 = some f99 := by kernel_rfl
def f100 : AFunc := ⟨19, [(4, none)], (.seq (.ops [⟨(some 3), (.box none (.t 0)), none⟩, ⟨(some 4), (.move (.c (.im (.bool false)))), none⟩] []) (.seq (.ops [⟨(some 5), (.fieldAddr 1 (.t 3)), none⟩, ⟨(some 6), (.load none (.t 5)), none⟩, ⟨(some 7), (.load none (.t 1)), none⟩, ⟨(some 8), (.indexStr (.t 6) (.t 7)), none⟩, ⟨(some 9), (.load none (.t 2)), none⟩, ⟨(some 10), (.nilCheck (.t 9)), none⟩, ⟨(some 11), (.fieldAddr 0 (.t 10)), none⟩, ⟨(some 12), (.load none (.t 11)), none⟩, ⟨(some 13), (.load none (.t 2)), none⟩, ⟨(some 14), (.nilCheck (.t 13)), none⟩, ⟨(some 15), (.fieldAddr 1 (.t 14)), none⟩, ⟨(some 16), (.load none (.t 15)), none⟩, ⟨(some 17), (.indexStr (.t 12) (.t 16)), none⟩, ⟨(some 18), (.bin .neq (.t 8) (.t 17)), none⟩, ⟨(some 4), (.move (.t 18)), none⟩] []) .ret)), false⟩
theorem F100 : F 100 = some f100 := by kernel_rfl
def b102_0 : ACode := (.seq (.ops [⟨(some 9), (.bin .lss (.t 8) (.t 7)), none⟩] []) (.seq (.cond (.t 9) .skip (.exit 0)) (.seq (.block 1 (.seq (.ops [⟨(some 10), (.move (.t 8)), none⟩, ⟨(some 5), (.move (.t 10)), none⟩] []) (.seq (.ops [⟨(some 11), (.move (.t 1)), none⟩, ⟨(some 12), (.move (.t 0)), none⟩, ⟨(some 13), (.move (.t 5)), none⟩, ⟨(some 14), (.indexSl 2 (.t 12) (.t 13)), none⟩, ⟨(some 15), (.load (some 2) (.t 14)), none⟩, ⟨(some 16), (.call (.t 11) [(.t 15)]), none⟩] []) (.cond (.t 16) (.seq (.ops [⟨(some 17), (.move (.t 5)), none⟩, ⟨(some 4), (.move (.t 17)), none⟩] []) .ret) .skip)))) (.ops [⟨(some 18), (.bin .add (.t 8) (.c (.im (.int .i64 1)))), none⟩, ⟨(some 8), (.move (.t 18)), none⟩] []))))
def c102_0 : ACode := .loop b102_0
theorem e102_0 {R : Type} (Φ : Oracle) (Λ' : ACode → List AV → Heap → Option Out) (tm : List AV) (H : Heap) (K : AEx → List AV → Heap → Option R) : exec0 Φ Λ' c102_0 tm H K = thenL (Λ' c102_0 tm H) K := rfl
theorem l102_0 (tm : List AV) (H : Heap) : Λ c102_0 tm H = exec0 L Λ b102_0 tm H fun e tm H => match e with
    | .normal => Λ c102_0 tm H
    | .exit i => some (.exit i, tm, H)
    | .goto l => some (.goto l, tm, H)
    | .ret => some (.ret, tm, H) := loop_eq
def f102 : AFunc := ⟨19, [(4, none)], (.seq (.ops [⟨(some 4), (.move (.c (.im (.int .i64 0)))), none⟩] []) (.seq (.seq (.ops [⟨(some 6), (.move (.t 0)), none⟩, ⟨(some 7), (.lenSl (.t 6)), none⟩, ⟨(some 8), (.move (.c (.im (.int .i64 0)))), none⟩] []) (.block 0 c102_0)) (.seq (.ops [⟨(some 4), (.move (.c (.im (.int .i64 (-1))))), none⟩] []) .ret))), false⟩
theorem F102 : F 102 = some f102 := by kernel_rfl
def T : FuncId → Option AFunc := fun n =>
  if n = 3 then some f3 else
  if n = 4 then some f4 else
  if n = 5 then some f5 else
  if n = 6 then some f6 else
  if n = 11 then some f11 else
  if n = 12 then some f12 else
  if n = 13 then some f13 else
  if n = 14 then some f14 else
  if n = 15 then some f15 else
  if n = 16 then some f16 else
  if n = 17 then some f17 else
  if n = 18 then some f18 else
  if n = 19 then some f19 else
  if n = 20 then some f20 else
  if n = 21 then some f21 else
  if n = 22 then some f22 else
  if n = 23 then some f23 else
  if n = 45 then some f45 else
  if n = 46 then some f46 else
  if n = 47 then some f47 else
  if n = 48 then some f48 else
  if n = 50 then some f50 else
  if n = 51 then some f51 else
  if n = 52 then some f52 else
  if n = 53 then some f53 else
  if n = 69 then some f69 else
  if n = 70 then some f70 else
  if n = 71 then some f71 else
  if n = 72 then some f72 else
  if n = 73 then some f73 else
  if n = 74 then some f74 else
  if n = 75 then some f75 else
  if n = 76 then some f76 else
  if n = 77 then some f77 else
  if n = 78 then some f78 else
  if n = 79 then some f79 else
  if n = 98 then some f98 else
  if n = 99 then some f99 else
  if n = 100 then some f100 else
  if n = 102 then some f102 else
  none
end Go.Abs.Seat
end
section
set_option linter.unusedVariables false
set_option linter.unusedSimpArgs false
/- What the seat's functions come to. -/
set_option linter.unusedVariables false
set_option linter.unusedSimpArgs false
namespace Go.Abs.Seat
open Go.Proofs

/-- A word: a kind, how it is written, how many types it takes. -/
abbrev Word := Int × List UInt8 × Int
def encW (w : Word) : List AV := [.im (.int .i64 w.1), .im (.str w.2.1), .im (.int .i64 w.2.2)]
def words : List Word := [(1, [98, 111, 111, 108], 0), (2, [105, 110, 116], 0), (3, [116, 101, 120, 116], 0), (4, [98, 121, 116, 101, 115], 0), (5, [112, 111, 105, 110, 116], 0), (6, [112, 97, 105, 114], 2), (7, [108, 105, 115, 116], 1), (9, [111, 112, 116, 105, 111, 110], 1)]

set_option maxRecDepth 10000 in
theorem s72 (H : Heap) : L 72 [] H = some (.ms 3 H.length 0 8, H ++ [.obj none (words.map encW)]) := by
  rw [leq F72]
  have e : leave H true (.ms 3 H.length 0 8) (H ++ [.obj none (words.map encW)]) = (.ms 3 H.length 0 8, H ++ [.obj none (words.map encW)]) := by
    unfold leave
    rw [if_neg (by simp [refsLt])]
    rfl
  obtain ⟨hlen, -⟩ := enter_at (f := f72) (args := []) (by decide)
  generalize enterA f72 [] = tm at *
  change tm.length = 10 at hlen
  simp only [f72, exec0, xreg, xops, wantedA, aopc, aop, ev, putA, endK, resA, tupA, List.length_cons, List.length_nil, List.replicate, List.cons_append, List.nil_append, List.append_nil, List.append_assoc, gs_same, gs_ne, gq_same, gq_ne, List.length_set, List.map_cons, List.map_nil, cellsOf, List.all_cons, List.all_nil, cellOk, boxTy, Bool.and_true, Bool.and_self, if_true, ite_true, ite_false, loadAt, storeAt, setAt, hget, hget0, hset, hset0, List.getElem?_cons_zero, List.getElem?_cons_succ, List.set_cons_zero, List.set_cons_succ, Nat.add_zero, Nat.zero_add, Nat.reduceAdd, Nat.reduceSub, Nat.reduceLeDiff, Nat.reduceLT, Nat.reduceEqDiff, Nat.le_refl, and_self, and_true, true_and, mkAgg, toIms, List.drop_zero, List.drop_succ_cons, List.take_succ_cons, List.take_zero, List.length_append, binA, isShift, binInt, binBool, unA, Bool.false_eq_true, if_false, partA, fillA, fillE, List.take_nil, Nat.zero_ne_one, Nat.one_ne_zero, not_false_eq_true, ne_eq, Nat.succ_ne_self, reduceCtorEq, lenA, beq_self_eq_true, beq_true, beq_false, Bool.not_true, Bool.not_false, hlen]
  rw [← e]
  rfl

theorem s77 (H : Heap) (w : Word) (k' : Int) (id : Nat) (x : AV) (hid : H[id]? = some (.obj none [[.im (.int .i64 k'), x]])) :
    L 77 [.im (.agg [.int .i64 w.1, .str w.2.1, .int .i64 w.2.2]), .ptr id 0 0] H = some (.im (.bool (decide (w.1 = k'))), H) := by
  have hlt := (List.getElem?_eq_some_iff.1 hid).1
  have h2 : ∀ o, (H ++ [o])[id]? = some (.obj none [[.im (.int .i64 k'), x]]) := fun o => by rw [List.getElem?_append_left hlt]; exact hid
  rw [leq F77]
  obtain ⟨hlen, ha⟩ := enter_at (f := f77) (args := [.im (.agg [.int .i64 w.1, .str w.2.1, .int .i64 w.2.2]), .ptr id 0 0]) (Nat.le_of_ble_eq_true rfl)
  have h0 := ha 0 _ rfl
  have h1 := ha 1 _ rfl
  generalize enterA f77 [.im (.agg [.int .i64 w.1, .str w.2.1, .int .i64 w.2.2]), .ptr id 0 0] = tm at *
  change tm.length = 9 at hlen
  simp only [f77, exec0, xreg, xops, wantedA, aopc, aop, ev, putA, endK, resA, tupA, List.length_cons, List.length_nil, List.replicate, List.cons_append, List.nil_append, List.append_nil, List.append_assoc, gs_same, gs_ne, gq_same, gq_ne, List.length_set, List.map_cons, List.map_nil, cellsOf, List.all_cons, List.all_nil, cellOk, boxTy, Bool.and_true, Bool.and_self, if_true, ite_true, ite_false, loadAt, storeAt, setAt, hget, hget0, hset, hset0, List.getElem?_cons_zero, List.getElem?_cons_succ, List.set_cons_zero, List.set_cons_succ, Nat.add_zero, Nat.zero_add, Nat.reduceAdd, Nat.reduceSub, Nat.reduceLeDiff, Nat.reduceLT, Nat.reduceEqDiff, Nat.le_refl, and_self, and_true, true_and, mkAgg, toIms, List.drop_zero, List.drop_succ_cons, List.take_succ_cons, List.take_zero, List.length_append, binA, isShift, binInt, binBool, unA, Bool.false_eq_true, if_false, partA, fillA, fillE, List.take_nil, Nat.zero_ne_one, Nat.one_ne_zero, not_false_eq_true, ne_eq, Nat.succ_ne_self, reduceCtorEq, lenA, beq_self_eq_true, beq_true, beq_false, Bool.not_true, Bool.not_false, hlen, h0, h1, h2, leave_app]


theorem l76 (rows : List Word) (idw idt : Nat) (k' : Int) (x : AV) (H : Heap) (hw : H[idw]? = some (.obj none (rows.map encW))) (hid : H[idt]? = some (.obj none [[.im (.int .i64 k'), x]])) (hn : rows.length ≤ 9223372036854775807) :
    ∀ (m i : Nat), i + m = rows.length → ∀ tm : List AV, tm.length = 19 → tm.getD 0 undefA = .ms 3 idw 0 rows.length → tm.getD 1 undefA = .clo 77 [.ptr idt 0 0] → tm.getD 6 undefA = .ms 3 idw 0 rows.length → tm.getD 7 undefA = .im (.int .i64 rows.length) → tm.getD 8 undefA = .im (.int .i64 i) →
    ∃ e tm' H', Λ c76_0 tm H = some (e, tm', H') ∧ tm'.length = 19 ∧ H' = H ∧ match (rows.drop i).findIdx? (fun w => decide (w.1 = k')) with
      | some j => e = .ret ∧ tm'.getD 4 undefA = .im (.int .i64 ((i + j : Nat) : Int))
      | none => e = .exit 0
  | 0, i, hi, tm, hlen, h0, h1, h6, h7, h8 => by
    have e : rows.drop i = [] := by rw [List.drop_eq_nil_iff]; omega
    have hc : decide ((i : Int) < (rows.length : Int)) = false := by simp; omega
    rw [e, l76_0]
    simp only [b76_0, exec0, xreg, xops, wantedA, aopc, aop, ev, putA, endK, resA, tupA, List.length_cons, List.length_nil, List.replicate, List.cons_append, List.nil_append, List.append_nil, List.append_assoc, gs_same, gs_ne, gq_same, gq_ne, List.length_set, List.map_cons, List.map_nil, cellsOf, List.all_cons, List.all_nil, cellOk, boxTy, Bool.and_true, Bool.and_self, if_true, ite_true, ite_false, loadAt, storeAt, setAt, hget, hget0, hset, hset0, List.getElem?_cons_zero, List.getElem?_cons_succ, List.set_cons_zero, List.set_cons_succ, Nat.add_zero, Nat.zero_add, Nat.reduceAdd, Nat.reduceSub, Nat.reduceLeDiff, Nat.reduceLT, Nat.reduceEqDiff, Nat.le_refl, and_self, and_true, true_and, mkAgg, toIms, List.drop_zero, List.drop_succ_cons, List.take_succ_cons, List.take_zero, List.length_append, binA, isShift, binInt, binBool, unA, Bool.false_eq_true, if_false, partA, fillA, fillE, List.take_nil, Nat.zero_ne_one, Nat.one_ne_zero, not_false_eq_true, ne_eq, Nat.succ_ne_self, reduceCtorEq, lenA, beq_self_eq_true, beq_true, beq_false, Bool.not_true, Bool.not_false, hlen, h0, h1, h6, h7, h8, hc, List.findIdx?_nil]
    exact ⟨_, _, _, rfl, by simp only [List.length_set, hlen], rfl, rfl⟩
  | m + 1, i, hi, tm, hlen, h0, h1, h6, h7, h8 => by
    have hlt : i < rows.length := by omega
    obtain ⟨w, hwi⟩ : ∃ w, rows[i]? = some w := ⟨_, List.getElem?_eq_getElem hlt⟩
    have e : rows.drop i = w :: rows.drop (i + 1) := by
      rw [List.drop_eq_getElem_cons hlt]
      congr 1
      rw [List.getElem?_eq_getElem hlt] at hwi
      exact Option.some.inj hwi
    have hc : decide ((i : Int) < (rows.length : Int)) = true := by simp; omega
    have hix := idx_nat hlt
    have hget : (rows.map encW)[i]? = some (encW w) := by rw [List.getElem?_map, hwi]; rfl
    have hcall := s77 H w k' idt x hid
    rw [e, List.findIdx?_cons, l76_0]
    by_cases hk : w.1 = k'
    · have hd : decide (w.1 = k') = true := decide_eq_true hk
      simp only [b76_0, exec0, xreg, xops, wantedA, aopc, aop, ev, putA, endK, resA, tupA, List.length_cons, List.length_nil, List.replicate, List.cons_append, List.nil_append, List.append_nil, List.append_assoc, gs_same, gs_ne, gq_same, gq_ne, List.length_set, List.map_cons, List.map_nil, cellsOf, List.all_cons, List.all_nil, cellOk, boxTy, Bool.and_true, Bool.and_self, if_true, ite_true, ite_false, loadAt, storeAt, setAt, hget, hget0, hset, hset0, List.getElem?_cons_zero, List.getElem?_cons_succ, List.set_cons_zero, List.set_cons_succ, Nat.add_zero, Nat.zero_add, Nat.reduceAdd, Nat.reduceSub, Nat.reduceLeDiff, Nat.reduceLT, Nat.reduceEqDiff, Nat.le_refl, and_self, and_true, true_and, mkAgg, toIms, List.drop_zero, List.drop_succ_cons, List.take_succ_cons, List.take_zero, List.length_append, binA, isShift, binInt, binBool, unA, Bool.false_eq_true, if_false, partA, fillA, fillE, List.take_nil, Nat.zero_ne_one, Nat.one_ne_zero, not_false_eq_true, ne_eq, Nat.succ_ne_self, reduceCtorEq, lenA, beq_self_eq_true, beq_true, beq_false, Bool.not_true, Bool.not_false, hlen, h0, h1, h6, h7, h8, hc, hix, hw, hget, encW, hcall, hd]
      exact ⟨_, _, _, rfl, by simp only [List.length_set, hlen], rfl, rfl, by simp only [gs_same, gs_ne, List.length_set, Nat.reduceLT, Nat.reduceEqDiff, not_false_eq_true, hlen]⟩
    · have hd : decide (w.1 = k') = false := decide_eq_false hk
      have hwr := wrap_nat (i := i) (by omega)
      have key := l76 rows idw idt k' x H hw hid hn m (i + 1) (by omega)
      simp only [b76_0, exec0, xreg, xops, wantedA, aopc, aop, ev, putA, endK, resA, tupA, List.length_cons, List.length_nil, List.replicate, List.cons_append, List.nil_append, List.append_nil, List.append_assoc, gs_same, gs_ne, gq_same, gq_ne, List.length_set, List.map_cons, List.map_nil, cellsOf, List.all_cons, List.all_nil, cellOk, boxTy, Bool.and_true, Bool.and_self, if_true, ite_true, ite_false, loadAt, storeAt, setAt, hget, hget0, hset, hset0, List.getElem?_cons_zero, List.getElem?_cons_succ, List.set_cons_zero, List.set_cons_succ, Nat.add_zero, Nat.zero_add, Nat.reduceAdd, Nat.reduceSub, Nat.reduceLeDiff, Nat.reduceLT, Nat.reduceEqDiff, Nat.le_refl, and_self, and_true, true_and, mkAgg, toIms, List.drop_zero, List.drop_succ_cons, List.take_succ_cons, List.take_zero, List.length_append, binA, isShift, binInt, binBool, unA, Bool.false_eq_true, if_false, partA, fillA, fillE, List.take_nil, Nat.zero_ne_one, Nat.one_ne_zero, not_false_eq_true, ne_eq, Nat.succ_ne_self, reduceCtorEq, lenA, beq_self_eq_true, beq_true, beq_false, Bool.not_true, Bool.not_false, hlen, h0, h1, h6, h7, h8, hc, hix, hw, hget, encW, hcall, hd, hwr]
      cases hf : (rows.drop (i + 1)).findIdx? (fun w => decide (w.1 = k')) with
      | none =>
        simp only [hf] at key
        simp only [Option.map_none]
        apply key
        all_goals simp only [gs_same, gs_ne, List.length_set, Nat.reduceLT, Nat.reduceEqDiff, not_false_eq_true, hlen, h0, h1, h6, h7]
      | some j =>
        simp only [hf] at key
        simp only [Option.map_some]
        rw [show i + (j + 1) = i + 1 + j by omega]
        apply key
        all_goals simp only [gs_same, gs_ne, List.length_set, Nat.reduceLT, Nat.reduceEqDiff, not_false_eq_true, hlen, h0, h1, h6, h7]

end Go.Abs.Seat
end
section
set_option linter.unusedVariables false
set_option linter.unusedSimpArgs false
/- What the seat's functions come to: kinds. -/
set_option linter.unusedVariables false
set_option linter.unusedSimpArgs false
namespace Go.Abs.Seat
open Go.Proofs

theorem s76 (rows : List Word) (idw idt : Nat) (k' : Int) (x : AV) (H : Heap) (hw : H[idw]? = some (.obj none (rows.map encW))) (hid : H[idt]? = some (.obj none [[.im (.int .i64 k'), x]])) (hn : rows.length ≤ 9223372036854775807) :
    L 76 [.ms 3 idw 0 rows.length, .clo 77 [.ptr idt 0 0]] H = some (.im (.int .i64 (match rows.findIdx? (fun w => decide (w.1 = k')) with | some j => ((j : Nat) : Int) | none => -1)), H) := by
  rw [leq F76]
  obtain ⟨hlen, ha⟩ := enter_at (f := f76) (args := [.ms 3 idw 0 rows.length, .clo 77 [.ptr idt 0 0]]) (Nat.le_of_ble_eq_true rfl)
  have h0 := ha 0 _ rfl
  have h1 := ha 1 _ rfl
  generalize enterA f76 [.ms 3 idw 0 rows.length, .clo 77 [.ptr idt 0 0]] = tm at *
  change tm.length = 19 at hlen
  have key := l76 rows idw idt k' x H hw hid hn rows.length 0 (by omega)
  have z : ((0 : Nat) : Int) = 0 := rfl
  simp only [List.drop_zero, Nat.zero_add, z] at key
  simp only [f76, e76_0, exec0, xreg, xops, wantedA, aopc, aop, ev, putA, endK, resA, tupA, List.length_cons, List.length_nil, List.replicate, List.cons_append, List.nil_append, List.append_nil, List.append_assoc, gs_same, gs_ne, gq_same, gq_ne, List.length_set, List.map_cons, List.map_nil, cellsOf, List.all_cons, List.all_nil, cellOk, boxTy, Bool.and_true, Bool.and_self, if_true, ite_true, ite_false, loadAt, storeAt, setAt, hget, hget0, hset, hset0, List.getElem?_cons_zero, List.getElem?_cons_succ, List.set_cons_zero, List.set_cons_succ, Nat.add_zero, Nat.zero_add, Nat.reduceAdd, Nat.reduceSub, Nat.reduceLeDiff, Nat.reduceLT, Nat.reduceEqDiff, Nat.le_refl, and_self, and_true, true_and, mkAgg, toIms, List.drop_zero, List.drop_succ_cons, List.take_succ_cons, List.take_zero, List.length_append, binA, isShift, binInt, binBool, unA, Bool.false_eq_true, if_false, partA, fillA, fillE, List.take_nil, Nat.zero_ne_one, Nat.one_ne_zero, not_false_eq_true, ne_eq, Nat.succ_ne_self, reduceCtorEq, lenA, beq_self_eq_true, beq_true, beq_false, Bool.not_true, Bool.not_false, hlen, h0, h1]
  refine thenL_of (key _ ?_ ?_ ?_ ?_ ?_ ?_) ?_
  iterate 6 simp only [gs_same, gs_ne, List.length_set, Nat.reduceLT, Nat.reduceEqDiff, not_false_eq_true, hlen, h0, h1]
  rintro e tm' H' ⟨hl', rfl, hm⟩
  cases hf : rows.findIdx? (fun w => decide (w.1 = k')) with
  | none =>
    simp only [hf] at hm
    subst hm
    simp only [exec0, xreg, xops, wantedA, aopc, aop, ev, putA, endK, resA, tupA, List.length_cons, List.length_nil, List.replicate, List.cons_append, List.nil_append, List.append_nil, List.append_assoc, gs_same, gs_ne, gq_same, gq_ne, List.length_set, List.map_cons, List.map_nil, cellsOf, List.all_cons, List.all_nil, cellOk, boxTy, Bool.and_true, Bool.and_self, if_true, ite_true, ite_false, loadAt, storeAt, setAt, hget, hget0, hset, hset0, List.getElem?_cons_zero, List.getElem?_cons_succ, List.set_cons_zero, List.set_cons_succ, Nat.add_zero, Nat.zero_add, Nat.reduceAdd, Nat.reduceSub, Nat.reduceLeDiff, Nat.reduceLT, Nat.reduceEqDiff, Nat.le_refl, and_self, and_true, true_and, mkAgg, toIms, List.drop_zero, List.drop_succ_cons, List.take_succ_cons, List.take_zero, List.length_append, binA, isShift, binInt, binBool, unA, Bool.false_eq_true, if_false, partA, fillA, fillE, List.take_nil, Nat.zero_ne_one, Nat.one_ne_zero, not_false_eq_true, ne_eq, Nat.succ_ne_self, reduceCtorEq, lenA, beq_self_eq_true, beq_true, beq_false, Bool.not_true, Bool.not_false, hl', leave_same]
  | some j =>
    simp only [hf] at hm
    obtain ⟨rfl, h4⟩ := hm
    simp only [exec0, xreg, xops, wantedA, aopc, aop, ev, putA, endK, resA, tupA, List.length_cons, List.length_nil, List.replicate, List.cons_append, List.nil_append, List.append_nil, List.append_assoc, gs_same, gs_ne, gq_same, gq_ne, List.length_set, List.map_cons, List.map_nil, cellsOf, List.all_cons, List.all_nil, cellOk, boxTy, Bool.and_true, Bool.and_self, if_true, ite_true, ite_false, loadAt, storeAt, setAt, hget, hget0, hset, hset0, List.getElem?_cons_zero, List.getElem?_cons_succ, List.set_cons_zero, List.set_cons_succ, Nat.add_zero, Nat.zero_add, Nat.reduceAdd, Nat.reduceSub, Nat.reduceLeDiff, Nat.reduceLT, Nat.reduceEqDiff, Nat.le_refl, and_self, and_true, true_and, mkAgg, toIms, List.drop_zero, List.drop_succ_cons, List.take_succ_cons, List.take_zero, List.length_append, binA, isShift, binInt, binBool, unA, Bool.false_eq_true, if_false, partA, fillA, fillE, List.take_nil, Nat.zero_ne_one, Nat.one_ne_zero, not_false_eq_true, ne_eq, Nat.succ_ne_self, reduceCtorEq, lenA, beq_self_eq_true, beq_true, beq_false, Bool.not_true, Bool.not_false, hl', leave_same, h4]

/-! ### types -/

/-- A type: its kind, its types; s: how many cells the slice's elements take (of none, it does not count). -/
inductive KT where
  | mk (k : Int) (s : Nat) (args : List KT)

def KT.k : KT → Int
  | .mk k _ _ => k
def KT.s : KT → Nat
  | .mk _ s _ => s
def KT.args : KT → List KT
  | .mk _ _ args => args

mutual
def encT : KT → List Dat
  | .mk k s args => [.int .i64 k, .sl s (encTs args)]
def encTs : List KT → List (List Dat)
  | [] => []
  | a :: l => encT a :: encTs l
end

theorem encTs_map : ∀ l : List KT, encTs l = l.map encT
  | [] => rfl
  | a :: l => by simp only [encTs, List.map_cons, encTs_map l]

mutual
def okT : KT → Prop
  | .mk _ s args => (args = [] ∨ s = 2) ∧ args.length ≤ 9223372036854775807 ∧ okTs args
def okTs : List KT → Prop
  | [] => True
  | a :: l => okT a ∧ okTs l
end

theorem okTs_mem : ∀ {l : List KT}, okTs l → ∀ a ∈ l, okT a
  | [], _, a, h => by simp at h
  | b :: l, h, a, hm => by
    simp only [okTs] at h
    rcases List.mem_cons.1 hm with rfl | hm
    · exact h.1
    · exact okTs_mem h.2 a hm

/-- slices.IndexFunc over types. -/
theorem l102 (args : List KT) (s : Nat) (hs : args = [] ∨ s = 2) (hn : args.length ≤ 9223372036854775807) (p : KT → Bool) (g : FuncId) (cap : List AV) (H : Heap)
    (hc : ∀ a ∈ args, L g ([.im (.agg (encT a))] ++ cap) H = some (.im (.bool (p a)), H)) :
    ∀ (m i : Nat), i + m = args.length → ∀ tm : List AV, tm.length = 19 → tm.getD 0 undefA = .im (.sl s (args.map encT)) → tm.getD 1 undefA = .clo g cap → tm.getD 6 undefA = .im (.sl s (args.map encT)) → tm.getD 7 undefA = .im (.int .i64 args.length) → tm.getD 8 undefA = .im (.int .i64 i) →
    ∃ e tm' H', Λ c102_0 tm H = some (e, tm', H') ∧ tm'.length = 19 ∧ H' = H ∧ match (args.drop i).findIdx? p with
      | some j => e = .ret ∧ tm'.getD 4 undefA = .im (.int .i64 ((i + j : Nat) : Int))
      | none => e = .exit 0
  | 0, i, hi, tm, hlen, h0, h1, h6, h7, h8 => by
    have e : args.drop i = [] := by rw [List.drop_eq_nil_iff]; omega
    have hc : decide ((i : Int) < (args.length : Int)) = false := by simp; omega
    rw [e, l102_0]
    simp only [b102_0, exec0, xreg, xops, wantedA, aopc, aop, ev, putA, endK, resA, tupA, List.length_cons, List.length_nil, List.replicate, List.cons_append, List.nil_append, List.append_nil, List.append_assoc, gs_same, gs_ne, gq_same, gq_ne, List.length_set, List.map_cons, List.map_nil, cellsOf, List.all_cons, List.all_nil, cellOk, boxTy, Bool.and_true, Bool.and_self, if_true, ite_true, ite_false, loadAt, storeAt, setAt, hget, hget0, hset, hset0, List.getElem?_cons_zero, List.getElem?_cons_succ, List.set_cons_zero, List.set_cons_succ, Nat.add_zero, Nat.zero_add, Nat.reduceAdd, Nat.reduceSub, Nat.reduceLeDiff, Nat.reduceLT, Nat.reduceEqDiff, Nat.le_refl, and_self, and_true, true_and, mkAgg, toIms, List.drop_zero, List.drop_succ_cons, List.take_succ_cons, List.take_zero, List.length_append, binA, isShift, binInt, binBool, unA, Bool.false_eq_true, if_false, partA, fillA, fillE, List.take_nil, Nat.zero_ne_one, Nat.one_ne_zero, not_false_eq_true, ne_eq, Nat.succ_ne_self, reduceCtorEq, lenA, beq_self_eq_true, beq_true, beq_false, Bool.not_true, Bool.not_false, hlen, h0, h1, h6, h7, h8, hc, List.findIdx?_nil]
    exact ⟨_, _, _, rfl, by simp only [List.length_set, hlen], rfl, rfl⟩
  | m + 1, i, hi, tm, hlen, h0, h1, h6, h7, h8 => by
    have hlt : i < args.length := by omega
    obtain ⟨w, hwi⟩ : ∃ w, args[i]? = some w := ⟨_, List.getElem?_eq_getElem hlt⟩
    have e : args.drop i = w :: args.drop (i + 1) := by
      rw [List.drop_eq_getElem_cons hlt]
      congr 1
      rw [List.getElem?_eq_getElem hlt] at hwi
      exact Option.some.inj hwi
    have hs2 : s = 2 := by
      rcases hs with hs | hs
      · subst hs; simp at hlt
      · exact hs
    subst hs2
    have hc' : decide ((i : Int) < (args.length : Int)) = true := by simp; omega
    have hix := idx_nat (n := (args.map encT).length) (i := i) (by simpa using hlt)
    have hget : (args.map encT)[i]? = some (encT w) := by rw [List.getElem?_map, hwi]; rfl
    have hcall := hc w (List.mem_of_getElem? hwi)
    obtain ⟨k, s', ts⟩ := w
    have hwr := wrap_nat (i := i) (by omega)
    have key := l102 args 2 hs hn p g cap H hc m (i + 1) (by omega)
    rw [e, List.findIdx?_cons, l102_0]
    simp only [encT, List.cons_append, List.nil_append] at hcall hget
    cases hp : p (.mk k s' ts) with
    | true =>
      simp only [hp] at hcall
      simp only [b102_0, exec0, xreg, xops, wantedA, aopc, aop, ev, putA, endK, resA, tupA, List.length_cons, List.length_nil, List.replicate, List.cons_append, List.nil_append, List.append_nil, List.append_assoc, gs_same, gs_ne, gq_same, gq_ne, List.length_set, List.map_cons, List.map_nil, cellsOf, List.all_cons, List.all_nil, cellOk, boxTy, Bool.and_true, Bool.and_self, if_true, ite_true, ite_false, loadAt, storeAt, setAt, hget, hget0, hset, hset0, List.getElem?_cons_zero, List.getElem?_cons_succ, List.set_cons_zero, List.set_cons_succ, Nat.add_zero, Nat.zero_add, Nat.reduceAdd, Nat.reduceSub, Nat.reduceLeDiff, Nat.reduceLT, Nat.reduceEqDiff, Nat.le_refl, and_self, and_true, true_and, mkAgg, toIms, List.drop_zero, List.drop_succ_cons, List.take_succ_cons, List.take_zero, List.length_append, binA, isShift, binInt, binBool, unA, Bool.false_eq_true, if_false, partA, fillA, fillE, List.take_nil, Nat.zero_ne_one, Nat.one_ne_zero, not_false_eq_true, ne_eq, Nat.succ_ne_self, reduceCtorEq, lenA, beq_self_eq_true, beq_true, beq_false, Bool.not_true, Bool.not_false, hlen, h0, h1, h6, h7, h8, hc', hix, hget, hcall]
      exact ⟨_, _, _, rfl, by simp only [List.length_set, hlen], rfl, rfl, by simp only [gs_same, gs_ne, List.length_set, Nat.reduceLT, Nat.reduceEqDiff, not_false_eq_true, hlen]⟩
    | false =>
      simp only [hp] at hcall
      simp only [b102_0, exec0, xreg, xops, wantedA, aopc, aop, ev, putA, endK, resA, tupA, List.length_cons, List.length_nil, List.replicate, List.cons_append, List.nil_append, List.append_nil, List.append_assoc, gs_same, gs_ne, gq_same, gq_ne, List.length_set, List.map_cons, List.map_nil, cellsOf, List.all_cons, List.all_nil, cellOk, boxTy, Bool.and_true, Bool.and_self, if_true, ite_true, ite_false, loadAt, storeAt, setAt, hget, hget0, hset, hset0, List.getElem?_cons_zero, List.getElem?_cons_succ, List.set_cons_zero, List.set_cons_succ, Nat.add_zero, Nat.zero_add, Nat.reduceAdd, Nat.reduceSub, Nat.reduceLeDiff, Nat.reduceLT, Nat.reduceEqDiff, Nat.le_refl, and_self, and_true, true_and, mkAgg, toIms, List.drop_zero, List.drop_succ_cons, List.take_succ_cons, List.take_zero, List.length_append, binA, isShift, binInt, binBool, unA, Bool.false_eq_true, if_false, partA, fillA, fillE, List.take_nil, Nat.zero_ne_one, Nat.one_ne_zero, not_false_eq_true, ne_eq, Nat.succ_ne_self, reduceCtorEq, lenA, beq_self_eq_true, beq_true, beq_false, Bool.not_true, Bool.not_false, hlen, h0, h1, h6, h7, h8, hc', hix, hget, hcall, hwr]
      cases hf : (args.drop (i + 1)).findIdx? p with
      | none =>
        simp only [hf] at key
        simp only [Option.map_none]
        apply key
        all_goals simp only [gs_same, gs_ne, List.length_set, Nat.reduceLT, Nat.reduceEqDiff, not_false_eq_true, hlen, h0, h1, h6, h7]
      | some j =>
        simp only [hf] at key
        simp only [Option.map_some]
        rw [show i + (j + 1) = i + 1 + j by omega]
        apply key
        all_goals simp only [gs_same, gs_ne, List.length_set, Nat.reduceLT, Nat.reduceEqDiff, not_false_eq_true, hlen, h0, h1, h6, h7]

theorem s102 (args : List KT) (s : Nat) (hs : args = [] ∨ s = 2) (hn : args.length ≤ 9223372036854775807) (p : KT → Bool) (g : FuncId) (cap : List AV) (H : Heap)
    (hc : ∀ a ∈ args, L g ([.im (.agg (encT a))] ++ cap) H = some (.im (.bool (p a)), H)) :
    L 102 [.im (.sl s (args.map encT)), .clo g cap] H = some (.im (.int .i64 (match args.findIdx? p with | some j => ((j : Nat) : Int) | none => -1)), H) := by
  rw [leq F102]
  obtain ⟨hlen, ha⟩ := enter_at (f := f102) (args := [.im (.sl s (args.map encT)), .clo g cap]) (Nat.le_of_ble_eq_true rfl)
  have h0 := ha 0 _ rfl
  have h1 := ha 1 _ rfl
  generalize enterA f102 [.im (.sl s (args.map encT)), .clo g cap] = tm at *
  change tm.length = 19 at hlen
  have key := l102 args s hs hn p g cap H hc args.length 0 (by omega)
  have z : ((0 : Nat) : Int) = 0 := rfl
  simp only [List.drop_zero, Nat.zero_add, z] at key
  simp only [f102, e102_0, exec0, xreg, xops, wantedA, aopc, aop, ev, putA, endK, resA, tupA, List.length_cons, List.length_nil, List.replicate, List.cons_append, List.nil_append, List.append_nil, List.append_assoc, gs_same, gs_ne, gq_same, gq_ne, List.length_set, List.map_cons, List.map_nil, cellsOf, List.all_cons, List.all_nil, cellOk, boxTy, Bool.and_true, Bool.and_self, if_true, ite_true, ite_false, loadAt, storeAt, setAt, hget, hget0, hset, hset0, List.getElem?_cons_zero, List.getElem?_cons_succ, List.set_cons_zero, List.set_cons_succ, Nat.add_zero, Nat.zero_add, Nat.reduceAdd, Nat.reduceSub, Nat.reduceLeDiff, Nat.reduceLT, Nat.reduceEqDiff, Nat.le_refl, and_self, and_true, true_and, mkAgg, toIms, List.drop_zero, List.drop_succ_cons, List.take_succ_cons, List.take_zero, List.length_append, binA, isShift, binInt, binBool, unA, Bool.false_eq_true, if_false, partA, fillA, fillE, List.take_nil, Nat.zero_ne_one, Nat.one_ne_zero, not_false_eq_true, ne_eq, Nat.succ_ne_self, reduceCtorEq, lenA, beq_self_eq_true, beq_true, beq_false, Bool.not_true, Bool.not_false, hlen, h0, h1]
  refine thenL_of (key _ ?_ ?_ ?_ ?_ ?_ ?_) ?_
  iterate 6 simp only [gs_same, gs_ne, List.length_set, Nat.reduceLT, Nat.reduceEqDiff, not_false_eq_true, hlen, h0, h1, List.length_map]
  rintro e tm' H' ⟨hl', rfl, hm⟩
  cases hf : args.findIdx? p with
  | none =>
    simp only [hf] at hm
    subst hm
    simp only [exec0, xreg, xops, wantedA, aopc, aop, ev, putA, endK, resA, tupA, List.length_cons, List.length_nil, List.replicate, List.cons_append, List.nil_append, List.append_nil, List.append_assoc, gs_same, gs_ne, gq_same, gq_ne, List.length_set, List.map_cons, List.map_nil, cellsOf, List.all_cons, List.all_nil, cellOk, boxTy, Bool.and_true, Bool.and_self, if_true, ite_true, ite_false, loadAt, storeAt, setAt, hget, hget0, hset, hset0, List.getElem?_cons_zero, List.getElem?_cons_succ, List.set_cons_zero, List.set_cons_succ, Nat.add_zero, Nat.zero_add, Nat.reduceAdd, Nat.reduceSub, Nat.reduceLeDiff, Nat.reduceLT, Nat.reduceEqDiff, Nat.le_refl, and_self, and_true, true_and, mkAgg, toIms, List.drop_zero, List.drop_succ_cons, List.take_succ_cons, List.take_zero, List.length_append, binA, isShift, binInt, binBool, unA, Bool.false_eq_true, if_false, partA, fillA, fillE, List.take_nil, Nat.zero_ne_one, Nat.one_ne_zero, not_false_eq_true, ne_eq, Nat.succ_ne_self, reduceCtorEq, lenA, beq_self_eq_true, beq_true, beq_false, Bool.not_true, Bool.not_false, hl', leave_same]
  | some j =>
    simp only [hf] at hm
    obtain ⟨rfl, h4⟩ := hm
    simp only [exec0, xreg, xops, wantedA, aopc, aop, ev, putA, endK, resA, tupA, List.length_cons, List.length_nil, List.replicate, List.cons_append, List.nil_append, List.append_nil, List.append_assoc, gs_same, gs_ne, gq_same, gq_ne, List.length_set, List.map_cons, List.map_nil, cellsOf, List.all_cons, List.all_nil, cellOk, boxTy, Bool.and_true, Bool.and_self, if_true, ite_true, ite_false, loadAt, storeAt, setAt, hget, hget0, hset, hset0, List.getElem?_cons_zero, List.getElem?_cons_succ, List.set_cons_zero, List.set_cons_succ, Nat.add_zero, Nat.zero_add, Nat.reduceAdd, Nat.reduceSub, Nat.reduceLeDiff, Nat.reduceLT, Nat.reduceEqDiff, Nat.le_refl, and_self, and_true, true_and, mkAgg, toIms, List.drop_zero, List.drop_succ_cons, List.take_succ_cons, List.take_zero, List.length_append, binA, isShift, binInt, binBool, unA, Bool.false_eq_true, if_false, partA, fillA, fillE, List.take_nil, Nat.zero_ne_one, Nat.one_ne_zero, not_false_eq_true, ne_eq, Nat.succ_ne_self, reduceCtorEq, lenA, beq_self_eq_true, beq_true, beq_false, Bool.not_true, Bool.not_false, hl', leave_same, h4]

theorem s78 (args : List KT) (s : Nat) (hs : args = [] ∨ s = 2) (hn : args.length ≤ 9223372036854775807) (p : KT → Bool) (g : FuncId) (cap : List AV) (H : Heap)
    (hc : ∀ a ∈ args, L g ([.im (.agg (encT a))] ++ cap) H = some (.im (.bool (p a)), H)) :
    L 78 [.im (.sl s (args.map encT)), .clo g cap] H = some (.im (.bool (args.any p)), H) := by
  have h102 := s102 args s hs hn p g cap H hc
  rw [leq F78]
  obtain ⟨hlen, ha⟩ := enter_at (f := f78) (args := [.im (.sl s (args.map encT)), .clo g cap]) (Nat.le_of_ble_eq_true rfl)
  have h0 := ha 0 _ rfl
  have h1 := ha 1 _ rfl
  generalize enterA f78 [.im (.sl s (args.map encT)), .clo g cap] = tm at *
  change tm.length = 9 at hlen
  simp only [f78, exec0, xreg, xops, wantedA, aopc, aop, ev, putA, endK, resA, tupA, List.length_cons, List.length_nil, List.replicate, List.cons_append, List.nil_append, List.append_nil, List.append_assoc, gs_same, gs_ne, gq_same, gq_ne, List.length_set, List.map_cons, List.map_nil, cellsOf, List.all_cons, List.all_nil, cellOk, boxTy, Bool.and_true, Bool.and_self, if_true, ite_true, ite_false, loadAt, storeAt, setAt, hget, hget0, hset, hset0, List.getElem?_cons_zero, List.getElem?_cons_succ, List.set_cons_zero, List.set_cons_succ, Nat.add_zero, Nat.zero_add, Nat.reduceAdd, Nat.reduceSub, Nat.reduceLeDiff, Nat.reduceLT, Nat.reduceEqDiff, Nat.le_refl, and_self, and_true, true_and, mkAgg, toIms, List.drop_zero, List.drop_succ_cons, List.take_succ_cons, List.take_zero, List.length_append, binA, isShift, binInt, binBool, unA, Bool.false_eq_true, if_false, partA, fillA, fillE, List.take_nil, Nat.zero_ne_one, Nat.one_ne_zero, not_false_eq_true, ne_eq, Nat.succ_ne_self, reduceCtorEq, lenA, beq_self_eq_true, beq_true, beq_false, Bool.not_true, Bool.not_false, hlen, h0, h1, h102, leave_same]
  congr 4
  cases hf : args.findIdx? p with
  | none =>
    rw [List.findIdx?_eq_none_iff] at hf
    have : args.any p = false := by simpa using hf
    rw [this]; rfl
  | some j =>
    have : args.any p = true := by
      rw [List.any_eq_true]
      obtain ⟨h1, h2, _⟩ := List.findIdx?_eq_some_iff_getElem.1 hf
      exact ⟨_, List.getElem_mem h1, h2⟩
    rw [this]
    simp

end Go.Abs.Seat
end
section
set_option linter.unusedVariables false
set_option linter.unusedSimpArgs false
/- What the seat's functions come to: is a type right? -/
set_option linter.unusedVariables false
set_option linter.unusedSimpArgs false
namespace Go.Abs.Seat
open Go.Proofs

/-- The words' number of a kind; how many types it takes. -/
def kidx (k : Int) : Option Nat := words.findIdx? (fun w => decide (w.1 = k))
def kcnt (i : Nat) : Int := match words[i]? with
  | some w => w.2.2
  | none => 0

mutual
def rightT : KT → Int → Bool
  | .mk k _ args, d => match kidx k with
    | some i => if d < 1 then false else if (args.length : Int) = kcnt i then !rightNot args (d - 1) else false
    | none => false
/-- Is one of them not right? -/
def rightNot : List KT → Int → Bool
  | [], _ => false
  | a :: l, d => !rightT a d || rightNot l d
end

theorem rightNot_any : ∀ (l : List KT) (d : Int), rightNot l d = l.any fun a => !rightT a d
  | [], d => rfl
  | a :: l, d => by simp only [rightNot, List.any_cons, rightNot_any l d]

theorem kidx_lt {k : Int} {i : Nat} (h : kidx k = some i) : i < 8 ∧ ∃ w, words[i]? = some w ∧ kcnt i = w.2.2 := by
  obtain ⟨h1, _, _⟩ := List.findIdx?_eq_some_iff_getElem.1 h
  refine ⟨h1, words[i], List.getElem?_eq_getElem h1, ?_⟩
  unfold kcnt
  rw [List.getElem?_eq_getElem h1]

theorem wrap_small (z : Int) (h : -9223372036854775808 ≤ z ∧ z < 9223372036854775808) : IntKind.i64.wrap z = z := by
  simp [IntKind.wrap, IntKind.bits, IntKind.signed]
  omega

theorem s79 (a : KT) (d : Int) (hd : 1 ≤ d ∧ d ≤ 1000) (idd : Nat) (H : Heap) (hid : H[idd]? = some (.obj none [[.im (.int .i64 d)]])) (b : Bool) (h51 : ∀ H, L 51 [.im (.agg (encT a)), .im (.int .i64 (d - 1))] H = some (.im (.bool b), H)) :
    L 79 [.im (.agg (encT a)), .ptr idd 0 0] H = some (.im (.bool (!b)), H) := by
  have hlt := (List.getElem?_eq_some_iff.1 hid).1
  have h2 : ∀ o, (H ++ [o])[idd]? = some (.obj none [[.im (.int .i64 d)]]) := fun o => by rw [List.getElem?_append_left hlt]; exact hid
  have hwr := wrap_small (d - 1) (by omega)
  obtain ⟨k, s, ts⟩ := a
  simp only [encT] at h51 ⊢
  rw [leq F79]
  obtain ⟨hlen, ha⟩ := enter_at (f := f79) (args := [.im (.agg [.int .i64 k, .sl s (encTs ts)]), .ptr idd 0 0]) (Nat.le_of_ble_eq_true rfl)
  have h0 := ha 0 _ rfl
  have h1 := ha 1 _ rfl
  generalize enterA f79 [.im (.agg [.int .i64 k, .sl s (encTs ts)]), .ptr idd 0 0] = tm at *
  change tm.length = 9 at hlen
  simp only [f79, exec0, xreg, xops, wantedA, aopc, aop, ev, putA, endK, resA, tupA, List.length_cons, List.length_nil, List.replicate, List.cons_append, List.nil_append, List.append_nil, List.append_assoc, gs_same, gs_ne, gq_same, gq_ne, List.length_set, List.map_cons, List.map_nil, cellsOf, List.all_cons, List.all_nil, cellOk, boxTy, Bool.and_true, Bool.and_self, if_true, ite_true, ite_false, loadAt, storeAt, setAt, hget, hget0, hset, hset0, List.getElem?_cons_zero, List.getElem?_cons_succ, List.set_cons_zero, List.set_cons_succ, Nat.add_zero, Nat.zero_add, Nat.reduceAdd, Nat.reduceSub, Nat.reduceLeDiff, Nat.reduceLT, Nat.reduceEqDiff, Nat.le_refl, and_self, and_true, true_and, mkAgg, toIms, List.drop_zero, List.drop_succ_cons, List.take_succ_cons, List.take_zero, List.length_append, binA, isShift, binInt, binBool, unA, Bool.false_eq_true, if_false, partA, fillA, fillE, List.take_nil, Nat.zero_ne_one, Nat.one_ne_zero, not_false_eq_true, ne_eq, Nat.succ_ne_self, reduceCtorEq, lenA, beq_self_eq_true, beq_true, beq_false, Bool.not_true, Bool.not_false, hlen, h0, h1, h2, hwr, h51, leave_app]

theorem s51 : ∀ (t : KT), okT t → ∀ (d : Int), 0 ≤ d → d ≤ 1000 → ∀ H, L 51 [.im (.agg (encT t)), .im (.int .i64 d)] H = some (.im (.bool (rightT t d)), H)
  | .mk k s args, hok, d, hd0, hd1, H => by
    simp only [okT] at hok
    obtain ⟨hs, hn, hoks⟩ := hok
    have h76 := fun H' id (hid : H'[id]? = some (.obj none [[.im (.int .i64 k), .im (.sl s (encTs args))]])) (idw : Nat) (hw : H'[idw]? = some (.obj none (words.map encW))) => s76 words idw id k (.im (.sl s (encTs args))) H' hw hid (by decide)
    simp only [encT]
    rw [leq F51]
    obtain ⟨hlen, ha⟩ := enter_at (f := f51) (args := [.im (.agg [.int .i64 k, .sl s (encTs args)]), .im (.int .i64 d)]) (Nat.le_of_ble_eq_true rfl)
    have h0 := ha 0 _ rfl
    have h1 := ha 1 _ rfl
    generalize enterA f51 [.im (.agg [.int .i64 k, .sl s (encTs args)]), .im (.int .i64 d)] = tm at *
    change tm.length = 31 at hlen
    have h76' := h76 (H ++ [.obj none [[.im (.int .i64 k), .im (.sl s (encTs args))]], .obj none [[.im (.int .i64 d)]], .obj none (words.map encW)]) H.length (by rw [hget0]; rfl) (H.length + 2) (by rw [hget]; rfl)
    simp only [show words.length = 8 from rfl] at h76'
    cases hk : kidx k with
    | none =>
      unfold kidx at hk
      simp only [hk] at h76'
      have e1 : decide ((-1 : Int) < 0) = true := rfl
      simp only [f51, exec0, xreg, xops, wantedA, aopc, aop, ev, putA, endK, resA, tupA, List.length_cons, List.length_nil, List.replicate, List.cons_append, List.nil_append, List.append_nil, List.append_assoc, gs_same, gs_ne, gq_same, gq_ne, List.length_set, List.map_cons, List.map_nil, cellsOf, List.all_cons, List.all_nil, cellOk, boxTy, Bool.and_true, Bool.and_self, if_true, ite_true, ite_false, loadAt, storeAt, setAt, hget, hget0, hset, hset0, List.getElem?_cons_zero, List.getElem?_cons_succ, List.set_cons_zero, List.set_cons_succ, Nat.add_zero, Nat.zero_add, Nat.reduceAdd, Nat.reduceSub, Nat.reduceLeDiff, Nat.reduceLT, Nat.reduceEqDiff, Nat.le_refl, and_self, and_true, true_and, mkAgg, toIms, List.drop_zero, List.drop_succ_cons, List.take_succ_cons, List.take_zero, List.length_append, binA, isShift, binInt, binBool, unA, Bool.false_eq_true, if_false, partA, fillA, fillE, List.take_nil, Nat.zero_ne_one, Nat.one_ne_zero, not_false_eq_true, ne_eq, Nat.succ_ne_self, reduceCtorEq, lenA, beq_self_eq_true, beq_true, beq_false, Bool.not_true, Bool.not_false, stays, loadOf, List.reverse_cons, List.reverse_nil, List.mem_cons, List.not_mem_nil, or_false, forall_eq, true_or, or_true, Bool.true_and, hlen, h0, h1, s72, h76', e1, leave_app]
      have e2 : rightT (.mk k s args) d = false := by
        unfold rightT kidx
        rw [hk]
      rw [e2]
    | some i =>
      obtain ⟨hi8, w, hw, hcw⟩ := kidx_lt hk
      have hk' := hk
      unfold kidx at hk
      simp only [hk] at h76'
      have e1 : decide ((i : Int) < 0) = false := decide_eq_false (by omega)
      by_cases hd : d < 1
      · have e3 : decide (d < 1) = true := decide_eq_true hd
        have e2 : rightT (.mk k s args) d = false := by
          simp only [rightT, hk', hd, if_true]
        simp only [f51, exec0, xreg, xops, wantedA, aopc, aop, ev, putA, endK, resA, tupA, List.length_cons, List.length_nil, List.replicate, List.cons_append, List.nil_append, List.append_nil, List.append_assoc, gs_same, gs_ne, gq_same, gq_ne, List.length_set, List.map_cons, List.map_nil, cellsOf, List.all_cons, List.all_nil, cellOk, boxTy, Bool.and_true, Bool.and_self, if_true, ite_true, ite_false, loadAt, storeAt, setAt, hget, hget0, hset, hset0, List.getElem?_cons_zero, List.getElem?_cons_succ, List.set_cons_zero, List.set_cons_succ, Nat.add_zero, Nat.zero_add, Nat.reduceAdd, Nat.reduceSub, Nat.reduceLeDiff, Nat.reduceLT, Nat.reduceEqDiff, Nat.le_refl, and_self, and_true, true_and, mkAgg, toIms, List.drop_zero, List.drop_succ_cons, List.take_succ_cons, List.take_zero, List.length_append, binA, isShift, binInt, binBool, unA, Bool.false_eq_true, if_false, partA, fillA, fillE, List.take_nil, Nat.zero_ne_one, Nat.one_ne_zero, not_false_eq_true, ne_eq, Nat.succ_ne_self, reduceCtorEq, lenA, beq_self_eq_true, beq_true, beq_false, Bool.not_true, Bool.not_false, stays, loadOf, List.reverse_cons, List.reverse_nil, List.mem_cons, List.not_mem_nil, or_false, forall_eq, true_or, or_true, Bool.true_and, hlen, h0, h1, s72, h76', e1, e3, leave_app]
        rw [e2]
      · have e3 : decide (d < 1) = false := decide_eq_false hd
        have hix := idx_nat (n := 8) (i := i) hi8
        have hgw : (words.map encW)[i]? = some (encW w) := by rw [List.getElem?_map, hw]; rfl
        have hel : (encTs args).length = args.length := by rw [encTs_map]; simp
        by_cases hc : (args.length : Int) = w.2.2
        · have e4 : decide ((args.length : Int) = w.2.2) = true := decide_eq_true hc
          have e2 : rightT (.mk k s args) d = !(args.any fun a => !rightT a (d - 1)) := by
            simp only [rightT, rightNot_any, hk', hd, if_false, hcw, hc, if_true]
          have h78 := s78 args s hs hn (fun a => !rightT a (d - 1)) 79 [.ptr (H.length + 1) 0 0] (H ++ [.obj none [[.im (.int .i64 k), .im (.sl s (encTs args))]], .obj none [[.im (.int .i64 d)]], .obj none (words.map encW), .obj none (words.map encW)])
            (fun a ha => s79 a d ⟨by omega, hd1⟩ (H.length + 1) _ (by rw [hget]; rfl) (rightT a (d - 1)) (fun H' => s51 a (okTs_mem hoks a ha) (d - 1) (by omega) (by omega) H'))
          rw [← encTs_map] at h78
          rw [e2]
          simp only [f51, exec0, xreg, xops, wantedA, aopc, aop, ev, putA, endK, resA, tupA, List.length_cons, List.length_nil, List.replicate, List.cons_append, List.nil_append, List.append_nil, List.append_assoc, gs_same, gs_ne, gq_same, gq_ne, List.length_set, List.map_cons, List.map_nil, cellsOf, List.all_cons, List.all_nil, cellOk, boxTy, Bool.and_true, Bool.and_self, if_true, ite_true, ite_false, loadAt, storeAt, setAt, hget, hget0, hset, hset0, List.getElem?_cons_zero, List.getElem?_cons_succ, List.set_cons_zero, List.set_cons_succ, Nat.add_zero, Nat.zero_add, Nat.reduceAdd, Nat.reduceSub, Nat.reduceLeDiff, Nat.reduceLT, Nat.reduceEqDiff, Nat.le_refl, and_self, and_true, true_and, mkAgg, toIms, List.drop_zero, List.drop_succ_cons, List.take_succ_cons, List.take_zero, List.length_append, binA, isShift, binInt, binBool, unA, Bool.false_eq_true, if_false, partA, fillA, fillE, List.take_nil, Nat.zero_ne_one, Nat.one_ne_zero, not_false_eq_true, ne_eq, Nat.succ_ne_self, reduceCtorEq, lenA, beq_self_eq_true, beq_true, beq_false, Bool.not_true, Bool.not_false, stays, loadOf, List.reverse_cons, List.reverse_nil, List.mem_cons, List.not_mem_nil, or_false, forall_eq, true_or, or_true, Bool.true_and, hlen, h0, h1, s72, h76', e1, e3, hix, hgw, encW, hel, e4, h78, leave_app]
        · have e4 : decide ((args.length : Int) = w.2.2) = false := decide_eq_false hc
          have e2 : rightT (.mk k s args) d = false := by
            simp only [rightT, hk', hd, if_false, hcw, hc]
          simp only [f51, exec0, xreg, xops, wantedA, aopc, aop, ev, putA, endK, resA, tupA, List.length_cons, List.length_nil, List.replicate, List.cons_append, List.nil_append, List.append_nil, List.append_assoc, gs_same, gs_ne, gq_same, gq_ne, List.length_set, List.map_cons, List.map_nil, cellsOf, List.all_cons, List.all_nil, cellOk, boxTy, Bool.and_true, Bool.and_self, if_true, ite_true, ite_false, loadAt, storeAt, setAt, hget, hget0, hset, hset0, List.getElem?_cons_zero, List.getElem?_cons_succ, List.set_cons_zero, List.set_cons_succ, Nat.add_zero, Nat.zero_add, Nat.reduceAdd, Nat.reduceSub, Nat.reduceLeDiff, Nat.reduceLT, Nat.reduceEqDiff, Nat.le_refl, and_self, and_true, true_and, mkAgg, toIms, List.drop_zero, List.drop_succ_cons, List.take_succ_cons, List.take_zero, List.length_append, binA, isShift, binInt, binBool, unA, Bool.false_eq_true, if_false, partA, fillA, fillE, List.take_nil, Nat.zero_ne_one, Nat.one_ne_zero, not_false_eq_true, ne_eq, Nat.succ_ne_self, reduceCtorEq, lenA, beq_self_eq_true, beq_true, beq_false, Bool.not_true, Bool.not_false, stays, loadOf, List.reverse_cons, List.reverse_nil, List.mem_cons, List.not_mem_nil, or_false, forall_eq, true_or, or_true, Bool.true_and, hlen, h0, h1, s72, h76', e1, e3, hix, hgw, encW, hel, e4, leave_app]
          rw [e2]
termination_by t => SizeOf.sizeOf t
decreasing_by
  have := List.sizeOf_lt_of_mem ha
  simp only [KT.mk.sizeOf_spec]
  omega

end Go.Abs.Seat
end
section
set_option linter.unusedVariables false
set_option linter.unusedSimpArgs false
/- What the seat's functions come to: Check, Depth. -/
set_option linter.unusedVariables false
set_option linter.unusedSimpArgs false
namespace Go.Abs.Seat
open Go.Proofs

def checkT (t : KT) : Int := if rightT t 6 = true then 0 else 20

theorem s19 (t : KT) (hok : okT t) (H : Heap) : L 19 [.im (.agg (encT t))] H = some (.im (.int .i64 (checkT t)), H) := by
  have h51 := fun H => s51 t hok 6 (by decide) (by decide) H
  obtain ⟨k, s, ts⟩ := t
  simp only [encT] at h51 ⊢
  rw [leq F19]
  obtain ⟨hlen, ha⟩ := enter_at (f := f19) (args := [.im (.agg [.int .i64 k, .sl s (encTs ts)])]) (Nat.le_of_ble_eq_true rfl)
  have h0 := ha 0 _ rfl
  generalize enterA f19 [.im (.agg [.int .i64 k, .sl s (encTs ts)])] = tm at *
  change tm.length = 6 at hlen
  unfold checkT
  cases hr : rightT (.mk k s ts) 6 with
  | true =>
    simp only [hr] at h51
    simp only [f19, exec0, xreg, xops, wantedA, aopc, aop, ev, putA, endK, resA, tupA, List.length_cons, List.length_nil, List.replicate, List.cons_append, List.nil_append, List.append_nil, List.append_assoc, gs_same, gs_ne, gq_same, gq_ne, List.length_set, List.map_cons, List.map_nil, cellsOf, List.all_cons, List.all_nil, cellOk, boxTy, Bool.and_true, Bool.and_self, if_true, ite_true, ite_false, loadAt, storeAt, setAt, hget, hget0, hset, hset0, List.getElem?_cons_zero, List.getElem?_cons_succ, List.set_cons_zero, List.set_cons_succ, Nat.add_zero, Nat.zero_add, Nat.reduceAdd, Nat.reduceSub, Nat.reduceLeDiff, Nat.reduceLT, Nat.reduceEqDiff, Nat.le_refl, and_self, and_true, true_and, mkAgg, toIms, List.drop_zero, List.drop_succ_cons, List.take_succ_cons, List.take_zero, List.length_append, binA, isShift, binInt, binBool, unA, Bool.false_eq_true, if_false, partA, fillA, fillE, List.take_nil, Nat.zero_ne_one, Nat.one_ne_zero, not_false_eq_true, ne_eq, Nat.succ_ne_self, reduceCtorEq, decide_true, decide_false, lenA, beq_self_eq_true, beq_true, beq_false, Bool.not_true, Bool.not_false, hlen, h0, h51, leave_app]
  | false =>
    simp only [hr] at h51
    simp only [f19, exec0, xreg, xops, wantedA, aopc, aop, ev, putA, endK, resA, tupA, List.length_cons, List.length_nil, List.replicate, List.cons_append, List.nil_append, List.append_nil, List.append_assoc, gs_same, gs_ne, gq_same, gq_ne, List.length_set, List.map_cons, List.map_nil, cellsOf, List.all_cons, List.all_nil, cellOk, boxTy, Bool.and_true, Bool.and_self, if_true, ite_true, ite_false, loadAt, storeAt, setAt, hget, hget0, hset, hset0, List.getElem?_cons_zero, List.getElem?_cons_succ, List.set_cons_zero, List.set_cons_succ, Nat.add_zero, Nat.zero_add, Nat.reduceAdd, Nat.reduceSub, Nat.reduceLeDiff, Nat.reduceLT, Nat.reduceEqDiff, Nat.le_refl, and_self, and_true, true_and, mkAgg, toIms, List.drop_zero, List.drop_succ_cons, List.take_succ_cons, List.take_zero, List.length_append, binA, isShift, binInt, binBool, unA, Bool.false_eq_true, if_false, partA, fillA, fillE, List.take_nil, Nat.zero_ne_one, Nat.one_ne_zero, not_false_eq_true, ne_eq, Nat.succ_ne_self, reduceCtorEq, decide_true, decide_false, lenA, beq_self_eq_true, beq_true, beq_false, Bool.not_true, Bool.not_false, hlen, h0, h51, leave_app]

mutual
def depthT : KT → Int
  | .mk _ _ args => depthTs args + 1
def depthTs : List KT → Int
  | [] => 0
  | a :: l => max (depthT a) (depthTs l)
end

theorem depthTs_pos : ∀ l : List KT, 0 ≤ depthTs l
  | [] => by simp [depthTs]
  | a :: l => by
    have := depthTs_pos l
    simp only [depthTs]
    omega

theorem depthTs_mem : ∀ {l : List KT} {a : KT}, a ∈ l → depthT a ≤ depthTs l
  | b :: l, a, h => by
    simp only [depthTs]
    rcases List.mem_cons.1 h with rfl | h
    · omega
    · have := depthTs_mem h
      omega

theorem l52 (args : List KT) (s : Nat) (hs : args = [] ∨ s = 2) (hn : args.length ≤ 9223372036854775807)
    (hc : ∀ a ∈ args, ∀ H, L 52 [.im (.agg (encT a))] H = some (.im (.int .i64 (depthT a)), H)) :
    ∀ (m i : Nat), i + m = args.length → ∀ (tm : List AV) (H : Heap) (n : Int), tm.length = 20 → tm.getD 3 undefA = .im (.int .i64 n) → tm.getD 7 undefA = .im (.sl s (args.map encT)) → tm.getD 8 undefA = .im (.int .i64 args.length) → tm.getD 9 undefA = .im (.int .i64 i) →
    ∃ e tm' H', Λ c52_0 tm H = some (e, tm', H') ∧ tm'.length = 20 ∧ e = .exit 0 ∧ (∃ M, H' = H ++ M) ∧ tm'.getD 3 undefA = .im (.int .i64 (if i = args.length then n else max n (depthTs (args.drop i))))
  | 0, i, hi, tm, H, n, hlen, h3, h7, h8, h9 => by
    have hc : decide ((i : Int) < (args.length : Int)) = false := decide_eq_false (by omega)
    rw [l52_0]
    simp only [b52_0, exec0, xreg, xops, wantedA, aopc, aop, ev, putA, endK, resA, tupA, List.length_cons, List.length_nil, List.replicate, List.cons_append, List.nil_append, List.append_nil, List.append_assoc, gs_same, gs_ne, gq_same, gq_ne, List.length_set, List.map_cons, List.map_nil, cellsOf, List.all_cons, List.all_nil, cellOk, boxTy, Bool.and_true, Bool.and_self, if_true, ite_true, ite_false, loadAt, storeAt, setAt, hget, hget0, hset, hset0, List.getElem?_cons_zero, List.getElem?_cons_succ, List.set_cons_zero, List.set_cons_succ, Nat.add_zero, Nat.zero_add, Nat.reduceAdd, Nat.reduceSub, Nat.reduceLeDiff, Nat.reduceLT, Nat.reduceEqDiff, Nat.le_refl, and_self, and_true, true_and, mkAgg, toIms, List.drop_zero, List.drop_succ_cons, List.take_succ_cons, List.take_zero, List.length_append, binA, isShift, binInt, binBool, unA, Bool.false_eq_true, if_false, partA, fillA, fillE, List.take_nil, Nat.zero_ne_one, Nat.one_ne_zero, not_false_eq_true, ne_eq, Nat.succ_ne_self, reduceCtorEq, decide_true, decide_false, lenA, beq_self_eq_true, beq_true, beq_false, Bool.not_true, Bool.not_false, hlen, h3, h7, h8, h9, hc]
    exact ⟨_, _, _, rfl, by simp only [List.length_set, hlen], rfl, ⟨[], by simp⟩, by simp only [gs_same, gs_ne, List.length_set, Nat.reduceLT, Nat.reduceEqDiff, not_false_eq_true, hlen, h3, show i = args.length by omega, if_true]⟩
  | m + 1, i, hi, tm, H, n, hlen, h3, h7, h8, h9 => by
    have hlt : i < args.length := by omega
    obtain ⟨w, hwi⟩ : ∃ w, args[i]? = some w := ⟨_, List.getElem?_eq_getElem hlt⟩
    have e : args.drop i = w :: args.drop (i + 1) := by
      rw [List.drop_eq_getElem_cons hlt]
      congr 1
      rw [List.getElem?_eq_getElem hlt] at hwi
      exact Option.some.inj hwi
    have hs2 : s = 2 := by
      rcases hs with hs | hs
      · subst hs; simp at hlt
      · exact hs
    subst hs2
    have hc' : decide ((i : Int) < (args.length : Int)) = true := decide_eq_true (by omega)
    have hix := idx_nat (n := (args.map encT).length) (i := i) (by simpa using hlt)
    have hgw : (args.map encT)[i]? = some (encT w) := by rw [List.getElem?_map, hwi]; rfl
    have hcall := hc w (List.mem_of_getElem? hwi)
    have hwr := wrap_nat (i := i) (by omega)
    have key := l52 args 2 hs hn hc m (i + 1) (by omega)
    rw [l52_0, if_neg (by omega), e]
    have hd : depthTs (w :: args.drop (i + 1)) = max (depthT w) (depthTs (args.drop (i + 1))) := by rw [depthTs]
    rw [hd]
    generalize hdw : depthT w = dw at *
    obtain ⟨k, s', ts⟩ := w
    simp only [encT] at hcall hgw
    simp only [b52_0, exec0, xreg, xops, wantedA, aopc, aop, ev, putA, endK, resA, tupA, List.length_cons, List.length_nil, List.replicate, List.cons_append, List.nil_append, List.append_nil, List.append_assoc, gs_same, gs_ne, gq_same, gq_ne, List.length_set, List.map_cons, List.map_nil, cellsOf, List.all_cons, List.all_nil, cellOk, boxTy, Bool.and_true, Bool.and_self, if_true, ite_true, ite_false, loadAt, storeAt, setAt, hget, hget0, hset, hset0, List.getElem?_cons_zero, List.getElem?_cons_succ, List.set_cons_zero, List.set_cons_succ, Nat.add_zero, Nat.zero_add, Nat.reduceAdd, Nat.reduceSub, Nat.reduceLeDiff, Nat.reduceLT, Nat.reduceEqDiff, Nat.le_refl, and_self, and_true, true_and, mkAgg, toIms, List.drop_zero, List.drop_succ_cons, List.take_succ_cons, List.take_zero, List.length_append, binA, isShift, binInt, binBool, unA, Bool.false_eq_true, if_false, partA, fillA, fillE, List.take_nil, Nat.zero_ne_one, Nat.one_ne_zero, not_false_eq_true, ne_eq, Nat.succ_ne_self, reduceCtorEq, decide_true, decide_false, lenA, beq_self_eq_true, beq_true, beq_false, Bool.not_true, Bool.not_false, hlen, h3, h7, h8, h9, hc', hix, hgw, hcall, hwr]
    simp only [max_ii]
    refine ex_imp (key _ _ (max n dw) ?_ ?_ ?_ ?_ ?_) ?_
    iterate 5 simp only [gs_same, gs_ne, List.length_set, Nat.reduceLT, Nat.reduceEqDiff, not_false_eq_true, hlen, h3, h7, h8, h9]
    rintro e tm' H' ⟨hl', he, ⟨M, hM⟩, h5⟩
    refine ⟨hl', he, ⟨_ :: M, by rw [hM, List.append_assoc]; rfl⟩, ?_⟩
    rw [h5]
    have hp := depthTs_pos (args.drop (i + 1))
    have hp2 : 0 ≤ dw := by
      rw [← hdw]
      have := depthTs_pos ts
      simp only [depthT]
      omega
    split
    · rename_i he'
      have : args.drop (i + 1) = [] := by rw [List.drop_eq_nil_iff]; omega
      rw [this]
      simp only [depthTs]
      congr 2
      omega
    · congr 2
      omega

theorem s52 : ∀ (t : KT), okT t → depthT t ≤ 1000 → ∀ H, L 52 [.im (.agg (encT t))] H = some (.im (.int .i64 (depthT t)), H)
  | .mk k s args, hok, hd, H => by
    simp only [okT] at hok
    obtain ⟨hs, hn, hoks⟩ := hok
    have hdep : depthTs args ≤ 999 := by
      simp only [depthT] at hd
      omega
    have hp := depthTs_pos args
    have hc : ∀ a ∈ args, ∀ H, L 52 [.im (.agg (encT a))] H = some (.im (.int .i64 (depthT a)), H) := fun a ha H => s52 a (okTs_mem hoks a ha) (by have := depthTs_mem ha; omega) H
    have key := l52 args s hs hn hc args.length 0 (by omega)
    have z : ((0 : Nat) : Int) = 0 := rfl
    simp only [List.drop_zero, Nat.zero_add, z] at key
    have hel : (encTs args).length = args.length := by rw [encTs_map]; simp
    simp only [encT]
    rw [leq F52]
    obtain ⟨hlen, ha⟩ := enter_at (f := f52) (args := [.im (.agg [.int .i64 k, .sl s (encTs args)])]) (Nat.le_of_ble_eq_true rfl)
    have h0 := ha 0 _ rfl
    generalize enterA f52 [.im (.agg [.int .i64 k, .sl s (encTs args)])] = tm at *
    change tm.length = 20 at hlen
    simp only [f52, e52_0, exec0, xreg, xops, wantedA, aopc, aop, ev, putA, endK, resA, tupA, List.length_cons, List.length_nil, List.replicate, List.cons_append, List.nil_append, List.append_nil, List.append_assoc, gs_same, gs_ne, gq_same, gq_ne, List.length_set, List.map_cons, List.map_nil, cellsOf, List.all_cons, List.all_nil, cellOk, boxTy, Bool.and_true, Bool.and_self, if_true, ite_true, ite_false, loadAt, storeAt, setAt, hget, hget0, hset, hset0, List.getElem?_cons_zero, List.getElem?_cons_succ, List.set_cons_zero, List.set_cons_succ, Nat.add_zero, Nat.zero_add, Nat.reduceAdd, Nat.reduceSub, Nat.reduceLeDiff, Nat.reduceLT, Nat.reduceEqDiff, Nat.le_refl, and_self, and_true, true_and, mkAgg, toIms, List.drop_zero, List.drop_succ_cons, List.take_succ_cons, List.take_zero, List.length_append, binA, isShift, binInt, binBool, unA, Bool.false_eq_true, if_false, partA, fillA, fillE, List.take_nil, Nat.zero_ne_one, Nat.one_ne_zero, not_false_eq_true, ne_eq, Nat.succ_ne_self, reduceCtorEq, decide_true, decide_false, lenA, beq_self_eq_true, beq_true, beq_false, Bool.not_true, Bool.not_false, hlen, h0, hel]
    refine thenL_of (key _ _ 0 ?_ ?_ ?_ ?_ ?_) ?_
    iterate 5 simp only [gs_same, gs_ne, List.length_set, Nat.reduceLT, Nat.reduceEqDiff, not_false_eq_true, hlen, h0, encTs_map]
    rintro e tm' H' ⟨hl', rfl, ⟨M, rfl⟩, h3⟩
    have hm : (if 0 = args.length then (0 : Int) else max 0 (depthTs args)) = depthTs args := by
      split
      · rename_i h
        have : args = [] := List.length_eq_zero_iff.1 h.symm
        rw [this]; rfl
      · omega
    rw [hm] at h3
    have hw := wrap_small (depthTs args + 1) (by omega)
    simp only [exec0, xreg, xops, wantedA, aopc, aop, ev, putA, endK, resA, tupA, List.length_cons, List.length_nil, List.replicate, List.cons_append, List.nil_append, List.append_nil, List.append_assoc, gs_same, gs_ne, gq_same, gq_ne, List.length_set, List.map_cons, List.map_nil, cellsOf, List.all_cons, List.all_nil, cellOk, boxTy, Bool.and_true, Bool.and_self, if_true, ite_true, ite_false, loadAt, storeAt, setAt, hget, hget0, hset, hset0, List.getElem?_cons_zero, List.getElem?_cons_succ, List.set_cons_zero, List.set_cons_succ, Nat.add_zero, Nat.zero_add, Nat.reduceAdd, Nat.reduceSub, Nat.reduceLeDiff, Nat.reduceLT, Nat.reduceEqDiff, Nat.le_refl, and_self, and_true, true_and, mkAgg, toIms, List.drop_zero, List.drop_succ_cons, List.take_succ_cons, List.take_zero, List.length_append, binA, isShift, binInt, binBool, unA, Bool.false_eq_true, if_false, partA, fillA, fillE, List.take_nil, Nat.zero_ne_one, Nat.one_ne_zero, not_false_eq_true, ne_eq, Nat.succ_ne_self, reduceCtorEq, decide_true, decide_false, lenA, beq_self_eq_true, beq_true, beq_false, Bool.not_true, Bool.not_false, hl', h3, hw, leave_app, depthT]
termination_by t => SizeOf.sizeOf t
decreasing_by
  have := List.sizeOf_lt_of_mem ha
  simp only [KT.mk.sizeOf_spec]
  omega

mutual
theorem right_depth : ∀ (t : KT) (d : Int), rightT t d = true → depthT t ≤ d
  | .mk k s args, d, h => by
    simp only [rightT] at h
    split at h
    · split at h
      · simp at h
      · rename_i hd
        split at h
        · have := right_depths args (d - 1) (by simpa using h)
          simp only [depthT]
          omega
        · simp at h
    · simp at h
theorem right_depths : ∀ (l : List KT) (d : Int), rightNot l d = false → depthTs l ≤ max d 0
  | [], d, h => by simp only [depthTs]; omega
  | a :: l, d, h => by
    simp only [rightNot, Bool.or_eq_false_iff, Bool.not_eq_false'] at h
    have h1 := right_depth a d h.1
    have h2 := right_depths l d h.2
    simp only [depthTs]
    omega
end

end Go.Abs.Seat
end
section
set_option linter.unusedVariables false
set_option linter.unusedSimpArgs false
/- What the seat's functions come to: small, fits. -/
set_option linter.unusedVariables false
set_option linter.unusedSimpArgs false
namespace Go.Abs.Seat
open Go.Proofs

mutual
def smallT : KT → Int → Int → Bool × Int
  | .mk _ _ args, left, d => if left - 1 < 0 ∨ d = 0 then (false, left - 1) else smallTs args (left - 1) (d - 1)
def smallTs : List KT → Int → Int → Bool × Int
  | [], left, _ => (true, left)
  | a :: l, left, d => if (smallT a left d).1 = true then smallTs l (smallT a left d).2 d else (false, (smallT a left d).2)
end

mutual
theorem smallT_left : ∀ (t : KT) (left d : Int), 0 ≤ left → -1 ≤ (smallT t left d).2 ∧ (smallT t left d).2 ≤ left ∧ ((smallT t left d).1 = true → 0 ≤ (smallT t left d).2)
  | .mk _ _ args, left, d, h => by
    simp only [smallT]
    split
    · refine ⟨by simp only; omega, by simp only; omega, by simp⟩
    · have := smallTs_left args (left - 1) (d - 1) (by omega)
      exact ⟨this.1, by omega, this.2.2⟩
theorem smallTs_left : ∀ (l : List KT) (left d : Int), 0 ≤ left → -1 ≤ (smallTs l left d).2 ∧ (smallTs l left d).2 ≤ left ∧ ((smallTs l left d).1 = true → 0 ≤ (smallTs l left d).2)
  | [], left, d, h => by
    simp only [smallTs]
    exact ⟨by omega, by omega, fun _ => h⟩
  | a :: l, left, d, h => by
    have h1 := smallT_left a left d h
    simp only [smallTs]
    split
    · rename_i hb
      have h2 := smallTs_left l (smallT a left d).2 d (h1.2.2 hb)
      exact ⟨h2.1, by omega, h2.2.2⟩
    · exact ⟨h1.1, h1.2.1, by simp⟩
end

def numO (n : Int) : HO := .obj none [[.im (.int .i64 n)]]

end Go.Abs.Seat
end
section
set_option linter.unusedVariables false
set_option linter.unusedSimpArgs false
/- What the seat's functions come to: Word, Count, clone, Make. -/
set_option linter.unusedVariables false
set_option linter.unusedSimpArgs false
namespace Go.Abs.Seat
open Go.Proofs

/-- How a kind is written; of none: nothing. -/
def wordK (k : Int) : List UInt8 := match kidx k with
  | some i => match words[i]? with
    | some w => w.2.1
    | none => []
  | none => []
/-- How many types a kind takes. -/
def cntK (k : Int) : Int := match kidx k with
  | some i => kcnt i
  | none => 0

theorem kidx_none {k : Int} (h1 : k ≠ 1) (h2 : k ≠ 2) (h3 : k ≠ 3) (h4 : k ≠ 4) (h5 : k ≠ 5) (h6 : k ≠ 6) (h7 : k ≠ 7) (h9 : k ≠ 9) : kidx k = none := by
  have e : ∀ j : Int, k ≠ j → decide (j = k) = false := fun j h => decide_eq_false (Ne.symm h)
  simp only [kidx, words, List.findIdx?_cons, List.findIdx?_nil, e 1 h1, e 2 h2, e 3 h3, e 4 h4, e 5 h5, e 6 h6, e 7 h7, e 9 h9, Bool.false_eq_true, if_false, Option.map_none]

theorem s22 (k : Int) (H : Heap) : L 22 [.im (.int .i64 k)] H = some (.im (.str (wordK k)), H) := by
  rw [leq F22]
  obtain ⟨hlen, ha⟩ := enter_at (f := f22) (args := [.im (.int .i64 k)]) (Nat.le_of_ble_eq_true rfl)
  have h0 := ha 0 _ rfl
  generalize enterA f22 [.im (.int .i64 k)] = tm at *
  change tm.length = 20 at hlen
  by_cases h1 : k = 1
  · subst h1
    simp only [f22, exec0, xreg, xops, wantedA, aopc, aop, ev, putA, endK, resA, tupA, List.length_cons, List.length_nil, List.replicate, List.cons_append, List.nil_append, List.append_nil, List.append_assoc, gs_same, gs_ne, gq_same, gq_ne, List.length_set, List.map_cons, List.map_nil, cellsOf, List.all_cons, List.all_nil, cellOk, boxTy, Bool.and_true, Bool.and_self, if_true, ite_true, ite_false, loadAt, storeAt, setAt, hget, hget0, hset, hset0, List.getElem?_cons_zero, List.getElem?_cons_succ, List.set_cons_zero, List.set_cons_succ, Nat.add_zero, Nat.zero_add, Nat.reduceAdd, Nat.reduceSub, Nat.reduceLeDiff, Nat.reduceLT, Nat.reduceEqDiff, Nat.le_refl, and_self, and_true, true_and, mkAgg, toIms, List.drop_zero, List.drop_succ_cons, List.take_succ_cons, List.take_zero, List.length_append, binA, isShift, binInt, binBool, unA, Bool.false_eq_true, if_false, partA, fillA, fillE, List.take_nil, Nat.zero_ne_one, Nat.one_ne_zero, not_false_eq_true, ne_eq, Nat.succ_ne_self, reduceCtorEq, Int.reduceEq, Int.reduceLT, Int.reduceLE, decide_true, decide_false, lenA, beq_self_eq_true, beq_true, beq_false, Bool.not_true, Bool.not_false, hlen, h0, leave_same]
    rfl
  by_cases h2 : k = 2
  · subst h2
    simp only [f22, exec0, xreg, xops, wantedA, aopc, aop, ev, putA, endK, resA, tupA, List.length_cons, List.length_nil, List.replicate, List.cons_append, List.nil_append, List.append_nil, List.append_assoc, gs_same, gs_ne, gq_same, gq_ne, List.length_set, List.map_cons, List.map_nil, cellsOf, List.all_cons, List.all_nil, cellOk, boxTy, Bool.and_true, Bool.and_self, if_true, ite_true, ite_false, loadAt, storeAt, setAt, hget, hget0, hset, hset0, List.getElem?_cons_zero, List.getElem?_cons_succ, List.set_cons_zero, List.set_cons_succ, Nat.add_zero, Nat.zero_add, Nat.reduceAdd, Nat.reduceSub, Nat.reduceLeDiff, Nat.reduceLT, Nat.reduceEqDiff, Nat.le_refl, and_self, and_true, true_and, mkAgg, toIms, List.drop_zero, List.drop_succ_cons, List.take_succ_cons, List.take_zero, List.length_append, binA, isShift, binInt, binBool, unA, Bool.false_eq_true, if_false, partA, fillA, fillE, List.take_nil, Nat.zero_ne_one, Nat.one_ne_zero, not_false_eq_true, ne_eq, Nat.succ_ne_self, reduceCtorEq, Int.reduceEq, Int.reduceLT, Int.reduceLE, decide_true, decide_false, lenA, beq_self_eq_true, beq_true, beq_false, Bool.not_true, Bool.not_false, hlen, h0, leave_same]
    rfl
  by_cases h3 : k = 3
  · subst h3
    simp only [f22, exec0, xreg, xops, wantedA, aopc, aop, ev, putA, endK, resA, tupA, List.length_cons, List.length_nil, List.replicate, List.cons_append, List.nil_append, List.append_nil, List.append_assoc, gs_same, gs_ne, gq_same, gq_ne, List.length_set, List.map_cons, List.map_nil, cellsOf, List.all_cons, List.all_nil, cellOk, boxTy, Bool.and_true, Bool.and_self, if_true, ite_true, ite_false, loadAt, storeAt, setAt, hget, hget0, hset, hset0, List.getElem?_cons_zero, List.getElem?_cons_succ, List.set_cons_zero, List.set_cons_succ, Nat.add_zero, Nat.zero_add, Nat.reduceAdd, Nat.reduceSub, Nat.reduceLeDiff, Nat.reduceLT, Nat.reduceEqDiff, Nat.le_refl, and_self, and_true, true_and, mkAgg, toIms, List.drop_zero, List.drop_succ_cons, List.take_succ_cons, List.take_zero, List.length_append, binA, isShift, binInt, binBool, unA, Bool.false_eq_true, if_false, partA, fillA, fillE, List.take_nil, Nat.zero_ne_one, Nat.one_ne_zero, not_false_eq_true, ne_eq, Nat.succ_ne_self, reduceCtorEq, Int.reduceEq, Int.reduceLT, Int.reduceLE, decide_true, decide_false, lenA, beq_self_eq_true, beq_true, beq_false, Bool.not_true, Bool.not_false, hlen, h0, leave_same]
    rfl
  by_cases h4 : k = 4
  · subst h4
    simp only [f22, exec0, xreg, xops, wantedA, aopc, aop, ev, putA, endK, resA, tupA, List.length_cons, List.length_nil, List.replicate, List.cons_append, List.nil_append, List.append_nil, List.append_assoc, gs_same, gs_ne, gq_same, gq_ne, List.length_set, List.map_cons, List.map_nil, cellsOf, List.all_cons, List.all_nil, cellOk, boxTy, Bool.and_true, Bool.and_self, if_true, ite_true, ite_false, loadAt, storeAt, setAt, hget, hget0, hset, hset0, List.getElem?_cons_zero, List.getElem?_cons_succ, List.set_cons_zero, List.set_cons_succ, Nat.add_zero, Nat.zero_add, Nat.reduceAdd, Nat.reduceSub, Nat.reduceLeDiff, Nat.reduceLT, Nat.reduceEqDiff, Nat.le_refl, and_self, and_true, true_and, mkAgg, toIms, List.drop_zero, List.drop_succ_cons, List.take_succ_cons, List.take_zero, List.length_append, binA, isShift, binInt, binBool, unA, Bool.false_eq_true, if_false, partA, fillA, fillE, List.take_nil, Nat.zero_ne_one, Nat.one_ne_zero, not_false_eq_true, ne_eq, Nat.succ_ne_self, reduceCtorEq, Int.reduceEq, Int.reduceLT, Int.reduceLE, decide_true, decide_false, lenA, beq_self_eq_true, beq_true, beq_false, Bool.not_true, Bool.not_false, hlen, h0, leave_same]
    rfl
  by_cases h5 : k = 5
  · subst h5
    simp only [f22, exec0, xreg, xops, wantedA, aopc, aop, ev, putA, endK, resA, tupA, List.length_cons, List.length_nil, List.replicate, List.cons_append, List.nil_append, List.append_nil, List.append_assoc, gs_same, gs_ne, gq_same, gq_ne, List.length_set, List.map_cons, List.map_nil, cellsOf, List.all_cons, List.all_nil, cellOk, boxTy, Bool.and_true, Bool.and_self, if_true, ite_true, ite_false, loadAt, storeAt, setAt, hget, hget0, hset, hset0, List.getElem?_cons_zero, List.getElem?_cons_succ, List.set_cons_zero, List.set_cons_succ, Nat.add_zero, Nat.zero_add, Nat.reduceAdd, Nat.reduceSub, Nat.reduceLeDiff, Nat.reduceLT, Nat.reduceEqDiff, Nat.le_refl, and_self, and_true, true_and, mkAgg, toIms, List.drop_zero, List.drop_succ_cons, List.take_succ_cons, List.take_zero, List.length_append, binA, isShift, binInt, binBool, unA, Bool.false_eq_true, if_false, partA, fillA, fillE, List.take_nil, Nat.zero_ne_one, Nat.one_ne_zero, not_false_eq_true, ne_eq, Nat.succ_ne_self, reduceCtorEq, Int.reduceEq, Int.reduceLT, Int.reduceLE, decide_true, decide_false, lenA, beq_self_eq_true, beq_true, beq_false, Bool.not_true, Bool.not_false, hlen, h0, leave_same]
    rfl
  by_cases h6 : k = 6
  · subst h6
    simp only [f22, exec0, xreg, xops, wantedA, aopc, aop, ev, putA, endK, resA, tupA, List.length_cons, List.length_nil, List.replicate, List.cons_append, List.nil_append, List.append_nil, List.append_assoc, gs_same, gs_ne, gq_same, gq_ne, List.length_set, List.map_cons, List.map_nil, cellsOf, List.all_cons, List.all_nil, cellOk, boxTy, Bool.and_true, Bool.and_self, if_true, ite_true, ite_false, loadAt, storeAt, setAt, hget, hget0, hset, hset0, List.getElem?_cons_zero, List.getElem?_cons_succ, List.set_cons_zero, List.set_cons_succ, Nat.add_zero, Nat.zero_add, Nat.reduceAdd, Nat.reduceSub, Nat.reduceLeDiff, Nat.reduceLT, Nat.reduceEqDiff, Nat.le_refl, and_self, and_true, true_and, mkAgg, toIms, List.drop_zero, List.drop_succ_cons, List.take_succ_cons, List.take_zero, List.length_append, binA, isShift, binInt, binBool, unA, Bool.false_eq_true, if_false, partA, fillA, fillE, List.take_nil, Nat.zero_ne_one, Nat.one_ne_zero, not_false_eq_true, ne_eq, Nat.succ_ne_self, reduceCtorEq, Int.reduceEq, Int.reduceLT, Int.reduceLE, decide_true, decide_false, lenA, beq_self_eq_true, beq_true, beq_false, Bool.not_true, Bool.not_false, hlen, h0, leave_same]
    rfl
  by_cases h7 : k = 7
  · subst h7
    simp only [f22, exec0, xreg, xops, wantedA, aopc, aop, ev, putA, endK, resA, tupA, List.length_cons, List.length_nil, List.replicate, List.cons_append, List.nil_append, List.append_nil, List.append_assoc, gs_same, gs_ne, gq_same, gq_ne, List.length_set, List.map_cons, List.map_nil, cellsOf, List.all_cons, List.all_nil, cellOk, boxTy, Bool.and_true, Bool.and_self, if_true, ite_true, ite_false, loadAt, storeAt, setAt, hget, hget0, hset, hset0, List.getElem?_cons_zero, List.getElem?_cons_succ, List.set_cons_zero, List.set_cons_succ, Nat.add_zero, Nat.zero_add, Nat.reduceAdd, Nat.reduceSub, Nat.reduceLeDiff, Nat.reduceLT, Nat.reduceEqDiff, Nat.le_refl, and_self, and_true, true_and, mkAgg, toIms, List.drop_zero, List.drop_succ_cons, List.take_succ_cons, List.take_zero, List.length_append, binA, isShift, binInt, binBool, unA, Bool.false_eq_true, if_false, partA, fillA, fillE, List.take_nil, Nat.zero_ne_one, Nat.one_ne_zero, not_false_eq_true, ne_eq, Nat.succ_ne_self, reduceCtorEq, Int.reduceEq, Int.reduceLT, Int.reduceLE, decide_true, decide_false, lenA, beq_self_eq_true, beq_true, beq_false, Bool.not_true, Bool.not_false, hlen, h0, leave_same]
    rfl
  by_cases h9 : k = 9
  · subst h9
    simp only [f22, exec0, xreg, xops, wantedA, aopc, aop, ev, putA, endK, resA, tupA, List.length_cons, List.length_nil, List.replicate, List.cons_append, List.nil_append, List.append_nil, List.append_assoc, gs_same, gs_ne, gq_same, gq_ne, List.length_set, List.map_cons, List.map_nil, cellsOf, List.all_cons, List.all_nil, cellOk, boxTy, Bool.and_true, Bool.and_self, if_true, ite_true, ite_false, loadAt, storeAt, setAt, hget, hget0, hset, hset0, List.getElem?_cons_zero, List.getElem?_cons_succ, List.set_cons_zero, List.set_cons_succ, Nat.add_zero, Nat.zero_add, Nat.reduceAdd, Nat.reduceSub, Nat.reduceLeDiff, Nat.reduceLT, Nat.reduceEqDiff, Nat.le_refl, and_self, and_true, true_and, mkAgg, toIms, List.drop_zero, List.drop_succ_cons, List.take_succ_cons, List.take_zero, List.length_append, binA, isShift, binInt, binBool, unA, Bool.false_eq_true, if_false, partA, fillA, fillE, List.take_nil, Nat.zero_ne_one, Nat.one_ne_zero, not_false_eq_true, ne_eq, Nat.succ_ne_self, reduceCtorEq, Int.reduceEq, Int.reduceLT, Int.reduceLE, decide_true, decide_false, lenA, beq_self_eq_true, beq_true, beq_false, Bool.not_true, Bool.not_false, hlen, h0, leave_same]
    rfl
  have e : wordK k = [] := by unfold wordK; rw [kidx_none h1 h2 h3 h4 h5 h6 h7 h9]
  simp only [f22, exec0, xreg, xops, wantedA, aopc, aop, ev, putA, endK, resA, tupA, List.length_cons, List.length_nil, List.replicate, List.cons_append, List.nil_append, List.append_nil, List.append_assoc, gs_same, gs_ne, gq_same, gq_ne, List.length_set, List.map_cons, List.map_nil, cellsOf, List.all_cons, List.all_nil, cellOk, boxTy, Bool.and_true, Bool.and_self, if_true, ite_true, ite_false, loadAt, storeAt, setAt, hget, hget0, hset, hset0, List.getElem?_cons_zero, List.getElem?_cons_succ, List.set_cons_zero, List.set_cons_succ, Nat.add_zero, Nat.zero_add, Nat.reduceAdd, Nat.reduceSub, Nat.reduceLeDiff, Nat.reduceLT, Nat.reduceEqDiff, Nat.le_refl, and_self, and_true, true_and, mkAgg, toIms, List.drop_zero, List.drop_succ_cons, List.take_succ_cons, List.take_zero, List.length_append, binA, isShift, binInt, binBool, unA, Bool.false_eq_true, if_false, partA, fillA, fillE, List.take_nil, Nat.zero_ne_one, Nat.one_ne_zero, not_false_eq_true, ne_eq, Nat.succ_ne_self, reduceCtorEq, Int.reduceEq, Int.reduceLT, Int.reduceLE, decide_true, decide_false, lenA, beq_self_eq_true, beq_true, beq_false, Bool.not_true, Bool.not_false, hlen, h0, h1, h2, h3, h4, h5, h6, h7, h9, leave_same, e]

theorem s23 (k : Int) (H : Heap) : L 23 [.im (.int .i64 k)] H = some (.im (.int .i64 (cntK k)), H) := by
  rw [leq F23]
  obtain ⟨hlen, ha⟩ := enter_at (f := f23) (args := [.im (.int .i64 k)]) (Nat.le_of_ble_eq_true rfl)
  have h0 := ha 0 _ rfl
  generalize enterA f23 [.im (.int .i64 k)] = tm at *
  change tm.length = 11 at hlen
  by_cases h6 : k = 6
  · subst h6
    simp only [f23, exec0, xreg, xops, wantedA, aopc, aop, ev, putA, endK, resA, tupA, List.length_cons, List.length_nil, List.replicate, List.cons_append, List.nil_append, List.append_nil, List.append_assoc, gs_same, gs_ne, gq_same, gq_ne, List.length_set, List.map_cons, List.map_nil, cellsOf, List.all_cons, List.all_nil, cellOk, boxTy, Bool.and_true, Bool.and_self, if_true, ite_true, ite_false, loadAt, storeAt, setAt, hget, hget0, hset, hset0, List.getElem?_cons_zero, List.getElem?_cons_succ, List.set_cons_zero, List.set_cons_succ, Nat.add_zero, Nat.zero_add, Nat.reduceAdd, Nat.reduceSub, Nat.reduceLeDiff, Nat.reduceLT, Nat.reduceEqDiff, Nat.le_refl, and_self, and_true, true_and, mkAgg, toIms, List.drop_zero, List.drop_succ_cons, List.take_succ_cons, List.take_zero, List.length_append, binA, isShift, binInt, binBool, unA, Bool.false_eq_true, if_false, partA, fillA, fillE, List.take_nil, Nat.zero_ne_one, Nat.one_ne_zero, not_false_eq_true, ne_eq, Nat.succ_ne_self, reduceCtorEq, Int.reduceEq, Int.reduceLT, Int.reduceLE, decide_true, decide_false, lenA, beq_self_eq_true, beq_true, beq_false, Bool.not_true, Bool.not_false, hlen, h0, leave_same]
    rfl
  by_cases h7 : k = 7
  · subst h7
    simp only [f23, exec0, xreg, xops, wantedA, aopc, aop, ev, putA, endK, resA, tupA, List.length_cons, List.length_nil, List.replicate, List.cons_append, List.nil_append, List.append_nil, List.append_assoc, gs_same, gs_ne, gq_same, gq_ne, List.length_set, List.map_cons, List.map_nil, cellsOf, List.all_cons, List.all_nil, cellOk, boxTy, Bool.and_true, Bool.and_self, if_true, ite_true, ite_false, loadAt, storeAt, setAt, hget, hget0, hset, hset0, List.getElem?_cons_zero, List.getElem?_cons_succ, List.set_cons_zero, List.set_cons_succ, Nat.add_zero, Nat.zero_add, Nat.reduceAdd, Nat.reduceSub, Nat.reduceLeDiff, Nat.reduceLT, Nat.reduceEqDiff, Nat.le_refl, and_self, and_true, true_and, mkAgg, toIms, List.drop_zero, List.drop_succ_cons, List.take_succ_cons, List.take_zero, List.length_append, binA, isShift, binInt, binBool, unA, Bool.false_eq_true, if_false, partA, fillA, fillE, List.take_nil, Nat.zero_ne_one, Nat.one_ne_zero, not_false_eq_true, ne_eq, Nat.succ_ne_self, reduceCtorEq, Int.reduceEq, Int.reduceLT, Int.reduceLE, decide_true, decide_false, lenA, beq_self_eq_true, beq_true, beq_false, Bool.not_true, Bool.not_false, hlen, h0, leave_same]
    rfl
  by_cases h9 : k = 9
  · subst h9
    simp only [f23, exec0, xreg, xops, wantedA, aopc, aop, ev, putA, endK, resA, tupA, List.length_cons, List.length_nil, List.replicate, List.cons_append, List.nil_append, List.append_nil, List.append_assoc, gs_same, gs_ne, gq_same, gq_ne, List.length_set, List.map_cons, List.map_nil, cellsOf, List.all_cons, List.all_nil, cellOk, boxTy, Bool.and_true, Bool.and_self, if_true, ite_true, ite_false, loadAt, storeAt, setAt, hget, hget0, hset, hset0, List.getElem?_cons_zero, List.getElem?_cons_succ, List.set_cons_zero, List.set_cons_succ, Nat.add_zero, Nat.zero_add, Nat.reduceAdd, Nat.reduceSub, Nat.reduceLeDiff, Nat.reduceLT, Nat.reduceEqDiff, Nat.le_refl, and_self, and_true, true_and, mkAgg, toIms, List.drop_zero, List.drop_succ_cons, List.take_succ_cons, List.take_zero, List.length_append, binA, isShift, binInt, binBool, unA, Bool.false_eq_true, if_false, partA, fillA, fillE, List.take_nil, Nat.zero_ne_one, Nat.one_ne_zero, not_false_eq_true, ne_eq, Nat.succ_ne_self, reduceCtorEq, Int.reduceEq, Int.reduceLT, Int.reduceLE, decide_true, decide_false, lenA, beq_self_eq_true, beq_true, beq_false, Bool.not_true, Bool.not_false, hlen, h0, leave_same]
    rfl
  have e : cntK k = 0 := by
    by_cases h1 : k = 1
    · subst h1; rfl
    by_cases h2 : k = 2
    · subst h2; rfl
    by_cases h3 : k = 3
    · subst h3; rfl
    by_cases h4 : k = 4
    · subst h4; rfl
    by_cases h5 : k = 5
    · subst h5; rfl
    unfold cntK; rw [kidx_none h1 h2 h3 h4 h5 h6 h7 h9]
  simp only [f23, exec0, xreg, xops, wantedA, aopc, aop, ev, putA, endK, resA, tupA, List.length_cons, List.length_nil, List.replicate, List.cons_append, List.nil_append, List.append_nil, List.append_assoc, gs_same, gs_ne, gq_same, gq_ne, List.length_set, List.map_cons, List.map_nil, cellsOf, List.all_cons, List.all_nil, cellOk, boxTy, Bool.and_true, Bool.and_self, if_true, ite_true, ite_false, loadAt, storeAt, setAt, hget, hget0, hset, hset0, List.getElem?_cons_zero, List.getElem?_cons_succ, List.set_cons_zero, List.set_cons_succ, Nat.add_zero, Nat.zero_add, Nat.reduceAdd, Nat.reduceSub, Nat.reduceLeDiff, Nat.reduceLT, Nat.reduceEqDiff, Nat.le_refl, and_self, and_true, true_and, mkAgg, toIms, List.drop_zero, List.drop_succ_cons, List.take_succ_cons, List.take_zero, List.length_append, binA, isShift, binInt, binBool, unA, Bool.false_eq_true, if_false, partA, fillA, fillE, List.take_nil, Nat.zero_ne_one, Nat.one_ne_zero, not_false_eq_true, ne_eq, Nat.succ_ne_self, reduceCtorEq, Int.reduceEq, Int.reduceLT, Int.reduceLE, decide_true, decide_false, lenA, beq_self_eq_true, beq_true, beq_false, Bool.not_true, Bool.not_false, hlen, h0, h6, h7, h9, leave_same, e]

/-! ### clone -/

mutual
def narrow : KT → Prop
  | .mk _ _ args => args.length ≤ 2 ∧ narrows args
def narrows : List KT → Prop
  | [] => True
  | a :: l => narrow a ∧ narrows l
end
theorem narrows_mem : ∀ {l : List KT}, narrows l → ∀ a ∈ l, narrow a
  | [], _, a, h => by simp at h
  | b :: l, h, a, hm => by
    simp only [narrows] at h
    rcases List.mem_cons.1 hm with rfl | hm
    · exact h.1
    · exact narrows_mem h.2 a hm

mutual
def cloneT : KT → KT
  | .mk k _ args => .mk k (if args.length = 0 then 0 else 2) (cloneTs args)
def cloneTs : List KT → List KT
  | [] => []
  | a :: l => cloneT a :: cloneTs l
end
theorem cloneTs_map : ∀ l : List KT, cloneTs l = l.map cloneT
  | [] => rfl
  | a :: l => by simp only [cloneTs, List.map_cons, cloneTs_map l]

end Go.Abs.Seat
end
section
set_option linter.unusedVariables false
set_option linter.unusedSimpArgs false
/- The abstract reading of Go code, twenty-eighth part: a strings.Builder in the heap. -/
namespace Go.Abs

/-- A builder at a place, what it holds. -/
def Hold (tB : TypeId) (tb : TypeId) (n : Nat) (H : Heap) (id : Nat) (txt : List UInt8) : Prop :=
  ∃ a0 v, H[id]? = some (.obj (some (tB, 2)) [[a0, v]]) ∧ (a0 = .im .nilp ∨ a0 = .ptr id 0 0) ∧ Gath tb 1 n v H (txt.map fun b => [byteDat b]) ∧ n ≤ H.length

/-- What a writer to the builder leaves as it was. -/
def Keeps (n id : Nat) (H H' : Heap) : Prop := H.length ≤ H'.length ∧ (∀ i ty es, i ≠ id → H[i]? = some (.obj ty es) → H'[i]? = some (.obj ty es)) ∧ ∀ i, i < n → i < H.length → i ≠ id → H'[i]? = H[i]?

theorem Keeps.refl (n id : Nat) (H : Heap) : Keeps n id H H := ⟨Nat.le_refl _, fun _ _ _ _ h => h, fun _ _ _ _ => rfl⟩
theorem Keeps.trans {n id : Nat} {A B C : Heap} (h : Keeps n id A B) (k : Keeps n id B C) : Keeps n id A C :=
  ⟨Nat.le_trans h.1 k.1, fun i ty es hi hA => k.2.1 i ty es hi (h.2.1 i ty es hi hA), fun i hn hl hi => (k.2.2 i hn (Nat.lt_of_lt_of_le hl h.1) hi).trans (h.2.2 i hn hl hi)⟩
theorem Keeps.app {n id : Nat} {A B : Heap} (h : Keeps n id A B) (M : Heap) : Keeps n id A (B ++ M) :=
  ⟨by simp; have := h.1; omega, fun i ty es hi hA => by
    have := h.2.1 i ty es hi hA
    rw [List.getElem?_append_left (List.getElem?_eq_some_iff.1 this).1]; exact this, fun i hn hl hi => by
    rw [List.getElem?_append_left (by have := h.1; omega)]; exact h.2.2 i hn hl hi⟩
/-- What was handed over with more on top. -/
theorem Keeps.down {n id : Nat} {A M B : Heap} (h : Keeps n id (A ++ M) B) : Keeps n id A B :=
  ⟨by have := h.1; simp at this; omega, fun i ty es hi hA => h.2.1 i ty es hi (by rw [List.getElem?_append_left (List.getElem?_eq_some_iff.1 hA).1]; exact hA), fun i hn hl hi => by
    rw [h.2.2 i hn (by simp; omega) hi, List.getElem?_append_left hl]⟩

theorem Hold.more {tB tb : TypeId} {n : Nat} {H : Heap} {id : Nat} {txt : List UInt8} (h : Hold tB tb n H id txt) (M : Heap) : Hold tB tb n (H ++ M) id txt := by
  obtain ⟨a0, v, h1, h2, h3, h4⟩ := h
  exact ⟨a0, v, by rw [List.getElem?_append_left (List.getElem?_eq_some_iff.1 h1).1]; exact h1, h2, h3.more M, by simp; omega⟩

/-- The end of a call that has written to the builder and hands back what bears no place: either way the builder is there, and what was kept is kept. -/
theorem leave_hold {tB tb : TypeId} {n : Nat} {H0 H : Heap} {id : Nat} {txt0 txt : List UInt8} {r r' : AV} (hd : degrade r = r') (h0 : Hold tB tb n H0 id txt0) (h : Hold tB tb n H id txt) (hk : Keeps n id H0 H) :
    ∃ H', leave H0 false r H = (r', H') ∧ Hold tB tb n H' id txt ∧ Keeps n id H0 H' := by
  unfold leave
  have e : (if (false : Bool) = true then r else degrade r) = r' := by simp [hd]
  rw [e]
  by_cases hc : refsLt H0.length r' = true ∧ heldIn H0 H
  · rw [if_pos hc]
    refine ⟨_, rfl, ?_, by simp only [List.length_take]; have := hk.1; omega, fun i ty es hi hA => ?_, fun i hn hl hi => by rw [List.getElem?_take, if_pos hl]; exact hk.2.2 i hn hl hi⟩
    · obtain ⟨a0, v, h1, h2, h3, h4⟩ := h
      obtain ⟨b0, u, g1, g2, g3, g4⟩ := h0
      have hlt := (List.getElem?_eq_some_iff.1 g1).1
      refine ⟨a0, v, by rw [List.getElem?_take, if_pos hlt]; exact h1, h2, ?_, by simp only [List.length_take]; have := hk.1; omega⟩
      rcases h3 with h3 | ⟨hne, tok, hn, hv, htok⟩
      · exact .inl h3
      · have ht : tok < H0.length := by
          rcases hc.2 id hlt with hs | ⟨o, ho, hro⟩
          · rw [h1, g1] at hs
            injection hs with hs
            injection hs with _ hs
            injection hs with hs _
            injection hs with _ hs
            injection hs with hs _
            subst hs
            rcases g3 with ⟨_, hu⟩ | ⟨_, tok', _, hu, htok'⟩
            · rw [hv] at hu; simp at hu
            · rw [hv] at hu
              injection hu with _ _ hu
              subst hu
              exact (List.getElem?_eq_some_iff.1 htok').1
          · rw [h1] at ho
            injection ho with ho
            subst ho
            simp only [refsO, List.all_cons, List.all_nil, refsLts, hv, refsLt, Bool.and_true, Bool.and_eq_true, decide_eq_true_eq] at hro
            exact hro.2
        exact .inr ⟨hne, tok, hn, hv, by rw [List.getElem?_take, if_pos ht]; exact htok⟩
    · have hlt := (List.getElem?_eq_some_iff.1 hA).1
      rw [List.getElem?_take, if_pos hlt]
      exact hk.2.1 i ty es hi hA
  · rw [if_neg hc]
    exact ⟨H, rfl, h, hk⟩

/-- Bytes appended to what the builder holds: the heap behind it, with the slice that is not stored yet. -/
theorem gath_bytes {tb : TypeId} {n : Nat} {v : AV} {H : Heap} {txt : List UInt8} (hn : n ≤ H.length) (h : Gath tb 1 n v H (txt.map fun b => [byteDat b])) (s : List UInt8) (hb : txt.length + s.length ≤ 2 ^ 46) :
    ∃ (v' : AV) (H' : Heap), appendA H tb 1 1 v (s.map fun b => [byteDat b]) = some (v', H') ∧ Gath tb 1 n v' H' ((txt ++ s).map fun b => [byteDat b]) ∧ cellsOf v' = [v'] ∧ cellOk v' = true ∧ H.length ≤ H'.length ∧ ∀ (i : Nat) (ty : Option (TypeId × Nat)) (es : List (List AV)), (H[i]? = some (HO.obj ty es) → H'[i]? = some (HO.obj ty es)) ∧ (i < n → H'[i]? = H[i]?) := by
  rcases h with ⟨hes, rfl⟩ | ⟨hne, tok, hnt, rfl, htok⟩
  · have : txt = [] := by simpa using hes
    subst this
    cases s with
    | nil => exact ⟨.nils, H, by simp only [List.map_nil, appendA], .inl ⟨rfl, rfl⟩, rfl, rfl, Nat.le_refl _, fun _ _ _ => ⟨fun h => h, fun _ => rfl⟩⟩
    | cons b s =>
      refine ⟨.asl 1 ((b :: s).map fun b => [byteDat b]) H.length, H ++ [.hw tb (s.length + 1)], ?_, .inr ⟨by simp, H.length, hn, rfl, by simp⟩, rfl, rfl, by simp, fun i ty es => ⟨fun hi => ?_, fun hi => List.getElem?_append_left (by omega)⟩⟩
      · simp only [appendA, List.map_cons, List.length_map]
        rw [if_pos ⟨by simp at hb; omega, by decide⟩]
      · rw [List.getElem?_append_left (List.getElem?_eq_some_iff.1 hi).1]; exact hi
  · have hlt := (List.getElem?_eq_some_iff.1 htok).1
    refine ⟨.asl 1 ((txt ++ s).map fun b => [byteDat b]) tok, H.set tok (.hw tb (txt.length + s.length)), ?_, .inr ⟨?_, tok, hnt, rfl, ?_⟩, rfl, rfl, by simp, fun i ty es => ⟨fun hi => ?_, fun hi => List.getElem?_set_ne (by omega)⟩⟩
    · simp only [appendA, htok, List.length_map]
      rw [if_pos ⟨trivial, trivial, by omega, by decide, trivial⟩, List.map_append]
    · simp at hne ⊢; intro h; exact absurd h hne
    · rw [List.getElem?_set_self hlt]; simp
    · have : tok ≠ i := fun e => by subst e; rw [htok] at hi; simp at hi
      rw [List.getElem?_set_ne this]; exact hi

end Go.Abs

namespace Go.Abs
theorem Gath.set_obj {ty : TypeId} {s n : Nat} {v : AV} {H : Heap} {es : List (List Dat)} (h : Gath ty s n v H es) {id : Nat} {t : Option (TypeId × Nat)} {xs : List (List AV)} (hid : H[id]? = some (HO.obj t xs)) (x : HO) : Gath ty s n v (H.set id x) es := by
  rcases h with h | ⟨h1, tok, h2, h3, h4⟩
  · exact .inl h
  · refine .inr ⟨h1, tok, h2, h3, ?_⟩
    have : id ≠ tok := fun e => by subst e; rw [hid] at h4; simp at h4
    rw [List.getElem?_set_ne this]; exact h4

theorem Keeps.set {n id : Nat} {A B : Heap} (h : Keeps n id A B) (x : HO) : Keeps n id A (B.set id x) :=
  ⟨by simpa using h.1, fun i ty es hi hA => by
    rw [List.getElem?_set_ne (fun e => hi e.symm)]; exact h.2.1 i ty es hi hA, fun i hn hl hi => by
    rw [List.getElem?_set_ne (fun e => hi e.symm)]; exact h.2.2 i hn hl hi⟩

/-- copyCheck at a builder. -/
theorem cc_hold {tB tb : TypeId} {n : Nat} {H : Heap} {id : Nat} {txt : List UInt8} (h : Hold tB tb n H id txt) :
    ∃ v H1, ccA tB [.ptr id 0 0] H = some (.tup [], H1) ∧ H1[id]? = some (.obj (some (tB, 2)) [[.ptr id 0 0, v]]) ∧ Gath tb 1 n v H1 (txt.map fun b => [byteDat b]) ∧ Keeps n id H H1 ∧ n ≤ H1.length := by
  obtain ⟨a0, v, h1, h2, h3, h4⟩ := h
  have hlt := (List.getElem?_eq_some_iff.1 h1).1
  rcases h2 with rfl | rfl
  · refine ⟨v, H.set id (.obj (some (tB, 2)) [[.ptr id 0 0, v]]), by simp only [ccA, h1, if_true], by rw [List.getElem?_set_self hlt], h3.set_obj h1 _, (Keeps.refl n id H).set _, by simpa using h4⟩
  · exact ⟨v, H, by simp only [ccA, h1, if_true], h1, h3, Keeps.refl n id H, h4⟩
end Go.Abs

namespace Go.Abs
theorem thenL_ex {R : Type} {o : Option Out} {K : AEx → List AV → Heap → Option R} {Q : AEx → List AV → Heap → Prop} (G : Option R → Prop) (h : ∃ e tm H, o = some (e, tm, H) ∧ Q e tm H) (hK : ∀ e tm H, Q e tm H → G (K e tm H)) : G (thenL o K) := by
  obtain ⟨e, tm, H, rfl, hq⟩ := h
  exact hK e tm H hq
end Go.Abs
end
section
set_option linter.unusedVariables false
set_option linter.unusedSimpArgs false
/- The abstract reading of Go code, twenty-ninth part: a run does not know what lies below its heap. -/
namespace Go.Abs

mutual
/-- All places moved up. -/
def sh (n : Nat) : AV → AV
  | .im d => .im d
  | .nils => .nils
  | .asl s es tok => .asl s es (n + tok)
  | .ms s id off k => .ms s (n + id) off k
  | .ptr id i j => .ptr (n + id) i j
  | .agg cs => .agg (shs n cs)
  | .tup cs => .tup (shs n cs)
  | .clo f cs => .clo f (shs n cs)
  | .any => .any
def shs (n : Nat) : List AV → List AV
  | [] => []
  | a :: l => sh n a :: shs n l
end

theorem shs_map (n : Nat) : ∀ l : List AV, shs n l = l.map (sh n)
  | [] => rfl
  | a :: l => by simp only [shs, List.map_cons, shs_map n l]

def shO (n : Nat) : HO → HO
  | .obj t es => .obj t (es.map fun e => e.map (sh n))
  | .hw t k => .hw t k
def shH (n : Nat) (H : Heap) : Heap := H.map (shO n)

mutual
/-- Does it hold no place? -/
def closedA : AV → Bool
  | .im _ => true
  | .nils => true
  | .asl .. => false
  | .ms .. => false
  | .ptr .. => false
  | .agg cs => closedAs cs
  | .tup cs => closedAs cs
  | .clo _ cs => closedAs cs
  | .any => true
def closedAs : List AV → Bool
  | [] => true
  | a :: l => closedA a && closedAs l
end

section
variable {n : Nat}

mutual
theorem sh_closed : ∀ {a : AV}, closedA a = true → sh n a = a
  | .im _, _ => rfl
  | .nils, _ => rfl
  | .agg cs, h => by simp only [closedA] at h; simp only [sh, shs_closed h]
  | .tup cs, h => by simp only [closedA] at h; simp only [sh, shs_closed h]
  | .clo f cs, h => by simp only [closedA] at h; simp only [sh, shs_closed h]
  | .any, _ => rfl
theorem shs_closed : ∀ {l : List AV}, closedAs l = true → shs n l = l
  | [], _ => rfl
  | a :: l, h => by
    simp only [closedAs, Bool.and_eq_true] at h
    simp only [shs, sh_closed h.1, shs_closed h.2]
end

theorem sh_cells (a : AV) : cellsOf (sh n a) = (cellsOf a).map (sh n) := by
  cases a <;> simp [sh, cellsOf, shs_map]
  rename_i d
  cases d <;> simp [sh]

theorem sh_cellOk (a : AV) : cellOk (sh n a) = cellOk a := by
  cases a <;> simp [sh, cellOk]

theorem sh_toIms : ∀ cs : List AV, toIms (cs.map (sh n)) = toIms cs
  | [] => rfl
  | a :: l => by
    have ih := sh_toIms l
    cases a <;> simp [sh, toIms, ih]

theorem sh_mkAgg (cs : List AV) : mkAgg (cs.map (sh n)) = sh n (mkAgg cs) := by
  unfold mkAgg
  rw [sh_toIms]
  cases toIms cs <;> simp [sh, shs_map]

mutual
theorem sh_toDat : ∀ a : AV, toDat (sh n a) = toDat a
  | .im d => rfl
  | .nils => rfl
  | .asl .. => rfl
  | .ms .. => rfl
  | .ptr .. => rfl
  | .agg cs => by simp only [sh, toDat, sh_toDats cs]
  | .tup cs => rfl
  | .clo f cs => rfl
  | .any => rfl
theorem sh_toDats : ∀ l : List AV, toDats (shs n l) = toDats l
  | [] => rfl
  | a :: l => by simp only [shs, toDats, sh_toDat a, sh_toDats l]
end

theorem sh_toDatss : ∀ l : List (List AV), toDatss (l.map fun e => e.map (sh n)) = toDatss l
  | [] => rfl
  | a :: l => by
    have := sh_toDats (n := n) a
    rw [shs_map] at this
    simp only [List.map_cons, toDatss, this, sh_toDatss l]

theorem all_cellOk (l : List AV) : (l.map (sh n)).all cellOk = l.all cellOk := by
  rw [List.all_map]
  congr 1
  funext a
  exact sh_cellOk a

variable {H0 H : Heap}

theorem shH_get (hn : n = H0.length) (id : Nat) : (H0 ++ shH n H)[n + id]? = (H[id]?).map (shO n) := by
  subst hn
  rw [hget]
  simp [shH]

theorem shH_set (hn : n = H0.length) (id : Nat) (o : HO) : (H0 ++ shH n H).set (n + id) (shO n o) = H0 ++ shH n (H.set id o) := by
  subst hn
  rw [hset]
  simp [shH]

theorem shH_app (o : HO) : H0 ++ shH n H ++ [shO n o] = H0 ++ shH n (H ++ [o]) := by
  simp [shH]

theorem shH_len (hn : n = H0.length) : (H0 ++ shH n H).length = n + H.length := by
  simp [shH, hn]

theorem map_setAt : ∀ (e : List AV) (j : Nat) (cs : List AV), (setAt e j cs).map (sh n) = setAt (e.map (sh n)) j (cs.map (sh n))
  | e, j, [] => rfl
  | e, j, c :: cs => by
    simp only [setAt, List.map_cons]
    rw [map_setAt (e.set j c) (j + 1) cs, List.map_set]

theorem sh_load (hn : n = H0.length) {k : Option Nat} {a v : AV} (h : loadAt H k a = some v) : loadAt (H0 ++ shH n H) k (sh n a) = some (sh n v) := by
  unfold loadAt at h
  split at h
  · rename_i cs
    simp only [sh, loadAt]
    split at h
    · split at h
      · rename_i d hd
        injection h with h; subst h
        first | rfl | (rw [hd]; rfl)
      · simp at h
    · split at h
      · rename_i hk
        rw [if_pos hk]
        injection h with h; subst h
        rfl
      · simp at h
  · rename_i id i j
    simp only [sh, loadAt, shH_get hn]
    split at h
    · rename_i ty es he
      rw [he]
      simp only [Option.map_some, shO]
      split at h
      · rename_i e hi
        rw [List.getElem?_map, hi]
        simp only [Option.map_some]
        split at h
        · rw [List.getElem?_map, h]; rfl
        · split at h
          · rename_i hk
            rw [List.length_map, if_pos hk]
            injection h with h; subst h
            rw [← List.map_drop, ← List.map_take, sh_mkAgg]
          · simp at h
      · simp at h
    · simp at h
  · simp at h

theorem sh_store (hn : n = H0.length) {k : Nat} {a v : AV} {H' : Heap} (h : storeAt H k a v = some H') : storeAt (H0 ++ shH n H) k (sh n a) (sh n v) = some (H0 ++ shH n H') := by
  unfold storeAt at h
  split at h
  · rename_i id i j
    simp only [sh, storeAt, shH_get hn]
    split at h
    · rename_i ty es he
      rw [he]
      simp only [Option.map_some, shO]
      split at h
      · rename_i e hi
        rw [List.getElem?_map, hi]
        simp only [Option.map_some]
        simp only at h
        split at h
        · rename_i hc
          injection h with h; subst h
          rw [sh_cells, if_pos (by rw [List.length_map, List.length_map, all_cellOk]; exact hc)]
          rw [← shH_set hn]
          simp only [shO, List.map_set, map_setAt]
        · simp at h
      · simp at h
    · simp at h
  · simp at h

theorem sh_elems (hn : n = H0.length) {s : Nat} {a : AV} {ys : List (List Dat)} (h : elems H s a = some ys) : elems (H0 ++ shH n H) s (sh n a) = some ys := by
  unfold elems at h
  split at h
  · exact h
  · exact h
  · exact h
  · exact h
  · rename_i s' id off k
    simp only [sh, elems, shH_get hn]
    split at h
    · rename_i hs
      rw [if_pos hs]
      split at h
      · rename_i ty es he
        rw [he]
        simp only [Option.map_some, shO, List.length_map]
        split at h
        · rename_i hk
          rw [if_pos hk, ← List.map_drop, ← List.map_take, sh_toDatss]
          exact h
        · simp at h
      · simp at h
    · simp at h
  · simp at h

theorem sh_append (hn : n = H0.length) {ty : TypeId} {bytes s : Nat} {a v : AV} {ys : List (List Dat)} {H' : Heap} (h : appendA H ty bytes s a ys = some (v, H')) : appendA (H0 ++ shH n H) ty bytes s (sh n a) ys = some (sh n v, H0 ++ shH n H') := by
  unfold appendA at h
  split at h
  · simp only [sh, appendA]
    split at h
    · simp only [Option.some.injEq, Prod.mk.injEq] at h
      obtain ⟨rfl, rfl⟩ := h
      rfl
    · split at h
      · rename_i hc
        simp only [Option.some.injEq, Prod.mk.injEq] at h
        obtain ⟨rfl, rfl⟩ := h
        rw [if_pos hc, shH_len hn, ← shH_app]
        rfl
      · simp at h
  · rename_i s' es tok
    simp only [sh, appendA, shH_get hn]
    split at h
    · rename_i ty' k he
      rw [he]
      simp only [Option.map_some, shO]
      split at h
      · rename_i hc
        simp only [Option.some.injEq, Prod.mk.injEq] at h
        obtain ⟨rfl, rfl⟩ := h
        rw [if_pos hc, ← shH_set hn]
        rfl
      · simp at h
    · simp at h
  · simp at h

theorem sh_fillA : ∀ {parts : List (Nat × Nat × AV)} {cells cs : List AV}, fillA cells parts = some cs → fillA (cells.map (sh n)) (parts.map fun p => (p.1, p.2.1, sh n p.2.2)) = some (cs.map (sh n))
  | [], cells, cs, h => by
    simp only [fillA] at h
    injection h with h; subst h
    rfl
  | (off, size, v) :: rest, cells, cs, h => by
    simp only [fillA] at h
    split at h
    · rename_i hc
      simp only [List.map_cons, fillA, sh_cells]
      rw [if_pos (by rw [List.length_map, List.length_map, all_cellOk]; exact hc), ← map_setAt]
      exact sh_fillA h
    · simp at h

theorem sh_fillE {s : Nat} : ∀ {parts : List (Nat × AV)} {es cs : List (List AV)}, fillE s es parts = some cs → fillE s (es.map fun e => e.map (sh n)) (parts.map fun p => (p.1, sh n p.2)) = some (cs.map fun e => e.map (sh n))
  | [], es, cs, h => by
    simp only [fillE] at h
    injection h with h; subst h
    rfl
  | (i, v) :: rest, es, cs, h => by
    simp only [fillE] at h
    split at h
    · rename_i hc
      simp only [List.map_cons, fillE, sh_cells]
      rw [if_pos (by rw [List.length_map, List.length_map, all_cellOk]; exact hc)]
      have := sh_fillE h
      rwa [List.map_set] at this
    · simp at h

theorem sh_part {k : Option Nat} {cs : List AV} {off : Nat} {v : AV} (h : partA k cs off = some v) : partA k (cs.map (sh n)) off = some (sh n v) := by
  cases k with
  | none =>
    simp only [partA] at h ⊢
    rw [List.getElem?_map, h]; rfl
  | some m =>
    simp only [partA] at h ⊢
    split at h
    · rename_i hc
      injection h with h; subst h
      rw [List.length_map, if_pos hc, ← List.map_drop, ← List.map_take, sh_mkAgg]
    · simp at h

theorem sh_aggCells {a : AV} {cs : List AV} (h : aggCells a = some cs) : aggCells (sh n a) = some (cs.map (sh n)) := by
  unfold aggCells at h
  split at h
  · injection h with h; subst h
    simp [sh, aggCells]
  · injection h with h; subst h
    simp [sh, aggCells, shs_map]
  · simp at h

theorem sh_bin {op : BinOp} {a b v : AV} (h : binA op a b = some v) : binA op (sh n a) (sh n b) = some (sh n v) := by
  have hv : sh n v = v ∧ sh n a = a ∧ sh n b = b := by
    unfold binA at h
    split at h
    · refine ⟨?_, rfl, rfl⟩
      repeat' (split at h)
      all_goals first | (injection h with h; subst h; rfl) | (simp at h)
    · refine ⟨?_, rfl, rfl⟩
      repeat' (split at h)
      all_goals first | (injection h with h; subst h; rfl) | (simp at h)
    · refine ⟨?_, rfl, rfl⟩
      repeat' (split at h)
      all_goals first | (injection h with h; subst h; rfl) | (simp at h)
    · refine ⟨?_, rfl, rfl⟩
      repeat' (split at h)
      all_goals first | (injection h with h; subst h; rfl) | (simp at h)
    · simp at h
  rw [hv.1, hv.2.1, hv.2.2]; exact h

theorem sh_int (a : AV) : intOfA (sh n a) = intOfA a := by
  cases a <;> rfl

theorem sh_idx (a : AV) (k : Nat) : idx (sh n a) k = idx a k := by
  unfold idx
  rw [sh_int]

theorem sh_bool {op : BinOp} {a b v : AV} (h : binBool op a b = some v) : binBool op (sh n a) (sh n b) = some (sh n v) := by
  have hv : sh n v = v ∧ sh n a = a ∧ sh n b = b := by
    unfold binBool at h
    split at h
    · refine ⟨?_, rfl, rfl⟩
      split at h
      all_goals first | (injection h with h; subst h; rfl) | (simp at h)
    · simp at h
  rw [hv.1, hv.2.1, hv.2.2]; exact h

theorem sh_un {op : UnOp} {a v : AV} (h : unA op a = some v) : unA op (sh n a) = some (sh n v) := by
  have hv : sh n v = v ∧ sh n a = a := by
    unfold unA at h
    split at h
    all_goals first
      | (refine ⟨?_, rfl⟩
         repeat' (split at h)
         all_goals first | (injection h with h; subst h; rfl) | (simp at h))
      | (simp at h)
  rw [hv.1, hv.2]; exact h

theorem sh_min {a b v : AV} (h : minA a b = some v) : minA (sh n a) (sh n b) = some (sh n v) := by
  unfold minA at h
  split at h
  · injection h with h; subst h; rfl
  · simp at h

theorem sh_max {a b v : AV} (h : maxA a b = some v) : maxA (sh n a) (sh n b) = some (sh n v) := by
  unfold maxA at h
  split at h
  · injection h with h; subst h; rfl
  · simp at h

theorem sh_bound {ρ : AOpd → AV} (d : Nat) (x : Option AOpd) : boundA (fun x => sh n (ρ x)) d x = boundA ρ d x := by
  cases x with
  | none => rfl
  | some x => simp only [boundA, sh_int]

theorem sh_slice {s : Nat} {x v : AV} {lo : Nat} {hi : Nat → Option Nat} {mx : Option (Option Nat)} (h : sliceA s x lo hi mx = some v) : sliceA s (sh n x) lo hi mx = some (sh n v) := by
  unfold sliceA at h
  split at h
  all_goals first
    | (simp only [sh, sliceA]
       repeat' (split at h)
       all_goals first
         | (injection h with h; subst h; simp_all [sh])
         | (simp at h))
    | (simp at h)

theorem sh_len (a : AV) : lenA (sh n a) = lenA a := by
  cases a <;> rfl

end
end Go.Abs
end
