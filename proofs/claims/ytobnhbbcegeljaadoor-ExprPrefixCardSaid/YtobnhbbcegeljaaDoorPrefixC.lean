/- Part 3 of what the claim rests on. -/
import Derived.Lib.Bytealg
import Derived.Test.YtobnhbbcegeljaaDoorPrefixA
import Derived.Test.YtobnhbbcegeljaaDoorPrefixB
section
set_option linter.unusedVariables false
set_option linter.unusedSimpArgs false
namespace Go.Abs
mutual
def eqD : Dat → Dat → Bool
 | .int k n, .int k' n' => decide (k = k') && decide (n = n')
 | .bool b, .bool b' => b == b'
 | .str s, .str s' => decide (s = s')
 | .flt k n, .flt k' n' => decide (k = k') && decide (n = n')
 | .cpx k a b, .cpx k' a' b' => decide (k = k') && decide (a = a') && decide (b = b')
 | .nilp, .nilp => true
 | .nilf, .nilf => true
 | .nili, .nili => true
 | .agg cs, .agg cs' => eqDs cs cs'
 | .sl s es, .sl s' es' => decide (s = s') && eqDss es es'
 | .rp cs, .rp cs' => eqDs cs cs'
 | _, _ => false
def eqDs : List Dat → List Dat → Bool
 | [], [] => true
 | a :: l, b :: r => eqD a b && eqDs l r
 | _, _ => false
def eqDss : List (List Dat) → List (List Dat) → Bool
 | [], [] => true
 | a :: l, b :: r => eqDs a b && eqDss l r
 | _, _ => false
end
mutual
theorem eqD_eq : ∀ {a b : Dat}, eqD a b = true → a = b
 | .int k n, b, h => by cases b <;> simp_all [eqD]
 | .bool x, b, h => by cases b <;> simp_all [eqD]
 | .str s, b, h => by cases b <;> simp_all [eqD]
 | .flt k n, b, h => by cases b <;> simp_all [eqD]
 | .cpx k x y, b, h => by cases b <;> simp_all [eqD]
 | .nilp, b, h => by cases b <;> simp_all [eqD]
 | .nilf, b, h => by cases b <;> simp_all [eqD]
 | .nili, b, h => by cases b <;> simp_all [eqD]
 | .agg cs, b, h => by
  cases b <;> simp [eqD] at h
  rw [eqDs_eq h]
 | .sl s es, b, h => by
  cases b <;> simp [eqD] at h
  rw [h.1, eqDss_eq h.2]
 | .rp cs, b, h => by
  cases b <;> simp [eqD] at h
  rw [eqDs_eq h]
theorem eqDs_eq : ∀ {a b : List Dat}, eqDs a b = true → a = b
 | [], b, h => by cases b <;> simp_all [eqDs]
 | a :: l, b, h => by
  cases b <;> simp [eqDs] at h
  rw [eqD_eq h.1, eqDs_eq h.2]
theorem eqDss_eq : ∀ {a b : List (List Dat)}, eqDss a b = true → a = b
 | [], b, h => by cases b <;> simp_all [eqDss]
 | a :: l, b, h => by
  cases b <;> simp [eqDss] at h
  rw [eqDs_eq h.1, eqDss_eq h.2]
end
mutual
def eqA : AV → AV → Bool
 | .im d, .im d' => eqD d d'
 | .nils, .nils => true
 | .asl s es t, .asl s' es' t' => decide (s = s') && eqDss es es' && decide (t = t')
 | .ms s i o n, .ms s' i' o' n' => decide (s = s') && decide (i = i') && decide (o = o') && decide (n = n')
 | .ptr i j k, .ptr i' j' k' => decide (i = i') && decide (j = j') && decide (k = k')
 | .agg cs, .agg cs' => eqAs cs cs'
 | .tup cs, .tup cs' => eqAs cs cs'
 | .clo f cs, .clo f' cs' => decide (f = f') && eqAs cs cs'
 | .any, .any => true
 | _, _ => false
def eqAs : List AV → List AV → Bool
 | [], [] => true
 | a :: l, b :: r => eqA a b && eqAs l r
 | _, _ => false
end
mutual
theorem eqA_eq : ∀ {a b : AV}, eqA a b = true → a = b
 | .im d, b, h => by
  cases b <;> simp [eqA] at h
  rw [eqD_eq h]
 | .nils, b, h => by cases b <;> simp_all [eqA]
 | .asl s es t, b, h => by
  cases b <;> simp [eqA] at h
  rw [h.1.1, eqDss_eq h.1.2, h.2]
 | .ms s i o n, b, h => by cases b <;> simp_all [eqA]
 | .ptr i j k, b, h => by cases b <;> simp_all [eqA]
 | .agg cs, b, h => by
  cases b <;> simp [eqA] at h
  rw [eqAs_eq h]
 | .tup cs, b, h => by
  cases b <;> simp [eqA] at h
  rw [eqAs_eq h]
 | .clo f cs, b, h => by
  cases b <;> simp [eqA] at h
  rw [h.1, eqAs_eq h.2]
 | .any, b, h => by cases b <;> simp_all [eqA]
theorem eqAs_eq : ∀ {a b : List AV}, eqAs a b = true → a = b
 | [], b, h => by cases b <;> simp_all [eqAs]
 | a :: l, b, h => by
  cases b <;> simp [eqAs] at h
  rw [eqA_eq h.1, eqAs_eq h.2]
end
mutual
theorem eqD_refl : ∀ a : Dat, eqD a a = true
 | .int k n => by simp [eqD]
 | .bool x => by simp [eqD]
 | .str s => by simp [eqD]
 | .flt k n => by simp [eqD]
 | .cpx k x y => by simp [eqD]
 | .nilp => by simp [eqD]
 | .nilf => by simp [eqD]
 | .nili => by simp [eqD]
 | .agg cs => by simp [eqD, eqDs_refl cs]
 | .sl s es => by simp [eqD, eqDss_refl es]
 | .rp cs => by simp [eqD, eqDs_refl cs]
theorem eqDs_refl : ∀ a : List Dat, eqDs a a = true
 | [] => by simp [eqDs]
 | a :: l => by simp [eqDs, eqD_refl a, eqDs_refl l]
theorem eqDss_refl : ∀ a : List (List Dat), eqDss a a = true
 | [] => by simp [eqDss]
 | a :: l => by simp [eqDss, eqDs_refl a, eqDss_refl l]
end
mutual
theorem eqA_refl : ∀ a : AV, eqA a a = true
 | .im d => by simp [eqA, eqD_refl d]
 | .nils => by simp [eqA]
 | .asl s es t => by simp [eqA, eqDss_refl es]
 | .ms s i o n => by simp [eqA]
 | .ptr i j k => by simp [eqA]
 | .agg cs => by simp [eqA, eqAs_refl cs]
 | .tup cs => by simp [eqA, eqAs_refl cs]
 | .clo f cs => by simp [eqA, eqAs_refl cs]
 | .any => by simp [eqA]
theorem eqAs_refl : ∀ a : List AV, eqAs a a = true
 | [] => by simp [eqAs]
 | a :: l => by simp [eqAs, eqA_refl a, eqAs_refl l]
end
def eqAss : List (List AV) → List (List AV) → Bool
 | [], [] => true
 | a :: l, b :: r => eqAs a b && eqAss l r
 | _, _ => false
theorem eqAss_eq : ∀ {a b : List (List AV)}, eqAss a b = true → a = b
 | [], b, h => by cases b <;> simp_all [eqAss]
 | a :: l, b, h => by
  cases b <;> simp [eqAss] at h
  rw [eqAs_eq h.1, eqAss_eq h.2]
theorem eqAss_refl : ∀ a : List (List AV), eqAss a a = true
 | [] => by simp [eqAss]
 | a :: l => by simp [eqAss, eqAs_refl a, eqAss_refl l]
def eqH : HO → HO → Bool
 | .obj t es, .obj t' es' => decide (t = t') && eqAss es es'
 | .hw t n, .hw t' n' => decide (t = t') && decide (n = n')
 | _, _ => false
theorem eqH_iff {a b : HO} : eqH a b = true ↔ a = b := by
 constructor
 ·intro h
  cases a <;> cases b <;> simp [eqH] at h
  ·rw [h.1, eqAss_eq h.2]
  ·rw [h.1, h.2]
 ·rintro rfl
  cases a <;> simp [eqH, eqAss_refl]
def heldC (n : Nat) : Heap → Heap → Bool
 | [], _ => true
 | o0 :: H0, o :: H => (eqH o o0 || refsO n o) && heldC n H0 H
 | _ :: _, [] => false
theorem heldC_iff {n : Nat} : ∀ {H0 H : Heap}, heldC n H0 H = true ↔ ∀ i, i < H0.length → H[i]? = H0[i]? ∨ ∃ o, H[i]? = some o ∧ refsO n o = true
 | [], H => by simp [heldC]
 | o0 :: H0, [] => by
  simp only [heldC,Bool.false_eq_true,false_iff]
  intro h
  have := h 0 (by simp)
  simp at this
 | o0 :: H0, o :: H => by
  simp only [heldC,Bool.and_eq_true,Bool.or_eq_true,eqH_iff,heldC_iff (H0 := H0) (H := H)]
  constructor
  ·rintro ⟨h0, h1⟩ i hi
   cases i with
   | zero =>
    rcases h0 with h0 | h0
    ·left; simp [h0]
    ·right; exact ⟨o, rfl, h0⟩
   | succ i => simpa using h1 i (by simpa using hi)
  ·intro h
   refine ⟨?_, fun i hi => by simpa using h (i + 1) (by simpa using hi)⟩
   have := h 0 (by simp)
   simpa using this
def leaveC (H0 : Heap) (keep : Bool) (r : AV) (H : Heap) : AV × Heap :=
 let r' := if keep then r else degrade r
 if refsLt H0.length r' = true ∧ heldC H0.length H0 H = true then (r', H.take H0.length) else (r', H)
theorem leaveC_eq {H0 : Heap} {keep : Bool} {r : AV} {H : Heap} : leave H0 keep r H = leaveC H0 keep r H := by
 unfold leaveC leave
 generalize (if keep = true then r else degrade r) = r1
 have e : (refsLt H0.length r1 = true ∧ heldIn H0 H) ↔ (refsLt H0.length r1 = true ∧ heldC H0.length H0 H = true) := and_congr_right fun _ => heldC_iff.symm
 simp only
 by_cases h : refsLt H0.length r1 = true ∧ heldIn H0 H
 ·rw [if_pos h, if_pos (e.1 h)]
 ·rw [if_neg h, if_neg (mt e.2 h)]
def endC (f : AFunc) (H0 : Heap) : Option Out → Option (AV × Heap)
 | some (.normal, tm, H) => match resA tm H f.results with
  | some l => some (leaveC H0 f.keep (tupA l) H)
  | none => none
 | some (.ret, tm, H) => match resA tm H f.results with
  | some l => some (leaveC H0 f.keep (tupA l) H)
  | none => none
 | _ => none
theorem endC_eq {f : AFunc} {H0 : Heap} {o : Option Out} {x : AV × Heap} (h : endC f H0 o = some x) : endA f H0 o = some x := by
 unfold endC at h
 split at h
 ·split at h
  ·rename_i l hl
   simp only [endA,hl,leaveC_eq]; exact h
  ·simp at h
 ·split at h
  ·rename_i l hl
   simp only [endA,hl,leaveC_eq]; exact h
  ·simp at h
 ·simp at h
end Go.Abs
end
section
set_option linter.unusedVariables false
set_option linter.unusedSimpArgs false
namespace Go.Abs
def eqO : Option AV → Option AV → Bool
 | some a, some b => eqA a b
 | none, none => true
 | _, _ => false
theorem eqO_eq {a b : Option AV} (h : eqO a b = true) : a = b := by
 cases a <;> cases b <;> simp [eqO] at h
 ·rfl
 ·rw [eqA_eq h]
def staysC (l : List AOper) (sts : List (List AV × Heap)) (p : Nat × Nat) : Bool :=
 match l[p.1]?, sts[p.1]?, sts[p.2]?, sts[p.2 + 1]? with
 | some o, some s, some a, some b => (match wantedA s.1 o.guard with | some false => true | _ => false) || match loadOf o.op with
  | some (k, x) => eqO (loadAt a.2 k (ev s.1 x)) (loadAt b.2 k (ev s.1 x))
  | none => false
 | _, _, _, _ => false
theorem staysC_stays {l : List AOper} {sts : List (List AV × Heap)} {p : Nat × Nat} (h : staysC l sts p = true) : stays l sts p := by
 unfold staysC at h
 unfold stays
 split at h
 ·rename_i o s a b h1 h2 h3 h4
  simp only [h1,h2,h3,h4]
  rw [Bool.or_eq_true] at h
  rcases h with h | h
  ·left
   split at h
   ·assumption
   ·simp at h
  ·right
   split at h
   ·rename_i k x hl
    simp only [hl]
    exact eqO_eq h
   ·simp at h
 ·simp at h
def xregC {R : Type} (Φ : Oracle) (l : List AOper) (pairs : List (Nat × Nat)) (tm : List AV) (H : Heap) (K : List AV → Heap → Option R) : Option R :=
 match pairs with
 | [] => xops Φ l [] tm H fun _ tm H => K tm H
 | p :: ps => xops Φ l [] tm H fun tr tm' H' => if (p :: ps).all (fun q => staysC l (((tm', H') :: tr).reverse) q) = true then K tm' H' else none
theorem xregC_le {R : Type} {Φ Ψ : Oracle} (h : OLe Φ Ψ) {K K' : List AV → Heap → Option R} (hK : ∀ tm H x, K tm H = some x → K' tm H = some x) {l : List AOper} {ps : List (Nat × Nat)} {tm : List AV} {H : Heap} {x : R} (hx : xregC Φ l ps tm H K = some x) : xreg Ψ l ps tm H K' = some x := by
 unfold xregC at hx
 unfold xreg
 split at hx
 ·exact xops_mono h (fun _ tm H x => hK tm H x) hx
 ·refine xops_mono h (fun tr tm H x hx => ?_) hx
  split at hx
  ·rename_i hc
   rw [List.all_eq_true] at hc
   rw [if_pos fun q hq => staysC_stays (hc q hq)]
   exact hK _ _ _ hx
  ·simp at hx
def execC (Φ : Oracle) : Nat → ACode → List AV → Heap → Option Out
 | 0, _, _, _ => none
 | k + 1, code, tm, H => match code with
  | .skip => some (.normal, tm, H)
  | .label _ => some (.normal, tm, H)
  | .ops l ps => xregC Φ l ps tm H fun tm H => some (.normal, tm, H)
  | .seq a b => match execC Φ k a tm H with
   | some (.normal, tm', H') => execC Φ k b tm' H'
   | r => r
  | .cond c a b => match ev tm c with
   | .im (.bool t) => if t = true then execC Φ k a tm H else execC Φ k b tm H
   | _ => none
  | .block id a => match execC Φ k a tm H with
   | some (.exit i, tm', H') => if i = id then some (.normal, tm', H') else some (.exit i, tm', H')
   | r => r
  | .loop a => match execC Φ k a tm H with
   | some (.normal, tm', H') => execC Φ k (.loop a) tm' H'
   | r => r
  | .scope body cur => match execC Φ k cur tm H with
   | some (.goto l, tm', H') => match findA body l with
    | some rest => execC Φ k (.scope body rest) tm' H'
    | none => none
   | r => r
  | .exit i => some (.exit i, tm, H)
  | .goto l => some (.goto l, tm, H)
  | .ret => some (.ret, tm, H)
  | .bad => none
theorem execC_le {Φ Ψ : Oracle} (h : OLe Φ Ψ) : ∀ {k : Nat} {c : ACode} {tm : List AV} {H : Heap} {x : Out}, execC Φ k c tm H = some x → execF Ψ k c tm H = some x
 | 0, _, _, _, _, hx => by simp [execC] at hx
 | k + 1, c, tm, H, x, hx => by
  have ih : ∀ {c : ACode} {tm : List AV} {H : Heap} {x : Out}, execC Φ k c tm H = some x → execF Ψ k c tm H = some x := fun hx => execC_le h hx
  cases c <;> simp only [execC] at hx <;> simp only [execF]
  case ops l ps => exact xregC_le h (fun _ _ _ h => h) hx
  case seq a b =>
   cases ha : execC Φ k a tm H with
   | none => rw [ha] at hx; simp at hx
   | some o =>
    rw [ha] at hx
    rw [ih ha]
    obtain ⟨e, tm1, H1⟩ := o
    cases e <;> first | exact hx | exact ih hx
  case cond c a b =>
   split at hx
   ·rename_i t htt
    rw [htt]
    simp only
    split at hx
    ·rename_i ht; rw [if_pos ht]; exact ih hx
    ·rename_i ht; rw [if_neg ht]; exact ih hx
   ·simp at hx
  case block id a =>
   cases ha : execC Φ k a tm H with
   | none => rw [ha] at hx; simp at hx
   | some o => rw [ha] at hx; rw [ih ha]; exact hx
  case loop a =>
   cases ha : execC Φ k a tm H with
   | none => rw [ha] at hx; simp at hx
   | some o =>
    rw [ha] at hx
    rw [ih ha]
    obtain ⟨e, tm1, H1⟩ := o
    cases e <;> first | exact hx | exact ih hx
  case scope body cur =>
   cases ha : execC Φ k cur tm H with
   | none => rw [ha] at hx; simp at hx
   | some o =>
    rw [ha] at hx
    rw [ih ha]
    obtain ⟨e, tm1, H1⟩ := o
    cases e with
    | goto l =>
     simp only at hx ⊢
     cases hf : findA body l with
     | none => rw [hf] at hx; simp at hx
     | some r => rw [hf] at hx; exact ih hx
    | normal => exact hx
    | exit i => exact hx
    | ret => exact hx
  all_goals exact hx
def runC (Ψ : Oracle) (T : FuncId → Option AFunc) : Nat → Oracle
 | 0, _, _, _ => none
 | k + 1, f, args, H => match T f with
  | some af => endC af H (execC (runC Ψ T k) k af.code (enterA af args) H)
  | none => Ψ f args H
theorem runC_le {Ψ : Oracle} {T F : FuncId → Option AFunc} (hT : ∀ f af, T f = some af → F f = some af) (hn : ∀ f, T f = none → F f = none ∨ ∀ args H, Ψ f args H = none) : ∀ k, OLe (runC Ψ T k) (runF Ψ F k)
 | 0 => fun f args H x hx => by simp [runC] at hx
 | k + 1 => fun f args H x hx => by
  have ih := runC_le hT hn k
  simp only [runC] at hx
  simp only [runF]
  cases hf : T f with
  | none =>
   rw [hf] at hx
   rcases hn f hf with h | h
   ·rw [h]; exact hx
   ·simp only [h] at hx; simp at hx
  | some af =>
   rw [hf] at hx
   rw [hT f af hf]
   simp only at hx ⊢
   cases he : execC (runC Ψ T k) k af.code (enterA af args) H with
   | none => rw [he] at hx; simp [endC] at hx
   | some o => rw [he] at hx; rw [execC_le ih he]; exact endC_eq hx
end Go.Abs
end
section
set_option linter.unusedVariables false
set_option linter.unusedSimpArgs false
namespace Go.Abs
section
variable {α : Type} {H l : List α} {x : α}
theorem hget (k : Nat) : (H ++ l)[H.length + k]? = l[k]? := by
 rw [List.getElem?_append_right (by omega)]
 congr 1
 omega
theorem hget0 : (H ++ l)[H.length]? = l[0]? := hget 0
theorem hset (k : Nat) : (H ++ l).set (H.length + k) x = H ++ l.set k x := by
 rw [List.set_append_right _ _ (by omega)]
 congr 2
 omega
theorem hset0 : (H ++ l).set H.length x = H ++ l.set 0 x := hset 0
theorem htake : (H ++ l).take H.length = H := by simp
end
theorem heldIn_app (H L : Heap) : heldIn H (H ++ L) := fun i h => .inl (List.getElem?_append_left h)
theorem leave_app {H L : Heap} {keep : Bool} {d : Dat} : leave H keep (.im d) (H ++ L) = (.im d, H) := by
 unfold leave
 have e : (if keep = true then AV.im d else degrade (.im d)) = .im d := by cases keep <;> simp [degrade, toDat]
 rw [e, if_pos ⟨by simp only [refsLt], heldIn_app H L⟩, htake]
theorem leave_same {H : Heap} {keep : Bool} {d : Dat} : leave H keep (.im d) H = (.im d, H) := by
 have := leave_app (H := H) (L := []) (keep := keep) (d := d)
 simpa using this
end Go.Abs
namespace Go.Abs
section
variable {tm : List AV} {v d : AV} {i j : Nat}
theorem gs_same (h : i < tm.length) : (tm.set i v).getD i d = v := by
 simp [List.getD_eq_getElem?_getD, h]
theorem gs_ne (h : ¬ i = j) : (tm.set i v).getD j d = tm.getD j d := by
 simp [List.getD_eq_getElem?_getD, List.getElem?_set_ne h]
theorem gq_same (h : i < tm.length) : (tm.set i v)[i]? = some v := by
 simp [h]
theorem gq_ne (h : ¬ i = j) : (tm.set i v)[j]? = tm[j]? := List.getElem?_set_ne h
end
theorem enter_at {f : AFunc} {args : List AV} (h : args.length ≤ f.ntmps) : (enterA f args).length = f.ntmps ∧ ∀ i a, args[i]? = some a → (enterA f args).getD i undefA = a := by
 refine ⟨by simp [enterA]; omega, fun i a hi => ?_⟩
 have := (List.getElem?_eq_some_iff.1 hi).1
 simp [enterA, List.getD_eq_getElem?_getD, List.getElem?_append_left this, hi]
theorem idx_nat {i n : Nat} (h : i < n) : idx (.im (.int .i64 i)) n = some i := by
 unfold idx intOfA
 simp only
 split <;> simp <;> omega
theorem wrap_nat {i : Nat} (h : i < 9223372036854775807) : IntKind.i64.wrap ((i : Int) + 1) = ((i + 1 : Nat) : Int) := by
 simp [IntKind.wrap, IntKind.bits, IntKind.signed]
 omega
end Go.Abs
namespace Go.Abs
theorem thenL_of {R : Type} {o : Option Out} {K : AEx → List AV → Heap → Option R} {r : Option R} {Q : AEx → List AV → Heap → Prop} (h : ∃ e tm H, o = some (e, tm, H) ∧ Q e tm H) (hK : ∀ e tm H, Q e tm H → K e tm H = r) : thenL o K = r := by
 obtain ⟨e, tm, H, rfl, hq⟩ := h
 exact hK e tm H hq
end Go.Abs
namespace Go.Abs
theorem ex_imp {o : Option Out} {Q Q' : AEx → List AV → Heap → Prop} (h : ∃ e tm H, o = some (e, tm, H) ∧ Q e tm H) (hQ : ∀ e tm H, Q e tm H → Q' e tm H) : ∃ e tm H, o = some (e, tm, H) ∧ Q' e tm H := by
 obtain ⟨e, tm, H, rfl, hq⟩ := h
 exact ⟨e, tm, H, rfl, hQ e tm H hq⟩
end Go.Abs
namespace Go.Abs
theorem set_app {α : Type} {A B : List α} {i : Nat} {x : α} (h : i < A.length) : (A ++ B).set i x = A.set i x ++ B := List.set_append_left _ _ h
theorem get_app {α : Type} {A B : List α} {i : Nat} (h : i < A.length) : (A ++ B)[i]? = A[i]? := List.getElem?_append_left h
end Go.Abs
namespace Go.Abs
def Gath (ty : TypeId) (s n : Nat) (v : AV) (H : Heap) (es : List (List Dat)) : Prop :=
 (es = [] ∧ v = .nils) ∨ (es ≠ [] ∧ ∃ tok, n ≤ tok ∧ v = .asl s es tok ∧ H[tok]? = some (.hw ty es.length))
theorem Gath.more {ty : TypeId} {s n : Nat} {v : AV} {H : Heap} {es : List (List Dat)} (h : Gath ty s n v H es) (M : Heap) : Gath ty s n v (H ++ M) es := by
 rcases h with h | ⟨h1, tok, h2, h3, h4⟩
 ·exact .inl h
 ·exact .inr ⟨h1, tok, h2, h3, by rw [List.getElem?_append_left (List.getElem?_eq_some_iff.1 h4).1]; exact h4⟩
theorem Gath.push {ty : TypeId} {s bytes : Nat} {v : AV} {H0 M : Heap} {es : List (List Dat)} (h : Gath ty s H0.length v (H0 ++ M) es) (y : List Dat) (hb : (es.length + 1) * bytes ≤ 2 ^ 46) (hb0 : 0 < bytes) :
  ∃ v' M', appendA (H0 ++ M) ty bytes s v [y] = some (v', H0 ++ M') ∧ Gath ty s H0.length v' (H0 ++ M') (es ++ [y]) ∧ cellOk v' = true ∧ M.length ≤ M'.length := by
 rcases h with ⟨rfl, rfl⟩ | ⟨h1, tok, h2, rfl, h4⟩
 ·refine ⟨.asl s [y] (H0 ++ M).length, M ++ [.hw ty 1], ?_, .inr ⟨by simp, (H0 ++ M).length, by simp, rfl, ?_⟩, rfl, by simp⟩
  ·simp only [appendA,List.length_nil,Nat.zero_add]
   rw [if_pos ⟨by simpa using hb, hb0⟩, List.append_assoc]
  ·rw [← List.append_assoc, hget0]; rfl
 ·have hlt := (List.getElem?_eq_some_iff.1 h4).1
  refine ⟨.asl s (es ++ [y]) tok, M.set (tok - H0.length) (.hw ty (es.length + 1)), ?_, .inr ⟨by simp, tok, h2, rfl, ?_⟩, rfl, by simp⟩
  ·simp only [appendA,h4,List.length_cons,List.length_nil,Nat.zero_add]
   rw [if_pos ⟨trivial, trivial, hb, hb0, trivial⟩, List.set_append_right _ _ h2]
  ·rw [← List.set_append_right _ _ h2, List.getElem?_set_self hlt]
   simp
end Go.Abs
end
section
set_option linter.unusedVariables false
set_option linter.unusedSimpArgs false
namespace Go.Abs
def Hold (tB : TypeId) (tb : TypeId) (n : Nat) (H : Heap) (id : Nat) (txt : List UInt8) : Prop :=
 ∃ a0 v, H[id]? = some (.obj (some (tB, 2)) [[a0, v]]) ∧ (a0 = .im .nilp ∨ a0 = .ptr id 0 0) ∧ Gath tb 1 n v H (txt.map fun b => [byteDat b]) ∧ n ≤ H.length
def Keeps (n id : Nat) (H H' : Heap) : Prop := H.length ≤ H'.length ∧ (∀ i ty es, i ≠ id → H[i]? = some (.obj ty es) → H'[i]? = some (.obj ty es)) ∧ ∀ i, i < n → i < H.length → i ≠ id → H'[i]? = H[i]?
theorem Keeps.refl (n id : Nat) (H : Heap) : Keeps n id H H := ⟨Nat.le_refl _, fun _ _ _ _ h => h, fun _ _ _ _ => rfl⟩
theorem Keeps.trans {n id : Nat} {A B C : Heap} (h : Keeps n id A B) (k : Keeps n id B C) : Keeps n id A C :=
 ⟨Nat.le_trans h.1 k.1, fun i ty es hi hA => k.2.1 i ty es hi (h.2.1 i ty es hi hA), fun i hn hl hi => (k.2.2 i hn (Nat.lt_of_lt_of_le hl h.1) hi).trans (h.2.2 i hn hl hi)⟩
theorem Keeps.app {n id : Nat} {A B : Heap} (h : Keeps n id A B) (M : Heap) : Keeps n id A (B ++ M) :=
 ⟨by simp; have := h.1; omega, fun i ty es hi hA => by
  have := h.2.1 i ty es hi hA
  rw [List.getElem?_append_left (List.getElem?_eq_some_iff.1 this).1]; exact this, fun i hn hl hi => by
  rw [List.getElem?_append_left (by have := h.1; omega)]; exact h.2.2 i hn hl hi⟩
theorem Keeps.down {n id : Nat} {A M B : Heap} (h : Keeps n id (A ++ M) B) : Keeps n id A B :=
 ⟨by have := h.1; simp at this; omega, fun i ty es hi hA => h.2.1 i ty es hi (by rw [List.getElem?_append_left (List.getElem?_eq_some_iff.1 hA).1]; exact hA), fun i hn hl hi => by
  rw [h.2.2 i hn (by simp; omega) hi, List.getElem?_append_left hl]⟩
theorem Hold.more {tB tb : TypeId} {n : Nat} {H : Heap} {id : Nat} {txt : List UInt8} (h : Hold tB tb n H id txt) (M : Heap) : Hold tB tb n (H ++ M) id txt := by
 obtain ⟨a0, v, h1, h2, h3, h4⟩ := h
 exact ⟨a0, v, by rw [List.getElem?_append_left (List.getElem?_eq_some_iff.1 h1).1]; exact h1, h2, h3.more M, by simp; omega⟩
end Go.Abs
namespace Go.Abs
theorem Gath.set_obj {ty : TypeId} {s n : Nat} {v : AV} {H : Heap} {es : List (List Dat)} (h : Gath ty s n v H es) {id : Nat} {t : Option (TypeId × Nat)} {xs : List (List AV)} (hid : H[id]? = some (HO.obj t xs)) (x : HO) : Gath ty s n v (H.set id x) es := by
 rcases h with h | ⟨h1, tok, h2, h3, h4⟩
 ·exact .inl h
 ·refine .inr ⟨h1, tok, h2, h3, ?_⟩
  have : id ≠ tok := fun e => by subst e; rw [hid] at h4; simp at h4
  rw [List.getElem?_set_ne this]; exact h4
theorem Keeps.set {n id : Nat} {A B : Heap} (h : Keeps n id A B) (x : HO) : Keeps n id A (B.set id x) :=
 ⟨by simpa using h.1, fun i ty es hi hA => by
  rw [List.getElem?_set_ne (fun e => hi e.symm)]; exact h.2.1 i ty es hi hA, fun i hn hl hi => by
  rw [List.getElem?_set_ne (fun e => hi e.symm)]; exact h.2.2 i hn hl hi⟩
end Go.Abs
namespace Go.Abs
theorem thenL_ex {R : Type} {o : Option Out} {K : AEx → List AV → Heap → Option R} {Q : AEx → List AV → Heap → Prop} (G : Option R → Prop) (h : ∃ e tm H, o = some (e, tm, H) ∧ Q e tm H) (hK : ∀ e tm H, Q e tm H → G (K e tm H)) : G (thenL o K) := by
 obtain ⟨e, tm, H, rfl, hq⟩ := h
 exact hK e tm H hq
end Go.Abs
end
section
set_option linter.unusedVariables false
set_option linter.unusedSimpArgs false
namespace Go.Abs
mutual
def sh (n : Nat) : AV → AV
 | .im d => .im d
 | .nils => .nils
 | .asl s es tok => .asl s es (n + tok)
 | .ms s id off k => .ms s (n + id) off k
 | .ptr id i j => .ptr (n + id) i j
 | .agg cs => .agg (shs n cs)
 | .tup cs => .tup (shs n cs)
 | .clo f cs => .clo f (shs n cs)
 | .any => .any
def shs (n : Nat) : List AV → List AV
 | [] => []
 | a :: l => sh n a :: shs n l
end
theorem shs_map (n : Nat) : ∀ l : List AV, shs n l = l.map (sh n)
 | [] => rfl
 | a :: l => by simp only [shs,List.map_cons,shs_map n l]
def shO (n : Nat) : HO → HO
 | .obj t es => .obj t (es.map fun e => e.map (sh n))
 | .hw t k => .hw t k
def shH (n : Nat) (H : Heap) : Heap := H.map (shO n)
mutual
def closedA : AV → Bool
 | .im _ => true
 | .nils => true
 | .asl .. => false
 | .ms .. => false
 | .ptr .. => false
 | .agg cs => closedAs cs
 | .tup cs => closedAs cs
 | .clo _ cs => closedAs cs
 | .any => true
def closedAs : List AV → Bool
 | [] => true
 | a :: l => closedA a && closedAs l
end
section
variable {n : Nat}
mutual
theorem sh_closed : ∀ {a : AV}, closedA a = true → sh n a = a
 | .im _, _ => rfl
 | .nils, _ => rfl
 | .agg cs, h => by simp only [closedA] at h; simp only [sh,shs_closed h]
 | .tup cs, h => by simp only [closedA] at h; simp only [sh,shs_closed h]
 | .clo f cs, h => by simp only [closedA] at h; simp only [sh,shs_closed h]
 | .any, _ => rfl
theorem shs_closed : ∀ {l : List AV}, closedAs l = true → shs n l = l
 | [], _ => rfl
 | a :: l, h => by
  simp only [closedAs,Bool.and_eq_true] at h
  simp only [shs,sh_closed h.1,shs_closed h.2]
end
theorem sh_cells (a : AV) : cellsOf (sh n a) = (cellsOf a).map (sh n) := by
 cases a <;> simp [sh, cellsOf, shs_map]
 rename_i d
 cases d <;> simp [sh]
theorem sh_cellOk (a : AV) : cellOk (sh n a) = cellOk a := by
 cases a <;> simp [sh, cellOk]
theorem sh_toIms : ∀ cs : List AV, toIms (cs.map (sh n)) = toIms cs
 | [] => rfl
 | a :: l => by
  have ih := sh_toIms l
  cases a <;> simp [sh, toIms, ih]
theorem sh_mkAgg (cs : List AV) : mkAgg (cs.map (sh n)) = sh n (mkAgg cs) := by
 unfold mkAgg
 rw [sh_toIms]
 cases toIms cs <;> simp [sh, shs_map]
mutual
theorem sh_toDat : ∀ a : AV, toDat (sh n a) = toDat a
 | .im d => rfl
 | .nils => rfl
 | .asl .. => rfl
 | .ms .. => rfl
 | .ptr .. => rfl
 | .agg cs => by simp only [sh,toDat,sh_toDats cs]
 | .tup cs => rfl
 | .clo f cs => rfl
 | .any => rfl
theorem sh_toDats : ∀ l : List AV, toDats (shs n l) = toDats l
 | [] => rfl
 | a :: l => by simp only [shs,toDats,sh_toDat a,sh_toDats l]
end
theorem sh_toDatss : ∀ l : List (List AV), toDatss (l.map fun e => e.map (sh n)) = toDatss l
 | [] => rfl
 | a :: l => by
  have := sh_toDats (n := n) a
  rw [shs_map] at this
  simp only [List.map_cons,toDatss,this,sh_toDatss l]
theorem all_cellOk (l : List AV) : (l.map (sh n)).all cellOk = l.all cellOk := by
 rw [List.all_map]
 congr 1
 funext a
 exact sh_cellOk a
variable {H0 H : Heap}
theorem shH_get (hn : n = H0.length) (id : Nat) : (H0 ++ shH n H)[n + id]? = (H[id]?).map (shO n) := by
 subst hn
 rw [hget]
 simp [shH]
theorem shH_set (hn : n = H0.length) (id : Nat) (o : HO) : (H0 ++ shH n H).set (n + id) (shO n o) = H0 ++ shH n (H.set id o) := by
 subst hn
 rw [hset]
 simp [shH]
theorem shH_app (o : HO) : H0 ++ shH n H ++ [shO n o] = H0 ++ shH n (H ++ [o]) := by
 simp [shH]
theorem shH_len (hn : n = H0.length) : (H0 ++ shH n H).length = n + H.length := by
 simp [shH, hn]
theorem map_setAt : ∀ (e : List AV) (j : Nat) (cs : List AV), (setAt e j cs).map (sh n) = setAt (e.map (sh n)) j (cs.map (sh n))
 | e, j, [] => rfl
 | e, j, c :: cs => by
  simp only [setAt,List.map_cons]
  rw [map_setAt (e.set j c) (j + 1) cs, List.map_set]
theorem sh_load (hn : n = H0.length) {k : Option Nat} {a v : AV} (h : loadAt H k a = some v) : loadAt (H0 ++ shH n H) k (sh n a) = some (sh n v) := by
 unfold loadAt at h
 split at h
 ·rename_i cs
  simp only [sh,loadAt]
  split at h
  ·split at h
   ·rename_i d hd
    injection h with h; subst h
    first | rfl | (rw [hd]; rfl)
   ·simp at h
  ·split at h
   ·rename_i hk
    rw [if_pos hk]
    injection h with h; subst h
    rfl
   ·simp at h
 ·rename_i id i j
  simp only [sh,loadAt,shH_get hn]
  split at h
  ·rename_i ty es he
   rw [he]
   simp only [Option.map_some,shO]
   split at h
   ·rename_i e hi
    rw [List.getElem?_map, hi]
    simp only [Option.map_some]
    split at h
    ·rw [List.getElem?_map, h]; rfl
    ·split at h
     ·rename_i hk
      rw [List.length_map, if_pos hk]
      injection h with h; subst h
      rw [← List.map_drop, ← List.map_take, sh_mkAgg]
     ·simp at h
   ·simp at h
  ·simp at h
 ·simp at h
theorem sh_store (hn : n = H0.length) {k : Nat} {a v : AV} {H' : Heap} (h : storeAt H k a v = some H') : storeAt (H0 ++ shH n H) k (sh n a) (sh n v) = some (H0 ++ shH n H') := by
 unfold storeAt at h
 split at h
 ·rename_i id i j
  simp only [sh,storeAt,shH_get hn]
  split at h
  ·rename_i ty es he
   rw [he]
   simp only [Option.map_some,shO]
   split at h
   ·rename_i e hi
    rw [List.getElem?_map, hi]
    simp only [Option.map_some]
    simp only at h
    split at h
    ·rename_i hc
     injection h with h; subst h
     rw [sh_cells, if_pos (by rw [List.length_map, List.length_map, all_cellOk]; exact hc)]
     rw [← shH_set hn]
     simp only [shO,List.map_set,map_setAt]
    ·simp at h
   ·simp at h
  ·simp at h
 ·simp at h
theorem sh_elems (hn : n = H0.length) {s : Nat} {a : AV} {ys : List (List Dat)} (h : elems H s a = some ys) : elems (H0 ++ shH n H) s (sh n a) = some ys := by
 unfold elems at h
 split at h
 ·exact h
 ·exact h
 ·exact h
 ·exact h
 ·rename_i s' id off k
  simp only [sh,elems,shH_get hn]
  split at h
  ·rename_i hs
   rw [if_pos hs]
   split at h
   ·rename_i ty es he
    rw [he]
    simp only [Option.map_some,shO,List.length_map]
    split at h
    ·rename_i hk
     rw [if_pos hk, ← List.map_drop, ← List.map_take, sh_toDatss]
     exact h
    ·simp at h
   ·simp at h
  ·simp at h
 ·simp at h
theorem sh_append (hn : n = H0.length) {ty : TypeId} {bytes s : Nat} {a v : AV} {ys : List (List Dat)} {H' : Heap} (h : appendA H ty bytes s a ys = some (v, H')) : appendA (H0 ++ shH n H) ty bytes s (sh n a) ys = some (sh n v, H0 ++ shH n H') := by
 unfold appendA at h
 split at h
 ·simp only [sh,appendA]
  split at h
  ·simp only [Option.some.injEq,Prod.mk.injEq] at h
   obtain ⟨rfl, rfl⟩ := h
   rfl
  ·split at h
   ·rename_i hc
    simp only [Option.some.injEq,Prod.mk.injEq] at h
    obtain ⟨rfl, rfl⟩ := h
    rw [if_pos hc, shH_len hn, ← shH_app]
    rfl
   ·simp at h
 ·rename_i s' es tok
  simp only [sh,appendA,shH_get hn]
  split at h
  ·rename_i ty' k he
   rw [he]
   simp only [Option.map_some,shO]
   split at h
   ·rename_i hc
    simp only [Option.some.injEq,Prod.mk.injEq] at h
    obtain ⟨rfl, rfl⟩ := h
    rw [if_pos hc, ← shH_set hn]
    rfl
   ·simp at h
  ·simp at h
 ·simp at h
theorem sh_fillA : ∀ {parts : List (Nat × Nat × AV)} {cells cs : List AV}, fillA cells parts = some cs → fillA (cells.map (sh n)) (parts.map fun p => (p.1, p.2.1, sh n p.2.2)) = some (cs.map (sh n))
 | [], cells, cs, h => by
  simp only [fillA] at h
  injection h with h; subst h
  rfl
 |(off, size, v) :: rest, cells, cs, h => by
  simp only [fillA] at h
  split at h
  ·rename_i hc
   simp only [List.map_cons,fillA,sh_cells]
   rw [if_pos (by rw [List.length_map, List.length_map, all_cellOk]; exact hc), ← map_setAt]
   exact sh_fillA h
  ·simp at h
theorem sh_fillE {s : Nat} : ∀ {parts : List (Nat × AV)} {es cs : List (List AV)}, fillE s es parts = some cs → fillE s (es.map fun e => e.map (sh n)) (parts.map fun p => (p.1, sh n p.2)) = some (cs.map fun e => e.map (sh n))
 | [], es, cs, h => by
  simp only [fillE] at h
  injection h with h; subst h
  rfl
 |(i, v) :: rest, es, cs, h => by
  simp only [fillE] at h
  split at h
  ·rename_i hc
   simp only [List.map_cons,fillE,sh_cells]
   rw [if_pos (by rw [List.length_map, List.length_map, all_cellOk]; exact hc)]
   have := sh_fillE h
   rwa [List.map_set] at this
  ·simp at h
theorem sh_part {k : Option Nat} {cs : List AV} {off : Nat} {v : AV} (h : partA k cs off = some v) : partA k (cs.map (sh n)) off = some (sh n v) := by
 cases k with
 | none =>
  simp only [partA] at h ⊢
  rw [List.getElem?_map, h]; rfl
 | some m =>
  simp only [partA] at h ⊢
  split at h
  ·rename_i hc
   injection h with h; subst h
   rw [List.length_map, if_pos hc, ← List.map_drop, ← List.map_take, sh_mkAgg]
  ·simp at h
theorem sh_aggCells {a : AV} {cs : List AV} (h : aggCells a = some cs) : aggCells (sh n a) = some (cs.map (sh n)) := by
 unfold aggCells at h
 split at h
 ·injection h with h; subst h
  simp [sh, aggCells]
 ·injection h with h; subst h
  simp [sh, aggCells, shs_map]
 ·simp at h
theorem sh_bin {op : BinOp} {a b v : AV} (h : binA op a b = some v) : binA op (sh n a) (sh n b) = some (sh n v) := by
 have hv : sh n v = v ∧ sh n a = a ∧ sh n b = b := by
  unfold binA at h
  split at h
  ·refine ⟨?_, rfl, rfl⟩
   repeat' (split at h)
   all_goals first | (injection h with h; subst h; rfl) | (simp at h)
  ·refine ⟨?_, rfl, rfl⟩
   repeat' (split at h)
   all_goals first | (injection h with h; subst h; rfl) | (simp at h)
  ·refine ⟨?_, rfl, rfl⟩
   repeat' (split at h)
   all_goals first | (injection h with h; subst h; rfl) | (simp at h)
  ·refine ⟨?_, rfl, rfl⟩
   repeat' (split at h)
   all_goals first | (injection h with h; subst h; rfl) | (simp at h)
  ·simp at h
 rw [hv.1, hv.2.1, hv.2.2]; exact h
theorem sh_int (a : AV) : intOfA (sh n a) = intOfA a := by
 cases a <;> rfl
theorem sh_idx (a : AV) (k : Nat) : idx (sh n a) k = idx a k := by
 unfold idx
 rw [sh_int]
theorem sh_bool {op : BinOp} {a b v : AV} (h : binBool op a b = some v) : binBool op (sh n a) (sh n b) = some (sh n v) := by
 have hv : sh n v = v ∧ sh n a = a ∧ sh n b = b := by
  unfold binBool at h
  split at h
  ·refine ⟨?_, rfl, rfl⟩
   split at h
   all_goals first | (injection h with h; subst h; rfl) | (simp at h)
  ·simp at h
 rw [hv.1, hv.2.1, hv.2.2]; exact h
theorem sh_un {op : UnOp} {a v : AV} (h : unA op a = some v) : unA op (sh n a) = some (sh n v) := by
 have hv : sh n v = v ∧ sh n a = a := by
  unfold unA at h
  split at h
  all_goals first
   |(refine ⟨?_, rfl⟩
     repeat' (split at h)
     all_goals first | (injection h with h; subst h; rfl) | (simp at h))
   |(simp at h)
 rw [hv.1, hv.2]; exact h
theorem sh_min {a b v : AV} (h : minA a b = some v) : minA (sh n a) (sh n b) = some (sh n v) := by
 unfold minA at h
 split at h
 ·injection h with h; subst h; rfl
 ·simp at h
theorem sh_max {a b v : AV} (h : maxA a b = some v) : maxA (sh n a) (sh n b) = some (sh n v) := by
 unfold maxA at h
 split at h
 ·injection h with h; subst h; rfl
 ·simp at h
theorem sh_bound {ρ : AOpd → AV} (d : Nat) (x : Option AOpd) : boundA (fun x => sh n (ρ x)) d x = boundA ρ d x := by
 cases x with
 | none => rfl
 | some x => simp only [boundA,sh_int]
theorem sh_slice {s : Nat} {x v : AV} {lo : Nat} {hi : Nat → Option Nat} {mx : Option (Option Nat)} (h : sliceA s x lo hi mx = some v) : sliceA s (sh n x) lo hi mx = some (sh n v) := by
 unfold sliceA at h
 split at h
 all_goals first
  |(simp only [sh,sliceA]
    repeat' (split at h)
    all_goals first
     |(injection h with h; subst h; simp_all [sh])
     |(simp at h))
  |(simp at h)
theorem sh_len (a : AV) : lenA (sh n a) = lenA a := by
 cases a <;> rfl
end
end Go.Abs
end
section
set_option linter.unusedVariables false
set_option linter.unusedSimpArgs false
namespace Go.Abs
def closedOpd : AOpd → Bool
 | .t _ => true
 | .c a => closedA a
def closedOp (op : AOp) : Bool := (opnds op).all closedOpd && match op with
 | .alloc _ z => closedAs z
 | .build z _ => closedAs z
 | .bslice _ _ _ z _ => closedAs z
 | .mkslice _ _ z _ _ => closedAs z
 | .clear _ z _ => closedAs z
 | _ => true
section
variable {n : Nat} {H0 H : Heap}
theorem map_closed {z : List AV} (h : closedAs z = true) : z.map (sh n) = z := by
 rw [← shs_map, shs_closed h]
theorem aop_sh (hn : n = H0.length) {ρ : AOpd → AV} {op : AOp} (hc : closedOp op = true) {v : AV} {H' : Heap} (h : aop H ρ op = some (v, H')) :
  aop (H0 ++ shH n H) (fun x => sh n (ρ x)) op = some (sh n v, H0 ++ shH n H') := by
 unfold closedOp at hc
 rw [Bool.and_eq_true] at hc
 have hz := hc.2
 cases op <;> simp only [aop] at h ⊢ <;> simp only at hz
 case move x => simp only [Option.some.injEq,Prod.mk.injEq] at h; obtain ⟨rfl, rfl⟩ := h; rfl
 case pick c a b =>
  cases hcc : ρ c <;> rw [hcc] at h <;> try (simp at h; done)
  rename_i d
  cases d <;> try (simp at h; done)
  simp only [sh] at h ⊢
  split at h <;> simp_all
 case alloc ty z =>
  simp only [Option.some.injEq,Prod.mk.injEq] at h
  obtain ⟨rfl, rfl⟩ := h
  rw [shH_len hn, ← shH_app]
  simp [sh, shO, map_closed hz]
 case box ty x =>
  split at h
  ·rename_i hk
   simp only [Option.some.injEq,Prod.mk.injEq] at h
   obtain ⟨rfl, rfl⟩ := h
   rw [sh_cells, all_cellOk, if_pos hk, shH_len hn, ← shH_app]
   simp [sh, shO]
  ·simp at h
 case build z parts =>
  split at h
  ·rename_i cs hf
   simp only [Option.some.injEq,Prod.mk.injEq] at h
   obtain ⟨rfl, rfl⟩ := h
   have := sh_fillA (n := n) hf
   rw [map_closed hz, List.map_map] at this
   have e : (parts.map fun p => (p.1, p.2.1, sh n (ρ p.2.2))) = parts.map ((fun p => (p.1, p.2.1, sh n p.2.2)) ∘ fun p => (p.1, p.2.1, ρ p.2.2)) := rfl
   rw [e, this]
   simp only [sh_mkAgg]
  ·simp at h
 case bslice mu s k z parts =>
  split at h
  ·rename_i es hf
   have := sh_fillE (n := n) hf
   rw [List.map_map, List.map_replicate, map_closed hz] at this
   have e : (parts.map fun p => (p.1, sh n (ρ p.2))) = parts.map ((fun p => (p.1, sh n p.2)) ∘ fun p => (p.1, ρ p.2)) := rfl
   rw [e, this]
   simp only
   split at h
   ·rename_i hm
    simp only [Option.some.injEq,Prod.mk.injEq] at h
    obtain ⟨rfl, rfl⟩ := h
    rw [if_pos hm, shH_len hn, ← shH_app]
    simp [sh, shO]
   ·rename_i hm
    rw [if_neg hm, sh_toDatss]
    split at h
    ·rename_i ds hd
     simp only [Option.some.injEq,Prod.mk.injEq] at h
     obtain ⟨rfl, rfl⟩ := h
     first | rfl | (rw [hd]; rfl)
    ·simp at h
  ·simp at h
 case load k x =>
  split at h
  ·rename_i u hl
   simp only [Option.some.injEq,Prod.mk.injEq] at h
   obtain ⟨rfl, rfl⟩ := h
   rw [sh_load hn hl]
  ·simp at h
 case store k x v =>
  split at h
  ·rename_i u hl
   simp only [Option.some.injEq,Prod.mk.injEq] at h
   obtain ⟨rfl, rfl⟩ := h
   rw [sh_store hn hl]
   rfl
  ·simp at h
 case nilCheck x =>
  split at h
  all_goals first
   |(rename_i hx
     simp only [Option.some.injEq,Prod.mk.injEq] at h
     obtain ⟨rfl, rfl⟩ := h
     rw [hx]; rfl)
   |(simp at h)
 case bin op x y =>
  split at h
  ·rename_i u hl
   simp only [Option.some.injEq,Prod.mk.injEq] at h
   obtain ⟨rfl, rfl⟩ := h
   rw [sh_bin hl]
  ·simp at h
 case binB op x y =>
  split at h
  ·rename_i u hl
   simp only [Option.some.injEq,Prod.mk.injEq] at h
   obtain ⟨rfl, rfl⟩ := h
   rw [sh_bool hl]
  ·simp at h
 case un op x =>
  split at h
  ·rename_i u hl
   simp only [Option.some.injEq,Prod.mk.injEq] at h
   obtain ⟨rfl, rfl⟩ := h
   rw [sh_un hl]
  ·simp at h
 case min x y =>
  split at h
  ·rename_i u hl
   simp only [Option.some.injEq,Prod.mk.injEq] at h
   obtain ⟨rfl, rfl⟩ := h
   rw [sh_min hl]
  ·simp at h
 case max x y =>
  split at h
  ·rename_i u hl
   simp only [Option.some.injEq,Prod.mk.injEq] at h
   obtain ⟨rfl, rfl⟩ := h
   rw [sh_max hl]
  ·simp at h
 case lenSl x =>
  split at h
  ·rename_i u hl
   simp only [Option.some.injEq,Prod.mk.injEq] at h
   obtain ⟨rfl, rfl⟩ := h
   rw [sh_len, hl]; rfl
  ·simp at h
 case mkfunc f cap =>
  simp only [Option.some.injEq,Prod.mk.injEq] at h
  obtain ⟨rfl, rfl⟩ := h
  simp [sh, shs_map]
 case append ty bytes s x y =>
  split at h
  ·rename_i ys hl
   rw [sh_elems hn hl]
   exact sh_append hn h
  ·simp at h
 case field off k x =>
  split at h
  ·rename_i cs hl
   rw [sh_aggCells hl]
   simp only
   split at h
   ·rename_i u hp
    simp only [Option.some.injEq,Prod.mk.injEq] at h
    obtain ⟨rfl, rfl⟩ := h
    rw [sh_part hp]
   ·simp at h
  ·simp at h
 case elemArr len size k x i =>
  split at h
  ·rename_i cs hl
   rw [sh_aggCells hl, sh_idx]
   simp only
   split at h
   ·rename_i m hm
    try rw [hm]
    try simp only
    split at h
    ·rename_i u hp
     simp only [Option.some.injEq,Prod.mk.injEq] at h
     obtain ⟨rfl, rfl⟩ := h
     rw [sh_part hp]
    ·simp at h
   ·simp at h
  ·simp at h
 case extract i x =>
  split at h
  ·rename_i cs hx
   split at h
   ·rename_i u hu
    simp only [Option.some.injEq,Prod.mk.injEq] at h
    obtain ⟨rfl, rfl⟩ := h
    rw [hx]
    simp only [sh,shs_map,List.getElem?_map,hu,Option.map_some]
   ·simp at h
  ·simp at h
 case slice s x lo hi mx =>
  have e : (fun m => boundA (fun x => sh n (ρ x)) m hi) = fun m => boundA ρ m hi := funext fun m => sh_bound m hi
  rw [sh_bound, e]
  cases mx with
  | none =>
   simp only at h ⊢
   split at h
   ·split at h
    ·rename_i u hu
     simp only [Option.some.injEq,Prod.mk.injEq] at h
     obtain ⟨rfl, rfl⟩ := h
     try simp only [*]
     rw [sh_slice hu]
    ·simp at h
   ·simp at h
  | some m =>
   simp only [sh_bound] at h ⊢
   split at h
   ·split at h
    ·rename_i u hu
     simp only [Option.some.injEq,Prod.mk.injEq] at h
     obtain ⟨rfl, rfl⟩ := h
     try simp only [*]
     rw [sh_slice hu]
    ·simp at h
   ·simp at h
 case mkslice bytes s z l c =>
  rw [sh_int, sh_int]
  split at h
  ·rename_i a b ha hb
   try rw [ha, hb]
   try simp only
   split at h
   ·rename_i hk
    simp only [Option.some.injEq,Prod.mk.injEq] at h
    obtain ⟨rfl, rfl⟩ := h
    rw [if_pos hk, shH_len hn, ← shH_app]
    simp [sh, shO, map_closed hz]
   ·simp at h
  ·simp at h
 case clear s z x =>
  cases hx : ρ x <;> rw [hx] at h <;> try (simp at h; done)
  ·rename_i d
   cases d <;> try (simp at h; done)
   rename_i s' es
   cases es <;> simp at h
   obtain ⟨rfl, rfl⟩ := h
   simp only [sh]
   rfl
  ·simp only [Option.some.injEq,Prod.mk.injEq] at h
   obtain ⟨rfl, rfl⟩ := h
   simp only [sh]
   rfl
  ·rename_i s' id off k
   simp only [sh,shH_get hn] at h ⊢
   split at h
   ·rename_i hs
    rw [if_pos hs]
    split at h
    ·rename_i ty es he
     rw [he]
     simp only [Option.map_some,shO,List.length_map]
     split at h
     ·rename_i hk
      simp only [Option.some.injEq,Prod.mk.injEq] at h
      obtain ⟨rfl, rfl⟩ := h
      rw [if_pos hk, ← shH_set hn]
      simp [shO, sh, undefA, shs, List.map_take, List.map_drop, map_closed hz]
     ·simp at h
    ·simp at h
   ·simp at h
 case fieldAddr off x =>
  split at h
  all_goals first
   |(rename_i hx
     simp only [Option.some.injEq,Prod.mk.injEq] at h
     obtain ⟨rfl, rfl⟩ := h
     rw [hx]; rfl)
   |(simp at h)
 case indexSl s x i =>
  cases hx : ρ x <;> rw [hx] at h <;> try (simp at h; done)
  ·rename_i d
   cases d <;> try (simp at h; done)
   simp only [sh,sh_idx] at h ⊢
   repeat' (split at h)
   all_goals first
    |(simp at h; done)
    |(simp only [Option.some.injEq,Prod.mk.injEq] at h
      obtain ⟨rfl, rfl⟩ := h
      simp_all [sh])
  ·simp only [sh,sh_idx] at h ⊢
   repeat' (split at h)
   all_goals first
    |(simp at h; done)
    |(simp only [Option.some.injEq,Prod.mk.injEq] at h
      obtain ⟨rfl, rfl⟩ := h
      simp_all [sh])
  ·simp only [sh,sh_idx] at h ⊢
   repeat' (split at h)
   all_goals first
    |(simp at h; done)
    |(simp only [Option.some.injEq,Prod.mk.injEq] at h
      obtain ⟨rfl, rfl⟩ := h
      simp_all [sh])
 case indexArr len size x i =>
  split at h
  ·rename_i id p j hx
   split at h
   ·rename_i m hm
    simp only [Option.some.injEq,Prod.mk.injEq] at h
    obtain ⟨rfl, rfl⟩ := h
    rw [hx]
    simp only [sh,sh_idx,hm]
   ·simp at h
  ·rename_i cs hx
   split at h
   ·rename_i m hm
    simp only [Option.some.injEq,Prod.mk.injEq] at h
    obtain ⟨rfl, rfl⟩ := h
    rw [hx]
    simp only [sh,sh_idx,hm]
   ·simp at h
  ·simp at h
 case indexStr x i =>
  cases hx : ρ x <;> rw [hx] at h <;> try (simp at h; done)
  all_goals
   first
   |(rename_i d
     cases d <;> try (simp at h; done)
     simp only [sh,sh_idx,sh_int,sh_bound] at h ⊢
     repeat' (split at h)
     all_goals first
      |(simp at h; done)
      |(simp only [Option.some.injEq,Prod.mk.injEq] at h
        obtain ⟨rfl, rfl⟩ := h
        simp_all [sh]))
   |(simp only [sh,sh_idx,sh_int,sh_bound] at h ⊢
     repeat' (split at h)
     all_goals first
      |(simp at h; done)
      |(simp only [Option.some.injEq,Prod.mk.injEq] at h
        obtain ⟨rfl, rfl⟩ := h
        simp_all [sh]))
 case i2i k x =>
  cases hx : ρ x <;> rw [hx] at h <;> try (simp at h; done)
  all_goals
   first
   |(rename_i d
     cases d <;> try (simp at h; done)
     simp only [sh,sh_idx,sh_int,sh_bound] at h ⊢
     repeat' (split at h)
     all_goals first
      |(simp at h; done)
      |(simp only [Option.some.injEq,Prod.mk.injEq] at h
        obtain ⟨rfl, rfl⟩ := h
        simp_all [sh]))
   |(simp only [sh,sh_idx,sh_int,sh_bound] at h ⊢
     repeat' (split at h)
     all_goals first
      |(simp at h; done)
      |(simp only [Option.some.injEq,Prod.mk.injEq] at h
        obtain ⟨rfl, rfl⟩ := h
        simp_all [sh]))
 case i2f k x =>
  cases hx : ρ x <;> rw [hx] at h <;> try (simp at h; done)
  all_goals
   first
   |(rename_i d
     cases d <;> try (simp at h; done)
     simp only [sh,sh_idx,sh_int,sh_bound] at h ⊢
     repeat' (split at h)
     all_goals first
      |(simp at h; done)
      |(simp only [Option.some.injEq,Prod.mk.injEq] at h
        obtain ⟨rfl, rfl⟩ := h
        simp_all [sh]))
   |(simp only [sh,sh_idx,sh_int,sh_bound] at h ⊢
     repeat' (split at h)
     all_goals first
      |(simp at h; done)
      |(simp only [Option.some.injEq,Prod.mk.injEq] at h
        obtain ⟨rfl, rfl⟩ := h
        simp_all [sh]))
 case f2i k x =>
  cases hx : ρ x <;> rw [hx] at h <;> try (simp at h; done)
  all_goals
   first
   |(rename_i d
     cases d <;> try (simp at h; done)
     simp only [sh,sh_idx,sh_int,sh_bound] at h ⊢
     repeat' (split at h)
     all_goals first
      |(simp at h; done)
      |(simp only [Option.some.injEq,Prod.mk.injEq] at h
        obtain ⟨rfl, rfl⟩ := h
        simp_all [sh]))
   |(simp only [sh,sh_idx,sh_int,sh_bound] at h ⊢
     repeat' (split at h)
     all_goals first
      |(simp at h; done)
      |(simp only [Option.some.injEq,Prod.mk.injEq] at h
        obtain ⟨rfl, rfl⟩ := h
        simp_all [sh]))
 case s2b x =>
  cases hx : ρ x <;> rw [hx] at h <;> try (simp at h; done)
  all_goals
   first
   |(rename_i d
     cases d <;> try (simp at h; done)
     simp only [sh,sh_idx,sh_int,sh_bound] at h ⊢
     repeat' (split at h)
     all_goals first
      |(simp at h; done)
      |(simp only [Option.some.injEq,Prod.mk.injEq] at h
        obtain ⟨rfl, rfl⟩ := h
        simp_all [sh]))
   |(simp only [sh,sh_idx,sh_int,sh_bound] at h ⊢
     repeat' (split at h)
     all_goals first
      |(simp at h; done)
      |(simp only [Option.some.injEq,Prod.mk.injEq] at h
        obtain ⟨rfl, rfl⟩ := h
        simp_all [sh]))
 case b2s x =>
  cases hx : ρ x <;> rw [hx] at h <;> try (simp at h; done)
  all_goals
   first
   |(rename_i d
     cases d <;> try (simp at h; done)
     simp only [sh,sh_idx,sh_int,sh_bound] at h ⊢
     repeat' (split at h)
     all_goals first
      |(simp at h; done)
      |(simp only [Option.some.injEq,Prod.mk.injEq] at h
        obtain ⟨rfl, rfl⟩ := h
        simp_all [sh]))
   |(simp only [sh,sh_idx,sh_int,sh_bound] at h ⊢
     repeat' (split at h)
     all_goals first
      |(simp at h; done)
      |(simp only [Option.some.injEq,Prod.mk.injEq] at h
        obtain ⟨rfl, rfl⟩ := h
        simp_all [sh]))
 case strId x =>
  cases hx : ρ x <;> rw [hx] at h <;> try (simp at h; done)
  all_goals
   first
   |(rename_i d
     cases d <;> try (simp at h; done)
     simp only [sh,sh_idx,sh_int,sh_bound] at h ⊢
     repeat' (split at h)
     all_goals first
      |(simp at h; done)
      |(simp only [Option.some.injEq,Prod.mk.injEq] at h
        obtain ⟨rfl, rfl⟩ := h
        simp_all [sh]))
   |(simp only [sh,sh_idx,sh_int,sh_bound] at h ⊢
     repeat' (split at h)
     all_goals first
      |(simp at h; done)
      |(simp only [Option.some.injEq,Prod.mk.injEq] at h
        obtain ⟨rfl, rfl⟩ := h
        simp_all [sh]))
 case sliceStr x lo hi =>
  cases hx : ρ x <;> rw [hx] at h <;> try (simp at h; done)
  all_goals
   first
   |(rename_i d
     cases d <;> try (simp at h; done)
     simp only [sh,sh_idx,sh_int,sh_bound] at h ⊢
     repeat' (split at h)
     all_goals first
      |(simp at h; done)
      |(simp only [Option.some.injEq,Prod.mk.injEq] at h
        obtain ⟨rfl, rfl⟩ := h
        simp_all [sh]))
   |(simp only [sh,sh_idx,sh_int,sh_bound] at h ⊢
     repeat' (split at h)
     all_goals first
      |(simp at h; done)
      |(simp only [Option.some.injEq,Prod.mk.injEq] at h
        obtain ⟨rfl, rfl⟩ := h
        simp_all [sh]))
 case lenStr x =>
  cases hx : ρ x <;> rw [hx] at h <;> try (simp at h; done)
  all_goals
   first
   |(rename_i d
     cases d <;> try (simp at h; done)
     simp only [sh,sh_idx,sh_int,sh_bound] at h ⊢
     repeat' (split at h)
     all_goals first
      |(simp at h; done)
      |(simp only [Option.some.injEq,Prod.mk.injEq] at h
        obtain ⟨rfl, rfl⟩ := h
        simp_all [sh]))
   |(simp only [sh,sh_idx,sh_int,sh_bound] at h ⊢
     repeat' (split at h)
     all_goals first
      |(simp at h; done)
      |(simp only [Option.some.injEq,Prod.mk.injEq] at h
        obtain ⟨rfl, rfl⟩ := h
        simp_all [sh]))
 case real x =>
  cases hx : ρ x <;> rw [hx] at h <;> try (simp at h; done)
  all_goals
   first
   |(rename_i d
     cases d <;> try (simp at h; done)
     simp only [sh,sh_idx,sh_int,sh_bound] at h ⊢
     repeat' (split at h)
     all_goals first
      |(simp at h; done)
      |(simp only [Option.some.injEq,Prod.mk.injEq] at h
        obtain ⟨rfl, rfl⟩ := h
        simp_all [sh]))
   |(simp only [sh,sh_idx,sh_int,sh_bound] at h ⊢
     repeat' (split at h)
     all_goals first
      |(simp at h; done)
      |(simp only [Option.some.injEq,Prod.mk.injEq] at h
        obtain ⟨rfl, rfl⟩ := h
        simp_all [sh]))
 case imag x =>
  cases hx : ρ x <;> rw [hx] at h <;> try (simp at h; done)
  all_goals
   first
   |(rename_i d
     cases d <;> try (simp at h; done)
     simp only [sh,sh_idx,sh_int,sh_bound] at h ⊢
     repeat' (split at h)
     all_goals first
      |(simp at h; done)
      |(simp only [Option.some.injEq,Prod.mk.injEq] at h
        obtain ⟨rfl, rfl⟩ := h
        simp_all [sh]))
   |(simp only [sh,sh_idx,sh_int,sh_bound] at h ⊢
     repeat' (split at h)
     all_goals first
      |(simp at h; done)
      |(simp only [Option.some.injEq,Prod.mk.injEq] at h
        obtain ⟨rfl, rfl⟩ := h
        simp_all [sh]))
 case complex x y =>
  split at h
  ·rename_i hx hy
   rw [hx, hy]
   simp only [sh]
   split at h
   ·simp only [Option.some.injEq,Prod.mk.injEq] at h
    obtain ⟨rfl, rfl⟩ := h
    simp_all [sh]
   ·simp at h
  ·simp at h
 all_goals simp at h
end
end Go.Abs
end
section
set_option linter.unusedVariables false
set_option linter.unusedSimpArgs false
namespace Go.Abs
section
variable {n : Nat} {H0 : Heap}
theorem sh_load_eq (hn : n = H0.length) {H : Heap} {k : Option Nat} {a : AV} : loadAt (H0 ++ shH n H) k (sh n a) = (loadAt H k a).map (sh n) := by
 cases h : loadAt H k a with
 | some v => rw [sh_load hn h]; rfl
 | none =>
  rw [Option.map_none]
  cases a with
  | im d =>
   have : loadAt (H0 ++ shH n H) k (.im d) = loadAt H k (.im d) := by cases d <;> rfl
   simp only [sh]
   rw [this]; exact h
  | ptr id i j =>
   simp only [sh,loadAt,shH_get hn] at h ⊢
   cases hid : H[id]? with
   | none => rfl
   | some o =>
    rw [hid] at h
    cases o with
    | hw t m => rfl
    | obj ty es =>
     simp only [Option.map_some,shO,List.getElem?_map] at h ⊢
     cases he : es[i]? with
     | none => rfl
     | some e =>
      rw [he] at h
      simp only [Option.map_some] at h ⊢
      cases k with
      | none =>
       simp only at h ⊢
       rw [List.getElem?_map, h]; rfl
      | some m =>
       simp only [List.length_map] at h ⊢
       split at h
       ·simp at h
       ·rename_i hk
        rw [if_neg hk]
  | nils => rfl
  | asl s es t => rfl
  | ms s id o m => rfl
  | agg cs => rfl
  | tup cs => rfl
  | clo f cs => rfl
  | any => rfl
theorem ev_sh {tm : List AV} {x : AOpd} (h : closedOpd x = true) : ev (tm.map (sh n)) x = sh n (ev tm x) := by
 cases x with
 | t k =>
  simp only [ev,List.getD_eq_getElem?_getD,List.getElem?_map]
  cases tm[k]? with
  | none => simp [undefA, sh, shs]
  | some a => rfl
 | c a => simp only [ev]; exact (sh_closed h).symm
theorem wanted_sh {tm : List AV} (g : Option (Nat × Bool)) : wantedA (tm.map (sh n)) g = wantedA tm g := by
 cases g with
 | none => rfl
 | some p =>
  obtain ⟨d, b⟩ := p
  simp only [wantedA,List.getElem?_map]
  cases tm[d]? with
  | none => rfl
  | some a =>
   simp only [Option.map_some]
   cases a with
   | tup cs => cases cs <;> rfl
   | im d => rfl
   | nils => rfl
   | asl s es t => rfl
   | ms s id o m => rfl
   | agg cs => rfl
   | ptr i j k => rfl
   | clo f cs => rfl
   | any => rfl
theorem put_sh (tm : List AV) (d : Option Nat) (v : AV) : putA (tm.map (sh n)) d (sh n v) = (putA tm d v).map (sh n) := by
 cases d with
 | none => rfl
 | some d => simp only [putA,List.map_set]
def ShO (n : Nat) (H0 : Heap) (Φ Φ' : Oracle) : Prop := ∀ f args H v H', Φ f args H = some (v, H') → Φ' f (args.map (sh n)) (H0 ++ shH n H) = some (sh n v, H0 ++ shH n H')
theorem aopc_sh (hn : n = H0.length) {Φ Φ' : Oracle} (hΦ : ShO n H0 Φ Φ') {H : Heap} {tm : List AV} {op : AOp} (hc : closedOp op = true) {v : AV} {H' : Heap} (h : aopc Φ H tm op = some (v, H')) :
  aopc Φ' (H0 ++ shH n H) (tm.map (sh n)) op = some (sh n v, H0 ++ shH n H') := by
 have hop : ∀ x ∈ opnds op, closedOpd x = true := by
  unfold closedOp at hc
  rw [Bool.and_eq_true] at hc
  exact fun x hx => List.all_eq_true.1 hc.1 x hx
 by_cases hcall : ∃ f args, op = .call f args
 ·obtain ⟨f, args, rfl⟩ := hcall
  simp only [aopc] at h ⊢
  have hf := ev_sh (n := n) (tm := tm) (hop f (by simp [opnds]))
  have ha : args.map (ev (tm.map (sh n))) = (args.map (ev tm)).map (sh n) := by
   rw [List.map_map]
   exact List.map_congr_left fun x hx => ev_sh (hop x (by simp [opnds, hx]))
  rw [hf]
  split at h
  ·rename_i g cap hg
   rw [hg]
   simp only [sh,shs_map]
   rw [ha, ← List.map_append]
   exact hΦ _ _ _ _ _ h
  ·simp at h
 ·have e1 : ∀ Φ H tm, aopc Φ H tm op = aop H (ev tm) op := by
   intro Φ H tm
   cases op <;> first | rfl | (exact absurd ⟨_, _, rfl⟩ hcall)
  rw [e1] at h ⊢
  rw [aop_congr (ρ' := fun x => sh n (ev tm x)) _ (fun x hx => ev_sh (hop x hx))]
  exact aop_sh hn hc h
def closedOps (l : List AOper) : Bool := l.all fun o => closedOp o.op
def s2 (n : Nat) (H0 : Heap) (p : List AV × Heap) : List AV × Heap := (p.1.map (sh n), H0 ++ shH n p.2)
theorem xops_sh (hn : n = H0.length) {Φ Φ' : Oracle} (hΦ : ShO n H0 Φ Φ') {R : Type} {K : List (List AV × Heap) → List AV → Heap → Option R} {x : R} :
  ∀ {l : List AOper} {tr : List (List AV × Heap)} {tm : List AV} {H : Heap}, closedOps l = true → xops Φ l tr tm H K = some x →
  ∃ tr' tm' H', K tr' tm' H' = some x ∧ ∀ {R' : Type} (K' : List (List AV × Heap) → List AV → Heap → Option R'), xops Φ' l (tr.map (s2 n H0)) (tm.map (sh n)) (H0 ++ shH n H) K' = K' (tr'.map (s2 n H0)) (tm'.map (sh n)) (H0 ++ shH n H')
 | [], tr, tm, H, _, h => by
  simp only [xops] at h
  exact ⟨tr, tm, H, h, fun K' => by simp only [xops]⟩
 | o :: l, tr, tm, H, hc, h => by
  simp only [closedOps,List.all_cons,Bool.and_eq_true] at hc
  simp only [xops] at h
  split at h
  ·rename_i hw
   split at h
   ·rename_i v H1 hv
    obtain ⟨tr', tm', H', h1, h2⟩ := xops_sh hn hΦ hc.2 h
    refine ⟨tr', tm', H', h1, fun K' => ?_⟩
    simp only [xops,wanted_sh,hw,aopc_sh hn hΦ hc.1 hv,put_sh]
    exact h2 K'
   ·simp at h
  ·rename_i hw
   obtain ⟨tr', tm', H', h1, h2⟩ := xops_sh hn hΦ hc.2 h
   refine ⟨tr', tm', H', h1, fun K' => ?_⟩
   have hu : sh n undefA = undefA := rfl
   simp only [xops,wanted_sh,hw]
   rw [← hu, put_sh]
   exact h2 K'
  ·simp at h
theorem stays_sh (hn : n = H0.length) {l : List AOper} (hc : closedOps l = true) {sts : List (List AV × Heap)} {p : Nat × Nat} (h : stays l sts p) : stays l (sts.map (s2 n H0)) p := by
 unfold stays at h ⊢
 simp only [List.getElem?_map]
 split at h
 ·rename_i o s a b h1 h2 h3 h4
  simp only [h1,h2,h3,h4,Option.map_some,s2,wanted_sh]
  rcases h with h | h
  ·exact .inl h
  ·right
   split at h
   ·rename_i k x hl
    have hx : closedOpd x = true := by
     have ho := List.all_eq_true.1 hc o (List.mem_of_getElem? h1)
     unfold closedOp at ho
     rw [Bool.and_eq_true] at ho
     refine List.all_eq_true.1 ho.1 x ?_
     cases hop : o.op <;> rw [hop] at hl <;> simp [loadOf] at hl
     simp [opnds, hl.2]
    first | rw [ev_sh hx, sh_load_eq hn, sh_load_eq hn, h] | (rw [hl]; simp only; rw [ev_sh hx, sh_load_eq hn, sh_load_eq hn, h])
   ·exact h.elim
 ·exact h.elim
theorem xreg_sh (hn : n = H0.length) {Φ Φ' : Oracle} (hΦ : ShO n H0 Φ Φ') {R : Type} {K : List AV → Heap → Option R} {x : R} {l : List AOper} {ps : List (Nat × Nat)} {tm : List AV} {H : Heap} (hc : closedOps l = true) (h : xreg Φ l ps tm H K = some x) :
  ∃ tm' H', K tm' H' = some x ∧ ∀ {R' : Type} (K' : List AV → Heap → Option R'), xreg Φ' l ps (tm.map (sh n)) (H0 ++ shH n H) K' = K' (tm'.map (sh n)) (H0 ++ shH n H') := by
 unfold xreg at h
 split at h
 ·obtain ⟨tr', tm', H', h1, h2⟩ := xops_sh hn hΦ hc h
  exact ⟨tm', H', h1, fun K' => by simp only [xreg]; exact h2 _⟩
 ·rename_i p ps
  obtain ⟨tr', tm', H', h1, h2⟩ := xops_sh hn hΦ hc h
  split at h1
  ·rename_i hall
   refine ⟨tm', H', h1, fun K' => ?_⟩
   simp only [xreg]
   refine (h2 _).trans ?_
   rw [if_pos]
   intro q hq
   have h3 := stays_sh hn hc (hall q hq)
   rw [List.map_reverse, List.map_cons] at h3
   exact h3
  ·simp at h1
end
end Go.Abs
end
section
set_option linter.unusedVariables false
set_option linter.unusedSimpArgs false
namespace Go.Abs
def closedC : ACode → Bool
 | .skip => true
 | .ops l _ => closedOps l
 | .seq a b => closedC a && closedC b
 | .cond c a b => closedOpd c && closedC a && closedC b
 | .block _ a => closedC a
 | .loop a => closedC a
 | .exit _ => true
 | .scope a b => closedC a && closedC b
 | .label _ => true
 | .goto _ => true
 | .ret => true
 | .bad => true
theorem find_closed : ∀ {a r : ACode} {l : Nat}, closedC a = true → findA a l = some r → closedC r = true
 | .seq a b, r, l, hc, h => by
  simp only [closedC,Bool.and_eq_true] at hc
  simp only [findA] at h
  split at h
  ·rename_i rest hr
   injection h with h; subst h
   simp only [closedC,Bool.and_eq_true]
   exact ⟨find_closed hc.1 hr, hc.2⟩
  ·exact find_closed hc.2 h
 | .label _, r, l, hc, h => by
  simp only [findA] at h
  split at h
  ·injection h with h; subst h; rfl
  ·simp at h
 | .skip, r, l, hc, h => by simp [findA] at h
 | .ops _ _, r, l, hc, h => by simp [findA] at h
 | .cond _ _ _, r, l, hc, h => by simp [findA] at h
 | .block _ _, r, l, hc, h => by simp [findA] at h
 | .loop _, r, l, hc, h => by simp [findA] at h
 | .exit _, r, l, hc, h => by simp [findA] at h
 | .scope _ _, r, l, hc, h => by simp [findA] at h
 | .goto _, r, l, hc, h => by simp [findA] at h
 | .ret, r, l, hc, h => by simp [findA] at h
 | .bad, r, l, hc, h => by simp [findA] at h
section
variable {n : Nat} {H0 : Heap}
def shOut (n : Nat) (H0 : Heap) (o : Out) : Out := (o.1, o.2.1.map (sh n), H0 ++ shH n o.2.2)
theorem execF_sh (hn : n = H0.length) {Φ Φ' : Oracle} (hΦ : ShO n H0 Φ Φ') : ∀ {k : Nat} {c : ACode} {tm : List AV} {H : Heap} {o : Out}, closedC c = true → execF Φ k c tm H = some o → execF Φ' k c (tm.map (sh n)) (H0 ++ shH n H) = some (shOut n H0 o)
 | 0, _, _, _, _, _, h => by simp [execF] at h
 | k + 1, c, tm, H, o, hc, h => by
  have ih : ∀ {c : ACode} {tm : List AV} {H : Heap} {o : Out}, closedC c = true → execF Φ k c tm H = some o → execF Φ' k c (tm.map (sh n)) (H0 ++ shH n H) = some (shOut n H0 o) := fun hc h => execF_sh hn hΦ hc h
  cases c <;> simp only [execF] at h ⊢ <;> simp only [closedC,Bool.and_eq_true] at hc
  case ops l ps =>
   obtain ⟨tm', H', h1, h2⟩ := xreg_sh hn hΦ hc h
   injection h1 with h1
   subst h1
   exact h2 _
  case seq a b =>
   cases ha : execF Φ k a tm H with
   | none => rw [ha] at h; simp at h
   | some o1 =>
    rw [ha] at h
    rw [ih hc.1 ha]
    obtain ⟨e, tm1, H1⟩ := o1
    cases e with
    | normal => exact ih hc.2 h
    | exit i => injection h with h; subst h; rfl
    | goto l => injection h with h; subst h; rfl
    | ret => injection h with h; subst h; rfl
  case cond x a b =>
   rw [ev_sh hc.1.1]
   split at h
   ·rename_i t ht
    rw [ht]
    simp only [sh]
    split at h
    ·rename_i htt; rw [if_pos htt]; exact ih hc.1.2 h
    ·rename_i htt; rw [if_neg htt]; exact ih hc.2 h
   ·simp at h
  case block id a =>
   cases ha : execF Φ k a tm H with
   | none => rw [ha] at h; simp at h
   | some o1 =>
    rw [ha] at h
    rw [ih hc ha]
    obtain ⟨e, tm1, H1⟩ := o1
    cases e with
    | exit i =>
     simp only [shOut] at h ⊢
     split at h
     ·rename_i hi; rw [if_pos hi]; injection h with h; subst h; rfl
     ·rename_i hi; rw [if_neg hi]; injection h with h; subst h; rfl
    | normal => injection h with h; subst h; rfl
    | goto l => injection h with h; subst h; rfl
    | ret => injection h with h; subst h; rfl
  case loop a =>
   cases ha : execF Φ k a tm H with
   | none => rw [ha] at h; simp at h
   | some o1 =>
    rw [ha] at h
    rw [ih hc ha]
    obtain ⟨e, tm1, H1⟩ := o1
    cases e with
    | normal => exact ih (c := .loop a) (by simpa only [closedC] using hc) h
    | exit i => injection h with h; subst h; rfl
    | goto l => injection h with h; subst h; rfl
    | ret => injection h with h; subst h; rfl
  case scope body cur =>
   cases ha : execF Φ k cur tm H with
   | none => rw [ha] at h; simp at h
   | some o1 =>
    rw [ha] at h
    rw [ih hc.2 ha]
    obtain ⟨e, tm1, H1⟩ := o1
    cases e with
    | goto l =>
     simp only [shOut] at h ⊢
     cases hf : findA body l with
     | none => rw [hf] at h; simp at h
     | some r =>
      rw [hf] at h
      exact ih (c := .scope body r) (by simp only [closedC,Bool.and_eq_true]; exact ⟨hc.1, find_closed hc.1 hf⟩) h
    | normal => injection h with h; subst h; rfl
    | exit i => injection h with h; subst h; rfl
    | ret => injection h with h; subst h; rfl
  case bad => simp at h
  all_goals
   injection h with h; subst h; rfl
mutual
theorem sh_inj : ∀ {a b : AV}, sh n a = sh n b → a = b
 | .im d, b, h => by cases b <;> simp [sh] at h; rw [h]
 | .nils, b, h => by cases b <;> simp [sh] at h; rfl
 | .asl s es t, b, h => by cases b <;> simp [sh] at h; rw [h.1, h.2.1, h.2.2]
 | .ms s i o k, b, h => by cases b <;> simp [sh] at h; rw [h.1, h.2.1, h.2.2.1, h.2.2.2]
 | .ptr i j k, b, h => by cases b <;> simp [sh] at h; rw [h.1, h.2.1, h.2.2]
 | .agg cs, b, h => by
  cases b <;> simp [sh] at h
  rw [shs_inj h]
 | .tup cs, b, h => by
  cases b <;> simp [sh] at h
  rw [shs_inj h]
 | .clo f cs, b, h => by
  cases b <;> simp [sh] at h
  rw [h.1, shs_inj h.2]
 | .any, b, h => by cases b <;> simp [sh] at h; rfl
theorem shs_inj : ∀ {a b : List AV}, shs n a = shs n b → a = b
 | [], b, h => by cases b <;> simp [shs] at h; rfl
 | a :: l, b, h => by
  cases b <;> simp [shs] at h
  rw [sh_inj h.1, shs_inj h.2]
end
theorem map_inj {α β : Type} {f : α → β} (hf : ∀ {a b}, f a = f b → a = b) : ∀ {l m : List α}, l.map f = m.map f → l = m
 | [], m, h => by cases m <;> simp at h; rfl
 | a :: l, m, h => by
  cases m <;> simp at h
  rw [hf h.1, map_inj hf h.2]
theorem shO_inj {a b : HO} (h : shO n a = shO n b) : a = b := by
 cases a <;> cases b <;> simp [shO] at h
 ·rw [h.1, map_inj (fun {x y} hxy => map_inj (fun {u v} huv => sh_inj huv) hxy) h.2]
 ·rw [h.1, h.2]
mutual
theorem refs_sh (m : Nat) : ∀ a : AV, refsLt (n + m) (sh n a) = refsLt m a
 | .im _ => rfl
 | .nils => rfl
 | .asl s es t => by simp [sh, refsLt]
 | .ms s i o k => by simp [sh, refsLt]
 | .ptr i j k => by simp [sh, refsLt]
 | .agg cs => by simp only [sh,refsLt,refss_sh m cs]
 | .tup cs => by simp only [sh,refsLt,refss_sh m cs]
 | .clo f cs => by simp only [sh,refsLt,refss_sh m cs]
 | .any => rfl
theorem refss_sh (m : Nat) : ∀ l : List AV, refsLts (n + m) (shs n l) = refsLts m l
 | [] => rfl
 | a :: l => by simp only [shs,refsLts,refs_sh m a,refss_sh m l]
end
theorem refsO_sh (m : Nat) (o : HO) : refsO (n + m) (shO n o) = refsO m o := by
 cases o with
 | hw t k => rfl
 | obj t es =>
  simp only [shO,refsO,List.all_map]
  congr 1
  funext e
  have := refss_sh (n := n) m e
  rw [shs_map] at this
  exact this
theorem held_sh (hn : n = H0.length) {Ha Hb : Heap} : heldIn (H0 ++ shH n Ha) (H0 ++ shH n Hb) ↔ heldIn Ha Hb := by
 unfold heldIn
 rw [shH_len hn]
 constructor
 ·intro h i hi
  have := h (n + i) (by omega)
  rw [shH_get hn, shH_get hn] at this
  rcases this with h1 | ⟨o, h1, h2⟩
  ·left
   cases ha : Ha[i]? with
   | none => rw [ha] at h1; simp at h1; simpa using h1
   | some a =>
    cases hb : Hb[i]? with
    | none => rw [ha, hb] at h1; simp at h1
    | some b =>
     rw [ha, hb] at h1
     simp only [Option.map_some,Option.some.injEq] at h1
     rw [shO_inj h1]
  ·right
   cases hb : Hb[i]? with
   | none => rw [hb] at h1; simp at h1
   | some b =>
    rw [hb] at h1
    simp only [Option.map_some,Option.some.injEq] at h1
    subst h1
    rw [refsO_sh] at h2
    exact ⟨b, rfl, h2⟩
 ·intro h i hi
  by_cases hlt : i < n
  ·left
   rw [List.getElem?_append_left (by omega), List.getElem?_append_left (by omega)]
  ·obtain ⟨j, rfl⟩ : ∃ j, i = n + j := ⟨i - n, by omega⟩
   rw [shH_get hn, shH_get hn]
   rcases h j (by omega) with h1 | ⟨o, h1, h2⟩
   ·left; rw [h1]
   ·right; exact ⟨shO n o, by rw [h1]; rfl, by rw [refsO_sh]; exact h2⟩
theorem degrade_sh (a : AV) : degrade (sh n a) = sh n (degrade a) := by
 have h1 : ∀ a : AV, degrade1 (sh n a) = sh n (degrade1 a) := fun a => by
  unfold degrade1
  rw [sh_toDat]
  cases toDat a <;> rfl
 unfold degrade
 rw [sh_toDat]
 cases toDat a with
 | some d => rfl
 | none =>
  cases a <;> simp only [sh,shs_map,List.map_map] <;> try rfl
  congr 1
  exact List.map_congr_left fun x _ => h1 x
theorem leave_sh (hn : n = H0.length) {Ha H H' : Heap} {keep : Bool} {r r' : AV} (h : leave Ha keep r H = (r', H')) : leave (H0 ++ shH n Ha) keep (sh n r) (H0 ++ shH n H) = (sh n r', H0 ++ shH n H') := by
 unfold leave at h ⊢
 have e : (if keep = true then sh n r else degrade (sh n r)) = sh n (if keep = true then r else degrade r) := by
  split
  ·rfl
  ·exact degrade_sh r
 rw [e]
 generalize (if keep = true then r else degrade r) = r1 at h ⊢
 rw [shH_len hn]
 by_cases hc : refsLt Ha.length r1 = true ∧ heldIn Ha H
 ·rw [if_pos hc] at h
  rw [if_pos ⟨by rw [refs_sh]; exact hc.1, (held_sh hn).2 hc.2⟩]
  obtain ⟨rfl, rfl⟩ := Prod.mk.inj h
  congr 1
  rw [hn, List.take_append, List.take_of_length_le (by omega), show H0.length + Ha.length - H0.length = Ha.length by omega]
  congr 1
  simp only [shH,List.map_take]
 ·rw [if_neg hc] at h
  rw [if_neg fun x => hc ⟨by rw [← refs_sh (n := n)]; exact x.1, (held_sh hn).1 x.2⟩]
  obtain ⟨rfl, rfl⟩ := Prod.mk.inj h
  rfl
theorem resA_sh (hn : n = H0.length) {tm : List AV} {H : Heap} : ∀ {rs : List (Nat × Option (Option Nat))} {l : List AV}, resA tm H rs = some l → resA (tm.map (sh n)) (H0 ++ shH n H) rs = some (l.map (sh n))
 | [], l, h => by
  simp only [resA] at h; injection h with h; subst h; rfl
 |(t, none) :: rs, l, h => by
  simp only [resA] at h ⊢
  split at h
  ·rename_i r hr
   injection h with h; subst h
   rw [resA_sh hn hr]
   have := ev_sh (n := n) (tm := tm) (x := .t t) rfl
   simp only [ev] at this
   simp only [this,List.map_cons]
  ·simp at h
 |(t, some k) :: rs, l, h => by
  simp only [resA] at h ⊢
  have := ev_sh (n := n) (tm := tm) (x := .t t) rfl
  simp only [ev] at this
  rw [this]
  split at h
  ·rename_i v r hv hr
   injection h with h; subst h
   rw [resA_sh hn hr, sh_load hn hv]
   rfl
  ·simp at h
theorem tup_sh (l : List AV) : tupA (l.map (sh n)) = sh n (tupA l) := by
 match l with
 | [] => simp [tupA, sh, shs]
 | [a] => rfl
 | a :: b :: l => simp [tupA, sh, shs, shs_map]
theorem enter_sh (f : AFunc) (args : List AV) : enterA f (args.map (sh n)) = (enterA f args).map (sh n) := by
 simp [enterA, sh, undefA, shs]
theorem runF_sh (hn : n = H0.length) {Ψ : Oracle} (hΨ : ShO n H0 Ψ Ψ) {T : FuncId → Option AFunc} (hT : ∀ f af, T f = some af → closedC af.code = true) : ∀ k, ShO n H0 (runF Ψ T k) (runF Ψ T k)
 | 0 => fun f args H v H' h => by simp [runF] at h
 | k + 1 => fun f args H v H' h => by
  have ih := runF_sh hn hΨ hT k
  simp only [runF] at h ⊢
  cases hf : T f with
  | none => rw [hf] at h; exact hΨ _ _ _ _ _ h
  | some af =>
   rw [hf] at h
   simp only at h ⊢
   cases he : execF (runF Ψ T k) k af.code (enterA af args) H with
   | none => rw [he] at h; simp [endA] at h
   | some o =>
    rw [he] at h
    rw [enter_sh, execF_sh hn ih (hT f af hf) he]
    obtain ⟨e, tm, H1⟩ := o
    cases e with
    | normal =>
     simp only [endA,shOut] at h ⊢
     split at h
     ·rename_i l hl
      injection h with h
      rw [resA_sh hn hl]
      simp only
      rw [tup_sh, leave_sh hn h]
     ·simp at h
    | ret =>
     simp only [endA,shOut] at h ⊢
     split at h
     ·rename_i l hl
      injection h with h
      rw [resA_sh hn hl]
      simp only
      rw [tup_sh, leave_sh hn h]
     ·simp at h
    | exit i => simp [endA] at h
    | goto l => simp [endA] at h
end
end Go.Abs
end
section
set_option linter.unusedVariables false
set_option linter.unusedSimpArgs false
namespace Go.Abs
section
variable {n : Nat} {H0 : Heap}
end
theorem runF_le {Ψ : Oracle} {T F : FuncId → Option AFunc} (hT : ∀ f af, T f = some af → F f = some af) (hn : ∀ f, T f = none → F f = none ∨ ∀ args H, Ψ f args H = none) : ∀ k, OLe (runF Ψ T k) (runF Ψ F k)
 | 0 => fun f args H x hx => by simp [runF] at hx
 | k + 1 => fun f args H x hx => by
  have ih := runF_le hT hn k
  simp only [runF] at hx ⊢
  cases hf : T f with
  | none =>
   rw [hf] at hx
   rcases hn f hf with h | h
   ·rw [h]; exact hx
   ·simp only [h] at hx; simp at hx
  | some af =>
   rw [hf] at hx
   rw [hT f af hf]
   simp only at hx ⊢
   cases he : execF (runF Ψ T k) k af.code (enterA af args) H with
   | none => rw [he] at hx; simp [endA] at hx
   | some o => rw [he] at hx; rw [execF_mono ih (Nat.le_refl _) he]; exact hx
end Go.Abs
end
section
set_option linter.unusedVariables false
set_option linter.unusedSimpArgs false
namespace Go.Abs
section
variable {R : Type} {Φ : Oracle} {Λ : ACode → List AV → Heap → Option Out} {K : AEx → List AV → Heap → Option R} {tm : List AV} {H : Heap}
noncomputable def seqK (Φ : Oracle) (Λ : ACode → List AV → Heap → Option Out) (b : ACode) (K : AEx → List AV → Heap → Option R) (e : AEx) (tm : List AV) (H : Heap) : Option R := match e with
 | .normal => exec0 Φ Λ b tm H K
 | .exit i => K (.exit i) tm H
 | .goto l => K (.goto l) tm H
 | .ret => K .ret tm H
def blockK (id : Nat) (K : AEx → List AV → Heap → Option R) (e : AEx) (tm : List AV) (H : Heap) : Option R := match e with
 | .exit i => if i = id then K .normal tm H else K (.exit i) tm H
 | .normal => K .normal tm H
 | .goto l => K (.goto l) tm H
 | .ret => K .ret tm H
theorem x_seq {a b : ACode} : exec0 Φ Λ (.seq a b) tm H K = exec0 Φ Λ a tm H (seqK Φ Λ b K) := _root_.id rfl
theorem x_block {id : Nat} {a : ACode} : exec0 Φ Λ (.block id a) tm H K = exec0 Φ Λ a tm H (blockK id K) := _root_.id rfl
theorem x_skip : exec0 Φ Λ .skip tm H K = K .normal tm H := _root_.id rfl
theorem x_label {l : Nat} : exec0 Φ Λ (.label l) tm H K = K .normal tm H := _root_.id rfl
theorem x_ops {l : List AOper} {ps : List (Nat × Nat)} : exec0 Φ Λ (.ops l ps) tm H K = xreg Φ l ps tm H (K .normal) := _root_.id rfl
theorem x_cond {c : AOpd} {a b : ACode} : exec0 Φ Λ (.cond c a b) tm H K = match ev tm c with
  | .im (.bool t) => if t = true then exec0 Φ Λ a tm H K else exec0 Φ Λ b tm H K
  | _ => none := _root_.id rfl
theorem x_exit {i : Nat} : exec0 Φ Λ (.exit i) tm H K = K (.exit i) tm H := _root_.id rfl
theorem x_goto {l : Nat} : exec0 Φ Λ (.goto l) tm H K = K (.goto l) tm H := _root_.id rfl
theorem x_ret : exec0 Φ Λ .ret tm H K = K .ret tm H := _root_.id rfl
theorem k_normal {b : ACode} : seqK Φ Λ b K .normal tm H = exec0 Φ Λ b tm H K := _root_.id rfl
theorem k_exit {b : ACode} {i : Nat} : seqK Φ Λ b K (.exit i) tm H = K (.exit i) tm H := _root_.id rfl
theorem k_goto {b : ACode} {l : Nat} : seqK Φ Λ b K (.goto l) tm H = K (.goto l) tm H := _root_.id rfl
theorem k_ret {b : ACode} : seqK Φ Λ b K .ret tm H = K .ret tm H := _root_.id rfl
theorem b_normal {id : Nat} : blockK id K .normal tm H = K .normal tm H := _root_.id rfl
theorem b_exit {id i : Nat} : blockK id K (.exit i) tm H = if i = id then K .normal tm H else K (.exit i) tm H := _root_.id rfl
theorem b_goto {id l : Nat} : blockK id K (.goto l) tm H = K (.goto l) tm H := _root_.id rfl
theorem b_ret {id : Nat} : blockK id K .ret tm H = K .ret tm H := _root_.id rfl
end
end Go.Abs
namespace Go.Abs
section
variable {k : IntKind} {x y : Int}
theorem b_lss : binA .lss (.im (.int k x)) (.im (.int k y)) = some (.im (.bool (decide (x < y)))) := by simp only [binA,isShift,binInt,Bool.false_eq_true,if_false,if_true]
theorem b_leq : binA .leq (.im (.int k x)) (.im (.int k y)) = some (.im (.bool (decide (x ≤ y)))) := by simp only [binA,isShift,binInt,Bool.false_eq_true,if_false,if_true]
theorem b_gtr : binA .gtr (.im (.int k x)) (.im (.int k y)) = some (.im (.bool (decide (y < x)))) := by simp only [binA,isShift,binInt,Bool.false_eq_true,if_false,if_true]
theorem b_geq : binA .geq (.im (.int k x)) (.im (.int k y)) = some (.im (.bool (decide (y ≤ x)))) := by simp only [binA,isShift,binInt,Bool.false_eq_true,if_false,if_true]
theorem b_eql : binA .eql (.im (.int k x)) (.im (.int k y)) = some (.im (.bool (decide (x = y)))) := by simp only [binA,isShift,binInt,Bool.false_eq_true,if_false,if_true]
theorem b_neq : binA .neq (.im (.int k x)) (.im (.int k y)) = some (.im (.bool (!decide (x = y)))) := by simp only [binA,isShift,binInt,Bool.false_eq_true,if_false,if_true]
theorem b_add : binA .add (.im (.int k x)) (.im (.int k y)) = some (.im (.int k (k.wrap (x + y)))) := by simp only [binA,isShift,binInt,Bool.false_eq_true,if_false,if_true]
theorem b_sub : binA .sub (.im (.int k x)) (.im (.int k y)) = some (.im (.int k (k.wrap (x - y)))) := by simp only [binA,isShift,binInt,Bool.false_eq_true,if_false,if_true]
theorem b_mul : binA .mul (.im (.int k x)) (.im (.int k y)) = some (.im (.int k (k.wrap (x * y)))) := by simp only [binA,isShift,binInt,Bool.false_eq_true,if_false,if_true]
end
section
variable {x y : List UInt8}
theorem s_eql : binA .eql (.im (.str x)) (.im (.str y)) = some (.im (.bool (decide (x = y)))) := rfl
theorem s_neq : binA .neq (.im (.str x)) (.im (.str y)) = some (.im (.bool (!decide (x = y)))) := rfl
theorem s_add (h : x.length + y.length ≤ 2 ^ 62) : binA .add (.im (.str x)) (.im (.str y)) = some (.im (.str (x ++ y))) := by simp only [binA,binStr,if_pos h]
end
end Go.Abs
end
section
set_option linter.unusedVariables false
set_option linter.unusedSimpArgs false
namespace Go.Abs
section
variable {R : Type} {Φ : Oracle} {Λ : ACode → List AV → Heap → Option Out}
def yops (Φ : Oracle) : List AOper → List AV → Heap → (List AV → Heap → Option R) → Option R
 | [], tm, H, K => K tm H
 | o :: os, tm, H, K => match wantedA tm o.guard with
  | some true => match aopc Φ H tm o.op with
   | some (v, H') => yops Φ os (putA tm o.dst v) H' K
   | none => none
  | some false => yops Φ os (putA tm o.dst undefA) H K
  | none => none
theorem xops_yops {K : List AV → Heap → Option R} : ∀ {os : List AOper} {tr : List (List AV × Heap)} {tm : List AV} {H : Heap}, xops Φ os tr tm H (fun _ tm H => K tm H) = yops Φ os tm H K
 | [], tr, tm, H => rfl
 | o :: os, tr, tm, H => by
  simp only [xops,yops]
  cases wantedA tm o.guard with
  | none => rfl
  | some b =>
   cases b with
   | false => exact xops_yops
   | true =>
    simp only
    cases aopc Φ H tm o.op with
    | none => rfl
    | some p => exact xops_yops
def yK (Φ : Oracle) (os : List AOper) (dst : Option Nat) (tm : List AV) (K : List AV → Heap → Option R) : Option (AV × Heap) → Option R
 | some (v, H') => yops Φ os (putA tm dst v) H' K
 | none => none
def yG (Φ : Oracle) (os : List AOper) (dst : Option Nat) (op : AOp) (tm : List AV) (H : Heap) (K : List AV → Heap → Option R) : Option Bool → Option R
 | some true => yK Φ os dst tm K (aopc Φ H tm op)
 | some false => yops Φ os (putA tm dst undefA) H K
 | none => none
variable {os : List AOper} {dst : Option Nat} {op : AOp} {tm : List AV} {H H' : Heap} {K : List AV → Heap → Option R} {v : AV} {g : Nat × Bool} {d : Nat} {b : Bool}
theorem y_ops {l : List AOper} {K : AEx → List AV → Heap → Option R} : exec0 Φ Λ (.ops l []) tm H K = yops Φ l tm H (K .normal) := by
 rw [x_ops]
 simp only [xreg]
 exact xops_yops
theorem y_nil : yops Φ [] tm H K = K tm H := _root_.id rfl
theorem y_cons : yops Φ (⟨dst, op, none⟩ :: os) tm H K = yK Φ os dst tm K (aopc Φ H tm op) := by
 simp only [yops,wantedA]
 cases aopc Φ H tm op <;> rfl
theorem y_guard : yops Φ (⟨dst, op, some g⟩ :: os) tm H K = yG Φ os dst op tm H K (wantedA tm (some g)) := by
 simp only [yops]
 cases wantedA tm (some g) with
 | none => rfl
 | some b => cases b <;> simp only [yG,yK] <;> first | rfl | (cases aopc Φ H tm op <;> rfl)
theorem y_some : yK Φ os (some d) tm K (some (v, H')) = yops Φ os (tm.set d v) H' K := _root_.id rfl
theorem y_drop : yK Φ os none tm K (some (v, H')) = yops Φ os tm H' K := _root_.id rfl
theorem y_do : yG Φ os dst op tm H K (some true) = yK Φ os dst tm K (aopc Φ H tm op) := _root_.id rfl
theorem y_not : yG Φ os (some d) op tm H K (some false) = yops Φ os (tm.set d (.tup [])) H K := _root_.id rfl
theorem y_not0 : yG Φ os none op tm H K (some false) = yops Φ os tm H K := _root_.id rfl
def yC (Φ : Oracle) (H : Heap) (args : List AV) : AV → Option (AV × Heap)
 | .clo g cap => Φ g (args ++ cap) H
 | _ => none
theorem c_call {f : AOpd} {args : List AOpd} : aopc Φ H tm (.call f args) = yC Φ H (args.map (ev tm)) (ev tm f) := by
 simp only [aopc]
 cases ev tm f <;> rfl
theorem c_clo {f : FuncId} {args cap : List AV} : yC Φ H args (.clo f cap) = Φ f (args ++ cap) H := _root_.id rfl
theorem c_move {x : AOpd} : aopc Φ H tm (.move x) = aop H (ev tm) (.move x) := by simp only [aopc]
theorem c_pick {c a b : AOpd} : aopc Φ H tm (.pick c a b) = aop H (ev tm) (.pick c a b) := by simp only [aopc]
theorem c_alloc {ty : Option (TypeId × Nat)} {z : List AV} : aopc Φ H tm (.alloc ty z) = aop H (ev tm) (.alloc ty z) := by simp only [aopc]
theorem c_box {ty : Option TypeId} {x : AOpd} : aopc Φ H tm (.box ty x) = aop H (ev tm) (.box ty x) := by simp only [aopc]
theorem c_build {z : List AV} {parts : List (Nat × Nat × AOpd)} : aopc Φ H tm (.build z parts) = aop H (ev tm) (.build z parts) := by simp only [aopc]
theorem c_bslice {mu : Bool} {s n : Nat} {z : List AV} {parts : List (Nat × AOpd)} : aopc Φ H tm (.bslice mu s n z parts) = aop H (ev tm) (.bslice mu s n z parts) := by simp only [aopc]
theorem c_load {k : Option Nat} {x : AOpd} : aopc Φ H tm (.load k x) = aop H (ev tm) (.load k x) := by simp only [aopc]
theorem c_store {k : Nat} {x v : AOpd} : aopc Φ H tm (.store k x v) = aop H (ev tm) (.store k x v) := by simp only [aopc]
theorem c_nilCheck {x : AOpd} : aopc Φ H tm (.nilCheck x) = aop H (ev tm) (.nilCheck x) := by simp only [aopc]
theorem c_bin {op : BinOp} {x y : AOpd} : aopc Φ H tm (.bin op x y) = aop H (ev tm) (.bin op x y) := by simp only [aopc]
theorem c_binB {op : BinOp} {x y : AOpd} : aopc Φ H tm (.binB op x y) = aop H (ev tm) (.binB op x y) := by simp only [aopc]
theorem c_un {op : UnOp} {x : AOpd} : aopc Φ H tm (.un op x) = aop H (ev tm) (.un op x) := by simp only [aopc]
theorem c_i2i {k : IntKind} {x : AOpd} : aopc Φ H tm (.i2i k x) = aop H (ev tm) (.i2i k x) := by simp only [aopc]
theorem c_i2f {k : FloatKind} {x : AOpd} : aopc Φ H tm (.i2f k x) = aop H (ev tm) (.i2f k x) := by simp only [aopc]
theorem c_f2i {k : IntKind} {x : AOpd} : aopc Φ H tm (.f2i k x) = aop H (ev tm) (.f2i k x) := by simp only [aopc]
theorem c_s2b {x : AOpd} : aopc Φ H tm (.s2b x) = aop H (ev tm) (.s2b x) := by simp only [aopc]
theorem c_b2s {x : AOpd} : aopc Φ H tm (.b2s x) = aop H (ev tm) (.b2s x) := by simp only [aopc]
theorem c_strId {x : AOpd} : aopc Φ H tm (.strId x) = aop H (ev tm) (.strId x) := by simp only [aopc]
theorem c_mkfunc {f : FuncId} {cap : List AOpd} : aopc Φ H tm (.mkfunc f cap) = aop H (ev tm) (.mkfunc f cap) := by simp only [aopc]
theorem c_mkslice {bytes s : Nat} {z : List AV} {len cap : AOpd} : aopc Φ H tm (.mkslice bytes s z len cap) = aop H (ev tm) (.mkslice bytes s z len cap) := by simp only [aopc]
theorem c_slice {s : Nat} {x : AOpd} {lo hi mx : Option AOpd} : aopc Φ H tm (.slice s x lo hi mx) = aop H (ev tm) (.slice s x lo hi mx) := by simp only [aopc]
theorem c_sliceStr {x : AOpd} {lo hi : Option AOpd} : aopc Φ H tm (.sliceStr x lo hi) = aop H (ev tm) (.sliceStr x lo hi) := by simp only [aopc]
theorem c_fieldAddr {off : Nat} {x : AOpd} : aopc Φ H tm (.fieldAddr off x) = aop H (ev tm) (.fieldAddr off x) := by simp only [aopc]
theorem c_field {off : Nat} {k : Option Nat} {x : AOpd} : aopc Φ H tm (.field off k x) = aop H (ev tm) (.field off k x) := by simp only [aopc]
theorem c_indexSl {s : Nat} {x i : AOpd} : aopc Φ H tm (.indexSl s x i) = aop H (ev tm) (.indexSl s x i) := by simp only [aopc]
theorem c_indexArr {len size : Nat} {x i : AOpd} : aopc Φ H tm (.indexArr len size x i) = aop H (ev tm) (.indexArr len size x i) := by simp only [aopc]
theorem c_elemArr {len size : Nat} {k : Option Nat} {x i : AOpd} : aopc Φ H tm (.elemArr len size k x i) = aop H (ev tm) (.elemArr len size k x i) := by simp only [aopc]
theorem c_indexStr {x i : AOpd} : aopc Φ H tm (.indexStr x i) = aop H (ev tm) (.indexStr x i) := by simp only [aopc]
theorem c_extract {i : Nat} {x : AOpd} : aopc Φ H tm (.extract i x) = aop H (ev tm) (.extract i x) := by simp only [aopc]
theorem c_lenStr {x : AOpd} : aopc Φ H tm (.lenStr x) = aop H (ev tm) (.lenStr x) := by simp only [aopc]
theorem c_lenSl {x : AOpd} : aopc Φ H tm (.lenSl x) = aop H (ev tm) (.lenSl x) := by simp only [aopc]
theorem c_append {ty : TypeId} {bytes s : Nat} {x y : AOpd} : aopc Φ H tm (.append ty bytes s x y) = aop H (ev tm) (.append ty bytes s x y) := by simp only [aopc]
theorem c_real {x : AOpd} : aopc Φ H tm (.real x) = aop H (ev tm) (.real x) := by simp only [aopc]
theorem c_imag {x : AOpd} : aopc Φ H tm (.imag x) = aop H (ev tm) (.imag x) := by simp only [aopc]
theorem c_complex {x y : AOpd} : aopc Φ H tm (.complex x y) = aop H (ev tm) (.complex x y) := by simp only [aopc]
theorem c_min {x y : AOpd} : aopc Φ H tm (.min x y) = aop H (ev tm) (.min x y) := by simp only [aopc]
theorem c_max {x y : AOpd} : aopc Φ H tm (.max x y) = aop H (ev tm) (.max x y) := by simp only [aopc]
theorem c_clear {s : Nat} {z : List AV} {x : AOpd} : aopc Φ H tm (.clear s z x) = aop H (ev tm) (.clear s z x) := by simp only [aopc]
end
end Go.Abs
end
section
set_option linter.unusedVariables false
set_option linter.unusedSimpArgs false
namespace Go.Abs
def But (n id : Nat) (H H' : Heap) : Prop := H.length ≤ H'.length ∧ ∀ i, i < n → i ≠ id → H'[i]? = H[i]?
theorem But.refl {n id : Nat} {A : Heap} : But n id A A := ⟨Nat.le_refl _, fun _ _ _ => rfl⟩
theorem But.app {n id : Nat} {A B : Heap} (h : But n id A B) (hn : n ≤ A.length) (M : Heap) : But n id A (B ++ M) :=
 ⟨by have := h.1; simp; omega, fun i hi hne => by rw [List.getElem?_append_left (by have := h.1; omega)]; exact h.2 i hi hne⟩
theorem But.set {n id : Nat} {A B : Heap} (h : But n id A B) (o : HO) : But n id A (B.set id o) :=
 ⟨by simpa using h.1, fun i hi hne => by rw [List.getElem?_set_ne (fun e => hne e.symm)]; exact h.2 i hi hne⟩
theorem But.trans {n id : Nat} {A B C : Heap} (h : But n id A B) (k : But n id B C) : But n id A C :=
 ⟨Nat.le_trans h.1 k.1, fun i hi hne => (k.2 i hi hne).trans (h.2 i hi hne)⟩
theorem But.less {n m id : Nat} {A B : Heap} (h : But n id A B) (hm : m ≤ n) : But m id A B := ⟨h.1, fun i hi hne => h.2 i (by omega) hne⟩
theorem leave_but {id : Nat} {H H' : Heap} {keep : Bool} {r : AV} {o : HO} (hb : But H.length id H H') (ho : H'[id]? = some o) (hro : refsO H.length o = true) (hr : refsLt H.length (if keep then r else degrade r) = true) (hid : id < H.length) :
  leave H keep r H' = (if keep then r else degrade r, H.set id o) := by
 have hh : heldIn H H' := fun i hi => by
  by_cases h : i = id
  ·subst h; exact .inr ⟨o, ho, hro⟩
  ·exact .inl (hb.2 i hi h)
 unfold leave
 rw [if_pos ⟨hr, hh⟩]
 congr 1
 apply List.ext_getElem?
 intro i
 rw [List.getElem?_take]
 by_cases hi : i < H.length
 ·rw [if_pos hi]
  by_cases h : i = id
  ·subst h; rw [ho, List.getElem?_set_self hi]
  ·rw [hb.2 i hi h, List.getElem?_set_ne (fun e => h e.symm)]
 ·rw [if_neg hi, List.getElem?_eq_none (by simpa using hi)]
theorem thenL_inv {R : Type} {o : Option Out} {K : AEx → List AV → Heap → Option R} {r : Option R} {Q : AEx → List AV → Heap → Prop} (hr : thenL o K = r) (h : ∃ e tm H, o = some (e, tm, H) ∧ Q e tm H) : ∃ e tm H, Q e tm H ∧ K e tm H = r := by
 obtain ⟨e, tm, H, rfl, hq⟩ := h
 exact ⟨e, tm, H, hq, hr⟩
theorem ret_ex {o : Option Out} {Q : List AV → Heap → Prop} (h : ∃ tm H, o = some (.ret, tm, H) ∧ Q tm H) : ∃ e tm H, o = some (e, tm, H) ∧ (e = .ret ∧ Q tm H) := by
 obtain ⟨tm, H, h, hq⟩ := h
 exact ⟨_, tm, H, h, rfl, hq⟩
section
variable {R : Type} {Φ : Oracle} {Λ : ACode → List AV → Heap → Option Out}
def zK (Φ : Oracle) (os : List AOper) (dst : Option Nat) (tr : List (List AV × Heap)) (tm : List AV) (H : Heap) (K : List (List AV × Heap) → List AV → Heap → Option R) : Option (AV × Heap) → Option R
 | some (v, H') => xops Φ os ((tm, H) :: tr) (putA tm dst v) H' K
 | none => none
def zG (Φ : Oracle) (os : List AOper) (dst : Option Nat) (op : AOp) (tr : List (List AV × Heap)) (tm : List AV) (H : Heap) (K : List (List AV × Heap) → List AV → Heap → Option R) : Option Bool → Option R
 | some true => zK Φ os dst tr tm H K (aopc Φ H tm op)
 | some false => xops Φ os ((tm, H) :: tr) (putA tm dst undefA) H K
 | none => none
open Classical in
noncomputable def pairK (l : List AOper) (ps : List (Nat × Nat)) (K : List AV → Heap → Option R) (tr : List (List AV × Heap)) (tm : List AV) (H : Heap) : Option R :=
 if ∀ q ∈ ps, stays l (((tm, H) :: tr).reverse) q then K tm H else none
variable {os : List AOper} {dst : Option Nat} {op : AOp} {tr : List (List AV × Heap)} {tm : List AV} {H H' : Heap} {K : List (List AV × Heap) → List AV → Heap → Option R} {v : AV} {g : Nat × Bool} {d : Nat} {b : Bool}
theorem z_ops {l : List AOper} {p : Nat × Nat} {ps : List (Nat × Nat)} {K : AEx → List AV → Heap → Option R} : exec0 Φ Λ (.ops l (p :: ps)) tm H K = xops Φ l [] tm H (pairK l (p :: ps) (K .normal)) := by
 rw [x_ops]
 rfl
theorem z_nil : xops Φ [] tr tm H K = K tr tm H := _root_.id rfl
theorem z_cons : xops Φ (⟨dst, op, none⟩ :: os) tr tm H K = zK Φ os dst tr tm H K (aopc Φ H tm op) := by
 simp only [xops,wantedA]
 cases aopc Φ H tm op <;> rfl
theorem z_guard : xops Φ (⟨dst, op, some g⟩ :: os) tr tm H K = zG Φ os dst op tr tm H K (wantedA tm (some g)) := by
 simp only [xops]
 cases wantedA tm (some g) with
 | none => rfl
 | some b => cases b <;> simp only [zG,zK] <;> first | rfl | (cases aopc Φ H tm op <;> rfl)
theorem z_some : zK Φ os (some d) tr tm H K (some (v, H')) = xops Φ os ((tm, H) :: tr) (tm.set d v) H' K := _root_.id rfl
theorem z_drop : zK Φ os none tr tm H K (some (v, H')) = xops Φ os ((tm, H) :: tr) tm H' K := _root_.id rfl
theorem z_do : zG Φ os dst op tr tm H K (some true) = zK Φ os dst tr tm H K (aopc Φ H tm op) := _root_.id rfl
theorem z_not : zG Φ os (some d) op tr tm H K (some false) = xops Φ os ((tm, H) :: tr) (tm.set d (.tup [])) H K := _root_.id rfl
theorem z_not0 : zG Φ os none op tr tm H K (some false) = xops Φ os ((tm, H) :: tr) tm H K := _root_.id rfl
end
theorem set_same {α : Type} {l : List α} {i : Nat} {x : α} (h : l[i]? = some x) : l.set i x = l := by
 apply List.ext_getElem?
 intro j
 by_cases hj : i = j
 ·subst hj; rw [h, List.getElem?_set_self (List.getElem?_eq_some_iff.1 h).1]
 ·rw [List.getElem?_set_ne hj]
theorem Gath.grow {ty : TypeId} {s bytes n : Nat} {v : AV} {H : Heap} {es : List (List Dat)} (h : Gath ty s n v H es) (hn : n ≤ H.length) (y : List Dat) (hb : (es.length + 1) * bytes ≤ 2 ^ 46) (hb0 : 0 < bytes) :
  ∃ (tok : Nat) (H' : Heap), appendA H ty bytes s v [y] = some (.asl s (es ++ [y]) tok, H') ∧ Gath ty s n (.asl s (es ++ [y]) tok) H' (es ++ [y]) ∧ H.length ≤ H'.length ∧ (∀ i, i < n → H'[i]? = H[i]?) ∧ (∀ (i : Nat) (t : Option (TypeId × Nat)) (xs : List (List AV)), H[i]? = some (HO.obj t xs) → H'[i]? = some (HO.obj t xs)) := by
 rcases h with ⟨rfl, rfl⟩ | ⟨h1, tok, h2, rfl, h4⟩
 ·refine ⟨H.length, H ++ [.hw ty 1], ?_, .inr ⟨by simp, H.length, hn, rfl, by rw [hget0]; rfl⟩, by simp, fun i hi => List.getElem?_append_left (by omega), fun i t xs hi => by rw [List.getElem?_append_left (List.getElem?_eq_some_iff.1 hi).1]; exact hi⟩
  simp only [appendA,List.length_nil,Nat.zero_add]
  rw [if_pos ⟨by simpa using hb, hb0⟩]
  rfl
 ·have hlt := (List.getElem?_eq_some_iff.1 h4).1
  refine ⟨tok, H.set tok (.hw ty (es.length + 1)), ?_, .inr ⟨by simp, tok, h2, rfl, ?_⟩, by simp, fun i hi => List.getElem?_set_ne (by omega), fun i t xs hi => ?_⟩
  ·simp only [appendA,h4,List.length_cons,List.length_nil,Nat.zero_add]
   rw [if_pos ⟨trivial, trivial, hb, hb0, trivial⟩]
  ·rw [List.getElem?_set_self hlt]
   simp
  ·have : tok ≠ i := fun e => by subst e; rw [h4] at hi; simp at hi
   rw [List.getElem?_set_ne this]; exact hi
theorem leave_deg {H M : Heap} {r r' : AV} (hd : degrade r = r') (hr : refsLt H.length r' = true) : leave H false r (H ++ M) = (r', H) := by
 unfold leave
 have e : (if (false : Bool) = true then r else degrade r) = r' := by simp [hd]
 rw [e, if_pos ⟨hr, heldIn_app H M⟩, htake]
end Go.Abs
end
section
set_option linter.unusedVariables false
set_option linter.unusedSimpArgs false
namespace Go.Abs
theorem leave_nil {H : Heap} {d : Dat} : leave [] false (.im d) H = (.im d, []) := leave_app (H := []) (L := H)
end Go.Abs
end
section
set_option linter.unusedVariables false
set_option linter.unusedSimpArgs false
namespace Go.Abs
structure Cmps (P : Program) (cs : FuncId) : Prop where
 enters : Enters P cs
 cmp : ∀ (a b : ByteArray) (w : World), Calls P cs #[.string a, .string b] w fun e w' => e = .returned (.int .i64 (Lib.compareBytes a.data.toList b.data.toList)) ∧ w' = w
theorem lim_at {Ψ : Oracle} (hΨ : ∀ n H0, n = H0.length → ShO n H0 Ψ Ψ) {T F : FuncId → Option AFunc} (hT : ∀ f af, T f = some af → F f = some af ∧ closedC af.code = true) (hn : ∀ f, T f = none → F f = none ∨ ∀ args H, Ψ f args H = none)
  {k : Nat} {f : FuncId} {d : Dat} (h : runC Ψ T k f [] [] = some (.im d, [])) (H : Heap) : Lim Ψ F f [] H = some (.im d, H) := by
 have h1 := runC_le (F := T) (fun f af hf => hf) (fun f hf => .inl hf) k _ _ _ _ h
 have h2 := runF_sh (n := H.length) (H0 := H) rfl (hΨ _ _ rfl) (fun f af hf => (hT f af hf).2) k _ _ _ _ _ h1
 have h3 := runF_le (fun f af hf => (hT f af hf).1) hn k _ _ _ _ h2
 simp only [List.map_nil,shH,List.append_nil,sh] at h3
 exact lim_iff.2 ⟨k, h3⟩
end Go.Abs
end
section
set_option linter.unusedVariables false
set_option linter.unusedSimpArgs false
namespace Go.Abs
def ccE (ok : TypeId × Nat → Bool) : List AV → Heap → Option (AV × Heap)
 | [.ptr id 0 0], H => match H[id]? with
  | some (.obj (some ty) [a0 :: rest]) => if ok ty = true then match a0 with
    | .im .nilp => some (.tup [], H.set id (.obj (some ty) [.ptr id 0 0 :: rest]))
    | .ptr id' 0 0 => if id' = id then some (.tup [], H) else none
    | _ => none
   else none
  | _ => none
 | _, _ => none
def stE (ok : TypeId × Nat → Bool) (tb : TypeId) : List AV → Heap → Option (AV × Heap)
 | [.ptr id 0 0], H => match H[id]? with
  | some (.obj (some ty) [_ :: .asl s es tok :: _]) => match H[tok]?, bytesE es with
   | some (.hw ty' n), some l => if ok ty = true ∧ ty' = tb ∧ n = es.length ∧ s = 1 ∧ 0 < l.length ∧ l.length ≤ 2 ^ 62 then some (.im (.str l), H.set tok (.hw ty' (n + 1))) else none
   | _, _ => none
  | _ => none
 | _, _ => none
def strO (cc st : FuncId) (ok : TypeId × Nat → Bool) (tb : TypeId) (Ψ : Oracle) : Oracle := fun f args H => if f = cc then ccE ok args H else if f = st then stE ok tb args H else Ψ f args H
structure Emb (P : Program) (cc st : FuncId) (ok : TypeId × Nat → Bool) (tb : TypeId) : Prop where
 ecc : Enters P cc
 est : Enters P st
 used : ∀ (b : Nat) (w : World), w.cell? ⟨b, 0, none⟩ = some (.pointer (some ⟨b, 0, none⟩)) → Calls P cc #[.pointer (some ⟨b, 0, none⟩)] w fun e w' => e = .returned (.tuple #[]) ∧ w' = w
 fresh : ∀ (b : Nat) (ty : TypeId × Nat) (w : World), ok ty = true → w.cell? ⟨b, 0, none⟩ = some (.pointer none) → w.shape? b = some ty → w.frozen? ⟨b, 0, none⟩ = false →
  Calls P cc #[.pointer (some ⟨b, 0, none⟩)] w fun e w' => e = .returned (.tuple #[]) ∧ w' = w.setCell ⟨b, 0, none⟩ (.pointer (some ⟨b, 0, none⟩))
 text : ∀ (b g o c cells : Nat) (l : List UInt8) (w : World), w.cell? ⟨b, 1, none⟩ = some (.slice (some ⟨g, o, none⟩) l.length c) → l ≠ [] → l.length ≤ c → l.length ≤ 2 ^ 62 → w.shape? g = some (tb, cells) → o + l.length ≤ cells →
  (∀ j x, l[j]? = some x → w.cell? ⟨g, o + j, none⟩ = some (.int .u8 x.toNat)) →
  Calls P st #[.pointer (some ⟨b, 0, none⟩)] w fun e w' => e = .returned (.string ⟨l.toArray⟩) ∧ w' = w.drew.freeze ⟨g, o, none⟩ l.length
section
variable {P : Program} {cc st : FuncId} {ok : TypeId × Nat → Bool} {tb : TypeId} {B : Nat → Prop}
theorem ccE_sound (K : Emb P cc st ok tb) {args : List AV} {H : Heap} {r : AV} {H' : Heap} (h : ccE ok args H = some (r, H')) : CallsA P B cc args H r H' := by
 refine ⟨K.ecc, fun E vs I hE hr => ?_⟩
 subst hE
 unfold ccE at h
 split at h
 ·rename_i _ _ id
  split at h
  ·rename_i ty a0 rest hid
   split at h
   ·rename_i hty
    simp only [RelAs] at hr
    obtain ⟨v, r0, rfl, hv, rfl⟩ := hr
    simp only [RelA,Nat.zero_mul,Nat.add_zero] at hv
    obtain ⟨rfl, _⟩ := hv
    obtain ⟨own, nS, hO⟩ := I.obj id _ _ hid
    obtain ⟨x, hx, hT⟩ := own.shape
    have hx2 : (E.m id).2.1 = 0 ∧ x = ty := by
     rcases hT with hT | hT
     ·simp at hT
     ·exact ⟨hT.2, by simpa using hT.1.symm⟩
    obtain ⟨hoff, rfl⟩ := hx2
    obtain ⟨hs, hcells⟩ := hO 0 _ rfl
    obtain ⟨u0, hu0, hr0, _⟩ := hcells 0 a0 rfl
    simp only [hoff,Nat.zero_mul,Nat.add_zero,Nat.zero_add] at hu0 ⊢
    split at h
    ·simp only [Option.some.injEq,Prod.mk.injEq] at h
     obtain ⟨rfl, rfl⟩ := h
     simp only [RelA,RelD] at hr0
     subst hr0
     refine (K.fresh _ _ E.w hty hu0 hx (own.free 0 (Nat.le_refl _))).mono fun e w' he => ?_
     obtain ⟨rfl, rfl⟩ := he
     have X := ext_write (es' := [.ptr id 0 0 :: rest]) I hid 0 [.pointer (some ⟨(E.m id).1, 0, none⟩)]
     have hO' : RelO ⟨E.w.setCells (E.m id).1 0 [.pointer (some ⟨(E.m id).1, 0, none⟩)], E.S, E.m, E.H.set id (.obj (some x) [.ptr id 0 0 :: rest])⟩ [.ptr id 0 0 :: rest] (E.m id).1 (E.m id).2.1 (E.m id).2.2 := by
      intro i e he
      cases i with
      | succ i => simp at he
      | zero =>
       simp at he; subst he
       refine ⟨by simpa using hs, fun j a ha => ?_⟩
       match j, ha with
       | 0, ha =>
        simp at ha; subst ha
        refine ⟨.pointer (some ⟨(E.m id).1, 0, none⟩), ?_, ?_, by simp [cellOk]⟩
        ·simp only [hoff,Nat.zero_mul,Nat.add_zero,World.setCells]
         exact World.cell?_setCell_same _ _ _ hu0
        ·simp only [RelA,hoff,Nat.zero_mul,Nat.add_zero]
         exact ⟨trivial, by simpa using (X.obj id ⟨_, _, hid⟩).1⟩
       | j + 1, ha =>
        obtain ⟨u1, hu1, hr1, hk1⟩ := hcells (j + 1) a (by simpa using ha)
        simp only [hoff,Nat.zero_mul,Nat.zero_add] at hu1
        refine ⟨u1, ?_, relA_ext X a u1 hr1, hk1⟩
        simp only [hoff,Nat.zero_mul,Nat.zero_add,World.setCells]
        rw [World.cell?_setCell_other _ _ _ _ (by simp)]
        exact hu1
     obtain ⟨I', X'⟩ := I.store hid 0 [.pointer (some ⟨(E.m id).1, 0, none⟩)] hO'
     exact ⟨_, _, rfl, rfl, rfl, I', X', by simp only [RelA,RelAs]; exact ⟨[], rfl, rfl⟩⟩
    ·rename_i id'
     split at h
     ·rename_i hid'
      subst hid'
      simp only [Option.some.injEq,Prod.mk.injEq] at h
      obtain ⟨rfl, rfl⟩ := h
      simp only [RelA,Nat.zero_mul,Nat.add_zero,hoff] at hr0
      obtain ⟨rfl, _⟩ := hr0
      refine (K.used _ E.w hu0).mono fun e w' he => ?_
      obtain ⟨rfl, rfl⟩ := he
      exact ⟨_, E, rfl, rfl, rfl, I, Ext.refl B E, by simp only [RelA,RelAs]; exact ⟨[], rfl, rfl⟩⟩
     ·simp at h
    ·simp at h
   ·simp at h
  ·simp at h
 ·simp at h
theorem stE_sound (K : Emb P cc st ok tb) {args : List AV} {H : Heap} {r : AV} {H' : Heap} (h : stE ok tb args H = some (r, H')) : CallsA P B st args H r H' := by
 refine ⟨K.est, fun E vs I hE hr => ?_⟩
 subst hE
 unfold stE at h
 split at h
 ·rename_i _ _ id
  split at h
  ·rename_i ty a0 s es tok rest hid
   split at h
   ·rename_i ty' n l htok hby
    split at h
    ·rename_i hc
     obtain ⟨_, rfl, rfl, rfl, hpos, hmax⟩ := hc
     simp only [Option.some.injEq,Prod.mk.injEq] at h
     obtain ⟨rfl, rfl⟩ := h
     simp only [RelAs] at hr
     obtain ⟨v, r0, rfl, hv, rfl⟩ := hr
     simp only [RelA,Nat.zero_mul,Nat.add_zero] at hv
     obtain ⟨rfl, _⟩ := hv
     obtain ⟨hlen, hget⟩ := bytesE_get hby
     obtain ⟨own, nS, hO⟩ := I.obj id _ _ hid
     obtain ⟨x, hx, hT⟩ := own.shape
     have hoff : (E.m id).2.1 = 0 := by
      rcases hT with hT | hT
      ·simp at hT
      ·exact hT.2
     obtain ⟨hs, hcells⟩ := hO 0 _ rfl
     obtain ⟨u1, hu1, hr1, _⟩ := hcells 1 _ rfl
     simp only [hoff,Nat.zero_mul,Nat.add_zero,Nat.zero_add] at hu1 ⊢
     simp only [RelA] at hr1
     obtain ⟨b, c, rfl, hle, hes, _, n', hn', _, hg⟩ := hr1
     rw [htok] at hn'
     injection hn' with hn'
     injection hn' with _ hn'
     obtain ⟨bl, o, rfl, hbl, ho, _⟩ := hg hn'.symm
     have hE : RelE E.w E.S es bl o 1 := by
      rcases hes with rfl | ⟨bl', o', hb', he⟩
      ·simp only [RelE]
      ·simp only [Option.some.injEq,Addr.mk.injEq] at hb'
       obtain ⟨rfl, rfl, _⟩ := hb'
       exact he
     obtain ⟨ownT, nST⟩ := I.hw tok _ _ htok
     rw [hbl] at ownT
     obtain ⟨⟨tx, cells⟩, hshT, hTT⟩ := ownT.shape
     simp only [tyH] at hTT
     subst hTT
     have hcell : ∀ j x, l[j]? = some x → E.w.cell? ⟨bl, o + j, none⟩ = some (.int .u8 x.toNat) := by
      intro j x hx
      obtain ⟨_, hC⟩ := relE_get hE (hget j x hx)
      obtain ⟨v, hv, _, _, hd⟩ := relC_get hC (j := 0) rfl
      simp only [RelD] at hd
      subst hd
      simpa using hv
     obtain ⟨cs, lo, hi, hblk⟩ : ∃ cs lo hi, E.w.heap[bl]? = some (.cells cs tx (lo, hi)) ∧ cs.size = cells := by
      simp only [World.shape?] at hshT
      split at hshT
      ·rename_i c0 e0 f0 hh
       simp only [Option.some.injEq,Prod.mk.injEq] at hshT
       obtain ⟨rfl, rfl⟩ := hshT
       exact ⟨c0, f0.1, f0.2, hh, rfl⟩
      ·simp at hshT
     have hfit : o + l.length ≤ cells := by
      have hlast : (l[l.length - 1]?) = some (l[l.length - 1]'(by omega)) := List.getElem?_eq_getElem _
      have := hcell _ _ hlast
      simp only [World.cell?,hblk.1] at this
      have := (Array.getElem?_eq_some_iff.1 (by simpa using this)).1
      omega
     rw [hlen] at hu1 hle
     have hl0 : l ≠ [] := by intro e; subst e; simp at hpos
     refine (K.text _ bl o c cells l E.w hu1 hl0 hle hmax hshT hfit hcell).mono fun e w' he => ?_
     obtain ⟨rfl, rfl⟩ := he
     have hblk' : E.w.drew.heap[bl]? = some (.cells cs tx (lo, hi)) := hblk.1
     have htl := (List.getElem?_eq_some_iff.1 htok).1
     let m' : Nat → Nat × Nat × Nat := fun k => if k = tok then (bl, max hi (o + l.length), (E.m tok).2.2) else E.m k
     have e1 : ∀ k, (m' k).1 = (E.m k).1 := fun k => by
      by_cases hk : k = tok
      ·subst hk; simp only [m',if_true,hbl]
      ·simp only [m',if_neg hk]
     have hfc : ∀ p, (E.w.drew.freeze ⟨bl, o, none⟩ l.length).cell? p = E.w.cell? p := fun p => freeze_cell (a := ⟨bl, o, none⟩) hblk'
     have hfs : ∀ b, (E.w.drew.freeze ⟨bl, o, none⟩ l.length).shape? b = E.w.shape? b := fun p => freeze_shape (a := ⟨bl, o, none⟩) hblk'
     have hsz : (E.w.drew.freeze ⟨bl, o, none⟩ l.length).heap.size = E.w.heap.size := freeze_size
     have hne : ∀ k, k ≠ bl → (E.w.drew.freeze ⟨bl, o, none⟩ l.length).heap[k]? = E.w.heap[k]? := fun k hk => freeze_ne hk
     have X : Ext B E ⟨E.w.drew.freeze ⟨bl, o, none⟩ l.length, E.S, m', E.H.set tok (.hw tx (es.length + 1))⟩ := {
      ss := fun _ _ h => h
      cell := fun b k _ => hfc _
      size := by simp only [hsz]; exact Nat.le_refl _
      low := fun k hk => hne k (fun e => ownT.base (by subst e; exact hk))
      there := fun b k h => by rw [hfc]; exact h
      snew := fun _ _ h => .inl h
      os := by unfold World.freeze; split <;> rfl
      tape := by unfold World.freeze; split <;> rfl
      output := by unfold World.freeze; split <;> rfl
      len := by simp
      obj := fun i hi => by
       have hit : i ≠ tok := fun e => by subst e; obtain ⟨_, q, hq⟩ := hi; rw [htok] at hq; simp at hq
       exact ⟨isObj_set hi (fun e => absurd e hit), by simp only [m',if_neg hit]⟩
      hw := fun i ty2 k hk => by
       by_cases hit : i = tok
       ·subst hit
        rw [htok] at hk
        injection hk with hk
        injection hk with hk1 hk2
        subst hk1; subst hk2
        exact ⟨es.length + 1, by simp only; rw [List.getElem?_set_self htl], by omega, fun he => by omega⟩
       ·exact ⟨k, by simp only; rw [List.getElem?_set_ne (fun e => hit e.symm)]; exact hk, Nat.le_refl _, fun _ => by simp only [m',if_neg hit]⟩ }
     have I' : Inv B ⟨E.w.drew.freeze ⟨bl, o, none⟩ l.length, E.S, m', E.H.set tok (.hw tx (es.length + 1))⟩ := by
      refine ⟨by simp only [hsz]; exact I.szB, fun b k hs => by simp only [hsz]; exact I.sS b k hs, fun i ty2 es2 h2 => ?_, fun i ty2 k hk => ?_, fun p q hp hq h => ?_⟩
      ·have hit : i ≠ tok := fun e => by subst e; simp only [List.getElem?_set_self htl] at h2; simp at h2
       simp only [List.getElem?_set_ne (fun e => hit e.symm)] at h2
       obtain ⟨a1, a2, a3⟩ := I.obj i ty2 es2 h2
       have hb : (E.m i).1 ≠ bl := fun e => hit (I.inj i tok (List.getElem?_eq_some_iff.1 h2).1 htl (e.trans hbl.symm))
       simp only [m',if_neg hit]
       refine ⟨⟨a1.base, by simp only [hsz]; exact a1.lt, fun k hk => ?_, by simp only [hfs]; exact a1.shape⟩, a2, a3.ext X fun k => hfc _⟩
       simp only [World.frozen?,hne _ hb]
       exact a1.free k hk
      ·by_cases hit : i = tok
       ·subst hit
        simp only [List.getElem?_set_self htl] at hk
        injection hk with hk
        injection hk with hk _
        subst hk
        simp only [m',if_true]
        refine ⟨⟨ownT.base, by simp only [hsz]; exact ownT.lt, fun k hk => ?_, ⟨(tx, cells), by rw [hfs]; exact hshT, rfl⟩⟩, fun k hk hs' => ?_⟩
        ·obtain ⟨lo', hi', h1, h2⟩ := freeze_at (w := E.w.drew) (a := ⟨bl, o, none⟩) (n := l.length) (by omega) hblk'
         simp only at h1
         simp only [World.frozen?,h1]
         simp only at h2
         have : ¬ k < hi' := by omega
         simp [this]
        ·rw [hbl, ho] at nST
         exact nST k (by rw [hlen]; omega) hs'
       ·simp only [List.getElem?_set_ne (fun e => hit e.symm)] at hk
        obtain ⟨a1, a2⟩ := I.hw i ty2 k hk
        have hb : (E.m i).1 ≠ bl := fun e => hit (I.inj i tok (List.getElem?_eq_some_iff.1 hk).1 htl (e.trans hbl.symm))
        simp only [m',if_neg hit]
        refine ⟨⟨a1.base, by simp only [hsz]; exact a1.lt, fun k hk => ?_, by simp only [hfs]; exact a1.shape⟩, a2⟩
        simp only [World.frozen?,hne _ hb]
        exact a1.free k hk
      ·exact I.inj p q (by simpa using hp) (by simpa using hq) (by rw [← e1 p, ← e1 q]; exact h)
     exact ⟨_, _, rfl, rfl, rfl, I', X, by simp only [RelA,RelD]⟩
    ·simp at h
   ·simp at h
  ·simp at h
 ·simp at h
theorem strO_sound (K : Emb P cc st ok tb) {Ψ : Oracle} (S : Sound P B Ψ) : Sound P B (strO cc st ok tb Ψ) := fun f args H r H' h => by
 unfold strO at h
 split at h
 ·rename_i e; subst e; exact ccE_sound K h
 ·split at h
  ·rename_i e; subst e; exact stE_sound K h
  ·exact S f args H r H' h
end
def idxO (ib : FuncId) (Ψ : Oracle) : Oracle := fun f args H =>
 if f = ib then match args with
  | [.im (.str s), .im (.int .u8 c)] => some (.im (.int .i64 (Lib.indexByte s c.toNat.toUInt8)), H)
  | _ => none
 else Ψ f args H
structure Idxs (P : Program) (ib : FuncId) : Prop where
 enters : Enters P ib
 idx : ∀ (s : ByteArray) (c : Int) (w : World), Calls P ib #[.string s, .int .u8 c] w fun e w' => e = .returned (.int .i64 (Lib.indexByte s.data.toList c.toNat.toUInt8)) ∧ w' = w
theorem idxO_sound {P : Program} {B : Nat → Prop} {ib : FuncId} {Ψ : Oracle} (K : Idxs P ib) (S : Sound P B Ψ) : Sound P B (idxO ib Ψ) := fun f args H r H' h => by
 unfold idxO at h
 split at h
 ·rename_i e
  subst e
  split at h
  ·rename_i s c
   simp only [Option.some.injEq,Prod.mk.injEq] at h
   obtain ⟨rfl, rfl⟩ := h
   refine ⟨K.enters, fun E vs I hE hr => ?_⟩
   subst hE
   simp only [RelAs,RelA,RelD] at hr
   obtain ⟨v, r, rfl, rfl, u, r', rfl, rfl, rfl⟩ := hr
   refine (K.idx ⟨s.toArray⟩ c E.w).mono fun e w' he => ?_
   obtain ⟨rfl, rfl⟩ := he
   exact ⟨_, E, rfl, rfl, rfl, I, Ext.refl B E, by simp only [RelA,RelD]⟩
  ·simp at h
 ·exact S f args H r H' h
end Go.Abs
end
