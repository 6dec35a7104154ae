/- Part 2 of what the claim rests on. -/
import Derived.ScopeJumps
import Derived.ProofKit
import Derived.Test.YtadhcgjcgfejcaaGreatDoorLinesA
section
set_option linter.unusedVariables false
set_option linter.unusedSimpArgs false
namespace Go.Abs
def Enters (P : Program) (f : FuncId) : Prop := ∃ fn c, P.funcs[f]? = some fn ∧ (fn.name == "runtime.NumGoroutine") = false ∧ fn.body = some c
def CallsA (P : Program) (B : Low) (f : FuncId) (args : List AV) (H : Heap) (r : AV) (H' : Heap) : Prop :=
 Enters P f ∧ ∀ (E : Env) (vs : List Value), Inv B E → E.H = H → RelAs E args vs →
  Calls P f ⟨vs⟩ E.w fun e w' => ∃ v E', e = .returned v ∧ E'.w = w' ∧ E'.H = H' ∧ Inv B E' ∧ Ext B E E' ∧ RelA E' r v
def Sound (P : Program) (B : Low) (Φ : Oracle) : Prop := ∀ f args H r H', Φ f args H = some (r, H') → CallsA P B f args H r H'
def RelT (E : Env) (tm : List AV) (a : Act) : Prop := RelAs E tm a.tmps.toList ∧ a.defers = []
section
variable {P : Program} {B : Low} {E : Env} {tm : List AV} {a : Act}
theorem relT_get (h : RelT E tm a) (n : Nat) : RelA E (tm.getD n undefA) (a.tmps.getD n undef) := by
 have hl := relAs_length h.1
 by_cases hn : n < tm.length
 ·obtain ⟨v, hv, hr⟩ := relAs_get h.1 (List.getElem?_eq_getElem hn)
  have hv' : a.tmps[n]? = some v := by simpa using hv
  have e1 : tm.getD n undefA = tm[n] := by simp [List.getD, hn]
  have e2 : a.tmps.getD n undef = v := by
   rw [Array.getD_eq_getD_getElem?, hv']; rfl
  rw [e1, e2]; exact hr
 ·have e1 : tm.getD n undefA = undefA := by simp [List.getD, List.getElem?_eq_none (Nat.le_of_not_lt hn)]
  have e2 : a.tmps.getD n undef = undef := by
   rw [Array.getD_eq_getD_getElem?, Array.getElem?_eq_none (by simp at hl; omega)]; rfl
  rw [e1, e2]; exact relA_undef
theorem rel_opd (h : RelT E tm a) : ∀ x : Operand, RelA E (ev tm (cO x)) (a.eval x)
 | .tmp t => relT_get h t
 | .const v => relA_ofVal E v
 | .global g => by simp only [cO,ev,RelA]
 | .func f => by simp only [cO,ev,RelA,RelAs,Act.eval]; exact ⟨[], rfl, rfl⟩
theorem relT_put (h : RelT E tm a) (dst : Option Nat) {r : AV} {v : Value} (hr : RelA E r v) : RelT E (putA tm dst r) (a.put dst v) := by
 cases dst with
 | none => exact h
 | some d =>
  refine ⟨?_, h.2⟩
  have hl := relAs_length h.1
  simp only [putA,Act.put,Array.toList_setIfInBounds]
  refine relAs_mk (by simpa using hl) fun j x u hx hu => ?_
  by_cases hj : j = d
  ·subst hj
   by_cases hlt : j < tm.length
   ·rw [List.getElem?_set_self hlt] at hx
    rw [List.getElem?_set_self (by omega)] at hu
    injection hx with hx; injection hu with hu; subst hx hu; exact hr
   ·rw [List.getElem?_eq_none (by simp; omega)] at hx; simp at hx
  ·rw [List.getElem?_set_ne (fun e => hj e.symm)] at hx hu
   obtain ⟨w, hw, hrel⟩ := relAs_get h.1 hx
   rw [hw] at hu; injection hu with hu; subst hu; exact hrel
theorem relT_ext {E' : Env} (X : Ext B E E') (h : RelT E tm a) : RelT E' tm a := ⟨relAs_ext X _ _ h.1, h.2⟩
def compGuard (ops : Array Oper) (g : Option (Nat × Bool)) : Option (Nat × Bool) × Bool :=
 match g with
 | none => (none, true)
 | some (j, want) => match (ops[j]?).bind (·.dst) with
  | some d => (some (d, want), true)
  | none => (none, false)
def compOper (P : Program) (lit : Lit) (ops : Array Oper) (o : Oper) : AOper :=
 { dst := o.dst, op := if (compGuard ops o.guard).2 then compOp P lit o.op else .bad, guard := (compGuard ops o.guard).1 }
theorem wanted_spec (h : RelT E tm a) {ops : Array Oper} {o : Oper} {b : Bool} (hg : (compGuard ops o.guard).2 = true) (hw : wantedA tm (compGuard ops o.guard).1 = some b) :
  Region.wanted o (yielded ops a.tmps) = b := by
 unfold compGuard at hg hw
 unfold Region.wanted
 cases hgu : o.guard with
 | none => rw [hgu] at hw; simp only [wantedA] at hw; injection hw with hw
 | some p =>
  obtain ⟨j, want⟩ := p
  rw [hgu] at hg hw
  simp only at hg hw ⊢
  cases hd : (ops[j]?).bind (·.dst) with
  | none => rw [hd] at hg; simp at hg
  | some d =>
   rw [hd] at hw
   simp only [wantedA] at hw
   split at hw
   ·rename_i t ht
    injection hw with hw; subst hw
    obtain ⟨v, hv, hr⟩ := relAs_get h.1 ht
    simp only [RelA,RelD] at hr; subst hr
    have hv' : a.tmps[d]? = some (.bool t) := by simpa using hv
    simp [yielded, hd, hv']
   ·rename_i ht
    injection hw with hw; subst hw
    obtain ⟨v, hv, hr⟩ := relAs_get h.1 ht
    simp only [RelA,RelAs] at hr
    obtain ⟨vs, rfl, rfl⟩ := hr
    have hv' : a.tmps[d]? = some (.tuple ⟨[]⟩) := by simpa using hv
    simp [yielded, hd, hv']
   ·simp at hw
theorem isCall_of {op : Op} {lit : Lit} {f : AOpd} {args : List AOpd} {d : Bool} (h : compOp P lit op = .call d f args) : ∃ c g, op = .call c ∧ c.callee = .value g ∧ f = cO g ∧ args = c.args.toList.map cO := by
 cases op <;> simp only [compOp] at h
 case call c =>
  cases hc : c.callee with
  | value g => rw [hc] at h; simp only [AOp.call.injEq] at h; exact ⟨c, g, rfl, hc, h.2.1.symm, h.2.2.symm⟩
  | builtin b =>
   rw [hc] at h
   simp only [compBuiltin] at h
   exfalso
   (repeat' split at h) <;> simp at h
  | invoke _ _ => rw [hc] at h; simp at h
 all_goals exfalso
 all_goals first
  |(simp at h; done)
  |(simp only [compBuild,compSlice,compBin,compConv,compFieldAddr,compField,compIndexAddr,compIndex,compSliceE,compFunc] at h; (repeat' split at h) <;> simp at h; done)
  |((repeat' split at h) <;> simp at h; done)
theorem dgA_rel {a : AV} {v : Value} (d : Bool) (h : RelA E a v) : RelA E (dgA d a) v := by
 unfold dgA
 split
 ·split
  ·rename_i x hx
   simp only [RelA]
   exact relD_of_toDat a v x h hx
  ·exact h
 ·exact h
theorem oper_wp {Φ : Oracle} (S : Sound P B Φ) (I : Inv B E) (h : RelT E tm a) {lit : Lit} {o : Oper} {r : AV} {H' : Heap} (hop : aopc Φ E.H tm (compOp P lit o.op) = some (r, H')) {next : Act → World → Prop} {Q : Exit → Act → World → Prop}
  (hn : ∀ a' E', (∃ v, a' = a.put o.dst v) → Inv B E' → Ext B E E' → E'.H = H' → RelT E' (putA tm o.dst r) a' → next a' E'.w) : o.wp P a E.w next Q := by
 have hρ := rel_opd h
 unfold Oper.wp
 cases hc : compOp P lit o.op
 case call d f args =>
  rw [hc] at hop
  simp only [aopc] at hop
  obtain ⟨c, g, ho, hcal, rfl, rfl⟩ := isCall_of hc
  split at hop
  ·rename_i q cap hq
   have hg := hρ g
   rw [hq] at hg
   simp only [RelA] at hg
   obtain ⟨vs, hv, hcap⟩ := hg
   obtain ⟨⟨fn, body, hfn, hname, hbody⟩, hcall⟩ := S _ _ _ _ _ hop
   have hargs := relAs_map (E := E) (ρa := fun y => dgA d (ev tm y)) (ρ := a.eval) (fun x => dgA_rel d (hρ x)) c.args.toList
   have hrel := relAs_append hargs hcap
   have hC := hcall E _ I rfl hrel
   have hname' : (fn.name = "runtime.NumGoroutine") = False := by simpa using hname
   have hrun : (execOp a.eval o).run P E.w = .ok (.enter q ⟨c.args.toList.map a.eval ++ vs⟩) E.w := by
    simp only [execOp,ho,resolve,hcal,Deferred.ofValue,hv,Sem.run_bind,Sem.run_pure,Result.andThen_ok,invoke,callFunc,run_program,hfn]
    simp only [hname,Bool.false_eq_true,if_false,hbody,Option.isNone_some,Sem.run_pure]
    congr 2
    simp
   rw [hrun]
   simp only [Oper.upon]
   refine hC.mono fun e w' he => ?_
   obtain ⟨v, E', rfl, rfl, hH, I', X, hr⟩ := he
   exact hn _ E' ⟨_, rfl⟩ I' X hH (relT_put (relT_ext X h) _ hr)
  ·simp at hop
 all_goals
  have hop' : aop E.H (ev tm) (compOp P lit o.op) = some (r, H') := by rw [hc] at hop ⊢; exact hop
  obtain ⟨nx, v, E', h1, h2, h3, I', X, hr⟩ := op_sound (o := o) I hρ hop'
  rw [h1]
  rcases h2 with rfl | ⟨rfl, rfl⟩
  ·simp only [Oper.upon]
   exact hn _ E' ⟨_, rfl⟩ I' X h3 (relT_put (relT_ext X h) _ hr)
  ·simp only [Oper.upon]
   exact hn _ E' ⟨_, rfl⟩ I' X h3 (relT_put (relT_ext X h) _ hr)
theorem relT_skip (h : RelT E tm a) (dst : Option Nat) : RelT E (putA tm dst undefA) (a.put dst undef) := relT_put h dst relA_undef
structure Went (Φ : Oracle) (l : List AOper) (T : Nat → List AV) (G : Nat → Heap) (R : Nat → AV) : Prop where
 step : ∀ i o, l[i]? = some o → T (i + 1) = putA (T i) o.dst (R i) ∧
  ((wantedA (T i) o.guard = some true ∧ aopc Φ (G i) (T i) o.op = some (R i, G (i + 1))) ∨ (wantedA (T i) o.guard = some false ∧ R i = undefA ∧ G (i + 1) = G i))
theorem Went.cons {Φ : Oracle} {o : AOper} {l : List AOper} {tm : List AV} {H : Heap} {T : Nat → List AV} {G : Nat → Heap} {R : Nat → AV} {v : AV} (h : Went Φ l T G R) (h0 : T 0 = putA tm o.dst v)
  (hs : (wantedA tm o.guard = some true ∧ aopc Φ H tm o.op = some (v, G 0)) ∨ (wantedA tm o.guard = some false ∧ v = undefA ∧ G 0 = H)) :
  Went Φ (o :: l) (fun i => match i with | 0 => tm | i + 1 => T i) (fun i => match i with | 0 => H | i + 1 => G i) (fun i => match i with | 0 => v | i + 1 => R i) where
 step i q hq := by
  cases i with
  | zero => simp at hq; subst hq; exact ⟨h0, hs⟩
  | succ i => exact h.step i q (by simpa using hq)
theorem xops_went {R₀ : Type} {Φ : Oracle} : ∀ {l : List AOper} {tr : List (List AV × Heap)} {tm : List AV} {H : Heap} {K : List (List AV × Heap) → List AV → Heap → Option R₀} {x : R₀}, xops Φ l tr tm H K = some x →
  ∃ T G R, Went Φ l T G R ∧ T 0 = tm ∧ G 0 = H ∧ ∃ sts : List (List AV × Heap), sts.length = l.length ∧ (∀ i, i < l.length → sts[i]? = some (T i, G i)) ∧ K (sts.reverse ++ tr) (T l.length) (G l.length) = some x
 | [], tr, tm, H, K, x, h => by
  simp only [xops] at h
  exact ⟨fun _ => tm, fun _ => H, fun _ => undefA, ⟨fun i o ho => by simp at ho⟩, rfl, rfl, [], rfl, by simp, h⟩
 | o :: l, tr, tm, H, K, x, h => by
  simp only [xops] at h
  split at h
  ·rename_i hw
   split at h
   ·rename_i v H' hv
    obtain ⟨T, G, R, hW, hT, hG, sts, h1, h2, h3⟩ := xops_went h
    refine ⟨_, _, _, hW.cons (tm := tm) (H := H) hT (.inl ⟨hw, by rw [hG]; exact hv⟩), rfl, rfl, (tm, H) :: sts, by simp [h1], ?_, ?_⟩
    ·intro i hi
     cases i with
     | zero => rfl
     | succ i => simpa using h2 i (by simpa using hi)
    ·simpa using h3
   ·simp at h
  ·rename_i hw
   obtain ⟨T, G, R, hW, hT, hG, sts, h1, h2, h3⟩ := xops_went h
   refine ⟨_, _, _, hW.cons (tm := tm) (H := H) (v := undefA) hT (.inr ⟨hw, rfl, hG⟩), rfl, rfl, (tm, H) :: sts, by simp [h1], ?_, ?_⟩
   ·intro i hi
    cases i with
    | zero => rfl
    | succ i => simpa using h2 i (by simpa using hi)
   ·simpa using h3
  ·simp at h
def Post (B : Low) (E : Env) (tm : List AV) (H : Heap) (a : Act) (w : World) : Prop := ∃ E', E'.w = w ∧ E'.H = H ∧ Inv B E' ∧ Ext B E E' ∧ RelT E' tm a
theorem compOper_guard {lit : Lit} {ops : Array Oper} {o : Oper} {Φ : Oracle} {H : Heap} {tm : List AV} {r : AV} {H' : Heap} (h : aopc Φ H tm (compOper P lit ops o).op = some (r, H')) :
  (compGuard ops o.guard).2 = true ∧ aopc Φ H tm (compOp P lit o.op) = some (r, H') := by
 simp only [compOper] at h
 split at h
 ·rename_i hg; exact ⟨hg, h⟩
 ·simp [aopc, aop] at h
theorem text_wp {Φ : Oracle} (S : Sound P B Φ) {lit : Lit} {ops : Array Oper} (hguards : ∀ o ∈ ops.toList, (compGuard ops o.guard).2 = true) {T : Nat → List AV} {G : Nat → Heap} {R : Nat → AV} (hW : Went Φ (ops.toList.map (compOper P lit ops)) T G R) {Q : Exit → Act → World → Prop} {E0 : Env}
  (hQ : ∀ a w, Post B E0 (T ops.size) (G ops.size) a w → Q .normal a w) :
  ∀ (n i : Nat), i + n = ops.size → ∀ a w, Post B E0 (T i) (G i) a w → wpOps P ops Q (List.range' i n) a w
 | 0, i, hi, a, w, h => by
  simp only [List.range'_zero,wpOps]
  have : i = ops.size := by omega
  subst this
  exact hQ a w h
 | n + 1, i, hi, a, w, h => by
  have hlt : i < ops.size := by omega
  have hoi : ops[i]? = some ops[i] := by simp [hlt]
  have hl : (ops.toList.map (compOper P lit ops))[i]? = some (compOper P lit ops ops[i]) := by simp [hlt]
  obtain ⟨hT, hs⟩ := hW.step i _ hl
  obtain ⟨E, rfl, hH, I, X, hR⟩ := h
  have ih := text_wp S hguards hW hQ n (i + 1) (by omega)
  simp only [List.range'_succ,wpOps,hoi]
  have hg := hguards ops[i] (by simp)
  rcases hs with ⟨hw, hop⟩ | ⟨hw, hr, hGe⟩
  ·rw [wanted_spec hR (ops := ops) hg hw]
   simp only [if_true]
   left
   obtain ⟨_, hop'⟩ := compOper_guard hop
   rw [← hH] at hop'
   refine oper_wp S I hR hop' fun a' E' _ I' X' hH' hR' => ?_
   exact ih _ _ ⟨E', rfl, hH', I', X.trans X', by rw [hT]; exact hR'⟩
  ·rw [wanted_spec hR (ops := ops) hg hw]
   simp only [Bool.false_eq_true,if_false]
   refine ih _ _ ⟨E, rfl, by rw [hGe]; exact hH, I, X, ?_⟩
   rw [hT, hr]
   exact relT_skip hR _
end
end Go.Abs
end
section
set_option linter.unusedVariables false
set_option linter.unusedSimpArgs false
namespace Go.Abs
def ordB (b : Array Nat) (i j : Nat) : Bool := (b.getD j 0).testBit i
def tmpsOf (o : AOper) : List Nat := ((opnds o.op).filterMap fun | .t n => some n | .c _ => none) ++ o.dst.toList ++ (o.guard.map (·.1)).toList
def openPairs (b : Array Nat) (l : List AOper) : List (Nat × Nat) :=
 (List.range l.length).flatMap fun i => (List.range l.length).filterMap fun e =>
  if ((l[i]?).any fun o => cls o.op == 1) && ((l[e]?).any fun o => cls o.op == 2) && !ordB b i e && !ordB b e i then some (i, e) else none
def drawOk (ops : Array Oper) (l : List AOper) : Bool :=
 let b := Region.before ops
 ((List.range l.length).all fun j => (l[j]?).all fun o => (tmpsOf o).all fun t => (List.range l.length).all fun d => d == j || !((l[d]?).any fun q => q.dst == some t) || ordB b (min d j) (max d j)) &&
 ((List.range l.length).all fun j => (List.range j).all fun i => !((l[i]?).any fun o => cls o.op == 2) || !((l[j]?).any fun o => cls o.op == 2) || ordB b i j) &&
 ((List.range ops.size).all fun i => (ops[i]?).all fun o => o.after.all fun e => !Region.binds .any e || e.on < i)
section
variable {ops : Array Oper}
def Closed (ops : Array Oper) (L : Nat → Prop) : Prop := ∀ j o, ops[j]? = some o → L j → ∀ e ∈ o.after, Region.binds .any e = true → L e.on
def edgesUp (acc : Array Nat) (after : Array Edge) : Nat := after.foldl (fun s e => if Region.binds .any e then s ||| 2 ^ e.on ||| acc.getD e.on 0 else s) 0
theorem edgesUp_bit (acc : Array Nat) (i : Nat) : ∀ (l : List Edge) (s : Nat), (l.foldl (fun s e => if Region.binds .any e then s ||| 2 ^ e.on ||| acc.getD e.on 0 else s) s).testBit i = true →
  s.testBit i = true ∨ ∃ e ∈ l, Region.binds .any e = true ∧ (e.on = i ∨ (acc.getD e.on 0).testBit i = true)
 | [], s, h => .inl h
 | e :: l, s, h => by
  simp only [List.foldl_cons] at h
  rcases edgesUp_bit acc i l _ h with h | ⟨x, hx, hb⟩
  ·split at h
   ·rename_i hb
    simp only [Nat.testBit_or,Bool.or_eq_true] at h
    rcases h with (h | h) | h
    ·exact .inl h
    ·right
     refine ⟨e, by simp, hb, .inl ?_⟩
     rw [Nat.testBit_two_pow] at h
     simpa using h
    ·exact .inr ⟨e, by simp, hb, .inr h⟩
   ·exact .inl h
  ·exact .inr ⟨x, by simp [hx], hb⟩
theorem closed_list {L : Nat → Prop} : ∀ (l : List Oper) (acc : Array Nat) (k : Nat), acc.size = k → (∀ j o, l[j]? = some o → L (k + j) → ∀ e ∈ o.after, Region.binds .any e = true → L e.on) →
  (∀ j, j < acc.size → L j → ∀ i, (acc.getD j 0).testBit i = true → L i) → ∀ j, L j → ∀ i, ((l.foldl (fun acc o => acc.push (edgesUp acc o.after)) acc).getD j 0).testBit i = true → L i
 | [], acc, k, hk, hl, ha, j, hj, i, hi => by
  simp only [List.foldl_nil] at hi
  by_cases hlt : j < acc.size
  ·exact ha j hlt hj i hi
  ·simp [Array.getD_eq_getD_getElem?, Array.getElem?_eq_none (Nat.le_of_not_lt hlt)] at hi
 | o :: l, acc, k, hk, hl, ha, j, hj, i, hi => by
  simp only [List.foldl_cons] at hi
  refine closed_list l (acc.push (edgesUp acc o.after)) (k + 1) (by simp [hk]) (fun j o' ho hL => ?_) (fun j hlt hL i hi => ?_) j hj i hi
  ·exact hl (j + 1) o' (by simpa using ho) (by rwa [show k + (j + 1) = k + 1 + j by omega])
  ·simp only [Array.size_push] at hlt
   by_cases hjk : j < acc.size
   ·refine ha j hjk hL i ?_
    simpa [Array.getD_eq_getD_getElem?, Array.getElem?_push, Nat.ne_of_lt hjk] using hi
   ·have : j = acc.size := by omega
    subst this
    simp only [Array.getD_eq_getD_getElem?,Array.getElem?_push,if_true,Option.getD_some] at hi
    unfold edgesUp at hi
    rw [← Array.foldl_toList] at hi
    rcases edgesUp_bit acc i _ 0 hi with h | ⟨e, he, hb, h⟩
    ·simp at h
    ·have hLe := hl 0 o rfl (by rw [← hk]; exact hL) e (by simpa using he) hb
     rcases h with h | h
     ·rw [← h]; exact hLe
     ·have hlt' : e.on < acc.size := by
       rcases Nat.lt_or_ge e.on acc.size with h' | h'
       ·exact h'
       ·simp [Array.getD_eq_getD_getElem?, Array.getElem?_eq_none h'] at h
      exact ha e.on hlt' hLe i h
theorem before_eq : Region.before ops = ops.toList.foldl (fun acc o => acc.push (edgesUp acc o.after)) #[] := by
 unfold Region.before edgesUp
 rw [← Array.foldl_toList]
theorem before_closed {L : Nat → Prop} (hc : Closed ops L) {i j : Nat} (hj : L j) (h : ordB (Region.before ops) i j = true) : L i := by
 unfold ordB at h
 rw [before_eq] at h
 exact closed_list ops.toList #[] 0 rfl (fun j o ho hL => hc j o (by simpa using ho) (by simpa using hL)) (fun j hlt => by simp at hlt) j hj i h
theorem before_lt (hd : ∀ i o, ops[i]? = some o → ∀ e ∈ o.after, Region.binds .any e = true → e.on < i) {i j : Nat} (h : ordB (Region.before ops) i j = true) : i < j := by
 have key : ∀ (l : List Oper) (acc : Array Nat) (k : Nat), acc.size = k → (∀ q o, l[q]? = some o → ∀ e ∈ o.after, Region.binds .any e = true → e.on < k + q) → (∀ q, q < acc.size → ∀ p, (acc.getD q 0).testBit p = true → p < q) →
   ∀ q p, ((l.foldl (fun acc o => acc.push (edgesUp acc o.after)) acc).getD q 0).testBit p = true → p < q := by
  intro l
  induction l with
  | nil =>
   intro acc k _ _ ha q p hp
   simp only [List.foldl_nil] at hp
   by_cases hlt : q < acc.size
   ·exact ha q hlt p hp
   ·simp [Array.getD_eq_getD_getElem?, Array.getElem?_eq_none (Nat.le_of_not_lt hlt)] at hp
  | cons o l ih =>
   intro acc k hk hl ha q p hp
   simp only [List.foldl_cons] at hp
   refine ih (acc.push (edgesUp acc o.after)) (k + 1) (by simp [hk]) (fun j o' ho e he hb => ?_) (fun j hlt p hp => ?_) q p hp
   ·have := hl (j + 1) o' (by simpa using ho) e he hb; omega
   ·simp only [Array.size_push] at hlt
    by_cases hjk : j < acc.size
    ·refine ha j hjk p ?_
     simpa [Array.getD_eq_getD_getElem?, Array.getElem?_push, Nat.ne_of_lt hjk] using hp
    ·have : j = acc.size := by omega
     subst this
     simp only [Array.getD_eq_getD_getElem?,Array.getElem?_push,if_true,Option.getD_some] at hp
     unfold edgesUp at hp
     rw [← Array.foldl_toList] at hp
     rcases edgesUp_bit acc p _ 0 hp with h | ⟨e, he, hb, h⟩
     ·simp at h
     ·have hlt1 := hl 0 o rfl e (by simpa using he) hb
      rcases h with h | h
      ·omega
      ·have hlt' : e.on < acc.size := by omega
       have := ha e.on hlt' p h
       omega
 unfold ordB at h
 rw [before_eq] at h
 exact key ops.toList #[] 0 rfl (fun q o ho e he hb => by simpa using hd q o (by simpa using ho) e he hb) (fun q hq => by simp at hq) j i h
end
section
variable {P : Program} {B : Low}
def tmAt (T0 : List AV) (dst : Nat → Option Nat) (R : Nat → AV) (L : Nat → Bool) : Nat → List AV
 | 0 => T0
 | k + 1 => if L k then putA (tmAt T0 dst R L k) (dst k) (R k) else tmAt T0 dst R L k
theorem putA_length (tm : List AV) (d : Option Nat) (v : AV) : (putA tm d v).length = tm.length := by cases d <;> simp [putA]
theorem tmAt_length {T0 : List AV} {dst : Nat → Option Nat} {R : Nat → AV} {L : Nat → Bool} : ∀ k, (tmAt T0 dst R L k).length = T0.length
 | 0 => rfl
 | k + 1 => by unfold tmAt; split <;> simp [putA_length, tmAt_length k]
theorem tmAt_get {T0 : List AV} {dst : Nat → Option Nat} {R : Nat → AV} {L L' : Nat → Bool} {t : Nat} : ∀ k, (∀ d, d < k → dst d = some t → L d = L' d) → (tmAt T0 dst R L k)[t]? = (tmAt T0 dst R L' k)[t]?
 | 0, _ => rfl
 | k + 1, h => by
  have ih := tmAt_get (T0 := T0) (R := R) k fun d hd => h d (by omega)
  unfold tmAt
  by_cases hd : dst k = some t
  ·have hL := h k (by omega) hd
   rw [hL]
   split
   ·simp only [hd,putA]
    by_cases hlt : t < T0.length
    ·rw [List.getElem?_set_self (by rw [tmAt_length]; exact hlt), List.getElem?_set_self (by rw [tmAt_length]; exact hlt)]
    ·rw [List.getElem?_eq_none (by rw [List.length_set, tmAt_length]; omega), List.getElem?_eq_none (by rw [List.length_set, tmAt_length]; omega)]
   ·exact ih
  ·have hput : ∀ (tm : List AV), (putA tm (dst k) (R k))[t]? = tm[t]? := fun tm => by
    cases hk : dst k with
    | none => rfl
    | some x => simp only [putA]; rw [List.getElem?_set_ne (fun e => hd (by rw [hk, e]))]
   split <;> split <;> simp only [hput,ih]
theorem tmAt_add {T0 : List AV} {dst : Nat → Option Nat} {R : Nat → AV} {L : Nat → Bool} {i n : Nat} (hi : i < n) (hL : L i = false) (hlate : ∀ d t, i < d → d < n → dst i = some t → dst d = some t → L d = false) :
  tmAt T0 dst R (fun k => if k = i then true else L k) n = putA (tmAt T0 dst R L n) (dst i) (R i) := by
 have low : ∀ k, k ≤ i → tmAt T0 dst R (fun k => if k = i then true else L k) k = tmAt T0 dst R L k := by
  intro k
  induction k with
  | zero => intro _; rfl
  | succ k ih =>
   intro hk
   unfold tmAt
   have : (if k = i then true else L k) = L k := if_neg (by omega)
   simp only [this,ih (by omega)]
 have high : ∀ k, i < k → k ≤ n → tmAt T0 dst R (fun k => if k = i then true else L k) k = putA (tmAt T0 dst R L k) (dst i) (R i) := by
  intro k
  induction k with
  | zero => intro h _; omega
  | succ k ih =>
   intro hk hn
   by_cases hki : k = i
   ·subst hki
    simp only [tmAt,if_true,low k (Nat.le_refl _),hL,Bool.false_eq_true,if_false]
   ·have := ih (by omega) (by omega)
    simp only [tmAt,if_neg hki,this]
    split
    ·rename_i hLk
     cases hd : dst i with
     | none => rfl
     | some t =>
      cases hk' : dst k with
      | none => rfl
      | some u =>
       have hne : t ≠ u := fun e => by
        subst e
        have := hlate k t (by omega) (by omega) hd hk'
        rw [hLk] at this; simp at this
       simp only [putA]
       rw [List.set_comm _ _ hne]
    ·rfl
 exact high n hi (Nat.le_refl _)
theorem tmAt_all {T0 : List AV} {dst : Nat → Option Nat} {R : Nat → AV} {T : Nat → List AV} (h0 : T 0 = T0) : ∀ n, (∀ i, i < n → T (i + 1) = putA (T i) (dst i) (R i)) → ∀ L : Nat → Bool, (∀ i, i < n → L i = true) → tmAt T0 dst R L n = T n
 | 0, _, _, _ => h0.symm
 | n + 1, h, L, hL => by
  unfold tmAt
  rw [hL n (by omega), if_pos rfl, tmAt_all h0 n (fun i hi => h i (by omega)) L (fun i hi => hL i (by omega)), h n (by omega)]
theorem tmAt_upto {T0 : List AV} {dst : Nat → Option Nat} {R : Nat → AV} {T : Nat → List AV} (h0 : T 0 = T0) {n : Nat} (h : ∀ i, i < n → T (i + 1) = putA (T i) (dst i) (R i)) {i : Nat} (hi : i ≤ n) : tmAt T0 dst R (fun d => decide (d < i)) n = T i := by
 have key : ∀ k, k ≤ n → tmAt T0 dst R (fun d => decide (d < i)) k = T (min k i) := by
  intro k
  induction k with
  | zero => intro _; simp [tmAt, h0]
  | succ k ih =>
   intro hk
   unfold tmAt
   rw [ih (by omega)]
   by_cases hki : k < i
   ·rw [if_pos (by simpa using hki), show min k i = k by omega, show min (k + 1) i = k + 1 by omega, h k (by omega)]
   ·rw [if_neg (by simpa using hki), show min k i = i by omega, show min (k + 1) i = i by omega]
 rw [key n (Nat.le_refl _), show min n i = i by omega]
end
end Go.Abs
end
section
set_option linter.unusedVariables false
set_option linter.unusedSimpArgs false
namespace Go.Abs
section
variable {P : Program} {B : Low}
theorem drawOk_spec {ops : Array Oper} {l : List AOper} (h : drawOk ops l = true) :
  (∀ j o, l[j]? = some o → ∀ t ∈ tmpsOf o, ∀ d q, l[d]? = some q → q.dst = some t → d ≠ j → ordB (Region.before ops) (min d j) (max d j) = true) ∧
  (∀ i j o q, i < j → l[i]? = some o → l[j]? = some q → cls o.op = 2 → cls q.op = 2 → ordB (Region.before ops) i j = true) ∧
  (∀ i o, ops[i]? = some o → ∀ e ∈ o.after, Region.binds .any e = true → e.on < i) := by
 unfold drawOk at h
 simp only [Bool.and_eq_true] at h
 obtain ⟨⟨h1, h2⟩, h3⟩ := h
 refine ⟨fun j o ho t ht d q hq hd hne => ?_, fun i j o q hij ho hq ho2 hq2 => ?_, fun i o ho e he hb => ?_⟩
 ·have hj := (List.getElem?_eq_some_iff.1 ho).1
  have hdl := (List.getElem?_eq_some_iff.1 hq).1
  have a1 := List.all_eq_true.1 h1 j (List.mem_range.2 hj)
  rw [ho] at a1
  simp only [Option.all_some] at a1
  have a2 := List.all_eq_true.1 a1 t ht
  have a3 := List.all_eq_true.1 a2 d (List.mem_range.2 hdl)
  rw [hq] at a3
  simp [hd, hne] at a3
  exact a3
 ·have hi := (List.getElem?_eq_some_iff.1 ho).1
  have hj := (List.getElem?_eq_some_iff.1 hq).1
  have a1 := List.all_eq_true.1 h2 j (List.mem_range.2 hj)
  have a2 := List.all_eq_true.1 a1 i (List.mem_range.2 hij)
  rw [ho, hq] at a2
  simp [ho2, hq2] at a2
  exact a2
 ·have hi := (Array.getElem?_eq_some_iff.1 ho).1
  have a1 := List.all_eq_true.1 h3 i (List.mem_range.2 hi)
  rw [ho] at a1
  simp only [Option.all_some] at a1
  rw [Array.all_eq_true'] at a1
  have a2 := a1 e he
  simp [hb] at a2
  exact a2
theorem tm_opnd {o : AOper} {n : Nat} (h : AOpd.t n ∈ opnds o.op) : n ∈ tmpsOf o := by
 unfold tmpsOf
 rw [List.append_assoc, List.mem_append]
 exact .inl (List.mem_filterMap.2 ⟨.t n, h, rfl⟩)
theorem tm_dst {o : AOper} {n : Nat} (h : o.dst = some n) : n ∈ tmpsOf o := by
 unfold tmpsOf
 simp [h]
theorem tm_guard {o : AOper} {n : Nat} {b : Bool} (h : o.guard = some (n, b)) : n ∈ tmpsOf o := by
 unfold tmpsOf
 simp [h]
theorem cls_le (op : AOp) : cls op = 0 ∨ cls op = 1 ∨ cls op = 2 := by
 cases op <;> simp [cls]
 case bslice mu _ _ _ _ => cases mu <;> simp
theorem cls_one {op : AOp} (h : cls op = 1) : ∃ k x, op = .load k x := by
 cases op <;> simp [cls] at h
 case load k x => exact ⟨k, x, rfl⟩
 case bslice mu _ _ _ _ => cases mu <;> simp at h
theorem aopc_not_call {Φ : Oracle} {H : Heap} {tm : List AV} {op : AOp} (h : cls op ≠ 2) : aopc Φ H tm op = aop H (ev tm) op := by
 cases op <;> first | rfl | (simp [cls] at h)
theorem wanted_congr {tm tm' : List AV} {g : Option (Nat × Bool)} (h : ∀ d b, g = some (d, b) → tm[d]? = tm'[d]?) : wantedA tm g = wantedA tm' g := by
 cases g with
 | none => rfl
 | some p => obtain ⟨d, b⟩ := p; simp only [wantedA,h d b rfl]
structure Draw (Φ : Oracle) (ops : Array Oper) (l : List AOper) (T : Nat → List AV) (G : Nat → Heap) (R : Nat → AV) (c : Nat) : Prop where
 went : Went Φ l T G R
 names : ∀ j o, l[j]? = some o → ∀ t ∈ tmpsOf o, ∀ d q, l[d]? = some q → q.dst = some t → d ≠ j → ordB (Region.before ops) (min d j) (max d j) = true
 loud : ∀ i j o q, c ≤ j → i < j → l[i]? = some o → l[j]? = some q → cls o.op = 2 → cls q.op = 2 → ordB (Region.before ops) i j = true
 edge : ∀ i o, ops[i]? = some o → ∀ e ∈ o.after, Region.binds .any e = true → e.on < i
 still : ∀ i e o q, l[i]? = some o → l[e]? = some q → cls o.op = 1 → cls q.op = 2 → ordB (Region.before ops) i e = false → ordB (Region.before ops) e i = false →
  wantedA (T i) o.guard = some true → ∀ k x, o.op = .load k x → loadAt (G e) k (ev (T i) x) = loadAt (G (e + 1)) k (ev (T i) x)
variable {Φ : Oracle} {ops : Array Oper} {l : List AOper} {T : Nat → List AV} {G : Nat → Heap} {R : Nat → AV} {c : Nat}
theorem Draw.quiet (D : Draw Φ ops l T G R c) {i : Nat} {o : AOper} (ho : l[i]? = some o) (hc : cls o.op ≠ 2) : G (i + 1) = G i := by
 obtain ⟨_, hs⟩ := D.went.step i o ho
 rcases hs with ⟨_, hop⟩ | ⟨_, _, hG⟩
 ·rw [aopc_not_call hc] at hop
  rcases cls_le o.op with h | h | h
  ·exact (pure_indep h hop).1
  ·obtain ⟨k, x, hk⟩ := cls_one h
   rw [hk] at hop
   exact (load_indep hop).1
  ·exact absurd h hc
 ·exact hG
theorem Draw.quiets (D : Draw Φ ops l T G R c) {i : Nat} : ∀ {j : Nat}, i ≤ j → j ≤ l.length → (∀ d o, i ≤ d → d < j → l[d]? = some o → cls o.op ≠ 2) → G j = G i
 | 0, hij, _, _ => by have : i = 0 := by omega
                      subst this; rfl
 | j + 1, hij, hl, h => by
  by_cases hi : i = j + 1
  ·subst hi; rfl
  ·have hlt : j < l.length := by omega
   have := D.quiet (List.getElem?_eq_getElem hlt) (h j _ (by omega) (by omega) (List.getElem?_eq_getElem hlt))
   rw [this]
   exact Draw.quiets D (by omega) (by omega) fun d o h1 h2 h3 => h d o h1 (by omega) h3
structure Mid (B : Low) (E0 : Env) (ops : Array Oper) (l : List AOper) (T : Nat → List AV) (G : Nat → Heap) (R : Nat → AV) (L : Nat → Bool) (a : Act) (w : World) : Prop where
 closed : Closed ops fun j => L j = true
 state : ∃ E f, E.w = w ∧ Inv B E ∧ Ext B E0 E ∧ f ≤ l.length ∧ (∀ d o, d < f → l[d]? = some o → cls o.op = 2 → L d = true) ∧ (∀ d o, f ≤ d → l[d]? = some o → cls o.op = 2 → L d = false) ∧
  E.H = G f ∧ RelT E (tmAt (T 0) (fun d => (l[d]?).bind (·.dst)) R L l.length) a
theorem Draw.frame (D : Draw Φ ops l T G R c) {L : Nat → Bool} (hc : Closed ops fun j => L j = true) {i : Nat} {o : AOper} (ho : l[i]? = some o) (hLi : L i = false) (hready : ∀ d, ordB (Region.before ops) d i = true → L d = true) {t : Nat} (ht : t ∈ tmpsOf o) :
  (tmAt (T 0) (fun d => (l[d]?).bind (·.dst)) R L l.length)[t]? = (T i)[t]? := by
 have hi := (List.getElem?_eq_some_iff.1 ho).1
 have hup := tmAt_upto (T0 := T 0) (dst := fun d => (l[d]?).bind (·.dst)) (R := R) (T := T) rfl (n := l.length) (fun k hk => by
  have := (D.went.step k _ (List.getElem?_eq_getElem hk)).1
  rw [this, List.getElem?_eq_getElem hk]; rfl) (i := i) (by omega)
 rw [← hup]
 refine tmAt_get _ fun d hd hdst => ?_
 rw [List.getElem?_eq_getElem hd] at hdst
 simp only [Option.bind_some] at hdst
 by_cases hdi : d = i
 ·subst hdi; simp [hLi]
 ·have hord := D.names i o ho t ht d _ (List.getElem?_eq_getElem hd) hdst hdi
  by_cases hlt : d < i
  ·rw [show min d i = d by omega, show max d i = i by omega] at hord
   rw [hready d hord]; simp [hlt]
  ·rw [show min d i = i by omega, show max d i = d by omega] at hord
   have : L d = false := by
    cases hLd : L d with
    | false => rfl
    | true => have := before_closed hc hLd hord; rw [hLi] at this; simp at this
   rw [this]; simp [hlt]
theorem ev_eq_of {tm tm' : List AV} {x : AOpd} (h : ∀ t, x = .t t → tm[t]? = tm'[t]?) : ev tm x = ev tm' x := by
 cases x with
 | t n => simp only [ev,List.getD_eq_getElem?_getD,h n rfl]
 | c a => rfl
theorem Draw.loads (D : Draw Φ ops l T G R c) {i : Nat} {o : AOper} (ho : l[i]? = some o) {k : Option Nat} {x : AOpd} (hop : o.op = .load k x) (hw : wantedA (T i) o.guard = some true) :
  ∀ (p q : Nat), p ≤ q → q ≤ l.length → (∀ e r, p ≤ e → e < q → l[e]? = some r → cls r.op = 2 → ordB (Region.before ops) i e = false ∧ ordB (Region.before ops) e i = false) →
   loadAt (G q) k (ev (T i) x) = loadAt (G p) k (ev (T i) x)
 | p, 0, hpq, _, _ => by have : p = 0 := by omega
                         subst this; rfl
 | p, q + 1, hpq, hl, h => by
  by_cases hp : p = q + 1
  ·subst hp; rfl
  ·have ih := Draw.loads D ho hop hw p q (by omega) (by omega) fun e r h1 h2 => h e r h1 (by omega)
   have hlt : q < l.length := by omega
   have hq := List.getElem?_eq_getElem hlt
   rw [← ih]
   by_cases hc : cls l[q].op = 2
   ·obtain ⟨h1, h2⟩ := h q _ (by omega) (by omega) hq hc
    exact (D.still i q o _ ho hq (by rw [hop]; rfl) hc h1 h2 hw k x hop).symm
   ·rw [D.quiet hq hc]
theorem Draw.one (S : Sound P B Φ) {lit : Lit} (D : Draw Φ ops (ops.toList.map (compOper P lit ops)) T G R c) (hguards : ∀ o ∈ ops.toList, (compGuard ops o.guard).2 = true) {E0 : Env} {L : Nat → Bool} {a : Act} {w : World}
  (M : Mid B E0 ops (ops.toList.map (compOper P lit ops)) T G R L a w) {i : Nat} (hi : i < ops.size) (hci : cls (compOper P lit ops ops[i]).op = 2 → c ≤ i) (hLi : L i = false) (hed : ∀ e ∈ ops[i].after, Region.binds .any e = true → L e.on = true) {K : Act → World → Prop} {Q : Exit → Act → World → Prop}
  (hK : ∀ a' w', Mid B E0 ops (ops.toList.map (compOper P lit ops)) T G R (fun k => if k = i then true else L k) a' w' → K a' w') : wpOp P ops Q i K a w := by
 have hn : (ops.toList.map (compOper P lit ops)).length = ops.size := by simp
 have ho : (ops.toList.map (compOper P lit ops))[i]? = some (compOper P lit ops ops[i]) := by simp [hi]
 have hoi : ops[i]? = some ops[i] := by simp [hi]
 obtain ⟨hT, hs⟩ := D.went.step i _ ho
 have hclosed' : Closed ops fun j => (if j = i then true else L j) = true := fun j o hj hL e he hb => by
  by_cases hji : j = i
  ·subst hji
   rw [hoi] at hj; injection hj with hj; subst hj
   have := hed e he hb
   simp [this]
  ·simp only [if_neg hji] at hL
   have := M.closed j o hj hL e he hb
   simp only at this
   simp [this]
 have hready : ∀ d, ordB (Region.before ops) d i = true → L d = true := fun d hd => by
  have hlt := before_lt D.edge hd
  have := before_closed hclosed' (i := d) (j := i) (by simp) hd
  simpa [Nat.ne_of_lt hlt] using this
 obtain ⟨E, f, rfl, I, X, hf, f1, f2, hH, hR⟩ := M.state
 have hfr : ∀ t ∈ tmpsOf (compOper P lit ops ops[i]), (tmAt (T 0) (fun d => ((ops.toList.map (compOper P lit ops))[d]?).bind (·.dst)) R L (ops.toList.map (compOper P lit ops)).length)[t]? = (T i)[t]? := fun t ht => D.frame M.closed ho hLi hready ht
 have hadd := tmAt_add (T0 := T 0) (dst := fun d => ((ops.toList.map (compOper P lit ops))[d]?).bind (·.dst)) (R := R) (L := L) (i := i) (n := (ops.toList.map (compOper P lit ops)).length) (by omega) hLi (fun d t hid hdn hti htd => by
  simp only [ho,Option.bind_some] at hti
  have hdl : d < ops.size := by omega
  have hd : (ops.toList.map (compOper P lit ops))[d]? = some (compOper P lit ops ops[d]) := by simp [hdl]
  simp only [hd,Option.bind_some] at htd
  have hord := D.names i _ ho t (tm_dst hti) d _ hd htd (by omega)
  rw [show min d i = i by omega, show max d i = d by omega] at hord
  cases hLd : L d with
  | false => rfl
  | true => have := before_closed M.closed hLd hord; simp only [hLi] at this; simp at this)
 have hdst : ((ops.toList.map (compOper P lit ops))[i]?).bind (·.dst) = ops[i].dst := by rw [ho]; rfl
 simp only [hdst] at hadd
 have hwant : wantedA (tmAt (T 0) (fun d => ((ops.toList.map (compOper P lit ops))[d]?).bind (·.dst)) R L (ops.toList.map (compOper P lit ops)).length) (compOper P lit ops ops[i]).guard = wantedA (T i) (compOper P lit ops ops[i]).guard :=
  wanted_congr fun d b hd => hfr d (tm_guard hd)
 have hgi := hguards ops[i] (by simp)
 unfold wpOp
 simp only [hoi]
 rcases hs with ⟨hw, hop⟩ | ⟨hw, hr, hGe⟩
 ·rw [hw] at hwant
  rw [wanted_spec hR (ops := ops) hgi hwant]
  simp only [if_true]
  left
  have hcong : ∀ H, aopc Φ H (tmAt (T 0) (fun d => ((ops.toList.map (compOper P lit ops))[d]?).bind (·.dst)) R L (ops.toList.map (compOper P lit ops)).length) (compOper P lit ops ops[i]).op = aopc Φ H (T i) (compOper P lit ops ops[i]).op := fun H =>
   aopc_congr Φ H fun x hx => ev_eq_of fun t ht => hfr t (tm_opnd (by rw [← ht]; exact hx))
  have key : ∃ f' , f' ≤ (ops.toList.map (compOper P lit ops)).length ∧ aopc Φ (G f) (T i) (compOper P lit ops ops[i]).op = some (R i, G f') ∧
    (∀ d o, d < f' → (ops.toList.map (compOper P lit ops))[d]? = some o → cls o.op = 2 → (if d = i then true else L d) = true) ∧ (∀ d o, f' ≤ d → (ops.toList.map (compOper P lit ops))[d]? = some o → cls o.op = 2 → (if d = i then true else L d) = false) := by
   rcases cls_le (compOper P lit ops ops[i]).op with h0 | h1 | h2
   ·refine ⟨f, hf, ?_, fun d o h1 h2 h3 => ?_, fun d o h1 h2 h3 => ?_⟩
    ·rw [aopc_not_call (by omega)] at hop ⊢
     exact (pure_indep h0 hop).2 _
    ·split
     ·rfl
     ·exact f1 d o h1 h2 h3
    ·have hdi : d ≠ i := fun e => by subst e; rw [ho] at h2; injection h2 with h2; subst h2; omega
     rw [if_neg hdi]; exact f2 d o h1 h2 h3
   ·refine ⟨f, hf, ?_, fun d o h1 h2 h3 => ?_, fun d o h1' h2 h3 => ?_⟩
    ·obtain ⟨k, x, hk⟩ := cls_one h1
     rw [aopc_not_call (by omega)] at hop ⊢
     rw [hk] at hop ⊢
     have hld := (load_indep hop).2
     have hsame : loadAt (G f) k (ev (T i) x) = loadAt (G i) k (ev (T i) x) := by
      by_cases hfi : f ≤ i
      ·refine (D.loads ho hk hw f i hfi (by omega) fun e r he1 he2 hr hcr => ?_).symm
       have hLe := f2 e r he1 hr hcr
       constructor
       ·cases hb : ordB (Region.before ops) i e with
        | false => rfl
        | true => have := before_lt D.edge hb; omega
       ·cases hb : ordB (Region.before ops) e i with
        | false => rfl
        | true => have := hready e hb; rw [hLe] at this; simp at this
      ·refine D.loads ho hk hw i f (by omega) hf fun e r he1 he2 hr hcr => ?_
       have hLe := f1 e r he2 hr hcr
       constructor
       ·cases hb : ordB (Region.before ops) i e with
        | false => rfl
        | true => have := before_closed M.closed hLe hb; simp only [hLi] at this; simp at this
       ·cases hb : ordB (Region.before ops) e i with
        | false => rfl
        | true => have := before_lt D.edge hb; omega
     simp only [aop,hsame,hld]
    ·split
     ·rfl
     ·exact f1 d o h1 h2 h3
    ·have hdi : d ≠ i := fun e => by subst e; rw [ho] at h2; injection h2 with h2; subst h2; omega
     rw [if_neg hdi]; exact f2 d o h1' h2 h3
   ·-- it may turn the heap: all such ahead of it are done, none behind it
    have hfi : f ≤ i := by
     rcases Nat.lt_or_ge i f with h | h
     ·have := f1 i _ h ho h2; rw [hLi] at this; simp at this
     ·exact h
    have hGi : G i = G f := D.quiets hfi (by omega) fun d o hd1 hd2 hdo hdc => by
     have hb := D.loud d i o _ (hci h2) hd2 hdo ho hdc h2
     have h1 := hready d hb
     have h3 := f2 d o hd1 hdo hdc
     rw [h1] at h3; simp at h3
    refine ⟨i + 1, by omega, by rw [← hGi]; exact hop, fun d o h1 h2' h3 => ?_, fun d o h1 h2' h3 => ?_⟩
    ·by_cases hdi : d = i
     ·simp [hdi]
     ·rw [if_neg hdi]
      exact hready d (D.loud d i o _ (hci h2) (by omega) h2' ho h3 h2)
    ·rw [if_neg (by omega)]
     cases hLd : L d with
     | false => rfl
     | true =>
      have hb := D.loud i d _ o (by have := hci h2; omega) (by omega) ho h2' h2 h3
      have := before_closed M.closed hLd hb; simp only [hLi] at this; simp at this
  obtain ⟨f', hf', hopf, g1, g2⟩ := key
  rw [← hH, ← hcong] at hopf
  obtain ⟨_, hopf'⟩ := compOper_guard hopf
  refine oper_wp S I hR hopf' fun a' E' _ I' X' hH' hR' => hK a' _ ⟨hclosed', E', f', rfl, I', X.trans X', hf', g1, g2, hH', ?_⟩
  rw [hadd]; exact hR'
 ·rw [hw] at hwant
  rw [wanted_spec hR (ops := ops) hgi hwant]
  simp only [Bool.false_eq_true,if_false]
  by_cases h2 : cls (compOper P lit ops ops[i]).op = 2
  ·have hfi : f ≤ i := by
    rcases Nat.lt_or_ge i f with h | h
    ·have := f1 i _ h ho h2; rw [hLi] at this; simp at this
    ·exact h
   have hGi : G i = G f := D.quiets hfi (by omega) fun d o hd1 hd2 hdo hdc => by
    have hb := D.loud d i o _ (hci h2) hd2 hdo ho hdc h2
    have h1 := hready d hb
    have h3 := f2 d o hd1 hdo hdc
    rw [h1] at h3; simp at h3
   refine hK _ _ ⟨hclosed', E, i + 1, rfl, I, X, by omega, fun d o h1 h2' h3 => ?_, fun d o h1 h2' h3 => ?_, by rw [hGe, hGi]; exact hH, ?_⟩
   ·by_cases hdi : d = i
    ·simp [hdi]
    ·rw [if_neg hdi]
     exact hready d (D.loud d i o _ (hci h2) (by omega) h2' ho h3 h2)
   ·rw [if_neg (by omega)]
    cases hLd : L d with
    | false => rfl
    | true =>
     have hb := D.loud i d _ o (by have := hci h2; omega) (by omega) ho h2' h2 h3
     have := before_closed M.closed hLd hb; simp only [hLi] at this; simp at this
   ·rw [hadd, hr]; exact relT_skip hR _
  ·refine hK _ _ ⟨hclosed', E, f, rfl, I, X, hf, fun d o h1 h2' h3 => ?_, fun d o h1 h2' h3 => ?_, hH, ?_⟩
   ·split
    ·rfl
    ·exact f1 d o h1 h2' h3
   ·have hdi : d ≠ i := fun e => by subst e; rw [ho] at h2'; injection h2' with h2'; subst h2'; omega
    rw [if_neg hdi]; exact f2 d o h1 h2' h3
   ·rw [hadd, hr]; exact relT_skip hR _
theorem mem_ready {listed : Array Bool} {i : Nat} (h : i ∈ Region.ready .any ops listed) : i < ops.size ∧ listed.getD i true = false ∧ ∃ o, ops[i]? = some o ∧ ∀ e ∈ o.after, Region.binds .any e = true → listed.getD e.on false = true := by
 unfold Region.ready at h
 rw [List.mem_filter] at h
 obtain ⟨h1, h2⟩ := h
 have hi := List.mem_range.1 h1
 simp only [Bool.and_eq_true,Bool.not_eq_true'] at h2
 refine ⟨hi, h2.1, ops[i], by simp [hi], fun e he hb => ?_⟩
 have h3 := h2.2
 have hoi : ops[i]? = some ops[i] := by simp [hi]
 rw [hoi] at h3
 simp only [Option.map_some,Option.getD_some] at h3
 rw [Array.all_eq_true'] at h3
 have := h3 e he
 simpa [hb] using this
theorem Draw.rest (S : Sound P B Φ) {lit : Lit} (D : Draw Φ ops (ops.toList.map (compOper P lit ops)) T G R 0) (hguards : ∀ o ∈ ops.toList, (compGuard ops o.guard).2 = true) {E0 : Env} {Q : Exit → Act → World → Prop}
  (hQ : ∀ a w, Post B E0 (T ops.size) (G ops.size) a w → Q .normal a w) :
  ∀ (fuel : Nat) (listed : Array Bool) (a : Act) (w : World), listed.size = ops.size → Mid B E0 ops (ops.toList.map (compOper P lit ops)) T G R (fun i => listed.getD i false) a w →
   (∃ U : List Nat, U.length ≤ fuel ∧ ∀ i, i < ops.size → listed.getD i false = false → i ∈ U) → wpAny P .any ops Q fuel listed a w := by
 have hn : (ops.toList.map (compOper P lit ops)).length = ops.size := by simp
 have done : ∀ (listed : Array Bool) (a : Act) (w : World), Mid B E0 ops (ops.toList.map (compOper P lit ops)) T G R (fun i => listed.getD i false) a w → (∀ i, i < ops.size → listed.getD i false = true) → Q .normal a w := by
  intro listed a w M hall
  obtain ⟨E, f, rfl, I, X, hf, f1, f2, hH, hR⟩ := M.state
  refine hQ a _ ⟨E, rfl, ?_, I, X, ?_⟩
  ·rw [hH]
   have : G (ops.toList.map (compOper P lit ops)).length = G f := D.quiets hf (Nat.le_refl _) fun d o h1 h2 h3 h4 => by
    have := f2 d o h1 h3 h4
    simp only [hall d (by omega)] at this; simp at this
   rw [hn] at this; exact this.symm
  ·have := tmAt_all (T0 := T 0) (dst := fun d => ((ops.toList.map (compOper P lit ops))[d]?).bind (·.dst)) (R := R) (T := T) rfl (ops.toList.map (compOper P lit ops)).length (fun i hi => by
    have h := (D.went.step i _ (List.getElem?_eq_getElem hi)).1
    rw [h, List.getElem?_eq_getElem hi]; rfl) (fun i => listed.getD i false) (fun i hi => hall i (by omega))
   rw [this, hn] at hR
   exact hR
 have allDone : ∀ (listed : Array Bool), listed.size = ops.size → Region.ready .any ops listed = [] → ∀ i, i < ops.size → listed.getD i false = true := by
  intro listed hsz hr i
  induction i using Nat.strongRecOn with
  | _ i ih =>
   intro hi
   cases hb : listed.getD i false with
   | true => rfl
   | false =>
    exfalso
    have : i ∈ Region.ready .any ops listed := by
     unfold Region.ready
     rw [List.mem_filter]
     refine ⟨List.mem_range.2 hi, ?_⟩
     have hoi : ops[i]? = some ops[i] := by simp [hi]
     rw [hoi]
     simp only [Option.map_some,Option.getD_some,Bool.and_eq_true,Bool.not_eq_true']
     refine ⟨?_, ?_⟩
     ·rw [Array.getD_eq_getD_getElem?] at hb ⊢
      have : listed[i]? = some listed[i] := by simp [hsz, hi]
      rw [this] at hb ⊢
      simpa using hb
     ·rw [Array.all_eq_true']
      intro e he
      cases hbe : Region.binds .any e with
      | false => simp
      | true =>
       have hlt := D.edge i _ hoi e he hbe
       simp [ih e.on hlt (by omega)]
    rw [hr] at this
    simp at this
 intro fuel
 induction fuel with
 | zero =>
  intro listed a w hsz M hU
  obtain ⟨U, hU1, hU2⟩ := hU
  have hUn : U = [] := List.length_eq_zero_iff.1 (by omega)
  have hall : ∀ i, i < ops.size → listed.getD i false = true := fun i hi => by
   cases hb : listed.getD i false with
   | true => rfl
   | false => have := hU2 i hi hb; rw [hUn] at this; simp at this
  refine ⟨?_, done listed a w M hall⟩
  cases hr : Region.ready .any ops listed with
  | nil => rfl
  | cons i r =>
   exfalso
   obtain ⟨h1, h2, _⟩ := mem_ready (ops := ops) (listed := listed) (i := i) (by rw [hr]; simp)
   have := hall i h1
   rw [Array.getD_eq_getD_getElem?] at this h2
   have hx : listed[i]? = some listed[i] := by simp [hsz, h1]
   rw [hx] at this h2
   simp at this h2
   rw [this] at h2; simp at h2
 | succ fuel ih =>
  intro listed a w hsz M hU
  refine ⟨fun hr => done listed a w M (allDone listed hsz hr), fun i hi => ?_⟩
  obtain ⟨h1, h2, o, ho, hed⟩ := mem_ready hi
  have hx : listed[i]? = some listed[i] := by simp [hsz, h1]
  have hLi : listed.getD i false = false := by
   rw [Array.getD_eq_getD_getElem?] at h2 ⊢
   rw [hx] at h2 ⊢
   simpa using h2
  have hoe : ops[i]? = some ops[i] := by simp [h1]
  rw [hoe] at ho; injection ho with ho; subst ho
  refine Draw.one S D hguards M h1 (fun _ => Nat.zero_le _) hLi hed fun a' w' M' => ih _ _ _ (by simp [hsz]) ?_ ?_
  ·have e1 : (fun k => (listed.setIfInBounds i true).getD k false) = fun k => if k = i then true else listed.getD k false := by
    funext k
    simp only [Array.getD_eq_getD_getElem?,Array.getElem?_setIfInBounds]
    by_cases hk : i = k
    ·subst hk; simp [hsz, h1]
    ·rw [if_neg hk, if_neg (fun e => hk e.symm)]
   rw [e1]; exact M'
  ·obtain ⟨U, hU1, hU2⟩ := hU
   refine ⟨U.erase i, ?_, fun j hj hb => ?_⟩
   ·have := List.length_erase_of_mem (hU2 i h1 hLi)
    have hpos : 0 < U.length := List.length_pos_of_mem (hU2 i h1 hLi)
    omega
   ·simp only [Array.getD_eq_getD_getElem?,Array.getElem?_setIfInBounds] at hb
    by_cases hk : i = j
    ·subst hk; simp [hsz, h1] at hb
    ·rw [if_neg hk] at hb
     exact (List.mem_erase_of_ne (fun e => hk e.symm)).2 (hU2 j hj (by rw [Array.getD_eq_getD_getElem?]; exact hb))
end
end Go.Abs
end
section
set_option linter.unusedVariables false
set_option linter.unusedSimpArgs false
namespace Go.Abs
section
variable {E : Env}
mutual
theorem relA_refs : ∀ (a : AV) (v : Value), RelA E a v → refsLt E.H.length a = true
 | .im _, v, h => by simp only [refsLt]
 | .nils, v, h => by simp only [refsLt]
 | .em, v, h => by simp only [refsLt]
 | .asl s es tok, v, h => by
  simp only [RelA] at h
  obtain ⟨_, _, _, _, _, _, n, hn, _⟩ := h
  simp only [refsLt,decide_eq_true_eq]
  exact (List.getElem?_eq_some_iff.1 hn).1
 | .ms s id off n, v, h => by
  simp only [RelA] at h
  obtain ⟨_, _, _, _, hes, _⟩ := h
  simp only [refsLt,decide_eq_true_eq]
  exact isObj_lt hes
 | .ptr id i j, v, h => by
  simp only [RelA] at h
  obtain ⟨_, hes⟩ := h
  simp only [refsLt,decide_eq_true_eq]
  exact isObj_lt hes
 | .agg cs, v, h => by
  simp only [RelA] at h
  obtain ⟨vs, _, hl⟩ := h
  simp only [refsLt]
  exact relAs_refs cs vs hl
 | .tup cs, v, h => by
  simp only [RelA] at h
  obtain ⟨vs, _, hl⟩ := h
  simp only [refsLt]
  exact relAs_refs cs vs hl
 | .clo f cs, v, h => by
  simp only [RelA] at h
  obtain ⟨vs, _, hl⟩ := h
  simp only [refsLt]
  exact relAs_refs cs vs hl
 | .any, v, h => by simp only [refsLt]
theorem relAs_refs : ∀ (l : List AV) (vs : List Value), RelAs E l vs → refsLts E.H.length l = true
 | [], vs, h => by simp only [refsLts]
 | a :: l, vs, h => by
  simp only [RelAs] at h
  obtain ⟨v, r, _, ha, hl⟩ := h
  simp only [refsLts,Bool.and_eq_true]
  exact ⟨relA_refs a v ha, relAs_refs l r hl⟩
end
theorem isObj_take {H : Heap} {n id : Nat} (h : isObj H id) (hid : id < n) : isObj (H.take n) id := by
 obtain ⟨x, he, hx⟩ := h
 exact ⟨x, by rw [List.getElem?_take, if_pos hid]; exact he, hx⟩
mutual
theorem relA_take (n : Nat) : ∀ (a : AV) (v : Value), RelA E a v → refsLt n a = true → RelA ⟨E.w, E.S, E.m, E.H.take n⟩ a v
 | .im d, v, h, _ => by simpa only [RelA] using h
 | .nils, v, h, _ => by simpa only [RelA] using h
 | .em, v, h, _ => by simpa only [RelA] using h
 | .asl s es tok, v, h, hr => by
  simp only [refsLt,decide_eq_true_eq] at hr
  simp only [RelA] at h ⊢
  obtain ⟨b, c, h1, h2, h3, ty, k, h4, h5, h6⟩ := h
  exact ⟨b, c, h1, h2, h3, ty, k, by simp only [List.getElem?_take,if_pos hr]; exact h4, h5, h6⟩
 | .ms s id off k, v, h, hr => by
  simp only [refsLt,decide_eq_true_eq] at hr
  simp only [RelA] at h ⊢
  obtain ⟨c, h1, h2, h3, h4⟩ := h
  exact ⟨c, h1, h2, h3, isObj_take h4.1 hr, h4.2⟩
 | .ptr id i j, v, h, hr => by
  simp only [refsLt,decide_eq_true_eq] at hr
  simp only [RelA] at h ⊢
  exact ⟨h.1, isObj_take h.2 hr⟩
 | .agg cs, v, h, hr => by
  simp only [refsLt] at hr
  simp only [RelA] at h ⊢
  obtain ⟨vs, h1, hl⟩ := h
  exact ⟨vs, h1, relAs_take n cs vs hl hr⟩
 | .tup cs, v, h, hr => by
  simp only [refsLt] at hr
  simp only [RelA] at h ⊢
  obtain ⟨vs, h1, hl⟩ := h
  exact ⟨vs, h1, relAs_take n cs vs hl hr⟩
 | .clo f cs, v, h, hr => by
  simp only [refsLt] at hr
  simp only [RelA] at h ⊢
  obtain ⟨vs, h1, hl⟩ := h
  exact ⟨vs, h1, relAs_take n cs vs hl hr⟩
 | .any, v, h, _ => by simp only [RelA]
theorem relAs_take (n : Nat) : ∀ (l : List AV) (vs : List Value), RelAs E l vs → refsLts n l = true → RelAs ⟨E.w, E.S, E.m, E.H.take n⟩ l vs
 | [], vs, h, _ => by simpa only [RelAs] using h
 | a :: l, vs, h, hr => by
  simp only [refsLts,Bool.and_eq_true] at hr
  simp only [RelAs] at h ⊢
  obtain ⟨v, r, h1, ha, hl⟩ := h
  exact ⟨v, r, h1, relA_take n a v ha hr.1, relAs_take n l r hl hr.2⟩
end
end
end Go.Abs
end
section
set_option linter.unusedVariables false
set_option linter.unusedSimpArgs false
namespace Go.Abs
section
variable {P : Program} {B : Low} {Φ : Oracle} {ops : Array Oper} {l : List AOper} {T : Nat → List AV} {G : Nat → Heap} {R : Nat → AV} {a b : Nat}
def plainA : AV → Bool
 | .im _ => true
 | .nils => true
 | _ => false
theorem plain_refs {n : Nat} {x : AV} (h : plainA x = true) : refsLt n x = true := by
 cases x <;> simp [plainA] at h <;> simp only [refsLt]
structure FreeAt (ops : Array Oper) (l : List AOper) (a b : Nat) : Prop where
 ab : a ≤ b
 bl : b ≤ l.length
 op : ∀ i, a ≤ i → i < b → ∃ t ty cs, l[i]? = some ⟨some t, .alloc ty cs, none⟩ ∧ cs.all plainA = true
 loud : ∀ i j o q, i < j → j < a → l[i]? = some o → l[j]? = some q → cls o.op = 2 → cls q.op = 2 → ordB (Region.before ops) i j = true
 use : ∀ i t ty cs, a ≤ i → i < b → l[i]? = some ⟨some t, .alloc ty cs, none⟩ → ∀ q o, q ≠ i → l[q]? = some o → t ∈ tmpsOf o → ∀ k r, k < b → l[k]? = some r → cls r.op = 2 → ordB (Region.before ops) k q = true
 behind : ∀ i, a ≤ i → i < b → ∀ q o, l[q]? = some o → ordB (Region.before ops) i q = true → ∀ k r, k < b → l[k]? = some r → cls r.op = 2 → ordB (Region.before ops) k q = true
def Bound (l : List AOper) (b : Nat) (L : Nat → Bool) : Prop := ∀ k o, k < b → l[k]? = some o → cls o.op = 2 → L k = true
def hideR (R : Nat → AV) (a b : Nat) (i : Nat) : AV := if a ≤ i ∧ i < b then .any else R i
theorem FreeAt.inj (F : FreeAt ops l a b) (hedge : ∀ i o, ops[i]? = some o → ∀ e ∈ o.after, Region.binds .any e = true → e.on < i) {i j t : Nat} {ty ty' cs cs'} (hi : a ≤ i ∧ i < b) (hj : a ≤ j ∧ j < b)
  (ho : l[i]? = some ⟨some t, .alloc ty cs, none⟩) (hq : l[j]? = some ⟨some t, .alloc ty' cs', none⟩) : i = j := by
 by_cases h : j = i
 ·exact h.symm
 ·have := F.use i t ty cs hi.1 hi.2 ho j _ h hq (tm_dst rfl) j _ hj.2 hq rfl
  have := before_lt hedge this
  omega
theorem tmAt_getR {T0 : List AV} {dst : Nat → Option Nat} {R R' : Nat → AV} {L : Nat → Bool} {t : Nat} : ∀ k, (∀ d, d < k → dst d = some t → L d = true → R d = R' d) → (tmAt T0 dst R L k)[t]? = (tmAt T0 dst R' L k)[t]?
 | 0, _ => rfl
 | k + 1, h => by
  have ih := tmAt_getR (T0 := T0) (L := L) k fun d hd => h d (by omega)
  unfold tmAt
  cases hL : L k with
  | false => simpa using ih
  | true =>
   simp only [if_true]
   cases hd : dst k with
   | none => simpa only [putA] using ih
   | some x =>
    simp only [putA]
    by_cases hx : x = t
    ·subst hx
     rw [h k (by omega) hd hL]
     by_cases hlt : x < T0.length
     ·rw [List.getElem?_set_self (by rw [tmAt_length]; exact hlt), List.getElem?_set_self (by rw [tmAt_length]; exact hlt)]
     ·rw [List.getElem?_eq_none (by rw [List.length_set, tmAt_length]; omega), List.getElem?_eq_none (by rw [List.length_set, tmAt_length]; omega)]
    ·rw [List.getElem?_set_ne hx, List.getElem?_set_ne hx]; exact ih
theorem tmAt_last {T0 : List AV} {dst : Nat → Option Nat} {R : Nat → AV} {L : Nat → Bool} {t i : Nat} (hd : dst i = some t) (hL : L i = true) : ∀ k, i < k → (∀ d, i < d → d < k → dst d = some t → L d = false) → ∀ x, (tmAt T0 dst R L k)[t]? = some x → x = R i
 | 0, h, _ => by omega
 | k + 1, h, hn => fun x hx => by
  unfold tmAt at hx
  by_cases hk : k = i
  ·subst hk
   rw [hL, if_pos rfl, hd] at hx
   simp only [putA] at hx
   by_cases hlt : t < T0.length
   ·rw [List.getElem?_set_self (by rw [tmAt_length]; exact hlt)] at hx
    injection hx with hx; exact hx.symm
   ·rw [List.getElem?_eq_none (by rw [List.length_set, tmAt_length]; omega)] at hx; simp at hx
  ·have ih := tmAt_last (T0 := T0) (R := R) hd hL k (by omega) (fun d h1 h2 => hn d h1 (by omega)) x
   split at hx
   ·rename_i hLk
    cases hdk : dst k with
    | none => rw [hdk] at hx; exact ih hx
    | some y =>
     rw [hdk] at hx
     simp only [putA] at hx
     by_cases hy : y = t
     ·subst hy; have := hn k (by omega) (by omega) hdk; rw [hLk] at this; simp at this
     ·rw [List.getElem?_set_ne hy] at hx; exact ih hx
   ·exact ih hx
structure Early (B : Low) (E : Env) (p : Nat × Nat × Nat) (ty : Option (TypeId × Nat)) (cs : List AV) : Prop where
 own : Own B E.w p.1 0 (tyO ty p.2.1)
 out : ∀ o, ¬ E.S p.1 o
 rows : RelO E [cs] p.1 p.2.1 p.2.2
def Held (B : Low) (a b : Nat) (L : Nat → Bool) (k : Nat → Nat × Nat × Nat) : Low where
 on x := B x ∨ ∃ i, a ≤ i ∧ i < b ∧ L i = true ∧ x = (k i).1
 ok := B.ok
 keep w w' h := B.keep w w' fun j hj => h j (.inl hj)
theorem Own.less {B B' : Low} (hB : ∀ x, B x → B' x) {w : World} {k fr : Nat} {T : TypeId × Nat → Prop} (h : Own B' w k fr T) : Own B w k fr T :=
 ⟨fun hb => h.base (hB _ hb), h.lt, h.free, h.shape⟩
theorem Ext.less {B B' : Low} (hB : ∀ x, B x → B' x) {E E' : Env} (X : Ext B' E E') : Ext B E E' where
 ss := X.ss
 cell := X.cell
 size := X.size
 low k hk := X.low k (hB k hk)
 there := X.there
 snew k o hs := by
  rcases X.snew k o hs with h | h
  ·exact .inl h
  ·exact .inr fun hb => h (hB k hb)
 os := X.os
 tape := X.tape
 output := X.output
 len := X.len
 obj := X.obj
 hw := X.hw
theorem Early.ext {B B' : Low} {E E' : Env} (X : Ext B' E E') {p : Nat × Nat × Nat} {ty cs} (hp : B' p.1) (h : Early B E p ty cs) : Early B E' p ty cs where
 own := ⟨h.own.base, Nat.lt_of_lt_of_le h.own.lt X.size, fun o ho => by simp only [World.frozen?,X.low _ hp]; exact h.own.free o ho, by simp only [World.shape?,X.low _ hp]; exact h.own.shape⟩
 out o ho := by
  rcases X.snew _ _ ho with h1 | h1
  ·exact h.out o h1
  ·exact h1 hp
 rows := h.rows.ext X fun k => by simp only [World.cell?,X.low _ hp]
structure Pre (B : Low) (E0 : Env) (ops : Array Oper) (l : List AOper) (T : Nat → List AV) (G : Nat → Heap) (R : Nat → AV) (a b : Nat) (L : Nat → Bool) (act : Act) (w : World) : Prop where
 closed : Closed ops fun j => L j = true
 lone : ∀ i t ty cs, a ≤ i → i < b → l[i]? = some ⟨some t, .alloc ty cs, none⟩ → ∀ d q, d ≠ i → l[d]? = some q → t ∈ tmpsOf q → L d = false
 state : ∃ E f k, E.w = w ∧ Inv (Held B a b L k) E ∧ Ext B E0 E ∧ f ≤ a ∧ (∀ d o, d < f → l[d]? = some o → cls o.op = 2 → L d = true) ∧ (∀ d o, f ≤ d → (d < a ∨ b ≤ d) → l[d]? = some o → cls o.op = 2 → L d = false) ∧
  E.H = G f ∧ RelT E (tmAt (T 0) (fun d => (l[d]?).bind (·.dst)) (hideR R a b) L l.length) act ∧
  (∀ i t ty cs, a ≤ i → i < b → L i = true → l[i]? = some ⟨some t, .alloc ty cs, none⟩ → (∀ v, act.tmps[t]? = some v → v = .pointer (some ⟨(k i).1, (k i).2.1 + 0 * (k i).2.2 + 0, none⟩)) ∧ Early B E (k i) ty cs) ∧
  (∀ i j, a ≤ i → i < b → L i = true → a ≤ j → j < b → L j = true → (k i).1 = (k j).1 → i = j)
theorem held_same {L : Nat → Bool} {k : Nat → Nat × Nat × Nat} {i : Nat} (hi : ¬ (a ≤ i ∧ i < b)) : Held B a b (fun j => if j = i then true else L j) k = Held B a b L k := by
 unfold Held
 rw [Low.mk.injEq]
 refine ⟨?_, rfl⟩
 funext x
 apply propext
 constructor
 ·rintro (h | ⟨j, h1, h2, h3, h4⟩)
  ·exact .inl h
  ·have : j ≠ i := fun e => hi (by subst e; exact ⟨h1, h2⟩)
   simp only [if_neg this] at h3
   exact .inr ⟨j, h1, h2, h3, h4⟩
 ·rintro (h | ⟨j, h1, h2, h3, h4⟩)
  ·exact .inl h
  ·have : j ≠ i := fun e => hi (by subst e; exact ⟨h1, h2⟩)
   exact .inr ⟨j, h1, h2, by simp only [if_neg this]; exact h3, h4⟩
theorem put_ne {act : Act} {d : Option Nat} {v : Value} {t : Nat} (h : d ≠ some t) : (act.put d v).tmps[t]? = act.tmps[t]? := by
 cases d with
 | none => rfl
 | some d =>
  simp only [Act.put]
  rw [Array.getElem?_setIfInBounds_ne (fun e => h (by rw [e]))]
end
end Go.Abs
end
section
set_option linter.unusedVariables false
set_option linter.unusedSimpArgs false
namespace Go.Abs
section
variable {P : Program} {B : Low} {Φ : Oracle} {ops : Array Oper} {T : Nat → List AV} {G : Nat → Heap} {R : Nat → AV} {a b : Nat}
theorem Draw.pre (S : ∀ B' : Low, B'.ok = B.ok → Sound P B' Φ) {lit : Lit} (D : Draw Φ ops (ops.toList.map (compOper P lit ops)) T G R b) (F : FreeAt ops (ops.toList.map (compOper P lit ops)) a b) (hguards : ∀ o ∈ ops.toList, (compGuard ops o.guard).2 = true) {E0 : Env} {L : Nat → Bool} {act : Act} {w : World}
  (M : Pre B E0 ops (ops.toList.map (compOper P lit ops)) T G R a b L act w) {i : Nat} (hi : i < ops.size) (hnf : ¬ (a ≤ i ∧ i < b)) (hnb : ¬ Bound (ops.toList.map (compOper P lit ops)) b L) (hLi : L i = false) (hed : ∀ e ∈ ops[i].after, Region.binds .any e = true → L e.on = true) {K : Act → World → Prop} {Q : Exit → Act → World → Prop}
  (hK : ∀ a' w', Pre B E0 ops (ops.toList.map (compOper P lit ops)) T G R a b (fun k => if k = i then true else L k) a' w' → K a' w') : wpOp P ops Q i K act w := by
 have hn : (ops.toList.map (compOper P lit ops)).length = ops.size := by simp
 have ho : (ops.toList.map (compOper P lit ops))[i]? = some (compOper P lit ops ops[i]) := by simp [hi]
 have hoi : ops[i]? = some ops[i] := by simp [hi]
 obtain ⟨hT, hs⟩ := D.went.step i _ ho
 have hclosed' : Closed ops fun j => (if j = i then true else L j) = true := fun j o hj hL e he hb => by
  by_cases hji : j = i
  ·subst hji
   rw [hoi] at hj; injection hj with hj; subst hj
   have := hed e he hb
   simp [this]
  ·simp only [if_neg hji] at hL
   have := M.closed j o hj hL e he hb
   simp only at this
   simp [this]
 have hready : ∀ d, ordB (Region.before ops) d i = true → L d = true := fun d hd => by
  have hlt := before_lt D.edge hd
  have := before_closed hclosed' (i := d) (j := i) (by simp) hd
  simpa [Nat.ne_of_lt hlt] using this
 have hnot : ∀ j t ty cs, a ≤ j → j < b → (ops.toList.map (compOper P lit ops))[j]? = some ⟨some t, .alloc ty cs, none⟩ → t ∉ tmpsOf (compOper P lit ops ops[i]) := fun j t ty cs h1 h2 h3 ht =>
  hnb fun k o hk hko hc => hready k (F.use j t ty cs h1 h2 h3 i _ (fun e => hnf (by subst e; exact ⟨h1, h2⟩)) ho ht k o hk hko hc)
 have hia : cls (compOper P lit ops ops[i]).op = 2 → i < a := fun h2 => by
  rcases Nat.lt_or_ge i a with h | h
  ·exact h
  ·have hbi : b ≤ i := by
    rcases Nat.lt_or_ge i b with h' | h'
    ·exact absurd ⟨h, h'⟩ hnf
    ·exact h'
   exact absurd (fun k o hk hko hc => hready k (D.loud k i o _ hbi (by omega) hko ho hc h2)) hnb
 obtain ⟨E, f, kb, rfl, I, X, hf, f1, f2, hH, hR, hearly, hinj⟩ := M.state
 have hab := F.ab
 have hbl := F.bl
 have hfr : ∀ t ∈ tmpsOf (compOper P lit ops ops[i]), (tmAt (T 0) (fun d => ((ops.toList.map (compOper P lit ops))[d]?).bind (·.dst)) (hideR R a b) L (ops.toList.map (compOper P lit ops)).length)[t]? = (T i)[t]? := fun t ht => by
  rw [← D.frame M.closed ho hLi hready ht]
  refine tmAt_getR _ fun d hd hdst hLd => ?_
  unfold hideR
  split
  ·rename_i hdf
   obtain ⟨t', ty, cs, hq, _⟩ := F.op d hdf.1 hdf.2
   rw [hq] at hdst
   simp only [Option.bind_some,Option.some.injEq] at hdst
   subst hdst
   exact absurd ht (hnot d t' ty cs hdf.1 hdf.2 hq)
  ·rfl
 have hadd := tmAt_add (T0 := T 0) (dst := fun d => ((ops.toList.map (compOper P lit ops))[d]?).bind (·.dst)) (R := hideR R a b) (L := L) (i := i) (n := (ops.toList.map (compOper P lit ops)).length) (by omega) hLi (fun d t hid hdn hti htd => by
  simp only [ho,Option.bind_some] at hti
  have hdl : d < ops.size := by omega
  have hd : (ops.toList.map (compOper P lit ops))[d]? = some (compOper P lit ops ops[d]) := by simp [hdl]
  simp only [hd,Option.bind_some] at htd
  have hord := D.names i _ ho t (tm_dst hti) d _ hd htd (by omega)
  rw [show min d i = i by omega, show max d i = d by omega] at hord
  cases hLd : L d with
  | false => rfl
  | true => have := before_closed M.closed hLd hord; simp only [hLi] at this; simp at this)
 have hdst : ((ops.toList.map (compOper P lit ops))[i]?).bind (·.dst) = ops[i].dst := by rw [ho]; rfl
 have hRi : hideR R a b i = R i := by unfold hideR; rw [if_neg hnf]
 simp only [hdst,hRi] at hadd
 have hwant : wantedA (tmAt (T 0) (fun d => ((ops.toList.map (compOper P lit ops))[d]?).bind (·.dst)) (hideR R a b) L (ops.toList.map (compOper P lit ops)).length) (compOper P lit ops ops[i]).guard = wantedA (T i) (compOper P lit ops ops[i]).guard :=
  wanted_congr fun d b hd => hfr d (tm_guard hd)
 have hgi := hguards ops[i] (by simp)
 have hlone : ∀ j t ty cs, a ≤ j → j < b → (ops.toList.map (compOper P lit ops))[j]? = some ⟨some t, .alloc ty cs, none⟩ → ∀ d q, d ≠ j → (ops.toList.map (compOper P lit ops))[d]? = some q → t ∈ tmpsOf q → (if d = i then true else L d) = false := fun j t ty cs h1 h2 h3 d q hdj hq ht => by
  by_cases hdi : d = i
  ·subst hdi
   rw [ho] at hq; injection hq with hq; subst hq
   exact absurd ht (hnot j t ty cs h1 h2 h3)
  ·rw [if_neg hdi]; exact M.lone j t ty cs h1 h2 h3 d q hdj hq ht
 have hgo : ∀ (E' : Env) (v : Value), Ext (Held B a b L kb) E E' →
   (∀ j t ty cs, a ≤ j → j < b → (if j = i then true else L j) = true → (ops.toList.map (compOper P lit ops))[j]? = some ⟨some t, .alloc ty cs, none⟩ → (∀ u, (act.put ops[i].dst v).tmps[t]? = some u → u = .pointer (some ⟨(kb j).1, (kb j).2.1 + 0 * (kb j).2.2 + 0, none⟩)) ∧ Early B E' (kb j) ty cs) ∧
   (∀ j j', a ≤ j → j < b → (if j = i then true else L j) = true → a ≤ j' → j' < b → (if j' = i then true else L j') = true → (kb j).1 = (kb j').1 → j = j') := fun E' v X' => by
  have hL : ∀ j, a ≤ j → j < b → (if j = i then true else L j) = true → L j = true := fun j h1 h2 h3 => by
   rwa [if_neg (fun e => hnf (by subst e; exact ⟨h1, h2⟩))] at h3
  refine ⟨fun j t ty cs h1 h2 h3 h4 => ?_, fun j j' h1 h2 h3 h1' h2' h3' => hinj j j' h1 h2 (hL j h1 h2 h3) h1' h2' (hL j' h1' h2' h3')⟩
  obtain ⟨e1, e2⟩ := hearly j t ty cs h1 h2 (hL j h1 h2 h3) h4
  refine ⟨fun u hu => e1 u ?_, e2.ext X' (.inr ⟨j, h1, h2, hL j h1 h2 h3, rfl⟩)⟩
  rwa [put_ne (fun e => hnot j t ty cs h1 h2 h4 (tm_dst (o := compOper P lit ops ops[i]) e))] at hu
 have hheld : Held B a b (fun j => if j = i then true else L j) kb = Held B a b L kb := held_same hnf
 have hBle : ∀ x, B x → Held B a b L kb x := fun x hx => .inl hx
 unfold wpOp
 simp only [hoi]
 rcases hs with ⟨hw, hop⟩ | ⟨hw, hr, hGe⟩
 ·rw [hw] at hwant
  rw [wanted_spec hR (ops := ops) hgi hwant]
  simp only [if_true]
  left
  have hcong : ∀ H, aopc Φ H (tmAt (T 0) (fun d => ((ops.toList.map (compOper P lit ops))[d]?).bind (·.dst)) (hideR R a b) L (ops.toList.map (compOper P lit ops)).length) (compOper P lit ops ops[i]).op = aopc Φ H (T i) (compOper P lit ops ops[i]).op := fun H =>
   aopc_congr Φ H fun x hx => ev_eq_of fun t ht => hfr t (tm_opnd (by rw [← ht]; exact hx))
  have key : ∃ f' , f' ≤ a ∧ aopc Φ (G f) (T i) (compOper P lit ops ops[i]).op = some (R i, G f') ∧
    (∀ d o, d < f' → (ops.toList.map (compOper P lit ops))[d]? = some o → cls o.op = 2 → (if d = i then true else L d) = true) ∧ (∀ d o, f' ≤ d → (d < a ∨ b ≤ d) → (ops.toList.map (compOper P lit ops))[d]? = some o → cls o.op = 2 → (if d = i then true else L d) = false) := by
   rcases cls_le (compOper P lit ops ops[i]).op with h0 | h1 | h2
   ·refine ⟨f, hf, ?_, fun d o h1 h2 h3 => ?_, fun d o h1 h1' h2 h3 => ?_⟩
    ·rw [aopc_not_call (by omega)] at hop ⊢
     exact (pure_indep h0 hop).2 _
    ·split
     ·rfl
     ·exact f1 d o h1 h2 h3
    ·have hdi : d ≠ i := fun e => by subst e; rw [ho] at h2; injection h2 with h2; subst h2; omega
     rw [if_neg hdi]; exact f2 d o h1 h1' h2 h3
   ·refine ⟨f, hf, ?_, fun d o h1 h2 h3 => ?_, fun d o h1' h1'' h2 h3 => ?_⟩
    ·obtain ⟨k, x, hk⟩ := cls_one h1
     rw [aopc_not_call (by omega)] at hop ⊢
     rw [hk] at hop ⊢
     have hld := (load_indep hop).2
     have hsame : loadAt (G f) k (ev (T i) x) = loadAt (G i) k (ev (T i) x) := by
      by_cases hfi : f ≤ i
      ·refine (D.loads ho hk hw f i hfi (by omega) fun e r he1 he2 hr hcr => ?_).symm
       constructor
       ·cases hb : ordB (Region.before ops) i e with
        | false => rfl
        | true => have := before_lt D.edge hb; omega
       ·cases hb : ordB (Region.before ops) e i with
        | false => rfl
        | true =>
         exfalso
         by_cases hfe : a ≤ e ∧ e < b
         ·exact hnb fun k o hk hko hc => hready k (F.behind e hfe.1 hfe.2 i _ ho hb k o hk hko hc)
         ·have hLe := f2 e r he1 (by omega) hr hcr
          have := hready e hb; rw [hLe] at this; simp at this
      ·refine D.loads ho hk hw i f (by omega) (by omega) fun e r he1 he2 hr hcr => ?_
       have hLe := f1 e r he2 hr hcr
       constructor
       ·cases hb : ordB (Region.before ops) i e with
        | false => rfl
        | true => have := before_closed M.closed hLe hb; simp only [hLi] at this; simp at this
       ·cases hb : ordB (Region.before ops) e i with
        | false => rfl
        | true => have := before_lt D.edge hb; omega
     simp only [aop,hsame,hld]
    ·split
     ·rfl
     ·exact f1 d o h1 h2 h3
    ·have hdi : d ≠ i := fun e => by subst e; rw [ho] at h2; injection h2 with h2; subst h2; omega
     rw [if_neg hdi]; exact f2 d o h1' h1'' h2 h3
   ·have hlt := hia h2
    have hfi : f ≤ i := by
     rcases Nat.lt_or_ge i f with h | h
     ·have := f1 i _ h ho h2; rw [hLi] at this; simp at this
     ·exact h
    have hGi : G i = G f := D.quiets hfi (by omega) fun d o hd1 hd2 hdo hdc => by
     have hb := F.loud d i o _ hd2 hlt hdo ho hdc h2
     have h1 := hready d hb
     have h3 := f2 d o hd1 (by omega) hdo hdc
     rw [h1] at h3; simp at h3
    refine ⟨i + 1, by omega, by rw [← hGi]; exact hop, fun d o h1 h2' h3 => ?_, fun d o h1 h1' h2' h3 => ?_⟩
    ·by_cases hdi : d = i
     ·simp [hdi]
     ·rw [if_neg hdi]
      exact hready d (F.loud d i o _ (by omega) hlt h2' ho h3 h2)
    ·rw [if_neg (by omega)]
     cases hLd : L d with
     | false => rfl
     | true => have := f2 d o (by omega) h1' h2' h3; rw [hLd] at this; simp at this
  obtain ⟨f', hf', hopf, g1, g2⟩ := key
  rw [← hH, ← hcong] at hopf
  obtain ⟨_, hopf'⟩ := compOper_guard hopf
  refine oper_wp (S (Held B a b L kb) rfl) I hR hopf' fun a' E' hput I' X' hH' hR' => ?_
  obtain ⟨v, rfl⟩ := hput
  obtain ⟨q1, q2⟩ := hgo E' v X'
  exact hK _ _ ⟨hclosed', hlone, E', f', kb, rfl, by rw [hheld]; exact I', X.trans (X'.less hBle), hf', g1, g2, hH', by rw [hadd]; exact hR', q1, q2⟩
 ·rw [hw] at hwant
  rw [wanted_spec hR (ops := ops) hgi hwant]
  simp only [Bool.false_eq_true,if_false]
  obtain ⟨q1, q2⟩ := hgo E undef (Ext.refl _ E)
  by_cases h2 : cls (compOper P lit ops ops[i]).op = 2
  ·have hlt := hia h2
   have hfi : f ≤ i := by
    rcases Nat.lt_or_ge i f with h | h
    ·have := f1 i _ h ho h2; rw [hLi] at this; simp at this
    ·exact h
   have hGi : G i = G f := D.quiets hfi (by omega) fun d o hd1 hd2 hdo hdc => by
    have hb := F.loud d i o _ hd2 hlt hdo ho hdc h2
    have h1 := hready d hb
    have h3 := f2 d o hd1 (by omega) hdo hdc
    rw [h1] at h3; simp at h3
   refine hK _ _ ⟨hclosed', hlone, E, i + 1, kb, rfl, by rw [hheld]; exact I, X, by omega, fun d o h1 h2' h3 => ?_, fun d o h1 h1' h2' h3 => ?_, by rw [hGe, hGi]; exact hH, ?_, q1, q2⟩
   ·by_cases hdi : d = i
    ·simp [hdi]
    ·rw [if_neg hdi]
     exact hready d (F.loud d i o _ (by omega) hlt h2' ho h3 h2)
   ·rw [if_neg (by omega)]
    cases hLd : L d with
    | false => rfl
    | true => have := f2 d o (by omega) h1' h2' h3; rw [hLd] at this; simp at this
   ·rw [hadd, hr]; exact relT_skip hR _
  ·refine hK _ _ ⟨hclosed', hlone, E, f, kb, rfl, by rw [hheld]; exact I, X, hf, fun d o h1 h2' h3 => ?_, fun d o h1 h1' h2' h3 => ?_, hH, ?_, q1, q2⟩
   ·split
    ·rfl
    ·exact f1 d o h1 h2' h3
   ·have hdi : d ≠ i := fun e => by subst e; rw [ho] at h2'; injection h2' with h2'; subst h2'; omega
    rw [if_neg hdi]; exact f2 d o h1 h1' h2' h3
   ·rw [hadd, hr]; exact relT_skip hR _
end
end Go.Abs
end
section
set_option linter.unusedVariables false
set_option linter.unusedSimpArgs false
namespace Go.Abs
section
variable {P : Program} {B : Low} {Φ : Oracle} {ops : Array Oper} {T : Nat → List AV} {G : Nat → Heap} {R : Nat → AV} {a b : Nat}
theorem take_append_self {α : Type} (l m : List α) : (l ++ m).take l.length = l := by simp
theorem aside {B B' B'' : Low} {E E' : Env} (I : Inv B' E) (I' : Inv B' E') (X' : Ext B' E E') {ty : Option (TypeId × Nat)} {cs : List AV} (hH : E'.H = E.H ++ [.obj ty [cs]]) (hcs : cs.all plainA = true)
  (hB : ∀ x, B x → B' x) (hok : B''.ok = B'.ok) (hB'' : ∀ x, B'' x → B' x ∨ x = (E'.m E.H.length).1) :
  Inv B'' ⟨E'.w, E'.S, E'.m, E.H⟩ ∧ Ext B' E ⟨E'.w, E'.S, E'.m, E.H⟩ ∧ Early B ⟨E'.w, E'.S, E'.m, E.H⟩ (E'.m E.H.length) ty cs := by
 have hnew : E'.H[E.H.length]? = some (.obj ty [cs]) := by rw [hH]; simp
 have hold : ∀ id x, E.H[id]? = some x → E'.H[id]? = some x := fun id x h => by
  rw [hH, List.getElem?_append_left (List.getElem?_eq_some_iff.1 h).1]; exact h
 have htake : E'.H.take E.H.length = E.H := by rw [hH]; exact take_append_self _ _
 have down : ∀ x v, RelA E' x v → refsLt E.H.length x = true → RelA ⟨E'.w, E'.S, E'.m, E.H⟩ x v := fun x v h hr => by
  have := relA_take (E := E') E.H.length x v h hr
  rwa [htake] at this
 obtain ⟨n1, n2, n3⟩ := I'.obj _ _ _ hnew
 have hlen : E'.H.length = E.H.length + 1 := by rw [hH]; simp
 have base : ∀ id (x : HO), E.H[id]? = some x → x ≠ .dead → ¬ B' (E'.m id).1 → ¬ B'' (E'.m id).1 := fun id x hid hx h h' => by
  rcases hB'' _ h' with h1 | h1
  ·exact h h1
  ·have := I'.inj id E.H.length _ _ (hold _ _ hid) hnew hx nofun h1
   have := (List.getElem?_eq_some_iff.1 hid).1
   omega
 refine ⟨⟨fun x hx => ?_, I'.sS, fun id ty' es he => ?_, fun id ty' n he => ?_, fun i j x y hi hj hx hy hij => I'.inj i j x y (hold _ _ hi) (hold _ _ hj) hx hy hij, by rw [hok]; exact I'.tab, fun id s p he => ⟨⟨base id _ he nofun (I'.it id s p (hold _ _ he)).1.base, (I'.it id s p (hold _ _ he)).1.zero, (I'.it id s p (hold _ _ he)).1.at0⟩, (I'.it id s p (hold _ _ he)).2⟩⟩, ⟨X'.ss, X'.cell, X'.size, X'.low, X'.there, X'.snew, X'.os, X'.tape, X'.output, Nat.le_refl _, fun id ho => ⟨ho, (X'.obj id ho).2⟩, fun id ty' n he => ?_⟩, ⟨n1.less hB, n2, fun i e he => ?_⟩⟩
 ·rcases hB'' x hx with h1 | h1
  ·exact I'.szB x h1
  ·rw [h1]; exact n1.lt
 ·have hid := (List.getElem?_eq_some_iff.1 he).1
  obtain ⟨a1, a2, a3⟩ := I'.obj id ty' es (hold _ _ he)
  refine ⟨⟨base id _ he nofun a1.base, a1.lt, a1.free, a1.shape⟩, a2, fun i e hie => ?_⟩
  obtain ⟨b1, b2⟩ := a3 i e hie
  refine ⟨b1, fun j x hx => ?_⟩
  obtain ⟨u, hu, hru, hk⟩ := b2 j x hx
  refine ⟨u, hu, down x u hru ?_, hk⟩
  obtain ⟨_, _, c3⟩ := I.obj id ty' es he
  obtain ⟨u0, _, hr0, _⟩ := (c3 i e hie).2 j x hx
  exact relA_refs x u0 hr0
 ·have hid := (List.getElem?_eq_some_iff.1 he).1
  obtain ⟨a1, a2⟩ := I'.hw id ty' n (hold _ _ he)
  exact ⟨⟨base id _ he nofun a1.base, a1.lt, a1.free, a1.shape⟩, a2⟩
 ·refine ⟨n, he, Nat.le_refl _, fun _ => ?_⟩
  obtain ⟨n', h1, h2, h3⟩ := X'.hw id ty' n he
  rw [hold _ _ he] at h1
  simp only [Option.some.injEq,HO.hw.injEq] at h1
  exact h3 h1.2.symm
 ·obtain ⟨b1, b2⟩ := n3 i e he
  refine ⟨b1, fun j x hx => ?_⟩
  obtain ⟨u, hu, hru, hk⟩ := b2 j x hx
  refine ⟨u, hu, down x u hru (plain_refs ?_), hk⟩
  have hec : e = cs := by
   cases i with
   | zero => simpa using he.symm
   | succ i => simp at he
  subst hec
  exact List.all_eq_true.1 hcs x (List.mem_of_getElem? hx)
theorem Draw.early (S : ∀ B' : Low, B'.ok = B.ok → Sound P B' Φ) {lit : Lit} (D : Draw Φ ops (ops.toList.map (compOper P lit ops)) T G R b) (F : FreeAt ops (ops.toList.map (compOper P lit ops)) a b) (hguards : ∀ o ∈ ops.toList, (compGuard ops o.guard).2 = true) {E0 : Env} {L : Nat → Bool} {act : Act} {w : World}
  (M : Pre B E0 ops (ops.toList.map (compOper P lit ops)) T G R a b L act w) {i : Nat} (hi : i < ops.size) (hia : a ≤ i) (hib : i < b) (hLi : L i = false) (hed : ∀ e ∈ ops[i].after, Region.binds .any e = true → L e.on = true) {K : Act → World → Prop} {Q : Exit → Act → World → Prop}
  (hK : ∀ a' w', Pre B E0 ops (ops.toList.map (compOper P lit ops)) T G R a b (fun k => if k = i then true else L k) a' w' → K a' w') : wpOp P ops Q i K act w := by
 have hn : (ops.toList.map (compOper P lit ops)).length = ops.size := by simp
 have ho : (ops.toList.map (compOper P lit ops))[i]? = some (compOper P lit ops ops[i]) := by simp [hi]
 have hoi : ops[i]? = some ops[i] := by simp [hi]
 obtain ⟨t, ty, cs, hop, hcs⟩ := F.op i hia hib
 have hcomp : compOper P lit ops ops[i] = ⟨some t, .alloc ty cs, none⟩ := by rw [ho] at hop; injection hop
 have hclosed' : Closed ops fun j => (if j = i then true else L j) = true := fun j o hj hL e he hb => by
  by_cases hji : j = i
  ·subst hji
   rw [hoi] at hj; injection hj with hj; subst hj
   have := hed e he hb
   simp [this]
  ·simp only [if_neg hji] at hL
   have := M.closed j o hj hL e he hb
   simp only at this
   simp [this]
 obtain ⟨E, f, kb, rfl, I, X, hf, f1, f2, hH, hR, hearly, hinj⟩ := M.state
 have hdst : ops[i].dst = some t := by have : (compOper P lit ops ops[i]).dst = ops[i].dst := rfl
                                       rw [← this, hcomp]
 have hadd := tmAt_add (T0 := T 0) (dst := fun d => ((ops.toList.map (compOper P lit ops))[d]?).bind (·.dst)) (R := hideR R a b) (L := L) (i := i) (n := (ops.toList.map (compOper P lit ops)).length) (by omega) hLi (fun d u hid hdn hti htd => by
  simp only [ho,Option.bind_some] at hti
  have hdl : d < ops.size := by omega
  have hd : (ops.toList.map (compOper P lit ops))[d]? = some (compOper P lit ops ops[d]) := by simp [hdl]
  simp only [hd,Option.bind_some] at htd
  have hord := D.names i _ ho u (tm_dst hti) d _ hd htd (by omega)
  rw [show min d i = i by omega, show max d i = d by omega] at hord
  cases hLd : L d with
  | false => rfl
  | true => have := before_closed M.closed hLd hord; simp only [hLi] at this; simp at this)
 have hdst' : ((ops.toList.map (compOper P lit ops))[i]?).bind (·.dst) = some t := by rw [hop]; rfl
 have hRi : hideR R a b i = .any := by unfold hideR; rw [if_pos ⟨hia, hib⟩]
 simp only [hdst',hRi] at hadd
 have hne : ∀ j u ty' cs', a ≤ j → j < b → (ops.toList.map (compOper P lit ops))[j]? = some ⟨some u, .alloc ty' cs', none⟩ → j ≠ i → u ≠ t := fun j u ty' cs' h1 h2 h3 hji e => by
  subst e
  exact hji (F.inj D.edge ⟨h1, h2⟩ ⟨hia, hib⟩ h3 hop)
 have hlone : ∀ j u ty cs, a ≤ j → j < b → (ops.toList.map (compOper P lit ops))[j]? = some ⟨some u, .alloc ty cs, none⟩ → ∀ d q, d ≠ j → (ops.toList.map (compOper P lit ops))[d]? = some q → u ∈ tmpsOf q → (if d = i then true else L d) = false := fun j u ty' cs' h1 h2 h3 d q hdj hq ht => by
  by_cases hdi : d = i
  ·subst hdi
   rw [hop] at hq; injection hq with hq; subst hq
   simp [tmpsOf, opnds] at ht
   exact absurd ht (hne j u ty' cs' h1 h2 h3 (fun e => hdj e.symm))
  ·rw [if_neg hdi]; exact M.lone j u ty' cs' h1 h2 h3 d q hdj hq ht
 have hgi := hguards ops[i] (by simp)
 have hw : wantedA (tmAt (T 0) (fun d => ((ops.toList.map (compOper P lit ops))[d]?).bind (·.dst)) (hideR R a b) L (ops.toList.map (compOper P lit ops)).length) (compGuard ops ops[i].guard).1 = some true := by
  have : (compGuard ops ops[i].guard).1 = (compOper P lit ops ops[i]).guard := rfl
  rw [this, hcomp]; rfl
 unfold wpOp
 simp only [hoi]
 rw [wanted_spec hR (ops := ops) hgi hw]
 simp only [if_true]
 left
 have hopf : aopc Φ E.H (tmAt (T 0) (fun d => ((ops.toList.map (compOper P lit ops))[d]?).bind (·.dst)) (hideR R a b) L (ops.toList.map (compOper P lit ops)).length) (compOper P lit ops ops[i]).op = some (.ptr E.H.length 0 0, E.H ++ [.obj ty [cs]]) := by
  rw [hcomp]; rfl
 obtain ⟨_, hopf'⟩ := compOper_guard hopf
 refine oper_wp (S (Held B a b L kb) rfl) I hR hopf' fun a' E' hput I' X' hH' hR' => ?_
 obtain ⟨v, rfl⟩ := hput
 have hnewObj : E'.H[E.H.length]? = some (.obj ty [cs]) := by rw [hH']; simp
 obtain ⟨n1, n2, n3⟩ := I'.obj _ _ _ hnewObj
 obtain ⟨i1, x1, y1⟩ := aside (B := B) (B'' := Held B a b (fun j => if j = i then true else L j) (fun j => if j = i then E'.m E.H.length else kb j)) I I' X' hH' hcs (fun x hx => Or.inl hx) rfl (fun x hx => by
  rcases hx with h | ⟨j, h1, h2, h3, h4⟩
  ·exact .inl (Or.inl h)
  ·by_cases hji : j = i
   ·right; simpa [hji] using h4
   ·left; right
    simp only [if_neg hji] at h3 h4
    exact ⟨j, h1, h2, h3, h4⟩)
 refine hK _ _ ⟨hclosed', hlone, ⟨E'.w, E'.S, E'.m, E.H⟩, f, fun j => if j = i then E'.m E.H.length else kb j, rfl, i1, X.trans (x1.less fun x hx => Or.inl hx), hf, fun d o h1 h2 h3 => ?_, fun d o h1 h1' h2 h3 => ?_, hH, ?_, fun j u ty' cs' h1 h2 h3 h4 => ?_, fun j j' h1 h2 h3 h1' h2' h3' he => ?_⟩
 ·split
  ·rfl
  ·exact f1 d o h1 h2 h3
 ·rw [if_neg (by omega)]; exact f2 d o h1 h1' h2 h3
 ·rw [hadd, hdst]
  exact relT_put (relT_ext x1 hR) _ (by simp only [RelA])
 ·by_cases hji : j = i
  ·subst hji
   rw [hop] at h4
   simp only [Option.some.injEq,AOper.mk.injEq,AOp.alloc.injEq,and_true] at h4
   obtain ⟨rfl, rfl, rfl⟩ := h4
   simp only [if_true]
   refine ⟨fun x hx => ?_, y1⟩
   rw [hdst] at hx hR'
   by_cases hlt : t < act.tmps.size
   ·simp only [Act.put] at hx
    rw [Array.getElem?_setIfInBounds_self_of_lt hlt] at hx
    injection hx with hx; subst hx
    have hlen := relAs_length hR.1
    have hr := relT_get hR' t
    simp only [putA,Act.put] at hr
    rw [Array.getD_eq_getD_getElem?, Array.getElem?_setIfInBounds_self_of_lt hlt, List.getD_eq_getElem?_getD, List.getElem?_set_self (by rw [← hlen]; simpa using hlt)] at hr
    simp only [Option.getD_some,RelA] at hr
    exact hr.1
   ·simp only [Act.put] at hx
    rw [Array.getElem?_eq_none (by simp; omega)] at hx; simp at hx
  ·rw [if_neg hji] at h3
   simp only [if_neg hji]
   obtain ⟨e1, e2⟩ := hearly j u ty' cs' h1 h2 h3 h4
   refine ⟨fun x hx => e1 x ?_, e2.ext x1 (.inr ⟨j, h1, h2, h3, rfl⟩)⟩
   rw [hdst] at hx
   rwa [put_ne (fun e => hne j u ty' cs' h1 h2 h4 hji (by injection e with e; exact e.symm))] at hx
 ·by_cases hji : j = i <;> by_cases hji' : j' = i
  ·rw [hji, hji']
  ·simp only [hji,if_true,if_neg hji'] at he
   rw [if_neg hji'] at h3'
   exact absurd (.inr ⟨j', h1', h2', h3', he⟩) n1.base
  ·simp only [hji',if_true,if_neg hji] at he
   rw [if_neg hji] at h3
   exact absurd (.inr ⟨j, h1, h2, h3, he.symm⟩) n1.base
  ·simp only [if_neg hji,if_neg hji'] at he h3 h3'
   exact hinj j j' h1 h2 h3 h1' h2' h3' he
end
end Go.Abs
end
section
set_option linter.unusedVariables false
set_option linter.unusedSimpArgs false
namespace Go.Abs
section
variable {P : Program} {B : Low} {Φ : Oracle} {ops : Array Oper} {l : List AOper} {T : Nat → List AV} {G : Nat → Heap} {R : Nat → AV} {a b : Nat}
theorem FreeAt.tail (W : Went Φ l T G R) (F : FreeAt ops l a b) : ∀ n, a + n ≤ b → ∃ zs, G (a + n) = G a ++ zs ∧ zs.length = n ∧ ∀ j t ty cs, j < n → l[a + j]? = some ⟨some t, .alloc ty cs, none⟩ → zs[j]? = some (.obj ty [cs]) ∧ R (a + j) = .ptr ((G a).length + j) 0 0
 | 0, _ => ⟨[], by simp, rfl, fun j _ _ _ hj => by omega⟩
 | n + 1, h => by
  obtain ⟨zs, h1, h2, h3⟩ := FreeAt.tail W F n (by omega)
  obtain ⟨t, ty, cs, ho, _⟩ := F.op (a + n) (by omega) (by omega)
  obtain ⟨_, hs⟩ := W.step (a + n) _ ho
  have hop : aopc Φ (G (a + n)) (T (a + n)) (.alloc ty cs) = some (R (a + n), G (a + n + 1)) := by
   rcases hs with ⟨_, hop⟩ | ⟨hw, _⟩
   ·exact hop
   ·simp [wantedA] at hw
  have hop' : aopc Φ (G (a + n)) (T (a + n)) (.alloc ty cs) = some (.ptr (G (a + n)).length 0 0, G (a + n) ++ [.obj ty [cs]]) := rfl
  rw [hop'] at hop
  simp only [Option.some.injEq,Prod.mk.injEq] at hop
  obtain ⟨hr, hg⟩ := hop
  refine ⟨zs ++ [.obj ty [cs]], by rw [← Nat.add_assoc, ← hg, h1, List.append_assoc], by simp [h2], fun j u ty' cs' hj hl => ?_⟩
  by_cases hjn : j = n
  ·subst hjn
   rw [ho] at hl
   simp only [Option.some.injEq,AOper.mk.injEq,AOp.alloc.injEq,and_true] at hl
   obtain ⟨rfl, rfl, rfl⟩ := hl
   refine ⟨by rw [List.getElem?_append_right (by omega), h2]; simp, ?_⟩
   rw [← hr, h1, List.length_append, h2]
  ·obtain ⟨q1, q2⟩ := h3 j u ty' cs' (by omega) hl
   exact ⟨by rw [List.getElem?_append_left (by omega)]; exact q1, q2⟩
theorem Pre.bind (D : Draw Φ ops l T G R b) (F : FreeAt ops l a b) {E0 : Env} {L : Nat → Bool} {act : Act} {w : World} (M : Pre B E0 ops l T G R a b L act w) (hb : Bound l b L) : Mid B E0 ops l T G R L act w := by
 obtain ⟨E, f, kb, rfl, I, X, hf, f1, f2, hH, hR, hearly, hinj⟩ := M.state
 have hab := F.ab
 have hbl := F.bl
 have hG : G a = G f := D.quiets hf (by omega) fun d o h1 h2 h3 h4 => by
  have e1 := f2 d o h1 (.inl h2) h3 h4
  have e2 := hb d o (by omega) h3 h4
  rw [e1] at e2; simp at e2
 have hall : ∀ i, a ≤ i → i < b → L i = true := fun i h1 h2 => by
  obtain ⟨t, ty, cs, ho, _⟩ := F.op i h1 h2
  exact hb i _ h2 ho rfl
 obtain ⟨zs, z1, z2, z3⟩ := F.tail D.went (b - a) (by omega)
 rw [show a + (b - a) = b by omega, hG, ← hH] at z1
 rw [hG, ← hH] at z3
 have hm1 : ∀ id, id < E.H.length → (fun id => if id < E.H.length then E.m id else kb (a + (id - E.H.length))) id = E.m id := fun id h => by simp only [if_pos h]
 have hm2 : ∀ j, (fun id => if id < E.H.length then E.m id else kb (a + (id - E.H.length))) (E.H.length + j) = kb (a + j) := fun j => by
  simp only [if_neg (show ¬ E.H.length + j < E.H.length by omega),show E.H.length + j - E.H.length = j by omega]
 generalize (fun id => if id < E.H.length then E.m id else kb (a + (id - E.H.length))) = m' at hm1 hm2
 have ltOf : ∀ {id : Nat} {x : HO}, E.H[id]? = some x → id < E.H.length := fun h => (List.getElem?_eq_some_iff.1 h).1
 have X2 : Ext B E ⟨E.w, E.S, m', E.H ++ zs⟩ :=
  ⟨fun _ _ h => h, fun _ _ _ => rfl, Nat.le_refl _, fun _ _ => rfl, fun _ _ h => h, fun _ _ h => .inl h, rfl, rfl, rfl, by simp, fun id h => ⟨isObj_append h zs, hm1 id (isObj_lt h)⟩,
   fun id ty n h => ⟨n, by rw [List.getElem?_append_left (ltOf h)]; exact h, Nat.le_refl _, fun _ => hm1 id (ltOf h)⟩⟩
 have hzs : ∀ j, j < zs.length → ∃ t ty cs, l[a + j]? = some ⟨some t, .alloc ty cs, none⟩ ∧ zs[j]? = some (.obj ty [cs]) ∧ Early B E (kb (a + j)) ty cs := fun j hj => by
  obtain ⟨t, ty, cs, ho, _⟩ := F.op (a + j) (by omega) (by omega)
  exact ⟨t, ty, cs, ho, (z3 j t ty cs (by omega) ho).1, (hearly (a + j) t ty cs (by omega) (by omega) (hall _ (by omega) (by omega)) ho).2⟩
 have split : ∀ {id : Nat} {x : HO}, (E.H ++ zs)[id]? = some x → (id < E.H.length ∧ E.H[id]? = some x) ∨ ∃ j, id = E.H.length + j ∧ j < zs.length ∧ zs[j]? = some x := fun {id x} h => by
  by_cases hid : id < E.H.length
  ·rw [List.getElem?_append_left hid] at h; exact .inl ⟨hid, h⟩
  ·rw [List.getElem?_append_right (by omega)] at h
   exact .inr ⟨id - E.H.length, by omega, (List.getElem?_eq_some_iff.1 h).1, h⟩
 have hBle : ∀ x, B x → Held B a b L kb x := fun x hx => .inl hx
 have hbase : ∀ i (x : HO), E.H[i]? = some x → x ≠ .dead → ¬ Held B a b L kb (E.m i).1 := fun i x hh hx => by
  cases x with
  | obj ty es => exact (I.obj i ty es hh).1.base
  | hw ty n => exact (I.hw i ty n hh).1.base
  | it s p => exact (I.it i s p hh).1.base
  | dead => exact absurd rfl hx
 have I2 : Inv B ⟨E.w, E.S, m', E.H ++ zs⟩ := by
  refine ⟨fun x hx => I.szB x (hBle x hx), I.sS, fun id ty es he => ?_, fun id ty n he => ?_, fun i j x y hi hj hx hy hij => ?_, I.tab, fun id s p he => ?_⟩
  ·rcases split he with ⟨hid, he⟩ | ⟨j, rfl, hj, he⟩
   ·obtain ⟨h1, h2, h3⟩ := I.obj id ty es he
    simp only [hm1 id hid]
    exact ⟨h1.less hBle, h2, h3.ext X2 fun _ => rfl⟩
   ·obtain ⟨t, ty', cs, ho, hz, he'⟩ := hzs j hj
    rw [hz] at he
    simp only [Option.some.injEq,HO.obj.injEq] at he
    obtain ⟨rfl, rfl⟩ := he
    simp only [hm2 j]
    exact ⟨he'.own, he'.out, he'.rows.ext X2 fun _ => rfl⟩
  ·rcases split he with ⟨hid, he⟩ | ⟨j, rfl, hj, he⟩
   ·obtain ⟨h1, h2⟩ := I.hw id ty n he
    simp only [hm1 id hid]
    exact ⟨h1.less hBle, h2⟩
   ·obtain ⟨t, ty', cs, ho, hz, he'⟩ := hzs j hj
    rw [hz] at he
    simp at he
  ·simp only at hij
   rcases split hi with ⟨h1, hi'⟩ | ⟨p, rfl, hp, hi'⟩ <;> rcases split hj with ⟨h2, hj'⟩ | ⟨q, rfl, hq, hj'⟩
   ·rw [hm1 i h1, hm1 j h2] at hij; exact I.inj i j x y hi' hj' hx hy hij
   ·rw [hm1 i h1, hm2 q] at hij
    exact absurd (.inr ⟨a + q, by omega, by omega, hall _ (by omega) (by omega), hij⟩) (hbase i x hi' hx)
   ·rw [hm1 j h2, hm2 p] at hij
    exact absurd (.inr ⟨a + p, by omega, by omega, hall _ (by omega) (by omega), hij.symm⟩) (hbase j y hj' hy)
   ·rw [hm2 p, hm2 q] at hij
    have := hinj _ _ (by omega) (by omega) (hall _ (by omega) (by omega)) (by omega) (by omega) (hall _ (by omega) (by omega)) hij
    omega
  ·rcases split he with ⟨hid, he⟩ | ⟨j, rfl, hj, he⟩
   ·obtain ⟨h1, h2⟩ := I.it id s p he
    simp only [hm1 id hid]
    exact ⟨⟨fun hb => h1.base (hBle _ hb), h1.zero, h1.at0⟩, h2⟩
   ·obtain ⟨t, ty', cs, ho, hz, he'⟩ := hzs j hj
    rw [hz] at he
    simp at he
 refine ⟨M.closed, ⟨E.w, E.S, m', E.H ++ zs⟩, b, rfl, I2, X.trans X2, hbl, hb, fun d o h1 h2 h3 => f2 d o (by omega) (.inr h1) h2 h3, z1.symm, relAs_mk ?_ fun t x u hx hu => ?_, hR.2⟩
 ·have := relAs_length hR.1
  rw [this, tmAt_length, tmAt_length]
 ·by_cases hfree : ∃ i ty cs, a ≤ i ∧ i < b ∧ l[i]? = some ⟨some t, .alloc ty cs, none⟩
  ·obtain ⟨i, ty, cs, h1, h2, ho⟩ := hfree
   have hx' := tmAt_last (T0 := T 0) (dst := fun d => (l[d]?).bind (·.dst)) (R := R) (L := L) (t := t) (i := i) (by simp [ho]) (hall i h1 h2) l.length (by omega) (fun d hd1 hd2 hd => by
    cases hq : l[d]? with
    | none => rw [hq] at hd; simp at hd
    | some q =>
     rw [hq] at hd
     simp only [Option.bind_some] at hd
     exact M.lone i t ty cs h1 h2 ho d q (by omega) hq (tm_dst hd)) x hx
   obtain ⟨q1, _⟩ := hearly i t ty cs h1 h2 (hall i h1 h2) ho
   have hu' := q1 u (by simpa using hu)
   have hz := z3 (i - a) t ty cs (by omega) (by rw [show a + (i - a) = i by omega]; exact ho)
   rw [show a + (i - a) = i by omega] at hz
   rw [hx', hz.2]
   simp only [RelA]
   have hm := hm2 (i - a)
   rw [show a + (i - a) = i by omega] at hm
   rw [hm]
   exact ⟨hu', isObj_mk (ty := ty) (es := [cs]) (by rw [List.getElem?_append_right (by omega)]; rw [show E.H.length + (i - a) - E.H.length = i - a by omega]; exact hz.1)⟩
  ·have hsame : (tmAt (T 0) (fun d => (l[d]?).bind (·.dst)) (hideR R a b) L l.length)[t]? = some x := by
    rw [← hx]
    refine tmAt_getR _ fun d hd hdst _ => ?_
    unfold hideR
    split
    ·rename_i hdf
     obtain ⟨t', ty, cs, hq, _⟩ := F.op d hdf.1 hdf.2
     rw [hq] at hdst
     simp only [Option.bind_some,Option.some.injEq] at hdst
     subst hdst
     exact absurd ⟨d, ty, cs, hdf.1, hdf.2, hq⟩ hfree
    ·rfl
   obtain ⟨v, hv, hr⟩ := relAs_get hR.1 hsame
   rw [hv] at hu; injection hu with hu; subst hu
   exact relA_ext X2 x v hr
def Two (B : Low) (E0 : Env) (ops : Array Oper) (l : List AOper) (T : Nat → List AV) (G : Nat → Heap) (R : Nat → AV) (a b : Nat) (L : Nat → Bool) (act : Act) (w : World) : Prop :=
 (Bound l b L → Mid B E0 ops l T G R L act w) ∧ (¬ Bound l b L → Pre B E0 ops l T G R a b L act w)
theorem Two.of (D : Draw Φ ops l T G R b) (F : FreeAt ops l a b) {E0 : Env} {L : Nat → Bool} {act : Act} {w : World} (M : Pre B E0 ops l T G R a b L act w) : Two B E0 ops l T G R a b L act w :=
 ⟨fun h => M.bind D F h, fun _ => M⟩
theorem Two.one (S : ∀ B' : Low, B'.ok = B.ok → Sound P B' Φ) {lit : Lit} (D : Draw Φ ops (ops.toList.map (compOper P lit ops)) T G R b) (F : FreeAt ops (ops.toList.map (compOper P lit ops)) a b) (hguards : ∀ o ∈ ops.toList, (compGuard ops o.guard).2 = true) {E0 : Env} {L : Nat → Bool} {act : Act} {w : World}
  (M : Two B E0 ops (ops.toList.map (compOper P lit ops)) T G R a b L act w) {i : Nat} (hi : i < ops.size) (hLi : L i = false) (hed : ∀ e ∈ ops[i].after, Region.binds .any e = true → L e.on = true) {K : Act → World → Prop} {Q : Exit → Act → World → Prop}
  (hK : ∀ a' w', Two B E0 ops (ops.toList.map (compOper P lit ops)) T G R a b (fun k => if k = i then true else L k) a' w' → K a' w') : wpOp P ops Q i K act w := by
 have ho : (ops.toList.map (compOper P lit ops))[i]? = some (compOper P lit ops ops[i]) := by simp [hi]
 by_cases hb : Bound (ops.toList.map (compOper P lit ops)) b L
 ·refine Draw.one (S B rfl) D hguards (M.1 hb) hi (fun h2 => ?_) hLi hed fun a' w' M' => hK a' w' ⟨fun _ => M', fun hn => absurd (fun k o hk hko hc => ?_) hn⟩
  ·rcases Nat.lt_or_ge i b with h | h
   ·have := hb i _ h ho h2; rw [hLi] at this; simp at this
   ·exact h
  ·by_cases hki : k = i
   ·simp [hki]
   ·simp only [if_neg hki]; exact hb k o hk hko hc
 ·have Mp := M.2 hb
  by_cases hf : a ≤ i ∧ i < b
  ·exact Draw.early S D F hguards Mp hi hf.1 hf.2 hLi hed fun a' w' M' => hK a' w' (.of D F M')
  ·exact Draw.pre S D F hguards Mp hi hf hb hLi hed fun a' w' M' => hK a' w' (.of D F M')
theorem rest_any {M : (Nat → Bool) → Act → World → Prop} {Q : Exit → Act → World → Prop} (edge : ∀ i o, ops[i]? = some o → ∀ e ∈ o.after, Region.binds .any e = true → e.on < i)
  (hdone : ∀ L a w, M L a w → (∀ i, i < ops.size → L i = true) → Q .normal a w)
  (hone : ∀ L a w i (hi : i < ops.size), M L a w → L i = false → (∀ e ∈ ops[i].after, Region.binds .any e = true → L e.on = true) → ∀ K : Act → World → Prop, (∀ a' w', M (fun k => if k = i then true else L k) a' w' → K a' w') → wpOp P ops Q i K a w) :
  ∀ (fuel : Nat) (listed : Array Bool) (a : Act) (w : World), listed.size = ops.size → M (fun i => listed.getD i false) a w →
   (∃ U : List Nat, U.length ≤ fuel ∧ ∀ i, i < ops.size → listed.getD i false = false → i ∈ U) → wpAny P .any ops Q fuel listed a w := by
 have allDone : ∀ (listed : Array Bool), listed.size = ops.size → Region.ready .any ops listed = [] → ∀ i, i < ops.size → listed.getD i false = true := by
  intro listed hsz hr i
  induction i using Nat.strongRecOn with
  | _ i ih =>
   intro hi
   cases hb : listed.getD i false with
   | true => rfl
   | false =>
    exfalso
    have : i ∈ Region.ready .any ops listed := by
     unfold Region.ready
     rw [List.mem_filter]
     refine ⟨List.mem_range.2 hi, ?_⟩
     have hoi : ops[i]? = some ops[i] := by simp [hi]
     rw [hoi]
     simp only [Option.map_some,Option.getD_some,Bool.and_eq_true,Bool.not_eq_true']
     refine ⟨?_, ?_⟩
     ·rw [Array.getD_eq_getD_getElem?] at hb ⊢
      have : listed[i]? = some listed[i] := by simp [hsz, hi]
      rw [this] at hb ⊢
      simpa using hb
     ·rw [Array.all_eq_true']
      intro e he
      cases hbe : Region.binds .any e with
      | false => simp
      | true =>
       have hlt := edge i _ hoi e he hbe
       simp [ih e.on hlt (by omega)]
    rw [hr] at this
    simp at this
 intro fuel
 induction fuel with
 | zero =>
  intro listed a w hsz M hU
  obtain ⟨U, hU1, hU2⟩ := hU
  have hUn : U = [] := List.length_eq_zero_iff.1 (by omega)
  have hall : ∀ i, i < ops.size → listed.getD i false = true := fun i hi => by
   cases hb : listed.getD i false with
   | true => rfl
   | false => have := hU2 i hi hb; rw [hUn] at this; simp at this
  refine ⟨?_, hdone _ a w M hall⟩
  cases hr : Region.ready .any ops listed with
  | nil => rfl
  | cons i r =>
   exfalso
   obtain ⟨h1, h2, _⟩ := mem_ready (ops := ops) (listed := listed) (i := i) (by rw [hr]; simp)
   have := hall i h1
   rw [Array.getD_eq_getD_getElem?] at this h2
   have hx : listed[i]? = some listed[i] := by simp [hsz, h1]
   rw [hx] at this h2
   simp at this h2
   rw [this] at h2; simp at h2
 | succ fuel ih =>
  intro listed a w hsz M hU
  refine ⟨fun hr => hdone _ a w M (allDone listed hsz hr), fun i hi => ?_⟩
  obtain ⟨h1, h2, o, ho, hed⟩ := mem_ready hi
  have hx : listed[i]? = some listed[i] := by simp [hsz, h1]
  have hLi : listed.getD i false = false := by
   rw [Array.getD_eq_getD_getElem?] at h2 ⊢
   rw [hx] at h2 ⊢
   simpa using h2
  have hoe : ops[i]? = some ops[i] := by simp [h1]
  rw [hoe] at ho; injection ho with ho; subst ho
  refine hone _ a w i h1 M hLi hed _ fun a' w' M' => ih _ _ _ (by simp [hsz]) ?_ ?_
  ·have e1 : (fun k => (listed.setIfInBounds i true).getD k false) = fun k => if k = i then true else listed.getD k false := by
    funext k
    simp only [Array.getD_eq_getD_getElem?,Array.getElem?_setIfInBounds]
    by_cases hk : i = k
    ·subst hk; simp [hsz, h1]
    ·rw [if_neg hk, if_neg (fun e => hk e.symm)]
   rw [e1]; exact M'
  ·obtain ⟨U, hU1, hU2⟩ := hU
   refine ⟨U.erase i, ?_, fun j hj hb => ?_⟩
   ·have := List.length_erase_of_mem (hU2 i h1 hLi)
    have hpos : 0 < U.length := List.length_pos_of_mem (hU2 i h1 hLi)
    omega
   ·simp only [Array.getD_eq_getD_getElem?,Array.getElem?_setIfInBounds] at hb
    by_cases hk : i = j
    ·subst hk; simp [hsz, h1] at hb
    ·rw [if_neg hk] at hb
     exact (List.mem_erase_of_ne (fun e => hk e.symm)).2 (hU2 j hj (by rw [Array.getD_eq_getD_getElem?]; exact hb))
end
end Go.Abs
end
section
set_option linter.unusedVariables false
set_option linter.unusedSimpArgs false
namespace Go.Abs
def isFree : AOper → Bool
 | ⟨some _, .alloc _ cs, none⟩ => cs.all plainA
 | _ => false
theorem isFree_spec {o : AOper} (h : isFree o = true) : ∃ t ty cs, o = ⟨some t, .alloc ty cs, none⟩ ∧ cs.all plainA = true := by
 unfold isFree at h
 split at h
 ·exact ⟨_, _, _, rfl, h⟩
 ·simp at h
def is2 (l : List AOper) (i : Nat) : Bool := (l[i]?).any fun o => cls o.op == 2
def freeSpan (ops : Array Oper) (l : List AOper) : Nat × Nat :=
 let b := Region.before ops
 match (List.range l.length).find? fun i => ((l[i]?).any isFree) && (((List.range i).any fun k => is2 l k && !ordB b k i) || (((l[i + 1]?).any isFree) && !ordB b i (i + 1))) with
 | some a => (a, a + ((l.drop a).takeWhile isFree).length)
 | none => (0, 0)
def allAhead (b : Array Nat) (l : List AOper) (c q : Nat) : Bool := (List.range c).all fun k => !is2 l k || ordB b k q
def freeOk (ops : Array Oper) (l : List AOper) (a c : Nat) : Bool :=
 let b := Region.before ops
 decide (a ≤ c) && decide (c ≤ l.length) &&
 ((List.range l.length).all fun j => (l[j]?).all fun o => (tmpsOf o).all fun t => (List.range l.length).all fun d => d == j || !((l[d]?).any fun q => q.dst == some t) || ordB b (min d j) (max d j)) &&
 ((List.range l.length).all fun j => (List.range j).all fun i => !(decide (j < a) || decide (c ≤ j)) || !is2 l i || !is2 l j || ordB b i j) &&
 ((List.range ops.size).all fun i => (ops[i]?).all fun o => o.after.all fun e => !Region.binds .any e || e.on < i) &&
 ((List.range c).all fun i => decide (i < a) || (l[i]?).any isFree) &&
 ((List.range c).all fun i => decide (i < a) || (List.range l.length).all fun q => q == i || !((l[q]?).any fun o => (l[i]?).any fun r => (tmpsOf o).any fun t => r.dst == some t) || allAhead b l c q) &&
 ((List.range c).all fun i => decide (i < a) || (List.range l.length).all fun q => !ordB b i q || allAhead b l c q)
theorem is2_of {l : List AOper} {i : Nat} {o : AOper} (ho : l[i]? = some o) (h : cls o.op = 2) : is2 l i = true := by
 simp [is2, ho, h]
theorem allAhead_spec {b : Array Nat} {l : List AOper} {c q : Nat} (h : allAhead b l c q = true) {k : Nat} {r : AOper} (hk : k < c) (hr : l[k]? = some r) (h2 : cls r.op = 2) : ordB b k q = true := by
 have := List.all_eq_true.1 h k (List.mem_range.2 hk)
 simpa [is2_of hr h2] using this
theorem freeOk_spec {ops : Array Oper} {l : List AOper} {a c : Nat} (h : freeOk ops l a c = true) :
  (∀ j o, l[j]? = some o → ∀ t ∈ tmpsOf o, ∀ d q, l[d]? = some q → q.dst = some t → d ≠ j → ordB (Region.before ops) (min d j) (max d j) = true) ∧
  (∀ i j o q, c ≤ j → i < j → l[i]? = some o → l[j]? = some q → cls o.op = 2 → cls q.op = 2 → ordB (Region.before ops) i j = true) ∧
  (∀ i o, ops[i]? = some o → ∀ e ∈ o.after, Region.binds .any e = true → e.on < i) ∧ FreeAt ops l a c := by
 unfold freeOk at h
 simp only [Bool.and_eq_true] at h
 obtain ⟨⟨⟨⟨⟨⟨⟨h1, h2⟩, h3⟩, h4⟩, h5⟩, h6⟩, h7⟩, h8⟩ := h
 have hab := of_decide_eq_true h1
 have hbl := of_decide_eq_true h2
 have loud : ∀ i j o q, (j < a ∨ c ≤ j) → i < j → l[i]? = some o → l[j]? = some q → cls o.op = 2 → cls q.op = 2 → ordB (Region.before ops) i j = true := fun i j o q hj hij ho hq ho2 hq2 => by
  have hjl := (List.getElem?_eq_some_iff.1 hq).1
  have a1 := List.all_eq_true.1 h4 j (List.mem_range.2 hjl)
  have a2 := List.all_eq_true.1 a1 i (List.mem_range.2 hij)
  simp only [is2_of ho ho2,is2_of hq hq2] at a2
  rcases hj with hj | hj <;> simpa [hj] using a2
 refine ⟨fun j o ho t ht d q hq hd hne => ?_, fun i j o q hj => loud i j o q (.inr hj), fun i o ho e he hb => ?_, hab, hbl, fun i h1 h2 => ?_, fun i j o q hij hj => loud i j o q (.inl hj) hij, fun i t ty cs hi1 hi2 ho q o hqi hq ht k r hk hr hr2 => ?_, fun i hi1 hi2 q o hq hord k r hk hr hr2 => ?_⟩
 ·have hj := (List.getElem?_eq_some_iff.1 ho).1
  have hdl := (List.getElem?_eq_some_iff.1 hq).1
  have a1 := List.all_eq_true.1 h3 j (List.mem_range.2 hj)
  rw [ho] at a1
  simp only [Option.all_some] at a1
  have a2 := List.all_eq_true.1 a1 t ht
  have a3 := List.all_eq_true.1 a2 d (List.mem_range.2 hdl)
  rw [hq] at a3
  simp [hd, hne] at a3
  exact a3
 ·have hi := (Array.getElem?_eq_some_iff.1 ho).1
  have a1 := List.all_eq_true.1 h5 i (List.mem_range.2 hi)
  rw [ho] at a1
  simp only [Option.all_some] at a1
  rw [Array.all_eq_true'] at a1
  have a2 := a1 e he
  simp [hb] at a2
  exact a2
 ·have a1 := List.all_eq_true.1 h6 i (List.mem_range.2 h2)
  have hil : i < l.length := by omega
  rw [List.getElem?_eq_getElem hil] at a1 ⊢
  simp only [Option.any_some,Bool.or_eq_true,decide_eq_true_eq] at a1
  rcases a1 with a1 | a1
  ·omega
  ·obtain ⟨t, ty, cs, e1, e2⟩ := isFree_spec a1
   exact ⟨t, ty, cs, by rw [e1], e2⟩
 ·have a1 := List.all_eq_true.1 h7 i (List.mem_range.2 hi2)
  have hql := (List.getElem?_eq_some_iff.1 hq).1
  simp only [Bool.or_eq_true,decide_eq_true_eq] at a1
  rcases a1 with a1 | a1
  ·omega
  ·have a2 := List.all_eq_true.1 a1 q (List.mem_range.2 hql)
   rw [hq, ho] at a2
   have : (tmpsOf o).any (fun t' => (some t : Option Nat) == some t') = true := List.any_eq_true.2 ⟨t, ht, by simp⟩
   simp only [Option.any_some,this,Bool.not_true,Bool.or_false,Bool.or_eq_true,beq_iff_eq] at a2
   rcases a2 with a2 | a2
   ·exact absurd a2 hqi
   ·exact allAhead_spec a2 hk hr hr2
 ·have a1 := List.all_eq_true.1 h8 i (List.mem_range.2 hi2)
  have hql := (List.getElem?_eq_some_iff.1 hq).1
  simp only [Bool.or_eq_true,decide_eq_true_eq] at a1
  rcases a1 with a1 | a1
  ·omega
  ·have a2 := List.all_eq_true.1 a1 q (List.mem_range.2 hql)
   simp only [hord,Bool.not_true,Bool.false_or] at a2
   exact allAhead_spec a2 hk hr hr2
end Go.Abs
end
section
set_option linter.unusedVariables false
set_option linter.unusedSimpArgs false
namespace Go.Abs
def compRegion (P : Program) (lit : Lit) (ops : Array Oper) (draw : Bool) : ACode :=
 if ops.toList.all (fun o => (compGuard ops o.guard).2) then
  if draw then
   if drawOk ops (ops.toList.map (compOper P lit ops)) then .ops (ops.toList.map (compOper P lit ops)) (openPairs (Region.before ops) (ops.toList.map (compOper P lit ops)))
   else if freeOk ops (ops.toList.map (compOper P lit ops)) (freeSpan ops (ops.toList.map (compOper P lit ops))).1 (freeSpan ops (ops.toList.map (compOper P lit ops))).2 then .ops (ops.toList.map (compOper P lit ops)) (openPairs (Region.before ops) (ops.toList.map (compOper P lit ops)))
   else .bad
  else .ops (ops.toList.map (compOper P lit ops)) []
 else .bad
def compCode (P : Program) (lit : Lit) : Code → ACode
 | .skip => .skip
 | .region _ ops draw => compRegion P lit ops draw
 | .seq a b => .seq (compCode P lit a) (compCode P lit b)
 | .cond c a b => .cond (cO c) (compCode P lit a) (compCode P lit b)
 | .block id a => .block id (compCode P lit a)
 | .loop a => .loop (compCode P lit a)
 | .rangeFunc _ _ _ _ => .bad
 | .exit i => .exit i
 | .scope a => .scope (compCode P lit a) (compCode P lit a)
 | .label l => .label l
 | .goto l => .goto l
 | .ret => .ret
 | .refuse _ => .bad
section
variable {P : Program} {B : Low} {E : Env}
theorem inv_drew (I : Inv B E) : Inv B ⟨E.w.drew, E.S, E.m, E.H⟩ ∧ Ext B E ⟨E.w.drew, E.S, E.m, E.H⟩ := by
 have X : Ext B E ⟨E.w.drew, E.S, E.m, E.H⟩ :=
  ⟨fun _ _ h => h, fun _ _ _ => rfl, Nat.le_refl _, fun _ _ => rfl, fun _ _ h => h, fun _ _ h => .inl h, rfl, rfl, rfl, Nat.le_refl _, fun _ h => ⟨h, rfl⟩, fun _ _ n h => ⟨n, h, Nat.le_refl _, fun _ => rfl⟩⟩
 refine ⟨⟨I.szB, I.sS, fun id ty es h => ?_, fun id ty n h => ?_, I.inj, X.tab I.tab, fun id s p h => ⟨⟨(I.it id s p h).1.base, (I.it id s p h).1.zero, (I.it id s p h).1.at0⟩, (I.it id s p h).2⟩⟩, X⟩
 ·obtain ⟨h1, h2, h3⟩ := I.obj id ty es h
  exact ⟨⟨h1.base, h1.lt, h1.free, h1.shape⟩, h2, h3.ext X fun _ => rfl⟩
 ·obtain ⟨h1, h2⟩ := I.hw id ty n h
  exact ⟨⟨h1.base, h1.lt, h1.free, h1.shape⟩, h2⟩
theorem Post.trans {E' : Env} (X : Ext B E E') {tm : List AV} {H : Heap} {a : Act} {w : World} (h : Post B E' tm H a w) : Post B E tm H a w := by
 obtain ⟨F, h1, h2, h3, h4, h5⟩ := h
 exact ⟨F, h1, h2, h3, X.trans h4, h5⟩
theorem guards_of {ops : Array Oper} (h : ops.toList.all (fun o => (compGuard ops o.guard).2) = true) : ∀ o ∈ ops.toList, (compGuard ops o.guard).2 = true :=
 fun o ho => List.all_eq_true.1 h o ho
theorem draw_of {Φ : Oracle} {lit : Lit} {ops : Array Oper} {c : Nat} (d1 : ∀ j o, (ops.toList.map (compOper P lit ops))[j]? = some o → ∀ t ∈ tmpsOf o, ∀ d q, (ops.toList.map (compOper P lit ops))[d]? = some q → q.dst = some t → d ≠ j → ordB (Region.before ops) (min d j) (max d j) = true)
  (d2 : ∀ i j o q, c ≤ j → i < j → (ops.toList.map (compOper P lit ops))[i]? = some o → (ops.toList.map (compOper P lit ops))[j]? = some q → cls o.op = 2 → cls q.op = 2 → ordB (Region.before ops) i j = true)
  (d3 : ∀ i o, ops[i]? = some o → ∀ e ∈ o.after, Region.binds .any e = true → e.on < i) {tm tm' : List AV} {H H' : Heap}
  (h : xreg Φ (ops.toList.map (compOper P lit ops)) (openPairs (Region.before ops) (ops.toList.map (compOper P lit ops))) tm H (fun tm H => some (tm, H)) = some (tm', H')) :
  ∃ T G R, Draw Φ ops (ops.toList.map (compOper P lit ops)) T G R c ∧ T 0 = tm ∧ G 0 = H ∧ T ops.size = tm' ∧ G ops.size = H' := by
 have hn : (ops.toList.map (compOper P lit ops)).length = ops.size := by simp
 have pairMem : ∀ i e o q, (ops.toList.map (compOper P lit ops))[i]? = some o → (ops.toList.map (compOper P lit ops))[e]? = some q → cls o.op = 1 → cls q.op = 2 → ordB (Region.before ops) i e = false → ordB (Region.before ops) e i = false →
   (i, e) ∈ openPairs (Region.before ops) (ops.toList.map (compOper P lit ops)) := by
  intro i e o q ho hq h1 h2 h3 h4
  unfold openPairs
  rw [List.mem_flatMap]
  refine ⟨i, List.mem_range.2 (List.getElem?_eq_some_iff.1 ho).1, ?_⟩
  rw [List.mem_filterMap]
  refine ⟨e, List.mem_range.2 (List.getElem?_eq_some_iff.1 hq).1, ?_⟩
  rw [ho, hq]
  simp [h1, h2, h3, h4]
 unfold xreg at h
 split at h
 ·rename_i hps
  obtain ⟨T, G, R, hW, hT, hG, sts, _, _, h3⟩ := xops_went h
  rw [hn] at h3
  simp only [Option.some.injEq,Prod.mk.injEq] at h3
  refine ⟨T, G, R, ⟨hW, d1, d2, d3, fun i e o q ho hq h1 h2 h3 h4 => ?_⟩, hT, hG, h3.1, h3.2⟩
  have := pairMem i e o q ho hq h1 h2 h3 h4
  rw [hps] at this
  simp at this
 ·rename_i p0 ps0 hps
  obtain ⟨T, G, R, hW, hT, hG, sts, s1, s2, h3⟩ := xops_went h
  rw [hn] at h3 s1 s2
  split at h3
  ·rename_i hall
   simp only [Option.some.injEq,Prod.mk.injEq] at h3
   refine ⟨T, G, R, ⟨hW, d1, d2, d3, fun i e o q ho hq h1 h2 h3' h4 hw k x hk => ?_⟩, hT, hG, h3.1, h3.2⟩
   have hmem := pairMem i e o q ho hq h1 h2 h3' h4
   rw [hps] at hmem
   have hst := hall (i, e) hmem
   have hget : ∀ j, j ≤ ops.size → (((T ops.size, G ops.size) :: (sts.reverse ++ [])).reverse)[j]? = some (T j, G j) := by
    intro j hj
    simp only [List.append_nil,List.reverse_cons,List.reverse_reverse]
    by_cases hlt : j < ops.size
    ·rw [List.getElem?_append_left (by omega)]; exact s2 j hlt
    ·have : j = ops.size := by omega
     subst this
     rw [List.getElem?_append_right (by omega), s1]; simp
   have hi := (List.getElem?_eq_some_iff.1 ho).1
   have he := (List.getElem?_eq_some_iff.1 hq).1
   rw [hn] at hi he
   unfold stays at hst
   simp only [ho,hget i (by omega),hget e (by omega),hget (e + 1) (by omega)] at hst
   rw [hk] at hst
   simp only [loadOf] at hst
   rcases hst with hst | hst
   ·rw [hw] at hst; simp at hst
   ·exact hst
  ·simp at h3
theorem region_sound {Φ : Oracle} (hm : P.follows .mixedOrders = true) (S : ∀ B' : Low, B'.ok = B.ok → Sound P B' Φ) {lit : Lit} {id : Nat} {ops : Array Oper} {draw : Bool} {l : List AOper} {ps : List (Nat × Nat)} (hc : compRegion P lit ops draw = .ops l ps)
  {tm tm' : List AV} {H' : Heap} {a : Act} (I : Inv B E) (hR : RelT E tm a) (h : xreg Φ l ps tm E.H (fun tm H => some (tm, H)) = some (tm', H')) {Q : Exit → Act → World → Prop}
  (hQ : ∀ a' w', Post B E tm' H' a' w' → Q .normal a' w') : (Code.region id ops draw).wp P Q a E.w := by
 unfold compRegion at hc
 split at hc
 ·rename_i hg
  have hguards := guards_of hg
  cases draw with
  | false =>
   simp only [Bool.false_eq_true,if_false,ACode.ops.injEq] at hc
   obtain ⟨rfl, rfl⟩ := hc
   simp only [xreg] at h
   obtain ⟨T, G, R, hW, hT, hG, sts, _, _, h3⟩ := xops_went h
   have hn : (ops.toList.map (compOper P lit ops)).length = ops.size := by simp
   rw [hn] at h3
   simp only [Option.some.injEq,Prod.mk.injEq] at h3
   refine wp_region ?_
   rw [List.range_eq_range']
   refine text_wp (S B rfl) hguards hW (E0 := E) (fun a w hp => hQ a w ?_) ops.size 0 (by omega) a E.w ⟨E, rfl, hG.symm, I, Ext.refl B E, by rw [hT]; exact hR⟩
   rw [← h3.1, ← h3.2]; exact hp
  | true =>
   simp only [if_true] at hc
   split at hc
   ·rename_i hd
    simp only [ACode.ops.injEq] at hc
    obtain ⟨rfl, rfl⟩ := hc
    obtain ⟨d1, d2, d3⟩ := drawOk_spec hd
    have hn : (ops.toList.map (compOper P lit ops)).length = ops.size := by simp
    obtain ⟨T, G, R, D, hT, hG, hT', hG'⟩ := draw_of (c := 0) d1 (fun i j o q _ => d2 i j o q) d3 h
    obtain ⟨I', X⟩ := inv_drew I
    refine wp_region_any hm ?_
    refine Draw.rest (S B rfl) D hguards (E0 := E) (fun a w hp => hQ a w (by rw [← hT', ← hG']; exact hp)) ops.size _ a E.w.drew (by simp) ⟨fun j o _ hj => ?_, ⟨⟨E.w.drew, E.S, E.m, E.H⟩, 0, rfl, I', X, Nat.zero_le _, fun d o hd => by omega, fun d o _ _ _ => ?_, hG.symm, ?_⟩⟩ ⟨List.range ops.size, by simp, fun i hi _ => List.mem_range.2 hi⟩
    ·simp [Array.getD_eq_getD_getElem?, Array.getElem?_replicate] at hj
     split at hj <;> simp at hj
    ·simp [Array.getD_eq_getD_getElem?, Array.getElem?_replicate]
     split <;> rfl
    ·have : ∀ k, tmAt (T 0) (fun d => ((ops.toList.map (compOper P lit ops))[d]?).bind (·.dst)) R (fun i => (Array.replicate ops.size false).getD i false) k = T 0 := by
      intro k
      induction k with
      | zero => rfl
      | succ k ih =>
       unfold tmAt
       have : (Array.replicate ops.size false).getD k false = false := by
        simp [Array.getD_eq_getD_getElem?, Array.getElem?_replicate]; split <;> rfl
       rw [this, if_neg (by simp), ih]
     rw [this, hT]
     exact relT_ext X hR
   ·split at hc
    ·rename_i hd
     simp only [ACode.ops.injEq] at hc
     obtain ⟨rfl, rfl⟩ := hc
     obtain ⟨d1, d2, d3, F⟩ := freeOk_spec hd
     generalize (freeSpan ops (ops.toList.map (compOper P lit ops))).1 = fa at F
     generalize (freeSpan ops (ops.toList.map (compOper P lit ops))).2 = fb at F d2
     have hn : (ops.toList.map (compOper P lit ops)).length = ops.size := by simp
     obtain ⟨T, G, R, D, hT, hG, hT', hG'⟩ := draw_of (c := fb) d1 d2 d3 h
     obtain ⟨I', X⟩ := inv_drew I
     refine wp_region_any hm ?_
     have hrep : ∀ d, (Array.replicate ops.size false).getD d false = false := fun d => by
      simp [Array.getD_eq_getD_getElem?, Array.getElem?_replicate]
      split <;> rfl
     refine rest_any (M := fun L act w => Two B E ops (ops.toList.map (compOper P lit ops)) T G R fa fb L act w) d3 (fun L act w M hall => ?_) (fun L act w i hi M hLi hed K hK => Two.one S D F hguards M hi hLi hed hK) ops.size _ a E.w.drew (by simp) (Two.of D F ⟨fun j o _ hj => ?_, fun _ _ _ _ _ _ _ d _ _ _ _ => hrep d, ⟨⟨E.w.drew, E.S, E.m, E.H⟩, 0, fun _ => (0, 0, 0), rfl, ?_, X, Nat.zero_le _, fun d o hd => by omega, fun d o _ _ _ _ => hrep d, hG.symm, ?_, fun i _ _ _ _ _ hL => by rw [hrep i] at hL; simp at hL, fun i _ _ _ hL => by rw [hrep i] at hL; simp at hL⟩⟩) ⟨List.range ops.size, by simp, fun i hi _ => List.mem_range.2 hi⟩
     ·have M' := M.1 fun k o hk hko _ => hall k (by have := (List.getElem?_eq_some_iff.1 hko).1; omega)
      obtain ⟨E', f, rfl, I1, X1, hf, f1, f2, hH, hR'⟩ := M'.state
      refine hQ act _ ⟨E', rfl, ?_, I1, X1, ?_⟩
      ·rw [hH, ← hG', ← hn]
       exact (D.quiets hf (Nat.le_refl _) fun d o h1 h2 h3 h4 => by
        have := f2 d o h1 h3 h4
        rw [hall d (by omega)] at this; simp at this).symm
      ·have := tmAt_all (T0 := T 0) (dst := fun d => ((ops.toList.map (compOper P lit ops))[d]?).bind (·.dst)) (R := R) (T := T) rfl (ops.toList.map (compOper P lit ops)).length (fun i hi => by
        have h := (D.went.step i _ (List.getElem?_eq_getElem hi)).1
        rw [h, List.getElem?_eq_getElem hi]; rfl) L (fun i hi => hall i (by omega))
       rw [this, hn, hT'] at hR'
       exact hR'
     ·simp only [hrep] at hj; simp at hj
     ·have : Held B fa fb (fun i => (Array.replicate ops.size false).getD i false) (fun _ => (0, 0, 0)) = B := by
       refine Low.same (fun x => ⟨?_, Or.inl⟩) rfl
       rintro (h | ⟨i, _, _, h3, _⟩)
       ·exact h
       ·simp only [hrep i] at h3; simp at h3
      rw [this]; exact I'
     ·have : ∀ k, tmAt (T 0) (fun d => ((ops.toList.map (compOper P lit ops))[d]?).bind (·.dst)) (hideR R fa fb) (fun i => (Array.replicate ops.size false).getD i false) k = T 0 := by
       intro k
       induction k with
       | zero => rfl
       | succ k ih =>
        unfold tmAt
        rw [hrep k, if_neg (by simp), ih]
      rw [this, hT]
      exact relT_ext X hR
    ·simp at hc
 ·simp at hc
def exitOf : AEx → Exit
 | .normal => .normal
 | .exit i => .exit i
 | .goto l => .goto l
 | .ret => .ret
def LoopAt (P : Program) (c : Code) (Q : Exit → Act → World → Prop) (a : Act) (w : World) : Prop :=
 ∀ (b : Frame) (k : List Item) (cs : List Frame), ∃ e a' w', Q e a' w' ∧ Arrives P (lone (b.at a (.code c :: .inLoop c :: k)) cs w) b k cs e a' w'
theorem wp_of_loopAt {c : Code} {Q : Exit → Act → World → Prop} {a : Act} {w : World} (h : LoopAt P c Q a w) : (Code.loop c).wp P Q a w := by
 intro b k cs
 obtain ⟨e, a', w', hq, harr⟩ := h b k cs
 exact ⟨e, a', w', hq, .of_steps (.one step_loop) harr⟩
theorem loopAt_round {c : Code} {Q : Exit → Act → World → Prop} {a : Act} {w : World} (h : c.wp P (Exit.then (fun a w => LoopAt P c Q a w) Q) a w) : LoopAt P c Q a w := by
 intro b k cs
 obtain ⟨e, a₁, w₁, hq, harr⟩ := h b (.inLoop c :: k) cs
 cases e with
 | normal =>
  obtain ⟨e₂, a₂, w₂, hq₂, harr₂⟩ := hq b k cs
  exact ⟨e₂, a₂, w₂, hq₂, .of_steps (Steps.trans harr (.one step_inLoop)) harr₂⟩
 | exit id => exact ⟨_, a₁, w₁, hq, .pass (x := .inLoop c) rfl (fun _ _ => .inl (by simp)) harr⟩
 | goto l => exact ⟨_, a₁, w₁, hq, .pass (x := .inLoop c) rfl (fun _ _ => .inl (by simp)) harr⟩
 | ret => exact ⟨_, a₁, w₁, hq, .pass (x := .inLoop c) rfl (fun _ _ => .inl (by simp)) harr⟩
 | panic ch => exact ⟨_, a₁, w₁, hq, .pass (x := .inLoop c) rfl (fun _ _ => .inl (by simp)) harr⟩
 | outgrown => exact ⟨_, a₁, w₁, hq, .pass (x := .inLoop c) rfl (fun _ _ => .inl (by simp)) harr⟩
def ScopeAt (P : Program) (body cur : Code) (Q : Exit → Act → World → Prop) (a : Act) (w : World) : Prop :=
 ∀ (b : Frame) (k : List Item) (cs : List Frame), ∃ e a' w', Q e a' w' ∧ Arrives P (lone (b.at a (.code cur :: .inScope body :: k)) cs w) b k cs e a' w'
theorem wp_of_scopeAt {c : Code} {Q : Exit → Act → World → Prop} {a : Act} {w : World} (h : ScopeAt P c c Q a w) : (Code.scope c).wp P Q a w := by
 intro b k cs
 obtain ⟨e, a', w', hq, harr⟩ := h b k cs
 exact ⟨e, a', w', hq, .of_steps (.one step_scope) harr⟩
def Exit.inScope (P : Program) (body : Code) (Q : Exit → Act → World → Prop) : Exit → Act → World → Prop
 | .goto l, a, w => ∃ rest, findLabel body l = some rest ∧ ScopeAt P body rest Q a w
 | e, a, w => Q e a w
theorem scopeAt_step {body cur : Code} {Q : Exit → Act → World → Prop} {a : Act} {w : World} (h : cur.wp P (Exit.inScope P body Q) a w) : ScopeAt P body cur Q a w := by
 intro b k cs
 obtain ⟨e, a₁, w₁, hq, harr⟩ := h b (.inScope body :: k) cs
 cases e with
 | normal => exact ⟨.normal, a₁, w₁, hq, Steps.trans harr (.one step_inScope)⟩
 | exit id => exact ⟨.exit id, a₁, w₁, hq, fun k' hk => harr k' (by simp [exitTo, hk])⟩
 | goto l =>
  obtain ⟨rest, hr, hs⟩ := hq
  obtain ⟨e₂, a₂, w₂, hq₂, harr₂⟩ := hs b k cs
  exact ⟨e₂, a₂, w₂, hq₂, .of_steps (harr _ (by simp [gotoIn, hr])) harr₂⟩
 | ret => exact ⟨_, a₁, w₁, hq, harr⟩
 | panic ch => exact ⟨_, a₁, w₁, hq, harr⟩
 | outgrown => exact ⟨_, a₁, w₁, hq, harr⟩
theorem findA_comp {lit : Lit} : ∀ (c : Code) (l : Nat) (r : ACode), findA (compCode P lit c) l = some r → ∃ rest, findLabel c l = some rest ∧ r = compCode P lit rest
 | .seq a b, l, r, h => by
  simp only [compCode,findA] at h
  simp only [findLabel]
  cases ha : findA (compCode P lit a) l with
  | some x =>
   rw [ha] at h
   injection h with h
   obtain ⟨rest, h1, h2⟩ := findA_comp a l x ha
   rw [h1]
   exact ⟨.seq rest b, rfl, by rw [← h, h2]; rfl⟩
  | none =>
   rw [ha] at h
   obtain ⟨rest, h1, h2⟩ := findA_comp b l r h
   have hn : findLabel a l = none := findLabel_none a l ha
   rw [hn]
   exact ⟨rest, h1, h2⟩
 | .label l', l, r, h => by
  simp only [compCode,findA] at h
  simp only [findLabel]
  split at h
  ·rename_i hl
   injection h with h
   exact ⟨.skip, by simp [hl], h.symm⟩
  ·simp at h
 | .skip, l, r, h => by simp [compCode, findA] at h
 | .region _ ops draw, l, r, h => by
  simp only [compCode,compRegion] at h
  exfalso
  (repeat' split at h) <;> simp [findA] at h
 | .cond _ _ _, l, r, h => by simp [compCode, findA] at h
 | .block _ _, l, r, h => by simp [compCode, findA] at h
 | .loop _, l, r, h => by simp [compCode, findA] at h
 | .rangeFunc _ _ _ _, l, r, h => by simp [compCode, findA] at h
 | .exit _, l, r, h => by simp [compCode, findA] at h
 | .scope _, l, r, h => by simp [compCode, findA] at h
 | .goto _, l, r, h => by simp [compCode, findA] at h
 | .ret, l, r, h => by simp [compCode, findA] at h
 | .refuse _, l, r, h => by simp [compCode, findA] at h
where
 findLabel_none : ∀ (c : Code) (l : Nat), findA (compCode P lit c) l = none → findLabel c l = none
 | .seq a b, l, h => by
  simp only [compCode,findA] at h
  simp only [findLabel]
  cases ha : findA (compCode P lit a) l with
  | some x => rw [ha] at h; simp at h
  | none =>
   rw [ha] at h
   rw [findLabel_none a l ha]
   exact findLabel_none b l h
 | .label l', l, h => by
  simp only [compCode,findA] at h
  simp only [findLabel]
  split at h
  ·simp at h
  ·rename_i hl; simp [hl]
 | .skip, l, h => rfl
 | .region _ _ _, l, h => rfl
 | .cond _ _ _, l, h => rfl
 | .block _ _, l, h => rfl
 | .loop _, l, h => rfl
 | .rangeFunc _ _ _ _, l, h => rfl
 | .exit _, l, h => rfl
 | .scope _, l, h => rfl
 | .goto _, l, h => rfl
 | .ret, l, h => rfl
 | .refuse _, l, h => rfl
theorem exec_sound {Φ : Oracle} (hm : P.follows .mixedOrders = true) (S : ∀ B' : Low, B'.ok = B.ok → Sound P B' Φ) {lit : Lit} : ∀ k : Nat,
  (∀ (c : Code) (tm : List AV) (e : AEx) (tm' : List AV) (H' : Heap) (E : Env) (a : Act) (Q : Exit → Act → World → Prop), execF Φ k (compCode P lit c) tm E.H = some (e, tm', H') → Inv B E → RelT E tm a → (∀ a' w', Post B E tm' H' a' w' → Q (exitOf e) a' w') → c.wp P Q a E.w) ∧
  (∀ (c : Code) (tm : List AV) (e : AEx) (tm' : List AV) (H' : Heap) (E : Env) (a : Act) (Q : Exit → Act → World → Prop), execF Φ k (.loop (compCode P lit c)) tm E.H = some (e, tm', H') → Inv B E → RelT E tm a → (∀ a' w', Post B E tm' H' a' w' → Q (exitOf e) a' w') → LoopAt P c Q a E.w) ∧
  (∀ (body cur : Code) (tm : List AV) (e : AEx) (tm' : List AV) (H' : Heap) (E : Env) (a : Act) (Q : Exit → Act → World → Prop), execF Φ k (.scope (compCode P lit body) (compCode P lit cur)) tm E.H = some (e, tm', H') → Inv B E → RelT E tm a → (∀ a' w', Post B E tm' H' a' w' → Q (exitOf e) a' w') → ScopeAt P body cur Q a E.w) := by
 intro k
 induction k with
 | zero => exact ⟨fun _ _ _ _ _ _ _ _ h => by simp [execF] at h, fun _ _ _ _ _ _ _ _ h => by simp [execF] at h, fun _ _ _ _ _ _ _ _ _ h => by simp [execF] at h⟩
 | succ k ih =>
  obtain ⟨ih1, ih2, ih3⟩ := ih
  have loopC : ∀ (c : Code) (tm : List AV) (e : AEx) (tm' : List AV) (H' : Heap) (E : Env) (a : Act) (Q : Exit → Act → World → Prop), execF Φ (k + 1) (.loop (compCode P lit c)) tm E.H = some (e, tm', H') → Inv B E → RelT E tm a → (∀ a' w', Post B E tm' H' a' w' → Q (exitOf e) a' w') → LoopAt P c Q a E.w := by
   intro c tm e tm' H' E a Q h I hR hQ
   simp only [execF] at h
   cases hx : execF Φ k (compCode P lit c) tm E.H with
   | none => rw [hx] at h; simp at h
   | some o =>
    obtain ⟨e1, tm1, H1⟩ := o
    rw [hx] at h
    refine loopAt_round (ih1 c tm e1 tm1 H1 E a _ hx I hR fun a' w' hp => ?_)
    cases e1 with
    | normal =>
     simp only at h
     obtain ⟨E1, rfl, rfl, I1, X1, R1⟩ := hp
     exact ih2 c tm1 e tm' H' E1 a' Q h I1 R1 fun a'' w'' hp' => hQ a'' w'' (hp'.trans X1)
    | exit i => simp only [Option.some.injEq,Prod.mk.injEq] at h; obtain ⟨rfl, rfl, rfl⟩ := h; exact hQ a' w' hp
    | goto l => simp only [Option.some.injEq,Prod.mk.injEq] at h; obtain ⟨rfl, rfl, rfl⟩ := h; exact hQ a' w' hp
    | ret => simp only [Option.some.injEq,Prod.mk.injEq] at h; obtain ⟨rfl, rfl, rfl⟩ := h; exact hQ a' w' hp
  have scopeC : ∀ (body cur : Code) (tm : List AV) (e : AEx) (tm' : List AV) (H' : Heap) (E : Env) (a : Act) (Q : Exit → Act → World → Prop), execF Φ (k + 1) (.scope (compCode P lit body) (compCode P lit cur)) tm E.H = some (e, tm', H') → Inv B E → RelT E tm a → (∀ a' w', Post B E tm' H' a' w' → Q (exitOf e) a' w') → ScopeAt P body cur Q a E.w := by
   intro body cur tm e tm' H' E a Q h I hR hQ
   simp only [execF] at h
   cases hx : execF Φ k (compCode P lit cur) tm E.H with
   | none => rw [hx] at h; simp at h
   | some o =>
    obtain ⟨e1, tm1, H1⟩ := o
    rw [hx] at h
    refine scopeAt_step (ih1 cur tm e1 tm1 H1 E a _ hx I hR fun a' w' hp => ?_)
    cases e1 with
    | normal => simp only [Option.some.injEq,Prod.mk.injEq] at h; obtain ⟨rfl, rfl, rfl⟩ := h; exact hQ a' w' hp
    | exit i => simp only [Option.some.injEq,Prod.mk.injEq] at h; obtain ⟨rfl, rfl, rfl⟩ := h; exact hQ a' w' hp
    | ret => simp only [Option.some.injEq,Prod.mk.injEq] at h; obtain ⟨rfl, rfl, rfl⟩ := h; exact hQ a' w' hp
    | goto l =>
     simp only at h
     cases hf : findA (compCode P lit body) l with
     | none => rw [hf] at h; simp at h
     | some r =>
      rw [hf] at h
      obtain ⟨rest, h1, rfl⟩ := findA_comp body l r hf
      obtain ⟨E1, rfl, rfl, I1, X1, R1⟩ := hp
      exact ⟨rest, h1, ih3 body rest tm1 e tm' H' E1 a' Q h I1 R1 fun a'' w'' hp' => hQ a'' w'' (hp'.trans X1)⟩
  refine ⟨fun c tm e tm' H' E a Q h I hR hQ => ?_, loopC, scopeC⟩
  cases c with
  | skip =>
   simp only [compCode,execF,Option.some.injEq,Prod.mk.injEq] at h
   obtain ⟨rfl, rfl, rfl⟩ := h
   exact wp_skip (hQ a E.w ⟨E, rfl, rfl, I, Ext.refl B E, hR⟩)
  | label l =>
   simp only [compCode,execF,Option.some.injEq,Prod.mk.injEq] at h
   obtain ⟨rfl, rfl, rfl⟩ := h
   exact wp_label (hQ a E.w ⟨E, rfl, rfl, I, Ext.refl B E, hR⟩)
  | region id ops draw =>
   simp only [compCode] at h
   cases hc : compRegion P lit ops draw with
   | ops l ps =>
    rw [hc] at h
    simp only [execF] at h
    have hx : xreg Φ l ps tm E.H (fun tm H => some (tm, H)) = some (tm', H') ∧ e = .normal := by
     unfold xreg at h ⊢
     split at h
     ·obtain ⟨T, G, R, hW, hT, hG, sts, s1, s2, h3⟩ := xops_went h
      simp only [Option.some.injEq,Prod.mk.injEq] at h3
      refine ⟨?_, h3.1.symm⟩
      exact xops_map (g := fun o : Out => (o.2.1, o.2.2)) (K := fun _ tm H => some (AEx.normal, tm, H)) (fun _ _ _ => rfl) h
     ·obtain ⟨T, G, R, hW, hT, hG, sts, s1, s2, h3⟩ := xops_went h
      split at h3
      ·simp only [Option.some.injEq,Prod.mk.injEq] at h3
       refine ⟨?_, h3.1.symm⟩
       exact xops_map (g := fun o : Out => (o.2.1, o.2.2)) (fun tr tm H => by split <;> rfl) h
      ·simp at h3
    obtain ⟨hx, rfl⟩ := hx
    exact region_sound hm S hc I hR hx fun a' w' hp => hQ a' w' hp
   | bad => rw [hc] at h; simp [execF] at h
   | _ => unfold compRegion at hc; (repeat' split at hc) <;> simp at hc
  | seq x y =>
   simp only [compCode,execF] at h
   cases hx : execF Φ k (compCode P lit x) tm E.H with
   | none => rw [hx] at h; simp at h
   | some o =>
    obtain ⟨e1, tm1, H1⟩ := o
    rw [hx] at h
    refine wp_seq (ih1 x tm e1 tm1 H1 E a _ hx I hR fun a' w' hp => ?_)
    cases e1 with
    | normal =>
     simp only at h
     obtain ⟨E1, rfl, rfl, I1, X1, R1⟩ := hp
     exact ih1 y tm1 e tm' H' E1 a' Q h I1 R1 fun a'' w'' hp' => hQ a'' w'' (hp'.trans X1)
    | exit i => simp only [Option.some.injEq,Prod.mk.injEq] at h; obtain ⟨rfl, rfl, rfl⟩ := h; exact hQ a' w' hp
    | goto l => simp only [Option.some.injEq,Prod.mk.injEq] at h; obtain ⟨rfl, rfl, rfl⟩ := h; exact hQ a' w' hp
    | ret => simp only [Option.some.injEq,Prod.mk.injEq] at h; obtain ⟨rfl, rfl, rfl⟩ := h; exact hQ a' w' hp
  | cond c x y =>
   simp only [compCode,execF] at h
   have hc := rel_opd hR c
   split at h
   ·rename_i t ht
    rw [ht] at hc
    simp only [RelA,RelD] at hc
    cases t with
    | true => exact wp_cond_true hc (ih1 x tm e tm' H' E a Q (by simpa using h) I hR hQ)
    | false => exact wp_cond_false hc (ih1 y tm e tm' H' E a Q (by simpa using h) I hR hQ)
   ·simp at h
  | block id x =>
   simp only [compCode,execF] at h
   cases hx : execF Φ k (compCode P lit x) tm E.H with
   | none => rw [hx] at h; simp at h
   | some o =>
    obtain ⟨e1, tm1, H1⟩ := o
    rw [hx] at h
    refine wp_block (ih1 x tm e1 tm1 H1 E a _ hx I hR fun a' w' hp => ?_)
    cases e1 with
    | normal => simp only [Option.some.injEq,Prod.mk.injEq] at h; obtain ⟨rfl, rfl, rfl⟩ := h; exact hQ a' w' hp
    | exit i =>
     simp only at h
     simp only [exitOf,Exit.inBlock]
     split at h
     ·rename_i hi
      simp only [Option.some.injEq,Prod.mk.injEq] at h; obtain ⟨rfl, rfl, rfl⟩ := h
      rw [if_pos hi]; exact hQ a' w' hp
     ·rename_i hi
      simp only [Option.some.injEq,Prod.mk.injEq] at h; obtain ⟨rfl, rfl, rfl⟩ := h
      rw [if_neg hi]; exact hQ a' w' hp
    | goto l => simp only [Option.some.injEq,Prod.mk.injEq] at h; obtain ⟨rfl, rfl, rfl⟩ := h; exact hQ a' w' hp
    | ret => simp only [Option.some.injEq,Prod.mk.injEq] at h; obtain ⟨rfl, rfl, rfl⟩ := h; exact hQ a' w' hp
  | loop x => exact wp_of_loopAt (loopC x tm e tm' H' E a Q (by simpa only [compCode] using h) I hR hQ)
  | scope x => exact wp_of_scopeAt (scopeC x x tm e tm' H' E a Q (by simpa only [compCode] using h) I hR hQ)
  | exit i =>
   simp only [compCode,execF,Option.some.injEq,Prod.mk.injEq] at h
   obtain ⟨rfl, rfl, rfl⟩ := h
   exact wp_exit (hQ a E.w ⟨E, rfl, rfl, I, Ext.refl B E, hR⟩)
  | goto l =>
   simp only [compCode,execF,Option.some.injEq,Prod.mk.injEq] at h
   obtain ⟨rfl, rfl, rfl⟩ := h
   exact wp_goto (hQ a E.w ⟨E, rfl, rfl, I, Ext.refl B E, hR⟩)
  | ret =>
   simp only [compCode,execF,Option.some.injEq,Prod.mk.injEq] at h
   obtain ⟨rfl, rfl, rfl⟩ := h
   exact wp_ret (hQ a E.w ⟨E, rfl, rfl, I, Ext.refl B E, hR⟩)
  | rangeFunc _ _ _ _ => simp [compCode, execF] at h
  | refuse _ => simp [compCode, execF] at h
where
 xops_map {R₀ R₁ : Type} {Φ : Oracle} {g : R₀ → R₁} {K : List (List AV × Heap) → List AV → Heap → Option R₀} {K' : List (List AV × Heap) → List AV → Heap → Option R₁} (hK : ∀ tr tm H, K' tr tm H = (K tr tm H).map g) :
   ∀ {l : List AOper} {tr : List (List AV × Heap)} {tm : List AV} {H : Heap} {x : R₀}, xops Φ l tr tm H K = some x → xops Φ l tr tm H K' = some (g x)
  | [], tr, tm, H, x, h => by simp only [xops] at h ⊢; rw [hK, h]; rfl
  | o :: l, tr, tm, H, x, h => by
   simp only [xops] at h ⊢
   split at h
   ·split at h
    ·exact xops_map hK h
    ·simp at h
   ·exact xops_map hK h
   ·simp at h
end
end Go.Abs
end
section
set_option linter.unusedVariables false
set_option linter.unusedSimpArgs false
namespace Go.Abs
def compRes (P : Program) : List ResultVar → Option (List (Nat × Option (Option Nat)))
 | [] => some []
 | .tmp t :: l => match compRes P l with
  | some r => some ((t, none) :: r)
  | none => none
 | .cell a t :: l => match sizeA P t, compRes P l with
  | some k, some r => some ((a, some k) :: r)
  | _, _ => none
def compF (P : Program) (no : FuncId → Bool) (pol : FuncId → Lit × Bool) (f : FuncId) : Option AFunc :=
 if no f = true then none else
 match P.funcs[f]? with
 | some fn => if fn.name == "runtime.NumGoroutine" then none else
  match fn.body with
  | some c => match compRes P fn.results.toList with
   | some rs => some { ntmps := fn.ntmps, results := rs, code := compCode P (pol f).1 c, keep := (pol f).2 }
   | none => none
  | none => none
 | none => none
section
variable {P : Program} {B : Low} {E : Env}
theorem refsLts_get {n : Nat} : ∀ {l : List AV}, refsLts n l = true → ∀ {j : Nat} {a : AV}, l[j]? = some a → refsLt n a = true
 | a :: l, h, 0, a', ha => by
  simp only [refsLts,Bool.and_eq_true] at h
  simp at ha; subst ha; exact h.1
 | a :: l, h, j + 1, a', ha => by
  simp only [refsLts,Bool.and_eq_true] at h
  exact refsLts_get h.2 (j := j) (by simpa using ha)
theorem degrade1_rel {a : AV} {v : Value} (h : RelA E a v) : RelA E (degrade1 a) v := by
 unfold degrade1
 split
 ·rename_i d hd
  simp only [RelA]
  exact relD_of_toDat a v d h hd
 ·exact h
theorem degrade_rel {a : AV} {v : Value} (h : RelA E a v) : RelA E (degrade a) v := by
 unfold degrade
 split
 ·rename_i d hd
  simp only [RelA]
  exact relD_of_toDat a v d h hd
 ·split
  ·rename_i cs _
   simp only [RelA] at h ⊢
   obtain ⟨vs, hv, hl⟩ := h
   refine ⟨vs, hv, relAs_mk (by rw [relAs_length hl]; simp) fun j x u hx hu => ?_⟩
   rw [List.getElem?_map] at hx
   cases hj : cs[j]? with
   | none => rw [hj] at hx; simp at hx
   | some y =>
    rw [hj] at hx
    simp only [Option.map_some,Option.some.injEq] at hx
    subst hx
    obtain ⟨u', hu', hr⟩ := relAs_get hl hj
    rw [hu'] at hu; injection hu with hu; subst hu
    exact degrade1_rel hr
  ·exact h
theorem take_sound {E0 : Env} (I0 : Inv B E0) (I : Inv B E) (X : Ext B E0 E) (hheld : heldIn E0.H E.H) :
  Inv B ⟨E.w, E.S, E.m, E.H.take E0.H.length⟩ ∧ Ext B E0 ⟨E.w, E.S, E.m, E.H.take E0.H.length⟩ := by
 have hlen := X.len
 refine ⟨⟨I.szB, I.sS, fun id ty es he => ?_, fun id ty n he => ?_, fun i j x y hi hj hx hy hij => ?_, I.tab, fun id s p he => ?_⟩, ?_⟩
 ·simp only [List.getElem?_take] at he
  split at he
  ·rename_i hid
   obtain ⟨a1, a2, a3⟩ := I.obj id ty es he
   refine ⟨a1, a2, fun i e hie => ?_⟩
   obtain ⟨b1, b2⟩ := a3 i e hie
   refine ⟨b1, fun j a ha => ?_⟩
   obtain ⟨u, hu, hru, hk⟩ := b2 j a ha
   refine ⟨u, hu, relA_take _ a u hru ?_, hk⟩
   rcases hheld id hid with hs | ⟨o, ho, hro⟩
   ·-- it stands there since the beginning
    rw [he] at hs
    obtain ⟨_, _, c3⟩ := I0.obj id ty es hs.symm
    obtain ⟨u0, _, hr0, _⟩ := (c3 i e hie).2 j a ha
    exact relA_refs a u0 hr0
   ·rw [he] at ho; injection ho with ho; subst ho
    simp only [refsO] at hro
    exact refsLts_get (List.all_eq_true.1 hro e (List.mem_of_getElem? hie)) ha
  ·simp at he
 ·simp only [List.getElem?_take] at he
  split at he
  ·exact I.hw id ty n he
  ·simp at he
 ·simp only [List.getElem?_take] at hi hj
  split at hi
  ·split at hj
   ·exact I.inj i j x y hi hj hx hy hij
   ·simp at hj
  ·simp at hi
 ·simp only [List.getElem?_take] at he
  split at he
  ·exact I.it id s p he
  ·simp at he
 ·exact {
   ss := X.ss, cell := X.cell, size := X.size, low := X.low, there := X.there, snew := X.snew, os := X.os, tape := X.tape, output := X.output
   len := by simp only [List.length_take]; omega
   obj := fun id ho => ⟨isObj_take (X.obj id ho).1 (isObj_lt ho), (X.obj id ho).2⟩
   hw := fun id ty n hn => by
    obtain ⟨n', c1, c2, c3⟩ := X.hw id ty n hn
    exact ⟨n', by simp only [List.getElem?_take,if_pos (List.getElem?_eq_some_iff.1 hn).1]; exact c1, c2, c3⟩ }
theorem room_sound {E0 : Env} (I0 : Inv B E0) (I : Inv B E) (X : Ext B E0 E) (hheld : heldIn E0.H E.H) {tok : Nat} {ty : TypeId} {k : Nat} (ht : E.H[tok]? = some (.hw ty k)) (hle : E0.H.length ≤ tok) :
  Inv B ⟨E.w, E.S, fun i => if i = E0.H.length then E.m tok else E.m i, E.H.take E0.H.length ++ [.hw ty k]⟩ ∧
  Ext B ⟨E.w, E.S, E.m, E.H.take E0.H.length⟩ ⟨E.w, E.S, fun i => if i = E0.H.length then E.m tok else E.m i, E.H.take E0.H.length ++ [.hw ty k]⟩ := by
 obtain ⟨I1, X1⟩ := take_sound I0 I X hheld
 have hlen := X.len
 have hl : (E.H.take E0.H.length).length = E0.H.length := by simp only [List.length_take]; omega
 have XX : Ext B ⟨E.w, E.S, E.m, E.H.take E0.H.length⟩ ⟨E.w, E.S, fun i => if i = E0.H.length then E.m tok else E.m i, E.H.take E0.H.length ++ [.hw ty k]⟩ := {
  ss := fun _ _ h => h, cell := fun _ _ _ => rfl, size := Nat.le_refl _, low := fun _ _ => rfl, there := fun _ _ h => h, snew := fun _ _ h => .inl h, os := rfl, tape := rfl, output := rfl
  len := by simp
  obj := fun id ho => by
   have hlt := isObj_lt ho
   simp only [hl] at hlt
   obtain ⟨x, hx, hp⟩ := ho
   exact ⟨⟨x, by rw [List.getElem?_append_left (by omega)]; exact hx, hp⟩, by simp only; rw [if_neg (by omega)]⟩
  hw := fun id ty n hn => by
   have hlt := (List.getElem?_eq_some_iff.1 hn).1
   simp only [hl] at hlt
   exact ⟨n, by simp only; rw [List.getElem?_append_left (by omega)]; exact hn, Nat.le_refl _, fun _ => by simp only; rw [if_neg (by omega)]⟩ }
 have at_ : ∀ id x, (E.H.take E0.H.length ++ [HO.hw ty k])[id]? = some x → (id < E0.H.length ∧ (E.H.take E0.H.length)[id]? = some x ∧ E.H[id]? = some x) ∨ (id = E0.H.length ∧ x = .hw ty k) := fun id x h => by
  by_cases hid : id < E0.H.length
  ·rw [List.getElem?_append_left (by omega)] at h
   refine .inl ⟨hid, h, ?_⟩
   rw [List.getElem?_take, if_pos hid] at h
   exact h
  ·rw [List.getElem?_append_right (by omega), hl] at h
   have : id - E0.H.length = 0 := by
    have := (List.getElem?_eq_some_iff.1 h).1
    simp at this
    omega
   rw [this] at h
   simp at h
   exact .inr ⟨by omega, h.symm⟩
 refine ⟨⟨I.szB, I.sS, fun id ty' es he => ?_, fun id ty' n he => ?_, fun i j x y hi hj hx hy hij => ?_, I.tab, fun id s p he => ?_⟩, XX⟩
 ·rcases at_ _ _ he with ⟨h1, h2, h3⟩ | ⟨_, h⟩
  ·simp only
   rw [if_neg (by omega)]
   obtain ⟨a1, a2, a3⟩ := I1.obj id ty' es h2
   exact ⟨a1, a2, RelO.ext XX a3 (fun _ => rfl)⟩
  ·cases h
 ·rcases at_ _ _ he with ⟨h1, h2, h3⟩ | ⟨h1, h⟩
  ·simp only
   rw [if_neg (by omega)]
   exact I.hw id ty' n h3
  ·cases h
   simp only
   rw [if_pos h1]
   exact I.hw tok ty k ht
 ·simp only at hij
  rcases at_ _ _ hi with ⟨h1, _, h3⟩ | ⟨h1, h⟩
  ·rw [if_neg (by omega)] at hij
   rcases at_ _ _ hj with ⟨k1, _, k3⟩ | ⟨k1, h'⟩
   ·rw [if_neg (by omega)] at hij
    exact I.inj i j x y h3 k3 hx hy hij
   ·rw [if_pos k1] at hij
    have := I.inj i tok x _ h3 ht hx (by simp) hij
    omega
  ·rw [if_pos h1] at hij
   rcases at_ _ _ hj with ⟨k1, _, k3⟩ | ⟨k1, h'⟩
   ·rw [if_neg (by omega)] at hij
    have := I.inj tok j _ y ht k3 (by simp) hy hij
    omega
   ·omega
 ·rcases at_ _ _ he with ⟨h1, h2, h3⟩ | ⟨_, h⟩
  ·simp only
   rw [if_neg (by omega)]
   exact I.it id s p h3
  ·cases h
theorem reAt_le {n : Nat} : ∀ {cs cs' : List AV} {tok : Nat}, reAt n cs = some (tok, cs') → n ≤ tok
 | [], _, _, h => by simp [reAt] at h
 | a :: l, cs', tok, h => by
  simp only [reAt] at h
  split at h
  ·split at h
   ·rename_i t l' hr
    injection h with h
    injection h with h1 _
    subst h1
    exact reAt_le hr
   ·cases h
  ·rename_i hn
   split at h
   ·split at h
    ·injection h with h
     injection h with h1 _
     subst h1
     simp only [refsLt,decide_eq_true_eq] at hn
     omega
    ·cases h
   ·cases h
theorem reAt_rel {E2 : Env} (n : Nat) (tok : Nat) (hw : E2.w = E.w) (hS : E2.S = E.S) (hm : E2.m n = E.m tok) (hH : E2.H[n]? = E.H[tok]?) (hx : ∀ a v, refsLt n a = true → RelA E a v → RelA E2 a v) :
  ∀ {cs cs' : List AV} {vs : List Value}, reAt n cs = some (tok, cs') → RelAs E cs vs → RelAs E2 cs' vs
 | [], _, _, h, _ => by simp [reAt] at h
 | a :: l, cs', vs, h, hv => by
  simp only [RelAs] at hv
  obtain ⟨v, r, rfl, hav, hl⟩ := hv
  simp only [reAt] at h
  split at h
  ·rename_i hn
   split at h
   ·rename_i t l' hr
    injection h with h
    injection h with h1 h2
    subst h1 h2
    simp only [RelAs]
    exact ⟨v, r, rfl, hx a v hn hav, reAt_rel n t hw hS hm hH hx hr hl⟩
   ·cases h
  ·split at h
   ·rename_i s es tok'
    split at h
    ·rename_i hll
     injection h with h
     injection h with h1 h2
     subst h1 h2
     simp only [RelAs]
     refine ⟨v, r, rfl, ?_, relAs_mk (relAs_length hl) fun j a u ha hu => ?_⟩
     ·simp only [RelA] at hav ⊢
      obtain ⟨b, c, h1, h2, h3, h4⟩ := hav
      refine ⟨b, c, h1, h2, by rw [hw, hS]; exact h3, ?_⟩
      obtain ⟨ty, k, g1, g2, g3⟩ := h4
      refine ⟨ty, k, hH.trans g1, g2, fun hk => ?_⟩
      obtain ⟨bl, o, k1, k2, k3, k4⟩ := g3 hk
      exact ⟨bl, o, k1, by rw [hm]; exact k2, by rw [hm]; exact k3, by rw [hw]; exact k4⟩
     ·obtain ⟨u', hu', hr⟩ := relAs_get hl ha
      rw [hu'] at hu; injection hu with hu; subst hu
      exact hx a u' (refsLts_get hll ha) hr
    ·cases h
   ·cases h
theorem leave_sound {E0 : Env} (I0 : Inv B E0) (I : Inv B E) (X : Ext B E0 E) {keep : Bool} {r0 r : AV} {v : Value} (h : RelA E r0 v) {H' : Heap} (hl : leave E0.H keep r0 E.H = (r, H')) :
  ∃ E', E'.w = E.w ∧ E'.H = H' ∧ Inv B E' ∧ Ext B E0 E' ∧ RelA E' r v := by
 have h1 : RelA E (if keep then r0 else degrade r0) v := by split <;> first | exact h | exact degrade_rel h
 unfold leave at hl
 generalize (if keep = true then r0 else degrade r0) = r1 at h1 hl
 split at hl
 ·rename_i hc
  obtain ⟨hr, hheld⟩ := hc
  obtain ⟨rfl, rfl⟩ := Prod.mk.inj hl
  obtain ⟨I1, X1⟩ := take_sound I0 I X hheld
  exact ⟨⟨E.w, E.S, E.m, E.H.take E0.H.length⟩, rfl, rfl, I1, X1, relA_take _ _ _ h1 hr⟩
 ·have fin : (r1, E.H) = (r, H') → ∃ E', E'.w = E.w ∧ E'.H = H' ∧ Inv B E' ∧ Ext B E0 E' ∧ RelA E' r v := fun hl => by
   simp only [Prod.mk.injEq] at hl
   obtain ⟨rfl, rfl⟩ := hl
   exact ⟨E, rfl, rfl, I, X, h1⟩
  cases keep with
  | false => exact fin hl
  | true =>
   unfold keepS at hl
   simp only at hl
   split at hl
   ·rename_i cs
    split at hl
    ·rename_i tok cs' hre
     split at hl
     ·rename_i ty k ht
      split at hl
      ·rename_i hheld
       obtain ⟨rfl, rfl⟩ := Prod.mk.inj hl
       obtain ⟨I1, X1⟩ := take_sound I0 I X hheld
       obtain ⟨I2, X2⟩ := room_sound I0 I X hheld ht (reAt_le hre)
       have hlen := X.len
       have hll : (E.H.take E0.H.length).length = E0.H.length := by simp only [List.length_take]; omega
       refine ⟨⟨E.w, E.S, fun i => if i = E0.H.length then E.m tok else E.m i, E.H.take E0.H.length ++ [.hw ty k]⟩, rfl, rfl, I2, X1.trans X2, ?_⟩
       simp only [RelA] at h1 ⊢
       obtain ⟨vs, rfl, hvs⟩ := h1
       refine ⟨vs, rfl, reAt_rel (E := E) (E2 := ⟨E.w, E.S, fun i => if i = E0.H.length then E.m tok else E.m i, E.H.take E0.H.length ++ [.hw ty k]⟩) E0.H.length tok rfl rfl (by simp) ?_ (fun a u hn hu => relA_ext X2 a u (relA_take _ a u hu hn)) hre hvs⟩
       rw [ht]
       simp only
       rw [List.getElem?_append_right (by omega), hll]
       simp
      ·exact fin hl
     ·exact fin hl
    ·exact fin hl
   ·exact fin hl
def resOne (tmps : Array Value) : ResultVar → Sem Value
 | .tmp t => pure (tmps.getD t undef)
 | .cell a t => do loadVar t (← asAddr (tmps.getD a undef))
theorem res_spec (I : Inv B E) {tm : List AV} {a : Act} (hR : RelT E tm a) : ∀ {rs : List ResultVar} {ars : List (Nat × Option (Option Nat))} {l : List AV}, compRes P rs = some ars → resA tm E.H ars = some l →
  ∃ vs : List Value, (rs.mapM (resOne a.tmps)).run P E.w = .ok vs E.w ∧ RelAs E l vs
 | [], ars, l, hc, h => by
  simp only [compRes] at hc; injection hc with hc; subst hc
  simp only [resA] at h; injection h with h; subst h
  exact ⟨[], by simp, by simp only [RelAs]⟩
 | .tmp t :: rs, ars, l, hc, h => by
  simp only [compRes] at hc
  cases hrs : compRes P rs with
  | none => rw [hrs] at hc; simp at hc
  | some r =>
   rw [hrs] at hc; injection hc with hc; subst hc
   simp only [resA] at h
   cases hl : resA tm E.H r with
   | none => rw [hl] at h; simp at h
   | some l' =>
    rw [hl] at h; injection h with h; subst h
    obtain ⟨vs, h1, h2⟩ := res_spec I hR hrs hl
    refine ⟨a.tmps.getD t undef :: vs, ?_, by simp only [RelAs]; exact ⟨_, vs, rfl, relT_get hR t, h2⟩⟩
    simp only [List.mapM_cons,resOne,Sem.run_bind,Sem.run_pure,Result.andThen_ok,h1]
 | .cell p t :: rs, ars, l, hc, h => by
  simp only [compRes] at hc
  cases hk : sizeA P t with
  | none => rw [hk] at hc; simp at hc
  | some k =>
   cases hrs : compRes P rs with
   | none => rw [hk, hrs] at hc; simp at hc
   | some r =>
    rw [hk, hrs] at hc; simp only [Option.some.injEq] at hc; subst hc
    simp only [resA] at h
    cases hld : loadAt E.H k (tm.getD p undefA) with
    | none => rw [hld] at h; simp at h
    | some v =>
     cases hl : resA tm E.H r with
     | none => rw [hld, hl] at h; simp at h
     | some l' =>
      rw [hld, hl] at h; simp only [Option.some.injEq] at h; subst h
      obtain ⟨vs, h1, h2⟩ := res_spec I hR hrs hl
      have hp := relT_get hR p
      have hq : ∃ ad, a.tmps.getD p undef = .pointer (some ad) := by
       unfold loadAt at hld
       split at hld
       ·rename_i cs heq
        rw [heq] at hp; simp only [RelA,RelD] at hp
        obtain ⟨bl, o, hv, _⟩ := hp
        exact ⟨_, hv⟩
       ·rename_i id i j heq
        rw [heq] at hp; simp only [RelA] at hp
        exact ⟨_, hp.1⟩
       ·simp at hld
      obtain ⟨ad, had⟩ := hq
      obtain ⟨u, hrun, hru⟩ := load_same (P := P) I hk hp hld
      rw [had] at hrun
      refine ⟨u :: vs, ?_, by simp only [RelAs]; exact ⟨u, vs, rfl, hru, h2⟩⟩
      have hlv : (loadVar t ad).run P E.w = .ok u E.w := by
       simpa only [Instr.loadAt, Instr.sureAddr, Sem.run_bind, Sem.run_pure, Result.andThen_ok] using hrun
      simp only [List.mapM_cons,resOne,had,asAddr,Sem.run_bind,Sem.run_pure,Result.andThen_ok,hlv,h1]
theorem results_eq (fn : Func) (tmps : Array Value) : results fn tmps = (do
  let vs ← fn.results.mapM (resOne tmps)
  pure (if h : vs.size = 1 then vs[0] else .tuple vs)) := by
 have : (fun | .tmp t => pure (tmps.getD t undef) | .cell a t => do loadVar t (← asAddr (tmps.getD a undef)) : ResultVar → Sem Value) = resOne tmps := by
  funext x; cases x <;> rfl
 unfold results
 rw [← this]
 rfl
theorem results_spec (I : Inv B E) {tm : List AV} {a : Act} (hR : RelT E tm a) {fn : Func} {ars : List (Nat × Option (Option Nat))} {l : List AV} (hc : compRes P fn.results.toList = some ars) (h : resA tm E.H ars = some l) :
  ∃ v, (results fn a.tmps).run P E.w = .ok v E.w ∧ RelA E (tupA l) v := by
 obtain ⟨vs, h1, h2⟩ := res_spec I hR hc h
 have hl := relAs_length h2
 rw [results_eq, Array.mapM_eq_mapM_toList]
 simp only [Sem.run_bind,Sem.run_map,h1,Result.andThen_ok,Sem.run_pure]
 refine ⟨_, rfl, ?_⟩
 unfold tupA
 split
 ·rename_i x
  simp only [RelAs] at h2
  obtain ⟨v, r, rfl, hv, rfl⟩ := h2
  simpa using hv
 ·rename_i hne
  have hn : vs.length ≠ 1 := by
   rw [hl]
   intro e
   obtain ⟨x, hx⟩ := List.length_eq_one_iff.1 e
   exact hne x hx
  simp only [List.size_toArray,dif_neg hn,RelA]
  exact ⟨vs, rfl, h2⟩
theorem run_sound (hm : P.follows .mixedOrders = true) {Ψ : Oracle} {T : World → Prop} (hΨ : ∀ B : Low, B.ok = T → Sound P B Ψ) (no : FuncId → Bool) (pol : FuncId → Lit × Bool) : ∀ (k : Nat) (B : Low), B.ok = T → Sound P B (runF Ψ (compF P no pol) k)
 | 0 => fun B _ f args H r H' h => by simp [runF] at h
 | k + 1 => fun B hB f args H r H' h => by
  have ih : ∀ B' : Low, B'.ok = B.ok → Sound P B' (runF Ψ (compF P no pol) k) := fun B' h => run_sound hm hΨ no pol k B' (h.trans hB)
  simp only [runF] at h
  cases hf : compF P no pol f with
  | none => rw [hf] at h; exact hΨ B hB f args H r H' h
  | some af =>
   rw [hf] at h
   simp only at h
   unfold compF at hf
   split at hf
   ·simp at hf
   split at hf
   ·rename_i fn hfn
    split at hf
    ·simp at hf
    ·rename_i hname
     split at hf
     ·rename_i c hbody
      split at hf
      ·rename_i rs hrs
       injection hf with hf
       subst hf
       refine ⟨⟨fn, c, hfn, by simpa using hname, hbody⟩, fun E vs I hEH hargs => ?_⟩
       subst hEH
       have hal := relAs_length hargs
       have hR : RelT E (enterA { ntmps := fn.ntmps, results := rs, code := compCode P (pol f).1 c, keep := (pol f).2 } args) { tmps := ⟨vs⟩ ++ Array.replicate (fn.ntmps - (⟨vs⟩ : Array Value).size) undef, defers := [] } := by
        refine ⟨?_, rfl⟩
        simp only [enterA,Array.toList_append,Array.toList_replicate]
        refine relAs_append hargs (relAs_mk (by simp [hal]) fun j x u hx hu => ?_)
        rw [List.getElem?_replicate] at hx hu
        split at hx <;> split at hu <;> simp at hx hu
        subst hx hu; exact relA_undef
       cases hx : execF (runF Ψ (compF P no pol) k) k (compCode P (pol f).1 c) (enterA { ntmps := fn.ntmps, results := rs, code := compCode P (pol f).1 c, keep := (pol f).2 } args) E.H with
       | none => rw [hx] at h; simp [endA] at h
       | some o =>
        obtain ⟨e, tm1, H1⟩ := o
        rw [hx] at h
        refine calls_of_wp hfn hbody ((exec_sound hm ih k).1 c _ e tm1 H1 E _ _ hx I hR fun a' w' hp => ?_)
        obtain ⟨E1, rfl, rfl, I1, X1, R1⟩ := hp
        have key : ∀ (l : List AV), resA tm1 E1.H rs = some l → leave E.H (pol f).2 (tupA l) E1.H = (r, H') →
          a'.defers = [] ∧ ∃ v, (results fn a'.tmps).run P E1.w = .ok v E1.w ∧ ∃ v_1 E', Ending.returned v = .returned v_1 ∧ E'.w = E1.w ∧ E'.H = H' ∧ Inv B E' ∧ Ext B E E' ∧ RelA E' r v_1 := by
         intro l hl hlv
         obtain ⟨v, hrun, hv⟩ := results_spec I1 R1 hrs hl
         obtain ⟨E2, h1, h2, h3, h4, h5⟩ := leave_sound I I1 X1 hv hlv
         exact ⟨R1.2, v, hrun, v, E2, rfl, h1, h2, h3, h4, h5⟩
        cases e with
        | normal =>
         simp only [endA] at h
         split at h
         ·rename_i l hl
          injection h with h
          exact key l hl h
         ·simp at h
        | ret =>
         simp only [endA] at h
         split at h
         ·rename_i l hl
          injection h with h
          exact key l hl h
         ·simp at h
        | exit i => simp [endA] at h
        | goto l => simp [endA] at h
      ·simp at hf
     ·simp at hf
   ·simp at hf
end
end Go.Abs
end
section
set_option linter.unusedVariables false
set_option linter.unusedSimpArgs false
namespace Go.Abs
def OLe (Φ Ψ : Oracle) : Prop := ∀ f args H x, Φ f args H = some x → Ψ f args H = some x
theorem aopc_mono {Φ Ψ : Oracle} (h : OLe Φ Ψ) {H : Heap} {tm : List AV} {op : AOp} {x : AV × Heap} (hx : aopc Φ H tm op = some x) : aopc Ψ H tm op = some x := by
 cases op
 case call f args =>
  simp only [aopc] at hx ⊢
  split at hx
  ·rename_i g cap hg
   exact h _ _ _ _ hx
  ·simp at hx
 all_goals exact hx
theorem xops_mono {R : Type} {Φ Ψ : Oracle} (h : OLe Φ Ψ) {K K' : List (List AV × Heap) → List AV → Heap → Option R} (hK : ∀ tr tm H x, K tr tm H = some x → K' tr tm H = some x) :
  ∀ {l : List AOper} {tr : List (List AV × Heap)} {tm : List AV} {H : Heap} {x : R}, xops Φ l tr tm H K = some x → xops Ψ l tr tm H K' = some x
 | [], tr, tm, H, x, hx => by simp only [xops] at hx ⊢; exact hK _ _ _ _ hx
 | o :: l, tr, tm, H, x, hx => by
  simp only [xops] at hx ⊢
  split at hx
  ·split at hx
   ·rename_i v H' hv
    rw [aopc_mono h hv]
    exact xops_mono h hK hx
   ·simp at hx
  ·exact xops_mono h hK hx
  ·simp at hx
theorem xreg_mono {R : Type} {Φ Ψ : Oracle} (h : OLe Φ Ψ) {K K' : List AV → Heap → Option R} (hK : ∀ tm H x, K tm H = some x → K' tm H = some x) {l : List AOper} {ps : List (Nat × Nat)} {tm : List AV} {H : Heap} {x : R} (hx : xreg Φ l ps tm H K = some x) : xreg Ψ l ps tm H K' = some x := by
 unfold xreg at hx ⊢
 split at hx
 ·exact xops_mono h (fun _ tm H x => hK tm H x) hx
 ·refine xops_mono h (fun tr tm H x hx => ?_) hx
  split at hx
  ·rename_i hc; rw [if_pos hc]; exact hK _ _ _ hx
  ·simp at hx
theorem execF_mono {Φ Ψ : Oracle} (h : OLe Φ Ψ) : ∀ {k k' : Nat} {c : ACode} {tm : List AV} {H : Heap} {x : Out}, k ≤ k' → execF Φ k c tm H = some x → execF Ψ k' c tm H = some x
 | 0, _, _, _, _, _, _, hx => by simp [execF] at hx
 | k + 1, 0, _, _, _, _, hk, _ => by omega
 | k + 1, k' + 1, c, tm, H, x, hk, hx => by
  have ih : ∀ {c : ACode} {tm : List AV} {H : Heap} {x : Out}, execF Φ k c tm H = some x → execF Ψ k' c tm H = some x := fun hx => execF_mono h (by omega) hx
  cases c <;> simp only [execF] at hx ⊢
  case ops l ps => exact xreg_mono h (fun _ _ _ h => h) hx
  case seq a b =>
   cases ha : execF Φ k a tm H with
   | none => rw [ha] at hx; simp at hx
   | some o =>
    rw [ha] at hx
    rw [ih ha]
    obtain ⟨e, tm1, H1⟩ := o
    cases e <;> first | exact hx | exact ih hx
  case cond c a b =>
   split at hx
   ·split at hx
    ·rename_i ht; rw [if_pos ht]; exact ih hx
    ·rename_i ht; rw [if_neg ht]; exact ih hx
   ·simp at hx
  case block id a =>
   cases ha : execF Φ k a tm H with
   | none => rw [ha] at hx; simp at hx
   | some o => rw [ha] at hx; rw [ih ha]; exact hx
  case loop a =>
   cases ha : execF Φ k a tm H with
   | none => rw [ha] at hx; simp at hx
   | some o =>
    rw [ha] at hx
    rw [ih ha]
    obtain ⟨e, tm1, H1⟩ := o
    cases e <;> first | exact hx | exact ih hx
  case scope body cur =>
   cases ha : execF Φ k cur tm H with
   | none => rw [ha] at hx; simp at hx
   | some o =>
    rw [ha] at hx
    rw [ih ha]
    obtain ⟨e, tm1, H1⟩ := o
    cases e with
    | goto l =>
     simp only at hx ⊢
     cases hf : findA body l with
     | none => rw [hf] at hx; simp at hx
     | some r => rw [hf] at hx; exact ih hx
    | normal => exact hx
    | exit i => exact hx
    | ret => exact hx
  all_goals exact hx
theorem runF_mono (Ψ : Oracle) (F : FuncId → Option AFunc) : ∀ {k k' : Nat}, k ≤ k' → OLe (runF Ψ F k) (runF Ψ F k')
 | 0, _, _ => fun f args H x hx => by simp [runF] at hx
 | k + 1, 0, hk => by omega
 | k + 1, k' + 1, hk => fun f args H x hx => by
  have ih := runF_mono Ψ F (show k ≤ k' by omega)
  simp only [runF] at hx ⊢
  cases hf : F f with
  | none => rw [hf] at hx; exact hx
  | some af =>
   rw [hf] at hx
   simp only at hx ⊢
   cases he : execF (runF Ψ F k) k af.code (enterA af args) H with
   | none => rw [he] at hx; simp [endA] at hx
   | some o => rw [he] at hx; rw [execF_mono ih (by omega) he]; exact hx
open Classical in
noncomputable def Lim (Ψ : Oracle) (F : FuncId → Option AFunc) : Oracle := fun f args H => if h : ∃ x, ∃ k, runF Ψ F k f args H = some x then some h.choose else none
open Classical in
noncomputable def execL (Ψ : Oracle) (F : FuncId → Option AFunc) (c : ACode) (tm : List AV) (H : Heap) : Option Out := if h : ∃ x, ∃ k, execF (runF Ψ F k) k c tm H = some x then some h.choose else none
section
variable {Ψ : Oracle} {F : FuncId → Option AFunc}
theorem runF_one {k k' : Nat} {f : FuncId} {args : List AV} {H : Heap} {x y : AV × Heap} (h : runF Ψ F k f args H = some x) (h' : runF Ψ F k' f args H = some y) : x = y := by
 have a := runF_mono Ψ F (Nat.le_max_left k k') _ _ _ _ h
 have b := runF_mono Ψ F (Nat.le_max_right k k') _ _ _ _ h'
 rw [a] at b; injection b
theorem execF_one {k k' : Nat} {c : ACode} {tm : List AV} {H : Heap} {x y : Out} (h : execF (runF Ψ F k) k c tm H = some x) (h' : execF (runF Ψ F k') k' c tm H = some y) : x = y := by
 have a := execF_mono (runF_mono Ψ F (Nat.le_max_left k k')) (Nat.le_max_left k k') h
 have b := execF_mono (runF_mono Ψ F (Nat.le_max_right k k')) (Nat.le_max_right k k') h'
 rw [a] at b; injection b
theorem lim_iff {f : FuncId} {args : List AV} {H : Heap} {x : AV × Heap} : Lim Ψ F f args H = some x ↔ ∃ k, runF Ψ F k f args H = some x := by
 unfold Lim
 constructor
 ·intro h
  split at h
  ·rename_i he
   injection h with h; subst h
   exact he.choose_spec
  ·simp at h
 ·rintro ⟨k, hk⟩
  have he : ∃ x, ∃ k, runF Ψ F k f args H = some x := ⟨x, k, hk⟩
  rw [dif_pos he]
  obtain ⟨k', hk'⟩ := he.choose_spec
  rw [runF_one hk' hk]
theorem execL_iff {c : ACode} {tm : List AV} {H : Heap} {x : Out} : execL Ψ F c tm H = some x ↔ ∃ k, execF (runF Ψ F k) k c tm H = some x := by
 unfold execL
 constructor
 ·intro h
  split at h
  ·rename_i he
   injection h with h; subst h
   exact he.choose_spec
  ·simp at h
 ·rintro ⟨k, hk⟩
  have he : ∃ x, ∃ k, execF (runF Ψ F k) k c tm H = some x := ⟨x, k, hk⟩
  rw [dif_pos he]
  obtain ⟨k', hk'⟩ := he.choose_spec
  rw [execF_one hk' hk]
theorem opt_ext {α : Type} {a b : Option α} (h : ∀ x, a = some x ↔ b = some x) : a = b := by
 cases a with
 | none => cases b with
  | none => rfl
  | some y => have := (h y).2 rfl; simp at this
 | some x => rw [(h x).1 rfl]
theorem le_lim (k : Nat) : OLe (runF Ψ F k) (Lim Ψ F) := fun _ _ _ _ hx => lim_iff.2 ⟨k, hx⟩
theorem aopc_lim {H : Heap} {tm : List AV} {op : AOp} {x : AV × Heap} (hx : aopc (Lim Ψ F) H tm op = some x) : ∃ k, aopc (runF Ψ F k) H tm op = some x := by
 cases op
 case call f args =>
  simp only [aopc] at hx ⊢
  split at hx
  ·exact lim_iff.1 hx
  ·simp at hx
 all_goals exact ⟨0, hx⟩
theorem xops_lim {R : Type} {K : List (List AV × Heap) → List AV → Heap → Option R} : ∀ {l : List AOper} {tr : List (List AV × Heap)} {tm : List AV} {H : Heap} {x : R}, xops (Lim Ψ F) l tr tm H K = some x → ∃ k, xops (runF Ψ F k) l tr tm H K = some x
 | [], tr, tm, H, x, hx => ⟨0, by simpa only [xops] using hx⟩
 | o :: l, tr, tm, H, x, hx => by
  simp only [xops] at hx ⊢
  split at hx
  ·split at hx
   ·rename_i v H' hv
    obtain ⟨k1, h1⟩ := aopc_lim hv
    obtain ⟨k2, h2⟩ := xops_lim hx
    refine ⟨max k1 k2, ?_⟩
    rw [aopc_mono (runF_mono Ψ F (Nat.le_max_left k1 k2)) h1]
    exact xops_mono (runF_mono Ψ F (Nat.le_max_right k1 k2)) (fun _ _ _ _ h => h) h2
   ·simp at hx
  ·exact xops_lim hx
  ·simp at hx
theorem xreg_lim {R : Type} {K : List AV → Heap → Option R} {l : List AOper} {ps : List (Nat × Nat)} {tm : List AV} {H : Heap} {x : R} (hx : xreg (Lim Ψ F) l ps tm H K = some x) : ∃ k, xreg (runF Ψ F k) l ps tm H K = some x := by
 unfold xreg at hx ⊢
 split at hx <;> exact xops_lim hx
def thenL {R : Type} (o : Option Out) (K : AEx → List AV → Heap → Option R) : Option R := match o with
 | some (e, tm, H) => K e tm H
 | none => none
noncomputable def exec0 {R : Type} (Φ : Oracle) (Λ : ACode → List AV → Heap → Option Out) : ACode → List AV → Heap → (AEx → List AV → Heap → Option R) → Option R
 | .skip, tm, H, K => K .normal tm H
 | .label _, tm, H, K => K .normal tm H
 | .ops l ps, tm, H, K => xreg Φ l ps tm H (K .normal)
 | .seq a b, tm, H, K => exec0 Φ Λ a tm H fun e tm H => match e with
  | .normal => exec0 Φ Λ b tm H K
  | .exit i => K (.exit i) tm H
  | .goto l => K (.goto l) tm H
  | .ret => K .ret tm H
 | .cond c a b, tm, H, K => match ev tm c with
  | .im (.bool t) => if t = true then exec0 Φ Λ a tm H K else exec0 Φ Λ b tm H K
  | _ => none
 | .block id a, tm, H, K => exec0 Φ Λ a tm H fun e tm H => match e with
  | .exit i => if i = id then K .normal tm H else K (.exit i) tm H
  | .normal => K .normal tm H
  | .goto l => K (.goto l) tm H
  | .ret => K .ret tm H
 | .loop a, tm, H, K => thenL (Λ (.loop a) tm H) K
 | .scope a t, tm, H, K => thenL (Λ (.scope a t) tm H) K
 | .exit i, tm, H, K => K (.exit i) tm H
 | .goto l, tm, H, K => K (.goto l) tm H
 | .ret, tm, H, K => K .ret tm H
 | .bad, _, _, _ => none
theorem xops_then {R S : Type} {Φ : Oracle} {g : R → Option S} {K : List (List AV × Heap) → List AV → Heap → Option R} :
  ∀ {l : List AOper} {tr : List (List AV × Heap)} {tm : List AV} {H : Heap}, (xops Φ l tr tm H K).bind g = xops Φ l tr tm H fun tr tm H => (K tr tm H).bind g
 | [], tr, tm, H => by simp only [xops]
 | o :: l, tr, tm, H => by
  simp only [xops]
  split
  ·split
   ·exact xops_then
   ·rfl
  ·exact xops_then
  ·rfl
theorem xreg_then {R : Type} {Φ : Oracle} {K : AEx → List AV → Heap → Option R} {l : List AOper} {ps : List (Nat × Nat)} {tm : List AV} {H : Heap} :
  thenL (xreg Φ l ps tm H fun tm H => some (.normal, tm, H)) K = xreg Φ l ps tm H (K .normal) := by
 have e : ∀ o : Option Out, thenL o K = o.bind fun x => K x.1 x.2.1 x.2.2 := fun o => by cases o <;> rfl
 rw [e]
 unfold xreg
 split
 ·rw [xops_then]; rfl
 ·rw [xops_then]
  congr 1
  funext tr tm H
  split <;> rfl
theorem execL_ops {l : List AOper} {ps : List (Nat × Nat)} {tm : List AV} {H : Heap} : execL Ψ F (.ops l ps) tm H = xreg (Lim Ψ F) l ps tm H fun tm H => some (.normal, tm, H) := by
 refine opt_ext fun x => ?_
 rw [execL_iff]
 constructor
 ·rintro ⟨k, hk⟩
  cases k with
  | zero => simp [execF] at hk
  | succ k =>
   simp only [execF] at hk
   exact xreg_mono (le_lim _) (fun _ _ _ h => h) hk
 ·intro h
  obtain ⟨k, hk⟩ := xreg_lim h
  exact ⟨k + 1, by simp only [execF]; exact xreg_mono (runF_mono Ψ F (Nat.le_succ k)) (fun _ _ _ h => h) hk⟩
theorem execL_seq {a b : ACode} {tm : List AV} {H : Heap} : execL Ψ F (.seq a b) tm H = thenL (execL Ψ F a tm H) fun e tm H => match e with
  | .normal => execL Ψ F b tm H
  | .exit i => some (.exit i, tm, H)
  | .goto l => some (.goto l, tm, H)
  | .ret => some (.ret, tm, H) := by
 refine opt_ext fun x => ?_
 rw [execL_iff]
 constructor
 ·rintro ⟨k, hk⟩
  cases k with
  | zero => simp [execF] at hk
  | succ k =>
   simp only [execF] at hk
   cases ha : execF (runF Ψ F (k + 1)) k a tm H with
   | none => rw [ha] at hk; simp at hk
   | some o =>
    rw [ha] at hk
    have : execL Ψ F a tm H = some o := execL_iff.2 ⟨k + 1, execF_mono (fun _ _ _ _ h => h) (Nat.le_succ k) ha⟩
    rw [this]
    obtain ⟨e, tm1, H1⟩ := o
    cases e with
    | normal => exact execL_iff.2 ⟨k + 1, execF_mono (fun _ _ _ _ h => h) (Nat.le_succ k) hk⟩
    | exit i => exact hk
    | goto l => exact hk
    | ret => exact hk
 ·intro h
  cases ha : execL Ψ F a tm H with
  | none => rw [ha] at h; simp [thenL] at h
  | some o =>
   rw [ha] at h
   obtain ⟨k, hk⟩ := execL_iff.1 ha
   obtain ⟨e, tm1, H1⟩ := o
   cases e with
   | normal =>
    simp only [thenL] at h
    obtain ⟨k', hk'⟩ := execL_iff.1 h
    refine ⟨max k k' + 1, ?_⟩
    simp only [execF]
    rw [execF_mono (runF_mono Ψ F (show k ≤ max k k' + 1 by omega)) (Nat.le_max_left k k') hk]
    exact execF_mono (runF_mono Ψ F (show k' ≤ max k k' + 1 by omega)) (Nat.le_max_right k k') hk'
   | exit i => exact ⟨k + 1, by simp only [execF]; rw [execF_mono (runF_mono Ψ F (Nat.le_succ k)) (Nat.le_refl k) hk]; exact h⟩
   | goto l => exact ⟨k + 1, by simp only [execF]; rw [execF_mono (runF_mono Ψ F (Nat.le_succ k)) (Nat.le_refl k) hk]; exact h⟩
   | ret => exact ⟨k + 1, by simp only [execF]; rw [execF_mono (runF_mono Ψ F (Nat.le_succ k)) (Nat.le_refl k) hk]; exact h⟩
theorem execL_loop {a : ACode} {tm : List AV} {H : Heap} : execL Ψ F (.loop a) tm H = thenL (execL Ψ F a tm H) fun e tm H => match e with
  | .normal => execL Ψ F (.loop a) tm H
  | .exit i => some (.exit i, tm, H)
  | .goto l => some (.goto l, tm, H)
  | .ret => some (.ret, tm, H) := by
 refine opt_ext fun x => ?_
 rw [execL_iff]
 constructor
 ·rintro ⟨k, hk⟩
  cases k with
  | zero => simp [execF] at hk
  | succ k =>
   simp only [execF] at hk
   cases ha : execF (runF Ψ F (k + 1)) k a tm H with
   | none => rw [ha] at hk; simp at hk
   | some o =>
    rw [ha] at hk
    have : execL Ψ F a tm H = some o := execL_iff.2 ⟨k + 1, execF_mono (fun _ _ _ _ h => h) (Nat.le_succ k) ha⟩
    rw [this]
    obtain ⟨e, tm1, H1⟩ := o
    cases e with
    | normal => exact execL_iff.2 ⟨k + 1, execF_mono (fun _ _ _ _ h => h) (Nat.le_succ k) hk⟩
    | exit i => exact hk
    | goto l => exact hk
    | ret => exact hk
 ·intro h
  cases ha : execL Ψ F a tm H with
  | none => rw [ha] at h; simp [thenL] at h
  | some o =>
   rw [ha] at h
   obtain ⟨k, hk⟩ := execL_iff.1 ha
   obtain ⟨e, tm1, H1⟩ := o
   cases e with
   | normal =>
    simp only [thenL] at h
    obtain ⟨k', hk'⟩ := execL_iff.1 h
    refine ⟨max k k' + 1, ?_⟩
    simp only [execF]
    rw [execF_mono (runF_mono Ψ F (show k ≤ max k k' + 1 by omega)) (Nat.le_max_left k k') hk]
    exact execF_mono (runF_mono Ψ F (show k' ≤ max k k' + 1 by omega)) (Nat.le_max_right k k') hk'
   | exit i => exact ⟨k + 1, by simp only [execF]; rw [execF_mono (runF_mono Ψ F (Nat.le_succ k)) (Nat.le_refl k) hk]; exact h⟩
   | goto l => exact ⟨k + 1, by simp only [execF]; rw [execF_mono (runF_mono Ψ F (Nat.le_succ k)) (Nat.le_refl k) hk]; exact h⟩
   | ret => exact ⟨k + 1, by simp only [execF]; rw [execF_mono (runF_mono Ψ F (Nat.le_succ k)) (Nat.le_refl k) hk]; exact h⟩
theorem execL_scope {body cur : ACode} {tm : List AV} {H : Heap} : execL Ψ F (.scope body cur) tm H = thenL (execL Ψ F cur tm H) fun e tm H => match e with
  | .goto l => match findA body l with
   | some rest => execL Ψ F (.scope body rest) tm H
   | none => none
  | .normal => some (.normal, tm, H)
  | .exit i => some (.exit i, tm, H)
  | .ret => some (.ret, tm, H) := by
 refine opt_ext fun x => ?_
 rw [execL_iff]
 constructor
 ·rintro ⟨k, hk⟩
  cases k with
  | zero => simp [execF] at hk
  | succ k =>
   simp only [execF] at hk
   cases ha : execF (runF Ψ F (k + 1)) k cur tm H with
   | none => rw [ha] at hk; simp at hk
   | some o =>
    rw [ha] at hk
    have : execL Ψ F cur tm H = some o := execL_iff.2 ⟨k + 1, execF_mono (fun _ _ _ _ h => h) (Nat.le_succ k) ha⟩
    rw [this]
    obtain ⟨e, tm1, H1⟩ := o
    cases e with
    | goto l =>
     simp only [thenL] at hk ⊢
     cases hf : findA body l with
     | none => rw [hf] at hk; simp at hk
     | some r => rw [hf] at hk; exact execL_iff.2 ⟨k + 1, execF_mono (fun _ _ _ _ h => h) (Nat.le_succ k) hk⟩
    | exit i => exact hk
    | normal => exact hk
    | ret => exact hk
 ·intro h
  cases ha : execL Ψ F cur tm H with
  | none => rw [ha] at h; simp [thenL] at h
  | some o =>
   rw [ha] at h
   obtain ⟨k, hk⟩ := execL_iff.1 ha
   obtain ⟨e, tm1, H1⟩ := o
   cases e with
   | goto l =>
    simp only [thenL] at h
    cases hf : findA body l with
    | none => rw [hf] at h; simp at h
    | some r =>
     rw [hf] at h
     obtain ⟨k', hk'⟩ := execL_iff.1 h
     refine ⟨max k k' + 1, ?_⟩
     simp only [execF]
     rw [execF_mono (runF_mono Ψ F (show k ≤ max k k' + 1 by omega)) (Nat.le_max_left k k') hk]
     simp only [hf]
     exact execF_mono (runF_mono Ψ F (show k' ≤ max k k' + 1 by omega)) (Nat.le_max_right k k') hk'
   | exit i => exact ⟨k + 1, by simp only [execF]; rw [execF_mono (runF_mono Ψ F (Nat.le_succ k)) (Nat.le_refl k) hk]; exact h⟩
   | normal => exact ⟨k + 1, by simp only [execF]; rw [execF_mono (runF_mono Ψ F (Nat.le_succ k)) (Nat.le_refl k) hk]; exact h⟩
   | ret => exact ⟨k + 1, by simp only [execF]; rw [execF_mono (runF_mono Ψ F (Nat.le_succ k)) (Nat.le_refl k) hk]; exact h⟩
theorem execL_cond {c : AOpd} {a b : ACode} {tm : List AV} {H : Heap} : execL Ψ F (.cond c a b) tm H = match ev tm c with
  | .im (.bool t) => if t = true then execL Ψ F a tm H else execL Ψ F b tm H
  | _ => none := by
 refine opt_ext fun x => ?_
 rw [execL_iff]
 constructor
 ·rintro ⟨k, hk⟩
  cases k with
  | zero => simp [execF] at hk
  | succ k =>
   simp only [execF] at hk
   split at hk
   ·rename_i t heq
    rw [heq]
    simp only
    split at hk
    ·rename_i ht; rw [if_pos ht]; exact execL_iff.2 ⟨k + 1, execF_mono (fun _ _ _ _ h => h) (Nat.le_succ k) hk⟩
    ·rename_i ht; rw [if_neg ht]; exact execL_iff.2 ⟨k + 1, execF_mono (fun _ _ _ _ h => h) (Nat.le_succ k) hk⟩
   ·simp at hk
 ·intro h
  split at h
  ·rename_i t ht
   by_cases htt : t = true
   ·rw [if_pos htt] at h
    obtain ⟨k, hk⟩ := execL_iff.1 h
    exact ⟨k + 1, by simp only [execF,ht]; rw [if_pos htt]; exact execF_mono (runF_mono Ψ F (Nat.le_succ k)) (Nat.le_refl k) hk⟩
   ·rw [if_neg htt] at h
    obtain ⟨k, hk⟩ := execL_iff.1 h
    exact ⟨k + 1, by simp only [execF,ht]; rw [if_neg htt]; exact execF_mono (runF_mono Ψ F (Nat.le_succ k)) (Nat.le_refl k) hk⟩
  ·simp at h
theorem execL_block {id : Nat} {a : ACode} {tm : List AV} {H : Heap} : execL Ψ F (.block id a) tm H = thenL (execL Ψ F a tm H) fun e tm H => match e with
  | .exit i => if i = id then some (.normal, tm, H) else some (.exit i, tm, H)
  | .normal => some (.normal, tm, H)
  | .goto l => some (.goto l, tm, H)
  | .ret => some (.ret, tm, H) := by
 refine opt_ext fun x => ?_
 rw [execL_iff]
 constructor
 ·rintro ⟨k, hk⟩
  cases k with
  | zero => simp [execF] at hk
  | succ k =>
   simp only [execF] at hk
   cases ha : execF (runF Ψ F (k + 1)) k a tm H with
   | none => rw [ha] at hk; simp at hk
   | some o =>
    rw [ha] at hk
    have : execL Ψ F a tm H = some o := execL_iff.2 ⟨k + 1, execF_mono (fun _ _ _ _ h => h) (Nat.le_succ k) ha⟩
    rw [this]
    obtain ⟨e, tm1, H1⟩ := o
    cases e <;> exact hk
 ·intro h
  cases ha : execL Ψ F a tm H with
  | none => rw [ha] at h; simp [thenL] at h
  | some o =>
   rw [ha] at h
   obtain ⟨k, hk⟩ := execL_iff.1 ha
   refine ⟨k + 1, ?_⟩
   simp only [execF]
   rw [execF_mono (runF_mono Ψ F (Nat.le_succ k)) (Nat.le_refl k) hk]
   obtain ⟨e, tm1, H1⟩ := o
   cases e <;> exact h
theorem execL_one {c : ACode} {tm : List AV} {H : Heap} {x : Out} (h : ∀ Φ k, execF Φ (k + 1) c tm H = some x) : execL Ψ F c tm H = some x := execL_iff.2 ⟨1, h _ 0⟩
theorem thenL_then {R : Type} {o : Option Out} {K : AEx → List AV → Heap → Option Out} {K' : AEx → List AV → Heap → Option R} : thenL (thenL o K) K' = thenL o fun e tm H => thenL (K e tm H) K' := by
 cases o <;> rfl
theorem execL_then {R : Type} : ∀ (c : ACode) (tm : List AV) (H : Heap) (K : AEx → List AV → Heap → Option R), thenL (execL Ψ F c tm H) K = exec0 (Lim Ψ F) (execL Ψ F) c tm H K
 | .skip, tm, H, K => by rw [execL_one (fun _ _ => rfl)]; rfl
 | .label _, tm, H, K => by rw [execL_one (fun _ _ => rfl)]; rfl
 | .ops l ps, tm, H, K => by rw [execL_ops, xreg_then]; rfl
 | .seq a b, tm, H, K => by
  rw [execL_seq, thenL_then, execL_then a]
  simp only [exec0]
  congr 1
  funext e tm H
  cases e with
  | normal => exact execL_then b tm H K
  | exit i => rfl
  | goto l => rfl
  | ret => rfl
 | .cond c a b, tm, H, K => by
  rw [execL_cond]
  simp only [exec0]
  split
  ·split
   ·exact execL_then a tm H K
   ·exact execL_then b tm H K
  ·rfl
 | .block id a, tm, H, K => by
  rw [execL_block, thenL_then, execL_then a]
  simp only [exec0]
  congr 1
  funext e tm H
  cases e with
  | exit i => simp only; split <;> rfl
  | normal => rfl
  | goto l => rfl
  | ret => rfl
 | .loop a, tm, H, K => by simp only [exec0]
 | .scope a t, tm, H, K => by simp only [exec0]
 | .exit i, tm, H, K => by rw [execL_one (fun _ _ => rfl)]; rfl
 | .goto l, tm, H, K => by rw [execL_one (fun _ _ => rfl)]; rfl
 | .ret, tm, H, K => by rw [execL_one (fun _ _ => rfl)]; rfl
 | .bad, tm, H, K => by
  have : execL Ψ F .bad tm H = none := by
   cases h : execL Ψ F .bad tm H with
   | none => rfl
   | some x =>
    obtain ⟨k, hk⟩ := execL_iff.1 h
    cases k <;> simp [execF] at hk
  rw [this]; rfl
theorem loop_eq {a : ACode} {tm : List AV} {H : Heap} : execL Ψ F (.loop a) tm H = exec0 (Lim Ψ F) (execL Ψ F) a tm H fun e tm H => match e with
  | .normal => execL Ψ F (.loop a) tm H
  | .exit i => some (.exit i, tm, H)
  | .goto l => some (.goto l, tm, H)
  | .ret => some (.ret, tm, H) := by
 rw [execL_loop, execL_then]
theorem scope_eq {body cur : ACode} {tm : List AV} {H : Heap} : execL Ψ F (.scope body cur) tm H = exec0 (Lim Ψ F) (execL Ψ F) cur tm H fun e tm H => match e with
  | .goto l => match findA body l with
   | some rest => execL Ψ F (.scope body rest) tm H
   | none => none
  | .normal => some (.normal, tm, H)
  | .exit i => some (.exit i, tm, H)
  | .ret => some (.ret, tm, H) := by
 rw [execL_scope, execL_then]
noncomputable def endK (f : AFunc) (H0 : Heap) (e : AEx) (tm : List AV) (H : Heap) : Option (AV × Heap) := match e with
 | .normal => match resA tm H f.results with
  | some l => some (leave H0 f.keep (tupA l) H)
  | none => none
 | .ret => match resA tm H f.results with
  | some l => some (leave H0 f.keep (tupA l) H)
  | none => none
 | .exit _ => none
 | .goto _ => none
theorem endA_eq {f : AFunc} {H0 : Heap} {o : Option Out} : endA f H0 o = thenL o (endK f H0) := by
 cases o with
 | none => rfl
 | some o =>
  obtain ⟨e, tm, H⟩ := o
  cases e <;> rfl
theorem lim_none {f : FuncId} (hf : F f = none) (args : List AV) (H : Heap) : Lim Ψ F f args H = Ψ f args H := by
 refine opt_ext fun x => ?_
 rw [lim_iff]
 constructor
 ·rintro ⟨k, hk⟩
  cases k with
  | zero => simp [runF] at hk
  | succ k => simpa only [runF, hf] using hk
 ·intro h
  exact ⟨1, by simpa only [runF, hf] using h⟩
theorem lim_eq {f : FuncId} {af : AFunc} (hf : F f = some af) (args : List AV) (H : Heap) : Lim Ψ F f args H = exec0 (Lim Ψ F) (execL Ψ F) af.code (enterA af args) H (endK af H) := by
 rw [← execL_then, ← endA_eq]
 refine opt_ext fun x => ?_
 rw [lim_iff]
 constructor
 ·rintro ⟨k, hk⟩
  cases k with
  | zero => simp [runF] at hk
  | succ k =>
   simp only [runF,hf] at hk
   cases he : execF (runF Ψ F k) k af.code (enterA af args) H with
   | none => rw [he] at hk; simp [endA] at hk
   | some o => rw [he] at hk; rw [execL_iff.2 ⟨k, he⟩]; exact hk
 ·intro h
  cases he : execL Ψ F af.code (enterA af args) H with
  | none => rw [he] at h; simp [endA] at h
  | some o =>
   rw [he] at h
   obtain ⟨k, hk⟩ := execL_iff.1 he
   exact ⟨k + 1, by simp only [runF,hf]; rw [hk]; exact h⟩
end
theorem lim_sound {P : Program} {B : Low} (hm : P.follows .mixedOrders = true) {Ψ : Oracle} (hΨ : ∀ B' : Low, B'.ok = B.ok → Sound P B' Ψ) (no : FuncId → Bool) (pol : FuncId → Lit × Bool) : Sound P B (Lim Ψ (compF P no pol)) := fun f args H r H' h => by
 obtain ⟨k, hk⟩ := lim_iff.1 h
 exact run_sound hm hΨ no pol k B rfl f args H r H' hk
end Go.Abs
end
section
set_option linter.unusedVariables false
set_option linter.unusedSimpArgs false
namespace Go.Abs
open Go.ChangeShapes
def Reads {H : Type} (enc : TypeId × Value → H) (P : Program) (w : World) (n : Nat) (t : TypeId) (α : Type) (en : α → List Dat) (good : α → Prop) : Prop :=
 ∀ cs x, DataW.trod enc P w 0 (fun _ => true) true n t cs = some x → ∃ a, good a ∧ RelL w (fun b _ => b < w.heap.size) (en a) cs ∧ (en a).length = P.cellsOf t ∧ ∀ d ∈ en a, cellD d = true
section
variable {H : Type} {enc : TypeId × Value → H} {P : Program} {w : World} {n : Nat} {t : TypeId}
theorem reads_bool (ht : P.underlying t = some .bool) (hc : P.cellsOf t = 1) : Reads enc P w n t Bool (fun b => [.bool b]) (fun _ => True) := by
 intro cs x h
 obtain ⟨b, rfl, _⟩ := DataW.trod_bool ht h
 exact ⟨b, trivial, by simp [RelL, RelD], by simp [hc], by simp [cellD]⟩
theorem reads_int {k : IntKind} (ht : P.underlying t = some (.int k)) (hc : P.cellsOf t = 1) : Reads enc P w n t Int (fun z => [.int k z]) (fun z => (Lit.int k z).wf = true) := by
 intro cs x h
 obtain ⟨b, rfl, _, hw⟩ := DataW.trod_int ht h
 exact ⟨b, hw, by simp [RelL, RelD], by simp [hc], by simp [cellD]⟩
theorem reads_str (ht : P.underlying t = some .string) (hc : P.cellsOf t = 1) : Reads enc P w n t (List UInt8) (fun s => [.str s]) (fun s => s.length ≤ maxLen) := by
 intro cs x h
 obtain ⟨s, rfl, _, hw⟩ := DataW.trod_string ht h
 exact ⟨s.data.toList, by simpa using hw, by simp [RelL, RelD], by simp [hc], by simp [cellD]⟩
theorem cell_lt {a : Addr} {v : Value} (h : w.cell? a = some v) : a.block < w.heap.size := by
 rcases Nat.lt_or_ge a.block w.heap.size with h' | h'
 ·exact h'
 ·have : w.heap[a.block]? = none := by simp [h']
  simp [World.cell?, this] at h
theorem list_of_each {α : Type} {p : Nat → α → Prop} : ∀ (len : Nat), (∀ i, i < len → ∃ a, p i a) → ∃ l : List α, l.length = len ∧ ∀ i a, l[i]? = some a → p i a
 | 0, _ => ⟨[], rfl, by simp⟩
 | len + 1, h => by
  obtain ⟨l, hl, hp⟩ := list_of_each len (fun i hi => h i (by omega))
  obtain ⟨a, ha⟩ := h len (by omega)
  refine ⟨l ++ [a], by simp [hl], fun i b hb => ?_⟩
  rcases Nat.lt_or_ge i len with hi | hi
  ·rw [List.getElem?_append_left (by omega)] at hb; exact hp i b hb
  ·rw [List.getElem?_append_right (by omega)] at hb
   have : i = len := by
    rcases Nat.lt_or_ge (i - l.length) 1 with h1 | h1
    ·omega
    ·rw [List.getElem?_eq_none (by simpa using h1)] at hb; simp at hb
   subst this
   simp [hl] at hb; subst hb; exact ha
theorem reads_slice {e : TypeId} {α : Type} {en : α → List Dat} {good : α → Prop} (ht : P.underlying t = some (.slice e)) (hc : P.cellsOf t = 1) (he : 0 < P.cellsOf e) (hr : Reads enc P w n e α en good) :
  Reads enc P w (n + 1) t (List α) (fun l => [.sl (P.cellsOf e) (l.map en)]) (fun l => (∀ a ∈ l, good a) ∧ l.length ≤ maxLen) := by
 intro cs x h
 rcases DataW.trod_slice ht h with ⟨rfl, _⟩ | ⟨a, len, cap, elems, rest, m, hm, rfl, _, _, hl, hcap, helems, hel, _, _⟩
 ·refine ⟨[], ⟨by simp, by simp⟩, ?_, by simp [hc], by simp [cellD]⟩
  simp only [RelL,RelD,List.map_nil,List.length_nil]
  exact ⟨_, [], rfl, ⟨none, 0, rfl, Nat.le_refl _, .inl trivial⟩, rfl⟩
 ·injection hm with hm
  subst hm
  have got : ∀ i, i < len → ∃ cs' y, w.cells? 0 (a.add (i * P.cellsOf e)) (P.cellsOf e) = some cs' ∧ DataW.trod enc P w 0 (fun _ => true) true n e cs' = some y := by
   intro i hi
   have h1 := hel i hi
   cases hx : elems[i]? with
   | none => rw [List.getElem?_eq_none_iff] at hx; omega
   | some y =>
    rw [hx, Option.bind_eq_some_iff] at h1
    obtain ⟨cs', hcs, hy⟩ := h1
    exact ⟨cs', y, hcs, hy⟩
  have spot : 0 < len → a.spot = none := by
   intro h0
   obtain ⟨cs', y, hcs, _⟩ := got 0 h0
   obtain ⟨_, hn, hcell⟩ := World.cells?_some hcs
   have h1 := hcell 0 he
   cases hs : a.spot with
   | none => rfl
   | some z =>
    have hv : (cs'[0]?).isSome = true := by simp [hn, he]
    rw [← h1] at hv
    have : w.cell? ((a.add (0 * P.cellsOf e)).add 0) = none := by
     simp only [World.cell?,Addr.add,Nat.zero_mul,if_true,hs,Option.isSome_some]
     split <;> rfl
    rw [this] at hv; simp at hv
  have each : ∀ i, i < len → ∃ b, good b ∧ (en b).length = P.cellsOf e ∧ RelC w (fun b _ => b < w.heap.size) (en b) a.block (a.off + i * P.cellsOf e) := by
   intro i hi
   obtain ⟨cs', y, hcs, hy⟩ := got i hi
   obtain ⟨b, hg, hrel, hlen, hcd⟩ := hr cs' y hy
   obtain ⟨_, hn, hcell⟩ := World.cells?_some hcs
   have hsp := spot (by omega)
   refine ⟨b, hg, hlen, relC_mk fun j d hd => ?_⟩
   have hj : j < P.cellsOf e := by rw [← hlen]; exact (List.getElem?_eq_some_iff.1 hd).1
   obtain ⟨v, hv, hrd⟩ := relL_get hrel hd
   have h2 := hcell j hj
   rw [hv] at h2
   have h3 : w.cell? ⟨a.block, a.off + i * P.cellsOf e + j, none⟩ = some v := by
    rw [← h2]; congr 1
    obtain ⟨ab, ao, as⟩ := a
    simp only at hsp
    subst hsp
    unfold Addr.add
    repeat' split
    all_goals simp_all
   exact ⟨v, h3, cell_lt (a := ⟨a.block, _, none⟩) h3, hcd d (List.mem_of_getElem? hd), hrd⟩
  obtain ⟨l, hll, hp⟩ := list_of_each len each
  refine ⟨l, ⟨fun b hb => ?_, by omega⟩, ?_, by simp [hc], by simp [cellD]⟩
  ·obtain ⟨i, hi⟩ := List.getElem?_of_mem hb
   exact (hp i b hi).1
  ·simp only [RelL,RelD,List.length_map]
   refine ⟨_, [], rfl, ⟨some a, cap, by rw [hll], by omega, ?_⟩, rfl⟩
   cases l with
   | nil => exact .inl rfl
   | cons b0 l0 =>
    right
    have hsp := spot (by rw [← hll]; simp)
    refine ⟨a.block, a.off, by cases a; simp_all, relE_mk fun i e' he' => ?_⟩
    rw [List.getElem?_map, Option.map_eq_some_iff] at he'
    obtain ⟨b, hb, rfl⟩ := he'
    exact ⟨(hp i b hb).2.1, (hp i b hb).2.2⟩
def ReadsF {H : Type} (enc : TypeId × Value → H) (P : Program) (w : World) (n : Nat) (L : Nat) (fs : List Field) (o : Nat) (α : Type) (en : α → List Dat) (good : α → Prop) : Prop :=
 ∀ cs : List Value, cs.length = L → (∀ f ∈ fs, ∃ x, DataW.trod enc P w 0 (fun _ => true) true n f.type ((cs.drop f.offset).take (P.cellsOf f.type)) = some x) →
  ∃ a, good a ∧ RelL w (fun b _ => b < w.heap.size) (en a) (cs.drop o) ∧ (en a).length = L - o ∧ ∀ d ∈ en a, cellD d = true
theorem readsF_nil {L : Nat} : ReadsF enc P w n L [] L Unit (fun _ => []) (fun _ => True) := by
 intro cs hl _
 exact ⟨(), trivial, by simp [RelL, ← hl], by simp, by simp⟩
theorem readsF_cons {L o o' : Nat} {f : Field} {fs : List Field} {α β : Type} {ea : α → List Dat} {eb : β → List Dat} {ga : α → Prop} {gb : β → Prop} (ho : f.offset = o) (ho' : o' = o + P.cellsOf f.type) (hL : o' ≤ L)
  (hf : Reads enc P w n f.type α ea ga) (hr : ReadsF enc P w n L fs o' β eb gb) :
  ReadsF enc P w n L (f :: fs) o (α × β) (fun p => ea p.1 ++ eb p.2) (fun p => ga p.1 ∧ gb p.2) := by
 intro cs hl h
 obtain ⟨x, hx⟩ := h f (by simp)
 obtain ⟨a, hga, hra, hla, hca⟩ := hf _ _ hx
 obtain ⟨b, hgb, hrb, hlb, hcb⟩ := hr cs hl fun g hg => h g (by simp [hg])
 refine ⟨(a, b), ⟨hga, hgb⟩, ?_, by simp [hla, hlb]; omega, fun d hd => ?_⟩
 ·have : cs.drop o = (cs.drop o).take (P.cellsOf f.type) ++ cs.drop o' := by
   rw [ho', ← List.drop_drop, List.take_append_drop]
  rw [this]
  rw [ho] at hra
  exact relL_append hra hrb
 ·rcases List.mem_append.1 hd with hd | hd
  ·exact hca d hd
  ·exact hcb d hd
theorem reads_struct {fs : Array Field} {α : Type} {en : α → List Dat} {good : α → Prop} (ht : P.underlying t = some (.struct fs)) (hr : ReadsF enc P w n (P.cellsOf t) fs.toList 0 α en good) :
  Reads enc P w (n + 1) t α en good := by
 intro cs x h
 obtain ⟨xs, m, hm, _, hl, hlen, hf⟩ := DataW.trod_struct ht h
 injection hm with hm
 subst hm
 obtain ⟨a, hg, hrel, hla, hc⟩ := hr cs hl fun f hfm => by
  obtain ⟨i, hi⟩ := List.getElem?_of_mem hfm
  have hi' : fs[i]? = some f := by simpa using hi
  have h1 := hf i f hi'
  cases hx : xs[i]? with
  | none =>
   rw [List.getElem?_eq_none_iff] at hx
   have := (Array.getElem?_eq_some_iff.1 hi').1
   omega
  | some y => exact ⟨y, by rw [h1, hx]⟩
 exact ⟨a, hg, by simpa using hrel, by simpa using hla, hc⟩
end
end Go.Abs
end
section
set_option linter.unusedVariables false
set_option linter.unusedSimpArgs false
namespace Go.Abs
open Go.ChangeShapes Go.WideShapes Go.ChangeAt Go.RowKit
def lowOf (W : World) (T : World → Prop) (hT : ∀ w w' : World, (∀ k, k < W.heap.size → w'.heap[k]? = w.heap[k]?) → T w → T w') : Low := ⟨fun k => k < W.heap.size, T, hT⟩
def start (W : World) : Env := ⟨W, fun b _ => b < W.heap.size, fun _ => (0, 0, 0), []⟩
theorem inv_start (W : World) {T : World → Prop} (hT : ∀ w w' : World, (∀ k, k < W.heap.size → w'.heap[k]? = w.heap[k]?) → T w → T w') (h0 : T W) : Inv (lowOf W T hT) (start W) :=
 ⟨fun _ h => h, fun _ _ h => h, fun id _ es h => by simp [start] at h, fun id _ n h => by simp [start] at h, fun i j _ _ h _ _ _ _ => by simp [start] at h, h0, fun id _ _ h => by simp [start] at h⟩
theorem start_calls {P : Program} (hm : P.follows .mixedOrders = true) {W : World} {T : World → Prop} (hT : ∀ w w' : World, (∀ k, k < W.heap.size → w'.heap[k]? = w.heap[k]?) → T w → T w') (h0 : T W) {Ψ : Oracle} (hΨ : ∀ B : Low, B.ok = T → Sound P B Ψ) (no : FuncId → Bool) (pol : FuncId → Lit × Bool) {f : FuncId} {as : List AV} {b : Bool} {H' : Heap} (h : Lim Ψ (compF P no pol) f as [] = some (.im (.bool b), H')) {vs : List Value} (hr : RelAs (start W) as vs) :
  Calls P f ⟨vs⟩ W fun e W' => e = .returned (.bool b) ∧ Below W.heap.size W W' := by
 obtain ⟨_, hc⟩ := lim_sound (B := lowOf W T hT) hm hΨ no pol f as [] _ _ h
 refine (hc (start W) vs (inv_start W hT h0) rfl hr).mono fun e w' hw => ?_
 obtain ⟨v, E', rfl, rfl, _, _, X, hv⟩ := hw
 simp only [RelA,RelD] at hv
 subst hv
 exact ⟨rfl, ⟨X.os, X.tape, X.output, X.size, X.low⟩⟩
section
variable {H : Type} {enc : TypeId × Value → H} {P : Program} {W : World} {base : Nat} {t : TypeId} {v : Value} {d : DataW H} {ps : List MemPlace}
def flatT : TypeDesc → Bool
 | .bool => true
 | .int _ => true
 | .string => true
 | .float _ => true
 | .slice _ => true
 | _ => false
theorem cells_flat {u : TypeDesc} (ht : P.underlying t = some u) (hu : flatT u = true) (hv : Value.okWide P W .any base t v) : v.cells.toList = [v] := by
 cases v
 case agg cs =>
  cases u <;> simp [flatT] at hu <;> simp [Value.okWide, ht, Cell.okWide, Cell.ok] at hv
 all_goals rfl
theorem arg_flat {u : TypeDesc} {α : Type} {en : α → Dat} {good : α → Prop} (ht : P.underlying t = some u) (hu : flatT u = true) (hr : ∀ n, Reads enc P W n t α (fun a => [en a]) good) (hv : Value.okWide P W .any base t v)
  (h : DataW.Trod enc P W 0 (fun _ => true) true t v d ps) : ∃ a, good a ∧ RelA (start W) (.im (en a)) v := by
 obtain ⟨n, hn⟩ := h
 obtain ⟨a, hg, hrel, _, _⟩ := hr n _ _ hn
 rw [cells_flat ht hu hv] at hrel
 simp only [RelL] at hrel
 obtain ⟨u', r, hcons, hd, hr'⟩ := hrel
 injection hcons with h1 h2
 subst h1
 exact ⟨a, hg, by simpa only [RelA, start] using hd⟩
theorem post_below {f : Func} {s : ChangeSpec} {apart fresh handsOn again : Bool} {W' : World} {args : Array Value} {ds : List (DataW H)} {before : List MemPlace} {tb : TypeId} (hb : P.underlying tb = some .bool) (hf : f.resultTypes = #[tb])
  (hvars : s.vars = []) (hfn : s.fn H ds = { results := [.lit (.bool true)], args := ds }) (hl : laidOutB P = true) (ht : ∀ t ∈ f.params.toList, P.readableRec t = true ∧ t < P.types.size)
  (hW : DataW.Whole enc P f.params.toList s.vars apart W args.toList ds [] before) (hB : Below W.heap.size W W') :
  s.post enc P f apart fresh handsOn again W args (.bool true) W' := by
 have hlt : ∀ p ∈ before, p.block < W.heap.size := fun p hp => hW.lt p hp
 have hres : ∀ (b : Nat) (sp : Nat → Bool) (hd : Bool), DataW.TrodAll enc P W' b sp hd f.resultTypes.toList ((Value.bool true).resultList f.resultTypes.size) [.lit (.bool true)] [] := by
  intro b sp hd
  rw [hf]
  exact trodAll_mk1 (shut_bool hb true)
 have hok : ∀ (j : Nat) (t : TypeId) (r : Value), f.resultTypes[j]? = some t → ((Value.bool true).resultList f.resultTypes.size)[j]? = some r → Value.okWide P W' .any 0 t r :=
  ok_one hf rfl (okWide_bool_mk hb true)
 obtain ⟨p, q, hA, hV, hpq, hz, hn⟩ := id hW
 have hV' : q = [] := by
  rw [hvars] at hV
  exact (trodVars_none hV).2
 subst hV'
 simp only [List.append_nil] at hpq
 have hargs : ∀ sp : Nat → Bool, (∀ x ∈ before, sp x.block = true) → DataW.TrodAll enc P W' 0 sp true f.params.toList args.toList ds before := by
  intro sp hsp
  subst hpq
  have key : ∀ (ts : List TypeId) (vs : List Value) (ds : List (DataW H)) (ps : List MemPlace), (∀ t ∈ ts, P.readableRec t = true ∧ t < P.types.size) → (∀ x ∈ ps, x.block < W.heap.size) → (∀ x ∈ ps, sp x.block = true) →
    DataW.TrodAll enc P W 0 (fun _ => true) true ts vs ds ps → DataW.TrodAll enc P W' 0 sp true ts vs ds ps := by
   intro ts
   induction ts with
   | nil => intro vs ds ps _ _ _ h; cases vs <;> cases ds <;> simp_all [DataW.TrodAll]
   | cons t ts ih =>
    intro vs ds ps h1 h2 h3 h
    match vs, ds, h with
    | v :: vs, d :: ds, h =>
     obtain ⟨p, q, h4, h5, rfl⟩ := h
     refine ⟨p, q, ?_, ih _ _ _ (fun x hx => h1 x (by simp [hx])) (fun x hx => h2 x (by simp [hx])) (fun x hx => h3 x (by simp [hx])) h5, rfl⟩
     exact WideElems.Trod_stays hl (h1 t (by simp)).1 (h1 t (by simp)).2 h4 (fun x hx => hB.same (h2 x (by simp [hx]))) (fun x hx => h3 x (by simp [hx]))
  exact key _ _ _ _ ht hlt hsp hA
 have hvs : ∀ sp : Nat → Bool, DataW.TrodVars enc P W' sp s.vars [] [] := by
  intro sp
  rw [hvars]
  rfl
 have hold : ∀ p ∈ before, (fun b => decide (b < W.heap.size)) p.block = true := fun p hp => by simpa using hlt p hp
 refine ⟨ds, [], before, [], before, [], hW, ?_, ?_, ?_, ?_, fun _ => ?_⟩
 ·rw [List.append_nil, hfn]; exact hres _ _ _
 ·rw [List.append_nil, hfn]; exact hargs _ hold
 ·rw [List.append_nil, hfn]; exact hvs _
 ·exact World.keptBut_mono (fun p hp => ⟨hp, .inr (.inl hp)⟩) (hB.frame (· ∈ before))
 ·refine ⟨hok, [.lit (.bool true)] ++ ds, [], before, ⟨before, [], ?_, hvs _, by simp, ?_, ?_⟩, fun p hp _ => hp⟩
  ·have := trodAll_append (hargs (fun _ => true) (fun _ _ => rfl)) (hres 0 (fun _ => true) true)
   simpa using this
  ·intro b off hp
   rw [hB.frozen (hlt _ hp)]
   exact hz b off hp
  ·intro ha
   exact hn ha
end
end Go.Abs
end
section
set_option linter.unusedVariables false
set_option linter.unusedSimpArgs false
namespace Go.Abs
open Go.RowKit
section
variable {w : World}
theorem freeze_ne {a : Addr} {n k : Nat} (h : k ≠ a.block) : (w.freeze a n).heap[k]? = w.heap[k]? := by
 unfold World.freeze
 split
 ·rfl
 ·simp only [Array.getElem?_modify]
  rw [if_neg (fun e => h e.symm)]
theorem freeze_size {a : Addr} {n : Nat} : (w.freeze a n).heap.size = w.heap.size := by
 unfold World.freeze
 split
 ·rfl
 ·simp
theorem freeze_at {a : Addr} {n : Nat} (hn : n ≠ 0) {c : Array Value} {t : TypeId} {lo hi : Nat} (h : w.heap[a.block]? = some (.cells c t (lo, hi))) :
  ∃ lo' hi', (w.freeze a n).heap[a.block]? = some (.cells c t (lo', hi')) ∧ hi' ≤ max hi (a.off + n) := by
 unfold World.freeze
 rw [if_neg hn]
 simp only [Array.getElem?_modify,if_true,h,Option.map_some]
 by_cases he : lo == hi
 ·exact ⟨a.off, a.off + n, by rw [if_pos he], by omega⟩
 ·exact ⟨min lo a.off, max hi (a.off + n), by rw [if_neg he], Nat.le_refl _⟩
theorem freeze_cell {a p : Addr} {n : Nat} {c : Array Value} {t : TypeId} {lo hi : Nat} (h : w.heap[a.block]? = some (.cells c t (lo, hi))) : (w.freeze a n).cell? p = w.cell? p := by
 by_cases hn : n = 0
 ·subst hn; simp [World.freeze]
 ·by_cases hp : p.block = a.block
  ·obtain ⟨lo', hi', h', _⟩ := freeze_at hn h
   simp only [World.cell?,hp,h,h']
  ·simp only [World.cell?,freeze_ne hp]
theorem freeze_shape {a : Addr} {b n : Nat} {c : Array Value} {t : TypeId} {lo hi : Nat} (h : w.heap[a.block]? = some (.cells c t (lo, hi))) : (w.freeze a n).shape? b = w.shape? b := by
 by_cases hn : n = 0
 ·subst hn; simp [World.freeze]
 ·by_cases hp : b = a.block
  ·obtain ⟨lo', hi', h', _⟩ := freeze_at hn h
   subst hp
   simp only [World.shape?,h,h']
  ·simp only [World.shape?,freeze_ne hp]
end
def bytesE : List (List Dat) → Option (List UInt8)
 | [] => some []
 | [.int .u8 n] :: es => match bytesE es with
  | some l => if 0 ≤ n ∧ n < 256 then some (n.toNat.toUInt8 :: l) else none
  | none => none
 | _ :: _ => none
theorem bytesE_get : ∀ {es : List (List Dat)} {l : List UInt8}, bytesE es = some l → es.length = l.length ∧ ∀ (j : Nat) (x : UInt8), l[j]? = some x → es[j]? = some [Dat.int .u8 x.toNat]
 | [], l, h => by simp only [bytesE] at h; injection h with h; subst h; simp
 | [.int .u8 n] :: es, l, h => by
  simp only [bytesE] at h
  split at h
  ·rename_i l' hl
   split at h
   ·rename_i hn
    injection h with h; subst h
    obtain ⟨h1, h2⟩ := bytesE_get hl
    refine ⟨by simp [h1], fun j x hx => ?_⟩
    cases j with
    | zero =>
     simp at hx; subst hx
     simp only [List.getElem?_cons_zero,Option.some.injEq,List.cons.injEq,and_true,Dat.int.injEq,true_and]
     have e : (UInt8.ofNat n.toNat).toNat = n.toNat := by
      rw [UInt8.toNat_ofNat']; omega
     have e2 : n.toNat.toUInt8 = UInt8.ofNat n.toNat := rfl
     rw [← e2] at e
     rw [e2] at e
     simp only [Nat.toUInt8_eq] at *
     omega
    | succ j => exact h2 j x (by simpa using hx)
   ·simp at h
  ·simp at h
 | [] :: es, l, h => by simp [bytesE] at h
 |(_ :: _ :: _) :: es, l, h => by simp [bytesE] at h
 | [.bool _] :: es, l, h => by simp [bytesE] at h
 | [.str _] :: es, l, h => by simp [bytesE] at h
 | [.flt _ _] :: es, l, h => by simp [bytesE] at h
 | [.cpx _ _ _] :: es, l, h => by simp [bytesE] at h
 | [.nilp] :: es, l, h => by simp [bytesE] at h
 | [.nilf] :: es, l, h => by simp [bytesE] at h
 | [.nili] :: es, l, h => by simp [bytesE] at h
 | [.ifc] :: es, l, h => by simp [bytesE] at h
 | [.agg _] :: es, l, h => by simp [bytesE] at h
 | [.sl _ _] :: es, l, h => by simp [bytesE] at h
 | [.rp _] :: es, l, h => by simp [bytesE] at h
 | [.int .i8 _] :: es, l, h => by simp [bytesE] at h
 | [.int .i16 _] :: es, l, h => by simp [bytesE] at h
 | [.int .i32 _] :: es, l, h => by simp [bytesE] at h
 | [.int .i64 _] :: es, l, h => by simp [bytesE] at h
 | [.int .u16 _] :: es, l, h => by simp [bytesE] at h
 | [.int .u32 _] :: es, l, h => by simp [bytesE] at h
 | [.int .u64 _] :: es, l, h => by simp [bytesE] at h
structure Bld (P : Program) (cc st : FuncId) (tB tb : TypeId) : Prop where
 ecc : Enters P cc
 est : Enters P st
 used : ∀ (b : Nat) (w : World), w.cell? ⟨b, 0, none⟩ = some (.pointer (some ⟨b, 0, none⟩)) → Calls P cc #[.pointer (some ⟨b, 0, none⟩)] w fun e w' => e = .returned (.tuple #[]) ∧ w' = w
 fresh : ∀ (b : Nat) (w : World), w.cell? ⟨b, 0, none⟩ = some (.pointer none) → w.shape? b = some (tB, 2) → w.frozen? ⟨b, 0, none⟩ = false →
  Calls P cc #[.pointer (some ⟨b, 0, none⟩)] w fun e w' => e = .returned (.tuple #[]) ∧ w' = w.setCell ⟨b, 0, none⟩ (.pointer (some ⟨b, 0, none⟩))
 text : ∀ (b g o c cells : Nat) (l : List UInt8) (w : World), w.cell? ⟨b, 1, none⟩ = some (.slice (some ⟨g, o, none⟩) l.length c) → l ≠ [] → l.length ≤ c → l.length ≤ 2 ^ 62 → w.shape? g = some (tb, cells) → o + l.length ≤ cells →
  (∀ j x, l[j]? = some x → w.cell? ⟨g, o + j, none⟩ = some (.int .u8 x.toNat)) →
  Calls P st #[.pointer (some ⟨b, 0, none⟩)] w fun e w' => e = .returned (.string ⟨l.toArray⟩) ∧ w' = w.drew.freeze ⟨g, o, none⟩ l.length
section
variable {P : Program} {cc st : FuncId} {tB tb : TypeId} {B : Low}
end
end Go.Abs
end
section
set_option linter.unusedVariables false
set_option linter.unusedSimpArgs false
namespace Go.Abs
mutual
def eqD : Dat → Dat → Bool
 | .int k n, .int k' n' => decide (k = k') && decide (n = n')
 | .bool b, .bool b' => b == b'
 | .str s, .str s' => decide (s = s')
 | .flt k n, .flt k' n' => decide (k = k') && decide (n = n')
 | .cpx k a b, .cpx k' a' b' => decide (k = k') && decide (a = a') && decide (b = b')
 | .nilp, .nilp => true
 | .nilf, .nilf => true
 | .nili, .nili => true
 | .ifc, .ifc => true
 | .agg cs, .agg cs' => eqDs cs cs'
 | .sl s es, .sl s' es' => decide (s = s') && eqDss es es'
 | .rp cs, .rp cs' => eqDs cs cs'
 | _, _ => false
def eqDs : List Dat → List Dat → Bool
 | [], [] => true
 | a :: l, b :: r => eqD a b && eqDs l r
 | _, _ => false
def eqDss : List (List Dat) → List (List Dat) → Bool
 | [], [] => true
 | a :: l, b :: r => eqDs a b && eqDss l r
 | _, _ => false
end
mutual
theorem eqD_eq : ∀ {a b : Dat}, eqD a b = true → a = b
 | .int k n, b, h => by cases b <;> simp_all [eqD]
 | .bool x, b, h => by cases b <;> simp_all [eqD]
 | .str s, b, h => by cases b <;> simp_all [eqD]
 | .flt k n, b, h => by cases b <;> simp_all [eqD]
 | .cpx k x y, b, h => by cases b <;> simp_all [eqD]
 | .nilp, b, h => by cases b <;> simp_all [eqD]
 | .nilf, b, h => by cases b <;> simp_all [eqD]
 | .nili, b, h => by cases b <;> simp_all [eqD]
 | .ifc, b, h => by cases b <;> simp_all [eqD]
 | .agg cs, b, h => by
  cases b <;> simp [eqD] at h
  rw [eqDs_eq h]
 | .sl s es, b, h => by
  cases b <;> simp [eqD] at h
  rw [h.1, eqDss_eq h.2]
 | .rp cs, b, h => by
  cases b <;> simp [eqD] at h
  rw [eqDs_eq h]
theorem eqDs_eq : ∀ {a b : List Dat}, eqDs a b = true → a = b
 | [], b, h => by cases b <;> simp_all [eqDs]
 | a :: l, b, h => by
  cases b <;> simp [eqDs] at h
  rw [eqD_eq h.1, eqDs_eq h.2]
theorem eqDss_eq : ∀ {a b : List (List Dat)}, eqDss a b = true → a = b
 | [], b, h => by cases b <;> simp_all [eqDss]
 | a :: l, b, h => by
  cases b <;> simp [eqDss] at h
  rw [eqDs_eq h.1, eqDss_eq h.2]
end
mutual
def eqA : AV → AV → Bool
 | .im d, .im d' => eqD d d'
 | .nils, .nils => true
 | .em, .em => true
 | .asl s es t, .asl s' es' t' => decide (s = s') && eqDss es es' && decide (t = t')
 | .ms s i o n, .ms s' i' o' n' => decide (s = s') && decide (i = i') && decide (o = o') && decide (n = n')
 | .ptr i j k, .ptr i' j' k' => decide (i = i') && decide (j = j') && decide (k = k')
 | .agg cs, .agg cs' => eqAs cs cs'
 | .tup cs, .tup cs' => eqAs cs cs'
 | .clo f cs, .clo f' cs' => decide (f = f') && eqAs cs cs'
 | .any, .any => true
 | _, _ => false
def eqAs : List AV → List AV → Bool
 | [], [] => true
 | a :: l, b :: r => eqA a b && eqAs l r
 | _, _ => false
end
mutual
theorem eqA_eq : ∀ {a b : AV}, eqA a b = true → a = b
 | .im d, b, h => by
  cases b <;> simp [eqA] at h
  rw [eqD_eq h]
 | .nils, b, h => by cases b <;> simp_all [eqA]
 | .em, b, h => by cases b <;> simp_all [eqA]
 | .asl s es t, b, h => by
  cases b <;> simp [eqA] at h
  rw [h.1.1, eqDss_eq h.1.2, h.2]
 | .ms s i o n, b, h => by cases b <;> simp_all [eqA]
 | .ptr i j k, b, h => by cases b <;> simp_all [eqA]
 | .agg cs, b, h => by
  cases b <;> simp [eqA] at h
  rw [eqAs_eq h]
 | .tup cs, b, h => by
  cases b <;> simp [eqA] at h
  rw [eqAs_eq h]
 | .clo f cs, b, h => by
  cases b <;> simp [eqA] at h
  rw [h.1, eqAs_eq h.2]
 | .any, b, h => by cases b <;> simp_all [eqA]
theorem eqAs_eq : ∀ {a b : List AV}, eqAs a b = true → a = b
 | [], b, h => by cases b <;> simp_all [eqAs]
 | a :: l, b, h => by
  cases b <;> simp [eqAs] at h
  rw [eqA_eq h.1, eqAs_eq h.2]
end
mutual
theorem eqD_refl : ∀ a : Dat, eqD a a = true
 | .int k n => by simp [eqD]
 | .bool x => by simp [eqD]
 | .str s => by simp [eqD]
 | .flt k n => by simp [eqD]
 | .cpx k x y => by simp [eqD]
 | .nilp => by simp [eqD]
 | .nilf => by simp [eqD]
 | .nili => by simp [eqD]
 | .ifc => by simp [eqD]
 | .agg cs => by simp [eqD, eqDs_refl cs]
 | .sl s es => by simp [eqD, eqDss_refl es]
 | .rp cs => by simp [eqD, eqDs_refl cs]
theorem eqDs_refl : ∀ a : List Dat, eqDs a a = true
 | [] => by simp [eqDs]
 | a :: l => by simp [eqDs, eqD_refl a, eqDs_refl l]
theorem eqDss_refl : ∀ a : List (List Dat), eqDss a a = true
 | [] => by simp [eqDss]
 | a :: l => by simp [eqDss, eqDs_refl a, eqDss_refl l]
end
mutual
theorem eqA_refl : ∀ a : AV, eqA a a = true
 | .im d => by simp [eqA, eqD_refl d]
 | .nils => by simp [eqA]
 | .em => by simp [eqA]
 | .asl s es t => by simp [eqA, eqDss_refl es]
 | .ms s i o n => by simp [eqA]
 | .ptr i j k => by simp [eqA]
 | .agg cs => by simp [eqA, eqAs_refl cs]
 | .tup cs => by simp [eqA, eqAs_refl cs]
 | .clo f cs => by simp [eqA, eqAs_refl cs]
 | .any => by simp [eqA]
theorem eqAs_refl : ∀ a : List AV, eqAs a a = true
 | [] => by simp [eqAs]
 | a :: l => by simp [eqAs, eqA_refl a, eqAs_refl l]
end
def eqAss : List (List AV) → List (List AV) → Bool
 | [], [] => true
 | a :: l, b :: r => eqAs a b && eqAss l r
 | _, _ => false
theorem eqAss_eq : ∀ {a b : List (List AV)}, eqAss a b = true → a = b
 | [], b, h => by cases b <;> simp_all [eqAss]
 | a :: l, b, h => by
  cases b <;> simp [eqAss] at h
  rw [eqAs_eq h.1, eqAss_eq h.2]
theorem eqAss_refl : ∀ a : List (List AV), eqAss a a = true
 | [] => by simp [eqAss]
 | a :: l => by simp [eqAss, eqAs_refl a, eqAss_refl l]
def eqH : HO → HO → Bool
 | .obj t es, .obj t' es' => decide (t = t') && eqAss es es'
 | .hw t n, .hw t' n' => decide (t = t') && decide (n = n')
 | .it s p, .it s' p' => decide (s = s') && decide (p = p')
 | .dead, .dead => true
 | _, _ => false
theorem eqH_iff {a b : HO} : eqH a b = true ↔ a = b := by
 constructor
 ·intro h
  cases a <;> cases b <;> simp [eqH] at h
  ·rw [h.1, eqAss_eq h.2]
  ·rw [h.1, h.2]
  ·rw [h.1, h.2]
  ·rfl
 ·rintro rfl
  cases a <;> simp [eqH, eqAss_refl]
def heldC (n : Nat) : Heap → Heap → Bool
 | [], _ => true
 | o0 :: H0, o :: H => (eqH o o0 || refsO n o) && heldC n H0 H
 | _ :: _, [] => false
theorem heldC_iff {n : Nat} : ∀ {H0 H : Heap}, heldC n H0 H = true ↔ ∀ i, i < H0.length → H[i]? = H0[i]? ∨ ∃ o, H[i]? = some o ∧ refsO n o = true
 | [], H => by simp [heldC]
 | o0 :: H0, [] => by
  simp only [heldC,Bool.false_eq_true,false_iff]
  intro h
  have := h 0 (by simp)
  simp at this
 | o0 :: H0, o :: H => by
  simp only [heldC,Bool.and_eq_true,Bool.or_eq_true,eqH_iff,heldC_iff (H0 := H0) (H := H)]
  constructor
  ·rintro ⟨h0, h1⟩ i hi
   cases i with
   | zero =>
    rcases h0 with h0 | h0
    ·left; simp [h0]
    ·right; exact ⟨o, rfl, h0⟩
   | succ i => simpa using h1 i (by simpa using hi)
  ·intro h
   refine ⟨?_, fun i hi => by simpa using h (i + 1) (by simpa using hi)⟩
   have := h 0 (by simp)
   simpa using this
def keepC (H0 : Heap) (r : AV) (H : Heap) : Bool → AV × Heap
 | false => (r, H)
 | true => match r with
  | .agg cs => match reAt H0.length cs with
   | some (tok, cs') => match H[tok]? with
    | some (.hw ty k) => if heldC H0.length H0 H = true then (.agg cs', H.take H0.length ++ [.hw ty k]) else (r, H)
    | _ => (r, H)
   | none => (r, H)
  | _ => (r, H)
open Classical in
theorem keepC_eq {H0 : Heap} {keep : Bool} {r : AV} {H : Heap} : keepS H0 r H keep = keepC H0 r H keep := by
 have e : ∀ x y : AV × Heap, (if heldIn H0 H then x else y) = (if heldC H0.length H0 H = true then x else y) := fun x y => by
  by_cases h : heldIn H0 H
  ·rw [if_pos h, if_pos (heldC_iff.2 h)]
  ·rw [if_neg h, if_neg (mt heldC_iff.1 h)]
 cases keep with
 | false => rfl
 | true =>
  unfold keepS keepC
  simp only [e]
  rfl
def leaveC (H0 : Heap) (keep : Bool) (r : AV) (H : Heap) : AV × Heap :=
 let r' := if keep then r else degrade r
 if refsLt H0.length r' = true ∧ heldC H0.length H0 H = true then (r', H.take H0.length) else keepC H0 r' H keep
theorem leaveC_eq {H0 : Heap} {keep : Bool} {r : AV} {H : Heap} : leave H0 keep r H = leaveC H0 keep r H := by
 unfold leaveC leave
 generalize (if keep = true then r else degrade r) = r1
 have e : (refsLt H0.length r1 = true ∧ heldIn H0 H) ↔ (refsLt H0.length r1 = true ∧ heldC H0.length H0 H = true) := and_congr_right fun _ => heldC_iff.symm
 simp only
 by_cases h : refsLt H0.length r1 = true ∧ heldIn H0 H
 ·rw [if_pos h, if_pos (e.1 h)]
 ·rw [if_neg h, if_neg (mt e.2 h), keepC_eq]
def endC (f : AFunc) (H0 : Heap) : Option Out → Option (AV × Heap)
 | some (.normal, tm, H) => match resA tm H f.results with
  | some l => some (leaveC H0 f.keep (tupA l) H)
  | none => none
 | some (.ret, tm, H) => match resA tm H f.results with
  | some l => some (leaveC H0 f.keep (tupA l) H)
  | none => none
 | _ => none
theorem endC_eq {f : AFunc} {H0 : Heap} {o : Option Out} {x : AV × Heap} (h : endC f H0 o = some x) : endA f H0 o = some x := by
 unfold endC at h
 split at h
 ·split at h
  ·rename_i l hl
   simp only [endA,hl,leaveC_eq]; exact h
  ·simp at h
 ·split at h
  ·rename_i l hl
   simp only [endA,hl,leaveC_eq]; exact h
  ·simp at h
 ·simp at h
end Go.Abs
end
section
set_option linter.unusedVariables false
set_option linter.unusedSimpArgs false
namespace Go.Abs
def eqO : Option AV → Option AV → Bool
 | some a, some b => eqA a b
 | none, none => true
 | _, _ => false
theorem eqO_eq {a b : Option AV} (h : eqO a b = true) : a = b := by
 cases a <;> cases b <;> simp [eqO] at h
 ·rfl
 ·rw [eqA_eq h]
def staysC (l : List AOper) (sts : List (List AV × Heap)) (p : Nat × Nat) : Bool :=
 match l[p.1]?, sts[p.1]?, sts[p.2]?, sts[p.2 + 1]? with
 | some o, some s, some a, some b => (match wantedA s.1 o.guard with | some false => true | _ => false) || match loadOf o.op with
  | some (k, x) => eqO (loadAt a.2 k (ev s.1 x)) (loadAt b.2 k (ev s.1 x))
  | none => false
 | _, _, _, _ => false
theorem staysC_stays {l : List AOper} {sts : List (List AV × Heap)} {p : Nat × Nat} (h : staysC l sts p = true) : stays l sts p := by
 unfold staysC at h
 unfold stays
 split at h
 ·rename_i o s a b h1 h2 h3 h4
  simp only [h1,h2,h3,h4]
  rw [Bool.or_eq_true] at h
  rcases h with h | h
  ·left
   split at h
   ·assumption
   ·simp at h
  ·right
   split at h
   ·rename_i k x hl
    simp only [hl]
    exact eqO_eq h
   ·simp at h
 ·simp at h
def xregC {R : Type} (Φ : Oracle) (l : List AOper) (pairs : List (Nat × Nat)) (tm : List AV) (H : Heap) (K : List AV → Heap → Option R) : Option R :=
 match pairs with
 | [] => xops Φ l [] tm H fun _ tm H => K tm H
 | p :: ps => xops Φ l [] tm H fun tr tm' H' => if (p :: ps).all (fun q => staysC l (((tm', H') :: tr).reverse) q) = true then K tm' H' else none
theorem xregC_le {R : Type} {Φ Ψ : Oracle} (h : OLe Φ Ψ) {K K' : List AV → Heap → Option R} (hK : ∀ tm H x, K tm H = some x → K' tm H = some x) {l : List AOper} {ps : List (Nat × Nat)} {tm : List AV} {H : Heap} {x : R} (hx : xregC Φ l ps tm H K = some x) : xreg Ψ l ps tm H K' = some x := by
 unfold xregC at hx
 unfold xreg
 split at hx
 ·exact xops_mono h (fun _ tm H x => hK tm H x) hx
 ·refine xops_mono h (fun tr tm H x hx => ?_) hx
  split at hx
  ·rename_i hc
   rw [List.all_eq_true] at hc
   rw [if_pos fun q hq => staysC_stays (hc q hq)]
   exact hK _ _ _ hx
  ·simp at hx
def execC (Φ : Oracle) : Nat → ACode → List AV → Heap → Option Out
 | 0, _, _, _ => none
 | k + 1, code, tm, H => match code with
  | .skip => some (.normal, tm, H)
  | .label _ => some (.normal, tm, H)
  | .ops l ps => xregC Φ l ps tm H fun tm H => some (.normal, tm, H)
  | .seq a b => match execC Φ k a tm H with
   | some (.normal, tm', H') => execC Φ k b tm' H'
   | r => r
  | .cond c a b => match ev tm c with
   | .im (.bool t) => if t = true then execC Φ k a tm H else execC Φ k b tm H
   | _ => none
  | .block id a => match execC Φ k a tm H with
   | some (.exit i, tm', H') => if i = id then some (.normal, tm', H') else some (.exit i, tm', H')
   | r => r
  | .loop a => match execC Φ k a tm H with
   | some (.normal, tm', H') => execC Φ k (.loop a) tm' H'
   | r => r
  | .scope body cur => match execC Φ k cur tm H with
   | some (.goto l, tm', H') => match findA body l with
    | some rest => execC Φ k (.scope body rest) tm' H'
    | none => none
   | r => r
  | .exit i => some (.exit i, tm, H)
  | .goto l => some (.goto l, tm, H)
  | .ret => some (.ret, tm, H)
  | .bad => none
theorem execC_le {Φ Ψ : Oracle} (h : OLe Φ Ψ) : ∀ {k : Nat} {c : ACode} {tm : List AV} {H : Heap} {x : Out}, execC Φ k c tm H = some x → execF Ψ k c tm H = some x
 | 0, _, _, _, _, hx => by simp [execC] at hx
 | k + 1, c, tm, H, x, hx => by
  have ih : ∀ {c : ACode} {tm : List AV} {H : Heap} {x : Out}, execC Φ k c tm H = some x → execF Ψ k c tm H = some x := fun hx => execC_le h hx
  cases c <;> simp only [execC] at hx <;> simp only [execF]
  case ops l ps => exact xregC_le h (fun _ _ _ h => h) hx
  case seq a b =>
   cases ha : execC Φ k a tm H with
   | none => rw [ha] at hx; simp at hx
   | some o =>
    rw [ha] at hx
    rw [ih ha]
    obtain ⟨e, tm1, H1⟩ := o
    cases e <;> first | exact hx | exact ih hx
  case cond c a b =>
   split at hx
   ·rename_i t htt
    rw [htt]
    simp only
    split at hx
    ·rename_i ht; rw [if_pos ht]; exact ih hx
    ·rename_i ht; rw [if_neg ht]; exact ih hx
   ·simp at hx
  case block id a =>
   cases ha : execC Φ k a tm H with
   | none => rw [ha] at hx; simp at hx
   | some o => rw [ha] at hx; rw [ih ha]; exact hx
  case loop a =>
   cases ha : execC Φ k a tm H with
   | none => rw [ha] at hx; simp at hx
   | some o =>
    rw [ha] at hx
    rw [ih ha]
    obtain ⟨e, tm1, H1⟩ := o
    cases e <;> first | exact hx | exact ih hx
  case scope body cur =>
   cases ha : execC Φ k cur tm H with
   | none => rw [ha] at hx; simp at hx
   | some o =>
    rw [ha] at hx
    rw [ih ha]
    obtain ⟨e, tm1, H1⟩ := o
    cases e with
    | goto l =>
     simp only at hx ⊢
     cases hf : findA body l with
     | none => rw [hf] at hx; simp at hx
     | some r => rw [hf] at hx; exact ih hx
    | normal => exact hx
    | exit i => exact hx
    | ret => exact hx
  all_goals exact hx
def runC (Ψ : Oracle) (T : FuncId → Option AFunc) : Nat → Oracle
 | 0, _, _, _ => none
 | k + 1, f, args, H => match T f with
  | some af => endC af H (execC (runC Ψ T k) k af.code (enterA af args) H)
  | none => Ψ f args H
theorem runC_le {Ψ : Oracle} {T F : FuncId → Option AFunc} (hT : ∀ f af, T f = some af → F f = some af) (hn : ∀ f, T f = none → F f = none ∨ ∀ args H, Ψ f args H = none) : ∀ k, OLe (runC Ψ T k) (runF Ψ F k)
 | 0 => fun f args H x hx => by simp [runC] at hx
 | k + 1 => fun f args H x hx => by
  have ih := runC_le hT hn k
  simp only [runC] at hx
  simp only [runF]
  cases hf : T f with
  | none =>
   rw [hf] at hx
   rcases hn f hf with h | h
   ·rw [h]; exact hx
   ·simp only [h] at hx; simp at hx
  | some af =>
   rw [hf] at hx
   rw [hT f af hf]
   simp only at hx ⊢
   cases he : execC (runC Ψ T k) k af.code (enterA af args) H with
   | none => rw [he] at hx; simp [endC] at hx
   | some o => rw [he] at hx; rw [execC_le ih he]; exact endC_eq hx
end Go.Abs
end
section
set_option linter.unusedVariables false
set_option linter.unusedSimpArgs false
namespace Go.Abs
section
variable {α : Type} {H l : List α} {x : α}
theorem hget (k : Nat) : (H ++ l)[H.length + k]? = l[k]? := by
 rw [List.getElem?_append_right (by omega)]
 congr 1
 omega
theorem hget0 : (H ++ l)[H.length]? = l[0]? := hget 0
theorem hset (k : Nat) : (H ++ l).set (H.length + k) x = H ++ l.set k x := by
 rw [List.set_append_right _ _ (by omega)]
 congr 2
 omega
theorem hset0 : (H ++ l).set H.length x = H ++ l.set 0 x := hset 0
theorem htake : (H ++ l).take H.length = H := by simp
end
theorem heldIn_self (H : Heap) : heldIn H H := fun i _ => .inl rfl
theorem heldIn_app (H L : Heap) : heldIn H (H ++ L) := fun i h => .inl (List.getElem?_append_left h)
theorem leave_app {H L : Heap} {keep : Bool} {d : Dat} : leave H keep (.im d) (H ++ L) = (.im d, H) := by
 unfold leave
 have e : (if keep = true then AV.im d else degrade (.im d)) = .im d := by cases keep <;> simp [degrade, toDat]
 rw [e, if_pos ⟨by simp only [refsLt], heldIn_app H L⟩, htake]
theorem leave_same {H : Heap} {keep : Bool} {d : Dat} : leave H keep (.im d) H = (.im d, H) := by
 have := leave_app (H := H) (L := []) (keep := keep) (d := d)
 simpa using this
theorem leave_tup2 {H L : Heap} {d d' : Dat} : leave H false (.tup [.im d, .im d']) (H ++ L) = (.tup [.im d, .im d'], H) := by
 unfold leave
 have e : (if (false : Bool) = true then AV.tup [.im d, .im d'] else degrade (.tup [.im d, .im d'])) = .tup [.im d, .im d'] := by simp [degrade, degrade1, toDat]
 rw [e, if_pos ⟨by simp only [refsLt,refsLts,Bool.and_self], heldIn_app H L⟩, htake]
end Go.Abs
namespace Go.Abs
section
variable {tm : List AV} {v d : AV} {i j : Nat}
theorem gs_same (h : i < tm.length) : (tm.set i v).getD i d = v := by
 simp [List.getD_eq_getElem?_getD, h]
theorem gs_ne (h : ¬ i = j) : (tm.set i v).getD j d = tm.getD j d := by
 simp [List.getD_eq_getElem?_getD, List.getElem?_set_ne h]
theorem gq_same (h : i < tm.length) : (tm.set i v)[i]? = some v := by
 simp [h]
theorem gq_ne (h : ¬ i = j) : (tm.set i v)[j]? = tm[j]? := List.getElem?_set_ne h
end
theorem enter_at {f : AFunc} {args : List AV} (h : args.length ≤ f.ntmps) : (enterA f args).length = f.ntmps ∧ ∀ i a, args[i]? = some a → (enterA f args).getD i undefA = a := by
 refine ⟨by simp [enterA]; omega, fun i a hi => ?_⟩
 have := (List.getElem?_eq_some_iff.1 hi).1
 simp [enterA, List.getD_eq_getElem?_getD, List.getElem?_append_left this, hi]
theorem idx_nat {i n : Nat} (h : i < n) : idx (.im (.int .i64 i)) n = some i := by
 unfold idx intOfA
 simp only
 split <;> simp <;> omega
theorem wrap_nat {i : Nat} (h : i < 9223372036854775807) : IntKind.i64.wrap ((i : Int) + 1) = ((i + 1 : Nat) : Int) := by
 simp [IntKind.wrap, IntKind.bits, IntKind.signed]
 omega
end Go.Abs
namespace Go.Abs
theorem thenL_of {R : Type} {o : Option Out} {K : AEx → List AV → Heap → Option R} {r : Option R} {Q : AEx → List AV → Heap → Prop} (h : ∃ e tm H, o = some (e, tm, H) ∧ Q e tm H) (hK : ∀ e tm H, Q e tm H → K e tm H = r) : thenL o K = r := by
 obtain ⟨e, tm, H, rfl, hq⟩ := h
 exact hK e tm H hq
end Go.Abs
namespace Go.Abs
theorem ex_imp {o : Option Out} {Q Q' : AEx → List AV → Heap → Prop} (h : ∃ e tm H, o = some (e, tm, H) ∧ Q e tm H) (hQ : ∀ e tm H, Q e tm H → Q' e tm H) : ∃ e tm H, o = some (e, tm, H) ∧ Q' e tm H := by
 obtain ⟨e, tm, H, rfl, hq⟩ := h
 exact ⟨e, tm, H, rfl, hQ e tm H hq⟩
end Go.Abs
namespace Go.Abs
theorem leave_set {H L : Heap} {d : Dat} {id : Nat} {k : IntKind} {n : Int} : leave H false (.im d) (H.set id (.obj none [[.im (.int k n)]]) ++ L) = (.im d, H.set id (.obj none [[.im (.int k n)]])) := by
 have hh : heldIn H (H.set id (.obj none [[.im (.int k n)]]) ++ L) := fun i hi => by
  rw [List.getElem?_append_left (by simpa using hi)]
  by_cases h : id = i
  ·subst h
   right
   exact ⟨_, List.getElem?_set_self hi, by simp [refsO, refsLts, refsLt]⟩
  ·left
   rw [List.getElem?_set_ne h]
 have ht : (H.set id (.obj none [[.im (.int k n)]]) ++ L).take H.length = H.set id (.obj none [[.im (.int k n)]]) := by
  rw [List.take_append_of_le_length (by simp), List.take_of_length_le (by simp)]
 unfold leave
 have e : (if false = true then AV.im d else degrade (.im d)) = .im d := by simp [degrade, toDat]
 rw [e, if_pos ⟨by simp only [refsLt], hh⟩, ht]
theorem set_app {α : Type} {A B : List α} {i : Nat} {x : α} (h : i < A.length) : (A ++ B).set i x = A.set i x ++ B := List.set_append_left _ _ h
theorem get_app {α : Type} {A B : List α} {i : Nat} (h : i < A.length) : (A ++ B)[i]? = A[i]? := List.getElem?_append_left h
end Go.Abs
namespace Go.Abs
theorem leave_two {H M : Heap} {a b : AV} {d d' : Dat} (ha : toDat a = some d) (hb : toDat b = some d') : leave H false (.tup [a, b]) (H ++ M) = (.tup [.im d, .im d'], H) := by
 unfold leave
 have e : (if (false : Bool) = true then AV.tup [a, b] else degrade (.tup [a, b])) = .tup [.im d, .im d'] := by simp [degrade, degrade1, toDat, ha, hb]
 rw [e, if_pos ⟨by simp only [refsLt,refsLts,Bool.and_self], heldIn_app H M⟩, htake]
theorem leave_one {H M : Heap} {a : AV} {d : Dat} (ha : toDat a = some d) : leave H false a (H ++ M) = (.im d, H) := by
 unfold leave
 have e : (if (false : Bool) = true then a else degrade a) = .im d := by simp [degrade, ha]
 rw [e, if_pos ⟨by simp only [refsLt], heldIn_app H M⟩, htake]
def Gath (ty : TypeId) (s n : Nat) (v : AV) (H : Heap) (es : List (List Dat)) : Prop :=
 (es = [] ∧ v = .nils) ∨ (es ≠ [] ∧ ∃ tok, n ≤ tok ∧ v = .asl s es tok ∧ H[tok]? = some (.hw ty es.length))
theorem Gath.more {ty : TypeId} {s n : Nat} {v : AV} {H : Heap} {es : List (List Dat)} (h : Gath ty s n v H es) (M : Heap) : Gath ty s n v (H ++ M) es := by
 rcases h with h | ⟨h1, tok, h2, h3, h4⟩
 ·exact .inl h
 ·exact .inr ⟨h1, tok, h2, h3, by rw [List.getElem?_append_left (List.getElem?_eq_some_iff.1 h4).1]; exact h4⟩
theorem Gath.dat {ty : TypeId} {s n : Nat} {v : AV} {H : Heap} {es : List (List Dat)} (h : Gath ty s n v H es) : toDat v = some (.sl (if es = [] then 0 else s) es) := by
 rcases h with ⟨rfl, rfl⟩ | ⟨h1, tok, _, rfl, _⟩
 ·simp [toDat]
 ·simp [toDat, h1]
theorem Gath.push {ty : TypeId} {s bytes : Nat} {v : AV} {H0 M : Heap} {es : List (List Dat)} (h : Gath ty s H0.length v (H0 ++ M) es) (y : List Dat) (hb : (es.length + 1) * bytes ≤ 2 ^ 46) (hb0 : 0 < bytes) :
  ∃ v' M', appendA (H0 ++ M) ty bytes s v [y] = some (v', H0 ++ M') ∧ Gath ty s H0.length v' (H0 ++ M') (es ++ [y]) ∧ cellOk v' = true ∧ M.length ≤ M'.length := by
 rcases h with ⟨rfl, rfl⟩ | ⟨h1, tok, h2, rfl, h4⟩
 ·refine ⟨.asl s [y] (H0 ++ M).length, M ++ [.hw ty 1], ?_, .inr ⟨by simp, (H0 ++ M).length, by simp, rfl, ?_⟩, rfl, by simp⟩
  ·simp only [appendA,List.length_nil,Nat.zero_add]
   rw [if_pos ⟨by simpa using hb, hb0⟩, List.append_assoc]
  ·rw [← List.append_assoc, hget0]; rfl
 ·have hlt := (List.getElem?_eq_some_iff.1 h4).1
  refine ⟨.asl s (es ++ [y]) tok, M.set (tok - H0.length) (.hw ty (es.length + 1)), ?_, .inr ⟨by simp, tok, h2, rfl, ?_⟩, rfl, by simp⟩
  ·simp only [appendA,h4,List.length_cons,List.length_nil,Nat.zero_add]
   rw [if_pos ⟨trivial, trivial, hb, hb0, trivial⟩, List.set_append_right _ _ h2]
  ·rw [← List.set_append_right _ _ h2, List.getElem?_set_self hlt]
   simp
end Go.Abs
end
section
set_option linter.unusedVariables false
set_option linter.unusedSimpArgs false
namespace Go.Abs
def Hold (tB : TypeId) (tb : TypeId) (n : Nat) (H : Heap) (id : Nat) (txt : List UInt8) : Prop :=
 ∃ a0 v, H[id]? = some (.obj (some (tB, 2)) [[a0, v]]) ∧ (a0 = .im .nilp ∨ a0 = .ptr id 0 0) ∧ Gath tb 1 n v H (txt.map fun b => [byteDat b]) ∧ n ≤ H.length
def Keeps (n id : Nat) (H H' : Heap) : Prop := H.length ≤ H'.length ∧ (∀ i ty es, i ≠ id → H[i]? = some (.obj ty es) → H'[i]? = some (.obj ty es)) ∧ ∀ i, i < n → i < H.length → i ≠ id → H'[i]? = H[i]?
theorem Keeps.refl (n id : Nat) (H : Heap) : Keeps n id H H := ⟨Nat.le_refl _, fun _ _ _ _ h => h, fun _ _ _ _ => rfl⟩
theorem Keeps.trans {n id : Nat} {A B C : Heap} (h : Keeps n id A B) (k : Keeps n id B C) : Keeps n id A C :=
 ⟨Nat.le_trans h.1 k.1, fun i ty es hi hA => k.2.1 i ty es hi (h.2.1 i ty es hi hA), fun i hn hl hi => (k.2.2 i hn (Nat.lt_of_lt_of_le hl h.1) hi).trans (h.2.2 i hn hl hi)⟩
theorem Keeps.app {n id : Nat} {A B : Heap} (h : Keeps n id A B) (M : Heap) : Keeps n id A (B ++ M) :=
 ⟨by simp; have := h.1; omega, fun i ty es hi hA => by
  have := h.2.1 i ty es hi hA
  rw [List.getElem?_append_left (List.getElem?_eq_some_iff.1 this).1]; exact this, fun i hn hl hi => by
  rw [List.getElem?_append_left (by have := h.1; omega)]; exact h.2.2 i hn hl hi⟩
theorem Keeps.down {n id : Nat} {A M B : Heap} (h : Keeps n id (A ++ M) B) : Keeps n id A B :=
 ⟨by have := h.1; simp at this; omega, fun i ty es hi hA => h.2.1 i ty es hi (by rw [List.getElem?_append_left (List.getElem?_eq_some_iff.1 hA).1]; exact hA), fun i hn hl hi => by
  rw [h.2.2 i hn (by simp; omega) hi, List.getElem?_append_left hl]⟩
theorem Hold.more {tB tb : TypeId} {n : Nat} {H : Heap} {id : Nat} {txt : List UInt8} (h : Hold tB tb n H id txt) (M : Heap) : Hold tB tb n (H ++ M) id txt := by
 obtain ⟨a0, v, h1, h2, h3, h4⟩ := h
 exact ⟨a0, v, by rw [List.getElem?_append_left (List.getElem?_eq_some_iff.1 h1).1]; exact h1, h2, h3.more M, by simp; omega⟩
theorem gath_bytes {tb : TypeId} {n : Nat} {v : AV} {H : Heap} {txt : List UInt8} (hn : n ≤ H.length) (h : Gath tb 1 n v H (txt.map fun b => [byteDat b])) (s : List UInt8) (hb : txt.length + s.length ≤ 2 ^ 46) :
  ∃ (v' : AV) (H' : Heap), appendA H tb 1 1 v (s.map fun b => [byteDat b]) = some (v', H') ∧ Gath tb 1 n v' H' ((txt ++ s).map fun b => [byteDat b]) ∧ cellsOf v' = [v'] ∧ cellOk v' = true ∧ H.length ≤ H'.length ∧ ∀ (i : Nat) (ty : Option (TypeId × Nat)) (es : List (List AV)), (H[i]? = some (HO.obj ty es) → H'[i]? = some (HO.obj ty es)) ∧ (i < n → H'[i]? = H[i]?) := by
 rcases h with ⟨hes, rfl⟩ | ⟨hne, tok, hnt, rfl, htok⟩
 ·have : txt = [] := by simpa using hes
  subst this
  cases s with
  | nil => exact ⟨.nils, H, by simp only [List.map_nil,appendA], .inl ⟨rfl, rfl⟩, rfl, rfl, Nat.le_refl _, fun _ _ _ => ⟨fun h => h, fun _ => rfl⟩⟩
  | cons b s =>
   refine ⟨.asl 1 ((b :: s).map fun b => [byteDat b]) H.length, H ++ [.hw tb (s.length + 1)], ?_, .inr ⟨by simp, H.length, hn, rfl, by simp⟩, rfl, rfl, by simp, fun i ty es => ⟨fun hi => ?_, fun hi => List.getElem?_append_left (by omega)⟩⟩
   ·simp only [appendA,List.map_cons,List.length_map]
    rw [if_pos ⟨by simp at hb; omega, by decide⟩]
   ·rw [List.getElem?_append_left (List.getElem?_eq_some_iff.1 hi).1]; exact hi
 ·have hlt := (List.getElem?_eq_some_iff.1 htok).1
  refine ⟨.asl 1 ((txt ++ s).map fun b => [byteDat b]) tok, H.set tok (.hw tb (txt.length + s.length)), ?_, .inr ⟨?_, tok, hnt, rfl, ?_⟩, rfl, rfl, by simp, fun i ty es => ⟨fun hi => ?_, fun hi => List.getElem?_set_ne (by omega)⟩⟩
  ·simp only [appendA,htok,List.length_map]
   rw [if_pos ⟨trivial, trivial, by omega, by decide, trivial⟩, List.map_append]
  ·simp at hne ⊢; intro h; exact absurd h hne
  ·rw [List.getElem?_set_self hlt]; simp
  ·have : tok ≠ i := fun e => by subst e; rw [htok] at hi; simp at hi
   rw [List.getElem?_set_ne this]; exact hi
end Go.Abs
namespace Go.Abs
theorem Gath.set_obj {ty : TypeId} {s n : Nat} {v : AV} {H : Heap} {es : List (List Dat)} (h : Gath ty s n v H es) {id : Nat} {t : Option (TypeId × Nat)} {xs : List (List AV)} (hid : H[id]? = some (HO.obj t xs)) (x : HO) : Gath ty s n v (H.set id x) es := by
 rcases h with h | ⟨h1, tok, h2, h3, h4⟩
 ·exact .inl h
 ·refine .inr ⟨h1, tok, h2, h3, ?_⟩
  have : id ≠ tok := fun e => by subst e; rw [hid] at h4; simp at h4
  rw [List.getElem?_set_ne this]; exact h4
theorem Keeps.set {n id : Nat} {A B : Heap} (h : Keeps n id A B) (x : HO) : Keeps n id A (B.set id x) :=
 ⟨by simpa using h.1, fun i ty es hi hA => by
  rw [List.getElem?_set_ne (fun e => hi e.symm)]; exact h.2.1 i ty es hi hA, fun i hn hl hi => by
  rw [List.getElem?_set_ne (fun e => hi e.symm)]; exact h.2.2 i hn hl hi⟩
end Go.Abs
namespace Go.Abs
theorem thenL_ex {R : Type} {o : Option Out} {K : AEx → List AV → Heap → Option R} {Q : AEx → List AV → Heap → Prop} (G : Option R → Prop) (h : ∃ e tm H, o = some (e, tm, H) ∧ Q e tm H) (hK : ∀ e tm H, Q e tm H → G (K e tm H)) : G (thenL o K) := by
 obtain ⟨e, tm, H, rfl, hq⟩ := h
 exact hK e tm H hq
end Go.Abs
end
section
set_option linter.unusedVariables false
set_option linter.unusedSimpArgs false
namespace Go.Abs
mutual
def sh (n : Nat) : AV → AV
 | .im d => .im d
 | .nils => .nils
 | .em => .em
 | .asl s es tok => .asl s es (n + tok)
 | .ms s id off k => .ms s (n + id) off k
 | .ptr id i j => .ptr (n + id) i j
 | .agg cs => .agg (shs n cs)
 | .tup cs => .tup (shs n cs)
 | .clo f cs => .clo f (shs n cs)
 | .any => .any
def shs (n : Nat) : List AV → List AV
 | [] => []
 | a :: l => sh n a :: shs n l
end
theorem shs_map (n : Nat) : ∀ l : List AV, shs n l = l.map (sh n)
 | [] => rfl
 | a :: l => by simp only [shs,List.map_cons,shs_map n l]
def shO (n : Nat) : HO → HO
 | .obj t es => .obj t (es.map fun e => e.map (sh n))
 | .hw t k => .hw t k
 | .it s p => .it s p
 | .dead => .dead
def shH (n : Nat) (H : Heap) : Heap := H.map (shO n)
mutual
def closedA : AV → Bool
 | .im _ => true
 | .nils => true
 | .em => true
 | .asl .. => false
 | .ms .. => false
 | .ptr .. => false
 | .agg cs => closedAs cs
 | .tup cs => closedAs cs
 | .clo _ cs => closedAs cs
 | .any => true
def closedAs : List AV → Bool
 | [] => true
 | a :: l => closedA a && closedAs l
end
section
variable {n : Nat}
mutual
theorem sh_closed : ∀ {a : AV}, closedA a = true → sh n a = a
 | .im _, _ => rfl
 | .nils, _ => rfl
 | .em, _ => rfl
 | .agg cs, h => by simp only [closedA] at h; simp only [sh,shs_closed h]
 | .tup cs, h => by simp only [closedA] at h; simp only [sh,shs_closed h]
 | .clo f cs, h => by simp only [closedA] at h; simp only [sh,shs_closed h]
 | .any, _ => rfl
theorem shs_closed : ∀ {l : List AV}, closedAs l = true → shs n l = l
 | [], _ => rfl
 | a :: l, h => by
  simp only [closedAs,Bool.and_eq_true] at h
  simp only [shs,sh_closed h.1,shs_closed h.2]
end
theorem sh_cells (a : AV) : cellsOf (sh n a) = (cellsOf a).map (sh n) := by
 cases a <;> simp [sh, cellsOf, shs_map]
 rename_i d
 cases d <;> simp [sh]
theorem sh_cellOk (a : AV) : cellOk (sh n a) = cellOk a := by
 cases a <;> simp [sh, cellOk]
theorem sh_toIms : ∀ cs : List AV, toIms (cs.map (sh n)) = toIms cs
 | [] => rfl
 | a :: l => by
  have ih := sh_toIms l
  cases a <;> simp [sh, toIms, ih]
theorem sh_mkAgg (cs : List AV) : mkAgg (cs.map (sh n)) = sh n (mkAgg cs) := by
 unfold mkAgg
 rw [sh_toIms]
 cases toIms cs <;> simp [sh, shs_map]
mutual
theorem sh_toDat : ∀ a : AV, toDat (sh n a) = toDat a
 | .im d => rfl
 | .nils => rfl
 | .em => rfl
 | .asl .. => rfl
 | .ms .. => rfl
 | .ptr .. => rfl
 | .agg cs => by simp only [sh,toDat,sh_toDats cs]
 | .tup cs => rfl
 | .clo f cs => rfl
 | .any => rfl
theorem sh_toDats : ∀ l : List AV, toDats (shs n l) = toDats l
 | [] => rfl
 | a :: l => by simp only [shs,toDats,sh_toDat a,sh_toDats l]
end
theorem sh_toDatss : ∀ l : List (List AV), toDatss (l.map fun e => e.map (sh n)) = toDatss l
 | [] => rfl
 | a :: l => by
  have := sh_toDats (n := n) a
  rw [shs_map] at this
  simp only [List.map_cons,toDatss,this,sh_toDatss l]
theorem all_cellOk (l : List AV) : (l.map (sh n)).all cellOk = l.all cellOk := by
 rw [List.all_map]
 congr 1
 funext a
 exact sh_cellOk a
variable {H0 H : Heap}
theorem shH_get (hn : n = H0.length) (id : Nat) : (H0 ++ shH n H)[n + id]? = (H[id]?).map (shO n) := by
 subst hn
 rw [hget]
 simp [shH]
theorem shH_set (hn : n = H0.length) (id : Nat) (o : HO) : (H0 ++ shH n H).set (n + id) (shO n o) = H0 ++ shH n (H.set id o) := by
 subst hn
 rw [hset]
 simp [shH]
theorem shH_app (o : HO) : H0 ++ shH n H ++ [shO n o] = H0 ++ shH n (H ++ [o]) := by
 simp [shH]
theorem shH_len (hn : n = H0.length) : (H0 ++ shH n H).length = n + H.length := by
 simp [shH, hn]
theorem map_setAt : ∀ (e : List AV) (j : Nat) (cs : List AV), (setAt e j cs).map (sh n) = setAt (e.map (sh n)) j (cs.map (sh n))
 | e, j, [] => rfl
 | e, j, c :: cs => by
  simp only [setAt,List.map_cons]
  rw [map_setAt (e.set j c) (j + 1) cs, List.map_set]
theorem sh_load (hn : n = H0.length) {k : Option Nat} {a v : AV} (h : loadAt H k a = some v) : loadAt (H0 ++ shH n H) k (sh n a) = some (sh n v) := by
 unfold loadAt at h
 split at h
 ·rename_i cs
  simp only [sh,loadAt]
  split at h
  ·split at h
   ·rename_i d hd
    injection h with h; subst h
    first | rfl | (rw [hd]; rfl)
   ·simp at h
  ·split at h
   ·rename_i hk
    rw [if_pos hk]
    injection h with h; subst h
    rfl
   ·simp at h
 ·rename_i id i j
  simp only [sh,loadAt,shH_get hn]
  split at h
  ·rename_i ty es he
   rw [he]
   simp only [Option.map_some,shO]
   split at h
   ·rename_i e hi
    rw [List.getElem?_map, hi]
    simp only [Option.map_some]
    split at h
    ·rw [List.getElem?_map, h]; rfl
    ·split at h
     ·rename_i hk
      rw [List.length_map, if_pos hk]
      injection h with h; subst h
      rw [← List.map_drop, ← List.map_take, sh_mkAgg]
     ·simp at h
   ·simp at h
  ·simp at h
 ·simp at h
theorem sh_store (hn : n = H0.length) {k : Nat} {a v : AV} {H' : Heap} (h : storeAt H k a v = some H') : storeAt (H0 ++ shH n H) k (sh n a) (sh n v) = some (H0 ++ shH n H') := by
 unfold storeAt at h
 split at h
 ·rename_i id i j
  simp only [sh,storeAt,shH_get hn]
  split at h
  ·rename_i ty es he
   rw [he]
   simp only [Option.map_some,shO]
   split at h
   ·rename_i e hi
    rw [List.getElem?_map, hi]
    simp only [Option.map_some]
    simp only at h
    split at h
    ·rename_i hc
     injection h with h; subst h
     rw [sh_cells, if_pos (by rw [List.length_map, List.length_map, all_cellOk]; exact hc)]
     rw [← shH_set hn]
     simp only [shO,List.map_set,map_setAt]
    ·simp at h
   ·simp at h
  ·simp at h
 ·simp at h
theorem sh_elems (hn : n = H0.length) {s : Nat} {a : AV} {ys : List (List Dat)} (h : elems H s a = some ys) : elems (H0 ++ shH n H) s (sh n a) = some ys := by
 unfold elems at h
 split at h
 ·exact h
 ·exact h
 ·exact h
 ·exact h
 ·exact h
 ·rename_i s' id off k
  simp only [sh,elems,shH_get hn]
  split at h
  ·rename_i hs
   rw [if_pos hs]
   split at h
   ·rename_i ty es he
    rw [he]
    simp only [Option.map_some,shO,List.length_map]
    split at h
    ·rename_i hk
     rw [if_pos hk, ← List.map_drop, ← List.map_take, sh_toDatss]
     exact h
    ·simp at h
   ·simp at h
  ·simp at h
 ·simp at h
theorem sh_append (hn : n = H0.length) {ty : TypeId} {bytes s : Nat} {a v : AV} {ys : List (List Dat)} {H' : Heap} (h : appendA H ty bytes s a ys = some (v, H')) : appendA (H0 ++ shH n H) ty bytes s (sh n a) ys = some (sh n v, H0 ++ shH n H') := by
 unfold appendA at h
 split at h
 ·simp only [sh,appendA]
  split at h
  ·simp only [Option.some.injEq,Prod.mk.injEq] at h
   obtain ⟨rfl, rfl⟩ := h
   rfl
  ·split at h
   ·rename_i hc
    simp only [Option.some.injEq,Prod.mk.injEq] at h
    obtain ⟨rfl, rfl⟩ := h
    rw [if_pos hc, shH_len hn, ← shH_app]
    rfl
   ·simp at h
 ·simp only [sh,appendA]
  split at h
  ·simp only [Option.some.injEq,Prod.mk.injEq] at h
   obtain ⟨rfl, rfl⟩ := h
   rfl
  ·split at h
   ·rename_i hc
    simp only [Option.some.injEq,Prod.mk.injEq] at h
    obtain ⟨rfl, rfl⟩ := h
    rw [if_pos hc, shH_len hn, ← shH_app]
    rfl
   ·simp at h
 ·rename_i s' es tok
  simp only [sh,appendA,shH_get hn]
  split at h
  ·rename_i ty' k he
   rw [he]
   simp only [Option.map_some,shO]
   split at h
   ·rename_i hc
    simp only [Option.some.injEq,Prod.mk.injEq] at h
    obtain ⟨rfl, rfl⟩ := h
    rw [if_pos hc, ← shH_set hn]
    rfl
   ·simp at h
  ·simp at h
 ·simp at h
theorem sh_imss (ys : List (List Dat)) : (imss ys).map (fun e => e.map (sh n)) = imss ys := by
 unfold imss
 rw [List.map_map]
 apply List.map_congr_left
 intro e _
 simp only [Function.comp,List.map_map]
 apply List.map_congr_left
 intro d _
 rfl
theorem sh_appendM (hn : n = H0.length) {bytes s : Nat} {a v : AV} {ys : List (List Dat)} {H' : Heap} (h : appendMA H bytes s a ys = some (v, H')) : appendMA (H0 ++ shH n H) bytes s (sh n a) ys = some (sh n v, H0 ++ shH n H') := by
 unfold appendMA at h
 cases ys with
 | nil =>
  simp only at h
  split at h
  ·simp only [Option.some.injEq,Prod.mk.injEq] at h
   obtain ⟨rfl, rfl⟩ := h
   rfl
  ·simp only [Option.some.injEq,Prod.mk.injEq] at h
   obtain ⟨rfl, rfl⟩ := h
   rfl
  ·simp at h
 | cons y ys =>
  simp only at h
  split at h
  ·split at h
   ·rename_i hc
    simp only [Option.some.injEq,Prod.mk.injEq] at h
    obtain ⟨rfl, rfl⟩ := h
    simp only [sh,appendMA]
    rw [if_pos hc, shH_len hn]
    simp [shH, shO, sh_imss]
   ·simp at h
  ·rename_i s' id off k
   simp only [sh,appendMA,shH_get hn]
   split at h
   ·rename_i es he
    rw [he]
    simp only [Option.map_some,shO,List.length_map]
    split at h
    ·rename_i hc
     simp only [Option.some.injEq,Prod.mk.injEq] at h
     obtain ⟨rfl, rfl⟩ := h
     have hd : (H0 ++ shH n H).set (n + id) .dead = H0 ++ shH n (H.set id .dead) := shH_set hn id .dead
     rw [if_pos hc, shH_len hn, hd]
     simp [shH, shO, sh, sh_imss, List.map_take, List.map_drop]
    ·simp at h
   ·simp at h
  ·simp at h
theorem sh_fillA : ∀ {parts : List (Nat × Nat × AV)} {cells cs : List AV}, fillA cells parts = some cs → fillA (cells.map (sh n)) (parts.map fun p => (p.1, p.2.1, sh n p.2.2)) = some (cs.map (sh n))
 | [], cells, cs, h => by
  simp only [fillA] at h
  injection h with h; subst h
  rfl
 |(off, size, v) :: rest, cells, cs, h => by
  simp only [fillA] at h
  split at h
  ·rename_i hc
   simp only [List.map_cons,fillA,sh_cells]
   rw [if_pos (by rw [List.length_map, List.length_map, all_cellOk]; exact hc), ← map_setAt]
   exact sh_fillA h
  ·simp at h
theorem sh_fillE {s : Nat} : ∀ {parts : List (Nat × AV)} {es cs : List (List AV)}, fillE s es parts = some cs → fillE s (es.map fun e => e.map (sh n)) (parts.map fun p => (p.1, sh n p.2)) = some (cs.map fun e => e.map (sh n))
 | [], es, cs, h => by
  simp only [fillE] at h
  injection h with h; subst h
  rfl
 |(i, v) :: rest, es, cs, h => by
  simp only [fillE] at h
  split at h
  ·rename_i hc
   simp only [List.map_cons,fillE,sh_cells]
   rw [if_pos (by rw [List.length_map, List.length_map, all_cellOk]; exact hc)]
   have := sh_fillE h
   rwa [List.map_set] at this
  ·simp at h
theorem sh_part {k : Option Nat} {cs : List AV} {off : Nat} {v : AV} (h : partA k cs off = some v) : partA k (cs.map (sh n)) off = some (sh n v) := by
 cases k with
 | none =>
  simp only [partA] at h ⊢
  rw [List.getElem?_map, h]; rfl
 | some m =>
  simp only [partA] at h ⊢
  split at h
  ·rename_i hc
   injection h with h; subst h
   rw [List.length_map, if_pos hc, ← List.map_drop, ← List.map_take, sh_mkAgg]
  ·simp at h
theorem sh_aggCells {a : AV} {cs : List AV} (h : aggCells a = some cs) : aggCells (sh n a) = some (cs.map (sh n)) := by
 unfold aggCells at h
 split at h
 ·injection h with h; subst h
  simp [sh, aggCells]
 ·injection h with h; subst h
  simp [sh, aggCells, shs_map]
 ·simp at h
theorem sh_bin {op : BinOp} {a b v : AV} (h : binA op a b = some v) : binA op (sh n a) (sh n b) = some (sh n v) := by
 have hv : sh n v = v ∧ sh n a = a ∧ sh n b = b := by
  unfold binA at h
  split at h
  ·refine ⟨?_, rfl, rfl⟩
   repeat' (split at h)
   all_goals first | (injection h with h; subst h; rfl) | (simp at h)
  ·refine ⟨?_, rfl, rfl⟩
   repeat' (split at h)
   all_goals first | (injection h with h; subst h; rfl) | (simp at h)
  ·refine ⟨?_, rfl, rfl⟩
   repeat' (split at h)
   all_goals first | (injection h with h; subst h; rfl) | (simp at h)
  ·refine ⟨?_, rfl, rfl⟩
   repeat' (split at h)
   all_goals first | (injection h with h; subst h; rfl) | (simp at h)
  ·simp at h
 rw [hv.1, hv.2.1, hv.2.2]; exact h
theorem sh_int (a : AV) : intOfA (sh n a) = intOfA a := by
 cases a <;> rfl
theorem sh_idx (a : AV) (k : Nat) : idx (sh n a) k = idx a k := by
 unfold idx
 rw [sh_int]
theorem sh_bool {op : BinOp} {a b v : AV} (h : binBool op a b = some v) : binBool op (sh n a) (sh n b) = some (sh n v) := by
 have hv : sh n v = v ∧ sh n a = a ∧ sh n b = b := by
  unfold binBool at h
  split at h
  ·refine ⟨?_, rfl, rfl⟩
   split at h
   all_goals first | (injection h with h; subst h; rfl) | (simp at h)
  ·simp at h
 rw [hv.1, hv.2.1, hv.2.2]; exact h
theorem sh_binN {op : BinOp} {a v : AV} (h : binNil op a = some v) : binNil op (sh n a) = some (sh n v) := by
 have ha : nilA (sh n a) = nilA a := by
  cases a <;> try rfl
  rename_i s es tok
  cases es <;> rfl
 have hv : sh n v = v := by
  unfold binNil at h
  repeat' (split at h)
  all_goals first | (injection h with h; subst h; rfl) | (simp at h)
 unfold binNil at h ⊢
 rw [ha, hv]; exact h
theorem sh_binZ {i : Bool} {op : BinOp} {a b v : AV} (h : binZero i op a b = some v) : binZero i op (sh n a) (sh n b) = some (sh n v) := by
 have hv : sh n v = v := by
  unfold binZero at h
  repeat' (split at h)
  all_goals first | (injection h with h; subst h; rfl) | (simp at h)
 have hz : ∀ z, nilZ i a b = some z → nilZ i (sh n a) (sh n b) = some z := fun z hz => by
  unfold nilZ at hz
  split at hz <;> first | (injection hz with hz; subst hz; rfl) | (cases hz)
 unfold binZero at h
 split at h
 ·rename_i z hzz
  unfold binZero
  rw [hz z hzz, hv]; exact h
 ·cases h
theorem sh_binS {op : BinOp} {ks : List Nat} {a b v : AV} (h : binStru op ks a b = some v) : binStru op ks (sh n a) (sh n b) = some (sh n v) := by
 have hv : sh n v = v := by
  unfold binStru at h
  repeat' (split at h)
  all_goals first | (injection h with h; subst h; rfl) | (simp at h)
 unfold binStru at h ⊢
 rw [sh_toDat, sh_toDat, hv]; exact h
theorem sh_un {op : UnOp} {a v : AV} (h : unA op a = some v) : unA op (sh n a) = some (sh n v) := by
 have hv : sh n v = v ∧ sh n a = a := by
  unfold unA at h
  split at h
  all_goals first
   |(refine ⟨?_, rfl⟩
     repeat' (split at h)
     all_goals first | (injection h with h; subst h; rfl) | (simp at h))
   |(simp at h)
 rw [hv.1, hv.2]; exact h
theorem sh_min {a b v : AV} (h : minA a b = some v) : minA (sh n a) (sh n b) = some (sh n v) := by
 unfold minA at h
 split at h
 ·injection h with h; subst h; rfl
 ·simp at h
theorem sh_max {a b v : AV} (h : maxA a b = some v) : maxA (sh n a) (sh n b) = some (sh n v) := by
 unfold maxA at h
 split at h
 ·injection h with h; subst h; rfl
 ·simp at h
theorem sh_bound {ρ : AOpd → AV} (d : Nat) (x : Option AOpd) : boundA (fun x => sh n (ρ x)) d x = boundA ρ d x := by
 cases x with
 | none => rfl
 | some x => simp only [boundA,sh_int]
theorem sh_slice {s : Nat} {x v : AV} {lo : Nat} {hi : Nat → Option Nat} {mx : Option (Option Nat)} (h : sliceA s x lo hi mx = some v) : sliceA s (sh n x) lo hi mx = some (sh n v) := by
 unfold sliceA at h
 split at h
 all_goals first
  |(simp only [sh,sliceA]
    repeat' (split at h)
    all_goals first
     |(injection h with h; subst h; simp_all [sh])
     |(simp at h))
  |(simp at h)
theorem sh_len (a : AV) : lenA (sh n a) = lenA a := by
 cases a <;> rfl
end
end Go.Abs
end
section
set_option linter.unusedVariables false
set_option linter.unusedSimpArgs false
namespace Go.Abs
def closedOpd : AOpd → Bool
 | .t _ => true
 | .c a => closedA a
def closedOp (op : AOp) : Bool := (opnds op).all closedOpd && match op with
 | .alloc _ z => closedAs z
 | .build z _ => closedAs z
 | .bslice _ _ _ z _ => closedAs z
 | .bsliceA _ _ _ z _ => closedAs z
 | .mkslice _ _ z _ _ => closedAs z
 | .clear _ z _ => closedAs z
 | _ => true
section
variable {n : Nat} {H0 H : Heap}
theorem map_closed {z : List AV} (h : closedAs z = true) : z.map (sh n) = z := by
 rw [← shs_map, shs_closed h]
theorem aop_sh (hn : n = H0.length) {ρ : AOpd → AV} {op : AOp} (hc : closedOp op = true) {v : AV} {H' : Heap} (h : aop H ρ op = some (v, H')) :
  aop (H0 ++ shH n H) (fun x => sh n (ρ x)) op = some (sh n v, H0 ++ shH n H') := by
 unfold closedOp at hc
 rw [Bool.and_eq_true] at hc
 have hz := hc.2
 cases op <;> simp only [aop] at h ⊢ <;> simp only at hz
 case move x => simp only [Option.some.injEq,Prod.mk.injEq] at h; obtain ⟨rfl, rfl⟩ := h; rfl
 case pick c a b =>
  cases hcc : ρ c <;> rw [hcc] at h <;> try (simp at h; done)
  rename_i d
  cases d <;> try (simp at h; done)
  simp only [sh] at h ⊢
  split at h <;> simp_all
 case alloc ty z =>
  simp only [Option.some.injEq,Prod.mk.injEq] at h
  obtain ⟨rfl, rfl⟩ := h
  rw [shH_len hn, ← shH_app]
  simp [sh, shO, map_closed hz]
 case box ty x =>
  split at h
  ·rename_i hk
   simp only [Option.some.injEq,Prod.mk.injEq] at h
   obtain ⟨rfl, rfl⟩ := h
   rw [sh_cells, all_cellOk, if_pos hk, shH_len hn, ← shH_app]
   simp [sh, shO]
  ·simp at h
 case build z parts =>
  split at h
  ·rename_i cs hf
   simp only [Option.some.injEq,Prod.mk.injEq] at h
   obtain ⟨rfl, rfl⟩ := h
   have := sh_fillA (n := n) hf
   rw [map_closed hz, List.map_map] at this
   have e : (parts.map fun p => (p.1, p.2.1, sh n (ρ p.2.2))) = parts.map ((fun p => (p.1, p.2.1, sh n p.2.2)) ∘ fun p => (p.1, p.2.1, ρ p.2.2)) := rfl
   rw [e, this]
   simp only [sh_mkAgg]
  ·simp at h
 case bsliceA ty s k z parts =>
  split at h
  ·rename_i es hf
   have := sh_fillE (n := n) hf
   rw [List.map_map, List.map_replicate, map_closed hz] at this
   have e : (parts.map fun p => (p.1, sh n (ρ p.2))) = parts.map ((fun p => (p.1, sh n p.2)) ∘ fun p => (p.1, ρ p.2)) := rfl
   rw [e, this]
   simp only
   rw [sh_toDatss]
   split at h
   ·rename_i ds hds
    split at h
    ·rename_i hk
     simp only [Option.some.injEq,Prod.mk.injEq] at h
     obtain ⟨rfl, rfl⟩ := h
     rw [if_pos hk, shH_len hn, ← shH_app]
     simp [sh, shO]
    ·simp at h
   ·simp at h
  ·simp at h
 case bslice mu s k z parts =>
  split at h
  ·rename_i es hf
   have := sh_fillE (n := n) hf
   rw [List.map_map, List.map_replicate, map_closed hz] at this
   have e : (parts.map fun p => (p.1, sh n (ρ p.2))) = parts.map ((fun p => (p.1, sh n p.2)) ∘ fun p => (p.1, ρ p.2)) := rfl
   rw [e, this]
   simp only
   split at h
   ·rename_i hm
    simp only [Option.some.injEq,Prod.mk.injEq] at h
    obtain ⟨rfl, rfl⟩ := h
    rw [if_pos hm, shH_len hn, ← shH_app]
    simp [sh, shO]
   ·rename_i hm
    rw [if_neg hm, sh_toDatss]
    split at h
    ·rename_i hk0
     simp only [Option.some.injEq,Prod.mk.injEq] at h
     obtain ⟨rfl, rfl⟩ := h
     rw [if_pos hk0]; rfl
    rename_i hk0
    rw [if_neg hk0]
    split at h
    ·rename_i ds hd
     simp only [Option.some.injEq,Prod.mk.injEq] at h
     obtain ⟨rfl, rfl⟩ := h
     first | rfl | (rw [hd]; rfl)
    ·simp at h
  ·simp at h
 case load k x =>
  split at h
  ·rename_i u hl
   simp only [Option.some.injEq,Prod.mk.injEq] at h
   obtain ⟨rfl, rfl⟩ := h
   rw [sh_load hn hl]
  ·simp at h
 case store k x v =>
  split at h
  ·rename_i u hl
   simp only [Option.some.injEq,Prod.mk.injEq] at h
   obtain ⟨rfl, rfl⟩ := h
   rw [sh_store hn hl]
   rfl
  ·simp at h
 case nilCheck x =>
  split at h
  all_goals first
   |(rename_i hx
     simp only [Option.some.injEq,Prod.mk.injEq] at h
     obtain ⟨rfl, rfl⟩ := h
     rw [hx]; rfl)
   |(simp at h)
 case bin op x y =>
  split at h
  ·rename_i u hl
   simp only [Option.some.injEq,Prod.mk.injEq] at h
   obtain ⟨rfl, rfl⟩ := h
   rw [sh_bin hl]
  ·simp at h
 case binB op x y =>
  split at h
  ·rename_i u hl
   simp only [Option.some.injEq,Prod.mk.injEq] at h
   obtain ⟨rfl, rfl⟩ := h
   rw [sh_bool hl]
  ·simp at h
 case binN op x y =>
  split at h
  ·rename_i hy
   rw [hy]
   split at h
   ·rename_i u hl
    simp only [Option.some.injEq,Prod.mk.injEq] at h
    obtain ⟨rfl, rfl⟩ := h
    simp only [sh]
    rw [sh_binN hl]
   ·simp at h
  ·simp at h
 case binZ i op x y =>
  split at h
  ·rename_i u hl
   simp only [Option.some.injEq,Prod.mk.injEq] at h
   obtain ⟨rfl, rfl⟩ := h
   rw [sh_binZ hl]
  ·simp at h
 case binS op ks x y =>
  split at h
  ·rename_i u hl
   simp only [Option.some.injEq,Prod.mk.injEq] at h
   obtain ⟨rfl, rfl⟩ := h
   rw [sh_binS hl]
  ·simp at h
 case un op x =>
  split at h
  ·rename_i u hl
   simp only [Option.some.injEq,Prod.mk.injEq] at h
   obtain ⟨rfl, rfl⟩ := h
   rw [sh_un hl]
  ·simp at h
 case min x y =>
  split at h
  ·rename_i u hl
   simp only [Option.some.injEq,Prod.mk.injEq] at h
   obtain ⟨rfl, rfl⟩ := h
   rw [sh_min hl]
  ·simp at h
 case max x y =>
  split at h
  ·rename_i u hl
   simp only [Option.some.injEq,Prod.mk.injEq] at h
   obtain ⟨rfl, rfl⟩ := h
   rw [sh_max hl]
  ·simp at h
 case lenSl x =>
  split at h
  ·rename_i u hl
   simp only [Option.some.injEq,Prod.mk.injEq] at h
   obtain ⟨rfl, rfl⟩ := h
   rw [sh_len, hl]; rfl
  ·simp at h
 case mkfunc f cap =>
  simp only [Option.some.injEq,Prod.mk.injEq] at h
  obtain ⟨rfl, rfl⟩ := h
  simp [sh, shs_map]
 case append ty bytes s x y =>
  split at h
  ·rename_i ys hl
   rw [sh_elems hn hl]
   exact sh_append hn h
  ·simp at h
 case appendM bytes s x y =>
  split at h
  ·rename_i ys hl
   rw [sh_elems hn hl]
   exact sh_appendM hn h
  ·simp at h
 case field off k x =>
  split at h
  ·rename_i cs hl
   rw [sh_aggCells hl]
   simp only
   split at h
   ·rename_i u hp
    simp only [Option.some.injEq,Prod.mk.injEq] at h
    obtain ⟨rfl, rfl⟩ := h
    rw [sh_part hp]
   ·simp at h
  ·simp at h
 case elemArr len size k x i =>
  split at h
  ·rename_i cs hl
   rw [sh_aggCells hl, sh_idx]
   simp only
   split at h
   ·rename_i m hm
    try rw [hm]
    try simp only
    split at h
    ·rename_i u hp
     simp only [Option.some.injEq,Prod.mk.injEq] at h
     obtain ⟨rfl, rfl⟩ := h
     rw [sh_part hp]
    ·simp at h
   ·simp at h
  ·simp at h
 case extract i x =>
  split at h
  ·rename_i cs hx
   split at h
   ·rename_i u hu
    simp only [Option.some.injEq,Prod.mk.injEq] at h
    obtain ⟨rfl, rfl⟩ := h
    rw [hx]
    simp only [sh,shs_map,List.getElem?_map,hu,Option.map_some]
   ·simp at h
  ·simp at h
 case slice s x lo hi mx =>
  have e : (fun m => boundA (fun x => sh n (ρ x)) m hi) = fun m => boundA ρ m hi := funext fun m => sh_bound m hi
  rw [sh_bound, e]
  cases mx with
  | none =>
   simp only at h ⊢
   split at h
   ·split at h
    ·rename_i u hu
     simp only [Option.some.injEq,Prod.mk.injEq] at h
     obtain ⟨rfl, rfl⟩ := h
     try simp only [*]
     rw [sh_slice hu]
    ·simp at h
   ·simp at h
  | some m =>
   simp only [sh_bound] at h ⊢
   split at h
   ·split at h
    ·rename_i u hu
     simp only [Option.some.injEq,Prod.mk.injEq] at h
     obtain ⟨rfl, rfl⟩ := h
     try simp only [*]
     rw [sh_slice hu]
    ·simp at h
   ·simp at h
 case mkslice bytes s z l c =>
  rw [sh_int, sh_int]
  split at h
  ·rename_i a b ha hb
   try rw [ha, hb]
   try simp only
   split at h
   ·rename_i hk
    simp only [Option.some.injEq,Prod.mk.injEq] at h
    obtain ⟨rfl, rfl⟩ := h
    rw [if_pos hk, shH_len hn, ← shH_app]
    simp [sh, shO, map_closed hz]
   ·simp at h
  ·simp at h
 case clear s z x =>
  cases hx : ρ x <;> rw [hx] at h <;> try (simp at h; done)
  ·rename_i d
   cases d <;> try (simp at h; done)
   rename_i s' es
   cases es <;> simp at h
   obtain ⟨rfl, rfl⟩ := h
   simp only [sh]
   rfl
  ·simp only [Option.some.injEq,Prod.mk.injEq] at h
   obtain ⟨rfl, rfl⟩ := h
   simp only [sh]
   rfl
  ·simp only [Option.some.injEq,Prod.mk.injEq] at h
   obtain ⟨rfl, rfl⟩ := h
   simp only [sh]
   rfl
  ·rename_i s' id off k
   simp only [sh,shH_get hn] at h ⊢
   split at h
   ·rename_i hs
    rw [if_pos hs]
    split at h
    ·rename_i ty es he
     rw [he]
     simp only [Option.map_some,shO,List.length_map]
     split at h
     ·rename_i hk
      simp only [Option.some.injEq,Prod.mk.injEq] at h
      obtain ⟨rfl, rfl⟩ := h
      rw [if_pos hk, ← shH_set hn]
      simp [shO, sh, undefA, shs, List.map_take, List.map_drop, map_closed hz]
     ·simp at h
    ·simp at h
   ·simp at h
 case rangeS x =>
  split at h
  ·rename_i b he
   simp only [Option.some.injEq,Prod.mk.injEq] at h
   obtain ⟨rfl, rfl⟩ := h
   rw [he, shH_len hn, ← shH_app]
   simp [sh, shO]
  ·simp at h
 case nextS x =>
  split at h
  ·rename_i id he
   rw [he]
   simp only [sh,shH_get hn]
   split at h
   ·rename_i b p ho
    rw [ho]
    simp only [Option.map_some,shO]
    split at h
    ·rename_i hp
     simp only [Option.some.injEq,Prod.mk.injEq] at h
     obtain ⟨rfl, rfl⟩ := h
     rw [if_pos hp, ← shH_set hn]
     simp [sh, shs, shO]
    ·rename_i hp
     simp only [Option.some.injEq,Prod.mk.injEq] at h
     obtain ⟨rfl, rfl⟩ := h
     rw [if_neg hp]
     simp [sh, shs]
   ·simp at h
  ·simp at h
 case fieldAddr off x =>
  split at h
  all_goals first
   |(rename_i hx
     simp only [Option.some.injEq,Prod.mk.injEq] at h
     obtain ⟨rfl, rfl⟩ := h
     rw [hx]; rfl)
   |(simp at h)
 case indexSl s x i =>
  cases hx : ρ x <;> rw [hx] at h <;> try (simp at h; done)
  ·rename_i d
   cases d <;> try (simp at h; done)
   simp only [sh,sh_idx] at h ⊢
   repeat' (split at h)
   all_goals first
    |(simp at h; done)
    |(simp only [Option.some.injEq,Prod.mk.injEq] at h
      obtain ⟨rfl, rfl⟩ := h
      simp_all [sh])
  ·simp only [sh,sh_idx] at h ⊢
   repeat' (split at h)
   all_goals first
    |(simp at h; done)
    |(simp only [Option.some.injEq,Prod.mk.injEq] at h
      obtain ⟨rfl, rfl⟩ := h
      simp_all [sh])
  ·simp only [sh,sh_idx] at h ⊢
   repeat' (split at h)
   all_goals first
    |(simp at h; done)
    |(simp only [Option.some.injEq,Prod.mk.injEq] at h
      obtain ⟨rfl, rfl⟩ := h
      simp_all [sh])
 case indexArr len size x i =>
  split at h
  ·rename_i id p j hx
   split at h
   ·rename_i m hm
    simp only [Option.some.injEq,Prod.mk.injEq] at h
    obtain ⟨rfl, rfl⟩ := h
    rw [hx]
    simp only [sh,sh_idx,hm]
   ·simp at h
  ·rename_i cs hx
   split at h
   ·rename_i m hm
    simp only [Option.some.injEq,Prod.mk.injEq] at h
    obtain ⟨rfl, rfl⟩ := h
    rw [hx]
    simp only [sh,sh_idx,hm]
   ·simp at h
  ·simp at h
 case indexStr x i =>
  cases hx : ρ x <;> rw [hx] at h <;> try (simp at h; done)
  all_goals
   first
   |(rename_i d
     cases d <;> try (simp at h; done)
     simp only [sh,sh_idx,sh_int,sh_bound] at h ⊢
     repeat' (split at h)
     all_goals first
      |(simp at h; done)
      |(simp only [Option.some.injEq,Prod.mk.injEq] at h
        obtain ⟨rfl, rfl⟩ := h
        simp_all [sh]))
   |(simp only [sh,sh_idx,sh_int,sh_bound] at h ⊢
     repeat' (split at h)
     all_goals first
      |(simp at h; done)
      |(simp only [Option.some.injEq,Prod.mk.injEq] at h
        obtain ⟨rfl, rfl⟩ := h
        simp_all [sh]))
 case i2i k x =>
  cases hx : ρ x <;> rw [hx] at h <;> try (simp at h; done)
  all_goals
   first
   |(rename_i d
     cases d <;> try (simp at h; done)
     simp only [sh,sh_idx,sh_int,sh_bound] at h ⊢
     repeat' (split at h)
     all_goals first
      |(simp at h; done)
      |(simp only [Option.some.injEq,Prod.mk.injEq] at h
        obtain ⟨rfl, rfl⟩ := h
        simp_all [sh]))
   |(simp only [sh,sh_idx,sh_int,sh_bound] at h ⊢
     repeat' (split at h)
     all_goals first
      |(simp at h; done)
      |(simp only [Option.some.injEq,Prod.mk.injEq] at h
        obtain ⟨rfl, rfl⟩ := h
        simp_all [sh]))
 case i2f k x =>
  cases hx : ρ x <;> rw [hx] at h <;> try (simp at h; done)
  all_goals
   first
   |(rename_i d
     cases d <;> try (simp at h; done)
     simp only [sh,sh_idx,sh_int,sh_bound] at h ⊢
     repeat' (split at h)
     all_goals first
      |(simp at h; done)
      |(simp only [Option.some.injEq,Prod.mk.injEq] at h
        obtain ⟨rfl, rfl⟩ := h
        simp_all [sh]))
   |(simp only [sh,sh_idx,sh_int,sh_bound] at h ⊢
     repeat' (split at h)
     all_goals first
      |(simp at h; done)
      |(simp only [Option.some.injEq,Prod.mk.injEq] at h
        obtain ⟨rfl, rfl⟩ := h
        simp_all [sh]))
 case f2i k x =>
  cases hx : ρ x <;> rw [hx] at h <;> try (simp at h; done)
  all_goals
   first
   |(rename_i d
     cases d <;> try (simp at h; done)
     simp only [sh,sh_idx,sh_int,sh_bound] at h ⊢
     repeat' (split at h)
     all_goals first
      |(simp at h; done)
      |(simp only [Option.some.injEq,Prod.mk.injEq] at h
        obtain ⟨rfl, rfl⟩ := h
        simp_all [sh]))
   |(simp only [sh,sh_idx,sh_int,sh_bound] at h ⊢
     repeat' (split at h)
     all_goals first
      |(simp at h; done)
      |(simp only [Option.some.injEq,Prod.mk.injEq] at h
        obtain ⟨rfl, rfl⟩ := h
        simp_all [sh]))
 case s2b x =>
  cases hx : ρ x <;> rw [hx] at h <;> try (simp at h; done)
  all_goals
   first
   |(rename_i d
     cases d <;> try (simp at h; done)
     simp only [sh,sh_idx,sh_int,sh_bound] at h ⊢
     repeat' (split at h)
     all_goals first
      |(simp at h; done)
      |(simp only [Option.some.injEq,Prod.mk.injEq] at h
        obtain ⟨rfl, rfl⟩ := h
        simp_all [sh]))
   |(simp only [sh,sh_idx,sh_int,sh_bound] at h ⊢
     repeat' (split at h)
     all_goals first
      |(simp at h; done)
      |(simp only [Option.some.injEq,Prod.mk.injEq] at h
        obtain ⟨rfl, rfl⟩ := h
        simp_all [sh]))
 case b2s x =>
  cases hx : ρ x <;> rw [hx] at h <;> try (simp at h; done)
  all_goals
   first
   |(rename_i d
     cases d <;> try (simp at h; done)
     simp only [sh,sh_idx,sh_int,sh_bound] at h ⊢
     repeat' (split at h)
     all_goals first
      |(simp at h; done)
      |(simp only [Option.some.injEq,Prod.mk.injEq] at h
        obtain ⟨rfl, rfl⟩ := h
        simp_all [sh]))
   |(simp only [sh,sh_idx,sh_int,sh_bound] at h ⊢
     repeat' (split at h)
     all_goals first
      |(simp at h; done)
      |(simp only [Option.some.injEq,Prod.mk.injEq] at h
        obtain ⟨rfl, rfl⟩ := h
        simp_all [sh]))
 case strId x =>
  cases hx : ρ x <;> rw [hx] at h <;> try (simp at h; done)
  all_goals
   first
   |(rename_i d
     cases d <;> try (simp at h; done)
     simp only [sh,sh_idx,sh_int,sh_bound] at h ⊢
     repeat' (split at h)
     all_goals first
      |(simp at h; done)
      |(simp only [Option.some.injEq,Prod.mk.injEq] at h
        obtain ⟨rfl, rfl⟩ := h
        simp_all [sh]))
   |(simp only [sh,sh_idx,sh_int,sh_bound] at h ⊢
     repeat' (split at h)
     all_goals first
      |(simp at h; done)
      |(simp only [Option.some.injEq,Prod.mk.injEq] at h
        obtain ⟨rfl, rfl⟩ := h
        simp_all [sh]))
 case i2s x =>
  cases hx : ρ x <;> rw [hx] at h <;> try (simp at h; done)
  all_goals
   first
   |(rename_i d
     cases d <;> try (simp at h; done)
     simp only [sh,sh_idx,sh_int,sh_bound] at h ⊢
     repeat' (split at h)
     all_goals first
      |(simp at h; done)
      |(simp only [Option.some.injEq,Prod.mk.injEq] at h
        obtain ⟨rfl, rfl⟩ := h
        simp_all [sh]))
   |(simp only [sh,sh_idx,sh_int,sh_bound] at h ⊢
     repeat' (split at h)
     all_goals first
      |(simp at h; done)
      |(simp only [Option.some.injEq,Prod.mk.injEq] at h
        obtain ⟨rfl, rfl⟩ := h
        simp_all [sh]))
 case sliceStr x lo hi =>
  cases hx : ρ x <;> rw [hx] at h <;> try (simp at h; done)
  all_goals
   first
   |(rename_i d
     cases d <;> try (simp at h; done)
     simp only [sh,sh_idx,sh_int,sh_bound] at h ⊢
     repeat' (split at h)
     all_goals first
      |(simp at h; done)
      |(simp only [Option.some.injEq,Prod.mk.injEq] at h
        obtain ⟨rfl, rfl⟩ := h
        simp_all [sh]))
   |(simp only [sh,sh_idx,sh_int,sh_bound] at h ⊢
     repeat' (split at h)
     all_goals first
      |(simp at h; done)
      |(simp only [Option.some.injEq,Prod.mk.injEq] at h
        obtain ⟨rfl, rfl⟩ := h
        simp_all [sh]))
 case lenStr x =>
  cases hx : ρ x <;> rw [hx] at h <;> try (simp at h; done)
  all_goals
   first
   |(rename_i d
     cases d <;> try (simp at h; done)
     simp only [sh,sh_idx,sh_int,sh_bound] at h ⊢
     repeat' (split at h)
     all_goals first
      |(simp at h; done)
      |(simp only [Option.some.injEq,Prod.mk.injEq] at h
        obtain ⟨rfl, rfl⟩ := h
        simp_all [sh]))
   |(simp only [sh,sh_idx,sh_int,sh_bound] at h ⊢
     repeat' (split at h)
     all_goals first
      |(simp at h; done)
      |(simp only [Option.some.injEq,Prod.mk.injEq] at h
        obtain ⟨rfl, rfl⟩ := h
        simp_all [sh]))
 case real x =>
  cases hx : ρ x <;> rw [hx] at h <;> try (simp at h; done)
  all_goals
   first
   |(rename_i d
     cases d <;> try (simp at h; done)
     simp only [sh,sh_idx,sh_int,sh_bound] at h ⊢
     repeat' (split at h)
     all_goals first
      |(simp at h; done)
      |(simp only [Option.some.injEq,Prod.mk.injEq] at h
        obtain ⟨rfl, rfl⟩ := h
        simp_all [sh]))
   |(simp only [sh,sh_idx,sh_int,sh_bound] at h ⊢
     repeat' (split at h)
     all_goals first
      |(simp at h; done)
      |(simp only [Option.some.injEq,Prod.mk.injEq] at h
        obtain ⟨rfl, rfl⟩ := h
        simp_all [sh]))
 case imag x =>
  cases hx : ρ x <;> rw [hx] at h <;> try (simp at h; done)
  all_goals
   first
   |(rename_i d
     cases d <;> try (simp at h; done)
     simp only [sh,sh_idx,sh_int,sh_bound] at h ⊢
     repeat' (split at h)
     all_goals first
      |(simp at h; done)
      |(simp only [Option.some.injEq,Prod.mk.injEq] at h
        obtain ⟨rfl, rfl⟩ := h
        simp_all [sh]))
   |(simp only [sh,sh_idx,sh_int,sh_bound] at h ⊢
     repeat' (split at h)
     all_goals first
      |(simp at h; done)
      |(simp only [Option.some.injEq,Prod.mk.injEq] at h
        obtain ⟨rfl, rfl⟩ := h
        simp_all [sh]))
 case complex x y =>
  split at h
  ·rename_i hx hy
   rw [hx, hy]
   simp only [sh]
   split at h
   ·simp only [Option.some.injEq,Prod.mk.injEq] at h
    obtain ⟨rfl, rfl⟩ := h
    simp_all [sh]
   ·simp at h
  ·simp at h
 all_goals simp at h
end
end Go.Abs
end
section
set_option linter.unusedVariables false
set_option linter.unusedSimpArgs false
namespace Go.Abs
section
variable {n : Nat} {H0 : Heap}
theorem sh_load_eq (hn : n = H0.length) {H : Heap} {k : Option Nat} {a : AV} : loadAt (H0 ++ shH n H) k (sh n a) = (loadAt H k a).map (sh n) := by
 cases h : loadAt H k a with
 | some v => rw [sh_load hn h]; rfl
 | none =>
  rw [Option.map_none]
  cases a with
  | im d =>
   have : loadAt (H0 ++ shH n H) k (.im d) = loadAt H k (.im d) := by cases d <;> rfl
   simp only [sh]
   rw [this]; exact h
  | ptr id i j =>
   simp only [sh,loadAt,shH_get hn] at h ⊢
   cases hid : H[id]? with
   | none => rfl
   | some o =>
    rw [hid] at h
    cases o with
    | hw t m => rfl
    | dead => rfl
    | it s p => rfl
    | obj ty es =>
     simp only [Option.map_some,shO,List.getElem?_map] at h ⊢
     cases he : es[i]? with
     | none => rfl
     | some e =>
      rw [he] at h
      simp only [Option.map_some] at h ⊢
      cases k with
      | none =>
       simp only at h ⊢
       rw [List.getElem?_map, h]; rfl
      | some m =>
       simp only [List.length_map] at h ⊢
       split at h
       ·simp at h
       ·rename_i hk
        rw [if_neg hk]
  | nils => rfl
  | em => rfl
  | asl s es t => rfl
  | ms s id o m => rfl
  | agg cs => rfl
  | tup cs => rfl
  | clo f cs => rfl
  | any => rfl
theorem ev_sh {tm : List AV} {x : AOpd} (h : closedOpd x = true) : ev (tm.map (sh n)) x = sh n (ev tm x) := by
 cases x with
 | t k =>
  simp only [ev,List.getD_eq_getElem?_getD,List.getElem?_map]
  cases tm[k]? with
  | none => simp [undefA, sh, shs]
  | some a => rfl
 | c a => simp only [ev]; exact (sh_closed h).symm
theorem wanted_sh {tm : List AV} (g : Option (Nat × Bool)) : wantedA (tm.map (sh n)) g = wantedA tm g := by
 cases g with
 | none => rfl
 | some p =>
  obtain ⟨d, b⟩ := p
  simp only [wantedA,List.getElem?_map]
  cases tm[d]? with
  | none => rfl
  | some a =>
   simp only [Option.map_some]
   cases a with
   | tup cs => cases cs <;> rfl
   | im d => rfl
   | nils => rfl
   | em => rfl
   | asl s es t => rfl
   | ms s id o m => rfl
   | agg cs => rfl
   | ptr i j k => rfl
   | clo f cs => rfl
   | any => rfl
theorem put_sh (tm : List AV) (d : Option Nat) (v : AV) : putA (tm.map (sh n)) d (sh n v) = (putA tm d v).map (sh n) := by
 cases d with
 | none => rfl
 | some d => simp only [putA,List.map_set]
def ShO (n : Nat) (H0 : Heap) (Φ Φ' : Oracle) : Prop := ∀ f args H v H', Φ f args H = some (v, H') → Φ' f (args.map (sh n)) (H0 ++ shH n H) = some (sh n v, H0 ++ shH n H')
theorem sh_dgA (n : Nat) (d : Bool) (a : AV) : dgA d (sh n a) = sh n (dgA d a) := by
 unfold dgA
 rw [sh_toDat]
 split
 ·split <;> rfl
 ·rfl
theorem aopc_sh (hn : n = H0.length) {Φ Φ' : Oracle} (hΦ : ShO n H0 Φ Φ') {H : Heap} {tm : List AV} {op : AOp} (hc : closedOp op = true) {v : AV} {H' : Heap} (h : aopc Φ H tm op = some (v, H')) :
  aopc Φ' (H0 ++ shH n H) (tm.map (sh n)) op = some (sh n v, H0 ++ shH n H') := by
 have hop : ∀ x ∈ opnds op, closedOpd x = true := by
  unfold closedOp at hc
  rw [Bool.and_eq_true] at hc
  exact fun x hx => List.all_eq_true.1 hc.1 x hx
 by_cases hcall : ∃ d f args, op = .call d f args
 ·obtain ⟨d, f, args, rfl⟩ := hcall
  simp only [aopc] at h ⊢
  have hf := ev_sh (n := n) (tm := tm) (hop f (by simp [opnds]))
  have ha : args.map (fun x => dgA d (ev (tm.map (sh n)) x)) = (args.map (fun x => dgA d (ev tm x))).map (sh n) := by
   rw [List.map_map]
   refine List.map_congr_left fun x hx => ?_
   show dgA d (ev (tm.map (sh n)) x) = sh n (dgA d (ev tm x))
   rw [ev_sh (hop x (by simp [opnds, hx])), sh_dgA]
  rw [hf]
  split at h
  ·rename_i g cap hg
   rw [hg]
   simp only [sh,shs_map]
   rw [ha, ← List.map_append]
   exact hΦ _ _ _ _ _ h
  ·simp at h
 ·have e1 : ∀ Φ H tm, aopc Φ H tm op = aop H (ev tm) op := by
   intro Φ H tm
   cases op <;> first | rfl | (exact absurd ⟨_, _, _, rfl⟩ hcall)
  rw [e1] at h ⊢
  rw [aop_congr (ρ' := fun x => sh n (ev tm x)) _ (fun x hx => ev_sh (hop x hx))]
  exact aop_sh hn hc h
def closedOps (l : List AOper) : Bool := l.all fun o => closedOp o.op
def s2 (n : Nat) (H0 : Heap) (p : List AV × Heap) : List AV × Heap := (p.1.map (sh n), H0 ++ shH n p.2)
theorem xops_sh (hn : n = H0.length) {Φ Φ' : Oracle} (hΦ : ShO n H0 Φ Φ') {R : Type} {K : List (List AV × Heap) → List AV → Heap → Option R} {x : R} :
  ∀ {l : List AOper} {tr : List (List AV × Heap)} {tm : List AV} {H : Heap}, closedOps l = true → xops Φ l tr tm H K = some x →
  ∃ tr' tm' H', K tr' tm' H' = some x ∧ ∀ {R' : Type} (K' : List (List AV × Heap) → List AV → Heap → Option R'), xops Φ' l (tr.map (s2 n H0)) (tm.map (sh n)) (H0 ++ shH n H) K' = K' (tr'.map (s2 n H0)) (tm'.map (sh n)) (H0 ++ shH n H')
 | [], tr, tm, H, _, h => by
  simp only [xops] at h
  exact ⟨tr, tm, H, h, fun K' => by simp only [xops]⟩
 | o :: l, tr, tm, H, hc, h => by
  simp only [closedOps,List.all_cons,Bool.and_eq_true] at hc
  simp only [xops] at h
  split at h
  ·rename_i hw
   split at h
   ·rename_i v H1 hv
    obtain ⟨tr', tm', H', h1, h2⟩ := xops_sh hn hΦ hc.2 h
    refine ⟨tr', tm', H', h1, fun K' => ?_⟩
    simp only [xops,wanted_sh,hw,aopc_sh hn hΦ hc.1 hv,put_sh]
    exact h2 K'
   ·simp at h
  ·rename_i hw
   obtain ⟨tr', tm', H', h1, h2⟩ := xops_sh hn hΦ hc.2 h
   refine ⟨tr', tm', H', h1, fun K' => ?_⟩
   have hu : sh n undefA = undefA := rfl
   simp only [xops,wanted_sh,hw]
   rw [← hu, put_sh]
   exact h2 K'
  ·simp at h
theorem stays_sh (hn : n = H0.length) {l : List AOper} (hc : closedOps l = true) {sts : List (List AV × Heap)} {p : Nat × Nat} (h : stays l sts p) : stays l (sts.map (s2 n H0)) p := by
 unfold stays at h ⊢
 simp only [List.getElem?_map]
 split at h
 ·rename_i o s a b h1 h2 h3 h4
  simp only [h1,h2,h3,h4,Option.map_some,s2,wanted_sh]
  rcases h with h | h
  ·exact .inl h
  ·right
   split at h
   ·rename_i k x hl
    have hx : closedOpd x = true := by
     have ho := List.all_eq_true.1 hc o (List.mem_of_getElem? h1)
     unfold closedOp at ho
     rw [Bool.and_eq_true] at ho
     refine List.all_eq_true.1 ho.1 x ?_
     cases hop : o.op <;> rw [hop] at hl <;> simp [loadOf] at hl
     simp [opnds, hl.2]
    first | rw [ev_sh hx, sh_load_eq hn, sh_load_eq hn, h] | (rw [hl]; simp only; rw [ev_sh hx, sh_load_eq hn, sh_load_eq hn, h])
   ·exact h.elim
 ·exact h.elim
theorem xreg_sh (hn : n = H0.length) {Φ Φ' : Oracle} (hΦ : ShO n H0 Φ Φ') {R : Type} {K : List AV → Heap → Option R} {x : R} {l : List AOper} {ps : List (Nat × Nat)} {tm : List AV} {H : Heap} (hc : closedOps l = true) (h : xreg Φ l ps tm H K = some x) :
  ∃ tm' H', K tm' H' = some x ∧ ∀ {R' : Type} (K' : List AV → Heap → Option R'), xreg Φ' l ps (tm.map (sh n)) (H0 ++ shH n H) K' = K' (tm'.map (sh n)) (H0 ++ shH n H') := by
 unfold xreg at h
 split at h
 ·obtain ⟨tr', tm', H', h1, h2⟩ := xops_sh hn hΦ hc h
  exact ⟨tm', H', h1, fun K' => by simp only [xreg]; exact h2 _⟩
 ·rename_i p ps
  obtain ⟨tr', tm', H', h1, h2⟩ := xops_sh hn hΦ hc h
  split at h1
  ·rename_i hall
   refine ⟨tm', H', h1, fun K' => ?_⟩
   simp only [xreg]
   refine (h2 _).trans ?_
   rw [if_pos]
   intro q hq
   have h3 := stays_sh hn hc (hall q hq)
   rw [List.map_reverse, List.map_cons] at h3
   exact h3
  ·simp at h1
end
end Go.Abs
end
section
set_option linter.unusedVariables false
set_option linter.unusedSimpArgs false
namespace Go.Abs
def closedC : ACode → Bool
 | .skip => true
 | .ops l _ => closedOps l
 | .seq a b => closedC a && closedC b
 | .cond c a b => closedOpd c && closedC a && closedC b
 | .block _ a => closedC a
 | .loop a => closedC a
 | .exit _ => true
 | .scope a b => closedC a && closedC b
 | .label _ => true
 | .goto _ => true
 | .ret => true
 | .bad => true
theorem find_closed : ∀ {a r : ACode} {l : Nat}, closedC a = true → findA a l = some r → closedC r = true
 | .seq a b, r, l, hc, h => by
  simp only [closedC,Bool.and_eq_true] at hc
  simp only [findA] at h
  split at h
  ·rename_i rest hr
   injection h with h; subst h
   simp only [closedC,Bool.and_eq_true]
   exact ⟨find_closed hc.1 hr, hc.2⟩
  ·exact find_closed hc.2 h
 | .label _, r, l, hc, h => by
  simp only [findA] at h
  split at h
  ·injection h with h; subst h; rfl
  ·simp at h
 | .skip, r, l, hc, h => by simp [findA] at h
 | .ops _ _, r, l, hc, h => by simp [findA] at h
 | .cond _ _ _, r, l, hc, h => by simp [findA] at h
 | .block _ _, r, l, hc, h => by simp [findA] at h
 | .loop _, r, l, hc, h => by simp [findA] at h
 | .exit _, r, l, hc, h => by simp [findA] at h
 | .scope _ _, r, l, hc, h => by simp [findA] at h
 | .goto _, r, l, hc, h => by simp [findA] at h
 | .ret, r, l, hc, h => by simp [findA] at h
 | .bad, r, l, hc, h => by simp [findA] at h
section
variable {n : Nat} {H0 : Heap}
def shOut (n : Nat) (H0 : Heap) (o : Out) : Out := (o.1, o.2.1.map (sh n), H0 ++ shH n o.2.2)
theorem execF_sh (hn : n = H0.length) {Φ Φ' : Oracle} (hΦ : ShO n H0 Φ Φ') : ∀ {k : Nat} {c : ACode} {tm : List AV} {H : Heap} {o : Out}, closedC c = true → execF Φ k c tm H = some o → execF Φ' k c (tm.map (sh n)) (H0 ++ shH n H) = some (shOut n H0 o)
 | 0, _, _, _, _, _, h => by simp [execF] at h
 | k + 1, c, tm, H, o, hc, h => by
  have ih : ∀ {c : ACode} {tm : List AV} {H : Heap} {o : Out}, closedC c = true → execF Φ k c tm H = some o → execF Φ' k c (tm.map (sh n)) (H0 ++ shH n H) = some (shOut n H0 o) := fun hc h => execF_sh hn hΦ hc h
  cases c <;> simp only [execF] at h ⊢ <;> simp only [closedC,Bool.and_eq_true] at hc
  case ops l ps =>
   obtain ⟨tm', H', h1, h2⟩ := xreg_sh hn hΦ hc h
   injection h1 with h1
   subst h1
   exact h2 _
  case seq a b =>
   cases ha : execF Φ k a tm H with
   | none => rw [ha] at h; simp at h
   | some o1 =>
    rw [ha] at h
    rw [ih hc.1 ha]
    obtain ⟨e, tm1, H1⟩ := o1
    cases e with
    | normal => exact ih hc.2 h
    | exit i => injection h with h; subst h; rfl
    | goto l => injection h with h; subst h; rfl
    | ret => injection h with h; subst h; rfl
  case cond x a b =>
   rw [ev_sh hc.1.1]
   split at h
   ·rename_i t ht
    rw [ht]
    simp only [sh]
    split at h
    ·rename_i htt; rw [if_pos htt]; exact ih hc.1.2 h
    ·rename_i htt; rw [if_neg htt]; exact ih hc.2 h
   ·simp at h
  case block id a =>
   cases ha : execF Φ k a tm H with
   | none => rw [ha] at h; simp at h
   | some o1 =>
    rw [ha] at h
    rw [ih hc ha]
    obtain ⟨e, tm1, H1⟩ := o1
    cases e with
    | exit i =>
     simp only [shOut] at h ⊢
     split at h
     ·rename_i hi; rw [if_pos hi]; injection h with h; subst h; rfl
     ·rename_i hi; rw [if_neg hi]; injection h with h; subst h; rfl
    | normal => injection h with h; subst h; rfl
    | goto l => injection h with h; subst h; rfl
    | ret => injection h with h; subst h; rfl
  case loop a =>
   cases ha : execF Φ k a tm H with
   | none => rw [ha] at h; simp at h
   | some o1 =>
    rw [ha] at h
    rw [ih hc ha]
    obtain ⟨e, tm1, H1⟩ := o1
    cases e with
    | normal => exact ih (c := .loop a) (by simpa only [closedC] using hc) h
    | exit i => injection h with h; subst h; rfl
    | goto l => injection h with h; subst h; rfl
    | ret => injection h with h; subst h; rfl
  case scope body cur =>
   cases ha : execF Φ k cur tm H with
   | none => rw [ha] at h; simp at h
   | some o1 =>
    rw [ha] at h
    rw [ih hc.2 ha]
    obtain ⟨e, tm1, H1⟩ := o1
    cases e with
    | goto l =>
     simp only [shOut] at h ⊢
     cases hf : findA body l with
     | none => rw [hf] at h; simp at h
     | some r =>
      rw [hf] at h
      exact ih (c := .scope body r) (by simp only [closedC,Bool.and_eq_true]; exact ⟨hc.1, find_closed hc.1 hf⟩) h
    | normal => injection h with h; subst h; rfl
    | exit i => injection h with h; subst h; rfl
    | ret => injection h with h; subst h; rfl
  case bad => simp at h
  all_goals
   injection h with h; subst h; rfl
mutual
theorem sh_inj : ∀ {a b : AV}, sh n a = sh n b → a = b
 | .im d, b, h => by cases b <;> simp [sh] at h; rw [h]
 | .nils, b, h => by cases b <;> simp [sh] at h; rfl
 | .em, b, h => by cases b <;> simp [sh] at h; rfl
 | .asl s es t, b, h => by cases b <;> simp [sh] at h; rw [h.1, h.2.1, h.2.2]
 | .ms s i o k, b, h => by cases b <;> simp [sh] at h; rw [h.1, h.2.1, h.2.2.1, h.2.2.2]
 | .ptr i j k, b, h => by cases b <;> simp [sh] at h; rw [h.1, h.2.1, h.2.2]
 | .agg cs, b, h => by
  cases b <;> simp [sh] at h
  rw [shs_inj h]
 | .tup cs, b, h => by
  cases b <;> simp [sh] at h
  rw [shs_inj h]
 | .clo f cs, b, h => by
  cases b <;> simp [sh] at h
  rw [h.1, shs_inj h.2]
 | .any, b, h => by cases b <;> simp [sh] at h; rfl
theorem shs_inj : ∀ {a b : List AV}, shs n a = shs n b → a = b
 | [], b, h => by cases b <;> simp [shs] at h; rfl
 | a :: l, b, h => by
  cases b <;> simp [shs] at h
  rw [sh_inj h.1, shs_inj h.2]
end
theorem map_inj {α β : Type} {f : α → β} (hf : ∀ {a b}, f a = f b → a = b) : ∀ {l m : List α}, l.map f = m.map f → l = m
 | [], m, h => by cases m <;> simp at h; rfl
 | a :: l, m, h => by
  cases m <;> simp at h
  rw [hf h.1, map_inj hf h.2]
theorem shO_inj {a b : HO} (h : shO n a = shO n b) : a = b := by
 cases a <;> cases b <;> simp [shO] at h
 ·rw [h.1, map_inj (fun {x y} hxy => map_inj (fun {u v} huv => sh_inj huv) hxy) h.2]
 ·rw [h.1, h.2]
 ·rw [h.1, h.2]
 ·rfl
mutual
theorem refs_sh (m : Nat) : ∀ a : AV, refsLt (n + m) (sh n a) = refsLt m a
 | .im _ => rfl
 | .nils => rfl
 | .em => rfl
 | .asl s es t => by simp [sh, refsLt]
 | .ms s i o k => by simp [sh, refsLt]
 | .ptr i j k => by simp [sh, refsLt]
 | .agg cs => by simp only [sh,refsLt,refss_sh m cs]
 | .tup cs => by simp only [sh,refsLt,refss_sh m cs]
 | .clo f cs => by simp only [sh,refsLt,refss_sh m cs]
 | .any => rfl
theorem refss_sh (m : Nat) : ∀ l : List AV, refsLts (n + m) (shs n l) = refsLts m l
 | [] => rfl
 | a :: l => by simp only [shs,refsLts,refs_sh m a,refss_sh m l]
end
theorem refsO_sh (m : Nat) (o : HO) : refsO (n + m) (shO n o) = refsO m o := by
 cases o with
 | hw t k => rfl
 | dead => rfl
 | it s p => rfl
 | obj t es =>
  simp only [shO,refsO,List.all_map]
  congr 1
  funext e
  have := refss_sh (n := n) m e
  rw [shs_map] at this
  exact this
theorem held_sh (hn : n = H0.length) {Ha Hb : Heap} : heldIn (H0 ++ shH n Ha) (H0 ++ shH n Hb) ↔ heldIn Ha Hb := by
 unfold heldIn
 rw [shH_len hn]
 constructor
 ·intro h i hi
  have := h (n + i) (by omega)
  rw [shH_get hn, shH_get hn] at this
  rcases this with h1 | ⟨o, h1, h2⟩
  ·left
   cases ha : Ha[i]? with
   | none => rw [ha] at h1; simp at h1; simpa using h1
   | some a =>
    cases hb : Hb[i]? with
    | none => rw [ha, hb] at h1; simp at h1
    | some b =>
     rw [ha, hb] at h1
     simp only [Option.map_some,Option.some.injEq] at h1
     rw [shO_inj h1]
  ·right
   cases hb : Hb[i]? with
   | none => rw [hb] at h1; simp at h1
   | some b =>
    rw [hb] at h1
    simp only [Option.map_some,Option.some.injEq] at h1
    subst h1
    rw [refsO_sh] at h2
    exact ⟨b, rfl, h2⟩
 ·intro h i hi
  by_cases hlt : i < n
  ·left
   rw [List.getElem?_append_left (by omega), List.getElem?_append_left (by omega)]
  ·obtain ⟨j, rfl⟩ : ∃ j, i = n + j := ⟨i - n, by omega⟩
   rw [shH_get hn, shH_get hn]
   rcases h j (by omega) with h1 | ⟨o, h1, h2⟩
   ·left; rw [h1]
   ·right; exact ⟨shO n o, by rw [h1]; rfl, by rw [refsO_sh]; exact h2⟩
theorem degrade_sh (a : AV) : degrade (sh n a) = sh n (degrade a) := by
 have h1 : ∀ a : AV, degrade1 (sh n a) = sh n (degrade1 a) := fun a => by
  unfold degrade1
  rw [sh_toDat]
  cases toDat a <;> rfl
 unfold degrade
 rw [sh_toDat]
 cases toDat a with
 | some d => rfl
 | none =>
  cases a <;> simp only [sh,shs_map,List.map_map] <;> try rfl
  congr 1
  exact List.map_congr_left fun x _ => h1 x
theorem reAt_sh (k : Nat) : ∀ cs : List AV, reAt (n + k) (cs.map (sh n)) = (reAt k cs).map fun x => (n + x.1, x.2.map (sh n))
 | [] => rfl
 | a :: l => by
  have hl : refsLts (n + k) (l.map (sh n)) = refsLts k l := by
   have := refss_sh (n := n) k l
   rwa [shs_map] at this
  simp only [List.map_cons,reAt,refs_sh,reAt_sh k l]
  split
  ·cases reAt k l with
   | none => rfl
   | some x => rfl
  ·cases a <;> simp only [sh] <;> try rfl
   rw [hl]
   split <;> rfl
theorem keepS_sh (hn : n = H0.length) {Ha H H' : Heap} {keep : Bool} {r r' : AV} (h : keepS Ha r H keep = (r', H')) : keepS (H0 ++ shH n Ha) (sh n r) (H0 ++ shH n H) keep = (sh n r', H0 ++ shH n H') := by
 cases keep with
 | false =>
  obtain ⟨rfl, rfl⟩ := Prod.mk.inj h
  rfl
 | true =>
  have triv : ∀ {x : AV × Heap}, (r, H) = x → ((sh n r, H0 ++ shH n H) : AV × Heap) = (sh n x.1, H0 ++ shH n x.2) := fun hx => by rw [← hx]
  unfold keepS at h ⊢
  simp only at h ⊢
  cases r with
  | agg cs =>
   simp only [sh,shs_map,shH_len hn,reAt_sh] at h ⊢
   cases hc : reAt Ha.length cs with
   | none =>
    rw [hc] at h
    simp only at h
    obtain ⟨rfl, rfl⟩ := Prod.mk.inj h
    simp only [Option.map_none,sh,shs_map]
   | some x =>
    obtain ⟨tok, cs'⟩ := x
    rw [hc] at h
    simp only [Option.map_some,shH_get hn] at h ⊢
    cases ht : H[tok]? with
    | none =>
     rw [ht] at h
     simp only at h
     obtain ⟨rfl, rfl⟩ := Prod.mk.inj h
     simp only [Option.map_none,sh,shs_map]
    | some o =>
     rw [ht] at h
     cases o with
     | hw ty k =>
      simp only [Option.map_some,shO] at h ⊢
      by_cases hh : heldIn Ha H
      ·rw [if_pos hh] at h
       rw [if_pos ((held_sh hn).2 hh)]
       obtain ⟨rfl, rfl⟩ := Prod.mk.inj h
       simp only [sh,shs_map]
       congr 1
       rw [hn, List.take_append, List.take_of_length_le (by omega), show H0.length + Ha.length - H0.length = Ha.length by omega, List.append_assoc]
       congr 1
       simp only [shH,List.map_take,List.map_append,List.map_cons,List.map_nil,shO]
      ·rw [if_neg hh] at h
       rw [if_neg (mt (held_sh hn).1 hh)]
       obtain ⟨rfl, rfl⟩ := Prod.mk.inj h
       simp only [sh,shs_map]
     | _ =>
      simp only [Option.map_some,shO] at h ⊢
      obtain ⟨rfl, rfl⟩ := Prod.mk.inj h
      simp only [sh,shs_map]
  | _ =>
   simp only at h
   obtain ⟨rfl, rfl⟩ := Prod.mk.inj h
   simp only [sh]
theorem leave_sh (hn : n = H0.length) {Ha H H' : Heap} {keep : Bool} {r r' : AV} (h : leave Ha keep r H = (r', H')) : leave (H0 ++ shH n Ha) keep (sh n r) (H0 ++ shH n H) = (sh n r', H0 ++ shH n H') := by
 unfold leave at h ⊢
 have e : (if keep = true then sh n r else degrade (sh n r)) = sh n (if keep = true then r else degrade r) := by
  split
  ·rfl
  ·exact degrade_sh r
 rw [e]
 generalize (if keep = true then r else degrade r) = r1 at h ⊢
 rw [shH_len hn]
 by_cases hc : refsLt Ha.length r1 = true ∧ heldIn Ha H
 ·rw [if_pos hc] at h
  rw [if_pos ⟨by rw [refs_sh]; exact hc.1, (held_sh hn).2 hc.2⟩]
  obtain ⟨rfl, rfl⟩ := Prod.mk.inj h
  congr 1
  rw [hn, List.take_append, List.take_of_length_le (by omega), show H0.length + Ha.length - H0.length = Ha.length by omega]
  congr 1
  simp only [shH,List.map_take]
 ·rw [if_neg hc] at h
  rw [if_neg fun x => hc ⟨by rw [← refs_sh (n := n)]; exact x.1, (held_sh hn).1 x.2⟩]
  exact keepS_sh hn h
theorem resA_sh (hn : n = H0.length) {tm : List AV} {H : Heap} : ∀ {rs : List (Nat × Option (Option Nat))} {l : List AV}, resA tm H rs = some l → resA (tm.map (sh n)) (H0 ++ shH n H) rs = some (l.map (sh n))
 | [], l, h => by
  simp only [resA] at h; injection h with h; subst h; rfl
 |(t, none) :: rs, l, h => by
  simp only [resA] at h ⊢
  split at h
  ·rename_i r hr
   injection h with h; subst h
   rw [resA_sh hn hr]
   have := ev_sh (n := n) (tm := tm) (x := .t t) rfl
   simp only [ev] at this
   simp only [this,List.map_cons]
  ·simp at h
 |(t, some k) :: rs, l, h => by
  simp only [resA] at h ⊢
  have := ev_sh (n := n) (tm := tm) (x := .t t) rfl
  simp only [ev] at this
  rw [this]
  split at h
  ·rename_i v r hv hr
   injection h with h; subst h
   rw [resA_sh hn hr, sh_load hn hv]
   rfl
  ·simp at h
theorem tup_sh (l : List AV) : tupA (l.map (sh n)) = sh n (tupA l) := by
 match l with
 | [] => simp [tupA, sh, shs]
 | [a] => rfl
 | a :: b :: l => simp [tupA, sh, shs, shs_map]
theorem enter_sh (f : AFunc) (args : List AV) : enterA f (args.map (sh n)) = (enterA f args).map (sh n) := by
 simp [enterA, sh, undefA, shs]
theorem runF_sh (hn : n = H0.length) {Ψ : Oracle} (hΨ : ShO n H0 Ψ Ψ) {T : FuncId → Option AFunc} (hT : ∀ f af, T f = some af → closedC af.code = true) : ∀ k, ShO n H0 (runF Ψ T k) (runF Ψ T k)
 | 0 => fun f args H v H' h => by simp [runF] at h
 | k + 1 => fun f args H v H' h => by
  have ih := runF_sh hn hΨ hT k
  simp only [runF] at h ⊢
  cases hf : T f with
  | none => rw [hf] at h; exact hΨ _ _ _ _ _ h
  | some af =>
   rw [hf] at h
   simp only at h ⊢
   cases he : execF (runF Ψ T k) k af.code (enterA af args) H with
   | none => rw [he] at h; simp [endA] at h
   | some o =>
    rw [he] at h
    rw [enter_sh, execF_sh hn ih (hT f af hf) he]
    obtain ⟨e, tm, H1⟩ := o
    cases e with
    | normal =>
     simp only [endA,shOut] at h ⊢
     split at h
     ·rename_i l hl
      injection h with h
      rw [resA_sh hn hl]
      simp only
      rw [tup_sh, leave_sh hn h]
     ·simp at h
    | ret =>
     simp only [endA,shOut] at h ⊢
     split at h
     ·rename_i l hl
      injection h with h
      rw [resA_sh hn hl]
      simp only
      rw [tup_sh, leave_sh hn h]
     ·simp at h
    | exit i => simp [endA] at h
    | goto l => simp [endA] at h
end
end Go.Abs
end
section
set_option linter.unusedVariables false
set_option linter.unusedSimpArgs false
namespace Go.Abs
section
variable {n : Nat} {H0 : Heap}
end
theorem runF_le {Ψ : Oracle} {T F : FuncId → Option AFunc} (hT : ∀ f af, T f = some af → F f = some af) (hn : ∀ f, T f = none → F f = none ∨ ∀ args H, Ψ f args H = none) : ∀ k, OLe (runF Ψ T k) (runF Ψ F k)
 | 0 => fun f args H x hx => by simp [runF] at hx
 | k + 1 => fun f args H x hx => by
  have ih := runF_le hT hn k
  simp only [runF] at hx ⊢
  cases hf : T f with
  | none =>
   rw [hf] at hx
   rcases hn f hf with h | h
   ·rw [h]; exact hx
   ·simp only [h] at hx; simp at hx
  | some af =>
   rw [hf] at hx
   rw [hT f af hf]
   simp only at hx ⊢
   cases he : execF (runF Ψ T k) k af.code (enterA af args) H with
   | none => rw [he] at hx; simp [endA] at hx
   | some o => rw [he] at hx; rw [execF_mono ih (Nat.le_refl _) he]; exact hx
end Go.Abs
end
section
set_option linter.unusedVariables false
set_option linter.unusedSimpArgs false
namespace Go.Abs
section
variable {R : Type} {Φ : Oracle} {Λ : ACode → List AV → Heap → Option Out} {K : AEx → List AV → Heap → Option R} {tm : List AV} {H : Heap}
noncomputable def seqK (Φ : Oracle) (Λ : ACode → List AV → Heap → Option Out) (b : ACode) (K : AEx → List AV → Heap → Option R) (e : AEx) (tm : List AV) (H : Heap) : Option R := match e with
 | .normal => exec0 Φ Λ b tm H K
 | .exit i => K (.exit i) tm H
 | .goto l => K (.goto l) tm H
 | .ret => K .ret tm H
def blockK (id : Nat) (K : AEx → List AV → Heap → Option R) (e : AEx) (tm : List AV) (H : Heap) : Option R := match e with
 | .exit i => if i = id then K .normal tm H else K (.exit i) tm H
 | .normal => K .normal tm H
 | .goto l => K (.goto l) tm H
 | .ret => K .ret tm H
theorem x_seq {a b : ACode} : exec0 Φ Λ (.seq a b) tm H K = exec0 Φ Λ a tm H (seqK Φ Λ b K) := _root_.id rfl
theorem x_block {id : Nat} {a : ACode} : exec0 Φ Λ (.block id a) tm H K = exec0 Φ Λ a tm H (blockK id K) := _root_.id rfl
theorem x_skip : exec0 Φ Λ .skip tm H K = K .normal tm H := _root_.id rfl
theorem x_label {l : Nat} : exec0 Φ Λ (.label l) tm H K = K .normal tm H := _root_.id rfl
theorem x_ops {l : List AOper} {ps : List (Nat × Nat)} : exec0 Φ Λ (.ops l ps) tm H K = xreg Φ l ps tm H (K .normal) := _root_.id rfl
theorem x_cond {c : AOpd} {a b : ACode} : exec0 Φ Λ (.cond c a b) tm H K = match ev tm c with
  | .im (.bool t) => if t = true then exec0 Φ Λ a tm H K else exec0 Φ Λ b tm H K
  | _ => none := _root_.id rfl
theorem x_exit {i : Nat} : exec0 Φ Λ (.exit i) tm H K = K (.exit i) tm H := _root_.id rfl
theorem x_goto {l : Nat} : exec0 Φ Λ (.goto l) tm H K = K (.goto l) tm H := _root_.id rfl
theorem x_ret : exec0 Φ Λ .ret tm H K = K .ret tm H := _root_.id rfl
theorem k_normal {b : ACode} : seqK Φ Λ b K .normal tm H = exec0 Φ Λ b tm H K := _root_.id rfl
theorem k_exit {b : ACode} {i : Nat} : seqK Φ Λ b K (.exit i) tm H = K (.exit i) tm H := _root_.id rfl
theorem k_goto {b : ACode} {l : Nat} : seqK Φ Λ b K (.goto l) tm H = K (.goto l) tm H := _root_.id rfl
theorem k_ret {b : ACode} : seqK Φ Λ b K .ret tm H = K .ret tm H := _root_.id rfl
theorem b_normal {id : Nat} : blockK id K .normal tm H = K .normal tm H := _root_.id rfl
theorem b_exit {id i : Nat} : blockK id K (.exit i) tm H = if i = id then K .normal tm H else K (.exit i) tm H := _root_.id rfl
theorem b_goto {id l : Nat} : blockK id K (.goto l) tm H = K (.goto l) tm H := _root_.id rfl
theorem b_ret {id : Nat} : blockK id K .ret tm H = K .ret tm H := _root_.id rfl
end
end Go.Abs
namespace Go.Abs
section
variable {k : IntKind} {x y : Int}
theorem b_lss : binA .lss (.im (.int k x)) (.im (.int k y)) = some (.im (.bool (decide (x < y)))) := by simp only [binA,isShift,binInt,Bool.false_eq_true,if_false,if_true]
theorem b_leq : binA .leq (.im (.int k x)) (.im (.int k y)) = some (.im (.bool (decide (x ≤ y)))) := by simp only [binA,isShift,binInt,Bool.false_eq_true,if_false,if_true]
theorem b_gtr : binA .gtr (.im (.int k x)) (.im (.int k y)) = some (.im (.bool (decide (y < x)))) := by simp only [binA,isShift,binInt,Bool.false_eq_true,if_false,if_true]
theorem b_geq : binA .geq (.im (.int k x)) (.im (.int k y)) = some (.im (.bool (decide (y ≤ x)))) := by simp only [binA,isShift,binInt,Bool.false_eq_true,if_false,if_true]
theorem b_eql : binA .eql (.im (.int k x)) (.im (.int k y)) = some (.im (.bool (decide (x = y)))) := by simp only [binA,isShift,binInt,Bool.false_eq_true,if_false,if_true]
theorem b_neq : binA .neq (.im (.int k x)) (.im (.int k y)) = some (.im (.bool (!decide (x = y)))) := by simp only [binA,isShift,binInt,Bool.false_eq_true,if_false,if_true]
theorem b_add : binA .add (.im (.int k x)) (.im (.int k y)) = some (.im (.int k (k.wrap (x + y)))) := by simp only [binA,isShift,binInt,Bool.false_eq_true,if_false,if_true]
theorem b_sub : binA .sub (.im (.int k x)) (.im (.int k y)) = some (.im (.int k (k.wrap (x - y)))) := by simp only [binA,isShift,binInt,Bool.false_eq_true,if_false,if_true]
theorem b_mul : binA .mul (.im (.int k x)) (.im (.int k y)) = some (.im (.int k (k.wrap (x * y)))) := by simp only [binA,isShift,binInt,Bool.false_eq_true,if_false,if_true]
end
section
variable {x y : List UInt8}
theorem s_eql : binA .eql (.im (.str x)) (.im (.str y)) = some (.im (.bool (decide (x = y)))) := rfl
theorem s_neq : binA .neq (.im (.str x)) (.im (.str y)) = some (.im (.bool (!decide (x = y)))) := rfl
end
end Go.Abs
end
