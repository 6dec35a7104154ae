/- Part 2 of what the claim rests on. -/
import Derived.ScopeJumps
import Derived.ProofKit
import Derived.Test.YtobnhbbcegeljaaDoorPrefixA
section
set_option linter.unusedVariables false
set_option linter.unusedSimpArgs false
namespace Go.Abs
section
variable {P : Program} {B : Nat → Prop} {Φ : Oracle} {ops : Array Oper} {T : Nat → List AV} {G : Nat → Heap} {R : Nat → AV} {a b : Nat}
theorem take_append_self {α : Type} (l m : List α) : (l ++ m).take l.length = l := by simp
theorem aside {B B' B'' : Nat → Prop} {E E' : Env} (I : Inv B' E) (I' : Inv B' E') (X' : Ext B' E E') {ty : Option (TypeId × Nat)} {cs : List AV} (hH : E'.H = E.H ++ [.obj ty [cs]]) (hcs : cs.all plainA = true)
  (hB : ∀ x, B x → B' x) (hB'' : ∀ x, B'' x → B' x ∨ x = (E'.m E.H.length).1) :
  Inv B'' ⟨E'.w, E'.S, E'.m, E.H⟩ ∧ Ext B' E ⟨E'.w, E'.S, E'.m, E.H⟩ ∧ Early B ⟨E'.w, E'.S, E'.m, E.H⟩ (E'.m E.H.length) ty cs := by
 have hnew : E'.H[E.H.length]? = some (.obj ty [cs]) := by rw [hH]; simp
 have hold : ∀ id x, E.H[id]? = some x → E'.H[id]? = some x := fun id x h => by
  rw [hH, List.getElem?_append_left (List.getElem?_eq_some_iff.1 h).1]; exact h
 have htake : E'.H.take E.H.length = E.H := by rw [hH]; exact take_append_self _ _
 have down : ∀ x v, RelA E' x v → refsLt E.H.length x = true → RelA ⟨E'.w, E'.S, E'.m, E.H⟩ x v := fun x v h hr => by
  have := relA_take (E := E') E.H.length x v h hr
  rwa [htake] at this
 obtain ⟨n1, n2, n3⟩ := I'.obj _ _ _ hnew
 have hlen : E'.H.length = E.H.length + 1 := by rw [hH]; simp
 have base : ∀ id, id < E.H.length → ¬ B' (E'.m id).1 → ¬ B'' (E'.m id).1 := fun id hid h h' => by
  rcases hB'' _ h' with h1 | h1
  ·exact h h1
  ·have := I'.inj id E.H.length (by omega) (by omega) h1
   omega
 refine ⟨⟨fun x hx => ?_, I'.sS, fun id ty' es he => ?_, fun id ty' n he => ?_, fun i j hi hj hij => I'.inj i j (by simp only at hi; omega) (by simp only at hj; omega) hij⟩, ⟨X'.ss, X'.cell, X'.size, X'.low, X'.there, X'.snew, X'.os, X'.tape, X'.output, Nat.le_refl _, fun id ho => ⟨ho, (X'.obj id ho).2⟩, fun id ty' n he => ?_⟩, ⟨n1.less hB, n2, fun i e he => ?_⟩⟩
 ·rcases hB'' x hx with h1 | h1
  ·exact I'.szB x h1
  ·rw [h1]; exact n1.lt
 ·have hid := (List.getElem?_eq_some_iff.1 he).1
  obtain ⟨a1, a2, a3⟩ := I'.obj id ty' es (hold _ _ he)
  refine ⟨⟨base id hid a1.base, a1.lt, a1.free, a1.shape⟩, a2, fun i e hie => ?_⟩
  obtain ⟨b1, b2⟩ := a3 i e hie
  refine ⟨b1, fun j x hx => ?_⟩
  obtain ⟨u, hu, hru, hk⟩ := b2 j x hx
  refine ⟨u, hu, down x u hru ?_, hk⟩
  obtain ⟨_, _, c3⟩ := I.obj id ty' es he
  obtain ⟨u0, _, hr0, _⟩ := (c3 i e hie).2 j x hx
  exact relA_refs x u0 hr0
 ·have hid := (List.getElem?_eq_some_iff.1 he).1
  obtain ⟨a1, a2⟩ := I'.hw id ty' n (hold _ _ he)
  exact ⟨⟨base id hid a1.base, a1.lt, a1.free, a1.shape⟩, a2⟩
 ·refine ⟨n, he, Nat.le_refl _, fun _ => ?_⟩
  obtain ⟨n', h1, h2, h3⟩ := X'.hw id ty' n he
  rw [hold _ _ he] at h1
  simp only [Option.some.injEq,HO.hw.injEq] at h1
  exact h3 h1.2.symm
 ·obtain ⟨b1, b2⟩ := n3 i e he
  refine ⟨b1, fun j x hx => ?_⟩
  obtain ⟨u, hu, hru, hk⟩ := b2 j x hx
  refine ⟨u, hu, down x u hru (plain_refs ?_), hk⟩
  have hec : e = cs := by
   cases i with
   | zero => simpa using he.symm
   | succ i => simp at he
  subst hec
  exact List.all_eq_true.1 hcs x (List.mem_of_getElem? hx)
theorem Draw.early (S : ∀ B, Sound P B Φ) {lit : Bool} (D : Draw Φ ops (ops.toList.map (compOper P lit ops)) T G R b) (F : FreeAt ops (ops.toList.map (compOper P lit ops)) a b) (hguards : ∀ o ∈ ops.toList, (compGuard ops o.guard).2 = true) {E0 : Env} {L : Nat → Bool} {act : Act} {w : World}
  (M : Pre B E0 ops (ops.toList.map (compOper P lit ops)) T G R a b L act w) {i : Nat} (hi : i < ops.size) (hia : a ≤ i) (hib : i < b) (hLi : L i = false) (hed : ∀ e ∈ ops[i].after, Region.binds .any e = true → L e.on = true) {K : Act → World → Prop} {Q : Exit → Act → World → Prop}
  (hK : ∀ a' w', Pre B E0 ops (ops.toList.map (compOper P lit ops)) T G R a b (fun k => if k = i then true else L k) a' w' → K a' w') : wpOp P ops Q i K act w := by
 have hn : (ops.toList.map (compOper P lit ops)).length = ops.size := by simp
 have ho : (ops.toList.map (compOper P lit ops))[i]? = some (compOper P lit ops ops[i]) := by simp [hi]
 have hoi : ops[i]? = some ops[i] := by simp [hi]
 obtain ⟨t, ty, cs, hop, hcs⟩ := F.op i hia hib
 have hcomp : compOper P lit ops ops[i] = ⟨some t, .alloc ty cs, none⟩ := by rw [ho] at hop; injection hop
 have hclosed' : Closed ops fun j => (if j = i then true else L j) = true := fun j o hj hL e he hb => by
  by_cases hji : j = i
  ·subst hji
   rw [hoi] at hj; injection hj with hj; subst hj
   have := hed e he hb
   simp [this]
  ·simp only [if_neg hji] at hL
   have := M.closed j o hj hL e he hb
   simp only at this
   simp [this]
 obtain ⟨E, f, kb, rfl, I, X, hf, f1, f2, hH, hR, hearly, hinj⟩ := M.state
 have hdst : ops[i].dst = some t := by have : (compOper P lit ops ops[i]).dst = ops[i].dst := rfl
                                       rw [← this, hcomp]
 have hadd := tmAt_add (T0 := T 0) (dst := fun d => ((ops.toList.map (compOper P lit ops))[d]?).bind (·.dst)) (R := hideR R a b) (L := L) (i := i) (n := (ops.toList.map (compOper P lit ops)).length) (by omega) hLi (fun d u hid hdn hti htd => by
  simp only [ho,Option.bind_some] at hti
  have hdl : d < ops.size := by omega
  have hd : (ops.toList.map (compOper P lit ops))[d]? = some (compOper P lit ops ops[d]) := by simp [hdl]
  simp only [hd,Option.bind_some] at htd
  have hord := D.names i _ ho u (tm_dst hti) d _ hd htd (by omega)
  rw [show min d i = i by omega, show max d i = d by omega] at hord
  cases hLd : L d with
  | false => rfl
  | true => have := before_closed M.closed hLd hord; simp only [hLi] at this; simp at this)
 have hdst' : ((ops.toList.map (compOper P lit ops))[i]?).bind (·.dst) = some t := by rw [hop]; rfl
 have hRi : hideR R a b i = .any := by unfold hideR; rw [if_pos ⟨hia, hib⟩]
 simp only [hdst',hRi] at hadd
 have hne : ∀ j u ty' cs', a ≤ j → j < b → (ops.toList.map (compOper P lit ops))[j]? = some ⟨some u, .alloc ty' cs', none⟩ → j ≠ i → u ≠ t := fun j u ty' cs' h1 h2 h3 hji e => by
  subst e
  exact hji (F.inj D.edge ⟨h1, h2⟩ ⟨hia, hib⟩ h3 hop)
 have hlone : ∀ j u ty cs, a ≤ j → j < b → (ops.toList.map (compOper P lit ops))[j]? = some ⟨some u, .alloc ty cs, none⟩ → ∀ d q, d ≠ j → (ops.toList.map (compOper P lit ops))[d]? = some q → u ∈ tmpsOf q → (if d = i then true else L d) = false := fun j u ty' cs' h1 h2 h3 d q hdj hq ht => by
  by_cases hdi : d = i
  ·subst hdi
   rw [hop] at hq; injection hq with hq; subst hq
   simp [tmpsOf, opnds] at ht
   exact absurd ht (hne j u ty' cs' h1 h2 h3 (fun e => hdj e.symm))
  ·rw [if_neg hdi]; exact M.lone j u ty' cs' h1 h2 h3 d q hdj hq ht
 have hgi := hguards ops[i] (by simp)
 have hw : wantedA (tmAt (T 0) (fun d => ((ops.toList.map (compOper P lit ops))[d]?).bind (·.dst)) (hideR R a b) L (ops.toList.map (compOper P lit ops)).length) (compGuard ops ops[i].guard).1 = some true := by
  have : (compGuard ops ops[i].guard).1 = (compOper P lit ops ops[i]).guard := rfl
  rw [this, hcomp]; rfl
 unfold wpOp
 simp only [hoi]
 rw [wanted_spec hR (ops := ops) hgi hw]
 simp only [if_true]
 left
 have hopf : aopc Φ E.H (tmAt (T 0) (fun d => ((ops.toList.map (compOper P lit ops))[d]?).bind (·.dst)) (hideR R a b) L (ops.toList.map (compOper P lit ops)).length) (compOper P lit ops ops[i]).op = some (.ptr E.H.length 0 0, E.H ++ [.obj ty [cs]]) := by
  rw [hcomp]; rfl
 obtain ⟨_, hopf'⟩ := compOper_guard hopf
 refine oper_wp (S _) I hR hopf' fun a' E' hput I' X' hH' hR' => ?_
 obtain ⟨v, rfl⟩ := hput
 have hnewObj : E'.H[E.H.length]? = some (.obj ty [cs]) := by rw [hH']; simp
 obtain ⟨n1, n2, n3⟩ := I'.obj _ _ _ hnewObj
 obtain ⟨i1, x1, y1⟩ := aside (B := B) (B'' := Held B a b (fun j => if j = i then true else L j) (fun j => if j = i then E'.m E.H.length else kb j)) I I' X' hH' hcs (fun x hx => .inl hx) (fun x hx => by
  rcases hx with h | ⟨j, h1, h2, h3, h4⟩
  ·exact .inl (.inl h)
  ·by_cases hji : j = i
   ·right; simpa [hji] using h4
   ·left; right
    simp only [if_neg hji] at h3 h4
    exact ⟨j, h1, h2, h3, h4⟩)
 refine hK _ _ ⟨hclosed', hlone, ⟨E'.w, E'.S, E'.m, E.H⟩, f, fun j => if j = i then E'.m E.H.length else kb j, rfl, i1, X.trans (x1.less fun x hx => .inl hx), hf, fun d o h1 h2 h3 => ?_, fun d o h1 h1' h2 h3 => ?_, hH, ?_, fun j u ty' cs' h1 h2 h3 h4 => ?_, fun j j' h1 h2 h3 h1' h2' h3' he => ?_⟩
 ·split
  ·rfl
  ·exact f1 d o h1 h2 h3
 ·rw [if_neg (by omega)]; exact f2 d o h1 h1' h2 h3
 ·rw [hadd, hdst]
  exact relT_put (relT_ext x1 hR) _ (by simp only [RelA])
 ·by_cases hji : j = i
  ·subst hji
   rw [hop] at h4
   simp only [Option.some.injEq,AOper.mk.injEq,AOp.alloc.injEq,and_true] at h4
   obtain ⟨rfl, rfl, rfl⟩ := h4
   simp only [if_true]
   refine ⟨fun x hx => ?_, y1⟩
   rw [hdst] at hx hR'
   by_cases hlt : t < act.tmps.size
   ·simp only [Act.put] at hx
    rw [Array.getElem?_setIfInBounds_self_of_lt hlt] at hx
    injection hx with hx; subst hx
    have hlen := relAs_length hR.1
    have hr := relT_get hR' t
    simp only [putA,Act.put] at hr
    rw [Array.getD_eq_getD_getElem?, Array.getElem?_setIfInBounds_self_of_lt hlt, List.getD_eq_getElem?_getD, List.getElem?_set_self (by rw [← hlen]; simpa using hlt)] at hr
    simp only [Option.getD_some,RelA] at hr
    exact hr.1
   ·simp only [Act.put] at hx
    rw [Array.getElem?_eq_none (by simp; omega)] at hx; simp at hx
  ·rw [if_neg hji] at h3
   simp only [if_neg hji]
   obtain ⟨e1, e2⟩ := hearly j u ty' cs' h1 h2 h3 h4
   refine ⟨fun x hx => e1 x ?_, e2.ext x1 (.inr ⟨j, h1, h2, h3, rfl⟩)⟩
   rw [hdst] at hx
   rwa [put_ne (fun e => hne j u ty' cs' h1 h2 h4 hji (by injection e with e; exact e.symm))] at hx
 ·by_cases hji : j = i <;> by_cases hji' : j' = i
  ·rw [hji, hji']
  ·simp only [hji,if_true,if_neg hji'] at he
   rw [if_neg hji'] at h3'
   exact absurd (.inr ⟨j', h1', h2', h3', he⟩) n1.base
  ·simp only [hji',if_true,if_neg hji] at he
   rw [if_neg hji] at h3
   exact absurd (.inr ⟨j, h1, h2, h3, he.symm⟩) n1.base
  ·simp only [if_neg hji,if_neg hji'] at he h3 h3'
   exact hinj j j' h1 h2 h3 h1' h2' h3' he
end
end Go.Abs
end
section
set_option linter.unusedVariables false
set_option linter.unusedSimpArgs false
namespace Go.Abs
section
variable {P : Program} {B : Nat → Prop} {Φ : Oracle} {ops : Array Oper} {l : List AOper} {T : Nat → List AV} {G : Nat → Heap} {R : Nat → AV} {a b : Nat}
theorem FreeAt.tail (W : Went Φ l T G R) (F : FreeAt ops l a b) : ∀ n, a + n ≤ b → ∃ zs, G (a + n) = G a ++ zs ∧ zs.length = n ∧ ∀ j t ty cs, j < n → l[a + j]? = some ⟨some t, .alloc ty cs, none⟩ → zs[j]? = some (.obj ty [cs]) ∧ R (a + j) = .ptr ((G a).length + j) 0 0
 | 0, _ => ⟨[], by simp, rfl, fun j _ _ _ hj => by omega⟩
 | n + 1, h => by
  obtain ⟨zs, h1, h2, h3⟩ := FreeAt.tail W F n (by omega)
  obtain ⟨t, ty, cs, ho, _⟩ := F.op (a + n) (by omega) (by omega)
  obtain ⟨_, hs⟩ := W.step (a + n) _ ho
  have hop : aopc Φ (G (a + n)) (T (a + n)) (.alloc ty cs) = some (R (a + n), G (a + n + 1)) := by
   rcases hs with ⟨_, hop⟩ | ⟨hw, _⟩
   ·exact hop
   ·simp [wantedA] at hw
  have hop' : aopc Φ (G (a + n)) (T (a + n)) (.alloc ty cs) = some (.ptr (G (a + n)).length 0 0, G (a + n) ++ [.obj ty [cs]]) := rfl
  rw [hop'] at hop
  simp only [Option.some.injEq,Prod.mk.injEq] at hop
  obtain ⟨hr, hg⟩ := hop
  refine ⟨zs ++ [.obj ty [cs]], by rw [← Nat.add_assoc, ← hg, h1, List.append_assoc], by simp [h2], fun j u ty' cs' hj hl => ?_⟩
  by_cases hjn : j = n
  ·subst hjn
   rw [ho] at hl
   simp only [Option.some.injEq,AOper.mk.injEq,AOp.alloc.injEq,and_true] at hl
   obtain ⟨rfl, rfl, rfl⟩ := hl
   refine ⟨by rw [List.getElem?_append_right (by omega), h2]; simp, ?_⟩
   rw [← hr, h1, List.length_append, h2]
  ·obtain ⟨q1, q2⟩ := h3 j u ty' cs' (by omega) hl
   exact ⟨by rw [List.getElem?_append_left (by omega)]; exact q1, q2⟩
theorem Pre.bind (D : Draw Φ ops l T G R b) (F : FreeAt ops l a b) {E0 : Env} {L : Nat → Bool} {act : Act} {w : World} (M : Pre B E0 ops l T G R a b L act w) (hb : Bound l b L) : Mid B E0 ops l T G R L act w := by
 obtain ⟨E, f, kb, rfl, I, X, hf, f1, f2, hH, hR, hearly, hinj⟩ := M.state
 have hab := F.ab
 have hbl := F.bl
 have hG : G a = G f := D.quiets hf (by omega) fun d o h1 h2 h3 h4 => by
  have e1 := f2 d o h1 (.inl h2) h3 h4
  have e2 := hb d o (by omega) h3 h4
  rw [e1] at e2; simp at e2
 have hall : ∀ i, a ≤ i → i < b → L i = true := fun i h1 h2 => by
  obtain ⟨t, ty, cs, ho, _⟩ := F.op i h1 h2
  exact hb i _ h2 ho rfl
 obtain ⟨zs, z1, z2, z3⟩ := F.tail D.went (b - a) (by omega)
 rw [show a + (b - a) = b by omega, hG, ← hH] at z1
 rw [hG, ← hH] at z3
 have hm1 : ∀ id, id < E.H.length → (fun id => if id < E.H.length then E.m id else kb (a + (id - E.H.length))) id = E.m id := fun id h => by simp only [if_pos h]
 have hm2 : ∀ j, (fun id => if id < E.H.length then E.m id else kb (a + (id - E.H.length))) (E.H.length + j) = kb (a + j) := fun j => by
  simp only [if_neg (show ¬ E.H.length + j < E.H.length by omega),show E.H.length + j - E.H.length = j by omega]
 generalize (fun id => if id < E.H.length then E.m id else kb (a + (id - E.H.length))) = m' at hm1 hm2
 have ltOf : ∀ {id : Nat} {x : HO}, E.H[id]? = some x → id < E.H.length := fun h => (List.getElem?_eq_some_iff.1 h).1
 have X2 : Ext B E ⟨E.w, E.S, m', E.H ++ zs⟩ :=
  ⟨fun _ _ h => h, fun _ _ _ => rfl, Nat.le_refl _, fun _ _ => rfl, fun _ _ h => h, fun _ _ h => .inl h, rfl, rfl, rfl, by simp, fun id h => ⟨isObj_append h zs, hm1 id (by obtain ⟨_, _, he⟩ := h; exact ltOf he)⟩,
   fun id ty n h => ⟨n, by rw [List.getElem?_append_left (ltOf h)]; exact h, Nat.le_refl _, fun _ => hm1 id (ltOf h)⟩⟩
 have hzs : ∀ j, j < zs.length → ∃ t ty cs, l[a + j]? = some ⟨some t, .alloc ty cs, none⟩ ∧ zs[j]? = some (.obj ty [cs]) ∧ Early B E (kb (a + j)) ty cs := fun j hj => by
  obtain ⟨t, ty, cs, ho, _⟩ := F.op (a + j) (by omega) (by omega)
  exact ⟨t, ty, cs, ho, (z3 j t ty cs (by omega) ho).1, (hearly (a + j) t ty cs (by omega) (by omega) (hall _ (by omega) (by omega)) ho).2⟩
 have split : ∀ {id : Nat} {x : HO}, (E.H ++ zs)[id]? = some x → (id < E.H.length ∧ E.H[id]? = some x) ∨ ∃ j, id = E.H.length + j ∧ j < zs.length ∧ zs[j]? = some x := fun {id x} h => by
  by_cases hid : id < E.H.length
  ·rw [List.getElem?_append_left hid] at h; exact .inl ⟨hid, h⟩
  ·rw [List.getElem?_append_right (by omega)] at h
   exact .inr ⟨id - E.H.length, by omega, (List.getElem?_eq_some_iff.1 h).1, h⟩
 have hBle : ∀ x, B x → Held B a b L kb x := fun x hx => .inl hx
 have hbase : ∀ i, i < E.H.length → ¬ Held B a b L kb (E.m i).1 := fun i hi => by
  cases hh : E.H[i]? with
  | none => simp at hh; omega
  | some x =>
   cases x with
   | obj ty es => exact (I.obj i ty es hh).1.base
   | hw ty n => exact (I.hw i ty n hh).1.base
 have I2 : Inv B ⟨E.w, E.S, m', E.H ++ zs⟩ := by
  refine ⟨fun x hx => I.szB x (hBle x hx), I.sS, fun id ty es he => ?_, fun id ty n he => ?_, fun i j hi hj hij => ?_⟩
  ·rcases split he with ⟨hid, he⟩ | ⟨j, rfl, hj, he⟩
   ·obtain ⟨h1, h2, h3⟩ := I.obj id ty es he
    simp only [hm1 id hid]
    exact ⟨h1.less hBle, h2, h3.ext X2 fun _ => rfl⟩
   ·obtain ⟨t, ty', cs, ho, hz, he'⟩ := hzs j hj
    rw [hz] at he
    simp only [Option.some.injEq,HO.obj.injEq] at he
    obtain ⟨rfl, rfl⟩ := he
    simp only [hm2 j]
    exact ⟨he'.own, he'.out, he'.rows.ext X2 fun _ => rfl⟩
  ·rcases split he with ⟨hid, he⟩ | ⟨j, rfl, hj, he⟩
   ·obtain ⟨h1, h2⟩ := I.hw id ty n he
    simp only [hm1 id hid]
    exact ⟨h1.less hBle, h2⟩
   ·obtain ⟨t, ty', cs, ho, hz, he'⟩ := hzs j hj
    rw [hz] at he
    simp at he
  ·simp only [List.length_append] at hi hj
   simp only at hij
   by_cases h1 : i < E.H.length <;> by_cases h2 : j < E.H.length
   ·rw [hm1 i h1, hm1 j h2] at hij; exact I.inj i j h1 h2 hij
   ·have e2 := hm2 (j - E.H.length)
    rw [show E.H.length + (j - E.H.length) = j by omega] at e2
    rw [hm1 i h1, e2] at hij
    exact absurd (.inr ⟨a + (j - E.H.length), by omega, by omega, hall _ (by omega) (by omega), hij⟩) (hbase i h1)
   ·have e1 := hm2 (i - E.H.length)
    rw [show E.H.length + (i - E.H.length) = i by omega] at e1
    rw [hm1 j h2, e1] at hij
    exact absurd (.inr ⟨a + (i - E.H.length), by omega, by omega, hall _ (by omega) (by omega), hij.symm⟩) (hbase j h2)
   ·have e1 := hm2 (i - E.H.length)
    have e2 := hm2 (j - E.H.length)
    rw [show E.H.length + (i - E.H.length) = i by omega] at e1
    rw [show E.H.length + (j - E.H.length) = j by omega] at e2
    rw [e1, e2] at hij
    have := hinj _ _ (by omega) (by omega) (hall _ (by omega) (by omega)) (by omega) (by omega) (hall _ (by omega) (by omega)) hij
    omega
 refine ⟨M.closed, ⟨E.w, E.S, m', E.H ++ zs⟩, b, rfl, I2, X.trans X2, hbl, hb, fun d o h1 h2 h3 => f2 d o (by omega) (.inr h1) h2 h3, z1.symm, relAs_mk ?_ fun t x u hx hu => ?_, hR.2⟩
 ·have := relAs_length hR.1
  rw [this, tmAt_length, tmAt_length]
 ·by_cases hfree : ∃ i ty cs, a ≤ i ∧ i < b ∧ l[i]? = some ⟨some t, .alloc ty cs, none⟩
  ·obtain ⟨i, ty, cs, h1, h2, ho⟩ := hfree
   have hx' := tmAt_last (T0 := T 0) (dst := fun d => (l[d]?).bind (·.dst)) (R := R) (L := L) (t := t) (i := i) (by simp [ho]) (hall i h1 h2) l.length (by omega) (fun d hd1 hd2 hd => by
    cases hq : l[d]? with
    | none => rw [hq] at hd; simp at hd
    | some q =>
     rw [hq] at hd
     simp only [Option.bind_some] at hd
     exact M.lone i t ty cs h1 h2 ho d q (by omega) hq (tm_dst hd)) x hx
   obtain ⟨q1, _⟩ := hearly i t ty cs h1 h2 (hall i h1 h2) ho
   have hu' := q1 u (by simpa using hu)
   have hz := z3 (i - a) t ty cs (by omega) (by rw [show a + (i - a) = i by omega]; exact ho)
   rw [show a + (i - a) = i by omega] at hz
   rw [hx', hz.2]
   simp only [RelA]
   have hm := hm2 (i - a)
   rw [show a + (i - a) = i by omega] at hm
   rw [hm]
   exact ⟨hu', ty, [cs], by rw [List.getElem?_append_right (by omega)]; rw [show E.H.length + (i - a) - E.H.length = i - a by omega]; exact hz.1⟩
  ·have hsame : (tmAt (T 0) (fun d => (l[d]?).bind (·.dst)) (hideR R a b) L l.length)[t]? = some x := by
    rw [← hx]
    refine tmAt_getR _ fun d hd hdst _ => ?_
    unfold hideR
    split
    ·rename_i hdf
     obtain ⟨t', ty, cs, hq, _⟩ := F.op d hdf.1 hdf.2
     rw [hq] at hdst
     simp only [Option.bind_some,Option.some.injEq] at hdst
     subst hdst
     exact absurd ⟨d, ty, cs, hdf.1, hdf.2, hq⟩ hfree
    ·rfl
   obtain ⟨v, hv, hr⟩ := relAs_get hR.1 hsame
   rw [hv] at hu; injection hu with hu; subst hu
   exact relA_ext X2 x v hr
def Two (B : Nat → Prop) (E0 : Env) (ops : Array Oper) (l : List AOper) (T : Nat → List AV) (G : Nat → Heap) (R : Nat → AV) (a b : Nat) (L : Nat → Bool) (act : Act) (w : World) : Prop :=
 (Bound l b L → Mid B E0 ops l T G R L act w) ∧ (¬ Bound l b L → Pre B E0 ops l T G R a b L act w)
theorem Two.of (D : Draw Φ ops l T G R b) (F : FreeAt ops l a b) {E0 : Env} {L : Nat → Bool} {act : Act} {w : World} (M : Pre B E0 ops l T G R a b L act w) : Two B E0 ops l T G R a b L act w :=
 ⟨fun h => M.bind D F h, fun _ => M⟩
theorem Two.one (S : ∀ B, Sound P B Φ) {lit : Bool} (D : Draw Φ ops (ops.toList.map (compOper P lit ops)) T G R b) (F : FreeAt ops (ops.toList.map (compOper P lit ops)) a b) (hguards : ∀ o ∈ ops.toList, (compGuard ops o.guard).2 = true) {E0 : Env} {L : Nat → Bool} {act : Act} {w : World}
  (M : Two B E0 ops (ops.toList.map (compOper P lit ops)) T G R a b L act w) {i : Nat} (hi : i < ops.size) (hLi : L i = false) (hed : ∀ e ∈ ops[i].after, Region.binds .any e = true → L e.on = true) {K : Act → World → Prop} {Q : Exit → Act → World → Prop}
  (hK : ∀ a' w', Two B E0 ops (ops.toList.map (compOper P lit ops)) T G R a b (fun k => if k = i then true else L k) a' w' → K a' w') : wpOp P ops Q i K act w := by
 have ho : (ops.toList.map (compOper P lit ops))[i]? = some (compOper P lit ops ops[i]) := by simp [hi]
 by_cases hb : Bound (ops.toList.map (compOper P lit ops)) b L
 ·refine Draw.one (S B) D hguards (M.1 hb) hi (fun h2 => ?_) hLi hed fun a' w' M' => hK a' w' ⟨fun _ => M', fun hn => absurd (fun k o hk hko hc => ?_) hn⟩
  ·rcases Nat.lt_or_ge i b with h | h
   ·have := hb i _ h ho h2; rw [hLi] at this; simp at this
   ·exact h
  ·by_cases hki : k = i
   ·simp [hki]
   ·simp only [if_neg hki]; exact hb k o hk hko hc
 ·have Mp := M.2 hb
  by_cases hf : a ≤ i ∧ i < b
  ·exact Draw.early S D F hguards Mp hi hf.1 hf.2 hLi hed fun a' w' M' => hK a' w' (.of D F M')
  ·exact Draw.pre S D F hguards Mp hi hf hb hLi hed fun a' w' M' => hK a' w' (.of D F M')
theorem rest_any {M : (Nat → Bool) → Act → World → Prop} {Q : Exit → Act → World → Prop} (edge : ∀ i o, ops[i]? = some o → ∀ e ∈ o.after, Region.binds .any e = true → e.on < i)
  (hdone : ∀ L a w, M L a w → (∀ i, i < ops.size → L i = true) → Q .normal a w)
  (hone : ∀ L a w i (hi : i < ops.size), M L a w → L i = false → (∀ e ∈ ops[i].after, Region.binds .any e = true → L e.on = true) → ∀ K : Act → World → Prop, (∀ a' w', M (fun k => if k = i then true else L k) a' w' → K a' w') → wpOp P ops Q i K a w) :
  ∀ (fuel : Nat) (listed : Array Bool) (a : Act) (w : World), listed.size = ops.size → M (fun i => listed.getD i false) a w →
   (∃ U : List Nat, U.length ≤ fuel ∧ ∀ i, i < ops.size → listed.getD i false = false → i ∈ U) → wpAny P .any ops Q fuel listed a w := by
 have allDone : ∀ (listed : Array Bool), listed.size = ops.size → Region.ready .any ops listed = [] → ∀ i, i < ops.size → listed.getD i false = true := by
  intro listed hsz hr i
  induction i using Nat.strongRecOn with
  | _ i ih =>
   intro hi
   cases hb : listed.getD i false with
   | true => rfl
   | false =>
    exfalso
    have : i ∈ Region.ready .any ops listed := by
     unfold Region.ready
     rw [List.mem_filter]
     refine ⟨List.mem_range.2 hi, ?_⟩
     have hoi : ops[i]? = some ops[i] := by simp [hi]
     rw [hoi]
     simp only [Option.map_some,Option.getD_some,Bool.and_eq_true,Bool.not_eq_true']
     refine ⟨?_, ?_⟩
     ·rw [Array.getD_eq_getD_getElem?] at hb ⊢
      have : listed[i]? = some listed[i] := by simp [hsz, hi]
      rw [this] at hb ⊢
      simpa using hb
     ·rw [Array.all_eq_true']
      intro e he
      cases hbe : Region.binds .any e with
      | false => simp
      | true =>
       have hlt := edge i _ hoi e he hbe
       simp [ih e.on hlt (by omega)]
    rw [hr] at this
    simp at this
 intro fuel
 induction fuel with
 | zero =>
  intro listed a w hsz M hU
  obtain ⟨U, hU1, hU2⟩ := hU
  have hUn : U = [] := List.length_eq_zero_iff.1 (by omega)
  have hall : ∀ i, i < ops.size → listed.getD i false = true := fun i hi => by
   cases hb : listed.getD i false with
   | true => rfl
   | false => have := hU2 i hi hb; rw [hUn] at this; simp at this
  refine ⟨?_, hdone _ a w M hall⟩
  cases hr : Region.ready .any ops listed with
  | nil => rfl
  | cons i r =>
   exfalso
   obtain ⟨h1, h2, _⟩ := mem_ready (ops := ops) (listed := listed) (i := i) (by rw [hr]; simp)
   have := hall i h1
   rw [Array.getD_eq_getD_getElem?] at this h2
   have hx : listed[i]? = some listed[i] := by simp [hsz, h1]
   rw [hx] at this h2
   simp at this h2
   rw [this] at h2; simp at h2
 | succ fuel ih =>
  intro listed a w hsz M hU
  refine ⟨fun hr => hdone _ a w M (allDone listed hsz hr), fun i hi => ?_⟩
  obtain ⟨h1, h2, o, ho, hed⟩ := mem_ready hi
  have hx : listed[i]? = some listed[i] := by simp [hsz, h1]
  have hLi : listed.getD i false = false := by
   rw [Array.getD_eq_getD_getElem?] at h2 ⊢
   rw [hx] at h2 ⊢
   simpa using h2
  have hoe : ops[i]? = some ops[i] := by simp [h1]
  rw [hoe] at ho; injection ho with ho; subst ho
  refine hone _ a w i h1 M hLi hed _ fun a' w' M' => ih _ _ _ (by simp [hsz]) ?_ ?_
  ·have e1 : (fun k => (listed.setIfInBounds i true).getD k false) = fun k => if k = i then true else listed.getD k false := by
    funext k
    simp only [Array.getD_eq_getD_getElem?,Array.getElem?_setIfInBounds]
    by_cases hk : i = k
    ·subst hk; simp [hsz, h1]
    ·rw [if_neg hk, if_neg (fun e => hk e.symm)]
   rw [e1]; exact M'
  ·obtain ⟨U, hU1, hU2⟩ := hU
   refine ⟨U.erase i, ?_, fun j hj hb => ?_⟩
   ·have := List.length_erase_of_mem (hU2 i h1 hLi)
    have hpos : 0 < U.length := List.length_pos_of_mem (hU2 i h1 hLi)
    omega
   ·simp only [Array.getD_eq_getD_getElem?,Array.getElem?_setIfInBounds] at hb
    by_cases hk : i = j
    ·subst hk; simp [hsz, h1] at hb
    ·rw [if_neg hk] at hb
     exact (List.mem_erase_of_ne (fun e => hk e.symm)).2 (hU2 j hj (by rw [Array.getD_eq_getD_getElem?]; exact hb))
end
end Go.Abs
end
section
set_option linter.unusedVariables false
set_option linter.unusedSimpArgs false
namespace Go.Abs
def isFree : AOper → Bool
 | ⟨some _, .alloc _ cs, none⟩ => cs.all plainA
 | _ => false
theorem isFree_spec {o : AOper} (h : isFree o = true) : ∃ t ty cs, o = ⟨some t, .alloc ty cs, none⟩ ∧ cs.all plainA = true := by
 unfold isFree at h
 split at h
 ·exact ⟨_, _, _, rfl, h⟩
 ·simp at h
def is2 (l : List AOper) (i : Nat) : Bool := (l[i]?).any fun o => cls o.op == 2
def freeSpan (ops : Array Oper) (l : List AOper) : Nat × Nat :=
 let b := Region.before ops
 match (List.range l.length).find? fun i => ((l[i]?).any isFree) && (((List.range i).any fun k => is2 l k && !ordB b k i) || (((l[i + 1]?).any isFree) && !ordB b i (i + 1))) with
 | some a => (a, a + ((l.drop a).takeWhile isFree).length)
 | none => (0, 0)
def allAhead (b : Array Nat) (l : List AOper) (c q : Nat) : Bool := (List.range c).all fun k => !is2 l k || ordB b k q
def freeOk (ops : Array Oper) (l : List AOper) (a c : Nat) : Bool :=
 let b := Region.before ops
 decide (a ≤ c) && decide (c ≤ l.length) &&
 ((List.range l.length).all fun j => (l[j]?).all fun o => (tmpsOf o).all fun t => (List.range l.length).all fun d => d == j || !((l[d]?).any fun q => q.dst == some t) || ordB b (min d j) (max d j)) &&
 ((List.range l.length).all fun j => (List.range j).all fun i => !(decide (j < a) || decide (c ≤ j)) || !is2 l i || !is2 l j || ordB b i j) &&
 ((List.range ops.size).all fun i => (ops[i]?).all fun o => o.after.all fun e => !Region.binds .any e || e.on < i) &&
 ((List.range c).all fun i => decide (i < a) || (l[i]?).any isFree) &&
 ((List.range c).all fun i => decide (i < a) || (List.range l.length).all fun q => q == i || !((l[q]?).any fun o => (l[i]?).any fun r => (tmpsOf o).any fun t => r.dst == some t) || allAhead b l c q) &&
 ((List.range c).all fun i => decide (i < a) || (List.range l.length).all fun q => !ordB b i q || allAhead b l c q)
theorem is2_of {l : List AOper} {i : Nat} {o : AOper} (ho : l[i]? = some o) (h : cls o.op = 2) : is2 l i = true := by
 simp [is2, ho, h]
theorem allAhead_spec {b : Array Nat} {l : List AOper} {c q : Nat} (h : allAhead b l c q = true) {k : Nat} {r : AOper} (hk : k < c) (hr : l[k]? = some r) (h2 : cls r.op = 2) : ordB b k q = true := by
 have := List.all_eq_true.1 h k (List.mem_range.2 hk)
 simpa [is2_of hr h2] using this
theorem freeOk_spec {ops : Array Oper} {l : List AOper} {a c : Nat} (h : freeOk ops l a c = true) :
  (∀ j o, l[j]? = some o → ∀ t ∈ tmpsOf o, ∀ d q, l[d]? = some q → q.dst = some t → d ≠ j → ordB (Region.before ops) (min d j) (max d j) = true) ∧
  (∀ i j o q, c ≤ j → i < j → l[i]? = some o → l[j]? = some q → cls o.op = 2 → cls q.op = 2 → ordB (Region.before ops) i j = true) ∧
  (∀ i o, ops[i]? = some o → ∀ e ∈ o.after, Region.binds .any e = true → e.on < i) ∧ FreeAt ops l a c := by
 unfold freeOk at h
 simp only [Bool.and_eq_true] at h
 obtain ⟨⟨⟨⟨⟨⟨⟨h1, h2⟩, h3⟩, h4⟩, h5⟩, h6⟩, h7⟩, h8⟩ := h
 have hab := of_decide_eq_true h1
 have hbl := of_decide_eq_true h2
 have loud : ∀ i j o q, (j < a ∨ c ≤ j) → i < j → l[i]? = some o → l[j]? = some q → cls o.op = 2 → cls q.op = 2 → ordB (Region.before ops) i j = true := fun i j o q hj hij ho hq ho2 hq2 => by
  have hjl := (List.getElem?_eq_some_iff.1 hq).1
  have a1 := List.all_eq_true.1 h4 j (List.mem_range.2 hjl)
  have a2 := List.all_eq_true.1 a1 i (List.mem_range.2 hij)
  simp only [is2_of ho ho2,is2_of hq hq2] at a2
  rcases hj with hj | hj <;> simpa [hj] using a2
 refine ⟨fun j o ho t ht d q hq hd hne => ?_, fun i j o q hj => loud i j o q (.inr hj), fun i o ho e he hb => ?_, hab, hbl, fun i h1 h2 => ?_, fun i j o q hij hj => loud i j o q (.inl hj) hij, fun i t ty cs hi1 hi2 ho q o hqi hq ht k r hk hr hr2 => ?_, fun i hi1 hi2 q o hq hord k r hk hr hr2 => ?_⟩
 ·have hj := (List.getElem?_eq_some_iff.1 ho).1
  have hdl := (List.getElem?_eq_some_iff.1 hq).1
  have a1 := List.all_eq_true.1 h3 j (List.mem_range.2 hj)
  rw [ho] at a1
  simp only [Option.all_some] at a1
  have a2 := List.all_eq_true.1 a1 t ht
  have a3 := List.all_eq_true.1 a2 d (List.mem_range.2 hdl)
  rw [hq] at a3
  simp [hd, hne] at a3
  exact a3
 ·have hi := (Array.getElem?_eq_some_iff.1 ho).1
  have a1 := List.all_eq_true.1 h5 i (List.mem_range.2 hi)
  rw [ho] at a1
  simp only [Option.all_some] at a1
  rw [Array.all_eq_true'] at a1
  have a2 := a1 e he
  simp [hb] at a2
  exact a2
 ·have a1 := List.all_eq_true.1 h6 i (List.mem_range.2 h2)
  have hil : i < l.length := by omega
  rw [List.getElem?_eq_getElem hil] at a1 ⊢
  simp only [Option.any_some,Bool.or_eq_true,decide_eq_true_eq] at a1
  rcases a1 with a1 | a1
  ·omega
  ·obtain ⟨t, ty, cs, e1, e2⟩ := isFree_spec a1
   exact ⟨t, ty, cs, by rw [e1], e2⟩
 ·have a1 := List.all_eq_true.1 h7 i (List.mem_range.2 hi2)
  have hql := (List.getElem?_eq_some_iff.1 hq).1
  simp only [Bool.or_eq_true,decide_eq_true_eq] at a1
  rcases a1 with a1 | a1
  ·omega
  ·have a2 := List.all_eq_true.1 a1 q (List.mem_range.2 hql)
   rw [hq, ho] at a2
   have : (tmpsOf o).any (fun t' => (some t : Option Nat) == some t') = true := List.any_eq_true.2 ⟨t, ht, by simp⟩
   simp only [Option.any_some,this,Bool.not_true,Bool.or_false,Bool.or_eq_true,beq_iff_eq] at a2
   rcases a2 with a2 | a2
   ·exact absurd a2 hqi
   ·exact allAhead_spec a2 hk hr hr2
 ·have a1 := List.all_eq_true.1 h8 i (List.mem_range.2 hi2)
  have hql := (List.getElem?_eq_some_iff.1 hq).1
  simp only [Bool.or_eq_true,decide_eq_true_eq] at a1
  rcases a1 with a1 | a1
  ·omega
  ·have a2 := List.all_eq_true.1 a1 q (List.mem_range.2 hql)
   simp only [hord,Bool.not_true,Bool.false_or] at a2
   exact allAhead_spec a2 hk hr hr2
end Go.Abs
end
section
set_option linter.unusedVariables false
set_option linter.unusedSimpArgs false
namespace Go.Abs
def compRegion (P : Program) (lit : Bool) (ops : Array Oper) (draw : Bool) : ACode :=
 if ops.toList.all (fun o => (compGuard ops o.guard).2) then
  if draw then
   if drawOk ops (ops.toList.map (compOper P lit ops)) then .ops (ops.toList.map (compOper P lit ops)) (openPairs (Region.before ops) (ops.toList.map (compOper P lit ops)))
   else if freeOk ops (ops.toList.map (compOper P lit ops)) (freeSpan ops (ops.toList.map (compOper P lit ops))).1 (freeSpan ops (ops.toList.map (compOper P lit ops))).2 then .ops (ops.toList.map (compOper P lit ops)) (openPairs (Region.before ops) (ops.toList.map (compOper P lit ops)))
   else .bad
  else .ops (ops.toList.map (compOper P lit ops)) []
 else .bad
def compCode (P : Program) (lit : Bool) : Code → ACode
 | .skip => .skip
 | .region _ ops draw => compRegion P lit ops draw
 | .seq a b => .seq (compCode P lit a) (compCode P lit b)
 | .cond c a b => .cond (cO c) (compCode P lit a) (compCode P lit b)
 | .block id a => .block id (compCode P lit a)
 | .loop a => .loop (compCode P lit a)
 | .rangeFunc _ _ _ _ => .bad
 | .exit i => .exit i
 | .scope a => .scope (compCode P lit a) (compCode P lit a)
 | .label l => .label l
 | .goto l => .goto l
 | .ret => .ret
 | .refuse _ => .bad
section
variable {P : Program} {B : Nat → Prop} {E : Env}
theorem inv_drew (I : Inv B E) : Inv B ⟨E.w.drew, E.S, E.m, E.H⟩ ∧ Ext B E ⟨E.w.drew, E.S, E.m, E.H⟩ := by
 have X : Ext B E ⟨E.w.drew, E.S, E.m, E.H⟩ :=
  ⟨fun _ _ h => h, fun _ _ _ => rfl, Nat.le_refl _, fun _ _ => rfl, fun _ _ h => h, fun _ _ h => .inl h, rfl, rfl, rfl, Nat.le_refl _, fun _ h => ⟨h, rfl⟩, fun _ _ n h => ⟨n, h, Nat.le_refl _, fun _ => rfl⟩⟩
 refine ⟨⟨I.szB, I.sS, fun id ty es h => ?_, fun id ty n h => ?_, I.inj⟩, X⟩
 ·obtain ⟨h1, h2, h3⟩ := I.obj id ty es h
  exact ⟨⟨h1.base, h1.lt, h1.free, h1.shape⟩, h2, h3.ext X fun _ => rfl⟩
 ·obtain ⟨h1, h2⟩ := I.hw id ty n h
  exact ⟨⟨h1.base, h1.lt, h1.free, h1.shape⟩, h2⟩
theorem Post.trans {E' : Env} (X : Ext B E E') {tm : List AV} {H : Heap} {a : Act} {w : World} (h : Post B E' tm H a w) : Post B E tm H a w := by
 obtain ⟨F, h1, h2, h3, h4, h5⟩ := h
 exact ⟨F, h1, h2, h3, X.trans h4, h5⟩
theorem guards_of {ops : Array Oper} (h : ops.toList.all (fun o => (compGuard ops o.guard).2) = true) : ∀ o ∈ ops.toList, (compGuard ops o.guard).2 = true :=
 fun o ho => List.all_eq_true.1 h o ho
theorem draw_of {Φ : Oracle} {lit : Bool} {ops : Array Oper} {c : Nat} (d1 : ∀ j o, (ops.toList.map (compOper P lit ops))[j]? = some o → ∀ t ∈ tmpsOf o, ∀ d q, (ops.toList.map (compOper P lit ops))[d]? = some q → q.dst = some t → d ≠ j → ordB (Region.before ops) (min d j) (max d j) = true)
  (d2 : ∀ i j o q, c ≤ j → i < j → (ops.toList.map (compOper P lit ops))[i]? = some o → (ops.toList.map (compOper P lit ops))[j]? = some q → cls o.op = 2 → cls q.op = 2 → ordB (Region.before ops) i j = true)
  (d3 : ∀ i o, ops[i]? = some o → ∀ e ∈ o.after, Region.binds .any e = true → e.on < i) {tm tm' : List AV} {H H' : Heap}
  (h : xreg Φ (ops.toList.map (compOper P lit ops)) (openPairs (Region.before ops) (ops.toList.map (compOper P lit ops))) tm H (fun tm H => some (tm, H)) = some (tm', H')) :
  ∃ T G R, Draw Φ ops (ops.toList.map (compOper P lit ops)) T G R c ∧ T 0 = tm ∧ G 0 = H ∧ T ops.size = tm' ∧ G ops.size = H' := by
 have hn : (ops.toList.map (compOper P lit ops)).length = ops.size := by simp
 have pairMem : ∀ i e o q, (ops.toList.map (compOper P lit ops))[i]? = some o → (ops.toList.map (compOper P lit ops))[e]? = some q → cls o.op = 1 → cls q.op = 2 → ordB (Region.before ops) i e = false → ordB (Region.before ops) e i = false →
   (i, e) ∈ openPairs (Region.before ops) (ops.toList.map (compOper P lit ops)) := by
  intro i e o q ho hq h1 h2 h3 h4
  unfold openPairs
  rw [List.mem_flatMap]
  refine ⟨i, List.mem_range.2 (List.getElem?_eq_some_iff.1 ho).1, ?_⟩
  rw [List.mem_filterMap]
  refine ⟨e, List.mem_range.2 (List.getElem?_eq_some_iff.1 hq).1, ?_⟩
  rw [ho, hq]
  simp [h1, h2, h3, h4]
 unfold xreg at h
 split at h
 ·rename_i hps
  obtain ⟨T, G, R, hW, hT, hG, sts, _, _, h3⟩ := xops_went h
  rw [hn] at h3
  simp only [Option.some.injEq,Prod.mk.injEq] at h3
  refine ⟨T, G, R, ⟨hW, d1, d2, d3, fun i e o q ho hq h1 h2 h3 h4 => ?_⟩, hT, hG, h3.1, h3.2⟩
  have := pairMem i e o q ho hq h1 h2 h3 h4
  rw [hps] at this
  simp at this
 ·rename_i p0 ps0 hps
  obtain ⟨T, G, R, hW, hT, hG, sts, s1, s2, h3⟩ := xops_went h
  rw [hn] at h3 s1 s2
  split at h3
  ·rename_i hall
   simp only [Option.some.injEq,Prod.mk.injEq] at h3
   refine ⟨T, G, R, ⟨hW, d1, d2, d3, fun i e o q ho hq h1 h2 h3' h4 hw k x hk => ?_⟩, hT, hG, h3.1, h3.2⟩
   have hmem := pairMem i e o q ho hq h1 h2 h3' h4
   rw [hps] at hmem
   have hst := hall (i, e) hmem
   have hget : ∀ j, j ≤ ops.size → (((T ops.size, G ops.size) :: (sts.reverse ++ [])).reverse)[j]? = some (T j, G j) := by
    intro j hj
    simp only [List.append_nil,List.reverse_cons,List.reverse_reverse]
    by_cases hlt : j < ops.size
    ·rw [List.getElem?_append_left (by omega)]; exact s2 j hlt
    ·have : j = ops.size := by omega
     subst this
     rw [List.getElem?_append_right (by omega), s1]; simp
   have hi := (List.getElem?_eq_some_iff.1 ho).1
   have he := (List.getElem?_eq_some_iff.1 hq).1
   rw [hn] at hi he
   unfold stays at hst
   simp only [ho,hget i (by omega),hget e (by omega),hget (e + 1) (by omega)] at hst
   rw [hk] at hst
   simp only [loadOf] at hst
   rcases hst with hst | hst
   ·rw [hw] at hst; simp at hst
   ·exact hst
  ·simp at h3
theorem region_sound {Φ : Oracle} (hm : P.follows .mixedOrders = true) (S : ∀ B, Sound P B Φ) {lit : Bool} {id : Nat} {ops : Array Oper} {draw : Bool} {l : List AOper} {ps : List (Nat × Nat)} (hc : compRegion P lit ops draw = .ops l ps)
  {tm tm' : List AV} {H' : Heap} {a : Act} (I : Inv B E) (hR : RelT E tm a) (h : xreg Φ l ps tm E.H (fun tm H => some (tm, H)) = some (tm', H')) {Q : Exit → Act → World → Prop}
  (hQ : ∀ a' w', Post B E tm' H' a' w' → Q .normal a' w') : (Code.region id ops draw).wp P Q a E.w := by
 unfold compRegion at hc
 split at hc
 ·rename_i hg
  have hguards := guards_of hg
  cases draw with
  | false =>
   simp only [Bool.false_eq_true,if_false,ACode.ops.injEq] at hc
   obtain ⟨rfl, rfl⟩ := hc
   simp only [xreg] at h
   obtain ⟨T, G, R, hW, hT, hG, sts, _, _, h3⟩ := xops_went h
   have hn : (ops.toList.map (compOper P lit ops)).length = ops.size := by simp
   rw [hn] at h3
   simp only [Option.some.injEq,Prod.mk.injEq] at h3
   refine wp_region ?_
   rw [List.range_eq_range']
   refine text_wp (S B) hguards hW (E0 := E) (fun a w hp => hQ a w ?_) ops.size 0 (by omega) a E.w ⟨E, rfl, hG.symm, I, Ext.refl B E, by rw [hT]; exact hR⟩
   rw [← h3.1, ← h3.2]; exact hp
  | true =>
   simp only [if_true] at hc
   split at hc
   ·rename_i hd
    simp only [ACode.ops.injEq] at hc
    obtain ⟨rfl, rfl⟩ := hc
    obtain ⟨d1, d2, d3⟩ := drawOk_spec hd
    have hn : (ops.toList.map (compOper P lit ops)).length = ops.size := by simp
    obtain ⟨T, G, R, D, hT, hG, hT', hG'⟩ := draw_of (c := 0) d1 (fun i j o q _ => d2 i j o q) d3 h
    obtain ⟨I', X⟩ := inv_drew I
    refine wp_region_any hm ?_
    refine Draw.rest (S B) D hguards (E0 := E) (fun a w hp => hQ a w (by rw [← hT', ← hG']; exact hp)) ops.size _ a E.w.drew (by simp) ⟨fun j o _ hj => ?_, ⟨⟨E.w.drew, E.S, E.m, E.H⟩, 0, rfl, I', X, Nat.zero_le _, fun d o hd => by omega, fun d o _ _ _ => ?_, hG.symm, ?_⟩⟩ ⟨List.range ops.size, by simp, fun i hi _ => List.mem_range.2 hi⟩
    ·simp [Array.getD_eq_getD_getElem?, Array.getElem?_replicate] at hj
     split at hj <;> simp at hj
    ·simp [Array.getD_eq_getD_getElem?, Array.getElem?_replicate]
     split <;> rfl
    ·have : ∀ k, tmAt (T 0) (fun d => ((ops.toList.map (compOper P lit ops))[d]?).bind (·.dst)) R (fun i => (Array.replicate ops.size false).getD i false) k = T 0 := by
      intro k
      induction k with
      | zero => rfl
      | succ k ih =>
       unfold tmAt
       have : (Array.replicate ops.size false).getD k false = false := by
        simp [Array.getD_eq_getD_getElem?, Array.getElem?_replicate]; split <;> rfl
       rw [this, if_neg (by simp), ih]
     rw [this, hT]
     exact relT_ext X hR
   ·split at hc
    ·rename_i hd
     simp only [ACode.ops.injEq] at hc
     obtain ⟨rfl, rfl⟩ := hc
     obtain ⟨d1, d2, d3, F⟩ := freeOk_spec hd
     generalize (freeSpan ops (ops.toList.map (compOper P lit ops))).1 = fa at F
     generalize (freeSpan ops (ops.toList.map (compOper P lit ops))).2 = fb at F d2
     have hn : (ops.toList.map (compOper P lit ops)).length = ops.size := by simp
     obtain ⟨T, G, R, D, hT, hG, hT', hG'⟩ := draw_of (c := fb) d1 d2 d3 h
     obtain ⟨I', X⟩ := inv_drew I
     refine wp_region_any hm ?_
     have hrep : ∀ d, (Array.replicate ops.size false).getD d false = false := fun d => by
      simp [Array.getD_eq_getD_getElem?, Array.getElem?_replicate]
      split <;> rfl
     refine rest_any (M := fun L act w => Two B E ops (ops.toList.map (compOper P lit ops)) T G R fa fb L act w) d3 (fun L act w M hall => ?_) (fun L act w i hi M hLi hed K hK => Two.one S D F hguards M hi hLi hed hK) ops.size _ a E.w.drew (by simp) (Two.of D F ⟨fun j o _ hj => ?_, fun _ _ _ _ _ _ _ d _ _ _ _ => hrep d, ⟨⟨E.w.drew, E.S, E.m, E.H⟩, 0, fun _ => (0, 0, 0), rfl, ?_, X, Nat.zero_le _, fun d o hd => by omega, fun d o _ _ _ _ => hrep d, hG.symm, ?_, fun i _ _ _ _ _ hL => by rw [hrep i] at hL; simp at hL, fun i _ _ _ hL => by rw [hrep i] at hL; simp at hL⟩⟩) ⟨List.range ops.size, by simp, fun i hi _ => List.mem_range.2 hi⟩
     ·have M' := M.1 fun k o hk hko _ => hall k (by have := (List.getElem?_eq_some_iff.1 hko).1; omega)
      obtain ⟨E', f, rfl, I1, X1, hf, f1, f2, hH, hR'⟩ := M'.state
      refine hQ act _ ⟨E', rfl, ?_, I1, X1, ?_⟩
      ·rw [hH, ← hG', ← hn]
       exact (D.quiets hf (Nat.le_refl _) fun d o h1 h2 h3 h4 => by
        have := f2 d o h1 h3 h4
        rw [hall d (by omega)] at this; simp at this).symm
      ·have := tmAt_all (T0 := T 0) (dst := fun d => ((ops.toList.map (compOper P lit ops))[d]?).bind (·.dst)) (R := R) (T := T) rfl (ops.toList.map (compOper P lit ops)).length (fun i hi => by
        have h := (D.went.step i _ (List.getElem?_eq_getElem hi)).1
        rw [h, List.getElem?_eq_getElem hi]; rfl) L (fun i hi => hall i (by omega))
       rw [this, hn, hT'] at hR'
       exact hR'
     ·simp only [hrep] at hj; simp at hj
     ·have : Held B fa fb (fun i => (Array.replicate ops.size false).getD i false) (fun _ => (0, 0, 0)) = B := by
       funext x
       unfold Held
       apply propext
       constructor
       ·rintro (h | ⟨i, _, _, h3, _⟩)
        ·exact h
        ·simp only [hrep i] at h3; simp at h3
       ·exact .inl
      rw [this]; exact I'
     ·have : ∀ k, tmAt (T 0) (fun d => ((ops.toList.map (compOper P lit ops))[d]?).bind (·.dst)) (hideR R fa fb) (fun i => (Array.replicate ops.size false).getD i false) k = T 0 := by
       intro k
       induction k with
       | zero => rfl
       | succ k ih =>
        unfold tmAt
        rw [hrep k, if_neg (by simp), ih]
      rw [this, hT]
      exact relT_ext X hR
    ·simp at hc
 ·simp at hc
def exitOf : AEx → Exit
 | .normal => .normal
 | .exit i => .exit i
 | .goto l => .goto l
 | .ret => .ret
def LoopAt (P : Program) (c : Code) (Q : Exit → Act → World → Prop) (a : Act) (w : World) : Prop :=
 ∀ (b : Frame) (k : List Item) (cs : List Frame), ∃ e a' w', Q e a' w' ∧ Arrives P (lone (b.at a (.code c :: .inLoop c :: k)) cs w) b k cs e a' w'
theorem wp_of_loopAt {c : Code} {Q : Exit → Act → World → Prop} {a : Act} {w : World} (h : LoopAt P c Q a w) : (Code.loop c).wp P Q a w := by
 intro b k cs
 obtain ⟨e, a', w', hq, harr⟩ := h b k cs
 exact ⟨e, a', w', hq, .of_steps (.one step_loop) harr⟩
theorem loopAt_round {c : Code} {Q : Exit → Act → World → Prop} {a : Act} {w : World} (h : c.wp P (Exit.then (fun a w => LoopAt P c Q a w) Q) a w) : LoopAt P c Q a w := by
 intro b k cs
 obtain ⟨e, a₁, w₁, hq, harr⟩ := h b (.inLoop c :: k) cs
 cases e with
 | normal =>
  obtain ⟨e₂, a₂, w₂, hq₂, harr₂⟩ := hq b k cs
  exact ⟨e₂, a₂, w₂, hq₂, .of_steps (Steps.trans harr (.one step_inLoop)) harr₂⟩
 | exit id => exact ⟨_, a₁, w₁, hq, .pass (x := .inLoop c) rfl (fun _ _ => .inl (by simp)) harr⟩
 | goto l => exact ⟨_, a₁, w₁, hq, .pass (x := .inLoop c) rfl (fun _ _ => .inl (by simp)) harr⟩
 | ret => exact ⟨_, a₁, w₁, hq, .pass (x := .inLoop c) rfl (fun _ _ => .inl (by simp)) harr⟩
 | panic ch => exact ⟨_, a₁, w₁, hq, .pass (x := .inLoop c) rfl (fun _ _ => .inl (by simp)) harr⟩
 | outgrown => exact ⟨_, a₁, w₁, hq, .pass (x := .inLoop c) rfl (fun _ _ => .inl (by simp)) harr⟩
def ScopeAt (P : Program) (body cur : Code) (Q : Exit → Act → World → Prop) (a : Act) (w : World) : Prop :=
 ∀ (b : Frame) (k : List Item) (cs : List Frame), ∃ e a' w', Q e a' w' ∧ Arrives P (lone (b.at a (.code cur :: .inScope body :: k)) cs w) b k cs e a' w'
theorem wp_of_scopeAt {c : Code} {Q : Exit → Act → World → Prop} {a : Act} {w : World} (h : ScopeAt P c c Q a w) : (Code.scope c).wp P Q a w := by
 intro b k cs
 obtain ⟨e, a', w', hq, harr⟩ := h b k cs
 exact ⟨e, a', w', hq, .of_steps (.one step_scope) harr⟩
def Exit.inScope (P : Program) (body : Code) (Q : Exit → Act → World → Prop) : Exit → Act → World → Prop
 | .goto l, a, w => ∃ rest, findLabel body l = some rest ∧ ScopeAt P body rest Q a w
 | e, a, w => Q e a w
theorem scopeAt_step {body cur : Code} {Q : Exit → Act → World → Prop} {a : Act} {w : World} (h : cur.wp P (Exit.inScope P body Q) a w) : ScopeAt P body cur Q a w := by
 intro b k cs
 obtain ⟨e, a₁, w₁, hq, harr⟩ := h b (.inScope body :: k) cs
 cases e with
 | normal => exact ⟨.normal, a₁, w₁, hq, Steps.trans harr (.one step_inScope)⟩
 | exit id => exact ⟨.exit id, a₁, w₁, hq, fun k' hk => harr k' (by simp [exitTo, hk])⟩
 | goto l =>
  obtain ⟨rest, hr, hs⟩ := hq
  obtain ⟨e₂, a₂, w₂, hq₂, harr₂⟩ := hs b k cs
  exact ⟨e₂, a₂, w₂, hq₂, .of_steps (harr _ (by simp [gotoIn, hr])) harr₂⟩
 | ret => exact ⟨_, a₁, w₁, hq, harr⟩
 | panic ch => exact ⟨_, a₁, w₁, hq, harr⟩
 | outgrown => exact ⟨_, a₁, w₁, hq, harr⟩
theorem findA_comp {lit : Bool} : ∀ (c : Code) (l : Nat) (r : ACode), findA (compCode P lit c) l = some r → ∃ rest, findLabel c l = some rest ∧ r = compCode P lit rest
 | .seq a b, l, r, h => by
  simp only [compCode,findA] at h
  simp only [findLabel]
  cases ha : findA (compCode P lit a) l with
  | some x =>
   rw [ha] at h
   injection h with h
   obtain ⟨rest, h1, h2⟩ := findA_comp a l x ha
   rw [h1]
   exact ⟨.seq rest b, rfl, by rw [← h, h2]; rfl⟩
  | none =>
   rw [ha] at h
   obtain ⟨rest, h1, h2⟩ := findA_comp b l r h
   have hn : findLabel a l = none := findLabel_none a l ha
   rw [hn]
   exact ⟨rest, h1, h2⟩
 | .label l', l, r, h => by
  simp only [compCode,findA] at h
  simp only [findLabel]
  split at h
  ·rename_i hl
   injection h with h
   exact ⟨.skip, by simp [hl], h.symm⟩
  ·simp at h
 | .skip, l, r, h => by simp [compCode, findA] at h
 | .region _ ops draw, l, r, h => by
  simp only [compCode,compRegion] at h
  exfalso
  (repeat' split at h) <;> simp [findA] at h
 | .cond _ _ _, l, r, h => by simp [compCode, findA] at h
 | .block _ _, l, r, h => by simp [compCode, findA] at h
 | .loop _, l, r, h => by simp [compCode, findA] at h
 | .rangeFunc _ _ _ _, l, r, h => by simp [compCode, findA] at h
 | .exit _, l, r, h => by simp [compCode, findA] at h
 | .scope _, l, r, h => by simp [compCode, findA] at h
 | .goto _, l, r, h => by simp [compCode, findA] at h
 | .ret, l, r, h => by simp [compCode, findA] at h
 | .refuse _, l, r, h => by simp [compCode, findA] at h
where
 findLabel_none : ∀ (c : Code) (l : Nat), findA (compCode P lit c) l = none → findLabel c l = none
 | .seq a b, l, h => by
  simp only [compCode,findA] at h
  simp only [findLabel]
  cases ha : findA (compCode P lit a) l with
  | some x => rw [ha] at h; simp at h
  | none =>
   rw [ha] at h
   rw [findLabel_none a l ha]
   exact findLabel_none b l h
 | .label l', l, h => by
  simp only [compCode,findA] at h
  simp only [findLabel]
  split at h
  ·simp at h
  ·rename_i hl; simp [hl]
 | .skip, l, h => rfl
 | .region _ _ _, l, h => rfl
 | .cond _ _ _, l, h => rfl
 | .block _ _, l, h => rfl
 | .loop _, l, h => rfl
 | .rangeFunc _ _ _ _, l, h => rfl
 | .exit _, l, h => rfl
 | .scope _, l, h => rfl
 | .goto _, l, h => rfl
 | .ret, l, h => rfl
 | .refuse _, l, h => rfl
theorem exec_sound {Φ : Oracle} (hm : P.follows .mixedOrders = true) (S : ∀ B, Sound P B Φ) {lit : Bool} : ∀ k : Nat,
  (∀ (c : Code) (tm : List AV) (e : AEx) (tm' : List AV) (H' : Heap) (E : Env) (a : Act) (Q : Exit → Act → World → Prop), execF Φ k (compCode P lit c) tm E.H = some (e, tm', H') → Inv B E → RelT E tm a → (∀ a' w', Post B E tm' H' a' w' → Q (exitOf e) a' w') → c.wp P Q a E.w) ∧
  (∀ (c : Code) (tm : List AV) (e : AEx) (tm' : List AV) (H' : Heap) (E : Env) (a : Act) (Q : Exit → Act → World → Prop), execF Φ k (.loop (compCode P lit c)) tm E.H = some (e, tm', H') → Inv B E → RelT E tm a → (∀ a' w', Post B E tm' H' a' w' → Q (exitOf e) a' w') → LoopAt P c Q a E.w) ∧
  (∀ (body cur : Code) (tm : List AV) (e : AEx) (tm' : List AV) (H' : Heap) (E : Env) (a : Act) (Q : Exit → Act → World → Prop), execF Φ k (.scope (compCode P lit body) (compCode P lit cur)) tm E.H = some (e, tm', H') → Inv B E → RelT E tm a → (∀ a' w', Post B E tm' H' a' w' → Q (exitOf e) a' w') → ScopeAt P body cur Q a E.w) := by
 intro k
 induction k with
 | zero => exact ⟨fun _ _ _ _ _ _ _ _ h => by simp [execF] at h, fun _ _ _ _ _ _ _ _ h => by simp [execF] at h, fun _ _ _ _ _ _ _ _ _ h => by simp [execF] at h⟩
 | succ k ih =>
  obtain ⟨ih1, ih2, ih3⟩ := ih
  have loopC : ∀ (c : Code) (tm : List AV) (e : AEx) (tm' : List AV) (H' : Heap) (E : Env) (a : Act) (Q : Exit → Act → World → Prop), execF Φ (k + 1) (.loop (compCode P lit c)) tm E.H = some (e, tm', H') → Inv B E → RelT E tm a → (∀ a' w', Post B E tm' H' a' w' → Q (exitOf e) a' w') → LoopAt P c Q a E.w := by
   intro c tm e tm' H' E a Q h I hR hQ
   simp only [execF] at h
   cases hx : execF Φ k (compCode P lit c) tm E.H with
   | none => rw [hx] at h; simp at h
   | some o =>
    obtain ⟨e1, tm1, H1⟩ := o
    rw [hx] at h
    refine loopAt_round (ih1 c tm e1 tm1 H1 E a _ hx I hR fun a' w' hp => ?_)
    cases e1 with
    | normal =>
     simp only at h
     obtain ⟨E1, rfl, rfl, I1, X1, R1⟩ := hp
     exact ih2 c tm1 e tm' H' E1 a' Q h I1 R1 fun a'' w'' hp' => hQ a'' w'' (hp'.trans X1)
    | exit i => simp only [Option.some.injEq,Prod.mk.injEq] at h; obtain ⟨rfl, rfl, rfl⟩ := h; exact hQ a' w' hp
    | goto l => simp only [Option.some.injEq,Prod.mk.injEq] at h; obtain ⟨rfl, rfl, rfl⟩ := h; exact hQ a' w' hp
    | ret => simp only [Option.some.injEq,Prod.mk.injEq] at h; obtain ⟨rfl, rfl, rfl⟩ := h; exact hQ a' w' hp
  have scopeC : ∀ (body cur : Code) (tm : List AV) (e : AEx) (tm' : List AV) (H' : Heap) (E : Env) (a : Act) (Q : Exit → Act → World → Prop), execF Φ (k + 1) (.scope (compCode P lit body) (compCode P lit cur)) tm E.H = some (e, tm', H') → Inv B E → RelT E tm a → (∀ a' w', Post B E tm' H' a' w' → Q (exitOf e) a' w') → ScopeAt P body cur Q a E.w := by
   intro body cur tm e tm' H' E a Q h I hR hQ
   simp only [execF] at h
   cases hx : execF Φ k (compCode P lit cur) tm E.H with
   | none => rw [hx] at h; simp at h
   | some o =>
    obtain ⟨e1, tm1, H1⟩ := o
    rw [hx] at h
    refine scopeAt_step (ih1 cur tm e1 tm1 H1 E a _ hx I hR fun a' w' hp => ?_)
    cases e1 with
    | normal => simp only [Option.some.injEq,Prod.mk.injEq] at h; obtain ⟨rfl, rfl, rfl⟩ := h; exact hQ a' w' hp
    | exit i => simp only [Option.some.injEq,Prod.mk.injEq] at h; obtain ⟨rfl, rfl, rfl⟩ := h; exact hQ a' w' hp
    | ret => simp only [Option.some.injEq,Prod.mk.injEq] at h; obtain ⟨rfl, rfl, rfl⟩ := h; exact hQ a' w' hp
    | goto l =>
     simp only at h
     cases hf : findA (compCode P lit body) l with
     | none => rw [hf] at h; simp at h
     | some r =>
      rw [hf] at h
      obtain ⟨rest, h1, rfl⟩ := findA_comp body l r hf
      obtain ⟨E1, rfl, rfl, I1, X1, R1⟩ := hp
      exact ⟨rest, h1, ih3 body rest tm1 e tm' H' E1 a' Q h I1 R1 fun a'' w'' hp' => hQ a'' w'' (hp'.trans X1)⟩
  refine ⟨fun c tm e tm' H' E a Q h I hR hQ => ?_, loopC, scopeC⟩
  cases c with
  | skip =>
   simp only [compCode,execF,Option.some.injEq,Prod.mk.injEq] at h
   obtain ⟨rfl, rfl, rfl⟩ := h
   exact wp_skip (hQ a E.w ⟨E, rfl, rfl, I, Ext.refl B E, hR⟩)
  | label l =>
   simp only [compCode,execF,Option.some.injEq,Prod.mk.injEq] at h
   obtain ⟨rfl, rfl, rfl⟩ := h
   exact wp_label (hQ a E.w ⟨E, rfl, rfl, I, Ext.refl B E, hR⟩)
  | region id ops draw =>
   simp only [compCode] at h
   cases hc : compRegion P lit ops draw with
   | ops l ps =>
    rw [hc] at h
    simp only [execF] at h
    have hx : xreg Φ l ps tm E.H (fun tm H => some (tm, H)) = some (tm', H') ∧ e = .normal := by
     unfold xreg at h ⊢
     split at h
     ·obtain ⟨T, G, R, hW, hT, hG, sts, s1, s2, h3⟩ := xops_went h
      simp only [Option.some.injEq,Prod.mk.injEq] at h3
      refine ⟨?_, h3.1.symm⟩
      exact xops_map (g := fun o : Out => (o.2.1, o.2.2)) (K := fun _ tm H => some (AEx.normal, tm, H)) (fun _ _ _ => rfl) h
     ·obtain ⟨T, G, R, hW, hT, hG, sts, s1, s2, h3⟩ := xops_went h
      split at h3
      ·simp only [Option.some.injEq,Prod.mk.injEq] at h3
       refine ⟨?_, h3.1.symm⟩
       exact xops_map (g := fun o : Out => (o.2.1, o.2.2)) (fun tr tm H => by split <;> rfl) h
      ·simp at h3
    obtain ⟨hx, rfl⟩ := hx
    exact region_sound hm S hc I hR hx fun a' w' hp => hQ a' w' hp
   | bad => rw [hc] at h; simp [execF] at h
   | _ => unfold compRegion at hc; (repeat' split at hc) <;> simp at hc
  | seq x y =>
   simp only [compCode,execF] at h
   cases hx : execF Φ k (compCode P lit x) tm E.H with
   | none => rw [hx] at h; simp at h
   | some o =>
    obtain ⟨e1, tm1, H1⟩ := o
    rw [hx] at h
    refine wp_seq (ih1 x tm e1 tm1 H1 E a _ hx I hR fun a' w' hp => ?_)
    cases e1 with
    | normal =>
     simp only at h
     obtain ⟨E1, rfl, rfl, I1, X1, R1⟩ := hp
     exact ih1 y tm1 e tm' H' E1 a' Q h I1 R1 fun a'' w'' hp' => hQ a'' w'' (hp'.trans X1)
    | exit i => simp only [Option.some.injEq,Prod.mk.injEq] at h; obtain ⟨rfl, rfl, rfl⟩ := h; exact hQ a' w' hp
    | goto l => simp only [Option.some.injEq,Prod.mk.injEq] at h; obtain ⟨rfl, rfl, rfl⟩ := h; exact hQ a' w' hp
    | ret => simp only [Option.some.injEq,Prod.mk.injEq] at h; obtain ⟨rfl, rfl, rfl⟩ := h; exact hQ a' w' hp
  | cond c x y =>
   simp only [compCode,execF] at h
   have hc := rel_opd hR c
   split at h
   ·rename_i t ht
    rw [ht] at hc
    simp only [RelA,RelD] at hc
    cases t with
    | true => exact wp_cond_true hc (ih1 x tm e tm' H' E a Q (by simpa using h) I hR hQ)
    | false => exact wp_cond_false hc (ih1 y tm e tm' H' E a Q (by simpa using h) I hR hQ)
   ·simp at h
  | block id x =>
   simp only [compCode,execF] at h
   cases hx : execF Φ k (compCode P lit x) tm E.H with
   | none => rw [hx] at h; simp at h
   | some o =>
    obtain ⟨e1, tm1, H1⟩ := o
    rw [hx] at h
    refine wp_block (ih1 x tm e1 tm1 H1 E a _ hx I hR fun a' w' hp => ?_)
    cases e1 with
    | normal => simp only [Option.some.injEq,Prod.mk.injEq] at h; obtain ⟨rfl, rfl, rfl⟩ := h; exact hQ a' w' hp
    | exit i =>
     simp only at h
     simp only [exitOf,Exit.inBlock]
     split at h
     ·rename_i hi
      simp only [Option.some.injEq,Prod.mk.injEq] at h; obtain ⟨rfl, rfl, rfl⟩ := h
      rw [if_pos hi]; exact hQ a' w' hp
     ·rename_i hi
      simp only [Option.some.injEq,Prod.mk.injEq] at h; obtain ⟨rfl, rfl, rfl⟩ := h
      rw [if_neg hi]; exact hQ a' w' hp
    | goto l => simp only [Option.some.injEq,Prod.mk.injEq] at h; obtain ⟨rfl, rfl, rfl⟩ := h; exact hQ a' w' hp
    | ret => simp only [Option.some.injEq,Prod.mk.injEq] at h; obtain ⟨rfl, rfl, rfl⟩ := h; exact hQ a' w' hp
  | loop x => exact wp_of_loopAt (loopC x tm e tm' H' E a Q (by simpa only [compCode] using h) I hR hQ)
  | scope x => exact wp_of_scopeAt (scopeC x x tm e tm' H' E a Q (by simpa only [compCode] using h) I hR hQ)
  | exit i =>
   simp only [compCode,execF,Option.some.injEq,Prod.mk.injEq] at h
   obtain ⟨rfl, rfl, rfl⟩ := h
   exact wp_exit (hQ a E.w ⟨E, rfl, rfl, I, Ext.refl B E, hR⟩)
  | goto l =>
   simp only [compCode,execF,Option.some.injEq,Prod.mk.injEq] at h
   obtain ⟨rfl, rfl, rfl⟩ := h
   exact wp_goto (hQ a E.w ⟨E, rfl, rfl, I, Ext.refl B E, hR⟩)
  | ret =>
   simp only [compCode,execF,Option.some.injEq,Prod.mk.injEq] at h
   obtain ⟨rfl, rfl, rfl⟩ := h
   exact wp_ret (hQ a E.w ⟨E, rfl, rfl, I, Ext.refl B E, hR⟩)
  | rangeFunc _ _ _ _ => simp [compCode, execF] at h
  | refuse _ => simp [compCode, execF] at h
where
 xops_map {R₀ R₁ : Type} {Φ : Oracle} {g : R₀ → R₁} {K : List (List AV × Heap) → List AV → Heap → Option R₀} {K' : List (List AV × Heap) → List AV → Heap → Option R₁} (hK : ∀ tr tm H, K' tr tm H = (K tr tm H).map g) :
   ∀ {l : List AOper} {tr : List (List AV × Heap)} {tm : List AV} {H : Heap} {x : R₀}, xops Φ l tr tm H K = some x → xops Φ l tr tm H K' = some (g x)
  | [], tr, tm, H, x, h => by simp only [xops] at h ⊢; rw [hK, h]; rfl
  | o :: l, tr, tm, H, x, h => by
   simp only [xops] at h ⊢
   split at h
   ·split at h
    ·exact xops_map hK h
    ·simp at h
   ·exact xops_map hK h
   ·simp at h
end
end Go.Abs
end
section
set_option linter.unusedVariables false
set_option linter.unusedSimpArgs false
namespace Go.Abs
def compRes (P : Program) : List ResultVar → Option (List (Nat × Option (Option Nat)))
 | [] => some []
 | .tmp t :: l => match compRes P l with
  | some r => some ((t, none) :: r)
  | none => none
 | .cell a t :: l => match sizeA P t, compRes P l with
  | some k, some r => some ((a, some k) :: r)
  | _, _ => none
def compF (P : Program) (no : FuncId → Bool) (pol : FuncId → Bool × Bool) (f : FuncId) : Option AFunc :=
 if no f = true then none else
 match P.funcs[f]? with
 | some fn => if fn.name == "runtime.NumGoroutine" then none else
  match fn.body with
  | some c => match compRes P fn.results.toList with
   | some rs => some { ntmps := fn.ntmps, results := rs, code := compCode P (pol f).1 c, keep := (pol f).2 }
   | none => none
  | none => none
 | none => none
section
variable {P : Program} {B : Nat → Prop} {E : Env}
theorem refsLts_get {n : Nat} : ∀ {l : List AV}, refsLts n l = true → ∀ {j : Nat} {a : AV}, l[j]? = some a → refsLt n a = true
 | a :: l, h, 0, a', ha => by
  simp only [refsLts,Bool.and_eq_true] at h
  simp at ha; subst ha; exact h.1
 | a :: l, h, j + 1, a', ha => by
  simp only [refsLts,Bool.and_eq_true] at h
  exact refsLts_get h.2 (j := j) (by simpa using ha)
theorem degrade1_rel {a : AV} {v : Value} (h : RelA E a v) : RelA E (degrade1 a) v := by
 unfold degrade1
 split
 ·rename_i d hd
  simp only [RelA]
  exact relD_of_toDat a v d h hd
 ·exact h
theorem degrade_rel {a : AV} {v : Value} (h : RelA E a v) : RelA E (degrade a) v := by
 unfold degrade
 split
 ·rename_i d hd
  simp only [RelA]
  exact relD_of_toDat a v d h hd
 ·split
  ·rename_i cs _
   simp only [RelA] at h ⊢
   obtain ⟨vs, hv, hl⟩ := h
   refine ⟨vs, hv, relAs_mk (by rw [relAs_length hl]; simp) fun j x u hx hu => ?_⟩
   rw [List.getElem?_map] at hx
   cases hj : cs[j]? with
   | none => rw [hj] at hx; simp at hx
   | some y =>
    rw [hj] at hx
    simp only [Option.map_some,Option.some.injEq] at hx
    subst hx
    obtain ⟨u', hu', hr⟩ := relAs_get hl hj
    rw [hu'] at hu; injection hu with hu; subst hu
    exact degrade1_rel hr
  ·exact h
theorem leave_sound {E0 : Env} (I0 : Inv B E0) (I : Inv B E) (X : Ext B E0 E) {keep : Bool} {r0 r : AV} {v : Value} (h : RelA E r0 v) {H' : Heap} (hl : leave E0.H keep r0 E.H = (r, H')) :
  ∃ E', E'.w = E.w ∧ E'.H = H' ∧ Inv B E' ∧ Ext B E0 E' ∧ RelA E' r v := by
 have h1 : RelA E (if keep then r0 else degrade r0) v := by split <;> first | exact h | exact degrade_rel h
 unfold leave at hl
 generalize (if keep = true then r0 else degrade r0) = r1 at h1 hl
 split at hl
 ·rename_i hc
  obtain ⟨hr, hheld⟩ := hc
  obtain ⟨rfl, rfl⟩ := Prod.mk.inj hl
  have hlen := X.len
  refine ⟨⟨E.w, E.S, E.m, E.H.take E0.H.length⟩, rfl, rfl, ⟨I.szB, I.sS, fun id ty es he => ?_, fun id ty n he => ?_, fun i j hi hj hij => ?_⟩, ?_, relA_take _ _ _ h1 hr⟩
  ·simp only [List.getElem?_take] at he
   split at he
   ·rename_i hid
    obtain ⟨a1, a2, a3⟩ := I.obj id ty es he
    refine ⟨a1, a2, fun i e hie => ?_⟩
    obtain ⟨b1, b2⟩ := a3 i e hie
    refine ⟨b1, fun j a ha => ?_⟩
    obtain ⟨u, hu, hru, hk⟩ := b2 j a ha
    refine ⟨u, hu, relA_take _ a u hru ?_, hk⟩
    rcases hheld id hid with hs | ⟨o, ho, hro⟩
    ·-- it stands there since the beginning
     rw [he] at hs
     obtain ⟨_, _, c3⟩ := I0.obj id ty es hs.symm
     obtain ⟨u0, _, hr0, _⟩ := (c3 i e hie).2 j a ha
     exact relA_refs a u0 hr0
    ·rw [he] at ho; injection ho with ho; subst ho
     simp only [refsO] at hro
     exact refsLts_get (List.all_eq_true.1 hro e (List.mem_of_getElem? hie)) ha
   ·simp at he
  ·simp only [List.getElem?_take] at he
   split at he
   ·exact I.hw id ty n he
   ·simp at he
  ·simp only [List.length_take] at hi hj
   exact I.inj i j (by omega) (by omega) hij
  ·exact {
    ss := X.ss, cell := X.cell, size := X.size, low := X.low, there := X.there, snew := X.snew, os := X.os, tape := X.tape, output := X.output
    len := by simp only [List.length_take]; omega
    obj := fun id ho => ⟨isObj_take (X.obj id ho).1 (by obtain ⟨_, es, he⟩ := ho; exact (List.getElem?_eq_some_iff.1 he).1), (X.obj id ho).2⟩
    hw := fun id ty n hn => by
     obtain ⟨n', c1, c2, c3⟩ := X.hw id ty n hn
     exact ⟨n', by simp only [List.getElem?_take,if_pos (List.getElem?_eq_some_iff.1 hn).1]; exact c1, c2, c3⟩ }
 ·simp only [Prod.mk.injEq] at hl
  obtain ⟨rfl, rfl⟩ := hl
  exact ⟨E, rfl, rfl, I, X, h1⟩
def resOne (tmps : Array Value) : ResultVar → Sem Value
 | .tmp t => pure (tmps.getD t undef)
 | .cell a t => do loadVar t (← asAddr (tmps.getD a undef))
theorem res_spec (I : Inv B E) {tm : List AV} {a : Act} (hR : RelT E tm a) : ∀ {rs : List ResultVar} {ars : List (Nat × Option (Option Nat))} {l : List AV}, compRes P rs = some ars → resA tm E.H ars = some l →
  ∃ vs : List Value, (rs.mapM (resOne a.tmps)).run P E.w = .ok vs E.w ∧ RelAs E l vs
 | [], ars, l, hc, h => by
  simp only [compRes] at hc; injection hc with hc; subst hc
  simp only [resA] at h; injection h with h; subst h
  exact ⟨[], by simp, by simp only [RelAs]⟩
 | .tmp t :: rs, ars, l, hc, h => by
  simp only [compRes] at hc
  cases hrs : compRes P rs with
  | none => rw [hrs] at hc; simp at hc
  | some r =>
   rw [hrs] at hc; injection hc with hc; subst hc
   simp only [resA] at h
   cases hl : resA tm E.H r with
   | none => rw [hl] at h; simp at h
   | some l' =>
    rw [hl] at h; injection h with h; subst h
    obtain ⟨vs, h1, h2⟩ := res_spec I hR hrs hl
    refine ⟨a.tmps.getD t undef :: vs, ?_, by simp only [RelAs]; exact ⟨_, vs, rfl, relT_get hR t, h2⟩⟩
    simp only [List.mapM_cons,resOne,Sem.run_bind,Sem.run_pure,Result.andThen_ok,h1]
 | .cell p t :: rs, ars, l, hc, h => by
  simp only [compRes] at hc
  cases hk : sizeA P t with
  | none => rw [hk] at hc; simp at hc
  | some k =>
   cases hrs : compRes P rs with
   | none => rw [hk, hrs] at hc; simp at hc
   | some r =>
    rw [hk, hrs] at hc; simp only [Option.some.injEq] at hc; subst hc
    simp only [resA] at h
    cases hld : loadAt E.H k (tm.getD p undefA) with
    | none => rw [hld] at h; simp at h
    | some v =>
     cases hl : resA tm E.H r with
     | none => rw [hld, hl] at h; simp at h
     | some l' =>
      rw [hld, hl] at h; simp only [Option.some.injEq] at h; subst h
      obtain ⟨vs, h1, h2⟩ := res_spec I hR hrs hl
      have hp := relT_get hR p
      have hq : ∃ ad, a.tmps.getD p undef = .pointer (some ad) := by
       unfold loadAt at hld
       split at hld
       ·rename_i cs heq
        rw [heq] at hp; simp only [RelA,RelD] at hp
        obtain ⟨bl, o, hv, _⟩ := hp
        exact ⟨_, hv⟩
       ·rename_i id i j heq
        rw [heq] at hp; simp only [RelA] at hp
        exact ⟨_, hp.1⟩
       ·simp at hld
      obtain ⟨ad, had⟩ := hq
      obtain ⟨u, hrun, hru⟩ := load_same (P := P) I hk hp hld
      rw [had] at hrun
      refine ⟨u :: vs, ?_, by simp only [RelAs]; exact ⟨u, vs, rfl, hru, h2⟩⟩
      have hlv : (loadVar t ad).run P E.w = .ok u E.w := by
       simpa only [Instr.loadAt, Instr.sureAddr, Sem.run_bind, Sem.run_pure, Result.andThen_ok] using hrun
      simp only [List.mapM_cons,resOne,had,asAddr,Sem.run_bind,Sem.run_pure,Result.andThen_ok,hlv,h1]
theorem results_eq (fn : Func) (tmps : Array Value) : results fn tmps = (do
  let vs ← fn.results.mapM (resOne tmps)
  pure (if h : vs.size = 1 then vs[0] else .tuple vs)) := by
 have : (fun | .tmp t => pure (tmps.getD t undef) | .cell a t => do loadVar t (← asAddr (tmps.getD a undef)) : ResultVar → Sem Value) = resOne tmps := by
  funext x; cases x <;> rfl
 unfold results
 rw [← this]
 rfl
theorem results_spec (I : Inv B E) {tm : List AV} {a : Act} (hR : RelT E tm a) {fn : Func} {ars : List (Nat × Option (Option Nat))} {l : List AV} (hc : compRes P fn.results.toList = some ars) (h : resA tm E.H ars = some l) :
  ∃ v, (results fn a.tmps).run P E.w = .ok v E.w ∧ RelA E (tupA l) v := by
 obtain ⟨vs, h1, h2⟩ := res_spec I hR hc h
 have hl := relAs_length h2
 rw [results_eq, Array.mapM_eq_mapM_toList]
 simp only [Sem.run_bind,Sem.run_map,h1,Result.andThen_ok,Sem.run_pure]
 refine ⟨_, rfl, ?_⟩
 unfold tupA
 split
 ·rename_i x
  simp only [RelAs] at h2
  obtain ⟨v, r, rfl, hv, rfl⟩ := h2
  simpa using hv
 ·rename_i hne
  have hn : vs.length ≠ 1 := by
   rw [hl]
   intro e
   obtain ⟨x, hx⟩ := List.length_eq_one_iff.1 e
   exact hne x hx
  simp only [List.size_toArray,dif_neg hn,RelA]
  exact ⟨vs, rfl, h2⟩
theorem run_sound (hm : P.follows .mixedOrders = true) {Ψ : Oracle} (hΨ : ∀ B, Sound P B Ψ) (no : FuncId → Bool) (pol : FuncId → Bool × Bool) : ∀ k B, Sound P B (runF Ψ (compF P no pol) k)
 | 0 => fun B f args H r H' h => by simp [runF] at h
 | k + 1 => fun B f args H r H' h => by
  have ih := run_sound hm hΨ no pol k
  simp only [runF] at h
  cases hf : compF P no pol f with
  | none => rw [hf] at h; exact hΨ B f args H r H' h
  | some af =>
   rw [hf] at h
   simp only at h
   unfold compF at hf
   split at hf
   ·simp at hf
   split at hf
   ·rename_i fn hfn
    split at hf
    ·simp at hf
    ·rename_i hname
     split at hf
     ·rename_i c hbody
      split at hf
      ·rename_i rs hrs
       injection hf with hf
       subst hf
       refine ⟨⟨fn, c, hfn, by simpa using hname, hbody⟩, fun E vs I hEH hargs => ?_⟩
       subst hEH
       have hal := relAs_length hargs
       have hR : RelT E (enterA { ntmps := fn.ntmps, results := rs, code := compCode P (pol f).1 c, keep := (pol f).2 } args) { tmps := ⟨vs⟩ ++ Array.replicate (fn.ntmps - (⟨vs⟩ : Array Value).size) undef, defers := [] } := by
        refine ⟨?_, rfl⟩
        simp only [enterA,Array.toList_append,Array.toList_replicate]
        refine relAs_append hargs (relAs_mk (by simp [hal]) fun j x u hx hu => ?_)
        rw [List.getElem?_replicate] at hx hu
        split at hx <;> split at hu <;> simp at hx hu
        subst hx hu; exact relA_undef
       cases hx : execF (runF Ψ (compF P no pol) k) k (compCode P (pol f).1 c) (enterA { ntmps := fn.ntmps, results := rs, code := compCode P (pol f).1 c, keep := (pol f).2 } args) E.H with
       | none => rw [hx] at h; simp [endA] at h
       | some o =>
        obtain ⟨e, tm1, H1⟩ := o
        rw [hx] at h
        refine calls_of_wp hfn hbody ((exec_sound hm ih k).1 c _ e tm1 H1 E _ _ hx I hR fun a' w' hp => ?_)
        obtain ⟨E1, rfl, rfl, I1, X1, R1⟩ := hp
        have key : ∀ (l : List AV), resA tm1 E1.H rs = some l → leave E.H (pol f).2 (tupA l) E1.H = (r, H') →
          a'.defers = [] ∧ ∃ v, (results fn a'.tmps).run P E1.w = .ok v E1.w ∧ ∃ v_1 E', Ending.returned v = .returned v_1 ∧ E'.w = E1.w ∧ E'.H = H' ∧ Inv B E' ∧ Ext B E E' ∧ RelA E' r v_1 := by
         intro l hl hlv
         obtain ⟨v, hrun, hv⟩ := results_spec I1 R1 hrs hl
         obtain ⟨E2, h1, h2, h3, h4, h5⟩ := leave_sound I I1 X1 hv hlv
         exact ⟨R1.2, v, hrun, v, E2, rfl, h1, h2, h3, h4, h5⟩
        cases e with
        | normal =>
         simp only [endA] at h
         split at h
         ·rename_i l hl
          injection h with h
          exact key l hl h
         ·simp at h
        | ret =>
         simp only [endA] at h
         split at h
         ·rename_i l hl
          injection h with h
          exact key l hl h
         ·simp at h
        | exit i => simp [endA] at h
        | goto l => simp [endA] at h
      ·simp at hf
     ·simp at hf
   ·simp at hf
end
end Go.Abs
end
section
set_option linter.unusedVariables false
set_option linter.unusedSimpArgs false
namespace Go.Abs
def OLe (Φ Ψ : Oracle) : Prop := ∀ f args H x, Φ f args H = some x → Ψ f args H = some x
theorem aopc_mono {Φ Ψ : Oracle} (h : OLe Φ Ψ) {H : Heap} {tm : List AV} {op : AOp} {x : AV × Heap} (hx : aopc Φ H tm op = some x) : aopc Ψ H tm op = some x := by
 cases op
 case call f args =>
  simp only [aopc] at hx ⊢
  split at hx
  ·rename_i g cap hg
   exact h _ _ _ _ hx
  ·simp at hx
 all_goals exact hx
theorem xops_mono {R : Type} {Φ Ψ : Oracle} (h : OLe Φ Ψ) {K K' : List (List AV × Heap) → List AV → Heap → Option R} (hK : ∀ tr tm H x, K tr tm H = some x → K' tr tm H = some x) :
  ∀ {l : List AOper} {tr : List (List AV × Heap)} {tm : List AV} {H : Heap} {x : R}, xops Φ l tr tm H K = some x → xops Ψ l tr tm H K' = some x
 | [], tr, tm, H, x, hx => by simp only [xops] at hx ⊢; exact hK _ _ _ _ hx
 | o :: l, tr, tm, H, x, hx => by
  simp only [xops] at hx ⊢
  split at hx
  ·split at hx
   ·rename_i v H' hv
    rw [aopc_mono h hv]
    exact xops_mono h hK hx
   ·simp at hx
  ·exact xops_mono h hK hx
  ·simp at hx
theorem xreg_mono {R : Type} {Φ Ψ : Oracle} (h : OLe Φ Ψ) {K K' : List AV → Heap → Option R} (hK : ∀ tm H x, K tm H = some x → K' tm H = some x) {l : List AOper} {ps : List (Nat × Nat)} {tm : List AV} {H : Heap} {x : R} (hx : xreg Φ l ps tm H K = some x) : xreg Ψ l ps tm H K' = some x := by
 unfold xreg at hx ⊢
 split at hx
 ·exact xops_mono h (fun _ tm H x => hK tm H x) hx
 ·refine xops_mono h (fun tr tm H x hx => ?_) hx
  split at hx
  ·rename_i hc; rw [if_pos hc]; exact hK _ _ _ hx
  ·simp at hx
theorem execF_mono {Φ Ψ : Oracle} (h : OLe Φ Ψ) : ∀ {k k' : Nat} {c : ACode} {tm : List AV} {H : Heap} {x : Out}, k ≤ k' → execF Φ k c tm H = some x → execF Ψ k' c tm H = some x
 | 0, _, _, _, _, _, _, hx => by simp [execF] at hx
 | k + 1, 0, _, _, _, _, hk, _ => by omega
 | k + 1, k' + 1, c, tm, H, x, hk, hx => by
  have ih : ∀ {c : ACode} {tm : List AV} {H : Heap} {x : Out}, execF Φ k c tm H = some x → execF Ψ k' c tm H = some x := fun hx => execF_mono h (by omega) hx
  cases c <;> simp only [execF] at hx ⊢
  case ops l ps => exact xreg_mono h (fun _ _ _ h => h) hx
  case seq a b =>
   cases ha : execF Φ k a tm H with
   | none => rw [ha] at hx; simp at hx
   | some o =>
    rw [ha] at hx
    rw [ih ha]
    obtain ⟨e, tm1, H1⟩ := o
    cases e <;> first | exact hx | exact ih hx
  case cond c a b =>
   split at hx
   ·split at hx
    ·rename_i ht; rw [if_pos ht]; exact ih hx
    ·rename_i ht; rw [if_neg ht]; exact ih hx
   ·simp at hx
  case block id a =>
   cases ha : execF Φ k a tm H with
   | none => rw [ha] at hx; simp at hx
   | some o => rw [ha] at hx; rw [ih ha]; exact hx
  case loop a =>
   cases ha : execF Φ k a tm H with
   | none => rw [ha] at hx; simp at hx
   | some o =>
    rw [ha] at hx
    rw [ih ha]
    obtain ⟨e, tm1, H1⟩ := o
    cases e <;> first | exact hx | exact ih hx
  case scope body cur =>
   cases ha : execF Φ k cur tm H with
   | none => rw [ha] at hx; simp at hx
   | some o =>
    rw [ha] at hx
    rw [ih ha]
    obtain ⟨e, tm1, H1⟩ := o
    cases e with
    | goto l =>
     simp only at hx ⊢
     cases hf : findA body l with
     | none => rw [hf] at hx; simp at hx
     | some r => rw [hf] at hx; exact ih hx
    | normal => exact hx
    | exit i => exact hx
    | ret => exact hx
  all_goals exact hx
theorem runF_mono (Ψ : Oracle) (F : FuncId → Option AFunc) : ∀ {k k' : Nat}, k ≤ k' → OLe (runF Ψ F k) (runF Ψ F k')
 | 0, _, _ => fun f args H x hx => by simp [runF] at hx
 | k + 1, 0, hk => by omega
 | k + 1, k' + 1, hk => fun f args H x hx => by
  have ih := runF_mono Ψ F (show k ≤ k' by omega)
  simp only [runF] at hx ⊢
  cases hf : F f with
  | none => rw [hf] at hx; exact hx
  | some af =>
   rw [hf] at hx
   simp only at hx ⊢
   cases he : execF (runF Ψ F k) k af.code (enterA af args) H with
   | none => rw [he] at hx; simp [endA] at hx
   | some o => rw [he] at hx; rw [execF_mono ih (by omega) he]; exact hx
open Classical in
noncomputable def Lim (Ψ : Oracle) (F : FuncId → Option AFunc) : Oracle := fun f args H => if h : ∃ x, ∃ k, runF Ψ F k f args H = some x then some h.choose else none
open Classical in
noncomputable def execL (Ψ : Oracle) (F : FuncId → Option AFunc) (c : ACode) (tm : List AV) (H : Heap) : Option Out := if h : ∃ x, ∃ k, execF (runF Ψ F k) k c tm H = some x then some h.choose else none
section
variable {Ψ : Oracle} {F : FuncId → Option AFunc}
theorem runF_one {k k' : Nat} {f : FuncId} {args : List AV} {H : Heap} {x y : AV × Heap} (h : runF Ψ F k f args H = some x) (h' : runF Ψ F k' f args H = some y) : x = y := by
 have a := runF_mono Ψ F (Nat.le_max_left k k') _ _ _ _ h
 have b := runF_mono Ψ F (Nat.le_max_right k k') _ _ _ _ h'
 rw [a] at b; injection b
theorem execF_one {k k' : Nat} {c : ACode} {tm : List AV} {H : Heap} {x y : Out} (h : execF (runF Ψ F k) k c tm H = some x) (h' : execF (runF Ψ F k') k' c tm H = some y) : x = y := by
 have a := execF_mono (runF_mono Ψ F (Nat.le_max_left k k')) (Nat.le_max_left k k') h
 have b := execF_mono (runF_mono Ψ F (Nat.le_max_right k k')) (Nat.le_max_right k k') h'
 rw [a] at b; injection b
theorem lim_iff {f : FuncId} {args : List AV} {H : Heap} {x : AV × Heap} : Lim Ψ F f args H = some x ↔ ∃ k, runF Ψ F k f args H = some x := by
 unfold Lim
 constructor
 ·intro h
  split at h
  ·rename_i he
   injection h with h; subst h
   exact he.choose_spec
  ·simp at h
 ·rintro ⟨k, hk⟩
  have he : ∃ x, ∃ k, runF Ψ F k f args H = some x := ⟨x, k, hk⟩
  rw [dif_pos he]
  obtain ⟨k', hk'⟩ := he.choose_spec
  rw [runF_one hk' hk]
theorem execL_iff {c : ACode} {tm : List AV} {H : Heap} {x : Out} : execL Ψ F c tm H = some x ↔ ∃ k, execF (runF Ψ F k) k c tm H = some x := by
 unfold execL
 constructor
 ·intro h
  split at h
  ·rename_i he
   injection h with h; subst h
   exact he.choose_spec
  ·simp at h
 ·rintro ⟨k, hk⟩
  have he : ∃ x, ∃ k, execF (runF Ψ F k) k c tm H = some x := ⟨x, k, hk⟩
  rw [dif_pos he]
  obtain ⟨k', hk'⟩ := he.choose_spec
  rw [execF_one hk' hk]
theorem opt_ext {α : Type} {a b : Option α} (h : ∀ x, a = some x ↔ b = some x) : a = b := by
 cases a with
 | none => cases b with
  | none => rfl
  | some y => have := (h y).2 rfl; simp at this
 | some x => rw [(h x).1 rfl]
theorem le_lim (k : Nat) : OLe (runF Ψ F k) (Lim Ψ F) := fun _ _ _ _ hx => lim_iff.2 ⟨k, hx⟩
theorem aopc_lim {H : Heap} {tm : List AV} {op : AOp} {x : AV × Heap} (hx : aopc (Lim Ψ F) H tm op = some x) : ∃ k, aopc (runF Ψ F k) H tm op = some x := by
 cases op
 case call f args =>
  simp only [aopc] at hx ⊢
  split at hx
  ·exact lim_iff.1 hx
  ·simp at hx
 all_goals exact ⟨0, hx⟩
theorem xops_lim {R : Type} {K : List (List AV × Heap) → List AV → Heap → Option R} : ∀ {l : List AOper} {tr : List (List AV × Heap)} {tm : List AV} {H : Heap} {x : R}, xops (Lim Ψ F) l tr tm H K = some x → ∃ k, xops (runF Ψ F k) l tr tm H K = some x
 | [], tr, tm, H, x, hx => ⟨0, by simpa only [xops] using hx⟩
 | o :: l, tr, tm, H, x, hx => by
  simp only [xops] at hx ⊢
  split at hx
  ·split at hx
   ·rename_i v H' hv
    obtain ⟨k1, h1⟩ := aopc_lim hv
    obtain ⟨k2, h2⟩ := xops_lim hx
    refine ⟨max k1 k2, ?_⟩
    rw [aopc_mono (runF_mono Ψ F (Nat.le_max_left k1 k2)) h1]
    exact xops_mono (runF_mono Ψ F (Nat.le_max_right k1 k2)) (fun _ _ _ _ h => h) h2
   ·simp at hx
  ·exact xops_lim hx
  ·simp at hx
theorem xreg_lim {R : Type} {K : List AV → Heap → Option R} {l : List AOper} {ps : List (Nat × Nat)} {tm : List AV} {H : Heap} {x : R} (hx : xreg (Lim Ψ F) l ps tm H K = some x) : ∃ k, xreg (runF Ψ F k) l ps tm H K = some x := by
 unfold xreg at hx ⊢
 split at hx <;> exact xops_lim hx
def thenL {R : Type} (o : Option Out) (K : AEx → List AV → Heap → Option R) : Option R := match o with
 | some (e, tm, H) => K e tm H
 | none => none
noncomputable def exec0 {R : Type} (Φ : Oracle) (Λ : ACode → List AV → Heap → Option Out) : ACode → List AV → Heap → (AEx → List AV → Heap → Option R) → Option R
 | .skip, tm, H, K => K .normal tm H
 | .label _, tm, H, K => K .normal tm H
 | .ops l ps, tm, H, K => xreg Φ l ps tm H (K .normal)
 | .seq a b, tm, H, K => exec0 Φ Λ a tm H fun e tm H => match e with
  | .normal => exec0 Φ Λ b tm H K
  | .exit i => K (.exit i) tm H
  | .goto l => K (.goto l) tm H
  | .ret => K .ret tm H
 | .cond c a b, tm, H, K => match ev tm c with
  | .im (.bool t) => if t = true then exec0 Φ Λ a tm H K else exec0 Φ Λ b tm H K
  | _ => none
 | .block id a, tm, H, K => exec0 Φ Λ a tm H fun e tm H => match e with
  | .exit i => if i = id then K .normal tm H else K (.exit i) tm H
  | .normal => K .normal tm H
  | .goto l => K (.goto l) tm H
  | .ret => K .ret tm H
 | .loop a, tm, H, K => thenL (Λ (.loop a) tm H) K
 | .scope a t, tm, H, K => thenL (Λ (.scope a t) tm H) K
 | .exit i, tm, H, K => K (.exit i) tm H
 | .goto l, tm, H, K => K (.goto l) tm H
 | .ret, tm, H, K => K .ret tm H
 | .bad, _, _, _ => none
theorem xops_then {R S : Type} {Φ : Oracle} {g : R → Option S} {K : List (List AV × Heap) → List AV → Heap → Option R} :
  ∀ {l : List AOper} {tr : List (List AV × Heap)} {tm : List AV} {H : Heap}, (xops Φ l tr tm H K).bind g = xops Φ l tr tm H fun tr tm H => (K tr tm H).bind g
 | [], tr, tm, H => by simp only [xops]
 | o :: l, tr, tm, H => by
  simp only [xops]
  split
  ·split
   ·exact xops_then
   ·rfl
  ·exact xops_then
  ·rfl
theorem xreg_then {R : Type} {Φ : Oracle} {K : AEx → List AV → Heap → Option R} {l : List AOper} {ps : List (Nat × Nat)} {tm : List AV} {H : Heap} :
  thenL (xreg Φ l ps tm H fun tm H => some (.normal, tm, H)) K = xreg Φ l ps tm H (K .normal) := by
 have e : ∀ o : Option Out, thenL o K = o.bind fun x => K x.1 x.2.1 x.2.2 := fun o => by cases o <;> rfl
 rw [e]
 unfold xreg
 split
 ·rw [xops_then]; rfl
 ·rw [xops_then]
  congr 1
  funext tr tm H
  split <;> rfl
theorem execL_ops {l : List AOper} {ps : List (Nat × Nat)} {tm : List AV} {H : Heap} : execL Ψ F (.ops l ps) tm H = xreg (Lim Ψ F) l ps tm H fun tm H => some (.normal, tm, H) := by
 refine opt_ext fun x => ?_
 rw [execL_iff]
 constructor
 ·rintro ⟨k, hk⟩
  cases k with
  | zero => simp [execF] at hk
  | succ k =>
   simp only [execF] at hk
   exact xreg_mono (le_lim _) (fun _ _ _ h => h) hk
 ·intro h
  obtain ⟨k, hk⟩ := xreg_lim h
  exact ⟨k + 1, by simp only [execF]; exact xreg_mono (runF_mono Ψ F (Nat.le_succ k)) (fun _ _ _ h => h) hk⟩
theorem execL_seq {a b : ACode} {tm : List AV} {H : Heap} : execL Ψ F (.seq a b) tm H = thenL (execL Ψ F a tm H) fun e tm H => match e with
  | .normal => execL Ψ F b tm H
  | .exit i => some (.exit i, tm, H)
  | .goto l => some (.goto l, tm, H)
  | .ret => some (.ret, tm, H) := by
 refine opt_ext fun x => ?_
 rw [execL_iff]
 constructor
 ·rintro ⟨k, hk⟩
  cases k with
  | zero => simp [execF] at hk
  | succ k =>
   simp only [execF] at hk
   cases ha : execF (runF Ψ F (k + 1)) k a tm H with
   | none => rw [ha] at hk; simp at hk
   | some o =>
    rw [ha] at hk
    have : execL Ψ F a tm H = some o := execL_iff.2 ⟨k + 1, execF_mono (fun _ _ _ _ h => h) (Nat.le_succ k) ha⟩
    rw [this]
    obtain ⟨e, tm1, H1⟩ := o
    cases e with
    | normal => exact execL_iff.2 ⟨k + 1, execF_mono (fun _ _ _ _ h => h) (Nat.le_succ k) hk⟩
    | exit i => exact hk
    | goto l => exact hk
    | ret => exact hk
 ·intro h
  cases ha : execL Ψ F a tm H with
  | none => rw [ha] at h; simp [thenL] at h
  | some o =>
   rw [ha] at h
   obtain ⟨k, hk⟩ := execL_iff.1 ha
   obtain ⟨e, tm1, H1⟩ := o
   cases e with
   | normal =>
    simp only [thenL] at h
    obtain ⟨k', hk'⟩ := execL_iff.1 h
    refine ⟨max k k' + 1, ?_⟩
    simp only [execF]
    rw [execF_mono (runF_mono Ψ F (show k ≤ max k k' + 1 by omega)) (Nat.le_max_left k k') hk]
    exact execF_mono (runF_mono Ψ F (show k' ≤ max k k' + 1 by omega)) (Nat.le_max_right k k') hk'
   | exit i => exact ⟨k + 1, by simp only [execF]; rw [execF_mono (runF_mono Ψ F (Nat.le_succ k)) (Nat.le_refl k) hk]; exact h⟩
   | goto l => exact ⟨k + 1, by simp only [execF]; rw [execF_mono (runF_mono Ψ F (Nat.le_succ k)) (Nat.le_refl k) hk]; exact h⟩
   | ret => exact ⟨k + 1, by simp only [execF]; rw [execF_mono (runF_mono Ψ F (Nat.le_succ k)) (Nat.le_refl k) hk]; exact h⟩
theorem execL_loop {a : ACode} {tm : List AV} {H : Heap} : execL Ψ F (.loop a) tm H = thenL (execL Ψ F a tm H) fun e tm H => match e with
  | .normal => execL Ψ F (.loop a) tm H
  | .exit i => some (.exit i, tm, H)
  | .goto l => some (.goto l, tm, H)
  | .ret => some (.ret, tm, H) := by
 refine opt_ext fun x => ?_
 rw [execL_iff]
 constructor
 ·rintro ⟨k, hk⟩
  cases k with
  | zero => simp [execF] at hk
  | succ k =>
   simp only [execF] at hk
   cases ha : execF (runF Ψ F (k + 1)) k a tm H with
   | none => rw [ha] at hk; simp at hk
   | some o =>
    rw [ha] at hk
    have : execL Ψ F a tm H = some o := execL_iff.2 ⟨k + 1, execF_mono (fun _ _ _ _ h => h) (Nat.le_succ k) ha⟩
    rw [this]
    obtain ⟨e, tm1, H1⟩ := o
    cases e with
    | normal => exact execL_iff.2 ⟨k + 1, execF_mono (fun _ _ _ _ h => h) (Nat.le_succ k) hk⟩
    | exit i => exact hk
    | goto l => exact hk
    | ret => exact hk
 ·intro h
  cases ha : execL Ψ F a tm H with
  | none => rw [ha] at h; simp [thenL] at h
  | some o =>
   rw [ha] at h
   obtain ⟨k, hk⟩ := execL_iff.1 ha
   obtain ⟨e, tm1, H1⟩ := o
   cases e with
   | normal =>
    simp only [thenL] at h
    obtain ⟨k', hk'⟩ := execL_iff.1 h
    refine ⟨max k k' + 1, ?_⟩
    simp only [execF]
    rw [execF_mono (runF_mono Ψ F (show k ≤ max k k' + 1 by omega)) (Nat.le_max_left k k') hk]
    exact execF_mono (runF_mono Ψ F (show k' ≤ max k k' + 1 by omega)) (Nat.le_max_right k k') hk'
   | exit i => exact ⟨k + 1, by simp only [execF]; rw [execF_mono (runF_mono Ψ F (Nat.le_succ k)) (Nat.le_refl k) hk]; exact h⟩
   | goto l => exact ⟨k + 1, by simp only [execF]; rw [execF_mono (runF_mono Ψ F (Nat.le_succ k)) (Nat.le_refl k) hk]; exact h⟩
   | ret => exact ⟨k + 1, by simp only [execF]; rw [execF_mono (runF_mono Ψ F (Nat.le_succ k)) (Nat.le_refl k) hk]; exact h⟩
theorem execL_scope {body cur : ACode} {tm : List AV} {H : Heap} : execL Ψ F (.scope body cur) tm H = thenL (execL Ψ F cur tm H) fun e tm H => match e with
  | .goto l => match findA body l with
   | some rest => execL Ψ F (.scope body rest) tm H
   | none => none
  | .normal => some (.normal, tm, H)
  | .exit i => some (.exit i, tm, H)
  | .ret => some (.ret, tm, H) := by
 refine opt_ext fun x => ?_
 rw [execL_iff]
 constructor
 ·rintro ⟨k, hk⟩
  cases k with
  | zero => simp [execF] at hk
  | succ k =>
   simp only [execF] at hk
   cases ha : execF (runF Ψ F (k + 1)) k cur tm H with
   | none => rw [ha] at hk; simp at hk
   | some o =>
    rw [ha] at hk
    have : execL Ψ F cur tm H = some o := execL_iff.2 ⟨k + 1, execF_mono (fun _ _ _ _ h => h) (Nat.le_succ k) ha⟩
    rw [this]
    obtain ⟨e, tm1, H1⟩ := o
    cases e with
    | goto l =>
     simp only [thenL] at hk ⊢
     cases hf : findA body l with
     | none => rw [hf] at hk; simp at hk
     | some r => rw [hf] at hk; exact execL_iff.2 ⟨k + 1, execF_mono (fun _ _ _ _ h => h) (Nat.le_succ k) hk⟩
    | exit i => exact hk
    | normal => exact hk
    | ret => exact hk
 ·intro h
  cases ha : execL Ψ F cur tm H with
  | none => rw [ha] at h; simp [thenL] at h
  | some o =>
   rw [ha] at h
   obtain ⟨k, hk⟩ := execL_iff.1 ha
   obtain ⟨e, tm1, H1⟩ := o
   cases e with
   | goto l =>
    simp only [thenL] at h
    cases hf : findA body l with
    | none => rw [hf] at h; simp at h
    | some r =>
     rw [hf] at h
     obtain ⟨k', hk'⟩ := execL_iff.1 h
     refine ⟨max k k' + 1, ?_⟩
     simp only [execF]
     rw [execF_mono (runF_mono Ψ F (show k ≤ max k k' + 1 by omega)) (Nat.le_max_left k k') hk]
     simp only [hf]
     exact execF_mono (runF_mono Ψ F (show k' ≤ max k k' + 1 by omega)) (Nat.le_max_right k k') hk'
   | exit i => exact ⟨k + 1, by simp only [execF]; rw [execF_mono (runF_mono Ψ F (Nat.le_succ k)) (Nat.le_refl k) hk]; exact h⟩
   | normal => exact ⟨k + 1, by simp only [execF]; rw [execF_mono (runF_mono Ψ F (Nat.le_succ k)) (Nat.le_refl k) hk]; exact h⟩
   | ret => exact ⟨k + 1, by simp only [execF]; rw [execF_mono (runF_mono Ψ F (Nat.le_succ k)) (Nat.le_refl k) hk]; exact h⟩
theorem execL_cond {c : AOpd} {a b : ACode} {tm : List AV} {H : Heap} : execL Ψ F (.cond c a b) tm H = match ev tm c with
  | .im (.bool t) => if t = true then execL Ψ F a tm H else execL Ψ F b tm H
  | _ => none := by
 refine opt_ext fun x => ?_
 rw [execL_iff]
 constructor
 ·rintro ⟨k, hk⟩
  cases k with
  | zero => simp [execF] at hk
  | succ k =>
   simp only [execF] at hk
   split at hk
   ·rename_i t heq
    rw [heq]
    simp only
    split at hk
    ·rename_i ht; rw [if_pos ht]; exact execL_iff.2 ⟨k + 1, execF_mono (fun _ _ _ _ h => h) (Nat.le_succ k) hk⟩
    ·rename_i ht; rw [if_neg ht]; exact execL_iff.2 ⟨k + 1, execF_mono (fun _ _ _ _ h => h) (Nat.le_succ k) hk⟩
   ·simp at hk
 ·intro h
  split at h
  ·rename_i t ht
   by_cases htt : t = true
   ·rw [if_pos htt] at h
    obtain ⟨k, hk⟩ := execL_iff.1 h
    exact ⟨k + 1, by simp only [execF,ht]; rw [if_pos htt]; exact execF_mono (runF_mono Ψ F (Nat.le_succ k)) (Nat.le_refl k) hk⟩
   ·rw [if_neg htt] at h
    obtain ⟨k, hk⟩ := execL_iff.1 h
    exact ⟨k + 1, by simp only [execF,ht]; rw [if_neg htt]; exact execF_mono (runF_mono Ψ F (Nat.le_succ k)) (Nat.le_refl k) hk⟩
  ·simp at h
theorem execL_block {id : Nat} {a : ACode} {tm : List AV} {H : Heap} : execL Ψ F (.block id a) tm H = thenL (execL Ψ F a tm H) fun e tm H => match e with
  | .exit i => if i = id then some (.normal, tm, H) else some (.exit i, tm, H)
  | .normal => some (.normal, tm, H)
  | .goto l => some (.goto l, tm, H)
  | .ret => some (.ret, tm, H) := by
 refine opt_ext fun x => ?_
 rw [execL_iff]
 constructor
 ·rintro ⟨k, hk⟩
  cases k with
  | zero => simp [execF] at hk
  | succ k =>
   simp only [execF] at hk
   cases ha : execF (runF Ψ F (k + 1)) k a tm H with
   | none => rw [ha] at hk; simp at hk
   | some o =>
    rw [ha] at hk
    have : execL Ψ F a tm H = some o := execL_iff.2 ⟨k + 1, execF_mono (fun _ _ _ _ h => h) (Nat.le_succ k) ha⟩
    rw [this]
    obtain ⟨e, tm1, H1⟩ := o
    cases e <;> exact hk
 ·intro h
  cases ha : execL Ψ F a tm H with
  | none => rw [ha] at h; simp [thenL] at h
  | some o =>
   rw [ha] at h
   obtain ⟨k, hk⟩ := execL_iff.1 ha
   refine ⟨k + 1, ?_⟩
   simp only [execF]
   rw [execF_mono (runF_mono Ψ F (Nat.le_succ k)) (Nat.le_refl k) hk]
   obtain ⟨e, tm1, H1⟩ := o
   cases e <;> exact h
theorem execL_one {c : ACode} {tm : List AV} {H : Heap} {x : Out} (h : ∀ Φ k, execF Φ (k + 1) c tm H = some x) : execL Ψ F c tm H = some x := execL_iff.2 ⟨1, h _ 0⟩
theorem thenL_then {R : Type} {o : Option Out} {K : AEx → List AV → Heap → Option Out} {K' : AEx → List AV → Heap → Option R} : thenL (thenL o K) K' = thenL o fun e tm H => thenL (K e tm H) K' := by
 cases o <;> rfl
theorem execL_then {R : Type} : ∀ (c : ACode) (tm : List AV) (H : Heap) (K : AEx → List AV → Heap → Option R), thenL (execL Ψ F c tm H) K = exec0 (Lim Ψ F) (execL Ψ F) c tm H K
 | .skip, tm, H, K => by rw [execL_one (fun _ _ => rfl)]; rfl
 | .label _, tm, H, K => by rw [execL_one (fun _ _ => rfl)]; rfl
 | .ops l ps, tm, H, K => by rw [execL_ops, xreg_then]; rfl
 | .seq a b, tm, H, K => by
  rw [execL_seq, thenL_then, execL_then a]
  simp only [exec0]
  congr 1
  funext e tm H
  cases e with
  | normal => exact execL_then b tm H K
  | exit i => rfl
  | goto l => rfl
  | ret => rfl
 | .cond c a b, tm, H, K => by
  rw [execL_cond]
  simp only [exec0]
  split
  ·split
   ·exact execL_then a tm H K
   ·exact execL_then b tm H K
  ·rfl
 | .block id a, tm, H, K => by
  rw [execL_block, thenL_then, execL_then a]
  simp only [exec0]
  congr 1
  funext e tm H
  cases e with
  | exit i => simp only; split <;> rfl
  | normal => rfl
  | goto l => rfl
  | ret => rfl
 | .loop a, tm, H, K => by simp only [exec0]
 | .scope a t, tm, H, K => by simp only [exec0]
 | .exit i, tm, H, K => by rw [execL_one (fun _ _ => rfl)]; rfl
 | .goto l, tm, H, K => by rw [execL_one (fun _ _ => rfl)]; rfl
 | .ret, tm, H, K => by rw [execL_one (fun _ _ => rfl)]; rfl
 | .bad, tm, H, K => by
  have : execL Ψ F .bad tm H = none := by
   cases h : execL Ψ F .bad tm H with
   | none => rfl
   | some x =>
    obtain ⟨k, hk⟩ := execL_iff.1 h
    cases k <;> simp [execF] at hk
  rw [this]; rfl
theorem loop_eq {a : ACode} {tm : List AV} {H : Heap} : execL Ψ F (.loop a) tm H = exec0 (Lim Ψ F) (execL Ψ F) a tm H fun e tm H => match e with
  | .normal => execL Ψ F (.loop a) tm H
  | .exit i => some (.exit i, tm, H)
  | .goto l => some (.goto l, tm, H)
  | .ret => some (.ret, tm, H) := by
 rw [execL_loop, execL_then]
theorem scope_eq {body cur : ACode} {tm : List AV} {H : Heap} : execL Ψ F (.scope body cur) tm H = exec0 (Lim Ψ F) (execL Ψ F) cur tm H fun e tm H => match e with
  | .goto l => match findA body l with
   | some rest => execL Ψ F (.scope body rest) tm H
   | none => none
  | .normal => some (.normal, tm, H)
  | .exit i => some (.exit i, tm, H)
  | .ret => some (.ret, tm, H) := by
 rw [execL_scope, execL_then]
noncomputable def endK (f : AFunc) (H0 : Heap) (e : AEx) (tm : List AV) (H : Heap) : Option (AV × Heap) := match e with
 | .normal => match resA tm H f.results with
  | some l => some (leave H0 f.keep (tupA l) H)
  | none => none
 | .ret => match resA tm H f.results with
  | some l => some (leave H0 f.keep (tupA l) H)
  | none => none
 | .exit _ => none
 | .goto _ => none
theorem endA_eq {f : AFunc} {H0 : Heap} {o : Option Out} : endA f H0 o = thenL o (endK f H0) := by
 cases o with
 | none => rfl
 | some o =>
  obtain ⟨e, tm, H⟩ := o
  cases e <;> rfl
theorem lim_none {f : FuncId} (hf : F f = none) (args : List AV) (H : Heap) : Lim Ψ F f args H = Ψ f args H := by
 refine opt_ext fun x => ?_
 rw [lim_iff]
 constructor
 ·rintro ⟨k, hk⟩
  cases k with
  | zero => simp [runF] at hk
  | succ k => simpa only [runF, hf] using hk
 ·intro h
  exact ⟨1, by simpa only [runF, hf] using h⟩
theorem lim_eq {f : FuncId} {af : AFunc} (hf : F f = some af) (args : List AV) (H : Heap) : Lim Ψ F f args H = exec0 (Lim Ψ F) (execL Ψ F) af.code (enterA af args) H (endK af H) := by
 rw [← execL_then, ← endA_eq]
 refine opt_ext fun x => ?_
 rw [lim_iff]
 constructor
 ·rintro ⟨k, hk⟩
  cases k with
  | zero => simp [runF] at hk
  | succ k =>
   simp only [runF,hf] at hk
   cases he : execF (runF Ψ F k) k af.code (enterA af args) H with
   | none => rw [he] at hk; simp [endA] at hk
   | some o => rw [he] at hk; rw [execL_iff.2 ⟨k, he⟩]; exact hk
 ·intro h
  cases he : execL Ψ F af.code (enterA af args) H with
  | none => rw [he] at h; simp [endA] at h
  | some o =>
   rw [he] at h
   obtain ⟨k, hk⟩ := execL_iff.1 he
   exact ⟨k + 1, by simp only [runF,hf]; rw [hk]; exact h⟩
end
theorem lim_sound {P : Program} {B : Nat → Prop} (hm : P.follows .mixedOrders = true) {Ψ : Oracle} (hΨ : ∀ B, Sound P B Ψ) (no : FuncId → Bool) (pol : FuncId → Bool × Bool) : Sound P B (Lim Ψ (compF P no pol)) := fun f args H r H' h => by
 obtain ⟨k, hk⟩ := lim_iff.1 h
 exact run_sound hm hΨ no pol k B f args H r H' hk
end Go.Abs
end
section
set_option linter.unusedVariables false
set_option linter.unusedSimpArgs false
namespace Go.Abs
open Go.ChangeShapes
def Reads {H : Type} (enc : TypeId × Value → H) (P : Program) (w : World) (n : Nat) (t : TypeId) (α : Type) (en : α → List Dat) (good : α → Prop) : Prop :=
 ∀ cs x, DataW.trod enc P w 0 (fun _ => true) true n t cs = some x → ∃ a, good a ∧ RelL w (fun b _ => b < w.heap.size) (en a) cs ∧ (en a).length = P.cellsOf t ∧ ∀ d ∈ en a, cellD d = true
section
variable {H : Type} {enc : TypeId × Value → H} {P : Program} {w : World} {n : Nat} {t : TypeId}
theorem reads_str (ht : P.underlying t = some .string) (hc : P.cellsOf t = 1) : Reads enc P w n t (List UInt8) (fun s => [.str s]) (fun s => s.length ≤ maxLen) := by
 intro cs x h
 obtain ⟨s, rfl, _, hw⟩ := DataW.trod_string ht h
 exact ⟨s.data.toList, by simpa using hw, by simp [RelL, RelD], by simp [hc], by simp [cellD]⟩
end
end Go.Abs
end
section
set_option linter.unusedVariables false
set_option linter.unusedSimpArgs false
namespace Go.Abs
open Go.ChangeShapes Go.WideShapes Go.ChangeAt Go.RowKit
def start (W : World) : Env := ⟨W, fun b _ => b < W.heap.size, fun _ => (0, 0, 0), []⟩
theorem inv_start (W : World) : Inv (fun k => k < W.heap.size) (start W) :=
 ⟨fun _ h => h, fun _ _ h => h, fun id _ es h => by simp [start] at h, fun id _ n h => by simp [start] at h, fun i j h _ _ => by simp [start] at h⟩
theorem start_calls {P : Program} (hm : P.follows .mixedOrders = true) {Ψ : Oracle} (hΨ : ∀ B, Sound P B Ψ) (no : FuncId → Bool) (pol : FuncId → Bool × Bool) {f : FuncId} {as : List AV} {b : Bool} {H' : Heap} (h : Lim Ψ (compF P no pol) f as [] = some (.im (.bool b), H')) {W : World} {vs : List Value} (hr : RelAs (start W) as vs) :
  Calls P f ⟨vs⟩ W fun e W' => e = .returned (.bool b) ∧ Below W.heap.size W W' := by
 obtain ⟨_, hc⟩ := lim_sound (B := fun k => k < W.heap.size) hm hΨ no pol f as [] _ _ h
 refine (hc (start W) vs (inv_start W) rfl hr).mono fun e w' hw => ?_
 obtain ⟨v, E', rfl, rfl, _, _, X, hv⟩ := hw
 simp only [RelA,RelD] at hv
 subst hv
 exact ⟨rfl, ⟨X.os, X.tape, X.output, X.size, X.low⟩⟩
section
variable {H : Type} {enc : TypeId × Value → H} {P : Program} {W : World} {base : Nat} {t : TypeId} {v : Value} {d : DataW H} {ps : List MemPlace}
def flatT : TypeDesc → Bool
 | .bool => true
 | .int _ => true
 | .string => true
 | .float _ => true
 | .slice _ => true
 | _ => false
theorem cells_flat {u : TypeDesc} (ht : P.underlying t = some u) (hu : flatT u = true) (hv : Value.okWide P W .any base t v) : v.cells.toList = [v] := by
 cases v
 case agg cs =>
  cases u <;> simp [flatT] at hu <;> simp [Value.okWide, ht, Cell.okWide, Cell.ok] at hv
 all_goals rfl
theorem arg_flat {u : TypeDesc} {α : Type} {en : α → Dat} {good : α → Prop} (ht : P.underlying t = some u) (hu : flatT u = true) (hr : ∀ n, Reads enc P W n t α (fun a => [en a]) good) (hv : Value.okWide P W .any base t v)
  (h : DataW.Trod enc P W 0 (fun _ => true) true t v d ps) : ∃ a, good a ∧ RelA (start W) (.im (en a)) v := by
 obtain ⟨n, hn⟩ := h
 obtain ⟨a, hg, hrel, _, _⟩ := hr n _ _ hn
 rw [cells_flat ht hu hv] at hrel
 simp only [RelL] at hrel
 obtain ⟨u', r, hcons, hd, hr'⟩ := hrel
 injection hcons with h1 h2
 subst h1
 exact ⟨a, hg, by simpa only [RelA, start] using hd⟩
theorem post_below {f : Func} {s : ChangeSpec} {apart fresh handsOn again : Bool} {W' : World} {args : Array Value} {ds : List (DataW H)} {before : List MemPlace} {tb : TypeId} (hb : P.underlying tb = some .bool) (hf : f.resultTypes = #[tb])
  (hvars : s.vars = []) (hfn : s.fn H ds = { results := [.lit (.bool true)], args := ds }) (hl : laidOutB P = true) (ht : ∀ t ∈ f.params.toList, P.readableRec t = true ∧ t < P.types.size)
  (hW : DataW.Whole enc P f.params.toList s.vars apart W args.toList ds [] before) (hB : Below W.heap.size W W') :
  s.post enc P f apart fresh handsOn again W args (.bool true) W' := by
 have hlt : ∀ p ∈ before, p.block < W.heap.size := fun p hp => hW.lt p hp
 have hres : ∀ (b : Nat) (sp : Nat → Bool) (hd : Bool), DataW.TrodAll enc P W' b sp hd f.resultTypes.toList ((Value.bool true).resultList f.resultTypes.size) [.lit (.bool true)] [] := by
  intro b sp hd
  rw [hf]
  exact trodAll_mk1 (shut_bool hb true)
 have hok : ∀ (j : Nat) (t : TypeId) (r : Value), f.resultTypes[j]? = some t → ((Value.bool true).resultList f.resultTypes.size)[j]? = some r → Value.okWide P W' .any 0 t r :=
  ok_one hf rfl (okWide_bool_mk hb true)
 obtain ⟨p, q, hA, hV, hpq, hz, hn⟩ := id hW
 have hV' : q = [] := by
  rw [hvars] at hV
  exact (trodVars_none hV).2
 subst hV'
 simp only [List.append_nil] at hpq
 have hargs : ∀ sp : Nat → Bool, (∀ x ∈ before, sp x.block = true) → DataW.TrodAll enc P W' 0 sp true f.params.toList args.toList ds before := by
  intro sp hsp
  subst hpq
  have key : ∀ (ts : List TypeId) (vs : List Value) (ds : List (DataW H)) (ps : List MemPlace), (∀ t ∈ ts, P.readableRec t = true ∧ t < P.types.size) → (∀ x ∈ ps, x.block < W.heap.size) → (∀ x ∈ ps, sp x.block = true) →
    DataW.TrodAll enc P W 0 (fun _ => true) true ts vs ds ps → DataW.TrodAll enc P W' 0 sp true ts vs ds ps := by
   intro ts
   induction ts with
   | nil => intro vs ds ps _ _ _ h; cases vs <;> cases ds <;> simp_all [DataW.TrodAll]
   | cons t ts ih =>
    intro vs ds ps h1 h2 h3 h
    match vs, ds, h with
    | v :: vs, d :: ds, h =>
     obtain ⟨p, q, h4, h5, rfl⟩ := h
     refine ⟨p, q, ?_, ih _ _ _ (fun x hx => h1 x (by simp [hx])) (fun x hx => h2 x (by simp [hx])) (fun x hx => h3 x (by simp [hx])) h5, rfl⟩
     exact WideElems.Trod_stays hl (h1 t (by simp)).1 (h1 t (by simp)).2 h4 (fun x hx => hB.same (h2 x (by simp [hx]))) (fun x hx => h3 x (by simp [hx]))
  exact key _ _ _ _ ht hlt hsp hA
 have hvs : ∀ sp : Nat → Bool, DataW.TrodVars enc P W' sp s.vars [] [] := by
  intro sp
  rw [hvars]
  rfl
 have hold : ∀ p ∈ before, (fun b => decide (b < W.heap.size)) p.block = true := fun p hp => by simpa using hlt p hp
 refine ⟨ds, [], before, [], before, [], hW, ?_, ?_, ?_, ?_, fun _ => ?_⟩
 ·rw [List.append_nil, hfn]; exact hres _ _ _
 ·rw [List.append_nil, hfn]; exact hargs _ hold
 ·rw [List.append_nil, hfn]; exact hvs _
 ·exact World.keptBut_mono (fun p hp => ⟨hp, .inr (.inl hp)⟩) (hB.frame (· ∈ before))
 ·refine ⟨hok, [.lit (.bool true)] ++ ds, [], before, ⟨before, [], ?_, hvs _, by simp, ?_, ?_⟩, fun p hp _ => hp⟩
  ·have := trodAll_append (hargs (fun _ => true) (fun _ _ => rfl)) (hres 0 (fun _ => true) true)
   simpa using this
  ·intro b off hp
   rw [hB.frozen (hlt _ hp)]
   exact hz b off hp
  ·intro ha
   exact hn ha
end
end Go.Abs
end
section
set_option linter.unusedVariables false
set_option linter.unusedSimpArgs false
namespace Go.Abs
open Go.RowKit
section
variable {w : World}
theorem freeze_ne {a : Addr} {n k : Nat} (h : k ≠ a.block) : (w.freeze a n).heap[k]? = w.heap[k]? := by
 unfold World.freeze
 split
 ·rfl
 ·simp only [Array.getElem?_modify]
  rw [if_neg (fun e => h e.symm)]
theorem freeze_size {a : Addr} {n : Nat} : (w.freeze a n).heap.size = w.heap.size := by
 unfold World.freeze
 split
 ·rfl
 ·simp
theorem freeze_at {a : Addr} {n : Nat} (hn : n ≠ 0) {c : Array Value} {t : TypeId} {lo hi : Nat} (h : w.heap[a.block]? = some (.cells c t (lo, hi))) :
  ∃ lo' hi', (w.freeze a n).heap[a.block]? = some (.cells c t (lo', hi')) ∧ hi' ≤ max hi (a.off + n) := by
 unfold World.freeze
 rw [if_neg hn]
 simp only [Array.getElem?_modify,if_true,h,Option.map_some]
 by_cases he : lo == hi
 ·exact ⟨a.off, a.off + n, by rw [if_pos he], by omega⟩
 ·exact ⟨min lo a.off, max hi (a.off + n), by rw [if_neg he], Nat.le_refl _⟩
theorem freeze_cell {a p : Addr} {n : Nat} {c : Array Value} {t : TypeId} {lo hi : Nat} (h : w.heap[a.block]? = some (.cells c t (lo, hi))) : (w.freeze a n).cell? p = w.cell? p := by
 by_cases hn : n = 0
 ·subst hn; simp [World.freeze]
 ·by_cases hp : p.block = a.block
  ·obtain ⟨lo', hi', h', _⟩ := freeze_at hn h
   simp only [World.cell?,hp,h,h']
  ·simp only [World.cell?,freeze_ne hp]
theorem freeze_shape {a : Addr} {b n : Nat} {c : Array Value} {t : TypeId} {lo hi : Nat} (h : w.heap[a.block]? = some (.cells c t (lo, hi))) : (w.freeze a n).shape? b = w.shape? b := by
 by_cases hn : n = 0
 ·subst hn; simp [World.freeze]
 ·by_cases hp : b = a.block
  ·obtain ⟨lo', hi', h', _⟩ := freeze_at hn h
   subst hp
   simp only [World.shape?,h,h']
  ·simp only [World.shape?,freeze_ne hp]
end
def bytesE : List (List Dat) → Option (List UInt8)
 | [] => some []
 | [.int .u8 n] :: es => match bytesE es with
  | some l => if 0 ≤ n ∧ n < 256 then some (n.toNat.toUInt8 :: l) else none
  | none => none
 | _ :: _ => none
theorem bytesE_get : ∀ {es : List (List Dat)} {l : List UInt8}, bytesE es = some l → es.length = l.length ∧ ∀ (j : Nat) (x : UInt8), l[j]? = some x → es[j]? = some [Dat.int .u8 x.toNat]
 | [], l, h => by simp only [bytesE] at h; injection h with h; subst h; simp
 | [.int .u8 n] :: es, l, h => by
  simp only [bytesE] at h
  split at h
  ·rename_i l' hl
   split at h
   ·rename_i hn
    injection h with h; subst h
    obtain ⟨h1, h2⟩ := bytesE_get hl
    refine ⟨by simp [h1], fun j x hx => ?_⟩
    cases j with
    | zero =>
     simp at hx; subst hx
     simp only [List.getElem?_cons_zero,Option.some.injEq,List.cons.injEq,and_true,Dat.int.injEq,true_and]
     have e : (UInt8.ofNat n.toNat).toNat = n.toNat := by
      rw [UInt8.toNat_ofNat']; omega
     have e2 : n.toNat.toUInt8 = UInt8.ofNat n.toNat := rfl
     rw [← e2] at e
     rw [e2] at e
     simp only [Nat.toUInt8_eq] at *
     omega
    | succ j => exact h2 j x (by simpa using hx)
   ·simp at h
  ·simp at h
 | [] :: es, l, h => by simp [bytesE] at h
 |(_ :: _ :: _) :: es, l, h => by simp [bytesE] at h
 | [.bool _] :: es, l, h => by simp [bytesE] at h
 | [.str _] :: es, l, h => by simp [bytesE] at h
 | [.flt _ _] :: es, l, h => by simp [bytesE] at h
 | [.cpx _ _ _] :: es, l, h => by simp [bytesE] at h
 | [.nilp] :: es, l, h => by simp [bytesE] at h
 | [.nilf] :: es, l, h => by simp [bytesE] at h
 | [.nili] :: es, l, h => by simp [bytesE] at h
 | [.agg _] :: es, l, h => by simp [bytesE] at h
 | [.sl _ _] :: es, l, h => by simp [bytesE] at h
 | [.rp _] :: es, l, h => by simp [bytesE] at h
 | [.int .i8 _] :: es, l, h => by simp [bytesE] at h
 | [.int .i16 _] :: es, l, h => by simp [bytesE] at h
 | [.int .i32 _] :: es, l, h => by simp [bytesE] at h
 | [.int .i64 _] :: es, l, h => by simp [bytesE] at h
 | [.int .u16 _] :: es, l, h => by simp [bytesE] at h
 | [.int .u32 _] :: es, l, h => by simp [bytesE] at h
 | [.int .u64 _] :: es, l, h => by simp [bytesE] at h
structure Bld (P : Program) (cc st : FuncId) (tB tb : TypeId) : Prop where
 ecc : Enters P cc
 est : Enters P st
 used : ∀ (b : Nat) (w : World), w.cell? ⟨b, 0, none⟩ = some (.pointer (some ⟨b, 0, none⟩)) → Calls P cc #[.pointer (some ⟨b, 0, none⟩)] w fun e w' => e = .returned (.tuple #[]) ∧ w' = w
 fresh : ∀ (b : Nat) (w : World), w.cell? ⟨b, 0, none⟩ = some (.pointer none) → w.shape? b = some (tB, 2) → w.frozen? ⟨b, 0, none⟩ = false →
  Calls P cc #[.pointer (some ⟨b, 0, none⟩)] w fun e w' => e = .returned (.tuple #[]) ∧ w' = w.setCell ⟨b, 0, none⟩ (.pointer (some ⟨b, 0, none⟩))
 text : ∀ (b g o c cells : Nat) (l : List UInt8) (w : World), w.cell? ⟨b, 1, none⟩ = some (.slice (some ⟨g, o, none⟩) l.length c) → l ≠ [] → l.length ≤ c → l.length ≤ 2 ^ 62 → w.shape? g = some (tb, cells) → o + l.length ≤ cells →
  (∀ j x, l[j]? = some x → w.cell? ⟨g, o + j, none⟩ = some (.int .u8 x.toNat)) →
  Calls P st #[.pointer (some ⟨b, 0, none⟩)] w fun e w' => e = .returned (.string ⟨l.toArray⟩) ∧ w' = w.drew.freeze ⟨g, o, none⟩ l.length
section
variable {P : Program} {cc st : FuncId} {tB tb : TypeId} {B : Nat → Prop}
end
end Go.Abs
end
