/- Part 5 of what the claim rests on. -/
import Derived.Test.YthkimdejhkpdeaaBackA
import Derived.Test.YthkimdejhkpdeaaBackB
import Derived.Test.YthkimdejhkpdeaaBackC
import Derived.Test.YthkimdejhkpdeaaBackD
section
/- The abstract reading of Go code, thirty-fifth part: running a region step by step, with what comes behind kept folded. -/
namespace Go.Abs
section
variable {R : Type} {Φ : Oracle} {Λ : ACode → List AV → Heap → Option Out}

/-- Operations in the order of the text, without the states behind. -/
def yops (Φ : Oracle) : List AOper → List AV → Heap → (List AV → Heap → Option R) → Option R
  | [], tm, H, K => K tm H
  | o :: os, tm, H, K => match wantedA tm o.guard with
    | some true => match aopc Φ H tm o.op with
      | some (v, H') => yops Φ os (putA tm o.dst v) H' K
      | none => none
    | some false => yops Φ os (putA tm o.dst undefA) H K
    | none => none

theorem xops_yops {K : List AV → Heap → Option R} : ∀ {os : List AOper} {tr : List (List AV × Heap)} {tm : List AV} {H : Heap}, xops Φ os tr tm H (fun _ tm H => K tm H) = yops Φ os tm H K
  | [], tr, tm, H => rfl
  | o :: os, tr, tm, H => by
    simp only [xops, yops]
    cases wantedA tm o.guard with
    | none => rfl
    | some b =>
      cases b with
      | false => exact xops_yops
      | true =>
        simp only
        cases aopc Φ H tm o.op with
        | none => rfl
        | some p => exact xops_yops

/-- Behind one operation. -/
def yK (Φ : Oracle) (os : List AOper) (dst : Option Nat) (tm : List AV) (K : List AV → Heap → Option R) : Option (AV × Heap) → Option R
  | some (v, H') => yops Φ os (putA tm dst v) H' K
  | none => none

/-- Behind the question whether an operation is to be done. -/
def yG (Φ : Oracle) (os : List AOper) (dst : Option Nat) (op : AOp) (tm : List AV) (H : Heap) (K : List AV → Heap → Option R) : Option Bool → Option R
  | some true => yK Φ os dst tm K (aopc Φ H tm op)
  | some false => yops Φ os (putA tm dst undefA) H K
  | none => none

variable {os : List AOper} {dst : Option Nat} {op : AOp} {tm : List AV} {H H' : Heap} {K : List AV → Heap → Option R} {v : AV} {g : Nat × Bool} {d : Nat} {b : Bool}

theorem y_ops {l : List AOper} {K : AEx → List AV → Heap → Option R} : exec0 Φ Λ (.ops l []) tm H K = yops Φ l tm H (K .normal) := by
  rw [x_ops]
  simp only [xreg]
  exact xops_yops
theorem y_nil : yops Φ [] tm H K = K tm H := _root_.id rfl
theorem y_cons : yops Φ (⟨dst, op, none⟩ :: os) tm H K = yK Φ os dst tm K (aopc Φ H tm op) := by
  simp only [yops, wantedA]
  cases aopc Φ H tm op <;> rfl
theorem y_guard : yops Φ (⟨dst, op, some g⟩ :: os) tm H K = yG Φ os dst op tm H K (wantedA tm (some g)) := by
  simp only [yops]
  cases wantedA tm (some g) with
  | none => rfl
  | some b => cases b <;> simp only [yG, yK] <;> first | rfl | (cases aopc Φ H tm op <;> rfl)
theorem y_some : yK Φ os (some d) tm K (some (v, H')) = yops Φ os (tm.set d v) H' K := _root_.id rfl
theorem y_drop : yK Φ os none tm K (some (v, H')) = yops Φ os tm H' K := _root_.id rfl
theorem y_do : yG Φ os dst op tm H K (some true) = yK Φ os dst tm K (aopc Φ H tm op) := _root_.id rfl
theorem y_not : yG Φ os (some d) op tm H K (some false) = yops Φ os (tm.set d (.tup [])) H K := _root_.id rfl
theorem y_not0 : yG Φ os none op tm H K (some false) = yops Φ os tm H K := _root_.id rfl
theorem w_bool {c : Bool} (h : tm[d]? = some (.im (.bool c))) : wantedA tm (some (d, b)) = some (c == b) := by
  simp only [wantedA, h]
theorem w_none (h : tm[d]? = some (.tup [])) : wantedA tm (some (d, b)) = some false := by
  simp only [wantedA, h]

/-! one operation -/
/-- A call of a closure. -/
def yC (Φ : Oracle) (H : Heap) (args : List AV) : AV → Option (AV × Heap)
  | .clo g cap => Φ g (args ++ cap) H
  | _ => none
theorem c_call {f : AOpd} {args : List AOpd} : aopc Φ H tm (.call f args) = yC Φ H (args.map (ev tm)) (ev tm f) := by
  simp only [aopc]
  cases ev tm f <;> rfl
theorem c_clo {f : FuncId} {args cap : List AV} : yC Φ H args (.clo f cap) = Φ f (args ++ cap) H := _root_.id rfl
theorem c_move {x : AOpd} : aopc Φ H tm (.move x) = aop H (ev tm) (.move x) := by simp only [aopc]
theorem c_pick {c a b : AOpd} : aopc Φ H tm (.pick c a b) = aop H (ev tm) (.pick c a b) := by simp only [aopc]
theorem c_alloc {ty : Option (TypeId × Nat)} {z : List AV} : aopc Φ H tm (.alloc ty z) = aop H (ev tm) (.alloc ty z) := by simp only [aopc]
theorem c_box {ty : Option TypeId} {x : AOpd} : aopc Φ H tm (.box ty x) = aop H (ev tm) (.box ty x) := by simp only [aopc]
theorem c_build {z : List AV} {parts : List (Nat × Nat × AOpd)} : aopc Φ H tm (.build z parts) = aop H (ev tm) (.build z parts) := by simp only [aopc]
theorem c_bslice {mu : Bool} {s n : Nat} {z : List AV} {parts : List (Nat × AOpd)} : aopc Φ H tm (.bslice mu s n z parts) = aop H (ev tm) (.bslice mu s n z parts) := by simp only [aopc]
theorem c_load {k : Option Nat} {x : AOpd} : aopc Φ H tm (.load k x) = aop H (ev tm) (.load k x) := by simp only [aopc]
theorem c_store {k : Nat} {x v : AOpd} : aopc Φ H tm (.store k x v) = aop H (ev tm) (.store k x v) := by simp only [aopc]
theorem c_nilCheck {x : AOpd} : aopc Φ H tm (.nilCheck x) = aop H (ev tm) (.nilCheck x) := by simp only [aopc]
theorem c_bin {op : BinOp} {x y : AOpd} : aopc Φ H tm (.bin op x y) = aop H (ev tm) (.bin op x y) := by simp only [aopc]
theorem c_binB {op : BinOp} {x y : AOpd} : aopc Φ H tm (.binB op x y) = aop H (ev tm) (.binB op x y) := by simp only [aopc]
theorem c_un {op : UnOp} {x : AOpd} : aopc Φ H tm (.un op x) = aop H (ev tm) (.un op x) := by simp only [aopc]
theorem c_i2i {k : IntKind} {x : AOpd} : aopc Φ H tm (.i2i k x) = aop H (ev tm) (.i2i k x) := by simp only [aopc]
theorem c_i2f {k : FloatKind} {x : AOpd} : aopc Φ H tm (.i2f k x) = aop H (ev tm) (.i2f k x) := by simp only [aopc]
theorem c_f2i {k : IntKind} {x : AOpd} : aopc Φ H tm (.f2i k x) = aop H (ev tm) (.f2i k x) := by simp only [aopc]
theorem c_s2b {x : AOpd} : aopc Φ H tm (.s2b x) = aop H (ev tm) (.s2b x) := by simp only [aopc]
theorem c_b2s {x : AOpd} : aopc Φ H tm (.b2s x) = aop H (ev tm) (.b2s x) := by simp only [aopc]
theorem c_strId {x : AOpd} : aopc Φ H tm (.strId x) = aop H (ev tm) (.strId x) := by simp only [aopc]
theorem c_mkfunc {f : FuncId} {cap : List AOpd} : aopc Φ H tm (.mkfunc f cap) = aop H (ev tm) (.mkfunc f cap) := by simp only [aopc]
theorem c_mkslice {bytes s : Nat} {z : List AV} {len cap : AOpd} : aopc Φ H tm (.mkslice bytes s z len cap) = aop H (ev tm) (.mkslice bytes s z len cap) := by simp only [aopc]
theorem c_slice {s : Nat} {x : AOpd} {lo hi mx : Option AOpd} : aopc Φ H tm (.slice s x lo hi mx) = aop H (ev tm) (.slice s x lo hi mx) := by simp only [aopc]
theorem c_sliceStr {x : AOpd} {lo hi : Option AOpd} : aopc Φ H tm (.sliceStr x lo hi) = aop H (ev tm) (.sliceStr x lo hi) := by simp only [aopc]
theorem c_fieldAddr {off : Nat} {x : AOpd} : aopc Φ H tm (.fieldAddr off x) = aop H (ev tm) (.fieldAddr off x) := by simp only [aopc]
theorem c_field {off : Nat} {k : Option Nat} {x : AOpd} : aopc Φ H tm (.field off k x) = aop H (ev tm) (.field off k x) := by simp only [aopc]
theorem c_indexSl {s : Nat} {x i : AOpd} : aopc Φ H tm (.indexSl s x i) = aop H (ev tm) (.indexSl s x i) := by simp only [aopc]
theorem c_indexArr {len size : Nat} {x i : AOpd} : aopc Φ H tm (.indexArr len size x i) = aop H (ev tm) (.indexArr len size x i) := by simp only [aopc]
theorem c_elemArr {len size : Nat} {k : Option Nat} {x i : AOpd} : aopc Φ H tm (.elemArr len size k x i) = aop H (ev tm) (.elemArr len size k x i) := by simp only [aopc]
theorem c_indexStr {x i : AOpd} : aopc Φ H tm (.indexStr x i) = aop H (ev tm) (.indexStr x i) := by simp only [aopc]
theorem c_extract {i : Nat} {x : AOpd} : aopc Φ H tm (.extract i x) = aop H (ev tm) (.extract i x) := by simp only [aopc]
theorem c_lenStr {x : AOpd} : aopc Φ H tm (.lenStr x) = aop H (ev tm) (.lenStr x) := by simp only [aopc]
theorem c_lenSl {x : AOpd} : aopc Φ H tm (.lenSl x) = aop H (ev tm) (.lenSl x) := by simp only [aopc]
theorem c_append {ty : TypeId} {bytes s : Nat} {x y : AOpd} : aopc Φ H tm (.append ty bytes s x y) = aop H (ev tm) (.append ty bytes s x y) := by simp only [aopc]
theorem c_real {x : AOpd} : aopc Φ H tm (.real x) = aop H (ev tm) (.real x) := by simp only [aopc]
theorem c_imag {x : AOpd} : aopc Φ H tm (.imag x) = aop H (ev tm) (.imag x) := by simp only [aopc]
theorem c_complex {x y : AOpd} : aopc Φ H tm (.complex x y) = aop H (ev tm) (.complex x y) := by simp only [aopc]
theorem c_min {x y : AOpd} : aopc Φ H tm (.min x y) = aop H (ev tm) (.min x y) := by simp only [aopc]
theorem c_max {x y : AOpd} : aopc Φ H tm (.max x y) = aop H (ev tm) (.max x y) := by simp only [aopc]
theorem c_clear {s : Nat} {z : List AV} {x : AOpd} : aopc Φ H tm (.clear s z x) = aop H (ev tm) (.clear s z x) := by simp only [aopc]
theorem c_bad  : aopc Φ H tm (.bad) = aop H (ev tm) (.bad) := by simp only [aopc]
end
end Go.Abs
end
section
/- The abstract reading of Go code, thirty-sixth part: the end of a call that has written one thing which was there. -/
namespace Go.Abs
/-- The heap is as it was up to n, but for one place. -/
def But (n id : Nat) (H H' : Heap) : Prop := H.length ≤ H'.length ∧ ∀ i, i < n → i ≠ id → H'[i]? = H[i]?
theorem But.refl {n id : Nat} {A : Heap} : But n id A A := ⟨Nat.le_refl _, fun _ _ _ => rfl⟩
theorem But.app {n id : Nat} {A B : Heap} (h : But n id A B) (hn : n ≤ A.length) (M : Heap) : But n id A (B ++ M) :=
  ⟨by have := h.1; simp; omega, fun i hi hne => by rw [List.getElem?_append_left (by have := h.1; omega)]; exact h.2 i hi hne⟩
theorem But.set {n id : Nat} {A B : Heap} (h : But n id A B) (o : HO) : But n id A (B.set id o) :=
  ⟨by simpa using h.1, fun i hi hne => by rw [List.getElem?_set_ne (fun e => hne e.symm)]; exact h.2 i hi hne⟩
theorem But.trans {n id : Nat} {A B C : Heap} (h : But n id A B) (k : But n id B C) : But n id A C :=
  ⟨Nat.le_trans h.1 k.1, fun i hi hne => (k.2 i hi hne).trans (h.2 i hi hne)⟩
theorem But.less {n m id : Nat} {A B : Heap} (h : But n id A B) (hm : m ≤ n) : But m id A B := ⟨h.1, fun i hi hne => h.2 i (by omega) hne⟩

theorem leave_but {id : Nat} {H H' : Heap} {keep : Bool} {r : AV} {o : HO} (hb : But H.length id H H') (ho : H'[id]? = some o) (hro : refsO H.length o = true) (hr : refsLt H.length (if keep then r else degrade r) = true) (hid : id < H.length) :
    leave H keep r H' = (if keep then r else degrade r, H.set id o) := by
  have hh : heldIn H H' := fun i hi => by
    by_cases h : i = id
    · subst h; exact .inr ⟨o, ho, hro⟩
    · exact .inl (hb.2 i hi h)
  unfold leave
  rw [if_pos ⟨hr, hh⟩]
  congr 1
  apply List.ext_getElem?
  intro i
  rw [List.getElem?_take]
  by_cases hi : i < H.length
  · rw [if_pos hi]
    by_cases h : i = id
    · subst h; rw [ho, List.getElem?_set_self hi]
    · rw [hb.2 i hi h, List.getElem?_set_ne (fun e => h e.symm)]
  · rw [if_neg hi, List.getElem?_eq_none (by simpa using hi)]
theorem thenL_inv {R : Type} {o : Option Out} {K : AEx → List AV → Heap → Option R} {r : Option R} {Q : AEx → List AV → Heap → Prop} (hr : thenL o K = r) (h : ∃ e tm H, o = some (e, tm, H) ∧ Q e tm H) : ∃ e tm H, Q e tm H ∧ K e tm H = r := by
  obtain ⟨e, tm, H, rfl, hq⟩ := h
  exact ⟨e, tm, H, hq, hr⟩
theorem ret_ex {o : Option Out} {Q : List AV → Heap → Prop} (h : ∃ tm H, o = some (.ret, tm, H) ∧ Q tm H) : ∃ e tm H, o = some (e, tm, H) ∧ (e = .ret ∧ Q tm H) := by
  obtain ⟨tm, H, h, hq⟩ := h
  exact ⟨_, tm, H, h, rfl, hq⟩

/-! regions in which loads may be done earlier: with the states on the way -/
section
variable {R : Type} {Φ : Oracle} {Λ : ACode → List AV → Heap → Option Out}
/-- Behind one operation. -/
def zK (Φ : Oracle) (os : List AOper) (dst : Option Nat) (tr : List (List AV × Heap)) (tm : List AV) (H : Heap) (K : List (List AV × Heap) → List AV → Heap → Option R) : Option (AV × Heap) → Option R
  | some (v, H') => xops Φ os ((tm, H) :: tr) (putA tm dst v) H' K
  | none => none
/-- Behind the question whether an operation is to be done. -/
def zG (Φ : Oracle) (os : List AOper) (dst : Option Nat) (op : AOp) (tr : List (List AV × Heap)) (tm : List AV) (H : Heap) (K : List (List AV × Heap) → List AV → Heap → Option R) : Option Bool → Option R
  | some true => zK Φ os dst tr tm H K (aopc Φ H tm op)
  | some false => xops Φ os ((tm, H) :: tr) (putA tm dst undefA) H K
  | none => none
open Classical in
/-- The end of such a region. -/
noncomputable def pairK (l : List AOper) (ps : List (Nat × Nat)) (K : List AV → Heap → Option R) (tr : List (List AV × Heap)) (tm : List AV) (H : Heap) : Option R :=
  if ∀ q ∈ ps, stays l (((tm, H) :: tr).reverse) q then K tm H else none

variable {os : List AOper} {dst : Option Nat} {op : AOp} {tr : List (List AV × Heap)} {tm : List AV} {H H' : Heap} {K : List (List AV × Heap) → List AV → Heap → Option R} {v : AV} {g : Nat × Bool} {d : Nat} {b : Bool}
theorem z_ops {l : List AOper} {p : Nat × Nat} {ps : List (Nat × Nat)} {K : AEx → List AV → Heap → Option R} : exec0 Φ Λ (.ops l (p :: ps)) tm H K = xops Φ l [] tm H (pairK l (p :: ps) (K .normal)) := by
  rw [x_ops]
  rfl
theorem z_nil : xops Φ [] tr tm H K = K tr tm H := _root_.id rfl
theorem z_cons : xops Φ (⟨dst, op, none⟩ :: os) tr tm H K = zK Φ os dst tr tm H K (aopc Φ H tm op) := by
  simp only [xops, wantedA]
  cases aopc Φ H tm op <;> rfl
theorem z_guard : xops Φ (⟨dst, op, some g⟩ :: os) tr tm H K = zG Φ os dst op tr tm H K (wantedA tm (some g)) := by
  simp only [xops]
  cases wantedA tm (some g) with
  | none => rfl
  | some b => cases b <;> simp only [zG, zK] <;> first | rfl | (cases aopc Φ H tm op <;> rfl)
theorem z_some : zK Φ os (some d) tr tm H K (some (v, H')) = xops Φ os ((tm, H) :: tr) (tm.set d v) H' K := _root_.id rfl
theorem z_drop : zK Φ os none tr tm H K (some (v, H')) = xops Φ os ((tm, H) :: tr) tm H' K := _root_.id rfl
theorem z_do : zG Φ os dst op tr tm H K (some true) = zK Φ os dst tr tm H K (aopc Φ H tm op) := _root_.id rfl
theorem z_not : zG Φ os (some d) op tr tm H K (some false) = xops Φ os ((tm, H) :: tr) (tm.set d (.tup [])) H K := _root_.id rfl
theorem z_not0 : zG Φ os none op tr tm H K (some false) = xops Φ os ((tm, H) :: tr) tm H K := _root_.id rfl
end
theorem set_same {α : Type} {l : List α} {i : Nat} {x : α} (h : l[i]? = some x) : l.set i x = l := by
  apply List.ext_getElem?
  intro j
  by_cases hj : i = j
  · subst hj; rw [h, List.getElem?_set_self (List.getElem?_eq_some_iff.1 h).1]
  · rw [List.getElem?_set_ne hj]

/-- One element more to what is gathered. -/
theorem Gath.grow {ty : TypeId} {s bytes n : Nat} {v : AV} {H : Heap} {es : List (List Dat)} (h : Gath ty s n v H es) (hn : n ≤ H.length) (y : List Dat) (hb : (es.length + 1) * bytes ≤ 2 ^ 46) (hb0 : 0 < bytes) :
    ∃ (tok : Nat) (H' : Heap), appendA H ty bytes s v [y] = some (.asl s (es ++ [y]) tok, H') ∧ Gath ty s n (.asl s (es ++ [y]) tok) H' (es ++ [y]) ∧ H.length ≤ H'.length ∧ (∀ i, i < n → H'[i]? = H[i]?) ∧ (∀ (i : Nat) (t : Option (TypeId × Nat)) (xs : List (List AV)), H[i]? = some (HO.obj t xs) → H'[i]? = some (HO.obj t xs)) := by
  rcases h with ⟨rfl, rfl⟩ | ⟨h1, tok, h2, rfl, h4⟩
  · refine ⟨H.length, H ++ [.hw ty 1], ?_, .inr ⟨by simp, H.length, hn, rfl, by rw [hget0]; rfl⟩, by simp, fun i hi => List.getElem?_append_left (by omega), fun i t xs hi => by rw [List.getElem?_append_left (List.getElem?_eq_some_iff.1 hi).1]; exact hi⟩
    simp only [appendA, List.length_nil, Nat.zero_add]
    rw [if_pos ⟨by simpa using hb, hb0⟩]
    rfl
  · have hlt := (List.getElem?_eq_some_iff.1 h4).1
    refine ⟨tok, H.set tok (.hw ty (es.length + 1)), ?_, .inr ⟨by simp, tok, h2, rfl, ?_⟩, by simp, fun i hi => List.getElem?_set_ne (by omega), fun i t xs hi => ?_⟩
    · simp only [appendA, h4, List.length_cons, List.length_nil, Nat.zero_add]
      rw [if_pos ⟨trivial, trivial, hb, hb0, trivial⟩]
    · rw [List.getElem?_set_self hlt]
      simp
    · have : tok ≠ i := fun e => by subst e; rw [h4] at hi; simp at hi
      rw [List.getElem?_set_ne this]; exact hi
theorem leave_deg {H M : Heap} {r r' : AV} (hd : degrade r = r') (hr : refsLt H.length r' = true) : leave H false r (H ++ M) = (r', H) := by
  unfold leave
  have e : (if (false : Bool) = true then r else degrade r) = r' := by simp [hd]
  rw [e, if_pos ⟨hr, heldIn_app H M⟩, htake]
end Go.Abs
end
section
/- What the seat's functions come to: slices.IndexFunc over words, any predicate; slices.DeleteFunc. -/
set_option linter.unusedVariables false
set_option linter.unusedSimpArgs false
namespace Go.Abs.Seat
open Go.Proofs

def datW (w : Word) : List Dat := [.int .i64 w.1, .str w.2.1, .int .i64 w.2.2]
def zeroW : Word := (0, [], 0)

/-- What a predicate's call comes to, wherever the heap is as it was but for one place. -/
def Asks (p : Word → Bool) (g : FuncId) (cap : List AV) (n idw : Nat) (H : Heap) (rows : List Word) : Prop :=
  ∀ w ∈ rows, ∀ H' : Heap, (∀ i, i < n → i ≠ idw → H'[i]? = H[i]?) → n ≤ H'.length → L g ([.im (.agg (datW w))] ++ cap) H' = some (.im (.bool (p w)), H')

theorem drop_cons {α : Type} {l : List α} {i : Nat} (h : i < l.length) : ∃ w, l[i]? = some w ∧ l.drop i = w :: l.drop (i + 1) := by
  refine ⟨_, List.getElem?_eq_getElem h, ?_⟩
  rw [List.drop_eq_getElem_cons h]

theorem l76g (rows : List Word) (rest : List Word) (idw : Nat) (H : Heap) (hw : H[idw]? = some (.obj none ((rows ++ rest).map encW))) (p : Word → Bool) (g : FuncId) (cap : List AV) (hp : Asks p g cap H.length idw H rows) (hn : rows.length ≤ 9223372036854775807) :
    ∀ (m i : Nat), i + m = rows.length → ∀ tm : List AV, tm.length = 19 → tm.getD 0 undefA = .ms 3 idw 0 rows.length → tm.getD 1 undefA = .clo g cap → tm.getD 6 undefA = .ms 3 idw 0 rows.length → tm.getD 7 undefA = .im (.int .i64 rows.length) → tm.getD 8 undefA = .im (.int .i64 i) →
    ∃ e tm' H', Λ c76_0 tm H = some (e, tm', H') ∧ tm'.length = 19 ∧ H' = H ∧ match (rows.drop i).findIdx? p with
      | some j => e = .ret ∧ tm'.getD 4 undefA = .im (.int .i64 ((i + j : Nat) : Int))
      | none => e = .exit 0
  | 0, i, hi, tm, hlen, h0, h1, h6, h7, h8 => by
    have e : rows.drop i = [] := by rw [List.drop_eq_nil_iff]; omega
    have hc : decide ((i : Int) < (rows.length : Int)) = false := decide_eq_false (by omega)
    rw [e, l76_0]
    simp only [b76_0, x_seq, x_block, x_skip, x_label, x_cond, x_exit, x_goto, x_ret, k_normal, k_exit, k_goto, k_ret, b_normal, b_exit, b_goto, b_ret, wantedA, aop, ev, putA, List.length_cons, List.length_nil, List.replicate, List.cons_append, List.nil_append, List.append_nil, List.append_assoc, gs_same, gs_ne, gq_same, gq_ne, List.length_set, List.map_cons, List.map_nil, cellsOf, List.all_cons, List.all_nil, cellOk, boxTy, Bool.and_true, Bool.and_self, if_true, ite_true, ite_false, loadAt, storeAt, setAt, hget, hget0, hset, hset0, List.getElem?_cons_zero, List.getElem?_cons_succ, List.set_cons_zero, List.set_cons_succ, Nat.add_zero, Nat.zero_add, Nat.reduceAdd, Nat.reduceSub, Nat.reduceLeDiff, Nat.reduceLT, Nat.reduceEqDiff, Nat.le_refl, and_self, and_true, true_and, mkAgg, toIms, List.drop_zero, List.drop_succ_cons, List.take_succ_cons, List.take_zero, List.length_append, binBool, unA, Bool.false_eq_true, if_false, partA, fillA, fillE, List.take_nil, Nat.zero_ne_one, Nat.one_ne_zero, not_false_eq_true, ne_eq, Nat.succ_ne_self, reduceCtorEq, Int.reduceEq, Int.reduceLT, Int.reduceLE, decide_true, decide_false, lenA, beq_self_eq_true, beq_true, beq_false, Bool.not_true, Bool.not_false, b_lss, b_gtr, b_leq, b_geq, b_eql, b_neq, b_add, b_sub, b_mul, s_eql, s_neq, y_ops, y_nil, y_cons, y_guard, y_some, y_drop, y_do, y_not, y_not0, c_call, c_clo, c_move, c_pick, c_alloc, c_box, c_build, c_bslice, c_load, c_store, c_nilCheck, c_bin, c_binB, c_un, c_i2i, c_i2f, c_f2i, c_s2b, c_b2s, c_strId, c_mkfunc, c_mkslice, c_slice, c_sliceStr, c_fieldAddr, c_field, c_indexSl, c_indexArr, c_elemArr, c_indexStr, c_extract, c_lenStr, c_lenSl, c_append, c_real, c_imag, c_complex, c_min, c_max, c_clear, hlen, h0, h1, h6, h7, h8, hc, List.findIdx?_nil]
    exact ⟨_, _, _, rfl, by simp only [List.length_set, hlen], rfl, rfl⟩
  | m + 1, i, hi, tm, hlen, h0, h1, h6, h7, h8 => by
    have hlt : i < rows.length := by omega
    obtain ⟨w, hwi, e⟩ := drop_cons hlt
    have hc : decide ((i : Int) < (rows.length : Int)) = true := decide_eq_true (by omega)
    have hix := idx_nat hlt
    have hget : ((rows ++ rest).map encW)[i]? = some (encW w) := by rw [List.getElem?_map, List.getElem?_append_left hlt, hwi]; rfl
    have hcall := hp w (List.mem_of_getElem? hwi) H (fun _ _ _ => rfl) (Nat.le_refl _)
    have hwr := wrap_nat (i := i) (by omega)
    have key := l76g rows rest idw H hw p g cap hp hn m (i + 1) (by omega)
    rw [e, List.findIdx?_cons, l76_0]
    simp only [datW, List.cons_append, List.nil_append] at hcall
    cases hk : p w with
    | true =>
      rw [hk] at hcall
      simp only [b76_0, x_seq, x_block, x_skip, x_label, x_cond, x_exit, x_goto, x_ret, k_normal, k_exit, k_goto, k_ret, b_normal, b_exit, b_goto, b_ret, wantedA, aop, ev, putA, List.length_cons, List.length_nil, List.replicate, List.cons_append, List.nil_append, List.append_nil, List.append_assoc, gs_same, gs_ne, gq_same, gq_ne, List.length_set, List.map_cons, List.map_nil, cellsOf, List.all_cons, List.all_nil, cellOk, boxTy, Bool.and_true, Bool.and_self, if_true, ite_true, ite_false, loadAt, storeAt, setAt, hget, hget0, hset, hset0, List.getElem?_cons_zero, List.getElem?_cons_succ, List.set_cons_zero, List.set_cons_succ, Nat.add_zero, Nat.zero_add, Nat.reduceAdd, Nat.reduceSub, Nat.reduceLeDiff, Nat.reduceLT, Nat.reduceEqDiff, Nat.le_refl, and_self, and_true, true_and, mkAgg, toIms, List.drop_zero, List.drop_succ_cons, List.take_succ_cons, List.take_zero, List.length_append, binBool, unA, Bool.false_eq_true, if_false, partA, fillA, fillE, List.take_nil, Nat.zero_ne_one, Nat.one_ne_zero, not_false_eq_true, ne_eq, Nat.succ_ne_self, reduceCtorEq, Int.reduceEq, Int.reduceLT, Int.reduceLE, decide_true, decide_false, lenA, beq_self_eq_true, beq_true, beq_false, Bool.not_true, Bool.not_false, b_lss, b_gtr, b_leq, b_geq, b_eql, b_neq, b_add, b_sub, b_mul, s_eql, s_neq, y_ops, y_nil, y_cons, y_guard, y_some, y_drop, y_do, y_not, y_not0, c_call, c_clo, c_move, c_pick, c_alloc, c_box, c_build, c_bslice, c_load, c_store, c_nilCheck, c_bin, c_binB, c_un, c_i2i, c_i2f, c_f2i, c_s2b, c_b2s, c_strId, c_mkfunc, c_mkslice, c_slice, c_sliceStr, c_fieldAddr, c_field, c_indexSl, c_indexArr, c_elemArr, c_indexStr, c_extract, c_lenStr, c_lenSl, c_append, c_real, c_imag, c_complex, c_min, c_max, c_clear, hlen, h0, h1, h6, h7, h8, hc, hix, hw, hget, encW, hcall]
      exact ⟨_, _, _, rfl, by simp only [List.length_set, hlen], rfl, rfl, by simp only [gs_same, gs_ne, List.length_set, Nat.reduceLT, Nat.reduceEqDiff, not_false_eq_true, hlen]⟩
    | false =>
      rw [hk] at hcall
      simp only [b76_0, x_seq, x_block, x_skip, x_label, x_cond, x_exit, x_goto, x_ret, k_normal, k_exit, k_goto, k_ret, b_normal, b_exit, b_goto, b_ret, wantedA, aop, ev, putA, List.length_cons, List.length_nil, List.replicate, List.cons_append, List.nil_append, List.append_nil, List.append_assoc, gs_same, gs_ne, gq_same, gq_ne, List.length_set, List.map_cons, List.map_nil, cellsOf, List.all_cons, List.all_nil, cellOk, boxTy, Bool.and_true, Bool.and_self, if_true, ite_true, ite_false, loadAt, storeAt, setAt, hget, hget0, hset, hset0, List.getElem?_cons_zero, List.getElem?_cons_succ, List.set_cons_zero, List.set_cons_succ, Nat.add_zero, Nat.zero_add, Nat.reduceAdd, Nat.reduceSub, Nat.reduceLeDiff, Nat.reduceLT, Nat.reduceEqDiff, Nat.le_refl, and_self, and_true, true_and, mkAgg, toIms, List.drop_zero, List.drop_succ_cons, List.take_succ_cons, List.take_zero, List.length_append, binBool, unA, Bool.false_eq_true, if_false, partA, fillA, fillE, List.take_nil, Nat.zero_ne_one, Nat.one_ne_zero, not_false_eq_true, ne_eq, Nat.succ_ne_self, reduceCtorEq, Int.reduceEq, Int.reduceLT, Int.reduceLE, decide_true, decide_false, lenA, beq_self_eq_true, beq_true, beq_false, Bool.not_true, Bool.not_false, b_lss, b_gtr, b_leq, b_geq, b_eql, b_neq, b_add, b_sub, b_mul, s_eql, s_neq, y_ops, y_nil, y_cons, y_guard, y_some, y_drop, y_do, y_not, y_not0, c_call, c_clo, c_move, c_pick, c_alloc, c_box, c_build, c_bslice, c_load, c_store, c_nilCheck, c_bin, c_binB, c_un, c_i2i, c_i2f, c_f2i, c_s2b, c_b2s, c_strId, c_mkfunc, c_mkslice, c_slice, c_sliceStr, c_fieldAddr, c_field, c_indexSl, c_indexArr, c_elemArr, c_indexStr, c_extract, c_lenStr, c_lenSl, c_append, c_real, c_imag, c_complex, c_min, c_max, c_clear, hlen, h0, h1, h6, h7, h8, hc, hix, hw, hget, encW, hcall, hwr]
      cases hf : (rows.drop (i + 1)).findIdx? p with
      | none =>
        simp only [hf] at key
        simp only [Option.map_none]
        apply key
        all_goals simp only [gs_same, gs_ne, List.length_set, Nat.reduceLT, Nat.reduceEqDiff, not_false_eq_true, hlen, h0, h1, h6, h7]
      | some j =>
        simp only [hf] at key
        simp only [Option.map_some]
        rw [show i + (j + 1) = i + 1 + j by omega]
        apply key
        all_goals simp only [gs_same, gs_ne, List.length_set, Nat.reduceLT, Nat.reduceEqDiff, not_false_eq_true, hlen, h0, h1, h6, h7]

theorem s76g (rows : List Word) (rest : List Word) (idw : Nat) (H : Heap) (hw : H[idw]? = some (.obj none ((rows ++ rest).map encW))) (p : Word → Bool) (g : FuncId) (cap : List AV) (hp : Asks p g cap H.length idw H rows) (hn : rows.length ≤ 9223372036854775807) :
    L 76 [.ms 3 idw 0 rows.length, .clo g cap] H = some (.im (.int .i64 (match rows.findIdx? p with | some j => ((j : Nat) : Int) | none => -1)), H) := by
  rw [leq F76]
  obtain ⟨hlen, ha⟩ := enter_at (f := f76) (args := [.ms 3 idw 0 rows.length, .clo g cap]) (Nat.le_of_ble_eq_true rfl)
  have h0 := ha 0 _ rfl
  have h1 := ha 1 _ rfl
  generalize enterA f76 [.ms 3 idw 0 rows.length, .clo g cap] = tm at *
  change tm.length = 19 at hlen
  have key := l76g rows rest idw H hw p g cap hp hn rows.length 0 (by omega)
  have z : ((0 : Nat) : Int) = 0 := rfl
  simp only [List.drop_zero, Nat.zero_add, z] at key
  simp only [f76, e76_0, x_seq, x_block, x_skip, x_label, x_cond, x_exit, x_goto, x_ret, k_normal, k_exit, k_goto, k_ret, b_normal, b_exit, b_goto, b_ret, wantedA, aop, ev, putA, List.length_cons, List.length_nil, List.replicate, List.cons_append, List.nil_append, List.append_nil, List.append_assoc, gs_same, gs_ne, gq_same, gq_ne, List.length_set, List.map_cons, List.map_nil, cellsOf, List.all_cons, List.all_nil, cellOk, boxTy, Bool.and_true, Bool.and_self, if_true, ite_true, ite_false, loadAt, storeAt, setAt, hget, hget0, hset, hset0, List.getElem?_cons_zero, List.getElem?_cons_succ, List.set_cons_zero, List.set_cons_succ, Nat.add_zero, Nat.zero_add, Nat.reduceAdd, Nat.reduceSub, Nat.reduceLeDiff, Nat.reduceLT, Nat.reduceEqDiff, Nat.le_refl, and_self, and_true, true_and, mkAgg, toIms, List.drop_zero, List.drop_succ_cons, List.take_succ_cons, List.take_zero, List.length_append, binBool, unA, Bool.false_eq_true, if_false, partA, fillA, fillE, List.take_nil, Nat.zero_ne_one, Nat.one_ne_zero, not_false_eq_true, ne_eq, Nat.succ_ne_self, reduceCtorEq, Int.reduceEq, Int.reduceLT, Int.reduceLE, decide_true, decide_false, lenA, beq_self_eq_true, beq_true, beq_false, Bool.not_true, Bool.not_false, b_lss, b_gtr, b_leq, b_geq, b_eql, b_neq, b_add, b_sub, b_mul, s_eql, s_neq, y_ops, y_nil, y_cons, y_guard, y_some, y_drop, y_do, y_not, y_not0, c_call, c_clo, c_move, c_pick, c_alloc, c_box, c_build, c_bslice, c_load, c_store, c_nilCheck, c_bin, c_binB, c_un, c_i2i, c_i2f, c_f2i, c_s2b, c_b2s, c_strId, c_mkfunc, c_mkslice, c_slice, c_sliceStr, c_fieldAddr, c_field, c_indexSl, c_indexArr, c_elemArr, c_indexStr, c_extract, c_lenStr, c_lenSl, c_append, c_real, c_imag, c_complex, c_min, c_max, c_clear, hlen, h0, h1]
  refine thenL_of (key _ ?_ ?_ ?_ ?_ ?_ ?_) ?_
  iterate 6 simp only [gs_same, gs_ne, List.length_set, Nat.reduceLT, Nat.reduceEqDiff, not_false_eq_true, hlen, h0, h1]
  rintro e tm' H' ⟨hl', rfl, hm⟩
  cases hf : rows.findIdx? p with
  | none =>
    simp only [hf] at hm
    subst hm
    simp only [x_seq, x_block, x_skip, x_label, x_cond, x_exit, x_goto, x_ret, k_normal, k_exit, k_goto, k_ret, b_normal, b_exit, b_goto, b_ret, wantedA, aop, ev, putA, List.length_cons, List.length_nil, List.replicate, List.cons_append, List.nil_append, List.append_nil, List.append_assoc, gs_same, gs_ne, gq_same, gq_ne, List.length_set, List.map_cons, List.map_nil, cellsOf, List.all_cons, List.all_nil, cellOk, boxTy, Bool.and_true, Bool.and_self, if_true, ite_true, ite_false, loadAt, storeAt, setAt, hget, hget0, hset, hset0, List.getElem?_cons_zero, List.getElem?_cons_succ, List.set_cons_zero, List.set_cons_succ, Nat.add_zero, Nat.zero_add, Nat.reduceAdd, Nat.reduceSub, Nat.reduceLeDiff, Nat.reduceLT, Nat.reduceEqDiff, Nat.le_refl, and_self, and_true, true_and, mkAgg, toIms, List.drop_zero, List.drop_succ_cons, List.take_succ_cons, List.take_zero, List.length_append, binBool, unA, Bool.false_eq_true, if_false, partA, fillA, fillE, List.take_nil, Nat.zero_ne_one, Nat.one_ne_zero, not_false_eq_true, ne_eq, Nat.succ_ne_self, reduceCtorEq, Int.reduceEq, Int.reduceLT, Int.reduceLE, decide_true, decide_false, lenA, beq_self_eq_true, beq_true, beq_false, Bool.not_true, Bool.not_false, b_lss, b_gtr, b_leq, b_geq, b_eql, b_neq, b_add, b_sub, b_mul, s_eql, s_neq, y_ops, y_nil, y_cons, y_guard, y_some, y_drop, y_do, y_not, y_not0, c_call, c_clo, c_move, c_pick, c_alloc, c_box, c_build, c_bslice, c_load, c_store, c_nilCheck, c_bin, c_binB, c_un, c_i2i, c_i2f, c_f2i, c_s2b, c_b2s, c_strId, c_mkfunc, c_mkslice, c_slice, c_sliceStr, c_fieldAddr, c_field, c_indexSl, c_indexArr, c_elemArr, c_indexStr, c_extract, c_lenStr, c_lenSl, c_append, c_real, c_imag, c_complex, c_min, c_max, c_clear, endK, resA, tupA, hl', leave_same]
  | some j =>
    simp only [hf] at hm
    obtain ⟨rfl, h4⟩ := hm
    simp only [x_seq, x_block, x_skip, x_label, x_cond, x_exit, x_goto, x_ret, k_normal, k_exit, k_goto, k_ret, b_normal, b_exit, b_goto, b_ret, wantedA, aop, ev, putA, List.length_cons, List.length_nil, List.replicate, List.cons_append, List.nil_append, List.append_nil, List.append_assoc, gs_same, gs_ne, gq_same, gq_ne, List.length_set, List.map_cons, List.map_nil, cellsOf, List.all_cons, List.all_nil, cellOk, boxTy, Bool.and_true, Bool.and_self, if_true, ite_true, ite_false, loadAt, storeAt, setAt, hget, hget0, hset, hset0, List.getElem?_cons_zero, List.getElem?_cons_succ, List.set_cons_zero, List.set_cons_succ, Nat.add_zero, Nat.zero_add, Nat.reduceAdd, Nat.reduceSub, Nat.reduceLeDiff, Nat.reduceLT, Nat.reduceEqDiff, Nat.le_refl, and_self, and_true, true_and, mkAgg, toIms, List.drop_zero, List.drop_succ_cons, List.take_succ_cons, List.take_zero, List.length_append, binBool, unA, Bool.false_eq_true, if_false, partA, fillA, fillE, List.take_nil, Nat.zero_ne_one, Nat.one_ne_zero, not_false_eq_true, ne_eq, Nat.succ_ne_self, reduceCtorEq, Int.reduceEq, Int.reduceLT, Int.reduceLE, decide_true, decide_false, lenA, beq_self_eq_true, beq_true, beq_false, Bool.not_true, Bool.not_false, b_lss, b_gtr, b_leq, b_geq, b_eql, b_neq, b_add, b_sub, b_mul, s_eql, s_neq, y_ops, y_nil, y_cons, y_guard, y_some, y_drop, y_do, y_not, y_not0, c_call, c_clo, c_move, c_pick, c_alloc, c_box, c_build, c_bslice, c_load, c_store, c_nilCheck, c_bin, c_binB, c_un, c_i2i, c_i2f, c_f2i, c_s2b, c_b2s, c_strId, c_mkfunc, c_mkslice, c_slice, c_sliceStr, c_fieldAddr, c_field, c_indexSl, c_indexArr, c_elemArr, c_indexStr, c_extract, c_lenStr, c_lenSl, c_append, c_real, c_imag, c_complex, c_min, c_max, c_clear, endK, resA, tupA, hl', leave_same, h4]

theorem l98 (rows rest : List Word) (idw n : Nat) (H0 : Heap) (hnn : n ≤ H0.length) (hidw : idw < n) (p : Word → Bool) (g : FuncId) (cap : List AV) (hp : Asks p g cap n idw H0 rows) (hn : rows.length ≤ 9223372036854775806) :
    ∀ (m j : Nat), j + m = rows.length → ∀ (tm : List AV) (H : Heap) (fl cw : List Word), But n idw H0 H → (rows.take j).filter (fun w => !p w) = fl → fl.length ≤ j → cw.take fl.length = fl → cw.drop j = rows.drop j ++ rest → cw.length = rows.length + rest.length → H[idw]? = some (.obj none (cw.map encW)) →
    tm.length = 42 → tm.getD 0 undefA = .ms 3 idw 0 rows.length → tm.getD 1 undefA = .clo g cap → tm.getD 5 undefA = .im (.int .i64 (fl.length : Int)) → tm.getD 6 undefA = .im (.int .i64 j) →
    ∃ e tm' H', Λ c98_0 tm H = some (e, tm', H') ∧ tm'.length = 42 ∧ e = .exit 0 ∧ But n idw H0 H' ∧ tm'.getD 0 undefA = .ms 3 idw 0 rows.length ∧ ∃ fl' cw' : List Word, rows.filter (fun w => !p w) = fl' ∧ tm'.getD 5 undefA = .im (.int .i64 (fl'.length : Int)) ∧
      fl'.length ≤ rows.length ∧ cw'.take fl'.length = fl' ∧ cw'.drop rows.length = rest ∧ cw'.length = rows.length + rest.length ∧ H'[idw]? = some (.obj none (cw'.map encW))
  | 0, j, hj, tm, H, fl, cw, hb, hfl, hle, htake, hdrop, hcw, ho, hlen, h0, h1, h5, h6 => by
    have hj' : j = rows.length := by omega
    subst hj'
    have hc : decide ((rows.length : Int) < (rows.length : Int)) = false := decide_eq_false (by omega)
    rw [List.take_length] at hfl
    rw [List.drop_length, List.nil_append] at hdrop
    rw [l98_0]
    simp only [b98_0, x_seq, x_block, x_skip, x_label, x_cond, x_exit, x_goto, x_ret, k_normal, k_exit, k_goto, k_ret, b_normal, b_exit, b_goto, b_ret, wantedA, aop, ev, putA, List.length_cons, List.length_nil, List.replicate, List.cons_append, List.nil_append, List.append_nil, List.append_assoc, gs_same, gs_ne, gq_same, gq_ne, List.length_set, List.map_cons, List.map_nil, cellsOf, List.all_cons, List.all_nil, cellOk, boxTy, Bool.and_true, Bool.and_self, if_true, ite_true, ite_false, loadAt, storeAt, setAt, hget, hget0, hset, hset0, List.getElem?_cons_zero, List.getElem?_cons_succ, List.set_cons_zero, List.set_cons_succ, Nat.add_zero, Nat.zero_add, Nat.reduceAdd, Nat.reduceSub, Nat.reduceLeDiff, Nat.reduceLT, Nat.reduceEqDiff, Nat.le_refl, and_self, and_true, true_and, mkAgg, toIms, List.drop_zero, List.drop_succ_cons, List.take_succ_cons, List.take_zero, List.length_append, binBool, unA, Bool.false_eq_true, if_false, partA, fillA, fillE, List.take_nil, Nat.zero_ne_one, Nat.one_ne_zero, not_false_eq_true, ne_eq, Nat.succ_ne_self, reduceCtorEq, Int.reduceEq, Int.reduceLT, Int.reduceLE, decide_true, decide_false, lenA, beq_self_eq_true, beq_true, beq_false, Bool.not_true, Bool.not_false, b_lss, b_gtr, b_leq, b_geq, b_eql, b_neq, b_add, b_sub, b_mul, s_eql, s_neq, y_ops, y_nil, y_cons, y_guard, y_some, y_drop, y_do, y_not, y_not0, c_call, c_clo, c_move, c_pick, c_alloc, c_box, c_build, c_bslice, c_load, c_store, c_nilCheck, c_bin, c_binB, c_un, c_i2i, c_i2f, c_f2i, c_s2b, c_b2s, c_strId, c_mkfunc, c_mkslice, c_slice, c_sliceStr, c_fieldAddr, c_field, c_indexSl, c_indexArr, c_elemArr, c_indexStr, c_extract, c_lenStr, c_lenSl, c_append, c_real, c_imag, c_complex, c_min, c_max, c_clear, hlen, h0, h1, h5, h6, hc]
    exact ⟨_, _, _, rfl, by simp only [List.length_set, hlen], rfl, hb, by simp only [gs_same, gs_ne, List.length_set, Nat.reduceLT, Nat.reduceEqDiff, not_false_eq_true, hlen, h0], fl, cw, hfl, by simp only [gs_same, gs_ne, List.length_set, Nat.reduceLT, Nat.reduceEqDiff, not_false_eq_true, hlen, h5], hle, htake, hdrop, hcw, ho⟩
  | m + 1, j, hj, tm, H, fl, cw, hb, hfl, hle, htake, hdrop, hcw, ho, hlen, h0, h1, h5, h6 => by
    have hlt : j < rows.length := by omega
    obtain ⟨w, hwi, e⟩ := drop_cons hlt
    have hc : decide ((j : Int) < (rows.length : Int)) = true := decide_eq_true (by omega)
    have hix := idx_nat hlt
    have htk : rows.take (j + 1) = rows.take j ++ [w] := by rw [List.take_add_one, hwi]; rfl
    have hcj : cw[j]? = some w := by
      have : (cw.drop j)[0]? = some w := by rw [hdrop, e]; rfl
      rwa [List.getElem?_drop, Nat.add_zero] at this
    have hcl : j < cw.length := (List.getElem?_eq_some_iff.1 hcj).1
    have hget : (cw.map encW)[j]? = some (encW w) := by rw [List.getElem?_map, hcj]; rfl
    have hlt2 : idw < H.length := by have := hb.1; omega
    have hb1 := hb.app hnn [.obj none [encW w]]
    have hcall := hp w (List.mem_of_getElem? hwi) (H ++ [.obj none [encW w]]) (fun i hi hne => hb1.2 i hi hne) (by have := hb1.1; omega)
    have hwr := wrap_nat (i := j) (by omega)
    have key := l98 rows rest idw n H0 hnn hidw p g cap hp hn m (j + 1) (by omega)
    rw [htk, List.filter_append, hfl] at key
    have hoa : ∀ M : Heap, (H ++ M)[idw]? = some (.obj none (cw.map encW)) := fun M => by rw [List.getElem?_append_left hlt2]; exact ho
    have hd1 : cw.drop (j + 1) = rows.drop (j + 1) ++ rest := by
      have := congrArg (List.drop 1) hdrop
      rw [List.drop_drop, e] at this
      simpa using this
    rw [l98_0]
    simp only [datW, encW, List.cons_append, List.nil_append] at hcall hget hb1
    cases hk : p w with
    | true =>
      rw [hk] at hcall
      have hf : ([w].filter fun w => !p w) = [] := by simp [hk]
      rw [hf, List.append_nil] at key
      simp only [b98_0, x_seq, x_block, x_skip, x_label, x_cond, x_exit, x_goto, x_ret, k_normal, k_exit, k_goto, k_ret, b_normal, b_exit, b_goto, b_ret, wantedA, aop, ev, putA, List.length_cons, List.length_nil, List.replicate, List.cons_append, List.nil_append, List.append_nil, List.append_assoc, gs_same, gs_ne, gq_same, gq_ne, List.length_set, List.map_cons, List.map_nil, cellsOf, List.all_cons, List.all_nil, cellOk, boxTy, Bool.and_true, Bool.and_self, if_true, ite_true, ite_false, loadAt, storeAt, setAt, hget, hget0, hset, hset0, List.getElem?_cons_zero, List.getElem?_cons_succ, List.set_cons_zero, List.set_cons_succ, Nat.add_zero, Nat.zero_add, Nat.reduceAdd, Nat.reduceSub, Nat.reduceLeDiff, Nat.reduceLT, Nat.reduceEqDiff, Nat.le_refl, and_self, and_true, true_and, mkAgg, toIms, List.drop_zero, List.drop_succ_cons, List.take_succ_cons, List.take_zero, List.length_append, binBool, unA, Bool.false_eq_true, if_false, partA, fillA, fillE, List.take_nil, Nat.zero_ne_one, Nat.one_ne_zero, not_false_eq_true, ne_eq, Nat.succ_ne_self, reduceCtorEq, Int.reduceEq, Int.reduceLT, Int.reduceLE, decide_true, decide_false, lenA, beq_self_eq_true, beq_true, beq_false, Bool.not_true, Bool.not_false, b_lss, b_gtr, b_leq, b_geq, b_eql, b_neq, b_add, b_sub, b_mul, s_eql, s_neq, y_ops, y_nil, y_cons, y_guard, y_some, y_drop, y_do, y_not, y_not0, c_call, c_clo, c_move, c_pick, c_alloc, c_box, c_build, c_bslice, c_load, c_store, c_nilCheck, c_bin, c_binB, c_un, c_i2i, c_i2f, c_f2i, c_s2b, c_b2s, c_strId, c_mkfunc, c_mkslice, c_slice, c_sliceStr, c_fieldAddr, c_field, c_indexSl, c_indexArr, c_elemArr, c_indexStr, c_extract, c_lenStr, c_lenSl, c_append, c_real, c_imag, c_complex, c_min, c_max, c_clear, hlen, h0, h1, h5, h6, hc, hix, ho, hget, hcall, hwr]
      refine ex_imp (key _ _ fl cw hb1 rfl (by omega) htake hd1 hcw (hoa _) ?_ ?_ ?_ ?_ ?_) fun _ _ _ h => h
      all_goals simp only [gs_same, gs_ne, List.length_set, Nat.reduceLT, Nat.reduceEqDiff, not_false_eq_true, hlen, h0, h1, h5]
    | false =>
      rw [hk] at hcall
      have hf : ([w].filter fun w => !p w) = [w] := by simp [hk]
      rw [hf] at key
      have hix5 := idx_nat (i := fl.length) (n := rows.length) (by omega)
      have hwr5 := wrap_nat (i := fl.length) (by omega)
      have hg5 : (cw.map encW)[fl.length]? = some (encW (cw[fl.length]'(by omega))) := by
        rw [List.getElem?_map, List.getElem?_eq_getElem (by omega)]; rfl
      have hset : (cw.map encW).set fl.length (encW w) = (cw.set fl.length w).map encW := by rw [List.map_set]
      generalize cw[fl.length]'(by omega) = u at hg5
      have hb2 := hb1.set (.obj none ((cw.map encW).set fl.length (encW w)))
      rw [hset] at hb2
      simp only [encW] at hset hg5
      simp only [b98_0, x_seq, x_block, x_skip, x_label, x_cond, x_exit, x_goto, x_ret, k_normal, k_exit, k_goto, k_ret, b_normal, b_exit, b_goto, b_ret, wantedA, aop, ev, putA, List.length_cons, List.length_nil, List.replicate, List.cons_append, List.nil_append, List.append_nil, List.append_assoc, gs_same, gs_ne, gq_same, gq_ne, List.length_set, List.map_cons, List.map_nil, cellsOf, List.all_cons, List.all_nil, cellOk, boxTy, Bool.and_true, Bool.and_self, if_true, ite_true, ite_false, loadAt, storeAt, setAt, hget, hget0, hset, hset0, List.getElem?_cons_zero, List.getElem?_cons_succ, List.set_cons_zero, List.set_cons_succ, Nat.add_zero, Nat.zero_add, Nat.reduceAdd, Nat.reduceSub, Nat.reduceLeDiff, Nat.reduceLT, Nat.reduceEqDiff, Nat.le_refl, and_self, and_true, true_and, mkAgg, toIms, List.drop_zero, List.drop_succ_cons, List.take_succ_cons, List.take_zero, List.length_append, binBool, unA, Bool.false_eq_true, if_false, partA, fillA, fillE, List.take_nil, Nat.zero_ne_one, Nat.one_ne_zero, not_false_eq_true, ne_eq, Nat.succ_ne_self, reduceCtorEq, Int.reduceEq, Int.reduceLT, Int.reduceLE, decide_true, decide_false, lenA, beq_self_eq_true, beq_true, beq_false, Bool.not_true, Bool.not_false, b_lss, b_gtr, b_leq, b_geq, b_eql, b_neq, b_add, b_sub, b_mul, s_eql, s_neq, y_ops, y_nil, y_cons, y_guard, y_some, y_drop, y_do, y_not, y_not0, c_call, c_clo, c_move, c_pick, c_alloc, c_box, c_build, c_bslice, c_load, c_store, c_nilCheck, c_bin, c_binB, c_un, c_i2i, c_i2f, c_f2i, c_s2b, c_b2s, c_strId, c_mkfunc, c_mkslice, c_slice, c_sliceStr, c_fieldAddr, c_field, c_indexSl, c_indexArr, c_elemArr, c_indexStr, c_extract, c_lenStr, c_lenSl, c_append, c_real, c_imag, c_complex, c_min, c_max, c_clear, hlen, h0, h1, h5, h6, hc, hix, ho, hget, hcall, hwr, hix5, hwr5, hoa, hg5, hset]
      refine ex_imp (key _ _ (fl ++ [w]) (cw.set fl.length w) hb2 rfl (by simp; omega) ?_ ?_ (by simpa using hcw) ?_ ?_ ?_ ?_ ?_ ?_) fun _ _ _ h => h
      · rw [List.length_append, List.length_singleton, List.take_add_one, List.take_set_of_le (Nat.le_refl _), htake, List.getElem?_set_self (by omega)]
        rfl
      · rw [List.drop_set_of_lt (by omega)]; exact hd1
      · rw [List.getElem?_set_self (by simp; omega)]
      · simp only [gs_same, gs_ne, List.length_set, Nat.reduceLT, Nat.reduceEqDiff, not_false_eq_true, hlen]
      · simp only [gs_same, gs_ne, List.length_set, Nat.reduceLT, Nat.reduceEqDiff, not_false_eq_true, hlen, h0]
      · simp only [gs_same, gs_ne, List.length_set, Nat.reduceLT, Nat.reduceEqDiff, not_false_eq_true, hlen, h1]
      · simp only [gs_same, gs_ne, List.length_set, Nat.reduceLT, Nat.reduceEqDiff, not_false_eq_true, hlen, List.length_append, List.length_cons, List.length_nil, Nat.zero_add]
      · simp only [gs_same, gs_ne, List.length_set, Nat.reduceLT, Nat.reduceEqDiff, not_false_eq_true, hlen]

def msOf (idw k : Nat) : AV := if 0 < k then .ms 3 idw 0 k else .im (.sl 3 [])

theorem refs_words (n : Nat) (cw : List Word) : refsO n (.obj none (cw.map encW)) = true := by
  simp only [refsO, List.all_eq_true, List.mem_map]
  rintro e ⟨w, _, rfl⟩
  rfl

/-- slices.DeleteFunc over words. -/
theorem s98 (rows rest : List Word) (idw : Nat) (H : Heap) (hw : H[idw]? = some (.obj none ((rows ++ rest).map encW))) (p : Word → Bool) (g : FuncId) (cap : List AV) (hp : Asks p g cap H.length idw H rows) (hn : rows.length ≤ 9223372036854775806) (hne : rows ≠ []) :
    ∃ rest' : List Word, L 98 [.ms 3 idw 0 rows.length, .clo g cap] H = some (msOf idw (rows.filter fun w => !p w).length, H.set idw (.obj none (((rows.filter fun w => !p w) ++ rest').map encW))) := by
  have hidw := (List.getElem?_eq_some_iff.1 hw).1
  have h76 := s76g rows rest idw H hw p g cap hp (by omega)
  rw [leq F98]
  have hK : ∀ (tm : List AV) (H' : Heap) (v : AV) (o : HO), tm.length = 42 → tm.getD 4 undefA = v → But H.length idw H H' → H'[idw]? = some o → refsO H.length o = true → refsLt H.length v = true → endK f98 H .ret tm H' = some (v, H.set idw o) := fun tm H' v o hl h hb ho hro hr => by
    have := leave_but (keep := true) (r := v) hb ho hro (by simpa using hr) hidw
    simp only [endK, f98, resA, h, tupA, this, if_true]
  have hcode : f98.code = f98.code := rfl
  conv at hcode => rhs; simp only [f98]
  rw [hcode]
  clear hcode
  generalize endK f98 H = K at *
  obtain ⟨hlen, ha⟩ := enter_at (f := f98) (args := [.ms 3 idw 0 rows.length, .clo g cap]) (Nat.le_of_ble_eq_true rfl)
  have h0 := ha 0 _ rfl
  have h1 := ha 1 _ rfl
  generalize enterA f98 [.ms 3 idw 0 rows.length, .clo g cap] = tm at *
  change tm.length = 42 at hlen
  cases hf : rows.findIdx? p with
  | none =>
    rw [hf] at h76
    have hall : rows.filter (fun w => !p w) = rows := by
      rw [List.findIdx?_eq_none_iff] at hf
      rw [List.filter_eq_self]
      intro a ha
      simp [hf a ha]
    rw [hall]
    refine ⟨rest, ?_⟩
    have hpos : 0 < rows.length := List.length_pos_iff.2 hne
    simp only [x_seq, x_block, x_skip, x_label, x_cond, x_exit, x_goto, x_ret, k_normal, k_exit, k_goto, k_ret, b_normal, b_exit, b_goto, b_ret, wantedA, aop, ev, putA, List.length_cons, List.length_nil, List.replicate, List.cons_append, List.nil_append, List.append_nil, List.append_assoc, gs_same, gs_ne, gq_same, gq_ne, List.length_set, List.map_cons, List.map_nil, cellsOf, List.all_cons, List.all_nil, cellOk, boxTy, Bool.and_true, Bool.and_self, if_true, ite_true, ite_false, loadAt, storeAt, setAt, hget, hget0, hset, hset0, List.getElem?_cons_zero, List.getElem?_cons_succ, List.set_cons_zero, List.set_cons_succ, Nat.add_zero, Nat.zero_add, Nat.reduceAdd, Nat.reduceSub, Nat.reduceLeDiff, Nat.reduceLT, Nat.reduceEqDiff, Nat.le_refl, and_self, and_true, true_and, mkAgg, toIms, List.drop_zero, List.drop_succ_cons, List.take_succ_cons, List.take_zero, List.length_append, binBool, unA, Bool.false_eq_true, if_false, partA, fillA, fillE, List.take_nil, Nat.zero_ne_one, Nat.one_ne_zero, not_false_eq_true, ne_eq, Nat.succ_ne_self, reduceCtorEq, Int.reduceEq, Int.reduceLT, Int.reduceLE, decide_true, decide_false, lenA, beq_self_eq_true, beq_true, beq_false, Bool.not_true, Bool.not_false, b_lss, b_gtr, b_leq, b_geq, b_eql, b_neq, b_add, b_sub, b_mul, s_eql, s_neq, y_ops, y_nil, y_cons, y_guard, y_some, y_drop, y_do, y_not, y_not0, c_call, c_clo, c_move, c_pick, c_alloc, c_box, c_build, c_bslice, c_load, c_store, c_nilCheck, c_bin, c_binB, c_un, c_i2i, c_i2f, c_f2i, c_s2b, c_b2s, c_strId, c_mkfunc, c_mkslice, c_slice, c_sliceStr, c_fieldAddr, c_field, c_indexSl, c_indexArr, c_elemArr, c_indexStr, c_extract, c_lenStr, c_lenSl, c_append, c_real, c_imag, c_complex, c_min, c_max, c_clear, hlen, h0, h1, h76]
    refine hK _ _ _ _ (by simp only [List.length_set, hlen]) (by simp only [gs_same, gs_ne, List.length_set, Nat.reduceLT, Nat.reduceEqDiff, not_false_eq_true, hlen, msOf, if_pos hpos]) But.refl hw (refs_words _ _) ?_
    simp only [msOf, if_pos hpos, refsLt, hidw, decide_true]
  | some j =>
    rw [hf] at h76
    obtain ⟨hjl, hpj, hbefore⟩ := List.findIdx?_eq_some_iff_getElem.1 hf
    have hfl : (rows.take (j + 1)).filter (fun w => !p w) = rows.take j := by
      rw [List.take_add_one, List.getElem?_eq_getElem hjl, List.filter_append]
      simp only [Option.toList_some, List.filter_cons, hpj, Bool.not_true, Bool.false_eq_true, if_false, List.filter_nil, List.append_nil]
      rw [List.filter_eq_self]
      intro a ha
      obtain ⟨i, hi, rfl⟩ := List.getElem_of_mem ha
      simp only [List.length_take] at hi
      rw [List.getElem_take]
      have := hbefore i (by omega)
      simpa using this
    have htl : (rows.take j).length = j := by simp; omega
    have hne1 : decide (((j : Nat) : Int) = -1) = false := decide_eq_false (by omega)
    have hwr := wrap_nat (i := j) (by omega)
    have key := l98 rows rest idw H.length H (Nat.le_refl _) hidw p g cap hp hn (rows.length - (j + 1)) (j + 1) (by omega)
    simp only [e98_0, x_seq, x_block, x_skip, x_label, x_cond, x_exit, x_goto, x_ret, k_normal, k_exit, k_goto, k_ret, b_normal, b_exit, b_goto, b_ret, wantedA, aop, ev, putA, List.length_cons, List.length_nil, List.replicate, List.cons_append, List.nil_append, List.append_nil, List.append_assoc, gs_same, gs_ne, gq_same, gq_ne, List.length_set, List.map_cons, List.map_nil, cellsOf, List.all_cons, List.all_nil, cellOk, boxTy, Bool.and_true, Bool.and_self, if_true, ite_true, ite_false, loadAt, storeAt, setAt, hget, hget0, hset, hset0, List.getElem?_cons_zero, List.getElem?_cons_succ, List.set_cons_zero, List.set_cons_succ, Nat.add_zero, Nat.zero_add, Nat.reduceAdd, Nat.reduceSub, Nat.reduceLeDiff, Nat.reduceLT, Nat.reduceEqDiff, Nat.le_refl, and_self, and_true, true_and, mkAgg, toIms, List.drop_zero, List.drop_succ_cons, List.take_succ_cons, List.take_zero, List.length_append, binBool, unA, Bool.false_eq_true, if_false, partA, fillA, fillE, List.take_nil, Nat.zero_ne_one, Nat.one_ne_zero, not_false_eq_true, ne_eq, Nat.succ_ne_self, reduceCtorEq, Int.reduceEq, Int.reduceLT, Int.reduceLE, decide_true, decide_false, lenA, beq_self_eq_true, beq_true, beq_false, Bool.not_true, Bool.not_false, b_lss, b_gtr, b_leq, b_geq, b_eql, b_neq, b_add, b_sub, b_mul, s_eql, s_neq, y_ops, y_nil, y_cons, y_guard, y_some, y_drop, y_do, y_not, y_not0, c_call, c_clo, c_move, c_pick, c_alloc, c_box, c_build, c_bslice, c_load, c_store, c_nilCheck, c_bin, c_binB, c_un, c_i2i, c_i2f, c_f2i, c_s2b, c_b2s, c_strId, c_mkfunc, c_mkslice, c_slice, c_sliceStr, c_fieldAddr, c_field, c_indexSl, c_indexArr, c_elemArr, c_indexStr, c_extract, c_lenStr, c_lenSl, c_append, c_real, c_imag, c_complex, c_min, c_max, c_clear, hlen, h0, h1, h76, hne1, hwr]
    refine thenL_ex (fun r => ∃ rest' : List Word, r = some (msOf idw (rows.filter fun w => !p w).length, H.set idw (.obj none (((rows.filter fun w => !p w) ++ rest').map encW)))) (key _ _ (rows.take j) (rows ++ rest) But.refl hfl (by omega) ?_ ?_ (by simp) hw ?_ ?_ ?_ ?_ ?_) ?_
    · rw [htl, List.take_append_of_le_length (by omega)]
    · rw [List.drop_append_of_le_length (by omega)]
    · simp only [gs_same, gs_ne, List.length_set, Nat.reduceLT, Nat.reduceEqDiff, not_false_eq_true, hlen]
    · simp only [gs_same, gs_ne, List.length_set, Nat.reduceLT, Nat.reduceEqDiff, not_false_eq_true, hlen, h0]
    · simp only [gs_same, gs_ne, List.length_set, Nat.reduceLT, Nat.reduceEqDiff, not_false_eq_true, hlen, h1]
    · simp only [gs_same, gs_ne, List.length_set, Nat.reduceLT, Nat.reduceEqDiff, not_false_eq_true, hlen, htl]
    · simp only [gs_same, gs_ne, List.length_set, Nat.reduceLT, Nat.reduceEqDiff, not_false_eq_true, hlen]
    rintro e tm1 H1 ⟨hl1, rfl, hb, a0, fl, cw, hfl', a5, hle, htk, hdr, hcw, ho⟩
    rw [hfl']
    have hlt : fl.length < rows.length := by
      have h1 : fl.length < rows.length := by
        rw [← hfl']
        have := List.length_filter_lt_length_iff_exists (p := fun w => !p w) (l := rows)
        rw [this]
        exact ⟨rows[j], List.getElem_mem hjl, by simp [hpj]⟩
      exact h1
    have hcl : rows.length ≤ cw.length := by omega
    have hnn : (0 : Int) ≤ (fl.length : Int) := Int.natCast_nonneg _
    have hc1 : fl.length + (rows.length - fl.length) ≤ cw.length := by omega
    have hmap : List.take fl.length (cw.map encW) ++ (List.replicate (rows.length - fl.length) [.im (.int .i64 0), .im (.str []), .im (.int .i64 0)] ++ List.drop (fl.length + (rows.length - fl.length)) (cw.map encW)) = (fl ++ (List.replicate (rows.length - fl.length) zeroW ++ rest)).map encW := by
      rw [← List.map_take, htk, ← List.map_drop, show fl.length + (rows.length - fl.length) = rows.length by omega, hdr, List.map_append, List.map_append, List.map_replicate]
      rfl
    have hsl1 : sliceA 3 (.ms 3 idw 0 rows.length) fl.length (fun n => some n) none = some (.ms 3 idw fl.length (rows.length - fl.length)) := by
      simp only [sliceA]
      rw [if_pos ⟨by omega, by omega, trivial⟩, if_pos hlt, Nat.zero_add]
    have hsl2 : sliceA 3 (.ms 3 idw 0 rows.length) 0 (fun n => some fl.length) none = some (msOf idw fl.length) := by
      simp only [sliceA]
      rw [if_pos ⟨by omega, by omega, trivial⟩, Nat.zero_add, Nat.sub_zero]
      rfl
    simp only [x_seq, x_block, x_skip, x_label, x_cond, x_exit, x_goto, x_ret, k_normal, k_exit, k_goto, k_ret, b_normal, b_exit, b_goto, b_ret, wantedA, aop, ev, putA, List.length_cons, List.length_nil, List.replicate, List.cons_append, List.nil_append, List.append_nil, List.append_assoc, gs_same, gs_ne, gq_same, gq_ne, List.length_set, List.map_cons, List.map_nil, cellsOf, List.all_cons, List.all_nil, cellOk, boxTy, Bool.and_true, Bool.and_self, if_true, ite_true, ite_false, loadAt, storeAt, setAt, hget, hget0, hset, hset0, List.getElem?_cons_zero, List.getElem?_cons_succ, List.set_cons_zero, List.set_cons_succ, Nat.add_zero, Nat.zero_add, Nat.reduceAdd, Nat.reduceSub, Nat.reduceLeDiff, Nat.reduceLT, Nat.reduceEqDiff, Nat.le_refl, and_self, and_true, true_and, mkAgg, toIms, List.drop_zero, List.drop_succ_cons, List.take_succ_cons, List.take_zero, List.length_append, binBool, unA, Bool.false_eq_true, if_false, partA, fillA, fillE, List.take_nil, Nat.zero_ne_one, Nat.one_ne_zero, not_false_eq_true, ne_eq, Nat.succ_ne_self, reduceCtorEq, Int.reduceEq, Int.reduceLT, Int.reduceLE, decide_true, decide_false, lenA, beq_self_eq_true, beq_true, beq_false, Bool.not_true, Bool.not_false, b_lss, b_gtr, b_leq, b_geq, b_eql, b_neq, b_add, b_sub, b_mul, s_eql, s_neq, y_ops, y_nil, y_cons, y_guard, y_some, y_drop, y_do, y_not, y_not0, c_call, c_clo, c_move, c_pick, c_alloc, c_box, c_build, c_bslice, c_load, c_store, c_nilCheck, c_bin, c_binB, c_un, c_i2i, c_i2f, c_f2i, c_s2b, c_b2s, c_strId, c_mkfunc, c_mkslice, c_slice, c_sliceStr, c_fieldAddr, c_field, c_indexSl, c_indexArr, c_elemArr, c_indexStr, c_extract, c_lenStr, c_lenSl, c_append, c_real, c_imag, c_complex, c_min, c_max, c_clear, boundA, intOfA, hl1, a0, a5, hnn, Int.toNat_natCast, hsl1, hsl2, ho, List.length_map, hc1, hmap]
    refine ⟨List.replicate (rows.length - fl.length) zeroW ++ rest, ?_⟩
    have hlt1 : idw < H1.length := by have := hb.1; omega
    refine hK _ _ _ _ ?_ ?_ (hb.set _) (List.getElem?_set_self hlt1) (refs_words _ _) ?_
    · simp only [List.length_set, hl1]
    · simp only [gs_same, gs_ne, List.length_set, Nat.reduceLT, Nat.reduceEqDiff, not_false_eq_true, hl1]
    · simp only [msOf]
      split <;> simp [refsLt, hidw]

end Go.Abs.Seat
end
section
/- What the seat's functions come to: is a type right? -/
set_option linter.unusedVariables false
set_option linter.unusedSimpArgs false
namespace Go.Abs.Seat
open Go.Proofs

/-- The words' number of a kind; how many types it takes. -/
def kidx (k : Int) : Option Nat := words.findIdx? (fun w => decide (w.1 = k))
def kcnt (i : Nat) : Int := match words[i]? with
  | some w => w.2.2
  | none => 0

mutual
def rightT : KT → Int → Bool
  | .mk k _ args, d => match kidx k with
    | some i => if d < 1 then false else if (args.length : Int) = kcnt i then !rightNot args (d - 1) else false
    | none => false
/-- Is one of them not right? -/
def rightNot : List KT → Int → Bool
  | [], _ => false
  | a :: l, d => !rightT a d || rightNot l d
end

theorem rightNot_any : ∀ (l : List KT) (d : Int), rightNot l d = l.any fun a => !rightT a d
  | [], d => rfl
  | a :: l, d => by simp only [rightNot, List.any_cons, rightNot_any l d]

theorem kidx_lt {k : Int} {i : Nat} (h : kidx k = some i) : i < 8 ∧ ∃ w, words[i]? = some w ∧ kcnt i = w.2.2 := by
  obtain ⟨h1, _, _⟩ := List.findIdx?_eq_some_iff_getElem.1 h
  refine ⟨h1, words[i], List.getElem?_eq_getElem h1, ?_⟩
  unfold kcnt
  rw [List.getElem?_eq_getElem h1]

theorem wrap_small (z : Int) (h : -9223372036854775808 ≤ z ∧ z < 9223372036854775808) : IntKind.i64.wrap z = z := by
  simp [IntKind.wrap, IntKind.bits, IntKind.signed]
  omega

theorem s79 (a : KT) (d : Int) (hd : 1 ≤ d ∧ d ≤ 1000) (idd : Nat) (H : Heap) (hid : H[idd]? = some (.obj none [[.im (.int .i64 d)]])) (b : Bool) (h51 : ∀ H, L 51 [.im (.agg (encT a)), .im (.int .i64 (d - 1))] H = some (.im (.bool b), H)) :
    L 79 [.im (.agg (encT a)), .ptr idd 0 0] H = some (.im (.bool (!b)), H) := by
  have hlt := (List.getElem?_eq_some_iff.1 hid).1
  have h2 : ∀ o, (H ++ [o])[idd]? = some (.obj none [[.im (.int .i64 d)]]) := fun o => by rw [List.getElem?_append_left hlt]; exact hid
  have hwr := wrap_small (d - 1) (by omega)
  obtain ⟨k, s, ts⟩ := a
  simp only [encT] at h51 ⊢
  rw [leq F79]
  obtain ⟨hlen, ha⟩ := enter_at (f := f79) (args := [.im (.agg [.int .i64 k, .sl s (encTs ts)]), .ptr idd 0 0]) (Nat.le_of_ble_eq_true rfl)
  have h0 := ha 0 _ rfl
  have h1 := ha 1 _ rfl
  generalize enterA f79 [.im (.agg [.int .i64 k, .sl s (encTs ts)]), .ptr idd 0 0] = tm at *
  change tm.length = 9 at hlen
  simp only [f79, exec0, xreg, xops, wantedA, aopc, aop, ev, putA, endK, resA, tupA, List.length_cons, List.length_nil, List.replicate, List.cons_append, List.nil_append, List.append_nil, List.append_assoc, gs_same, gs_ne, gq_same, gq_ne, List.length_set, List.map_cons, List.map_nil, cellsOf, List.all_cons, List.all_nil, cellOk, boxTy, Bool.and_true, Bool.and_self, if_true, ite_true, ite_false, loadAt, storeAt, setAt, hget, hget0, hset, hset0, List.getElem?_cons_zero, List.getElem?_cons_succ, List.set_cons_zero, List.set_cons_succ, Nat.add_zero, Nat.zero_add, Nat.reduceAdd, Nat.reduceSub, Nat.reduceLeDiff, Nat.reduceLT, Nat.reduceEqDiff, Nat.le_refl, and_self, and_true, true_and, mkAgg, toIms, List.drop_zero, List.drop_succ_cons, List.take_succ_cons, List.take_zero, List.length_append, binA, isShift, binInt, binBool, unA, Bool.false_eq_true, if_false, partA, fillA, fillE, List.take_nil, Nat.zero_ne_one, Nat.one_ne_zero, not_false_eq_true, ne_eq, Nat.succ_ne_self, reduceCtorEq, lenA, beq_self_eq_true, beq_true, beq_false, Bool.not_true, Bool.not_false, hlen, h0, h1, h2, hwr, h51, leave_app]

theorem s51 : ∀ (t : KT), okT t → ∀ (d : Int), 0 ≤ d → d ≤ 1000 → ∀ H, L 51 [.im (.agg (encT t)), .im (.int .i64 d)] H = some (.im (.bool (rightT t d)), H)
  | .mk k s args, hok, d, hd0, hd1, H => by
    simp only [okT] at hok
    obtain ⟨hs, hn, hoks⟩ := hok
    have h76 := fun H' id (hid : H'[id]? = some (.obj none [[.im (.int .i64 k), .im (.sl s (encTs args))]])) (idw : Nat) (hw : H'[idw]? = some (.obj none (words.map encW))) => s76 words idw id k (.im (.sl s (encTs args))) H' hw hid (by decide)
    simp only [encT]
    rw [leq F51]
    obtain ⟨hlen, ha⟩ := enter_at (f := f51) (args := [.im (.agg [.int .i64 k, .sl s (encTs args)]), .im (.int .i64 d)]) (Nat.le_of_ble_eq_true rfl)
    have h0 := ha 0 _ rfl
    have h1 := ha 1 _ rfl
    generalize enterA f51 [.im (.agg [.int .i64 k, .sl s (encTs args)]), .im (.int .i64 d)] = tm at *
    change tm.length = 31 at hlen
    have h76' := h76 (H ++ [.obj none [[.im (.int .i64 k), .im (.sl s (encTs args))]], .obj none [[.im (.int .i64 d)]], .obj none (words.map encW)]) H.length (by rw [hget0]; rfl) (H.length + 2) (by rw [hget]; rfl)
    simp only [show words.length = 8 from rfl] at h76'
    cases hk : kidx k with
    | none =>
      unfold kidx at hk
      simp only [hk] at h76'
      have e1 : decide ((-1 : Int) < 0) = true := rfl
      simp only [f51, exec0, xreg, xops, wantedA, aopc, aop, ev, putA, endK, resA, tupA, List.length_cons, List.length_nil, List.replicate, List.cons_append, List.nil_append, List.append_nil, List.append_assoc, gs_same, gs_ne, gq_same, gq_ne, List.length_set, List.map_cons, List.map_nil, cellsOf, List.all_cons, List.all_nil, cellOk, boxTy, Bool.and_true, Bool.and_self, if_true, ite_true, ite_false, loadAt, storeAt, setAt, hget, hget0, hset, hset0, List.getElem?_cons_zero, List.getElem?_cons_succ, List.set_cons_zero, List.set_cons_succ, Nat.add_zero, Nat.zero_add, Nat.reduceAdd, Nat.reduceSub, Nat.reduceLeDiff, Nat.reduceLT, Nat.reduceEqDiff, Nat.le_refl, and_self, and_true, true_and, mkAgg, toIms, List.drop_zero, List.drop_succ_cons, List.take_succ_cons, List.take_zero, List.length_append, binA, isShift, binInt, binBool, unA, Bool.false_eq_true, if_false, partA, fillA, fillE, List.take_nil, Nat.zero_ne_one, Nat.one_ne_zero, not_false_eq_true, ne_eq, Nat.succ_ne_self, reduceCtorEq, lenA, beq_self_eq_true, beq_true, beq_false, Bool.not_true, Bool.not_false, stays, loadOf, List.reverse_cons, List.reverse_nil, List.mem_cons, List.not_mem_nil, or_false, forall_eq, true_or, or_true, Bool.true_and, hlen, h0, h1, s72, h76', e1, leave_app]
      have e2 : rightT (.mk k s args) d = false := by
        unfold rightT kidx
        rw [hk]
      rw [e2]
    | some i =>
      obtain ⟨hi8, w, hw, hcw⟩ := kidx_lt hk
      have hk' := hk
      unfold kidx at hk
      simp only [hk] at h76'
      have e1 : decide ((i : Int) < 0) = false := decide_eq_false (by omega)
      by_cases hd : d < 1
      · have e3 : decide (d < 1) = true := decide_eq_true hd
        have e2 : rightT (.mk k s args) d = false := by
          simp only [rightT, hk', hd, if_true]
        simp only [f51, exec0, xreg, xops, wantedA, aopc, aop, ev, putA, endK, resA, tupA, List.length_cons, List.length_nil, List.replicate, List.cons_append, List.nil_append, List.append_nil, List.append_assoc, gs_same, gs_ne, gq_same, gq_ne, List.length_set, List.map_cons, List.map_nil, cellsOf, List.all_cons, List.all_nil, cellOk, boxTy, Bool.and_true, Bool.and_self, if_true, ite_true, ite_false, loadAt, storeAt, setAt, hget, hget0, hset, hset0, List.getElem?_cons_zero, List.getElem?_cons_succ, List.set_cons_zero, List.set_cons_succ, Nat.add_zero, Nat.zero_add, Nat.reduceAdd, Nat.reduceSub, Nat.reduceLeDiff, Nat.reduceLT, Nat.reduceEqDiff, Nat.le_refl, and_self, and_true, true_and, mkAgg, toIms, List.drop_zero, List.drop_succ_cons, List.take_succ_cons, List.take_zero, List.length_append, binA, isShift, binInt, binBool, unA, Bool.false_eq_true, if_false, partA, fillA, fillE, List.take_nil, Nat.zero_ne_one, Nat.one_ne_zero, not_false_eq_true, ne_eq, Nat.succ_ne_self, reduceCtorEq, lenA, beq_self_eq_true, beq_true, beq_false, Bool.not_true, Bool.not_false, stays, loadOf, List.reverse_cons, List.reverse_nil, List.mem_cons, List.not_mem_nil, or_false, forall_eq, true_or, or_true, Bool.true_and, hlen, h0, h1, s72, h76', e1, e3, leave_app]
        rw [e2]
      · have e3 : decide (d < 1) = false := decide_eq_false hd
        have hix := idx_nat (n := 8) (i := i) hi8
        have hgw : (words.map encW)[i]? = some (encW w) := by rw [List.getElem?_map, hw]; rfl
        have hel : (encTs args).length = args.length := by rw [encTs_map]; simp
        by_cases hc : (args.length : Int) = w.2.2
        · have e4 : decide ((args.length : Int) = w.2.2) = true := decide_eq_true hc
          have e2 : rightT (.mk k s args) d = !(args.any fun a => !rightT a (d - 1)) := by
            simp only [rightT, rightNot_any, hk', hd, if_false, hcw, hc, if_true]
          have h78 := s78 args s hs hn (fun a => !rightT a (d - 1)) 79 [.ptr (H.length + 1) 0 0] (H ++ [.obj none [[.im (.int .i64 k), .im (.sl s (encTs args))]], .obj none [[.im (.int .i64 d)]], .obj none (words.map encW), .obj none (words.map encW)])
            (fun a ha => s79 a d ⟨by omega, hd1⟩ (H.length + 1) _ (by rw [hget]; rfl) (rightT a (d - 1)) (fun H' => s51 a (okTs_mem hoks a ha) (d - 1) (by omega) (by omega) H'))
          rw [← encTs_map] at h78
          rw [e2]
          simp only [f51, exec0, xreg, xops, wantedA, aopc, aop, ev, putA, endK, resA, tupA, List.length_cons, List.length_nil, List.replicate, List.cons_append, List.nil_append, List.append_nil, List.append_assoc, gs_same, gs_ne, gq_same, gq_ne, List.length_set, List.map_cons, List.map_nil, cellsOf, List.all_cons, List.all_nil, cellOk, boxTy, Bool.and_true, Bool.and_self, if_true, ite_true, ite_false, loadAt, storeAt, setAt, hget, hget0, hset, hset0, List.getElem?_cons_zero, List.getElem?_cons_succ, List.set_cons_zero, List.set_cons_succ, Nat.add_zero, Nat.zero_add, Nat.reduceAdd, Nat.reduceSub, Nat.reduceLeDiff, Nat.reduceLT, Nat.reduceEqDiff, Nat.le_refl, and_self, and_true, true_and, mkAgg, toIms, List.drop_zero, List.drop_succ_cons, List.take_succ_cons, List.take_zero, List.length_append, binA, isShift, binInt, binBool, unA, Bool.false_eq_true, if_false, partA, fillA, fillE, List.take_nil, Nat.zero_ne_one, Nat.one_ne_zero, not_false_eq_true, ne_eq, Nat.succ_ne_self, reduceCtorEq, lenA, beq_self_eq_true, beq_true, beq_false, Bool.not_true, Bool.not_false, stays, loadOf, List.reverse_cons, List.reverse_nil, List.mem_cons, List.not_mem_nil, or_false, forall_eq, true_or, or_true, Bool.true_and, hlen, h0, h1, s72, h76', e1, e3, hix, hgw, encW, hel, e4, h78, leave_app]
        · have e4 : decide ((args.length : Int) = w.2.2) = false := decide_eq_false hc
          have e2 : rightT (.mk k s args) d = false := by
            simp only [rightT, hk', hd, if_false, hcw, hc]
          simp only [f51, exec0, xreg, xops, wantedA, aopc, aop, ev, putA, endK, resA, tupA, List.length_cons, List.length_nil, List.replicate, List.cons_append, List.nil_append, List.append_nil, List.append_assoc, gs_same, gs_ne, gq_same, gq_ne, List.length_set, List.map_cons, List.map_nil, cellsOf, List.all_cons, List.all_nil, cellOk, boxTy, Bool.and_true, Bool.and_self, if_true, ite_true, ite_false, loadAt, storeAt, setAt, hget, hget0, hset, hset0, List.getElem?_cons_zero, List.getElem?_cons_succ, List.set_cons_zero, List.set_cons_succ, Nat.add_zero, Nat.zero_add, Nat.reduceAdd, Nat.reduceSub, Nat.reduceLeDiff, Nat.reduceLT, Nat.reduceEqDiff, Nat.le_refl, and_self, and_true, true_and, mkAgg, toIms, List.drop_zero, List.drop_succ_cons, List.take_succ_cons, List.take_zero, List.length_append, binA, isShift, binInt, binBool, unA, Bool.false_eq_true, if_false, partA, fillA, fillE, List.take_nil, Nat.zero_ne_one, Nat.one_ne_zero, not_false_eq_true, ne_eq, Nat.succ_ne_self, reduceCtorEq, lenA, beq_self_eq_true, beq_true, beq_false, Bool.not_true, Bool.not_false, stays, loadOf, List.reverse_cons, List.reverse_nil, List.mem_cons, List.not_mem_nil, or_false, forall_eq, true_or, or_true, Bool.true_and, hlen, h0, h1, s72, h76', e1, e3, hix, hgw, encW, hel, e4, leave_app]
          rw [e2]
termination_by t => SizeOf.sizeOf t
decreasing_by
  have := List.sizeOf_lt_of_mem ha
  simp only [KT.mk.sizeOf_spec]
  omega

end Go.Abs.Seat
end
section
/- What the seat's functions come to: Check, Depth. -/
set_option linter.unusedVariables false
set_option linter.unusedSimpArgs false
namespace Go.Abs.Seat
open Go.Proofs

def checkT (t : KT) : Int := if rightT t 6 = true then 0 else 20

theorem s19 (t : KT) (hok : okT t) (H : Heap) : L 19 [.im (.agg (encT t))] H = some (.im (.int .i64 (checkT t)), H) := by
  have h51 := fun H => s51 t hok 6 (by decide) (by decide) H
  obtain ⟨k, s, ts⟩ := t
  simp only [encT] at h51 ⊢
  rw [leq F19]
  obtain ⟨hlen, ha⟩ := enter_at (f := f19) (args := [.im (.agg [.int .i64 k, .sl s (encTs ts)])]) (Nat.le_of_ble_eq_true rfl)
  have h0 := ha 0 _ rfl
  generalize enterA f19 [.im (.agg [.int .i64 k, .sl s (encTs ts)])] = tm at *
  change tm.length = 6 at hlen
  unfold checkT
  cases hr : rightT (.mk k s ts) 6 with
  | true =>
    simp only [hr] at h51
    simp only [f19, exec0, xreg, xops, wantedA, aopc, aop, ev, putA, endK, resA, tupA, List.length_cons, List.length_nil, List.replicate, List.cons_append, List.nil_append, List.append_nil, List.append_assoc, gs_same, gs_ne, gq_same, gq_ne, List.length_set, List.map_cons, List.map_nil, cellsOf, List.all_cons, List.all_nil, cellOk, boxTy, Bool.and_true, Bool.and_self, if_true, ite_true, ite_false, loadAt, storeAt, setAt, hget, hget0, hset, hset0, List.getElem?_cons_zero, List.getElem?_cons_succ, List.set_cons_zero, List.set_cons_succ, Nat.add_zero, Nat.zero_add, Nat.reduceAdd, Nat.reduceSub, Nat.reduceLeDiff, Nat.reduceLT, Nat.reduceEqDiff, Nat.le_refl, and_self, and_true, true_and, mkAgg, toIms, List.drop_zero, List.drop_succ_cons, List.take_succ_cons, List.take_zero, List.length_append, binA, isShift, binInt, binBool, unA, Bool.false_eq_true, if_false, partA, fillA, fillE, List.take_nil, Nat.zero_ne_one, Nat.one_ne_zero, not_false_eq_true, ne_eq, Nat.succ_ne_self, reduceCtorEq, decide_true, decide_false, lenA, beq_self_eq_true, beq_true, beq_false, Bool.not_true, Bool.not_false, hlen, h0, h51, leave_app]
  | false =>
    simp only [hr] at h51
    simp only [f19, exec0, xreg, xops, wantedA, aopc, aop, ev, putA, endK, resA, tupA, List.length_cons, List.length_nil, List.replicate, List.cons_append, List.nil_append, List.append_nil, List.append_assoc, gs_same, gs_ne, gq_same, gq_ne, List.length_set, List.map_cons, List.map_nil, cellsOf, List.all_cons, List.all_nil, cellOk, boxTy, Bool.and_true, Bool.and_self, if_true, ite_true, ite_false, loadAt, storeAt, setAt, hget, hget0, hset, hset0, List.getElem?_cons_zero, List.getElem?_cons_succ, List.set_cons_zero, List.set_cons_succ, Nat.add_zero, Nat.zero_add, Nat.reduceAdd, Nat.reduceSub, Nat.reduceLeDiff, Nat.reduceLT, Nat.reduceEqDiff, Nat.le_refl, and_self, and_true, true_and, mkAgg, toIms, List.drop_zero, List.drop_succ_cons, List.take_succ_cons, List.take_zero, List.length_append, binA, isShift, binInt, binBool, unA, Bool.false_eq_true, if_false, partA, fillA, fillE, List.take_nil, Nat.zero_ne_one, Nat.one_ne_zero, not_false_eq_true, ne_eq, Nat.succ_ne_self, reduceCtorEq, decide_true, decide_false, lenA, beq_self_eq_true, beq_true, beq_false, Bool.not_true, Bool.not_false, hlen, h0, h51, leave_app]

mutual
def depthT : KT → Int
  | .mk _ _ args => depthTs args + 1
def depthTs : List KT → Int
  | [] => 0
  | a :: l => max (depthT a) (depthTs l)
end

theorem depthTs_pos : ∀ l : List KT, 0 ≤ depthTs l
  | [] => by simp [depthTs]
  | a :: l => by
    have := depthTs_pos l
    simp only [depthTs]
    omega

theorem depthTs_mem : ∀ {l : List KT} {a : KT}, a ∈ l → depthT a ≤ depthTs l
  | b :: l, a, h => by
    simp only [depthTs]
    rcases List.mem_cons.1 h with rfl | h
    · omega
    · have := depthTs_mem h
      omega

theorem l52 (args : List KT) (s : Nat) (hs : args = [] ∨ s = 2) (hn : args.length ≤ 9223372036854775807)
    (hc : ∀ a ∈ args, ∀ H, L 52 [.im (.agg (encT a))] H = some (.im (.int .i64 (depthT a)), H)) :
    ∀ (m i : Nat), i + m = args.length → ∀ (tm : List AV) (H : Heap) (n : Int), tm.length = 20 → tm.getD 3 undefA = .im (.int .i64 n) → tm.getD 7 undefA = .im (.sl s (args.map encT)) → tm.getD 8 undefA = .im (.int .i64 args.length) → tm.getD 9 undefA = .im (.int .i64 i) →
    ∃ e tm' H', Λ c52_0 tm H = some (e, tm', H') ∧ tm'.length = 20 ∧ e = .exit 0 ∧ (∃ M, H' = H ++ M) ∧ tm'.getD 3 undefA = .im (.int .i64 (if i = args.length then n else max n (depthTs (args.drop i))))
  | 0, i, hi, tm, H, n, hlen, h3, h7, h8, h9 => by
    have hc : decide ((i : Int) < (args.length : Int)) = false := decide_eq_false (by omega)
    rw [l52_0]
    simp only [b52_0, exec0, xreg, xops, wantedA, aopc, aop, ev, putA, endK, resA, tupA, List.length_cons, List.length_nil, List.replicate, List.cons_append, List.nil_append, List.append_nil, List.append_assoc, gs_same, gs_ne, gq_same, gq_ne, List.length_set, List.map_cons, List.map_nil, cellsOf, List.all_cons, List.all_nil, cellOk, boxTy, Bool.and_true, Bool.and_self, if_true, ite_true, ite_false, loadAt, storeAt, setAt, hget, hget0, hset, hset0, List.getElem?_cons_zero, List.getElem?_cons_succ, List.set_cons_zero, List.set_cons_succ, Nat.add_zero, Nat.zero_add, Nat.reduceAdd, Nat.reduceSub, Nat.reduceLeDiff, Nat.reduceLT, Nat.reduceEqDiff, Nat.le_refl, and_self, and_true, true_and, mkAgg, toIms, List.drop_zero, List.drop_succ_cons, List.take_succ_cons, List.take_zero, List.length_append, binA, isShift, binInt, binBool, unA, Bool.false_eq_true, if_false, partA, fillA, fillE, List.take_nil, Nat.zero_ne_one, Nat.one_ne_zero, not_false_eq_true, ne_eq, Nat.succ_ne_self, reduceCtorEq, decide_true, decide_false, lenA, beq_self_eq_true, beq_true, beq_false, Bool.not_true, Bool.not_false, hlen, h3, h7, h8, h9, hc]
    exact ⟨_, _, _, rfl, by simp only [List.length_set, hlen], rfl, ⟨[], by simp⟩, by simp only [gs_same, gs_ne, List.length_set, Nat.reduceLT, Nat.reduceEqDiff, not_false_eq_true, hlen, h3, show i = args.length by omega, if_true]⟩
  | m + 1, i, hi, tm, H, n, hlen, h3, h7, h8, h9 => by
    have hlt : i < args.length := by omega
    obtain ⟨w, hwi⟩ : ∃ w, args[i]? = some w := ⟨_, List.getElem?_eq_getElem hlt⟩
    have e : args.drop i = w :: args.drop (i + 1) := by
      rw [List.drop_eq_getElem_cons hlt]
      congr 1
      rw [List.getElem?_eq_getElem hlt] at hwi
      exact Option.some.inj hwi
    have hs2 : s = 2 := by
      rcases hs with hs | hs
      · subst hs; simp at hlt
      · exact hs
    subst hs2
    have hc' : decide ((i : Int) < (args.length : Int)) = true := decide_eq_true (by omega)
    have hix := idx_nat (n := (args.map encT).length) (i := i) (by simpa using hlt)
    have hgw : (args.map encT)[i]? = some (encT w) := by rw [List.getElem?_map, hwi]; rfl
    have hcall := hc w (List.mem_of_getElem? hwi)
    have hwr := wrap_nat (i := i) (by omega)
    have key := l52 args 2 hs hn hc m (i + 1) (by omega)
    rw [l52_0, if_neg (by omega), e]
    have hd : depthTs (w :: args.drop (i + 1)) = max (depthT w) (depthTs (args.drop (i + 1))) := by rw [depthTs]
    rw [hd]
    generalize hdw : depthT w = dw at *
    obtain ⟨k, s', ts⟩ := w
    simp only [encT] at hcall hgw
    simp only [b52_0, exec0, xreg, xops, wantedA, aopc, aop, ev, putA, endK, resA, tupA, List.length_cons, List.length_nil, List.replicate, List.cons_append, List.nil_append, List.append_nil, List.append_assoc, gs_same, gs_ne, gq_same, gq_ne, List.length_set, List.map_cons, List.map_nil, cellsOf, List.all_cons, List.all_nil, cellOk, boxTy, Bool.and_true, Bool.and_self, if_true, ite_true, ite_false, loadAt, storeAt, setAt, hget, hget0, hset, hset0, List.getElem?_cons_zero, List.getElem?_cons_succ, List.set_cons_zero, List.set_cons_succ, Nat.add_zero, Nat.zero_add, Nat.reduceAdd, Nat.reduceSub, Nat.reduceLeDiff, Nat.reduceLT, Nat.reduceEqDiff, Nat.le_refl, and_self, and_true, true_and, mkAgg, toIms, List.drop_zero, List.drop_succ_cons, List.take_succ_cons, List.take_zero, List.length_append, binA, isShift, binInt, binBool, unA, Bool.false_eq_true, if_false, partA, fillA, fillE, List.take_nil, Nat.zero_ne_one, Nat.one_ne_zero, not_false_eq_true, ne_eq, Nat.succ_ne_self, reduceCtorEq, decide_true, decide_false, lenA, beq_self_eq_true, beq_true, beq_false, Bool.not_true, Bool.not_false, hlen, h3, h7, h8, h9, hc', hix, hgw, hcall, hwr]
    simp only [max_ii]
    refine ex_imp (key _ _ (max n dw) ?_ ?_ ?_ ?_ ?_) ?_
    iterate 5 simp only [gs_same, gs_ne, List.length_set, Nat.reduceLT, Nat.reduceEqDiff, not_false_eq_true, hlen, h3, h7, h8, h9]
    rintro e tm' H' ⟨hl', he, ⟨M, hM⟩, h5⟩
    refine ⟨hl', he, ⟨_ :: M, by rw [hM, List.append_assoc]; rfl⟩, ?_⟩
    rw [h5]
    have hp := depthTs_pos (args.drop (i + 1))
    have hp2 : 0 ≤ dw := by
      rw [← hdw]
      have := depthTs_pos ts
      simp only [depthT]
      omega
    split
    · rename_i he'
      have : args.drop (i + 1) = [] := by rw [List.drop_eq_nil_iff]; omega
      rw [this]
      simp only [depthTs]
      congr 2
      omega
    · congr 2
      omega

theorem s52 : ∀ (t : KT), okT t → depthT t ≤ 1000 → ∀ H, L 52 [.im (.agg (encT t))] H = some (.im (.int .i64 (depthT t)), H)
  | .mk k s args, hok, hd, H => by
    simp only [okT] at hok
    obtain ⟨hs, hn, hoks⟩ := hok
    have hdep : depthTs args ≤ 999 := by
      simp only [depthT] at hd
      omega
    have hp := depthTs_pos args
    have hc : ∀ a ∈ args, ∀ H, L 52 [.im (.agg (encT a))] H = some (.im (.int .i64 (depthT a)), H) := fun a ha H => s52 a (okTs_mem hoks a ha) (by have := depthTs_mem ha; omega) H
    have key := l52 args s hs hn hc args.length 0 (by omega)
    have z : ((0 : Nat) : Int) = 0 := rfl
    simp only [List.drop_zero, Nat.zero_add, z] at key
    have hel : (encTs args).length = args.length := by rw [encTs_map]; simp
    simp only [encT]
    rw [leq F52]
    obtain ⟨hlen, ha⟩ := enter_at (f := f52) (args := [.im (.agg [.int .i64 k, .sl s (encTs args)])]) (Nat.le_of_ble_eq_true rfl)
    have h0 := ha 0 _ rfl
    generalize enterA f52 [.im (.agg [.int .i64 k, .sl s (encTs args)])] = tm at *
    change tm.length = 20 at hlen
    simp only [f52, e52_0, exec0, xreg, xops, wantedA, aopc, aop, ev, putA, endK, resA, tupA, List.length_cons, List.length_nil, List.replicate, List.cons_append, List.nil_append, List.append_nil, List.append_assoc, gs_same, gs_ne, gq_same, gq_ne, List.length_set, List.map_cons, List.map_nil, cellsOf, List.all_cons, List.all_nil, cellOk, boxTy, Bool.and_true, Bool.and_self, if_true, ite_true, ite_false, loadAt, storeAt, setAt, hget, hget0, hset, hset0, List.getElem?_cons_zero, List.getElem?_cons_succ, List.set_cons_zero, List.set_cons_succ, Nat.add_zero, Nat.zero_add, Nat.reduceAdd, Nat.reduceSub, Nat.reduceLeDiff, Nat.reduceLT, Nat.reduceEqDiff, Nat.le_refl, and_self, and_true, true_and, mkAgg, toIms, List.drop_zero, List.drop_succ_cons, List.take_succ_cons, List.take_zero, List.length_append, binA, isShift, binInt, binBool, unA, Bool.false_eq_true, if_false, partA, fillA, fillE, List.take_nil, Nat.zero_ne_one, Nat.one_ne_zero, not_false_eq_true, ne_eq, Nat.succ_ne_self, reduceCtorEq, decide_true, decide_false, lenA, beq_self_eq_true, beq_true, beq_false, Bool.not_true, Bool.not_false, hlen, h0, hel]
    refine thenL_of (key _ _ 0 ?_ ?_ ?_ ?_ ?_) ?_
    iterate 5 simp only [gs_same, gs_ne, List.length_set, Nat.reduceLT, Nat.reduceEqDiff, not_false_eq_true, hlen, h0, encTs_map]
    rintro e tm' H' ⟨hl', rfl, ⟨M, rfl⟩, h3⟩
    have hm : (if 0 = args.length then (0 : Int) else max 0 (depthTs args)) = depthTs args := by
      split
      · rename_i h
        have : args = [] := List.length_eq_zero_iff.1 h.symm
        rw [this]; rfl
      · omega
    rw [hm] at h3
    have hw := wrap_small (depthTs args + 1) (by omega)
    simp only [exec0, xreg, xops, wantedA, aopc, aop, ev, putA, endK, resA, tupA, List.length_cons, List.length_nil, List.replicate, List.cons_append, List.nil_append, List.append_nil, List.append_assoc, gs_same, gs_ne, gq_same, gq_ne, List.length_set, List.map_cons, List.map_nil, cellsOf, List.all_cons, List.all_nil, cellOk, boxTy, Bool.and_true, Bool.and_self, if_true, ite_true, ite_false, loadAt, storeAt, setAt, hget, hget0, hset, hset0, List.getElem?_cons_zero, List.getElem?_cons_succ, List.set_cons_zero, List.set_cons_succ, Nat.add_zero, Nat.zero_add, Nat.reduceAdd, Nat.reduceSub, Nat.reduceLeDiff, Nat.reduceLT, Nat.reduceEqDiff, Nat.le_refl, and_self, and_true, true_and, mkAgg, toIms, List.drop_zero, List.drop_succ_cons, List.take_succ_cons, List.take_zero, List.length_append, binA, isShift, binInt, binBool, unA, Bool.false_eq_true, if_false, partA, fillA, fillE, List.take_nil, Nat.zero_ne_one, Nat.one_ne_zero, not_false_eq_true, ne_eq, Nat.succ_ne_self, reduceCtorEq, decide_true, decide_false, lenA, beq_self_eq_true, beq_true, beq_false, Bool.not_true, Bool.not_false, hl', h3, hw, leave_app, depthT]
termination_by t => SizeOf.sizeOf t
decreasing_by
  have := List.sizeOf_lt_of_mem ha
  simp only [KT.mk.sizeOf_spec]
  omega

mutual
theorem right_depth : ∀ (t : KT) (d : Int), rightT t d = true → depthT t ≤ d
  | .mk k s args, d, h => by
    simp only [rightT] at h
    split at h
    · split at h
      · simp at h
      · rename_i hd
        split at h
        · have := right_depths args (d - 1) (by simpa using h)
          simp only [depthT]
          omega
        · simp at h
    · simp at h
theorem right_depths : ∀ (l : List KT) (d : Int), rightNot l d = false → depthTs l ≤ max d 0
  | [], d, h => by simp only [depthTs]; omega
  | a :: l, d, h => by
    simp only [rightNot, Bool.or_eq_false_iff, Bool.not_eq_false'] at h
    have h1 := right_depth a d h.1
    have h2 := right_depths l d h.2
    simp only [depthTs]
    omega
end

/-- Depth. -/
theorem s20 (t : KT) (hok : okT t) (H : Heap) : L 20 [.im (.agg (encT t))] H = some (.tup [.im (.int .i64 (if rightT t 6 = true then depthT t else 0)), .im (.int .i64 (checkT t))], H) := by
  have h19 := fun H => s19 t hok H
  have h52 := fun (h : rightT t 6 = true) H => s52 t hok (by have := right_depth t 6 h; omega) H
  obtain ⟨k, s, ts⟩ := t
  simp only [encT] at h19 h52 ⊢
  rw [leq F20]
  obtain ⟨hlen, ha⟩ := enter_at (f := f20) (args := [.im (.agg [.int .i64 k, .sl s (encTs ts)])]) (Nat.le_of_ble_eq_true rfl)
  have h0 := ha 0 _ rfl
  generalize enterA f20 [.im (.agg [.int .i64 k, .sl s (encTs ts)])] = tm at *
  change tm.length = 12 at hlen
  unfold checkT at h19 ⊢
  cases hr : rightT (.mk k s ts) 6 with
  | true =>
    have h52 := h52 hr
    simp only [hr, if_true] at h19
    have e : decide ((0 : Int) = 0) = true := rfl
    simp only [f20, f20, exec0, xreg, xops, wantedA, aopc, aop, ev, putA, endK, resA, tupA, List.length_cons, List.length_nil, List.replicate, List.cons_append, List.nil_append, List.append_nil, List.append_assoc, gs_same, gs_ne, gq_same, gq_ne, List.length_set, List.map_cons, List.map_nil, cellsOf, List.all_cons, List.all_nil, cellOk, boxTy, Bool.and_true, Bool.and_self, if_true, ite_true, ite_false, loadAt, storeAt, setAt, hget, hget0, hset, hset0, List.getElem?_cons_zero, List.getElem?_cons_succ, List.set_cons_zero, List.set_cons_succ, Nat.add_zero, Nat.zero_add, Nat.reduceAdd, Nat.reduceSub, Nat.reduceLeDiff, Nat.reduceLT, Nat.reduceEqDiff, Nat.le_refl, and_self, and_true, true_and, mkAgg, toIms, List.drop_zero, List.drop_succ_cons, List.take_succ_cons, List.take_zero, List.length_append, binA, isShift, binInt, binBool, unA, Bool.false_eq_true, if_false, partA, fillA, fillE, List.take_nil, Nat.zero_ne_one, Nat.one_ne_zero, not_false_eq_true, ne_eq, Nat.succ_ne_self, reduceCtorEq, decide_true, decide_false, lenA, beq_self_eq_true, beq_true, beq_false, Bool.not_true, Bool.not_false, hlen, h0, h19, h52, e, leave_tup2]
  | false =>
    simp only [hr, Bool.false_eq_true, if_false] at h19
    have e : decide ((20 : Int) = 0) = false := rfl
    simp only [f20, exec0, xreg, xops, wantedA, aopc, aop, ev, putA, endK, resA, tupA, List.length_cons, List.length_nil, List.replicate, List.cons_append, List.nil_append, List.append_nil, List.append_assoc, gs_same, gs_ne, gq_same, gq_ne, List.length_set, List.map_cons, List.map_nil, cellsOf, List.all_cons, List.all_nil, cellOk, boxTy, Bool.and_true, Bool.and_self, if_true, ite_true, ite_false, loadAt, storeAt, setAt, hget, hget0, hset, hset0, List.getElem?_cons_zero, List.getElem?_cons_succ, List.set_cons_zero, List.set_cons_succ, Nat.add_zero, Nat.zero_add, Nat.reduceAdd, Nat.reduceSub, Nat.reduceLeDiff, Nat.reduceLT, Nat.reduceEqDiff, Nat.le_refl, and_self, and_true, true_and, mkAgg, toIms, List.drop_zero, List.drop_succ_cons, List.take_succ_cons, List.take_zero, List.length_append, binA, isShift, binInt, binBool, unA, Bool.false_eq_true, if_false, partA, fillA, fillE, List.take_nil, Nat.zero_ne_one, Nat.one_ne_zero, not_false_eq_true, ne_eq, Nat.succ_ne_self, reduceCtorEq, decide_true, decide_false, lenA, beq_self_eq_true, beq_true, beq_false, Bool.not_true, Bool.not_false, hlen, h0, h19, e, leave_tup2]

end Go.Abs.Seat
end
section
/- What the seat's functions come to: small, fits. -/
set_option linter.unusedVariables false
set_option linter.unusedSimpArgs false
namespace Go.Abs.Seat
open Go.Proofs

mutual
def smallT : KT → Int → Int → Bool × Int
  | .mk _ _ args, left, d => if left - 1 < 0 ∨ d = 0 then (false, left - 1) else smallTs args (left - 1) (d - 1)
def smallTs : List KT → Int → Int → Bool × Int
  | [], left, _ => (true, left)
  | a :: l, left, d => if (smallT a left d).1 = true then smallTs l (smallT a left d).2 d else (false, (smallT a left d).2)
end

mutual
theorem smallT_left : ∀ (t : KT) (left d : Int), 0 ≤ left → -1 ≤ (smallT t left d).2 ∧ (smallT t left d).2 ≤ left ∧ ((smallT t left d).1 = true → 0 ≤ (smallT t left d).2)
  | .mk _ _ args, left, d, h => by
    simp only [smallT]
    split
    · refine ⟨by simp only; omega, by simp only; omega, by simp⟩
    · have := smallTs_left args (left - 1) (d - 1) (by omega)
      exact ⟨this.1, by omega, this.2.2⟩
theorem smallTs_left : ∀ (l : List KT) (left d : Int), 0 ≤ left → -1 ≤ (smallTs l left d).2 ∧ (smallTs l left d).2 ≤ left ∧ ((smallTs l left d).1 = true → 0 ≤ (smallTs l left d).2)
  | [], left, d, h => by
    simp only [smallTs]
    exact ⟨by omega, by omega, fun _ => h⟩
  | a :: l, left, d, h => by
    have h1 := smallT_left a left d h
    simp only [smallTs]
    split
    · rename_i hb
      have h2 := smallTs_left l (smallT a left d).2 d (h1.2.2 hb)
      exact ⟨h2.1, by omega, h2.2.2⟩
    · exact ⟨h1.1, h1.2.1, by simp⟩
end

def numO (n : Int) : HO := .obj none [[.im (.int .i64 n)]]

theorem l47 (args : List KT) (s : Nat) (hs : args = [] ∨ s = 2) (hn : args.length ≤ 9223372036854775807) (d : Int) (hd : 1 ≤ d ∧ d ≤ 1000) (idl : Nat) (H0 : Heap) (hid : idl < H0.length)
    (hc : ∀ a ∈ args, ∀ (n : Int), 0 ≤ n → n ≤ 1000000 → ∀ (H : Heap), H[idl]? = some (numO n) → L 47 [.im (.agg (encT a)), .ptr idl 0 0, .im (.int .i64 (d - 1))] H = some (.im (.bool (smallT a n (d - 1)).1), H.set idl (numO (smallT a n (d - 1)).2))) :
    ∀ (m i : Nat), i + m = args.length → ∀ (tm : List AV) (M : Heap) (n : Int), 0 ≤ n → n ≤ 1000000 → tm.length = 36 → tm.getD 1 undefA = .ptr idl 0 0 → tm.getD 2 undefA = .im (.int .i64 d) → tm.getD 23 undefA = .im (.sl s (args.map encT)) → tm.getD 24 undefA = .im (.int .i64 args.length) → tm.getD 25 undefA = .im (.int .i64 i) →
    ∃ e tm' H', Λ c47_0 tm (H0.set idl (numO n) ++ M) = some (e, tm', H') ∧ tm'.length = 36 ∧ (∃ M', H' = H0.set idl (numO (smallTs (args.drop i) n (d - 1)).2) ++ M') ∧
      if (smallTs (args.drop i) n (d - 1)).1 = true then e = .exit 0 else e = .ret ∧ tm'.getD 6 undefA = .im (.bool false)
  | 0, i, hi, tm, M, n, hn0, hn1, hlen, h1, h2, h23, h24, h25 => by
    have e : args.drop i = [] := by rw [List.drop_eq_nil_iff]; omega
    have hc : decide ((i : Int) < (args.length : Int)) = false := decide_eq_false (by omega)
    rw [l47_0, e]
    simp only [smallTs, if_true]
    simp only [b47_0, exec0, xreg, xops, wantedA, aopc, aop, ev, putA, endK, resA, tupA, List.length_cons, List.length_nil, List.replicate, List.cons_append, List.nil_append, List.append_nil, List.append_assoc, gs_same, gs_ne, gq_same, gq_ne, List.length_set, List.map_cons, List.map_nil, cellsOf, List.all_cons, List.all_nil, cellOk, boxTy, Bool.and_true, Bool.and_self, if_true, ite_true, ite_false, loadAt, storeAt, setAt, hget, hget0, hset, hset0, List.getElem?_cons_zero, List.getElem?_cons_succ, List.set_cons_zero, List.set_cons_succ, Nat.add_zero, Nat.zero_add, Nat.reduceAdd, Nat.reduceSub, Nat.reduceLeDiff, Nat.reduceLT, Nat.reduceEqDiff, Nat.le_refl, and_self, and_true, true_and, mkAgg, toIms, List.drop_zero, List.drop_succ_cons, List.take_succ_cons, List.take_zero, List.length_append, binA, isShift, binInt, binBool, unA, Bool.false_eq_true, if_false, partA, fillA, fillE, List.take_nil, Nat.zero_ne_one, Nat.one_ne_zero, not_false_eq_true, ne_eq, Nat.succ_ne_self, reduceCtorEq, decide_true, decide_false, lenA, beq_self_eq_true, beq_true, beq_false, Bool.not_true, Bool.not_false, hlen, h1, h2, h23, h24, h25, hc]
    exact ⟨_, _, _, rfl, by simp only [List.length_set, hlen], ⟨_, rfl⟩, rfl⟩
  | m + 1, i, hi, tm, M, n, hn0, hn1, hlen, h1, h2, h23, h24, h25 => by
    have hlt : i < args.length := by omega
    obtain ⟨w, hwi⟩ : ∃ w, args[i]? = some w := ⟨_, List.getElem?_eq_getElem hlt⟩
    have e : args.drop i = w :: args.drop (i + 1) := by
      rw [List.drop_eq_getElem_cons hlt]
      congr 1
      rw [List.getElem?_eq_getElem hlt] at hwi
      exact Option.some.inj hwi
    have hs2 : s = 2 := by
      rcases hs with hs | hs
      · subst hs; simp at hlt
      · exact hs
    subst hs2
    have hc' : decide ((i : Int) < (args.length : Int)) = true := decide_eq_true (by omega)
    have hix := idx_nat (n := (args.map encT).length) (i := i) (by simpa using hlt)
    have hgw : (args.map encT)[i]? = some (encT w) := by rw [List.getElem?_map, hwi]; rfl
    have hcall := hc w (List.mem_of_getElem? hwi) n hn0 hn1 (H0.set idl (numO n) ++ (M ++ [.obj none [(encT w).map .im]])) (by rw [get_app (by simpa using hid), List.getElem?_set_self hid])
    rw [set_app (by simpa using hid), List.set_set] at hcall
    have hsl := smallT_left w n (d - 1) hn0
    have hwr := wrap_nat (i := i) (by omega)
    have hwd := wrap_small (d - 1) (by omega)
    have key := l47 args 2 hs hn d hd idl H0 hid hc m (i + 1) (by omega)
    rw [l47_0, e]
    simp only [smallTs]
    have hset0 : ∀ o o' : HO, (H0.set idl (numO n) ++ (M ++ [o])).set ((H0.set idl (numO n)).length + M.length) o' = H0.set idl (numO n) ++ (M ++ [o']) := fun o o' => by
      rw [← List.append_assoc, ← List.append_assoc, ← List.length_append, Go.Abs.hset0]; rfl
    have hgetA : ∀ o, (H0.set idl (numO n) ++ (M ++ [o]))[(H0.set idl (numO n)).length + M.length]? = some o := fun o => by
      rw [← List.append_assoc, ← List.length_append, Go.Abs.hget0]; rfl
    rw [List.length_set] at hset0 hgetA
    rcases Bool.eq_false_or_eq_true (smallT w n (d - 1)).1 with hb | hb
    · simp only [hb, if_true] at hcall hsl ⊢
      generalize (smallT w n (d - 1)).2 = n' at *
      obtain ⟨k, s', ts⟩ := w
      simp only [encT, List.map_cons, List.map_nil] at hcall hgw
      simp only [b47_0, exec0, xreg, xops, wantedA, aopc, aop, ev, putA, endK, resA, tupA, List.length_cons, List.length_nil, List.replicate, List.cons_append, List.nil_append, List.append_nil, List.append_assoc, gs_same, gs_ne, gq_same, gq_ne, List.length_set, List.map_cons, List.map_nil, cellsOf, List.all_cons, List.all_nil, cellOk, boxTy, Bool.and_true, Bool.and_self, if_true, ite_true, ite_false, loadAt, storeAt, setAt, hget, hget0, hset, hset0, List.getElem?_cons_zero, List.getElem?_cons_succ, List.set_cons_zero, List.set_cons_succ, Nat.add_zero, Nat.zero_add, Nat.reduceAdd, Nat.reduceSub, Nat.reduceLeDiff, Nat.reduceLT, Nat.reduceEqDiff, Nat.le_refl, and_self, and_true, true_and, mkAgg, toIms, List.drop_zero, List.drop_succ_cons, List.take_succ_cons, List.take_zero, List.length_append, binA, isShift, binInt, binBool, unA, Bool.false_eq_true, if_false, partA, fillA, fillE, List.take_nil, Nat.zero_ne_one, Nat.one_ne_zero, not_false_eq_true, ne_eq, Nat.succ_ne_self, reduceCtorEq, decide_true, decide_false, lenA, beq_self_eq_true, beq_true, beq_false, Bool.not_true, Bool.not_false, hlen, h1, h2, h23, h24, h25, hc', hix, hgw, hcall, hwr, hwd, hgetA, hset0]
      refine ex_imp (key _ _ n' (by have := hsl.2.2 trivial; omega) (by omega) ?_ ?_ ?_ ?_ ?_ ?_) ?_
      iterate 6 simp only [gs_same, gs_ne, List.length_set, Nat.reduceLT, Nat.reduceEqDiff, not_false_eq_true, hlen, h1, h2, h23, h24, h25]
      exact fun e tm' H' h => h
    · simp only [hb, Bool.false_eq_true, if_false] at hcall hsl ⊢
      generalize (smallT w n (d - 1)).2 = n' at *
      obtain ⟨k, s', ts⟩ := w
      simp only [encT, List.map_cons, List.map_nil] at hcall hgw
      simp only [b47_0, exec0, xreg, xops, wantedA, aopc, aop, ev, putA, endK, resA, tupA, List.length_cons, List.length_nil, List.replicate, List.cons_append, List.nil_append, List.append_nil, List.append_assoc, gs_same, gs_ne, gq_same, gq_ne, List.length_set, List.map_cons, List.map_nil, cellsOf, List.all_cons, List.all_nil, cellOk, boxTy, Bool.and_true, Bool.and_self, if_true, ite_true, ite_false, loadAt, storeAt, setAt, hget, hget0, hset, hset0, List.getElem?_cons_zero, List.getElem?_cons_succ, List.set_cons_zero, List.set_cons_succ, Nat.add_zero, Nat.zero_add, Nat.reduceAdd, Nat.reduceSub, Nat.reduceLeDiff, Nat.reduceLT, Nat.reduceEqDiff, Nat.le_refl, and_self, and_true, true_and, mkAgg, toIms, List.drop_zero, List.drop_succ_cons, List.take_succ_cons, List.take_zero, List.length_append, binA, isShift, binInt, binBool, unA, Bool.false_eq_true, if_false, partA, fillA, fillE, List.take_nil, Nat.zero_ne_one, Nat.one_ne_zero, not_false_eq_true, ne_eq, Nat.succ_ne_self, reduceCtorEq, decide_true, decide_false, lenA, beq_self_eq_true, beq_true, beq_false, Bool.not_true, Bool.not_false, hlen, h1, h2, h23, h24, h25, hc', hix, hgw, hcall, hwr, hwd, hgetA, hset0]
      exact ⟨_, _, _, rfl, by simp only [List.length_set, hlen], ⟨_, rfl⟩, rfl, by simp only [gs_same, gs_ne, List.length_set, Nat.reduceLT, Nat.reduceEqDiff, not_false_eq_true, hlen]⟩

theorem s47 : ∀ (t : KT), okT t → ∀ (n d : Int), 0 ≤ n → n ≤ 1000000 → 0 ≤ d → d ≤ 1000 → ∀ (idl : Nat) (H : Heap), H[idl]? = some (numO n) →
    L 47 [.im (.agg (encT t)), .ptr idl 0 0, .im (.int .i64 d)] H = some (.im (.bool (smallT t n d).1), H.set idl (numO (smallT t n d).2))
  | .mk k s args, hok, n, d, hn0, hn1, hd0, hd1, idl, H, hid => by
    simp only [okT] at hok
    obtain ⟨hs, hn, hoks⟩ := hok
    have hlt := (List.getElem?_eq_some_iff.1 hid).1
    have hgl : ∀ M : Heap, (H ++ M)[idl]? = some (numO n) := fun M => by rw [get_app hlt]; exact hid
    have hsl : ∀ (M : Heap) o, (H ++ M).set idl o = H.set idl o ++ M := fun M o => set_app hlt
    have hgs : ∀ (M : Heap) o, (H.set idl o ++ M)[idl]? = some o := fun M o => by rw [get_app (by simpa using hlt), List.getElem?_set_self hlt]
    have hgt : ∀ (o x : HO), (H.set idl o ++ [x])[H.length]? = some x := fun o x => by
      have := Go.Abs.hget0 (H := H.set idl o) (l := [x])
      rwa [List.length_set] at this
    have hel : (encTs args).length = args.length := by rw [encTs_map]; simp
    have hwn := wrap_small (n - 1) (by omega)
    have key := fun (hd : 1 ≤ d) => l47 args s hs hn d ⟨hd, hd1⟩ idl H hlt (fun a ha n hn0 hn1 H' hH' => s47 a (okTs_mem hoks a ha) n (d - 1) hn0 hn1 (by omega) (by omega) idl H' hH') args.length 0 (by omega)
    have z : ((0 : Nat) : Int) = 0 := rfl
    simp only [List.drop_zero, z] at key
    simp only [encT]
    rw [leq F47]
    obtain ⟨hlen, ha⟩ := enter_at (f := f47) (args := [.im (.agg [.int .i64 k, .sl s (encTs args)]), .ptr idl 0 0, .im (.int .i64 d)]) (Nat.le_of_ble_eq_true rfl)
    have h0 := ha 0 _ rfl
    have h1 := ha 1 _ rfl
    have h2 := ha 2 _ rfl
    generalize enterA f47 [.im (.agg [.int .i64 k, .sl s (encTs args)]), .ptr idl 0 0, .im (.int .i64 d)] = tm at *
    change tm.length = 36 at hlen
    have hlv : ∀ (b : Bool) (M : Heap) (v : Int), leave H false (.im (.bool b)) (H.set idl (.obj none [[.im (.int .i64 v)]]) ++ M) = (.im (.bool b), H.set idl (.obj none [[.im (.int .i64 v)]])) := fun b M v => leave_set
    simp only [numO] at hgl hlv hgs
    by_cases hn2 : n - 1 < 0
    · have e1 : decide (n - 1 < 0) = true := decide_eq_true hn2
      simp only [smallT, hn2, true_or, if_true]
      simp only [f47, e47_0, exec0, xreg, xops, wantedA, aopc, aop, ev, putA, endK, resA, tupA, List.length_cons, List.length_nil, List.replicate, List.cons_append, List.nil_append, List.append_nil, List.append_assoc, gs_same, gs_ne, gq_same, gq_ne, List.length_set, List.map_cons, List.map_nil, cellsOf, List.all_cons, List.all_nil, cellOk, boxTy, Bool.and_true, Bool.and_self, if_true, ite_true, ite_false, loadAt, storeAt, setAt, hget, hget0, hset, hset0, List.getElem?_cons_zero, List.getElem?_cons_succ, List.set_cons_zero, List.set_cons_succ, Nat.add_zero, Nat.zero_add, Nat.reduceAdd, Nat.reduceSub, Nat.reduceLeDiff, Nat.reduceLT, Nat.reduceEqDiff, Nat.le_refl, and_self, and_true, true_and, mkAgg, toIms, List.drop_zero, List.drop_succ_cons, List.take_succ_cons, List.take_zero, List.length_append, binA, isShift, binInt, binBool, unA, Bool.false_eq_true, if_false, partA, fillA, fillE, List.take_nil, Nat.zero_ne_one, Nat.one_ne_zero, not_false_eq_true, ne_eq, Nat.succ_ne_self, reduceCtorEq, decide_true, decide_false, lenA, beq_self_eq_true, beq_true, beq_false, Bool.not_true, Bool.not_false, hlen, h0, h1, h2, hel, hgl, hsl, hgs, hwn, e1, hlv, numO]
    · have e1 : decide (n - 1 < 0) = false := decide_eq_false hn2
      by_cases hd2 : d = 0
      · have e2 : decide (d = 0) = true := decide_eq_true hd2
        simp only [smallT, hn2, hd2, or_true, if_true]
        subst hd2
        simp only [f47, e47_0, exec0, xreg, xops, wantedA, aopc, aop, ev, putA, endK, resA, tupA, List.length_cons, List.length_nil, List.replicate, List.cons_append, List.nil_append, List.append_nil, List.append_assoc, gs_same, gs_ne, gq_same, gq_ne, List.length_set, List.map_cons, List.map_nil, cellsOf, List.all_cons, List.all_nil, cellOk, boxTy, Bool.and_true, Bool.and_self, if_true, ite_true, ite_false, loadAt, storeAt, setAt, hget, hget0, hset, hset0, List.getElem?_cons_zero, List.getElem?_cons_succ, List.set_cons_zero, List.set_cons_succ, Nat.add_zero, Nat.zero_add, Nat.reduceAdd, Nat.reduceSub, Nat.reduceLeDiff, Nat.reduceLT, Nat.reduceEqDiff, Nat.le_refl, and_self, and_true, true_and, mkAgg, toIms, List.drop_zero, List.drop_succ_cons, List.take_succ_cons, List.take_zero, List.length_append, binA, isShift, binInt, binBool, unA, Bool.false_eq_true, if_false, partA, fillA, fillE, List.take_nil, Nat.zero_ne_one, Nat.one_ne_zero, not_false_eq_true, ne_eq, Nat.succ_ne_self, reduceCtorEq, decide_true, decide_false, lenA, beq_self_eq_true, beq_true, beq_false, Bool.not_true, Bool.not_false, hlen, h0, h1, h2, hel, hgl, hsl, hgs, hwn, e1, hlv, numO]
      · have e2 : decide (d = 0) = false := decide_eq_false hd2
        simp only [smallT, hn2, hd2, or_self, if_false]
        simp only [f47, e47_0, exec0, xreg, xops, wantedA, aopc, aop, ev, putA, endK, resA, tupA, List.length_cons, List.length_nil, List.replicate, List.cons_append, List.nil_append, List.append_nil, List.append_assoc, gs_same, gs_ne, gq_same, gq_ne, List.length_set, List.map_cons, List.map_nil, cellsOf, List.all_cons, List.all_nil, cellOk, boxTy, Bool.and_true, Bool.and_self, if_true, ite_true, ite_false, loadAt, storeAt, setAt, hget, hget0, hset, hset0, List.getElem?_cons_zero, List.getElem?_cons_succ, List.set_cons_zero, List.set_cons_succ, Nat.add_zero, Nat.zero_add, Nat.reduceAdd, Nat.reduceSub, Nat.reduceLeDiff, Nat.reduceLT, Nat.reduceEqDiff, Nat.le_refl, and_self, and_true, true_and, mkAgg, toIms, List.drop_zero, List.drop_succ_cons, List.take_succ_cons, List.take_zero, List.length_append, binA, isShift, binInt, binBool, unA, Bool.false_eq_true, if_false, partA, fillA, fillE, List.take_nil, Nat.zero_ne_one, Nat.one_ne_zero, not_false_eq_true, ne_eq, Nat.succ_ne_self, reduceCtorEq, decide_true, decide_false, lenA, beq_self_eq_true, beq_true, beq_false, Bool.not_true, Bool.not_false, hlen, h0, h1, h2, hel, hgl, hsl, hgs, hgt, hwn, e1, e2]
        have key := key (by omega)
        simp only [numO] at key
        refine thenL_of (key _ _ (n - 1) (by omega) (by omega) ?_ ?_ ?_ ?_ ?_ ?_) ?_
        iterate 6 simp only [gs_same, gs_ne, List.length_set, Nat.reduceLT, Nat.reduceEqDiff, not_false_eq_true, hlen, h0, h1, h2, encTs_map]
        rintro e tm' H' ⟨hl', ⟨M, rfl⟩, hb⟩
        rcases Bool.eq_false_or_eq_true (smallTs args (n - 1) (d - 1)).1 with hq | hq
        · simp only [hq, if_true] at hb
          subst hb
          simp only [exec0, xreg, xops, wantedA, aopc, aop, ev, putA, endK, resA, tupA, List.length_cons, List.length_nil, List.replicate, List.cons_append, List.nil_append, List.append_nil, List.append_assoc, gs_same, gs_ne, gq_same, gq_ne, List.length_set, List.map_cons, List.map_nil, cellsOf, List.all_cons, List.all_nil, cellOk, boxTy, Bool.and_true, Bool.and_self, if_true, ite_true, ite_false, loadAt, storeAt, setAt, hget, hget0, hset, hset0, List.getElem?_cons_zero, List.getElem?_cons_succ, List.set_cons_zero, List.set_cons_succ, Nat.add_zero, Nat.zero_add, Nat.reduceAdd, Nat.reduceSub, Nat.reduceLeDiff, Nat.reduceLT, Nat.reduceEqDiff, Nat.le_refl, and_self, and_true, true_and, mkAgg, toIms, List.drop_zero, List.drop_succ_cons, List.take_succ_cons, List.take_zero, List.length_append, binA, isShift, binInt, binBool, unA, Bool.false_eq_true, if_false, partA, fillA, fillE, List.take_nil, Nat.zero_ne_one, Nat.one_ne_zero, not_false_eq_true, ne_eq, Nat.succ_ne_self, reduceCtorEq, decide_true, decide_false, lenA, beq_self_eq_true, beq_true, beq_false, Bool.not_true, Bool.not_false, hl', hlv, numO, hq]
        · simp only [hq, Bool.false_eq_true, if_false] at hb
          obtain ⟨rfl, h6⟩ := hb
          simp only [exec0, xreg, xops, wantedA, aopc, aop, ev, putA, endK, resA, tupA, List.length_cons, List.length_nil, List.replicate, List.cons_append, List.nil_append, List.append_nil, List.append_assoc, gs_same, gs_ne, gq_same, gq_ne, List.length_set, List.map_cons, List.map_nil, cellsOf, List.all_cons, List.all_nil, cellOk, boxTy, Bool.and_true, Bool.and_self, if_true, ite_true, ite_false, loadAt, storeAt, setAt, hget, hget0, hset, hset0, List.getElem?_cons_zero, List.getElem?_cons_succ, List.set_cons_zero, List.set_cons_succ, Nat.add_zero, Nat.zero_add, Nat.reduceAdd, Nat.reduceSub, Nat.reduceLeDiff, Nat.reduceLT, Nat.reduceEqDiff, Nat.le_refl, and_self, and_true, true_and, mkAgg, toIms, List.drop_zero, List.drop_succ_cons, List.take_succ_cons, List.take_zero, List.length_append, binA, isShift, binInt, binBool, unA, Bool.false_eq_true, if_false, partA, fillA, fillE, List.take_nil, Nat.zero_ne_one, Nat.one_ne_zero, not_false_eq_true, ne_eq, Nat.succ_ne_self, reduceCtorEq, decide_true, decide_false, lenA, beq_self_eq_true, beq_true, beq_false, Bool.not_true, Bool.not_false, hl', h6, hlv, numO, hq]
termination_by t => SizeOf.sizeOf t
decreasing_by
  have := List.sizeOf_lt_of_mem ha
  simp only [KT.mk.sizeOf_spec]
  omega

/-- fits. -/
theorem s16 (t : KT) (hok : okT t) (H : Heap) : L 16 [.im (.agg (encT t))] H = some (.im (.bool (smallT t 2000 30).1), H) := by
  have h47 := s47 t hok 2000 30 (by decide) (by decide) (by decide) (by decide)
  obtain ⟨k, s, ts⟩ := t
  simp only [encT] at h47 ⊢
  rw [leq F16]
  obtain ⟨hlen, ha⟩ := enter_at (f := f16) (args := [.im (.agg [.int .i64 k, .sl s (encTs ts)])]) (Nat.le_of_ble_eq_true rfl)
  have h0 := ha 0 _ rfl
  generalize enterA f16 [.im (.agg [.int .i64 k, .sl s (encTs ts)])] = tm at *
  change tm.length = 6 at hlen
  have h47' := h47 (H.length + 1) (H ++ [.obj none [[.im (.int .i64 k), .im (.sl s (encTs ts))]], .obj none [[.im (.int .i64 2000)]]]) (by rw [Go.Abs.hget]; rfl)
  rw [Go.Abs.hset] at h47'
  simp only [f16, exec0, xreg, xops, wantedA, aopc, aop, ev, putA, endK, resA, tupA, List.length_cons, List.length_nil, List.replicate, List.cons_append, List.nil_append, List.append_nil, List.append_assoc, gs_same, gs_ne, gq_same, gq_ne, List.length_set, List.map_cons, List.map_nil, cellsOf, List.all_cons, List.all_nil, cellOk, boxTy, Bool.and_true, Bool.and_self, if_true, ite_true, ite_false, loadAt, storeAt, setAt, hget, hget0, hset, hset0, List.getElem?_cons_zero, List.getElem?_cons_succ, List.set_cons_zero, List.set_cons_succ, Nat.add_zero, Nat.zero_add, Nat.reduceAdd, Nat.reduceSub, Nat.reduceLeDiff, Nat.reduceLT, Nat.reduceEqDiff, Nat.le_refl, and_self, and_true, true_and, mkAgg, toIms, List.drop_zero, List.drop_succ_cons, List.take_succ_cons, List.take_zero, List.length_append, binA, isShift, binInt, binBool, unA, Bool.false_eq_true, if_false, partA, fillA, fillE, List.take_nil, Nat.zero_ne_one, Nat.one_ne_zero, not_false_eq_true, ne_eq, Nat.succ_ne_self, reduceCtorEq, decide_true, decide_false, lenA, beq_self_eq_true, beq_true, beq_false, Bool.not_true, Bool.not_false, hlen, h0, h47', leave_app]

end Go.Abs.Seat
end
section
/- What the seat's functions come to: Word, Count, clone, Make. -/
set_option linter.unusedVariables false
set_option linter.unusedSimpArgs false
namespace Go.Abs.Seat
open Go.Proofs

/-- How a kind is written; of none: nothing. -/
def wordK (k : Int) : List UInt8 := match kidx k with
  | some i => match words[i]? with
    | some w => w.2.1
    | none => []
  | none => []
/-- How many types a kind takes. -/
def cntK (k : Int) : Int := match kidx k with
  | some i => kcnt i
  | none => 0

theorem kidx_none {k : Int} (h1 : k ≠ 1) (h2 : k ≠ 2) (h3 : k ≠ 3) (h4 : k ≠ 4) (h5 : k ≠ 5) (h6 : k ≠ 6) (h7 : k ≠ 7) (h9 : k ≠ 9) : kidx k = none := by
  have e : ∀ j : Int, k ≠ j → decide (j = k) = false := fun j h => decide_eq_false (Ne.symm h)
  simp only [kidx, words, List.findIdx?_cons, List.findIdx?_nil, e 1 h1, e 2 h2, e 3 h3, e 4 h4, e 5 h5, e 6 h6, e 7 h7, e 9 h9, Bool.false_eq_true, if_false, Option.map_none]

theorem s22 (k : Int) (H : Heap) : L 22 [.im (.int .i64 k)] H = some (.im (.str (wordK k)), H) := by
  rw [leq F22]
  obtain ⟨hlen, ha⟩ := enter_at (f := f22) (args := [.im (.int .i64 k)]) (Nat.le_of_ble_eq_true rfl)
  have h0 := ha 0 _ rfl
  generalize enterA f22 [.im (.int .i64 k)] = tm at *
  change tm.length = 20 at hlen
  by_cases h1 : k = 1
  · subst h1
    simp only [f22, exec0, xreg, xops, wantedA, aopc, aop, ev, putA, endK, resA, tupA, List.length_cons, List.length_nil, List.replicate, List.cons_append, List.nil_append, List.append_nil, List.append_assoc, gs_same, gs_ne, gq_same, gq_ne, List.length_set, List.map_cons, List.map_nil, cellsOf, List.all_cons, List.all_nil, cellOk, boxTy, Bool.and_true, Bool.and_self, if_true, ite_true, ite_false, loadAt, storeAt, setAt, hget, hget0, hset, hset0, List.getElem?_cons_zero, List.getElem?_cons_succ, List.set_cons_zero, List.set_cons_succ, Nat.add_zero, Nat.zero_add, Nat.reduceAdd, Nat.reduceSub, Nat.reduceLeDiff, Nat.reduceLT, Nat.reduceEqDiff, Nat.le_refl, and_self, and_true, true_and, mkAgg, toIms, List.drop_zero, List.drop_succ_cons, List.take_succ_cons, List.take_zero, List.length_append, binA, isShift, binInt, binBool, unA, Bool.false_eq_true, if_false, partA, fillA, fillE, List.take_nil, Nat.zero_ne_one, Nat.one_ne_zero, not_false_eq_true, ne_eq, Nat.succ_ne_self, reduceCtorEq, Int.reduceEq, Int.reduceLT, Int.reduceLE, decide_true, decide_false, lenA, beq_self_eq_true, beq_true, beq_false, Bool.not_true, Bool.not_false, hlen, h0, leave_same]
    rfl
  by_cases h2 : k = 2
  · subst h2
    simp only [f22, exec0, xreg, xops, wantedA, aopc, aop, ev, putA, endK, resA, tupA, List.length_cons, List.length_nil, List.replicate, List.cons_append, List.nil_append, List.append_nil, List.append_assoc, gs_same, gs_ne, gq_same, gq_ne, List.length_set, List.map_cons, List.map_nil, cellsOf, List.all_cons, List.all_nil, cellOk, boxTy, Bool.and_true, Bool.and_self, if_true, ite_true, ite_false, loadAt, storeAt, setAt, hget, hget0, hset, hset0, List.getElem?_cons_zero, List.getElem?_cons_succ, List.set_cons_zero, List.set_cons_succ, Nat.add_zero, Nat.zero_add, Nat.reduceAdd, Nat.reduceSub, Nat.reduceLeDiff, Nat.reduceLT, Nat.reduceEqDiff, Nat.le_refl, and_self, and_true, true_and, mkAgg, toIms, List.drop_zero, List.drop_succ_cons, List.take_succ_cons, List.take_zero, List.length_append, binA, isShift, binInt, binBool, unA, Bool.false_eq_true, if_false, partA, fillA, fillE, List.take_nil, Nat.zero_ne_one, Nat.one_ne_zero, not_false_eq_true, ne_eq, Nat.succ_ne_self, reduceCtorEq, Int.reduceEq, Int.reduceLT, Int.reduceLE, decide_true, decide_false, lenA, beq_self_eq_true, beq_true, beq_false, Bool.not_true, Bool.not_false, hlen, h0, leave_same]
    rfl
  by_cases h3 : k = 3
  · subst h3
    simp only [f22, exec0, xreg, xops, wantedA, aopc, aop, ev, putA, endK, resA, tupA, List.length_cons, List.length_nil, List.replicate, List.cons_append, List.nil_append, List.append_nil, List.append_assoc, gs_same, gs_ne, gq_same, gq_ne, List.length_set, List.map_cons, List.map_nil, cellsOf, List.all_cons, List.all_nil, cellOk, boxTy, Bool.and_true, Bool.and_self, if_true, ite_true, ite_false, loadAt, storeAt, setAt, hget, hget0, hset, hset0, List.getElem?_cons_zero, List.getElem?_cons_succ, List.set_cons_zero, List.set_cons_succ, Nat.add_zero, Nat.zero_add, Nat.reduceAdd, Nat.reduceSub, Nat.reduceLeDiff, Nat.reduceLT, Nat.reduceEqDiff, Nat.le_refl, and_self, and_true, true_and, mkAgg, toIms, List.drop_zero, List.drop_succ_cons, List.take_succ_cons, List.take_zero, List.length_append, binA, isShift, binInt, binBool, unA, Bool.false_eq_true, if_false, partA, fillA, fillE, List.take_nil, Nat.zero_ne_one, Nat.one_ne_zero, not_false_eq_true, ne_eq, Nat.succ_ne_self, reduceCtorEq, Int.reduceEq, Int.reduceLT, Int.reduceLE, decide_true, decide_false, lenA, beq_self_eq_true, beq_true, beq_false, Bool.not_true, Bool.not_false, hlen, h0, leave_same]
    rfl
  by_cases h4 : k = 4
  · subst h4
    simp only [f22, exec0, xreg, xops, wantedA, aopc, aop, ev, putA, endK, resA, tupA, List.length_cons, List.length_nil, List.replicate, List.cons_append, List.nil_append, List.append_nil, List.append_assoc, gs_same, gs_ne, gq_same, gq_ne, List.length_set, List.map_cons, List.map_nil, cellsOf, List.all_cons, List.all_nil, cellOk, boxTy, Bool.and_true, Bool.and_self, if_true, ite_true, ite_false, loadAt, storeAt, setAt, hget, hget0, hset, hset0, List.getElem?_cons_zero, List.getElem?_cons_succ, List.set_cons_zero, List.set_cons_succ, Nat.add_zero, Nat.zero_add, Nat.reduceAdd, Nat.reduceSub, Nat.reduceLeDiff, Nat.reduceLT, Nat.reduceEqDiff, Nat.le_refl, and_self, and_true, true_and, mkAgg, toIms, List.drop_zero, List.drop_succ_cons, List.take_succ_cons, List.take_zero, List.length_append, binA, isShift, binInt, binBool, unA, Bool.false_eq_true, if_false, partA, fillA, fillE, List.take_nil, Nat.zero_ne_one, Nat.one_ne_zero, not_false_eq_true, ne_eq, Nat.succ_ne_self, reduceCtorEq, Int.reduceEq, Int.reduceLT, Int.reduceLE, decide_true, decide_false, lenA, beq_self_eq_true, beq_true, beq_false, Bool.not_true, Bool.not_false, hlen, h0, leave_same]
    rfl
  by_cases h5 : k = 5
  · subst h5
    simp only [f22, exec0, xreg, xops, wantedA, aopc, aop, ev, putA, endK, resA, tupA, List.length_cons, List.length_nil, List.replicate, List.cons_append, List.nil_append, List.append_nil, List.append_assoc, gs_same, gs_ne, gq_same, gq_ne, List.length_set, List.map_cons, List.map_nil, cellsOf, List.all_cons, List.all_nil, cellOk, boxTy, Bool.and_true, Bool.and_self, if_true, ite_true, ite_false, loadAt, storeAt, setAt, hget, hget0, hset, hset0, List.getElem?_cons_zero, List.getElem?_cons_succ, List.set_cons_zero, List.set_cons_succ, Nat.add_zero, Nat.zero_add, Nat.reduceAdd, Nat.reduceSub, Nat.reduceLeDiff, Nat.reduceLT, Nat.reduceEqDiff, Nat.le_refl, and_self, and_true, true_and, mkAgg, toIms, List.drop_zero, List.drop_succ_cons, List.take_succ_cons, List.take_zero, List.length_append, binA, isShift, binInt, binBool, unA, Bool.false_eq_true, if_false, partA, fillA, fillE, List.take_nil, Nat.zero_ne_one, Nat.one_ne_zero, not_false_eq_true, ne_eq, Nat.succ_ne_self, reduceCtorEq, Int.reduceEq, Int.reduceLT, Int.reduceLE, decide_true, decide_false, lenA, beq_self_eq_true, beq_true, beq_false, Bool.not_true, Bool.not_false, hlen, h0, leave_same]
    rfl
  by_cases h6 : k = 6
  · subst h6
    simp only [f22, exec0, xreg, xops, wantedA, aopc, aop, ev, putA, endK, resA, tupA, List.length_cons, List.length_nil, List.replicate, List.cons_append, List.nil_append, List.append_nil, List.append_assoc, gs_same, gs_ne, gq_same, gq_ne, List.length_set, List.map_cons, List.map_nil, cellsOf, List.all_cons, List.all_nil, cellOk, boxTy, Bool.and_true, Bool.and_self, if_true, ite_true, ite_false, loadAt, storeAt, setAt, hget, hget0, hset, hset0, List.getElem?_cons_zero, List.getElem?_cons_succ, List.set_cons_zero, List.set_cons_succ, Nat.add_zero, Nat.zero_add, Nat.reduceAdd, Nat.reduceSub, Nat.reduceLeDiff, Nat.reduceLT, Nat.reduceEqDiff, Nat.le_refl, and_self, and_true, true_and, mkAgg, toIms, List.drop_zero, List.drop_succ_cons, List.take_succ_cons, List.take_zero, List.length_append, binA, isShift, binInt, binBool, unA, Bool.false_eq_true, if_false, partA, fillA, fillE, List.take_nil, Nat.zero_ne_one, Nat.one_ne_zero, not_false_eq_true, ne_eq, Nat.succ_ne_self, reduceCtorEq, Int.reduceEq, Int.reduceLT, Int.reduceLE, decide_true, decide_false, lenA, beq_self_eq_true, beq_true, beq_false, Bool.not_true, Bool.not_false, hlen, h0, leave_same]
    rfl
  by_cases h7 : k = 7
  · subst h7
    simp only [f22, exec0, xreg, xops, wantedA, aopc, aop, ev, putA, endK, resA, tupA, List.length_cons, List.length_nil, List.replicate, List.cons_append, List.nil_append, List.append_nil, List.append_assoc, gs_same, gs_ne, gq_same, gq_ne, List.length_set, List.map_cons, List.map_nil, cellsOf, List.all_cons, List.all_nil, cellOk, boxTy, Bool.and_true, Bool.and_self, if_true, ite_true, ite_false, loadAt, storeAt, setAt, hget, hget0, hset, hset0, List.getElem?_cons_zero, List.getElem?_cons_succ, List.set_cons_zero, List.set_cons_succ, Nat.add_zero, Nat.zero_add, Nat.reduceAdd, Nat.reduceSub, Nat.reduceLeDiff, Nat.reduceLT, Nat.reduceEqDiff, Nat.le_refl, and_self, and_true, true_and, mkAgg, toIms, List.drop_zero, List.drop_succ_cons, List.take_succ_cons, List.take_zero, List.length_append, binA, isShift, binInt, binBool, unA, Bool.false_eq_true, if_false, partA, fillA, fillE, List.take_nil, Nat.zero_ne_one, Nat.one_ne_zero, not_false_eq_true, ne_eq, Nat.succ_ne_self, reduceCtorEq, Int.reduceEq, Int.reduceLT, Int.reduceLE, decide_true, decide_false, lenA, beq_self_eq_true, beq_true, beq_false, Bool.not_true, Bool.not_false, hlen, h0, leave_same]
    rfl
  by_cases h9 : k = 9
  · subst h9
    simp only [f22, exec0, xreg, xops, wantedA, aopc, aop, ev, putA, endK, resA, tupA, List.length_cons, List.length_nil, List.replicate, List.cons_append, List.nil_append, List.append_nil, List.append_assoc, gs_same, gs_ne, gq_same, gq_ne, List.length_set, List.map_cons, List.map_nil, cellsOf, List.all_cons, List.all_nil, cellOk, boxTy, Bool.and_true, Bool.and_self, if_true, ite_true, ite_false, loadAt, storeAt, setAt, hget, hget0, hset, hset0, List.getElem?_cons_zero, List.getElem?_cons_succ, List.set_cons_zero, List.set_cons_succ, Nat.add_zero, Nat.zero_add, Nat.reduceAdd, Nat.reduceSub, Nat.reduceLeDiff, Nat.reduceLT, Nat.reduceEqDiff, Nat.le_refl, and_self, and_true, true_and, mkAgg, toIms, List.drop_zero, List.drop_succ_cons, List.take_succ_cons, List.take_zero, List.length_append, binA, isShift, binInt, binBool, unA, Bool.false_eq_true, if_false, partA, fillA, fillE, List.take_nil, Nat.zero_ne_one, Nat.one_ne_zero, not_false_eq_true, ne_eq, Nat.succ_ne_self, reduceCtorEq, Int.reduceEq, Int.reduceLT, Int.reduceLE, decide_true, decide_false, lenA, beq_self_eq_true, beq_true, beq_false, Bool.not_true, Bool.not_false, hlen, h0, leave_same]
    rfl
  have e : wordK k = [] := by unfold wordK; rw [kidx_none h1 h2 h3 h4 h5 h6 h7 h9]
  simp only [f22, exec0, xreg, xops, wantedA, aopc, aop, ev, putA, endK, resA, tupA, List.length_cons, List.length_nil, List.replicate, List.cons_append, List.nil_append, List.append_nil, List.append_assoc, gs_same, gs_ne, gq_same, gq_ne, List.length_set, List.map_cons, List.map_nil, cellsOf, List.all_cons, List.all_nil, cellOk, boxTy, Bool.and_true, Bool.and_self, if_true, ite_true, ite_false, loadAt, storeAt, setAt, hget, hget0, hset, hset0, List.getElem?_cons_zero, List.getElem?_cons_succ, List.set_cons_zero, List.set_cons_succ, Nat.add_zero, Nat.zero_add, Nat.reduceAdd, Nat.reduceSub, Nat.reduceLeDiff, Nat.reduceLT, Nat.reduceEqDiff, Nat.le_refl, and_self, and_true, true_and, mkAgg, toIms, List.drop_zero, List.drop_succ_cons, List.take_succ_cons, List.take_zero, List.length_append, binA, isShift, binInt, binBool, unA, Bool.false_eq_true, if_false, partA, fillA, fillE, List.take_nil, Nat.zero_ne_one, Nat.one_ne_zero, not_false_eq_true, ne_eq, Nat.succ_ne_self, reduceCtorEq, Int.reduceEq, Int.reduceLT, Int.reduceLE, decide_true, decide_false, lenA, beq_self_eq_true, beq_true, beq_false, Bool.not_true, Bool.not_false, hlen, h0, h1, h2, h3, h4, h5, h6, h7, h9, leave_same, e]

theorem s23 (k : Int) (H : Heap) : L 23 [.im (.int .i64 k)] H = some (.im (.int .i64 (cntK k)), H) := by
  rw [leq F23]
  obtain ⟨hlen, ha⟩ := enter_at (f := f23) (args := [.im (.int .i64 k)]) (Nat.le_of_ble_eq_true rfl)
  have h0 := ha 0 _ rfl
  generalize enterA f23 [.im (.int .i64 k)] = tm at *
  change tm.length = 11 at hlen
  by_cases h6 : k = 6
  · subst h6
    simp only [f23, exec0, xreg, xops, wantedA, aopc, aop, ev, putA, endK, resA, tupA, List.length_cons, List.length_nil, List.replicate, List.cons_append, List.nil_append, List.append_nil, List.append_assoc, gs_same, gs_ne, gq_same, gq_ne, List.length_set, List.map_cons, List.map_nil, cellsOf, List.all_cons, List.all_nil, cellOk, boxTy, Bool.and_true, Bool.and_self, if_true, ite_true, ite_false, loadAt, storeAt, setAt, hget, hget0, hset, hset0, List.getElem?_cons_zero, List.getElem?_cons_succ, List.set_cons_zero, List.set_cons_succ, Nat.add_zero, Nat.zero_add, Nat.reduceAdd, Nat.reduceSub, Nat.reduceLeDiff, Nat.reduceLT, Nat.reduceEqDiff, Nat.le_refl, and_self, and_true, true_and, mkAgg, toIms, List.drop_zero, List.drop_succ_cons, List.take_succ_cons, List.take_zero, List.length_append, binA, isShift, binInt, binBool, unA, Bool.false_eq_true, if_false, partA, fillA, fillE, List.take_nil, Nat.zero_ne_one, Nat.one_ne_zero, not_false_eq_true, ne_eq, Nat.succ_ne_self, reduceCtorEq, Int.reduceEq, Int.reduceLT, Int.reduceLE, decide_true, decide_false, lenA, beq_self_eq_true, beq_true, beq_false, Bool.not_true, Bool.not_false, hlen, h0, leave_same]
    rfl
  by_cases h7 : k = 7
  · subst h7
    simp only [f23, exec0, xreg, xops, wantedA, aopc, aop, ev, putA, endK, resA, tupA, List.length_cons, List.length_nil, List.replicate, List.cons_append, List.nil_append, List.append_nil, List.append_assoc, gs_same, gs_ne, gq_same, gq_ne, List.length_set, List.map_cons, List.map_nil, cellsOf, List.all_cons, List.all_nil, cellOk, boxTy, Bool.and_true, Bool.and_self, if_true, ite_true, ite_false, loadAt, storeAt, setAt, hget, hget0, hset, hset0, List.getElem?_cons_zero, List.getElem?_cons_succ, List.set_cons_zero, List.set_cons_succ, Nat.add_zero, Nat.zero_add, Nat.reduceAdd, Nat.reduceSub, Nat.reduceLeDiff, Nat.reduceLT, Nat.reduceEqDiff, Nat.le_refl, and_self, and_true, true_and, mkAgg, toIms, List.drop_zero, List.drop_succ_cons, List.take_succ_cons, List.take_zero, List.length_append, binA, isShift, binInt, binBool, unA, Bool.false_eq_true, if_false, partA, fillA, fillE, List.take_nil, Nat.zero_ne_one, Nat.one_ne_zero, not_false_eq_true, ne_eq, Nat.succ_ne_self, reduceCtorEq, Int.reduceEq, Int.reduceLT, Int.reduceLE, decide_true, decide_false, lenA, beq_self_eq_true, beq_true, beq_false, Bool.not_true, Bool.not_false, hlen, h0, leave_same]
    rfl
  by_cases h9 : k = 9
  · subst h9
    simp only [f23, exec0, xreg, xops, wantedA, aopc, aop, ev, putA, endK, resA, tupA, List.length_cons, List.length_nil, List.replicate, List.cons_append, List.nil_append, List.append_nil, List.append_assoc, gs_same, gs_ne, gq_same, gq_ne, List.length_set, List.map_cons, List.map_nil, cellsOf, List.all_cons, List.all_nil, cellOk, boxTy, Bool.and_true, Bool.and_self, if_true, ite_true, ite_false, loadAt, storeAt, setAt, hget, hget0, hset, hset0, List.getElem?_cons_zero, List.getElem?_cons_succ, List.set_cons_zero, List.set_cons_succ, Nat.add_zero, Nat.zero_add, Nat.reduceAdd, Nat.reduceSub, Nat.reduceLeDiff, Nat.reduceLT, Nat.reduceEqDiff, Nat.le_refl, and_self, and_true, true_and, mkAgg, toIms, List.drop_zero, List.drop_succ_cons, List.take_succ_cons, List.take_zero, List.length_append, binA, isShift, binInt, binBool, unA, Bool.false_eq_true, if_false, partA, fillA, fillE, List.take_nil, Nat.zero_ne_one, Nat.one_ne_zero, not_false_eq_true, ne_eq, Nat.succ_ne_self, reduceCtorEq, Int.reduceEq, Int.reduceLT, Int.reduceLE, decide_true, decide_false, lenA, beq_self_eq_true, beq_true, beq_false, Bool.not_true, Bool.not_false, hlen, h0, leave_same]
    rfl
  have e : cntK k = 0 := by
    by_cases h1 : k = 1
    · subst h1; rfl
    by_cases h2 : k = 2
    · subst h2; rfl
    by_cases h3 : k = 3
    · subst h3; rfl
    by_cases h4 : k = 4
    · subst h4; rfl
    by_cases h5 : k = 5
    · subst h5; rfl
    unfold cntK; rw [kidx_none h1 h2 h3 h4 h5 h6 h7 h9]
  simp only [f23, exec0, xreg, xops, wantedA, aopc, aop, ev, putA, endK, resA, tupA, List.length_cons, List.length_nil, List.replicate, List.cons_append, List.nil_append, List.append_nil, List.append_assoc, gs_same, gs_ne, gq_same, gq_ne, List.length_set, List.map_cons, List.map_nil, cellsOf, List.all_cons, List.all_nil, cellOk, boxTy, Bool.and_true, Bool.and_self, if_true, ite_true, ite_false, loadAt, storeAt, setAt, hget, hget0, hset, hset0, List.getElem?_cons_zero, List.getElem?_cons_succ, List.set_cons_zero, List.set_cons_succ, Nat.add_zero, Nat.zero_add, Nat.reduceAdd, Nat.reduceSub, Nat.reduceLeDiff, Nat.reduceLT, Nat.reduceEqDiff, Nat.le_refl, and_self, and_true, true_and, mkAgg, toIms, List.drop_zero, List.drop_succ_cons, List.take_succ_cons, List.take_zero, List.length_append, binA, isShift, binInt, binBool, unA, Bool.false_eq_true, if_false, partA, fillA, fillE, List.take_nil, Nat.zero_ne_one, Nat.one_ne_zero, not_false_eq_true, ne_eq, Nat.succ_ne_self, reduceCtorEq, Int.reduceEq, Int.reduceLT, Int.reduceLE, decide_true, decide_false, lenA, beq_self_eq_true, beq_true, beq_false, Bool.not_true, Bool.not_false, hlen, h0, h6, h7, h9, leave_same, e]

/-! ### clone -/

mutual
def narrow : KT → Prop
  | .mk _ _ args => args.length ≤ 2 ∧ narrows args
def narrows : List KT → Prop
  | [] => True
  | a :: l => narrow a ∧ narrows l
end
theorem narrows_mem : ∀ {l : List KT}, narrows l → ∀ a ∈ l, narrow a
  | [], _, a, h => by simp at h
  | b :: l, h, a, hm => by
    simp only [narrows] at h
    rcases List.mem_cons.1 hm with rfl | hm
    · exact h.1
    · exact narrows_mem h.2 a hm

mutual
def cloneT : KT → KT
  | .mk k _ args => .mk k (if args.length = 0 then 0 else 2) (cloneTs args)
def cloneTs : List KT → List KT
  | [] => []
  | a :: l => cloneT a :: cloneTs l
end
theorem cloneTs_map : ∀ l : List KT, cloneTs l = l.map cloneT
  | [] => rfl
  | a :: l => by simp only [cloneTs, List.map_cons, cloneTs_map l]

theorem l53 (args : List KT) (s : Nat) (hs : args = [] ∨ s = 2) (hn : args.length ≤ 1000) (H0 : Heap)
    (hc : ∀ a ∈ args, ∀ H, L 53 [.im (.agg (encT a))] H = some (.im (.agg (encT (cloneT a))), H)) :
    ∀ (m i : Nat), i + m = args.length → ∀ (tm : List AV) (M : Heap) (v : AV), Gath 25 2 H0.length v (H0 ++ M) ((args.take i).map fun a => encT (cloneT a)) → tm.length = 23 → tm.getD 3 undefA = v → tm.getD 7 undefA = .im (.sl s (args.map encT)) → tm.getD 8 undefA = .im (.int .i64 args.length) → tm.getD 9 undefA = .im (.int .i64 i) →
    ∃ e tm' H', Λ c53_0 tm (H0 ++ M) = some (e, tm', H') ∧ tm'.length = 23 ∧ e = .exit 0 ∧ tm'.getD 1 undefA = tm.getD 1 undefA ∧ tm'.getD 2 undefA = tm.getD 2 undefA ∧ ∃ M', H' = H0 ++ M' ∧ Gath 25 2 H0.length (tm'.getD 3 undefA) (H0 ++ M') (args.map fun a => encT (cloneT a))
  | 0, i, hi, tm, M, v, hG, hlen, h3, h7, h8, h9 => by
    have hc : decide ((i : Int) < (args.length : Int)) = false := decide_eq_false (by omega)
    rw [l53_0]
    simp only [b53_0, exec0, xreg, xops, wantedA, aopc, aop, ev, putA, endK, resA, tupA, List.length_cons, List.length_nil, List.replicate, List.cons_append, List.nil_append, List.append_nil, List.append_assoc, gs_same, gs_ne, gq_same, gq_ne, List.length_set, List.map_cons, List.map_nil, cellsOf, List.all_cons, List.all_nil, cellOk, boxTy, Bool.and_true, Bool.and_self, if_true, ite_true, ite_false, loadAt, storeAt, setAt, hget, hget0, hset, hset0, List.getElem?_cons_zero, List.getElem?_cons_succ, List.set_cons_zero, List.set_cons_succ, Nat.add_zero, Nat.zero_add, Nat.reduceAdd, Nat.reduceSub, Nat.reduceLeDiff, Nat.reduceLT, Nat.reduceEqDiff, Nat.le_refl, and_self, and_true, true_and, mkAgg, toIms, List.drop_zero, List.drop_succ_cons, List.take_succ_cons, List.take_zero, List.length_append, binA, isShift, binInt, binBool, unA, Bool.false_eq_true, if_false, partA, fillA, fillE, List.take_nil, Nat.zero_ne_one, Nat.one_ne_zero, not_false_eq_true, ne_eq, Nat.succ_ne_self, reduceCtorEq, Int.reduceEq, Int.reduceLT, Int.reduceLE, decide_true, decide_false, lenA, beq_self_eq_true, beq_true, beq_false, Bool.not_true, Bool.not_false, hlen, h3, h7, h8, h9, hc]
    have e : args.take i = args := List.take_of_length_le (by omega)
    rw [e] at hG
    exact ⟨_, _, _, rfl, by simp only [List.length_set, hlen], rfl, by simp only [gs_same, gs_ne, List.length_set, Nat.reduceLT, Nat.reduceEqDiff, not_false_eq_true, hlen], by simp only [gs_same, gs_ne, List.length_set, Nat.reduceLT, Nat.reduceEqDiff, not_false_eq_true, hlen], M, rfl, by simp only [gs_same, gs_ne, List.length_set, Nat.reduceLT, Nat.reduceEqDiff, not_false_eq_true, hlen, h3]; exact hG⟩
  | m + 1, i, hi, tm, M, v, hG, hlen, h3, h7, h8, h9 => by
    have hlt : i < args.length := by omega
    obtain ⟨w, hwi⟩ : ∃ w, args[i]? = some w := ⟨_, List.getElem?_eq_getElem hlt⟩
    have hs2 : s = 2 := by
      rcases hs with hs | hs
      · subst hs; simp at hlt
      · exact hs
    subst hs2
    have hc' : decide ((i : Int) < (args.length : Int)) = true := decide_eq_true (by omega)
    have hix := idx_nat (n := (args.map encT).length) (i := i) (by simpa using hlt)
    have hgw : (args.map encT)[i]? = some (encT w) := by rw [List.getElem?_map, hwi]; rfl
    have hcall := hc w (List.mem_of_getElem? hwi)
    have hwr := wrap_nat (i := i) (by omega)
    have key := l53 args 2 hs hn H0 hc m (i + 1) (by omega)
    have hG2 := hG.more [.obj none [(encT w).map .im]]
    rw [List.append_assoc] at hG2
    obtain ⟨v', M', hap, hG', hok, _⟩ := hG2.push (bytes := 32) (encT (cloneT w)) (by simp; omega) (by decide)
    have htk : (args.take (i + 1)).map (fun a => encT (cloneT a)) = (args.take i).map (fun a => encT (cloneT a)) ++ [encT (cloneT w)] := by
      rw [List.take_add_one, hwi]; simp
    rw [← htk] at hG'
    have hset0 : ∀ o o' : HO, (H0 ++ (M ++ [o])).set (H0.length + M.length) o' = H0 ++ (M ++ [o']) := fun o o' => by
      rw [← List.append_assoc, ← List.append_assoc, ← List.length_append, Go.Abs.hset0]; rfl
    have hgetA : ∀ o, (H0 ++ (M ++ [o]))[H0.length + M.length]? = some o := fun o => by
      rw [← List.append_assoc, ← List.length_append, Go.Abs.hget0]; rfl
    rw [l53_0]
    generalize hcw : cloneT w = cw at *
    obtain ⟨k, s', ts⟩ := w
    obtain ⟨k2, s2, ts2⟩ := cw
    simp only [encT, List.map_cons, List.map_nil] at hcall hgw hap
    simp only [b53_0, exec0, xreg, xops, wantedA, aopc, aop, ev, putA, endK, resA, tupA, List.length_cons, List.length_nil, List.replicate, List.cons_append, List.nil_append, List.append_nil, List.append_assoc, gs_same, gs_ne, gq_same, gq_ne, List.length_set, List.map_cons, List.map_nil, cellsOf, List.all_cons, List.all_nil, cellOk, boxTy, Bool.and_true, Bool.and_self, if_true, ite_true, ite_false, loadAt, storeAt, setAt, hget, hget0, hset, hset0, List.getElem?_cons_zero, List.getElem?_cons_succ, List.set_cons_zero, List.set_cons_succ, Nat.add_zero, Nat.zero_add, Nat.reduceAdd, Nat.reduceSub, Nat.reduceLeDiff, Nat.reduceLT, Nat.reduceEqDiff, Nat.le_refl, and_self, and_true, true_and, mkAgg, toIms, List.drop_zero, List.drop_succ_cons, List.take_succ_cons, List.take_zero, List.length_append, binA, isShift, binInt, binBool, unA, Bool.false_eq_true, if_false, partA, fillA, fillE, List.take_nil, Nat.zero_ne_one, Nat.one_ne_zero, not_false_eq_true, ne_eq, Nat.succ_ne_self, reduceCtorEq, Int.reduceEq, Int.reduceLT, Int.reduceLE, decide_true, decide_false, lenA, beq_self_eq_true, beq_true, beq_false, Bool.not_true, Bool.not_false, hlen, h3, h7, h8, h9, hc', hix, hgw, hcall, hwr, hgetA, hset0, toDatss, toDats, toDat, elems, hap]
    refine ex_imp (key _ M' v' hG' ?_ ?_ ?_ ?_ ?_) ?_
    iterate 5 simp only [gs_same, gs_ne, List.length_set, Nat.reduceLT, Nat.reduceEqDiff, not_false_eq_true, hlen, h3, h7, h8, h9]
    rintro e tm' H' ⟨hl', he, g1, g2, hM⟩
    refine ⟨hl', he, ?_, ?_, hM⟩
    · rw [g1]; simp only [gs_same, gs_ne, List.length_set, Nat.reduceLT, Nat.reduceEqDiff, not_false_eq_true, hlen]
    · rw [g2]; simp only [gs_same, gs_ne, List.length_set, Nat.reduceLT, Nat.reduceEqDiff, not_false_eq_true, hlen]

theorem s53 : ∀ (t : KT), okT t → narrow t → ∀ H, L 53 [.im (.agg (encT t))] H = some (.im (.agg (encT (cloneT t))), H)
  | .mk k s args, hok, hnw, H => by
    simp only [okT] at hok
    obtain ⟨hs, _, hoks⟩ := hok
    simp only [narrow] at hnw
    obtain ⟨hn, hnws⟩ := hnw
    have hc : ∀ a ∈ args, ∀ H, L 53 [.im (.agg (encT a))] H = some (.im (.agg (encT (cloneT a))), H) := fun a ha H => s53 a (okTs_mem hoks a ha) (narrows_mem hnws a ha) H
    have key := l53 args s hs (by omega) (H ++ [.obj none [[.im (.int .i64 k), .im (.sl s (encTs args))]], .obj none [[.im (.int .i64 0), .nils]]]) hc args.length 0 (by omega)
    have z : ((0 : Nat) : Int) = 0 := rfl
    simp only [z] at key
    have hel : (encTs args).length = args.length := by rw [encTs_map]; simp
    simp only [encT]
    rw [leq F53]
    obtain ⟨hlen, ha⟩ := enter_at (f := f53) (args := [.im (.agg [.int .i64 k, .sl s (encTs args)])]) (Nat.le_of_ble_eq_true rfl)
    have h0 := ha 0 _ rfl
    generalize enterA f53 [.im (.agg [.int .i64 k, .sl s (encTs args)])] = tm at *
    change tm.length = 23 at hlen
    simp only [f53, e53_0, exec0, xreg, xops, wantedA, aopc, aop, ev, putA, endK, resA, tupA, List.length_cons, List.length_nil, List.replicate, List.cons_append, List.nil_append, List.append_nil, List.append_assoc, gs_same, gs_ne, gq_same, gq_ne, List.length_set, List.map_cons, List.map_nil, cellsOf, List.all_cons, List.all_nil, cellOk, boxTy, Bool.and_true, Bool.and_self, if_true, ite_true, ite_false, loadAt, storeAt, setAt, hget, hget0, hset, hset0, List.getElem?_cons_zero, List.getElem?_cons_succ, List.set_cons_zero, List.set_cons_succ, Nat.add_zero, Nat.zero_add, Nat.reduceAdd, Nat.reduceSub, Nat.reduceLeDiff, Nat.reduceLT, Nat.reduceEqDiff, Nat.le_refl, and_self, and_true, true_and, mkAgg, toIms, List.drop_zero, List.drop_succ_cons, List.take_succ_cons, List.take_zero, List.length_append, binA, isShift, binInt, binBool, unA, Bool.false_eq_true, if_false, partA, fillA, fillE, List.take_nil, Nat.zero_ne_one, Nat.one_ne_zero, not_false_eq_true, ne_eq, Nat.succ_ne_self, reduceCtorEq, Int.reduceEq, Int.reduceLT, Int.reduceLE, decide_true, decide_false, lenA, beq_self_eq_true, beq_true, beq_false, Bool.not_true, Bool.not_false, hlen, h0, hel]
    have key := fun tm => key tm [] .nils (.inl ⟨rfl, rfl⟩)
    simp only [List.append_nil] at key
    refine thenL_of (key _ ?_ ?_ ?_ ?_ ?_) ?_
    iterate 5 simp only [gs_same, gs_ne, List.length_set, Nat.reduceLT, Nat.reduceEqDiff, not_false_eq_true, hlen, h0, encTs_map]
    rintro e tm' H' ⟨hl', rfl, g1, g2, M, rfl, hG⟩
    simp only [gs_same, gs_ne, List.length_set, Nat.reduceLT, Nat.reduceEqDiff, not_false_eq_true, hlen] at g1 g2
    have hm : encTs (cloneTs args) = args.map fun a => encT (cloneT a) := by rw [encTs_map, cloneTs_map, List.map_map]; rfl
    rcases hG with ⟨hes, hv⟩ | ⟨hes, tok, _, hv, _⟩
    · have ha0 : args = [] := by simpa using hes
      have e1 : toDat (.agg [.im (.int .i64 k), .nils]) = some (.agg (encT (cloneT (.mk k s args)))) := by
        simp [toDat, toDats, cloneT, encT, ha0, encTs, cloneTs]
      have hlv := fun L' => leave_one (H := H) (M := L') e1
      simp only [cloneT, encT] at hlv ⊢
      simp only [exec0, xreg, xops, wantedA, aopc, aop, ev, putA, endK, resA, tupA, List.length_cons, List.length_nil, List.replicate, List.cons_append, List.nil_append, List.append_nil, List.append_assoc, gs_same, gs_ne, gq_same, gq_ne, List.length_set, List.map_cons, List.map_nil, cellsOf, List.all_cons, List.all_nil, cellOk, boxTy, Bool.and_true, Bool.and_self, if_true, ite_true, ite_false, loadAt, storeAt, setAt, hget, hget0, hset, hset0, List.getElem?_cons_zero, List.getElem?_cons_succ, List.set_cons_zero, List.set_cons_succ, Nat.add_zero, Nat.zero_add, Nat.reduceAdd, Nat.reduceSub, Nat.reduceLeDiff, Nat.reduceLT, Nat.reduceEqDiff, Nat.le_refl, and_self, and_true, true_and, mkAgg, toIms, List.drop_zero, List.drop_succ_cons, List.take_succ_cons, List.take_zero, List.length_append, binA, isShift, binInt, binBool, unA, Bool.false_eq_true, if_false, partA, fillA, fillE, List.take_nil, Nat.zero_ne_one, Nat.one_ne_zero, not_false_eq_true, ne_eq, Nat.succ_ne_self, reduceCtorEq, Int.reduceEq, Int.reduceLT, Int.reduceLE, decide_true, decide_false, lenA, beq_self_eq_true, beq_true, beq_false, Bool.not_true, Bool.not_false, hl', g1, g2, hv, toDatss, toDats, toDat, hlv]
    · have ha0 : args.length ≠ 0 := by simpa using hes
      have e1 : toDat (.agg [.im (.int .i64 k), .asl 2 (args.map fun a => encT (cloneT a)) tok]) = some (.agg (encT (cloneT (.mk k s args)))) := by
        simp only [toDat, toDats, cloneT, encT, if_neg ha0, hm]
      have hlv := fun L' => leave_one (H := H) (M := L') e1
      simp only [cloneT, encT] at hlv ⊢
      simp only [exec0, xreg, xops, wantedA, aopc, aop, ev, putA, endK, resA, tupA, List.length_cons, List.length_nil, List.replicate, List.cons_append, List.nil_append, List.append_nil, List.append_assoc, gs_same, gs_ne, gq_same, gq_ne, List.length_set, List.map_cons, List.map_nil, cellsOf, List.all_cons, List.all_nil, cellOk, boxTy, Bool.and_true, Bool.and_self, if_true, ite_true, ite_false, loadAt, storeAt, setAt, hget, hget0, hset, hset0, List.getElem?_cons_zero, List.getElem?_cons_succ, List.set_cons_zero, List.set_cons_succ, Nat.add_zero, Nat.zero_add, Nat.reduceAdd, Nat.reduceSub, Nat.reduceLeDiff, Nat.reduceLT, Nat.reduceEqDiff, Nat.le_refl, and_self, and_true, true_and, mkAgg, toIms, List.drop_zero, List.drop_succ_cons, List.take_succ_cons, List.take_zero, List.length_append, binA, isShift, binInt, binBool, unA, Bool.false_eq_true, if_false, partA, fillA, fillE, List.take_nil, Nat.zero_ne_one, Nat.one_ne_zero, not_false_eq_true, ne_eq, Nat.succ_ne_self, reduceCtorEq, Int.reduceEq, Int.reduceLT, Int.reduceLE, decide_true, decide_false, lenA, beq_self_eq_true, beq_true, beq_false, Bool.not_true, Bool.not_false, hl', g1, g2, hv, toDatss, toDats, toDat, hlv]
termination_by t => SizeOf.sizeOf t
decreasing_by
  have := List.sizeOf_lt_of_mem ha
  simp only [KT.mk.sizeOf_spec]
  omega

end Go.Abs.Seat
end
section
/- What the seat's functions come to: Make. -/
set_option linter.unusedVariables false
set_option linter.unusedSimpArgs false
namespace Go.Abs.Seat
open Go.Proofs

theorem kcnt_le : ∀ i, i < 8 → kcnt i ≤ 2 := by decide

mutual
theorem right_narrow : ∀ (t : KT) (d : Int), rightT t d = true → narrow t
  | .mk k s args, d, h => by
    simp only [rightT] at h
    split at h
    · rename_i i hi
      split at h
      · simp at h
      · split at h
        · rename_i hl
          have := kcnt_le i (kidx_lt hi).1
          simp only [narrow]
          exact ⟨by omega, right_narrows args (d - 1) (by simpa using h)⟩
        · simp at h
    · simp at h
theorem right_narrows : ∀ (l : List KT) (d : Int), rightNot l d = false → narrows l
  | [], d, h => by simp only [narrows]
  | a :: l, d, h => by
    simp only [rightNot, Bool.or_eq_false_iff, Bool.not_eq_false'] at h
    simp only [narrows]
    exact ⟨right_narrow a d h.1, right_narrows l d h.2⟩
end

/-- Make. -/
theorem s21 (k : Int) (s : Nat) (args : List KT) (hok : okT (.mk k s args)) (H : Heap) : L 21 [.im (.int .i64 k), .im (.sl s (encTs args))] H =
    some (.tup [.im (.agg (if rightT (.mk k s args) 6 = true then encT (cloneT (.mk k s args)) else [.int .i64 0, .sl 0 []])), .im (.int .i64 (checkT (.mk k s args)))], H) := by
  have h19 := fun H => s19 (.mk k s args) hok H
  have h53 := fun (h : rightT (.mk k s args) 6 = true) H => s53 (.mk k s args) hok (right_narrow _ 6 h) H
  simp only [encT] at h19 h53
  rw [leq F21]
  obtain ⟨hlen, ha⟩ := enter_at (f := f21) (args := [.im (.int .i64 k), .im (.sl s (encTs args))]) (Nat.le_of_ble_eq_true rfl)
  have h0 := ha 0 _ rfl
  have h1 := ha 1 _ rfl
  generalize enterA f21 [.im (.int .i64 k), .im (.sl s (encTs args))] = tm at *
  change tm.length = 19 at hlen
  unfold checkT at h19 ⊢
  rcases Bool.eq_false_or_eq_true (rightT (.mk k s args) 6) with hr | hr
  · have h53 := h53 hr
    simp only [hr, if_true] at h19 ⊢
    generalize hct : cloneT (.mk k s args) = ct at *
    obtain ⟨k2, s2, ts2⟩ := ct
    simp only [encT] at h53 ⊢
    have hlv := fun L' => leave_two (H := H) (M := L') (a := .im (.agg [.int .i64 k2, .sl s2 (encTs ts2)])) (b := .im (.int .i64 0)) rfl rfl
    simp only [f21, exec0, xreg, xops, wantedA, aopc, aop, ev, putA, endK, resA, tupA, List.length_cons, List.length_nil, List.replicate, List.cons_append, List.nil_append, List.append_nil, List.append_assoc, gs_same, gs_ne, gq_same, gq_ne, List.length_set, List.map_cons, List.map_nil, cellsOf, List.all_cons, List.all_nil, cellOk, boxTy, Bool.and_true, Bool.and_self, if_true, ite_true, ite_false, loadAt, storeAt, setAt, hget, hget0, hset, hset0, List.getElem?_cons_zero, List.getElem?_cons_succ, List.set_cons_zero, List.set_cons_succ, Nat.add_zero, Nat.zero_add, Nat.reduceAdd, Nat.reduceSub, Nat.reduceLeDiff, Nat.reduceLT, Nat.reduceEqDiff, Nat.le_refl, and_self, and_true, true_and, mkAgg, toIms, List.drop_zero, List.drop_succ_cons, List.take_succ_cons, List.take_zero, List.length_append, binA, isShift, binInt, binBool, unA, Bool.false_eq_true, if_false, partA, fillA, fillE, List.take_nil, Nat.zero_ne_one, Nat.one_ne_zero, not_false_eq_true, ne_eq, Nat.succ_ne_self, reduceCtorEq, Int.reduceEq, Int.reduceLT, Int.reduceLE, decide_true, decide_false, lenA, beq_self_eq_true, beq_true, beq_false, Bool.not_true, Bool.not_false, hlen, h0, h1, h19, h53, hlv]
  · simp only [hr, Bool.false_eq_true, if_false] at h19 ⊢
    have hlv := fun L' => leave_two (H := H) (M := L') (a := .agg [.im (.int .i64 0), .nils]) (b := .im (.int .i64 20)) rfl rfl
    simp only [f21, exec0, xreg, xops, wantedA, aopc, aop, ev, putA, endK, resA, tupA, List.length_cons, List.length_nil, List.replicate, List.cons_append, List.nil_append, List.append_nil, List.append_assoc, gs_same, gs_ne, gq_same, gq_ne, List.length_set, List.map_cons, List.map_nil, cellsOf, List.all_cons, List.all_nil, cellOk, boxTy, Bool.and_true, Bool.and_self, if_true, ite_true, ite_false, loadAt, storeAt, setAt, hget, hget0, hset, hset0, List.getElem?_cons_zero, List.getElem?_cons_succ, List.set_cons_zero, List.set_cons_succ, Nat.add_zero, Nat.zero_add, Nat.reduceAdd, Nat.reduceSub, Nat.reduceLeDiff, Nat.reduceLT, Nat.reduceEqDiff, Nat.le_refl, and_self, and_true, true_and, mkAgg, toIms, List.drop_zero, List.drop_succ_cons, List.take_succ_cons, List.take_zero, List.length_append, binA, isShift, binInt, binBool, unA, Bool.false_eq_true, if_false, partA, fillA, fillE, List.take_nil, Nat.zero_ne_one, Nat.one_ne_zero, not_false_eq_true, ne_eq, Nat.succ_ne_self, reduceCtorEq, Int.reduceEq, Int.reduceLT, Int.reduceLE, decide_true, decide_false, lenA, beq_self_eq_true, beq_true, beq_false, Bool.not_true, Bool.not_false, hlen, h0, h1, h19, hlv]

end Go.Abs.Seat
end
section
/- What the seat's functions come to: WriteString, WriteByte. -/
set_option linter.unusedVariables false
set_option linter.unusedSimpArgs false
namespace Go.Abs.Seat
open Go.Proofs
variable {n : Nat}

theorem L101 (args : List AV) (H : Heap) : L 101 args H = ccA 94 args H := by
  have h : F 101 = none := by kernel_rfl
  exact lim_none h args H

theorem L49 (args : List AV) (H : Heap) : L 49 args H = stA 94 5 args H := by
  have h : F 49 = none := by kernel_rfl
  exact lim_none h args H

theorem s73 {H : Heap} {id : Nat} {txt : List UInt8} (h : Hold 94 5 n H id txt) (s : List UInt8) (hb : txt.length + s.length ≤ 2 ^ 46) :
    ∃ H', L 73 [.ptr id 0 0, .im (.str s)] H = some (.tup [.im (.int .i64 s.length), .im .nili], H') ∧ Hold 94 5 n H' id (txt ++ s) ∧ Keeps n id H H' := by
  obtain ⟨v, H1, hcc, hid, hG, hK, hn1⟩ := cc_hold h
  obtain ⟨v', H2, hap, hG2, hcs, hok, hl2, hk2⟩ := gath_bytes hn1 hG s hb
  have hid2 := (hk2 _ _ _).1 hid
  have hH3 : Hold 94 5 n (H2.set id (.obj (some (94, 2)) [[.ptr id 0 0, v']])) id (txt ++ s) :=
    ⟨_, v', by rw [List.getElem?_set_self (List.getElem?_eq_some_iff.1 hid2).1], .inr rfl, hG2.set_obj hid2 _, by simp; omega⟩
  have hK3 : Keeps n id H (H2.set id (.obj (some (94, 2)) [[.ptr id 0 0, v']])) :=
    (hK.trans ⟨hl2, fun i ty es _ hi => (hk2 i ty es).1 hi, fun i hi _ _ => (hk2 i none []).2 hi⟩).set _
  obtain ⟨H', hlv, hH', hK'⟩ := leave_hold (r := .tup [.im (.int .i64 s.length), .im .nili]) (r' := .tup [.im (.int .i64 s.length), .im .nili]) rfl h hH3 hK3
  refine ⟨H', ?_, hH', hK'⟩
  rw [leq F73]
  obtain ⟨hlen, ha⟩ := enter_at (f := f73) (args := [.ptr id 0 0, .im (.str s)]) (Nat.le_of_ble_eq_true rfl)
  have h0 := ha 0 _ rfl
  have h1 := ha 1 _ rfl
  generalize enterA f73 [.ptr id 0 0, .im (.str s)] = tm at *
  change tm.length = 19 at hlen
  have hel : elems H1 1 (.im (.str s)) = some (s.map fun b => [byteDat b]) := by simp [elems]
  simp only [exec0, xreg, xops, wantedA, aopc, aop, ev, putA, gs_same, gs_ne, List.length_set, hlen, Nat.reduceLT, Nat.reduceEqDiff, not_false_eq_true, if_true, h0, h1, List.map_cons, List.map_nil, List.append_nil, f73, L101, hcc, loadAt, hid, List.getElem?_cons_zero, List.getElem?_cons_succ, Nat.zero_add, Nat.reduceAdd, hel, hap, storeAt, hid2, hcs, List.length_cons, List.length_nil, Nat.reduceLeDiff, Nat.le_refl, List.all_cons, List.all_nil, hok, Bool.and_true, and_self, setAt, List.set_cons_zero, List.set_cons_succ, endK, resA, tupA, hlv]

theorem s74 {H : Heap} {id : Nat} {txt : List UInt8} (h : Hold 94 5 n H id txt) (b : UInt8) (hb : txt.length + 1 ≤ 2 ^ 46) :
    ∃ H', L 74 [.ptr id 0 0, .im (byteDat b)] H = some (.im .nili, H') ∧ Hold 94 5 n H' id (txt ++ [b]) ∧ Keeps n id H H' := by
  obtain ⟨v, H1, hcc, hid, hG, hK, hn1⟩ := cc_hold h
  obtain ⟨v', H2, hap, hG2, hcs, hok, hl2, hk2⟩ := gath_bytes hn1 hG [b] hb
  have hid2 := (hk2 _ _ _).1 hid
  have hH3 : Hold 94 5 n (H2.set id (.obj (some (94, 2)) [[.ptr id 0 0, v']])) id (txt ++ [b]) :=
    ⟨_, v', by rw [List.getElem?_set_self (List.getElem?_eq_some_iff.1 hid2).1], .inr rfl, hG2.set_obj hid2 _, by simp; omega⟩
  have hK3 : Keeps n id H (H2.set id (.obj (some (94, 2)) [[.ptr id 0 0, v']])) :=
    (hK.trans ⟨hl2, fun i ty es _ hi => (hk2 i ty es).1 hi, fun i hi _ _ => (hk2 i none []).2 hi⟩).set _
  obtain ⟨H', hlv, hH', hK'⟩ := leave_hold (r := .im .nili) (r' := .im .nili) rfl h hH3 hK3
  refine ⟨H', ?_, hH', hK'⟩
  rw [leq F74]
  obtain ⟨hlen, ha⟩ := enter_at (f := f74) (args := [.ptr id 0 0, .im (byteDat b)]) (Nat.le_of_ble_eq_true rfl)
  have h0 := ha 0 _ rfl
  have h1 := ha 1 _ rfl
  generalize enterA f74 [.ptr id 0 0, .im (byteDat b)] = tm at *
  change tm.length = 17 at hlen
  simp only [List.map_cons, List.map_nil, byteDat] at hap
  have hck : ∀ (k : IntKind) (n : Int), cellOk (.im (.int k n)) = true := fun _ _ => rfl
  have hci : ∀ (k : IntKind) (n : Int), cellsOf (.im (.int k n)) = [.im (.int k n)] := fun _ _ => rfl
  simp only [exec0, xreg, xops, wantedA, aopc, aop, ev, putA, gs_same, gs_ne, List.length_set, hlen, Nat.reduceLT, Nat.reduceEqDiff, not_false_eq_true, if_true, h0, h1, List.map_cons, List.map_nil, List.append_nil, f74, L101, hcc, loadAt, hid, List.getElem?_cons_zero, List.getElem?_cons_succ, Nat.zero_add, Nat.reduceAdd, elems, byteDat, hcs, hci, List.replicate, fillE, toDatss, toDats, toDat, hck, Bool.false_eq_true, if_false, hap, storeAt, hid2, List.length_cons, List.length_nil, Nat.reduceLeDiff, Nat.le_refl, List.all_cons, List.all_nil, hok, Bool.and_true, and_self, setAt, List.set_cons_zero, List.set_cons_succ, endK, resA, tupA, hlv]

end Go.Abs.Seat
end
section
/- What the seat's functions come to: show. -/
set_option linter.unusedVariables false
set_option linter.unusedSimpArgs false
namespace Go.Abs.Seat
open Go.Proofs
variable {n : Nat}

/-- The words of a kind, one behind the other. -/
def gath (k : Int) : List Word → List UInt8
  | [] => []
  | w :: l => (if w.1 = k then w.2.1 else []) ++ gath k l

theorem gath_len (k : Int) : ∀ l : List Word, (∀ w ∈ l, w.2.1.length ≤ 8) → (gath k l).length ≤ 8 * l.length
  | [], _ => by simp [gath]
  | w :: l, h => by
    have h1 := gath_len k l fun x hx => h x (by simp [hx])
    have h2 := h w (by simp)
    simp only [gath, List.length_append, List.length_cons]
    split <;> simp <;> omega

theorem word_len : ∀ w ∈ words, w.2.1.length ≤ 8 := by decide

theorem l48w (k : Int) (x : AV) (id idt idw : Nat) (hne : idt ≠ id) (hnw : idw ≠ id) (rows : List Word) (hr : ∀ w ∈ rows, w.2.1.length ≤ 8) (hrn : rows.length ≤ 1000) :
    ∀ (m i : Nat), i + m = rows.length → ∀ (tm : List AV) (Hc : Heap) (txt : List UInt8), txt.length + 8 * m ≤ 2 ^ 46 → Hold 94 5 n Hc id txt → Hc[idt]? = some (.obj none [[.im (.int .i64 k), x]]) → Hc[idw]? = some (.obj none (rows.map encW)) →
    tm.length = 46 → tm.getD 0 undefA = .ptr id 0 0 → tm.getD 3 undefA = .ptr idt 0 0 → tm.getD 8 undefA = .ms 3 idw 0 rows.length → tm.getD 9 undefA = .im (.int .i64 rows.length) → tm.getD 10 undefA = .im (.int .i64 i) →
    ∃ e tm' H', Λ c48_1 tm Hc = some (e, tm', H') ∧ tm'.length = 46 ∧ e = .exit 0 ∧ tm'.getD 0 undefA = .ptr id 0 0 ∧ tm'.getD 3 undefA = .ptr idt 0 0 ∧ Hold 94 5 n H' id (txt ++ gath k (rows.drop i)) ∧ Keeps n id Hc H'
  | 0, i, hi, tm, Hc, txt, hb, hH, ht, hw, hlen, h0, h3, h8, h9, h10 => by
    have e : rows.drop i = [] := by rw [List.drop_eq_nil_iff]; omega
    have hc : decide ((i : Int) < (rows.length : Int)) = false := decide_eq_false (by omega)
    rw [l48_1, e]
    simp only [b48_1, exec0, xreg, xops, wantedA, aopc, aop, ev, putA, endK, resA, tupA, List.length_cons, List.length_nil, List.replicate, List.cons_append, List.nil_append, List.append_nil, List.append_assoc, gs_same, gs_ne, gq_same, gq_ne, List.length_set, List.map_cons, List.map_nil, cellsOf, List.all_cons, List.all_nil, cellOk, boxTy, Bool.and_true, Bool.and_self, if_true, ite_true, ite_false, loadAt, storeAt, setAt, hget, hget0, hset, hset0, List.getElem?_cons_zero, List.getElem?_cons_succ, List.set_cons_zero, List.set_cons_succ, Nat.add_zero, Nat.zero_add, Nat.reduceAdd, Nat.reduceSub, Nat.reduceLeDiff, Nat.reduceLT, Nat.reduceEqDiff, Nat.le_refl, and_self, and_true, true_and, mkAgg, toIms, List.drop_zero, List.drop_succ_cons, List.take_succ_cons, List.take_zero, List.length_append, binA, isShift, binInt, binBool, unA, Bool.false_eq_true, if_false, partA, fillA, fillE, List.take_nil, Nat.zero_ne_one, Nat.one_ne_zero, not_false_eq_true, ne_eq, Nat.succ_ne_self, reduceCtorEq, Int.reduceEq, Int.reduceLT, Int.reduceLE, decide_true, decide_false, lenA, beq_self_eq_true, beq_true, beq_false, Bool.not_true, Bool.not_false, hlen, h0, h3, h8, h9, h10, hc]
    exact ⟨_, _, _, rfl, by simp only [List.length_set, hlen], rfl, by simp only [gs_same, gs_ne, List.length_set, Nat.reduceLT, Nat.reduceEqDiff, not_false_eq_true, hlen, h0], by simp only [gs_same, gs_ne, List.length_set, Nat.reduceLT, Nat.reduceEqDiff, not_false_eq_true, hlen, h3], by simpa only [gath, List.append_nil] using hH, Keeps.refl _ _ _⟩
  | m + 1, i, hi, tm, Hc, txt, hb, hH, ht, hw, hlen, h0, h3, h8, h9, h10 => by
    have hlt : i < rows.length := by omega
    obtain ⟨w, hwi⟩ : ∃ w, rows[i]? = some w := ⟨_, List.getElem?_eq_getElem hlt⟩
    have e : rows.drop i = w :: rows.drop (i + 1) := by
      rw [List.drop_eq_getElem_cons hlt]
      congr 1
      rw [List.getElem?_eq_getElem hlt] at hwi
      exact Option.some.inj hwi
    have hc : decide ((i : Int) < (rows.length : Int)) = true := decide_eq_true (by omega)
    have hix := idx_nat hlt
    have hgw : (rows.map encW)[i]? = some (encW w) := by rw [List.getElem?_map, hwi]; rfl
    have hwl := hr w (List.mem_of_getElem? hwi)
    have hwr := wrap_nat (i := i) (by omega)
    have hta : ∀ M : Heap, (Hc ++ M)[idt]? = some (.obj none [[.im (.int .i64 k), x]]) := fun M => by rw [get_app (List.getElem?_eq_some_iff.1 ht).1]; exact ht
    have key := l48w k x id idt idw hne hnw rows hr hrn m (i + 1) (by omega)
    have hH1 := hH.more [.obj none [encW w]]
    simp only [encW] at hH1 hgw
    rw [l48_1, e]
    by_cases hk : w.1 = k
    · have hd : decide (w.1 = k) = true := decide_eq_true hk
      obtain ⟨H2, hcall, hH2, hK2⟩ := s73 hH1 w.2.1 (by omega)
      have hK := hK2.down
      simp only [b48_1, exec0, xreg, xops, wantedA, aopc, aop, ev, putA, endK, resA, tupA, List.length_cons, List.length_nil, List.replicate, List.cons_append, List.nil_append, List.append_nil, List.append_assoc, gs_same, gs_ne, gq_same, gq_ne, List.length_set, List.map_cons, List.map_nil, cellsOf, List.all_cons, List.all_nil, cellOk, boxTy, Bool.and_true, Bool.and_self, if_true, ite_true, ite_false, loadAt, storeAt, setAt, hget, hget0, hset, hset0, List.getElem?_cons_zero, List.getElem?_cons_succ, List.set_cons_zero, List.set_cons_succ, Nat.add_zero, Nat.zero_add, Nat.reduceAdd, Nat.reduceSub, Nat.reduceLeDiff, Nat.reduceLT, Nat.reduceEqDiff, Nat.le_refl, and_self, and_true, true_and, mkAgg, toIms, List.drop_zero, List.drop_succ_cons, List.take_succ_cons, List.take_zero, List.length_append, binA, isShift, binInt, binBool, unA, Bool.false_eq_true, if_false, partA, fillA, fillE, List.take_nil, Nat.zero_ne_one, Nat.one_ne_zero, not_false_eq_true, ne_eq, Nat.succ_ne_self, reduceCtorEq, Int.reduceEq, Int.reduceLT, Int.reduceLE, decide_true, decide_false, lenA, beq_self_eq_true, beq_true, beq_false, Bool.not_true, Bool.not_false, hlen, h0, h3, h8, h9, h10, hc, hix, hw, hgw, hta, hd, hcall, hwr]
      refine ex_imp (key _ H2 (txt ++ w.2.1) (by simp; omega) hH2 (hK.2.1 _ _ _ hne ht) (hK.2.1 _ _ _ hnw hw) ?_ ?_ ?_ ?_ ?_ ?_) ?_
      iterate 6 simp only [gs_same, gs_ne, List.length_set, Nat.reduceLT, Nat.reduceEqDiff, not_false_eq_true, hlen, h0, h3, h8, h9]
      rintro e tm' H' ⟨hl', he, g0, g3, gH, gK⟩
      refine ⟨hl', he, g0, g3, ?_, hK.trans gK⟩
      simp only [gath, hk, if_true]
      rwa [List.append_assoc] at gH
    · have hd : decide (w.1 = k) = false := decide_eq_false hk
      have hK := (Keeps.refl n id Hc).app [.obj none [[.im (.int .i64 w.1), .im (.str w.2.1), .im (.int .i64 w.2.2)]]]
      simp only [b48_1, exec0, xreg, xops, wantedA, aopc, aop, ev, putA, endK, resA, tupA, List.length_cons, List.length_nil, List.replicate, List.cons_append, List.nil_append, List.append_nil, List.append_assoc, gs_same, gs_ne, gq_same, gq_ne, List.length_set, List.map_cons, List.map_nil, cellsOf, List.all_cons, List.all_nil, cellOk, boxTy, Bool.and_true, Bool.and_self, if_true, ite_true, ite_false, loadAt, storeAt, setAt, hget, hget0, hset, hset0, List.getElem?_cons_zero, List.getElem?_cons_succ, List.set_cons_zero, List.set_cons_succ, Nat.add_zero, Nat.zero_add, Nat.reduceAdd, Nat.reduceSub, Nat.reduceLeDiff, Nat.reduceLT, Nat.reduceEqDiff, Nat.le_refl, and_self, and_true, true_and, mkAgg, toIms, List.drop_zero, List.drop_succ_cons, List.take_succ_cons, List.take_zero, List.length_append, binA, isShift, binInt, binBool, unA, Bool.false_eq_true, if_false, partA, fillA, fillE, List.take_nil, Nat.zero_ne_one, Nat.one_ne_zero, not_false_eq_true, ne_eq, Nat.succ_ne_self, reduceCtorEq, Int.reduceEq, Int.reduceLT, Int.reduceLE, decide_true, decide_false, lenA, beq_self_eq_true, beq_true, beq_false, Bool.not_true, Bool.not_false, hlen, h0, h3, h8, h9, h10, hc, hix, hw, hgw, hta, hd, hwr]
      refine ex_imp (key _ _ txt (by omega) hH1 (hK.2.1 _ _ _ hne ht) (hK.2.1 _ _ _ hnw hw) ?_ ?_ ?_ ?_ ?_ ?_) ?_
      iterate 6 simp only [gs_same, gs_ne, List.length_set, Nat.reduceLT, Nat.reduceEqDiff, not_false_eq_true, hlen, h0, h3, h8, h9]
      rintro e tm' H' ⟨hl', he, g0, g3, gH, gK⟩
      refine ⟨hl', he, g0, g3, ?_, hK.trans gK⟩
      simp only [gath, hk, if_false, List.nil_append]
      exact gH

mutual
def showT : KT → List UInt8
  | .mk k _ args => gath k words ++ (showTs args 40 ++ if args.length = 0 then [] else [41])
def showTs : List KT → UInt8 → List UInt8
  | [], _ => []
  | a :: l, c => c :: (showT a ++ showTs l 44)
end

def sepB (i : Nat) : UInt8 := if i = 0 then 40 else 44

theorem l48a (args : List KT) (s : Nat) (hs : args = [] ∨ s = 2) (hn : args.length ≤ 2) (id : Nat)
    (hc : ∀ a ∈ args, ∀ (H : Heap) (txt : List UInt8), txt.length + (showT a).length + 100 ≤ 2 ^ 46 → Hold 94 5 n H id txt → ∃ H', L 48 [.ptr id 0 0, .im (.agg (encT a))] H = some (.tup [], H') ∧ Hold 94 5 n H' id (txt ++ showT a) ∧ Keeps n id H H') :
    ∀ (m i : Nat), i + m = args.length → ∀ (tm : List AV) (Hc : Heap) (txt : List UInt8), txt.length + (showTs (args.drop i) (sepB i)).length + 100 ≤ 2 ^ 46 → Hold 94 5 n Hc id txt →
    tm.length = 46 → tm.getD 0 undefA = .ptr id 0 0 → tm.getD 25 undefA = .im (.sl s (args.map encT)) → tm.getD 26 undefA = .im (.int .i64 args.length) → tm.getD 27 undefA = .im (.int .i64 i) →
    ∃ e tm' H', Λ c48_0 tm Hc = some (e, tm', H') ∧ tm'.length = 46 ∧ e = .exit 2 ∧ tm'.getD 0 undefA = .ptr id 0 0 ∧ tm'.getD 3 undefA = tm.getD 3 undefA ∧ Hold 94 5 n H' id (txt ++ showTs (args.drop i) (sepB i)) ∧ Keeps n id Hc H'
  | 0, i, hi, tm, Hc, txt, hb, hH, hlen, h0, h25, h26, h27 => by
    have e : args.drop i = [] := by rw [List.drop_eq_nil_iff]; omega
    have hc : decide ((i : Int) < (args.length : Int)) = false := decide_eq_false (by omega)
    rw [l48_0, e]
    simp only [b48_0, exec0, xreg, xops, wantedA, aopc, aop, ev, putA, endK, resA, tupA, List.length_cons, List.length_nil, List.replicate, List.cons_append, List.nil_append, List.append_nil, List.append_assoc, gs_same, gs_ne, gq_same, gq_ne, List.length_set, List.map_cons, List.map_nil, cellsOf, List.all_cons, List.all_nil, cellOk, boxTy, Bool.and_true, Bool.and_self, if_true, ite_true, ite_false, loadAt, storeAt, setAt, hget, hget0, hset, hset0, List.getElem?_cons_zero, List.getElem?_cons_succ, List.set_cons_zero, List.set_cons_succ, Nat.add_zero, Nat.zero_add, Nat.reduceAdd, Nat.reduceSub, Nat.reduceLeDiff, Nat.reduceLT, Nat.reduceEqDiff, Nat.le_refl, and_self, and_true, true_and, mkAgg, toIms, List.drop_zero, List.drop_succ_cons, List.take_succ_cons, List.take_zero, List.length_append, binA, isShift, binInt, binBool, unA, Bool.false_eq_true, if_false, partA, fillA, fillE, List.take_nil, Nat.zero_ne_one, Nat.one_ne_zero, not_false_eq_true, ne_eq, Nat.succ_ne_self, reduceCtorEq, Int.reduceEq, Int.reduceLT, Int.reduceLE, decide_true, decide_false, lenA, beq_self_eq_true, beq_true, beq_false, Bool.not_true, Bool.not_false, hlen, h0, h25, h26, h27, hc]
    exact ⟨_, _, _, rfl, by simp only [List.length_set, hlen], rfl, by simp only [gs_same, gs_ne, List.length_set, Nat.reduceLT, Nat.reduceEqDiff, not_false_eq_true, hlen, h0], by simp only [gs_same, gs_ne, List.length_set, Nat.reduceLT, Nat.reduceEqDiff, not_false_eq_true, hlen], by simpa only [showTs, List.append_nil] using hH, Keeps.refl _ _ _⟩
  | m + 1, i, hi, tm, Hc, txt, hb, hH, hlen, h0, h25, h26, h27 => by
    have hlt : i < args.length := by omega
    obtain ⟨w, hwi⟩ : ∃ w, args[i]? = some w := ⟨_, List.getElem?_eq_getElem hlt⟩
    have e : args.drop i = w :: args.drop (i + 1) := by
      rw [List.drop_eq_getElem_cons hlt]
      congr 1
      rw [List.getElem?_eq_getElem hlt] at hwi
      exact Option.some.inj hwi
    have hs2 : s = 2 := by
      rcases hs with hs | hs
      · subst hs; simp at hlt
      · exact hs
    subst hs2
    have hc' : decide ((i : Int) < (args.length : Int)) = true := decide_eq_true (by omega)
    have hix := idx_nat (n := (args.map encT).length) (i := i) (by simpa using hlt)
    have hix2 := idx_nat (n := 2) (i := i) (by omega)
    have hgw : (args.map encT)[i]? = some (encT w) := by rw [List.getElem?_map, hwi]; rfl
    have hwr := wrap_nat (i := i) (by omega)
    have key := l48a args 2 hs hn id hc m (i + 1) (by omega)
    rw [e] at hb
    simp only [showTs, List.length_cons, List.length_append] at hb
    have hsb : sepB (i + 1) = 44 := by simp [sepB]
    have hsep : ([40, 44] : List UInt8)[i]? = some (sepB i) := by
      have : i = 0 ∨ i = 1 := by omega
      rcases this with rfl | rfl <;> rfl
    have hH1 := hH.more [.obj none [(encT w).map .im]]
    obtain ⟨H2, hcall2, hH2, hK2⟩ := s74 hH1 (sepB i) (by omega)
    obtain ⟨H3, hcall3, hH3, hK3⟩ := hc w (List.mem_of_getElem? hwi) H2 (txt ++ [sepB i]) (by simp; omega) hH2
    have hloc := hK2.2.1 Hc.length none [(encT w).map .im]
    have hidlt : id < Hc.length := by obtain ⟨_, _, h, _⟩ := hH; exact (List.getElem?_eq_some_iff.1 h).1
    have hloc := hloc (by omega) (by rw [Go.Abs.hget0]; rfl)
    have hK := hK2.down.trans hK3
    rw [l48_0, e]
    generalize hsw : showT w = sw at *
    generalize hsbi : sepB i = c at *
    obtain ⟨k, s', ts⟩ := w
    simp only [encT, List.map_cons, List.map_nil, byteDat] at hcall2 hcall3 hgw hloc
    have hnn : (0 : Int) ≤ (i : Int) := Int.natCast_nonneg i
    simp only [b48_0, exec0, xreg, xops, wantedA, aopc, aop, ev, putA, endK, resA, tupA, List.length_cons, List.length_nil, List.replicate, List.cons_append, List.nil_append, List.append_nil, List.append_assoc, gs_same, gs_ne, gq_same, gq_ne, List.length_set, List.map_cons, List.map_nil, cellsOf, List.all_cons, List.all_nil, cellOk, boxTy, Bool.and_true, Bool.and_self, if_true, ite_true, ite_false, loadAt, storeAt, setAt, hget, hget0, hset, hset0, List.getElem?_cons_zero, List.getElem?_cons_succ, List.set_cons_zero, List.set_cons_succ, Nat.add_zero, Nat.zero_add, Nat.reduceAdd, Nat.reduceSub, Nat.reduceLeDiff, Nat.reduceLT, Nat.reduceEqDiff, Nat.le_refl, and_self, and_true, true_and, mkAgg, toIms, List.drop_zero, List.drop_succ_cons, List.take_succ_cons, List.take_zero, List.length_append, binA, isShift, binInt, binBool, unA, Bool.false_eq_true, if_false, partA, fillA, fillE, List.take_nil, Nat.zero_ne_one, Nat.one_ne_zero, not_false_eq_true, ne_eq, Nat.succ_ne_self, reduceCtorEq, Int.reduceEq, Int.reduceLT, Int.reduceLE, decide_true, decide_false, lenA, beq_self_eq_true, beq_true, beq_false, Bool.not_true, Bool.not_false, intOfA, hnn, Int.toNat_natCast, hlen, h0, h25, h26, h27, hc', hix, hix2, hgw, hwr, hsep, hcall2, hloc, hcall3, byteDat]
    refine ex_imp (key _ H3 (txt ++ [c] ++ sw) (by rw [hsb]; simp; omega) hH3 ?_ ?_ ?_ ?_ ?_) ?_
    iterate 5 simp only [gs_same, gs_ne, List.length_set, Nat.reduceLT, Nat.reduceEqDiff, not_false_eq_true, hlen, h0, h25, h26]
    rintro e tm' H' ⟨hl', he, g0, g3, gH, gK⟩
    refine ⟨hl', he, g0, ?_, ?_, hK.trans gK⟩
    · rw [g3]; simp only [gs_same, gs_ne, List.length_set, Nat.reduceLT, Nat.reduceEqDiff, not_false_eq_true, hlen]
    · rw [hsb] at gH
      simp only [showTs, hsw]
      simpa only [List.append_assoc, List.cons_append, List.nil_append] using gH

theorem s48 : ∀ (t : KT), okT t → narrow t → ∀ (id : Nat) (H : Heap) (txt : List UInt8), txt.length + (showT t).length + 100 ≤ 2 ^ 46 → Hold 94 5 n H id txt →
    ∃ H', L 48 [.ptr id 0 0, .im (.agg (encT t))] H = some (.tup [], H') ∧ Hold 94 5 n H' id (txt ++ showT t) ∧ Keeps n id H H'
  | .mk k s args, hok, hnw, id, H, txt, hb, hH => by
    simp only [okT] at hok
    obtain ⟨hs, _, hoks⟩ := hok
    simp only [narrow] at hnw
    obtain ⟨hn, hnws⟩ := hnw
    have hc : ∀ a ∈ args, ∀ (H : Heap) (txt : List UInt8), txt.length + (showT a).length + 100 ≤ 2 ^ 46 → Hold 94 5 n H id txt → ∃ H', L 48 [.ptr id 0 0, .im (.agg (encT a))] H = some (.tup [], H') ∧ Hold 94 5 n H' id (txt ++ showT a) ∧ Keeps n id H H' :=
      fun a ha H txt hb hH => s48 a (okTs_mem hoks a ha) (narrows_mem hnws a ha) id H txt hb hH
    have hidlt : id < H.length := by obtain ⟨_, _, h, _⟩ := hH; exact (List.getElem?_eq_some_iff.1 h).1
    simp only [showT, List.length_append] at hb
    have hgl := gath_len k words word_len
    have hw8 : words.length = 8 := rfl
    -- the words
    have hH1 := hH.more [.obj none [[.im (.int .i64 k), .im (.sl s (encTs args))]], .obj none (words.map encW)]
    have keyw := l48w (n := n) k (.im (.sl s (encTs args))) id H.length (H.length + 1) (by omega) (by omega) words word_len (by decide) 8 0 (by decide)
    have z : ((0 : Nat) : Int) = 0 := rfl
    have z8 : ((8 : Nat) : Int) = 8 := rfl
    simp only [z, hw8, List.drop_zero, z8] at keyw
    have hel : (encTs args).length = args.length := by rw [encTs_map]; simp
    have keya := l48a args s hs hn id hc args.length 0 (by omega)
    simp only [z, List.drop_zero] at keya
    have hsep0 : sepB 0 = 40 := rfl
    rw [hsep0] at keya
    simp only [encT]
    -- the end
    have fin : ∀ (H2 : Heap), Hold 94 5 n H2 id (txt ++ showT (.mk k s args)) → Keeps n id H H2 → ∃ H', leave H false (.tup []) H2 = (.tup [], H') ∧ Hold 94 5 n H' id (txt ++ showT (.mk k s args)) ∧ Keeps n id H H' :=
      fun H2 h1 h2 => leave_hold rfl hH h1 h2
    suffices hsuf : ∃ H2, Hold 94 5 n H2 id (txt ++ showT (.mk k s args)) ∧ Keeps n id H H2 ∧ L 48 [.ptr id 0 0, .im (.agg [.int .i64 k, .sl s (encTs args)])] H = some (leave H false (.tup []) H2) by
      obtain ⟨H2, h1, h2, h3⟩ := hsuf
      obtain ⟨H', e1, e2, e3⟩ := fin H2 h1 h2
      exact ⟨H', by rw [h3, e1], e2, e3⟩
    rw [leq F48]
    obtain ⟨hlen, ha⟩ := enter_at (f := f48) (args := [.ptr id 0 0, .im (.agg [.int .i64 k, .sl s (encTs args)])]) (Nat.le_of_ble_eq_true rfl)
    have h0 := ha 0 _ rfl
    have h1 := ha 1 _ rfl
    generalize enterA f48 [.ptr id 0 0, .im (.agg [.int .i64 k, .sl s (encTs args)])] = tm at *
    change tm.length = 46 at hlen
    simp only [f48, e48_0, e48_1, exec0, xreg, xops, wantedA, aopc, aop, ev, putA, endK, resA, tupA, List.length_cons, List.length_nil, List.replicate, List.cons_append, List.nil_append, List.append_nil, List.append_assoc, gs_same, gs_ne, gq_same, gq_ne, List.length_set, List.map_cons, List.map_nil, cellsOf, List.all_cons, List.all_nil, cellOk, boxTy, Bool.and_true, Bool.and_self, if_true, ite_true, ite_false, loadAt, storeAt, setAt, hget, hget0, hset, hset0, List.getElem?_cons_zero, List.getElem?_cons_succ, List.set_cons_zero, List.set_cons_succ, Nat.add_zero, Nat.zero_add, Nat.reduceAdd, Nat.reduceSub, Nat.reduceLeDiff, Nat.reduceLT, Nat.reduceEqDiff, Nat.le_refl, and_self, and_true, true_and, mkAgg, toIms, List.drop_zero, List.drop_succ_cons, List.take_succ_cons, List.take_zero, List.length_append, binA, isShift, binInt, binBool, unA, Bool.false_eq_true, if_false, partA, fillA, fillE, List.take_nil, Nat.zero_ne_one, Nat.one_ne_zero, not_false_eq_true, ne_eq, Nat.succ_ne_self, reduceCtorEq, Int.reduceEq, Int.reduceLT, Int.reduceLE, decide_true, decide_false, lenA, beq_self_eq_true, beq_true, beq_false, Bool.not_true, Bool.not_false, hlen, h0, h1, s72]
    refine thenL_ex (fun r => ∃ H2, Hold 94 5 n H2 id (txt ++ showT (.mk k s args)) ∧ Keeps n id H H2 ∧ r = some (leave H false (.tup []) H2)) (keyw _ _ txt (by omega) hH1 (by rw [Go.Abs.hget0]; rfl) (by rw [Go.Abs.hget]; rfl) ?_ ?_ ?_ ?_ ?_ ?_) ?_
    iterate 6 simp only [gs_same, gs_ne, List.length_set, Nat.reduceLT, Nat.reduceEqDiff, not_false_eq_true, hlen, h0, z8]
    rintro e tm1 H1 ⟨hl1, rfl, a0, a3, aH, aK⟩
    have hob1 : H1[H.length]? = some (.obj none [[.im (.int .i64 k), .im (.sl s (encTs args))]]) := aK.2.1 _ _ _ (by omega) (by rw [Go.Abs.hget0]; rfl)
    simp only [exec0, xreg, xops, wantedA, aopc, aop, ev, putA, endK, resA, tupA, List.length_cons, List.length_nil, List.replicate, List.cons_append, List.nil_append, List.append_nil, List.append_assoc, gs_same, gs_ne, gq_same, gq_ne, List.length_set, List.map_cons, List.map_nil, cellsOf, List.all_cons, List.all_nil, cellOk, boxTy, Bool.and_true, Bool.and_self, if_true, ite_true, ite_false, loadAt, storeAt, setAt, hget, hget0, hset, hset0, List.getElem?_cons_zero, List.getElem?_cons_succ, List.set_cons_zero, List.set_cons_succ, Nat.add_zero, Nat.zero_add, Nat.reduceAdd, Nat.reduceSub, Nat.reduceLeDiff, Nat.reduceLT, Nat.reduceEqDiff, Nat.le_refl, and_self, and_true, true_and, mkAgg, toIms, List.drop_zero, List.drop_succ_cons, List.take_succ_cons, List.take_zero, List.length_append, binA, isShift, binInt, binBool, unA, Bool.false_eq_true, if_false, partA, fillA, fillE, List.take_nil, Nat.zero_ne_one, Nat.one_ne_zero, not_false_eq_true, ne_eq, Nat.succ_ne_self, reduceCtorEq, Int.reduceEq, Int.reduceLT, Int.reduceLE, decide_true, decide_false, lenA, beq_self_eq_true, beq_true, beq_false, Bool.not_true, Bool.not_false, hl1, a0, a3, hob1, hel]
    refine thenL_ex (fun r => ∃ H2, Hold 94 5 n H2 id (txt ++ showT (.mk k s args)) ∧ Keeps n id H H2 ∧ r = some (leave H false (.tup []) H2)) (keya _ _ (txt ++ gath k words) (by simp; omega) aH ?_ ?_ ?_ ?_ ?_) ?_
    iterate 5 simp only [gs_same, gs_ne, List.length_set, Nat.reduceLT, Nat.reduceEqDiff, not_false_eq_true, hl1, a0, encTs_map]
    rintro e tm2 H2 ⟨hl2, rfl, b0, b3, bH, bK⟩
    have hob2 : H2[H.length]? = some (.obj none [[.im (.int .i64 k), .im (.sl s (encTs args))]]) := bK.2.1 _ _ _ (by omega) hob1
    have b3' : tm2.getD 3 undefA = .ptr H.length 0 0 := by rw [b3]; simp only [gs_same, gs_ne, List.length_set, Nat.reduceLT, Nat.reduceEqDiff, not_false_eq_true, hl1, a3]
    have hK2 : Keeps n id H H2 := aK.down.trans bK
    by_cases h0 : args.length = 0
    · have hd : decide ((0 : Int) < (args.length : Int)) = false := decide_eq_false (by omega)
      simp only [exec0, xreg, xops, wantedA, aopc, aop, ev, putA, endK, resA, tupA, List.length_cons, List.length_nil, List.replicate, List.cons_append, List.nil_append, List.append_nil, List.append_assoc, gs_same, gs_ne, gq_same, gq_ne, List.length_set, List.map_cons, List.map_nil, cellsOf, List.all_cons, List.all_nil, cellOk, boxTy, Bool.and_true, Bool.and_self, if_true, ite_true, ite_false, loadAt, storeAt, setAt, hget, hget0, hset, hset0, List.getElem?_cons_zero, List.getElem?_cons_succ, List.set_cons_zero, List.set_cons_succ, Nat.add_zero, Nat.zero_add, Nat.reduceAdd, Nat.reduceSub, Nat.reduceLeDiff, Nat.reduceLT, Nat.reduceEqDiff, Nat.le_refl, and_self, and_true, true_and, mkAgg, toIms, List.drop_zero, List.drop_succ_cons, List.take_succ_cons, List.take_zero, List.length_append, binA, isShift, binInt, binBool, unA, Bool.false_eq_true, if_false, partA, fillA, fillE, List.take_nil, Nat.zero_ne_one, Nat.one_ne_zero, not_false_eq_true, ne_eq, Nat.succ_ne_self, reduceCtorEq, Int.reduceEq, Int.reduceLT, Int.reduceLE, decide_true, decide_false, lenA, beq_self_eq_true, beq_true, beq_false, Bool.not_true, Bool.not_false, hl2, b0, b3', hob2, hel, hd]
      refine ⟨H2, ?_, hK2, rfl⟩
      simp only [showT, if_pos h0, List.append_nil]
      rwa [List.append_assoc] at bH
    · have hd : decide ((0 : Int) < (args.length : Int)) = true := decide_eq_true (by omega)
      obtain ⟨H3, hc3, cH, cK⟩ := s74 bH 41 (by simp only [List.length_append]; rw [if_neg h0] at hb; simp at hb; omega)
      simp only [byteDat, show (((41 : UInt8).toNat : Nat) : Int) = 41 from rfl] at hc3
      simp only [exec0, xreg, xops, wantedA, aopc, aop, ev, putA, endK, resA, tupA, List.length_cons, List.length_nil, List.replicate, List.cons_append, List.nil_append, List.append_nil, List.append_assoc, gs_same, gs_ne, gq_same, gq_ne, List.length_set, List.map_cons, List.map_nil, cellsOf, List.all_cons, List.all_nil, cellOk, boxTy, Bool.and_true, Bool.and_self, if_true, ite_true, ite_false, loadAt, storeAt, setAt, hget, hget0, hset, hset0, List.getElem?_cons_zero, List.getElem?_cons_succ, List.set_cons_zero, List.set_cons_succ, Nat.add_zero, Nat.zero_add, Nat.reduceAdd, Nat.reduceSub, Nat.reduceLeDiff, Nat.reduceLT, Nat.reduceEqDiff, Nat.le_refl, and_self, and_true, true_and, mkAgg, toIms, List.drop_zero, List.drop_succ_cons, List.take_succ_cons, List.take_zero, List.length_append, binA, isShift, binInt, binBool, unA, Bool.false_eq_true, if_false, partA, fillA, fillE, List.take_nil, Nat.zero_ne_one, Nat.one_ne_zero, not_false_eq_true, ne_eq, Nat.succ_ne_self, reduceCtorEq, Int.reduceEq, Int.reduceLT, Int.reduceLE, decide_true, decide_false, lenA, beq_self_eq_true, beq_true, beq_false, Bool.not_true, Bool.not_false, hl2, b0, b3', hob2, hel, hd, hc3]
      refine ⟨H3, ?_, hK2.trans cK, rfl⟩
      simp only [showT, if_neg h0]
      simpa only [List.append_assoc] using cH
termination_by t => SizeOf.sizeOf t
decreasing_by
  have := List.sizeOf_lt_of_mem ha
  simp only [KT.mk.sizeOf_spec]
  omega

end Go.Abs.Seat
end
section
/- The scopes of functions, with the code behind their labels by name. -/
set_option linter.unusedVariables false
namespace Go.Abs.Seat
open Go.Proofs
def w69_0 : ACode := (.seq (.seq (.ops [⟨(some 13), (.move (.t 6)), none⟩, ⟨(some 14), (.lenSl (.t 13)), none⟩, ⟨(some 15), (.move (.c (.im (.int .i64 0)))), none⟩] []) (.block 0 c69_0)) (.seq (.seq (.ops [⟨(some 26), (.load none (.t 2)), none⟩, ⟨(some 27), (.nilCheck (.t 26)), none⟩, ⟨(some 28), (.fieldAddr 1 (.t 27)), none⟩, ⟨(some 29), (.load none (.t 28)), none⟩, ⟨(some 30), (.load none (.t 2)), none⟩, ⟨(some 31), (.nilCheck (.t 30)), none⟩, ⟨(some 32), (.fieldAddr 0 (.t 31)), none⟩, ⟨(some 33), (.load none (.t 32)), none⟩, ⟨(some 34), (.lenStr (.t 33)), none⟩, ⟨(some 35), (.bin .lss (.t 29) (.t 34)), none⟩] []) (.cond (.t 35) (.seq (.ops [⟨(some 36), (.move (.t 6)), none⟩, ⟨(some 37), (.mkfunc 100 [(.t 7), (.t 2)]), none⟩, ⟨(some 38), (.call (.c (.clo 98 [])) [(.t 36), (.t 37)]), none⟩, ⟨(some 6), (.move (.t 38)), none⟩] []) (.seq (.ops [⟨(some 39), (.move (.t 6)), none⟩, ⟨(some 40), (.lenSl (.t 39)), none⟩, ⟨(some 41), (.bin .gtr (.t 40) (.c (.im (.int .i64 0)))), none⟩] []) (.cond (.t 41) (.seq (.ops [⟨(some 42), (.load none (.t 2)), none⟩, ⟨(some 43), (.nilCheck (.t 42)), none⟩, ⟨(some 44), (.fieldAddr 1 (.t 43)), none⟩, ⟨(some 45), (.load none (.t 44)), none⟩, ⟨(some 46), (.bin .add (.t 45) (.c (.im (.int .i64 1)))), none⟩, ⟨(some 47), (.nilCheck (.t 42)), none⟩, ⟨(some 48), (.fieldAddr 1 (.t 47)), none⟩, ⟨none, (.store 1 (.t 48) (.t 46)), none⟩] []) (.seq (.ops [⟨(some 49), (.load none (.t 7)), none⟩, ⟨(some 50), (.bin .add (.t 49) (.c (.im (.int .i64 1)))), none⟩, ⟨none, (.store 1 (.t 7) (.t 50)), none⟩] []) (.goto 0))) .skip))) .skip)) (.seq (.ops [⟨(some 51), (.build [(.im (.int .i64 0)), (.im (.str [])), (.im (.int .i64 0))] []), none⟩, ⟨none, (.store 3 (.t 4) (.t 51)), none⟩, ⟨(some 5), (.move (.c (.im (.bool false)))), none⟩] []) .ret)))
def s69b : ACode := (.seq (.ops [⟨(some 10), (.call (.c (.clo 72 [])) []), none⟩, ⟨(some 11), (.mkfunc 99 [(.t 3)]), none⟩, ⟨(some 12), (.call (.c (.clo 98 [])) [(.t 10), (.t 11)]), none⟩, ⟨(some 6), (.move (.t 12)), none⟩] []) (.seq (.ops [⟨(some 7), (.alloc none [(.im (.int .i64 0))]), none⟩, ⟨none, (.store 1 (.t 7) (.c (.im (.int .i64 0)))), none⟩] []) (.seq (.label 0) w69_0)))
theorem s69b_eq : c69_1 = .scope s69b s69b := rfl
noncomputable def K69 (e : AEx) (tm : List AV) (H : Heap) : Option Out := match e with
    | .goto l => match findA s69b l with
      | some rest => Λ (.scope s69b rest) tm H
      | none => none
    | .normal => some (.normal, tm, H)
    | .exit i => some (.exit i, tm, H)
    | .ret => some (.ret, tm, H)
theorem K69_normal (tm : List AV) (H : Heap) : K69 .normal tm H = some (.normal, tm, H) := _root_.id rfl
theorem K69_ret (tm : List AV) (H : Heap) : K69 .ret tm H = some (.ret, tm, H) := _root_.id rfl
theorem K69_exit (i : Nat) (tm : List AV) (H : Heap) : K69 (.exit i) tm H = some (.exit i, tm, H) := _root_.id rfl
theorem c69_1_eq (tm : List AV) (H : Heap) : Λ c69_1 tm H = exec0 L Λ s69b tm H K69 := by
  rw [s69b_eq]; exact scope_eq
def g69_0 : ACode := .scope s69b (.seq .skip w69_0)
theorem K69_goto0 (tm : List AV) (H : Heap) : K69 (.goto 0) tm H = Λ g69_0 tm H := by
  have h : findA s69b 0 = some (.seq .skip w69_0) := rfl
  simp only [K69, h, g69_0]
theorem g69_0_eq (tm : List AV) (H : Heap) : Λ g69_0 tm H = exec0 L Λ w69_0 tm H K69 := by
  rw [g69_0]; exact scope_eq
end Go.Abs.Seat
end
section
/- What the seat's functions come to: the reader's word. -/
set_option linter.unusedVariables false
set_option linter.unusedSimpArgs false
namespace Go.Abs.Seat
open Go.Proofs

/-- Is a word of types left out? -/
def outW (d : Int) (w : Word) : Bool := decide (0 < w.2.2) && decide (d = 1)

theorem s99 (w : Word) (idd : Nat) (d : Int) (H : Heap) (hd : H[idd]? = some (.obj none [[.im (.int .i64 d)]])) : L 99 [.im (.agg (datW w)), .ptr idd 0 0] H = some (.im (.bool (outW d w)), H) := by
  have hda : ∀ M : Heap, (H ++ M)[idd]? = some (.obj none [[.im (.int .i64 d)]]) := fun M => by rw [get_app (List.getElem?_eq_some_iff.1 hd).1]; exact hd
  simp only [datW]
  rw [leq F99]
  obtain ⟨hlen, ha⟩ := enter_at (f := f99) (args := [.im (.agg [.int .i64 w.1, .str w.2.1, .int .i64 w.2.2]), .ptr idd 0 0]) (Nat.le_of_ble_eq_true rfl)
  have h0 := ha 0 _ rfl
  have h1 := ha 1 _ rfl
  generalize enterA f99 [.im (.agg [.int .i64 w.1, .str w.2.1, .int .i64 w.2.2]), .ptr idd 0 0] = tm at *
  change tm.length = 11 at hlen
  unfold outW
  rcases Bool.eq_false_or_eq_true (decide (0 < w.2.2)) with hb | hb
  · simp only [f99, x_seq, x_block, x_skip, x_label, x_cond, x_exit, x_goto, x_ret, k_normal, k_exit, k_goto, k_ret, b_normal, b_exit, b_goto, b_ret, wantedA, aop, ev, putA, List.length_cons, List.length_nil, List.replicate, List.cons_append, List.nil_append, List.append_nil, List.append_assoc, gs_same, gs_ne, gq_same, gq_ne, List.length_set, List.map_cons, List.map_nil, cellsOf, List.all_cons, List.all_nil, cellOk, boxTy, Bool.and_true, Bool.and_self, if_true, ite_true, ite_false, loadAt, storeAt, setAt, hget, hget0, hset, hset0, List.getElem?_cons_zero, List.getElem?_cons_succ, List.set_cons_zero, List.set_cons_succ, Nat.add_zero, Nat.zero_add, Nat.reduceAdd, Nat.reduceSub, Nat.reduceLeDiff, Nat.reduceLT, Nat.reduceEqDiff, Nat.le_refl, and_self, and_true, true_and, mkAgg, toIms, List.drop_zero, List.drop_succ_cons, List.take_succ_cons, List.take_zero, List.length_append, binBool, unA, Bool.false_eq_true, if_false, partA, fillA, fillE, List.take_nil, Nat.zero_ne_one, Nat.one_ne_zero, not_false_eq_true, ne_eq, Nat.succ_ne_self, reduceCtorEq, Int.reduceEq, Int.reduceLT, Int.reduceLE, decide_true, decide_false, lenA, beq_self_eq_true, beq_true, beq_false, Bool.not_true, Bool.not_false, b_lss, b_gtr, b_leq, b_geq, b_eql, b_neq, b_add, b_sub, b_mul, s_eql, s_neq, y_ops, y_nil, y_cons, y_guard, y_some, y_drop, y_do, y_not, y_not0, c_call, c_clo, c_move, c_pick, c_alloc, c_box, c_build, c_bslice, c_load, c_store, c_nilCheck, c_bin, c_binB, c_un, c_i2i, c_i2f, c_f2i, c_s2b, c_b2s, c_strId, c_mkfunc, c_mkslice, c_slice, c_sliceStr, c_fieldAddr, c_field, c_indexSl, c_indexArr, c_elemArr, c_indexStr, c_extract, c_lenStr, c_lenSl, c_append, c_real, c_imag, c_complex, c_min, c_max, c_clear, endK, resA, tupA, hlen, h0, h1, hda, hb, leave_app, Bool.true_and]
  · simp only [f99, x_seq, x_block, x_skip, x_label, x_cond, x_exit, x_goto, x_ret, k_normal, k_exit, k_goto, k_ret, b_normal, b_exit, b_goto, b_ret, wantedA, aop, ev, putA, List.length_cons, List.length_nil, List.replicate, List.cons_append, List.nil_append, List.append_nil, List.append_assoc, gs_same, gs_ne, gq_same, gq_ne, List.length_set, List.map_cons, List.map_nil, cellsOf, List.all_cons, List.all_nil, cellOk, boxTy, Bool.and_true, Bool.and_self, if_true, ite_true, ite_false, loadAt, storeAt, setAt, hget, hget0, hset, hset0, List.getElem?_cons_zero, List.getElem?_cons_succ, List.set_cons_zero, List.set_cons_succ, Nat.add_zero, Nat.zero_add, Nat.reduceAdd, Nat.reduceSub, Nat.reduceLeDiff, Nat.reduceLT, Nat.reduceEqDiff, Nat.le_refl, and_self, and_true, true_and, mkAgg, toIms, List.drop_zero, List.drop_succ_cons, List.take_succ_cons, List.take_zero, List.length_append, binBool, unA, Bool.false_eq_true, if_false, partA, fillA, fillE, List.take_nil, Nat.zero_ne_one, Nat.one_ne_zero, not_false_eq_true, ne_eq, Nat.succ_ne_self, reduceCtorEq, Int.reduceEq, Int.reduceLT, Int.reduceLE, decide_true, decide_false, lenA, beq_self_eq_true, beq_true, beq_false, Bool.not_true, Bool.not_false, b_lss, b_gtr, b_leq, b_geq, b_eql, b_neq, b_add, b_sub, b_mul, s_eql, s_neq, y_ops, y_nil, y_cons, y_guard, y_some, y_drop, y_do, y_not, y_not0, c_call, c_clo, c_move, c_pick, c_alloc, c_box, c_build, c_bslice, c_load, c_store, c_nilCheck, c_bin, c_binB, c_un, c_i2i, c_i2f, c_f2i, c_s2b, c_b2s, c_strId, c_mkfunc, c_mkslice, c_slice, c_sliceStr, c_fieldAddr, c_field, c_indexSl, c_indexArr, c_elemArr, c_indexStr, c_extract, c_lenStr, c_lenSl, c_append, c_real, c_imag, c_complex, c_min, c_max, c_clear, endK, resA, tupA, hlen, h0, h1, hda, hb, leave_app, Bool.false_and]

theorem byte_eq (a c : UInt8) : decide (((a.toNat : Nat) : Int) = ((c.toNat : Nat) : Int)) = decide (a = c) := by
  congr 1
  simp only [Int.ofNat_inj, UInt8.toNat_inj]

theorem s100 (w : Word) (idn ia ir n : Nat) (s : List UInt8) (k : Nat) (a c : UInt8) (H : Heap) (hn : H[idn]? = some (.obj none [[.im (.int .i64 (n : Int))]])) (hia : H[ia]? = some (.obj none [[.ptr ir 0 0]])) (hir : H[ir]? = some (.obj none [[.im (.str s), .im (.int .i64 (k : Int))]]))
    (ha : w.2.1[n]? = some a) (hc : s[k]? = some c) : L 100 [.im (.agg (datW w)), .ptr idn 0 0, .ptr ia 0 0] H = some (.im (.bool (!decide (a = c))), H) := by
  have hna : ∀ M : Heap, (H ++ M)[idn]? = some (.obj none [[.im (.int .i64 (n : Int))]]) := fun M => by rw [get_app (List.getElem?_eq_some_iff.1 hn).1]; exact hn
  have hia' : ∀ M : Heap, (H ++ M)[ia]? = some (.obj none [[.ptr ir 0 0]]) := fun M => by rw [get_app (List.getElem?_eq_some_iff.1 hia).1]; exact hia
  have hir' : ∀ M : Heap, (H ++ M)[ir]? = some (.obj none [[.im (.str s), .im (.int .i64 (k : Int))]]) := fun M => by rw [get_app (List.getElem?_eq_some_iff.1 hir).1]; exact hir
  have p1 : (0 : Int) ≤ (n : Int) := Int.natCast_nonneg n
  have p2 : (0 : Int) ≤ (k : Int) := Int.natCast_nonneg k
  simp only [datW]
  rw [leq F100]
  obtain ⟨hlen, hg⟩ := enter_at (f := f100) (args := [.im (.agg [.int .i64 w.1, .str w.2.1, .int .i64 w.2.2]), .ptr idn 0 0, .ptr ia 0 0]) (Nat.le_of_ble_eq_true rfl)
  have h0 := hg 0 _ rfl
  have h1 := hg 1 _ rfl
  have h2 := hg 2 _ rfl
  generalize enterA f100 [.im (.agg [.int .i64 w.1, .str w.2.1, .int .i64 w.2.2]), .ptr idn 0 0, .ptr ia 0 0] = tm at *
  change tm.length = 19 at hlen
  simp only [f100, x_seq, x_block, x_skip, x_label, x_cond, x_exit, x_goto, x_ret, k_normal, k_exit, k_goto, k_ret, b_normal, b_exit, b_goto, b_ret, wantedA, aop, ev, putA, List.length_cons, List.length_nil, List.replicate, List.cons_append, List.nil_append, List.append_nil, List.append_assoc, gs_same, gs_ne, gq_same, gq_ne, List.length_set, List.map_cons, List.map_nil, cellsOf, List.all_cons, List.all_nil, cellOk, boxTy, Bool.and_true, Bool.and_self, if_true, ite_true, ite_false, loadAt, storeAt, setAt, hget, hget0, hset, hset0, List.getElem?_cons_zero, List.getElem?_cons_succ, List.set_cons_zero, List.set_cons_succ, Nat.add_zero, Nat.zero_add, Nat.reduceAdd, Nat.reduceSub, Nat.reduceLeDiff, Nat.reduceLT, Nat.reduceEqDiff, Nat.le_refl, and_self, and_true, true_and, mkAgg, toIms, List.drop_zero, List.drop_succ_cons, List.take_succ_cons, List.take_zero, List.length_append, binBool, unA, Bool.false_eq_true, if_false, partA, fillA, fillE, List.take_nil, Nat.zero_ne_one, Nat.one_ne_zero, not_false_eq_true, ne_eq, Nat.succ_ne_self, reduceCtorEq, Int.reduceEq, Int.reduceLT, Int.reduceLE, decide_true, decide_false, lenA, beq_self_eq_true, beq_true, beq_false, Bool.not_true, Bool.not_false, b_lss, b_gtr, b_leq, b_geq, b_eql, b_neq, b_add, b_sub, b_mul, s_eql, s_neq, y_ops, y_nil, y_cons, y_guard, y_some, y_drop, y_do, y_not, y_not0, c_call, c_clo, c_move, c_pick, c_alloc, c_box, c_build, c_bslice, c_load, c_store, c_nilCheck, c_bin, c_binB, c_un, c_i2i, c_i2f, c_f2i, c_s2b, c_b2s, c_strId, c_mkfunc, c_mkslice, c_slice, c_sliceStr, c_fieldAddr, c_field, c_indexSl, c_indexArr, c_elemArr, c_indexStr, c_extract, c_lenStr, c_lenSl, c_append, c_real, c_imag, c_complex, c_min, c_max, c_clear, endK, resA, tupA, intOfA, byteDat, Int.toNat_natCast, hlen, h0, h1, h2, hna, hia', hir', p1, p2, ha, hc, byte_eq, leave_app]

/-- The reader's word: what is left of the words, how many bytes have been read. -/
def wordGo (r : List UInt8) : Nat → List Word → Nat → Nat × Option Word
  | 0, may, n => (n, may.find? fun w => decide (w.2.1.length = n))
  | k + 1, may, n => match may.find? (fun w => decide (w.2.1.length = n)) with
    | some w => (n, some w)
    | none => match r[n]? with
      | none => (n, none)
      | some c => if may.filter (fun w => decide (w.2.1[n]? = some c)) = [] then (n, none) else wordGo r k (may.filter fun w => decide (w.2.1[n]? = some c)) (n + 1)

theorem l69 (may rest : List Word) (idw idn b : Nat) (n : Nat) (hlt : may.length ≤ 9223372036854775806) (hbw : b ≠ idw) (hbn : b ≠ idn) (H : Heap) (x y z : AV) (hw : H[idw]? = some (.obj none ((may ++ rest).map encW))) (hn : H[idn]? = some (.obj none [[.im (.int .i64 (n : Int))]])) (hb : H[b]? = some (.obj none [[x, y, z]])) :
    ∀ (m i : Nat), i + m = may.length → ∀ (tm : List AV) (M : Heap), tm.length = 52 → tm.getD 4 undefA = .ptr b 0 0 → tm.getD 7 undefA = .ptr idn 0 0 → tm.getD 13 undefA = .ms 3 idw 0 may.length → tm.getD 14 undefA = .im (.int .i64 may.length) → tm.getD 15 undefA = .im (.int .i64 i) →
    ∃ e tm' H', Λ c69_0 tm (H ++ M) = some (e, tm', H') ∧ tm'.length = 52 ∧ (∀ j, j = 2 ∨ j = 4 ∨ j = 6 ∨ j = 7 → tm'.getD j undefA = tm.getD j undefA) ∧ match (may.drop i).find? (fun w => decide (w.2.1.length = n)) with
      | some w => e = .ret ∧ tm'.getD 5 undefA = .im (.bool true) ∧ ∃ M', H' = H.set b (.obj none [encW w]) ++ M'
      | none => e = .exit 0 ∧ ∃ M', H' = H ++ M'
  | 0, i, hi, tm, M, hlen, h4, h7, h13, h14, h15 => by
    have e : may.drop i = [] := by rw [List.drop_eq_nil_iff]; omega
    have hc : decide ((i : Int) < (may.length : Int)) = false := decide_eq_false (by omega)
    rw [e, l69_0]
    simp only [b69_0, x_seq, x_block, x_skip, x_label, x_cond, x_exit, x_goto, x_ret, k_normal, k_exit, k_goto, k_ret, b_normal, b_exit, b_goto, b_ret, wantedA, aop, ev, putA, List.length_cons, List.length_nil, List.replicate, List.cons_append, List.nil_append, List.append_nil, List.append_assoc, gs_same, gs_ne, gq_same, gq_ne, List.length_set, List.map_cons, List.map_nil, cellsOf, List.all_cons, List.all_nil, cellOk, boxTy, Bool.and_true, Bool.and_self, if_true, ite_true, ite_false, loadAt, storeAt, setAt, hget, hget0, hset, hset0, List.getElem?_cons_zero, List.getElem?_cons_succ, List.set_cons_zero, List.set_cons_succ, Nat.add_zero, Nat.zero_add, Nat.reduceAdd, Nat.reduceSub, Nat.reduceLeDiff, Nat.reduceLT, Nat.reduceEqDiff, Nat.le_refl, and_self, and_true, true_and, mkAgg, toIms, List.drop_zero, List.drop_succ_cons, List.take_succ_cons, List.take_zero, List.length_append, binBool, unA, Bool.false_eq_true, if_false, partA, fillA, fillE, List.take_nil, Nat.zero_ne_one, Nat.one_ne_zero, not_false_eq_true, ne_eq, Nat.succ_ne_self, reduceCtorEq, Int.reduceEq, Int.reduceLT, Int.reduceLE, decide_true, decide_false, lenA, beq_self_eq_true, beq_true, beq_false, Bool.not_true, Bool.not_false, b_lss, b_gtr, b_leq, b_geq, b_eql, b_neq, b_add, b_sub, b_mul, s_eql, s_neq, y_ops, y_nil, y_cons, y_guard, y_some, y_drop, y_do, y_not, y_not0, c_call, c_clo, c_move, c_pick, c_alloc, c_box, c_build, c_bslice, c_load, c_store, c_nilCheck, c_bin, c_binB, c_un, c_i2i, c_i2f, c_f2i, c_s2b, c_b2s, c_strId, c_mkfunc, c_mkslice, c_slice, c_sliceStr, c_fieldAddr, c_field, c_indexSl, c_indexArr, c_elemArr, c_indexStr, c_extract, c_lenStr, c_lenSl, c_append, c_real, c_imag, c_complex, c_min, c_max, c_clear, hlen, h4, h7, h13, h14, h15, hc, List.find?_nil]
    exact ⟨_, _, _, rfl, by simp only [List.length_set, hlen], by rintro j (rfl | rfl | rfl | rfl) <;> simp only [gs_same, gs_ne, List.length_set, Nat.reduceLT, Nat.reduceEqDiff, not_false_eq_true, hlen], rfl, _, rfl⟩
  | m + 1, i, hi, tm, M, hlen, h4, h7, h13, h14, h15 => by
    have hil : i < may.length := by omega
    obtain ⟨w, hwi, e⟩ := drop_cons hil
    have hc : decide ((i : Int) < (may.length : Int)) = true := decide_eq_true (by omega)
    have hix := idx_nat hil
    have hget : ((may ++ rest).map encW)[i]? = some (encW w) := by rw [List.getElem?_map, List.getElem?_append_left hil, hwi]; rfl
    have hwr := wrap_nat (i := i) (by omega)
    have key := l69 may rest idw idn b n hlt hbw hbn H x y z hw hn hb m (i + 1) (by omega)
    have hbl := (List.getElem?_eq_some_iff.1 hb).1
    have ga : ∀ (j : Nat) (o : HO), H[j]? = some o → ∀ M : Heap, (H ++ M)[j]? = some o := fun j o h M => by rw [get_app (List.getElem?_eq_some_iff.1 h).1]; exact h
    have hset : ∀ (M : Heap) (o : HO), (H ++ M).set b o = H.set b o ++ M := fun M o => set_app hbl
    have hwM := ga _ _ hw
    have hnM := ga _ _ hn
    have hbM := ga _ _ hb
    have hdl : decide (((w.2.1.length : Nat) : Int) = (n : Int)) = decide (w.2.1.length = n) := by congr 1; simp only [Int.ofNat_inj]
    have hap : ∀ o : HO, H ++ M ++ [o] = H ++ (M ++ [o]) := fun o => List.append_assoc ..
    have hgg : ∀ o : HO, (H ++ (M ++ [o]))[(H ++ M).length]? = some o := fun o => by rw [← hap, Go.Abs.hget0]; rfl
    have hss : ∀ o o' : HO, (H ++ (M ++ [o])).set (H ++ M).length o' = H ++ (M ++ [o']) := fun o o' => by rw [← hap, hset0, List.set_cons_zero, hap]
    rw [e, List.find?_cons, l69_0]
    generalize hhl : (H ++ M).length = hl at *
    simp only [encW] at hget
    cases hk : decide (w.2.1.length = n) with
    | true =>
      rw [hk] at hdl
      simp only [b69_0, x_seq, x_block, x_skip, x_label, x_cond, x_exit, x_goto, x_ret, k_normal, k_exit, k_goto, k_ret, b_normal, b_exit, b_goto, b_ret, wantedA, aop, ev, putA, List.length_cons, List.length_nil, List.replicate, List.cons_append, List.nil_append, List.append_nil, List.append_assoc, gs_same, gs_ne, gq_same, gq_ne, List.length_set, List.map_cons, List.map_nil, cellsOf, List.all_cons, List.all_nil, cellOk, boxTy, Bool.and_true, Bool.and_self, if_true, ite_true, ite_false, loadAt, storeAt, setAt, hget, hget0, hset, hset0, List.getElem?_cons_zero, List.getElem?_cons_succ, List.set_cons_zero, List.set_cons_succ, Nat.add_zero, Nat.zero_add, Nat.reduceAdd, Nat.reduceSub, Nat.reduceLeDiff, Nat.reduceLT, Nat.reduceEqDiff, Nat.le_refl, and_self, and_true, true_and, mkAgg, toIms, List.drop_zero, List.drop_succ_cons, List.take_succ_cons, List.take_zero, List.length_append, binBool, unA, Bool.false_eq_true, if_false, partA, fillA, fillE, List.take_nil, Nat.zero_ne_one, Nat.one_ne_zero, not_false_eq_true, ne_eq, Nat.succ_ne_self, reduceCtorEq, Int.reduceEq, Int.reduceLT, Int.reduceLE, decide_true, decide_false, lenA, beq_self_eq_true, beq_true, beq_false, Bool.not_true, Bool.not_false, b_lss, b_gtr, b_leq, b_geq, b_eql, b_neq, b_add, b_sub, b_mul, s_eql, s_neq, y_ops, y_nil, y_cons, y_guard, y_some, y_drop, y_do, y_not, y_not0, c_call, c_clo, c_move, c_pick, c_alloc, c_box, c_build, c_bslice, c_load, c_store, c_nilCheck, c_bin, c_binB, c_un, c_i2i, c_i2f, c_f2i, c_s2b, c_b2s, c_strId, c_mkfunc, c_mkslice, c_slice, c_sliceStr, c_fieldAddr, c_field, c_indexSl, c_indexArr, c_elemArr, c_indexStr, c_extract, c_lenStr, c_lenSl, c_append, c_real, c_imag, c_complex, c_min, c_max, c_clear, hlen, h4, h7, h13, h14, h15, hc, hix, hwM, hget, hnM, hhl, hap, hgg, hss, hbM, hdl, hset]
      exact ⟨_, _, _, rfl, by simp only [List.length_set, hlen], by rintro j (rfl | rfl | rfl | rfl) <;> simp only [gs_same, gs_ne, List.length_set, Nat.reduceLT, Nat.reduceEqDiff, not_false_eq_true, hlen], rfl, by simp only [gs_same, gs_ne, List.length_set, Nat.reduceLT, Nat.reduceEqDiff, not_false_eq_true, hlen], _, rfl⟩
    | false =>
      rw [hk] at hdl
      simp only [b69_0, x_seq, x_block, x_skip, x_label, x_cond, x_exit, x_goto, x_ret, k_normal, k_exit, k_goto, k_ret, b_normal, b_exit, b_goto, b_ret, wantedA, aop, ev, putA, List.length_cons, List.length_nil, List.replicate, List.cons_append, List.nil_append, List.append_nil, List.append_assoc, gs_same, gs_ne, gq_same, gq_ne, List.length_set, List.map_cons, List.map_nil, cellsOf, List.all_cons, List.all_nil, cellOk, boxTy, Bool.and_true, Bool.and_self, if_true, ite_true, ite_false, loadAt, storeAt, setAt, hget, hget0, hset, hset0, List.getElem?_cons_zero, List.getElem?_cons_succ, List.set_cons_zero, List.set_cons_succ, Nat.add_zero, Nat.zero_add, Nat.reduceAdd, Nat.reduceSub, Nat.reduceLeDiff, Nat.reduceLT, Nat.reduceEqDiff, Nat.le_refl, and_self, and_true, true_and, mkAgg, toIms, List.drop_zero, List.drop_succ_cons, List.take_succ_cons, List.take_zero, List.length_append, binBool, unA, Bool.false_eq_true, if_false, partA, fillA, fillE, List.take_nil, Nat.zero_ne_one, Nat.one_ne_zero, not_false_eq_true, ne_eq, Nat.succ_ne_self, reduceCtorEq, Int.reduceEq, Int.reduceLT, Int.reduceLE, decide_true, decide_false, lenA, beq_self_eq_true, beq_true, beq_false, Bool.not_true, Bool.not_false, b_lss, b_gtr, b_leq, b_geq, b_eql, b_neq, b_add, b_sub, b_mul, s_eql, s_neq, y_ops, y_nil, y_cons, y_guard, y_some, y_drop, y_do, y_not, y_not0, c_call, c_clo, c_move, c_pick, c_alloc, c_box, c_build, c_bslice, c_load, c_store, c_nilCheck, c_bin, c_binB, c_un, c_i2i, c_i2f, c_f2i, c_s2b, c_b2s, c_strId, c_mkfunc, c_mkslice, c_slice, c_sliceStr, c_fieldAddr, c_field, c_indexSl, c_indexArr, c_elemArr, c_indexStr, c_extract, c_lenStr, c_lenSl, c_append, c_real, c_imag, c_complex, c_min, c_max, c_clear, hlen, h4, h7, h13, h14, h15, hc, hix, hwM, hget, hnM, hhl, hap, hgg, hss, hbM, hdl, hset, hwr]
      refine ex_imp (key _ _ ?_ ?_ ?_ ?_ ?_ ?_) ?_
      iterate 6 simp only [gs_same, gs_ne, List.length_set, Nat.reduceLT, Nat.reduceEqDiff, not_false_eq_true, hlen, h4, h7, h13, h14]
      rintro e tm' H' ⟨hl', g, hm⟩
      refine ⟨hl', ?_, hm⟩
      rintro j (rfl | rfl | rfl | rfl)
      all_goals (rw [g _ (by simp)]; simp only [gs_same, gs_ne, List.length_set, Nat.reduceLT, Nat.reduceEqDiff, not_false_eq_true, hlen])

/-- What comes of the words, read. -/
def wordRes (o : Option Word) : Word := match o with
  | some w => w
  | none => zeroW

theorem g69 (s : List UInt8) (at0 ir N : Nat) (H0 : Heap) (hN : N = H0.length) (hir : ir < N) (hs : s.length ≤ 9223372036854775807) (hat : at0 ≤ s.length) :
    ∀ (k : Nat) (may rest : List Word) (n : Nat), may ≠ [] → may.length ≤ 8 → (∀ w ∈ may, n ≤ w.2.1.length ∧ w.2.1.length ≤ n + k) → at0 + n ≤ s.length →
    ∀ (tm : List AV) (H : Heap) (x y z : AV), tm.length = 52 → tm.getD 2 undefA = .ptr N 0 0 → tm.getD 4 undefA = .ptr (N + 2) 0 0 → tm.getD 6 undefA = .ms 3 (N + 3) 0 may.length → tm.getD 7 undefA = .ptr (N + 4) 0 0 →
    H[N]? = some (.obj none [[.ptr ir 0 0]]) → H[N + 2]? = some (.obj none [[x, y, z]]) → H[N + 3]? = some (.obj none ((may ++ rest).map encW)) → H[N + 4]? = some (.obj none [[.im (.int .i64 (n : Int))]]) → H[ir]? = some (.obj none [[.im (.str s), .im (.int .i64 ((at0 + n : Nat) : Int))]]) → But N ir H0 H →
    ∃ tm' H', Λ g69_0 tm H = some (.ret, tm', H') ∧ tm'.length = 52 ∧ tm'.getD 4 undefA = .ptr (N + 2) 0 0 ∧ tm'.getD 5 undefA = .im (.bool (wordGo (s.drop at0) k may n).2.isSome) ∧ H'[N + 2]? = some (.obj none [encW (wordRes (wordGo (s.drop at0) k may n).2)]) ∧
      H'[ir]? = some (.obj none [[.im (.str s), .im (.int .i64 ((at0 + (wordGo (s.drop at0) k may n).1 : Nat) : Int))]]) ∧ But N ir H0 H' := by
  intro k
  induction k with
  | zero =>
    intro may rest n hne hm8 hlens han tm H x y z hlen h2 h4 h6 h7 oN o2 o3 o4 oir hbut
    have key := l69 may rest (N + 3) (N + 4) (N + 2) n (by omega) (by omega) (by omega) H x y z o3 o4 o2 may.length 0 (by omega)
    have zz : ((0 : Nat) : Int) = 0 := rfl
    simp only [List.drop_zero, zz] at key
    have key0 := fun tm => key tm []
    simp only [List.append_nil] at key0
    have hHl : N + 4 < H.length := (List.getElem?_eq_some_iff.1 o4).1
    rw [g69_0_eq]
    simp only [w69_0, e69_0, x_seq, x_block, x_skip, x_label, x_cond, x_exit, x_goto, x_ret, k_normal, k_exit, k_goto, k_ret, b_normal, b_exit, b_goto, b_ret, wantedA, aop, ev, putA, List.length_cons, List.length_nil, List.replicate, List.cons_append, List.nil_append, List.append_nil, List.append_assoc, gs_same, gs_ne, gq_same, gq_ne, List.length_set, List.map_cons, List.map_nil, cellsOf, List.all_cons, List.all_nil, cellOk, boxTy, Bool.and_true, Bool.and_self, if_true, ite_true, ite_false, loadAt, storeAt, setAt, hget, hget0, hset, hset0, List.getElem?_cons_zero, List.getElem?_cons_succ, List.set_cons_zero, List.set_cons_succ, Nat.add_zero, Nat.zero_add, Nat.reduceAdd, Nat.reduceSub, Nat.reduceLeDiff, Nat.reduceLT, Nat.reduceEqDiff, Nat.le_refl, and_self, and_true, true_and, mkAgg, toIms, List.drop_zero, List.drop_succ_cons, List.take_succ_cons, List.take_zero, List.length_append, binBool, unA, Bool.false_eq_true, if_false, partA, fillA, fillE, List.take_nil, Nat.zero_ne_one, Nat.one_ne_zero, not_false_eq_true, ne_eq, Nat.succ_ne_self, reduceCtorEq, Int.reduceEq, Int.reduceLT, Int.reduceLE, decide_true, decide_false, lenA, beq_self_eq_true, beq_true, beq_false, Bool.not_true, Bool.not_false, b_lss, b_gtr, b_leq, b_geq, b_eql, b_neq, b_add, b_sub, b_mul, s_eql, s_neq, y_ops, y_nil, y_cons, y_guard, y_some, y_drop, y_do, y_not, y_not0, c_call, c_clo, c_move, c_pick, c_alloc, c_box, c_build, c_bslice, c_load, c_store, c_nilCheck, c_bin, c_binB, c_un, c_i2i, c_i2f, c_f2i, c_s2b, c_b2s, c_strId, c_mkfunc, c_mkslice, c_slice, c_sliceStr, c_fieldAddr, c_field, c_indexSl, c_indexArr, c_elemArr, c_indexStr, c_extract, c_lenStr, c_lenSl, c_append, c_real, c_imag, c_complex, c_min, c_max, c_clear, hlen, h2, h4, h6, h7]
    generalize hr : thenL _ _ = r
    refine Exists.elim (thenL_inv hr (key0 _ ?_ ?_ ?_ ?_ ?_ ?_)) ?_
    iterate 6 simp only [gs_same, gs_ne, List.length_set, Nat.reduceLT, Nat.reduceEqDiff, not_false_eq_true, hlen, h4, h6, h7]
    clear hr
    rintro e ⟨tm1, H1, ⟨hl1, g, hm⟩, rfl⟩
    have g4 := g 4 (by simp)
    simp only [gs_same, gs_ne, List.length_set, Nat.reduceLT, Nat.reduceEqDiff, not_false_eq_true, hlen, h4] at g4
    clear g
    simp only [wordGo]
    cases hf : may.find? (fun w => decide (w.2.1.length = n)) with
    | some w =>
      rw [hf] at hm
      obtain ⟨rfl, g5, M', rfl⟩ := hm
      simp only [x_seq, x_block, x_skip, x_label, x_cond, x_exit, x_goto, x_ret, k_normal, k_exit, k_goto, k_ret, b_normal, b_exit, b_goto, b_ret, wantedA, aop, ev, putA, List.length_cons, List.length_nil, List.replicate, List.cons_append, List.nil_append, List.append_nil, List.append_assoc, gs_same, gs_ne, gq_same, gq_ne, List.length_set, List.map_cons, List.map_nil, cellsOf, List.all_cons, List.all_nil, cellOk, boxTy, Bool.and_true, Bool.and_self, if_true, ite_true, ite_false, loadAt, storeAt, setAt, hget, hget0, hset, hset0, List.getElem?_cons_zero, List.getElem?_cons_succ, List.set_cons_zero, List.set_cons_succ, Nat.add_zero, Nat.zero_add, Nat.reduceAdd, Nat.reduceSub, Nat.reduceLeDiff, Nat.reduceLT, Nat.reduceEqDiff, Nat.le_refl, and_self, and_true, true_and, mkAgg, toIms, List.drop_zero, List.drop_succ_cons, List.take_succ_cons, List.take_zero, List.length_append, binBool, unA, Bool.false_eq_true, if_false, partA, fillA, fillE, List.take_nil, Nat.zero_ne_one, Nat.one_ne_zero, not_false_eq_true, ne_eq, Nat.succ_ne_self, reduceCtorEq, Int.reduceEq, Int.reduceLT, Int.reduceLE, decide_true, decide_false, lenA, beq_self_eq_true, beq_true, beq_false, Bool.not_true, Bool.not_false, b_lss, b_gtr, b_leq, b_geq, b_eql, b_neq, b_add, b_sub, b_mul, s_eql, s_neq, y_ops, y_nil, y_cons, y_guard, y_some, y_drop, y_do, y_not, y_not0, c_call, c_clo, c_move, c_pick, c_alloc, c_box, c_build, c_bslice, c_load, c_store, c_nilCheck, c_bin, c_binB, c_un, c_i2i, c_i2f, c_f2i, c_s2b, c_b2s, c_strId, c_mkfunc, c_mkslice, c_slice, c_sliceStr, c_fieldAddr, c_field, c_indexSl, c_indexArr, c_elemArr, c_indexStr, c_extract, c_lenStr, c_lenSl, c_append, c_real, c_imag, c_complex, c_min, c_max, c_clear, K69_ret]
      have hlt : ∀ i, i ≤ N + 4 → ∀ o : HO, (H.set (N + 2) o ++ M')[i]? = (H.set (N + 2) o)[i]? := fun i hi o => get_app (by simp; omega)
      refine ⟨_, _, rfl, hl1, g4, g5, ?_, ?_, ?_⟩
      · rw [hlt _ (by omega), List.getElem?_set_self (by omega)]; rfl
      · rw [hlt _ (by omega), List.getElem?_set_ne (by omega)]; exact oir
      · refine ⟨by have := hbut.1; simp; omega, fun i hi hne => ?_⟩
        rw [hlt _ (by omega), List.getElem?_set_ne (by omega)]; exact hbut.2 i hi hne
    | none =>
      obtain ⟨w, hw⟩ := List.exists_mem_of_ne_nil _ hne
      have := List.find?_eq_none.1 hf w hw
      have h2 := hlens w hw
      simp at this
      omega
  | succ k ih =>
    intro may rest n hne hm8 hlens han tm H x y z hlen h2 h4 h6 h7 oN o2 o3 o4 oir hbut
    have key := l69 may rest (N + 3) (N + 4) (N + 2) n (by omega) (by omega) (by omega) H x y z o3 o4 o2 may.length 0 (by omega)
    have zz : ((0 : Nat) : Int) = 0 := rfl
    simp only [List.drop_zero, zz] at key
    have key0 := fun tm => key tm []
    simp only [List.append_nil] at key0
    have hHl : N + 4 < H.length := (List.getElem?_eq_some_iff.1 o4).1
    rw [g69_0_eq]
    simp only [w69_0, e69_0, x_seq, x_block, x_skip, x_label, x_cond, x_exit, x_goto, x_ret, k_normal, k_exit, k_goto, k_ret, b_normal, b_exit, b_goto, b_ret, wantedA, aop, ev, putA, List.length_cons, List.length_nil, List.replicate, List.cons_append, List.nil_append, List.append_nil, List.append_assoc, gs_same, gs_ne, gq_same, gq_ne, List.length_set, List.map_cons, List.map_nil, cellsOf, List.all_cons, List.all_nil, cellOk, boxTy, Bool.and_true, Bool.and_self, if_true, ite_true, ite_false, loadAt, storeAt, setAt, hget, hget0, hset, hset0, List.getElem?_cons_zero, List.getElem?_cons_succ, List.set_cons_zero, List.set_cons_succ, Nat.add_zero, Nat.zero_add, Nat.reduceAdd, Nat.reduceSub, Nat.reduceLeDiff, Nat.reduceLT, Nat.reduceEqDiff, Nat.le_refl, and_self, and_true, true_and, mkAgg, toIms, List.drop_zero, List.drop_succ_cons, List.take_succ_cons, List.take_zero, List.length_append, binBool, unA, Bool.false_eq_true, if_false, partA, fillA, fillE, List.take_nil, Nat.zero_ne_one, Nat.one_ne_zero, not_false_eq_true, ne_eq, Nat.succ_ne_self, reduceCtorEq, Int.reduceEq, Int.reduceLT, Int.reduceLE, decide_true, decide_false, lenA, beq_self_eq_true, beq_true, beq_false, Bool.not_true, Bool.not_false, b_lss, b_gtr, b_leq, b_geq, b_eql, b_neq, b_add, b_sub, b_mul, s_eql, s_neq, y_ops, y_nil, y_cons, y_guard, y_some, y_drop, y_do, y_not, y_not0, c_call, c_clo, c_move, c_pick, c_alloc, c_box, c_build, c_bslice, c_load, c_store, c_nilCheck, c_bin, c_binB, c_un, c_i2i, c_i2f, c_f2i, c_s2b, c_b2s, c_strId, c_mkfunc, c_mkslice, c_slice, c_sliceStr, c_fieldAddr, c_field, c_indexSl, c_indexArr, c_elemArr, c_indexStr, c_extract, c_lenStr, c_lenSl, c_append, c_real, c_imag, c_complex, c_min, c_max, c_clear, hlen, h2, h4, h6, h7]
    generalize hr : thenL _ _ = r
    refine Exists.elim (thenL_inv hr (key0 _ ?_ ?_ ?_ ?_ ?_ ?_)) ?_
    iterate 6 simp only [gs_same, gs_ne, List.length_set, Nat.reduceLT, Nat.reduceEqDiff, not_false_eq_true, hlen, h4, h6, h7]
    clear hr
    rintro e ⟨tm1, H1, ⟨hl1, g, hm⟩, rfl⟩
    have g2 := g 2 (by simp)
    have g4 := g 4 (by simp)
    have g6 := g 6 (by simp)
    have g7 := g 7 (by simp)
    simp only [gs_same, gs_ne, List.length_set, Nat.reduceLT, Nat.reduceEqDiff, not_false_eq_true, hlen, h2, h4, h6, h7] at g2 g4 g6 g7
    clear g key key0
    simp only [wordGo]
    cases hf : may.find? (fun w => decide (w.2.1.length = n)) with
    | some w =>
      rw [hf] at hm
      obtain ⟨rfl, g5, M', rfl⟩ := hm
      simp only [x_seq, x_block, x_skip, x_label, x_cond, x_exit, x_goto, x_ret, k_normal, k_exit, k_goto, k_ret, b_normal, b_exit, b_goto, b_ret, wantedA, aop, ev, putA, List.length_cons, List.length_nil, List.replicate, List.cons_append, List.nil_append, List.append_nil, List.append_assoc, gs_same, gs_ne, gq_same, gq_ne, List.length_set, List.map_cons, List.map_nil, cellsOf, List.all_cons, List.all_nil, cellOk, boxTy, Bool.and_true, Bool.and_self, if_true, ite_true, ite_false, loadAt, storeAt, setAt, hget, hget0, hset, hset0, List.getElem?_cons_zero, List.getElem?_cons_succ, List.set_cons_zero, List.set_cons_succ, Nat.add_zero, Nat.zero_add, Nat.reduceAdd, Nat.reduceSub, Nat.reduceLeDiff, Nat.reduceLT, Nat.reduceEqDiff, Nat.le_refl, and_self, and_true, true_and, mkAgg, toIms, List.drop_zero, List.drop_succ_cons, List.take_succ_cons, List.take_zero, List.length_append, binBool, unA, Bool.false_eq_true, if_false, partA, fillA, fillE, List.take_nil, Nat.zero_ne_one, Nat.one_ne_zero, not_false_eq_true, ne_eq, Nat.succ_ne_self, reduceCtorEq, Int.reduceEq, Int.reduceLT, Int.reduceLE, decide_true, decide_false, lenA, beq_self_eq_true, beq_true, beq_false, Bool.not_true, Bool.not_false, b_lss, b_gtr, b_leq, b_geq, b_eql, b_neq, b_add, b_sub, b_mul, s_eql, s_neq, y_ops, y_nil, y_cons, y_guard, y_some, y_drop, y_do, y_not, y_not0, c_call, c_clo, c_move, c_pick, c_alloc, c_box, c_build, c_bslice, c_load, c_store, c_nilCheck, c_bin, c_binB, c_un, c_i2i, c_i2f, c_f2i, c_s2b, c_b2s, c_strId, c_mkfunc, c_mkslice, c_slice, c_sliceStr, c_fieldAddr, c_field, c_indexSl, c_indexArr, c_elemArr, c_indexStr, c_extract, c_lenStr, c_lenSl, c_append, c_real, c_imag, c_complex, c_min, c_max, c_clear, K69_ret]
      have hlt : ∀ i, i ≤ N + 4 → ∀ o : HO, (H.set (N + 2) o ++ M')[i]? = (H.set (N + 2) o)[i]? := fun i hi o => get_app (by simp; omega)
      refine ⟨_, _, rfl, hl1, g4, g5, ?_, ?_, ?_⟩
      · rw [hlt _ (by omega), List.getElem?_set_self (by omega)]; rfl
      · rw [hlt _ (by omega), List.getElem?_set_ne (by omega)]; exact oir
      · refine ⟨by have := hbut.1; simp; omega, fun i hi hne => ?_⟩
        rw [hlt _ (by omega), List.getElem?_set_ne (by omega)]; exact hbut.2 i hi hne
    | none =>
      rw [hf] at hm
      obtain ⟨rfl, M', rfl⟩ := hm
      have ga : ∀ (j : Nat) (o : HO), H[j]? = some o → (H ++ M')[j]? = some o := fun j o h => by rw [get_app (List.getElem?_eq_some_iff.1 h).1]; exact h
      replace oN := ga _ _ oN
      replace o2 := ga _ _ o2
      replace o3 := ga _ _ o3
      replace o4 := ga _ _ o4
      replace oir := ga _ _ oir
      replace hbut := hbut.app (by omega) M'
      have hHl : N + 4 < (H ++ M').length := by simp; omega
      clear ga
      generalize H ++ M' = Hc at *
      have hdr : (s.drop at0)[n]? = s[at0 + n]? := List.getElem?_drop
      rw [hdr]
      -- the end, where no word stands here
      have fin : ∀ (tm2 : List AV) (H2 : Heap) (n2 : Nat), n2 = n → tm2.length = 52 → tm2.getD 4 undefA = .ptr (N + 2) 0 0 → tm2.getD 5 undefA = .im (.bool false) → H2[N + 2]? = some (.obj none [encW zeroW]) → H2[ir]? = some (.obj none [[.im (.str s), .im (.int .i64 ((at0 + n : Nat) : Int))]]) → But N ir H0 H2 →
          ∃ tm' H', some (AEx.ret, tm2, H2) = some (AEx.ret, tm', H') ∧ tm'.length = 52 ∧ tm'.getD 4 undefA = .ptr (N + 2) 0 0 ∧ tm'.getD 5 undefA = .im (.bool (Option.isSome (none : Option Word))) ∧ H'[N + 2]? = some (.obj none [encW (wordRes none)]) ∧ H'[ir]? = some (.obj none [[.im (.str s), .im (.int .i64 ((at0 + n2 : Nat) : Int))]]) ∧ But N ir H0 H' :=
        fun tm2 H2 n2 hn2 a b c d e f => ⟨tm2, H2, rfl, a, b, c, d, by rw [hn2]; exact e, f⟩
      by_cases hat' : at0 + n < s.length
      · have hc : decide ((((at0 + n : Nat) : Nat) : Int) < (s.length : Int)) = true := decide_eq_true (by omega)
        have hsc : s[at0 + n]? = some s[at0 + n] := List.getElem?_eq_getElem hat'
        generalize s[at0 + n] = c at hsc
        rw [hsc]
        simp only
        have hasks : Asks (fun w => !decide (w.2.1[n]? = some c)) 100 [.ptr (N + 4) 0 0, .ptr N 0 0] Hc.length (N + 3) Hc may := by
          intro w hw H' hH' hl'
          have h1 := hlens w hw
          have h2 := List.find?_eq_none.1 hf w hw
          simp at h2
          have hwa : w.2.1[n]? = some (w.2.1[n]'(by omega)) := List.getElem?_eq_getElem (by omega)
          generalize w.2.1[n]'(by omega) = a at hwa
          have := s100 w (N + 4) N ir n s (at0 + n) a c H' (by rw [hH' _ (by omega) (by omega)]; exact o4) (by rw [hH' _ (by omega) (by omega)]; exact oN) (by rw [hH' _ (by omega) (by omega)]; exact oir) hwa hsc
          simp only [List.cons_append, List.nil_append]
          rw [this, hwa]
          simp only [Option.some.injEq]
        obtain ⟨rest', h98⟩ := s98 may rest (N + 3) Hc o3 _ 100 _ hasks (by omega) hne
        simp only [Bool.not_not] at h98
        have hmem : ∀ w ∈ may.filter (fun w => decide (w.2.1[n]? = some c)), w ∈ may ∧ w.2.1[n]? = some c := fun w hw => by simpa using hw
        have hfl : (may.filter fun w => decide (w.2.1[n]? = some c)).length ≤ may.length := List.length_filter_le _ _
        generalize may.filter (fun w => decide (w.2.1[n]? = some c)) = may' at *
        have oN' : ∀ o, (Hc.set (N + 3) o)[N]? = some (.obj none [[.ptr ir 0 0]]) := fun o => by rw [List.getElem?_set_ne (by omega)]; exact oN
        have o2' : ∀ o, (Hc.set (N + 3) o)[N + 2]? = some (.obj none [[x, y, z]]) := fun o => by rw [List.getElem?_set_ne (by omega)]; exact o2
        have oir' : ∀ o, (Hc.set (N + 3) o)[ir]? = some (.obj none [[.im (.str s), .im (.int .i64 ((at0 + n : Nat) : Int))]]) := fun o => by rw [List.getElem?_set_ne (by omega)]; exact oir
        have o4' : ∀ o, (Hc.set (N + 3) o)[N + 4]? = some (.obj none [[.im (.int .i64 (n : Int))]]) := fun o => by rw [List.getElem?_set_ne (by omega)]; exact o4
        by_cases hm0 : may' = []
        · subst hm0
          simp only [if_true]
          simp only [List.length_nil, msOf, Nat.lt_irrefl, if_false, List.nil_append] at h98
          have z0 : (((0 : Nat) : Nat) : Int) = 0 := rfl
          simp only [x_seq, x_block, x_skip, x_label, x_cond, x_exit, x_goto, x_ret, k_normal, k_exit, k_goto, k_ret, b_normal, b_exit, b_goto, b_ret, wantedA, aop, ev, putA, List.length_cons, List.length_nil, List.replicate, List.cons_append, List.nil_append, List.append_nil, List.append_assoc, gs_same, gs_ne, gq_same, gq_ne, List.length_set, List.map_cons, List.map_nil, cellsOf, List.all_cons, List.all_nil, cellOk, boxTy, Bool.and_true, Bool.and_self, if_true, ite_true, ite_false, loadAt, storeAt, setAt, hget, hget0, hset, hset0, List.getElem?_cons_zero, List.getElem?_cons_succ, List.set_cons_zero, List.set_cons_succ, Nat.add_zero, Nat.zero_add, Nat.reduceAdd, Nat.reduceSub, Nat.reduceLeDiff, Nat.reduceLT, Nat.reduceEqDiff, Nat.le_refl, and_self, and_true, true_and, mkAgg, toIms, List.drop_zero, List.drop_succ_cons, List.take_succ_cons, List.take_zero, List.length_append, binBool, unA, Bool.false_eq_true, if_false, partA, fillA, fillE, List.take_nil, Nat.zero_ne_one, Nat.one_ne_zero, not_false_eq_true, ne_eq, Nat.succ_ne_self, reduceCtorEq, Int.reduceEq, Int.reduceLT, Int.reduceLE, decide_true, decide_false, lenA, beq_self_eq_true, beq_true, beq_false, Bool.not_true, Bool.not_false, b_lss, b_gtr, b_leq, b_geq, b_eql, b_neq, b_add, b_sub, b_mul, s_eql, s_neq, y_ops, y_nil, y_cons, y_guard, y_some, y_drop, y_do, y_not, y_not0, c_call, c_clo, c_move, c_pick, c_alloc, c_box, c_build, c_bslice, c_load, c_store, c_nilCheck, c_bin, c_binB, c_un, c_i2i, c_i2f, c_f2i, c_s2b, c_b2s, c_strId, c_mkfunc, c_mkslice, c_slice, c_sliceStr, c_fieldAddr, c_field, c_indexSl, c_indexArr, c_elemArr, c_indexStr, c_extract, c_lenStr, c_lenSl, c_append, c_real, c_imag, c_complex, c_min, c_max, c_clear, hl1, g2, g4, g6, g7, oN, oir, hc, h98, lenA, z0, o2', Int.reduceLT, K69_ret, decide_false]
          refine fin _ _ n rfl ?_ ?_ ?_ ?_ ?_ ?_
          · simp only [List.length_set, hl1]
          · simp only [gs_same, gs_ne, List.length_set, Nat.reduceLT, Nat.reduceEqDiff, not_false_eq_true, hl1, g4]
          · simp only [gs_same, gs_ne, List.length_set, Nat.reduceLT, Nat.reduceEqDiff, not_false_eq_true, hl1]
          · rw [List.getElem?_set_self (by simp; omega)]; rfl
          · rw [List.getElem?_set_ne (by omega)]; exact oir' _
          · refine ⟨by have := hbut.1; simp; omega, fun i hi hne => ?_⟩
            rw [List.getElem?_set_ne (by omega), List.getElem?_set_ne (by omega)]; exact hbut.2 i hi hne
        · simp only [if_neg hm0]
          have hpos : 0 < may'.length := List.length_pos_iff.2 hm0
          have hpos' : decide ((0 : Int) < (may'.length : Int)) = true := decide_eq_true (by omega)
          simp only [msOf, if_pos hpos] at h98
          have hwr := wrap_nat (i := at0 + n) (by omega)
          have hwrn := wrap_nat (i := n) (by omega)
          have hno : N + 4 ≠ ir := by omega
          have o4'' : ∀ o o', ((Hc.set (N + 3) o).set ir o')[N + 4]? = some (.obj none [[.im (.int .i64 (n : Int))]]) := fun o o' => by rw [List.getElem?_set_ne (by omega)]; exact o4' o
          simp only [x_seq, x_block, x_skip, x_label, x_cond, x_exit, x_goto, x_ret, k_normal, k_exit, k_goto, k_ret, b_normal, b_exit, b_goto, b_ret, wantedA, aop, ev, putA, List.length_cons, List.length_nil, List.replicate, List.cons_append, List.nil_append, List.append_nil, List.append_assoc, gs_same, gs_ne, gq_same, gq_ne, List.length_set, List.map_cons, List.map_nil, cellsOf, List.all_cons, List.all_nil, cellOk, boxTy, Bool.and_true, Bool.and_self, if_true, ite_true, ite_false, loadAt, storeAt, setAt, hget, hget0, hset, hset0, List.getElem?_cons_zero, List.getElem?_cons_succ, List.set_cons_zero, List.set_cons_succ, Nat.add_zero, Nat.zero_add, Nat.reduceAdd, Nat.reduceSub, Nat.reduceLeDiff, Nat.reduceLT, Nat.reduceEqDiff, Nat.le_refl, and_self, and_true, true_and, mkAgg, toIms, List.drop_zero, List.drop_succ_cons, List.take_succ_cons, List.take_zero, List.length_append, binBool, unA, Bool.false_eq_true, if_false, partA, fillA, fillE, List.take_nil, Nat.zero_ne_one, Nat.one_ne_zero, not_false_eq_true, ne_eq, Nat.succ_ne_self, reduceCtorEq, Int.reduceEq, Int.reduceLT, Int.reduceLE, decide_true, decide_false, lenA, beq_self_eq_true, beq_true, beq_false, Bool.not_true, Bool.not_false, b_lss, b_gtr, b_leq, b_geq, b_eql, b_neq, b_add, b_sub, b_mul, s_eql, s_neq, y_ops, y_nil, y_cons, y_guard, y_some, y_drop, y_do, y_not, y_not0, c_call, c_clo, c_move, c_pick, c_alloc, c_box, c_build, c_bslice, c_load, c_store, c_nilCheck, c_bin, c_binB, c_un, c_i2i, c_i2f, c_f2i, c_s2b, c_b2s, c_strId, c_mkfunc, c_mkslice, c_slice, c_sliceStr, c_fieldAddr, c_field, c_indexSl, c_indexArr, c_elemArr, c_indexStr, c_extract, c_lenStr, c_lenSl, c_append, c_real, c_imag, c_complex, c_min, c_max, c_clear, hl1, g2, g4, g6, g7, oN, oN', oir, oir', o4', o4'', hc, h98, lenA, hpos', hwr, hwrn, K69_goto0]
          refine ih may' rest' (n + 1) hm0 (by omega) ?_ (by omega) _ _ x y z ?_ ?_ ?_ ?_ ?_ ?_ ?_ ?_ ?_ ?_ ?_
          · intro w hw
            obtain ⟨h1, h2⟩ := hmem w hw
            have := hlens w h1
            have := (List.getElem?_eq_some_iff.1 h2).1
            omega
          · simp only [List.length_set, hl1]
          · simp only [gs_same, gs_ne, List.length_set, Nat.reduceLT, Nat.reduceEqDiff, not_false_eq_true, hl1, g2]
          · simp only [gs_same, gs_ne, List.length_set, Nat.reduceLT, Nat.reduceEqDiff, not_false_eq_true, hl1, g4]
          · simp only [gs_same, gs_ne, List.length_set, Nat.reduceLT, Nat.reduceEqDiff, not_false_eq_true, hl1]
          · simp only [gs_same, gs_ne, List.length_set, Nat.reduceLT, Nat.reduceEqDiff, not_false_eq_true, hl1, g7]
          · rw [List.getElem?_set_ne (by omega), List.getElem?_set_ne (by omega)]; exact oN' _
          · rw [List.getElem?_set_ne (by omega), List.getElem?_set_ne (by omega)]; exact o2' _
          · rw [List.getElem?_set_ne (by omega), List.getElem?_set_ne (by omega), List.getElem?_set_self (by omega)]
          · rw [List.getElem?_set_self (by simp; omega)]
          · rw [List.getElem?_set_ne (by omega), List.getElem?_set_self (by simp; omega)]; rfl
          · refine ⟨by have := hbut.1; simp; omega, fun i hi hne => ?_⟩
            rw [List.getElem?_set_ne (by omega), List.getElem?_set_ne (by omega), List.getElem?_set_ne (by omega)]; exact hbut.2 i hi hne
      · have hc : decide ((((at0 + n : Nat) : Nat) : Int) < (s.length : Int)) = false := decide_eq_false (by omega)
        have hsc : s[at0 + n]? = none := List.getElem?_eq_none (by omega)
        rw [hsc]
        simp only [x_seq, x_block, x_skip, x_label, x_cond, x_exit, x_goto, x_ret, k_normal, k_exit, k_goto, k_ret, b_normal, b_exit, b_goto, b_ret, wantedA, aop, ev, putA, List.length_cons, List.length_nil, List.replicate, List.cons_append, List.nil_append, List.append_nil, List.append_assoc, gs_same, gs_ne, gq_same, gq_ne, List.length_set, List.map_cons, List.map_nil, cellsOf, List.all_cons, List.all_nil, cellOk, boxTy, Bool.and_true, Bool.and_self, if_true, ite_true, ite_false, loadAt, storeAt, setAt, hget, hget0, hset, hset0, List.getElem?_cons_zero, List.getElem?_cons_succ, List.set_cons_zero, List.set_cons_succ, Nat.add_zero, Nat.zero_add, Nat.reduceAdd, Nat.reduceSub, Nat.reduceLeDiff, Nat.reduceLT, Nat.reduceEqDiff, Nat.le_refl, and_self, and_true, true_and, mkAgg, toIms, List.drop_zero, List.drop_succ_cons, List.take_succ_cons, List.take_zero, List.length_append, binBool, unA, Bool.false_eq_true, if_false, partA, fillA, fillE, List.take_nil, Nat.zero_ne_one, Nat.one_ne_zero, not_false_eq_true, ne_eq, Nat.succ_ne_self, reduceCtorEq, Int.reduceEq, Int.reduceLT, Int.reduceLE, decide_true, decide_false, lenA, beq_self_eq_true, beq_true, beq_false, Bool.not_true, Bool.not_false, b_lss, b_gtr, b_leq, b_geq, b_eql, b_neq, b_add, b_sub, b_mul, s_eql, s_neq, y_ops, y_nil, y_cons, y_guard, y_some, y_drop, y_do, y_not, y_not0, c_call, c_clo, c_move, c_pick, c_alloc, c_box, c_build, c_bslice, c_load, c_store, c_nilCheck, c_bin, c_binB, c_un, c_i2i, c_i2f, c_f2i, c_s2b, c_b2s, c_strId, c_mkfunc, c_mkslice, c_slice, c_sliceStr, c_fieldAddr, c_field, c_indexSl, c_indexArr, c_elemArr, c_indexStr, c_extract, c_lenStr, c_lenSl, c_append, c_real, c_imag, c_complex, c_min, c_max, c_clear, hl1, g2, g4, g6, g7, oN, oir, hc, o2, K69_ret]
        refine fin _ _ n rfl ?_ ?_ ?_ ?_ ?_ ?_
        · simp only [List.length_set, hl1]
        · simp only [gs_same, gs_ne, List.length_set, Nat.reduceLT, Nat.reduceEqDiff, not_false_eq_true, hl1, g4]
        · simp only [gs_same, gs_ne, List.length_set, Nat.reduceLT, Nat.reduceEqDiff, not_false_eq_true, hl1]
        · rw [List.getElem?_set_self (by omega)]; rfl
        · rw [List.getElem?_set_ne (by omega)]; exact oir
        · refine ⟨by have := hbut.1; simp; omega, fun i hi hne => ?_⟩
          rw [List.getElem?_set_ne (by omega)]; exact hbut.2 i hi hne

def mayW (d : Int) : List Word := words.filter fun w => !outW d w
def word69 (s : List UInt8) (at0 : Nat) (d : Int) : Nat × Option Word := wordGo (s.drop at0) 8 (mayW d) 0

theorem mayW_ne (d : Int) : mayW d ≠ [] := by
  have : ((1 : Int), ([98, 111, 111, 108] : List UInt8), (0 : Int)) ∈ mayW d := by
    simp only [mayW, List.mem_filter]
    exact ⟨by decide, by simp [outW]⟩
  exact List.ne_nil_of_mem this
theorem mayW_len (d : Int) : (mayW d).length ≤ 8 := List.length_filter_le _ _

/-- The reader's word. -/
theorem s69 (s : List UInt8) (at0 ir : Nat) (d : Int) (H : Heap) (hir : H[ir]? = some (.obj none [[.im (.str s), .im (.int .i64 (at0 : Int))]])) (hs : s.length ≤ 9223372036854775807) (hat : at0 ≤ s.length) :
    L 69 [.ptr ir 0 0, .im (.int .i64 d)] H = some (.tup [.im (.agg (datW (wordRes (word69 s at0 d).2))), .im (.bool (word69 s at0 d).2.isSome)], H.set ir (.obj none [[.im (.str s), .im (.int .i64 ((at0 + (word69 s at0 d).1 : Nat) : Int))]])) := by
  have hirl := (List.getElem?_eq_some_iff.1 hir).1
  rw [leq F69]
  have hK : ∀ (tm : List AV) (H' : Heap) (w : Word) (b : Bool) (o : HO), tm.length = 52 → tm.getD 4 undefA = .ptr (H.length + 2) 0 0 → tm.getD 5 undefA = .im (.bool b) → H'[H.length + 2]? = some (.obj none [encW w]) → But H.length ir H H' → H'[ir]? = some o → refsO H.length o = true →
      endK f69 H .ret tm H' = some (.tup [.im (.agg (datW w)), .im (.bool b)], H.set ir o) := fun tm H' w b o hl h4 h5 h2 hb ho hro => by
    have := leave_but (keep := false) (r := .tup [.im (.agg (datW w)), .im (.bool b)]) hb ho hro (by simp [degrade, degrade1, toDat, refsLt, refsLts]) hirl
    simp only [Bool.false_eq_true, if_false] at this
    have hd : degrade (.tup [.im (.agg (datW w)), .im (.bool b)]) = .tup [.im (.agg (datW w)), .im (.bool b)] := by simp [degrade, degrade1, toDat]
    rw [hd] at this
    simp only [encW] at h2
    simp only [datW] at this
    simp only [endK, f69, x_seq, x_block, x_skip, x_label, x_cond, x_exit, x_goto, x_ret, k_normal, k_exit, k_goto, k_ret, b_normal, b_exit, b_goto, b_ret, wantedA, aop, ev, putA, List.length_cons, List.length_nil, List.replicate, List.cons_append, List.nil_append, List.append_nil, List.append_assoc, gs_same, gs_ne, gq_same, gq_ne, List.length_set, List.map_cons, List.map_nil, cellsOf, List.all_cons, List.all_nil, cellOk, boxTy, Bool.and_true, Bool.and_self, if_true, ite_true, ite_false, loadAt, storeAt, setAt, hget, hget0, hset, hset0, List.getElem?_cons_zero, List.getElem?_cons_succ, List.set_cons_zero, List.set_cons_succ, Nat.add_zero, Nat.zero_add, Nat.reduceAdd, Nat.reduceSub, Nat.reduceLeDiff, Nat.reduceLT, Nat.reduceEqDiff, Nat.le_refl, and_self, and_true, true_and, mkAgg, toIms, List.drop_zero, List.drop_succ_cons, List.take_succ_cons, List.take_zero, List.length_append, binBool, unA, Bool.false_eq_true, if_false, partA, fillA, fillE, List.take_nil, Nat.zero_ne_one, Nat.one_ne_zero, not_false_eq_true, ne_eq, Nat.succ_ne_self, reduceCtorEq, Int.reduceEq, Int.reduceLT, Int.reduceLE, decide_true, decide_false, lenA, beq_self_eq_true, beq_true, beq_false, Bool.not_true, Bool.not_false, b_lss, b_gtr, b_leq, b_geq, b_eql, b_neq, b_add, b_sub, b_mul, s_eql, s_neq, y_ops, y_nil, y_cons, y_guard, y_some, y_drop, y_do, y_not, y_not0, c_call, c_clo, c_move, c_pick, c_alloc, c_box, c_build, c_bslice, c_load, c_store, c_nilCheck, c_bin, c_binB, c_un, c_i2i, c_i2f, c_f2i, c_s2b, c_b2s, c_strId, c_mkfunc, c_mkslice, c_slice, c_sliceStr, c_fieldAddr, c_field, c_indexSl, c_indexArr, c_elemArr, c_indexStr, c_extract, c_lenStr, c_lenSl, c_append, c_real, c_imag, c_complex, c_min, c_max, c_clear, resA, tupA, h4, h5, h2, this, datW]
  have hcode : f69.code = f69.code := rfl
  conv at hcode => rhs; simp only [f69]
  rw [hcode]
  clear hcode
  generalize endK f69 H = K at *
  obtain ⟨hlen, ha⟩ := enter_at (f := f69) (args := [.ptr ir 0 0, .im (.int .i64 d)]) (Nat.le_of_ble_eq_true rfl)
  have h0 := ha 0 _ rfl
  have h1 := ha 1 _ rfl
  generalize enterA f69 [.ptr ir 0 0, .im (.int .i64 d)] = tm at *
  change tm.length = 52 at hlen
  have hN : H.length = H.length := rfl
  have hda : ∀ M : Heap, (H ++ M)[ir]? = some (.obj none [[.im (.str s), .im (.int .i64 (at0 : Int))]]) := fun M => by rw [get_app hirl]; exact hir
  have hx : (H ++ [.obj none [[.ptr ir 0 0]], .obj none [[.im (.int .i64 d)]], .obj none [[.im (.int .i64 0), .im (.str []), .im (.int .i64 0)]], HO.obj none ((words ++ []).map encW)]).length = H.length + 4 := by simp
  obtain ⟨rest', h98⟩ := s98 words [] (H.length + 3) (H ++ [.obj none [[.ptr ir 0 0]], .obj none [[.im (.int .i64 d)]], .obj none [[.im (.int .i64 0), .im (.str []), .im (.int .i64 0)]], HO.obj none ((words ++ []).map encW)])
    (by rw [hget]; rfl) (outW d) 99 [.ptr (H.length + 1) 0 0] (by
      intro w hw H' hH' hl'
      rw [hx] at hH'
      exact s99 w (H.length + 1) d H' (by rw [hH' _ (by omega) (by omega), hget]; rfl)) (by decide) (by decide)
  have hfm : words.filter (fun w => !outW d w) = mayW d := rfl
  have hw8 : words.length = 8 := rfl
  have hpos : 0 < (mayW d).length := List.length_pos_iff.2 (mayW_ne d)
  rw [hfm, hw8] at h98
  simp only [msOf, if_pos hpos, List.append_nil] at h98
  have hmem : ∀ w ∈ mayW d, w ∈ words := fun w hw => (List.mem_filter.1 hw).1
  have hml := mayW_len d
  simp only [e69_1, c69_1_eq, s69b, x_seq, x_block, x_skip, x_label, x_cond, x_exit, x_goto, x_ret, k_normal, k_exit, k_goto, k_ret, b_normal, b_exit, b_goto, b_ret, wantedA, aop, ev, putA, List.length_cons, List.length_nil, List.replicate, List.cons_append, List.nil_append, List.append_nil, List.append_assoc, gs_same, gs_ne, gq_same, gq_ne, List.length_set, List.map_cons, List.map_nil, cellsOf, List.all_cons, List.all_nil, cellOk, boxTy, Bool.and_true, Bool.and_self, if_true, ite_true, ite_false, loadAt, storeAt, setAt, hget, hget0, hset, hset0, List.getElem?_cons_zero, List.getElem?_cons_succ, List.set_cons_zero, List.set_cons_succ, Nat.add_zero, Nat.zero_add, Nat.reduceAdd, Nat.reduceSub, Nat.reduceLeDiff, Nat.reduceLT, Nat.reduceEqDiff, Nat.le_refl, and_self, and_true, true_and, mkAgg, toIms, List.drop_zero, List.drop_succ_cons, List.take_succ_cons, List.take_zero, List.length_append, binBool, unA, Bool.false_eq_true, if_false, partA, fillA, fillE, List.take_nil, Nat.zero_ne_one, Nat.one_ne_zero, not_false_eq_true, ne_eq, Nat.succ_ne_self, reduceCtorEq, Int.reduceEq, Int.reduceLT, Int.reduceLE, decide_true, decide_false, lenA, beq_self_eq_true, beq_true, beq_false, Bool.not_true, Bool.not_false, b_lss, b_gtr, b_leq, b_geq, b_eql, b_neq, b_add, b_sub, b_mul, s_eql, s_neq, y_ops, y_nil, y_cons, y_guard, y_some, y_drop, y_do, y_not, y_not0, c_call, c_clo, c_move, c_pick, c_alloc, c_box, c_build, c_bslice, c_load, c_store, c_nilCheck, c_bin, c_binB, c_un, c_i2i, c_i2f, c_f2i, c_s2b, c_b2s, c_strId, c_mkfunc, c_mkslice, c_slice, c_sliceStr, c_fieldAddr, c_field, c_indexSl, c_indexArr, c_elemArr, c_indexStr, c_extract, c_lenStr, c_lenSl, c_append, c_real, c_imag, c_complex, c_min, c_max, c_clear, hlen, h0, h1, s72, h98]
  rw [← g69_0_eq]
  generalize hr : thenL _ _ = r
  have key := g69 s at0 ir H.length H rfl hirl hs hat 8 (mayW d) rest' 0 (mayW_ne d) hml (fun w hw => by have := word_len w (hmem w hw); omega) (by omega)
  refine Exists.elim (thenL_inv hr (ret_ex (key _ _ (.im (.int .i64 0)) (.im (.str [])) (.im (.int .i64 0)) ?_ ?_ ?_ ?_ ?_ ?_ ?_ ?_ ?_ ?_ ?_))) ?_
  · simp only [List.length_set, hlen]
  iterate 4 simp only [gs_same, gs_ne, List.length_set, Nat.reduceLT, Nat.reduceEqDiff, not_false_eq_true, hlen]
  · rw [hget0]; rfl
  · rw [hget]; rfl
  · rw [hget]; rfl
  · rw [hget]; rfl
  · exact hda _
  · exact But.refl.app (Nat.le_refl _) _
  · rintro e ⟨tm1, H1, ⟨rfl, hl1, g4, g5, g2, gir, hb⟩, rfl⟩
    exact hK _ _ _ _ _ hl1 g4 g5 g2 hb gir rfl

end Go.Abs.Seat
end
