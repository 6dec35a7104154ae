/- Part 3 of what the claim rests on. -/
import Derived.Lib.Bytealg
import Derived.Test.YtadhcgjcgfejcaaGreatDoorLinesA
import Derived.Test.YtadhcgjcgfejcaaGreatDoorLinesB
section
set_option linter.unusedVariables false
set_option linter.unusedSimpArgs false
namespace Go.Abs
section
variable {R : Type} {Φ : Oracle} {Λ : ACode → List AV → Heap → Option Out}
def yops (Φ : Oracle) : List AOper → List AV → Heap → (List AV → Heap → Option R) → Option R
 | [], tm, H, K => K tm H
 | o :: os, tm, H, K => match wantedA tm o.guard with
  | some true => match aopc Φ H tm o.op with
   | some (v, H') => yops Φ os (putA tm o.dst v) H' K
   | none => none
  | some false => yops Φ os (putA tm o.dst undefA) H K
  | none => none
theorem xops_yops {K : List AV → Heap → Option R} : ∀ {os : List AOper} {tr : List (List AV × Heap)} {tm : List AV} {H : Heap}, xops Φ os tr tm H (fun _ tm H => K tm H) = yops Φ os tm H K
 | [], tr, tm, H => rfl
 | o :: os, tr, tm, H => by
  simp only [xops,yops]
  cases wantedA tm o.guard with
  | none => rfl
  | some b =>
   cases b with
   | false => exact xops_yops
   | true =>
    simp only
    cases aopc Φ H tm o.op with
    | none => rfl
    | some p => exact xops_yops
def yK (Φ : Oracle) (os : List AOper) (dst : Option Nat) (tm : List AV) (K : List AV → Heap → Option R) : Option (AV × Heap) → Option R
 | some (v, H') => yops Φ os (putA tm dst v) H' K
 | none => none
def yG (Φ : Oracle) (os : List AOper) (dst : Option Nat) (op : AOp) (tm : List AV) (H : Heap) (K : List AV → Heap → Option R) : Option Bool → Option R
 | some true => yK Φ os dst tm K (aopc Φ H tm op)
 | some false => yops Φ os (putA tm dst undefA) H K
 | none => none
variable {os : List AOper} {dst : Option Nat} {op : AOp} {tm : List AV} {H H' : Heap} {K : List AV → Heap → Option R} {v : AV} {g : Nat × Bool} {d : Nat} {b : Bool}
theorem y_ops {l : List AOper} {K : AEx → List AV → Heap → Option R} : exec0 Φ Λ (.ops l []) tm H K = yops Φ l tm H (K .normal) := by
 rw [x_ops]
 simp only [xreg]
 exact xops_yops
theorem y_nil : yops Φ [] tm H K = K tm H := _root_.id rfl
theorem y_cons : yops Φ (⟨dst, op, none⟩ :: os) tm H K = yK Φ os dst tm K (aopc Φ H tm op) := by
 simp only [yops,wantedA]
 cases aopc Φ H tm op <;> rfl
theorem y_guard : yops Φ (⟨dst, op, some g⟩ :: os) tm H K = yG Φ os dst op tm H K (wantedA tm (some g)) := by
 simp only [yops]
 cases wantedA tm (some g) with
 | none => rfl
 | some b => cases b <;> simp only [yG,yK] <;> first | rfl | (cases aopc Φ H tm op <;> rfl)
theorem y_some : yK Φ os (some d) tm K (some (v, H')) = yops Φ os (tm.set d v) H' K := _root_.id rfl
theorem y_drop : yK Φ os none tm K (some (v, H')) = yops Φ os tm H' K := _root_.id rfl
theorem y_do : yG Φ os dst op tm H K (some true) = yK Φ os dst tm K (aopc Φ H tm op) := _root_.id rfl
theorem y_not : yG Φ os (some d) op tm H K (some false) = yops Φ os (tm.set d (.tup [])) H K := _root_.id rfl
theorem y_not0 : yG Φ os none op tm H K (some false) = yops Φ os tm H K := _root_.id rfl
def yC (Φ : Oracle) (H : Heap) (args : List AV) : AV → Option (AV × Heap)
 | .clo g cap => Φ g (args ++ cap) H
 | _ => none
theorem dgA_no (a : AV) : dgA false a = a := _root_.id rfl
theorem c_call {f : AOpd} {args : List AOpd} : aopc Φ H tm (.call false f args) = yC Φ H (args.map (ev tm)) (ev tm f) := by
 simp only [aopc,dgA_no]
 cases ev tm f <;> rfl
theorem c_callD {f : AOpd} {args : List AOpd} : aopc Φ H tm (.call true f args) = yC Φ H (args.map (fun x => dgA true (ev tm x))) (ev tm f) := by
 simp only [aopc]
 cases ev tm f <;> rfl
theorem c_bsliceA {ty : TypeId} {s n : Nat} {z : List AV} {parts : List (Nat × AOpd)} : aopc Φ H tm (.bsliceA ty s n z parts) = aop H (ev tm) (.bsliceA ty s n z parts) := by simp only [aopc]
theorem c_clo {f : FuncId} {args cap : List AV} : yC Φ H args (.clo f cap) = Φ f (args ++ cap) H := _root_.id rfl
theorem c_move {x : AOpd} : aopc Φ H tm (.move x) = aop H (ev tm) (.move x) := by simp only [aopc]
theorem c_pick {c a b : AOpd} : aopc Φ H tm (.pick c a b) = aop H (ev tm) (.pick c a b) := by simp only [aopc]
theorem c_alloc {ty : Option (TypeId × Nat)} {z : List AV} : aopc Φ H tm (.alloc ty z) = aop H (ev tm) (.alloc ty z) := by simp only [aopc]
theorem c_box {ty : Option TypeId} {x : AOpd} : aopc Φ H tm (.box ty x) = aop H (ev tm) (.box ty x) := by simp only [aopc]
theorem c_build {z : List AV} {parts : List (Nat × Nat × AOpd)} : aopc Φ H tm (.build z parts) = aop H (ev tm) (.build z parts) := by simp only [aopc]
theorem c_bslice {mu : Bool} {s n : Nat} {z : List AV} {parts : List (Nat × AOpd)} : aopc Φ H tm (.bslice mu s n z parts) = aop H (ev tm) (.bslice mu s n z parts) := by simp only [aopc]
theorem c_load {k : Option Nat} {x : AOpd} : aopc Φ H tm (.load k x) = aop H (ev tm) (.load k x) := by simp only [aopc]
theorem c_store {k : Nat} {x v : AOpd} : aopc Φ H tm (.store k x v) = aop H (ev tm) (.store k x v) := by simp only [aopc]
theorem c_nilCheck {x : AOpd} : aopc Φ H tm (.nilCheck x) = aop H (ev tm) (.nilCheck x) := by simp only [aopc]
theorem c_bin {op : BinOp} {x y : AOpd} : aopc Φ H tm (.bin op x y) = aop H (ev tm) (.bin op x y) := by simp only [aopc]
theorem c_binB {op : BinOp} {x y : AOpd} : aopc Φ H tm (.binB op x y) = aop H (ev tm) (.binB op x y) := by simp only [aopc]
theorem c_un {op : UnOp} {x : AOpd} : aopc Φ H tm (.un op x) = aop H (ev tm) (.un op x) := by simp only [aopc]
theorem c_i2i {k : IntKind} {x : AOpd} : aopc Φ H tm (.i2i k x) = aop H (ev tm) (.i2i k x) := by simp only [aopc]
theorem c_i2f {k : FloatKind} {x : AOpd} : aopc Φ H tm (.i2f k x) = aop H (ev tm) (.i2f k x) := by simp only [aopc]
theorem c_f2i {k : IntKind} {x : AOpd} : aopc Φ H tm (.f2i k x) = aop H (ev tm) (.f2i k x) := by simp only [aopc]
theorem c_s2b {x : AOpd} : aopc Φ H tm (.s2b x) = aop H (ev tm) (.s2b x) := by simp only [aopc]
theorem c_b2s {x : AOpd} : aopc Φ H tm (.b2s x) = aop H (ev tm) (.b2s x) := by simp only [aopc]
theorem c_strId {x : AOpd} : aopc Φ H tm (.strId x) = aop H (ev tm) (.strId x) := by simp only [aopc]
theorem c_rangeS {x : AOpd} : aopc Φ H tm (.rangeS x) = aop H (ev tm) (.rangeS x) := by simp only [aopc]
theorem c_nextS {x : AOpd} : aopc Φ H tm (.nextS x) = aop H (ev tm) (.nextS x) := by simp only [aopc]
theorem c_i2s {x : AOpd} : aopc Φ H tm (.i2s x) = aop H (ev tm) (.i2s x) := by simp only [aopc]
theorem c_mkfunc {f : FuncId} {cap : List AOpd} : aopc Φ H tm (.mkfunc f cap) = aop H (ev tm) (.mkfunc f cap) := by simp only [aopc]
theorem c_mkslice {bytes s : Nat} {z : List AV} {len cap : AOpd} : aopc Φ H tm (.mkslice bytes s z len cap) = aop H (ev tm) (.mkslice bytes s z len cap) := by simp only [aopc]
theorem c_slice {s : Nat} {x : AOpd} {lo hi mx : Option AOpd} : aopc Φ H tm (.slice s x lo hi mx) = aop H (ev tm) (.slice s x lo hi mx) := by simp only [aopc]
theorem c_sliceStr {x : AOpd} {lo hi : Option AOpd} : aopc Φ H tm (.sliceStr x lo hi) = aop H (ev tm) (.sliceStr x lo hi) := by simp only [aopc]
theorem c_fieldAddr {off : Nat} {x : AOpd} : aopc Φ H tm (.fieldAddr off x) = aop H (ev tm) (.fieldAddr off x) := by simp only [aopc]
theorem c_field {off : Nat} {k : Option Nat} {x : AOpd} : aopc Φ H tm (.field off k x) = aop H (ev tm) (.field off k x) := by simp only [aopc]
theorem c_indexSl {s : Nat} {x i : AOpd} : aopc Φ H tm (.indexSl s x i) = aop H (ev tm) (.indexSl s x i) := by simp only [aopc]
theorem c_indexArr {len size : Nat} {x i : AOpd} : aopc Φ H tm (.indexArr len size x i) = aop H (ev tm) (.indexArr len size x i) := by simp only [aopc]
theorem c_elemArr {len size : Nat} {k : Option Nat} {x i : AOpd} : aopc Φ H tm (.elemArr len size k x i) = aop H (ev tm) (.elemArr len size k x i) := by simp only [aopc]
theorem c_indexStr {x i : AOpd} : aopc Φ H tm (.indexStr x i) = aop H (ev tm) (.indexStr x i) := by simp only [aopc]
theorem c_extract {i : Nat} {x : AOpd} : aopc Φ H tm (.extract i x) = aop H (ev tm) (.extract i x) := by simp only [aopc]
theorem c_lenStr {x : AOpd} : aopc Φ H tm (.lenStr x) = aop H (ev tm) (.lenStr x) := by simp only [aopc]
theorem c_lenSl {x : AOpd} : aopc Φ H tm (.lenSl x) = aop H (ev tm) (.lenSl x) := by simp only [aopc]
theorem c_append {ty : TypeId} {bytes s : Nat} {x y : AOpd} : aopc Φ H tm (.append ty bytes s x y) = aop H (ev tm) (.append ty bytes s x y) := by simp only [aopc]
theorem c_appendM {bytes s : Nat} {x y : AOpd} : aopc Φ H tm (.appendM bytes s x y) = aop H (ev tm) (.appendM bytes s x y) := by simp only [aopc]
theorem c_binN {op : BinOp} {x y : AOpd} : aopc Φ H tm (.binN op x y) = aop H (ev tm) (.binN op x y) := by simp only [aopc]
theorem c_binZ {i : Bool} {op : BinOp} {x y : AOpd} : aopc Φ H tm (.binZ i op x y) = aop H (ev tm) (.binZ i op x y) := by simp only [aopc]
theorem c_binS {op : BinOp} {ks : List Nat} {x y : AOpd} : aopc Φ H tm (.binS op ks x y) = aop H (ev tm) (.binS op ks x y) := by simp only [aopc]
theorem c_real {x : AOpd} : aopc Φ H tm (.real x) = aop H (ev tm) (.real x) := by simp only [aopc]
theorem c_imag {x : AOpd} : aopc Φ H tm (.imag x) = aop H (ev tm) (.imag x) := by simp only [aopc]
theorem c_complex {x y : AOpd} : aopc Φ H tm (.complex x y) = aop H (ev tm) (.complex x y) := by simp only [aopc]
theorem c_min {x y : AOpd} : aopc Φ H tm (.min x y) = aop H (ev tm) (.min x y) := by simp only [aopc]
theorem c_max {x y : AOpd} : aopc Φ H tm (.max x y) = aop H (ev tm) (.max x y) := by simp only [aopc]
theorem c_clear {s : Nat} {z : List AV} {x : AOpd} : aopc Φ H tm (.clear s z x) = aop H (ev tm) (.clear s z x) := by simp only [aopc]
end
end Go.Abs
end
section
set_option linter.unusedVariables false
set_option linter.unusedSimpArgs false
namespace Go.Abs
def But (n id : Nat) (H H' : Heap) : Prop := H.length ≤ H'.length ∧ ∀ i, i < n → i ≠ id → H'[i]? = H[i]?
theorem But.refl {n id : Nat} {A : Heap} : But n id A A := ⟨Nat.le_refl _, fun _ _ _ => rfl⟩
theorem But.app {n id : Nat} {A B : Heap} (h : But n id A B) (hn : n ≤ A.length) (M : Heap) : But n id A (B ++ M) :=
 ⟨by have := h.1; simp; omega, fun i hi hne => by rw [List.getElem?_append_left (by have := h.1; omega)]; exact h.2 i hi hne⟩
theorem But.set {n id : Nat} {A B : Heap} (h : But n id A B) (o : HO) : But n id A (B.set id o) :=
 ⟨by simpa using h.1, fun i hi hne => by rw [List.getElem?_set_ne (fun e => hne e.symm)]; exact h.2 i hi hne⟩
theorem But.trans {n id : Nat} {A B C : Heap} (h : But n id A B) (k : But n id B C) : But n id A C :=
 ⟨Nat.le_trans h.1 k.1, fun i hi hne => (k.2 i hi hne).trans (h.2 i hi hne)⟩
theorem But.less {n m id : Nat} {A B : Heap} (h : But n id A B) (hm : m ≤ n) : But m id A B := ⟨h.1, fun i hi hne => h.2 i (by omega) hne⟩
theorem leave_but {id : Nat} {H H' : Heap} {keep : Bool} {r : AV} {o : HO} (hb : But H.length id H H') (ho : H'[id]? = some o) (hro : refsO H.length o = true) (hr : refsLt H.length (if keep then r else degrade r) = true) (hid : id < H.length) :
  leave H keep r H' = (if keep then r else degrade r, H.set id o) := by
 have hh : heldIn H H' := fun i hi => by
  by_cases h : i = id
  ·subst h; exact .inr ⟨o, ho, hro⟩
  ·exact .inl (hb.2 i hi h)
 unfold leave
 rw [if_pos ⟨hr, hh⟩]
 congr 1
 apply List.ext_getElem?
 intro i
 rw [List.getElem?_take]
 by_cases hi : i < H.length
 ·rw [if_pos hi]
  by_cases h : i = id
  ·subst h; rw [ho, List.getElem?_set_self hi]
  ·rw [hb.2 i hi h, List.getElem?_set_ne (fun e => h e.symm)]
 ·rw [if_neg hi, List.getElem?_eq_none (by simpa using hi)]
theorem thenL_inv {R : Type} {o : Option Out} {K : AEx → List AV → Heap → Option R} {r : Option R} {Q : AEx → List AV → Heap → Prop} (hr : thenL o K = r) (h : ∃ e tm H, o = some (e, tm, H) ∧ Q e tm H) : ∃ e tm H, Q e tm H ∧ K e tm H = r := by
 obtain ⟨e, tm, H, rfl, hq⟩ := h
 exact ⟨e, tm, H, hq, hr⟩
theorem ret_ex {o : Option Out} {Q : List AV → Heap → Prop} (h : ∃ tm H, o = some (.ret, tm, H) ∧ Q tm H) : ∃ e tm H, o = some (e, tm, H) ∧ (e = .ret ∧ Q tm H) := by
 obtain ⟨tm, H, h, hq⟩ := h
 exact ⟨_, tm, H, h, rfl, hq⟩
section
variable {R : Type} {Φ : Oracle} {Λ : ACode → List AV → Heap → Option Out}
def zK (Φ : Oracle) (os : List AOper) (dst : Option Nat) (tr : List (List AV × Heap)) (tm : List AV) (H : Heap) (K : List (List AV × Heap) → List AV → Heap → Option R) : Option (AV × Heap) → Option R
 | some (v, H') => xops Φ os ((tm, H) :: tr) (putA tm dst v) H' K
 | none => none
def zG (Φ : Oracle) (os : List AOper) (dst : Option Nat) (op : AOp) (tr : List (List AV × Heap)) (tm : List AV) (H : Heap) (K : List (List AV × Heap) → List AV → Heap → Option R) : Option Bool → Option R
 | some true => zK Φ os dst tr tm H K (aopc Φ H tm op)
 | some false => xops Φ os ((tm, H) :: tr) (putA tm dst undefA) H K
 | none => none
open Classical in
noncomputable def pairK (l : List AOper) (ps : List (Nat × Nat)) (K : List AV → Heap → Option R) (tr : List (List AV × Heap)) (tm : List AV) (H : Heap) : Option R :=
 if ∀ q ∈ ps, stays l (((tm, H) :: tr).reverse) q then K tm H else none
variable {os : List AOper} {dst : Option Nat} {op : AOp} {tr : List (List AV × Heap)} {tm : List AV} {H H' : Heap} {K : List (List AV × Heap) → List AV → Heap → Option R} {v : AV} {g : Nat × Bool} {d : Nat} {b : Bool}
theorem z_ops {l : List AOper} {p : Nat × Nat} {ps : List (Nat × Nat)} {K : AEx → List AV → Heap → Option R} : exec0 Φ Λ (.ops l (p :: ps)) tm H K = xops Φ l [] tm H (pairK l (p :: ps) (K .normal)) := by
 rw [x_ops]
 rfl
theorem z_nil : xops Φ [] tr tm H K = K tr tm H := _root_.id rfl
theorem z_cons : xops Φ (⟨dst, op, none⟩ :: os) tr tm H K = zK Φ os dst tr tm H K (aopc Φ H tm op) := by
 simp only [xops,wantedA]
 cases aopc Φ H tm op <;> rfl
theorem z_guard : xops Φ (⟨dst, op, some g⟩ :: os) tr tm H K = zG Φ os dst op tr tm H K (wantedA tm (some g)) := by
 simp only [xops]
 cases wantedA tm (some g) with
 | none => rfl
 | some b => cases b <;> simp only [zG,zK] <;> first | rfl | (cases aopc Φ H tm op <;> rfl)
theorem z_some : zK Φ os (some d) tr tm H K (some (v, H')) = xops Φ os ((tm, H) :: tr) (tm.set d v) H' K := _root_.id rfl
theorem z_drop : zK Φ os none tr tm H K (some (v, H')) = xops Φ os ((tm, H) :: tr) tm H' K := _root_.id rfl
theorem z_do : zG Φ os dst op tr tm H K (some true) = zK Φ os dst tr tm H K (aopc Φ H tm op) := _root_.id rfl
theorem z_not : zG Φ os (some d) op tr tm H K (some false) = xops Φ os ((tm, H) :: tr) (tm.set d (.tup [])) H K := _root_.id rfl
theorem z_not0 : zG Φ os none op tr tm H K (some false) = xops Φ os ((tm, H) :: tr) tm H K := _root_.id rfl
end
theorem set_same {α : Type} {l : List α} {i : Nat} {x : α} (h : l[i]? = some x) : l.set i x = l := by
 apply List.ext_getElem?
 intro j
 by_cases hj : i = j
 ·subst hj; rw [h, List.getElem?_set_self (List.getElem?_eq_some_iff.1 h).1]
 ·rw [List.getElem?_set_ne hj]
theorem Gath.grow {ty : TypeId} {s bytes n : Nat} {v : AV} {H : Heap} {es : List (List Dat)} (h : Gath ty s n v H es) (hn : n ≤ H.length) (y : List Dat) (hb : (es.length + 1) * bytes ≤ 2 ^ 46) (hb0 : 0 < bytes) :
  ∃ (tok : Nat) (H' : Heap), appendA H ty bytes s v [y] = some (.asl s (es ++ [y]) tok, H') ∧ Gath ty s n (.asl s (es ++ [y]) tok) H' (es ++ [y]) ∧ H.length ≤ H'.length ∧ (∀ i, i < n → H'[i]? = H[i]?) ∧ (∀ (i : Nat) (t : Option (TypeId × Nat)) (xs : List (List AV)), H[i]? = some (HO.obj t xs) → H'[i]? = some (HO.obj t xs)) := by
 rcases h with ⟨rfl, rfl⟩ | ⟨h1, tok, h2, rfl, h4⟩
 ·refine ⟨H.length, H ++ [.hw ty 1], ?_, .inr ⟨by simp, H.length, hn, rfl, by rw [hget0]; rfl⟩, by simp, fun i hi => List.getElem?_append_left (by omega), fun i t xs hi => by rw [List.getElem?_append_left (List.getElem?_eq_some_iff.1 hi).1]; exact hi⟩
  simp only [appendA,List.length_nil,Nat.zero_add]
  rw [if_pos ⟨by simpa using hb, hb0⟩]
  rfl
 ·have hlt := (List.getElem?_eq_some_iff.1 h4).1
  refine ⟨tok, H.set tok (.hw ty (es.length + 1)), ?_, .inr ⟨by simp, tok, h2, rfl, ?_⟩, by simp, fun i hi => List.getElem?_set_ne (by omega), fun i t xs hi => ?_⟩
  ·simp only [appendA,h4,List.length_cons,List.length_nil,Nat.zero_add]
   rw [if_pos ⟨trivial, trivial, hb, hb0, trivial⟩]
  ·rw [List.getElem?_set_self hlt]
   simp
  ·have : tok ≠ i := fun e => by subst e; rw [h4] at hi; simp at hi
   rw [List.getElem?_set_ne this]; exact hi
theorem leave_deg {H M : Heap} {r r' : AV} (hd : degrade r = r') (hr : refsLt H.length r' = true) : leave H false r (H ++ M) = (r', H) := by
 unfold leave
 have e : (if (false : Bool) = true then r else degrade r) = r' := by simp [hd]
 rw [e, if_pos ⟨hr, heldIn_app H M⟩, htake]
end Go.Abs
end
section
set_option linter.unusedVariables false
set_option linter.unusedSimpArgs false
namespace Go.Abs
structure Cmps (P : Program) (cs : FuncId) : Prop where
 enters : Enters P cs
 cmp : ∀ (a b : ByteArray) (w : World), Calls P cs #[.string a, .string b] w fun e w' => e = .returned (.int .i64 (Lib.compareBytes a.data.toList b.data.toList)) ∧ w' = w
theorem lim_at {Ψ : Oracle} (hΨ : ∀ n H0, n = H0.length → ShO n H0 Ψ Ψ) {T F : FuncId → Option AFunc} (hT : ∀ f af, T f = some af → F f = some af ∧ closedC af.code = true) (hn : ∀ f, T f = none → F f = none ∨ ∀ args H, Ψ f args H = none)
  {k : Nat} {f : FuncId} {d : Dat} (h : runC Ψ T k f [] [] = some (.im d, [])) (H : Heap) : Lim Ψ F f [] H = some (.im d, H) := by
 have h1 := runC_le (F := T) (fun f af hf => hf) (fun f hf => .inl hf) k _ _ _ _ h
 have h2 := runF_sh (n := H.length) (H0 := H) rfl (hΨ _ _ rfl) (fun f af hf => (hT f af hf).2) k _ _ _ _ _ h1
 have h3 := runF_le (fun f af hf => (hT f af hf).1) hn k _ _ _ _ h2
 simp only [List.map_nil,shH,List.append_nil,sh] at h3
 exact lim_iff.2 ⟨k, h3⟩
end Go.Abs
end
section
set_option linter.unusedVariables false
set_option linter.unusedSimpArgs false
namespace Go.Abs
def ccE (ok : TypeId × Nat → Bool) : List AV → Heap → Option (AV × Heap)
 | [.ptr id 0 0], H => match H[id]? with
  | some (.obj (some ty) [a0 :: rest]) => if ok ty = true then match a0 with
    | .im .nilp => some (.tup [], H.set id (.obj (some ty) [.ptr id 0 0 :: rest]))
    | .ptr id' 0 0 => if id' = id then some (.tup [], H) else none
    | _ => none
   else none
  | _ => none
 | _, _ => none
def stE (ok : TypeId × Nat → Bool) (tb : TypeId) : List AV → Heap → Option (AV × Heap)
 | [.ptr id 0 0], H => match H[id]? with
  | some (.obj (some ty) [_ :: .asl s es tok :: _]) => match H[tok]?, bytesE es with
   | some (.hw ty' n), some l => if ok ty = true ∧ ty' = tb ∧ n = es.length ∧ s = 1 ∧ 0 < l.length ∧ l.length ≤ 2 ^ 62 then some (.im (.str l), H.set tok (.hw ty' (n + 1))) else none
   | _, _ => none
  | _ => none
 | _, _ => none
def strO (cc st : FuncId) (ok : TypeId × Nat → Bool) (tb : TypeId) (Ψ : Oracle) : Oracle := fun f args H => if f = cc then ccE ok args H else if f = st then stE ok tb args H else Ψ f args H
structure Emb (P : Program) (cc st : FuncId) (ok : TypeId × Nat → Bool) (tb : TypeId) : Prop where
 ecc : Enters P cc
 est : Enters P st
 used : ∀ (b : Nat) (w : World), w.cell? ⟨b, 0, none⟩ = some (.pointer (some ⟨b, 0, none⟩)) → Calls P cc #[.pointer (some ⟨b, 0, none⟩)] w fun e w' => e = .returned (.tuple #[]) ∧ w' = w
 fresh : ∀ (b : Nat) (ty : TypeId × Nat) (w : World), ok ty = true → w.cell? ⟨b, 0, none⟩ = some (.pointer none) → w.shape? b = some ty → w.frozen? ⟨b, 0, none⟩ = false →
  Calls P cc #[.pointer (some ⟨b, 0, none⟩)] w fun e w' => e = .returned (.tuple #[]) ∧ w' = w.setCell ⟨b, 0, none⟩ (.pointer (some ⟨b, 0, none⟩))
 text : ∀ (b g o c cells : Nat) (l : List UInt8) (w : World), w.cell? ⟨b, 1, none⟩ = some (.slice (some ⟨g, o, none⟩) l.length c) → l ≠ [] → l.length ≤ c → l.length ≤ 2 ^ 62 → w.shape? g = some (tb, cells) → o + l.length ≤ cells →
  (∀ j x, l[j]? = some x → w.cell? ⟨g, o + j, none⟩ = some (.int .u8 x.toNat)) →
  Calls P st #[.pointer (some ⟨b, 0, none⟩)] w fun e w' => e = .returned (.string ⟨l.toArray⟩) ∧ w' = w.drew.freeze ⟨g, o, none⟩ l.length
section
variable {P : Program} {cc st : FuncId} {ok : TypeId × Nat → Bool} {tb : TypeId} {B : Low}
theorem ccE_sound (K : Emb P cc st ok tb) {args : List AV} {H : Heap} {r : AV} {H' : Heap} (h : ccE ok args H = some (r, H')) : CallsA P B cc args H r H' := by
 refine ⟨K.ecc, fun E vs I hE hr => ?_⟩
 subst hE
 unfold ccE at h
 split at h
 ·rename_i _ _ id
  split at h
  ·rename_i ty a0 rest hid
   split at h
   ·rename_i hty
    simp only [RelAs] at hr
    obtain ⟨v, r0, rfl, hv, rfl⟩ := hr
    simp only [RelA,Nat.zero_mul,Nat.add_zero] at hv
    obtain ⟨rfl, _⟩ := hv
    obtain ⟨own, nS, hO⟩ := I.obj id _ _ hid
    obtain ⟨x, hx, hT⟩ := own.shape
    have hx2 : (E.m id).2.1 = 0 ∧ x = ty := by
     rcases hT with hT | hT
     ·simp at hT
     ·exact ⟨hT.2, by simpa using hT.1.symm⟩
    obtain ⟨hoff, rfl⟩ := hx2
    obtain ⟨hs, hcells⟩ := hO 0 _ rfl
    obtain ⟨u0, hu0, hr0, _⟩ := hcells 0 a0 rfl
    simp only [hoff,Nat.zero_mul,Nat.add_zero,Nat.zero_add] at hu0 ⊢
    split at h
    ·simp only [Option.some.injEq,Prod.mk.injEq] at h
     obtain ⟨rfl, rfl⟩ := h
     simp only [RelA,RelD] at hr0
     subst hr0
     refine (K.fresh _ _ E.w hty hu0 hx (own.free 0 (Nat.le_refl _))).mono fun e w' he => ?_
     obtain ⟨rfl, rfl⟩ := he
     have X := ext_write (es' := [.ptr id 0 0 :: rest]) I hid 0 [.pointer (some ⟨(E.m id).1, 0, none⟩)]
     have hO' : RelO ⟨E.w.setCells (E.m id).1 0 [.pointer (some ⟨(E.m id).1, 0, none⟩)], E.S, E.m, E.H.set id (.obj (some x) [.ptr id 0 0 :: rest])⟩ [.ptr id 0 0 :: rest] (E.m id).1 (E.m id).2.1 (E.m id).2.2 := by
      intro i e he
      cases i with
      | succ i => simp at he
      | zero =>
       simp at he; subst he
       refine ⟨by simpa using hs, fun j a ha => ?_⟩
       match j, ha with
       | 0, ha =>
        simp at ha; subst ha
        refine ⟨.pointer (some ⟨(E.m id).1, 0, none⟩), ?_, ?_, by simp [cellOk]⟩
        ·simp only [hoff,Nat.zero_mul,Nat.add_zero,World.setCells]
         exact World.cell?_setCell_same _ _ _ hu0
        ·simp only [RelA,hoff,Nat.zero_mul,Nat.add_zero]
         exact ⟨trivial, by simpa using (X.obj id (isObj_mk hid)).1⟩
       | j + 1, ha =>
        obtain ⟨u1, hu1, hr1, hk1⟩ := hcells (j + 1) a (by simpa using ha)
        simp only [hoff,Nat.zero_mul,Nat.zero_add] at hu1
        refine ⟨u1, ?_, relA_ext X a u1 hr1, hk1⟩
        simp only [hoff,Nat.zero_mul,Nat.zero_add,World.setCells]
        rw [World.cell?_setCell_other _ _ _ _ (by simp)]
        exact hu1
     obtain ⟨I', X'⟩ := I.store hid 0 [.pointer (some ⟨(E.m id).1, 0, none⟩)] hO'
     exact ⟨_, _, rfl, rfl, rfl, I', X', by simp only [RelA,RelAs]; exact ⟨[], rfl, rfl⟩⟩
    ·rename_i id'
     split at h
     ·rename_i hid'
      subst hid'
      simp only [Option.some.injEq,Prod.mk.injEq] at h
      obtain ⟨rfl, rfl⟩ := h
      simp only [RelA,Nat.zero_mul,Nat.add_zero,hoff] at hr0
      obtain ⟨rfl, _⟩ := hr0
      refine (K.used _ E.w hu0).mono fun e w' he => ?_
      obtain ⟨rfl, rfl⟩ := he
      exact ⟨_, E, rfl, rfl, rfl, I, Ext.refl B E, by simp only [RelA,RelAs]; exact ⟨[], rfl, rfl⟩⟩
     ·simp at h
    ·simp at h
   ·simp at h
  ·simp at h
 ·simp at h
theorem stE_sound (K : Emb P cc st ok tb) {args : List AV} {H : Heap} {r : AV} {H' : Heap} (h : stE ok tb args H = some (r, H')) : CallsA P B st args H r H' := by
 refine ⟨K.est, fun E vs I hE hr => ?_⟩
 subst hE
 unfold stE at h
 split at h
 ·rename_i _ _ id
  split at h
  ·rename_i ty a0 s es tok rest hid
   split at h
   ·rename_i ty' n l htok hby
    split at h
    ·rename_i hc
     obtain ⟨_, rfl, rfl, rfl, hpos, hmax⟩ := hc
     simp only [Option.some.injEq,Prod.mk.injEq] at h
     obtain ⟨rfl, rfl⟩ := h
     simp only [RelAs] at hr
     obtain ⟨v, r0, rfl, hv, rfl⟩ := hr
     simp only [RelA,Nat.zero_mul,Nat.add_zero] at hv
     obtain ⟨rfl, _⟩ := hv
     obtain ⟨hlen, hget⟩ := bytesE_get hby
     obtain ⟨own, nS, hO⟩ := I.obj id _ _ hid
     obtain ⟨x, hx, hT⟩ := own.shape
     have hoff : (E.m id).2.1 = 0 := by
      rcases hT with hT | hT
      ·simp at hT
      ·exact hT.2
     obtain ⟨hs, hcells⟩ := hO 0 _ rfl
     obtain ⟨u1, hu1, hr1, _⟩ := hcells 1 _ rfl
     simp only [hoff,Nat.zero_mul,Nat.add_zero,Nat.zero_add] at hu1 ⊢
     simp only [RelA] at hr1
     obtain ⟨b, c, rfl, hle, hes, _, n', hn', _, hg⟩ := hr1
     rw [htok] at hn'
     injection hn' with hn'
     injection hn' with _ hn'
     obtain ⟨bl, o, rfl, hbl, ho, _⟩ := hg hn'.symm
     have hE : RelE E.w E.S es bl o 1 := by
      rcases hes with rfl | ⟨bl', o', hb', he⟩
      ·simp only [RelE]
      ·simp only [Option.some.injEq,Addr.mk.injEq] at hb'
       obtain ⟨rfl, rfl, _⟩ := hb'
       exact he
     obtain ⟨ownT, nST⟩ := I.hw tok _ _ htok
     rw [hbl] at ownT
     obtain ⟨⟨tx, cells⟩, hshT, hTT⟩ := ownT.shape
     simp only [tyH] at hTT
     subst hTT
     have hcell : ∀ j x, l[j]? = some x → E.w.cell? ⟨bl, o + j, none⟩ = some (.int .u8 x.toNat) := by
      intro j x hx
      obtain ⟨_, hC⟩ := relE_get hE (hget j x hx)
      obtain ⟨v, hv, _, _, hd⟩ := relC_get hC (j := 0) rfl
      simp only [RelD] at hd
      subst hd
      simpa using hv
     obtain ⟨cs, lo, hi, hblk⟩ : ∃ cs lo hi, E.w.heap[bl]? = some (.cells cs tx (lo, hi)) ∧ cs.size = cells := by
      simp only [World.shape?] at hshT
      split at hshT
      ·rename_i c0 e0 f0 hh
       simp only [Option.some.injEq,Prod.mk.injEq] at hshT
       obtain ⟨rfl, rfl⟩ := hshT
       exact ⟨c0, f0.1, f0.2, hh, rfl⟩
      ·simp at hshT
     have hfit : o + l.length ≤ cells := by
      have hlast : (l[l.length - 1]?) = some (l[l.length - 1]'(by omega)) := List.getElem?_eq_getElem _
      have := hcell _ _ hlast
      simp only [World.cell?,hblk.1] at this
      have := (Array.getElem?_eq_some_iff.1 (by simpa using this)).1
      omega
     rw [hlen] at hu1 hle
     have hl0 : l ≠ [] := by intro e; subst e; simp at hpos
     refine (K.text _ bl o c cells l E.w hu1 hl0 hle hmax hshT hfit hcell).mono fun e w' he => ?_
     obtain ⟨rfl, rfl⟩ := he
     have hblk' : E.w.drew.heap[bl]? = some (.cells cs tx (lo, hi)) := hblk.1
     have htl := (List.getElem?_eq_some_iff.1 htok).1
     let m' : Nat → Nat × Nat × Nat := fun k => if k = tok then (bl, max hi (o + l.length), (E.m tok).2.2) else E.m k
     have e1 : ∀ k, (m' k).1 = (E.m k).1 := fun k => by
      by_cases hk : k = tok
      ·subst hk; simp only [m',if_true,hbl]
      ·simp only [m',if_neg hk]
     have hfc : ∀ p, (E.w.drew.freeze ⟨bl, o, none⟩ l.length).cell? p = E.w.cell? p := fun p => freeze_cell (a := ⟨bl, o, none⟩) hblk'
     have hfs : ∀ b, (E.w.drew.freeze ⟨bl, o, none⟩ l.length).shape? b = E.w.shape? b := fun p => freeze_shape (a := ⟨bl, o, none⟩) hblk'
     have hsz : (E.w.drew.freeze ⟨bl, o, none⟩ l.length).heap.size = E.w.heap.size := freeze_size
     have hne : ∀ k, k ≠ bl → (E.w.drew.freeze ⟨bl, o, none⟩ l.length).heap[k]? = E.w.heap[k]? := fun k hk => freeze_ne hk
     have X : Ext B E ⟨E.w.drew.freeze ⟨bl, o, none⟩ l.length, E.S, m', E.H.set tok (.hw tx (es.length + 1))⟩ := {
      ss := fun _ _ h => h
      cell := fun b k _ => hfc _
      size := by simp only [hsz]; exact Nat.le_refl _
      low := fun k hk => hne k (fun e => ownT.base (by subst e; exact hk))
      there := fun b k h => by rw [hfc]; exact h
      snew := fun _ _ h => .inl h
      os := by unfold World.freeze; split <;> rfl
      tape := by unfold World.freeze; split <;> rfl
      output := by unfold World.freeze; split <;> rfl
      len := by simp
      obj := fun i hi => by
       have hit : i ≠ tok := fun e => by subst e; obtain ⟨y, q, hq⟩ := hi; rw [htok] at q; injection q with q; subst q; exact hq.elim
       exact ⟨isObj_set hi (fun e => absurd e hit), by simp only [m',if_neg hit]⟩
      hw := fun i ty2 k hk => by
       by_cases hit : i = tok
       ·subst hit
        rw [htok] at hk
        injection hk with hk
        injection hk with hk1 hk2
        subst hk1; subst hk2
        exact ⟨es.length + 1, by simp only; rw [List.getElem?_set_self htl], by omega, fun he => by omega⟩
       ·exact ⟨k, by simp only; rw [List.getElem?_set_ne (fun e => hit e.symm)]; exact hk, Nat.le_refl _, fun _ => by simp only [m',if_neg hit]⟩ }
     have I' : Inv B ⟨E.w.drew.freeze ⟨bl, o, none⟩ l.length, E.S, m', E.H.set tok (.hw tx (es.length + 1))⟩ := by
      refine ⟨by simp only [hsz]; exact I.szB, fun b k hs => by simp only [hsz]; exact I.sS b k hs, fun i ty2 es2 h2 => ?_, fun i ty2 k hk => ?_, InjH.set I.inj e1 htok nofun _, X.tab I.tab, fun i s q hit2 => ?_⟩
      ·have hit : i ≠ tok := fun e => by subst e; simp only [List.getElem?_set_self htl] at h2; simp at h2
       simp only [List.getElem?_set_ne (fun e => hit e.symm)] at h2
       obtain ⟨a1, a2, a3⟩ := I.obj i ty2 es2 h2
       have hb : (E.m i).1 ≠ bl := fun e => hit (I.inj i tok _ _ h2 htok nofun nofun (e.trans hbl.symm))
       simp only [m',if_neg hit]
       refine ⟨⟨a1.base, by simp only [hsz]; exact a1.lt, fun k hk => ?_, by simp only [hfs]; exact a1.shape⟩, a2, a3.ext X fun k => hfc _⟩
       simp only [World.frozen?,hne _ hb]
       exact a1.free k hk
      ·by_cases hit : i = tok
       ·subst hit
        simp only [List.getElem?_set_self htl] at hk
        injection hk with hk
        injection hk with hk _
        subst hk
        simp only [m',if_true]
        refine ⟨⟨ownT.base, by simp only [hsz]; exact ownT.lt, fun k hk => ?_, ⟨(tx, cells), by rw [hfs]; exact hshT, rfl⟩⟩, fun k hk hs' => ?_⟩
        ·obtain ⟨lo', hi', h1, h2⟩ := freeze_at (w := E.w.drew) (a := ⟨bl, o, none⟩) (n := l.length) (by omega) hblk'
         simp only at h1
         simp only [World.frozen?,h1]
         simp only at h2
         have : ¬ k < hi' := by omega
         simp [this]
        ·rw [hbl, ho] at nST
         exact nST k (by rw [hlen]; omega) hs'
       ·simp only [List.getElem?_set_ne (fun e => hit e.symm)] at hk
        obtain ⟨a1, a2⟩ := I.hw i ty2 k hk
        have hb : (E.m i).1 ≠ bl := fun e => hit (I.inj i tok _ _ hk htok nofun nofun (e.trans hbl.symm))
        simp only [m',if_neg hit]
        refine ⟨⟨a1.base, by simp only [hsz]; exact a1.lt, fun k hk => ?_, by simp only [hfs]; exact a1.shape⟩, a2⟩
        simp only [World.frozen?,hne _ hb]
        exact a1.free k hk
      ·have hit : i ≠ tok := fun e => by subst e; simp only [List.getElem?_set_self htl] at hit2; simp at hit2
       simp only [List.getElem?_set_ne (fun e => hit e.symm)] at hit2
       obtain ⟨a1, a2⟩ := I.it i s q hit2
       have hb : (E.m i).1 ≠ bl := fun e => hit (I.inj i tok _ _ hit2 htok nofun nofun (e.trans hbl.symm))
       simp only [m',if_neg hit]
       exact ⟨a1.same (hne _ hb), a2⟩
     exact ⟨_, _, rfl, rfl, rfl, I', X, by simp only [RelA,RelD]⟩
    ·simp at h
   ·simp at h
  ·simp at h
 ·simp at h
theorem strO_sound (K : Emb P cc st ok tb) {Ψ : Oracle} (S : Sound P B Ψ) : Sound P B (strO cc st ok tb Ψ) := fun f args H r H' h => by
 unfold strO at h
 split at h
 ·rename_i e; subst e; exact ccE_sound K h
 ·split at h
  ·rename_i e; subst e; exact stE_sound K h
  ·exact S f args H r H' h
end
structure Idxs (P : Program) (ib : FuncId) : Prop where
 enters : Enters P ib
 idx : ∀ (s : ByteArray) (c : Int) (w : World), Calls P ib #[.string s, .int .u8 c] w fun e w' => e = .returned (.int .i64 (Lib.indexByte s.data.toList c.toNat.toUInt8)) ∧ w' = w
end Go.Abs
end
section
set_option linter.unusedVariables false
set_option linter.unusedSimpArgs false
namespace Go.Abs
section
variable {n : Nat} {H0 : Heap}
theorem ccE_sh (hn : n = H0.length) {ok : TypeId × Nat → Bool} {args : List AV} {H : Heap} {v : AV} {H' : Heap} (h : ccE ok args H = some (v, H')) : ccE ok (args.map (sh n)) (H0 ++ shH n H) = some (sh n v, H0 ++ shH n H') := by
 unfold ccE at h
 split at h
 ·rename_i _ _ id
  simp only [List.map_cons,List.map_nil,sh,ccE,shH_get hn]
  split at h
  ·rename_i ty a0 rest he
   rw [he]
   simp only [Option.map_some,shO,List.map_cons,List.map_nil]
   split at h
   ·rename_i hty
    rw [if_pos hty]
    split at h
    ·simp only [Option.some.injEq,Prod.mk.injEq] at h
     obtain ⟨rfl, rfl⟩ := h
     simp only [sh]
     rw [← shH_set hn]
     rfl
    ·rename_i id'
     split at h
     ·rename_i hid
      subst hid
      simp only [Option.some.injEq,Prod.mk.injEq] at h
      obtain ⟨rfl, rfl⟩ := h
      simp only [sh,if_true]
      rfl
     ·simp at h
    ·simp at h
   ·simp at h
  ·simp at h
 ·simp at h
theorem stE_sh (hn : n = H0.length) {ok : TypeId × Nat → Bool} {tb : TypeId} {args : List AV} {H : Heap} {v : AV} {H' : Heap} (h : stE ok tb args H = some (v, H')) : stE ok tb (args.map (sh n)) (H0 ++ shH n H) = some (sh n v, H0 ++ shH n H') := by
 unfold stE at h
 split at h
 ·rename_i _ _ id
  simp only [List.map_cons,List.map_nil,sh,stE,shH_get hn]
  split at h
  ·rename_i ty a0 s es tok rest he
   rw [he]
   simp only [Option.map_some,shO,List.map_cons,List.map_nil,sh,shH_get hn]
   split at h
   ·rename_i ty' k l h1 h2
    rw [h1]
    simp only [Option.map_some,shO,h2]
    split at h
    ·rename_i hc
     rw [if_pos hc]
     simp only [Option.some.injEq,Prod.mk.injEq] at h
     obtain ⟨rfl, rfl⟩ := h
     rw [← shH_set hn]
     rfl
    ·simp at h
   ·simp at h
  ·simp at h
 ·simp at h
theorem strO_sh (hn : n = H0.length) {cc st : FuncId} {ok : TypeId × Nat → Bool} {tb : TypeId} {Ψ : Oracle} (hΨ : ShO n H0 Ψ Ψ) : ShO n H0 (strO cc st ok tb Ψ) (strO cc st ok tb Ψ) := fun f args H v H' h => by
 unfold strO at h ⊢
 split at h
 ·rename_i hf; rw [if_pos hf]; exact ccE_sh hn h
 ·rename_i hf
  rw [if_neg hf]
  split at h
  ·rename_i hg; rw [if_pos hg]; exact stE_sh hn h
  ·rename_i hg; rw [if_neg hg]; exact hΨ f args H v H' h
theorem none_sh : ShO n H0 (fun _ _ _ => none) (fun _ _ _ => none) := fun _ _ _ _ _ h => by simp at h
end
end Go.Abs
end
