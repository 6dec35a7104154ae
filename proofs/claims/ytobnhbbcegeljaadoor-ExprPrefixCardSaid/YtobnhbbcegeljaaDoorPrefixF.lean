/- Part 6 of what the claim rests on. -/
import Derived.Test.YtobnhbbcegeljaaDoorPrefixA
import Derived.Test.YtobnhbbcegeljaaDoorPrefixB
import Derived.Test.YtobnhbbcegeljaaDoorPrefixC
import Derived.Test.YtobnhbbcegeljaaDoorPrefixD
import Derived.Test.YtobnhbbcegeljaaDoorPrefixE
section
set_option linter.unusedVariables false
set_option linter.unusedSimpArgs false
namespace Go.Abs.Seat
open Go.Proofs
def TyA (ty : KT) (k : Int) (y : AV) : Prop := (ty = zeroT ∧ k = 0 ∧ y = .nils) ∨ ∃ s args, ty = .mk k s args ∧ y = .im (.sl s (encTs args))
def NodeAt (tid : TypeId) (n id : Nat) (w : List UInt8) (st : St) (H : Heap) : Prop :=
 ∃ (k : Int) (y v : AV), H[id]? = some (.obj none [[.im (.str w), .im (.int .i64 st.1), .im (.str []), .im (.int .i64 k), y, v]]) ∧ TyA st.2.1 k y ∧ Gath tid 6 n v H (st.2.2.map encN)
theorem NodeAt.set {tid : TypeId} {n id ir : Nat} {w : List UInt8} {st : St} {H : Heap} {t : Option (TypeId × Nat)} {xs : List (List AV)} (h : NodeAt tid n id w st H) (hne : ir ≠ id) (ho : H[ir]? = some (.obj t xs)) (x : HO) : NodeAt tid n id w st (H.set ir x) := by
 obtain ⟨k, y, v, h1, h2, h3⟩ := h
 exact ⟨k, y, v, by rw [List.getElem?_set_ne hne]; exact h1, h2, h3.set_obj ho x⟩
theorem NodeAt.more {tid : TypeId} {n id : Nat} {w : List UInt8} {st : St} {H : Heap} (h : NodeAt tid n id w st H) (M : Heap) : NodeAt tid n id w st (H ++ M) := by
 obtain ⟨k, y, v, h1, h2, h3⟩ := h
 exact ⟨k, y, v, by rw [get_app (List.getElem?_eq_some_iff.1 h1).1]; exact h1, h2, h3.more M⟩
def Regs (l : List Nat) (tm tm' : List AV) : Prop := ∀ j ∈ l, tm'.getD j undefA = tm.getD j undefA
def But2 (n ir id : Nat) (H H' : Heap) : Prop := H.length ≤ H'.length ∧ ∀ i, i < n → i ≠ ir → i ≠ id → H'[i]? = H[i]?
theorem s19' {H : Heap} {ir : Nat} (hirl : ir < H.length) {b : List UInt8} (hb : b.length ≤ 4611686018427387904) {p : Nat} (hp : p ≤ b.length) (bad : Bool) : L 19 [.ptr ir 0 0] (H.set ir (objS b p bad)) = some (.tup [], H.set ir (objS b (skipB b p) bad)) := by
 rw [s19 b p ir bad _ (List.getElem?_set_self hirl) hb hp, List.set_set]
theorem s29' {H : Heap} {ir : Nat} (hirl : ir < H.length) {b : List UInt8} (hb : b.length ≤ 4611686018427387904) (p : Nat) (bad : Bool) : L 29 [.ptr ir 0 0] (H.set ir (objS b p bad)) = some (.im (.int .u8 ((peekB b p).toNat : Int)), H.set ir (objS b p bad)) :=
 s29 b p ir bad _ (List.getElem?_set_self hirl) hb
def Did {R : Type} (b w : List UInt8) (ir N : Nat) (tm : List AV) (H : Heap) (K : AEx → List AV → Heap → Option R) (o : Option R) (r : St × Nat × Bool) : Prop :=
 ∃ tm' H' st', o = K .normal tm' H' ∧ tm'.length = 112 ∧ Regs [0, 1, 2, 3, 8, 9, 10, 11] tm tm' ∧ But2 (N + 2) ir (N + 1) H H' ∧ H'[ir]? = some (objS b r.2.1 r.2.2) ∧ NodeAt 27 (N + 2) (N + 1) w st' H' ∧ (r.2.2 = false → st' = r.1)
theorem sw35_e (b : List UInt8) (hb : b.length ≤ 2305843009213693952) (ir N : Nat) (hne : ir ≠ N + 1) (w ps : List UInt8) (i : Nat) (c : UInt8) (hc : ps[i]? = some c) (d d' : Int) (hd : IntKind.i64.wrap (d - 1) = d') (rd : Nat → NT × Nat × Bool) (he : isE c = true)
  (p : Nat) (hp : p ≤ b.length) (st : St) (hst : st.2.2.length ≤ 100) (tm : List AV) (H : Heap) (hlen : tm.length = 112) (h0 : tm.getD 0 undefA = .ptr ir 0 0) (h2 : tm.getD 2 undefA = .im (.str ps)) (h3 : tm.getD 3 undefA = .im (.int .i64 d)) (h9 : tm.getD 9 undefA = .ptr (N + 1) 0 0) (h11 : tm.getD 11 undefA = .im (.int .i64 (i : Int)))
  (hir : H[ir]? = some (objS b p false)) (hnd : NodeAt 27 (N + 2) (N + 1) w st H) (hN : N + 2 ≤ H.length) (hirN : ir < N + 2)
  (hcall : ∃ nd, L 18 [.ptr ir 0 0, .im (.int .i64 d')] H = some (.im (.agg (encN nd)), H.set ir (objS b (rd p).2.1 (rd p).2.2)) ∧ ((rd p).2.2 = false → nd = (rd p).1)) {R : Type} (K : AEx → List AV → Heap → Option R) :
  Did b w ir N tm H K (exec0 L Λ sw35 tm H K) (itemX rd b c st p) := by
 have hirl := (List.getElem?_eq_some_iff.1 hir).1
 obtain ⟨nd, hcl, hnn⟩ := hcall
 obtain ⟨k, y, v, o1, hty, hG⟩ := hnd
 have hitem : itemX rd b c st p = ((st.1, st.2.1, st.2.2 ++ [(rd p).1]), (rd p).2.1, (rd p).2.2) := by
  unfold isE at he
  simp only [Bool.and_eq_true,Bool.not_eq_true',decide_eq_false_iff_not] at he
  unfold itemX
  rw [if_neg he.1, if_neg he.2.1, if_neg he.2.2]
 have n100 : decide ((c.toNat : Int) = 100) = false := by
  refine (byte_eq c 100).trans ?_; unfold isE at he; simp only [Bool.and_eq_true,Bool.not_eq_true'] at he; exact he.1
 have n116 : decide ((c.toNat : Int) = 116) = false := by
  refine (byte_eq c 116).trans ?_; unfold isE at he; simp only [Bool.and_eq_true,Bool.not_eq_true'] at he; exact he.2.1
 have n110 : decide ((c.toNat : Int) = 110) = false := by
  refine (byte_eq c 110).trans ?_; unfold isE at he; simp only [Bool.and_eq_true,Bool.not_eq_true'] at he; exact he.2.2
 have p2 : (0 : Int) ≤ (i : Int) := Int.natCast_nonneg i
 rw [hitem]
 generalize (rd p).2.1 = q at *
 generalize (rd p).2.2 = bad at *
 generalize (rd p).1 = nx at *
 unfold Did
 have oir2 : (H.set ir (objS b q bad))[ir]? = some (objS b q bad) := List.getElem?_set_self hirl
 have o12 : (H.set ir (objS b q bad))[N + 1]? = some (.obj none [[.im (.str w), .im (.int .i64 st.1), .im (.str []), .im (.int .i64 k), y, v]]) := by rw [List.getElem?_set_ne hne]; exact o1
 have hG2 := hG.set_obj hir (objS b q bad)
 have hb2 : ∀ j, j ≠ ir → (H.set ir (objS b q bad))[j]? = H[j]? := fun j hj => List.getElem?_set_ne (fun e => hj e.symm)
 have hl2 : (H.set ir (objS b q bad)).length = H.length := by simp
 generalize H.set ir (objS b q bad) = H2 at *
 obtain ⟨op, ni, txt, ty, ns, kids⟩ := nd
 obtain ⟨tk, ts, targs⟩ := ty
 have hGx := hG2.grow (bytes := 96) (by omega) (encN (.mk op ni txt (.mk tk ts targs) ns kids)) (by simp; omega) (by decide)
 obtain ⟨tok, H3, hap, hG3, hl3, hlow3, hob3⟩ := hGx
 have o13 := hob3 _ _ _ o12
 have o1l := (List.getElem?_eq_some_iff.1 o13).1
 simp only [encN] at hcl hap
 simp only [sw35,B0,B1,B2,List.replicate,Nat.reduceAdd,Nat.reduceSub,Nat.reduceLeDiff,Nat.reduceLT,Nat.reduceEqDiff,reduceCtorEq,Int.reduceEq,Int.reduceLT,Int.reduceLE,lenA,z_ops,z_nil,z_cons,z_guard,z_some,z_drop,z_do,z_not,z_not0,pairK,forall_eq_or_imp,stays,loadOf,List.reverse_cons,List.reverse_nil,List.mem_cons,List.not_mem_nil,or_false,forall_eq,true_or,or_true,Bool.true_and,intOfA,byteDat,elems,toDatss,toDats,toDat,Int.toNat_natCast,hlen,h0,h2,h3,h9,h11,hc,p2,n100,n116,n110,hd,hcl,o1,o12,o13,hap]
 refine ⟨_, _, (st.1, st.2.1, st.2.2 ++ [.mk op ni txt (.mk tk ts targs) ns kids]), rfl, by simp only [List.length_set,hlen], ?_, ?_, ?_, ?_, ?_⟩
 ·intro j hj
  simp only [List.mem_cons,List.not_mem_nil,or_false] at hj
  rcases hj with rfl | rfl | rfl | rfl | rfl | rfl | rfl | rfl <;> simp only [B3,Nat.reduceLT,Nat.reduceEqDiff,hlen]
 ·refine ⟨by simp; omega, fun j hj h1 h2 => ?_⟩
  rw [List.getElem?_set_ne (fun e => h2 e.symm), hlow3 j hj, hb2 j h1]
 ·rw [List.getElem?_set_ne (fun e => hne e.symm), hlow3 ir hirN, oir2]
 ·refine ⟨k, y, _, List.getElem?_set_self o1l, hty, ?_⟩
  rw [show (st.2.2 ++ [NT.mk op ni txt (.mk tk ts targs) ns kids]).map encN = st.2.2.map encN ++ [encN (.mk op ni txt (.mk tk ts targs) ns kids)] by simp]
  simp only [encN] at hG3 ⊢
  exact hG3.set_obj o13 _
 ·intro hbad
  rw [hnn hbad]
theorem sw35_n (b : List UInt8) (hb : b.length ≤ 2305843009213693952) (ir N : Nat) (hne : ir ≠ N + 1) (w ps : List UInt8) (i : Nat) (c : UInt8) (hc : ps[i]? = some c) (rd : Nat → NT × Nat × Bool) (he : c = 110)
  (p : Nat) (hp : p ≤ b.length) (st : St) (hst : st.2.2.length ≤ 100) (tm : List AV) (H : Heap) (hlen : tm.length = 112) (h0 : tm.getD 0 undefA = .ptr ir 0 0) (h2 : tm.getD 2 undefA = .im (.str ps)) (h9 : tm.getD 9 undefA = .ptr (N + 1) 0 0) (h11 : tm.getD 11 undefA = .im (.int .i64 (i : Int)))
  (hir : H[ir]? = some (objS b p false)) (hnd : NodeAt 27 (N + 2) (N + 1) w st H) (hN : N + 2 ≤ H.length) (hirN : ir < N + 2)
  {R : Type} (K : AEx → List AV → Heap → Option R) :
  Did b w ir N tm H K (exec0 L Λ sw35 tm H K) (itemX rd b c st p) := by
 have hirl := (List.getElem?_eq_some_iff.1 hir).1
 have hcl := s55 b p ir H hir (by omega) hp
 obtain ⟨k, y, v, o1, hty, hG⟩ := hnd
 have hitem : itemX rd b c st p = ((st.1, st.2.1, st.2.2 ++ [(nameP b p).1]), (nameP b p).2.1, (nameP b p).2.2) := by
  unfold itemX
  rw [if_neg (by rw [he]; decide), if_neg (by rw [he]; decide), if_pos he]
 have n100 : decide ((c.toNat : Int) = 100) = false := by rw [he]; rfl
 have n116 : decide ((c.toNat : Int) = 116) = false := by rw [he]; rfl
 have n110 : decide ((c.toNat : Int) = 110) = true := by rw [he]; rfl
 have p2 : (0 : Int) ≤ (i : Int) := Int.natCast_nonneg i
 rw [hitem]
 generalize (nameP b p).2.1 = q at *
 generalize (nameP b p).2.2 = bad at *
 generalize (nameP b p).1 = nd at *
 unfold Did
 have oir2 : (H.set ir (objS b q bad))[ir]? = some (objS b q bad) := List.getElem?_set_self hirl
 have o12 : (H.set ir (objS b q bad))[N + 1]? = some (.obj none [[.im (.str w), .im (.int .i64 st.1), .im (.str []), .im (.int .i64 k), y, v]]) := by rw [List.getElem?_set_ne hne]; exact o1
 have hG2 := hG.set_obj hir (objS b q bad)
 have hb2 : ∀ j, j ≠ ir → (H.set ir (objS b q bad))[j]? = H[j]? := fun j hj => List.getElem?_set_ne (fun e => hj e.symm)
 have hl2 : (H.set ir (objS b q bad)).length = H.length := by simp
 generalize H.set ir (objS b q bad) = H2 at *
 obtain ⟨op, ni, txt, ty, ns, kids⟩ := nd
 obtain ⟨tk, ts, targs⟩ := ty
 have hGx := hG2.grow (bytes := 96) (by omega) (encN (.mk op ni txt (.mk tk ts targs) ns kids)) (by simp; omega) (by decide)
 obtain ⟨tok, H3, hap, hG3, hl3, hlow3, hob3⟩ := hGx
 have o13 := hob3 _ _ _ o12
 have o1l := (List.getElem?_eq_some_iff.1 o13).1
 simp only [encN] at hcl hap
 simp only [sw35,B0,B1,B2,List.replicate,Nat.reduceAdd,Nat.reduceSub,Nat.reduceLeDiff,Nat.reduceLT,Nat.reduceEqDiff,reduceCtorEq,Int.reduceEq,Int.reduceLT,Int.reduceLE,lenA,z_ops,z_nil,z_cons,z_guard,z_some,z_drop,z_do,z_not,z_not0,pairK,forall_eq_or_imp,stays,loadOf,List.reverse_cons,List.reverse_nil,List.mem_cons,List.not_mem_nil,or_false,forall_eq,true_or,or_true,Bool.true_and,intOfA,byteDat,elems,toDatss,toDats,toDat,Int.toNat_natCast,hlen,h0,h2,h9,h11,hc,p2,n100,n116,n110,hcl,o1,o12,o13,hap]
 refine ⟨_, _, (st.1, st.2.1, st.2.2 ++ [.mk op ni txt (.mk tk ts targs) ns kids]), rfl, by simp only [List.length_set,hlen], ?_, ?_, ?_, ?_, ?_⟩
 ·intro j hj
  simp only [List.mem_cons,List.not_mem_nil,or_false] at hj
  rcases hj with rfl | rfl | rfl | rfl | rfl | rfl | rfl | rfl <;> simp only [B3,Nat.reduceLT,Nat.reduceEqDiff,hlen]
 ·refine ⟨by simp; omega, fun j hj h1 h2 => ?_⟩
  rw [List.getElem?_set_ne (fun e => h2 e.symm), hlow3 j hj, hb2 j h1]
 ·rw [List.getElem?_set_ne (fun e => hne e.symm), hlow3 ir hirN, oir2]
 ·refine ⟨k, y, _, List.getElem?_set_self o1l, hty, ?_⟩
  rw [show (st.2.2 ++ [NT.mk op ni txt (.mk tk ts targs) ns kids]).map encN = st.2.2.map encN ++ [encN (.mk op ni txt (.mk tk ts targs) ns kids)] by simp]
  simp only [encN] at hG3 ⊢
  exact hG3.set_obj o13 _
 ·exact fun _ => rfl
theorem sw35_t (b : List UInt8) (hb : b.length ≤ 2305843009213693952) (ir N : Nat) (hne : ir ≠ N + 1) (w ps : List UInt8) (i : Nat) (c : UInt8) (hc : ps[i]? = some c) (rd : Nat → NT × Nat × Bool) (he : c = 116)
  (p : Nat) (hp : p ≤ b.length) (st : St) (hst : st.2.2.length ≤ 100) (tm : List AV) (H : Heap) (hlen : tm.length = 112) (h0 : tm.getD 0 undefA = .ptr ir 0 0) (h2 : tm.getD 2 undefA = .im (.str ps)) (h9 : tm.getD 9 undefA = .ptr (N + 1) 0 0) (h11 : tm.getD 11 undefA = .im (.int .i64 (i : Int)))
  (hir : H[ir]? = some (objS b p false)) (hnd : NodeAt 27 (N + 2) (N + 1) w st H) (hN : N + 2 ≤ H.length) (hirN : ir < N + 2)
  {R : Type} (K : AEx → List AV → Heap → Option R) :
  Did b w ir N tm H K (exec0 L Λ sw35 tm H K) (itemX rd b c st p) := by
 have hirl := (List.getElem?_eq_some_iff.1 hir).1
 have hcl := s54 b p ir H hir hb hp
 obtain ⟨k, y, v, o1, hty, hG⟩ := hnd
 have hitem : itemX rd b c st p = ((st.1, (typP b (skipB b p)).1, st.2.2), (typP b (skipB b p)).2.1, (typP b (skipB b p)).2.2) := by
  unfold itemX
  rw [if_neg (by rw [he]; decide), if_pos he]
 have n100 : decide ((c.toNat : Int) = 100) = false := by rw [he]; rfl
 have n116 : decide ((c.toNat : Int) = 116) = true := by rw [he]; rfl
 have p2 : (0 : Int) ≤ (i : Int) := Int.natCast_nonneg i
 rw [hitem]
 generalize (typP b (skipB b p)).2.1 = q at *
 generalize (typP b (skipB b p)).2.2 = bad at *
 generalize (typP b (skipB b p)).1 = ty at *
 unfold Did
 have oir2 : (H.set ir (objS b q bad))[ir]? = some (objS b q bad) := List.getElem?_set_self hirl
 have o12 : (H.set ir (objS b q bad))[N + 1]? = some (.obj none [[.im (.str w), .im (.int .i64 st.1), .im (.str []), .im (.int .i64 k), y, v]]) := by rw [List.getElem?_set_ne hne]; exact o1
 have hG2 := hG.set_obj hir (objS b q bad)
 have hb2 : ∀ j, j ≠ ir → (H.set ir (objS b q bad))[j]? = H[j]? := fun j hj => List.getElem?_set_ne (fun e => hj e.symm)
 have hl2 : (H.set ir (objS b q bad)).length = H.length := by simp
 generalize H.set ir (objS b q bad) = H2 at *
 obtain ⟨tk, ts, targs⟩ := ty
 simp only [encT] at hcl
 simp only [sw35,B0,B1,B2,List.replicate,Nat.reduceAdd,Nat.reduceSub,Nat.reduceLeDiff,Nat.reduceLT,Nat.reduceEqDiff,reduceCtorEq,Int.reduceEq,Int.reduceLT,Int.reduceLE,lenA,z_ops,z_nil,z_cons,z_guard,z_some,z_drop,z_do,z_not,z_not0,pairK,forall_eq_or_imp,stays,loadOf,List.reverse_cons,List.reverse_nil,List.mem_cons,List.not_mem_nil,or_false,forall_eq,true_or,or_true,Bool.true_and,intOfA,byteDat,Int.toNat_natCast,hlen,h0,h2,h9,h11,hc,p2,n100,n116,hcl,o12]
 refine ⟨_, _, (st.1, .mk tk ts targs, st.2.2), rfl, by simp only [List.length_set,hlen], ?_, ?_, ?_, ?_, fun _ => rfl⟩
 ·intro j hj
  simp only [List.mem_cons,List.not_mem_nil,or_false] at hj
  rcases hj with rfl | rfl | rfl | rfl | rfl | rfl | rfl | rfl <;> simp only [B3,Nat.reduceLT,Nat.reduceEqDiff,hlen]
 ·refine ⟨by simp; omega, fun j hj h1 h2 => ?_⟩
  rw [List.getElem?_set_ne (fun e => h2 e.symm), hb2 j h1]
 ·rw [List.getElem?_set_ne (fun e => hne e.symm), oir2]
 ·exact ⟨tk, _, v, List.getElem?_set_self (by omega), .inr ⟨ts, targs, rfl, rfl⟩, hG2.set_obj o12 _⟩
theorem sw35_d (b : List UInt8) (hb : b.length ≤ 2305843009213693952) (ir N : Nat) (hne : ir ≠ N + 1) (w ps : List UInt8) (i : Nat) (c : UInt8) (hc : ps[i]? = some c) (rd : Nat → NT × Nat × Bool) (he : c = 100)
  (p : Nat) (hp : p ≤ b.length) (st : St) (hst : st.2.2.length ≤ 100) (tm : List AV) (H : Heap) (hlen : tm.length = 112) (h0 : tm.getD 0 undefA = .ptr ir 0 0) (h2 : tm.getD 2 undefA = .im (.str ps)) (h9 : tm.getD 9 undefA = .ptr (N + 1) 0 0) (h11 : tm.getD 11 undefA = .im (.int .i64 (i : Int)))
  (hir : H[ir]? = some (objS b p false)) (hnd : NodeAt 27 (N + 2) (N + 1) w st H) (hN : N + 2 ≤ H.length) (hirN : ir < N + 2)
  {R : Type} (K : AEx → List AV → Heap → Option R) :
  Did b w ir N tm H K (exec0 L Λ sw35 tm H K) (itemX rd b c st p) := by
 have hirl := (List.getElem?_eq_some_iff.1 hir).1
 have hself : H = H.set ir (objS b p false) := (set_same hir).symm
 have c1 := s19' (b := b) hirl (by omega) hp false
 rw [← hself] at c1
 have c2 := s29' (b := b) hirl (by omega) (skipB b p) false
 obtain ⟨k, y, v, o1, hty, hG⟩ := hnd
 have n100 : decide ((c.toNat : Int) = 100) = true := by rw [he]; rfl
 have p2 : (0 : Int) ≤ (i : Int) := Int.natCast_nonneg i
 have hq := skip_len hp
 have hwr := wrap_nat (i := skipB b p) (by omega)
 have hc256 : (peekB b (skipB b p)).toNat < 256 := (peekB b (skipB b p)).toNat_lt
 have hsub : IntKind.i64.wrap (((peekB b (skipB b p)).toNat : Int) - 48) = ((peekB b (skipB b p)).toNat : Int) - 48 := Go.Abs.Seat.wrap_small _ (by omega)
 have hid : IntKind.i64.wrap ((peekB b (skipB b p)).toNat : Int) = ((peekB b (skipB b p)).toNat : Int) := Go.Abs.Seat.wrap_small _ (by omega)
 unfold itemX
 rw [if_pos he]
 generalize skipB b p = q at *
 generalize peekB b q = a at *
 have f1 : ∀ o, (H.set ir o)[N + 1]? = some (.obj none [[.im (.str w), .im (.int .i64 st.1), .im (.str []), .im (.int .i64 k), y, v]]) := fun o => by rw [List.getElem?_set_ne hne]; exact o1
 have f2 : ∀ o x, ((H.set ir o).set (N + 1) x)[ir]? = some o := fun o x => by rw [List.getElem?_set_ne (fun e => hne e.symm)]; exact List.getElem?_set_self hirl
 have f3 : ∀ o x, ((H.set ir o).set (N + 1) x)[N + 1]? = some x := fun o x => List.getElem?_set_self (by simp; omega)
 have f4 : ∀ o x o', ((H.set ir o).set (N + 1) x).set ir o' = (H.set ir o').set (N + 1) x := fun o x o' => by rw [List.set_comm _ _ (fun e => hne e.symm), List.set_set]
 have hfin : ∀ (q' : Nat) (bd : Bool) (z : Int), But2 (N + 2) ir (N + 1) H ((H.set ir (objS b q' bd)).set (N + 1) (.obj none [[.im (.str w), .im (.int .i64 z), .im (.str []), .im (.int .i64 k), y, v]])) ∧
   ((H.set ir (objS b q' bd)).set (N + 1) (.obj none [[.im (.str w), .im (.int .i64 z), .im (.str []), .im (.int .i64 k), y, v]]))[ir]? = some (objS b q' bd) ∧
   NodeAt 27 (N + 2) (N + 1) w (z, st.2.1, st.2.2) ((H.set ir (objS b q' bd)).set (N + 1) (.obj none [[.im (.str w), .im (.int .i64 z), .im (.str []), .im (.int .i64 k), y, v]])) := fun q' bd z =>
  ⟨⟨by simp, fun j hj h1 h2 => by rw [List.getElem?_set_ne (fun e => h2 e.symm), List.getElem?_set_ne (fun e => h1 e.symm)]⟩, f2 _ _, ⟨k, y, v, f3 _ _, hty, (hG.set_obj hir _).set_obj (f1 _) _⟩⟩
 simp only [objS] at c1 c2 hir f1 f2 f3 f4
 unfold Did
 rcases Bool.eq_false_or_eq_true (digZ (a.toNat : Int)) with hd | hd
 ·have hr := dig_range hd
  have e1 : decide ((a.toNat : Int) - 48 < 0) = false := decide_eq_false (by omega)
  have e2 : decide (9 < (a.toNat : Int) - 48) = false := decide_eq_false (by omega)
  rw [hd, if_pos rfl]
  simp only [sw35,B0,B1,B2,List.replicate,Nat.reduceAdd,Nat.reduceSub,Nat.reduceLeDiff,Nat.reduceLT,Nat.reduceEqDiff,reduceCtorEq,Int.reduceEq,Int.reduceLT,Int.reduceLE,lenA,z_ops,z_nil,z_cons,z_guard,z_some,z_drop,z_do,z_not,z_not0,pairK,forall_eq_or_imp,stays,loadOf,List.reverse_cons,List.reverse_nil,List.mem_cons,List.not_mem_nil,or_false,forall_eq,true_or,or_true,Bool.true_and,intOfA,byteDat,Int.toNat_natCast,hlen,h0,h2,h9,h11,hc,p2,n100,c1,c2,f1,f2,f3,f4,hid,hsub,e1,e2,hwr]
  obtain ⟨k1, k2, k3⟩ := hfin (q + 1) false ((a.toNat : Int) - 48)
  refine ⟨_, _, (((a.toNat : Int) - 48), st.2.1, st.2.2), rfl, by simp only [List.length_set,hlen], ?_, k1, k2, k3, fun _ => rfl⟩
  intro j hj
  simp only [List.mem_cons,List.not_mem_nil,or_false] at hj
  rcases hj with rfl | rfl | rfl | rfl | rfl | rfl | rfl | rfl <;> simp only [B3,Nat.reduceLT,Nat.reduceEqDiff,hlen]
 ·rw [hd, if_neg (by simp)]
  obtain ⟨k1, k2, k3⟩ := hfin q true ((a.toNat : Int) - 48)
  rcases dig_not hd with hd | hd
  ·have e1 : decide ((a.toNat : Int) - 48 < 0) = true := decide_eq_true (by omega)
   simp only [sw35,B0,B1,B2,List.replicate,Nat.reduceAdd,Nat.reduceSub,Nat.reduceLeDiff,Nat.reduceLT,Nat.reduceEqDiff,reduceCtorEq,Int.reduceEq,Int.reduceLT,Int.reduceLE,lenA,z_ops,z_nil,z_cons,z_guard,z_some,z_drop,z_do,z_not,z_not0,pairK,forall_eq_or_imp,stays,loadOf,List.reverse_cons,List.reverse_nil,List.mem_cons,List.not_mem_nil,or_false,forall_eq,true_or,or_true,Bool.true_and,intOfA,byteDat,Int.toNat_natCast,hlen,h0,h2,h9,h11,hc,p2,n100,c1,c2,f1,f2,f3,f4,hid,hsub,e1]
   refine ⟨_, _, (((a.toNat : Int) - 48), st.2.1, st.2.2), rfl, by simp only [List.length_set,hlen], ?_, k1, k2, k3, fun h => by simp at h⟩
   intro j hj
   simp only [List.mem_cons,List.not_mem_nil,or_false] at hj
   rcases hj with rfl | rfl | rfl | rfl | rfl | rfl | rfl | rfl <;> simp only [B3,Nat.reduceLT,Nat.reduceEqDiff,hlen]
  ·have e1 : decide ((a.toNat : Int) - 48 < 0) = false := decide_eq_false (by omega)
   have e2 : decide (9 < (a.toNat : Int) - 48) = true := decide_eq_true (by omega)
   simp only [sw35,B0,B1,B2,List.replicate,Nat.reduceAdd,Nat.reduceSub,Nat.reduceLeDiff,Nat.reduceLT,Nat.reduceEqDiff,reduceCtorEq,Int.reduceEq,Int.reduceLT,Int.reduceLE,lenA,z_ops,z_nil,z_cons,z_guard,z_some,z_drop,z_do,z_not,z_not0,pairK,forall_eq_or_imp,stays,loadOf,List.reverse_cons,List.reverse_nil,List.mem_cons,List.not_mem_nil,or_false,forall_eq,true_or,or_true,Bool.true_and,intOfA,byteDat,Int.toNat_natCast,hlen,h0,h2,h9,h11,hc,p2,n100,c1,c2,f1,f2,f3,f4,hid,hsub,e1,e2]
   refine ⟨_, _, (((a.toNat : Int) - 48), st.2.1, st.2.2), rfl, by simp only [List.length_set,hlen], ?_, k1, k2, k3, fun h => by simp at h⟩
   intro j hj
   simp only [List.mem_cons,List.not_mem_nil,or_false] at hj
   rcases hj with rfl | rfl | rfl | rfl | rfl | rfl | rfl | rfl <;> simp only [B3,Nat.reduceLT,Nat.reduceEqDiff,hlen]
theorem did_elim {R : Type} {b w : List UInt8} {ir N : Nat} {tm : List AV} {H : Heap} {K : AEx → List AV → Heap → Option R} {o : Option R} {r : St × Nat × Bool} {P : Option R → Prop} (h : Did b w ir N tm H K o r)
  (hP : ∀ tm' H' st', tm'.length = 112 → Regs [0, 1, 2, 3, 8, 9, 10, 11] tm tm' → But2 (N + 2) ir (N + 1) H H' → H'[ir]? = some (objS b r.2.1 r.2.2) → NodeAt 27 (N + 2) (N + 1) w st' H' → (r.2.2 = false → st' = r.1) → P (K .normal tm' H')) : P o := by
 obtain ⟨tm', H', st', rfl, h1, h2, h3, h4, h5, h6⟩ := h
 exact hP tm' H' st' h1 h2 h3 h4 h5 h6
theorem sw35_all (b : List UInt8) (hb : b.length ≤ 2305843009213693952) (ir N : Nat) (hne : ir ≠ N + 1) (w ps : List UInt8) (i : Nat) (c : UInt8) (hc : ps[i]? = some c) (d d' : Int) (hd : IntKind.i64.wrap (d - 1) = d') (rd : Nat → NT × Nat × Bool)
  (p : Nat) (hp : p ≤ b.length) (st : St) (hst : st.2.2.length ≤ 100) (tm : List AV) (H : Heap) (hlen : tm.length = 112) (h0 : tm.getD 0 undefA = .ptr ir 0 0) (h2 : tm.getD 2 undefA = .im (.str ps)) (h3 : tm.getD 3 undefA = .im (.int .i64 d)) (h9 : tm.getD 9 undefA = .ptr (N + 1) 0 0) (h11 : tm.getD 11 undefA = .im (.int .i64 (i : Int)))
  (hir : H[ir]? = some (objS b p false)) (hnd : NodeAt 27 (N + 2) (N + 1) w st H) (hN : N + 2 ≤ H.length) (hirN : ir < N + 2)
  (hcall : isE c = true → ∃ nd, L 18 [.ptr ir 0 0, .im (.int .i64 d')] H = some (.im (.agg (encN nd)), H.set ir (objS b (rd p).2.1 (rd p).2.2)) ∧ ((rd p).2.2 = false → nd = (rd p).1)) {R : Type} (K : AEx → List AV → Heap → Option R) :
  Did b w ir N tm H K (exec0 L Λ sw35 tm H K) (itemX rd b c st p) := by
 by_cases h100 : c = 100
 ·exact sw35_d b hb ir N hne w ps i c hc rd h100 p hp st hst tm H hlen h0 h2 h9 h11 hir hnd hN hirN K
 by_cases h116 : c = 116
 ·exact sw35_t b hb ir N hne w ps i c hc rd h116 p hp st hst tm H hlen h0 h2 h9 h11 hir hnd hN hirN K
 by_cases h110 : c = 110
 ·exact sw35_n b hb ir N hne w ps i c hc rd h110 p hp st hst tm H hlen h0 h2 h9 h11 hir hnd hN hirN K
 have he : isE c = true := by unfold isE; rw [decide_eq_false h100, decide_eq_false h116, decide_eq_false h110]; rfl
 exact sw35_e b hb ir N hne w ps i c hc d d' hd rd he p hp st hst tm H hlen h0 h2 h3 h9 h11 hir hnd hN hirN (hcall he) K
end Go.Abs.Seat
end
section
set_option linter.unusedVariables false
set_option linter.unusedSimpArgs false
namespace Go.Abs.Seat
open Go.Proofs
theorem gath_len {tid : TypeId} {s n : Nat} {v : AV} {H : Heap} {es : List (List Dat)} (h : Gath tid s n v H es) : lenA v = some es.length := by
 rcases h with ⟨rfl, rfl⟩ | ⟨h1, tok, h2, rfl, h4⟩ <;> rfl
theorem tl35_all (b : List UInt8) (hb : b.length ≤ 2305843009213693952) (ir N : Nat) (hne : ir ≠ N + 1) (w ps : List UInt8) (i : Nat) (hi : i ≤ 100) (q : Nat) (hq : q ≤ b.length) (bad : Bool) (st : St) (tm : List AV) (H : Heap) (hlen : tm.length = 112) (h0 : tm.getD 0 undefA = .ptr ir 0 0) (h2 : tm.getD 2 undefA = .im (.str ps)) (h9 : tm.getD 9 undefA = .ptr (N + 1) 0 0) (h11 : tm.getD 11 undefA = .im (.int .i64 (i : Int)))
  (hir : H[ir]? = some (objS b q bad)) (hnd : NodeAt 27 (N + 2) (N + 1) w st H) {R : Type} (K : AEx → List AV → Heap → Option R) :
  ∃ tm' H' q', exec0 L Λ tl35 tm H K = K .normal tm' H' ∧ H' = H.set ir (objS b q' bad) ∧ tm'.length = 112 ∧ Regs [0, 1, 2, 3, 8, 9, 10] tm tm' ∧ tm'.getD 11 undefA = .im (.int .i64 (if (!bad && moreX b (decide (ps = [43])) st q) = true then (i : Int) - 1 else (i : Int))) ∧ (bad = true → q' = q) ∧ (q' = q ∨ q' = skipB b q) := by
 have hirl := (List.getElem?_eq_some_iff.1 hir).1
 have hself : H = H.set ir (objS b q bad) := (set_same hir).symm
 obtain ⟨k, y, v, o1, hty, hG⟩ := hnd
 have hlv := gath_len hG
 rw [List.length_map] at hlv
 have c1 := s19' (b := b) hirl (by omega) hq bad
 rw [← hself] at c1
 have c2 := s29' (b := b) hirl (by omega) (skipB b q) bad
 have hsub : IntKind.i64.wrap ((i : Int) - 1) = (i : Int) - 1 := Go.Abs.Seat.wrap_small _ (by omega)
 have e64 : decide ((st.2.2.length : Int) < 64) = decide (st.2.2.length < 64) := by
  by_cases h : st.2.2.length < 64
  ·rw [decide_eq_true h, decide_eq_true (by omega)]
  ·rw [decide_eq_false h, decide_eq_false (by omega)]
 have e44 : decide (((peekB b (skipB b q)).toNat : Int) = 44) = decide (peekB b (skipB b q) = 44) := byte_eq _ 44
 unfold moreX
 simp only [objS] at hir c1 c2
 rcases Bool.eq_false_or_eq_true (decide (ps = [43])) with e1 | e1
 ·cases bad with
  | true =>
   simp only [Bool.not_true,Bool.false_and,Bool.false_eq_true,if_false]
   simp only [tl35,B0,B1,B2,List.replicate,Nat.reduceAdd,Nat.reduceSub,Nat.reduceLeDiff,Nat.reduceLT,Nat.reduceEqDiff,reduceCtorEq,Int.reduceEq,Int.reduceLT,Int.reduceLE,z_ops,z_nil,z_cons,z_guard,z_some,z_drop,z_do,z_not,z_not0,pairK,forall_eq_or_imp,stays,loadOf,List.reverse_cons,List.reverse_nil,List.mem_cons,List.not_mem_nil,or_false,forall_eq,true_or,or_true,Bool.true_and,hlen,h0,h2,h9,h11,hir,e1]
   refine ⟨_, _, q, rfl, hself, by simp only [List.length_set,hlen], ?_, ?_, fun _ => rfl, .inl rfl⟩
   ·intro j hj
    simp only [List.mem_cons,List.not_mem_nil,or_false] at hj
    rcases hj with rfl | rfl | rfl | rfl | rfl | rfl | rfl <;> simp only [B3,Nat.reduceLT,Nat.reduceEqDiff,hlen]
   ·simp only [B3,Nat.reduceLT,Nat.reduceEqDiff,hlen,h11]
  | false =>
   rcases Bool.eq_false_or_eq_true (decide (st.2.2.length < 64)) with e2 | e2
   ·rcases Bool.eq_false_or_eq_true (decide (peekB b (skipB b q) = 44)) with e3 | e3
    ·simp only [e1,e2,e3,Bool.not_false,Bool.and_self,if_true]
     simp only [tl35,B0,B1,B2,List.replicate,Nat.reduceAdd,Nat.reduceSub,Nat.reduceLeDiff,Nat.reduceLT,Nat.reduceEqDiff,reduceCtorEq,Int.reduceEq,Int.reduceLT,Int.reduceLE,z_ops,z_nil,z_cons,z_guard,z_some,z_drop,z_do,z_not,z_not0,pairK,forall_eq_or_imp,stays,loadOf,List.reverse_cons,List.reverse_nil,List.mem_cons,List.not_mem_nil,or_false,forall_eq,true_or,or_true,Bool.true_and,hlen,h0,h2,h9,h11,hir,o1,hlv,e64,e44,e1,e2,e3,c1,c2,hsub]
     refine ⟨_, _, skipB b q, rfl, rfl, by simp only [List.length_set,hlen], ?_, ?_, fun h => by simp at h, .inr rfl⟩
     ·intro j hj
      simp only [List.mem_cons,List.not_mem_nil,or_false] at hj
      rcases hj with rfl | rfl | rfl | rfl | rfl | rfl | rfl <;> simp only [B3,Nat.reduceLT,Nat.reduceEqDiff,hlen]
     ·simp only [B3,Nat.reduceLT,Nat.reduceEqDiff,hlen,h11]
    ·simp only [e1,e2,e3,Bool.not_false,Bool.and_self,Bool.and_false,Bool.false_eq_true,if_false]
     simp only [tl35,B0,B1,B2,List.replicate,Nat.reduceAdd,Nat.reduceSub,Nat.reduceLeDiff,Nat.reduceLT,Nat.reduceEqDiff,reduceCtorEq,Int.reduceEq,Int.reduceLT,Int.reduceLE,z_ops,z_nil,z_cons,z_guard,z_some,z_drop,z_do,z_not,z_not0,pairK,forall_eq_or_imp,stays,loadOf,List.reverse_cons,List.reverse_nil,List.mem_cons,List.not_mem_nil,or_false,forall_eq,true_or,or_true,Bool.true_and,hlen,h0,h2,h9,h11,hir,o1,hlv,e64,e44,e1,e2,e3,c1,c2,hsub]
     refine ⟨_, _, skipB b q, rfl, rfl, by simp only [List.length_set,hlen], ?_, ?_, fun h => by simp at h, .inr rfl⟩
     ·intro j hj
      simp only [List.mem_cons,List.not_mem_nil,or_false] at hj
      rcases hj with rfl | rfl | rfl | rfl | rfl | rfl | rfl <;> simp only [B3,Nat.reduceLT,Nat.reduceEqDiff,hlen]
     ·simp only [B3,Nat.reduceLT,Nat.reduceEqDiff,hlen,h11]
   ·simp only [e1,e2,Bool.not_false,Bool.and_self,Bool.false_and,Bool.and_false,Bool.false_eq_true,if_false]
    simp only [tl35,B0,B1,B2,List.replicate,Nat.reduceAdd,Nat.reduceSub,Nat.reduceLeDiff,Nat.reduceLT,Nat.reduceEqDiff,reduceCtorEq,Int.reduceEq,Int.reduceLT,Int.reduceLE,z_ops,z_nil,z_cons,z_guard,z_some,z_drop,z_do,z_not,z_not0,pairK,forall_eq_or_imp,stays,loadOf,List.reverse_cons,List.reverse_nil,List.mem_cons,List.not_mem_nil,or_false,forall_eq,true_or,or_true,Bool.true_and,hlen,h0,h2,h9,h11,hir,o1,hlv,e64,e1,e2]
    refine ⟨_, _, q, rfl, hself, by simp only [List.length_set,hlen], ?_, ?_, fun h => rfl, .inl rfl⟩
    ·intro j hj
     simp only [List.mem_cons,List.not_mem_nil,or_false] at hj
     rcases hj with rfl | rfl | rfl | rfl | rfl | rfl | rfl <;> simp only [B3,Nat.reduceLT,Nat.reduceEqDiff,hlen]
    ·simp only [B3,Nat.reduceLT,Nat.reduceEqDiff,hlen,h11]
 ·simp only [e1,Bool.false_and,Bool.and_false,Bool.false_eq_true,if_false]
  simp only [tl35,B0,B1,B2,List.replicate,Nat.reduceAdd,Nat.reduceSub,Nat.reduceLeDiff,Nat.reduceLT,Nat.reduceEqDiff,reduceCtorEq,Int.reduceEq,Int.reduceLT,Int.reduceLE,z_ops,z_nil,z_cons,z_guard,z_some,z_drop,z_do,z_not,z_not0,pairK,forall_eq_or_imp,stays,loadOf,List.reverse_cons,List.reverse_nil,List.mem_cons,List.not_mem_nil,or_false,forall_eq,true_or,or_true,Bool.true_and,hlen,h0,h2,h9,h11,hir,e1]
  refine ⟨_, _, q, rfl, hself, by simp only [List.length_set,hlen], ?_, ?_, fun h => rfl, .inl rfl⟩
  ·intro j hj
   simp only [List.mem_cons,List.not_mem_nil,or_false] at hj
   rcases hj with rfl | rfl | rfl | rfl | rfl | rfl | rfl <;> simp only [B3,Nat.reduceLT,Nat.reduceEqDiff,hlen]
  ·simp only [B3,Nat.reduceLT,Nat.reduceEqDiff,hlen,h11]
theorem tl35_elim {R : Type} {P : Option R → Prop} {b : List UInt8} {ir : Nat} {ps : List UInt8} {i q : Nat} {bad : Bool} {st : St} {tm : List AV} {H : Heap} {K : AEx → List AV → Heap → Option R}
  (h : ∃ tm' H' q', exec0 L Λ tl35 tm H K = K .normal tm' H' ∧ H' = H.set ir (objS b q' bad) ∧ tm'.length = 112 ∧ Regs [0, 1, 2, 3, 8, 9, 10] tm tm' ∧ tm'.getD 11 undefA = .im (.int .i64 (if (!bad && moreX b (decide (ps = [43])) st q) = true then (i : Int) - 1 else (i : Int))) ∧ (bad = true → q' = q) ∧ (q' = q ∨ q' = skipB b q))
  (hP : ∀ tm' q', tm'.length = 112 → Regs [0, 1, 2, 3, 8, 9, 10] tm tm' → tm'.getD 11 undefA = .im (.int .i64 (if (!bad && moreX b (decide (ps = [43])) st q) = true then (i : Int) - 1 else (i : Int))) → (bad = true → q' = q) → (q' = q ∨ q' = skipB b q) → P (K .normal tm' (H.set ir (objS b q' bad)))) : P (exec0 L Λ tl35 tm H K) := by
 obtain ⟨tm', H', q', h1, rfl, h2, h3, h4, h5, h6⟩ := h
 rw [h1]
 exact hP tm' q' h2 h3 h4 h5 h6
theorem But2.refl {n ir id : Nat} {H : Heap} : But2 n ir id H H := ⟨Nat.le_refl _, fun _ _ _ _ => rfl⟩
theorem But2.trans {n ir id : Nat} {A B C : Heap} (h : But2 n ir id A B) (h2 : But2 n ir id B C) : But2 n ir id A C :=
 ⟨Nat.le_trans h.1 h2.1, fun i a b c => (h2.2 i a b c).trans (h.2 i a b c)⟩
theorem But2.set {n ir id : Nat} {A : Heap} (o : HO) : But2 n ir id A (A.set ir o) := ⟨by simp, fun i _ h _ => List.getElem?_set_ne (fun e => h e.symm)⟩
theorem Regs.trans {l : List Nat} {a b c : List AV} (h : Regs l a b) (h2 : Regs l b c) : Regs l a c := fun j hj => (h2 j hj).trans (h j hj)
theorem Regs.sub {l l' : List Nat} {a b : List AV} (h : Regs l a b) (hl : ∀ j ∈ l', j ∈ l) : Regs l' a b := fun j hj => h j (hl j hj)
def Gone (b w : List UInt8) (ir N : Nat) (tm : List AV) (H : Heap) (r : St × Nat × Bool) (e : AEx) (tm' : List AV) (H' : Heap) : Prop :=
 e = .exit 0 ∧ tm'.length = 112 ∧ Regs [0, 1, 2, 3, 8, 9] tm tm' ∧ But2 (N + 2) ir (N + 1) H H' ∧ ∃ q' st', H'[ir]? = some (objS b q' r.2.2) ∧ NodeAt 27 (N + 2) (N + 1) w st' H' ∧ q' ≤ b.length ∧ (r.2.2 = true → q' = r.2.1) ∧ (r.2.2 = false → st' = r.1 ∧ ∀ c, signP b q' false c = signP b r.2.1 false c)
theorem Gone.before {b w : List UInt8} {ir N : Nat} {tm tm0 : List AV} {H H0 : Heap} {r : St × Nat × Bool} {e : AEx} {tm' : List AV} {H' : Heap} (h : Gone b w ir N tm H r e tm' H') (ht : Regs [0, 1, 2, 3, 8, 9] tm0 tm) (hh : But2 (N + 2) ir (N + 1) H0 H) : Gone b w ir N tm0 H0 r e tm' H' :=
 ⟨h.1, h.2.1, ht.trans h.2.2.1, hh.trans h.2.2.2.1, h.2.2.2.2⟩
theorem l35_stop {b w ps : List UInt8} {ir N : Nat} {z : Int} {tm : List AV} {H : Heap} {q : Nat} {st : St} {r : St × Nat × Bool} (hr : r.2 = (q, true)) (hq : q ≤ b.length) (hlen : tm.length = 112) (h0 : tm.getD 0 undefA = .ptr ir 0 0) (h2 : tm.getD 2 undefA = .im (.str ps)) (h11 : tm.getD 11 undefA = .im (.int .i64 z)) (hir : H[ir]? = some (objS b q true)) (hnd : NodeAt 27 (N + 2) (N + 1) w st H) :
  ∃ e tm' H', Λ c35_0 tm H = some (e, tm', H') ∧ Gone b w ir N tm H r e tm' H' := by
 have hir' := hir
 simp only [objS] at hir
 have fin : ∀ tm', tm'.length = 112 → Regs [0, 1, 2, 3, 8, 9] tm tm' → Gone b w ir N tm H r (.exit 0) tm' H := fun tm' h1 h2 => by
  refine ⟨rfl, h1, h2, .refl, q, st, ?_, hnd, hq, fun _ => by rw [hr], fun h => by rw [hr] at h; simp at h⟩
  rw [hr]; exact hir'
 rw [l35_0, cut35]
 rcases Bool.eq_false_or_eq_true (decide (z < (ps.length : Int))) with e1 | e1
 all_goals simp only [T35,B0,B1,B2,List.replicate,Nat.reduceAdd,Nat.reduceSub,Nat.reduceLeDiff,Nat.reduceLT,Nat.reduceEqDiff,reduceCtorEq,Int.reduceEq,Int.reduceLT,Int.reduceLE,lenA,hlen,h0,h2,h11,hir,e1]
 all_goals refine ⟨_, _, _, rfl, fin _ (by simp only [List.length_set,hlen]) ?_⟩
 all_goals
  intro j hj
  simp only [List.mem_cons,List.not_mem_nil,or_false] at hj
  rcases hj with rfl | rfl | rfl | rfl | rfl | rfl <;> simp only [B3,Nat.reduceLT,Nat.reduceEqDiff,hlen]
theorem item_kids (rd : Nat → NT × Nat × Bool) (b : List UInt8) (c : UInt8) (st : St) (p : Nat) : (itemX rd b c st p).1.2.2.length ≤ st.2.2.length + 1 := by
 unfold itemX
 split
 ·split <;> simp
 ·split
  ·simp
  ·split <;> simp
theorem item_kids2 (rd : Nat → NT × Nat × Bool) (b : List UInt8) (c : UInt8) (st : St) (p : Nat) : st.2.2.length ≤ (itemX rd b c st p).1.2.2.length := by
 unfold itemX
 split
 ·split <;> simp
 ·split
  ·simp
  ·split <;> simp
theorem item_kids3 (rd : Nat → NT × Nat × Bool) (b : List UInt8) (c : UInt8) (st : St) (p : Nat) (hc : c = 43) : (itemX rd b c st p).1.2.2.length = st.2.2.length + 1 := by
 unfold itemX
 rw [if_neg (by rw [hc]; decide), if_neg (by rw [hc]; decide), if_neg (by rw [hc]; decide)]
 simp
theorem l35 (b : List UInt8) (hb : b.length ≤ 2305843009213693952) (ir N : Nat) (hirN : ir < N) (w ps : List UInt8) (hps : ps.length ≤ 5) (d d' : Int) (hd : IntKind.i64.wrap (d - 1) = d') (rd : Nat → NT × Nat × Bool) (hrdl : ∀ p, p ≤ b.length → (rd p).2.1 ≤ b.length)
  (hcall : ∀ c ∈ ps, isE c = true → ∀ (p : Nat) (H : Heap), p ≤ b.length → H[ir]? = some (objS b p false) → ∃ nd, L 18 [.ptr ir 0 0, .im (.int .i64 d')] H = some (.im (.agg (encN nd)), H.set ir (objS b (rd p).2.1 (rd p).2.2)) ∧ ((rd p).2.2 = false → nd = (rd p).1)) :
  ∀ (f : Nat) (mark : UInt8) (i : Nat) (cs : List UInt8) (st : St) (p p' : Nat) (tm : List AV) (H : Heap), mark ≠ 0 → ps.drop i = cs → i ≤ ps.length → cs.length + (64 - st.2.2.length) ≤ f → st.2.2.length + cs.length ≤ 69 → p ≤ b.length → p' ≤ b.length → (∀ c, signP b p' false c = signP b p false c) →
   tm.length = 112 → tm.getD 0 undefA = .ptr ir 0 0 → tm.getD 2 undefA = .im (.str ps) → tm.getD 3 undefA = .im (.int .i64 d) → tm.getD 9 undefA = .ptr (N + 1) 0 0 → tm.getD 10 undefA = .im (.int .u8 (mark.toNat : Int)) → tm.getD 11 undefA = .im (.int .i64 (i : Int)) →
   H[ir]? = some (objS b p' false) → NodeAt 27 (N + 2) (N + 1) w st H → N + 2 ≤ H.length →
   ∃ e tm' H', Λ c35_0 tm H = some (e, tm', H') ∧ Gone b w ir N tm H (goX rd b (decide (ps = [43])) f mark cs st p) e tm' H'
 | f, mark, i, [], st, p, p', tm, H, hm, hcs, hi, hf, hk, hp, hp', hpp, hlen, h0, h2, h3, h9, h10, h11, hir, hnd, hN => by
  have hil : ps.length ≤ i := List.drop_eq_nil_iff.1 hcs
  have e1 : decide ((i : Int) < (ps.length : Int)) = false := decide_eq_false (by omega)
  have hgo : goX rd b (decide (ps = [43])) f mark [] st p = (st, p, false) := by cases f <;> rfl
  rw [hgo]
  have hir' := hir
  simp only [objS] at hir
  rw [l35_0, cut35]
  simp only [T35,B0,B1,B2,List.replicate,Nat.reduceAdd,Nat.reduceSub,Nat.reduceLeDiff,Nat.reduceLT,Nat.reduceEqDiff,reduceCtorEq,Int.reduceEq,Int.reduceLT,Int.reduceLE,lenA,hlen,h0,h2,h11,hir,e1]
  refine ⟨_, _, _, rfl, rfl, by simp only [List.length_set,hlen], ?_, .refl, p', st, hir', hnd, hp', fun h => by simp at h, fun _ => ⟨rfl, hpp⟩⟩
  intro j hj
  simp only [List.mem_cons,List.not_mem_nil,or_false] at hj
  rcases hj with rfl | rfl | rfl | rfl | rfl | rfl <;> simp only [B3,Nat.reduceLT,Nat.reduceEqDiff,hlen]
 | 0, mark, i, c :: cs, st, p, p', tm, H, hm, hcs, hi, hf, hk, hp, hp', hpp, hlen, h0, h2, h3, h9, h10, h11, hir, hnd, hN => by simp at hf
 | f + 1, mark, i, c :: cs, st, p, p', tm, H, hm, hcs, hi, hf, hk, hp, hp', hpp, hlen, h0, h2, h3, h9, h10, h11, hir, hnd, hN => by
  have hil : i < ps.length := by
   rcases Nat.lt_or_ge i ps.length with h | h
   ·exact h
   ·rw [List.drop_of_length_le h] at hcs; simp at hcs
  have hci : ps[i]? = some c := by
   have := List.getElem?_drop (xs := ps) (i := i) (j := 0)
   rw [hcs] at this; simpa using this.symm
  have hcs' : ps.drop (i + 1) = cs := by
   rw [← List.drop_drop, hcs]; rfl
  have hcm : c ∈ ps := List.mem_of_getElem? hci
  have hirl := (List.getElem?_eq_some_iff.1 hir).1
  have e1 : decide ((i : Int) < (ps.length : Int)) = true := decide_eq_true (by omega)
  have c1 := s53 b p' ir false mark H hm hir (by omega) hp'
  rw [hpp mark] at c1
  have hsl := sign_len (bad := false) (c := mark) hp hm
  have hir' := hir
  simp only [objS] at hir
  rw [l35_0, cut35]
  generalize hR : goX rd b (decide (ps = [43])) (f + 1) mark (c :: cs) st p = r
  unfold goX at hR
  generalize hsg : signP b p false mark = sg at *
  obtain ⟨q, bad⟩ := sg
  simp only at c1 hsl hR
  cases bad with
  | true =>
   rw [if_pos rfl] at hR
   subst hR
   have hg : (H.set ir (objS b q true))[ir]? = some (objS b q true) := List.getElem?_set_self hirl
   have hg' := hg
   simp only [objS] at hg' c1
   simp only [T35,S35,M35,B35,B0,B1,B2,List.replicate,Nat.reduceAdd,Nat.reduceSub,Nat.reduceLeDiff,Nat.reduceLT,Nat.reduceEqDiff,reduceCtorEq,Int.reduceEq,Int.reduceLT,Int.reduceLE,lenA,hlen,h0,h2,h10,h11,hir,e1,c1,hg']
   refine ⟨_, _, _, rfl, rfl, by simp only [List.length_set,hlen], ?_, .set _, q, st, hg, hnd.set (by omega) hir' _, hsl, fun _ => rfl, fun h => by simp at h⟩
   intro j hj
   simp only [List.mem_cons,List.not_mem_nil,or_false] at hj
   rcases hj with rfl | rfl | rfl | rfl | rfl | rfl <;> simp only [B3,Nat.reduceLT,Nat.reduceEqDiff,hlen]
  | false =>
   rw [if_neg (by simp)] at hR
   have hg : (H.set ir (objS b q false))[ir]? = some (objS b q false) := List.getElem?_set_self hirl
   have hg' := hg
   have hnd1 : NodeAt 27 (N + 2) (N + 1) w st (H.set ir (objS b q false)) := hnd.set (by omega) hir' _
   have hN1 : N + 2 ≤ (H.set ir (objS b q false)).length := by simpa using hN
   have hcl := fun he => hcall c hcm he q _ hsl hg
   have hB1 : But2 (N + 2) ir (N + 1) H (H.set ir (objS b q false)) := .set _
   have hkd := item_kids rd b c st q
   have hkd2 := item_kids2 rd b c st q
   have hkd3 := item_kids3 rd b c st q
   have hil2 := item_len hrdl c st hsl
   have ih := fun st1 q1 q2 i' cs' tm1 H1 h1 h2 h3 h4 => l35 b hb ir N hirN w ps hps d d' hd rd hrdl hcall f 44 i' cs' st1 q1 q2 tm1 H1 (by decide) h1 h2 h3 h4
   generalize H.set ir (objS b q false) = H1 at *
   have hD := fun (tmX : List AV) a1 a2 a3 a4 a5 a6 (K : AEx → List AV → Heap → Option Out) => sw35_all b hb ir N (by omega) w ps i c hci d d' hd rd q hsl st (by simp at hk; omega) tmX H1 a1 a2 a3 a4 a5 a6 hg hnd1 hN1 (by omega) hcl K
   simp only [objS] at hg'
   simp only [T35,S35,M35,B35,B0,B1,B2,List.replicate,Nat.reduceAdd,Nat.reduceSub,Nat.reduceLeDiff,Nat.reduceLT,Nat.reduceEqDiff,reduceCtorEq,Int.reduceEq,Int.reduceLT,Int.reduceLE,lenA,hlen,h0,h2,h10,h11,hir,e1,c1,hg']
   refine did_elim (P := fun o => ∃ e tm' H', o = some (e, tm', H') ∧ Gone b w ir N tm H r e tm' H') (hD _ ?_ ?_ ?_ ?_ ?_ ?_ _) ?_
   iterate 6 simp only [B3,Nat.reduceLT,Nat.reduceEqDiff,hlen,h0,h2,h3,h9,h11]
   intro tm1 H2 st1 l1 r1 b1 i1 n1 q1
   have a0 := r1 0 (by simp)
   have a2 := r1 2 (by simp)
   have a3 := r1 3 (by simp)
   have a9 := r1 9 (by simp)
   have a10 := r1 10 (by simp)
   have a11 := r1 11 (by simp)
   have rr : Regs [0, 1, 2, 3, 8, 9] tm tm1 := fun j hj => by
    refine (r1 j (by simp only [List.mem_cons,List.not_mem_nil,or_false] at hj ⊢; omega)).trans ?_
    simp only [List.mem_cons,List.not_mem_nil,or_false] at hj
    rcases hj with rfl | rfl | rfl | rfl | rfl | rfl <;> simp only [B3,Nat.reduceLT,Nat.reduceEqDiff,hlen]
   simp only [B3,Nat.reduceLT,Nat.reduceEqDiff,hlen,h0] at a0
   simp only [B3,Nat.reduceLT,Nat.reduceEqDiff,hlen,h2] at a2
   simp only [B3,Nat.reduceLT,Nat.reduceEqDiff,hlen,h3] at a3
   simp only [B3,Nat.reduceLT,Nat.reduceEqDiff,hlen,h9] at a9
   simp only [B3,Nat.reduceLT,Nat.reduceEqDiff,hlen] at a10
   simp only [B3,Nat.reduceLT,Nat.reduceEqDiff,hlen,h11] at a11
   clear r1 hD hcl
   generalize itemX rd b c st q = it at *
   obtain ⟨stx, qx, bx⟩ := it
   simp only at hkd hkd2 hkd3 hil2 i1 q1 hR
   have htl := fun (K : AEx → List AV → Heap → Option Out) => tl35_all b hb ir N (by omega) w ps i (by omega) qx hil2 bx st1 tm1 H2 l1 a0 a2 a9 a11 i1 n1 K
   simp only [k_normal]
   refine tl35_elim (P := fun o => ∃ e tm' H', o = some (e, tm', H') ∧ Gone b w ir N tm H r e tm' H') (htl _) ?_
   intro tm2 q2 l2 r2 e11 hq1 hq2
   have i2 : (H2.set ir (objS b q2 bx))[ir]? = some (objS b q2 bx) := List.getElem?_set_self (List.getElem?_eq_some_iff.1 i1).1
   have n2 : NodeAt 27 (N + 2) (N + 1) w st1 (H2.set ir (objS b q2 bx)) := n1.set (by omega) i1 _
   have b2 : But2 (N + 2) ir (N + 1) H (H2.set ir (objS b q2 bx)) := hB1.trans (b1.trans (.set _))
   have rr2 : Regs [0, 1, 2, 3, 8, 9] tm tm2 := rr.trans (r2.sub (by simp))
   have a0 := (r2 0 (by simp)).trans a0
   have a2 := (r2 2 (by simp)).trans a2
   have a3 := (r2 3 (by simp)).trans a3
   have a9 := (r2 9 (by simp)).trans a9
   have a10 := (r2 10 (by simp)).trans a10
   have hN2 := b2.1
   generalize H2.set ir (objS b q2 bx) = H3 at *
   have w1 : IntKind.i64.wrap ((i : Int) - 1 + 1) = (i : Int) := by rw [Go.Abs.Seat.wrap_small _ (by omega)]; omega
   have w2 := wrap_nat (i := i) (by omega)
   have rI : ∀ x y z, Regs [0, 1, 2, 3, 8, 9] tm ((((tm2.set 25 x).set 26 y).set 11 z)) := fun x y z => rr2.trans fun j hj => by
    simp only [List.mem_cons,List.not_mem_nil,or_false] at hj
    rcases hj with rfl | rfl | rfl | rfl | rfl | rfl <;> simp only [B3,Nat.reduceLT,Nat.reduceEqDiff,l2]
   cases bx with
   | true =>
    have hq2' := hq1 rfl
    subst hq2'
    rw [if_pos rfl] at hR
    simp only [Bool.not_true,Bool.false_and,Bool.false_eq_true,if_false] at e11
    simp only [I35,B0,B1,B2,List.replicate,Nat.reduceAdd,Nat.reduceSub,Nat.reduceLeDiff,Nat.reduceLT,Nat.reduceEqDiff,reduceCtorEq,Int.reduceEq,Int.reduceLT,Int.reduceLE,lenA,l2,e11,w2]
    refine ex_imp (l35_stop (z := ((i + 1 : Nat) : Int)) (b := b) (w := w) (ps := ps) (ir := ir) (N := N) (q := q2) (st := st1) (r := r) (by rw [← hR]) hil2 ?_ ?_ ?_ ?_ i2 n2) fun _ _ _ h => h.before (rI _ _ _) b2
    ·simp only [List.length_set,l2]
    all_goals simp only [B3,Nat.reduceLT,Nat.reduceEqDiff,l2,a0,a2]
   | false =>
    rw [if_neg (by simp)] at hR
    have hst1 := q1 rfl
    subst hst1
    have hq2l : q2 ≤ b.length := by
     rcases hq2 with h | h
     ·omega
     ·rw [h]; exact skip_len hil2
    have hqq : ∀ c, signP b q2 false c = signP b qx false c := fun c => by
     rcases hq2 with h | h
     ·rw [h]
     ·rw [h]; exact sign_skip hil2 c
    simp only [Bool.not_false,Bool.true_and] at e11
    have hz : ((44 : UInt8).toNat : Int) = 44 := rfl
    rcases Bool.eq_false_or_eq_true (moreX b (decide (ps = [43])) st1 qx) with hm1 | hm1
    ·rw [hm1, if_pos rfl] at e11
     rw [hm1, if_pos rfl] at hR
     have hlt : st1.2.2.length < 64 := by
      unfold moreX at hm1
      simp only [Bool.and_eq_true,decide_eq_true_eq] at hm1
      exact hm1.2.1
     have hlst : ps = [43] := by
      unfold moreX at hm1
      simp only [Bool.and_eq_true,decide_eq_true_eq] at hm1
      exact hm1.1
     subst hR
     simp only [I35,B0,B1,B2,List.replicate,Nat.reduceAdd,Nat.reduceSub,Nat.reduceLeDiff,Nat.reduceLT,Nat.reduceEqDiff,reduceCtorEq,Int.reduceEq,Int.reduceLT,Int.reduceLE,lenA,l2,e11,w1]
     refine ex_imp (ih st1 qx q2 i (c :: cs) _ H3 hcs hi ?_ ?_ hil2 hq2l hqq ?_ ?_ ?_ ?_ ?_ ?_ ?_ i2 n2 (by omega)) fun _ _ _ h => h.before (rI _ _ _) b2
     ·have := hkd3 (by rw [hlst] at hcm; simpa using hcm)
      simp only [List.length_cons] at hf ⊢; omega
     ·have : (c :: cs).length ≤ 5 := by rw [← hcs, List.length_drop]; omega
      omega
     ·simp only [List.length_set,l2]
     all_goals simp only [B3,Nat.reduceLT,Nat.reduceEqDiff,l2,a0,a2,a3,a9,a10,hz]
    ·rw [hm1, if_neg (by simp)] at e11
     rw [hm1, if_neg (by simp)] at hR
     subst hR
     simp only [I35,B0,B1,B2,List.replicate,Nat.reduceAdd,Nat.reduceSub,Nat.reduceLeDiff,Nat.reduceLT,Nat.reduceEqDiff,reduceCtorEq,Int.reduceEq,Int.reduceLT,Int.reduceLE,lenA,l2,e11,w2]
     refine ex_imp (ih st1 qx q2 (i + 1) cs _ H3 hcs' (by omega) (by simp at hf; omega) (by simp at hk; omega) hil2 hq2l hqq ?_ ?_ ?_ ?_ ?_ ?_ ?_ i2 n2 (by omega)) fun _ _ _ h => h.before (rI _ _ _) b2
     ·simp only [List.length_set,l2]
     all_goals simp only [B3,Nat.reduceLT,Nat.reduceEqDiff,l2,a0,a2,a3,a9,a10,hz]
end Go.Abs.Seat
end
section
set_option linter.unusedVariables false
set_option linter.unusedSimpArgs false
namespace Go.Abs.Seat
open Go.Proofs
def VA (v : AV) (kids : List NT) : Prop := (v = .nils ∧ kids = []) ∨ ∃ tok, v = .asl 6 (kids.map encN) tok ∧ kids ≠ []
theorem gath_va {tid : TypeId} {n : Nat} {v : AV} {H : Heap} {kids : List NT} (h : Gath tid 6 n v H (kids.map encN)) : VA v kids := by
 rcases h with ⟨he, rfl⟩ | ⟨he, tok, _, rfl, _⟩
 ·exact .inl ⟨rfl, by simpa using he⟩
 ·exact .inr ⟨tok, rfl, by simpa using he⟩
theorem node_deg {w : List UInt8} {i k : Int} {y v : AV} {ty : KT} {kids : List NT} (hy : TyA ty k y) (hv : VA v kids) : degrade (.agg [.im (.str w), .im (.int .i64 i), .im (.str []), .im (.int .i64 k), y, v]) = .im (.agg (encN (mkN w i [] ty kids))) := by
 have hv' : toDat v = some (.sl (if kids.length = 0 then 0 else 6) (encNs kids)) := by
  rcases hv with ⟨rfl, rfl⟩ | ⟨tok, rfl, hne⟩
  ·rfl
  ·rw [if_neg (by simpa using hne), encNs_map]; rfl
 rcases hy with ⟨rfl, rfl, rfl⟩ | ⟨s, args, rfl, rfl⟩
 ·simp only [degrade,toDat,toDats,hv',mkN,zeroT,mkT,encN,encTs,List.length_nil,if_true]
 ·simp only [degrade,toDat,toDats,hv',mkN,encN]
theorem endK_35 {H H' : Heap} {tm : List AV} {ir q : Nat} {b w : List UInt8} {i k : Int} {y v : AV} {ty : KT} {kids : List NT} {bad : Bool} (hir : ir < H.length) (h8 : tm.getD 8 undefA = .ptr H.length 0 0) (hN : H'[H.length]? = some (.obj none [[.im (.str w), .im (.int .i64 i), .im (.str []), .im (.int .i64 k), y, v]]))
  (hy : TyA ty k y) (hv : VA v kids) (hb : But H.length ir H H') (ho : H'[ir]? = some (objS b q bad)) : endK f35 H .ret tm H' = some (.im (.agg (encN (mkN w i [] ty kids))), H.set ir (objS b q bad)) := by
 have hd := node_deg (w := w) (i := i) hy hv
 have hfr : f35.results = [(8, some (some 6))] := rfl
 have hfk : f35.keep = false := rfl
 have hr := leave_but (keep := false) (r := .agg [.im (.str w), .im (.int .i64 i), .im (.str []), .im (.int .i64 k), y, v]) hb ho rfl (by simp only [Bool.false_eq_true,if_false,hd,refsLt]) hir
 simp only [Bool.false_eq_true,if_false,hd] at hr
 rcases hy with ⟨rfl, rfl, rfl⟩ | ⟨s, args, rfl, rfl⟩ <;> rcases hv with ⟨rfl, rfl⟩ | ⟨tok, rfl, hne⟩
 all_goals
  simp only [endK,hfr,hfk,B0,B1,B2,List.replicate,Nat.reduceAdd,Nat.reduceSub,Nat.reduceLeDiff,Nat.reduceLT,Nat.reduceEqDiff,reduceCtorEq,Int.reduceEq,Int.reduceLT,Int.reduceLE,lenA,resA,tupA,h8,hN]
  rw [hr]
theorem s35 (b : List UInt8) (hb : b.length ≤ 2305843009213693952) (ir : Nat) (w ps : List UInt8) (hps : ps.length ≤ 5) (d d' : Int) (hd : IntKind.i64.wrap (d - 1) = d') (rd : Nat → NT × Nat × Bool) (hrdl : ∀ p, p ≤ b.length → (rd p).2.1 ≤ b.length)
  (hcall : ∀ c ∈ ps, isE c = true → ∀ (p : Nat) (H : Heap), p ≤ b.length → H[ir]? = some (objS b p false) → ∃ nd, L 18 [.ptr ir 0 0, .im (.int .i64 d')] H = some (.im (.agg (encN nd)), H.set ir (objS b (rd p).2.1 (rd p).2.2)) ∧ ((rd p).2.2 = false → nd = (rd p).1))
  (p : Nat) (hp : p ≤ b.length) (H : Heap) (hir : H[ir]? = some (objS b p false)) :
  ∃ nd, L 35 [.ptr ir 0 0, .im (.str w), .im (.str ps), .im (.int .i64 d)] H = some (.im (.agg (encN nd)), H.set ir (objS b (callX rd b w ps p).2.1 (callX rd b w ps p).2.2)) ∧ ((callX rd b w ps p).2.2 = false → nd = (callX rd b w ps p).1) := by
 have hirl := (List.getElem?_eq_some_iff.1 hir).1
 have key := fun tm1 H1 => l35 b hb ir H.length hirl w ps hps d d' hd rd hrdl hcall 70 40 0 ps (0, zeroT, []) p p tm1 H1 (by decide) rfl (Nat.zero_le _) (by simp; omega) (by simp; omega) hp hp (fun _ => rfl)
 simp only [zc0] at key
 have z40 : ((40 : UInt8).toNat : Int) = 40 := rfl
 rw [z40] at key
 unfold callX
 generalize goX rd b (decide (ps = [43])) 70 40 ps (0, zeroT, []) p = r at *
 rw [leq F35]
 have hK := @endK_35 H
 have hcode : f35.code = f35.code := rfl
 conv at hcode => rhs; simp only [f35]
 rw [hcode]
 clear hcode
 generalize endK f35 H = K at *
 obtain ⟨hlen, ha⟩ := enter_at (f := f35) (args := [.ptr ir 0 0, .im (.str w), .im (.str ps), .im (.int .i64 d)]) (Nat.le_of_ble_eq_true rfl)
 have h0 := ha 0 _ rfl
 have h1 := ha 1 _ rfl
 have h2 := ha 2 _ rfl
 have h3 := ha 3 _ rfl
 generalize enterA f35 [.ptr ir 0 0, .im (.str w), .im (.str ps), .im (.int .i64 d)] = tm at *
 change tm.length = 112 at hlen
 simp only [e35_0,B0,B1,B2,List.replicate,Nat.reduceAdd,Nat.reduceSub,Nat.reduceLeDiff,Nat.reduceLT,Nat.reduceEqDiff,reduceCtorEq,Int.reduceEq,Int.reduceLT,Int.reduceLE,lenA,hlen,h0,h1,h2,h3]
 generalize hr2 : thenL (Λ c35_0 _ _) _ = ro
 refine Exists.elim (thenL_inv hr2 (key _ _ ?_ ?_ ?_ ?_ ?_ ?_ ?_ ?_ ?_ ?_)) ?_
 ·simp only [List.length_set,hlen]
 iterate 6 simp only [B3,Nat.reduceLT,Nat.reduceEqDiff,hlen,h0,h1,h2,h3]
 ·rw [get_app hirl]; exact hir
 ·exact ⟨0, .nils, .nils, by rw [hget]; rfl, .inl ⟨rfl, rfl, rfl⟩, .inl ⟨rfl, rfl⟩⟩
 ·simp
 clear key
 rintro e ⟨tm1, H1, ⟨rfl, l1, r1, b1, q', st', i1, n1, hq', hbad, hgood⟩, rfl⟩
 have a0 := r1 0 (by simp)
 have a8 := r1 8 (by simp)
 have a9 := r1 9 (by simp)
 simp only [B3,Nat.reduceLT,Nat.reduceEqDiff,hlen,h0] at a0
 simp only [B3,Nat.reduceLT,Nat.reduceEqDiff,hlen] at a8
 simp only [B3,Nat.reduceLT,Nat.reduceEqDiff,hlen] at a9
 clear hr2 r1
 have hN0 : H1[H.length]? = some (.obj none [[.im (.str []), .im (.int .i64 0), .im (.str []), .im (.int .i64 0), .nils, .nils]]) := by
  rw [b1.2 H.length (by omega) (by omega) (by omega), hget0]; rfl
 have hB1 : But H.length ir H H1 := ⟨by have := b1.1; simp at this; omega, fun j hj hne => by rw [b1.2 j (by omega) hne (by omega), get_app (by omega)]⟩
 have c5 := s53 b q' ir r.2.2 41 H1 (by decide) i1 (by omega) hq'
 have hsg : (signP b q' r.2.2 41).1 = (if r.2.2 = true then r.2.1 else (signP b r.2.1 false 41).1) ∧ (signP b q' r.2.2 41).2 = (if r.2.2 = true then true else (signP b r.2.1 false 41).2) := by
  rcases Bool.eq_false_or_eq_true r.2.2 with e | e
  ·rw [e, hbad e]; simp [signP]
  ·rw [e, (hgood e).2 41]; simp
 have i2 : (H1.set ir (objS b (signP b q' r.2.2 41).1 (signP b q' r.2.2 41).2))[ir]? = some (objS b (signP b q' r.2.2 41).1 (signP b q' r.2.2 41).2) := List.getElem?_set_self (List.getElem?_eq_some_iff.1 i1).1
 have n2 := n1.set (by omega) i1 (objS b (signP b q' r.2.2 41).1 (signP b q' r.2.2 41).2)
 have hN2 : (H1.set ir (objS b (signP b q' r.2.2 41).1 (signP b q' r.2.2 41).2))[H.length]? = some (.obj none [[.im (.str []), .im (.int .i64 0), .im (.str []), .im (.int .i64 0), .nils, .nils]]) := by
  rw [List.getElem?_set_ne (by omega)]; exact hN0
 have hB2 := hB1.set (objS b (signP b q' r.2.2 41).1 (signP b q' r.2.2 41).2)
 have z41 : ((41 : UInt8).toNat : Int) = 41 := rfl
 rw [z41] at c5
 rw [hsg.1, hsg.2] at c5 i2 n2 hN2 hB2
 generalize hgq : (if r.2.2 = true then r.2.1 else (signP b r.2.1 false 41).1) = qf at *
 generalize hgb : (if r.2.2 = true then true else (signP b r.2.1 false 41).2) = bf at *
 generalize H1.set ir (objS b qf bf) = H2 at *
 obtain ⟨k, y, v, o1, hty, hG⟩ := n2
 have hva := gath_va hG
 have hB3 : ∀ o, But H.length ir H (H2.set H.length o) := fun o => ⟨by have := hB2.1; simpa using this, fun j hj hne => by rw [List.getElem?_set_ne (by omega)]; exact hB2.2 j hj hne⟩
 have hres : ∀ (tm' : List AV), tm'.getD 8 undefA = .ptr H.length 0 0 → K .ret tm' (H2.set H.length (.obj none [[.im (.str w), .im (.int .i64 st'.1), .im (.str []), .im (.int .i64 k), y, v]])) = some (.im (.agg (encN (mkN w st'.1 [] st'.2.1 st'.2.2))), H.set ir (objS b qf bf)) := fun tm' h =>
  hK hirl h (List.getElem?_set_self (List.getElem?_eq_some_iff.1 hN2).1) hty hva (hB3 _) (by rw [List.getElem?_set_ne (by omega)]; exact i2)
 refine ⟨mkN w st'.1 [] st'.2.1 st'.2.2, ?_, ?_⟩
 ·rw [show (if r.2.2 = true then (zeroN, r.2.1, true) else (mkN w r.1.1 [] r.1.2.1 r.1.2.2, (signP b r.2.1 false 41).1, (signP b r.2.1 false 41).2)).2.1 = qf by rw [← hgq]; split <;> rfl,
   show (if r.2.2 = true then (zeroN, r.2.1, true) else (mkN w r.1.1 [] r.1.2.1 r.1.2.2, (signP b r.2.1 false 41).1, (signP b r.2.1 false 41).2)).2.2 = bf by rw [← hgb]; split <;> rfl]
  rcases hty with ⟨hh1, hh2, rfl⟩ | ⟨s, args, hh1, rfl⟩ <;> rcases hva with ⟨rfl, hh3⟩ | ⟨tok, rfl, hh3⟩
  all_goals simp only [B0,B1,B2,List.replicate,Nat.reduceAdd,Nat.reduceSub,Nat.reduceLeDiff,Nat.reduceLT,Nat.reduceEqDiff,reduceCtorEq,Int.reduceEq,Int.reduceLT,Int.reduceLE,lenA,l1,a0,a8,a9,c5,o1,hN2]
  all_goals exact hres _ (by simp only [B3,Nat.reduceLT,Nat.reduceEqDiff,l1,a8])
 ·intro hb2
  have he : r.2.2 = false := by
   rcases Bool.eq_false_or_eq_true r.2.2 with e | e
   ·rw [if_pos e] at hb2; simp at hb2
   ·exact e
  rw [if_neg (by rw [he]; simp), (hgood he).1]
def Exp (b : List UInt8) (ir : Nat) (d : Nat) : Prop := ∀ (p : Nat) (H : Heap), p ≤ b.length → H[ir]? = some (objS b p false) →
 ∃ nd, L 18 [.ptr ir 0 0, .im (.int .i64 (d : Int))] H = some (.im (.agg (encN nd)), H.set ir (objS b (exprX b d p).2.1 (exprX b d p).2.2)) ∧ ((exprX b d p).2.2 = false → nd = (exprX b d p).1)
theorem dig_none {n : Int} (h : digZ n = false) (h2 : letZ n = false) : n < 48 ∨ (57 < n ∧ n < 97) ∨ 122 < n := by
 have := dig_not h
 unfold letZ at h2
 simp only [Bool.and_eq_false_iff,decide_eq_false_iff_not] at h2
 omega
theorem let_range {n : Int} (h : letZ n = true) : 97 ≤ n ∧ n ≤ 122 := by
 unfold letZ at h
 simp only [Bool.and_eq_true,decide_eq_true_eq] at h
 exact h
set_option maxHeartbeats 2000000 in
theorem s18step (b : List UInt8) (hb : b.length ≤ 2305843009213693952) (ir d : Nat) (hd : d < 1000) (hrec : 0 < d → Exp b ir d) : Exp b ir (d + 1) := by
 intro p H hp hir
 have hirl := (List.getElem?_eq_some_iff.1 hir).1
 have hq := skip_len hp
 have c1 : ∀ M, L 19 [.ptr ir 0 0] (H ++ M) = some (.tup [], H.set ir (objS b (skipB b p) false) ++ M) := fun M => by
  rw [s19 b p ir false (H ++ M) (by rw [get_app hirl]; exact hir) (by omega) hp, List.set_append_left _ _ hirl]
 have g1 := hp_get (H := H) hirl
 have g4 := hp_set (H := H) hirl
 have c2 : ∀ q bad M, L 29 [.ptr ir 0 0] (H.set ir (objS b q bad) ++ M) = some (.im (.int .u8 ((peekB b q).toNat : Int)), H.set ir (objS b q bad) ++ M) := fun q bad M => s29 b q ir bad _ (g1 _ _) (by omega)
 have c3 : ∀ q M, q ≤ b.length → L 30 [.ptr ir 0 0] (H.set ir (objS b q false) ++ M) = some (.im (.agg (encN (strP b q).1)), H.set ir (objS b (strP b q).2.1 (strP b q).2.2) ++ M) := fun q M hq => by
  rw [s30 b q ir _ (g1 _ _) (by omega) hq, g4]
 have c4 : ∀ q M, q < b.length → L 31 [.ptr ir 0 0] (H.set ir (objS b q false) ++ M) = some (.im (.agg (encN (numP b q).1)), H.set ir (objS b (numP b q).2.1 (numP b q).2.2) ++ M) := fun q M hq => by
  rw [s31 b q ir _ (g1 _ _) (by omega) hq, g4]
 have c5 : ∀ q M, q ≤ b.length → L 32 [.ptr ir 0 0] (H.set ir (objS b q false) ++ M) = some (.im (.str (wordB b q)), H.set ir (objS b (runB b q) false) ++ M) := fun q M hq => by
  rw [s32 b q ir false _ (g1 _ _) (by omega) hq, g4]
 have hlv : ∀ (q : Nat) (bd : Bool) (M : Heap) (op txt : List UInt8) (i k : Int) (s s2 : Nat) (args : List KT) (kids : List NT), leave H false (.im (.agg [.str op, .int .i64 i, .str txt, .int .i64 k, .sl s (encTs args), .sl s2 (encNs kids)])) (H.set ir (objS b q bd) ++ M) = (.im (.agg [.str op, .int .i64 i, .str txt, .int .i64 k, .sl s (encTs args), .sl s2 (encNs kids)]), H.set ir (objS b q bd)) := fun q bd M op txt i k s s2 args kids => leave_SM hir (by simp [degrade, toDat]) (by simp [refsLt])
 have hlz := leave_N hir
 rw [leq F18]
 obtain ⟨hlen, ha⟩ := enter_at (f := f18) (args := [.ptr ir 0 0, .im (.int .i64 ((d : Int) + 1))]) (Nat.le_of_ble_eq_true rfl)
 have h0 := ha 0 _ rfl
 have h1 := ha 1 _ rfl
 have zd : (((d + 1 : Nat) : Nat) : Int) = (d : Int) + 1 := by omega
 rw [zd]
 generalize enterA f18 [.ptr ir 0 0, .im (.int .i64 ((d : Int) + 1))] = tm at *
 change tm.length = 104 at hlen
 unfold exprX
 have hcq := c2 (skipB b p) false
 have hpl := peek_lt (b := b) (p := skipB b p)
 generalize hc : peekB b (skipB b p) = c at *
 generalize skipB b p = q at *
 have b34 := byte_eq c 34
 have b45 := byte_eq c 45
 change decide ((c.toNat : Int) = 34) = _ at b34
 change decide ((c.toNat : Int) = 45) = _ at b45
 have hwr := wrap_nat (i := q) (by omega)
 by_cases k34 : c = 34
 ·rw [if_pos k34]
  have e1 : decide ((c.toNat : Int) = 34) = true := b34.trans (decide_eq_true k34)
  have hq1 : q < b.length := hpl (by rw [k34]; decide)
  have c3' := c3 (q + 1) [zO] (by omega)
  generalize strP b (q + 1) = r at *
  obtain ⟨nd, qr, bad⟩ := r
  obtain ⟨op, ni, txt, ty, ns, kids⟩ := nd
  obtain ⟨tk, ts, targs⟩ := ty
  simp only [encN] at c3'
  refine ⟨.mk op ni txt (.mk tk ts targs) ns kids, ?_, fun _ => rfl⟩
  simp only [objS,zO] at *
  simp only [f18,B0,B1,B2,List.replicate,Nat.reduceAdd,Nat.reduceSub,Nat.reduceLeDiff,Nat.reduceLT,Nat.reduceEqDiff,reduceCtorEq,Int.reduceEq,Int.reduceLT,Int.reduceLE,lenA,endK,resA,tupA,hlen,h0,h1,c1,hcq,g1,g4,e1,hwr,c3',hq_get0,hq_set0,encN,hlv]
 rw [if_neg k34]
 have e1 : decide ((c.toNat : Int) = 34) = false := b34.trans (decide_eq_false k34)
 rcases Bool.eq_false_or_eq_true (decide (c = 45)) with k45 | k45
 ·rw [k45, Bool.true_or, if_pos rfl]
  rw [k45] at b45
  have hq1 : q < b.length := hpl (by rw [of_decide_eq_true k45]; decide)
  have c4' := c4 q [zO] hq1
  generalize numP b q = r at *
  obtain ⟨nd, qr, bad⟩ := r
  obtain ⟨op, ni, txt, ty, ns, kids⟩ := nd
  obtain ⟨tk, ts, targs⟩ := ty
  simp only [encN] at c4'
  refine ⟨.mk op ni txt (.mk tk ts targs) ns kids, ?_, fun _ => rfl⟩
  simp only [objS,zO] at *
  simp only [f18,B0,B1,B2,List.replicate,Nat.reduceAdd,Nat.reduceSub,Nat.reduceLeDiff,Nat.reduceLT,Nat.reduceEqDiff,reduceCtorEq,Int.reduceEq,Int.reduceLT,Int.reduceLE,lenA,endK,resA,tupA,hlen,h0,h1,c1,hcq,g1,g4,e1,b45,c4',hq_get0,hq_set0,encN,hlv]
 rw [k45] at b45
 rcases Bool.eq_false_or_eq_true (digZ (c.toNat : Int)) with kd | kd
 ·have hr := dig_range kd
  have e2 : decide ((48 : Int) ≤ (c.toNat : Int)) = true := decide_eq_true hr.1
  have e3 : decide ((c.toNat : Int) ≤ 57) = true := decide_eq_true hr.2
  rw [k45, kd, Bool.false_or, if_pos rfl]
  have hq1 : q < b.length := hpl (fun e => by rw [e, dig0] at kd; simp at kd)
  have c4' := c4 q [zO] hq1
  generalize numP b q = r at *
  obtain ⟨nd, qr, bad⟩ := r
  obtain ⟨op, ni, txt, ty, ns, kids⟩ := nd
  obtain ⟨tk, ts, targs⟩ := ty
  simp only [encN] at c4'
  refine ⟨.mk op ni txt (.mk tk ts targs) ns kids, ?_, fun _ => rfl⟩
  simp only [objS,zO] at *
  simp only [f18,B0,B1,B2,List.replicate,Nat.reduceAdd,Nat.reduceSub,Nat.reduceLeDiff,Nat.reduceLT,Nat.reduceEqDiff,reduceCtorEq,Int.reduceEq,Int.reduceLT,Int.reduceLE,lenA,endK,resA,tupA,hlen,h0,h1,c1,hcq,g1,g4,e1,b45,e2,e3,c4',hq_get0,hq_set0,encN,hlv]
 rw [k45, kd, Bool.false_or, if_neg (by simp)]
 rcases Bool.eq_false_or_eq_true (letZ (c.toNat : Int)) with kl | kl
 ·rw [if_neg (by rw [kl]; simp)]
  have hr := let_range kl
  have e2 : decide ((48 : Int) ≤ (c.toNat : Int)) = true := decide_eq_true (by omega)
  have e3 : decide ((c.toNat : Int) ≤ 57) = false := decide_eq_false (by omega)
  have e4 : decide ((c.toNat : Int) < 97) = false := decide_eq_false (by omega)
  have e5 : decide (122 < (c.toNat : Int)) = false := decide_eq_false (by omega)
  have hq1 : q < b.length := hpl (fun e => by rw [e, let0] at kl; simp at kl)
  have hwl := wordB_len (b := b) (p := q) (by omega)
  have hrl := run_len (b := b) (p := q) (by omega)
  have c5' := c5 q [zO] (by omega)
  have c6 := fun H => s33 (wordB b q) H
  have c7 := c2 (runB b q) false
  have c8 := fun H => s34 ((peekB b (runB b q)).toNat : Int) H
  have hcall : ∀ ps, okPs ps = true → ¬ (d = 0 ∧ ps ≠ [100] ∧ ps ≠ [116]) → ∃ nd, L 35 [.ptr ir 0 0, .im (.str (wordB b q)), .im (.str ps), .im (.int .i64 ((d : Int) + 1))] (H.set ir (objS b (runB b q) false) ++ [zO]) = some (.im (.agg (encN nd)), H.set ir (objS b (callX (exprX b d) b (wordB b q) ps (runB b q)).2.1 (callX (exprX b d) b (wordB b q) ps (runB b q)).2.2) ++ [zO]) ∧ ((callX (exprX b d) b (wordB b q) ps (runB b q)).2.2 = false → nd = (callX (exprX b d) b (wordB b q) ps (runB b q)).1) := fun ps hok hnd => by
   have hpl5 : ps.length ≤ 5 := by
    unfold okPs at hok
    simp only [Bool.and_eq_true,decide_eq_true_eq] at hok
    exact hok.1.1.1
   have := s35 b hb ir (wordB b q) ps hpl5 ((d : Int) + 1) (d : Int) (by rw [show (d : Int) + 1 - 1 = d by omega]; exact Go.Abs.Seat.wrap_small _ (by omega)) (exprX b d) (fun p h => expr_len b d p h) (fun c hc he p H hp hir => by
    by_cases hd0 : d = 0
    ·exfalso
     have : ps = [100] ∨ ps = [116] := by
      by_cases h1 : ps = [100]
      ·exact .inl h1
      ·exact .inr (Classical.byContradiction fun h2 => hnd ⟨hd0, h1, h2⟩)
     rcases this with h | h
     ·rw [h] at hc; simp at hc; rw [hc] at he; exact absurd he (by decide)
     ·rw [h] at hc; simp at hc; rw [hc] at he; exact absurd he (by decide)
    ·exact hrec (by omega) p H hp hir) (runB b q) hrl (H.set ir (objS b (runB b q) false) ++ [zO]) (g1 _ _)
   simpa only [g4] using this
  unfold longB
  generalize wordB b q = w at *
  generalize runB b q = e at *
  have e16 : decide ((w.length : Int) = 16) = decide (e - q = 16) := by
   rw [hwl]
   by_cases h : e - q = 16
   ·rw [decide_eq_true h, decide_eq_true (by omega)]
   ·rw [decide_eq_false h, decide_eq_false (by omega)]
  rcases Bool.eq_false_or_eq_true (decide (e - q = 16)) with l16 | l16
  ·rw [l16] at e16
   rw [l16, Bool.true_and]
   rcases Bool.eq_false_or_eq_true (namZ ((peekB b e).toNat : Int)) with nm | nm
   ·rw [nm] at c8
    rw [nm, if_pos rfl]
    refine ⟨zeroN, ?_, fun _ => rfl⟩
    simp only [zeroN,enc_flat]
    simp only [objS,zO] at *
    simp only [f18,B0,B1,B2,List.replicate,Nat.reduceAdd,Nat.reduceSub,Nat.reduceLeDiff,Nat.reduceLT,Nat.reduceEqDiff,reduceCtorEq,Int.reduceEq,Int.reduceLT,Int.reduceLE,lenA,endK,resA,tupA,hlen,h0,h1,c1,hcq,g1,g4,e1,b45,e2,e3,e4,e5,c5',c6,c7,c8,e16,hq_get0,hq_set0,hlz]
   ·rw [nm] at c8
    rw [nm, if_neg (by simp)]
    cases hs : shapeT w with
    | none =>
     rw [hs] at c6
     simp only [Option.getD_none,Option.isSome_none] at c6
     refine ⟨mkN nameW 0 w zeroT [], ?_, fun _ => rfl⟩
     simp only [enc_flat,nameW]
     simp only [objS,zO] at *
     simp only [f18,B0,B1,B2,List.replicate,Nat.reduceAdd,Nat.reduceSub,Nat.reduceLeDiff,Nat.reduceLT,Nat.reduceEqDiff,reduceCtorEq,Int.reduceEq,Int.reduceLT,Int.reduceLE,lenA,endK,resA,tupA,hlen,h0,h1,c1,hcq,g1,g4,e1,b45,e2,e3,e4,e5,c5',c6,c7,c8,e16,hq_get0,hq_set0,hlz]
    | some ps =>
     rw [hs] at c6
     simp only [Option.getD_some,Option.isSome_some] at c6 ⊢
     have hok := shape_ok hs
     by_cases hps : ps = []
     ·rw [if_pos hps]
      have p0 : decide (ps = []) = true := decide_eq_true hps
      refine ⟨mkN w 0 [] zeroT [], ?_, fun _ => rfl⟩
      simp only [enc_flat]
      simp only [objS,zO] at *
      simp only [f18,B0,B1,B2,List.replicate,Nat.reduceAdd,Nat.reduceSub,Nat.reduceLeDiff,Nat.reduceLT,Nat.reduceEqDiff,reduceCtorEq,Int.reduceEq,Int.reduceLT,Int.reduceLE,lenA,endK,resA,tupA,hlen,h0,h1,c1,hcq,g1,g4,e1,b45,e2,e3,e4,e5,c5',c6,c7,c8,e16,p0,hq_get0,hq_set0,hlz]
     ·rw [if_neg hps]
      have p0 : decide (ps = []) = false := decide_eq_false hps
      by_cases hdf : d = 0 ∧ ps ≠ [100] ∧ ps ≠ [116]
      ·rw [if_pos hdf]
       have e6' : decide ((d : Int) + 1 = 1) = true := decide_eq_true (by omega)
       have p1 : decide (ps = [100]) = false := decide_eq_false hdf.2.1
       have p2 : decide (ps = [116]) = false := decide_eq_false hdf.2.2
       refine ⟨zeroN, ?_, fun _ => rfl⟩
       simp only [zeroN,enc_flat]
       simp only [objS,zO] at *
       simp only [f18,B0,B1,B2,List.replicate,Nat.reduceAdd,Nat.reduceSub,Nat.reduceLeDiff,Nat.reduceLT,Nat.reduceEqDiff,reduceCtorEq,Int.reduceEq,Int.reduceLT,Int.reduceLE,lenA,endK,resA,tupA,hlen,h0,h1,c1,hcq,g1,g4,e1,b45,e2,e3,e4,e5,c5',c6,c7,c8,e16,p0,p1,p2,e6',hq_get0,hq_set0,hlz]
      ·rw [if_neg hdf]
       obtain ⟨nd, hcl, hnn⟩ := hcall ps hok hdf
       refine ⟨nd, ?_, hnn⟩
       clear hnn
       generalize callX (exprX b d) b w ps e = r at *
       obtain ⟨nr, qr, bad⟩ := r
       obtain ⟨op, ni, txt, ty, ns, kids⟩ := nd
       obtain ⟨tk, ts, targs⟩ := ty
       simp only [encN] at hcl
       simp only [objS,zO] at *
       by_cases hd0 : d = 0
       ·have e6' : decide ((d : Int) + 1 = 1) = true := decide_eq_true (by omega)
        by_cases h100 : ps = [100]
        ·have p1 : decide (ps = [100]) = true := decide_eq_true h100
         simp only [f18,B0,B1,B2,List.replicate,Nat.reduceAdd,Nat.reduceSub,Nat.reduceLeDiff,Nat.reduceLT,Nat.reduceEqDiff,reduceCtorEq,Int.reduceEq,Int.reduceLT,Int.reduceLE,lenA,endK,resA,tupA,hlen,h0,h1,c1,hcq,g1,g4,e1,b45,e2,e3,e4,e5,c5',c6,c7,c8,e16,p0,p1,e6',hcl,hq_get0,hq_set0,encN,hlv]
        ·have p1 : decide (ps = [100]) = false := decide_eq_false h100
         have p2 : decide (ps = [116]) = true := decide_eq_true (Classical.byContradiction fun h => hdf ⟨hd0, h100, h⟩)
         simp only [f18,B0,B1,B2,List.replicate,Nat.reduceAdd,Nat.reduceSub,Nat.reduceLeDiff,Nat.reduceLT,Nat.reduceEqDiff,reduceCtorEq,Int.reduceEq,Int.reduceLT,Int.reduceLE,lenA,endK,resA,tupA,hlen,h0,h1,c1,hcq,g1,g4,e1,b45,e2,e3,e4,e5,c5',c6,c7,c8,e16,p0,p1,p2,e6',hcl,hq_get0,hq_set0,encN,hlv]
       ·have e6' : decide ((d : Int) + 1 = 1) = false := decide_eq_false (by omega)
        simp only [f18,B0,B1,B2,List.replicate,Nat.reduceAdd,Nat.reduceSub,Nat.reduceLeDiff,Nat.reduceLT,Nat.reduceEqDiff,reduceCtorEq,Int.reduceEq,Int.reduceLT,Int.reduceLE,lenA,endK,resA,tupA,hlen,h0,h1,c1,hcq,g1,g4,e1,b45,e2,e3,e4,e5,c5',c6,c7,c8,e16,p0,e6',hcl,hq_get0,hq_set0,encN,hlv]
  ·rw [l16] at e16
   rw [l16, Bool.false_and, if_neg (by simp)]
   cases hs : shapeT w with
   | none =>
    rw [hs] at c6
    simp only [Option.getD_none,Option.isSome_none] at c6
    refine ⟨mkN nameW 0 w zeroT [], ?_, fun _ => rfl⟩
    simp only [enc_flat,nameW]
    simp only [objS,zO] at *
    simp only [f18,B0,B1,B2,List.replicate,Nat.reduceAdd,Nat.reduceSub,Nat.reduceLeDiff,Nat.reduceLT,Nat.reduceEqDiff,reduceCtorEq,Int.reduceEq,Int.reduceLT,Int.reduceLE,lenA,endK,resA,tupA,hlen,h0,h1,c1,hcq,g1,g4,e1,b45,e2,e3,e4,e5,c5',c6,c7,c8,e16,hq_get0,hq_set0,hlz]
   | some ps =>
    rw [hs] at c6
    simp only [Option.getD_some,Option.isSome_some] at c6 ⊢
    have hok := shape_ok hs
    by_cases hps : ps = []
    ·rw [if_pos hps]
     have p0 : decide (ps = []) = true := decide_eq_true hps
     refine ⟨mkN w 0 [] zeroT [], ?_, fun _ => rfl⟩
     simp only [enc_flat]
     simp only [objS,zO] at *
     simp only [f18,B0,B1,B2,List.replicate,Nat.reduceAdd,Nat.reduceSub,Nat.reduceLeDiff,Nat.reduceLT,Nat.reduceEqDiff,reduceCtorEq,Int.reduceEq,Int.reduceLT,Int.reduceLE,lenA,endK,resA,tupA,hlen,h0,h1,c1,hcq,g1,g4,e1,b45,e2,e3,e4,e5,c5',c6,c7,c8,e16,p0,hq_get0,hq_set0,hlz]
    ·rw [if_neg hps]
     have p0 : decide (ps = []) = false := decide_eq_false hps
     by_cases hdf : d = 0 ∧ ps ≠ [100] ∧ ps ≠ [116]
     ·rw [if_pos hdf]
      have e6' : decide ((d : Int) + 1 = 1) = true := decide_eq_true (by omega)
      have p1 : decide (ps = [100]) = false := decide_eq_false hdf.2.1
      have p2 : decide (ps = [116]) = false := decide_eq_false hdf.2.2
      refine ⟨zeroN, ?_, fun _ => rfl⟩
      simp only [zeroN,enc_flat]
      simp only [objS,zO] at *
      simp only [f18,B0,B1,B2,List.replicate,Nat.reduceAdd,Nat.reduceSub,Nat.reduceLeDiff,Nat.reduceLT,Nat.reduceEqDiff,reduceCtorEq,Int.reduceEq,Int.reduceLT,Int.reduceLE,lenA,endK,resA,tupA,hlen,h0,h1,c1,hcq,g1,g4,e1,b45,e2,e3,e4,e5,c5',c6,c7,c8,e16,p0,p1,p2,e6',hq_get0,hq_set0,hlz]
     ·rw [if_neg hdf]
      obtain ⟨nd, hcl, hnn⟩ := hcall ps hok hdf
      refine ⟨nd, ?_, hnn⟩
      clear hnn
      generalize callX (exprX b d) b w ps e = r at *
      obtain ⟨nr, qr, bad⟩ := r
      obtain ⟨op, ni, txt, ty, ns, kids⟩ := nd
      obtain ⟨tk, ts, targs⟩ := ty
      simp only [encN] at hcl
      simp only [objS,zO] at *
      by_cases hd0 : d = 0
      ·have e6' : decide ((d : Int) + 1 = 1) = true := decide_eq_true (by omega)
       by_cases h100 : ps = [100]
       ·have p1 : decide (ps = [100]) = true := decide_eq_true h100
        simp only [f18,B0,B1,B2,List.replicate,Nat.reduceAdd,Nat.reduceSub,Nat.reduceLeDiff,Nat.reduceLT,Nat.reduceEqDiff,reduceCtorEq,Int.reduceEq,Int.reduceLT,Int.reduceLE,lenA,endK,resA,tupA,hlen,h0,h1,c1,hcq,g1,g4,e1,b45,e2,e3,e4,e5,c5',c6,c7,c8,e16,p0,p1,e6',hcl,hq_get0,hq_set0,encN,hlv]
       ·have p1 : decide (ps = [100]) = false := decide_eq_false h100
        have p2 : decide (ps = [116]) = true := decide_eq_true (Classical.byContradiction fun h => hdf ⟨hd0, h100, h⟩)
        simp only [f18,B0,B1,B2,List.replicate,Nat.reduceAdd,Nat.reduceSub,Nat.reduceLeDiff,Nat.reduceLT,Nat.reduceEqDiff,reduceCtorEq,Int.reduceEq,Int.reduceLT,Int.reduceLE,lenA,endK,resA,tupA,hlen,h0,h1,c1,hcq,g1,g4,e1,b45,e2,e3,e4,e5,c5',c6,c7,c8,e16,p0,p1,p2,e6',hcl,hq_get0,hq_set0,encN,hlv]
      ·have e6' : decide ((d : Int) + 1 = 1) = false := decide_eq_false (by omega)
       simp only [f18,B0,B1,B2,List.replicate,Nat.reduceAdd,Nat.reduceSub,Nat.reduceLeDiff,Nat.reduceLT,Nat.reduceEqDiff,reduceCtorEq,Int.reduceEq,Int.reduceLT,Int.reduceLE,lenA,endK,resA,tupA,hlen,h0,h1,c1,hcq,g1,g4,e1,b45,e2,e3,e4,e5,c5',c6,c7,c8,e16,p0,e6',hcl,hq_get0,hq_set0,encN,hlv]
 ·rw [if_pos kl]
  refine ⟨zeroN, ?_, fun _ => rfl⟩
  simp only [zeroN,enc_flat]
  simp only [objS,zO] at *
  rcases dig_none kd kl with hn | ⟨hn, hn2⟩ | hn
  ·have e2 : decide ((48 : Int) ≤ (c.toNat : Int)) = false := decide_eq_false (by omega)
   have e4 : decide ((c.toNat : Int) < 97) = true := decide_eq_true (by omega)
   simp only [f18,B0,B1,B2,List.replicate,Nat.reduceAdd,Nat.reduceSub,Nat.reduceLeDiff,Nat.reduceLT,Nat.reduceEqDiff,reduceCtorEq,Int.reduceEq,Int.reduceLT,Int.reduceLE,lenA,endK,resA,tupA,hlen,h0,h1,c1,hcq,g1,g4,e1,b45,e2,e4,hq_get0,hq_set0,hlz]
  ·have e2 : decide ((48 : Int) ≤ (c.toNat : Int)) = true := decide_eq_true (by omega)
   have e3 : decide ((c.toNat : Int) ≤ 57) = false := decide_eq_false (by omega)
   have e4 : decide ((c.toNat : Int) < 97) = true := decide_eq_true (by omega)
   simp only [f18,B0,B1,B2,List.replicate,Nat.reduceAdd,Nat.reduceSub,Nat.reduceLeDiff,Nat.reduceLT,Nat.reduceEqDiff,reduceCtorEq,Int.reduceEq,Int.reduceLT,Int.reduceLE,lenA,endK,resA,tupA,hlen,h0,h1,c1,hcq,g1,g4,e1,b45,e2,e3,e4,hq_get0,hq_set0,hlz]
  ·have e2 : decide ((48 : Int) ≤ (c.toNat : Int)) = true := decide_eq_true (by omega)
   have e3 : decide ((c.toNat : Int) ≤ 57) = false := decide_eq_false (by omega)
   have e4 : decide ((c.toNat : Int) < 97) = false := decide_eq_false (by omega)
   have e5 : decide (122 < (c.toNat : Int)) = true := decide_eq_true (by omega)
   simp only [f18,B0,B1,B2,List.replicate,Nat.reduceAdd,Nat.reduceSub,Nat.reduceLeDiff,Nat.reduceLT,Nat.reduceEqDiff,reduceCtorEq,Int.reduceEq,Int.reduceLT,Int.reduceLE,lenA,endK,resA,tupA,hlen,h0,h1,c1,hcq,g1,g4,e1,b45,e2,e3,e4,e5,hq_get0,hq_set0,hlz]
theorem s18 (b : List UInt8) (hb : b.length ≤ 2305843009213693952) (ir : Nat) : ∀ d, d < 1000 → Exp b ir (d + 1)
 | 0, _ => s18step b hb ir 0 (by omega) (fun h => absurd h (by omega))
 | d + 1, h => s18step b hb ir (d + 1) (by omega) (fun _ => s18 b hb ir d (by omega))
end Go.Abs.Seat
end
section
set_option linter.unusedVariables false
set_option linter.unusedSimpArgs false
namespace Go.Abs.Seat
open Go.Proofs
def readX (s : List UInt8) : NT × Nat × Bool :=
 if (exprX s 24 0).2.2 = true then (zeroN, (exprX s 24 0).2.1, true)
 else if skipB s (exprX s 24 0).2.1 < s.length then (zeroN, skipB s (exprX s 24 0).2.1, true) else ((exprX s 24 0).1, 0, false)
def parseX (s : List UInt8) : NT × Nat × Int :=
 if 4096 < s.length then (zeroN, 0, 42) else ((readX s).1, (readX s).2.1, if (readX s).2.2 = true then 40 else 0)
theorem s9 (s : List UInt8) (H : Heap) : L 9 [.im (.str s)] H = some (.tup [.im (.agg (encN (parseX s).1)), .im (.int .i64 ((parseX s).2.1 : Int)), .im (.int .i64 (parseX s).2.2)], H) := by
 have hlz : ∀ (M : Heap) (a b : Int), leave H false (.tup [.agg [.im (.str []), .im (.int .i64 0), .im (.str []), .im (.int .i64 0), .nils, .nils], .im (.int .i64 a), .im (.int .i64 b)]) (H ++ M) = (.tup [.im (.agg (encN zeroN)), .im (.int .i64 a), .im (.int .i64 b)], H) := fun M a b => leave_deg (by simp [degrade, degrade1, toDat, toDats, zeroN, mkN, zeroT, mkT, encN, encTs, encNs]) (by simp [refsLt, refsLts])
 have hlv : ∀ (M : Heap) (op txt : List UInt8) (i k : Int) (s s2 : Nat) (args : List KT) (kids : List NT) (a b : Int), leave H false (.tup [.im (.agg [.str op, .int .i64 i, .str txt, .int .i64 k, .sl s (encTs args), .sl s2 (encNs kids)]), .im (.int .i64 a), .im (.int .i64 b)]) (H ++ M) = (.tup [.im (.agg [.str op, .int .i64 i, .str txt, .int .i64 k, .sl s (encTs args), .sl s2 (encNs kids)]), .im (.int .i64 a), .im (.int .i64 b)], H) := fun M op txt i k s s2 args kids a b => leave_deg (by simp [degrade, degrade1, toDat]) (by simp [refsLt, refsLts])
 rw [leq F9]
 obtain ⟨hlen, ha⟩ := enter_at (f := f9) (args := [.im (.str s)]) (Nat.le_of_ble_eq_true rfl)
 have h0 := ha 0 _ rfl
 generalize enterA f9 [.im (.str s)] = tm at *
 change tm.length = 41 at hlen
 unfold parseX
 by_cases hl : 4096 < s.length
 ·have e1 : decide (4096 < (s.length : Int)) = true := decide_eq_true (by omega)
  rw [if_pos hl]
  simp only [f9,B0,B1,B2,List.replicate,Nat.reduceAdd,Nat.reduceSub,Nat.reduceLeDiff,Nat.reduceLT,Nat.reduceEqDiff,reduceCtorEq,Int.reduceEq,Int.reduceLT,Int.reduceLE,lenA,endK,resA,tupA,hlen,h0,e1,hlz,zc0]
 ·have e1 : decide (4096 < (s.length : Int)) = false := decide_eq_false (by omega)
  rw [if_neg hl]
  have c1 := s18 s (by omega) (H.length + 1) 23 (by decide) 0 (H ++ [zO, objS s 0 false]) (Nat.zero_le _) (by rw [hget]; rfl)
  obtain ⟨nd, c1, hnn⟩ := c1
  rw [hset, show (((23 + 1 : Nat) : Nat) : Int) = 24 from rfl] at c1
  simp only [List.set_cons_succ,List.set_cons_zero,Nat.reduceAdd] at c1
  have hq := expr_len s 24 0 (Nat.zero_le _)
  have hq2 := skip_len hq
  have c2 := fun (o : HO) => s19 s (exprX s 24 0).2.1 (H.length + 1) false (H ++ [o, objS s (exprX s 24 0).2.1 false]) (by rw [hget]; rfl) (by omega) hq
  simp only [hset,List.set_cons_succ,List.set_cons_zero] at c2
  unfold readX
  generalize exprX s 24 0 = r at *
  obtain ⟨nr, q, bad⟩ := r
  simp only at c1 c2 hnn hq hq2 ⊢
  obtain ⟨op, ni, txt, ty, ns, kids⟩ := nd
  obtain ⟨tk, ts, targs⟩ := ty
  simp only [encN,objS,zc0] at c1
  cases bad with
  | true =>
   simp only [if_true]
   simp only [objS,zO] at *
   simp only [f9,B0,B1,B2,List.replicate,Nat.reduceAdd,Nat.reduceSub,Nat.reduceLeDiff,Nat.reduceLT,Nat.reduceEqDiff,reduceCtorEq,Int.reduceEq,Int.reduceLT,Int.reduceLE,lenA,z_ops,z_nil,z_cons,z_guard,z_some,z_drop,z_do,z_not,z_not0,pairK,forall_eq_or_imp,stays,loadOf,List.reverse_cons,List.reverse_nil,List.mem_cons,List.not_mem_nil,or_false,forall_eq,true_or,or_true,Bool.true_and,endK,resA,tupA,hlen,h0,e1,c1,hlz,zc0]
  | false =>
   rw [← hnn rfl]
   simp only [Bool.false_eq_true,if_false]
   by_cases hlt : skipB s q < s.length
   ·have e2 : decide (((skipB s q : Nat) : Int) < (s.length : Int)) = true := decide_eq_true (by omega)
    simp only [if_pos hlt,if_true]
    simp only [objS,zO] at *
    simp only [f9,B0,B1,B2,List.replicate,Nat.reduceAdd,Nat.reduceSub,Nat.reduceLeDiff,Nat.reduceLT,Nat.reduceEqDiff,reduceCtorEq,Int.reduceEq,Int.reduceLT,Int.reduceLE,lenA,z_ops,z_nil,z_cons,z_guard,z_some,z_drop,z_do,z_not,z_not0,pairK,forall_eq_or_imp,stays,loadOf,List.reverse_cons,List.reverse_nil,List.mem_cons,List.not_mem_nil,or_false,forall_eq,true_or,or_true,Bool.true_and,endK,resA,tupA,hlen,h0,e1,e2,c1,c2,hlz,zc0]
   ·have e2 : decide (((skipB s q : Nat) : Int) < (s.length : Int)) = false := decide_eq_false (by omega)
    simp only [if_neg hlt,Bool.false_eq_true,if_false]
    simp only [objS,zO] at *
    simp only [f9,B0,B1,B2,List.replicate,Nat.reduceAdd,Nat.reduceSub,Nat.reduceLeDiff,Nat.reduceLT,Nat.reduceEqDiff,reduceCtorEq,Int.reduceEq,Int.reduceLT,Int.reduceLE,lenA,z_ops,z_nil,z_cons,z_guard,z_some,z_drop,z_do,z_not,z_not0,pairK,forall_eq_or_imp,stays,loadOf,List.reverse_cons,List.reverse_nil,List.mem_cons,List.not_mem_nil,or_false,forall_eq,true_or,or_true,Bool.true_and,endK,resA,tupA,hlen,h0,e1,e2,c1,c2,hlv,encN,zc0]
end Go.Abs.Seat
end
section
set_option linter.unusedVariables false
set_option linter.unusedSimpArgs false
namespace Go.Abs.Seat
open Go.Proofs
theorem pk_none {b : List UInt8} {p : Nat} (h : b[p]? = none) : peekB b p = 0 := by unfold peekB; rw [h]; rfl
theorem pk_same {b b' : List UInt8} {p : Nat} (h : b'[p]? = b[p]?) : peekB b' p = peekB b p := by unfold peekB; rw [h]
def LocN {α : Type} (s s' : List UInt8) (q q' : α × Nat × Bool) : Prop :=
 (∀ i, i < q.2.1 → s'[i]? = s[i]?) → (s'[q.2.1]? = s[q.2.1]? ∨ s'[q.2.1]? = none) →
  q'.2.1 = q.2.1 ∧ (q.2.2 = false → q' = q) ∧ (s'[q.2.1]? = s[q.2.1]? → q'.2.2 = q.2.2)
theorem LocN.of_eq {α : Type} {s s' : List UInt8} {q q' : α × Nat × Bool} (h : (∀ i, i < q.2.1 → s'[i]? = s[i]?) → (s'[q.2.1]? = s[q.2.1]? ∨ s'[q.2.1]? = none) → q' = q) : LocN s s' q q' :=
 fun ha hf => by rw [h ha hf]; exact ⟨rfl, fun _ => rfl, fun _ => rfl⟩
theorem at_le {s s' : List UInt8} {e m : Nat} (hle : e ≤ m) (ha : ∀ i, i < m → s'[i]? = s[i]?) (hf : s'[m]? = s[m]? ∨ s'[m]? = none) : s'[e]? = s[e]? ∨ s'[e]? = none := by
 rcases Nat.lt_or_ge e m with h | h
 ·exact .inl (ha e h)
 ·obtain rfl : e = m := by omega
  exact hf
theorem LocN.ok {α : Type} {s s' : List UInt8} {a a' : α × Nat × Bool} {m : Nat} (h : LocN s s' a a') (hb : a.2.2 = false) (hle : a.2.1 ≤ m) (ha : ∀ i, i < m → s'[i]? = s[i]?) (hf : s'[m]? = s[m]? ∨ s'[m]? = none) : a' = a :=
 (h (fun i hi => ha i (by omega)) (at_le hle ha hf)).2.1 hb
theorem LocN.bad {α : Type} {s s' : List UInt8} {v : α} {p : Nat} {q' : α × Nat × Bool} (h1 : s'[p]? = s[p]? → q'.2.1 = p ∧ q'.2.2 = true) (h2 : s'[p]? = none → q'.2.1 = p) : LocN s s' (v, p, true) q' :=
 fun ha hf => ⟨by rcases hf with hf | hf; exact (h1 hf).1; exact h2 hf, fun h => by simp at h, fun h => (h1 h).2⟩
theorem skipN_mid (b : List UInt8) : ∀ f p i, p ≤ i → i < skipN b f p → b[i]? = some 32
 | 0, p, i, h1, h2 => by simp only [skipN] at h2; omega
 | f + 1, p, i, h1, h2 => by
  unfold skipN at h2
  split at h2
  ·rename_i h
   by_cases e : i = p
   ·rw [e]; exact h
   ·exact skipN_mid b f (p + 1) i (by omega) h2
  ·omega
theorem skip_mid {b : List UInt8} {p i : Nat} (h1 : p ≤ i) (h2 : i < skipB b p) : b[i]? = some 32 := skipN_mid b _ p i h1 h2
theorem skip_no (b : List UInt8) (p : Nat) : b[skipB b p]? ≠ some 32 := by
 rcases Nat.lt_or_ge b.length p with h | h
 ·have e : skipB b p = p := skip_at (by rw [List.getElem?_eq_none (by omega)]; simp)
  rw [e, List.getElem?_eq_none (by omega)]; simp
 ·exact skip_ne h
theorem skip_is {b : List UInt8} {p k : Nat} (h1 : p ≤ k) (h2 : ∀ i, p ≤ i → i < k → b[i]? = some 32) (h3 : b[k]? ≠ some 32) : skipB b p = k := by
 rcases Nat.lt_trichotomy (skipB b p) k with h | h | h
 ·exact absurd (h2 _ (skip_le b p) h) (skip_no b p)
 ·exact h
 ·exact absurd (skip_mid h1 h) h3
theorem skip_loc {s s' : List UInt8} {p : Nat} (ha : ∀ i, i < skipB s p → s'[i]? = s[i]?) (hf : s'[skipB s p]? = s[skipB s p]? ∨ s'[skipB s p]? = none) : skipB s' p = skipB s p :=
 skip_is (skip_le s p) (fun i h1 h2 => by rw [ha i h2]; exact skip_mid h1 h2) (by
  rcases hf with h | h
  ·rw [h]; exact skip_no s p
  ·rw [h]; simp)
theorem skip_end {s : List UInt8} {p : Nat} (h : s[p]? = none) : skipB s p = p := skip_at (by rw [h]; simp)
theorem sign_up (b : List UInt8) (p : Nat) (c : UInt8) : skipB b p ≤ (signP b p false c).1 := by
 unfold signP
 simp only [Bool.false_eq_true,if_false]
 split
 ·simp only; omega
 ·exact Nat.le_refl _
theorem runN_loc {s s' : List UInt8} {p0 : Nat} : ∀ f p, (∀ i, i < runN s p0 f p → s'[i]? = s[i]?) → (s'[runN s p0 f p]? = s[runN s p0 f p]? ∨ s'[runN s p0 f p]? = none) → runN s' p0 f p = runN s p0 f p
 | 0, p, _, _ => rfl
 | f + 1, p, ha, hf => by
  unfold runN at ha hf ⊢
  by_cases h : goesB s p0 p = true
  ·rw [if_pos h] at ha hf ⊢
   have hle := runN_le s p0 f (p + 1)
   have : goesB s' p0 p = true := by
    unfold goesB at h ⊢
    rw [pk_same (ha p (by omega))]
    exact h
   rw [if_pos this]
   exact runN_loc f (p + 1) ha hf
  ·rw [if_neg h] at ha hf ⊢
   have : ¬ goesB s' p0 p = true := by
    rcases hf with hf | hf
    ·unfold goesB at h ⊢
     rwa [pk_same hf]
    ·unfold goesB
     rw [pk_none hf, nam0]
     simp
   rw [if_neg this]
theorem run_loc {s s' : List UInt8} {p : Nat} (ha : ∀ i, i < runB s p → s'[i]? = s[i]?) (hf : s'[runB s p]? = s[runB s p]? ∨ s'[runB s p]? = none) : runB s' p = runB s p := runN_loc 16 p ha hf
theorem word_loc {s s' : List UInt8} {p : Nat} (ha : ∀ i, i < runB s p → s'[i]? = s[i]?) (he : runB s' p = runB s p) : wordB s' p = wordB s p := by
 unfold wordB
 rw [he]
 apply List.ext_getElem?
 intro i
 simp only [List.getElem?_take,List.getElem?_drop]
 split
 ·exact ha _ (by omega)
 ·rfl
theorem long_none {s : List UInt8} {p : Nat} (h : s[runB s p]? = none) : longB s p = false := by
 unfold longB
 rw [pk_none h, nam0, Bool.and_false]
theorem name_up (b : List UInt8) (p : Nat) : p ≤ (nameP b p).2.1 := by
 have h1 := skip_le b p
 have h2 := run_le b (skipB b p)
 unfold nameP
 split
 ·simp only; omega
 ·split
  ·simp only; omega
  ·simp only; omega
theorem name_at (b : List UInt8) (p : Nat) : (nameP b p).2.1 = runB b (skipB b p) := by
 unfold nameP
 split
 ·rfl
 ·split <;> rfl
theorem name_locN {s s' : List UInt8} {p : Nat} : LocN s s' (nameP s p) (nameP s' p) := by
 intro ha hf
 rw [name_at] at ha hf
 have h1 := run_le s (skipB s p)
 have e1 : skipB s' p = skipB s p := skip_loc (fun i hi => ha i (by omega)) (at_le h1 ha hf)
 have e2 := run_loc ha hf
 have e3 := word_loc ha e2
 refine ⟨by rw [name_at, name_at, e1, e2], fun hok => ?_, fun hs => ?_⟩
 ·unfold nameP at hok ⊢
  rw [e1, e2, e3]
  by_cases c1 : (longB s (skipB s p) || decide (wordB s (skipB s p) = [])) = true
  ·rw [if_pos c1] at hok; simp at hok
  ·have hl : longB s (skipB s p) = false := by
    rcases Bool.eq_false_or_eq_true (longB s (skipB s p)) with h | h
    ·exact absurd (by rw [h, Bool.true_or]) c1
    ·exact h
   have hl' : longB s' (skipB s p) = false := by
    rcases hf with hf | hf
    ·unfold longB at hl ⊢
     rwa [e2, pk_same hf]
    ·exact long_none (by rw [e2]; exact hf)
   rw [hl, hl']
 ·rw [name_at] at hs
  have : nameP s' p = nameP s p := by
   unfold nameP longB
   rw [e1, e2, e3, pk_same hs]
  rw [this]
theorem dig_no {s : List UInt8} {p : Nat} (h : s[p]? = none) : digZ ((peekB s p).toNat : Int) = false := by rw [pk_none h, dig0]
theorem numN_eq (b : List UInt8) (most f n p : Nat) : numN b most (f + 1) n p = if digZ ((peekB b p).toNat : Int) = true then
   (if 0 < n ∧ n ≤ (most - ((peekB b p).toNat - 48)) / 10 then numN b most f (10 * n + ((peekB b p).toNat - 48)) (p + 1) else (n, p, true))
  else (n, p, false) := rfl
theorem numN_up (b : List UInt8) (most : Nat) : ∀ f n p, p ≤ (numN b most f n p).2.1
 | 0, n, p => Nat.le_refl _
 | f + 1, n, p => by
  rw [numN_eq]
  split
  ·split
   ·have := numN_up b most f (10 * n + ((peekB b p).toNat - 48)) (p + 1)
    omega
   ·exact Nat.le_refl _
  ·exact Nat.le_refl _
theorem numN_end {s : List UInt8} {p most : Nat} (h : s[p]? = none) : ∀ f n, numN s most f n p = (n, p, false)
 | 0, n => rfl
 | f + 1, n => by rw [numN_eq, dig_no h, if_neg (by simp)]
theorem succ_of {s : List UInt8} {p f : Nat} (h : s.length ≤ p + f) (hne : s[p]? ≠ none) : ∃ f', f = f' + 1 := by
 have : p < s.length := by
  rcases Nat.lt_or_ge p s.length with h | h
  ·exact h
  ·exact absurd (List.getElem?_eq_none h) hne
 exact ⟨f - 1, by omega⟩
theorem numN_loc {s s' : List UInt8} {most : Nat} : ∀ f f' n p, s.length ≤ p + f → s'.length ≤ p + f' → LocN s s' (numN s most f n p) (numN s' most f' n p)
 | 0, f', n, p, h1, h2 => by
  refine LocN.of_eq fun ha hf => ?_
  simp only [numN] at ha hf
  have : s'[p]? = none := by
   rcases hf with hf | hf
   ·rw [hf]; exact List.getElem?_eq_none (by omega)
   ·exact hf
  exact numN_end this f' n
 | f + 1, f', n, p, h1, h2 => by
  rw [numN_eq s]
  have nz : digZ ((peekB s p).toNat : Int) = true → s[p]? ≠ none := fun h e => by rw [dig_no e] at h; simp at h
  by_cases hd : digZ ((peekB s p).toNat : Int) = true
  ·rw [if_pos hd]
   by_cases hn : 0 < n ∧ n ≤ (most - ((peekB s p).toNat - 48)) / 10
   ·rw [if_pos hn]
    intro ha hf
    have hup := numN_up s most f (10 * n + ((peekB s p).toNat - 48)) (p + 1)
    have hsp := ha p (by omega)
    obtain ⟨f'', rfl⟩ := succ_of h2 (by rw [hsp]; exact nz hd)
    rw [numN_eq s', pk_same hsp, if_pos hd, if_pos hn]
    exact numN_loc f f'' _ (p + 1) (by omega) (by omega) ha hf
   ·rw [if_neg hn]
    refine LocN.bad (fun hs => ?_) fun hs => by rw [numN_end hs]
    obtain ⟨f'', rfl⟩ := succ_of h2 (by rw [hs]; exact nz hd)
    rw [numN_eq s', pk_same hs, if_pos hd, if_neg hn]
    exact ⟨rfl, rfl⟩
  ·rw [if_neg hd]
   refine LocN.of_eq fun _ hf => ?_
   simp only at hf
   rcases hf with hf | hf
   ·cases f' with
    | zero => rfl
    | succ f'' => rw [numN_eq s', pk_same hf, if_neg hd]
   ·exact numN_end hf f' n
theorem num_up (b : List UInt8) (p : Nat) : p ≤ (numP b p).2.1 := by
 unfold numP
 simp only
 have hp1 : p ≤ (if decide (peekB b p = 45) = true then p + 1 else p) := by split <;> omega
 generalize (if decide (peekB b p = 45) = true then p + 1 else p) = p1 at *
 split
 ·exact hp1
 ·have := numN_up b (mostN (decide (peekB b p = 45))) (b.length - (p1 + 1)) ((peekB b p1).toNat - 48) (p1 + 1)
  split
  all_goals rename_i hs; rw [hs] at this; simp only at this ⊢; omega
def numQ (b : List UInt8) (neg : Bool) (p1 : Nat) : NT × Nat × Bool :=
 if (!digZ ((peekB b p1).toNat : Int) || (decide (peekB b p1 = 48) && neg)) = true then (zeroN, p1, true)
 else match numN b (mostN neg) (b.length - (p1 + 1)) ((peekB b p1).toNat - 48) (p1 + 1) with
  |(n, q, true) => (zeroN, q, true)
  |(n, q, false) => (mkN intW (sgnN neg n) [] zeroT [], q, false)
theorem numP_eq (b : List UInt8) (p : Nat) : numP b p = numQ b (decide (peekB b p = 45)) (if decide (peekB b p = 45) = true then p + 1 else p) := rfl
theorem numQ_up (b : List UInt8) (neg : Bool) (p1 : Nat) : p1 ≤ (numQ b neg p1).2.1 := by
 unfold numQ
 split
 ·exact Nat.le_refl _
 ·have := numN_up b (mostN neg) (b.length - (p1 + 1)) ((peekB b p1).toNat - 48) (p1 + 1)
  split
  all_goals rename_i hs; rw [hs] at this; simp only at this ⊢; omega
theorem numQ_end {s : List UInt8} {p : Nat} (neg : Bool) (h : s[p]? = none) : numQ s neg p = (zeroN, p, true) := by
 unfold numQ
 rw [dig_no h, Bool.not_false, Bool.true_or, if_pos rfl]
theorem numQ_locN {s s' : List UInt8} (neg : Bool) (p : Nat) : LocN s s' (numQ s neg p) (numQ s' neg p) := by
 by_cases hc : (!digZ ((peekB s p).toNat : Int) || (decide (peekB s p = 48) && neg)) = true
 ·have e : numQ s neg p = (zeroN, p, true) := by unfold numQ; rw [if_pos hc]
  rw [e]
  refine LocN.bad (fun hs => ?_) fun hs => by rw [numQ_end neg hs]
  unfold numQ
  rw [pk_same hs, if_pos hc]
  exact ⟨rfl, rfl⟩
 ·intro ha hf
  have hup := numN_up s (mostN neg) (s.length - (p + 1)) ((peekB s p).toNat - 48) (p + 1)
  have key := numN_loc (s := s) (s' := s') (most := mostN neg) (s.length - (p + 1)) (s'.length - (p + 1)) ((peekB s p).toNat - 48) (p + 1) (by omega) (by omega)
  unfold numQ at ha hf ⊢
  rw [if_neg hc] at ha hf ⊢
  generalize numN s (mostN neg) (s.length - (p + 1)) ((peekB s p).toNat - 48) (p + 1) = q at *
  obtain ⟨n, q, bad⟩ := q
  have hq : (match (n, q, bad) with | (n, q, true) => ((zeroN, q, true) : NT × Nat × Bool) | (n, q, false) => (mkN intW (sgnN neg n) [] zeroT [], q, false)).2.1 = q := by cases bad <;> rfl
  simp only at hup
  rw [hq] at ha hf
  rw [hq, pk_same (ha p (by omega)), if_neg hc]
  obtain ⟨k1, k2, k3⟩ := key ha hf
  simp only at k1 k2 k3
  generalize numN s' (mostN neg) (s'.length - (p + 1)) ((peekB s p).toNat - 48) (p + 1) = q' at *
  obtain ⟨n', q', bad'⟩ := q'
  simp only at k1 k3
  subst k1
  refine ⟨by cases bad' <;> rfl, fun hb => ?_, fun hs => ?_⟩
  ·cases bad with
   | true => simp at hb
   | false => rw [k2 rfl]
  ·rw [k3 hs]
   cases bad <;> rfl
theorem num_locN {s s' : List UInt8} {p : Nat} : LocN s s' (numP s p) (numP s' p) := by
 rw [numP_eq, numP_eq]
 have hup := numQ_up s (decide (peekB s p = 45)) (if decide (peekB s p = 45) = true then p + 1 else p)
 by_cases hn : decide (peekB s p = 45) = true
 ·rw [if_pos hn] at hup ⊢
  intro ha hf
  rw [pk_same (ha p (by omega)), if_pos hn]
  exact numQ_locN _ _ ha hf
 ·rw [if_neg hn] at hup ⊢
  intro ha hf
  rcases at_le hup ha hf with h | h
  ·rw [pk_same h, if_neg hn]
   exact numQ_locN _ _ ha hf
  ·rw [pk_none h, if_neg (by decide)]
   have e0 : decide (peekB s p = 45) = decide ((0 : UInt8) = 45) := by
    rw [Bool.eq_false_iff.2 hn]; rfl
   rw [e0] at ha hf ⊢
   exact numQ_locN _ _ ha hf
theorem esc_up (b : List UInt8) (p : Nat) : p ≤ (escP b p).2.1 := by
 unfold escP
 split
 ·exact Nat.le_refl _
 ·split <;> (simp only; omega)
theorem esc_locN {s s' : List UInt8} {p : Nat} : LocN s s' (escP s p) (escP s' p) := by
 refine LocN.of_eq fun ha hf => ?_
 unfold escP at ha hf ⊢
 by_cases h1 : shut (nibZ ((peekB s p).toNat : Int)) = true
 ·rw [if_pos h1] at ha hf ⊢
  simp only at hf
  rcases hf with hf | hf
  ·rw [pk_same hf, if_pos h1]
  ·rw [pk_none hf, nib0, if_pos (by decide)]
 ·rw [if_neg h1] at ha hf ⊢
  by_cases h2 : (decide (nibZ ((peekB s (p + 1)).toNat : Int) < 0) || plnZ (16 * nibZ ((peekB s p).toNat : Int) + nibZ ((peekB s (p + 1)).toNat : Int))) = true
  ·rw [if_pos h2] at ha hf ⊢
   simp only at ha hf
   rw [pk_same (ha p (by omega)), if_neg h1]
   rcases hf with hf | hf
   ·rw [pk_same hf, if_pos h2]
   ·rw [pk_none hf, nib0, if_pos (by simp)]
  ·rw [if_neg h2] at ha hf ⊢
   simp only at ha hf
   rw [pk_same (ha p (by omega)), if_neg h1, pk_same (ha (p + 1) (by omega)), if_neg h2]
theorem strN_eq (b : List UInt8) (f : Nat) (out : List UInt8) (p : Nat) : strN b (f + 1) out p = if peekB b p = 34 then (out, p + 1, false)
  else if (decide (out.length = 256) || (!plnZ ((peekB b p).toNat : Int) && !decide (peekB b p = 92))) = true then ([], p, true)
  else if peekB b p = 92 then (if (escP b (p + 1)).2.2 = true then ([], (escP b (p + 1)).2.1, true) else strN b f (out ++ [UInt8.ofNat (escP b (p + 1)).1.toNat]) (escP b (p + 1)).2.1)
  else strN b f (out ++ [peekB b p]) (p + 1) := rfl
theorem strN_up (b : List UInt8) : ∀ f out p, p ≤ (strN b f out p).2.1
 | 0, out, p => Nat.le_refl _
 | f + 1, out, p => by
  rw [strN_eq]
  split
  ·simp only; omega
  ·split
   ·exact Nat.le_refl _
   ·split
    ·have h1 := esc_up b (p + 1)
     split
     ·simp only; omega
     ·have := strN_up b f (out ++ [UInt8.ofNat (escP b (p + 1)).1.toNat]) (escP b (p + 1)).2.1
      omega
    ·have := strN_up b f (out ++ [peekB b p]) (p + 1)
     omega
theorem strN_end {s : List UInt8} {p : Nat} (h : s[p]? = none) : ∀ f out, strN s f out p = ([], p, true)
 | 0, out => rfl
 | f + 1, out => by
  rw [strN_eq, pk_none h, if_neg (by decide), if_pos (by rw [show (!plnZ (((0 : UInt8).toNat : Nat) : Int) && !decide ((0 : UInt8) = 92)) = true by decide, Bool.or_true])]
theorem strN_loc {s s' : List UInt8} : ∀ f f' out p, s.length + 1 ≤ p + f → s'.length + 1 ≤ p + f' → LocN s s' (strN s f out p) (strN s' f' out p)
 | 0, f', out, p, h1, h2 => by
  refine LocN.of_eq fun ha hf => ?_
  simp only [strN] at ha hf
  exact strN_end (by
   rcases hf with hf | hf
   ·rw [hf]; exact List.getElem?_eq_none (by omega)
   ·exact hf) f' out
 | f + 1, f', out, p, h1, h2 => by
  rw [strN_eq s]
  have hz : s[p]? = none → (decide (out.length = 256) || (!plnZ ((peekB s p).toNat : Int) && !decide (peekB s p = 92))) = true := fun e => by
   rw [pk_none e, show (!plnZ (((0 : UInt8).toNat : Nat) : Int) && !decide ((0 : UInt8) = 92)) = true by decide, Bool.or_true]
  by_cases c1 : peekB s p = 34
  ·rw [if_pos c1]
   refine LocN.of_eq fun ha hf => ?_
   have hsp := ha p (Nat.lt_succ_self _)
   obtain ⟨f'', rfl⟩ := succ_of (p := p) (f := f') (s := s') (by omega) (by rw [hsp]; intro e; rw [pk_none e] at c1; simp at c1)
   rw [strN_eq s', pk_same hsp, if_pos c1]
  rw [if_neg c1]
  by_cases c2 : (decide (out.length = 256) || (!plnZ ((peekB s p).toNat : Int) && !decide (peekB s p = 92))) = true
  ·rw [if_pos c2]
   refine LocN.bad (fun hs => ?_) fun hs => by rw [strN_end hs]
   cases f' with
   | zero => exact ⟨rfl, rfl⟩
   | succ f'' =>
    rw [strN_eq s', pk_same hs, if_neg c1, if_pos c2]
    exact ⟨rfl, rfl⟩
  rw [if_neg c2]
  have hne : s[p]? ≠ none := fun e => c2 (hz e)
  by_cases c3 : peekB s p = 92
  ·rw [if_pos c3]
   have hu := esc_up s (p + 1)
   by_cases c4 : (escP s (p + 1)).2.2 = true
   ·rw [if_pos c4]
    intro ha hf
    simp only at ha hf
    have hsp := ha p (by omega)
    obtain ⟨f'', rfl⟩ := succ_of (p := p) (f := f') (s := s') (by omega) (by rw [hsp]; exact hne)
    rw [strN_eq s', pk_same hsp, if_neg c1, if_neg c2, if_pos c3]
    obtain ⟨k1, _, k3⟩ := esc_locN (s := s) (s' := s') (p := p + 1) ha hf
    refine ⟨?_, fun h => by simp at h, fun hs => by simp only at hs; rw [k3 hs, if_pos c4]⟩
    split
    ·exact k1
    ·rename_i hb
     rcases hf with hf | hf
     ·exact absurd (by rw [k3 hf]; exact c4) hb
     ·rw [strN_end (by rw [k1]; exact hf)]
      exact k1
   ·rw [if_neg c4]
    have hu2 := strN_up s f (out ++ [UInt8.ofNat (escP s (p + 1)).1.toNat]) (escP s (p + 1)).2.1
    intro ha hf
    have hsp := ha p (by omega)
    obtain ⟨f'', rfl⟩ := succ_of (p := p) (f := f') (s := s') (by omega) (by rw [hsp]; exact hne)
    rw [strN_eq s', pk_same hsp, if_neg c1, if_neg c2, if_pos c3]
    rw [(esc_locN (s := s) (s' := s') (p := p + 1)).ok (by simpa using c4) hu2 ha hf, if_neg c4]
    exact strN_loc f f'' _ _ (by omega) (by omega) ha hf
  ·rw [if_neg c3]
   have hu2 := strN_up s f (out ++ [peekB s p]) (p + 1)
   intro ha hf
   have hsp := ha p (by omega)
   obtain ⟨f'', rfl⟩ := succ_of (p := p) (f := f') (s := s') (by omega) (by rw [hsp]; exact hne)
   rw [strN_eq s', pk_same hsp, if_neg c1, if_neg c2, if_neg c3]
   exact strN_loc f f'' _ _ (by omega) (by omega) ha hf
theorem str_at (b : List UInt8) (p : Nat) : (strP b p).2.1 = (strN b (b.length + 1 - p) [] p).2.1 ∧ (strP b p).2.2 = (strN b (b.length + 1 - p) [] p).2.2 ∧ ((strN b (b.length + 1 - p) [] p).2.2 = false → (strP b p).1 = mkN textW 0 (strN b (b.length + 1 - p) [] p).1 zeroT []) := by
 unfold strP
 split
 all_goals rename_i hs; rw [hs]; exact ⟨rfl, rfl, fun h => by first | rfl | simp at h⟩
theorem str_locN {s s' : List UInt8} {p : Nat} : LocN s s' (strP s p) (strP s' p) := by
 intro ha hf
 obtain ⟨a1, a2, a3⟩ := str_at s p
 obtain ⟨b1, b2, b3⟩ := str_at s' p
 rw [a1] at ha hf
 obtain ⟨k1, k2, k3⟩ := strN_loc (s := s) (s' := s') (s.length + 1 - p) (s'.length + 1 - p) [] p (by omega) (by omega) ha hf
 refine ⟨by rw [a1, b1, k1], fun hb => ?_, fun hs => by rw [a2, b2]; exact k3 (by rw [a1] at hs; exact hs)⟩
 rw [a2] at hb
 have e := k2 hb
 rw [e] at b1 b2 b3
 exact Prod.ext ((b3 hb).trans (a3 hb).symm) (Prod.ext (b1.trans a1.symm) (b2.trans a2.symm))
theorem str_up (b : List UInt8) (p : Nat) : p ≤ (strP b p).2.1 := by
 rw [(str_at b p).1]
 exact strN_up b _ _ _
end Go.Abs.Seat
end
section
set_option linter.unusedVariables false
set_option linter.unusedSimpArgs false
namespace Go.Abs.Seat
open Go.Proofs
theorem LocN.map {α β : Type} {s s' : List UInt8} {q q' : α × Nat × Bool} (f : α → β) (h : LocN s s' q q') : LocN s s' (f q.1, q.2.1, q.2.2) (f q'.1, q'.2.1, q'.2.2) :=
 fun ha hf => ⟨(h ha hf).1, fun hb => by rw [(h ha hf).2.1 hb], (h ha hf).2.2⟩
theorem LocN.bad' {α : Type} {s s' : List UInt8} {v : α} {p : Nat} {q' : α × Nat × Bool} (h : (∀ i, i < p → s'[i]? = s[i]?) → (s'[p]? = s[p]? ∨ s'[p]? = none) → q'.2.1 = p ∧ (s'[p]? = s[p]? → q'.2.2 = true)) : LocN s s' (v, p, true) q' :=
 fun ha hf => ⟨(h ha hf).1, fun h => by simp at h, (h ha hf).2⟩
theorem sign_eq {s s' : List UInt8} {p : Nat} {c : UInt8} (hc : c ≠ 0) (ha : ∀ i, i < (signP s p false c).1 → s'[i]? = s[i]?) (hf : s'[(signP s p false c).1]? = s[(signP s p false c).1]? ∨ s'[(signP s p false c).1]? = none) : signP s' p false c = signP s p false c := by
 unfold signP at ha hf ⊢
 simp only [Bool.false_eq_true,if_false] at ha hf ⊢
 by_cases h : peekB s (skipB s p) = c
 ·rw [if_pos h] at ha hf ⊢
  have e : skipB s' p = skipB s p := skip_loc (fun i hi => ha i (by simp only; omega)) (.inl (ha _ (Nat.lt_succ_self _)))
  rw [e, pk_same (ha _ (Nat.lt_succ_self _)), if_pos h]
 ·rw [if_neg h] at ha hf ⊢
  have e : skipB s' p = skipB s p := skip_loc ha hf
  rw [e]
  rcases hf with hf | hf
  ·rw [pk_same hf, if_neg h]
  ·rw [pk_none hf, if_neg (Ne.symm hc)]
theorem span_end {b : List UInt8} {p : Nat} (h : b.length ≤ p) : spanB b p = p := by
 unfold spanB
 rw [Nat.sub_eq_zero_of_le h]
 rfl
theorem typ_read (b : List UInt8) (p : Nat) : (typP b p).2.1 = p + (readP (b.drop p) 6 0).1 ∧ (typP b p).2.2 = !(readP (b.drop p) 6 0).2.2 ∧ ((readP (b.drop p) 6 0).2.2 = true → (typP b p).1 = (readP (b.drop p) 6 0).2.1) := by
 have hs1 := span_le b p
 have hs : spanB b p - p ≤ (b.drop p).length := by
  rw [List.length_drop]
  rcases Nat.lt_or_ge b.length p with h | h
  ·rw [span_end (by omega)]; omega
  ·have := span_len h; omega
 have hcut := read_cut (b.drop p) (spanB b p - p) (by
  rw [List.length_drop]
  rcases Nat.lt_or_ge b.length p with h | h
  ·rw [span_end (by omega)]; left; omega
  ·have he := spanN_end b (b.length - p) p h (by omega)
   change spanB b p = b.length ∨ spanB b p < b.length ∧ tyAt b (spanB b p) = false at he
   rcases he with h | ⟨h, h2⟩
   ·left; omega
   ·right
    refine ⟨by omega, ?_⟩
    unfold tyAt at h2 ⊢
    rwa [List.getElem?_drop, Nat.add_sub_cancel' hs1])
 obtain ⟨c1, c2, c3, c4⟩ := hcut
 have hl : ((b.drop p).take (spanB b p - p)).length = spanB b p - p := by rw [List.length_take]; omega
 have e1 : parseP ((b.drop p).take (spanB b p - p)) = if (readP (b.drop p) 6 0).2.2 = true ∧ ¬ (readP (b.drop p) 6 0).1 < spanB b p - p then ((readP (b.drop p) 6 0).2.1, 0, 0) else (zeroT, (readP (b.drop p) 6 0).1, 40) := by
  unfold parseP
  rw [c1, c2, hl]
  by_cases h : (readP (b.drop p) 6 0).2.2 = true ∧ ¬ (readP (b.drop p) 6 0).1 < spanB b p - p
  ·rw [if_pos h, if_pos h, c3 h.1]
  ·rw [if_neg h, if_neg h]
 have hloc := fun h => readP_loc (b.drop p) ((b.drop p).take (readP (b.drop p) 6 0).1) 6 0 (fun i hi => by rw [List.getElem?_take, if_pos hi]) h
 have hback : (readP (b.drop p) 6 0).2.2 = true → parseP ((b.drop p).take (readP (b.drop p) 6 0).1) = ((readP (b.drop p) 6 0).2.1, 0, 0) := fun ho => by
  obtain ⟨h1, h2, h3⟩ := hloc (.inl ho)
  unfold parseP
  rw [h1, h2, h3 ho, if_pos ⟨ho, by simp; omega⟩]
 have hbad : (readP (b.drop p) 6 0).2.2 = false → (parseP ((b.drop p).take (readP (b.drop p) 6 0).1)).2.2 = 40 := fun ho => by
  obtain ⟨h1, h2, h3⟩ := hloc (.inr (.inr (by rw [List.getElem?_take, if_neg (Nat.lt_irrefl _)])))
  unfold parseP
  rw [h2, ho, if_neg (by simp)]
 generalize readP (b.drop p) 6 0 = q at *
 obtain ⟨k, t, ok⟩ := q
 simp only at c4 hback e1 hbad
 have d40 : ¬ ((40 : Int) = 0) := by decide
 unfold typP
 cases ok with
 | false =>
  simp only [Bool.false_eq_true,false_and,if_false] at e1
  rw [e1]
  simp only [d40,if_false,hbad]
  exact ⟨trivial, rfl, fun h => by simp at h⟩
 | true =>
  have hback := hback rfl
  simp only [true_and] at e1
  by_cases h1 : k < spanB b p - p
  ·rw [if_neg (fun h => h h1)] at e1
   rw [e1]
   simp only [d40,if_false,hback,decide_true,Bool.not_true,and_self,implies_true]
  ·rw [if_pos h1] at e1
   rw [e1]
   simp only [if_true,Bool.not_true,true_and,implies_true,and_true]
   omega
theorem typ_up (b : List UInt8) (p : Nat) : p ≤ (typP b p).2.1 := by rw [(typ_read b p).1]; omega
theorem typ_locN {s s' : List UInt8} {p : Nat} : LocN s s' (typP s p) (typP s' p) := by
 intro ha hf
 obtain ⟨a1, a2, a3⟩ := typ_read s p
 obtain ⟨b1, b2, b3⟩ := typ_read s' p
 rw [a1] at ha hf
 obtain ⟨k1, k2, k3⟩ := readP_loc (s.drop p) (s'.drop p) 6 0 (fun i hi => by rw [List.getElem?_drop, List.getElem?_drop]; exact ha _ (by omega)) (.inr (by rw [List.getElem?_drop, List.getElem?_drop]; exact hf))
 refine ⟨by rw [a1, b1, k1], fun hb => ?_, fun _ => by rw [a2, b2, k2]⟩
 rw [a2] at hb
 have ho : (readP (s.drop p) 6 0).2.2 = true := by simpa using hb
 exact Prod.ext (by rw [a3 ho, b3 (by rw [k2]; exact ho), k3 ho]) (Prod.ext (by rw [a1, b1, k1]) (by rw [a2, b2, k2]))
structure Rd (s s' : List UInt8) (rd rd' : Nat → NT × Nat × Bool) : Prop where
 up : ∀ p, p ≤ (rd p).2.1
 loc : ∀ p, LocN s s' (rd p) (rd' p)
 stay : ∀ p, s'[p]? = none → (rd' p).2.1 = p
theorem item_up {rd : Nat → NT × Nat × Bool} (hrd : ∀ p, p ≤ (rd p).2.1) (b : List UInt8) (c : UInt8) (st : St) (p : Nat) : p ≤ (itemX rd b c st p).2.1 := by
 have h1 := skip_le b p
 unfold itemX
 split
 ·split
  ·simp only; omega
  ·exact h1
 ·split
  ·have := typ_up b (skipB b p)
   simp only; omega
  ·split
   ·exact name_up b p
   ·exact hrd p
theorem item_locN {s s' : List UInt8} {rd rd' : Nat → NT × Nat × Bool} (h : Rd s s' rd rd') (c : UInt8) (st : St) (p : Nat) : LocN s s' (itemX rd s c st p) (itemX rd' s' c st p) := by
 unfold itemX
 by_cases c1 : c = 100
 ·rw [if_pos c1, if_pos c1]
  by_cases hd : digZ ((peekB s (skipB s p)).toNat : Int) = true
  ·rw [if_pos hd]
   refine LocN.of_eq fun ha hf => ?_
   simp only at ha
   rw [skip_loc (fun i hi => ha i (by omega)) (.inl (ha _ (Nat.lt_succ_self _))), pk_same (ha _ (Nat.lt_succ_self _)), if_pos hd]
  ·rw [if_neg hd]
   refine LocN.bad' fun ha hf => ?_
   rw [skip_loc ha hf]
   rcases hf with hf | hf
   ·rw [pk_same hf, if_neg hd]; exact ⟨rfl, fun _ => rfl⟩
   ·rw [dig_no hf, if_neg (by simp)]; exact ⟨rfl, fun _ => rfl⟩
 rw [if_neg c1, if_neg c1]
 by_cases c2 : c = 116
 ·rw [if_pos c2, if_pos c2]
  intro ha hf
  have hu := typ_up s (skipB s p)
  rw [skip_loc (fun i hi => ha i (by simp only; omega)) (at_le hu ha hf)]
  exact (typ_locN (s := s) (s' := s') (p := skipB s p)).map (fun t => ((st.1, t, st.2.2) : St)) ha hf
 rw [if_neg c2, if_neg c2]
 by_cases c3 : c = 110
 ·rw [if_pos c3, if_pos c3]
  exact (name_locN (s := s) (s' := s') (p := p)).map (fun t => ((st.1, st.2.1, st.2.2 ++ [t]) : St))
 ·rw [if_neg c3, if_neg c3]
  exact (h.loc p).map (fun t => ((st.1, st.2.1, st.2.2 ++ [t]) : St))
def callY (rd : Nat → NT × Nat × Bool) (b : List UInt8) (lst : Bool) (f : Nat) (mark : UInt8) (cs : List UInt8) (st : St) (p : Nat) : St × Nat × Bool :=
 if (goX rd b lst f mark cs st p).2.2 = true then goX rd b lst f mark cs st p
 else ((goX rd b lst f mark cs st p).1, (signP b (goX rd b lst f mark cs st p).2.1 false 41).1, (signP b (goX rd b lst f mark cs st p).2.1 false 41).2)
theorem callY_nil (rd : Nat → NT × Nat × Bool) (b : List UInt8) (lst : Bool) (f : Nat) (mark : UInt8) (st : St) (p : Nat) : callY rd b lst f mark [] st p = (st, (signP b p false 41).1, (signP b p false 41).2) := by
 unfold callY
 cases f <;> simp [goX]
theorem callY_zero (rd : Nat → NT × Nat × Bool) (b : List UInt8) (lst : Bool) (mark : UInt8) (cs : List UInt8) (st : St) (p : Nat) : callY rd b lst 0 mark cs st p = (st, (signP b p false 41).1, (signP b p false 41).2) := by
 unfold callY
 cases cs <;> simp [goX]
theorem callY_succ (rd : Nat → NT × Nat × Bool) (b : List UInt8) (lst : Bool) (f : Nat) (mark c : UInt8) (cs : List UInt8) (st : St) (p : Nat) : callY rd b lst (f + 1) mark (c :: cs) st p =
  if (signP b p false mark).2 = true then (st, (signP b p false mark).1, true)
  else if (itemX rd b c st (signP b p false mark).1).2.2 = true then itemX rd b c st (signP b p false mark).1
  else if moreX b lst (itemX rd b c st (signP b p false mark).1).1 (itemX rd b c st (signP b p false mark).1).2.1 = true
   then callY rd b lst f 44 (c :: cs) (itemX rd b c st (signP b p false mark).1).1 (itemX rd b c st (signP b p false mark).1).2.1
   else callY rd b lst f 44 cs (itemX rd b c st (signP b p false mark).1).1 (itemX rd b c st (signP b p false mark).1).2.1 := by
 unfold callY
 simp only [goX]
 split
 ·rw [if_pos rfl]
 ·split
  ·rfl
  ·split <;> rfl
theorem sign_ok {b : List UInt8} {p : Nat} {c : UInt8} (h : (signP b p false c).2 = false) : (signP b p false c).1 = skipB b p + 1 := by
 unfold signP at h ⊢
 simp only [Bool.false_eq_true,if_false] at h ⊢
 split at h
 ·rename_i e; rw [if_pos e]
 ·simp at h
theorem callY_up {rd : Nat → NT × Nat × Bool} (hrd : ∀ p, p ≤ (rd p).2.1) (b : List UInt8) (lst : Bool) : ∀ (f : Nat) (mark : UInt8) (cs : List UInt8) (st : St) (p : Nat),
  skipB b p ≤ (callY rd b lst f mark cs st p).2.1 ∧ ((callY rd b lst f mark cs st p).2.2 = false → skipB b p + 1 ≤ (callY rd b lst f mark cs st p).2.1)
 | f, mark, [], st, p => by
  rw [callY_nil]
  exact ⟨sign_up b p 41, fun h => by have := sign_ok h; simp only; omega⟩
 | 0, mark, c :: cs, st, p => by
  rw [callY_zero]
  exact ⟨sign_up b p 41, fun h => by have := sign_ok h; simp only; omega⟩
 | f + 1, mark, c :: cs, st, p => by
  rw [callY_succ]
  split
  ·exact ⟨sign_up b p mark, fun h => by simp at h⟩
  ·rename_i hs
   have h1 := sign_ok (by simpa using hs)
   have h2 := item_up hrd b c st (signP b p false mark).1
   split
   ·exact ⟨by omega, fun _ => by omega⟩
   ·have h4 := skip_le b (itemX rd b c st (signP b p false mark).1).2.1
    split
    ·have h3 := (callY_up hrd b lst f 44 (c :: cs) (itemX rd b c st (signP b p false mark).1).1 (itemX rd b c st (signP b p false mark).1).2.1).1
     exact ⟨by omega, fun _ => by omega⟩
    ·have h3 := (callY_up hrd b lst f 44 cs (itemX rd b c st (signP b p false mark).1).1 (itemX rd b c st (signP b p false mark).1).2.1).1
     exact ⟨by omega, fun _ => by omega⟩
theorem sign_blank {s : List UInt8} {p : Nat} {c : UInt8} (hc : c ≠ 0) (h : s[skipB s p]? = none) : signP s p false c = (skipB s p, true) := by
 unfold signP
 simp only [Bool.false_eq_true,if_false,pk_none h]
 rw [if_neg (Ne.symm hc)]
theorem callY_blank {rd : Nat → NT × Nat × Bool} {s : List UInt8} {lst : Bool} {p : Nat} {mark : UInt8} (hm : mark ≠ 0) (h : s[skipB s p]? = none) (f : Nat) (cs : List UInt8) (st : St) : (callY rd s lst f mark cs st p).2 = (skipB s p, true) := by
 cases cs with
 | nil => rw [callY_nil, sign_blank (by decide) h]
 | cons c cs =>
  cases f with
  | zero => rw [callY_zero, sign_blank (by decide) h]
  | succ f => rw [callY_succ, sign_blank hm h, if_pos rfl]
theorem callY_end {rd : Nat → NT × Nat × Bool} {s : List UInt8} {lst : Bool} {p : Nat} {mark : UInt8} (hm : mark ≠ 0) (h : s[p]? = none) (f : Nat) (cs : List UInt8) (st : St) : (callY rd s lst f mark cs st p).2.1 = p := by
 rw [callY_blank hm (by rw [skip_end h]; exact h), skip_end h]
theorem callY_locN {s s' : List UInt8} {rd rd' : Nat → NT × Nat × Bool} (h : Rd s s' rd rd') (lst : Bool) : ∀ (f : Nat) (mark : UInt8) (cs : List UInt8) (st : St) (p : Nat), mark ≠ 0 →
  LocN s s' (callY rd s lst f mark cs st p) (callY rd' s' lst f mark cs st p)
 | f, mark, [], st, p, hm => by
  rw [callY_nil, callY_nil]
  exact LocN.of_eq fun ha hf => by rw [sign_eq (by decide) ha hf]
 | 0, mark, c :: cs, st, p, hm => by
  rw [callY_zero, callY_zero]
  exact LocN.of_eq fun ha hf => by rw [sign_eq (by decide) ha hf]
 | f + 1, mark, c :: cs, st, p, hm => by
  rw [callY_succ, callY_succ]
  by_cases hs : (signP s p false mark).2 = true
  ·rw [if_pos hs]
   refine LocN.of_eq fun ha hf => ?_
   rw [sign_eq hm ha hf, if_pos hs]
  rw [if_neg hs]
  have hiu := item_up h.up s c st (signP s p false mark).1
  have hil := item_locN h c st (signP s p false mark).1
  by_cases hb : (itemX rd s c st (signP s p false mark).1).2.2 = true
  ·rw [if_pos hb]
   intro ha hf
   rw [sign_eq hm (fun i hi => ha i (by omega)) (at_le hiu ha hf), if_neg hs]
   obtain ⟨k1, k2, k3⟩ := hil ha hf
   refine ⟨?_, fun e => by rw [hb] at e; simp at e, fun e => by rw [k3 e, if_pos hb, k3 e]⟩
   split
   ·exact k1
   ·rename_i hb'
    have hnone : s'[(itemX rd' s' c st (signP s p false mark).1).2.1]? = none := by
     rcases hf with hf | hf
     ·exact absurd (by rw [k3 hf]; exact hb) hb'
     ·rw [k1]; exact hf
    split
    ·rw [callY_end (by decide) hnone, k1]
    ·rw [callY_end (by decide) hnone, k1]
  ·rw [if_neg hb]
   have hb0 : (itemX rd s c st (signP s p false mark).1).2.2 = false := by simpa using hb
   have rest : ∀ (cs2 : List UInt8), (moreX s lst (itemX rd s c st (signP s p false mark).1).1 (itemX rd s c st (signP s p false mark).1).2.1 = true ↔ cs2 = c :: cs ∧ moreX s lst (itemX rd s c st (signP s p false mark).1).1 (itemX rd s c st (signP s p false mark).1).2.1 = true) →
     True := fun _ _ => trivial
   have go : ∀ (cs2 : List UInt8) (Q : St × Nat × Bool), Q = callY rd s lst f 44 cs2 (itemX rd s c st (signP s p false mark).1).1 (itemX rd s c st (signP s p false mark).1).2.1 →
     (moreX s lst (itemX rd s c st (signP s p false mark).1).1 (itemX rd s c st (signP s p false mark).1).2.1 = true ∧ cs2 = c :: cs ∨ ¬ moreX s lst (itemX rd s c st (signP s p false mark).1).1 (itemX rd s c st (signP s p false mark).1).2.1 = true ∧ cs2 = cs) →
     LocN s s' Q (if (signP s' p false mark).2 = true then (st, (signP s' p false mark).1, true)
      else if (itemX rd' s' c st (signP s' p false mark).1).2.2 = true then itemX rd' s' c st (signP s' p false mark).1
      else if moreX s' lst (itemX rd' s' c st (signP s' p false mark).1).1 (itemX rd' s' c st (signP s' p false mark).1).2.1 = true
       then callY rd' s' lst f 44 (c :: cs) (itemX rd' s' c st (signP s' p false mark).1).1 (itemX rd' s' c st (signP s' p false mark).1).2.1
       else callY rd' s' lst f 44 cs (itemX rd' s' c st (signP s' p false mark).1).1 (itemX rd' s' c st (signP s' p false mark).1).2.1) := by
    intro cs2 Q hQ hmore ha hf
    have hu := callY_up h.up s lst f 44 cs2 (itemX rd s c st (signP s p false mark).1).1 (itemX rd s c st (signP s p false mark).1).2.1
    rw [← hQ] at hu
    have hsk := skip_le s (itemX rd s c st (signP s p false mark).1).2.1
    have ei : itemX rd' s' c st (signP s p false mark).1 = itemX rd s c st (signP s p false mark).1 := hil.ok hb0 (by omega) ha hf
    have es : signP s' p false mark = signP s p false mark := sign_eq hm (fun i hi => ha i (by omega)) (at_le (by omega) ha hf)
    have hk := at_le hu.1 ha hf
    have ek : skipB s' (itemX rd s c st (signP s p false mark).1).2.1 = skipB s (itemX rd s c st (signP s p false mark).1).2.1 := skip_loc (fun i hi => ha i (by omega)) hk
    rw [es, if_neg hs, ei, if_neg hb]
    have same : s'[skipB s (itemX rd s c st (signP s p false mark).1).2.1]? = s[skipB s (itemX rd s c st (signP s p false mark).1).2.1]? → moreX s' lst (itemX rd s c st (signP s p false mark).1).1 (itemX rd s c st (signP s p false mark).1).2.1 = moreX s lst (itemX rd s c st (signP s p false mark).1).1 (itemX rd s c st (signP s p false mark).1).2.1 := fun e => by
     unfold moreX
     rw [ek, pk_same e]
    have onSame : s'[skipB s (itemX rd s c st (signP s p false mark).1).2.1]? = s[skipB s (itemX rd s c st (signP s p false mark).1).2.1]? → (if moreX s' lst (itemX rd s c st (signP s p false mark).1).1 (itemX rd s c st (signP s p false mark).1).2.1 = true
       then callY rd' s' lst f 44 (c :: cs) (itemX rd s c st (signP s p false mark).1).1 (itemX rd s c st (signP s p false mark).1).2.1
       else callY rd' s' lst f 44 cs (itemX rd s c st (signP s p false mark).1).1 (itemX rd s c st (signP s p false mark).1).2.1) = callY rd' s' lst f 44 cs2 (itemX rd s c st (signP s p false mark).1).1 (itemX rd s c st (signP s p false mark).1).2.1 := fun e => by
     rw [same e]
     rcases hmore with ⟨h1, rfl⟩ | ⟨h1, rfl⟩
     ·rw [if_pos h1]
     ·rw [if_neg h1]
    have ih := callY_locN h lst f 44 cs2 (itemX rd s c st (signP s p false mark).1).1 (itemX rd s c st (signP s p false mark).1).2.1 (by decide)
    rw [← hQ] at ih
    rcases Nat.lt_or_ge (skipB s (itemX rd s c st (signP s p false mark).1).2.1) Q.2.1 with hlt | hge
    ·rw [onSame (ha _ hlt)]
     exact ih ha hf
    ·have eq : Q.2.1 = skipB s (itemX rd s c st (signP s p false mark).1).2.1 := by omega
     rcases hf with hf | hf
     ·rw [onSame (by rw [← eq]; exact hf)]
      exact ih ha (.inl hf)
     ·have hbl : s'[skipB s' (itemX rd s c st (signP s p false mark).1).2.1]? = none := by rw [ek, ← eq]; exact hf
      have hQb : Q.2.2 = true := by
       rcases Bool.eq_false_or_eq_true Q.2.2 with e | e
       ·exact e
       ·have := hu.2 e; omega
      have hall : (if moreX s' lst (itemX rd s c st (signP s p false mark).1).1 (itemX rd s c st (signP s p false mark).1).2.1 = true
       then callY rd' s' lst f 44 (c :: cs) (itemX rd s c st (signP s p false mark).1).1 (itemX rd s c st (signP s p false mark).1).2.1
       else callY rd' s' lst f 44 cs (itemX rd s c st (signP s p false mark).1).1 (itemX rd s c st (signP s p false mark).1).2.1).2 = (Q.2.1, true) := by
       split
       ·rw [callY_blank (by decide) hbl, ek, eq]
       ·rw [callY_blank (by decide) hbl, ek, eq]
      rw [hall]
      exact ⟨rfl, fun e => by rw [hQb] at e; simp at e, fun _ => hQb.symm⟩
   by_cases hmo : moreX s lst (itemX rd s c st (signP s p false mark).1).1 (itemX rd s c st (signP s p false mark).1).2.1 = true
   ·rw [if_pos hmo]
    exact go _ _ rfl (.inl ⟨hmo, rfl⟩)
   ·rw [if_neg hmo]
    exact go _ _ rfl (.inr ⟨hmo, rfl⟩)
theorem callX_at (rd : Nat → NT × Nat × Bool) (b w ps : List UInt8) (p : Nat) : (callX rd b w ps p).2 = (callY rd b (decide (ps = [43])) 70 40 ps (0, zeroT, []) p).2 ∧
  ((callX rd b w ps p).2.2 = false → (callX rd b w ps p).1 = mkN w (callY rd b (decide (ps = [43])) 70 40 ps (0, zeroT, []) p).1.1 [] (callY rd b (decide (ps = [43])) 70 40 ps (0, zeroT, []) p).1.2.1 (callY rd b (decide (ps = [43])) 70 40 ps (0, zeroT, []) p).1.2.2) := by
 unfold callX callY
 generalize goX rd b (decide (ps = [43])) 70 40 ps (0, zeroT, []) p = r
 by_cases h : r.2.2 = true
 ·rw [if_pos h, if_pos h]
  exact ⟨Prod.ext rfl h.symm, fun e => by simp at e⟩
 ·rw [if_neg h, if_neg h]
  exact ⟨rfl, fun _ => rfl⟩
theorem callX_locN {s s' : List UInt8} {rd rd' : Nat → NT × Nat × Bool} (h : Rd s s' rd rd') (w ps : List UInt8) (p : Nat) : LocN s s' (callX rd s w ps p) (callX rd' s' w ps p) := by
 intro ha hf
 obtain ⟨a1, a2⟩ := callX_at rd s w ps p
 obtain ⟨b1, b2⟩ := callX_at rd' s' w ps p
 rw [a1] at ha hf
 obtain ⟨k1, k2, k3⟩ := callY_locN h (decide (ps = [43])) 70 40 ps (0, zeroT, []) p (by decide) ha hf
 refine ⟨by rw [a1, b1, k1], fun hb => ?_, fun e => by rw [a1, b1]; exact k3 (by rw [a1] at e; exact e)⟩
 have hb2 := hb
 rw [a1] at hb2
 have e := k2 hb2
 rw [e] at b1 b2
 exact Prod.ext (by rw [a2 hb, b2 (by rw [b1]; exact hb2)]) (by rw [a1, b1])
def wordX (b : List UInt8) (d : Nat) (w : List UInt8) (r : Nat) : NT × Nat × Bool :=
 match shapeT w with
   | none => (mkN nameW 0 w zeroT [], r, false)
   | some ps => if ps = [] then (mkN w 0 [] zeroT [], r, false)
    else if d = 0 ∧ ps ≠ [100] ∧ ps ≠ [116] then (zeroN, r, true)
    else callX (exprX b d) b w ps r
theorem exprX_eq2 (b : List UInt8) (d p : Nat) : exprX b (d + 1) p =
  if peekB b (skipB b p) = 34 then strP b (skipB b p + 1)
  else if (decide (peekB b (skipB b p) = 45) || digZ ((peekB b (skipB b p)).toNat : Int)) = true then numP b (skipB b p)
  else if letZ ((peekB b (skipB b p)).toNat : Int) = false then (zeroN, skipB b p, true)
  else if longB b (skipB b p) = true then (zeroN, runB b (skipB b p), true)
  else wordX b d (wordB b (skipB b p)) (runB b (skipB b p)) := rfl
theorem let00 : letZ ((0 : UInt8).toNat : Int) = false := by decide
theorem exprX_end {s : List UInt8} {p : Nat} (h : s[p]? = none) : ∀ d, exprX s d p = (zeroN, p, true)
 | 0 => rfl
 | d + 1 => by
  rw [exprX_eq2, skip_end h, pk_none h, if_neg (by decide), if_neg (by decide), let00, if_pos rfl]
theorem exprX_up (s : List UInt8) : ∀ d p, p ≤ (exprX s d p).2.1
 | 0, p => Nat.le_refl _
 | d + 1, p => by
  have h1 := skip_le s p
  have h2 := run_le s (skipB s p)
  rw [exprX_eq2]
  split
  ·have := str_up s (skipB s p + 1); omega
  ·split
   ·have := num_up s (skipB s p); omega
   ·split
    ·exact h1
    ·split
     ·simp only; omega
     ·unfold wordX
      split
      ·simp only; omega
      ·split
       ·simp only; omega
       ·split
        ·simp only; omega
        ·rename_i ps _ _ _
         rw [(callX_at _ _ _ _ _).1]
         have h3 := (callY_up (exprX_up s d) s (decide (ps = [43])) 70 40 ps (0, zeroT, []) (runB s (skipB s p))).1
         have h4 := skip_le s (runB s (skipB s p))
         omega
theorem wordX_up (s : List UInt8) (d : Nat) (w : List UInt8) (r : Nat) : r ≤ (wordX s d w r).2.1 := by
 unfold wordX
 split
 ·exact Nat.le_refl _
 ·split
  ·exact Nat.le_refl _
  ·split
   ·exact Nat.le_refl _
   ·rename_i ps _ _ _
    rw [(callX_at _ _ _ _ _).1]
    have h3 := (callY_up (exprX_up s d) s (decide (ps = [43])) 70 40 ps (0, zeroT, []) r).1
    have h4 := skip_le s r
    omega
theorem wordX_end {s : List UInt8} {r : Nat} (h : s[r]? = none) (d : Nat) (w : List UInt8) : (wordX s d w r).2.1 = r := by
 unfold wordX
 split
 ·rfl
 ·split
  ·rfl
  ·split
   ·rfl
   ·rw [(callX_at _ _ _ _ _).1]
    exact callY_end (by decide) h _ _ _
theorem num_up1 {b : List UInt8} {p : Nat} (h : (decide (peekB b p = 45) || digZ ((peekB b p).toNat : Int)) = true) : p + 1 ≤ (numP b p).2.1 := by
 rw [numP_eq]
 by_cases hn : decide (peekB b p = 45) = true
 ·rw [if_pos hn]; exact numQ_up _ _ _
 ·rw [if_neg hn]
  have hn' : decide (peekB b p = 45) = false := by simpa using hn
  rw [hn', Bool.false_or] at h
  rw [hn']
  unfold numQ
  rw [h, Bool.and_false, if_neg (by simp)]
  have := numN_up b (mostN false) (b.length - (p + 1)) ((peekB b p).toNat - 48) (p + 1)
  split
  all_goals rename_i hs; rw [hs] at this; exact this
theorem run_up1 {b : List UInt8} {p : Nat} (h : letZ ((peekB b p).toNat : Int) = true) : p < runB b p := by
 have hg : goesB b p p = true := by
  have h2 := h
  unfold letZ at h2
  simp only [Bool.and_eq_true,decide_eq_true_eq] at h2
  unfold goesB namZ
  rw [h, Bool.true_or, Bool.true_or, decide_eq_true (show p - p < 16 by omega), decide_eq_true h2.1, Bool.or_true]
  rfl
 have := runN_le b p 15 (p + 1)
 unfold runB
 change p < runN b p (15 + 1) p
 rw [show runN b p (15 + 1) p = if goesB b p p = true then runN b p 15 (p + 1) else p from rfl, if_pos hg]
 omega
theorem exprX_locN (s s' : List UInt8) : ∀ d p, LocN s s' (exprX s d p) (exprX s' d p)
 | 0, p => LocN.of_eq fun _ _ => rfl
 | d + 1, p => by
  have hrd : Rd s s' (exprX s d) (exprX s' d) := ⟨exprX_up s d, exprX_locN s s' d, fun p h => by rw [exprX_end h]⟩
  have hw : ∀ w r, LocN s s' (wordX s d w r) (wordX s' d w r) := fun w r => by
   unfold wordX
   split
   ·exact LocN.of_eq fun _ _ => rfl
   ·split
    ·exact LocN.of_eq fun _ _ => rfl
    ·split
     ·exact LocN.of_eq fun _ _ => rfl
     ·exact callX_locN hrd _ _ _
  rw [exprX_eq2 s, exprX_eq2 s']
  have sk : ∀ {m}, skipB s p ≤ m → (∀ i, i < m → s'[i]? = s[i]?) → (s'[m]? = s[m]? ∨ s'[m]? = none) → skipB s' p = skipB s p := fun hm ha hf => skip_loc (fun i hi => ha i (by omega)) (at_le hm ha hf)
  by_cases c1 : peekB s (skipB s p) = 34
  ·rw [if_pos c1]
   intro ha hf
   have hu := str_up s (skipB s p + 1)
   rw [sk (by omega) ha hf, pk_same (ha _ (by omega)), if_pos c1]
   exact str_locN ha hf
  rw [if_neg c1]
  by_cases c2 : (decide (peekB s (skipB s p) = 45) || digZ ((peekB s (skipB s p)).toNat : Int)) = true
  ·rw [if_pos c2]
   intro ha hf
   have hu := num_up1 c2
   rw [sk (by omega) ha hf, pk_same (ha _ (by omega)), if_neg c1, if_pos c2]
   exact num_locN ha hf
  rw [if_neg c2]
  by_cases c3 : letZ ((peekB s (skipB s p)).toNat : Int) = false
  ·rw [if_pos c3]
   refine LocN.bad' fun ha hf => ?_
   rw [skip_loc ha hf]
   rcases hf with hf | hf
   ·rw [pk_same hf, if_neg c1, if_neg c2, if_pos c3]
    exact ⟨rfl, fun _ => rfl⟩
   ·rw [pk_none hf, if_neg (by decide), if_neg (by decide), let00, if_pos rfl]
    exact ⟨rfl, fun _ => rfl⟩
  rw [if_neg c3]
  have hr := run_le s (skipB s p)
  have hr1 : skipB s p < runB s (skipB s p) := run_up1 (by simpa using c3)
  have front : ∀ {m}, runB s (skipB s p) ≤ m → (∀ i, i < m → s'[i]? = s[i]?) → (s'[m]? = s[m]? ∨ s'[m]? = none) →
    skipB s' p = skipB s p ∧ peekB s' (skipB s p) = peekB s (skipB s p) ∧ runB s' (skipB s p) = runB s (skipB s p) ∧ wordB s' (skipB s p) = wordB s (skipB s p) := fun hm ha hf => by
   have e2 : runB s' (skipB s p) = runB s (skipB s p) := run_loc (fun i hi => ha i (by omega)) (at_le hm ha hf)
   exact ⟨sk (by omega) ha hf, pk_same (ha _ (by omega)), e2, word_loc (fun i hi => ha i (by omega)) e2⟩
  by_cases c4 : longB s (skipB s p) = true
  ·rw [if_pos c4]
   refine LocN.bad' fun ha hf => ?_
   obtain ⟨e1, e2, e3, e4⟩ := front (Nat.le_refl _) ha hf
   rw [e1, e2, if_neg c1, if_neg c2, if_neg c3, e3, e4]
   rcases hf with hf | hf
   ·have : longB s' (skipB s p) = true := by
     unfold longB at c4 ⊢
     rwa [e3, pk_same hf]
    rw [if_pos this]
    exact ⟨rfl, fun _ => rfl⟩
   ·rw [long_none (by rw [e3]; exact hf), if_neg (by simp)]
    refine ⟨wordX_end hf d _, fun hs => ?_⟩
    exfalso
    unfold longB at c4
    rw [hf] at hs
    rw [pk_none hs.symm, nam0, Bool.and_false] at c4
    simp at c4
  ·rw [if_neg c4]
   intro ha hf
   have hu := wordX_up s d (wordB s (skipB s p)) (runB s (skipB s p))
   obtain ⟨e1, e2, e3, e4⟩ := front hu ha hf
   have hl : ¬ longB s' (skipB s p) = true := by
    rcases at_le hu ha hf with h | h
    ·unfold longB at c4 ⊢
     rwa [e3, pk_same h]
    ·rw [long_none (by rw [e3]; exact h)]; simp
   rw [e1, e2, if_neg c1, if_neg c2, if_neg c3, if_neg hl, e3, e4]
   exact hw _ _ ha hf
theorem expr_len0 (s : List UInt8) : (exprX s 24 0).2.1 ≤ s.length := expr_len s 24 0 (Nat.zero_le _)
theorem read_at {s : List UInt8} (h : (readX s).2.2 = true) : (readX s).2.1 ≤ s.length := by
 have hl := expr_len0 s
 unfold readX at h ⊢
 by_cases hb : (exprX s 24 0).2.2 = true
 ·rw [if_pos hb]; exact hl
 ·rw [if_neg hb] at h ⊢
  by_cases hk : skipB s (exprX s 24 0).2.1 < s.length
  ·rw [if_pos hk]; simp only; omega
  ·rw [if_neg hk] at h; simp at h
theorem read_ok {s : List UInt8} (h : (readX s).2.2 = false) : (readX s).2.1 = 0 := by
 unfold readX at h ⊢
 by_cases hb : (exprX s 24 0).2.2 = true
 ·rw [if_pos hb] at h; simp at h
 ·rw [if_neg hb] at h ⊢
  by_cases hk : skipB s (exprX s 24 0).2.1 < s.length
  ·rw [if_pos hk] at h; simp at h
  ·rw [if_neg hk]
theorem read_far {s s' : List UInt8} (h : (readX s).2.2 = true) (hs : ∀ i, i ≤ (readX s).2.1 → s'[i]? = s[i]?) : (readX s').2.2 = true ∧ (readX s').2.1 = (readX s).2.1 := by
 have hl := exprX_locN s s' 24 0
 unfold readX at h hs ⊢
 by_cases hb : (exprX s 24 0).2.2 = true
 ·rw [if_pos hb] at hs ⊢
  obtain ⟨k1, k2, k3⟩ := hl (fun i hi => hs i (by simp only; omega)) (.inl (hs _ (Nat.le_refl _)))
  rw [k3 (hs _ (Nat.le_refl _)), hb, if_pos rfl]
  exact ⟨rfl, k1⟩
 ·rw [if_neg hb] at h hs ⊢
  by_cases hk : skipB s (exprX s 24 0).2.1 < s.length
  ·rw [if_pos hk] at hs ⊢
   simp only at hs
   have hsk := skip_le s (exprX s 24 0).2.1
   have e := hl.ok (by simpa using hb) hsk (fun i hi => hs i (by omega)) (.inl (hs _ (Nat.le_refl _)))
   have e2 := skip_loc (s := s) (s' := s') (p := (exprX s 24 0).2.1) (fun i hi => hs i (by omega)) (.inl (hs _ (Nat.le_refl _)))
   have hk' : skipB s (exprX s 24 0).2.1 < s'.length := by
    rcases Nat.lt_or_ge (skipB s (exprX s 24 0).2.1) s'.length with h | h
    ·exact h
    ·have := hs _ (Nat.le_refl _)
     rw [List.getElem?_eq_none h, eq_comm, List.getElem?_eq_none_iff] at this
     omega
   rw [e, if_neg hb, e2, if_pos hk']
   exact ⟨rfl, rfl⟩
  ·rw [if_neg hk] at h; simp at h
theorem read_ahead {s : List UInt8} (h : (readX s).2.2 = true) : (readX (s.take (readX s).2.1)).2.2 = true → (readX (s.take (readX s).2.1)).2.1 = (readX s).2.1 := by
 have hat := read_at h
 have hag : ∀ i, i < (readX s).2.1 → (s.take (readX s).2.1)[i]? = s[i]? := fun i hi => by rw [List.getElem?_take, if_pos hi]
 have hno : (s.take (readX s).2.1)[(readX s).2.1]? = none := by rw [List.getElem?_take, if_neg (Nat.lt_irrefl _)]
 have hlen : (s.take (readX s).2.1).length = (readX s).2.1 := by rw [List.length_take]; omega
 generalize s.take (readX s).2.1 = s' at *
 have hl := exprX_locN s s' 24 0
 intro hb'
 unfold readX at h hag hno hb' hlen ⊢
 by_cases hb : (exprX s 24 0).2.2 = true
 ·rw [if_pos hb] at hag hno hlen ⊢
  obtain ⟨k1, k2, k3⟩ := hl hag (.inr hno)
  simp only at hno
  rw [← k1] at hno
  split
  ·exact k1
  ·rw [skip_end hno]
   rename_i h2
   rw [if_neg h2, skip_end hno, if_neg (by simp only at hlen; omega)] at hb'
   simp at hb'
 ·rw [if_neg hb] at h hag hno hlen ⊢
  by_cases hk : skipB s (exprX s 24 0).2.1 < s.length
  ·rw [if_pos hk] at hag hno hlen ⊢
   simp only at hag hno hlen
   have hsk := skip_le s (exprX s 24 0).2.1
   have e := hl.ok (by simpa using hb) hsk hag (.inr hno)
   have e2 := skip_loc (s := s) (s' := s') (p := (exprX s 24 0).2.1) hag (.inr hno)
   rw [e, if_neg hb, e2, if_neg (by omega)] at hb'
   simp at hb'
  ·rw [if_neg hk] at h; simp at h
end Go.Abs.Seat
end
section
set_option linter.unusedVariables false
set_option linter.unusedSimpArgs false
namespace Go.Abs.Seat
open Go.Proofs
set_option maxRecDepth 100000 in
theorem awakeE : runC bld T 400 10 [] [] = some (.im (.bool true), []) := by kernel_rfl
theorem s10 (H : Heap) : L 10 [] H = some (.im (.bool true), H) := lim_at bsh Tok Tno awakeE H
end Go.Abs.Seat
end
section
set_option linter.unusedVariables false
set_option linter.unusedSimpArgs false
namespace Go.Abs.Seat
open Go.Proofs
theorem parse_pre {s : List UInt8} (hl : s.length ≤ 3000) : (parseX s).2.2 = 0 ∧ (parseX s).2.1 = 0 ∨ (parseX s).2.2 = 40 ∧ (parseX s).2.1 ≤ s.length ∧
  ((parseX (s.take (parseX s).2.1)).2.2 = 0 ∧ (parseX (s.take (parseX s).2.1)).2.1 = 0 ∨ (parseX (s.take (parseX s).2.1)).2.2 = 40 ∧ (parseX (s.take (parseX s).2.1)).2.1 = (parseX s).2.1) ∧
  ((parseX s).2.1 < s.length → ∀ more : List UInt8, more.length ≤ 500 → (parseX (s.take ((parseX s).2.1 + 1) ++ more)).2.2 = 40 ∧ (parseX (s.take ((parseX s).2.1 + 1) ++ more)).2.1 = (parseX s).2.1) := by
 have e : ∀ t : List UInt8, t.length ≤ 4096 → parseX t = ((readX t).1, (readX t).2.1, if (readX t).2.2 = true then 40 else 0) := fun t h => by unfold parseX; rw [if_neg (by omega)]
 rw [e s (by omega)]
 cases hb : (readX s).2.2 with
 | false =>
  left
  exact ⟨rfl, read_ok hb⟩
 | true =>
  right
  have hat := read_at hb
  refine ⟨rfl, hat, ?_, fun hlt more hm => ?_⟩
  ·rw [e _ (by rw [List.length_take]; omega)]
   have ha := read_ahead hb
   simp only
   cases hb2 : (readX (s.take (readX s).2.1)).2.2 with
   | false => left; exact ⟨rfl, read_ok hb2⟩
   | true => right; exact ⟨rfl, ha hb2⟩
  ·simp only at hlt ⊢
   have hlen : (s.take ((readX s).2.1 + 1)).length = (readX s).2.1 + 1 := by rw [List.length_take]; omega
   rw [e _ (by rw [List.length_append, hlen]; omega)]
   obtain ⟨h1, h2⟩ := read_far (s' := s.take ((readX s).2.1 + 1) ++ more) hb (fun i hi => by
    rw [List.getElem?_append_left (by omega), List.getElem?_take, if_pos (by omega)])
   simp only
   rw [h1, h2]
   exact ⟨rfl, rfl⟩
theorem s5 (s more : List UInt8) : ∃ H', L 5 [.im (.str s), .im (.str more)] [] = some (.im (.bool true), H') := by
 rw [leq F5]
 have hK : ∀ (tm : List AV) (H : Heap), tm.length = 98 → tm.getD 4 undefA = .im (.bool true) → ∃ H', endK f5 [] .ret tm H = some (.im (.bool true), H') := fun tm H hl h => by
  simp only [endK,f5,resA,h,tupA,leave_nil]
  exact ⟨_, rfl⟩
 have hcode : f5.code = f5.code := rfl
 conv at hcode => rhs; simp only [f5]
 rw [hcode]
 clear hcode
 generalize endK f5 [] = K at *
 obtain ⟨hlen, ha⟩ := enter_at (f := f5) (args := [.im (.str s), .im (.str more)]) (Nat.le_of_ble_eq_true rfl)
 have h0 := ha 0 _ rfl
 have h1 := ha 1 _ rfl
 generalize enterA f5 [.im (.str s), .im (.str more)] = tm at *
 change tm.length = 98 at hlen
 have c10 := s10
 by_cases hl : 3000 < s.length
 ·have hc : decide ((3000 : Int) < (s.length : Int)) = true := decide_eq_true (by omega)
  simp only [B0,B1,B2,List.replicate,Nat.reduceAdd,Nat.reduceSub,Nat.reduceLeDiff,Nat.reduceLT,Nat.reduceEqDiff,reduceCtorEq,Int.reduceEq,Int.reduceLT,Int.reduceLE,lenA,hlen,h0,h1,hc,c10]
  exact hK _ _ (by simp only [List.length_set,hlen]) (by simp only [B3,Nat.reduceLT,Nat.reduceEqDiff,hlen])
 have hc : decide ((3000 : Int) < (s.length : Int)) = false := decide_eq_false (by omega)
 by_cases hm : 500 < more.length
 ·have hc2 : decide ((500 : Int) < (more.length : Int)) = true := decide_eq_true (by omega)
  simp only [B0,B1,B2,List.replicate,Nat.reduceAdd,Nat.reduceSub,Nat.reduceLeDiff,Nat.reduceLT,Nat.reduceEqDiff,reduceCtorEq,Int.reduceEq,Int.reduceLT,Int.reduceLE,lenA,hlen,h0,h1,hc,hc2,c10]
  exact hK _ _ (by simp only [List.length_set,hlen]) (by simp only [B3,Nat.reduceLT,Nat.reduceEqDiff,hlen])
 have hc2 : decide ((500 : Int) < (more.length : Int)) = false := decide_eq_false (by omega)
 have c9 := s9 s
 have hp := parse_pre (s := s) (by omega)
 generalize hps : parseX s = p at *
 obtain ⟨t, p, e⟩ := p
 obtain ⟨op, ni, txt, ty, ns, kids⟩ := t
 obtain ⟨tk, ts, targs⟩ := ty
 simp only [encN] at c9
 simp only at hp
 rcases hp with ⟨rfl, rfl⟩ | ⟨rfl, hle, h3, h4⟩
 ·simp only [B0,B1,B2,List.replicate,Nat.reduceAdd,Nat.reduceSub,Nat.reduceLeDiff,Nat.reduceLT,Nat.reduceEqDiff,reduceCtorEq,Int.reduceEq,Int.reduceLT,Int.reduceLE,lenA,z_ops,z_nil,z_cons,z_guard,z_some,z_drop,z_do,z_not,z_not0,pairK,forall_eq_or_imp,stays,loadOf,List.reverse_cons,List.reverse_nil,List.mem_cons,List.not_mem_nil,or_false,forall_eq,true_or,or_true,Bool.true_and,zc0,hlen,h0,h1,hc,hc2,c9,c10]
  exact hK _ _ (by simp only [List.length_set,hlen]) (by simp only [B3,Nat.reduceLT,Nat.reduceEqDiff,hlen])
 have c9a := s9 (s.take p)
 have hnn : (0 : Int) ≤ (p : Int) := Int.natCast_nonneg p
 have hlt0 : decide ((p : Int) < 0) = false := decide_eq_false (by omega)
 have hgt : decide ((s.length : Int) < (p : Int)) = false := decide_eq_false (by omega)
 have hnn1 : (0 : Int) ≤ ((p + 1 : Nat) : Int) := Int.natCast_nonneg _
 have hwr := wrap_nat (i := p) (by omega)
 have z0 : ((0 : Nat) : Int) = 0 := rfl
 generalize parseX (s.take p) = q at *
 obtain ⟨t2, p2, e2⟩ := q
 obtain ⟨op2, ni2, txt2, ty2, ns2, kids2⟩ := t2
 obtain ⟨tk2, ts2, targs2⟩ := ty2
 simp only [encN] at c9a
 simp only at h3
 by_cases hlt : p < s.length
 ·have hc3 : decide ((p : Int) < (s.length : Int)) = true := decide_eq_true (by omega)
  obtain ⟨h5, h6⟩ := h4 hlt more (by omega)
  have c9b := s9 (s.take (p + 1) ++ more)
  generalize hq3 : parseX (s.take (p + 1) ++ more) = q3 at *
  obtain ⟨t3, p3, e3⟩ := q3
  obtain ⟨op3, ni3, txt3, ty3, ns3, kids3⟩ := t3
  obtain ⟨tk3, ts3, targs3⟩ := ty3
  simp only [encN] at c9b
  simp only at h5 h6
  subst h5 h6
  have hcat : (s.take (p3 + 1)).length + more.length ≤ 2 ^ 62 := by simp; omega
  have hadd := s_add hcat
  have hb1 : 0 ≤ p3 ∧ p3 ≤ s.length := ⟨Nat.zero_le _, hle⟩
  have hb2 : 0 ≤ p3 + 1 ∧ p3 + 1 ≤ s.length := ⟨Nat.zero_le _, hlt⟩
  rcases h3 with ⟨rfl, rfl⟩ | ⟨rfl, rfl⟩
  ·simp only [B0,B1,B2,List.replicate,Nat.reduceAdd,Nat.reduceSub,Nat.reduceLeDiff,Nat.reduceLT,Nat.reduceEqDiff,reduceCtorEq,Int.reduceEq,Int.reduceLT,Int.reduceLE,lenA,z_ops,z_nil,z_cons,z_guard,z_some,z_drop,z_do,z_not,z_not0,pairK,forall_eq_or_imp,stays,loadOf,List.reverse_cons,List.reverse_nil,List.mem_cons,List.not_mem_nil,or_false,forall_eq,true_or,or_true,Bool.true_and,boundA,intOfA,Int.toNat_natCast,Nat.sub_zero,Nat.zero_le,hlen,h0,h1,hc,hc2,hc3,c9,c9a,c9b,hnn,hnn1,hlt0,hgt,hle,hlt,hb1,hb2,hwr,z0,hadd,c10]
   exact hK _ _ (by simp only [List.length_set,hlen]) (by simp only [B3,Nat.reduceLT,Nat.reduceEqDiff,hlen])
  ·simp only [B0,B1,B2,List.replicate,Nat.reduceAdd,Nat.reduceSub,Nat.reduceLeDiff,Nat.reduceLT,Nat.reduceEqDiff,reduceCtorEq,Int.reduceEq,Int.reduceLT,Int.reduceLE,lenA,z_ops,z_nil,z_cons,z_guard,z_some,z_drop,z_do,z_not,z_not0,pairK,forall_eq_or_imp,stays,loadOf,List.reverse_cons,List.reverse_nil,List.mem_cons,List.not_mem_nil,or_false,forall_eq,true_or,or_true,Bool.true_and,boundA,intOfA,Int.toNat_natCast,Nat.sub_zero,Nat.zero_le,hlen,h0,h1,hc,hc2,hc3,c9,c9a,c9b,hnn,hnn1,hlt0,hgt,hle,hlt,hb1,hb2,hwr,z0,hadd,c10]
   exact hK _ _ (by simp only [List.length_set,hlen]) (by simp only [B3,Nat.reduceLT,Nat.reduceEqDiff,hlen])
 ·have hc3 : decide ((p : Int) < (s.length : Int)) = false := decide_eq_false (by omega)
  have hb1 : 0 ≤ p ∧ p ≤ s.length := ⟨Nat.zero_le _, hle⟩
  rcases h3 with ⟨rfl, rfl⟩ | ⟨rfl, rfl⟩
  ·simp only [B0,B1,B2,List.replicate,Nat.reduceAdd,Nat.reduceSub,Nat.reduceLeDiff,Nat.reduceLT,Nat.reduceEqDiff,reduceCtorEq,Int.reduceEq,Int.reduceLT,Int.reduceLE,lenA,z_ops,z_nil,z_cons,z_guard,z_some,z_drop,z_do,z_not,z_not0,pairK,forall_eq_or_imp,stays,loadOf,List.reverse_cons,List.reverse_nil,List.mem_cons,List.not_mem_nil,or_false,forall_eq,true_or,or_true,Bool.true_and,boundA,intOfA,Int.toNat_natCast,Nat.sub_zero,Nat.zero_le,hlen,h0,h1,hc,hc2,hc3,c9,c9a,hnn,hlt0,hgt,hle,hb1,z0,c10]
   exact hK _ _ (by simp only [List.length_set,hlen]) (by simp only [B3,Nat.reduceLT,Nat.reduceEqDiff,hlen])
  ·simp only [B0,B1,B2,List.replicate,Nat.reduceAdd,Nat.reduceSub,Nat.reduceLeDiff,Nat.reduceLT,Nat.reduceEqDiff,reduceCtorEq,Int.reduceEq,Int.reduceLT,Int.reduceLE,lenA,z_ops,z_nil,z_cons,z_guard,z_some,z_drop,z_do,z_not,z_not0,pairK,forall_eq_or_imp,stays,loadOf,List.reverse_cons,List.reverse_nil,List.mem_cons,List.not_mem_nil,or_false,forall_eq,true_or,or_true,Bool.true_and,boundA,intOfA,Int.toNat_natCast,Nat.sub_zero,Nat.zero_le,hlen,h0,h1,hc,hc2,hc3,c9,c9a,hnn,hlt0,hgt,hle,hb1,z0,c10]
   exact hK _ _ (by simp only [List.length_set,hlen]) (by simp only [B3,Nat.reduceLT,Nat.reduceEqDiff,hlen])
end Go.Abs.Seat
end
