/- Part 9 of what the claim rests on. -/
import Derived.Test.YtmlpfgibpigcdaaGreatDoorFirstA
import Derived.Test.YtmlpfgibpigcdaaGreatDoorFirstB
import Derived.Test.YtmlpfgibpigcdaaGreatDoorFirstC
import Derived.Test.YtmlpfgibpigcdaaGreatDoorFirstD
import Derived.Test.YtmlpfgibpigcdaaGreatDoorFirstE
import Derived.Test.YtmlpfgibpigcdaaGreatDoorFirstF
import Derived.Test.YtmlpfgibpigcdaaGreatDoorFirstG
import Derived.Test.YtmlpfgibpigcdaaGreatDoorFirstH
section
set_option linter.unusedVariables false
set_option linter.unusedSimpArgs false
namespace Go.Abs.Seat
open Go.Proofs
def encE (v : EnvT) : List Dat := [.int .i64 v.it.k, .sl v.it.s (encTs v.it.args), .sl v.ss (v.sides.map encT)]
structure EnvH (v : EnvT) : Prop where
 it : okT v.it
 sides : ∀ t ∈ v.sides, okT t
 ss : v.sides = [] ∨ v.ss = 2
 len : v.sides.length ≤ 9223372036854775807
theorem s47 (t : KT) (hok : okT t) (H : Heap) : L 47 [.im (.agg (encT t))] H = some (.im (.bool (!rightT t 6)), H) := by
 have c33 := fun H => s33 t hok H
 unfold checkT at c33
 obtain ⟨k, s, a⟩ := t
 simp only [encT] at c33 ⊢
 rw [leq F47]
 obtain ⟨hlen, ha⟩ := enter_at (f := f47) (args := [.im (.agg [.int .i64 k, .sl s (encTs a)])]) (Nat.le_of_ble_eq_true rfl)
 have h0 := ha 0 _ rfl
 generalize enterA f47 [.im (.agg [.int .i64 k, .sl s (encTs a)])] = tm at *
 change tm.length = 6 at hlen
 have z0 : (!decide ((0 : Int) = 0)) = false := rfl
 have z20 : (!decide ((20 : Int) = 0)) = true := rfl
 cases hr : rightT (.mk k s a) 6 with
 | true =>
  rw [hr] at c33
  simp only [if_true] at c33
  simp only [f47,B0,B1,B2,List.replicate,reduceCtorEq,lenA,seval,B5,pairK,B4,stays,loadOf,endK,resA,tupA,hlen,h0,c33,z0,leave_app]
 | false =>
  rw [hr] at c33
  simp only [Bool.false_eq_true,if_false] at c33
  simp only [f47,B0,B1,B2,List.replicate,reduceCtorEq,lenA,seval,B5,pairK,B4,stays,loadOf,endK,resA,tupA,hlen,h0,c33,z20,leave_app]
def envR (v : EnvT) : Bool := (rightT v.it 6 && decide ((v.sides.length : Int) ≤ 10)) && !(v.sides.any fun t => !rightT t 6)
theorem s28 (v : EnvT) (hv : EnvH v) (H : Heap) : L 28 [.im (.agg (encE v))] H = some (.im (.bool (envR v)), H) := by
 have c47 := fun H => s47 v.it hv.it H
 have c48 := fun H => s48 v.sides v.ss hv.ss hv.len (fun t => !rightT t 6) 47 [] H (fun a ha => s47 a (hv.sides a ha) H)
 have hl : (v.sides.map encT).length = v.sides.length := List.length_map ..
 unfold envR
 obtain ⟨⟨k, s, a⟩, ss, sides⟩ := v
 simp only [encE,encT,KT.k,KT.s,KT.args] at c47 c48 hl ⊢
 rw [leq F28]
 obtain ⟨hlen, ha⟩ := enter_at (f := f28) (args := [.im (.agg [.int .i64 k, .sl s (encTs a), .sl ss (sides.map encT)])]) (Nat.le_of_ble_eq_true rfl)
 have h0 := ha 0 _ rfl
 generalize enterA f28 [.im (.agg [.int .i64 k, .sl s (encTs a), .sl ss (sides.map encT)])] = tm at *
 change tm.length = 22 at hlen
 generalize (sides.any fun t => !rightT t 6) = an at *
 cases hr : rightT (.mk k s a) 6 <;> cases hd : decide ((sides.length : Int) ≤ 10) <;>
  (simp only [hr,Bool.not_true,Bool.not_false] at c47
   simp only [f28,B0,B1,B2,List.replicate,reduceCtorEq,lenA,seval,B5,pairK,B4,stays,loadOf,endK,resA,tupA,hlen,h0,c47,c48,hl,hd,leave_app,Bool.true_and,Bool.false_and,Bool.and_false])
theorem leave_three {H M : Heap} {a b c : AV} {d d' d'' : Dat} (ha : toDat a = some d) (hb : toDat b = some d') (hc : toDat c = some d'') : leave H false (.tup [a, b, c]) (H ++ M) = (.tup [.im d, .im d', .im d''], H) := by
 unfold leave
 have e : (if (false : Bool) = true then AV.tup [a, b, c] else degrade (.tup [a, b, c])) = .tup [.im d, .im d', .im d''] := by simp [degrade, degrade1, toDat, ha, hb, hc]
 rw [e, if_pos ⟨by simp only [refsLt,refsLts,Bool.and_self], heldIn_app H M⟩, htake]
def inferX (t : NT) (v : EnvT) : KT × List Nat × Int :=
 if (showX t).2 = 0 then (if envR v = true then (match lookX v t [] with
  | .inl u => (cloneT u, [], 0)
  | .inr (p, c) => (zeroT, p, c)) else (zeroT, [], 20)) else (zeroT, [], 110)
theorem envOk {v : EnvT} (hv : EnvH v) (h : envR v = true) : EnvOk v := by
 unfold envR at h
 simp only [Bool.and_eq_true,decide_eq_true_eq,Bool.not_eq_true',List.any_eq_false] at h
 refine ⟨⟨hv.it, h.1.1⟩, fun t ht => ⟨hv.sides t ht, ?_⟩, hv.ss, by omega⟩
 have := h.2 t ht
 simpa using this
theorem fr_app {H M B : Heap} {l : Nat} {vn' vp' : AV} (f : Fr (H ++ M) B l .nils .nils vn' vp') (hl : H.length ≤ l) : ∃ X, B = H ++ X := by
 refine ⟨B.drop H.length, ?_⟩
 have hle := f.len
 rw [List.length_append] at hle
 have : B.take H.length = H := by
  apply List.ext_getElem?
  intro i
  rw [List.getElem?_take]
  split
  ·rename_i hi
   rw [f.old i (by rw [List.length_append]; omega) (by omega) (by simp [refA]) (by simp [refA]), List.getElem?_append_left hi]
  ·rename_i hi
   rw [List.getElem?_eq_none (by omega)]
 have h2 := List.take_append_drop H.length B
 rw [this] at h2
 exact h2.symm
set_option maxHeartbeats 1000000 in
theorem s10 (t : NT) (v : EnvT) (hf : fineN t) (hg : (showX t).2 = 0 → Gd 24 t ∧ tidyN t) (hv : EnvH v) (H : Heap) :
  ∃ s, L 10 [.im (.agg (encN t)), .im (.agg (encE v))] H = some (.tup [.im (.agg (encT (inferX t v).1)), .im (.sl s (rowsP (inferX t v).2.1)), .im (.int .i64 (inferX t v).2.2)], H) ∧ ((inferX t v).2.1 = [] ∨ s = 1) := by
 have c14 := fun H => s14 t hf H
 have c28 := fun H => s28 v hv H
 have hX : inferX t v = if (showX t).2 = 0 then (if envR v = true then (match lookX v t [] with
  | .inl u => (cloneT u, [], 0)
  | .inr (p, c) => (zeroT, p, c)) else (zeroT, [], 20)) else (zeroT, [], 110) := rfl
 rw [hX]
 have z0 : (!decide ((0 : Int) = 0)) = false := rfl
 have hE := encE v
 obtain ⟨op, i, txt, ⟨tk, tys, targs⟩, s, kids⟩ := t
 obtain ⟨⟨k, es, ea⟩, ss, sides⟩ := v
 have hN : encN (.mk op i txt (.mk tk tys targs) s kids) = [.str op, .int .i64 i, .str txt, .int .i64 tk, .sl tys (encTs targs), .sl s (encNs kids)] := by simp only [encN]
 have hE : encE ⟨.mk k es ea, ss, sides⟩ = [.int .i64 k, .sl es (encTs ea), .sl ss (sides.map encT)] := rfl
 by_cases hs : (showX (.mk op i txt (.mk tk tys targs) s kids)).2 = 0
 ·rw [if_pos hs]
  rw [hs] at c14
  cases he : envR ⟨.mk k es ea, ss, sides⟩ with
  | false =>
   rw [if_neg Bool.false_ne_true]
   refine ⟨0, ?_, .inl rfl⟩
   rw [he] at c28
   simp only [hN,hE] at c14 c28 ⊢
   rw [leq F10]
   obtain ⟨hlen, ha⟩ := enter_at (f := f10) (args := [.im (.agg [.str op, .int .i64 i, .str txt, .int .i64 tk, .sl tys (encTs targs), .sl s (encNs kids)]), .im (.agg [.int .i64 k, .sl es (encTs ea), .sl ss (sides.map encT)])]) (Nat.le_of_ble_eq_true rfl)
   have h0 := ha 0 _ rfl
   have h1 := ha 1 _ rfl
   generalize enterA f10 [.im (.agg [.str op, .int .i64 i, .str txt, .int .i64 tk, .sl tys (encTs targs), .sl s (encNs kids)]), .im (.agg [.int .i64 k, .sl es (encTs ea), .sl ss (sides.map encT)])] = tm at *
   change tm.length = 48 at hlen
   have hlv : ∀ M : Heap, leave H false (.tup [.agg [.im (.int .i64 0), .nils], .nils, .im (.int .i64 20)]) (H ++ M) = (.tup [.im (.agg [.int .i64 0, .sl 0 []]), .im (.sl 0 []), .im (.int .i64 20)], H) := fun M => leave_three rfl rfl rfl
   simp only [f10,B0,B1,B2,List.replicate,reduceCtorEq,lenA,seval,B5,pairK,B4,stays,loadOf,endK,resA,tupA,hlen,h0,h1,z0,c14,c28,hlv,zeroE]
   rfl
  | true =>
   rw [if_pos rfl]
   have hvo := envOk hv he
   obtain ⟨hgd, htd⟩ := hg hs
   have hlt : (H ++ [NOs op i txt (.mk tk tys targs) s kids, .obj none [[.im (.int .i64 k), .im (.sl es (encTs ea)), .im (.sl ss (sides.map encT))]], ZO, lookO ⟨.mk k es ea, ss, sides⟩ .nils .nils .nils 0])[H.length + 3]? = some (lookO ⟨.mk k es ea, ss, sides⟩ .nils .nils .nils 0) := by rw [hget 3]; rfl
   have hA : LkAt (H ++ [NOs op i txt (.mk tk tys targs) s kids, .obj none [[.im (.int .i64 k), .im (.sl es (encTs ea)), .im (.sl ss (sides.map encT))]], ZO, lookO ⟨.mk k es ea, ss, sides⟩ .nils .nils .nils 0]) (H.length + 3) ⟨.mk k es ea, ss, sides⟩ [] [] none .nils .nils :=
    ⟨⟨.nils, 0, hlt, rfl, rfl⟩, .inl ⟨rfl, rfl⟩, .inl ⟨rfl, rfl⟩, by simp [refA], by simp [refA], by simp [refA]⟩
   obtain ⟨B, vn1, vp1, t', c29, kB, fB, ht, hwt⟩ := s29 _ hvo 24 _ hgd htd [] (by simp) (by simp) [] (by simp) _ _ _ _ hA
   have hrt := fun u hu => look_rt _ hvo _ [] u htd (by simp) hu
   obtain ⟨X, rfl⟩ := fr_app fB (by omega)
   have old : ∀ j, j < 3 → X[j]? = ([NOs op i txt (.mk tk tys targs) s kids, .obj none [[.im (.int .i64 k), .im (.sl es (encTs ea)), .im (.sl ss (sides.map encT))]], ZO, lookO ⟨.mk k es ea, ss, sides⟩ .nils .nils .nils 0] : Heap)[j]? := fun j hj => by
    have := fB.old (H.length + j) (by simp; omega) (by omega) (by simp [refA]) (by simp [refA])
    rwa [hget j, hget j] at this
   have x0 := old 0 (by omega)
   have x2 := old 2 (by omega)
   simp only [List.getElem?_cons_zero,List.getElem?_cons_succ] at x0 x2
   have hXl : 4 ≤ X.length := by have := fB.len; simp at this; omega
   generalize lookX _ _ [] = r at *
   obtain ⟨va, e, ho, hfa⟩ := kB.obj
   rw [hget 3] at ho
   have hXS : ∀ o : HO, (X.set 2 o)[2]? = some o := fun o => List.getElem?_set_self (by omega)
   have ho' : ∀ o : HO, (X.set 2 o)[3]? = some _ := fun o => by rw [List.getElem?_set_ne (by decide)]; exact ho
   have lset : ∀ (a b : HO), (X.set 2 a).set 2 b = X.set 2 b := fun a b => List.set_set ..
   rw [he] at c28
   obtain ⟨tk1, ts1, ta1⟩ := t'
   cases r with
   | inr x =>
    obtain ⟨p, c⟩ := x
    obtain ⟨rfl, hc, s', rfl, hps⟩ := hfa
    have zc : (!decide (e = 0)) = true := by rw [decide_eq_false hc]; rfl
    refine ⟨s', ?_, hps⟩
    simp only [hN,hE,NOs,ZO,lookO,KT.k,KT.s,KT.args,encT] at c14 c28 c29 x0 x2 ho ho' ⊢
    rw [leq F10]
    obtain ⟨hlen, ha⟩ := enter_at (f := f10) (args := [.im (.agg [.str op, .int .i64 i, .str txt, .int .i64 tk, .sl tys (encTs targs), .sl s (encNs kids)]), .im (.agg [.int .i64 k, .sl es (encTs ea), .sl ss (sides.map encT)])]) (Nat.le_of_ble_eq_true rfl)
    have h0 := ha 0 _ rfl
    have h1 := ha 1 _ rfl
    generalize enterA f10 [.im (.agg [.str op, .int .i64 i, .str txt, .int .i64 tk, .sl tys (encTs targs), .sl s (encNs kids)]), .im (.agg [.int .i64 k, .sl es (encTs ea), .sl ss (sides.map encT)])] = tm at *
    change tm.length = 48 at hlen
    have hlv : ∀ M : Heap, leave H false (.tup [.agg [.im (.int .i64 0), .nils], .im (.sl s' (rowsP p)), .im (.int .i64 e)]) (H ++ M) = (.tup [.im (.agg [.int .i64 0, .sl 0 []]), .im (.sl s' (rowsP p)), .im (.int .i64 e)], H) := fun M => leave_three rfl rfl rfl
    simp only [f10,B0,B1,B2,List.replicate,reduceCtorEq,lenA,seval,B5,pairK,B4,stays,loadOf,endK,resA,tupA,hlen,h0,h1,z0,zc,c14,c28,c29,x0,x2,ho,ho',hXS,lset,hlv,zeroE]
   | inl u =>
    obtain ⟨rfl, rfl⟩ := hfa
    have := ht u rfl
    subst this
    refine ⟨0, ?_, .inl rfl⟩
    have hu := hrt _ rfl
    have c30 := fun H => s30 tk1 ts1 ta1 hu.1 H
    unfold checkT at c30
    rw [hu.2] at c30
    simp only [if_true] at c30
    simp only [cloneT] at c30 ⊢
    simp only [hN,hE,NOs,ZO,lookO,KT.k,KT.s,KT.args,encT] at c14 c28 c29 c30 x0 x2 ho ho' ⊢
    rw [leq F10]
    obtain ⟨hlen, ha⟩ := enter_at (f := f10) (args := [.im (.agg [.str op, .int .i64 i, .str txt, .int .i64 tk, .sl tys (encTs targs), .sl s (encNs kids)]), .im (.agg [.int .i64 k, .sl es (encTs ea), .sl ss (sides.map encT)])]) (Nat.le_of_ble_eq_true rfl)
    have h0 := ha 0 _ rfl
    have h1 := ha 1 _ rfl
    generalize enterA f10 [.im (.agg [.str op, .int .i64 i, .str txt, .int .i64 tk, .sl tys (encTs targs), .sl s (encNs kids)]), .im (.agg [.int .i64 k, .sl es (encTs ea), .sl ss (sides.map encT)])] = tm at *
    change tm.length = 48 at hlen
    have hlv : ∀ (d : List Dat) (M : Heap), leave H false (.tup [.im (.agg d), .nils, .im (.int .i64 0)]) (H ++ M) = (.tup [.im (.agg d), .im (.sl 0 []), .im (.int .i64 0)], H) := fun d M => leave_three rfl rfl rfl
    simp only [f10,B0,B1,B2,List.replicate,reduceCtorEq,lenA,seval,B5,pairK,B4,stays,loadOf,endK,resA,tupA,hlen,h0,h1,z0,c14,c28,c29,c30,x0,x2,ho,ho',hXS,lset,hlv,zeroE]
    rfl
 ·rw [if_neg hs]
  refine ⟨0, ?_, .inl rfl⟩
  have zn : (!decide ((showX (.mk op i txt (.mk tk tys targs) s kids)).2 = 0)) = true := by rw [decide_eq_false hs]; rfl
  simp only [hN,hE] at c14 c28 ⊢
  rw [leq F10]
  obtain ⟨hlen, ha⟩ := enter_at (f := f10) (args := [.im (.agg [.str op, .int .i64 i, .str txt, .int .i64 tk, .sl tys (encTs targs), .sl s (encNs kids)]), .im (.agg [.int .i64 k, .sl es (encTs ea), .sl ss (sides.map encT)])]) (Nat.le_of_ble_eq_true rfl)
  have h0 := ha 0 _ rfl
  have h1 := ha 1 _ rfl
  generalize enterA f10 [.im (.agg [.str op, .int .i64 i, .str txt, .int .i64 tk, .sl tys (encTs targs), .sl s (encNs kids)]), .im (.agg [.int .i64 k, .sl es (encTs ea), .sl ss (sides.map encT)])] = tm at *
  change tm.length = 48 at hlen
  have hlv : ∀ M : Heap, leave H false (.tup [.agg [.im (.int .i64 0), .nils], .nils, .im (.int .i64 110)]) (H ++ M) = (.tup [.im (.agg [.int .i64 0, .sl 0 []]), .im (.sl 0 []), .im (.int .i64 110)], H) := fun M => leave_three rfl rfl rfl
  simp only [f10,B0,B1,B2,List.replicate,reduceCtorEq,lenA,seval,B5,pairK,B4,stays,loadOf,endK,resA,tupA,hlen,h0,h1,zn,c14,c28,hlv,zeroE]
  rfl
end Go.Abs.Seat
end
section
set_option linter.unusedVariables false
set_option linter.unusedSimpArgs false
namespace Go.Abs.Seat
open Go.Proofs
theorem l8 (sides : List KT) (ss : Nat) (hs : sides = [] ∨ ss = 2) (hok : ∀ t ∈ sides, okT t) (hn : sides.length ≤ 9223372036854775807) (H : Heap) (a b : HO) :
  ∀ (m i : Nat), i + m = sides.length → ∀ (n : Int), 0 ≤ n → n ≤ 1000000 → ∀ (tm : List AV) (J : Heap), tm.length = 28 → tm.getD 5 undefA = .ptr (H.length + 2) 0 0 → tm.getD 18 undefA = .im (.sl ss (sides.map encT)) → tm.getD 19 undefA = .im (.int .i64 (sides.length : Int)) → tm.getD 20 undefA = .im (.int .i64 (i : Int)) →
  ∃ e tm' J', Λ c8_0 tm (H ++ a :: b :: numO n :: J) = some (e, tm', H ++ J') ∧ tm'.length = 28 ∧ ((e = .exit 0 ∧ (smallTs (sides.drop i) n 30).1 = true) ∨ (e = .ret ∧ (smallTs (sides.drop i) n 30).1 = false ∧ tm'.getD 4 undefA = .im (.bool false)))
 | 0, i, hi, n, hn0, hn1, tm, J, hlen, h5, h18, h19, h20 => by
  have e : sides.drop i = [] := by rw [List.drop_eq_nil_iff]; omega
  have hc : decide ((i : Int) < (sides.length : Int)) = false := by simp; omega
  rw [e, l8_0]
  simp only [b8_0,B0,B1,B2,List.replicate,reduceCtorEq,lenA,seval,hlen,h19,h20,hc]
  exact ⟨_, _, _, rfl, by simp only [List.length_set,hlen], .inl ⟨rfl, rfl⟩⟩
 | m + 1, i, hi, n, hn0, hn1, tm, J, hlen, h5, h18, h19, h20 => by
  have hlt : i < sides.length := by omega
  obtain ⟨w, hwi⟩ : ∃ w, sides[i]? = some w := ⟨_, List.getElem?_eq_getElem hlt⟩
  have e : sides.drop i = w :: sides.drop (i + 1) := by
   rw [List.drop_eq_getElem_cons hlt]
   congr 1
   rw [List.getElem?_eq_getElem hlt] at hwi
   exact Option.some.inj hwi
  have hss : ss = 2 := by
   rcases hs with h | h
   ·subst h; simp at hlt
   ·exact h
  subst hss
  have hc : decide ((i : Int) < (sides.length : Int)) = true := by simp; omega
  have hml : (sides.map encT).length = sides.length := List.length_map ..
  have hix := idx_nat (n := sides.length) (i := i) hlt
  have hget' : (sides.map encT)[i]? = some (encT w) := by rw [List.getElem?_map, hwi]; rfl
  have hwr := wrap_nat (i := i) (by omega)
  have hA2 : ∀ M : Heap, (H ++ a :: b :: numO n :: M)[H.length + 2]? = some (numO n) := fun M => by rw [hget 2]; rfl
  have hS2 : ∀ (M : Heap) (n' : Int), (H ++ a :: b :: numO n :: M).set (H.length + 2) (numO n') = H ++ a :: b :: numO n' :: M := fun M n' => by rw [hset 2]; rfl
  have c26 := fun M => s26 w (hok w (List.mem_of_getElem? hwi)) n 30 hn0 hn1 (by decide) (by decide) (H.length + 2) (H ++ a :: b :: numO n :: M) (hA2 M)
  have hj : (H ++ a :: b :: numO n :: J).length = H.length + 3 + J.length := by simp; omega
  have hap : ∀ o : HO, (H ++ a :: b :: numO n :: J) ++ [o] = H ++ a :: b :: numO n :: (J ++ [o]) := fun o => by simp
  have hgl : ∀ o : HO, (H ++ a :: b :: numO n :: (J ++ [o]))[H.length + 3 + J.length]? = some o := fun o => by
   rw [show H.length + 3 + J.length = H.length + (3 + J.length) by omega, hget (3 + J.length), show 3 + J.length = J.length + 3 by omega]
   simp
  have hsl : ∀ o o' : HO, (H ++ a :: b :: numO n :: (J ++ [o])).set (H.length + 3 + J.length) o' = H ++ a :: b :: numO n :: (J ++ [o']) := fun o o' => by
   rw [show H.length + 3 + J.length = H.length + (3 + J.length) by omega, hset (3 + J.length), show 3 + J.length = J.length + 3 by omega]
   simp [List.set_append_right]
  obtain ⟨wk, ws, wa⟩ := w
  have hleft := smallT_left (.mk wk ws wa) n 30 hn0
  have hst : smallTs (KT.mk wk ws wa :: sides.drop (i + 1)) n 30 = if (smallT (.mk wk ws wa) n 30).1 = true then smallTs (sides.drop (i + 1)) (smallT (.mk wk ws wa) n 30).2 30 else (false, (smallT (.mk wk ws wa) n 30).2) := rfl
  rw [e, l8_0]
  simp only [encT] at c26 hget'
  rcases Bool.eq_false_or_eq_true (smallT (.mk wk ws wa) n 30).1 with hr | hr
  rotate_left
  ·rw [if_neg (show ¬ (smallT (.mk wk ws wa) n 30).1 = true by rw [hr]; exact Bool.false_ne_true)] at hst
   rw [hst]
   simp only [hr] at c26
   simp only [b8_0,B0,B1,B2,List.replicate,reduceCtorEq,lenA,seval,hlen,h5,h18,h19,h20,hc,hml,hix,hget',hj,hap,hgl,hsl,c26,hS2]
   exact ⟨_, _, _, rfl, by simp only [List.length_set,hlen], .inr ⟨rfl, by simp only [B3,seval,hlen]⟩⟩
  ·rw [if_pos hr] at hst
   rw [hst]
   simp only [hr] at c26
   have key := l8 sides 2 hs hok hn H a b m (i + 1) (by omega) (smallT (.mk wk ws wa) n 30).2 (hleft.2.2 hr) (by omega)
   simp only [b8_0,B0,B1,B2,List.replicate,reduceCtorEq,lenA,seval,hlen,h5,h18,h19,h20,hc,hml,hix,hget',hj,hap,hgl,hsl,c26,hS2,hwr]
   refine key _ _ ?_ ?_ ?_ ?_ ?_
   all_goals simp only [B3,seval,hlen,h5,h18,h19]
def smallE (t : NT) (v : EnvT) : Bool :=
 if (fewN t 5000 60).1 = true then (if (smallT v.it (fewN t 5000 60).2 30).1 = true then (smallTs v.sides (smallT v.it (fewN t 5000 60).2 30).2 30).1 else false) else false
theorem s8 (t : NT) (v : EnvT) (hok : handN t) (hv : EnvH v) (H : Heap) : L 8 [.im (.agg (encN t)), .im (.agg (encE v))] H = some (.im (.bool (smallE t v)), H) := by
 have hX : smallE t v = if (fewN t 5000 60).1 = true then (if (smallT v.it (fewN t 5000 60).2 30).1 = true then (smallTs v.sides (smallT v.it (fewN t 5000 60).2 30).2 30).1 else false) else false := rfl
 rw [hX]
 have l1 := fewN_left t 5000 60 (by decide)
 have c25 := fun idl H => s25 t hok 5000 60 (by decide) (by decide) (by decide) (by decide) idl H
 have c26 := fun h0 h1 idl H => s26 v.it hv.it (fewN t 5000 60).2 30 h0 h1 (by decide) (by decide) idl H
 obtain ⟨op, ni, txt, ⟨tk, tys, targs⟩, s, kids⟩ := t
 obtain ⟨⟨k, es, ea⟩, ss, sides⟩ := v
 have hN : encN (.mk op ni txt (.mk tk tys targs) s kids) = [.str op, .int .i64 ni, .str txt, .int .i64 tk, .sl tys (encTs targs), .sl s (encNs kids)] := by simp only [encN]
 have hE : encE ⟨.mk k es ea, ss, sides⟩ = [.int .i64 k, .sl es (encTs ea), .sl ss (sides.map encT)] := rfl
 have hml : (sides.map encT).length = sides.length := List.length_map ..
 simp only [hN,hE,encT] at c25 c26 ⊢
 obtain ⟨a, ha⟩ : ∃ a : HO, a = .obj none [[.im (.str op), .im (.int .i64 ni), .im (.str txt), .im (.int .i64 tk), .im (.sl tys (encTs targs)), .im (.sl s (encNs kids))]] := ⟨_, rfl⟩
 obtain ⟨b, hb⟩ : ∃ b : HO, b = .obj none [[.im (.int .i64 k), .im (.sl es (encTs ea)), .im (.sl ss (sides.map encT))]] := ⟨_, rfl⟩
 have hnum : ∀ n, HO.obj none [[.im (.int .i64 n)]] = numO n := fun _ => rfl
 have c25' := c25 (H.length + 2) (H ++ [a, b, numO 5000]) (by rw [hget 2]; rfl)
 have hS : ∀ n n', (H ++ [a, b, numO n]).set (H.length + 2) (numO n') = H ++ [a, b, numO n'] := fun n n' => by rw [hset 2]; rfl
 rw [hS] at c25'
 rw [leq F8]
 obtain ⟨hlen, hx⟩ := enter_at (f := f8) (args := [.im (.agg [.str op, .int .i64 ni, .str txt, .int .i64 tk, .sl tys (encTs targs), .sl s (encNs kids)]), .im (.agg [.int .i64 k, .sl es (encTs ea), .sl ss (sides.map encT)])]) (Nat.le_of_ble_eq_true rfl)
 have h0 := hx 0 _ rfl
 have h1 := hx 1 _ rfl
 generalize enterA f8 [.im (.agg [.str op, .int .i64 ni, .str txt, .int .i64 tk, .sl tys (encTs targs), .sl s (encNs kids)]), .im (.agg [.int .i64 k, .sl es (encTs ea), .sl ss (sides.map encT)])] = tm at *
 change tm.length = 28 at hlen
 generalize fewN (.mk op ni txt (.mk tk tys targs) s kids) 5000 60 = r1 at *
 obtain ⟨b1, n1⟩ := r1
 rw [ha, hb] at c25'
 unfold numO at c25'
 cases b1 with
 | false =>
  rw [if_neg Bool.false_ne_true]
  simp only [f8,B0,B1,B2,List.replicate,reduceCtorEq,lenA,seval,B5,pairK,B4,stays,loadOf,endK,resA,tupA,hlen,h0,h1,c25',leave_app]
 | true =>
  rw [if_pos rfl]
  have c26' := c26 (l1.2.2 rfl) (by have := l1.2.1; simp at this ⊢; omega) (H.length + 2) (H ++ [a, b, numO n1]) (by rw [hget 2]; rfl)
  have l2 := smallT_left (.mk k es ea) n1 30 (l1.2.2 rfl)
  have l12 := l1.2.1
  simp only at l12
  rw [hS] at c26'
  generalize smallT (.mk k es ea) n1 30 = r2 at *
  obtain ⟨b2, n2⟩ := r2
  rw [ha, hb] at c26'
  unfold numO at c26'
  cases b2 with
  | false =>
   rw [if_neg Bool.false_ne_true]
   simp only [f8,B0,B1,B2,List.replicate,reduceCtorEq,lenA,seval,B5,pairK,B4,stays,loadOf,endK,resA,tupA,hlen,h0,h1,c25',c26',leave_app]
  | true =>
   rw [if_pos rfl]
   have key := fun tm => l8 sides ss hv.ss hv.sides hv.len H a b sides.length 0 (by omega) n2 (l2.2.2 rfl) (by have := l2.2.1; simp only at this; omega) tm []
   rw [ha, hb] at key
   unfold numO at key
   rw [List.drop_zero] at key
   have key := fun tm h1 h2 h3 h4 h5 => (show ∃ e tm' H', Λ c8_0 tm _ = some (e, tm', H') ∧ (tm'.length = 28 ∧ (∃ J', H' = H ++ J') ∧ ((e = .exit 0 ∧ (smallTs sides n2 30).1 = true) ∨ (e = .ret ∧ (smallTs sides n2 30).1 = false ∧ tm'.getD 4 undefA = .im (.bool false)))) from by
    obtain ⟨e, tm', J', x1, x2, x3⟩ := key tm h1 h2 h3 h4 h5
    exact ⟨e, tm', _, x1, x2, ⟨J', rfl⟩, x3⟩)
   simp only [f8,e8_0,B0,B1,B2,List.replicate,reduceCtorEq,lenA,seval,B5,pairK,B4,stays,loadOf,endK,resA,tupA,hlen,h0,h1,c25',c26',hml]
   generalize hr : thenL (Λ c8_0 _ _) _ = r
   refine Exists.elim (thenL_inv hr (key _ (by simp only [List.length_set,hlen]) (by simp only [B3,seval,hlen]) (by simp only [B3,seval,hlen]) (by simp only [B3,seval,hlen]) (by simp only [B3,seval,hlen]; first | done | rfl))) ?_
   clear hr key
   rintro e' ⟨tm', H', ⟨hl', ⟨J', rfl⟩, hm⟩, rfl⟩
   rcases hm with ⟨rfl, hz⟩ | ⟨rfl, hz, g4⟩
   ·rw [hz]
    simp only [B0,B1,B2,List.replicate,reduceCtorEq,lenA,seval,B5,pairK,B4,stays,loadOf,endK,resA,tupA,hl',leave_app]
   ·rw [hz]
    simp only [B0,B1,B2,List.replicate,reduceCtorEq,lenA,seval,B5,pairK,B4,stays,loadOf,endK,resA,tupA,hl',g4,leave_app]
end Go.Abs.Seat
end
section
set_option linter.unusedVariables false
set_option linter.unusedSimpArgs false
namespace Go.Abs.Seat
open Go.Proofs
theorem gath_swap {ty : TypeId} {s : Nat} {v : AV} {A B J : Heap} {es : List (List Dat)} (h : Gath ty s A.length v (A ++ J) es) (hl : A.length = B.length) : Gath ty s B.length v (B ++ J) es := by
 rcases h with h | ⟨h1, tok, h2, h3, h4⟩
 ·exact .inl h
 ·refine .inr ⟨h1, tok, by omega, h3, ?_⟩
  rw [List.getElem?_append_right h2] at h4
  rw [List.getElem?_append_right (by omega), ← hl]
  exact h4
def OE (k : Int) (s : Nat) (ta : List KT) (v : AV) : HO := .obj none [[.im (.int .i64 k), .im (.sl s (encTs ta)), v]]
theorem l12 (sides : List KT) (ss : Nat) (hs : sides = [] ∨ ss = 2) (hc : ∀ t ∈ sides, ∀ H, L 31 [.im (.agg (encT t))] H = some (.im (.agg (encT (cloneT t))), H)) (hn : sides.length ≤ 1000000) (H : Heap) (a b : HO) (k : Int) (s1 : Nat) (ta : List KT) :
  ∀ (m i : Nat), i + m = sides.length → ∀ (tm : List AV) (J : Heap) (v : AV), Gath 34 2 (H.length + 3) v (H ++ a :: b :: OE k s1 ta v :: J) ((sides.take i).map fun t => encT (cloneT t)) → tm.length = 26 → tm.getD 2 undefA = .ptr (H.length + 1) 0 0 → tm.getD 3 undefA = .ptr (H.length + 2) 0 0 → tm.getD 11 undefA = .im (.sl ss (sides.map encT)) → tm.getD 12 undefA = .im (.int .i64 (sides.length : Int)) → tm.getD 13 undefA = .im (.int .i64 (i : Int)) →
  ∃ e tm' A', Λ c12_0 tm (H ++ a :: b :: OE k s1 ta v :: J) = some (e, tm', A') ∧ (tm'.length = 26 ∧ e = .exit 0 ∧ tm'.getD 2 undefA = .ptr (H.length + 1) 0 0 ∧ tm'.getD 3 undefA = .ptr (H.length + 2) 0 0 ∧ ∃ J' v', A' = H ++ a :: b :: OE k s1 ta v' :: J' ∧ Gath 34 2 (H.length + 3) v' (H ++ a :: b :: OE k s1 ta v' :: J') (sides.map fun t => encT (cloneT t)))
 | 0, i, hi, tm, J, v, hG, hlen, h2, h3, h11, h12, h13 => by
  have hc' : decide ((i : Int) < (sides.length : Int)) = false := decide_eq_false (by omega)
  have e : sides.take i = sides := List.take_of_length_le (by omega)
  rw [e] at hG
  rw [l12_0]
  simp only [b12_0,B0,B1,B2,List.replicate,reduceCtorEq,lenA,seval,hlen,h12,h13,hc']
  refine ⟨_, _, _, rfl, by simp only [List.length_set,hlen], rfl, by simp only [B3,seval,hlen,h2], by simp only [B3,seval,hlen,h3], J, v, ?_, hG⟩
  rfl
 | m + 1, i, hi, tm, J, v, hG, hlen, h2, h3, h11, h12, h13 => by
  have hlt : i < sides.length := by omega
  obtain ⟨w, hwi⟩ : ∃ w, sides[i]? = some w := ⟨_, List.getElem?_eq_getElem hlt⟩
  have hss : ss = 2 := by
   rcases hs with h | h
   ·subst h; simp at hlt
   ·exact h
  subst hss
  have hc' : decide ((i : Int) < (sides.length : Int)) = true := decide_eq_true (by omega)
  have hml : (sides.map encT).length = sides.length := List.length_map ..
  have hix := idx_nat (n := sides.length) (i := i) hlt
  have hgw : (sides.map encT)[i]? = some (encT w) := by rw [List.getElem?_map, hwi]; rfl
  have hcall := hc w (List.mem_of_getElem? hwi)
  have hwr := wrap_nat (i := i) (by omega)
  have fl : ∀ (o : HO) (J : Heap), (H ++ [a, b, o]) ++ J = H ++ (a :: b :: o :: J) := fun o J => by simp
  have hL3 : ∀ o : HO, (H ++ [a, b, o]).length = H.length + 3 := fun o => by simp
  have hG2 := hG.more [TyO w]
  rw [← fl, ← hL3 (OE k s1 ta v), List.append_assoc] at hG2
  obtain ⟨v', M', hap, hG', _, _⟩ := hG2.push (bytes := 32) (encT (cloneT w)) (by simp; omega) (by decide)
  have htk : (sides.take (i + 1)).map (fun t => encT (cloneT t)) = (sides.take i).map (fun t => encT (cloneT t)) ++ [encT (cloneT w)] := by
   rw [List.take_add_one, hwi]; simp
  rw [← htk] at hG'
  have hv' : ∃ es tok, v' = .asl 2 es tok := by
   rcases hG' with ⟨h, _⟩ | ⟨_, tok, _, h, _⟩
   ·rw [htk] at h; simp at h
   ·exact ⟨_, tok, h⟩
  have hGn := gath_swap (B := H ++ [a, b, OE k s1 ta v']) hG' (by simp)
  rw [hL3, fl] at hGn
  have key := l12 sides 2 hs hc hn H a b k s1 ta m (i + 1) (by omega)
  have hO : ∀ (o : HO) (J : Heap), (H ++ (a :: b :: o :: J))[H.length + 2]? = some o := fun o J => by rw [hget 2]; rfl
  have hOs : ∀ (o o' : HO) (J : Heap), (H ++ (a :: b :: o :: J)).set (H.length + 2) o' = H ++ (a :: b :: o' :: J) := fun o o' J => by rw [hset 2]; rfl
  have hj : ∀ o : HO, (H ++ (a :: b :: o :: J)).length = H.length + 3 + J.length := fun o => by simp; omega
  have hap' : ∀ o o' : HO, (H ++ (a :: b :: o :: J)) ++ [o'] = H ++ (a :: b :: o :: (J ++ [o'])) := fun o o' => by simp
  have hgl : ∀ o o' : HO, (H ++ (a :: b :: o' :: (J ++ [o])))[H.length + 3 + J.length]? = some o := fun o o' => by
   rw [show H.length + 3 + J.length = H.length + (3 + J.length) by omega, hget (3 + J.length), show 3 + J.length = J.length + 3 by omega]
   simp
  have hsl : ∀ o o' o2 : HO, (H ++ (a :: b :: o2 :: (J ++ [o]))).set (H.length + 3 + J.length) o' = H ++ (a :: b :: o2 :: (J ++ [o'])) := fun o o' o2 => by
   rw [show H.length + 3 + J.length = H.length + (3 + J.length) by omega, hset (3 + J.length), show 3 + J.length = J.length + 3 by omega]
   simp [List.set_append_right]
  have key9 : ∀ tm : List AV, tm.length = 26 → tm.getD 2 undefA = .ptr (H.length + 1) 0 0 → tm.getD 3 undefA = .ptr (H.length + 2) 0 0 → tm.getD 11 undefA = .im (.sl 2 (sides.map encT)) → tm.getD 12 undefA = .im (.int .i64 (sides.length : Int)) → tm.getD 13 undefA = .im (.int .i64 ((i + 1 : Nat) : Int)) → _ := fun tm a1 a2 a3 a4 a5 a6 => key tm M' v' hGn a1 a2 a3 a4 a5 a6
  have key' := fun tm => key tm M' v' hGn
  clear key9 key
  obtain ⟨es', tok', rfl⟩ := hv'
  rw [fl] at hap
  rw [fl] at hap
  obtain ⟨wk, ws, wa⟩ := w
  generalize cloneT (.mk wk ws wa) = cw at *
  obtain ⟨ck, cs, ca⟩ := cw
  have td : toDatss [[AV.im (.int .i64 ck), .im (.sl cs (encTs ca))]] = some [[.int .i64 ck, .sl cs (encTs ca)]] := rfl
  simp only [encT] at hcall hgw hap
  unfold OE TyO at *
  simp only [KT.k,KT.s,KT.args] at hap
  rw [l12_0]
  simp only [b12_0,B0,B1,B2,List.replicate,reduceCtorEq,lenA,seval,B5,pairK,B4,stays,loadOf,hlen,h2,h3,h11,h12,h13,hc',hml,hix,hgw,hcall,hwr,hO,hOs,hj,hap',hgl,hsl,td,elems,hap]
  refine key' _ ?_ ?_ ?_ ?_ ?_ ?_
  all_goals simp only [B3,seval,hlen,h2,h3,h11,h12]
def envC (v : EnvT) : EnvT := ⟨cloneT v.it, if v.sides.length = 0 then 0 else 2, v.sides.map cloneT⟩
theorem s12 (v : EnvT) (hv : EnvH v) (hs : slim v.it) (hss : ∀ t ∈ v.sides, slim t) (hn : v.sides.length ≤ 1000000) (H : Heap) : L 12 [.im (.agg (encE v))] H = some (.im (.agg (encE (envC v))), H) := by
 have c31 := fun H => s31 v.it hv.it hs H
 have hC : envC v = ⟨cloneT v.it, if v.sides.length = 0 then 0 else 2, v.sides.map cloneT⟩ := rfl
 rw [hC]
 have hcs : ∀ t ∈ v.sides, ∀ H, L 31 [.im (.agg (encT t))] H = some (.im (.agg (encT (cloneT t))), H) := fun t ht H => s31 t (hv.sides t ht) (hss t ht) H
 obtain ⟨⟨k, es, ea⟩, ss, sides⟩ := v
 have hE : encE ⟨.mk k es ea, ss, sides⟩ = [.int .i64 k, .sl es (encTs ea), .sl ss (sides.map encT)] := rfl
 have hml : (sides.map encT).length = sides.length := List.length_map ..
 generalize cloneT (.mk k es ea) = ct at *
 obtain ⟨k2, s2, a2⟩ := ct
 have key := l12 sides ss hv.ss hcs hn H (.obj none [[.im (.int .i64 k), .im (.sl es (encTs ea)), .im (.sl ss (sides.map encT))]]) (.obj none [[.im (.int .i64 0), .nils, .nils]]) k2 s2 a2 sides.length 0 (by omega)
 have key := fun tm => key tm [] .nils (.inl ⟨by simp, rfl⟩)
 unfold OE at key
 simp only [hE,encT,encE,KT.k,KT.s,KT.args] at c31 ⊢
 rw [leq F12]
 obtain ⟨hlen, hx⟩ := enter_at (f := f12) (args := [.im (.agg [.int .i64 k, .sl es (encTs ea), .sl ss (sides.map encT)])]) (Nat.le_of_ble_eq_true rfl)
 have h0 := hx 0 _ rfl
 generalize enterA f12 [.im (.agg [.int .i64 k, .sl es (encTs ea), .sl ss (sides.map encT)])] = tm at *
 change tm.length = 26 at hlen
 simp only [f12,e12_0,B0,B1,B2,List.replicate,reduceCtorEq,lenA,seval,hlen,h0,c31,hml]
 generalize hr : thenL (Λ c12_0 _ _) _ = r
 refine Exists.elim (thenL_inv hr (key _ ?_ ?_ ?_ ?_ ?_ ?_)) ?_
 iterate 5 simp only [B3,seval,hlen]
 ·simp only [B3,seval,hlen]; first | done | rfl
 clear hr key
 rintro e ⟨tm', A', ⟨hl', rfl, g2, g3, J, v', rfl, hG⟩, rfl⟩
 rcases hG with ⟨hes, rfl⟩ | ⟨hes, tok, _, rfl, _⟩
 ·have ha0 : sides = [] := by simpa using hes
  subst ha0
  have hlv := fun L' => leave_one (H := H) (M := L') (show toDat (.agg [.im (.int .i64 k2), .im (.sl s2 (encTs a2)), .nils]) = some (.agg [.int .i64 k2, .sl s2 (encTs a2), .sl 0 []]) from rfl)
  simp only [B0,B1,B2,List.replicate,reduceCtorEq,lenA,seval,B5,pairK,B4,stays,loadOf,endK,resA,tupA,hl',g2,g3,hlv]
 ·have ha0 : sides.length ≠ 0 := by simpa using hes
  rw [if_neg ha0]
  have hm : (sides.map cloneT).map encT = sides.map fun t => encT (cloneT t) := by rw [List.map_map]; rfl
  rw [hm]
  have hlv := fun L' => leave_one (H := H) (M := L') (show toDat (.agg [.im (.int .i64 k2), .im (.sl s2 (encTs a2)), .asl 2 (sides.map fun t => encT (cloneT t)) tok]) = some (.agg [.int .i64 k2, .sl s2 (encTs a2), .sl 2 (sides.map fun t => encT (cloneT t))]) from rfl)
  simp only [B0,B1,B2,List.replicate,reduceCtorEq,lenA,seval,B5,pairK,B4,stays,loadOf,endK,resA,tupA,hl',g2,g3,hlv]
end Go.Abs.Seat
end
section
set_option linter.unusedVariables false
set_option linter.unusedSimpArgs false
namespace Go.Abs.Seat
open Go.Proofs
theorem nodeW_bad (d : Nat) (t : NT) (acc : List UInt8) : nodeW d t (acc, true) = (acc, true) := by
 cases d with
 | zero => rfl
 | succ d =>
  obtain ⟨op, i, txt, ty, s, kids⟩ := t
  simp only [nodeW]
  rw [if_pos (by simp)]
theorem kidsW_good (d : Nat) (ps : List UInt8) : ∀ (kids : List NT) (i : Nat) (st : WSt), (kidsW (nodeW d) ps i kids st).2 = false → st.2 = false ∧ ∀ k ∈ kids, ∃ acc, (nodeW d k (acc, false)).2 = false
 | [], i, st, h => ⟨h, by simp⟩
 | k :: ks, i, st, h => by
  simp only [kidsW] at h
  obtain ⟨h1, h2⟩ := kidsW_good d ps ks (i + 1) _ h
  have hb : (st.2 || (decide (ps[i]? = some 110) && !isNam k)) = false := by
   cases hx : (st.2 || (decide (ps[i]? = some 110) && !isNam k)) with
   | false => rfl
   | true =>
    rw [hx, nodeW_bad] at h1
    cases h1
  rw [hb] at h1
  refine ⟨?_, fun k' hk' => ?_⟩
  ·rw [Bool.or_eq_false_iff] at hb; exact hb.1
  ·rcases List.mem_cons.1 hk' with rfl | hk'
   ·exact ⟨_, h1⟩
   ·exact h2 k' hk'
theorem shp1 : ∀ q ∈ shapes, q.1 = [108, 101, 116] → q.2.length = 3 ∧ q.2 ≠ [43] := by decide
theorem shp2 : ∀ q ∈ shapes, q.1 = [109, 97, 112] → q.2.length = 3 ∧ q.2 ≠ [43] := by decide
theorem shp3 : ∀ q ∈ shapes, q.1 = [102, 105, 108, 116, 101, 114] → q.2.length = 3 ∧ q.2 ≠ [43] := by decide
theorem shp4 : ∀ q ∈ shapes, q.1 = [102, 111, 108, 100] → q.2.length = 5 ∧ q.2 ≠ [43] := by decide
theorem shp5 : ∀ q ∈ shapes, q.1 = [105, 102] → q.2.length = 3 ∧ q.2 ≠ [43] := by decide
theorem shp6 : ∀ q ∈ shapes, q.1 = [111, 114, 95, 101, 108, 115, 101] → q.2.length = 2 ∧ q.2 ≠ [43] := by decide
theorem shp7 : ∀ q ∈ shapes, q.2 = [] → q.1 = [116, 114, 117, 101] ∨ q.1 = [102, 97, 108, 115, 101] ∨ q.1 = [105, 116] := by decide
theorem shp8 : ∀ q ∈ shapes, q.2 = [100] → q.1 = [115, 105, 100, 101] := by decide
theorem shp9 : ∀ q ∈ shapes, q.1 = [115, 105, 100, 101] → q.2 = [100] := by decide
theorem shp10 : ∀ q ∈ shapes, q.2 = [116] → q.1 = [110, 105, 108] ∨ q.1 = [110, 111, 110, 101] := by decide
theorem shp11 : ∀ q ∈ shapes, q.2.length ≤ 5 := by decide
theorem bare_kids {t : NT} {a b c : Bool} (h : bareN t a b c false = true) : ∃ op i txt ty s, t = .mk op i txt ty s [] := by
 obtain ⟨op, i, txt, ⟨k, ts, args⟩, s, kids⟩ := t
 simp only [bareN,Bool.and_eq_true,Bool.false_or,decide_eq_true_eq] at h
 have : kids = [] := by
  have := h.2
  cases kids with
  | nil => rfl
  | cons x l => simp at this; omega
 subst this
 exact ⟨op, i, txt, _, s, rfl⟩
theorem arOk_leaf {op : List UInt8} {n : Nat} (h : leafW op) : ArOk op n := by
 have hn : ¬ leafW [108, 101, 116] ∧ ¬ leafW [109, 97, 112] ∧ ¬ leafW [102, 105, 108, 116, 101, 114] ∧ ¬ leafW [102, 111, 108, 100] ∧ ¬ leafW [105, 102] ∧ ¬ leafW [111, 114, 95, 101, 108, 115, 101] := by
  refine ⟨?_, ?_, ?_, ?_, ?_, ?_⟩ <;> (unfold leafW; decide)
 exact ⟨fun e => absurd (e ▸ h) hn.1, fun e => absurd (e ▸ h) hn.2.1, fun e => absurd (e ▸ h) hn.2.2.1, fun e => absurd (e ▸ h) hn.2.2.2.1, fun e => absurd (e ▸ h) hn.2.2.2.2.1, fun e => absurd (e ▸ h) hn.2.2.2.2.2, fun e => absurd h e⟩
theorem gd_of : ∀ (d : Nat) (t : NT), fineN t → ∀ acc : List UInt8, (nodeW d t (acc, false)).2 = false → Gd d t ∧ tidyN t
 | 0, t, _, acc, h => by simp only [nodeW] at h; cases h
 | d + 1, .mk op i txt ty s kids, hf, acc, h => by
  simp only [fineN] at hf
  obtain ⟨_, _, _, hs, hty, hks⟩ := hf
  have leafCase : ∀ (hl : leafW op) (hk : kids = []) (hsd : op = [115, 105, 100, 101] → 0 ≤ i), Gd (d + 1) (.mk op i txt ty s kids) ∧ tidyN (.mk op i txt ty s kids) := fun hl hk hsd => by
   subst hk
   exact ⟨⟨.inl rfl, arOk_leaf hl, by simp⟩, hty, by simp, hsd, trivial⟩
  have bk : ∀ {a b c : Bool}, bareN (.mk op i txt ty s kids) a b c false = true → kids = [] := fun hb => by
   obtain ⟨_, _, _, _, _, he⟩ := bare_kids hb
   injection he
  simp only [nodeW] at h
  split at h
  ·cases h
  split at h
  ·rename_i ho
   subst ho
   exact leafCase (.inl rfl) (bk (by simpa using h)) (fun e => absurd e (by decide))
  split at h
  ·rename_i ho
   subst ho
   split at h
   ·cases h
   ·rename_i hb
    simp only [Bool.or_eq_true,not_or,Bool.not_eq_true',Bool.not_eq_false] at hb
    exact leafCase (.inr (.inl rfl)) (bk hb.1) (fun e => absurd e (by decide))
  split at h
  ·rename_i ho
   subst ho
   simp only [Bool.or_eq_false_iff,Bool.not_eq_false'] at h
   exact leafCase (.inr (.inr (.inr (.inr (.inl rfl))))) (bk h.1) (fun e => absurd e (by decide))
  split at h
  ·cases h
  ·rename_i ps hps
   have hm := lookup_mem hps
   have a1 := shp1 _ hm
   have a2 := shp2 _ hm
   have a3 := shp3 _ hm
   have a4 := shp4 _ hm
   have a5 := shp5 _ hm
   have a6 := shp6 _ hm
   have a7 := shp7 _ hm
   have a8 := shp8 _ hm
   have a9 := shp9 _ hm
   have a10 := shp10 _ hm
   have a11 := shp11 _ hm
   simp only at a1 a2 a3 a4 a5 a6 a7 a8 a9 a10 a11
   split at h
   ·rename_i hp
    have ho := a8 hp
    simp only [Bool.or_eq_false_iff,Bool.not_eq_false',decide_eq_false_iff_not] at h
    exact leafCase (by unfold leafW; simp [ho]) (bk h.1.1) (fun _ => by omega)
   split at h
   ·rename_i hnd hp
    have ho := a10 hp
    simp only [Bool.or_eq_false_iff,Bool.not_eq_false'] at h
    refine leafCase (by unfold leafW; rcases ho with ho | ho <;> simp [ho]) (bk h.1) (fun e => ?_)
    rw [a9 e] at hnd
    exact absurd rfl hnd
   rename_i hnd hnt
   unfold callW at h
   split at h
   ·cases h
   rename_i hc
   simp only [Bool.or_eq_true,not_or,Bool.not_eq_true',Bool.not_eq_false,decide_eq_true_eq] at hc
   obtain ⟨hc1, hc2⟩ := hc
   have hk : ∀ k ∈ kids, ∃ acc, (nodeW d k (acc, false)).2 = false := by
    split at h
    ·exact (kidsW_good d _ kids 0 _ h).2
    ·exact (kidsW_good d _ kids 0 _ h).2
   have hrec : ∀ k ∈ kids, Gd d k ∧ tidyN k := fun k hkm => by
    obtain ⟨acc', ha⟩ := hk k hkm
    exact gd_of d k (fineNs_mem hks k hkm) acc' ha
   have hlen : ps ≠ [43] → kids.length = ps.length := fun h43 => by
    rw [hc1]; unfold partsW; rw [if_neg h43]
   have hpos : ¬ leafW op → 0 < kids.length := fun hl => by
    by_cases h43 : ps = [43]
    ·rw [hc1]; unfold partsW; rw [if_pos h43, List.length_replicate]; omega
    ·rw [hlen h43]
     cases ps with
     | nil =>
      exfalso
      apply hl
      unfold leafW
      rcases a7 rfl with e | e | e <;> simp [e]
     | cons x l => simp
   have hle : kids.length ≤ 1000 := by
    by_cases h43 : ps = [43]
    ·rw [hc1]; unfold partsW; rw [if_pos h43, List.length_replicate]; omega
    ·rw [hlen h43]; omega
   have tns : ∀ l : List NT, (∀ k ∈ l, tidyN k) → tidyNs l := fun l => by
    induction l with
    | nil => intro _; trivial
    | cons a l ih => intro hh; exact ⟨hh a (by simp), ih fun k hk => hh k (List.mem_cons_of_mem _ hk)⟩
   refine ⟨⟨hs, ⟨fun e => ?_, fun e => ?_, fun e => ?_, fun e => ?_, fun e => ?_, fun e => ?_, hpos⟩, fun k hkm => (hrec k hkm).1⟩, hty, hle, fun e => absurd (a9 e) hnd, tns kids fun k hkm => (hrec k hkm).2⟩
   ·rw [hlen (a1 e).2]; exact (a1 e).1
   ·rw [hlen (a2 e).2]; exact (a2 e).1
   ·rw [hlen (a3 e).2]; exact (a3 e).1
   ·rw [hlen (a4 e).2]; exact (a4 e).1
   ·rw [hlen (a5 e).2, (a5 e).1]; decide
   ·rw [hlen (a6 e).2, (a6 e).1]; decide
theorem show_gd {t : NT} (hf : fineN t) (h : (showX t).2 = 0) : Gd 24 t ∧ tidyN t := by
 refine gd_of 24 t hf [] ?_
 unfold showX at h
 split at h
 ·cases h
 ·rename_i hc
  simp only [Bool.or_eq_true,not_or,Bool.not_eq_true] at hc
  exact hc.1
end Go.Abs.Seat
end
section
set_option linter.unusedVariables false
set_option linter.unusedSimpArgs false
namespace Go.Abs.Seat
open Go.Proofs
theorem l17 (p q : List Nat) (s s' : Nat) (hs : p = [] ∨ s = 1) (hs' : q = [] ∨ s' = 1) (hl : p.length = q.length) (hn : p.length ≤ 1000) (H : Heap) :
  ∀ (m i : Nat), i + m = p.length → ∀ tm : List AV, tm.length = 26 → tm.getD 0 undefA = .im (.sl s (rowsP p)) → tm.getD 1 undefA = .im (.sl s' (rowsP q)) → tm.getD 12 undefA = .im (.int .i64 (p.length : Int)) → tm.getD 13 undefA = .im (.int .i64 (i : Int)) →
  ∃ e tm' H', Λ c17_0 tm H = some (e, tm', H') ∧ (tm'.length = 26 ∧ H' = H ∧ ((e = .exit 0 ∧ p.drop i = q.drop i) ∨ (e = .ret ∧ p.drop i ≠ q.drop i ∧ tm'.getD 4 undefA = .im (.bool false))))
 | 0, i, hi, tm, hlen, h0, h1, h12, h13 => by
  have e : p.drop i = q.drop i := by rw [List.drop_eq_nil_iff.2 (by omega), List.drop_eq_nil_iff.2 (by omega)]
  have hc : decide ((i : Int) < (p.length : Int)) = false := by simp; omega
  rw [l17_0]
  simp only [b17_0,B0,B1,B2,List.replicate,reduceCtorEq,lenA,seval,hlen,h0,h1,h12,h13,hc]
  exact ⟨_, _, _, rfl, by simp only [List.length_set,hlen], rfl, .inl ⟨rfl, e⟩⟩
 | m + 1, i, hi, tm, hlen, h0, h1, h12, h13 => by
  have hlt : i < p.length := by omega
  obtain ⟨a, ha⟩ : ∃ a, p[i]? = some a := ⟨_, List.getElem?_eq_getElem hlt⟩
  obtain ⟨b, hb⟩ : ∃ b, q[i]? = some b := ⟨_, List.getElem?_eq_getElem (by omega)⟩
  have hs1 : s = 1 := by
   rcases hs with h | h
   ·subst h; simp at hlt
   ·exact h
  have hs2 : s' = 1 := by
   rcases hs' with h | h
   ·rw [h] at hl; simp at hl; rw [hl] at hlt; simp at hlt
   ·exact h
  subst hs1 hs2
  have e1 : p.drop i = a :: p.drop (i + 1) := by
   rw [List.drop_eq_getElem_cons hlt]
   congr 1
   rw [List.getElem?_eq_getElem hlt] at ha
   exact Option.some.inj ha
  have e2 : q.drop i = b :: q.drop (i + 1) := by
   rw [List.drop_eq_getElem_cons (show i < q.length by omega)]
   congr 1
   rw [List.getElem?_eq_getElem (show i < q.length by omega)] at hb
   exact Option.some.inj hb
  have hc : decide ((i : Int) < (p.length : Int)) = true := by simp; omega
  have hpl : (rowsP p).length = p.length := by simp [rowsP]
  have hql : (rowsP q).length = p.length := by simp [rowsP, hl]
  have hix := idx_nat (n := p.length) (i := i) hlt
  have hga : (rowsP p)[i]? = some [.int .i64 (a : Int)] := by unfold rowsP; rw [List.getElem?_map, ha]; rfl
  have hgb : (rowsP q)[i]? = some [.int .i64 (b : Int)] := by unfold rowsP; rw [List.getElem?_map, hb]; rfl
  have hwr := wrap_nat (i := i) (by omega)
  have key := l17 p q 1 1 hs hs' hl hn H m (i + 1) (by omega)
  rw [e1, e2, l17_0]
  by_cases hab : a = b
  ·subst hab
   have hd : decide (((a : Nat) : Int) = ((a : Nat) : Int)) = true := decide_eq_true rfl
   simp only [b17_0,B0,B1,B2,List.replicate,reduceCtorEq,lenA,seval,hlen,h0,h1,h12,h13,hc,hpl,hql,hix,hga,hgb,hd,hwr]
   have key' : ∀ tm : List AV, tm.length = 26 → tm.getD 0 undefA = .im (.sl 1 (rowsP p)) → tm.getD 1 undefA = .im (.sl 1 (rowsP q)) → tm.getD 12 undefA = .im (.int .i64 (p.length : Int)) → tm.getD 13 undefA = .im (.int .i64 ((i + 1 : Nat) : Int)) →
     ∃ e tm' H', Λ c17_0 tm H = some (e, tm', H') ∧ (tm'.length = 26 ∧ H' = H ∧ ((e = .exit 0 ∧ a :: p.drop (i + 1) = a :: q.drop (i + 1)) ∨ (e = .ret ∧ a :: p.drop (i + 1) ≠ a :: q.drop (i + 1) ∧ tm'.getD 4 undefA = .im (.bool false)))) := fun tm a1 a2 a3 a4 a5 => by
    obtain ⟨e, tm', H', k1, k2, k3, k4⟩ := key tm a1 a2 a3 a4 a5
    refine ⟨e, tm', H', k1, k2, k3, ?_⟩
    rcases k4 with ⟨h1, h2⟩ | ⟨h1, h2, h3⟩
    ·exact .inl ⟨h1, by rw [h2]⟩
    ·exact .inr ⟨h1, fun h => h2 (by injection h), h3⟩
   refine key' _ ?_ ?_ ?_ ?_ ?_
   all_goals simp only [B3,seval,hlen,h0,h1,h12]
  ·have hd : decide (((a : Nat) : Int) = ((b : Nat) : Int)) = false := decide_eq_false (by omega)
   simp only [b17_0,B0,B1,B2,List.replicate,reduceCtorEq,lenA,seval,hlen,h0,h1,h12,h13,hc,hpl,hql,hix,hga,hgb,hd]
   exact ⟨_, _, _, rfl, by simp only [List.length_set,hlen], rfl, .inr ⟨rfl, fun h => hab (by injection h), by simp only [B3,seval,hlen]⟩⟩
theorem s17 (p q : List Nat) (s s' : Nat) (hs : p = [] ∨ s = 1) (hs' : q = [] ∨ s' = 1) (hn : p.length ≤ 1000) (H : Heap) :
  L 17 [.im (.sl s (rowsP p)), .im (.sl s' (rowsP q))] H = some (.im (.bool (decide (p = q))), H) := by
 have hpl : (rowsP p).length = p.length := by simp [rowsP]
 have hql : (rowsP q).length = q.length := by simp [rowsP]
 rw [leq F17]
 obtain ⟨hlen, hx⟩ := enter_at (f := f17) (args := [.im (.sl s (rowsP p)), .im (.sl s' (rowsP q))]) (Nat.le_of_ble_eq_true rfl)
 have h0 := hx 0 _ rfl
 have h1 := hx 1 _ rfl
 generalize enterA f17 [.im (.sl s (rowsP p)), .im (.sl s' (rowsP q))] = tm at *
 change tm.length = 26 at hlen
 by_cases hl : p.length = q.length
 ·have hd : decide (((p.length : Nat) : Int) = ((q.length : Nat) : Int)) = true := decide_eq_true (by omega)
  have key := l17 p q s s' hs hs' hl hn H p.length 0 (by omega)
  rw [List.drop_zero, List.drop_zero] at key
  simp only [f17,e17_0,B0,B1,B2,List.replicate,reduceCtorEq,lenA,seval,hlen,h0,h1,hpl,hql,hd]
  generalize hr : thenL (Λ c17_0 _ _) _ = r
  refine Exists.elim (thenL_inv hr (key _ ?_ ?_ ?_ ?_ ?_)) ?_
  iterate 4 simp only [B3,seval,hlen,h0,h1]
  ·simp only [B3,seval,hlen]; first | done | rfl
  clear hr key
  rintro e ⟨tm', H', ⟨hl', rfl, hm⟩, rfl⟩
  rcases hm with ⟨rfl, he⟩ | ⟨rfl, he, g4⟩
  ·rw [decide_eq_true he]
   simp only [B0,B1,B2,List.replicate,reduceCtorEq,lenA,seval,endK,resA,tupA,hl',leave_same]
  ·rw [decide_eq_false he]
   simp only [B0,B1,B2,List.replicate,reduceCtorEq,lenA,seval,endK,resA,tupA,hl',g4,leave_same]
 ·have hd : decide (((p.length : Nat) : Int) = ((q.length : Nat) : Int)) = false := decide_eq_false (by omega)
  have he : ¬ p = q := fun h => hl (by rw [h])
  rw [decide_eq_false he]
  simp only [f17,B0,B1,B2,List.replicate,reduceCtorEq,lenA,seval,endK,resA,tupA,hlen,h0,h1,hpl,hql,hd,leave_same]
end Go.Abs.Seat
end
section
set_option linter.unusedVariables false
set_option linter.unusedSimpArgs false
namespace Go.Abs.Seat
open Go.Proofs
theorem kidsW_bad (d : Nat) (ps : List UInt8) : ∀ (kids : List NT) (i : Nat) (acc : List UInt8), (kidsW (nodeW d) ps i kids (acc, true)).2 = true
 | [], i, acc => rfl
 | k :: ks, i, acc => by
  simp only [kidsW,Bool.true_or]
  rw [nodeW_bad]
  exact kidsW_bad d ps ks (i + 1) _
def Shift (d : Nat) (t : NT) : Prop := ∀ acc : List UInt8, (nodeW d t (acc, false)).2 = false →
 ∃ w, (nodeW d t (acc, false)).1 = acc ++ w ∧ ∀ d', d ≤ d' → ∀ acc' : List UInt8, acc'.length ≤ acc.length → nodeW d' t (acc', false) = (acc' ++ w, false)
theorem kidsW_shift (d : Nat) (ps : List UInt8) : ∀ (kids : List NT), (∀ k ∈ kids, Shift d k) → ∀ (i : Nat) (acc : List UInt8), (kidsW (nodeW d) ps i kids (acc, false)).2 = false →
  (∃ w, (kidsW (nodeW d) ps i kids (acc, false)).1 = acc ++ w ∧ ∀ d', d ≤ d' → ∀ acc' : List UInt8, acc'.length ≤ acc.length → kidsW (nodeW d') ps i kids (acc', false) = (acc' ++ w, false)) ∧
  ∀ k ∈ kids, ∃ acc1, (nodeW d k (acc1, false)).2 = false ∧ (nodeW d k (acc1, false)).1.length ≤ (kidsW (nodeW d) ps i kids (acc, false)).1.length
 | [], _, i, acc, h => ⟨⟨[], by simp [kidsW], fun d' _ acc' _ => by simp [kidsW]⟩, fun k hk => by simp at hk⟩
 | k :: ks, hk, i, acc, h => by
  simp only [kidsW,Bool.false_or] at h ⊢
  cases hfl : (decide (ps[i]? = some 110) && !isNam k) with
  | true =>
   rw [hfl, nodeW_bad, kidsW_bad] at h
   simp at h
  | false =>
   rw [hfl] at h
   cases hb : (nodeW d k (acc ++ [sepB i], false)).2 with
   | true =>
    have e : nodeW d k (acc ++ [sepB i], false) = ((nodeW d k (acc ++ [sepB i], false)).1, true) := Prod.ext rfl hb
    rw [e, kidsW_bad] at h
    simp at h
   | false =>
    obtain ⟨w1, h1, h2⟩ := hk k (by simp) (acc ++ [sepB i]) hb
    have e : nodeW d k (acc ++ [sepB i], false) = (acc ++ [sepB i] ++ w1, false) := Prod.ext h1 hb
    rw [e] at h ⊢
    obtain ⟨⟨w2, h3, h4⟩, h5⟩ := kidsW_shift d ps ks (fun k hk' => hk k (by simp [hk'])) (i + 1) _ h
    refine ⟨⟨[sepB i] ++ w1 ++ w2, by rw [h3]; simp [List.append_assoc], fun d' hd acc' ha => ?_⟩, fun k' hk' => ?_⟩
    ·rw [h2 d' hd (acc' ++ [sepB i]) (by simp; omega), h4 d' hd _ (by simp; omega)]
     simp [List.append_assoc]
    ·rcases List.mem_cons.1 hk' with rfl | hk'
     ·refine ⟨acc ++ [sepB i], hb, ?_⟩
      rw [e]
      exact kidsW_ge ks (fun k _ st => nodeW_ge d k st) (i + 1) _
     ·exact h5 k' hk'
theorem shift_all : ∀ (d : Nat) (t : NT), Shift d t
 | 0, t => fun acc h => by simp [nodeW] at h
 | d + 1, .mk op i txt ty s kids => by
  intro acc h
  have hkids : ∀ k ∈ kids, Shift d k := fun k _ => shift_all d k
  by_cases hl : 4096 < acc.length
  ·simp only [nodeW] at h
   rw [if_pos (by rw [decide_eq_true hl]; simp)] at h
   simp at h
  have go : ∀ (w : List UInt8), nodeW (d + 1) (.mk op i txt ty s kids) (acc, false) = (acc ++ w, false) → (∀ d', d ≤ d' → ∀ acc' : List UInt8, acc'.length ≤ acc.length → nodeW (d' + 1) (.mk op i txt ty s kids) (acc', false) = (acc' ++ w, false)) →
    ∃ w, (nodeW (d + 1) (.mk op i txt ty s kids) (acc, false)).1 = acc ++ w ∧ ∀ d', d + 1 ≤ d' → ∀ acc' : List UInt8, acc'.length ≤ acc.length → nodeW d' (.mk op i txt ty s kids) (acc', false) = (acc' ++ w, false) := fun w h1 h2 =>
   ⟨w, by rw [h1], fun d' hd acc' ha => by
    obtain ⟨d'', rfl⟩ : ∃ d'', d' = d'' + 1 := ⟨d' - 1, by omega⟩
    exact h2 d'' (by omega) acc' ha⟩
  have st : ∀ acc' : List UInt8, acc'.length ≤ acc.length → (false || decide (4096 < acc'.length)) = false := fun acc' ha => by rw [decide_eq_false (by omega)]; rfl
  have e0 : ∀ (d' : Nat) (acc' : List UInt8), acc'.length ≤ acc.length → nodeW (d' + 1) (.mk op i txt ty s kids) (acc', false) =
    (if op = intW then (acc' ++ itoaN i, !bareN (.mk op i txt ty s kids) true false false false)
    else if op = textW then (if (!bareN (.mk op i txt ty s kids) false true false false || decide (256 < txt.length)) = true then (acc', true) else (acc' ++ quoteB txt, false))
    else if op = nameW then (acc' ++ txt, !bareN (.mk op i txt ty s kids) false true false false || !nameOk txt)
    else match shapeT op with
     | none => (acc', true)
     | some ps =>
      if ps = [100] then (acc' ++ ((sideW ++ itoaN i) ++ [41]), (!bareN (.mk op i txt ty s kids) true false false false || decide (i < 0)) || decide (9 < i))
      else if ps = [116] then (acc' ++ (((op ++ [40]) ++ showW ty) ++ [41]), !bareN (.mk op i txt ty s kids) false false true false || !decide (checkT ty = 0))
      else callW (nodeW d') op ps (.mk op i txt ty s kids) kids (acc', false)) := fun d' acc' ha => by
   simp only [nodeW]
   rw [if_neg (by rw [st acc' ha]; simp)]
   rfl
  rw [e0 d acc (Nat.le_refl _)] at h
  by_cases h1 : op = intW
  ·rw [if_pos h1] at h
   simp only at h
   refine go (itoaN i) ?_ fun d' _ acc' ha => ?_
   ·rw [e0 d acc (Nat.le_refl _), if_pos h1, h]
   ·rw [e0 d' acc' ha, if_pos h1, h]
  rw [if_neg h1] at h
  by_cases h2 : op = textW
  ·rw [if_pos h2] at h
   by_cases h3 : (!bareN (.mk op i txt ty s kids) false true false false || decide (256 < txt.length)) = true
   ·rw [if_pos h3] at h; simp at h
   ·refine go (quoteB txt) ?_ fun d' _ acc' ha => ?_
    ·rw [e0 d acc (Nat.le_refl _), if_neg h1, if_pos h2, if_neg h3]
    ·rw [e0 d' acc' ha, if_neg h1, if_pos h2, if_neg h3]
  rw [if_neg h2] at h
  by_cases h3 : op = nameW
  ·rw [if_pos h3] at h
   simp only at h
   refine go txt ?_ fun d' _ acc' ha => ?_
   ·rw [e0 d acc (Nat.le_refl _), if_neg h1, if_neg h2, if_pos h3, h]
   ·rw [e0 d' acc' ha, if_neg h1, if_neg h2, if_pos h3, h]
  rw [if_neg h3] at h
  cases hsh : shapeT op with
  | none => rw [hsh] at h; simp at h
  | some ps =>
   rw [hsh] at h
   simp only at h
   by_cases h4 : ps = [100]
   ·rw [if_pos h4] at h
    simp only at h
    refine go ((sideW ++ itoaN i) ++ [41]) ?_ fun d' _ acc' ha => ?_
    ·rw [e0 d acc (Nat.le_refl _), if_neg h1, if_neg h2, if_neg h3, hsh]; simp only; rw [if_pos h4, h]
    ·rw [e0 d' acc' ha, if_neg h1, if_neg h2, if_neg h3, hsh]; simp only; rw [if_pos h4, h]
   rw [if_neg h4] at h
   by_cases h5 : ps = [116]
   ·rw [if_pos h5] at h
    simp only at h
    refine go (((op ++ [40]) ++ showW ty) ++ [41]) ?_ fun d' _ acc' ha => ?_
    ·rw [e0 d acc (Nat.le_refl _), if_neg h1, if_neg h2, if_neg h3, hsh]; simp only; rw [if_neg h4, if_pos h5, h]
    ·rw [e0 d' acc' ha, if_neg h1, if_neg h2, if_neg h3, hsh]; simp only; rw [if_neg h4, if_pos h5, h]
   rw [if_neg h5] at h
   unfold callW at h
   by_cases hc : (!decide (kids.length = (partsW ps kids.length).length) || !bareN (.mk op i txt ty s kids) false false false true) = true
   ·rw [if_pos hc] at h; simp at h
   rw [if_neg hc] at h
   have hkb : (kidsW (nodeW d) (partsW ps kids.length) 0 kids (acc ++ op, false)).2 = false := by
    split at h <;> exact h
   obtain ⟨⟨w, k1, k2⟩, _⟩ := kidsW_shift d (partsW ps kids.length) kids hkids 0 (acc ++ op) hkb
   have ek : ∀ d', d ≤ d' → ∀ acc' : List UInt8, acc'.length ≤ acc.length → kidsW (nodeW d') (partsW ps kids.length) 0 kids (acc' ++ op, false) = (acc' ++ op ++ w, false) := fun d' hd acc' ha => k2 d' hd (acc' ++ op) (by simp; omega)
   have ec : ∀ d', d ≤ d' → ∀ acc' : List UInt8, acc'.length ≤ acc.length → callW (nodeW d') op ps (.mk op i txt ty s kids) kids (acc', false) = (acc' ++ (op ++ w ++ (if 0 < kids.length then [41] else [])), false) := fun d' hd acc' ha => by
    unfold callW
    rw [if_neg hc]
    simp only [ek d' hd acc' ha]
    split <;> simp [List.append_assoc]
   refine go (op ++ w ++ (if 0 < kids.length then [41] else [])) ?_ fun d' hd acc' ha => ?_
   ·rw [e0 d acc (Nat.le_refl _), if_neg h1, if_neg h2, if_neg h3, hsh]; simp only; rw [if_neg h4, if_neg h5, ec d (Nat.le_refl _) acc (Nat.le_refl _)]
   ·rw [e0 d' acc' ha, if_neg h1, if_neg h2, if_neg h3, hsh]; simp only; rw [if_neg h4, if_neg h5, ec d' hd acc' ha]
theorem kids_right (op txt : List UInt8) (i : Int) (ty : KT) (s : Nat) (kids : List NT) (h : (showX (.mk op i txt ty s kids)).2 = 0) : ∀ k ∈ kids, (showX k).2 = 0 := by
 intro k hk
 unfold showX at h
 by_cases hb : ((nodeW 24 (.mk op i txt ty s kids) ([], false)).2 || decide (4096 < (nodeW 24 (.mk op i txt ty s kids) ([], false)).1.length)) = true
 ·rw [if_pos hb] at h; simp at h
 clear h
 simp only [Bool.or_eq_true,decide_eq_true_eq,not_or,Bool.not_eq_true] at hb
 obtain ⟨hb, hl⟩ := hb
 have e0 : nodeW 24 (.mk op i txt ty s kids) ([], false) =
    (if op = intW then ([] ++ itoaN i, !bareN (.mk op i txt ty s kids) true false false false)
    else if op = textW then (if (!bareN (.mk op i txt ty s kids) false true false false || decide (256 < txt.length)) = true then ([], true) else ([] ++ quoteB txt, false))
    else if op = nameW then ([] ++ txt, !bareN (.mk op i txt ty s kids) false true false false || !nameOk txt)
    else match shapeT op with
     | none => ([], true)
     | some ps =>
      if ps = [100] then ([] ++ ((sideW ++ itoaN i) ++ [41]), (!bareN (.mk op i txt ty s kids) true false false false || decide (i < 0)) || decide (9 < i))
      else if ps = [116] then ([] ++ (((op ++ [40]) ++ showW ty) ++ [41]), !bareN (.mk op i txt ty s kids) false false true false || !decide (checkT ty = 0))
      else callW (nodeW 23) op ps (.mk op i txt ty s kids) kids ([], false)) := by
  show nodeW (23 + 1) _ _ = _
  simp only [nodeW]
  rw [if_neg (by simp)]
  rfl
 rw [e0] at hb hl
 have nokids : ∀ a b c : Bool, bareN (.mk op i txt ty s kids) a b c false = true → False := fun a b c h => by
  obtain ⟨tk, ts, targs⟩ := ty
  simp only [bareN,Bool.false_or,Bool.and_eq_true,decide_eq_true_eq] at h
  have : 0 < kids.length := List.length_pos_of_mem hk
  omega
 by_cases h1 : op = intW
 ·rw [if_pos h1] at hb
  exact (nokids true false false (by simpa using hb)).elim
 rw [if_neg h1] at hb hl
 by_cases h2 : op = textW
 ·rw [if_pos h2] at hb
  by_cases h3 : (!bareN (.mk op i txt ty s kids) false true false false || decide (256 < txt.length)) = true
  ·rw [if_pos h3] at hb; simp at hb
  ·simp only [Bool.or_eq_true,not_or,Bool.not_eq_true,Bool.not_eq_false'] at h3
   exact (nokids false true false h3.1).elim
 rw [if_neg h2] at hb hl
 by_cases h3 : op = nameW
 ·rw [if_pos h3] at hb
  simp only [Bool.or_eq_false_iff,Bool.not_eq_false'] at hb
  exact (nokids false true false hb.1).elim
 rw [if_neg h3] at hb hl
 cases hsh : shapeT op with
 | none => rw [hsh] at hb; simp at hb
 | some ps =>
  rw [hsh] at hb hl
  simp only at hb hl
  by_cases h4 : ps = [100]
  ·rw [if_pos h4] at hb
   simp only [Bool.or_eq_false_iff,Bool.not_eq_false'] at hb
   exact (nokids true false false hb.1.1).elim
  rw [if_neg h4] at hb hl
  by_cases h5 : ps = [116]
  ·rw [if_pos h5] at hb
   simp only [Bool.or_eq_false_iff,Bool.not_eq_false'] at hb
   exact (nokids false false true hb.1).elim
  rw [if_neg h5] at hb hl
  unfold callW at hb hl
  by_cases hc : (!decide (kids.length = (partsW ps kids.length).length) || !bareN (.mk op i txt ty s kids) false false false true) = true
  ·rw [if_pos hc] at hb; simp at hb
  rw [if_neg hc] at hb hl
  have hkb : (kidsW (nodeW 23) (partsW ps kids.length) 0 kids ([] ++ op, false)).2 = false := by split at hb <;> exact hb
  have hkl : (kidsW (nodeW 23) (partsW ps kids.length) 0 kids ([] ++ op, false)).1.length ≤ 4096 := by
   split at hl
   ·simp only [List.length_append] at hl; omega
   ·exact Nat.not_lt.1 hl
  obtain ⟨acc1, a1, a2⟩ := (kidsW_shift 23 (partsW ps kids.length) kids (fun k _ => shift_all 23 k) 0 ([] ++ op) hkb).2 k hk
  obtain ⟨w, b1, b2⟩ := shift_all 23 k acc1 a1
  have b3 := b2 24 (by omega) [] (Nat.zero_le _)
  unfold showX
  rw [b3]
  rw [b1, List.length_append] at a2
  rw [if_neg (by simp only [List.nil_append,Bool.false_or,decide_eq_true_eq]; omega)]
end Go.Abs.Seat
end
section
set_option linter.unusedVariables false
set_option linter.unusedSimpArgs false
namespace Go.Abs.Seat
open Go.Proofs
theorem kid_inr {d j : Nat} {r : RT} {p : List Nat} {c : Int} (h : kidR j r = .inr (p, c)) (hr : ∀ p' c', r = .inr (p', c') → p'.length ≤ d) : p.length ≤ d + 1 := by
 cases r with
 | inl u => cases h
 | inr x =>
  obtain ⟨p', c'⟩ := x
  simp only [kidR] at h
  injection h with h
  injection h with h1 h2
  subst h1
  have := hr p' c' rfl
  simp only [List.length_cons]
  omega
theorem then_inr {r : RT} {f : KT → RT} {x : List Nat × Int} (h : thenR r f = .inr x) : r = .inr x ∨ ∃ t, r = .inl t ∧ f t = .inr x := by
 cases r with
 | inl t => exact .inr ⟨t, rfl, h⟩
 | inr y => exact .inl h
theorem made_inr {t : KT} {p : List Nat} {c : Int} (h : madeX t = .inr (p, c)) : p = [] := by
 unfold madeX at h
 split at h
 ·cases h
 ·injection h with h; injection h with h1 h2; exact h1.symm
theorem nil_of {p : List Nat} {c e : Int} (h : (.inr ([], e) : RT) = .inr (p, c)) : p = [] := by
 injection h with h; injection h with h1 h2; exact h1.symm
theorem looks_path (v : EnvT) (d : Nat) (nm : Nms) : ∀ (kids : List NT) (j : Nat) (p : List Nat) (c : Int), (∀ k ∈ kids, ∀ p c, lookX v k nm = .inr (p, c) → p.length ≤ d) → looksX v kids j nm = .inr (p, c) → p.length ≤ d + 1
 | [], j, p, c, _, h => by simp only [looksX] at h; cases h
 | k :: ks, j, p, c, hk, h => by
  simp only [looksX] at h
  split at h
  ·rename_i e he
   injection h with h
   subst h
   exact kid_inr he fun p' c' hp => hk k (List.mem_cons_self ..) p' c' hp
  ·split at h
   ·cases h
   ·rename_i e he
    injection h with h
    subst h
    exact looks_path v d nm ks (j + 1) p c (fun k' hk' => hk k' (List.mem_cons_of_mem _ hk')) he
theorem look_path (v : EnvT) : ∀ (d : Nat) (t : NT) (nm : Nms) (p : List Nat) (c : Int), Gd d t → lookX v t nm = .inr (p, c) → p.length ≤ d
 | 0, t, nm, p, c, hg, _ => by simp only [Gd] at hg
 | d + 1, .mk op i txt ty s kids, nm, p, c, hg, h => by
  simp only [Gd] at hg
  obtain ⟨_, _, hgk⟩ := hg
  have at_ : ∀ j nm' p c, lookAt v kids j nm' = .inr (p, c) → p.length ≤ d := fun j nm' p c he => by
   cases hk : kids[j]? with
   | none =>
    have : ∀ (l : List NT) (j : Nat), l[j]? = none → lookAt v l j nm' = .inr ([], 0) := fun l => by
     induction l with
     | nil => intro j _; simp only [lookAt]
     | cons a l ih => intro j hj; cases j with
      | zero => simp at hj
      | succ j => simp only [lookAt]; exact ih j (by simpa using hj)
    rw [this kids j hk] at he
    rw [nil_of he]; simp
   | some k =>
    rw [lookAt_get v kids j k nm' hk] at he
    exact look_path v d k nm' p c (hgk k (List.mem_of_getElem? hk)) he
  have kid : ∀ j nm' p c, kidR j (lookAt v kids j nm') = .inr (p, c) → p.length ≤ d + 1 := fun j nm' p c he => kid_inr he fun p' c' hp => at_ j nm' p' c' hp
  simp only [lookX] at h
  split at h
  ·cases h
  split at h
  ·cases h
  split at h
  ·cases h
  split at h
  ·cases h
  split at h
  ·unfold nameX at h
   split at h
   ·cases h
   ·rw [nil_of h]; simp
  split at h
  ·rw [made_inr h]; simp
  split at h
  ·rw [made_inr h]; simp
  split at h
  ·split at h
   ·rw [nil_of h]; simp
   ·cases h
  split at h
  ·unfold bindsR at h
   split at h
   ·rcases then_inr h with h1 | ⟨t, _, h1⟩ <;> exact kid _ _ _ _ h1
   split at h
   ·rcases then_inr h with h1 | ⟨t, _, h1⟩
    ·exact kid _ _ _ _ h1
    rcases then_inr h1 with h2 | ⟨t1, _, h2⟩
    ·exact kid _ _ _ _ h2
    split at h2
    ·rcases then_inr h2 with h3 | ⟨t4, _, h3⟩
     ·exact kid _ _ _ _ h3
     split at h3
     ·cases h3
     ·rw [nil_of h3]; simp
    ·rw [nil_of h2]; simp
   ·rcases then_inr h with h1 | ⟨t, _, h1⟩
    ·exact kid _ _ _ _ h1
    split at h1
    ·rcases then_inr h1 with h3 | ⟨t4, _, h3⟩
     ·exact kid _ _ _ _ h3
     split at h3
     ·rw [made_inr h3]; simp
     split at h3
     ·cases h3
     ·rw [nil_of h3]; simp
    ·rw [nil_of h1]; simp
  ·split at h
   ·unfold plainR at h
    split at h
    ·cases h
    ·rw [nil_of h]; simp
   ·rename_i e he
    injection h with h
    subst h
    exact looks_path v d nm kids 0 p c (fun k hk p c hp => look_path v d k nm p c (hgk k hk) hp) he
theorem infer_path {t : NT} {v : EnvT} (hf : fineN t) : (inferX t v).2.1.length ≤ 24 := by
 unfold inferX
 split
 ·rename_i h
  split
  ·split
   ·simp
   ·rename_i p c hp
    exact look_path v 24 t [] p c (show_gd hf h).1 hp
  ·simp
 ·simp
end Go.Abs.Seat
end
section
set_option linter.unusedVariables false
set_option linter.unusedSimpArgs false
namespace Go.Abs.Seat
open Go.Proofs
mutual
theorem clone_fine : ∀ t : NT, fineN t → fineN (cloneN t)
 | .mk op i txt ty s kids, h => by
  simp only [fineN] at h
  simp only [cloneN,mkN,fineN]
  have := clone_fines kids h.2.2.2.2.2
  refine ⟨h.1, h.2.1, h.2.2.1, ?_, clone_ok ty h.2.2.2.2.1, this⟩
  by_cases h0 : (cloneNs kids).length = 0
  ·exact .inl (List.length_eq_zero_iff.1 h0)
  ·right; rw [if_neg h0]
theorem clone_fines : ∀ l : List NT, fineNs l → fineNs (cloneNs l)
 | [], _ => trivial
 | a :: l, h => by
  simp only [fineNs] at h
  simp only [cloneNs,fineNs]
  exact ⟨clone_fine a h.1, clone_fines l h.2⟩
end
theorem envC_h {v : EnvT} (h : EnvH v) : EnvH (envC v) := by
 refine ⟨clone_ok _ h.it, fun t ht => ?_, ?_, by simp [envC]; exact h.len⟩
 ·obtain ⟨u, hu, rfl⟩ := List.mem_map.1 ht
  exact clone_ok u (h.sides u hu)
 ·by_cases h0 : v.sides.length = 0
  ·left; simp [envC, List.length_eq_zero_iff.1 h0]
  ·right; simp [envC, h0]
theorem small_says {t : NT} {v : EnvT} (hh : handN t) (hv : EnvH v) (h : smallE t v = true) : okN t ∧ fineN t ∧ slim v.it ∧ (∀ u ∈ v.sides, slim u) ∧ v.sides.length ≤ 1000000 := by
 unfold smallE at h
 split at h
 ·rename_i h1
  split at h
  ·rename_i h2
   have q0 := fewN_left t 5000 60 (by decide)
   have q1 := few_ok t 5000 60 (by decide) (by decide) hh h1
   have q2 := smallT_left v.it (fewN t 5000 60).2 30 (q0.2.2 h1)
   have q3 := small_slim v.it (fewN t 5000 60).2 30 (q0.2.2 h1) (by omega) h2
   have q4 := small_slims v.sides _ 30 (q2.2.2 h2) (by omega) h
   have q5 := smallTs_left v.sides (smallT v.it (fewN t 5000 60).2 30).2 30 (q2.2.2 h2)
   have q6 := q5.2.2 h
   have q7 := q4.1
   exact ⟨q1.2.1, q1.2.2, q3.2, fun u hu => slims_mem q4.2 u hu, by omega⟩
  ·cases h
 ·cases h
def pairW : List UInt8 := [112, 97, 105, 114]
def int1 : NT := .mk [105, 110, 116] 1 [] (.mk 0 0 []) 0 []
def pairN (t : NT) : NT := .mk pairW 0 [] (.mk 0 0 []) 6 [int1, t]
theorem pair_fine {t : NT} (h : fineN t) : fineN (pairN t) := by
 unfold pairN int1
 simp only [fineN,fineNs]
 refine ⟨by decide, by decide, by decide, .inr trivial, simp_ok 0, ⟨by decide, by decide, by decide, .inl trivial, simp_ok 0, trivial⟩, h, trivial⟩
def firstB (t : NT) (v : EnvT) : Bool :=
 if smallE t v = true then (
  if (showX (pairN (cloneN t))).2 = 0 then (
   if (inferX (cloneN t) (envC v)).2.2 = 20 then decide ((inferX (pairN (cloneN t)) (envC v)).2.2 = (inferX (cloneN t) (envC v)).2.2)
   else if (inferX (cloneN t) (envC v)).2.2 = 0 then ((decide ((inferX (pairN (cloneN t)) (envC v)).2.2 = 0) && decide ((inferX (pairN (cloneN t)) (envC v)).1.k = 6)) || (decide ((inferX (pairN (cloneN t)) (envC v)).2.2 = 50) && decide ((inferX (pairN (cloneN t)) (envC v)).2.1.length = 0)))
   else (decide ((inferX (pairN (cloneN t)) (envC v)).2.2 = (inferX (cloneN t) (envC v)).2.2) && decide ((inferX (pairN (cloneN t)) (envC v)).2.1 = 1 :: (inferX (cloneN t) (envC v)).2.1)))
  else true)
 else true
theorem dg_im (d : Dat) : dgA true (.im d) = .im d := rfl
set_option maxHeartbeats 2000000 in
theorem s4 (t : NT) (v : EnvT) (hh : handN t) (hv : EnvH v) (H : Heap) : L 4 [.im (.agg (encN t)), .im (.agg (encE v))] H = some (.im (.bool (firstB t v)), H) := by
 have c8 := fun H => s8 t v hh hv H
 have c9 := fun H => s9 H
 unfold firstB
 obtain ⟨vk, vt, va, hvit⟩ : ∃ k s a, v.it = .mk k s a := by
  cases hx : v.it with
  | mk k s a => exact ⟨k, s, a, rfl⟩
 have hE0 : encE v = [.int .i64 vk, .sl vt (encTs va), .sl v.ss (v.sides.map encT)] := by unfold encE; rw [hvit]; rfl
 have hN0 : ∃ op i txt tk ts targs s kids, t = .mk op i txt (.mk tk ts targs) s kids := by
  obtain ⟨op, i, txt, ⟨tk, ts, targs⟩, s, kids⟩ := t
  exact ⟨op, i, txt, tk, ts, targs, s, kids, rfl⟩
 have hN1 : ∃ op i txt tk ts targs s kids, cloneN t = .mk op i txt (.mk tk ts targs) s kids := by
  generalize cloneN t = t
  obtain ⟨op, i, txt, ⟨tk, ts, targs⟩, s, kids⟩ := t
  exact ⟨op, i, txt, tk, ts, targs, s, kids, rfl⟩
 obtain ⟨op, i, txt, tk, ts, targs, s, kids, ht⟩ := hN0
 have hNt : encN t = [.str op, .int .i64 i, .str txt, .int .i64 tk, .sl ts (encTs targs), .sl s (encNs kids)] := by rw [ht]; simp only [encN]
 cases hsm : smallE t v with
 | false =>
  rw [if_neg Bool.false_ne_true]
  rw [hsm] at c8
  rw [hNt, hE0] at c8 ⊢
  rw [leq F4]
  obtain ⟨hlen, hx⟩ := enter_at (f := f4) (args := [.im (.agg [.str op, .int .i64 i, .str txt, .int .i64 tk, .sl ts (encTs targs), .sl s (encNs kids)]), .im (.agg [.int .i64 vk, .sl vt (encTs va), .sl v.ss (v.sides.map encT)])]) (Nat.le_of_ble_eq_true rfl)
  have h0 := hx 0 _ rfl
  have h1 := hx 1 _ rfl
  generalize enterA f4 [.im (.agg [.str op, .int .i64 i, .str txt, .int .i64 tk, .sl ts (encTs targs), .sl s (encNs kids)]), .im (.agg [.int .i64 vk, .sl vt (encTs va), .sl v.ss (v.sides.map encT)])] = tm at *
  change tm.length = 85 at hlen
  simp only [f4,B0,B1,B2,List.replicate,reduceCtorEq,lenA,seval,B5,pairK,B4,stays,loadOf,endK,resA,tupA,hlen,h0,h1,c8,c9,dg_im,leave_app]
 | true =>
  rw [if_pos rfl]
  rw [hsm] at c8
  obtain ⟨hok, hf, hs1, hs2, hs3⟩ := small_says hh hv hsm
  have c11 := fun H => s11 t hok H
  have c12 := fun H => s12 v hv hs1 hs2 hs3 H
  have hcf := clone_fine t hf
  have hEh := envC_h hv
  have hpf := pair_fine hcf
  have c14 := fun H => s14 (pairN (cloneN t)) hpf H
  obtain ⟨sa, ca, ha⟩ := s10 (cloneN t) (envC v) hcf (show_gd hcf) hEh (H ++ [NOs op i txt (.mk tk ts targs) s kids, .obj none [[.im (.int .i64 vk), .im (.sl vt (encTs va)), .im (.sl v.ss (v.sides.map encT))]]])
  obtain ⟨op2, i2, txt2, tk2, ts2, targs2, sz2, kids2, ht2⟩ := hN1
  have hNp : encN (pairN (cloneN t)) = [.str pairW, .int .i64 0, .str [], .int .i64 0, .sl 0 [], .sl 6 [[.str [105, 110, 116], .int .i64 1, .str [], .int .i64 0, .sl 0 [], .sl 0 []], encN (cloneN t)]] := by
   unfold pairN int1
   simp only [encN,encNs,encTs]
  have hNc : encN (cloneN t) = [.str op2, .int .i64 i2, .str txt2, .int .i64 tk2, .sl ts2 (encTs targs2), .sl sz2 (encNs kids2)] := by rw [ht2]; simp only [encN]
  rw [hNc] at hNp
  obtain ⟨sb, cb, hb⟩ := s10 (pairN (cloneN t)) (envC v) hpf (show_gd hpf) hEh (H ++ [NOs op i txt (.mk tk ts targs) s kids, .obj none [[.im (.int .i64 vk), .im (.sl vt (encTs va)), .im (.sl v.ss (v.sides.map encT))]], TyO (inferX (cloneN t) (envC v)).1, .obj none [[.im (.str pairW), .im (.int .i64 0), .im (.str []), .im (.int .i64 0), .nils, .im (.sl 6 [[.str [105, 110, 116], .int .i64 1, .str [], .int .i64 0, .sl 0 [], .sl 0 []], [.str op2, .int .i64 i2, .str txt2, .int .i64 tk2, .sl ts2 (encTs targs2), .sl sz2 (encNs kids2)]])]]])
  have hpa := infer_path (t := cloneN t) (v := envC v) hcf
  have hpb := infer_path (t := pairN (cloneN t)) (v := envC v) hpf
  generalize (showX (pairN (cloneN t))).2 = w at *
  generalize inferX (cloneN t) (envC v) = ra at *
  generalize inferX (pairN (cloneN t)) (envC v) = rb at *
  obtain ⟨⟨ka, sta, ara⟩, pa, ea⟩ := ra
  obtain ⟨⟨kb, stb, arb⟩, pb, eb⟩ := rb
  generalize encE (envC v) = ec at *
  simp only [hNp,hNc,hNt,hE0,NOs,TyO,encT,KT.k,KT.s,KT.args] at ca cb c8 c11 c12 c14 ⊢
  rw [leq F4]
  obtain ⟨hlen, hx⟩ := enter_at (f := f4) (args := [.im (.agg [.str op, .int .i64 i, .str txt, .int .i64 tk, .sl ts (encTs targs), .sl s (encNs kids)]), .im (.agg [.int .i64 vk, .sl vt (encTs va), .sl v.ss (v.sides.map encT)])]) (Nat.le_of_ble_eq_true rfl)
  have h0 := hx 0 _ rfl
  have h1 := hx 1 _ rfl
  generalize enterA f4 [.im (.agg [.str op, .int .i64 i, .str txt, .int .i64 tk, .sl ts (encTs targs), .sl s (encNs kids)]), .im (.agg [.int .i64 vk, .sl vt (encTs va), .sl v.ss (v.sides.map encT)])] = tm at *
  change tm.length = 85 at hlen
  have dp : ∀ x, dgA true (.agg [.im (.str pairW), .im (.int .i64 0), .im (.str []), .im (.int .i64 0), .nils, .im x]) = .im (.agg [.str pairW, .int .i64 0, .str [], .int .i64 0, .sl 0 [], x]) := fun _ => rfl
  have td : ∀ x, toDatss [[.im (.str [105, 110, 116]), .im (.int .i64 1), .im (.str []), .im (.int .i64 0), .nils, .nils], [.im (.str op2), .im (.int .i64 i2), .im (.str txt2), .im (.int .i64 tk2), .im (.sl ts2 (encTs targs2)), .im x]] = some [[.str [105, 110, 116], .int .i64 1, .str [], .int .i64 0, .sl 0 [], .sl 0 []], [.str op2, .int .i64 i2, .str txt2, .int .i64 tk2, .sl ts2 (encTs targs2), x]] := fun _ => rfl
  unfold pairW at *
  by_cases hw : w = 0
  ·subst hw
   rw [if_pos rfl]
   have zw : (!decide ((0 : Int) = 0)) = false := rfl
   by_cases h20 : ea = 20
   ·rw [if_pos h20]
    have d20 : decide (ea = 20) = true := decide_eq_true h20
    cases hq : decide (eb = ea) <;>
     simp only [f4,B0,B1,B2,List.replicate,reduceCtorEq,lenA,seval,B5,pairK,B4,stays,loadOf,endK,resA,tupA,hlen,h0,h1,c8,c9,c11,c12,c14,ca,cb,dg_im,dp,td,zw,d20,hq,leave_app]
   ·rw [if_neg h20]
    have d20 : decide (ea = 20) = false := decide_eq_false h20
    by_cases hz : ea = 0
    ·rw [if_pos hz]
     change _ = some (AV.im (Dat.bool ((decide (eb = 0) && decide (kb = 6)) || (decide (eb = 50) && decide (pb.length = 0)))), H)
     have dz : (!decide (ea = 0)) = false := by rw [decide_eq_true hz]; rfl
     have hpl : (rowsP pb).length = pb.length := by simp [rowsP]
     have dl : decide ((pb.length : Int) = 0) = decide (pb.length = 0) := by
      rw [Bool.eq_iff_iff, decide_eq_true_eq, decide_eq_true_eq]; omega
     cases q0 : decide (eb = 0) <;> cases q6 : decide (kb = 6) <;> cases q5 : decide (eb = 50) <;> cases ql : decide (pb.length = 0) <;>
      simp only [f4,B0,B1,B2,List.replicate,reduceCtorEq,lenA,seval,B5,pairK,B4,stays,loadOf,endK,resA,tupA,hlen,h0,h1,c8,c9,c11,c12,c14,ca,cb,dg_im,dp,td,zw,d20,dz,q0,q6,q5,hpl,dl,ql,leave_app] <;> rfl
    ·rw [if_neg hz]
     change _ = some (AV.im (Dat.bool (decide (eb = ea) && decide (pb = 1 :: pa))), H)
     change pa.length ≤ 24 at hpa
     change pb.length ≤ 24 at hpb
     have dz : (!decide (ea = 0)) = true := by rw [decide_eq_false hz]; rfl
     have hel : ∀ H, elems H 1 (.im (.sl sa (rowsP pa))) = some (rowsP pa) := fun H => by
      have ha' : pa = [] ∨ sa = 1 := ha
      cases pa with
      | nil => rfl
      | cons x l =>
       have h1 : sa = 1 := ha'.resolve_left (by simp)
       subst h1
       rfl
     have hrl : (rowsP pa).length = pa.length := by simp [rowsP]
     have apA : ∀ (A : Heap) (tok : Nat), A[tok]? = some (.hw 3 1) → appendA A 3 8 1 (.asl 1 [[.int .i64 1]] tok) (rowsP pa) = some (.asl 1 ([.int .i64 1] :: rowsP pa) tok, A.set tok (.hw 3 (1 + (rowsP pa).length))) := fun A tok hA => by
      unfold appendA
      simp only [hA]
      rw [if_pos ⟨rfl, trivial, by simp only [List.length_cons,List.length_nil]; omega, by decide, trivial⟩]
      rfl
     have td1 : toDatss [[AV.im (.int .i64 1)]] = some [[.int .i64 1]] := rfl
     have da : ∀ l tok, dgA true (.asl 1 l tok) = .im (.sl 1 l) := fun _ _ => rfl
     have c17 := fun H => s17 pb (1 :: pa) sb 1 hb (.inr rfl) (by omega) H
     change ∀ H, L 17 [_, .im (.sl 1 ([.int .i64 1] :: rowsP pa))] H = _ at c17
     generalize decide (pb = 1 :: pa) = bp at *
     cases hq : decide (eb = ea) <;> cases bp <;>
      simp only [f4,B0,B1,B2,List.replicate,reduceCtorEq,lenA,seval,B5,pairK,B4,stays,loadOf,endK,resA,tupA,hlen,h0,h1,c8,c9,c11,c12,c14,ca,cb,dg_im,dp,td,zw,d20,dz,hq,td1,hel,apA,da,c17,leave_app] <;> rfl
  ·rw [if_neg hw]
   have zw : (!decide (w = 0)) = true := by rw [decide_eq_false hw]; rfl
   simp only [f4,B0,B1,B2,List.replicate,reduceCtorEq,lenA,seval,B5,pairK,B4,stays,loadOf,endK,resA,tupA,hlen,h0,h1,c8,c9,c11,c12,c14,ca,cb,dg_im,dp,td,zw,leave_app]
end Go.Abs.Seat
end
section
set_option linter.unusedVariables false
set_option linter.unusedSimpArgs false
namespace Go.Abs.Seat
open Go.Proofs
theorem look_int (v : EnvT) (nm : Nms) : lookX v int1 nm = .inl (.mk 2 0 []) := by
 unfold int1
 simp only [lookX]
 rfl
theorem look_pair (v : EnvT) (t : NT) : lookX v (pairN t) [] = match kidR 1 (lookX v t []) with
  | .inr e => .inr e
  | .inl u => plainR pairW [.mk 2 0 [], u] := by
 unfold pairN
 have h1 := look_int v []
 have nb : ¬ bindsW pairW := by unfold bindsW pairW; decide
 simp only [lookX,looksX,h1]
 simp only [pairW]
 cases lookX v t [] <;> rfl
end Go.Abs.Seat
end
section
set_option linter.unusedVariables false
set_option linter.unusedSimpArgs false
namespace Go.Abs.Seat
open Go.Proofs
def cdOk (c : Int) : Prop := c = 50 ∨ c = 51 ∨ c = 53
theorem kid_cd {j : Nat} {r : RT} {p : List Nat} {c : Int} (h : kidR j r = .inr (p, c)) (hr : ∀ p' c', r = .inr (p', c') → cdOk c') : cdOk c := by
 cases r with
 | inl u => cases h
 | inr x =>
  obtain ⟨p', c'⟩ := x
  simp only [kidR] at h
  injection h with h
  injection h with h1 h2
  subst h2
  exact hr p' c' rfl
theorem cd_of {p : List Nat} {c e : Int} (h : (.inr ([], e) : RT) = .inr (p, c)) (he : cdOk e) : cdOk c := by
 injection h with h; injection h with h1 h2; subst h2; exact he
theorem made_cd {t : KT} {p : List Nat} {c : Int} (h : madeX t = .inr (p, c)) : cdOk c := by
 unfold madeX at h
 split at h
 ·cases h
 ·exact cd_of h (.inl rfl)
theorem looks_code (v : EnvT) (d : Nat) (nm : Nms) : ∀ (kids : List NT) (j : Nat) (p : List Nat) (c : Int), (∀ k ∈ kids, ∀ p c, lookX v k nm = .inr (p, c) → cdOk c) → looksX v kids j nm = .inr (p, c) → cdOk c
 | [], j, p, c, _, h => by simp only [looksX] at h; cases h
 | k :: ks, j, p, c, hk, h => by
  simp only [looksX] at h
  split at h
  ·rename_i e he
   injection h with h
   subst h
   exact kid_cd he fun p' c' hp => hk k (List.mem_cons_self ..) p' c' hp
  ·split at h
   ·cases h
   ·rename_i e he
    injection h with h
    subst h
    exact looks_code v d nm ks (j + 1) p c (fun k' hk' => hk k' (List.mem_cons_of_mem _ hk')) he
theorem look_code (v : EnvT) : ∀ (d : Nat) (t : NT) (nm : Nms) (p : List Nat) (c : Int), Gd d t → lookX v t nm = .inr (p, c) → cdOk c
 | 0, t, nm, p, c, hg, _ => by simp only [Gd] at hg
 | d + 1, .mk op i txt ty s kids, nm, p, c, hg, h => by
  simp only [Gd] at hg
  obtain ⟨_, har, hgk⟩ := hg
  have kid : ∀ j nm' p c, j < kids.length → kidR j (lookAt v kids j nm') = .inr (p, c) → cdOk c := fun j nm' p c hj he => kid_cd he fun p' c' hp => by
   rw [lookAt_get v kids j _ nm' (List.getElem?_eq_getElem hj)] at hp
   exact look_code v d _ nm' p' c' (hgk _ (List.getElem_mem hj)) hp
  simp only [lookX] at h
  split at h
  ·cases h
  split at h
  ·cases h
  split at h
  ·cases h
  split at h
  ·cases h
  split at h
  ·unfold nameX at h
   split at h
   ·cases h
   ·exact cd_of h (by unfold cdOk; decide)
  split at h
  ·exact made_cd h
  split at h
  ·exact made_cd h
  split at h
  ·split at h
   ·exact cd_of h (by unfold cdOk; decide)
   ·cases h
  split at h
  ·rename_i hbw
   unfold bindsR at h
   split at h
   ·rcases then_inr h with h1 | ⟨t, _, h1⟩ <;> exact kid _ _ _ _ (by first | (have := har.l (by assumption); omega) | (have := har.d (by assumption); omega) | (have h3' : kids.length = 3 := (by rcases hbw with hh | hh | hh | hh <;> first | exact har.l hh | exact har.m hh | exact har.f hh | (exfalso; simp_all [foldW])); omega)) h1
   split at h
   ·rcases then_inr h with h1 | ⟨t, _, h1⟩
    ·exact kid _ _ _ _ (by first | (have := har.l (by assumption); omega) | (have := har.d (by assumption); omega) | (have h3' : kids.length = 3 := (by rcases hbw with hh | hh | hh | hh <;> first | exact har.l hh | exact har.m hh | exact har.f hh | (exfalso; simp_all [foldW])); omega)) h1
    rcases then_inr h1 with h2 | ⟨t1, _, h2⟩
    ·exact kid _ _ _ _ (by first | (have := har.l (by assumption); omega) | (have := har.d (by assumption); omega) | (have h3' : kids.length = 3 := (by rcases hbw with hh | hh | hh | hh <;> first | exact har.l hh | exact har.m hh | exact har.f hh | (exfalso; simp_all [foldW])); omega)) h2
    split at h2
    ·rcases then_inr h2 with h3 | ⟨t4, _, h3⟩
     ·exact kid _ _ _ _ (by first | (have := har.l (by assumption); omega) | (have := har.d (by assumption); omega) | (have h3' : kids.length = 3 := (by rcases hbw with hh | hh | hh | hh <;> first | exact har.l hh | exact har.m hh | exact har.f hh | (exfalso; simp_all [foldW])); omega)) h3
     split at h3
     ·cases h3
     ·exact cd_of h3 (by unfold cdOk; decide)
    ·exact cd_of h2 (by unfold cdOk; decide)
   ·rcases then_inr h with h1 | ⟨t, _, h1⟩
    ·exact kid _ _ _ _ (by first | (have := har.l (by assumption); omega) | (have := har.d (by assumption); omega) | (have h3' : kids.length = 3 := (by rcases hbw with hh | hh | hh | hh <;> first | exact har.l hh | exact har.m hh | exact har.f hh | (exfalso; simp_all [foldW])); omega)) h1
    split at h1
    ·rcases then_inr h1 with h3 | ⟨t4, _, h3⟩
     ·exact kid _ _ _ _ (by first | (have := har.l (by assumption); omega) | (have := har.d (by assumption); omega) | (have h3' : kids.length = 3 := (by rcases hbw with hh | hh | hh | hh <;> first | exact har.l hh | exact har.m hh | exact har.f hh | (exfalso; simp_all [foldW])); omega)) h3
     split at h3
     ·exact made_cd h3
     split at h3
     ·cases h3
     ·exact cd_of h3 (by unfold cdOk; decide)
    ·exact cd_of h1 (by unfold cdOk; decide)
  ·split at h
   ·unfold plainR at h
    split at h
    ·cases h
    ·exact cd_of h (by unfold cdOk; decide)
   ·rename_i e he
    injection h with h
    subst h
    exact looks_code v d nm kids 0 p c (fun k hk p c hp => look_code v d k nm p c (hgk k hk) hp) he
end Go.Abs.Seat
end
section
set_option linter.unusedVariables false
set_option linter.unusedSimpArgs false
namespace Go.Abs.Seat
open Go.Proofs
theorem pair_plain (u : KT) : plainR pairW [.mk 2 0 [], u] = if rightT (.mk 6 2 [.mk 2 0 [], u]) 6 = true then .inl (.mk 6 2 [.mk 2 0 [], u]) else .inr ([], 50) := rfl
theorem first_true (t : NT) (v : EnvT) (hh : handN t) (hv : EnvH v) : firstB t v = true := by
 unfold firstB
 by_cases hs : smallE t v = true
 rotate_left
 ·rw [if_neg hs]
 rw [if_pos hs]
 have hf := clone_fine t (small_says hh hv hs).2.1
 generalize cloneN t = t' at *
 generalize envC v = v'
 by_cases hp : (showX (pairN t')).2 = 0
 rotate_left
 ·rw [if_neg hp]
 rw [if_pos hp]
 have ht : (showX t').2 = 0 := kids_right pairW [] 0 (.mk 0 0 []) 6 [int1, t'] hp t' (by simp)
 have i1 : inferX t' v' = if envR v' = true then (match lookX v' t' [] with | .inl u => (cloneT u, [], 0) | .inr (p, c) => (zeroT, p, c)) else (zeroT, [], 20) := (by unfold inferX; rw [if_pos ht]; try rfl)
 have i2 : inferX (pairN t') v' = if envR v' = true then (match lookX v' (pairN t') [] with | .inl u => (cloneT u, [], 0) | .inr (p, c) => (zeroT, p, c)) else (zeroT, [], 20) := (by unfold inferX; rw [if_pos hp]; try rfl)
 by_cases he : envR v' = true
 rotate_left
 ·rw [if_neg he] at i1 i2
  rw [i1, i2]; rfl
 rw [if_pos he] at i1 i2
 rw [look_pair] at i2
 cases hl : lookX v' t' [] with
 | inr x =>
  obtain ⟨p, c⟩ := x
  have hc := look_code v' 24 t' [] p c (show_gd hf ht).1 hl
  rw [hl] at i1 i2
  simp only [kidR] at i1 i2
  rw [i1, i2]
  rcases hc with rfl | rfl | rfl <;> simp
 | inl u =>
  rw [hl] at i1 i2
  simp only [kidR,pair_plain] at i1 i2
  rw [i1]
  by_cases hr : rightT (.mk 6 2 [.mk 2 0 [], u]) 6 = true
  ·rw [if_pos hr] at i2
   rw [i2]; simp [cloneT, KT.k]
  ·rw [if_neg hr] at i2
   rw [i2]; simp
theorem s4t (t : NT) (v : EnvT) (hh : handN t) (hv : EnvH v) : ∃ H', L 4 [.im (.agg (encN t)), .im (.agg (encE v))] [] = some (.im (.bool true), H') := ⟨[], by rw [s4 t v hh hv, first_true t v hh hv]⟩
end Go.Abs.Seat
end
section
set_option linter.unusedVariables false
set_option linter.unusedSimpArgs false
namespace Go.Abs.Seat
open Go.Proofs Go.Abs Go.ChangeShapes
section
variable {Hd : Type} {enc : TypeId × Value → Hd} {P : Program} {w : World}
theorem reads_map {n : Nat} {t : TypeId} {α β : Type} {ea : α → List Dat} {eb : β → List Dat} {ga : α → Prop} {gb : β → Prop} (h : Reads enc P w n t α ea ga) (hm : ∀ a, ga a → ∃ b, gb b ∧ eb b = ea a) : Reads enc P w n t β eb gb := by
 intro cs x hx
 obtain ⟨a, hg, hr, hl, hc⟩ := h cs x hx
 obtain ⟨b, hb, he⟩ := hm a hg
 exact ⟨b, hb, by rw [he]; exact hr, by rw [he]; exact hl, by rw [he]; exact hc⟩
theorem reads_zero {t : TypeId} {α : Type} {en : α → List Dat} {good : α → Prop} : Reads enc P w 0 t α en good := by
 intro cs x hx
 simp [DataW.trod] at hx
theorem readsT : ∀ n, Reads enc Tryz.prog w n 24 KT encT okT ∧ Reads enc Tryz.prog w n 22 (List KT) (fun l => [.sl 2 (l.map encT)]) (fun l => (∀ a ∈ l, okT a) ∧ l.length ≤ maxLen)
 | 0 => ⟨reads_zero, reads_zero⟩
 | n + 1 => by
  obtain ⟨h1, h2⟩ := readsT n
  have hc : Tryz.prog.cellsOf 24 = 2 := by kernel_rfl
  have h3 : Reads enc Tryz.prog w n 3 Int (fun z => [.int .i64 z]) (fun z => (Lit.int .i64 z).wf = true) := reads_int Tryz.underlying3 (by kernel_rfl)
  have hsl := reads_slice (n := n) (enc := enc) (w := w) Tryz.underlying22 (by kernel_rfl) (by rw [hc]; decide) h1
  rw [hc] at hsl
  refine ⟨?_, hsl⟩
  have hF := readsF_cons (f := { name := "Kind", type := 3, offset := 0, embedded := false, tag := "", pkgPath := "", byteOffset := 0 }) (L := 2) (o := 0) (o' := 1) rfl (by kernel_rfl) (by decide) h3
   (readsF_cons (f := { name := "Args", type := 22, offset := 1, embedded := false, tag := "", pkgPath := "", byteOffset := 8 }) (L := 2) (o := 1) (o' := 2) rfl (by kernel_rfl) (by decide) h2 readsF_nil)
  have hs := reads_struct (t := 24) (enc := enc) (w := w) Tryz.underlying24 (by rw [hc]; exact hF)
  refine reads_map hs fun ⟨k, l, u⟩ ⟨_, ⟨hg, hl⟩, _⟩ => ⟨.mk k 2 l, ?_, ?_⟩
  ·simp only [okT]
   refine ⟨.inr trivial, by simpa [maxLen] using hl, ?_⟩
   have : ∀ l : List KT, (∀ a ∈ l, okT a) → okTs l := by
    intro l
    induction l with
    | nil => intro _; simp only [okTs]
    | cons a l ih => intro h; simp only [okTs]; exact ⟨h a (by simp), ih fun x hx => h x (by simp [hx])⟩
   exact this l hg
  ·simp only [encT,encTs_map]
   rfl
theorem readsN : ∀ n, Reads enc Tryz.prog w n 27 NT encN handN ∧ Reads enc Tryz.prog w n 25 (List NT) (fun l => [.sl 6 (l.map encN)]) (fun l => (∀ a ∈ l, handN a) ∧ l.length ≤ maxLen)
 | 0 => ⟨reads_zero, reads_zero⟩
 | n + 1 => by
  obtain ⟨h1, h2⟩ := readsN n
  have hc : Tryz.prog.cellsOf 27 = 6 := by kernel_rfl
  have h3 : Reads enc Tryz.prog w n 3 Int (fun z => [.int .i64 z]) (fun z => (Lit.int .i64 z).wf = true) := reads_int Tryz.underlying3 (by kernel_rfl)
  have h9 : Reads enc Tryz.prog w n 9 (List UInt8) (fun s => [.str s]) (fun s => s.length ≤ maxLen) := reads_str Tryz.underlying9 (by kernel_rfl)
  have hsl := reads_slice (n := n) (enc := enc) (w := w) Tryz.underlying25 (by kernel_rfl) (by rw [hc]; decide) h1
  rw [hc] at hsl
  refine ⟨?_, hsl⟩
  have hF := readsF_cons (f := { name := "Op", type := 9, offset := 0, embedded := false, tag := "", pkgPath := "", byteOffset := 0 }) (L := 6) (o := 0) (o' := 1) rfl (by kernel_rfl) (by decide) h9
   (readsF_cons (f := { name := "Int", type := 3, offset := 1, embedded := false, tag := "", pkgPath := "", byteOffset := 16 }) (L := 6) (o := 1) (o' := 2) rfl (by kernel_rfl) (by decide) h3
   (readsF_cons (f := { name := "Text", type := 9, offset := 2, embedded := false, tag := "", pkgPath := "", byteOffset := 24 }) (L := 6) (o := 2) (o' := 3) rfl (by kernel_rfl) (by decide) h9
   (readsF_cons (f := { name := "Type", type := 24, offset := 3, embedded := false, tag := "", pkgPath := "", byteOffset := 40 }) (L := 6) (o := 3) (o' := 5) rfl (by kernel_rfl) (by decide) (readsT n).1
   (readsF_cons (f := { name := "Kids", type := 25, offset := 5, embedded := false, tag := "", pkgPath := "", byteOffset := 72 }) (L := 6) (o := 5) (o' := 6) rfl (by kernel_rfl) (by decide) h2 readsF_nil))))
  have hs := reads_struct (t := 27) (enc := enc) (w := w) Tryz.underlying27 (by rw [hc]; exact hF)
  refine reads_map hs fun ⟨op, i, txt, ty, l, u⟩ ⟨_, hi, _, hty, ⟨hg, hl⟩, _⟩ => ⟨.mk op i txt ty 6 l, ?_, ?_⟩
  ·simp only [handN]
   refine ⟨?_, .inr trivial, by simpa [maxLen] using hl, hty, ?_⟩
   ·simp only [Lit.wf,Bool.and_eq_true,decide_eq_true_eq] at hi
    exact hi
   ·have : ∀ l : List NT, (∀ a ∈ l, handN a) → handNs l := by
     intro l
     induction l with
     | nil => intro _; simp only [handNs]
     | cons a l ih => intro h; simp only [handNs]; exact ⟨h a (by simp), ih fun x hx => h x (by simp [hx])⟩
    exact this l hg
  ·obtain ⟨k, sa, args⟩ := ty
   simp only [encN,encT,encTs_map,encNs_map]
   rfl
theorem readsE : ∀ n, Reads enc Tryz.prog w n 29 EnvT encE EnvH
 | 0 => reads_zero
 | n + 1 => by
  have hc : Tryz.prog.cellsOf 29 = 3 := by kernel_rfl
  have hF := readsF_cons (f := { name := "It", type := 24, offset := 0, embedded := false, tag := "", pkgPath := "", byteOffset := 0 }) (L := 3) (o := 0) (o' := 2) rfl (by kernel_rfl) (by decide) (readsT (enc := enc) (w := w) n).1
   (readsF_cons (f := { name := "Sides", type := 22, offset := 2, embedded := false, tag := "", pkgPath := "", byteOffset := 32 }) (L := 3) (o := 2) (o' := 3) rfl (by kernel_rfl) (by decide) (readsT n).2 readsF_nil)
  have hs := reads_struct (t := 29) (enc := enc) (w := w) Tryz.underlying29 (by rw [hc]; exact hF)
  refine reads_map hs fun ⟨it, l, u⟩ ⟨hit, ⟨hg, hl⟩, _⟩ => ⟨⟨it, 2, l⟩, ?_, ?_⟩
  ·exact ⟨hit, hg, .inr rfl, by simpa [maxLen] using hl⟩
  ·obtain ⟨k, s, a⟩ := it
   simp only [encE,encT,KT.k,KT.s,KT.args]
   rfl
structure ChoiceT where
 c : NT
 x : NT
 y : NT
 v : EnvT
structure ChoiceH (z : ChoiceT) : Prop where
 c : handN z.c
 x : handN z.x
 y : handN z.y
 v : EnvH z.v
end
end Go.Abs.Seat
end
