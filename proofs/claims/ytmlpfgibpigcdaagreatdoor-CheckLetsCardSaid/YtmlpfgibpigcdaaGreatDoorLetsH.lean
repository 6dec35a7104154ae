/- Part 8 of what the claim rests on. -/
import Derived.Test.YtmlpfgibpigcdaaGreatDoorLetsA
import Derived.Test.YtmlpfgibpigcdaaGreatDoorLetsB
import Derived.Test.YtmlpfgibpigcdaaGreatDoorLetsC
import Derived.Test.YtmlpfgibpigcdaaGreatDoorLetsD
import Derived.Test.YtmlpfgibpigcdaaGreatDoorLetsE
import Derived.Test.YtmlpfgibpigcdaaGreatDoorLetsF
import Derived.Test.YtmlpfgibpigcdaaGreatDoorLetsG
section
set_option linter.unusedVariables false
set_option linter.unusedSimpArgs false
namespace Go.Abs.Seat
open Go.Proofs
def Rt (t : KT) : Prop := okT t ∧ rightT t 6 = true
def sameR (a b : KT) : Bool := rightT a 6 && (rightT b 6 && sameT a b)
theorem right_cnt {k : Int} {s : Nat} {args : List KT} (h : rightT (.mk k s args) 6 = true) (h7 : k = 7 ∨ k = 9) : 0 < args.length := by
 rw [right_iff] at h
 obtain ⟨⟨w, hw, h1, h2⟩, _⟩ := h
 have key : ∀ w ∈ words, (w.1 = 7 ∨ w.1 = 9) → 0 < w.2.2 := by decide
 have := key w hw (by rw [h1]; exact h7)
 omega
theorem right_cnt2 {k : Int} {s : Nat} {args : List KT} (h : rightT (.mk k s args) 6 = true) (h7 : k = 6) : args.length = 2 := by
 rw [right_iff] at h
 obtain ⟨⟨w, hw, h1, h2⟩, _⟩ := h
 have key : ∀ w ∈ words, w.1 = 6 → w.2.2 = 2 := by decide
 have := key w hw (by rw [h1]; exact h7)
 omega
def TyO (t : KT) : HO := .obj none [[.im (.int .i64 t.k), .im (.sl t.s (encTs t.args))]]
noncomputable def K55 (H : Heap) := blockK 0 (seqK L Λ (.seq h55_6 h55_7) (endK f55 H))
structure Pl (op : List UInt8) (ts : List KT) (t0 tl : KT) (tok : Nat) (H : Heap) (tm : List AV) : Prop where
 len : tm.length = 165
 r0 : tm.getD 0 undefA = .im (.str op)
 r1 : tm.getD 1 undefA = .asl 2 (ts.map encT) tok
 r4 : tm.getD 4 undefA = .ptr H.length 0 0
 r6 : tm.getD 6 undefA = .ptr (H.length + 1) 0 0
 r7 : tm.getD 7 undefA = .ptr (H.length + 2) 0 0
 r8 : tm.getD 8 undefA = .im (.bool (sameR t0 tl))
 r9 : tm.getD 9 undefA = .ptr (H.length + 3) 0 0
 r10 : tm.getD 10 undefA = .im (.bool (argX t0 7 0).2)
 r30 : tm.getD 30 undefA = .im (.str op)
theorem Pl.same {op : List UInt8} {ts : List KT} {t0 tl : KT} {tok : Nat} {H : Heap} {tm tm' : List AV} (h : Pl op ts t0 tl tok H tm) (hl : tm'.length = 165) (hs : Same [0, 1, 4, 5, 6, 7, 8, 9, 10, 30] tm tm') : Pl op ts t0 tl tok H tm' :=
 ⟨hl, (hs 0 (by simp)).trans h.r0, (hs 1 (by simp)).trans h.r1, (hs 4 (by simp)).trans h.r4, (hs 6 (by simp)).trans h.r6, (hs 7 (by simp)).trans h.r7, (hs 8 (by simp)).trans h.r8, (hs 9 (by simp)).trans h.r9, (hs 10 (by simp)).trans h.r10, (hs 30 (by simp)).trans h.r30⟩
theorem pre55 (op : List UInt8) (ts : List KT) (t0 tl : KT) (n : Nat) (hn : ts.length = n + 1) (hn2 : n ≤ 1000) (h0 : ts[0]? = some t0) (hl : ts[n]? = some tl) (ht0 : Rt t0) (htl : Rt tl) (tok : Nat) (H : Heap) :
  ∃ tm, L 55 [.im (.str op), .asl 2 (ts.map encT) tok] H = exec0 L Λ x55_0 tm (H ++ [.obj none [[.im (.int .i64 0), .nils]], TyO t0, TyO tl, TyO (argX t0 7 0).1]) (K55 H) ∧ Pl op ts t0 tl tok H tm := by
 have c16 := fun H => s16 t0 tl ht0.1 htl.1 H
 change ∀ H, L 16 _ H = some (.im (.bool (sameR t0 tl)), H) at c16
 have c36 := fun H => s36 t0 ht0.1 7 0 (fun h => right_cnt (k := t0.k) (s := t0.s) (args := t0.args) (by cases t0; exact ht0.2) (.inl h)) H
 have hp8 : ∀ (tm : List AV), (tm.getD 8 undefA = .im (.bool (sameR t0 tl))) = (tm.getD 8 undefA = .im (.bool (sameR t0 tl))) := fun _ => rfl
 have key : ∀ sm ag, sameR t0 tl = sm → argX t0 7 0 = ag → ∃ tm, L 55 [.im (.str op), .asl 2 (ts.map encT) tok] H = exec0 L Λ x55_0 tm (H ++ [.obj none [[.im (.int .i64 0), .nils]], TyO t0, TyO tl, TyO ag.1]) (K55 H) ∧ Pl op ts t0 tl tok H tm := by
  intro sm ag es ea
  rw [es] at c16
  rw [ea] at c36
  have hg0 : (ts.map encT)[0]? = some (encT t0) := by rw [List.getElem?_map, h0]; rfl
  have hgl : (ts.map encT)[n]? = some (encT tl) := by rw [List.getElem?_map, hl]; rfl
  have hml : (ts.map encT).length = n + 1 := by rw [List.length_map, hn]
  obtain ⟨⟨k3, s3, a3⟩, ok3⟩ := ag
  obtain ⟨k1, s1, a1⟩ := t0
  obtain ⟨k2, s2, a2⟩ := tl
  simp only [encT,TyO,KT.k,KT.s,KT.args] at c16 c36 hg0 hgl ⊢
  have z0 : ((0 : Nat) : Int) = 0 := rfl
  rw [z0] at c36
  have w1 : IntKind.i64.wrap (((n + 1 : Nat) : Int) - 1) = ((n : Nat) : Int) := by rw [show (((n + 1 : Nat) : Int) - 1) = ((n : Nat) : Int) by omega]; exact Go.Abs.Seat.wrap_small _ (by omega)
  have i0 : idx (.im (.int .i64 0)) (n + 1) = some 0 := idx_nat (i := 0) (by omega)
  have i1 : idx (.im (.int .i64 ((n : Nat) : Int))) (n + 1) = some n := idx_nat (by omega)
  rw [leq F55]
  obtain ⟨hlen, hg⟩ := enter_at (f := f55) (args := [.im (.str op), .asl 2 (ts.map encT) tok]) (Nat.le_of_ble_eq_true rfl)
  have h0 := hg 0 _ rfl
  have h1 := hg 1 _ rfl
  generalize enterA f55 [.im (.str op), .asl 2 (ts.map encT) tok] = tm at *
  change tm.length = 165 at hlen
  have hc : f55.code = (.seq h55_0 (.seq h55_1 (.seq h55_2 (.seq h55_3 (.seq h55_4 (.seq (.seq h55_5 (.block 0 x55_0)) (.seq h55_6 h55_7))))))) := congrArg AFunc.code f55_code
  rw [hc]
  unfold K55
  simp only [h55_0,h55_1,h55_2,h55_3,h55_4,h55_5,B0,B1,B2,List.replicate,reduceCtorEq,lenA,seval,hlen,h0,h1,hml,hg0,hgl,c16,c36,w1,i0,i1]
  refine ⟨_, rfl, ?_⟩
  rw [← es] at *
  exact ⟨by simp only [List.length_set,hlen], by simp only [B3,seval,hlen,h0], by simp only [B3,seval,hlen,h1], by simp only [B3,seval,hlen], by simp only [B3,seval,hlen], by simp only [B3,seval,hlen], by simp only [B3,seval,hlen,es], by simp only [B3,seval,hlen], by simp only [B3,seval,hlen,ea], by simp only [B3,seval,hlen]⟩
 exact key _ _ rfl rfl
end Go.Abs.Seat
end
section
set_option linter.unusedVariables false
set_option linter.unusedSimpArgs false
namespace Go.Abs.Seat
open Go.Proofs
theorem s83 (t u : KT) (l : Nat) (ht : Rt t) (hu : Rt u) (H : Heap) (ho : H[l]? = some (TyO u)) : L 83 ([.im (.agg (encT t))] ++ [.ptr l 0 0]) H = some (.im (.bool (!sameR t u)), H) := by
 have c16 := fun H => s16 t u ht.1 hu.1 H
 change ∀ H, L 16 _ H = some (.im (.bool (sameR t u)), H) at c16
 generalize sameR t u = sm at *
 obtain ⟨k1, s1, a1⟩ := t
 obtain ⟨k2, s2, a2⟩ := u
 have hob : ∀ M : Heap, (H ++ M)[l]? = some (.obj none [[.im (.int .i64 k2), .im (.sl s2 (encTs a2))]]) := fun M => by rw [List.getElem?_append_left (List.getElem?_eq_some_iff.1 ho).1]; exact ho
 simp only [encT] at c16 ⊢
 rw [leq F83]
 obtain ⟨hlen, hg⟩ := enter_at (f := f83) (args := [.im (.agg [.int .i64 k1, .sl s1 (encTs a1)]), .ptr l 0 0]) (Nat.le_of_ble_eq_true rfl)
 have h0 := hg 0 _ rfl
 have h1 := hg 1 _ rfl
 rw [List.cons_append, List.nil_append]
 generalize enterA f83 [.im (.agg [.int .i64 k1, .sl s1 (encTs a1)]), .ptr l 0 0] = tm at *
 change tm.length = 8 at hlen
 simp only [f83,B0,B1,B2,List.replicate,reduceCtorEq,lenA,seval,endK,resA,tupA,hlen,h0,h1,hob,c16,leave_app]
theorem res55 : f55.results = [(4, (some (some 2))), (5, none)] := _root_.id rfl
theorem keep55 : f55.keep = false := _root_.id rfl
theorem w55_0 (op : List UInt8) (ts : List KT) (t0 tl : KT) (n : Nat) (hn : ts.length = n + 1) (hn2 : n ≤ 999) (hg0 : ts[0]? = some t0) (hgl : ts[n]? = some tl) (hR : ∀ t ∈ ts, Rt t) (tok : Nat) (H : Heap)
  (tm : List AV) (h : Pl op ts t0 tl tok H tm) (hw : op = [97, 100, 100] ∨ op = [115, 117, 98] ∨ op = [109, 117, 108]) :
  exec0 L Λ x55_0 tm (H ++ [.obj none [[.im (.int .i64 0), .nils]], TyO t0, TyO tl, TyO (argX t0 7 0).1]) (K55 H) = some (.tup [.im (.agg (encT t0)), .im (.bool (sameR t0 tl && (decide (t0.k = 2) || decide (t0.k = 5))))], H) := by
 have ht0 : Rt t0 := hR _ (List.mem_of_getElem? hg0)
 have htl : Rt tl := hR _ (List.mem_of_getElem? hgl)
 obtain ⟨hlen, r0, rr1, r4, r6, r7, r8, r9, r10, r30⟩ := h
 have hml : (ts.map encT).length = n + 1 := by rw [List.length_map, hn]
 have hE : ∀ l : List KT, encTs l = l.map encT := fun l => by induction l with | nil => rfl | cons a l ih => simp only [encTs,List.map_cons,ih]
 generalize hsm : sameR t0 tl = sm0 at *
 generalize hag : argX t0 7 0 = ag at *
 obtain ⟨⟨k5, s5, a5⟩, ok5⟩ := ag
 obtain ⟨k1, s1, a1⟩ := t0
 obtain ⟨k2, s2, a2⟩ := tl
 change exec0 L Λ x55_0 tm (H ++ [.obj none [[.im (.int .i64 0), .nils]], .obj none [[.im (.int .i64 k1), .im (.sl s1 (encTs a1))]], .obj none [[.im (.int .i64 k2), .im (.sl s2 (encTs a2))]], .obj none [[.im (.int .i64 k5), .im (.sl s5 (encTs a5))]]]) (K55 H) = some (.tup [.im (.agg [.int .i64 k1, .sl s1 (encTs a1)]), .im (.bool (sm0 && (decide (k1 = 2) || decide (k1 = 5))))], H)
 rcases hw with rfl | rfl | rfl
 ·have q0 : decide (([97, 100, 100] : List UInt8) = [97, 100, 100]) = true := rfl
  cases hk2 : decide (k1 = 2) <;> cases hk5 : decide (k1 = 5) <;> cases sm0 <;>
   (simp only [x55_0,g55_0,a55_0,B0,B1,B2,List.replicate,reduceCtorEq,lenA,seval,B5,pairK,B4,stays,loadOf,K55,endK,resA,tupA,hlen,r0,rr1,r4,r6,r7,r8,r9,r10,r30,hml,q0,hk2,hk5,res55,keep55,leave_app,leave_tup2]) <;> (try (rw [hk2, hk5])) <;> first | done | rfl | skip
 ·have q0 : decide (([115, 117, 98] : List UInt8) = [97, 100, 100]) = false := rfl
  have q1 : decide (([115, 117, 98] : List UInt8) = [115, 117, 98]) = true := rfl
  cases hk2 : decide (k1 = 2) <;> cases hk5 : decide (k1 = 5) <;> cases sm0 <;>
   (simp only [x55_0,g55_0,a55_0,B0,B1,B2,List.replicate,reduceCtorEq,lenA,seval,B5,pairK,B4,stays,loadOf,K55,endK,resA,tupA,hlen,r0,rr1,r4,r6,r7,r8,r9,r10,r30,hml,q0,q1,hk2,hk5,res55,keep55,leave_app,leave_tup2]) <;> (try (rw [hk2, hk5])) <;> first | done | rfl | skip
 ·have q0 : decide (([109, 117, 108] : List UInt8) = [97, 100, 100]) = false := rfl
  have q1 : decide (([109, 117, 108] : List UInt8) = [115, 117, 98]) = false := rfl
  have q2 : decide (([109, 117, 108] : List UInt8) = [109, 117, 108]) = true := rfl
  cases hk2 : decide (k1 = 2) <;> cases hk5 : decide (k1 = 5) <;> cases sm0 <;>
   (simp only [x55_0,g55_0,a55_0,B0,B1,B2,List.replicate,reduceCtorEq,lenA,seval,B5,pairK,B4,stays,loadOf,K55,endK,resA,tupA,hlen,r0,rr1,r4,r6,r7,r8,r9,r10,r30,hml,q0,q1,q2,hk2,hk5,res55,keep55,leave_app,leave_tup2]) <;> (try (rw [hk2, hk5])) <;> first | done | rfl | skip
theorem w55_1 (op : List UInt8) (ts : List KT) (t0 tl : KT) (n : Nat) (hn : ts.length = n + 1) (hn2 : n ≤ 999) (hg0 : ts[0]? = some t0) (hgl : ts[n]? = some tl) (hR : ∀ t ∈ ts, Rt t) (tok : Nat) (H : Heap)
  (tm : List AV) (h : Pl op ts t0 tl tok H tm) (hw : op = [110, 101, 103]) :
  exec0 L Λ x55_1 tm (H ++ [.obj none [[.im (.int .i64 0), .nils]], TyO t0, TyO tl, TyO (argX t0 7 0).1]) (K55 H) = some (.tup [.im (.agg (encT t0)), .im (.bool (decide (t0.k = 2) || decide (t0.k = 5)))], H) := by
 have ht0 : Rt t0 := hR _ (List.mem_of_getElem? hg0)
 have htl : Rt tl := hR _ (List.mem_of_getElem? hgl)
 obtain ⟨hlen, r0, rr1, r4, r6, r7, r8, r9, r10, r30⟩ := h
 have hml : (ts.map encT).length = n + 1 := by rw [List.length_map, hn]
 have hE : ∀ l : List KT, encTs l = l.map encT := fun l => by induction l with | nil => rfl | cons a l ih => simp only [encTs,List.map_cons,ih]
 generalize hsm : sameR t0 tl = sm0 at *
 generalize hag : argX t0 7 0 = ag at *
 obtain ⟨⟨k5, s5, a5⟩, ok5⟩ := ag
 obtain ⟨k1, s1, a1⟩ := t0
 obtain ⟨k2, s2, a2⟩ := tl
 change exec0 L Λ x55_1 tm (H ++ [.obj none [[.im (.int .i64 0), .nils]], .obj none [[.im (.int .i64 k1), .im (.sl s1 (encTs a1))]], .obj none [[.im (.int .i64 k2), .im (.sl s2 (encTs a2))]], .obj none [[.im (.int .i64 k5), .im (.sl s5 (encTs a5))]]]) (K55 H) = some (.tup [.im (.agg [.int .i64 k1, .sl s1 (encTs a1)]), .im (.bool (decide (k1 = 2) || decide (k1 = 5)))], H)
 rcases hw with rfl
 ·have q0 : decide (([110, 101, 103] : List UInt8) = [110, 101, 103]) = true := rfl
  cases hk2 : decide (k1 = 2) <;> cases hk5 : decide (k1 = 5) <;>
   (simp only [x55_1,g55_1,a55_1,B0,B1,B2,List.replicate,reduceCtorEq,lenA,seval,B5,pairK,B4,stays,loadOf,K55,endK,resA,tupA,hlen,r0,rr1,r4,r6,r7,r8,r9,r10,r30,hml,q0,hk2,hk5,res55,keep55,leave_app,leave_tup2]) <;> (try (rw [hk2, hk5])) <;> first | done | rfl | skip
theorem w55_2 (op : List UInt8) (ts : List KT) (t0 tl : KT) (n : Nat) (hn : ts.length = n + 1) (hn2 : n ≤ 999) (hg0 : ts[0]? = some t0) (hgl : ts[n]? = some tl) (hR : ∀ t ∈ ts, Rt t) (tok : Nat) (H : Heap)
  (tm : List AV) (h : Pl op ts t0 tl tok H tm) (hw : op = [100, 105, 118] ∨ op = [109, 111, 100]) :
  exec0 L Λ x55_2 tm (H ++ [.obj none [[.im (.int .i64 0), .nils]], TyO t0, TyO tl, TyO (argX t0 7 0).1]) (K55 H) = some (.tup [.im (.agg (encT t0)), .im (.bool (kindsX ts [2, 2]))], H) := by
 have ht0 : Rt t0 := hR _ (List.mem_of_getElem? hg0)
 have htl : Rt tl := hR _ (List.mem_of_getElem? hgl)
 obtain ⟨hlen, r0, rr1, r4, r6, r7, r8, r9, r10, r30⟩ := h
 have hml : (ts.map encT).length = n + 1 := by rw [List.length_map, hn]
 have hE : ∀ l : List KT, encTs l = l.map encT := fun l => by induction l with | nil => rfl | cons a l ih => simp only [encTs,List.map_cons,ih]
 have c82 := fun H => s82 ts [2, 2] (some tok) 2 1 (.inr rfl) (.inr rfl) (by omega) H
 simp only [slV,intsD,List.map_cons,List.map_nil] at c82
 have td : toDatss [[AV.im (.int .i64 2)], [.im (.int .i64 2)]] = some [[.int .i64 2], [.int .i64 2]] := rfl
 generalize hsm : sameR t0 tl = sm0 at *
 generalize hag : argX t0 7 0 = ag at *
 obtain ⟨⟨k5, s5, a5⟩, ok5⟩ := ag
 obtain ⟨k1, s1, a1⟩ := t0
 obtain ⟨k2, s2, a2⟩ := tl
 change exec0 L Λ x55_2 tm (H ++ [.obj none [[.im (.int .i64 0), .nils]], .obj none [[.im (.int .i64 k1), .im (.sl s1 (encTs a1))]], .obj none [[.im (.int .i64 k2), .im (.sl s2 (encTs a2))]], .obj none [[.im (.int .i64 k5), .im (.sl s5 (encTs a5))]]]) (K55 H) = some (.tup [.im (.agg [.int .i64 k1, .sl s1 (encTs a1)]), .im (.bool (kindsX ts [2, 2]))], H)
 rcases hw with rfl | rfl
 ·have q0 : decide (([100, 105, 118] : List UInt8) = [100, 105, 118]) = true := rfl
  (simp only [x55_2,g55_2,a55_2,B0,B1,B2,List.replicate,reduceCtorEq,lenA,seval,B5,pairK,B4,stays,loadOf,K55,endK,resA,tupA,hlen,r0,rr1,r4,r6,r7,r8,r9,r10,r30,hml,q0,c82,td,res55,keep55,leave_app,leave_tup2])
 ·have q0 : decide (([109, 111, 100] : List UInt8) = [100, 105, 118]) = false := rfl
  have q1 : decide (([109, 111, 100] : List UInt8) = [109, 111, 100]) = true := rfl
  (simp only [x55_2,g55_2,a55_2,B0,B1,B2,List.replicate,reduceCtorEq,lenA,seval,B5,pairK,B4,stays,loadOf,K55,endK,resA,tupA,hlen,r0,rr1,r4,r6,r7,r8,r9,r10,r30,hml,q0,q1,c82,td,res55,keep55,leave_app,leave_tup2])
theorem w55_3 (op : List UInt8) (ts : List KT) (t0 tl : KT) (n : Nat) (hn : ts.length = n + 1) (hn2 : n ≤ 999) (hg0 : ts[0]? = some t0) (hgl : ts[n]? = some tl) (hR : ∀ t ∈ ts, Rt t) (tok : Nat) (H : Heap)
  (tm : List AV) (h : Pl op ts t0 tl tok H tm) (hw : op = [101, 113] ∨ op = [108, 116]) :
  exec0 L Λ x55_3 tm (H ++ [.obj none [[.im (.int .i64 0), .nils]], TyO t0, TyO tl, TyO (argX t0 7 0).1]) (K55 H) = some (.tup [.im (.agg (encT (.mk 1 0 []))), .im (.bool (sameR t0 tl))], H) := by
 have ht0 : Rt t0 := hR _ (List.mem_of_getElem? hg0)
 have htl : Rt tl := hR _ (List.mem_of_getElem? hgl)
 obtain ⟨hlen, r0, rr1, r4, r6, r7, r8, r9, r10, r30⟩ := h
 have hml : (ts.map encT).length = n + 1 := by rw [List.length_map, hn]
 have hE : ∀ l : List KT, encTs l = l.map encT := fun l => by induction l with | nil => rfl | cons a l ih => simp only [encTs,List.map_cons,ih]
 have c49 := fun H => s49 1 H
 generalize hsm : sameR t0 tl = sm0 at *
 generalize hag : argX t0 7 0 = ag at *
 obtain ⟨⟨k5, s5, a5⟩, ok5⟩ := ag
 obtain ⟨k1, s1, a1⟩ := t0
 obtain ⟨k2, s2, a2⟩ := tl
 change exec0 L Λ x55_3 tm (H ++ [.obj none [[.im (.int .i64 0), .nils]], .obj none [[.im (.int .i64 k1), .im (.sl s1 (encTs a1))]], .obj none [[.im (.int .i64 k2), .im (.sl s2 (encTs a2))]], .obj none [[.im (.int .i64 k5), .im (.sl s5 (encTs a5))]]]) (K55 H) = some (.tup [.im (.agg [.int .i64 1, .sl 0 []]), .im (.bool (sm0))], H)
 rcases hw with rfl | rfl
 ·have q0 : decide (([101, 113] : List UInt8) = [101, 113]) = true := rfl
  (simp only [x55_3,g55_3,a55_3,B0,B1,B2,List.replicate,reduceCtorEq,lenA,seval,B5,pairK,B4,stays,loadOf,K55,endK,resA,tupA,hlen,r0,rr1,r4,r6,r7,r8,r9,r10,r30,hml,q0,c49,res55,keep55,leave_app,leave_tup2])
 ·have q0 : decide (([108, 116] : List UInt8) = [101, 113]) = false := rfl
  have q1 : decide (([108, 116] : List UInt8) = [108, 116]) = true := rfl
  (simp only [x55_3,g55_3,a55_3,B0,B1,B2,List.replicate,reduceCtorEq,lenA,seval,B5,pairK,B4,stays,loadOf,K55,endK,resA,tupA,hlen,r0,rr1,r4,r6,r7,r8,r9,r10,r30,hml,q0,q1,c49,res55,keep55,leave_app,leave_tup2])
theorem w55_4 (op : List UInt8) (ts : List KT) (t0 tl : KT) (n : Nat) (hn : ts.length = n + 1) (hn2 : n ≤ 999) (hg0 : ts[0]? = some t0) (hgl : ts[n]? = some tl) (hR : ∀ t ∈ ts, Rt t) (tok : Nat) (H : Heap)
  (tm : List AV) (h : Pl op ts t0 tl tok H tm) (hw : op = [97, 110, 100] ∨ op = [111, 114]) :
  exec0 L Λ x55_4 tm (H ++ [.obj none [[.im (.int .i64 0), .nils]], TyO t0, TyO tl, TyO (argX t0 7 0).1]) (K55 H) = some (.tup [.im (.agg (encT t0)), .im (.bool (kindsX ts [1, 1]))], H) := by
 have ht0 : Rt t0 := hR _ (List.mem_of_getElem? hg0)
 have htl : Rt tl := hR _ (List.mem_of_getElem? hgl)
 obtain ⟨hlen, r0, rr1, r4, r6, r7, r8, r9, r10, r30⟩ := h
 have hml : (ts.map encT).length = n + 1 := by rw [List.length_map, hn]
 have hE : ∀ l : List KT, encTs l = l.map encT := fun l => by induction l with | nil => rfl | cons a l ih => simp only [encTs,List.map_cons,ih]
 have c82 := fun H => s82 ts [1, 1] (some tok) 2 1 (.inr rfl) (.inr rfl) (by omega) H
 simp only [slV,intsD,List.map_cons,List.map_nil] at c82
 have td : toDatss [[AV.im (.int .i64 1)], [.im (.int .i64 1)]] = some [[.int .i64 1], [.int .i64 1]] := rfl
 generalize hsm : sameR t0 tl = sm0 at *
 generalize hag : argX t0 7 0 = ag at *
 obtain ⟨⟨k5, s5, a5⟩, ok5⟩ := ag
 obtain ⟨k1, s1, a1⟩ := t0
 obtain ⟨k2, s2, a2⟩ := tl
 change exec0 L Λ x55_4 tm (H ++ [.obj none [[.im (.int .i64 0), .nils]], .obj none [[.im (.int .i64 k1), .im (.sl s1 (encTs a1))]], .obj none [[.im (.int .i64 k2), .im (.sl s2 (encTs a2))]], .obj none [[.im (.int .i64 k5), .im (.sl s5 (encTs a5))]]]) (K55 H) = some (.tup [.im (.agg [.int .i64 k1, .sl s1 (encTs a1)]), .im (.bool (kindsX ts [1, 1]))], H)
 rcases hw with rfl | rfl
 ·have q0 : decide (([97, 110, 100] : List UInt8) = [97, 110, 100]) = true := rfl
  (simp only [x55_4,g55_4,a55_4,B0,B1,B2,List.replicate,reduceCtorEq,lenA,seval,B5,pairK,B4,stays,loadOf,K55,endK,resA,tupA,hlen,r0,rr1,r4,r6,r7,r8,r9,r10,r30,hml,q0,c82,td,res55,keep55,leave_app,leave_tup2])
 ·have q0 : decide (([111, 114] : List UInt8) = [97, 110, 100]) = false := rfl
  have q1 : decide (([111, 114] : List UInt8) = [111, 114]) = true := rfl
  (simp only [x55_4,g55_4,a55_4,B0,B1,B2,List.replicate,reduceCtorEq,lenA,seval,B5,pairK,B4,stays,loadOf,K55,endK,resA,tupA,hlen,r0,rr1,r4,r6,r7,r8,r9,r10,r30,hml,q0,q1,c82,td,res55,keep55,leave_app,leave_tup2])
theorem w55_5 (op : List UInt8) (ts : List KT) (t0 tl : KT) (n : Nat) (hn : ts.length = n + 1) (hn2 : n ≤ 999) (hg0 : ts[0]? = some t0) (hgl : ts[n]? = some tl) (hR : ∀ t ∈ ts, Rt t) (tok : Nat) (H : Heap)
  (tm : List AV) (h : Pl op ts t0 tl tok H tm) (hw : op = [110, 111, 116]) :
  exec0 L Λ x55_5 tm (H ++ [.obj none [[.im (.int .i64 0), .nils]], TyO t0, TyO tl, TyO (argX t0 7 0).1]) (K55 H) = some (.tup [.im (.agg (encT t0)), .im (.bool (decide (t0.k = 1)))], H) := by
 have ht0 : Rt t0 := hR _ (List.mem_of_getElem? hg0)
 have htl : Rt tl := hR _ (List.mem_of_getElem? hgl)
 obtain ⟨hlen, r0, rr1, r4, r6, r7, r8, r9, r10, r30⟩ := h
 have hml : (ts.map encT).length = n + 1 := by rw [List.length_map, hn]
 have hE : ∀ l : List KT, encTs l = l.map encT := fun l => by induction l with | nil => rfl | cons a l ih => simp only [encTs,List.map_cons,ih]
 generalize hsm : sameR t0 tl = sm0 at *
 generalize hag : argX t0 7 0 = ag at *
 obtain ⟨⟨k5, s5, a5⟩, ok5⟩ := ag
 obtain ⟨k1, s1, a1⟩ := t0
 obtain ⟨k2, s2, a2⟩ := tl
 change exec0 L Λ x55_5 tm (H ++ [.obj none [[.im (.int .i64 0), .nils]], .obj none [[.im (.int .i64 k1), .im (.sl s1 (encTs a1))]], .obj none [[.im (.int .i64 k2), .im (.sl s2 (encTs a2))]], .obj none [[.im (.int .i64 k5), .im (.sl s5 (encTs a5))]]]) (K55 H) = some (.tup [.im (.agg [.int .i64 k1, .sl s1 (encTs a1)]), .im (.bool (decide (k1 = 1)))], H)
 rcases hw with rfl
 ·have q0 : decide (([110, 111, 116] : List UInt8) = [110, 111, 116]) = true := rfl
  (simp only [x55_5,g55_5,a55_5,B0,B1,B2,List.replicate,reduceCtorEq,lenA,seval,B5,pairK,B4,stays,loadOf,K55,endK,resA,tupA,hlen,r0,rr1,r4,r6,r7,r8,r9,r10,r30,hml,q0,res55,keep55,leave_app,leave_tup2])
theorem w55_6 (op : List UInt8) (ts : List KT) (t0 tl : KT) (n : Nat) (hn : ts.length = n + 1) (hn2 : n ≤ 999) (hg0 : ts[0]? = some t0) (hgl : ts[n]? = some tl) (hR : ∀ t ∈ ts, Rt t) (tok : Nat) (H : Heap) (t1 : KT) (hg1 : ts[1]? = some t1)
  (tm : List AV) (h : Pl op ts t0 tl tok H tm) (hw : op = [105, 102]) :
  exec0 L Λ x55_6 tm (H ++ [.obj none [[.im (.int .i64 0), .nils]], TyO t0, TyO tl, TyO (argX t0 7 0).1]) (K55 H) = some (.tup [.im (.agg (encT tl)), .im (.bool (decide (t0.k = 1) && sameR (ts.getD 1 zeroT) tl))], H) := by
 have ht0 : Rt t0 := hR _ (List.mem_of_getElem? hg0)
 have htl : Rt tl := hR _ (List.mem_of_getElem? hgl)
 obtain ⟨hlen, r0, rr1, r4, r6, r7, r8, r9, r10, r30⟩ := h
 have hml : (ts.map encT).length = n + 1 := by rw [List.length_map, hn]
 have hE : ∀ l : List KT, encTs l = l.map encT := fun l => by induction l with | nil => rfl | cons a l ih => simp only [encTs,List.map_cons,ih]
 have ht1 : Rt t1 := hR _ (List.mem_of_getElem? hg1)
 have hgD : ts.getD 1 zeroT = t1 := by rw [List.getD_eq_getElem?_getD, hg1]; rfl
 have hm1 : (ts.map encT)[1]? = some (encT t1) := by rw [List.getElem?_map, hg1]; rfl
 have hlt1 := (List.getElem?_eq_some_iff.1 hg1).1
 have i1 : idx (.im (.int .i64 1)) (n + 1) = some 1 := idx_nat (i := 1) (by omega)
 rw [hgD]
 have c16 := fun H => s16 t1 tl ht1.1 htl.1 H
 change ∀ H, L 16 _ H = some (.im (.bool (sameR t1 tl)), H) at c16
 generalize sameR t1 tl = sm at *
 obtain ⟨k3, s3, a3⟩ := t1
 generalize hsm : sameR t0 tl = sm0 at *
 generalize hag : argX t0 7 0 = ag at *
 obtain ⟨⟨k5, s5, a5⟩, ok5⟩ := ag
 obtain ⟨k1, s1, a1⟩ := t0
 obtain ⟨k2, s2, a2⟩ := tl
 simp only [encT] at hm1
 simp only [encT] at c16
 change exec0 L Λ x55_6 tm (H ++ [.obj none [[.im (.int .i64 0), .nils]], .obj none [[.im (.int .i64 k1), .im (.sl s1 (encTs a1))]], .obj none [[.im (.int .i64 k2), .im (.sl s2 (encTs a2))]], .obj none [[.im (.int .i64 k5), .im (.sl s5 (encTs a5))]]]) (K55 H) = some (.tup [.im (.agg [.int .i64 k2, .sl s2 (encTs a2)]), .im (.bool (decide (k1 = 1) && sm))], H)
 rcases hw with rfl
 ·have q0 : decide (([105, 102] : List UInt8) = [105, 102]) = true := rfl
  cases hk1 : decide (k1 = 1) <;>
   (simp only [x55_6,g55_6,a55_6,B0,B1,B2,List.replicate,reduceCtorEq,lenA,seval,B5,pairK,B4,stays,loadOf,K55,endK,resA,tupA,hlen,r0,rr1,r4,r6,r7,r8,r9,r10,r30,hml,q0,hm1,i1,c16,hk1,res55,keep55,leave_app,leave_tup2]) <;> (try (rw [hk1])) <;> first | done | rfl | skip
theorem w55_7 (op : List UInt8) (ts : List KT) (t0 tl : KT) (n : Nat) (hn : ts.length = n + 1) (hn2 : n ≤ 999) (hg0 : ts[0]? = some t0) (hgl : ts[n]? = some tl) (hR : ∀ t ∈ ts, Rt t) (tok : Nat) (H : Heap)
  (tm : List AV) (h : Pl op ts t0 tl tok H tm) (hw : op = [112, 97, 105, 114]) :
  exec0 L Λ x55_7 tm (H ++ [.obj none [[.im (.int .i64 0), .nils]], TyO t0, TyO tl, TyO (argX t0 7 0).1]) (K55 H) = some (.tup [.im (.agg (encT (.mk 6 2 ts))), .im (.bool true)], H) := by
 have ht0 : Rt t0 := hR _ (List.mem_of_getElem? hg0)
 have htl : Rt tl := hR _ (List.mem_of_getElem? hgl)
 obtain ⟨hlen, r0, rr1, r4, r6, r7, r8, r9, r10, r30⟩ := h
 have hml : (ts.map encT).length = n + 1 := by rw [List.length_map, hn]
 have hE : ∀ l : List KT, encTs l = l.map encT := fun l => by induction l with | nil => rfl | cons a l ih => simp only [encTs,List.map_cons,ih]
 generalize hsm : sameR t0 tl = sm0 at *
 generalize hag : argX t0 7 0 = ag at *
 obtain ⟨⟨k5, s5, a5⟩, ok5⟩ := ag
 obtain ⟨k1, s1, a1⟩ := t0
 obtain ⟨k2, s2, a2⟩ := tl
 change exec0 L Λ x55_7 tm (H ++ [.obj none [[.im (.int .i64 0), .nils]], .obj none [[.im (.int .i64 k1), .im (.sl s1 (encTs a1))]], .obj none [[.im (.int .i64 k2), .im (.sl s2 (encTs a2))]], .obj none [[.im (.int .i64 k5), .im (.sl s5 (encTs a5))]]]) (K55 H) = some (.tup [.im (.agg [.int .i64 6, .sl 2 (encTs ts)]), .im (.bool true)], H)
 rw [hE ts]
 have hlv : ∀ (l : List KT) (b : Bool) (M : Heap), leave H false (.tup [.agg [.im (.int .i64 6), .asl 2 (l.map encT) tok], .im (.bool b)]) (H ++ M) = (.tup [.im (.agg [.int .i64 6, .sl 2 (l.map encT)]), .im (.bool b)], H) := fun l b M => leave_two rfl rfl
 rcases hw with rfl
 ·have q0 : decide (([112, 97, 105, 114] : List UInt8) = [112, 97, 105, 114]) = true := rfl
  (simp only [x55_7,g55_7,a55_7,B0,B1,B2,List.replicate,reduceCtorEq,lenA,seval,B5,pairK,B4,stays,loadOf,K55,endK,resA,tupA,hlen,r0,rr1,r4,r6,r7,r8,r9,r10,r30,hml,q0,hlv,res55,keep55,leave_app,leave_tup2])
theorem w55_8 (op : List UInt8) (ts : List KT) (t0 tl : KT) (n : Nat) (hn : ts.length = n + 1) (hn2 : n ≤ 999) (hg0 : ts[0]? = some t0) (hgl : ts[n]? = some tl) (hR : ∀ t ∈ ts, Rt t) (tok : Nat) (H : Heap)
  (tm : List AV) (h : Pl op ts t0 tl tok H tm) (hw : op = [108, 105, 115, 116]) :
  exec0 L Λ x55_8 tm (H ++ [.obj none [[.im (.int .i64 0), .nils]], TyO t0, TyO tl, TyO (argX t0 7 0).1]) (K55 H) = some (.tup [.im (.agg (encT (.mk 7 2 (ts.take 1)))), .im (.bool (!(ts.any fun t => !sameR t t0)))], H) := by
 have ht0 : Rt t0 := hR _ (List.mem_of_getElem? hg0)
 have htl : Rt tl := hR _ (List.mem_of_getElem? hgl)
 obtain ⟨hlen, r0, rr1, r4, r6, r7, r8, r9, r10, r30⟩ := h
 have hml : (ts.map encT).length = n + 1 := by rw [List.length_map, hn]
 have hE : ∀ l : List KT, encTs l = l.map encT := fun l => by induction l with | nil => rfl | cons a l ih => simp only [encTs,List.map_cons,ih]
 have hct : (ts.map encT).take (1 - 0) = encTs (ts.take 1) := by rw [hE, List.map_take]
 have htk : (sliceA 2 (.asl 2 (ts.map encT) tok) 0 (fun _ => some 1) none = some (.asl 2 (ts.map encT) tok) ∧ ts.take 1 = ts) ∨ sliceA 2 (.asl 2 (ts.map encT) tok) 0 (fun _ => some 1) none = some (.im (.sl 2 ((ts.take 1).map encT))) := by
  by_cases hz : n = 0
  ·subst hz
   left
   refine ⟨?_, List.take_of_length_le (by omega)⟩
   unfold sliceA
   simp [hml]
  ·right
   unfold sliceA
   simp [hml, hz, List.map_take]
 have b0 : ∀ (ρ : AOpd → AV) (d : Nat), boundA ρ d none = some d := fun _ _ => rfl
 have b1 : ∀ (tm : List AV) (d : Nat), boundA (ev tm) d (some (.c (.im (.int .i64 1)))) = some 1 := fun _ _ => rfl
 have c48 : ∀ M : Heap, L 48 [.asl 2 (ts.map encT) tok, .clo 83 [.ptr (H.length + 1) 0 0]] (H ++ [.obj none [[.im (.int .i64 0), .nils]], TyO t0, TyO tl, TyO (argX t0 7 0).1] ++ M) = some (.im (.bool (ts.any fun t => !sameR t t0)), H ++ [.obj none [[.im (.int .i64 0), .nils]], TyO t0, TyO tl, TyO (argX t0 7 0).1] ++ M) := fun M =>
  s48v ts tok (by omega) _ 83 _ _ fun a ha => s83 a t0 _ (hR a ha) ht0 _ (by rw [List.append_assoc, List.getElem?_append_right (by omega)]; simp)
 have c48 := c48 []
 rw [List.append_nil] at c48
 generalize (ts.any fun t => !sameR t t0) = an at *
 generalize hsm : sameR t0 tl = sm0 at *
 generalize hag : argX t0 7 0 = ag at *
 obtain ⟨⟨k5, s5, a5⟩, ok5⟩ := ag
 obtain ⟨k1, s1, a1⟩ := t0
 obtain ⟨k2, s2, a2⟩ := tl
 change exec0 L Λ x55_8 tm (H ++ [.obj none [[.im (.int .i64 0), .nils]], .obj none [[.im (.int .i64 k1), .im (.sl s1 (encTs a1))]], .obj none [[.im (.int .i64 k2), .im (.sl s2 (encTs a2))]], .obj none [[.im (.int .i64 k5), .im (.sl s5 (encTs a5))]]]) (K55 H) = some (.tup [.im (.agg [.int .i64 7, .sl 2 (encTs (ts.take 1))]), .im (.bool (!an))], H)
 rw [hE (ts.take 1)]
 have hlv : ∀ (l : List KT) (b : Bool) (M : Heap), leave H false (.tup [.agg [.im (.int .i64 7), .asl 2 (l.map encT) tok], .im (.bool b)]) (H ++ M) = (.tup [.im (.agg [.int .i64 7, .sl 2 (l.map encT)]), .im (.bool b)], H) := fun l b M => leave_two rfl rfl
 change L 48 _ (H ++ [.obj none [[.im (.int .i64 0), .nils]], .obj none [[.im (.int .i64 k1), .im (.sl s1 (encTs a1))]], .obj none [[.im (.int .i64 k2), .im (.sl s2 (encTs a2))]], .obj none [[.im (.int .i64 k5), .im (.sl s5 (encTs a5))]]]) = some (_, H ++ [.obj none [[.im (.int .i64 0), .nils]], .obj none [[.im (.int .i64 k1), .im (.sl s1 (encTs a1))]], .obj none [[.im (.int .i64 k2), .im (.sl s2 (encTs a2))]], .obj none [[.im (.int .i64 k5), .im (.sl s5 (encTs a5))]]]) at c48
 rcases hw with rfl
 ·have q0 : decide (([108, 105, 115, 116] : List UInt8) = [108, 105, 115, 116]) = true := rfl
  rcases htk with ⟨htk, htk1⟩ | htk <;>
   (simp only [x55_8,g55_8,a55_8,B0,B1,B2,List.replicate,reduceCtorEq,lenA,seval,B5,pairK,B4,stays,loadOf,K55,endK,resA,tupA,hlen,r0,rr1,r4,r6,r7,r8,r9,r10,r30,hml,q0,c48,hlv,htk,b0,b1,res55,keep55,leave_app,leave_tup2]) <;> rw [htk1]
theorem w55_9 (op : List UInt8) (ts : List KT) (t0 tl : KT) (n : Nat) (hn : ts.length = n + 1) (hn2 : n ≤ 999) (hg0 : ts[0]? = some t0) (hgl : ts[n]? = some tl) (hR : ∀ t ∈ ts, Rt t) (tok : Nat) (H : Heap)
  (tm : List AV) (h : Pl op ts t0 tl tok H tm) (hw : op = [99, 111, 110, 115]) :
  exec0 L Λ x55_9 tm (H ++ [.obj none [[.im (.int .i64 0), .nils]], TyO t0, TyO tl, TyO (argX t0 7 0).1]) (K55 H) = some (.tup [.im (.agg (encT tl)), .im (.bool ((argX tl 7 0).2 && sameR t0 (argX tl 7 0).1))], H) := by
 have ht0 : Rt t0 := hR _ (List.mem_of_getElem? hg0)
 have htl : Rt tl := hR _ (List.mem_of_getElem? hgl)
 obtain ⟨hlen, r0, rr1, r4, r6, r7, r8, r9, r10, r30⟩ := h
 have hml : (ts.map encT).length = n + 1 := by rw [List.length_map, hn]
 have hE : ∀ l : List KT, encTs l = l.map encT := fun l => by induction l with | nil => rfl | cons a l ih => simp only [encTs,List.map_cons,ih]
 have c36 := fun H => s36 tl htl.1 7 0 (fun h => right_cnt (k := tl.k) (s := tl.s) (args := tl.args) (by cases tl; exact htl.2) (.inl h)) H
 have z0 : ((0 : Nat) : Int) = 0 := rfl
 rw [z0] at c36
 have hoa : okT (argX tl 7 0).1 := by
  unfold argX
  split
  ·rcases List.getElem?_eq_some_iff.1 (show tl.args[0]? = some (tl.args.getD 0 zeroT) by
    rw [List.getD_eq_getElem?_getD, List.getElem?_eq_getElem (right_cnt (k := tl.k) (s := tl.s) (args := tl.args) (by cases tl; exact htl.2) (.inl (by assumption)))]; rfl) with ⟨hl, he⟩
   have := htl.1
   obtain ⟨k2, s2, a2⟩ := tl
   simp only [okT] at this
   exact okTs_mem this.2.2 _ (List.mem_of_getElem? (List.getElem?_eq_some_iff.2 ⟨hl, he⟩))
  ·exact ⟨.inl rfl, by simp [zeroT], trivial⟩
 have c16 := fun H => s16 t0 (argX tl 7 0).1 ht0.1 hoa H
 change ∀ H, L 16 _ H = some (.im (.bool (sameR t0 (argX tl 7 0).1)), H) at c16
 generalize sameR t0 (argX tl 7 0).1 = sm at *
 generalize argX tl 7 0 = ag2 at *
 obtain ⟨⟨k4, s4, a4⟩, ok4⟩ := ag2
 generalize hsm : sameR t0 tl = sm0 at *
 generalize hag : argX t0 7 0 = ag at *
 obtain ⟨⟨k5, s5, a5⟩, ok5⟩ := ag
 obtain ⟨k1, s1, a1⟩ := t0
 obtain ⟨k2, s2, a2⟩ := tl
 simp only [encT] at c36
 simp only [encT] at c16
 change exec0 L Λ x55_9 tm (H ++ [.obj none [[.im (.int .i64 0), .nils]], .obj none [[.im (.int .i64 k1), .im (.sl s1 (encTs a1))]], .obj none [[.im (.int .i64 k2), .im (.sl s2 (encTs a2))]], .obj none [[.im (.int .i64 k5), .im (.sl s5 (encTs a5))]]]) (K55 H) = some (.tup [.im (.agg [.int .i64 k2, .sl s2 (encTs a2)]), .im (.bool (ok4 && sm))], H)
 rcases hw with rfl
 ·have q0 : decide (([99, 111, 110, 115] : List UInt8) = [99, 111, 110, 115]) = true := rfl
  cases ok4 <;>
   (simp only [x55_9,g55_9,a55_9,B0,B1,B2,List.replicate,reduceCtorEq,lenA,seval,B5,pairK,B4,stays,loadOf,K55,endK,resA,tupA,hlen,r0,rr1,r4,r6,r7,r8,r9,r10,r30,hml,q0,c36,c16,res55,keep55,leave_app,leave_tup2]) <;> first | done | rfl | skip
theorem w55_10 (op : List UInt8) (ts : List KT) (t0 tl : KT) (n : Nat) (hn : ts.length = n + 1) (hn2 : n ≤ 999) (hg0 : ts[0]? = some t0) (hgl : ts[n]? = some tl) (hR : ∀ t ∈ ts, Rt t) (tok : Nat) (H : Heap)
  (tm : List AV) (h : Pl op ts t0 tl tok H tm) (hw : op = [99, 111, 110, 99, 97, 116]) :
  exec0 L Λ x55_10 tm (H ++ [.obj none [[.im (.int .i64 0), .nils]], TyO t0, TyO tl, TyO (argX t0 7 0).1]) (K55 H) = some (.tup [.im (.agg (encT t0)), .im (.bool ((argX t0 7 0).2 && sameR t0 tl))], H) := by
 have ht0 : Rt t0 := hR _ (List.mem_of_getElem? hg0)
 have htl : Rt tl := hR _ (List.mem_of_getElem? hgl)
 obtain ⟨hlen, r0, rr1, r4, r6, r7, r8, r9, r10, r30⟩ := h
 have hml : (ts.map encT).length = n + 1 := by rw [List.length_map, hn]
 have hE : ∀ l : List KT, encTs l = l.map encT := fun l => by induction l with | nil => rfl | cons a l ih => simp only [encTs,List.map_cons,ih]
 generalize hsm : sameR t0 tl = sm0 at *
 generalize hag : argX t0 7 0 = ag at *
 obtain ⟨⟨k5, s5, a5⟩, ok5⟩ := ag
 obtain ⟨k1, s1, a1⟩ := t0
 obtain ⟨k2, s2, a2⟩ := tl
 change exec0 L Λ x55_10 tm (H ++ [.obj none [[.im (.int .i64 0), .nils]], .obj none [[.im (.int .i64 k1), .im (.sl s1 (encTs a1))]], .obj none [[.im (.int .i64 k2), .im (.sl s2 (encTs a2))]], .obj none [[.im (.int .i64 k5), .im (.sl s5 (encTs a5))]]]) (K55 H) = some (.tup [.im (.agg [.int .i64 k1, .sl s1 (encTs a1)]), .im (.bool (ok5 && sm0))], H)
 rcases hw with rfl
 ·have q0 : decide (([99, 111, 110, 99, 97, 116] : List UInt8) = [99, 111, 110, 99, 97, 116]) = true := rfl
  cases ok5 <;>
   (simp only [x55_10,g55_10,a55_10,B0,B1,B2,List.replicate,reduceCtorEq,lenA,seval,B5,pairK,B4,stays,loadOf,K55,endK,resA,tupA,hlen,r0,rr1,r4,r6,r7,r8,r9,r10,r30,hml,q0,res55,keep55,leave_app,leave_tup2]) <;> first | done | rfl | skip
theorem w55_11 (op : List UInt8) (ts : List KT) (t0 tl : KT) (n : Nat) (hn : ts.length = n + 1) (hn2 : n ≤ 999) (hg0 : ts[0]? = some t0) (hgl : ts[n]? = some tl) (hR : ∀ t ∈ ts, Rt t) (tok : Nat) (H : Heap)
  (tm : List AV) (h : Pl op ts t0 tl tok H tm) (hw : op = [115, 111, 114, 116]) :
  exec0 L Λ x55_11 tm (H ++ [.obj none [[.im (.int .i64 0), .nils]], TyO t0, TyO tl, TyO (argX t0 7 0).1]) (K55 H) = some (.tup [.im (.agg (encT t0)), .im (.bool (argX t0 7 0).2)], H) := by
 have ht0 : Rt t0 := hR _ (List.mem_of_getElem? hg0)
 have htl : Rt tl := hR _ (List.mem_of_getElem? hgl)
 obtain ⟨hlen, r0, rr1, r4, r6, r7, r8, r9, r10, r30⟩ := h
 have hml : (ts.map encT).length = n + 1 := by rw [List.length_map, hn]
 have hE : ∀ l : List KT, encTs l = l.map encT := fun l => by induction l with | nil => rfl | cons a l ih => simp only [encTs,List.map_cons,ih]
 generalize hsm : sameR t0 tl = sm0 at *
 generalize hag : argX t0 7 0 = ag at *
 obtain ⟨⟨k5, s5, a5⟩, ok5⟩ := ag
 obtain ⟨k1, s1, a1⟩ := t0
 obtain ⟨k2, s2, a2⟩ := tl
 change exec0 L Λ x55_11 tm (H ++ [.obj none [[.im (.int .i64 0), .nils]], .obj none [[.im (.int .i64 k1), .im (.sl s1 (encTs a1))]], .obj none [[.im (.int .i64 k2), .im (.sl s2 (encTs a2))]], .obj none [[.im (.int .i64 k5), .im (.sl s5 (encTs a5))]]]) (K55 H) = some (.tup [.im (.agg [.int .i64 k1, .sl s1 (encTs a1)]), .im (.bool ok5)], H)
 rcases hw with rfl
 ·have q0 : decide (([115, 111, 114, 116] : List UInt8) = [115, 111, 114, 116]) = true := rfl
  (simp only [x55_11,g55_11,a55_11,B0,B1,B2,List.replicate,reduceCtorEq,lenA,seval,B5,pairK,B4,stays,loadOf,K55,endK,resA,tupA,hlen,r0,rr1,r4,r6,r7,r8,r9,r10,r30,hml,q0,res55,keep55,leave_app,leave_tup2])
theorem w55_12 (op : List UInt8) (ts : List KT) (t0 tl : KT) (n : Nat) (hn : ts.length = n + 1) (hn2 : n ≤ 999) (hg0 : ts[0]? = some t0) (hgl : ts[n]? = some tl) (hR : ∀ t ∈ ts, Rt t) (tok : Nat) (H : Heap)
  (tm : List AV) (h : Pl op ts t0 tl tok H tm) (hw : op = [108, 101, 110]) :
  exec0 L Λ x55_12 tm (H ++ [.obj none [[.im (.int .i64 0), .nils]], TyO t0, TyO tl, TyO (argX t0 7 0).1]) (K55 H) = some (.tup [.im (.agg (encT (.mk 2 0 []))), .im (.bool (argX t0 7 0).2)], H) := by
 have ht0 : Rt t0 := hR _ (List.mem_of_getElem? hg0)
 have htl : Rt tl := hR _ (List.mem_of_getElem? hgl)
 obtain ⟨hlen, r0, rr1, r4, r6, r7, r8, r9, r10, r30⟩ := h
 have hml : (ts.map encT).length = n + 1 := by rw [List.length_map, hn]
 have hE : ∀ l : List KT, encTs l = l.map encT := fun l => by induction l with | nil => rfl | cons a l ih => simp only [encTs,List.map_cons,ih]
 have c49 := fun H => s49 2 H
 generalize hsm : sameR t0 tl = sm0 at *
 generalize hag : argX t0 7 0 = ag at *
 obtain ⟨⟨k5, s5, a5⟩, ok5⟩ := ag
 obtain ⟨k1, s1, a1⟩ := t0
 obtain ⟨k2, s2, a2⟩ := tl
 change exec0 L Λ x55_12 tm (H ++ [.obj none [[.im (.int .i64 0), .nils]], .obj none [[.im (.int .i64 k1), .im (.sl s1 (encTs a1))]], .obj none [[.im (.int .i64 k2), .im (.sl s2 (encTs a2))]], .obj none [[.im (.int .i64 k5), .im (.sl s5 (encTs a5))]]]) (K55 H) = some (.tup [.im (.agg [.int .i64 2, .sl 0 []]), .im (.bool ok5)], H)
 rcases hw with rfl
 ·have q0 : decide (([108, 101, 110] : List UInt8) = [108, 101, 110]) = true := rfl
  (simp only [x55_12,g55_12,a55_12,B0,B1,B2,List.replicate,reduceCtorEq,lenA,seval,B5,pairK,B4,stays,loadOf,K55,endK,resA,tupA,hlen,r0,rr1,r4,r6,r7,r8,r9,r10,r30,hml,q0,c49,res55,keep55,leave_app,leave_tup2])
theorem w55_13 (op : List UInt8) (ts : List KT) (t0 tl : KT) (n : Nat) (hn : ts.length = n + 1) (hn2 : n ≤ 999) (hg0 : ts[0]? = some t0) (hgl : ts[n]? = some tl) (hR : ∀ t ∈ ts, Rt t) (tok : Nat) (H : Heap)
  (tm : List AV) (h : Pl op ts t0 tl tok H tm) (hw : op = [97, 116]) :
  exec0 L Λ x55_13 tm (H ++ [.obj none [[.im (.int .i64 0), .nils]], TyO t0, TyO tl, TyO (argX t0 7 0).1]) (K55 H) = some (.tup [.im (.agg (encT (.mk 9 2 [(argX t0 7 0).1]))), .im (.bool ((argX t0 7 0).2 && decide (tl.k = 2)))], H) := by
 have ht0 : Rt t0 := hR _ (List.mem_of_getElem? hg0)
 have htl : Rt tl := hR _ (List.mem_of_getElem? hgl)
 obtain ⟨hlen, r0, rr1, r4, r6, r7, r8, r9, r10, r30⟩ := h
 have hml : (ts.map encT).length = n + 1 := by rw [List.length_map, hn]
 have hE : ∀ l : List KT, encTs l = l.map encT := fun l => by induction l with | nil => rfl | cons a l ih => simp only [encTs,List.map_cons,ih]
 generalize hsm : sameR t0 tl = sm0 at *
 generalize hag : argX t0 7 0 = ag at *
 obtain ⟨⟨k5, s5, a5⟩, ok5⟩ := ag
 obtain ⟨k1, s1, a1⟩ := t0
 obtain ⟨k2, s2, a2⟩ := tl
 change exec0 L Λ x55_13 tm (H ++ [.obj none [[.im (.int .i64 0), .nils]], .obj none [[.im (.int .i64 k1), .im (.sl s1 (encTs a1))]], .obj none [[.im (.int .i64 k2), .im (.sl s2 (encTs a2))]], .obj none [[.im (.int .i64 k5), .im (.sl s5 (encTs a5))]]]) (K55 H) = some (.tup [.im (.agg [.int .i64 9, .sl 2 [[.int .i64 k5, .sl s5 (encTs a5)]]]), .im (.bool (ok5 && decide (k2 = 2)))], H)
 have td : toDatss [[AV.im (.int .i64 k5), .im (.sl s5 (encTs a5))]] = some [[.int .i64 k5, .sl s5 (encTs a5)]] := rfl
 rcases hw with rfl
 ·have q0 : decide (([97, 116] : List UInt8) = [97, 116]) = true := rfl
  cases ok5 <;>
   (simp only [x55_13,g55_13,a55_13,B0,B1,B2,List.replicate,reduceCtorEq,lenA,seval,B5,pairK,B4,stays,loadOf,K55,endK,resA,tupA,hlen,r0,rr1,r4,r6,r7,r8,r9,r10,r30,hml,q0,td,res55,keep55,leave_app,leave_tup2]) <;> first | done | rfl | skip
theorem w55_14 (op : List UInt8) (ts : List KT) (t0 tl : KT) (n : Nat) (hn : ts.length = n + 1) (hn2 : n ≤ 999) (hg0 : ts[0]? = some t0) (hgl : ts[n]? = some tl) (hR : ∀ t ∈ ts, Rt t) (tok : Nat) (H : Heap)
  (tm : List AV) (h : Pl op ts t0 tl tok H tm) (hw : op = [114, 97, 110, 103, 101]) :
  exec0 L Λ x55_14 tm (H ++ [.obj none [[.im (.int .i64 0), .nils]], TyO t0, TyO tl, TyO (argX t0 7 0).1]) (K55 H) = some (.tup [.im (.agg (encT (.mk 7 2 ts))), .im (.bool (decide (t0.k = 2)))], H) := by
 have ht0 : Rt t0 := hR _ (List.mem_of_getElem? hg0)
 have htl : Rt tl := hR _ (List.mem_of_getElem? hgl)
 obtain ⟨hlen, r0, rr1, r4, r6, r7, r8, r9, r10, r30⟩ := h
 have hml : (ts.map encT).length = n + 1 := by rw [List.length_map, hn]
 have hE : ∀ l : List KT, encTs l = l.map encT := fun l => by induction l with | nil => rfl | cons a l ih => simp only [encTs,List.map_cons,ih]
 generalize hsm : sameR t0 tl = sm0 at *
 generalize hag : argX t0 7 0 = ag at *
 obtain ⟨⟨k5, s5, a5⟩, ok5⟩ := ag
 obtain ⟨k1, s1, a1⟩ := t0
 obtain ⟨k2, s2, a2⟩ := tl
 change exec0 L Λ x55_14 tm (H ++ [.obj none [[.im (.int .i64 0), .nils]], .obj none [[.im (.int .i64 k1), .im (.sl s1 (encTs a1))]], .obj none [[.im (.int .i64 k2), .im (.sl s2 (encTs a2))]], .obj none [[.im (.int .i64 k5), .im (.sl s5 (encTs a5))]]]) (K55 H) = some (.tup [.im (.agg [.int .i64 7, .sl 2 (encTs ts)]), .im (.bool (decide (k1 = 2)))], H)
 rw [hE ts]
 have hlv : ∀ (l : List KT) (b : Bool) (M : Heap), leave H false (.tup [.agg [.im (.int .i64 7), .asl 2 (l.map encT) tok], .im (.bool b)]) (H ++ M) = (.tup [.im (.agg [.int .i64 7, .sl 2 (l.map encT)]), .im (.bool b)], H) := fun l b M => leave_two rfl rfl
 rcases hw with rfl
 ·have q0 : decide (([114, 97, 110, 103, 101] : List UInt8) = [114, 97, 110, 103, 101]) = true := rfl
  (simp only [x55_14,g55_14,a55_14,B0,B1,B2,List.replicate,reduceCtorEq,lenA,seval,B5,pairK,B4,stays,loadOf,K55,endK,resA,tupA,hlen,r0,rr1,r4,r6,r7,r8,r9,r10,r30,hml,q0,hlv,res55,keep55,leave_app,leave_tup2])
theorem w55_15 (op : List UInt8) (ts : List KT) (t0 tl : KT) (n : Nat) (hn : ts.length = n + 1) (hn2 : n ≤ 999) (hg0 : ts[0]? = some t0) (hgl : ts[n]? = some tl) (hR : ∀ t ∈ ts, Rt t) (tok : Nat) (H : Heap)
  (tm : List AV) (h : Pl op ts t0 tl tok H tm) (hw : op = [115, 111, 109, 101]) :
  exec0 L Λ x55_15 tm (H ++ [.obj none [[.im (.int .i64 0), .nils]], TyO t0, TyO tl, TyO (argX t0 7 0).1]) (K55 H) = some (.tup [.im (.agg (encT (.mk 9 2 ts))), .im (.bool true)], H) := by
 have ht0 : Rt t0 := hR _ (List.mem_of_getElem? hg0)
 have htl : Rt tl := hR _ (List.mem_of_getElem? hgl)
 obtain ⟨hlen, r0, rr1, r4, r6, r7, r8, r9, r10, r30⟩ := h
 have hml : (ts.map encT).length = n + 1 := by rw [List.length_map, hn]
 have hE : ∀ l : List KT, encTs l = l.map encT := fun l => by induction l with | nil => rfl | cons a l ih => simp only [encTs,List.map_cons,ih]
 generalize hsm : sameR t0 tl = sm0 at *
 generalize hag : argX t0 7 0 = ag at *
 obtain ⟨⟨k5, s5, a5⟩, ok5⟩ := ag
 obtain ⟨k1, s1, a1⟩ := t0
 obtain ⟨k2, s2, a2⟩ := tl
 change exec0 L Λ x55_15 tm (H ++ [.obj none [[.im (.int .i64 0), .nils]], .obj none [[.im (.int .i64 k1), .im (.sl s1 (encTs a1))]], .obj none [[.im (.int .i64 k2), .im (.sl s2 (encTs a2))]], .obj none [[.im (.int .i64 k5), .im (.sl s5 (encTs a5))]]]) (K55 H) = some (.tup [.im (.agg [.int .i64 9, .sl 2 (encTs ts)]), .im (.bool true)], H)
 rw [hE ts]
 have hlv : ∀ (l : List KT) (b : Bool) (M : Heap), leave H false (.tup [.agg [.im (.int .i64 9), .asl 2 (l.map encT) tok], .im (.bool b)]) (H ++ M) = (.tup [.im (.agg [.int .i64 9, .sl 2 (l.map encT)]), .im (.bool b)], H) := fun l b M => leave_two rfl rfl
 rcases hw with rfl
 ·have q0 : decide (([115, 111, 109, 101] : List UInt8) = [115, 111, 109, 101]) = true := rfl
  (simp only [x55_15,g55_15,a55_15,B0,B1,B2,List.replicate,reduceCtorEq,lenA,seval,B5,pairK,B4,stays,loadOf,K55,endK,resA,tupA,hlen,r0,rr1,r4,r6,r7,r8,r9,r10,r30,hml,q0,hlv,res55,keep55,leave_app,leave_tup2])
end Go.Abs.Seat
end
section
set_option linter.unusedVariables false
set_option linter.unusedSimpArgs false
namespace Go.Abs.Seat
open Go.Proofs
noncomputable def K84 (H : Heap) := blockK 0 (seqK L Λ (.seq h84_4 h84_5) (endK f84 H))
theorem res84 : f84.results = [(4, (some (some 2))), (5, none)] := _root_.id rfl
theorem keep84 : f84.keep = false := _root_.id rfl
structure Mo (op : List UInt8) (ts : List KT) (t0 : KT) (tok : Nat) (H : Heap) (tm : List AV) : Prop where
 len : tm.length = 113
 r0 : tm.getD 0 undefA = .im (.str op)
 r1 : tm.getD 1 undefA = .asl 2 (ts.map encT) tok
 r4 : tm.getD 4 undefA = .ptr H.length 0 0
 r6 : tm.getD 6 undefA = .ptr (H.length + 1) 0 0
 r7 : tm.getD 7 undefA = .im (.bool (decide (t0.k = 3) || decide (t0.k = 4)))
 r22 : tm.getD 22 undefA = .im (.str op)
theorem Mo.same {op : List UInt8} {ts : List KT} {t0 : KT} {tok : Nat} {H : Heap} {tm tm' : List AV} (h : Mo op ts t0 tok H tm) (hl : tm'.length = 113) (hs : Same [0, 1, 4, 5, 6, 7, 22] tm tm') : Mo op ts t0 tok H tm' :=
 ⟨hl, (hs 0 (by simp)).trans h.r0, (hs 1 (by simp)).trans h.r1, (hs 4 (by simp)).trans h.r4, (hs 6 (by simp)).trans h.r6, (hs 7 (by simp)).trans h.r7, (hs 22 (by simp)).trans h.r22⟩
theorem pre84 (op : List UInt8) (ts : List KT) (t0 : KT) (n : Nat) (hn : ts.length = n + 1) (hn2 : n ≤ 999) (h0 : ts[0]? = some t0) (tok : Nat) (H : Heap) :
  ∃ tm, L 84 [.im (.str op), .asl 2 (ts.map encT) tok] H = exec0 L Λ x84_0 tm (H ++ [.obj none [[.im (.int .i64 0), .nils]], TyO t0]) (K84 H) ∧ Mo op ts t0 tok H tm := by
 have hg0 : (ts.map encT)[0]? = some (encT t0) := by rw [List.getElem?_map, h0]; rfl
 have hml : (ts.map encT).length = n + 1 := by rw [List.length_map, hn]
 have i0 : idx (.im (.int .i64 0)) (n + 1) = some 0 := idx_nat (i := 0) (by omega)
 obtain ⟨k1, s1, a1⟩ := t0
 simp only [encT,TyO,KT.k,KT.s,KT.args] at hg0 ⊢
 rw [leq F84]
 obtain ⟨hlen, hg⟩ := enter_at (f := f84) (args := [.im (.str op), .asl 2 (ts.map encT) tok]) (Nat.le_of_ble_eq_true rfl)
 have h0 := hg 0 _ rfl
 have h1 := hg 1 _ rfl
 generalize enterA f84 [.im (.str op), .asl 2 (ts.map encT) tok] = tm at *
 change tm.length = 113 at hlen
 have hc : f84.code = (.seq h84_0 (.seq h84_1 (.seq h84_2 (.seq (.seq h84_3 (.block 0 x84_0)) (.seq h84_4 h84_5))))) := congrArg AFunc.code f84_code
 rw [hc]
 unfold K84
 cases hk3 : decide (k1 = 3) <;> cases hk4 : decide (k1 = 4) <;>
 (simp only [h84_0,h84_1,h84_2,h84_3,B0,B1,B2,List.replicate,reduceCtorEq,lenA,seval,B5,pairK,B4,stays,loadOf,hlen,h0,h1,hml,hg0,i0,hk3,hk4]
  refine ⟨_, rfl, ?_⟩
  refine ⟨by simp only [List.length_set,hlen], by simp only [B3,seval,hlen,h0], by simp only [B3,seval,hlen,h1], by simp only [B3,seval,hlen], by simp only [B3,seval,hlen], ?_, by simp only [B3,seval,hlen]⟩
  change _ = AV.im (Dat.bool (decide (k1 = 3) || decide (k1 = 4)))
  rw [hk3, hk4]
  simp only [B3,seval,hlen]
  try rfl)
theorem w84_0a (op : List UInt8) (ts : List KT) (t0 : KT) (n : Nat) (hn : ts.length = n + 1) (hn2 : n ≤ 999) (hg0 : ts[0]? = some t0) (hR : ∀ t ∈ ts, Rt t) (tok : Nat) (H : Heap)
  (tm : List AV) (h : Mo op ts t0 tok H tm) (hw : op = [102, 105, 114, 115, 116]) :
  exec0 L Λ x84_0 tm (H ++ [.obj none [[.im (.int .i64 0), .nils]], TyO t0]) (K84 H) = some (.tup [.im (.agg (encT (argX t0 6 0).1)), .im (.bool (argX t0 6 0).2)], H) := by
 have ht0 : Rt t0 := hR _ (List.mem_of_getElem? hg0)
 obtain ⟨hlen, r0, rr1, r4, r6, r7, r22⟩ := h
 have hml : (ts.map encT).length = n + 1 := by rw [List.length_map, hn]
 have c36 := fun H => s36 t0 ht0.1 6 0 (fun h => by have := right_cnt2 (k := t0.k) (s := t0.s) (args := t0.args) (by cases t0; exact ht0.2) h; omega) H
 have z0 : ((0 : Nat) : Int) = 0 := rfl
 rw [z0] at c36
 generalize argX t0 6 0 = ag at *
 obtain ⟨⟨k5, s5, a5⟩, ok5⟩ := ag
 obtain ⟨k1, s1, a1⟩ := t0
 change tm.getD 7 undefA = .im (.bool (decide (k1 = 3) || decide (k1 = 4))) at r7
 simp only [encT] at c36
 change exec0 L Λ x84_0 tm (H ++ [.obj none [[.im (.int .i64 0), .nils]], .obj none [[.im (.int .i64 k1), .im (.sl s1 (encTs a1))]]]) (K84 H) = some (.tup [.im (.agg [.int .i64 k5, .sl s5 (encTs a5)]), .im (.bool ok5)], H)
 rcases hw with rfl
 ·have q0 : decide (([102, 105, 114, 115, 116] : List UInt8) = [102, 105, 114, 115, 116]) = true := rfl
  have q1 : decide (([102, 105, 114, 115, 116] : List UInt8) = [115, 101, 99, 111, 110, 100]) = false := rfl
  (simp only [x84_0,g84_0,a84_0,B0,B1,B2,List.replicate,reduceCtorEq,lenA,seval,B5,pairK,B4,stays,loadOf,K84,endK,resA,tupA,hlen,r0,rr1,r4,r6,r7,r22,hml,q0,q1,c36,res84,keep84,leave_app,leave_tup2])
theorem w84_0b (op : List UInt8) (ts : List KT) (t0 : KT) (n : Nat) (hn : ts.length = n + 1) (hn2 : n ≤ 999) (hg0 : ts[0]? = some t0) (hR : ∀ t ∈ ts, Rt t) (tok : Nat) (H : Heap)
  (tm : List AV) (h : Mo op ts t0 tok H tm) (hw : op = [115, 101, 99, 111, 110, 100]) :
  exec0 L Λ x84_0 tm (H ++ [.obj none [[.im (.int .i64 0), .nils]], TyO t0]) (K84 H) = some (.tup [.im (.agg (encT (argX t0 6 1).1)), .im (.bool (argX t0 6 1).2)], H) := by
 have ht0 : Rt t0 := hR _ (List.mem_of_getElem? hg0)
 obtain ⟨hlen, r0, rr1, r4, r6, r7, r22⟩ := h
 have hml : (ts.map encT).length = n + 1 := by rw [List.length_map, hn]
 have c36 := fun H => s36 t0 ht0.1 6 1 (fun h => by have := right_cnt2 (k := t0.k) (s := t0.s) (args := t0.args) (by cases t0; exact ht0.2) h; omega) H
 have z0 : ((1 : Nat) : Int) = 1 := rfl
 rw [z0] at c36
 generalize argX t0 6 1 = ag at *
 obtain ⟨⟨k5, s5, a5⟩, ok5⟩ := ag
 obtain ⟨k1, s1, a1⟩ := t0
 change tm.getD 7 undefA = .im (.bool (decide (k1 = 3) || decide (k1 = 4))) at r7
 simp only [encT] at c36
 change exec0 L Λ x84_0 tm (H ++ [.obj none [[.im (.int .i64 0), .nils]], .obj none [[.im (.int .i64 k1), .im (.sl s1 (encTs a1))]]]) (K84 H) = some (.tup [.im (.agg [.int .i64 k5, .sl s5 (encTs a5)]), .im (.bool ok5)], H)
 rcases hw with rfl
 ·have q0 : decide (([115, 101, 99, 111, 110, 100] : List UInt8) = [102, 105, 114, 115, 116]) = false := rfl
  have q1 : decide (([115, 101, 99, 111, 110, 100] : List UInt8) = [115, 101, 99, 111, 110, 100]) = true := rfl
  (simp only [x84_0,g84_0,a84_0,B0,B1,B2,List.replicate,reduceCtorEq,lenA,seval,B5,pairK,B4,stays,loadOf,K84,endK,resA,tupA,hlen,r0,rr1,r4,r6,r7,r22,hml,q0,q1,c36,res84,keep84,leave_app,leave_tup2])
theorem w84_1 (op : List UInt8) (ts : List KT) (t0 : KT) (n : Nat) (hn : ts.length = n + 1) (hn2 : n ≤ 999) (hg0 : ts[0]? = some t0) (hR : ∀ t ∈ ts, Rt t) (tok : Nat) (H : Heap)
  (tm : List AV) (h : Mo op ts t0 tok H tm) (hw : op = [105, 115, 95, 115, 111, 109, 101]) :
  exec0 L Λ x84_1 tm (H ++ [.obj none [[.im (.int .i64 0), .nils]], TyO t0]) (K84 H) = some (.tup [.im (.agg (encT (.mk 1 0 []))), .im (.bool (decide (t0.k = 9)))], H) := by
 have ht0 : Rt t0 := hR _ (List.mem_of_getElem? hg0)
 obtain ⟨hlen, r0, rr1, r4, r6, r7, r22⟩ := h
 have hml : (ts.map encT).length = n + 1 := by rw [List.length_map, hn]
 have c49 := fun H => s49 1 H
 obtain ⟨k1, s1, a1⟩ := t0
 change tm.getD 7 undefA = .im (.bool (decide (k1 = 3) || decide (k1 = 4))) at r7
 change exec0 L Λ x84_1 tm (H ++ [.obj none [[.im (.int .i64 0), .nils]], .obj none [[.im (.int .i64 k1), .im (.sl s1 (encTs a1))]]]) (K84 H) = some (.tup [.im (.agg [.int .i64 1, .sl 0 []]), .im (.bool (decide (k1 = 9)))], H)
 rcases hw with rfl
 ·have q0 : decide (([105, 115, 95, 115, 111, 109, 101] : List UInt8) = [105, 115, 95, 115, 111, 109, 101]) = true := rfl
  (simp only [x84_1,g84_1,a84_1,B0,B1,B2,List.replicate,reduceCtorEq,lenA,seval,B5,pairK,B4,stays,loadOf,K84,endK,resA,tupA,hlen,r0,rr1,r4,r6,r7,r22,hml,q0,c49,res84,keep84,leave_app,leave_tup2])
theorem w84_2 (op : List UInt8) (ts : List KT) (t0 : KT) (n : Nat) (hn : ts.length = n + 1) (hn2 : n ≤ 999) (hg0 : ts[0]? = some t0) (hR : ∀ t ∈ ts, Rt t) (tok : Nat) (H : Heap) (t1 : KT) (hg1 : ts[1]? = some t1)
  (tm : List AV) (h : Mo op ts t0 tok H tm) (hw : op = [111, 114, 95, 101, 108, 115, 101]) :
  exec0 L Λ x84_2 tm (H ++ [.obj none [[.im (.int .i64 0), .nils]], TyO t0]) (K84 H) = some (.tup [.im (.agg (encT (argX t0 9 0).1)), .im (.bool ((argX t0 9 0).2 && sameR (argX t0 9 0).1 (ts.getD 1 zeroT)))], H) := by
 have ht0 : Rt t0 := hR _ (List.mem_of_getElem? hg0)
 obtain ⟨hlen, r0, rr1, r4, r6, r7, r22⟩ := h
 have hml : (ts.map encT).length = n + 1 := by rw [List.length_map, hn]
 have ht1 : Rt t1 := hR _ (List.mem_of_getElem? hg1)
 have hgD : ts.getD 1 zeroT = t1 := by rw [List.getD_eq_getElem?_getD, hg1]; rfl
 have hm1 : (ts.map encT)[1]? = some (encT t1) := by rw [List.getElem?_map, hg1]; rfl
 have hlt1 := (List.getElem?_eq_some_iff.1 hg1).1
 have i1 : idx (.im (.int .i64 1)) (n + 1) = some 1 := idx_nat (i := 1) (by omega)
 rw [hgD]
 have c36 := fun H => s36 t0 ht0.1 9 0 (fun h => right_cnt (k := t0.k) (s := t0.s) (args := t0.args) (by cases t0; exact ht0.2) (.inr h)) H
 have z0 : ((0 : Nat) : Int) = 0 := rfl
 rw [z0] at c36
 have hoa : okT (argX t0 9 0).1 := by
  unfold argX
  split
  ·rcases List.getElem?_eq_some_iff.1 (show t0.args[0]? = some (t0.args.getD 0 zeroT) by
    rw [List.getD_eq_getElem?_getD, List.getElem?_eq_getElem (right_cnt (k := t0.k) (s := t0.s) (args := t0.args) (by cases t0; exact ht0.2) (.inr (by assumption)))]; rfl) with ⟨hl, he⟩
   have := ht0.1
   obtain ⟨k2, s2, a2⟩ := t0
   simp only [okT] at this
   exact okTs_mem this.2.2 _ (List.mem_of_getElem? (List.getElem?_eq_some_iff.2 ⟨hl, he⟩))
  ·exact ⟨.inl rfl, by simp [zeroT], trivial⟩
 have c16 := fun H => s16 (argX t0 9 0).1 t1 hoa ht1.1 H
 change ∀ H, L 16 _ H = some (.im (.bool (sameR (argX t0 9 0).1 t1)), H) at c16
 generalize sameR (argX t0 9 0).1 t1 = sm at *
 generalize argX t0 9 0 = ag at *
 obtain ⟨⟨k5, s5, a5⟩, ok5⟩ := ag
 obtain ⟨k3, s3, a3⟩ := t1
 obtain ⟨k1, s1, a1⟩ := t0
 change tm.getD 7 undefA = .im (.bool (decide (k1 = 3) || decide (k1 = 4))) at r7
 simp only [encT] at hm1
 simp only [encT] at c36
 simp only [encT] at c16
 change exec0 L Λ x84_2 tm (H ++ [.obj none [[.im (.int .i64 0), .nils]], .obj none [[.im (.int .i64 k1), .im (.sl s1 (encTs a1))]]]) (K84 H) = some (.tup [.im (.agg [.int .i64 k5, .sl s5 (encTs a5)]), .im (.bool (ok5 && sm))], H)
 rcases hw with rfl
 ·have q0 : decide (([111, 114, 95, 101, 108, 115, 101] : List UInt8) = [111, 114, 95, 101, 108, 115, 101]) = true := rfl
  cases ok5 <;>
   (simp only [x84_2,g84_2,a84_2,B0,B1,B2,List.replicate,reduceCtorEq,lenA,seval,B5,pairK,B4,stays,loadOf,K84,endK,resA,tupA,hlen,r0,rr1,r4,r6,r7,r22,hml,q0,hm1,i1,c36,c16,res84,keep84,leave_app,leave_tup2]) <;> first | done | rfl | skip
theorem w84_3 (op : List UInt8) (ts : List KT) (t0 : KT) (n : Nat) (hn : ts.length = n + 1) (hn2 : n ≤ 999) (hg0 : ts[0]? = some t0) (hR : ∀ t ∈ ts, Rt t) (tok : Nat) (H : Heap)
  (tm : List AV) (h : Mo op ts t0 tok H tm) (hw : op = [106, 111, 105, 110]) :
  exec0 L Λ x84_3 tm (H ++ [.obj none [[.im (.int .i64 0), .nils]], TyO t0]) (K84 H) = some (.tup [.im (.agg (encT t0)), .im (.bool (kindsX ts [3, 3]))], H) := by
 have ht0 : Rt t0 := hR _ (List.mem_of_getElem? hg0)
 obtain ⟨hlen, r0, rr1, r4, r6, r7, r22⟩ := h
 have hml : (ts.map encT).length = n + 1 := by rw [List.length_map, hn]
 have c82 := fun H => s82 ts [3, 3] (some tok) 2 1 (.inr rfl) (.inr rfl) (by omega) H
 simp only [slV,intsD,List.map_cons,List.map_nil] at c82
 have td : toDatss [[AV.im (.int .i64 3)], [.im (.int .i64 3)]] = some [[.int .i64 3], [.int .i64 3]] := rfl
 obtain ⟨k1, s1, a1⟩ := t0
 change tm.getD 7 undefA = .im (.bool (decide (k1 = 3) || decide (k1 = 4))) at r7
 change exec0 L Λ x84_3 tm (H ++ [.obj none [[.im (.int .i64 0), .nils]], .obj none [[.im (.int .i64 k1), .im (.sl s1 (encTs a1))]]]) (K84 H) = some (.tup [.im (.agg [.int .i64 k1, .sl s1 (encTs a1)]), .im (.bool (kindsX ts [3, 3]))], H)
 rcases hw with rfl
 ·have q0 : decide (([106, 111, 105, 110] : List UInt8) = [106, 111, 105, 110]) = true := rfl
  (simp only [x84_3,g84_3,a84_3,B0,B1,B2,List.replicate,reduceCtorEq,lenA,seval,B5,pairK,B4,stays,loadOf,K84,endK,resA,tupA,hlen,r0,rr1,r4,r6,r7,r22,hml,q0,c82,td,res84,keep84,leave_app,leave_tup2])
theorem w84_4 (op : List UInt8) (ts : List KT) (t0 : KT) (n : Nat) (hn : ts.length = n + 1) (hn2 : n ≤ 999) (hg0 : ts[0]? = some t0) (hR : ∀ t ∈ ts, Rt t) (tok : Nat) (H : Heap)
  (tm : List AV) (h : Mo op ts t0 tok H tm) (hw : op = [115, 105, 122, 101]) :
  exec0 L Λ x84_4 tm (H ++ [.obj none [[.im (.int .i64 0), .nils]], TyO t0]) (K84 H) = some (.tup [.im (.agg (encT (.mk 2 0 []))), .im (.bool (decide (t0.k = 3) || decide (t0.k = 4)))], H) := by
 have ht0 : Rt t0 := hR _ (List.mem_of_getElem? hg0)
 obtain ⟨hlen, r0, rr1, r4, r6, r7, r22⟩ := h
 have hml : (ts.map encT).length = n + 1 := by rw [List.length_map, hn]
 have c49 := fun H => s49 2 H
 obtain ⟨k1, s1, a1⟩ := t0
 change tm.getD 7 undefA = .im (.bool (decide (k1 = 3) || decide (k1 = 4))) at r7
 change exec0 L Λ x84_4 tm (H ++ [.obj none [[.im (.int .i64 0), .nils]], .obj none [[.im (.int .i64 k1), .im (.sl s1 (encTs a1))]]]) (K84 H) = some (.tup [.im (.agg [.int .i64 2, .sl 0 []]), .im (.bool (decide (k1 = 3) || decide (k1 = 4)))], H)
 rcases hw with rfl
 ·have q0 : decide (([115, 105, 122, 101] : List UInt8) = [115, 105, 122, 101]) = true := rfl
  (simp only [x84_4,g84_4,a84_4,B0,B1,B2,List.replicate,reduceCtorEq,lenA,seval,B5,pairK,B4,stays,loadOf,K84,endK,resA,tupA,hlen,r0,rr1,r4,r6,r7,r22,hml,q0,c49,res84,keep84,leave_app,leave_tup2])
theorem w84_5 (op : List UInt8) (ts : List KT) (t0 : KT) (n : Nat) (hn : ts.length = n + 1) (hn2 : n ≤ 999) (hg0 : ts[0]? = some t0) (hR : ∀ t ∈ ts, Rt t) (tok : Nat) (H : Heap)
  (tm : List AV) (h : Mo op ts t0 tok H tm) (hw : op = [99, 117, 116]) :
  exec0 L Λ x84_5 tm (H ++ [.obj none [[.im (.int .i64 0), .nils]], TyO t0]) (K84 H) = some (.tup [.im (.agg (encT t0)), .im (.bool ((decide (t0.k = 3) || decide (t0.k = 4)) && kindsX (ts.drop 1) [2, 2]))], H) := by
 have ht0 : Rt t0 := hR _ (List.mem_of_getElem? hg0)
 obtain ⟨hlen, r0, rr1, r4, r6, r7, r22⟩ := h
 have hml : (ts.map encT).length = n + 1 := by rw [List.length_map, hn]
 have c82 := fun H => s82 (ts.drop 1) [2, 2] none 2 1 (.inr rfl) (.inr rfl) (by rw [List.length_drop]; omega) H
 simp only [slV,intsD,List.map_cons,List.map_nil] at c82
 have htk : sliceA 2 (.asl 2 (ts.map encT) tok) 1 (fun n => some n) none = some (.im (.sl 2 ((ts.drop 1).map encT))) := by
  unfold sliceA
  simp only [hml,if_true]
  rw [if_neg (by omega), if_pos (by omega), List.map_drop, List.take_of_length_le (by rw [List.length_drop, hml]; exact Nat.le_refl _)]
 have b0 : ∀ (ρ : AOpd → AV) (d : Nat), boundA ρ d none = some d := fun _ _ => rfl
 have b1 : ∀ (tm : List AV) (d : Nat), boundA (ev tm) d (some (.c (.im (.int .i64 1)))) = some 1 := fun _ _ => rfl
 have td : toDatss [[AV.im (.int .i64 2)], [.im (.int .i64 2)]] = some [[.int .i64 2], [.int .i64 2]] := rfl
 obtain ⟨k1, s1, a1⟩ := t0
 change tm.getD 7 undefA = .im (.bool (decide (k1 = 3) || decide (k1 = 4))) at r7
 change exec0 L Λ x84_5 tm (H ++ [.obj none [[.im (.int .i64 0), .nils]], .obj none [[.im (.int .i64 k1), .im (.sl s1 (encTs a1))]]]) (K84 H) = some (.tup [.im (.agg [.int .i64 k1, .sl s1 (encTs a1)]), .im (.bool ((decide (k1 = 3) || decide (k1 = 4)) && kindsX (ts.drop 1) [2, 2]))], H)
 generalize (decide (k1 = 3) || decide (k1 = 4)) = lk at *
 rcases hw with rfl
 ·have q0 : decide (([99, 117, 116] : List UInt8) = [99, 117, 116]) = true := rfl
  cases lk <;>
   (simp only [x84_5,g84_5,a84_5,B0,B1,B2,List.replicate,reduceCtorEq,lenA,seval,B5,pairK,B4,stays,loadOf,K84,endK,resA,tupA,hlen,r0,rr1,r4,r6,r7,r22,hml,q0,c82,td,htk,b0,b1,res84,keep84,leave_app,leave_tup2]) <;> first | done | rfl | skip
theorem w84_6 (op : List UInt8) (ts : List KT) (t0 : KT) (n : Nat) (hn : ts.length = n + 1) (hn2 : n ≤ 999) (hg0 : ts[0]? = some t0) (hR : ∀ t ∈ ts, Rt t) (tok : Nat) (H : Heap)
  (tm : List AV) (h : Mo op ts t0 tok H tm) (hw : op = [98, 121, 116, 101, 115]) :
  exec0 L Λ x84_6 tm (H ++ [.obj none [[.im (.int .i64 0), .nils]], TyO t0]) (K84 H) = some (.tup [.im (.agg (encT (.mk 4 0 []))), .im (.bool (decide (t0.k = 3)))], H) := by
 have ht0 : Rt t0 := hR _ (List.mem_of_getElem? hg0)
 obtain ⟨hlen, r0, rr1, r4, r6, r7, r22⟩ := h
 have hml : (ts.map encT).length = n + 1 := by rw [List.length_map, hn]
 have c49 := fun H => s49 4 H
 obtain ⟨k1, s1, a1⟩ := t0
 change tm.getD 7 undefA = .im (.bool (decide (k1 = 3) || decide (k1 = 4))) at r7
 change exec0 L Λ x84_6 tm (H ++ [.obj none [[.im (.int .i64 0), .nils]], .obj none [[.im (.int .i64 k1), .im (.sl s1 (encTs a1))]]]) (K84 H) = some (.tup [.im (.agg [.int .i64 4, .sl 0 []]), .im (.bool (decide (k1 = 3)))], H)
 rcases hw with rfl
 ·have q0 : decide (([98, 121, 116, 101, 115] : List UInt8) = [98, 121, 116, 101, 115]) = true := rfl
  (simp only [x84_6,g84_6,a84_6,B0,B1,B2,List.replicate,reduceCtorEq,lenA,seval,B5,pairK,B4,stays,loadOf,K84,endK,resA,tupA,hlen,r0,rr1,r4,r6,r7,r22,hml,q0,c49,res84,keep84,leave_app,leave_tup2])
theorem w84_7 (op : List UInt8) (ts : List KT) (t0 : KT) (n : Nat) (hn : ts.length = n + 1) (hn2 : n ≤ 999) (hg0 : ts[0]? = some t0) (hR : ∀ t ∈ ts, Rt t) (tok : Nat) (H : Heap)
  (tm : List AV) (h : Mo op ts t0 tok H tm) (hw : op = [116, 101, 120, 116]) :
  exec0 L Λ x84_7 tm (H ++ [.obj none [[.im (.int .i64 0), .nils]], TyO t0]) (K84 H) = some (.tup [.im (.agg (encT (.mk 3 0 []))), .im (.bool (decide (t0.k = 4)))], H) := by
 have ht0 : Rt t0 := hR _ (List.mem_of_getElem? hg0)
 obtain ⟨hlen, r0, rr1, r4, r6, r7, r22⟩ := h
 have hml : (ts.map encT).length = n + 1 := by rw [List.length_map, hn]
 have c49 := fun H => s49 3 H
 obtain ⟨k1, s1, a1⟩ := t0
 change tm.getD 7 undefA = .im (.bool (decide (k1 = 3) || decide (k1 = 4))) at r7
 change exec0 L Λ x84_7 tm (H ++ [.obj none [[.im (.int .i64 0), .nils]], .obj none [[.im (.int .i64 k1), .im (.sl s1 (encTs a1))]]]) (K84 H) = some (.tup [.im (.agg [.int .i64 3, .sl 0 []]), .im (.bool (decide (k1 = 4)))], H)
 rcases hw with rfl
 ·have q0 : decide (([116, 101, 120, 116] : List UInt8) = [116, 101, 120, 116]) = true := rfl
  (simp only [x84_7,g84_7,a84_7,B0,B1,B2,List.replicate,reduceCtorEq,lenA,seval,B5,pairK,B4,stays,loadOf,K84,endK,resA,tupA,hlen,r0,rr1,r4,r6,r7,r22,hml,q0,c49,res84,keep84,leave_app,leave_tup2])
theorem w84_8 (op : List UInt8) (ts : List KT) (t0 : KT) (n : Nat) (hn : ts.length = n + 1) (hn2 : n ≤ 999) (hg0 : ts[0]? = some t0) (hR : ∀ t ∈ ts, Rt t) (tok : Nat) (H : Heap)
  (tm : List AV) (h : Mo op ts t0 tok H tm) (hw : op = [115, 104, 111, 119]) :
  exec0 L Λ x84_8 tm (H ++ [.obj none [[.im (.int .i64 0), .nils]], TyO t0]) (K84 H) = some (.tup [.im (.agg (encT (.mk 3 0 []))), .im (.bool (decide (t0.k = 2)))], H) := by
 have ht0 : Rt t0 := hR _ (List.mem_of_getElem? hg0)
 obtain ⟨hlen, r0, rr1, r4, r6, r7, r22⟩ := h
 have hml : (ts.map encT).length = n + 1 := by rw [List.length_map, hn]
 have c49 := fun H => s49 3 H
 obtain ⟨k1, s1, a1⟩ := t0
 change tm.getD 7 undefA = .im (.bool (decide (k1 = 3) || decide (k1 = 4))) at r7
 change exec0 L Λ x84_8 tm (H ++ [.obj none [[.im (.int .i64 0), .nils]], .obj none [[.im (.int .i64 k1), .im (.sl s1 (encTs a1))]]]) (K84 H) = some (.tup [.im (.agg [.int .i64 3, .sl 0 []]), .im (.bool (decide (k1 = 2)))], H)
 rcases hw with rfl
 ·have q0 : decide (([115, 104, 111, 119] : List UInt8) = [115, 104, 111, 119]) = true := rfl
  (simp only [x84_8,g84_8,a84_8,B0,B1,B2,List.replicate,reduceCtorEq,lenA,seval,B5,pairK,B4,stays,loadOf,K84,endK,resA,tupA,hlen,r0,rr1,r4,r6,r7,r22,hml,q0,c49,res84,keep84,leave_app,leave_tup2])
theorem w84_9 (op : List UInt8) (ts : List KT) (t0 : KT) (n : Nat) (hn : ts.length = n + 1) (hn2 : n ≤ 999) (hg0 : ts[0]? = some t0) (hR : ∀ t ∈ ts, Rt t) (tok : Nat) (H : Heap)
  (tm : List AV) (h : Mo op ts t0 tok H tm) (hw : op = [112, 111, 105, 110, 116]) :
  exec0 L Λ x84_9 tm (H ++ [.obj none [[.im (.int .i64 0), .nils]], TyO t0]) (K84 H) = some (.tup [.im (.agg (encT (.mk 5 0 []))), .im (.bool (kindsX ts [2, 2]))], H) := by
 have ht0 : Rt t0 := hR _ (List.mem_of_getElem? hg0)
 obtain ⟨hlen, r0, rr1, r4, r6, r7, r22⟩ := h
 have hml : (ts.map encT).length = n + 1 := by rw [List.length_map, hn]
 have c49 := fun H => s49 5 H
 have c82 := fun H => s82 ts [2, 2] (some tok) 2 1 (.inr rfl) (.inr rfl) (by omega) H
 simp only [slV,intsD,List.map_cons,List.map_nil] at c82
 have td : toDatss [[AV.im (.int .i64 2)], [.im (.int .i64 2)]] = some [[.int .i64 2], [.int .i64 2]] := rfl
 obtain ⟨k1, s1, a1⟩ := t0
 change tm.getD 7 undefA = .im (.bool (decide (k1 = 3) || decide (k1 = 4))) at r7
 change exec0 L Λ x84_9 tm (H ++ [.obj none [[.im (.int .i64 0), .nils]], .obj none [[.im (.int .i64 k1), .im (.sl s1 (encTs a1))]]]) (K84 H) = some (.tup [.im (.agg [.int .i64 5, .sl 0 []]), .im (.bool (kindsX ts [2, 2]))], H)
 rcases hw with rfl
 ·have q0 : decide (([112, 111, 105, 110, 116] : List UInt8) = [112, 111, 105, 110, 116]) = true := rfl
  (simp only [x84_9,g84_9,a84_9,B0,B1,B2,List.replicate,reduceCtorEq,lenA,seval,B5,pairK,B4,stays,loadOf,K84,endK,resA,tupA,hlen,r0,rr1,r4,r6,r7,r22,hml,q0,c49,c82,td,res84,keep84,leave_app,leave_tup2])
theorem w84_10 (op : List UInt8) (ts : List KT) (t0 : KT) (n : Nat) (hn : ts.length = n + 1) (hn2 : n ≤ 999) (hg0 : ts[0]? = some t0) (hR : ∀ t ∈ ts, Rt t) (tok : Nat) (H : Heap)
  (tm : List AV) (h : Mo op ts t0 tok H tm) (hw : op = [114, 101] ∨ op = [105, 109]) :
  exec0 L Λ x84_10 tm (H ++ [.obj none [[.im (.int .i64 0), .nils]], TyO t0]) (K84 H) = some (.tup [.im (.agg (encT (.mk 2 0 []))), .im (.bool (decide (t0.k = 5)))], H) := by
 have ht0 : Rt t0 := hR _ (List.mem_of_getElem? hg0)
 obtain ⟨hlen, r0, rr1, r4, r6, r7, r22⟩ := h
 have hml : (ts.map encT).length = n + 1 := by rw [List.length_map, hn]
 have c49 := fun H => s49 2 H
 obtain ⟨k1, s1, a1⟩ := t0
 change tm.getD 7 undefA = .im (.bool (decide (k1 = 3) || decide (k1 = 4))) at r7
 change exec0 L Λ x84_10 tm (H ++ [.obj none [[.im (.int .i64 0), .nils]], .obj none [[.im (.int .i64 k1), .im (.sl s1 (encTs a1))]]]) (K84 H) = some (.tup [.im (.agg [.int .i64 2, .sl 0 []]), .im (.bool (decide (k1 = 5)))], H)
 rcases hw with rfl | rfl
 ·have q0 : decide (([114, 101] : List UInt8) = [114, 101]) = true := rfl
  (simp only [x84_10,g84_10,a84_10,B0,B1,B2,List.replicate,reduceCtorEq,lenA,seval,B5,pairK,B4,stays,loadOf,K84,endK,resA,tupA,hlen,r0,rr1,r4,r6,r7,r22,hml,q0,c49,res84,keep84,leave_app,leave_tup2])
 ·have q0 : decide (([105, 109] : List UInt8) = [114, 101]) = false := rfl
  have q1 : decide (([105, 109] : List UInt8) = [105, 109]) = true := rfl
  (simp only [x84_10,g84_10,a84_10,B0,B1,B2,List.replicate,reduceCtorEq,lenA,seval,B5,pairK,B4,stays,loadOf,K84,endK,resA,tupA,hlen,r0,rr1,r4,r6,r7,r22,hml,q0,q1,c49,res84,keep84,leave_app,leave_tup2])
theorem w84_11 (op : List UInt8) (ts : List KT) (t0 : KT) (n : Nat) (hn : ts.length = n + 1) (hn2 : n ≤ 999) (hg0 : ts[0]? = some t0) (hR : ∀ t ∈ ts, Rt t) (tok : Nat) (H : Heap)
  (tm : List AV) (h : Mo op ts t0 tok H tm) (hw : op = [99, 111, 110, 106]) :
  exec0 L Λ x84_11 tm (H ++ [.obj none [[.im (.int .i64 0), .nils]], TyO t0]) (K84 H) = some (.tup [.im (.agg (encT t0)), .im (.bool (decide (t0.k = 5)))], H) := by
 have ht0 : Rt t0 := hR _ (List.mem_of_getElem? hg0)
 obtain ⟨hlen, r0, rr1, r4, r6, r7, r22⟩ := h
 have hml : (ts.map encT).length = n + 1 := by rw [List.length_map, hn]
 obtain ⟨k1, s1, a1⟩ := t0
 change tm.getD 7 undefA = .im (.bool (decide (k1 = 3) || decide (k1 = 4))) at r7
 change exec0 L Λ x84_11 tm (H ++ [.obj none [[.im (.int .i64 0), .nils]], .obj none [[.im (.int .i64 k1), .im (.sl s1 (encTs a1))]]]) (K84 H) = some (.tup [.im (.agg [.int .i64 k1, .sl s1 (encTs a1)]), .im (.bool (decide (k1 = 5)))], H)
 rcases hw with rfl
 ·have q0 : decide (([99, 111, 110, 106] : List UInt8) = [99, 111, 110, 106]) = true := rfl
  (simp only [x84_11,g84_11,a84_11,B0,B1,B2,List.replicate,reduceCtorEq,lenA,seval,B5,pairK,B4,stays,loadOf,K84,endK,resA,tupA,hlen,r0,rr1,r4,r6,r7,r22,hml,q0,res84,keep84,leave_app,leave_tup2])
end Go.Abs.Seat
end
section
set_option linter.unusedVariables false
set_option linter.unusedSimpArgs false
namespace Go.Abs.Seat
open Go.Proofs
def moreX (op : List UInt8) (ts : List KT) (t0 : KT) : KT × Bool :=
 if op = [102, 105, 114, 115, 116] then argX t0 6 0 else
 if op = [115, 101, 99, 111, 110, 100] then argX t0 6 1 else
 if op = [105, 115, 95, 115, 111, 109, 101] then ((.mk 1 0 []), (decide (t0.k = 9))) else
 if op = [111, 114, 95, 101, 108, 115, 101] then ((argX t0 9 0).1, ((argX t0 9 0).2 && sameR (argX t0 9 0).1 (ts.getD 1 zeroT))) else
 if op = [106, 111, 105, 110] then (t0, (kindsX ts [3, 3])) else
 if op = [115, 105, 122, 101] then ((.mk 2 0 []), (decide (t0.k = 3) || decide (t0.k = 4))) else
 if op = [99, 117, 116] then (t0, ((decide (t0.k = 3) || decide (t0.k = 4)) && kindsX (ts.drop 1) [2, 2])) else
 if op = [98, 121, 116, 101, 115] then ((.mk 4 0 []), (decide (t0.k = 3))) else
 if op = [116, 101, 120, 116] then ((.mk 3 0 []), (decide (t0.k = 4))) else
 if op = [115, 104, 111, 119] then ((.mk 3 0 []), (decide (t0.k = 2))) else
 if op = [112, 111, 105, 110, 116] then ((.mk 5 0 []), (kindsX ts [2, 2])) else
 if op = [114, 101] ∨ op = [105, 109] then ((.mk 2 0 []), (decide (t0.k = 5))) else
 if op = [99, 111, 110, 106] then (t0, (decide (t0.k = 5))) else
 (.mk 0 0 [], false)
def plainX (op : List UInt8) (ts : List KT) (t0 tl : KT) : KT × Bool :=
 if op = [97, 100, 100] ∨ op = [115, 117, 98] ∨ op = [109, 117, 108] then (t0, (sameR t0 tl && (decide (t0.k = 2) || decide (t0.k = 5)))) else
 if op = [110, 101, 103] then (t0, (decide (t0.k = 2) || decide (t0.k = 5))) else
 if op = [100, 105, 118] ∨ op = [109, 111, 100] then (t0, (kindsX ts [2, 2])) else
 if op = [101, 113] ∨ op = [108, 116] then ((.mk 1 0 []), (sameR t0 tl)) else
 if op = [97, 110, 100] ∨ op = [111, 114] then (t0, (kindsX ts [1, 1])) else
 if op = [110, 111, 116] then (t0, (decide (t0.k = 1))) else
 if op = [105, 102] then (tl, (decide (t0.k = 1) && sameR (ts.getD 1 zeroT) tl)) else
 if op = [112, 97, 105, 114] then ((.mk 6 2 ts), true) else
 if op = [108, 105, 115, 116] then ((.mk 7 2 (ts.take 1)), (!(ts.any fun t => !sameR t t0))) else
 if op = [99, 111, 110, 115] then (tl, ((argX tl 7 0).2 && sameR t0 (argX tl 7 0).1)) else
 if op = [99, 111, 110, 99, 97, 116] then (t0, ((argX t0 7 0).2 && sameR t0 tl)) else
 if op = [115, 111, 114, 116] then (t0, (argX t0 7 0).2) else
 if op = [108, 101, 110] then ((.mk 2 0 []), (argX t0 7 0).2) else
 if op = [97, 116] then ((.mk 9 2 [(argX t0 7 0).1]), ((argX t0 7 0).2 && decide (tl.k = 2))) else
 if op = [114, 97, 110, 103, 101] then ((.mk 7 2 ts), (decide (t0.k = 2))) else
 if op = [115, 111, 109, 101] then ((.mk 9 2 ts), true) else
 moreX op ts t0
theorem s84 (op : List UInt8) (ts : List KT) (t0 : KT) (n : Nat) (hn : ts.length = n + 1) (hn2 : n ≤ 999) (hg0 : ts[0]? = some t0) (hR : ∀ t ∈ ts, Rt t) (h2 : op = [111, 114, 95, 101, 108, 115, 101] → 1 < ts.length) (tok : Nat) (H : Heap) :
  L 84 [.im (.str op), .asl 2 (ts.map encT) tok] H = some (.tup [.im (.agg (encT (moreX op ts t0).1)), .im (.bool (moreX op ts t0).2)], H) := by
 obtain ⟨tm, e, hM⟩ := pre84 op ts t0 n hn hn2 hg0 tok H
 rw [e]
 by_cases u0a : op = [102, 105, 114, 115, 116]
 ·obtain ⟨tm1, e1, l1, s1⟩ := to84_0 (op := op) (H := H ++ [.obj none [[.im (.int .i64 0), .nils]], TyO t0]) (K84 H) hM.len hM.r22 (by simp [lits84])
  rw [e1]
  rw [show moreX op ts t0 = argX t0 6 0 from by unfold moreX; rw [if_pos u0a]]
  exact w84_0a op ts t0 n hn hn2 hg0 hR tok H tm1 (hM.same l1 s1) u0a
 have vu0a := u0a
 by_cases u0b : op = [115, 101, 99, 111, 110, 100]
 ·obtain ⟨tm1, e1, l1, s1⟩ := to84_0 (op := op) (H := H ++ [.obj none [[.im (.int .i64 0), .nils]], TyO t0]) (K84 H) hM.len hM.r22 (by simp [lits84])
  rw [e1]
  rw [show moreX op ts t0 = argX t0 6 1 from by unfold moreX; rw [if_neg u0a, if_pos u0b]]
  exact w84_0b op ts t0 n hn hn2 hg0 hR tok H tm1 (hM.same l1 s1) u0b
 have vu0b := u0b
 by_cases u1 : op = [105, 115, 95, 115, 111, 109, 101]
 ·obtain ⟨tm1, e1, l1, s1⟩ := to84_1 (op := op) (H := H ++ [.obj none [[.im (.int .i64 0), .nils]], TyO t0]) (K84 H) hM.len hM.r22 (by simp [lits84, vu0a, vu0b])
  rw [e1]
  rw [show moreX op ts t0 = ((.mk 1 0 []), (decide (t0.k = 9))) from by unfold moreX; rw [if_neg u0a, if_neg u0b, if_pos u1]]
  exact w84_1 op ts t0 n hn hn2 hg0 hR tok H tm1 (hM.same l1 s1) u1
 have vu1 := u1
 by_cases u2 : op = [111, 114, 95, 101, 108, 115, 101]
 ·obtain ⟨tm1, e1, l1, s1⟩ := to84_2 (op := op) (H := H ++ [.obj none [[.im (.int .i64 0), .nils]], TyO t0]) (K84 H) hM.len hM.r22 (by simp [lits84, vu0a, vu0b, vu1])
  rw [e1]
  rw [show moreX op ts t0 = ((argX t0 9 0).1, ((argX t0 9 0).2 && sameR (argX t0 9 0).1 (ts.getD 1 zeroT))) from by unfold moreX; rw [if_neg u0a, if_neg u0b, if_neg u1, if_pos u2]]
  obtain ⟨t1, hg1⟩ : ∃ t1, ts[1]? = some t1 := ⟨_, List.getElem?_eq_getElem (h2 u2)⟩
  exact w84_2 op ts t0 n hn hn2 hg0 hR tok H t1 hg1 tm1 (hM.same l1 s1) u2
 have vu2 := u2
 by_cases u3 : op = [106, 111, 105, 110]
 ·obtain ⟨tm1, e1, l1, s1⟩ := to84_3 (op := op) (H := H ++ [.obj none [[.im (.int .i64 0), .nils]], TyO t0]) (K84 H) hM.len hM.r22 (by simp [lits84, vu0a, vu0b, vu1, vu2])
  rw [e1]
  rw [show moreX op ts t0 = (t0, (kindsX ts [3, 3])) from by unfold moreX; rw [if_neg u0a, if_neg u0b, if_neg u1, if_neg u2, if_pos u3]]
  exact w84_3 op ts t0 n hn hn2 hg0 hR tok H tm1 (hM.same l1 s1) u3
 have vu3 := u3
 by_cases u4 : op = [115, 105, 122, 101]
 ·obtain ⟨tm1, e1, l1, s1⟩ := to84_4 (op := op) (H := H ++ [.obj none [[.im (.int .i64 0), .nils]], TyO t0]) (K84 H) hM.len hM.r22 (by simp [lits84, vu0a, vu0b, vu1, vu2, vu3])
  rw [e1]
  rw [show moreX op ts t0 = ((.mk 2 0 []), (decide (t0.k = 3) || decide (t0.k = 4))) from by unfold moreX; rw [if_neg u0a, if_neg u0b, if_neg u1, if_neg u2, if_neg u3, if_pos u4]]
  exact w84_4 op ts t0 n hn hn2 hg0 hR tok H tm1 (hM.same l1 s1) u4
 have vu4 := u4
 by_cases u5 : op = [99, 117, 116]
 ·obtain ⟨tm1, e1, l1, s1⟩ := to84_5 (op := op) (H := H ++ [.obj none [[.im (.int .i64 0), .nils]], TyO t0]) (K84 H) hM.len hM.r22 (by simp [lits84, vu0a, vu0b, vu1, vu2, vu3, vu4])
  rw [e1]
  rw [show moreX op ts t0 = (t0, ((decide (t0.k = 3) || decide (t0.k = 4)) && kindsX (ts.drop 1) [2, 2])) from by unfold moreX; rw [if_neg u0a, if_neg u0b, if_neg u1, if_neg u2, if_neg u3, if_neg u4, if_pos u5]]
  exact w84_5 op ts t0 n hn hn2 hg0 hR tok H tm1 (hM.same l1 s1) u5
 have vu5 := u5
 by_cases u6 : op = [98, 121, 116, 101, 115]
 ·obtain ⟨tm1, e1, l1, s1⟩ := to84_6 (op := op) (H := H ++ [.obj none [[.im (.int .i64 0), .nils]], TyO t0]) (K84 H) hM.len hM.r22 (by simp [lits84, vu0a, vu0b, vu1, vu2, vu3, vu4, vu5])
  rw [e1]
  rw [show moreX op ts t0 = ((.mk 4 0 []), (decide (t0.k = 3))) from by unfold moreX; rw [if_neg u0a, if_neg u0b, if_neg u1, if_neg u2, if_neg u3, if_neg u4, if_neg u5, if_pos u6]]
  exact w84_6 op ts t0 n hn hn2 hg0 hR tok H tm1 (hM.same l1 s1) u6
 have vu6 := u6
 by_cases u7 : op = [116, 101, 120, 116]
 ·obtain ⟨tm1, e1, l1, s1⟩ := to84_7 (op := op) (H := H ++ [.obj none [[.im (.int .i64 0), .nils]], TyO t0]) (K84 H) hM.len hM.r22 (by simp [lits84, vu0a, vu0b, vu1, vu2, vu3, vu4, vu5, vu6])
  rw [e1]
  rw [show moreX op ts t0 = ((.mk 3 0 []), (decide (t0.k = 4))) from by unfold moreX; rw [if_neg u0a, if_neg u0b, if_neg u1, if_neg u2, if_neg u3, if_neg u4, if_neg u5, if_neg u6, if_pos u7]]
  exact w84_7 op ts t0 n hn hn2 hg0 hR tok H tm1 (hM.same l1 s1) u7
 have vu7 := u7
 by_cases u8 : op = [115, 104, 111, 119]
 ·obtain ⟨tm1, e1, l1, s1⟩ := to84_8 (op := op) (H := H ++ [.obj none [[.im (.int .i64 0), .nils]], TyO t0]) (K84 H) hM.len hM.r22 (by simp [lits84, vu0a, vu0b, vu1, vu2, vu3, vu4, vu5, vu6, vu7])
  rw [e1]
  rw [show moreX op ts t0 = ((.mk 3 0 []), (decide (t0.k = 2))) from by unfold moreX; rw [if_neg u0a, if_neg u0b, if_neg u1, if_neg u2, if_neg u3, if_neg u4, if_neg u5, if_neg u6, if_neg u7, if_pos u8]]
  exact w84_8 op ts t0 n hn hn2 hg0 hR tok H tm1 (hM.same l1 s1) u8
 have vu8 := u8
 by_cases u9 : op = [112, 111, 105, 110, 116]
 ·obtain ⟨tm1, e1, l1, s1⟩ := to84_9 (op := op) (H := H ++ [.obj none [[.im (.int .i64 0), .nils]], TyO t0]) (K84 H) hM.len hM.r22 (by simp [lits84, vu0a, vu0b, vu1, vu2, vu3, vu4, vu5, vu6, vu7, vu8])
  rw [e1]
  rw [show moreX op ts t0 = ((.mk 5 0 []), (kindsX ts [2, 2])) from by unfold moreX; rw [if_neg u0a, if_neg u0b, if_neg u1, if_neg u2, if_neg u3, if_neg u4, if_neg u5, if_neg u6, if_neg u7, if_neg u8, if_pos u9]]
  exact w84_9 op ts t0 n hn hn2 hg0 hR tok H tm1 (hM.same l1 s1) u9
 have vu9 := u9
 by_cases u10 : op = [114, 101] ∨ op = [105, 109]
 ·obtain ⟨tm1, e1, l1, s1⟩ := to84_10 (op := op) (H := H ++ [.obj none [[.im (.int .i64 0), .nils]], TyO t0]) (K84 H) hM.len hM.r22 (by simp [lits84, vu0a, vu0b, vu1, vu2, vu3, vu4, vu5, vu6, vu7, vu8, vu9])
  rw [e1]
  rw [show moreX op ts t0 = ((.mk 2 0 []), (decide (t0.k = 5))) from by unfold moreX; rw [if_neg u0a, if_neg u0b, if_neg u1, if_neg u2, if_neg u3, if_neg u4, if_neg u5, if_neg u6, if_neg u7, if_neg u8, if_neg u9, if_pos u10]]
  exact w84_10 op ts t0 n hn hn2 hg0 hR tok H tm1 (hM.same l1 s1) u10
 have vu10 := u10
 simp only [not_or] at vu10
 by_cases u11 : op = [99, 111, 110, 106]
 ·obtain ⟨tm1, e1, l1, s1⟩ := to84_11 (op := op) (H := H ++ [.obj none [[.im (.int .i64 0), .nils]], TyO t0]) (K84 H) hM.len hM.r22 (by simp [lits84, vu0a, vu0b, vu1, vu2, vu3, vu4, vu5, vu6, vu7, vu8, vu9, vu10])
  rw [e1]
  rw [show moreX op ts t0 = (t0, (decide (t0.k = 5))) from by unfold moreX; rw [if_neg u0a, if_neg u0b, if_neg u1, if_neg u2, if_neg u3, if_neg u4, if_neg u5, if_neg u6, if_neg u7, if_neg u8, if_neg u9, if_neg u10, if_pos u11]]
  exact w84_11 op ts t0 n hn hn2 hg0 hR tok H tm1 (hM.same l1 s1) u11
 have vu11 := u11
 obtain ⟨tm1, e1, l1, s1⟩ := to84_12 (op := op) (H := H ++ [.obj none [[.im (.int .i64 0), .nils]], TyO t0]) (K84 H) hM.len hM.r22 (by simp [lits84, vu0a, vu0b, vu1, vu2, vu3, vu4, vu5, vu6, vu7, vu8, vu9, vu10, vu11])
 rw [e1]
 rw [show moreX op ts t0 = (.mk 0 0 [], false) from by unfold moreX; rw [if_neg u0a, if_neg u0b, if_neg u1, if_neg u2, if_neg u3, if_neg u4, if_neg u5, if_neg u6, if_neg u7, if_neg u8, if_neg u9, if_neg u10, if_neg u11]]
 obtain ⟨hlen, r0, rr1, r4, r6, r7, r22⟩ := hM.same l1 s1
 have hlv : ∀ (M : Heap), leave H false (.tup [.agg [.im (.int .i64 0), .nils], .im (.bool false)]) (H ++ M) = (.tup [.im (.agg [.int .i64 0, .sl 0 []]), .im (.bool false)], H) := fun M => leave_two rfl rfl
 simp only [x84_12,h84_4,h84_5,TyO,B0,B1,B2,List.replicate,reduceCtorEq,lenA,seval,B5,pairK,B4,stays,loadOf,K84,endK,resA,tupA,hlen,r4,res84,keep84,hlv,leave_app,leave_tup2]
 rfl
theorem s55 (op : List UInt8) (ts : List KT) (t0 tl : KT) (n : Nat) (hn : ts.length = n + 1) (hn2 : n ≤ 999) (hg0 : ts[0]? = some t0) (hgl : ts[n]? = some tl) (hR : ∀ t ∈ ts, Rt t) (h2 : op = [105, 102] → 1 < ts.length) (h3 : op = [111, 114, 95, 101, 108, 115, 101] → 1 < ts.length) (tok : Nat) (H : Heap) :
  L 55 [.im (.str op), .asl 2 (ts.map encT) tok] H = some (.tup [.im (.agg (encT (plainX op ts t0 tl).1)), .im (.bool (plainX op ts t0 tl).2)], H) := by
 obtain ⟨tm, e, hM⟩ := pre55 op ts t0 tl n hn (by omega) hg0 hgl (hR _ (List.mem_of_getElem? hg0)) (hR _ (List.mem_of_getElem? hgl)) tok H
 rw [e]
 by_cases u0 : op = [97, 100, 100] ∨ op = [115, 117, 98] ∨ op = [109, 117, 108]
 ·obtain ⟨tm1, e1, l1, s1⟩ := to55_0 (op := op) (H := H ++ [.obj none [[.im (.int .i64 0), .nils]], TyO t0, TyO tl, TyO (argX t0 7 0).1]) (K55 H) hM.len hM.r30 (by simp [lits55])
  rw [e1]
  rw [show plainX op ts t0 tl = (t0, (sameR t0 tl && (decide (t0.k = 2) || decide (t0.k = 5)))) from by unfold plainX; rw [if_pos u0]]
  exact w55_0 op ts t0 tl n hn hn2 hg0 hgl hR tok H tm1 (hM.same l1 s1) u0
 have vu0 := u0
 simp only [not_or] at vu0
 by_cases u1 : op = [110, 101, 103]
 ·obtain ⟨tm1, e1, l1, s1⟩ := to55_1 (op := op) (H := H ++ [.obj none [[.im (.int .i64 0), .nils]], TyO t0, TyO tl, TyO (argX t0 7 0).1]) (K55 H) hM.len hM.r30 (by simp [lits55, vu0])
  rw [e1]
  rw [show plainX op ts t0 tl = (t0, (decide (t0.k = 2) || decide (t0.k = 5))) from by unfold plainX; rw [if_neg u0, if_pos u1]]
  exact w55_1 op ts t0 tl n hn hn2 hg0 hgl hR tok H tm1 (hM.same l1 s1) u1
 have vu1 := u1
 by_cases u2 : op = [100, 105, 118] ∨ op = [109, 111, 100]
 ·obtain ⟨tm1, e1, l1, s1⟩ := to55_2 (op := op) (H := H ++ [.obj none [[.im (.int .i64 0), .nils]], TyO t0, TyO tl, TyO (argX t0 7 0).1]) (K55 H) hM.len hM.r30 (by simp [lits55, vu0, vu1])
  rw [e1]
  rw [show plainX op ts t0 tl = (t0, (kindsX ts [2, 2])) from by unfold plainX; rw [if_neg u0, if_neg u1, if_pos u2]]
  exact w55_2 op ts t0 tl n hn hn2 hg0 hgl hR tok H tm1 (hM.same l1 s1) u2
 have vu2 := u2
 simp only [not_or] at vu2
 by_cases u3 : op = [101, 113] ∨ op = [108, 116]
 ·obtain ⟨tm1, e1, l1, s1⟩ := to55_3 (op := op) (H := H ++ [.obj none [[.im (.int .i64 0), .nils]], TyO t0, TyO tl, TyO (argX t0 7 0).1]) (K55 H) hM.len hM.r30 (by simp [lits55, vu0, vu1, vu2])
  rw [e1]
  rw [show plainX op ts t0 tl = ((.mk 1 0 []), (sameR t0 tl)) from by unfold plainX; rw [if_neg u0, if_neg u1, if_neg u2, if_pos u3]]
  exact w55_3 op ts t0 tl n hn hn2 hg0 hgl hR tok H tm1 (hM.same l1 s1) u3
 have vu3 := u3
 simp only [not_or] at vu3
 by_cases u4 : op = [97, 110, 100] ∨ op = [111, 114]
 ·obtain ⟨tm1, e1, l1, s1⟩ := to55_4 (op := op) (H := H ++ [.obj none [[.im (.int .i64 0), .nils]], TyO t0, TyO tl, TyO (argX t0 7 0).1]) (K55 H) hM.len hM.r30 (by simp [lits55, vu0, vu1, vu2, vu3])
  rw [e1]
  rw [show plainX op ts t0 tl = (t0, (kindsX ts [1, 1])) from by unfold plainX; rw [if_neg u0, if_neg u1, if_neg u2, if_neg u3, if_pos u4]]
  exact w55_4 op ts t0 tl n hn hn2 hg0 hgl hR tok H tm1 (hM.same l1 s1) u4
 have vu4 := u4
 simp only [not_or] at vu4
 by_cases u5 : op = [110, 111, 116]
 ·obtain ⟨tm1, e1, l1, s1⟩ := to55_5 (op := op) (H := H ++ [.obj none [[.im (.int .i64 0), .nils]], TyO t0, TyO tl, TyO (argX t0 7 0).1]) (K55 H) hM.len hM.r30 (by simp [lits55, vu0, vu1, vu2, vu3, vu4])
  rw [e1]
  rw [show plainX op ts t0 tl = (t0, (decide (t0.k = 1))) from by unfold plainX; rw [if_neg u0, if_neg u1, if_neg u2, if_neg u3, if_neg u4, if_pos u5]]
  exact w55_5 op ts t0 tl n hn hn2 hg0 hgl hR tok H tm1 (hM.same l1 s1) u5
 have vu5 := u5
 by_cases u6 : op = [105, 102]
 ·obtain ⟨tm1, e1, l1, s1⟩ := to55_6 (op := op) (H := H ++ [.obj none [[.im (.int .i64 0), .nils]], TyO t0, TyO tl, TyO (argX t0 7 0).1]) (K55 H) hM.len hM.r30 (by simp [lits55, vu0, vu1, vu2, vu3, vu4, vu5])
  rw [e1]
  rw [show plainX op ts t0 tl = (tl, (decide (t0.k = 1) && sameR (ts.getD 1 zeroT) tl)) from by unfold plainX; rw [if_neg u0, if_neg u1, if_neg u2, if_neg u3, if_neg u4, if_neg u5, if_pos u6]]
  obtain ⟨t1, hg1⟩ : ∃ t1, ts[1]? = some t1 := ⟨_, List.getElem?_eq_getElem (h2 u6)⟩
  exact w55_6 op ts t0 tl n hn hn2 hg0 hgl hR tok H t1 hg1 tm1 (hM.same l1 s1) u6
 have vu6 := u6
 by_cases u7 : op = [112, 97, 105, 114]
 ·obtain ⟨tm1, e1, l1, s1⟩ := to55_7 (op := op) (H := H ++ [.obj none [[.im (.int .i64 0), .nils]], TyO t0, TyO tl, TyO (argX t0 7 0).1]) (K55 H) hM.len hM.r30 (by simp [lits55, vu0, vu1, vu2, vu3, vu4, vu5, vu6])
  rw [e1]
  rw [show plainX op ts t0 tl = ((.mk 6 2 ts), true) from by unfold plainX; rw [if_neg u0, if_neg u1, if_neg u2, if_neg u3, if_neg u4, if_neg u5, if_neg u6, if_pos u7]]
  exact w55_7 op ts t0 tl n hn hn2 hg0 hgl hR tok H tm1 (hM.same l1 s1) u7
 have vu7 := u7
 by_cases u8 : op = [108, 105, 115, 116]
 ·obtain ⟨tm1, e1, l1, s1⟩ := to55_8 (op := op) (H := H ++ [.obj none [[.im (.int .i64 0), .nils]], TyO t0, TyO tl, TyO (argX t0 7 0).1]) (K55 H) hM.len hM.r30 (by simp [lits55, vu0, vu1, vu2, vu3, vu4, vu5, vu6, vu7])
  rw [e1]
  rw [show plainX op ts t0 tl = ((.mk 7 2 (ts.take 1)), (!(ts.any fun t => !sameR t t0))) from by unfold plainX; rw [if_neg u0, if_neg u1, if_neg u2, if_neg u3, if_neg u4, if_neg u5, if_neg u6, if_neg u7, if_pos u8]]
  exact w55_8 op ts t0 tl n hn hn2 hg0 hgl hR tok H tm1 (hM.same l1 s1) u8
 have vu8 := u8
 by_cases u9 : op = [99, 111, 110, 115]
 ·obtain ⟨tm1, e1, l1, s1⟩ := to55_9 (op := op) (H := H ++ [.obj none [[.im (.int .i64 0), .nils]], TyO t0, TyO tl, TyO (argX t0 7 0).1]) (K55 H) hM.len hM.r30 (by simp [lits55, vu0, vu1, vu2, vu3, vu4, vu5, vu6, vu7, vu8])
  rw [e1]
  rw [show plainX op ts t0 tl = (tl, ((argX tl 7 0).2 && sameR t0 (argX tl 7 0).1)) from by unfold plainX; rw [if_neg u0, if_neg u1, if_neg u2, if_neg u3, if_neg u4, if_neg u5, if_neg u6, if_neg u7, if_neg u8, if_pos u9]]
  exact w55_9 op ts t0 tl n hn hn2 hg0 hgl hR tok H tm1 (hM.same l1 s1) u9
 have vu9 := u9
 by_cases u10 : op = [99, 111, 110, 99, 97, 116]
 ·obtain ⟨tm1, e1, l1, s1⟩ := to55_10 (op := op) (H := H ++ [.obj none [[.im (.int .i64 0), .nils]], TyO t0, TyO tl, TyO (argX t0 7 0).1]) (K55 H) hM.len hM.r30 (by simp [lits55, vu0, vu1, vu2, vu3, vu4, vu5, vu6, vu7, vu8, vu9])
  rw [e1]
  rw [show plainX op ts t0 tl = (t0, ((argX t0 7 0).2 && sameR t0 tl)) from by unfold plainX; rw [if_neg u0, if_neg u1, if_neg u2, if_neg u3, if_neg u4, if_neg u5, if_neg u6, if_neg u7, if_neg u8, if_neg u9, if_pos u10]]
  exact w55_10 op ts t0 tl n hn hn2 hg0 hgl hR tok H tm1 (hM.same l1 s1) u10
 have vu10 := u10
 by_cases u11 : op = [115, 111, 114, 116]
 ·obtain ⟨tm1, e1, l1, s1⟩ := to55_11 (op := op) (H := H ++ [.obj none [[.im (.int .i64 0), .nils]], TyO t0, TyO tl, TyO (argX t0 7 0).1]) (K55 H) hM.len hM.r30 (by simp [lits55, vu0, vu1, vu2, vu3, vu4, vu5, vu6, vu7, vu8, vu9, vu10])
  rw [e1]
  rw [show plainX op ts t0 tl = (t0, (argX t0 7 0).2) from by unfold plainX; rw [if_neg u0, if_neg u1, if_neg u2, if_neg u3, if_neg u4, if_neg u5, if_neg u6, if_neg u7, if_neg u8, if_neg u9, if_neg u10, if_pos u11]]
  exact w55_11 op ts t0 tl n hn hn2 hg0 hgl hR tok H tm1 (hM.same l1 s1) u11
 have vu11 := u11
 by_cases u12 : op = [108, 101, 110]
 ·obtain ⟨tm1, e1, l1, s1⟩ := to55_12 (op := op) (H := H ++ [.obj none [[.im (.int .i64 0), .nils]], TyO t0, TyO tl, TyO (argX t0 7 0).1]) (K55 H) hM.len hM.r30 (by simp [lits55, vu0, vu1, vu2, vu3, vu4, vu5, vu6, vu7, vu8, vu9, vu10, vu11])
  rw [e1]
  rw [show plainX op ts t0 tl = ((.mk 2 0 []), (argX t0 7 0).2) from by unfold plainX; rw [if_neg u0, if_neg u1, if_neg u2, if_neg u3, if_neg u4, if_neg u5, if_neg u6, if_neg u7, if_neg u8, if_neg u9, if_neg u10, if_neg u11, if_pos u12]]
  exact w55_12 op ts t0 tl n hn hn2 hg0 hgl hR tok H tm1 (hM.same l1 s1) u12
 have vu12 := u12
 by_cases u13 : op = [97, 116]
 ·obtain ⟨tm1, e1, l1, s1⟩ := to55_13 (op := op) (H := H ++ [.obj none [[.im (.int .i64 0), .nils]], TyO t0, TyO tl, TyO (argX t0 7 0).1]) (K55 H) hM.len hM.r30 (by simp [lits55, vu0, vu1, vu2, vu3, vu4, vu5, vu6, vu7, vu8, vu9, vu10, vu11, vu12])
  rw [e1]
  rw [show plainX op ts t0 tl = ((.mk 9 2 [(argX t0 7 0).1]), ((argX t0 7 0).2 && decide (tl.k = 2))) from by unfold plainX; rw [if_neg u0, if_neg u1, if_neg u2, if_neg u3, if_neg u4, if_neg u5, if_neg u6, if_neg u7, if_neg u8, if_neg u9, if_neg u10, if_neg u11, if_neg u12, if_pos u13]]
  exact w55_13 op ts t0 tl n hn hn2 hg0 hgl hR tok H tm1 (hM.same l1 s1) u13
 have vu13 := u13
 by_cases u14 : op = [114, 97, 110, 103, 101]
 ·obtain ⟨tm1, e1, l1, s1⟩ := to55_14 (op := op) (H := H ++ [.obj none [[.im (.int .i64 0), .nils]], TyO t0, TyO tl, TyO (argX t0 7 0).1]) (K55 H) hM.len hM.r30 (by simp [lits55, vu0, vu1, vu2, vu3, vu4, vu5, vu6, vu7, vu8, vu9, vu10, vu11, vu12, vu13])
  rw [e1]
  rw [show plainX op ts t0 tl = ((.mk 7 2 ts), (decide (t0.k = 2))) from by unfold plainX; rw [if_neg u0, if_neg u1, if_neg u2, if_neg u3, if_neg u4, if_neg u5, if_neg u6, if_neg u7, if_neg u8, if_neg u9, if_neg u10, if_neg u11, if_neg u12, if_neg u13, if_pos u14]]
  exact w55_14 op ts t0 tl n hn hn2 hg0 hgl hR tok H tm1 (hM.same l1 s1) u14
 have vu14 := u14
 by_cases u15 : op = [115, 111, 109, 101]
 ·obtain ⟨tm1, e1, l1, s1⟩ := to55_15 (op := op) (H := H ++ [.obj none [[.im (.int .i64 0), .nils]], TyO t0, TyO tl, TyO (argX t0 7 0).1]) (K55 H) hM.len hM.r30 (by simp [lits55, vu0, vu1, vu2, vu3, vu4, vu5, vu6, vu7, vu8, vu9, vu10, vu11, vu12, vu13, vu14])
  rw [e1]
  rw [show plainX op ts t0 tl = ((.mk 9 2 ts), true) from by unfold plainX; rw [if_neg u0, if_neg u1, if_neg u2, if_neg u3, if_neg u4, if_neg u5, if_neg u6, if_neg u7, if_neg u8, if_neg u9, if_neg u10, if_neg u11, if_neg u12, if_neg u13, if_neg u14, if_pos u15]]
  exact w55_15 op ts t0 tl n hn hn2 hg0 hgl hR tok H tm1 (hM.same l1 s1) u15
 have vu15 := u15
 obtain ⟨tm1, e1, l1, s1⟩ := to55_16 (op := op) (H := H ++ [.obj none [[.im (.int .i64 0), .nils]], TyO t0, TyO tl, TyO (argX t0 7 0).1]) (K55 H) hM.len hM.r30 (by simp [lits55, vu0, vu1, vu2, vu3, vu4, vu5, vu6, vu7, vu8, vu9, vu10, vu11, vu12, vu13, vu14, vu15])
 rw [e1]
 rw [show plainX op ts t0 tl = moreX op ts t0 from by unfold plainX; rw [if_neg u0, if_neg u1, if_neg u2, if_neg u3, if_neg u4, if_neg u5, if_neg u6, if_neg u7, if_neg u8, if_neg u9, if_neg u10, if_neg u11, if_neg u12, if_neg u13, if_neg u14, if_neg u15]]
 have c84 := fun H => s84 op ts t0 n hn hn2 hg0 hR h3 tok H
 obtain ⟨hlen, r0, rr1, r4, r6, r7, r8, r9, r10, r30⟩ := hM.same l1 s1
 generalize moreX op ts t0 = mx at *
 obtain ⟨⟨k6, s6, a6⟩, ok6⟩ := mx
 simp only [encT] at c84 ⊢
 simp only [x55_16,h55_6,h55_7,TyO,B0,B1,B2,List.replicate,reduceCtorEq,lenA,seval,B5,pairK,B4,stays,loadOf,K55,endK,resA,tupA,hlen,r0,rr1,r4,c84,res55,keep55,leave_app,leave_tup2]
end Go.Abs.Seat
end
section
set_option linter.unusedVariables false
set_option linter.unusedSimpArgs false
namespace Go.Abs.Seat
open Go.Proofs
abbrev RT := KT ⊕ (List Nat × Int)
def thenR (r : RT) (f : KT → RT) : RT := match r with
 | .inl t => f t
 | .inr e => .inr e
def txtN : NT → List UInt8
 | .mk _ _ txt _ _ _ => txt
def NO (op : List UInt8) (i : Int) (txt : List UInt8) (ty : KT) (kids : List NT) : HO := .obj none [[.im (.str op), .im (.int .i64 i), .im (.str txt), .im (.int .i64 ty.k), .im (.sl ty.s (encTs ty.args)), .im (.sl 6 (encNs kids))]]
def letW : List UInt8 := [108, 101, 116]
theorem Looks.leave {fn : FuncId} {xs : List AV} {H : Heap} {l : Nat} {v : EnvT} {nm : Nms} {pth : List Nat} {vn vp vn1 vp1 : AV} {r : RT} {B : Heap} {t : KT} {af : AFunc}
  (h : LkAt H l v nm pth none vn vp) (hB : LkAt B l v nm pth (fltR pth r) vn1 vp1) (hF : Fr H B l vn vp vn1 vp1) (ht : ∀ u, r = .inl u → t = u) (hw : Wt t)
  (hrun : ∀ H', Abs.leave H false (.im (.agg (encT t))) B = (.im (.agg (encT t)), H') → L fn (.ptr l 0 0 :: xs) H = some (.im (.agg (encT t)), H')) : Looks fn xs H l v nm pth vn vp r := by
 obtain ⟨H', hlv, hk, hff⟩ := leave_lk h hB hF (r := .im (.agg (encT t))) (r' := .im (.agg (encT t))) (by cases t; rfl) (fun _ => by cases t; rfl)
 exact ⟨H', vn1, vp1, t, hrun H' hlv, hk, hff, ht, hw⟩
theorem LkAt.errOk {H : Heap} {l : Nat} {v : EnvT} {nm : Nms} {pth : List Nat} {r : RT} {vn vp : AV} (h : LkAt H l v nm pth (fltR pth r) vn vp) :
  ∃ va e, H[l]? = some (lookO v vn vp va e) ∧ decide (e = 0) = (match r with | .inl _ => true | .inr _ => false) := by
 obtain ⟨va, e, ho, hf⟩ := h.obj
 refine ⟨va, e, ho, ?_⟩
 cases r with
 | inl t => obtain ⟨rfl, _⟩ := hf; rfl
 | inr x => obtain ⟨p, c⟩ := x; obtain ⟨rfl, h1, _⟩ := hf; exact decide_eq_false h1
set_option maxHeartbeats 1000000 in
theorem s53_let {H : Heap} {l : Nat} {v : EnvT} {nm : Nms} {pth : List Nat} {vn vp : AV} (h : LkAt H l v nm pth none vn vp) (i0 : Int) (txt : List UInt8) (ty : KT) (k0 k1 k2 : NT)
  (hp : pth.length ≤ 899) (hn : nm.length ≤ 890) (lk1 : RT) (lk2 : KT → RT)
  (h1 : ∀ (H : Heap) vn vp, LkAt H l v (nm ++ []) (pth ++ [1]) none vn vp → Looks 29 [.im (.agg (encN k1))] H l v (nm ++ []) (pth ++ [1]) vn vp lk1)
  (h2 : ∀ t, kidR 1 lk1 = .inl t → ∀ (H : Heap) vn vp, LkAt H l v (nm ++ [(txtN k0, t)]) (pth ++ [2]) none vn vp → Looks 29 [.im (.agg (encN k2))] H l v (nm ++ [(txtN k0, t)]) (pth ++ [2]) vn vp (lk2 t)) :
  Looks 53 [.im (.agg (encN (.mk letW i0 txt ty 6 [k0, k1, k2])))] H l v nm pth vn vp (thenR (kidR 1 lk1) fun t => kidR 2 (lk2 t)) := by
 have hA := h.more [NO letW i0 txt ty [k0, k1, k2], .obj none [[.im (.int .i64 0), .nils]]]
 obtain ⟨A1, vn1, vp1, t1, c1, j1, f1, ht1, hw1⟩ := s54 hA letW txt i0 ty 6 [k0, k1, k2] (.inr rfl) 1 k1 rfl [] .nils (.inl ⟨rfl, rfl⟩) (by omega) (by simp; omega) lk1 h1
 have g0 := Fr.top h f1 0 (by simp)
 have g1 := Fr.top h f1 1 (by simp)
 obtain ⟨va1, e1, o1, d1⟩ := j1.errOk
 have e0 : (decide (letW = [108, 101, 116])) = true := rfl
 obtain ⟨tk, ts, targs⟩ := ty
 have hlt1 := j1.lt
 rw [Nat.add_zero] at g0
 simp only [List.getElem?_cons_zero,List.getElem?_cons_succ] at g0 g1
 generalize kidR 1 lk1 = r1 at *
 cases r1 with
 | inr e =>
  simp only [thenR]
  change decide (e1 = 0) = false at d1
  obtain ⟨kX, fX⟩ := LkAt.box h (j1.more [TyO t1]) (f1.app [TyO t1]) (k := 1) (by simp) (TyO t1)
  refine Looks.leave (af := f53) h kX fX (fun u hu => by cases hu) hw1 fun H' hlv => ?_
  obtain ⟨tk1, ts1, ta1⟩ := t1
  simp only [TyO,NO,encT,encN,KT.k,KT.s,KT.args] at *
  rw [leq F53]
  obtain ⟨hlen, ha⟩ := enter_at (f := f53) (args := [.ptr l 0 0, .im (.agg [.str letW, .int .i64 i0, .str txt, .int .i64 tk, .sl ts (encTs targs), .sl 6 (encNs [k0, k1, k2])])]) (Nat.le_of_ble_eq_true rfl)
  have h0 := ha 0 _ rfl
  have h1 := ha 1 _ rfl
  generalize enterA f53 [.ptr l 0 0, .im (.agg [.str letW, .int .i64 i0, .str txt, .int .i64 tk, .sl ts (encTs targs), .sl 6 (encNs [k0, k1, k2])])] = tm at *
  change tm.length = 137 at hlen
  have m0 : ∀ M : Heap, (A1 ++ M)[H.length]? = some _ := fun M => by rw [List.getElem?_append_left (List.getElem?_eq_some_iff.1 g0).1]; exact g0
  have m1 : ∀ M : Heap, (A1 ++ M)[H.length + 1]? = some _ := fun M => by rw [List.getElem?_append_left (List.getElem?_eq_some_iff.1 g1).1]; exact g1
  have ml : ∀ M : Heap, (A1 ++ M)[l]? = some _ := fun M => by rw [List.getElem?_append_left hlt1]; exact o1
  have mS : ∀ (M : Heap) (o : HO), ((A1 ++ M).set (H.length + 1) o)[H.length + 1]? = some o := fun M o => List.getElem?_set_self (by have := (List.getElem?_eq_some_iff.1 g1).1; simp; omega)
  have z1 : ((1 : Nat) : Int) = 1 := rfl
  rw [z1] at c1
  unfold lookO at *
  simp only [f53,B0,B1,B2,List.replicate,reduceCtorEq,lenA,seval,B5,pairK,B4,stays,loadOf,endK,resA,tupA,hlen,h0,h1,e0,c1,m0,m1,ml,mS,d1,hlv]
 | inl t =>
  simp only [thenR]
  change decide (e1 = 0) = true at d1
  have et : t1 = t := ht1 t rfl
  subst et
  obtain ⟨A2, vn2, vp2, t2, c2, j2, f2, ht2, hw2⟩ := s54 (j1.more [TyO t1]) letW txt i0 (.mk tk ts targs) 6 [k0, k1, k2] (.inr rfl) 2 k2 rfl [(txtN k0, t1)] (.im (.sl 3 (rowsN [(txtN k0, t1)]))) (.inr rfl) (by omega) (by simp; omega) (lk2 t1) (h2 t1 rfl)
  have f12 := (f1.app [TyO t1]).trans f2
  have q0 := Fr.top h f12 0 (by simp)
  have q1 := Fr.top h f12 1 (by simp)
  rw [Nat.add_zero] at q0
  simp only [List.getElem?_cons_zero,List.getElem?_cons_succ] at q0 q1
  obtain ⟨kX, fX⟩ := LkAt.box h j2 f12 (k := 1) (by simp) (TyO t2)
  refine Looks.leave (af := f53) h kX fX (fun u hu => ht2 u hu) hw2 fun H' hlv => ?_
  obtain ⟨tk1, ts1, ta1⟩ := t1
  obtain ⟨tk2, ts2, ta2⟩ := t2
  obtain ⟨ko, ki, kt, ⟨kyk, kys, kya⟩, ks, kk⟩ := k0
  have hS2 : ∀ (o : HO), (A2.set (H.length + 1) o)[H.length + 1]? = some o := fun o => List.getElem?_set_self (List.getElem?_eq_some_iff.1 q1).1
  have hnm : rowsN [(txtN (.mk ko ki kt (.mk kyk kys kya) ks kk), KT.mk tk1 ts1 ta1)] = [[.str kt, .int .i64 tk1, .sl ts1 (encTs ta1)]] := rfl
  rw [hnm] at c2
  simp only [TyO,NO,encT,encN,encNs,KT.k,KT.s,KT.args] at *
  rw [leq F53]
  obtain ⟨hlen, ha⟩ := enter_at (f := f53) (args := [.ptr l 0 0, .im (.agg [.str letW, .int .i64 i0, .str txt, .int .i64 tk, .sl ts (encTs targs), .sl 6 ([.str ko, .int .i64 ki, .str kt, .int .i64 kyk, .sl kys (encTs kya), .sl ks (encNs kk)] :: encN k1 :: encN k2 :: [])])]) (Nat.le_of_ble_eq_true rfl)
  have h0 := ha 0 _ rfl
  have h1 := ha 1 _ rfl
  generalize enterA f53 [.ptr l 0 0, .im (.agg [.str letW, .int .i64 i0, .str txt, .int .i64 tk, .sl ts (encTs targs), .sl 6 ([.str ko, .int .i64 ki, .str kt, .int .i64 kyk, .sl kys (encTs kya), .sl ks (encNs kk)] :: encN k1 :: encN k2 :: [])])] = tm at *
  change tm.length = 137 at hlen
  have m0 : ∀ M : Heap, (A1 ++ M)[H.length]? = some _ := fun M => by rw [List.getElem?_append_left (List.getElem?_eq_some_iff.1 g0).1]; exact g0
  have m1 : ∀ M : Heap, (A1 ++ M)[H.length + 1]? = some _ := fun M => by rw [List.getElem?_append_left (List.getElem?_eq_some_iff.1 g1).1]; exact g1
  have ml : ∀ M : Heap, (A1 ++ M)[l]? = some _ := fun M => by rw [List.getElem?_append_left hlt1]; exact o1
  have z1 : ((1 : Nat) : Int) = 1 := rfl
  have z2 : ((2 : Nat) : Int) = 2 := rfl
  rw [z1] at c1
  rw [z2] at c2
  have i3 : ∀ n : Nat, idx (.im (.int .i64 0)) (n + 3) = some 0 := fun n => idx_nat (i := 0) (by omega)
  have i3' : idx (.im (.int .i64 0)) 3 = some 0 := i3 0
  have td : toDatss [[AV.im (.str kt), .im (.int .i64 tk1), .im (.sl ts1 (encTs ta1))]] = some [[.str kt, .int .i64 tk1, .sl ts1 (encTs ta1)]] := rfl
  unfold lookO at *
  simp only [f53,B0,B1,B2,List.replicate,reduceCtorEq,lenA,seval,B5,pairK,B4,stays,loadOf,endK,resA,tupA,hlen,h0,h1,e0,c1,m0,m1,ml,d1,c2,q0,q1,hS2,i3',td,hlv]
end Go.Abs.Seat
end
section
set_option linter.unusedVariables false
set_option linter.unusedSimpArgs false
namespace Go.Abs.Seat
open Go.Proofs
theorem right_up : ∀ (t : KT) (d d' : Int), d ≤ d' → rightT t d = true → rightT t d' = true
 | .mk k s args, d, d', hd, h => by
  rw [right_iff] at h ⊢
  exact ⟨h.1, by omega, fun a ha => right_up a (d - 1) (d' - 1) (by omega) (h.2.2 a ha)⟩
termination_by t => t
decreasing_by simp_wf; have := List.sizeOf_lt_of_mem ha; omega
theorem wt_zero : Wt zeroT := .inl rfl
theorem wt_of {t : KT} (h : Rt t) : Wt t := .inr h
theorem wt_arg {t : KT} (h : Wt t) (k : Int) (i : Nat) : Wt (argX t k i).1 := by
 unfold argX
 split
 ·rcases h with rfl | ⟨hok, hr⟩
  ·exact .inl (by cases i <;> rfl)
  ·obtain ⟨tk, s, args⟩ := t
   simp only [KT.args]
   rw [List.getD_eq_getElem?_getD]
   cases hi : args[i]? with
   | none => exact wt_zero
   | some a =>
    have hm := List.mem_of_getElem? hi
    simp only [okT] at hok
    rw [right_iff] at hr
    exact .inr ⟨okTs_mem hok.2.2 a hm, right_up a _ _ (by omega) (hr.2.2 a hm)⟩
 ·exact wt_zero
theorem wt_cnt {t : KT} (h : Wt t) (h7 : t.k = 7) : 0 < t.args.length := by
 rcases h with rfl | h
 ·exact absurd h7 (by decide)
 ·exact right_cnt (k := t.k) (s := t.s) (args := t.args) (by cases t; exact h.2) (.inl h7)
theorem c36w {t : KT} (h : Wt t) (H : Heap) : L 36 [.im (.agg (encT t)), .im (.int .i64 7), .im (.int .i64 0)] H = some (.tup [.im (.agg (encT (argX t 7 0).1)), .im (.bool (argX t 7 0).2)], H) :=
 s36 t h.ok 7 0 (wt_cnt h) H
theorem Looks.leave' {fn : FuncId} {xs : List AV} {H : Heap} {l : Nat} {v : EnvT} {nm : Nms} {pth : List Nat} {vn vp vn1 vp1 : AV} {r : RT} {B : Heap} {t : KT} {x : AV} (hx : degrade x = .im (.agg (encT t)))
  (h : LkAt H l v nm pth none vn vp) (hB : LkAt B l v nm pth (fltR pth r) vn1 vp1) (hF : Fr H B l vn vp vn1 vp1) (ht : ∀ u, r = .inl u → t = u) (hw : Wt t)
  (hrun : ∀ H', Abs.leave H false x B = (.im (.agg (encT t)), H') → L fn (.ptr l 0 0 :: xs) H = some (.im (.agg (encT t)), H')) : Looks fn xs H l v nm pth vn vp r := by
 obtain ⟨H', hlv, hk, hff⟩ := leave_lk h hB hF (r := x) (r' := .im (.agg (encT t))) hx (fun _ => by cases t; rfl)
 exact ⟨H', vn1, vp1, t, hrun H' hlv, hk, hff, ht, hw⟩
def foldW : List UInt8 := [102, 111, 108, 100]
def mapW : List UInt8 := [109, 97, 112]
def ZO : HO := .obj none [[.im (.int .i64 0), .nils]]
theorem fr_at {A B : Heap} {M : Heap} {i : Nat} {o : HO} (h : B[i]? = some o) : (B ++ M)[i]? = some o := by rw [List.getElem?_append_left (List.getElem?_eq_some_iff.1 h).1]; exact h
theorem clone_right : ∀ (t : KT) (d : Int), rightT (cloneT t) d = rightT t d
 | .mk k s args, d => by
  have e : ∀ a ∈ args, ∀ d, rightT (cloneT a) d = rightT a d := fun a ha d => clone_right a d
  rw [Bool.eq_iff_iff]
  simp only [cloneT]
  rw [right_iff, right_iff, cloneTs_map, List.length_map]
  refine and_congr Iff.rfl (and_congr Iff.rfl ⟨fun h a ha => ?_, fun h a ha => ?_⟩)
  ·rw [← e a ha]; exact h _ (List.mem_map_of_mem ha)
  ·obtain ⟨b, hb, rfl⟩ := List.mem_map.1 ha
   rw [e b hb]; exact h b hb
termination_by t => t
decreasing_by simp_wf; have := List.sizeOf_lt_of_mem ha; omega
theorem s51b {H : Heap} {l : Nat} {v : EnvT} {nm : Nms} {pth : List Nat} {x : List Nat × Int} {vn vp : AV} (h : LkAt H l v nm pth (some x) vn vp) (k : Int) (s : Nat) (args : List KT) :
  ∃ H', L 51 [.ptr l 0 0, .im (.int .i64 k), .im (.sl s (encTs args))] H = some (.im (.agg (encT zeroT)), H') ∧ LkAt H' l v nm pth (some x) vn vp ∧ Fr H H' l vn vp vn vp := by
 obtain ⟨va, e, ho, hfa⟩ := h.obj
 obtain ⟨p, c⟩ := x
 obtain ⟨rfl, hne, s', rfl, hs⟩ := hfa
 have hlt := h.lt
 have hob : ∀ M : Heap, (H ++ M)[l]? = some _ := fun M => fr_at (A := H) ho
 unfold lookO at hob
 have z0 : decide (e = 0) = false := decide_eq_false hne
 obtain ⟨H', hlv, hk, hf⟩ := leave_lk h (h.more [ZO]) (Fr.refl.app [ZO]) (r := .agg [.im (.int .i64 0), .nils]) (r' := .im (.agg [.int .i64 0, .sl 0 []])) rfl (fun _ => rfl)
 refine ⟨H', ?_, hk, hf⟩
 unfold ZO at hlv
 rw [leq F51]
 obtain ⟨hlen, ha⟩ := enter_at (f := f51) (args := [.ptr l 0 0, .im (.int .i64 k), .im (.sl s (encTs args))]) (Nat.le_of_ble_eq_true rfl)
 have h0 := ha 0 _ rfl
 generalize enterA f51 [.ptr l 0 0, .im (.int .i64 k), .im (.sl s (encTs args))] = tm at *
 change tm.length = 26 at hlen
 simp only [f51,B0,B1,B2,List.replicate,reduceCtorEq,lenA,seval,B5,pairK,B4,stays,loadOf,endK,resA,tupA,hlen,h0,hob,z0,hlv,zeroE]
theorem s51x {H : Heap} {l : Nat} {v : EnvT} {nm : Nms} {pth : List Nat} {r : RT} {vn vp : AV} (h : LkAt H l v nm pth (fltR pth r) vn vp) (k : Int) (s : Nat) (args : List KT) (hok : okT (.mk k s args)) (hp : pth.length ≤ 1000) :
  ∃ H' t, L 51 [.ptr l 0 0, .im (.int .i64 k), .im (.sl s (encTs args))] H = some (.im (.agg (encT t)), H') ∧ LkAt H' l v nm pth (fltR pth (thenR r fun _ => madeX (.mk k s args))) vn vp ∧ Fr H H' l vn vp vn vp ∧ (∀ u, (thenR r fun _ => madeX (.mk k s args)) = .inl u → t = u) ∧ Wt t := by
 cases r with
 | inl t0 =>
  obtain ⟨H', c, k', f⟩ := s51 h k s args hok hp
  refine ⟨H', _, c, k', f, fun u hu => ?_, ?_⟩
  ·change madeX _ = _ at hu
   rw [hu]; rfl
  ·unfold madeX
   split
   ·rename_i hr
    exact .inr ⟨clone_ok _ hok, by change rightT (cloneT (.mk k s args)) 6 = true; rw [clone_right]; exact hr⟩
   ·exact wt_zero
 | inr x =>
  obtain ⟨p, c⟩ := x
  obtain ⟨H', c, k', f⟩ := s51b h k s args
  exact ⟨H', zeroT, c, k', f, fun u hu => (by cases hu), wt_zero⟩
set_option maxHeartbeats 2000000 in
theorem s53_mf {H : Heap} {l : Nat} {v : EnvT} {nm : Nms} {pth : List Nat} {vn vp : AV} (h : LkAt H l v nm pth none vn vp) (op : List UInt8) (el : decide (op = letW) = false) (ef : decide (op = foldW) = false) (i0 : Int) (txt : List UInt8) (ty : KT) (k0 k1 k2 : NT)
  (hp : pth.length ≤ 899) (hn : nm.length ≤ 890) (lk0 : RT) (lk2 : KT → RT)
  (h1 : ∀ (H : Heap) vn vp, LkAt H l v (nm ++ []) (pth ++ [0]) none vn vp → Looks 29 [.im (.agg (encN k0))] H l v (nm ++ []) (pth ++ [0]) vn vp lk0)
  (h2 : ∀ t, kidR 0 lk0 = .inl t → (argX t 7 0).2 = true → ∀ (H : Heap) vn vp, LkAt H l v (nm ++ [(txtN k1, (argX t 7 0).1)]) (pth ++ [2]) none vn vp → Looks 29 [.im (.agg (encN k2))] H l v (nm ++ [(txtN k1, (argX t 7 0).1)]) (pth ++ [2]) vn vp (lk2 (argX t 7 0).1)) :
  Looks 53 [.im (.agg (encN (.mk op i0 txt ty 6 [k0, k1, k2])))] H l v nm pth vn vp (thenR (kidR 0 lk0) fun t => if (argX t 7 0).2 = true then thenR (kidR 2 (lk2 (argX t 7 0).1)) fun u => (if decide (op = mapW) = true then madeX (.mk 7 2 [u]) else if decide (u.k = 1) = true then .inl t else .inr ([], 50)) else .inr ([], 50)) := by
 have hA := h.more [NO op i0 txt ty [k0, k1, k2], ZO]
 obtain ⟨A1, vn1, vp1, t1, c1, j1, f1, ht1, hw1⟩ := s54 hA op txt i0 ty 6 [k0, k1, k2] (.inr rfl) 0 k0 rfl [] .nils (.inl ⟨rfl, rfl⟩) (by omega) (by simp; omega) lk0 h1
 have g0 := Fr.top h f1 0 (by simp)
 have g1 := Fr.top h f1 1 (by simp)
 obtain ⟨va1, e1, o1, d1⟩ := j1.errOk
 have hlt1 := j1.lt
 rw [Nat.add_zero] at g0
 simp only [List.getElem?_cons_zero,List.getElem?_cons_succ] at g0 g1
 have c36 := fun H => c36w hw1 H
 have hwa := wt_arg hw1 7 0
 have z0 : ((0 : Nat) : Int) = 0 := rfl
 rw [z0] at c1
 have m0 : ∀ M : Heap, (A1 ++ M)[H.length]? = some _ := fun M => fr_at (A := H) g0
 have m1 : ∀ M : Heap, (A1 ++ M)[H.length + 1]? = some _ := fun M => fr_at (A := H) g1
 have ml : ∀ M : Heap, (A1 ++ M)[l]? = some _ := fun M => fr_at (A := H) o1
 have mS : ∀ (M : Heap) (o : HO), ((A1 ++ M).set (H.length + 1) o)[H.length + 1]? = some o := fun M o => List.getElem?_set_self (by have := (List.getElem?_eq_some_iff.1 g1).1; simp; omega)
 have ma : ∀ M : Heap, (A1 ++ M)[A1.length]? = M[0]? := fun M => hget0
 have mb : ∀ (k : Nat) (M : Heap), (A1 ++ M)[A1.length + k]? = M[k]? := fun k M => hget k
 have sa : ∀ (M : Heap) o, (A1 ++ M).set A1.length o = A1 ++ M.set 0 o := fun M o => hset0
 have sb : ∀ (k : Nat) (M : Heap) o, (A1 ++ M).set (A1.length + k) o = A1 ++ M.set k o := fun k M o => hset k
 obtain ⟨tk, ts, targs⟩ := ty
 generalize kidR 0 lk0 = r0 at *
 cases r0 with
 | inr e =>
  simp only [thenR]
  change decide (e1 = 0) = false at d1
  obtain ⟨kX, fX⟩ := LkAt.box h (j1.more [TyO t1, ZO, TyO (argX t1 7 0).1]) (f1.app [TyO t1, ZO, TyO (argX t1 7 0).1]) (k := 1) (by simp) (.obj none [[.im (.int .i64 0), .nils]])
  refine Looks.leave' (x := .agg [.im (.int .i64 0), .nils]) (t := zeroT) rfl h kX fX (fun u hu => by cases hu) wt_zero fun H' hlv => ?_
  generalize argX t1 7 0 = ag at *
  obtain ⟨⟨k5, s5, a5⟩, ok5⟩ := ag
  obtain ⟨tk1, ts1, ta1⟩ := t1
  simp only [TyO,NO,ZO,encT,encN,KT.k,KT.s,KT.args] at *
  rw [leq F53]
  obtain ⟨hlen, ha⟩ := enter_at (f := f53) (args := [.ptr l 0 0, .im (.agg [.str op, .int .i64 i0, .str txt, .int .i64 tk, .sl ts (encTs targs), .sl 6 (encNs [k0, k1, k2])])]) (Nat.le_of_ble_eq_true rfl)
  have h0 := ha 0 _ rfl
  have h1 := ha 1 _ rfl
  generalize enterA f53 [.ptr l 0 0, .im (.agg [.str op, .int .i64 i0, .str txt, .int .i64 tk, .sl ts (encTs targs), .sl 6 (encNs [k0, k1, k2])])] = tm at *
  change tm.length = 137 at hlen
  unfold lookO at *
  unfold letW foldW at *
  simp only [f53,B0,B1,B2,List.replicate,reduceCtorEq,lenA,seval,B5,pairK,B4,stays,loadOf,endK,resA,tupA,hlen,h0,h1,el,ef,c1,c36,m0,m1,ml,mS,ma,mb,sa,sb,d1,hlv,zeroE]
 | inl t =>
  change decide (e1 = 0) = true at d1
  have et : t1 = t := ht1 t rfl
  subst et
  change Looks 53 _ H l v nm pth vn vp (if (argX t1 7 0).2 = true then _ else _)
  have jx := j1.more [TyO t1, ZO, TyO (argX t1 7 0).1]
  have fx := f1.app [TyO t1, ZO, TyO (argX t1 7 0).1]
  cases hok : (argX t1 7 0).2 with
  | false =>
   rw [if_neg Bool.false_ne_true]
   obtain ⟨B, c52, kB, fB⟩ := s52 jx 50 (by decide) (by omega)
   have fB' := fx.trans fB
   have q1 := Fr.top h fB' 1 (by simp)
   simp only [List.getElem?_cons_zero,List.getElem?_cons_succ] at q1
   have qS : ∀ (o : HO), (B.set (H.length + 1) o)[H.length + 1]? = some o := fun o => List.getElem?_set_self (List.getElem?_eq_some_iff.1 q1).1
   obtain ⟨kX, fX⟩ := LkAt.box h kB fB' (k := 1) (by simp) (.obj none [[.im (.int .i64 0), .im (.sl 0 [])]])
   refine Looks.leave' (r := .inr ([], 50)) (x := .im (.agg [.int .i64 0, .sl 0 []])) (t := zeroT) rfl h (by simpa [flt1, fltR] using kX) fX (fun u hu => by cases hu) wt_zero fun H' hlv => ?_
   generalize argX t1 7 0 = ag at *
   obtain ⟨⟨k5, s5, a5⟩, ok5⟩ := ag
   change ok5 = false at hok
   subst hok
   obtain ⟨tk1, ts1, ta1⟩ := t1
   simp only [TyO,NO,ZO,encT,encN,KT.k,KT.s,KT.args] at *
   rw [leq F53]
   obtain ⟨hlen, ha⟩ := enter_at (f := f53) (args := [.ptr l 0 0, .im (.agg [.str op, .int .i64 i0, .str txt, .int .i64 tk, .sl ts (encTs targs), .sl 6 (encNs [k0, k1, k2])])]) (Nat.le_of_ble_eq_true rfl)
   have h0 := ha 0 _ rfl
   have h1 := ha 1 _ rfl
   generalize enterA f53 [.ptr l 0 0, .im (.agg [.str op, .int .i64 i0, .str txt, .int .i64 tk, .sl ts (encTs targs), .sl 6 (encNs [k0, k1, k2])])] = tm at *
   change tm.length = 137 at hlen
   unfold lookO at *
   unfold letW foldW at *
   simp only [f53,B0,B1,B2,List.replicate,reduceCtorEq,lenA,seval,B5,pairK,B4,stays,loadOf,endK,resA,tupA,hlen,h0,h1,el,ef,c1,c36,m0,m1,ml,mS,ma,mb,sa,sb,d1,c52,q1,qS,hlv,zeroE]
  | true =>
   rw [if_pos rfl]
   obtain ⟨A2, vn2, vp2, t2, c2, j2, f2, ht2, hw2⟩ := s54 jx op txt i0 (.mk tk ts targs) 6 [k0, k1, k2] (.inr rfl) 2 k2 rfl [(txtN k1, (argX t1 7 0).1)] (.im (.sl 3 (rowsN [(txtN k1, (argX t1 7 0).1)]))) (.inr rfl) (by omega) (by simp; omega) _ (h2 _ rfl hok)
   have f12 := fx.trans f2
   have q0 := Fr.top h f12 0 (by simp)
   have q1 := Fr.top h f12 1 (by simp)
   have qa := Fr.top j1 f2 0 (by simp)
   have qe := Fr.top j1 f2 2 (by simp)
   rw [Nat.add_zero] at q0 qa
   simp only [List.getElem?_cons_zero,List.getElem?_cons_succ] at q0 q1 qa qe
   obtain ⟨va2, e2, o2, d2⟩ := j2.errOk
   have w0 : ∀ M : Heap, (A2 ++ M)[H.length]? = some _ := fun M => fr_at (A := H) q0
   have w1 : ∀ M : Heap, (A2 ++ M)[H.length + 1]? = some _ := fun M => fr_at (A := H) q1
   have wa : ∀ M : Heap, (A2 ++ M)[A1.length]? = some _ := fun M => fr_at (A := H) qa
   have we : ∀ M : Heap, (A2 ++ M)[A1.length + 2]? = some _ := fun M => fr_at (A := H) qe
   have wl : ∀ M : Heap, (A2 ++ M)[l]? = some _ := fun M => fr_at (A := H) o2
   have wS : ∀ (M : Heap) (o : HO), ((A2 ++ M).set (H.length + 1) o)[H.length + 1]? = some o := fun M o => List.getElem?_set_self (by have := (List.getElem?_eq_some_iff.1 q1).1; simp; omega)
   have wma : ∀ M : Heap, (A2 ++ M)[A2.length]? = M[0]? := fun M => hget0
   have wsa : ∀ (M : Heap) o, (A2 ++ M).set A2.length o = A2 ++ M.set 0 o := fun M o => hset0
   have jy := j2.more [TyO t2]
   have fy := f12.app [TyO t2]
   obtain ⟨ko, ki, kt, ⟨kyk, kys, kya⟩, ks, kk⟩ := k1
   have i3 : idx (.im (.int .i64 1)) 3 = some 1 := idx_nat (n := 3) (i := 1) (by omega)
   have z2 : ((2 : Nat) : Int) = 2 := rfl
   rw [z2] at c2
   generalize kidR 2 (lk2 (argX t1 7 0).1) = r2 at *
   cases hm : decide (op = mapW) with
   | true =>
    obtain ⟨B, t3, c51, kB, fB, ht3, hw3⟩ := s51x jy 7 2 [t2] ⟨.inr rfl, by simp, hw2.ok, trivial⟩ (by omega)
    have fz := fy.trans fB
    have x1 := Fr.top h fz 1 (by simp)
    simp only [List.getElem?_cons_zero,List.getElem?_cons_succ] at x1
    have xS : ∀ (o : HO), (B.set (H.length + 1) o)[H.length + 1]? = some o := fun o => List.getElem?_set_self (List.getElem?_eq_some_iff.1 x1).1
    obtain ⟨kX, fX⟩ := LkAt.box h kB fz (k := 1) (by simp) (TyO t3)
    have er : (thenR r2 fun u => if true = true then madeX (.mk 7 2 [u]) else if decide (u.k = 1) = true then .inl t1 else .inr ([], 50)) = thenR r2 fun _ => madeX (.mk 7 2 [t2]) := by
     cases r2 with
     | inl u => have := ht2 u rfl; subst this; rfl
     | inr x => rfl
    rw [er]
    refine Looks.leave' (x := .im (.agg (encT t3))) (t := t3) (by cases t3; rfl) h kX fX ht3 hw3 fun H' hlv => ?_
    generalize argX t1 7 0 = ag at *
    obtain ⟨⟨k5, s5, a5⟩, ok5⟩ := ag
    change ok5 = true at hok
    subst hok
    obtain ⟨tk1, ts1, ta1⟩ := t1
    obtain ⟨tk2, ts2, ta2⟩ := t2
    obtain ⟨tk3, ts3, ta3⟩ := t3
    have hnm : rowsN [(txtN (.mk ko ki kt (.mk kyk kys kya) ks kk), KT.mk k5 s5 a5)] = [[.str kt, .int .i64 k5, .sl s5 (encTs a5)]] := rfl
    rw [hnm] at c2
    have td : toDatss [[AV.im (.str kt), .im (.int .i64 k5), .im (.sl s5 (encTs a5))]] = some [[.str kt, .int .i64 k5, .sl s5 (encTs a5)]] := rfl
    have td2 : toDatss [[AV.im (.int .i64 tk2), .im (.sl ts2 (encTs ta2))]] = some [[.int .i64 tk2, .sl ts2 (encTs ta2)]] := rfl
    simp only [TyO,NO,ZO,encT,encTs,encN,encNs,KT.k,KT.s,KT.args] at *
    rw [leq F53]
    obtain ⟨hlen, ha⟩ := enter_at (f := f53) (args := [.ptr l 0 0, .im (.agg [.str op, .int .i64 i0, .str txt, .int .i64 tk, .sl ts (encTs targs), .sl 6 (encN k0 :: [.str ko, .int .i64 ki, .str kt, .int .i64 kyk, .sl kys (encTs kya), .sl ks (encNs kk)] :: encN k2 :: [])])]) (Nat.le_of_ble_eq_true rfl)
    have h0 := ha 0 _ rfl
    have h1 := ha 1 _ rfl
    generalize enterA f53 [.ptr l 0 0, .im (.agg [.str op, .int .i64 i0, .str txt, .int .i64 tk, .sl ts (encTs targs), .sl 6 (encN k0 :: [.str ko, .int .i64 ki, .str kt, .int .i64 kyk, .sl kys (encTs kya), .sl ks (encNs kk)] :: encN k2 :: [])])] = tm at *
    change tm.length = 137 at hlen
    unfold lookO at *
    unfold letW foldW at *
    have em : decide (op = [109, 97, 112]) = true := hm
    simp only [f53,B0,B1,B2,List.replicate,reduceCtorEq,lenA,seval,B5,pairK,B4,stays,loadOf,endK,resA,tupA,hlen,h0,h1,el,ef,em,c1,c36,m0,m1,ml,mS,ma,mb,sa,sb,d1,c2,q0,o2,qa,qe,we,w0,w1,wa,wl,wma,wsa,i3,td,td2,c51,x1,xS,hlv,zeroE]
   | false =>
    have keep : ∀ (r : RT), (fltR pth r = fltR pth r2) → (∀ u, r = .inl u → t1 = u) → (decide (e2 = 0) = true → decide (t2.k = 1) = true) → Looks 53 [.im (.agg (encN (.mk op i0 txt (.mk tk ts targs) 6 [k0, .mk ko ki kt (.mk kyk kys kya) ks kk, k2])))] H l v nm pth vn vp r := fun r hr hru hcond => by
     obtain ⟨kX, fX⟩ := LkAt.box h jy fy (k := 1) (by simp) (TyO t1)
     rw [← hr] at kX
     refine Looks.leave' (x := .im (.agg (encT t1))) (t := t1) (by cases t1; rfl) h kX fX hru hw1 fun H' hlv => ?_
     generalize argX t1 7 0 = ag at *
     obtain ⟨⟨k5, s5, a5⟩, ok5⟩ := ag
     change ok5 = true at hok
     subst hok
     obtain ⟨tk1, ts1, ta1⟩ := t1
     obtain ⟨tk2, ts2, ta2⟩ := t2
     have hnm : rowsN [(txtN (.mk ko ki kt (.mk kyk kys kya) ks kk), KT.mk k5 s5 a5)] = [[.str kt, .int .i64 k5, .sl s5 (encTs a5)]] := rfl
     rw [hnm] at c2
     have td : toDatss [[AV.im (.str kt), .im (.int .i64 k5), .im (.sl s5 (encTs a5))]] = some [[.str kt, .int .i64 k5, .sl s5 (encTs a5)]] := rfl
     have em : decide (op = [109, 97, 112]) = false := hm
     clear ht2
     simp only [TyO,NO,ZO,encT,encTs,encN,encNs,KT.k,KT.s,KT.args] at *
     rw [leq F53]
     obtain ⟨hlen, ha⟩ := enter_at (f := f53) (args := [.ptr l 0 0, .im (.agg [.str op, .int .i64 i0, .str txt, .int .i64 tk, .sl ts (encTs targs), .sl 6 (encN k0 :: [.str ko, .int .i64 ki, .str kt, .int .i64 kyk, .sl kys (encTs kya), .sl ks (encNs kk)] :: encN k2 :: [])])]) (Nat.le_of_ble_eq_true rfl)
     have h0 := ha 0 _ rfl
     have h1 := ha 1 _ rfl
     generalize enterA f53 [.ptr l 0 0, .im (.agg [.str op, .int .i64 i0, .str txt, .int .i64 tk, .sl ts (encTs targs), .sl 6 (encN k0 :: [.str ko, .int .i64 ki, .str kt, .int .i64 kyk, .sl kys (encTs kya), .sl ks (encNs kk)] :: encN k2 :: [])])] = tm at *
     change tm.length = 137 at hlen
     unfold lookO at *
     unfold letW foldW at *
     cases he : decide (e2 = 0) with
     | false =>
      simp only [f53,B0,B1,B2,List.replicate,reduceCtorEq,lenA,seval,B5,pairK,B4,stays,loadOf,endK,resA,tupA,hlen,h0,h1,el,ef,em,c1,c36,m0,m1,ml,mS,ma,mb,sa,sb,d1,c2,q0,o2,qa,qe,we,w0,w1,wa,wl,wS,wma,wsa,i3,td,he,hlv,zeroE]
     | true =>
      have hk1 : decide (tk2 = 1) = true := hcond he
      simp only [f53,B0,B1,B2,List.replicate,reduceCtorEq,lenA,seval,B5,pairK,B4,stays,loadOf,endK,resA,tupA,hlen,h0,h1,el,ef,em,c1,c36,m0,m1,ml,mS,ma,mb,sa,sb,d1,c2,q0,o2,qa,qe,we,w0,w1,wa,wl,wS,wma,wsa,i3,td,he,hk1,hlv,zeroE]
    cases r2 with
    | inr x =>
     exact keep (.inr x) rfl (fun u hu => by cases hu) (fun hc => by rw [d2] at hc; cases hc)
    | inl u =>
     have := ht2 u rfl
     subst this
     cases hk1 : decide (t2.k = 1) with
     | true =>
      simp only [thenR,Bool.false_eq_true,if_false,hk1,if_true]
      exact keep (.inl t1) rfl (fun u hu => by cases hu; rfl) (fun _ => hk1)
     | false =>
      simp only [thenR,Bool.false_eq_true,if_false,hk1]
      change decide (e2 = 0) = true at d2
      obtain ⟨B, c52, kB, fB⟩ := s52 jy 50 (by decide) (by omega)
      have fz := fy.trans fB
      have x1 := Fr.top h fz 1 (by simp)
      simp only [List.getElem?_cons_zero,List.getElem?_cons_succ] at x1
      have xS : ∀ (o : HO), (B.set (H.length + 1) o)[H.length + 1]? = some o := fun o => List.getElem?_set_self (List.getElem?_eq_some_iff.1 x1).1
      obtain ⟨kX, fX⟩ := LkAt.box h kB fz (k := 1) (by simp) (.obj none [[.im (.int .i64 0), .im (.sl 0 [])]])
      refine Looks.leave' (r := .inr ([], 50)) (x := .im (.agg [.int .i64 0, .sl 0 []])) (t := zeroT) rfl h (by simpa [flt1, fltR] using kX) fX (fun u hu => by cases hu) wt_zero fun H' hlv => ?_
      clear keep
      generalize argX t1 7 0 = ag at *
      obtain ⟨⟨k5, s5, a5⟩, ok5⟩ := ag
      change ok5 = true at hok
      subst hok
      obtain ⟨tk1, ts1, ta1⟩ := t1
      obtain ⟨tk2, ts2, ta2⟩ := t2
      have hk2 : decide (tk2 = 1) = false := hk1
      have hnm : rowsN [(txtN (.mk ko ki kt (.mk kyk kys kya) ks kk), KT.mk k5 s5 a5)] = [[.str kt, .int .i64 k5, .sl s5 (encTs a5)]] := rfl
      rw [hnm] at c2
      have td : toDatss [[AV.im (.str kt), .im (.int .i64 k5), .im (.sl s5 (encTs a5))]] = some [[.str kt, .int .i64 k5, .sl s5 (encTs a5)]] := rfl
      have em : decide (op = [109, 97, 112]) = false := hm
      simp only [TyO,NO,ZO,encT,encTs,encN,encNs,KT.k,KT.s,KT.args] at *
      rw [leq F53]
      obtain ⟨hlen, ha⟩ := enter_at (f := f53) (args := [.ptr l 0 0, .im (.agg [.str op, .int .i64 i0, .str txt, .int .i64 tk, .sl ts (encTs targs), .sl 6 (encN k0 :: [.str ko, .int .i64 ki, .str kt, .int .i64 kyk, .sl kys (encTs kya), .sl ks (encNs kk)] :: encN k2 :: [])])]) (Nat.le_of_ble_eq_true rfl)
      have h0 := ha 0 _ rfl
      have h1 := ha 1 _ rfl
      generalize enterA f53 [.ptr l 0 0, .im (.agg [.str op, .int .i64 i0, .str txt, .int .i64 tk, .sl ts (encTs targs), .sl 6 (encN k0 :: [.str ko, .int .i64 ki, .str kt, .int .i64 kyk, .sl kys (encTs kya), .sl ks (encNs kk)] :: encN k2 :: [])])] = tm at *
      change tm.length = 137 at hlen
      unfold lookO at *
      unfold letW foldW at *
      simp only [f53,B0,B1,B2,List.replicate,reduceCtorEq,lenA,seval,B5,pairK,B4,stays,loadOf,endK,resA,tupA,hlen,h0,h1,el,ef,em,c1,c36,m0,m1,ml,mS,ma,mb,sa,sb,d1,c2,q0,o2,qa,qe,we,w0,w1,wa,wl,wS,wma,wsa,i3,td,d2,hk2,c52,x1,xS,hlv,zeroE]
end Go.Abs.Seat
end
section
set_option linter.unusedVariables false
set_option linter.unusedSimpArgs false
namespace Go.Abs.Seat
open Go.Proofs
theorem fr_keep {A M A2 D N A3 : Heap} {l : Nat} {v : EnvT} {nm : Nms} {pth : List Nat} {f : Flt} {vn1 vp1 vn2 vp2 vn3 vp3 : AV} (j : LkAt A l v nm pth f vn1 vp1) (f2 : Fr (A ++ M) A2 l vn1 vp1 vn2 vp2) (hl : A2.length ≤ D.length) (f3 : Fr (D ++ N) A3 l vn2 vp2 vn3 vp3) {k : Nat} (hk : k < M.length) :
  A3[A.length + k]? = D[A.length + k]? := by
 have hl2 := f2.len
 rw [List.length_append] at hl2
 have hlt := j.lt
 rw [f3.old (A.length + k) (by rw [List.length_append]; omega) (by omega) ?_ ?_, List.getElem?_append_left (by omega)]
 ·intro e
  rcases f2.rn with e1 | ⟨i, e1, hi⟩
  ·rw [e1] at e; have := j.sn.ref_lt e; omega
  ·rw [e1] at e; rw [List.length_append] at hi; injection e; omega
 ·intro e
  rcases f2.rp with e1 | ⟨i, e1, hi⟩
  ·rw [e1] at e; have := j.sp.ref_lt e; omega
  ·rw [e1] at e; rw [List.length_append] at hi; injection e; omega
set_option maxHeartbeats 2000000 in
theorem s53_fold {H : Heap} {l : Nat} {v : EnvT} {nm : Nms} {pth : List Nat} {vn vp : AV} (h : LkAt H l v nm pth none vn vp) (i0 : Int) (txt : List UInt8) (ty : KT) (k0 k1 k2 k3 k4 : NT)
  (hp : pth.length ≤ 899) (hn : nm.length ≤ 890) (lk0 lk1 : RT) (lk4 : KT → KT → RT)
  (h0 : ∀ (H : Heap) vn vp, LkAt H l v (nm ++ []) (pth ++ [0]) none vn vp → Looks 29 [.im (.agg (encN k0))] H l v (nm ++ []) (pth ++ [0]) vn vp lk0)
  (h1 : ∀ (H : Heap) vn vp, LkAt H l v (nm ++ []) (pth ++ [1]) none vn vp → Looks 29 [.im (.agg (encN k1))] H l v (nm ++ []) (pth ++ [1]) vn vp lk1)
  (h4 : ∀ t u, kidR 0 lk0 = .inl t → kidR 1 lk1 = .inl u → (argX t 7 0).2 = true → ∀ (H : Heap) vn vp, LkAt H l v (nm ++ [(txtN k2, u), (txtN k3, (argX t 7 0).1)]) (pth ++ [4]) none vn vp → Looks 29 [.im (.agg (encN k4))] H l v (nm ++ [(txtN k2, u), (txtN k3, (argX t 7 0).1)]) (pth ++ [4]) vn vp (lk4 u (argX t 7 0).1)) :
  Looks 53 [.im (.agg (encN (.mk foldW i0 txt ty 6 [k0, k1, k2, k3, k4])))] H l v nm pth vn vp (thenR (kidR 0 lk0) fun t => thenR (kidR 1 lk1) fun t1 => if (argX t 7 0).2 = true then thenR (kidR 4 (lk4 t1 (argX t 7 0).1)) fun u => (if sameR u t1 = true then .inl t1 else .inr ([], 50)) else .inr ([], 50)) := by
 have hA := h.more [NO foldW i0 txt ty [k0, k1, k2, k3, k4], ZO]
 obtain ⟨A1, vn1, vp1, t1, c1, j1, f1, ht1, hw1⟩ := s54 hA foldW txt i0 ty 6 [k0, k1, k2, k3, k4] (.inr rfl) 0 k0 rfl [] .nils (.inl ⟨rfl, rfl⟩) (by omega) (by simp; omega) lk0 h0
 have g0 := Fr.top h f1 0 (by simp)
 have g1 := Fr.top h f1 1 (by simp)
 obtain ⟨va1, e1, o1, d1⟩ := j1.errOk
 have hlt1 := j1.lt
 rw [Nat.add_zero] at g0
 simp only [List.getElem?_cons_zero,List.getElem?_cons_succ] at g0 g1
 have c36 := fun H => c36w hw1 H
 have hwa := wt_arg hw1 7 0
 have z0 : ((0 : Nat) : Int) = 0 := rfl
 have z1 : ((1 : Nat) : Int) = 1 := rfl
 have z4 : ((4 : Nat) : Int) = 4 := rfl
 rw [z0] at c1
 have el : decide (foldW = [108, 101, 116]) = false := rfl
 have ef : decide (foldW = [102, 111, 108, 100]) = true := rfl
 have m0 : ∀ M : Heap, (A1 ++ M)[H.length]? = some _ := fun M => fr_at (A := H) g0
 have m1 : ∀ M : Heap, (A1 ++ M)[H.length + 1]? = some _ := fun M => fr_at (A := H) g1
 have ml : ∀ M : Heap, (A1 ++ M)[l]? = some _ := fun M => fr_at (A := H) o1
 have mS : ∀ (M : Heap) (o : HO), ((A1 ++ M).set (H.length + 1) o)[H.length + 1]? = some o := fun M o => List.getElem?_set_self (by have := (List.getElem?_eq_some_iff.1 g1).1; simp; omega)
 have ma : ∀ M : Heap, (A1 ++ M)[A1.length]? = M[0]? := fun M => hget0
 have mb : ∀ (k : Nat) (M : Heap), (A1 ++ M)[A1.length + k]? = M[k]? := fun k M => hget k
 have sa : ∀ (M : Heap) o, (A1 ++ M).set A1.length o = A1 ++ M.set 0 o := fun M o => hset0
 have sb : ∀ (k : Nat) (M : Heap) o, (A1 ++ M).set (A1.length + k) o = A1 ++ M.set k o := fun k M o => hset k
 obtain ⟨tk, ts, targs⟩ := ty
 generalize kidR 0 lk0 = r0 at *
 cases r0 with
 | inr e =>
  simp only [thenR]
  change decide (e1 = 0) = false at d1
  obtain ⟨kX, fX⟩ := LkAt.box h (j1.more [TyO t1, ZO, TyO (argX t1 7 0).1]) (f1.app [TyO t1, ZO, TyO (argX t1 7 0).1]) (k := 1) (by simp) (.obj none [[.im (.int .i64 0), .nils]])
  refine Looks.leave' (x := .agg [.im (.int .i64 0), .nils]) (t := zeroT) rfl h kX fX (fun u hu => by cases hu) wt_zero fun H' hlv => ?_
  generalize argX t1 7 0 = ag at *
  obtain ⟨⟨k5, s5, a5⟩, ok5⟩ := ag
  obtain ⟨tk1, ts1, ta1⟩ := t1
  simp only [TyO,NO,ZO,encT,encN,KT.k,KT.s,KT.args] at *
  rw [leq F53]
  obtain ⟨hlen, ha⟩ := enter_at (f := f53) (args := [.ptr l 0 0, .im (.agg [.str foldW, .int .i64 i0, .str txt, .int .i64 tk, .sl ts (encTs targs), .sl 6 (encNs [k0, k1, k2, k3, k4])])]) (Nat.le_of_ble_eq_true rfl)
  have h0 := ha 0 _ rfl
  have h1 := ha 1 _ rfl
  generalize enterA f53 [.ptr l 0 0, .im (.agg [.str foldW, .int .i64 i0, .str txt, .int .i64 tk, .sl ts (encTs targs), .sl 6 (encNs [k0, k1, k2, k3, k4])])] = tm at *
  change tm.length = 137 at hlen
  unfold lookO at *
  unfold foldW at *
  simp only [f53,B0,B1,B2,List.replicate,reduceCtorEq,lenA,seval,B5,pairK,B4,stays,loadOf,endK,resA,tupA,hlen,h0,h1,el,ef,c1,c36,m0,m1,ml,mS,ma,mb,sa,sb,d1,hlv,zeroE]
 | inl t =>
  change decide (e1 = 0) = true at d1
  have et : t1 = t := ht1 t rfl
  subst et
  change Looks 53 _ H l v nm pth vn vp (thenR (kidR 1 lk1) fun tI => if (argX t1 7 0).2 = true then thenR (kidR 4 (lk4 tI (argX t1 7 0).1)) fun u => (if sameR u tI = true then .inl tI else .inr ([], 50)) else .inr ([], 50))
  obtain ⟨A2, vn2, vp2, t2, c2, j2, f2, ht2, hw2⟩ := s54 (j1.more [TyO t1, ZO]) foldW txt i0 (.mk tk ts targs) 6 [k0, k1, k2, k3, k4] (.inr rfl) 1 k1 rfl [] .nils (.inl ⟨rfl, rfl⟩) (by omega) (by simp; omega) lk1 h1
  rw [z1] at c2
  have f12 := (f1.app [TyO t1, ZO]).trans f2
  have p0 := Fr.top h f12 0 (by simp)
  have p1 := Fr.top h f12 1 (by simp)
  have pa := Fr.top j1 f2 0 (by simp)
  have pb := Fr.top j1 f2 1 (by simp)
  rw [Nat.add_zero] at p0 pa
  simp only [List.getElem?_cons_zero,List.getElem?_cons_succ] at p0 p1 pa pb
  obtain ⟨jD, fD⟩ := LkAt.box j1 j2 f2 (k := 1) (by simp) (TyO t2)
  have fD' := f1.trans fD
  have hA1 := (List.getElem?_eq_some_iff.1 pb).1
  have hH1 := (List.getElem?_eq_some_iff.1 g1).1
  have hA10 := (List.getElem?_eq_some_iff.1 g0).1
  obtain ⟨vaD, eD, oD, dD⟩ := jD.errOk
  have ns : ∀ {i : Nat} {o : HO} (x : HO), i ≠ A1.length + 1 → A2[i]? = some o → ∀ M : Heap, (A2.set (A1.length + 1) x ++ M)[i]? = some o := fun x hi ho M => fr_at (A := H) (by rw [List.getElem?_set_ne (fun e => hi e.symm)]; exact ho)
  have n0 := fun M => ns (TyO t2) (by omega) p0 M
  have n1 := fun M => ns (TyO t2) (by omega) p1 M
  have na := fun M => ns (TyO t2) (by omega) pa M
  have nb : ∀ M : Heap, (A2.set (A1.length + 1) (TyO t2) ++ M)[A1.length + 1]? = some (TyO t2) := fun M => fr_at (A := H) (List.getElem?_set_self hA1)
  have nl : ∀ M : Heap, (A2.set (A1.length + 1) (TyO t2) ++ M)[l]? = some _ := fun M => fr_at (A := H) oD
  have n0' := n0 []
  have n1' := n1 []
  have na' := na []
  have nb' := nb []
  have nl' := nl []
  rw [List.append_nil] at n0' n1' na' nb' nl'
  have nc : ∀ M : Heap, (A2.set (A1.length + 1) (TyO t2) ++ M)[A2.length]? = M[0]? := fun M => by rw [List.getElem?_append_right (by simp)]; simp
  have nd : ∀ (M : Heap) o, (A2.set (A1.length + 1) (TyO t2) ++ M).set A2.length o = A2.set (A1.length + 1) (TyO t2) ++ M.set 0 o := fun M o => by rw [List.set_append_right _ _ (by simp)]; simp
  have nS : ∀ (M : Heap) (o : HO), ((A2.set (A1.length + 1) (TyO t2) ++ M).set (H.length + 1) o)[H.length + 1]? = some o := fun M o => List.getElem?_set_self (by simp; omega)
  have jE := jD.more [TyO (argX t1 7 0).1]
  have fE := fD'.app [TyO (argX t1 7 0).1]
  generalize kidR 1 lk1 = r1 at *
  cases r1 with
  | inr e =>
   simp only [thenR]
   change decide (eD = 0) = false at dD
   obtain ⟨kX, fX⟩ := LkAt.box h jE fE (k := 1) (by simp) (.obj none [[.im (.int .i64 0), .nils]])
   refine Looks.leave' (x := .agg [.im (.int .i64 0), .nils]) (t := zeroT) rfl h kX fX (fun u hu => by cases hu) wt_zero fun H' hlv => ?_
   generalize argX t1 7 0 = ag at *
   obtain ⟨⟨k5, s5, a5⟩, ok5⟩ := ag
   obtain ⟨tk1, ts1, ta1⟩ := t1
   obtain ⟨tk2, ts2, ta2⟩ := t2
   simp only [TyO,NO,ZO,encT,encN,KT.k,KT.s,KT.args] at *
   rw [leq F53]
   obtain ⟨hlen, ha⟩ := enter_at (f := f53) (args := [.ptr l 0 0, .im (.agg [.str foldW, .int .i64 i0, .str txt, .int .i64 tk, .sl ts (encTs targs), .sl 6 (encNs [k0, k1, k2, k3, k4])])]) (Nat.le_of_ble_eq_true rfl)
   have h0 := ha 0 _ rfl
   have h1 := ha 1 _ rfl
   generalize enterA f53 [.ptr l 0 0, .im (.agg [.str foldW, .int .i64 i0, .str txt, .int .i64 tk, .sl ts (encTs targs), .sl 6 (encNs [k0, k1, k2, k3, k4])])] = tm at *
   change tm.length = 137 at hlen
   unfold lookO at *
   unfold foldW at *
   simp only [f53,B0,B1,B2,List.replicate,reduceCtorEq,lenA,seval,B5,pairK,B4,stays,loadOf,endK,resA,tupA,hlen,h0,h1,el,ef,c1,c2,c36,m0,m1,ml,mS,ma,mb,sa,sb,pb,n0,n1,na,nb,nl,n0',n1',na',nb',nl',nc,nd,nS,d1,dD,hlv,zeroE]
  | inl tI =>
   change decide (eD = 0) = true at dD
   have et : t2 = tI := ht2 tI rfl
   subst et
   change Looks 53 _ H l v nm pth vn vp (if (argX t1 7 0).2 = true then _ else _)
   cases hok : (argX t1 7 0).2 with
   | false =>
    rw [if_neg Bool.false_ne_true]
    obtain ⟨B, c52, kB, fB⟩ := s52 jE 50 (by decide) (by omega)
    have fB' := fE.trans fB
    have q1 := Fr.top h fB' 1 (by simp)
    simp only [List.getElem?_cons_zero,List.getElem?_cons_succ] at q1
    have qS : ∀ (o : HO), (B.set (H.length + 1) o)[H.length + 1]? = some o := fun o => List.getElem?_set_self (List.getElem?_eq_some_iff.1 q1).1
    obtain ⟨kX, fX⟩ := LkAt.box h kB fB' (k := 1) (by simp) (.obj none [[.im (.int .i64 0), .im (.sl 0 [])]])
    refine Looks.leave' (r := .inr ([], 50)) (x := .im (.agg [.int .i64 0, .sl 0 []])) (t := zeroT) rfl h (by simpa [flt1, fltR] using kX) fX (fun u hu => by cases hu) wt_zero fun H' hlv => ?_
    generalize argX t1 7 0 = ag at *
    obtain ⟨⟨k5, s5, a5⟩, ok5⟩ := ag
    change ok5 = false at hok
    subst hok
    obtain ⟨tk1, ts1, ta1⟩ := t1
    obtain ⟨tk2, ts2, ta2⟩ := t2
    simp only [TyO,NO,ZO,encT,encN,KT.k,KT.s,KT.args] at *
    rw [leq F53]
    obtain ⟨hlen, ha⟩ := enter_at (f := f53) (args := [.ptr l 0 0, .im (.agg [.str foldW, .int .i64 i0, .str txt, .int .i64 tk, .sl ts (encTs targs), .sl 6 (encNs [k0, k1, k2, k3, k4])])]) (Nat.le_of_ble_eq_true rfl)
    have h0 := ha 0 _ rfl
    have h1 := ha 1 _ rfl
    generalize enterA f53 [.ptr l 0 0, .im (.agg [.str foldW, .int .i64 i0, .str txt, .int .i64 tk, .sl ts (encTs targs), .sl 6 (encNs [k0, k1, k2, k3, k4])])] = tm at *
    change tm.length = 137 at hlen
    unfold lookO at *
    unfold foldW at *
    simp only [f53,B0,B1,B2,List.replicate,reduceCtorEq,lenA,seval,B5,pairK,B4,stays,loadOf,endK,resA,tupA,hlen,h0,h1,el,ef,c1,c2,c36,m0,m1,ml,mS,ma,mb,sa,sb,pb,n0,n1,na,nb,nl,n0',n1',na',nb',nl',nc,nd,nS,d1,dD,c52,q1,qS,hlv,zeroE]
   | true =>
    rw [if_pos rfl]
    obtain ⟨A3, vn3, vp3, t3, c3, j3, f3, ht3, hw3⟩ := s54 jE foldW txt i0 (.mk tk ts targs) 6 [k0, k1, k2, k3, k4] (.inr rfl) 4 k4 rfl [(txtN k2, t2), (txtN k3, (argX t1 7 0).1)] (.im (.sl 3 (rowsN [(txtN k2, t2), (txtN k3, (argX t1 7 0).1)]))) (.inr rfl) (by omega) (by simp; omega) _ (h4 _ _ rfl rfl hok)
    rw [z4] at c3
    have f13 := fE.trans f3
    have q0 := Fr.top h f13 0 (by simp)
    have q1 := Fr.top h f13 1 (by simp)
    have fDE := (Fr.refl (H := A2.set (A1.length + 1) (TyO t2)) (l := l) (vn := vn2) (vp := vp2)).app [TyO (argX t1 7 0).1]
    have qc := Fr.top jD f3 0 (by simp)
    rw [Nat.add_zero] at q0 qc
    simp only [List.getElem?_cons_zero,List.getElem?_cons_succ,List.length_set] at q0 q1 qc
    have qb : A3[A1.length + 1]? = some (TyO t2) := (fr_keep j1 f2 (by simp) f3 (k := 1) (by simp)).trans nb'
    have qa : A3[A1.length]? = some (TyO t1) := (fr_keep j1 f2 (by simp) f3 (k := 0) (by simp)).trans na'
    obtain ⟨va3, e3, o3, d3⟩ := j3.errOk
    have w0 : ∀ M : Heap, (A3 ++ M)[H.length]? = some _ := fun M => fr_at (A := H) q0
    have w1 : ∀ M : Heap, (A3 ++ M)[H.length + 1]? = some _ := fun M => fr_at (A := H) q1
    have wa : ∀ M : Heap, (A3 ++ M)[A1.length]? = some _ := fun M => fr_at (A := H) qa
    have wb : ∀ M : Heap, (A3 ++ M)[A1.length + 1]? = some _ := fun M => fr_at (A := H) qb
    have wc : ∀ M : Heap, (A3 ++ M)[A2.length]? = some _ := fun M => fr_at (A := H) qc
    have wl : ∀ M : Heap, (A3 ++ M)[l]? = some _ := fun M => fr_at (A := H) o3
    have wS : ∀ (M : Heap) (o : HO), ((A3 ++ M).set (H.length + 1) o)[H.length + 1]? = some o := fun M o => List.getElem?_set_self (by have := (List.getElem?_eq_some_iff.1 q1).1; simp; omega)
    have wma : ∀ M : Heap, (A3 ++ M)[A3.length]? = M[0]? := fun M => hget0
    have wsa : ∀ (M : Heap) o, (A3 ++ M).set A3.length o = A3 ++ M.set 0 o := fun M o => hset0
    have jy := j3.more [TyO t3]
    have fy := f13.app [TyO t3]
    obtain ⟨ko, ki, kt, ⟨kyk, kys, kya⟩, ks, kk⟩ := k2
    obtain ⟨lo, li, lt, ⟨lyk, lys, lya⟩, ls, lkk⟩ := k3
    have i3 : idx (.im (.int .i64 2)) 5 = some 2 := idx_nat (n := 5) (i := 2) (by omega)
    have i4 : idx (.im (.int .i64 3)) 5 = some 3 := idx_nat (n := 5) (i := 3) (by omega)
    have c16 := fun H => s16 t3 t2 hw3.ok hw2.ok H
    change ∀ H, L 16 _ H = some (.im (.bool (sameR t3 t2)), H) at c16
    generalize kidR 4 (lk4 t2 (argX t1 7 0).1) = r4 at *
    have keep : ∀ (r : RT), (fltR pth r = fltR pth r4) → (∀ u, r = .inl u → t2 = u) → (decide (e3 = 0) = true → sameR t3 t2 = true) → Looks 53 [.im (.agg (encN (.mk foldW i0 txt (.mk tk ts targs) 6 [k0, k1, .mk ko ki kt (.mk kyk kys kya) ks kk, .mk lo li lt (.mk lyk lys lya) ls lkk, k4])))] H l v nm pth vn vp r := fun r hr hru hcond => by
     obtain ⟨kX, fX⟩ := LkAt.box h jy fy (k := 1) (by simp) (TyO t2)
     rw [← hr] at kX
     refine Looks.leave' (x := .im (.agg (encT t2))) (t := t2) (by cases t2; rfl) h kX fX hru hw2 fun H' hlv => ?_
     clear ht3 d3
     generalize sameR t3 t2 = sm at *
     generalize argX t1 7 0 = ag at *
     obtain ⟨⟨k5, s5, a5⟩, ok5⟩ := ag
     change ok5 = true at hok
     subst hok
     obtain ⟨tk1, ts1, ta1⟩ := t1
     obtain ⟨tk2, ts2, ta2⟩ := t2
     obtain ⟨tk3, ts3, ta3⟩ := t3
     have hnm : rowsN [(txtN (.mk ko ki kt (.mk kyk kys kya) ks kk), KT.mk tk2 ts2 ta2), (txtN (.mk lo li lt (.mk lyk lys lya) ls lkk), KT.mk k5 s5 a5)] = [[.str kt, .int .i64 tk2, .sl ts2 (encTs ta2)], [.str lt, .int .i64 k5, .sl s5 (encTs a5)]] := rfl
     rw [hnm] at c3
     have td : toDatss [[AV.im (.str kt), .im (.int .i64 tk2), .im (.sl ts2 (encTs ta2))], [AV.im (.str lt), .im (.int .i64 k5), .im (.sl s5 (encTs a5))]] = some [[.str kt, .int .i64 tk2, .sl ts2 (encTs ta2)], [.str lt, .int .i64 k5, .sl s5 (encTs a5)]] := rfl
     simp only [TyO,NO,ZO,encT,encTs,encN,encNs,KT.k,KT.s,KT.args] at *
     rw [leq F53]
     obtain ⟨hlen, ha⟩ := enter_at (f := f53) (args := [.ptr l 0 0, .im (.agg [.str foldW, .int .i64 i0, .str txt, .int .i64 tk, .sl ts (encTs targs), .sl 6 (encN k0 :: encN k1 :: [.str ko, .int .i64 ki, .str kt, .int .i64 kyk, .sl kys (encTs kya), .sl ks (encNs kk)] :: [.str lo, .int .i64 li, .str lt, .int .i64 lyk, .sl lys (encTs lya), .sl ls (encNs lkk)] :: encN k4 :: [])])]) (Nat.le_of_ble_eq_true rfl)
     have h0 := ha 0 _ rfl
     have h1 := ha 1 _ rfl
     generalize enterA f53 [.ptr l 0 0, .im (.agg [.str foldW, .int .i64 i0, .str txt, .int .i64 tk, .sl ts (encTs targs), .sl 6 (encN k0 :: encN k1 :: [.str ko, .int .i64 ki, .str kt, .int .i64 kyk, .sl kys (encTs kya), .sl ks (encNs kk)] :: [.str lo, .int .i64 li, .str lt, .int .i64 lyk, .sl lys (encTs lya), .sl ls (encNs lkk)] :: encN k4 :: [])])] = tm at *
     change tm.length = 137 at hlen
     unfold lookO at *
     unfold foldW at *
     cases he : decide (e3 = 0) with
     | false =>
      simp only [f53,B0,B1,B2,List.replicate,reduceCtorEq,lenA,seval,B5,pairK,B4,stays,loadOf,endK,resA,tupA,hlen,h0,h1,el,ef,c1,c2,c36,m0,m1,ml,mS,ma,mb,sa,sb,pb,n0,n1,na,nb,nl,n0',n1',na',nb',nl',nc,nd,nS,d1,dD,c3,q0,q1,qa,qb,qc,o3,w0,w1,wa,wb,wc,wl,wS,wma,wsa,i3,i4,td,c16,he,hlv,zeroE]
     | true =>
      have hk1 : sm = true := hcond he
      subst hk1
      simp only [f53,B0,B1,B2,List.replicate,reduceCtorEq,lenA,seval,B5,pairK,B4,stays,loadOf,endK,resA,tupA,hlen,h0,h1,el,ef,c1,c2,c36,m0,m1,ml,mS,ma,mb,sa,sb,pb,n0,n1,na,nb,nl,n0',n1',na',nb',nl',nc,nd,nS,d1,dD,c3,q0,q1,qa,qb,qc,o3,w0,w1,wa,wb,wc,wl,wS,wma,wsa,i3,i4,td,c16,he,hlv,zeroE]
    cases r4 with
    | inr x =>
     exact keep (.inr x) rfl (fun u hu => by cases hu) (fun hc => by rw [d3] at hc; cases hc)
    | inl u =>
     have := ht3 u rfl
     subst this
     cases hk1 : sameR t3 t2 with
     | true =>
      simp only [thenR,hk1,if_true]
      exact keep (.inl t2) rfl (fun u hu => by cases hu; rfl) (fun _ => hk1)
     | false =>
      simp only [thenR,Bool.false_eq_true,if_false,hk1]
      change decide (e3 = 0) = true at d3
      obtain ⟨B, c52, kB, fB⟩ := s52 jy 50 (by decide) (by omega)
      have fz := fy.trans fB
      have x1 := Fr.top h fz 1 (by simp)
      simp only [List.getElem?_cons_zero,List.getElem?_cons_succ] at x1
      have xS : ∀ (o : HO), (B.set (H.length + 1) o)[H.length + 1]? = some o := fun o => List.getElem?_set_self (List.getElem?_eq_some_iff.1 x1).1
      obtain ⟨kX, fX⟩ := LkAt.box h kB fz (k := 1) (by simp) (.obj none [[.im (.int .i64 0), .im (.sl 0 [])]])
      refine Looks.leave' (r := .inr ([], 50)) (x := .im (.agg [.int .i64 0, .sl 0 []])) (t := zeroT) rfl h (by simpa [flt1, fltR] using kX) fX (fun u hu => by cases hu) wt_zero fun H' hlv => ?_
      clear keep
      rw [hk1] at c16
      generalize argX t1 7 0 = ag at *
      obtain ⟨⟨k5, s5, a5⟩, ok5⟩ := ag
      change ok5 = true at hok
      subst hok
      obtain ⟨tk1, ts1, ta1⟩ := t1
      obtain ⟨tk2, ts2, ta2⟩ := t2
      obtain ⟨tk3, ts3, ta3⟩ := t3
      have hnm : rowsN [(txtN (.mk ko ki kt (.mk kyk kys kya) ks kk), KT.mk tk2 ts2 ta2), (txtN (.mk lo li lt (.mk lyk lys lya) ls lkk), KT.mk k5 s5 a5)] = [[.str kt, .int .i64 tk2, .sl ts2 (encTs ta2)], [.str lt, .int .i64 k5, .sl s5 (encTs a5)]] := rfl
      rw [hnm] at c3
      have td : toDatss [[AV.im (.str kt), .im (.int .i64 tk2), .im (.sl ts2 (encTs ta2))], [AV.im (.str lt), .im (.int .i64 k5), .im (.sl s5 (encTs a5))]] = some [[.str kt, .int .i64 tk2, .sl ts2 (encTs ta2)], [.str lt, .int .i64 k5, .sl s5 (encTs a5)]] := rfl
      simp only [TyO,NO,ZO,encT,encTs,encN,encNs,KT.k,KT.s,KT.args] at *
      rw [leq F53]
      obtain ⟨hlen, ha⟩ := enter_at (f := f53) (args := [.ptr l 0 0, .im (.agg [.str foldW, .int .i64 i0, .str txt, .int .i64 tk, .sl ts (encTs targs), .sl 6 (encN k0 :: encN k1 :: [.str ko, .int .i64 ki, .str kt, .int .i64 kyk, .sl kys (encTs kya), .sl ks (encNs kk)] :: [.str lo, .int .i64 li, .str lt, .int .i64 lyk, .sl lys (encTs lya), .sl ls (encNs lkk)] :: encN k4 :: [])])]) (Nat.le_of_ble_eq_true rfl)
      have h0 := ha 0 _ rfl
      have h1 := ha 1 _ rfl
      generalize enterA f53 [.ptr l 0 0, .im (.agg [.str foldW, .int .i64 i0, .str txt, .int .i64 tk, .sl ts (encTs targs), .sl 6 (encN k0 :: encN k1 :: [.str ko, .int .i64 ki, .str kt, .int .i64 kyk, .sl kys (encTs kya), .sl ks (encNs kk)] :: [.str lo, .int .i64 li, .str lt, .int .i64 lyk, .sl lys (encTs lya), .sl ls (encNs lkk)] :: encN k4 :: [])])] = tm at *
      change tm.length = 137 at hlen
      unfold lookO at *
      unfold foldW at *
      simp only [f53,B0,B1,B2,List.replicate,reduceCtorEq,lenA,seval,B5,pairK,B4,stays,loadOf,endK,resA,tupA,hlen,h0,h1,el,ef,c1,c2,c36,m0,m1,ml,mS,ma,mb,sa,sb,pb,n0,n1,na,nb,nl,n0',n1',na',nb',nl',nc,nd,nS,d1,dD,c3,q0,q1,qa,qb,qc,o3,w0,w1,wa,wb,wc,wl,wS,wma,wsa,i3,i4,td,c16,d3,c52,x1,xS,hlv,zeroE]
end Go.Abs.Seat
end
section
set_option linter.unusedVariables false
set_option linter.unusedSimpArgs false
namespace Go.Abs.Seat
open Go.Proofs
def plainR (op : List UInt8) (ts : List KT) : RT :=
 if ((plainX op ts (ts.getD 0 zeroT) (ts.getD (ts.length - 1) zeroT)).2 && rightT (plainX op ts (ts.getD 0 zeroT) (ts.getD (ts.length - 1) zeroT)).1 6) = true then .inl (plainX op ts (ts.getD 0 zeroT) (ts.getD (ts.length - 1) zeroT)).1 else .inr ([], 50)
def bindsR (op : List UInt8) (tx : Nat → List UInt8) (lk : Nat → Nms → RT) (nm : Nms) : RT :=
 if op = letW then thenR (kidR 1 (lk 1 (nm ++ []))) fun t => kidR 2 (lk 2 (nm ++ [(tx 0, t)]))
 else if op = foldW then thenR (kidR 0 (lk 0 (nm ++ []))) fun t => thenR (kidR 1 (lk 1 (nm ++ []))) fun t1 => if (argX t 7 0).2 = true then thenR (kidR 4 (lk 4 (nm ++ [(tx 2, t1), (tx 3, (argX t 7 0).1)]))) fun u => (if sameR u t1 = true then .inl t1 else .inr ([], 50)) else .inr ([], 50)
 else thenR (kidR 0 (lk 0 (nm ++ []))) fun t => if (argX t 7 0).2 = true then thenR (kidR 2 (lk 2 (nm ++ [(tx 1, (argX t 7 0).1)]))) fun u => (if decide (op = mapW) = true then madeX (.mk 7 2 [u]) else if decide (u.k = 1) = true then .inl t else .inr ([], 50)) else .inr ([], 50)
def txAt (kids : List NT) (j : Nat) : List UInt8 := match kids[j]? with
 | some k => txtN k
 | none => []
def bindsW (op : List UInt8) : Prop := op = [108, 101, 116] ∨ op = [109, 97, 112] ∨ op = [102, 105, 108, 116, 101, 114] ∨ op = [102, 111, 108, 100]
instance (op : List UInt8) : Decidable (bindsW op) := inferInstanceAs (Decidable (_ ∨ _))
mutual
def lookX (v : EnvT) : NT → Nms → RT
 | .mk op i txt ty s kids, nm =>
  if op = [105, 110, 116] then .inl (.mk 2 0 [])
  else if op = [116, 101, 120, 116, 95, 111, 102] then .inl (.mk 3 0 [])
  else if op = [116, 114, 117, 101] ∨ op = [102, 97, 108, 115, 101] then .inl (.mk 1 0 [])
  else if op = [105, 116] then .inl v.it
  else if op = [110, 97, 109, 101] then nameX nm txt
  else if op = [110, 105, 108] then madeX (.mk 7 2 [ty])
  else if op = [110, 111, 110, 101] then madeX (.mk 9 2 [ty])
  else if op = [115, 105, 100, 101] then (if (v.sides.length : Int) ≤ i then .inr ([], 53) else .inl (v.sides.getD i.toNat zeroT))
  else if bindsW op then bindsR op (txAt kids) (fun j nm' => lookAt v kids j nm') nm
  else match looksX v kids 0 nm with
   | .inl ts => plainR op ts
   | .inr e => .inr e
def lookAt (v : EnvT) : List NT → Nat → Nms → RT
 | [], _, _ => .inr ([], 0)
 | k :: _, 0, nm => lookX v k nm
 | _ :: ks, j + 1, nm => lookAt v ks j nm
def looksX (v : EnvT) : List NT → Nat → Nms → List KT ⊕ (List Nat × Int)
 | [], _, _ => .inl []
 | k :: ks, j, nm => match kidR j (lookX v k nm) with
  | .inr e => .inr e
  | .inl t => match looksX v ks (j + 1) nm with
   | .inl ts => .inl (t :: ts)
   | .inr e => .inr e
end
theorem lookAt_get (v : EnvT) : ∀ (kids : List NT) (j : Nat) (k : NT) (nm : Nms), kids[j]? = some k → lookAt v kids j nm = lookX v k nm
 | [], j, k, nm, h => by simp at h
 | x :: ks, 0, k, nm, h => by simp at h; subst h; simp only [lookAt]
 | x :: ks, j + 1, k, nm, h => by simp at h; simp only [lookAt]; exact lookAt_get v ks j k nm h
structure EnvOk (v : EnvT) : Prop where
 it : Rt v.it
 sides : ∀ t ∈ v.sides, Rt t
 ss : v.sides = [] ∨ v.ss = 2
 len : v.sides.length ≤ 1000
theorem rt_simple (k : Int) (h : k = 1 ∨ k = 2 ∨ k = 3 ∨ k = 4 ∨ k = 5) : Rt (.mk k 0 []) := by
 refine ⟨⟨.inl rfl, by simp, trivial⟩, ?_⟩
 rcases h with rfl | rfl | rfl | rfl | rfl <;> decide
theorem rt_arg {t : KT} (h : Rt t) (h2 : (argX t 7 0).2 = true) : Rt (argX t 7 0).1 := by
 have hk : t.k = 7 := by
  unfold argX at h2
  split at h2
  ·assumption
  ·cases h2
 rcases wt_arg (wt_of h) 7 0 with hz | hr
 ·exfalso
  have hc := wt_cnt (wt_of h) hk
  obtain ⟨hok, hr⟩ := h
  obtain ⟨tk, s, args⟩ := t
  simp only [KT.k] at hk
  subst hk
  rw [right_iff] at hr
  simp only [KT.args] at hc
  have hm : args[0] ∈ args := List.getElem_mem hc
  have ha := hr.2.2 _ hm
  have : (argX (.mk 7 s args) 7 0).1 = args[0] := by simp [argX, KT.k, KT.args, hc]
  rw [this] at hz
  rw [hz] at ha
  exact absurd ha (by decide)
 ·exact hr
theorem made_rt {t u : KT} (hok : okT t) (h : madeX t = .inl u) : Rt u := by
 unfold madeX at h
 split at h
 ·rename_i hr
  cases h
  exact ⟨clone_ok _ hok, by rw [clone_right]; exact hr⟩
 ·cases h
theorem kid_inl {i : Nat} {r : RT} {t : KT} (h : kidR i r = .inl t) : r = .inl t := by
 cases r with
 | inl u => exact h
 | inr x => cases h
theorem then_inl {r : RT} {f : KT → RT} {u : KT} (h : thenR r f = .inl u) : ∃ t, r = .inl t ∧ f t = .inl u := by
 cases r with
 | inl t => exact ⟨t, rfl, h⟩
 | inr x => cases h
theorem argX_ok {t : KT} (h : okT t) (k : Int) (i : Nat) : okT (argX t k i).1 := by
 unfold argX
 split
 ·obtain ⟨tk, s, args⟩ := t
  simp only [KT.args,okT] at h ⊢
  rw [List.getD_eq_getElem?_getD]
  cases hi : args[i]? with
  | none => exact wt_zero.ok
  | some a => exact okTs_mem h.2.2 a (List.mem_of_getElem? hi)
 ·exact wt_zero.ok
theorem okTs_of : ∀ {l : List KT}, (∀ a ∈ l, okT a) → okTs l
 | [], _ => trivial
 | a :: l, h => ⟨h a (by simp), okTs_of fun b hb => h b (List.mem_cons_of_mem _ hb)⟩
theorem mk_ok (k : Int) {l : List KT} (h : ∀ a ∈ l, okT a) (hl : l.length ≤ 1000) : okT (.mk k 2 l) := ⟨.inr rfl, by omega, okTs_of h⟩
theorem simp_ok (k : Int) : okT (.mk k 0 []) := ⟨.inl rfl, by simp, trivial⟩
theorem ite_ok {c : Prop} [Decidable c] {a b : KT × Bool} (ha : okT a.1) (hb : okT b.1) : okT (if c then a else b).1 := by split <;> assumption
theorem more_ok (op : List UInt8) (ts : List KT) (t0 : KT) (h0 : okT t0) : okT (moreX op ts t0).1 := by
 unfold moreX
 repeat' first | exact argX_ok h0 _ _ | exact simp_ok _ | exact h0 | refine ite_ok ?_ ?_
theorem plain_ok (op : List UInt8) (ts : List KT) (t0 tl : KT) (h0 : okT t0) (hl : okT tl) (h : ∀ a ∈ ts, okT a) (hn : ts.length ≤ 1000) : okT (plainX op ts t0 tl).1 := by
 unfold plainX
 repeat' first | exact more_ok _ _ _ h0 | exact argX_ok h0 _ _ | refine ite_ok ?_ ?_ | exact h0 | exact hl | exact simp_ok _ | exact mk_ok _ h hn | exact mk_ok _ (fun a ha => h a (List.mem_of_mem_take ha)) (by rw [List.length_take]; omega) | exact mk_ok _ (fun a ha => by simp at ha; subst ha; exact argX_ok h0 _ _) (by simp) | exact more_ok _ _ _ h0
theorem getD_ok {ts : List KT} (h : ∀ a ∈ ts, okT a) (i : Nat) : okT (ts.getD i zeroT) := by
 rw [List.getD_eq_getElem?_getD]
 cases hi : ts[i]? with
 | none => exact wt_zero.ok
 | some a => exact h a (List.mem_of_getElem? hi)
theorem plain_rt {op : List UInt8} {ts : List KT} {u : KT} (h : ∀ a ∈ ts, okT a) (hn : ts.length ≤ 1000) (hu : plainR op ts = .inl u) : Rt u := by
 unfold plainR at hu
 split at hu
 ·rename_i hc
  rw [Bool.and_eq_true] at hc
  cases hu
  exact ⟨plain_ok _ _ _ _ (getD_ok h _) (getD_ok h _) h hn, hc.2⟩
 ·cases hu
theorem looks_len (v : EnvT) : ∀ (kids : List NT) (j : Nat) (nm : Nms) (ts : List KT), looksX v kids j nm = .inl ts → ts.length = kids.length
 | [], j, nm, ts, h => by simp only [looksX] at h; cases h; rfl
 | k :: ks, j, nm, ts, h => by
  simp only [looksX] at h
  split at h
  ·cases h
  ·split at h
   ·rename_i h2
    cases h
    simp [looks_len v ks _ _ _ h2]
   ·cases h
mutual
def tidyN : NT → Prop
 | .mk op i txt ty s kids => okT ty ∧ kids.length ≤ 1000 ∧ (op = [115, 105, 100, 101] → 0 ≤ i) ∧ tidyNs kids
def tidyNs : List NT → Prop
 | [] => True
 | a :: l => tidyN a ∧ tidyNs l
end
theorem tidyNs_at : ∀ {l : List NT} {j : Nat} {k : NT}, tidyNs l → l[j]? = some k → tidyN k
 | [], j, k, _, h => by simp at h
 | x :: l, 0, k, h, h2 => by simp at h2; subst h2; exact h.1
 | x :: l, j + 1, k, h, h2 => by simp at h2; exact tidyNs_at h.2 h2
mutual
theorem look_rt (v : EnvT) (hv : EnvOk v) : ∀ (t : NT) (nm : Nms) (u : KT), tidyN t → (∀ x ∈ nm, Rt x.2) → lookX v t nm = .inl u → Rt u
 | .mk op i txt ty s kids, nm, u, ht, hn, h => by
  simp only [tidyN] at ht
  obtain ⟨hty, hkl, hsi, hks⟩ := ht
  have key : ∀ j nm' t, (∀ x ∈ nm', Rt x.2) → lookAt v kids j nm' = .inl t → Rt t := fun j nm' t hn' he => look_at v hv kids j nm' t hks hn' he
  have keys : ∀ ts, looksX v kids 0 nm = .inl ts → ∀ a ∈ ts, Rt a := fun ts he => looks_rt v hv kids 0 nm ts hks hn he
  have ext : ∀ (l : Nms), (∀ x ∈ l, Rt x.2) → ∀ x ∈ nm ++ l, Rt x.2 := fun l hl x hx => by
   rcases List.mem_append.1 hx with hx | hx
   ·exact hn x hx
   ·exact hl x hx
  simp only [lookX] at h
  split at h
  ·cases h; exact rt_simple 2 (by simp)
  split at h
  ·cases h; exact rt_simple 3 (by simp)
  split at h
  ·cases h; exact rt_simple 1 (by simp)
  split at h
  ·cases h; exact hv.it
  split at h
  ·unfold nameX at h
   split at h
   ·rename_i x hf
    cases h
    exact hn x (List.mem_reverse.1 (List.mem_of_find?_eq_some hf))
   ·cases h
  split at h
  ·exact made_rt (mk_ok _ (fun a ha => by simp at ha; subst ha; exact hty) (by simp)) h
  split at h
  ·exact made_rt (mk_ok _ (fun a ha => by simp at ha; subst ha; exact hty) (by simp)) h
  split at h
  ·rename_i hsd
   have hi0 := hsi hsd
   split at h
   ·cases h
   ·cases h
    rename_i hi
    rw [List.getD_eq_getElem?_getD]
    cases hs : v.sides[i.toNat]? with
    | none =>
     rw [List.getElem?_eq_none_iff] at hs
     omega
    | some a => exact hv.sides a (List.mem_of_getElem? hs)
  split at h
  ·unfold bindsR at h
   split at h
   ·obtain ⟨t, h1, h2⟩ := then_inl h
    have r1 := key 1 _ t (ext [] (by simp)) (kid_inl h1)
    exact key 2 _ u (ext _ (fun x hx => by simp at hx; subst hx; exact r1)) (kid_inl h2)
   split at h
   ·obtain ⟨t, h1, h2⟩ := then_inl h
    obtain ⟨t1, h3, h4⟩ := then_inl h2
    have r0 := key 0 _ t (ext [] (by simp)) (kid_inl h1)
    have r1 := key 1 _ t1 (ext [] (by simp)) (kid_inl h3)
    split at h4
    ·obtain ⟨t4, h5, h6⟩ := then_inl h4
     split at h6
     ·cases h6; exact r1
     ·cases h6
    ·cases h4
   ·obtain ⟨t, h1, h2⟩ := then_inl h
    have r0 := key 0 _ t (ext [] (by simp)) (kid_inl h1)
    split at h2
    ·rename_i hok
     obtain ⟨t4, h5, h6⟩ := then_inl h2
     have r2 := key 2 _ t4 (ext _ (fun x hx => by simp at hx; subst hx; exact rt_arg r0 hok)) (kid_inl h5)
     split at h6
     ·exact made_rt (mk_ok _ (fun a ha => by simp at ha; subst ha; exact r2.1) (by simp)) h6
     split at h6
     ·cases h6; exact r0
     ·cases h6
    ·cases h2
  ·split at h
   ·rename_i ts hts
    exact plain_rt (fun a ha => (keys ts hts a ha).1) (by rw [looks_len v kids 0 nm ts hts]; exact hkl) h
   ·cases h
theorem look_at (v : EnvT) (hv : EnvOk v) : ∀ (kids : List NT) (j : Nat) (nm : Nms) (u : KT), tidyNs kids → (∀ x ∈ nm, Rt x.2) → lookAt v kids j nm = .inl u → Rt u
 | [], j, nm, u, _, _, h => by simp only [lookAt] at h; cases h
 | k :: ks, 0, nm, u, ht, hn, h => by
  simp only [lookAt] at h
  exact look_rt v hv k nm u ht.1 hn h
 | k :: ks, j + 1, nm, u, ht, hn, h => by
  simp only [lookAt] at h
  exact look_at v hv ks j nm u ht.2 hn h
theorem looks_rt (v : EnvT) (hv : EnvOk v) : ∀ (kids : List NT) (j : Nat) (nm : Nms) (ts : List KT), tidyNs kids → (∀ x ∈ nm, Rt x.2) → looksX v kids j nm = .inl ts → ∀ a ∈ ts, Rt a
 | [], j, nm, ts, _, _, h => by simp only [looksX] at h; cases h; simp
 | k :: ks, j, nm, ts, ht, hn, h => by
  simp only [looksX] at h
  split at h
  ·cases h
  ·rename_i t he
   split at h
   ·rename_i ts' h2
    cases h
    intro a ha
    rcases List.mem_cons.1 ha with rfl | ha
    ·exact look_rt v hv k nm _ ht.1 hn (kid_inl he)
    ·exact looks_rt v hv ks (j + 1) nm ts' ht.2 hn h2 a ha
   ·cases h
end
end Go.Abs.Seat
end
section
set_option linter.unusedVariables false
set_option linter.unusedSimpArgs false
namespace Go.Abs.Seat
open Go.Proofs
theorem res29 : f29.results = [(4, (some (some 2)))] := _root_.id rfl
theorem keep29 : f29.keep = false := _root_.id rfl
def NOs (op : List UInt8) (i : Int) (txt : List UInt8) (ty : KT) (s : Nat) (kids : List NT) : HO := .obj none [[.im (.str op), .im (.int .i64 i), .im (.str txt), .im (.int .i64 ty.k), .im (.sl ty.s (encTs ty.args)), .im (.sl s (encNs kids))]]
noncomputable def K29 (H : Heap) := blockK 0 (seqK L Λ (.seq h29_2 (.seq h29_3 (.seq h29_4 (.seq h29_5 (.seq h29_6 h29_7))))) (endK f29 H))
structure Lo (op : List UInt8) (l : Nat) (H : Heap) (tm : List AV) : Prop where
 len : tm.length = 114
 r0 : tm.getD 0 undefA = .ptr l 0 0
 r3 : tm.getD 3 undefA = .ptr H.length 0 0
 r4 : tm.getD 4 undefA = .ptr (H.length + 1) 0 0
 r10 : tm.getD 10 undefA = .im (.str op)
theorem Lo.same {op : List UInt8} {l : Nat} {H : Heap} {tm tm' : List AV} (h : Lo op l H tm) (hl : tm'.length = 114) (hs : Same [0, 3, 4, 10] tm tm') : Lo op l H tm' :=
 ⟨hl, (hs 0 (by simp)).trans h.r0, (hs 3 (by simp)).trans h.r3, (hs 4 (by simp)).trans h.r4, (hs 10 (by simp)).trans h.r10⟩
theorem pre29 (op : List UInt8) (i : Int) (txt : List UInt8) (ty : KT) (s : Nat) (kids : List NT) (l : Nat) (H : Heap) :
  ∃ tm, L 29 [.ptr l 0 0, .im (.agg (encN (.mk op i txt ty s kids)))] H = exec0 L Λ x29_0 tm (H ++ [NOs op i txt ty s kids, ZO]) (K29 H) ∧ Lo op l H tm := by
 obtain ⟨tk, ts, targs⟩ := ty
 simp only [encN,NOs,ZO,KT.k,KT.s,KT.args]
 rw [leq F29]
 obtain ⟨hlen, ha⟩ := enter_at (f := f29) (args := [.ptr l 0 0, .im (.agg [.str op, .int .i64 i, .str txt, .int .i64 tk, .sl ts (encTs targs), .sl s (encNs kids)])]) (Nat.le_of_ble_eq_true rfl)
 have h0 := ha 0 _ rfl
 have h1 := ha 1 _ rfl
 generalize enterA f29 [.ptr l 0 0, .im (.agg [.str op, .int .i64 i, .str txt, .int .i64 tk, .sl ts (encTs targs), .sl s (encNs kids)])] = tm at *
 change tm.length = 114 at hlen
 have hc : f29.code = (.seq h29_0 (.seq (.seq h29_1 (.block 0 x29_0)) (.seq h29_2 (.seq h29_3 (.seq h29_4 (.seq h29_5 (.seq h29_6 h29_7))))))) := congrArg AFunc.code f29_code
 rw [hc]
 unfold K29
 simp only [h29_0,h29_1,B0,B1,B2,List.replicate,reduceCtorEq,lenA,seval,hlen,h0,h1]
 refine ⟨_, rfl, ?_⟩
 exact ⟨by simp only [List.length_set,hlen], by simp only [B3,seval,hlen,h0], by simp only [B3,seval,hlen,h1], by simp only [B3,seval,hlen], by simp only [B3,seval,hlen]⟩
def LooksE (run : Option (AV × Heap)) (H : Heap) (l : Nat) (v : EnvT) (nm : Nms) (pth : List Nat) (vn vp : AV) (r : RT) : Prop :=
 ∃ H' vn' vp' t', run = some (.im (.agg (encT t')), H') ∧ LkAt H' l v nm pth (fltR pth r) vn' vp' ∧ Fr H H' l vn vp vn' vp' ∧ (∀ t, r = .inl t → t' = t) ∧ Wt t'
theorem LooksE.leave {run : Option (AV × Heap)} {H : Heap} {l : Nat} {v : EnvT} {nm : Nms} {pth : List Nat} {vn vp vn1 vp1 : AV} {r : RT} {B : Heap} {t : KT} {x : AV} (hx : degrade x = .im (.agg (encT t)))
  (h : LkAt H l v nm pth none vn vp) (hB : LkAt B l v nm pth (fltR pth r) vn1 vp1) (hF : Fr H B l vn vp vn1 vp1) (ht : ∀ u, r = .inl u → t = u) (hw : Wt t)
  (hrun : ∀ H', Abs.leave H false x B = (.im (.agg (encT t)), H') → run = some (.im (.agg (encT t)), H')) : LooksE run H l v nm pth vn vp r := by
 obtain ⟨H', hlv, hk, hff⟩ := leave_lk h hB hF (r := x) (r' := .im (.agg (encT t))) hx (fun _ => by cases t; rfl)
 exact ⟨H', vn1, vp1, t, hrun H' hlv, hk, hff, ht, hw⟩
section
variable {H : Heap} {l : Nat} {v : EnvT} {nm : Nms} {pth : List Nat} {vn vp : AV} {tm : List AV} (op : List UInt8) (i : Int) (txt : List UInt8) (ty : KT) (s : Nat) (kids : List NT)
theorem w29_s (j : Nat) (k : Int) (hk : k = 1 ∨ k = 2 ∨ k = 3) (h : LkAt H l v nm pth none vn vp) (code : ACode)
  (hrun : (∀ M, L 49 [.im (.int .i64 k)] M = some (.im (.agg [.int .i64 k, .sl 0 []]), M)) → ∀ H', leave H false (.im (.agg [.int .i64 k, .sl 0 []])) (H ++ [NOs op i txt ty s kids, .obj none [[.im (.int .i64 k), .im (.sl 0 [])]]]) = (.im (.agg [.int .i64 k, .sl 0 []]), H') →
   exec0 L Λ code tm (H ++ [NOs op i txt ty s kids, ZO]) (K29 H) = some (.im (.agg [.int .i64 k, .sl 0 []]), H')) :
  LooksE (exec0 L Λ code tm (H ++ [NOs op i txt ty s kids, ZO]) (K29 H)) H l v nm pth vn vp (.inl (.mk k 0 [])) :=
 LooksE.leave (t := .mk k 0 []) rfl h (h.more [NOs op i txt ty s kids, .obj none [[.im (.int .i64 k), .im (.sl 0 [])]]]) (Fr.refl.app _) (fun u hu => by cases hu; rfl) (wt_of (rt_simple k (by omega))) (hrun (s49 k))
theorem w29_0 (h : LkAt H l v nm pth none vn vp) (hM : Lo op l H tm) (hw : op = [105, 110, 116]) :
  LooksE (exec0 L Λ x29_0 tm (H ++ [NOs op i txt ty s kids, ZO]) (K29 H)) H l v nm pth vn vp (.inl (.mk 2 0 [])) := by
 refine w29_s (tm := tm) op i txt ty s kids 0 2 (by simp) h x29_0 fun c49 H' hlv => ?_
 obtain ⟨hlen, r0, r3, r4, r10⟩ := hM
 subst hw
 have q0 : decide (([105, 110, 116] : List UInt8) = [105, 110, 116]) = true := rfl
 simp only [NOs,ZO] at hlv ⊢
 simp only [x29_0,g29_0,a29_0,B0,B1,B2,List.replicate,reduceCtorEq,lenA,seval,B5,pairK,B4,stays,loadOf,K29,endK,resA,tupA,res29,keep29,hlen,r0,r3,r4,r10,q0,c49,hlv]
theorem w29_1 (h : LkAt H l v nm pth none vn vp) (hM : Lo op l H tm) (hw : op = [116, 101, 120, 116, 95, 111, 102]) :
  LooksE (exec0 L Λ x29_1 tm (H ++ [NOs op i txt ty s kids, ZO]) (K29 H)) H l v nm pth vn vp (.inl (.mk 3 0 [])) := by
 refine w29_s (tm := tm) op i txt ty s kids 0 3 (by simp) h x29_1 fun c49 H' hlv => ?_
 obtain ⟨hlen, r0, r3, r4, r10⟩ := hM
 subst hw
 have q0 : decide (([116, 101, 120, 116, 95, 111, 102] : List UInt8) = [116, 101, 120, 116, 95, 111, 102]) = true := rfl
 simp only [NOs,ZO] at hlv ⊢
 simp only [x29_1,g29_1,a29_1,B0,B1,B2,List.replicate,reduceCtorEq,lenA,seval,B5,pairK,B4,stays,loadOf,K29,endK,resA,tupA,res29,keep29,hlen,r0,r3,r4,r10,q0,c49,hlv]
theorem w29_2 (h : LkAt H l v nm pth none vn vp) (hM : Lo op l H tm) (hw : op = [116, 114, 117, 101] ∨ op = [102, 97, 108, 115, 101]) :
  LooksE (exec0 L Λ x29_2 tm (H ++ [NOs op i txt ty s kids, ZO]) (K29 H)) H l v nm pth vn vp (.inl (.mk 1 0 [])) := by
 refine w29_s (tm := tm) op i txt ty s kids 0 1 (by simp) h x29_2 fun c49 H' hlv => ?_
 obtain ⟨hlen, r0, r3, r4, r10⟩ := hM
 simp only [NOs,ZO] at hlv ⊢
 rcases hw with rfl | rfl
 ·have q0 : decide (([116, 114, 117, 101] : List UInt8) = [116, 114, 117, 101]) = true := rfl
  simp only [x29_2,g29_2,a29_2,B0,B1,B2,List.replicate,reduceCtorEq,lenA,seval,B5,pairK,B4,stays,loadOf,K29,endK,resA,tupA,res29,keep29,hlen,r0,r3,r4,r10,q0,c49,hlv]
 ·have q0 : decide (([102, 97, 108, 115, 101] : List UInt8) = [116, 114, 117, 101]) = false := rfl
  have q1 : decide (([102, 97, 108, 115, 101] : List UInt8) = [102, 97, 108, 115, 101]) = true := rfl
  simp only [x29_2,g29_2,a29_2,B0,B1,B2,List.replicate,reduceCtorEq,lenA,seval,B5,pairK,B4,stays,loadOf,K29,endK,resA,tupA,res29,keep29,hlen,r0,r3,r4,r10,q0,q1,c49,hlv]
theorem w29_3 (h : LkAt H l v nm pth none vn vp) (hv : EnvOk v) (hM : Lo op l H tm) (hw : op = [105, 116]) :
  LooksE (exec0 L Λ x29_3 tm (H ++ [NOs op i txt ty s kids, ZO]) (K29 H)) H l v nm pth vn vp (.inl v.it) := by
 obtain ⟨va, e, ho, hfa⟩ := h.obj
 refine LooksE.leave (t := v.it) (x := .im (.agg (encT v.it))) (by cases v.it; rfl) h (h.more [NOs op i txt ty s kids, TyO v.it]) (Fr.refl.app _) (fun u hu => by cases hu; rfl) (wt_of hv.it) fun H' hlv => ?_
 obtain ⟨hlen, r0, r3, r4, r10⟩ := hM
 subst hw
 have q0 : decide (([105, 116] : List UInt8) = [105, 116]) = true := rfl
 have ml : ∀ M : Heap, (H ++ M)[l]? = some _ := fun M => fr_at (A := H) ho
 obtain ⟨⟨k1, s1, a1⟩, vss, vsd⟩ := v
 simp only [NOs,ZO,lookO,TyO,encT,KT.k,KT.s,KT.args] at hlv ml ⊢
 simp only [x29_3,g29_3,a29_3,B0,B1,B2,List.replicate,reduceCtorEq,lenA,seval,B5,pairK,B4,stays,loadOf,K29,endK,resA,tupA,res29,keep29,hlen,r0,r3,r4,r10,q0,ml,hlv]
theorem tyR_wt {r : RT} (h : ∀ u, r = .inl u → Wt u) : Wt (tyR r) := by
 cases r with
 | inl u => exact h u rfl
 | inr x => exact wt_zero
theorem tyR_eq {r : RT} {u : KT} (h : r = .inl u) : tyR r = u := by subst h; rfl
theorem w29_4 (h : LkAt H l v nm pth none vn vp) (hp : pth.length ≤ 1000) (hn : nm.length ≤ 1000) (hR : ∀ x ∈ nm, Rt x.2) (hM : Lo op l H tm) (hw : op = [110, 97, 109, 101]) :
  LooksE (exec0 L Λ x29_4 tm (H ++ [NOs op i txt ty s kids, ZO]) (K29 H)) H l v nm pth vn vp (nameX nm txt) := by
 obtain ⟨B, c50, kB, fB⟩ := s50 (h.more [NOs op i txt ty s kids, ZO]) op txt i ty s kids hp hn
 have hwt : Wt (tyR (nameX nm txt)) := tyR_wt fun u hu => by
  unfold nameX at hu
  split at hu
  ·rename_i x hf
   cases hu
   exact wt_of (hR x (List.mem_reverse.1 (List.mem_of_find?_eq_some hf)))
  ·cases hu
 generalize hr : nameX nm txt = r at *
 obtain ⟨kX, fX⟩ := LkAt.box h kB fB (k := 1) (by simp) (TyO (tyR r))
 have x1 := Fr.top h fB 1 (by simp)
 simp only [List.getElem?_cons_zero,List.getElem?_cons_succ] at x1
 have xS : ∀ (o : HO), (B.set (H.length + 1) o)[H.length + 1]? = some o := fun o => List.getElem?_set_self (List.getElem?_eq_some_iff.1 x1).1
 refine LooksE.leave (t := tyR r) (x := .im (.agg (encT (tyR r)))) (by cases tyR r; rfl) h kX fX (fun u hu => tyR_eq hu) hwt fun H' hlv => ?_
 obtain ⟨hlen, r0, r3, r4, r10⟩ := hM
 subst hw
 have q0 : decide (([110, 97, 109, 101] : List UInt8) = [110, 97, 109, 101]) = true := rfl
 generalize tyR r = t at *
 obtain ⟨k1, s1, a1⟩ := t
 obtain ⟨tk, ts, targs⟩ := ty
 simp only [NOs,ZO,TyO,encT,encN,KT.k,KT.s,KT.args] at hlv x1 c50 ⊢
 simp only [x29_4,g29_4,a29_4,B0,B1,B2,List.replicate,reduceCtorEq,lenA,seval,B5,pairK,B4,stays,loadOf,K29,endK,resA,tupA,res29,keep29,hlen,r0,r3,r4,r10,q0,c50,x1,xS,hlv]
theorem w29_5 (h : LkAt H l v nm pth none vn vp) (hp : pth.length ≤ 1000) (hok : okT ty) (hM : Lo op l H tm) (hw : op = [110, 105, 108]) :
  LooksE (exec0 L Λ x29_5 tm (H ++ [NOs op i txt ty s kids, ZO]) (K29 H)) H l v nm pth vn vp (madeX (.mk 7 2 [ty])) := by
 obtain ⟨B, t, c51, kB, fB, ht, hwt⟩ := s51x (r := .inl zeroT) (h.more [NOs op i txt ty s kids, ZO]) 7 2 [ty] ⟨.inr rfl, by simp, hok, trivial⟩ hp
 simp only [thenR] at kB ht
 obtain ⟨kX, fX⟩ := LkAt.box h kB fB (k := 1) (by simp) (TyO t)
 have x1 := Fr.top h fB 1 (by simp)
 simp only [List.getElem?_cons_zero,List.getElem?_cons_succ] at x1
 have xS : ∀ (o : HO), (B.set (H.length + 1) o)[H.length + 1]? = some o := fun o => List.getElem?_set_self (List.getElem?_eq_some_iff.1 x1).1
 refine LooksE.leave (t := t) (x := .im (.agg (encT t))) (by cases t; rfl) h kX fX ht hwt fun H' hlv => ?_
 obtain ⟨hlen, r0, r3, r4, r10⟩ := hM
 subst hw
 have q0 : decide (([110, 105, 108] : List UInt8) = [110, 105, 108]) = true := rfl
 obtain ⟨k1, s1, a1⟩ := t
 obtain ⟨tk, ts, targs⟩ := ty
 have td : toDatss [[AV.im (.int .i64 tk), .im (.sl ts (encTs targs))]] = some [[.int .i64 tk, .sl ts (encTs targs)]] := rfl
 simp only [NOs,ZO,TyO,encT,encTs,KT.k,KT.s,KT.args] at hlv x1 c51 ⊢
 simp only [x29_5,g29_5,a29_5,B0,B1,B2,List.replicate,reduceCtorEq,lenA,seval,B5,pairK,B4,stays,loadOf,K29,endK,resA,tupA,res29,keep29,hlen,r0,r3,r4,r10,q0,td,c51,x1,xS,hlv]
theorem w29_6 (h : LkAt H l v nm pth none vn vp) (hp : pth.length ≤ 1000) (hok : okT ty) (hM : Lo op l H tm) (hw : op = [110, 111, 110, 101]) :
  LooksE (exec0 L Λ x29_6 tm (H ++ [NOs op i txt ty s kids, ZO]) (K29 H)) H l v nm pth vn vp (madeX (.mk 9 2 [ty])) := by
 obtain ⟨B, t, c51, kB, fB, ht, hwt⟩ := s51x (r := .inl zeroT) (h.more [NOs op i txt ty s kids, ZO]) 9 2 [ty] ⟨.inr rfl, by simp, hok, trivial⟩ hp
 simp only [thenR] at kB ht
 obtain ⟨kX, fX⟩ := LkAt.box h kB fB (k := 1) (by simp) (TyO t)
 have x1 := Fr.top h fB 1 (by simp)
 simp only [List.getElem?_cons_zero,List.getElem?_cons_succ] at x1
 have xS : ∀ (o : HO), (B.set (H.length + 1) o)[H.length + 1]? = some o := fun o => List.getElem?_set_self (List.getElem?_eq_some_iff.1 x1).1
 refine LooksE.leave (t := t) (x := .im (.agg (encT t))) (by cases t; rfl) h kX fX ht hwt fun H' hlv => ?_
 obtain ⟨hlen, r0, r3, r4, r10⟩ := hM
 subst hw
 have q0 : decide (([110, 111, 110, 101] : List UInt8) = [110, 111, 110, 101]) = true := rfl
 obtain ⟨k1, s1, a1⟩ := t
 obtain ⟨tk, ts, targs⟩ := ty
 have td : toDatss [[AV.im (.int .i64 tk), .im (.sl ts (encTs targs))]] = some [[.int .i64 tk, .sl ts (encTs targs)]] := rfl
 simp only [NOs,ZO,TyO,encT,encTs,KT.k,KT.s,KT.args] at hlv x1 c51 ⊢
 simp only [x29_6,g29_6,a29_6,B0,B1,B2,List.replicate,reduceCtorEq,lenA,seval,B5,pairK,B4,stays,loadOf,K29,endK,resA,tupA,res29,keep29,hlen,r0,r3,r4,r10,q0,td,c51,x1,xS,hlv]
theorem w29_7 (h : LkAt H l v nm pth none vn vp) (hv : EnvOk v) (hp : pth.length ≤ 1000) (hi : 0 ≤ i) (hM : Lo op l H tm) (hw : op = [115, 105, 100, 101]) :
  LooksE (exec0 L Λ x29_7 tm (H ++ [NOs op i txt ty s kids, ZO]) (K29 H)) H l v nm pth vn vp (if (v.sides.length : Int) ≤ i then .inr ([], 53) else .inl (v.sides.getD i.toNat zeroT)) := by
 obtain ⟨va, e, ho, hfa⟩ := h.obj
 obtain ⟨hlen, r0, r3, r4, r10⟩ := hM
 subst hw
 have q0 : decide (([115, 105, 100, 101] : List UInt8) = [115, 105, 100, 101]) = true := rfl
 have ml : ∀ M : Heap, (H ++ M)[l]? = some _ := fun M => fr_at (A := H) ho
 have hl : (v.sides.map encT).length = v.sides.length := by rw [List.length_map]
 by_cases hge : (v.sides.length : Int) ≤ i
 ·rw [if_pos hge]
  have hd : decide ((v.sides.length : Int) ≤ i) = true := decide_eq_true hge
  obtain ⟨B, c52, kB, fB⟩ := s52 (h.more [NOs [115, 105, 100, 101] i txt ty s kids, ZO]) 53 (by decide) hp
  have x1 := Fr.top h fB 1 (by simp)
  simp only [List.getElem?_cons_zero,List.getElem?_cons_succ] at x1
  have xS : ∀ (o : HO), (B.set (H.length + 1) o)[H.length + 1]? = some o := fun o => List.getElem?_set_self (List.getElem?_eq_some_iff.1 x1).1
  obtain ⟨kX, fX⟩ := LkAt.box h kB fB (k := 1) (by simp) (.obj none [[.im (.int .i64 0), .im (.sl 0 [])]])
  refine LooksE.leave (r := .inr ([], 53)) (x := .im (.agg [.int .i64 0, .sl 0 []])) (t := zeroT) rfl h (by simpa [flt1, fltR] using kX) fX (fun u hu => by cases hu) wt_zero fun H' hlv => ?_
  simp only [NOs,ZO,lookO,zeroE] at hlv ml x1 c52 ⊢
  simp only [x29_7,g29_7,a29_7,B0,B1,B2,List.replicate,reduceCtorEq,lenA,seval,B5,pairK,B4,stays,loadOf,K29,endK,resA,tupA,res29,keep29,hlen,r0,r3,r4,r10,q0,ml,hl,hd,c52,x1,xS,hlv]
 ·rw [if_neg hge]
  have hd : decide ((v.sides.length : Int) ≤ i) = false := decide_eq_false hge
  have hlt : i.toNat < v.sides.length := by omega
  obtain ⟨t, ht⟩ : ∃ t, v.sides[i.toNat]? = some t := ⟨_, List.getElem?_eq_getElem hlt⟩
  have hgD : v.sides.getD i.toNat zeroT = t := by rw [List.getD_eq_getElem?_getD, ht]; rfl
  have hgm : (v.sides.map encT)[i.toNat]? = some (encT t) := by rw [List.getElem?_map, ht]; rfl
  have hix : idx (.im (.int .i64 i)) v.sides.length = some i.toNat := by
   have := idx_nat (n := v.sides.length) (i := i.toNat) hlt
   rwa [Int.toNat_of_nonneg hi] at this
  have hss : v.ss = 2 := by
   rcases hv.ss with h1 | h1
   ·rw [h1] at hlt; simp at hlt
   ·exact h1
  rw [hgD]
  have hr := hv.sides t (List.mem_of_getElem? ht)
  refine LooksE.leave (t := t) (x := .im (.agg (encT t))) (by cases t; rfl) h (h.more [NOs [115, 105, 100, 101] i txt ty s kids, TyO t]) (Fr.refl.app _) (fun u hu => by cases hu; rfl) (wt_of hr) fun H' hlv => ?_
  obtain ⟨k1, s1, a1⟩ := t
  obtain ⟨vi, vss, vsd⟩ := v
  simp only at hss
  subst hss
  simp only [NOs,ZO,lookO,TyO,encT,KT.k,KT.s,KT.args] at hlv ml hgm ⊢
  simp only [x29_7,g29_7,a29_7,B0,B1,B2,List.replicate,reduceCtorEq,lenA,seval,B5,pairK,B4,stays,loadOf,K29,endK,resA,tupA,res29,keep29,hlen,r0,r3,r4,r10,q0,ml,hl,hd,hix,hgm,hlv]
theorem w29_8 (h : LkAt H l v nm pth none vn vp) (r : RT) (h53 : ∀ H vn vp, LkAt H l v nm pth none vn vp → Looks 53 [.im (.agg (encN (.mk op i txt ty s kids)))] H l v nm pth vn vp r) (hM : Lo op l H tm) (hw : bindsW op) :
  LooksE (exec0 L Λ x29_8 tm (H ++ [NOs op i txt ty s kids, ZO]) (K29 H)) H l v nm pth vn vp r := by
 obtain ⟨B, vn1, vp1, t, c53, kB, fB, ht, hwt⟩ := h53 _ _ _ (h.more [NOs op i txt ty s kids, ZO])
 obtain ⟨kX, fX⟩ := LkAt.box h kB fB (k := 1) (by simp) (TyO t)
 have x1 := Fr.top h fB 1 (by simp)
 simp only [List.getElem?_cons_zero,List.getElem?_cons_succ] at x1
 have xS : ∀ (o : HO), (B.set (H.length + 1) o)[H.length + 1]? = some o := fun o => List.getElem?_set_self (List.getElem?_eq_some_iff.1 x1).1
 refine LooksE.leave (t := t) (x := .im (.agg (encT t))) (by cases t; rfl) h kX fX ht hwt fun H' hlv => ?_
 obtain ⟨hlen, r0, r3, r4, r10⟩ := hM
 obtain ⟨k1, s1, a1⟩ := t
 obtain ⟨tk, ts, targs⟩ := ty
 simp only [NOs,ZO,TyO,encT,encN,KT.k,KT.s,KT.args] at hlv x1 c53 ⊢
 have hrun : ∀ b0 b1 b2 b3 : Bool, (b0 || b1 || b2 || b3) = true → decide (op = [108, 101, 116]) = b0 → decide (op = [109, 97, 112]) = b1 → decide (op = [102, 105, 108, 116, 101, 114]) = b2 → decide (op = [102, 111, 108, 100]) = b3 → exec0 L Λ x29_8 tm (H ++ [.obj none [[.im (.str op), .im (.int .i64 i), .im (.str txt), .im (.int .i64 tk), .im (.sl ts (encTs targs)), .im (.sl s (encNs kids))]], .obj none [[.im (.int .i64 0), .nils]]]) (K29 H) = some (.im (.agg [.int .i64 k1, .sl s1 (encTs a1)]), H') := by
  intro b0 b1 b2 b3 hb e0 e1 e2 e3
  cases b0 <;> cases b1 <;> cases b2 <;> cases b3 <;>
  first
  |(cases hb; done)
  | simp only [x29_8,g29_8,a29_8,B0,B1,B2,List.replicate,reduceCtorEq,lenA,seval,B5,pairK,B4,stays,loadOf,K29,endK,resA,tupA,res29,keep29,hlen,r0,r3,r4,r10,e0,e1,e2,e3,c53,x1,xS,hlv]
 refine hrun _ _ _ _ ?_ rfl rfl rfl rfl
 rcases hw with rfl | rfl | rfl | rfl <;> rfl
end
end Go.Abs.Seat
end
section
set_option linter.unusedVariables false
set_option linter.unusedSimpArgs false
namespace Go.Abs.Seat
open Go.Proofs
def GaS (A : Heap) (b : Nat) (vn vp : AV) (ts : List KT) (w : AV) : Prop :=
 (ts = [] ∧ w = .nils) ∨ (ts ≠ [] ∧ ∃ tok, b ≤ tok ∧ w = .asl 2 (ts.map encT) tok ∧ A[tok]? = some (.hw 34 ts.length) ∧ refA vn ≠ some tok ∧ refA vp ≠ some tok)
theorem gas_call {A B : Heap} {b l : Nat} {vn vp vn1 vp1 : AV} {ts : List KT} {w : AV} (g : GaS A b vn vp ts w) (hl : l < b) (f : Fr A B l vn vp vn1 vp1) : GaS B b vn1 vp1 ts w := by
 rcases g with h | ⟨hne, tok, hb, hw, ht, hn, hp⟩
 ·exact .inl h
 ·have hlt := (List.getElem?_eq_some_iff.1 ht).1
  refine .inr ⟨hne, tok, hb, hw, (f.old tok hlt (by omega) hn hp).trans ht, ?_, ?_⟩
  ·rcases f.rn with e | ⟨j, e, hj⟩
   ·rw [e]; exact hn
   ·rw [e]; intro e'; injection e'; omega
  ·rcases f.rp with e | ⟨j, e, hj⟩
   ·rw [e]; exact hp
   ·rw [e]; intro e'; injection e'; omega
theorem gas_push {A : Heap} {b : Nat} {vn vp : AV} {ts : List KT} {w : AV} (g : GaS A b vn vp ts w) (t : KT) (hn : ts.length ≤ 1000) (hb : b ≤ A.length) (hvn : ∀ i, refA vn = some i → i < A.length) (hvp : ∀ i, refA vp = some i → i < A.length) :
  ∃ w' A' tok, appendA A 34 32 2 w [encT t] = some (w', A') ∧ GaS A' b vn vp (ts ++ [t]) w' ∧ A.length ≤ A'.length ∧ b ≤ tok ∧ refA vn ≠ some tok ∧ refA vp ≠ some tok ∧ (∀ i, i < A.length → i ≠ tok → A'[i]? = A[i]?) := by
 rcases g with ⟨rfl, rfl⟩ | ⟨hne, tok, hb', rfl, ht, hn', hp⟩
 ·have e1 : refA vn ≠ some A.length := fun e => by have := hvn _ e; omega
  have e2 : refA vp ≠ some A.length := fun e => by have := hvp _ e; omega
  refine ⟨.asl 2 [encT t] A.length, A ++ [.hw 34 1], A.length, rfl, .inr ⟨by simp, A.length, hb, rfl, by simp, e1, e2⟩, by simp, hb, e1, e2, fun i hi _ => by rw [List.getElem?_append_left hi]⟩
 ·have hlt := (List.getElem?_eq_some_iff.1 ht).1
  refine ⟨.asl 2 (ts.map encT ++ [encT t]) tok, A.set tok (.hw 34 (ts.length + 1)), tok, ?_, .inr ⟨by simp, tok, hb', by simp, by rw [List.getElem?_set_self hlt]; simp, hn', hp⟩, by simp, hb', hn', hp, fun i hi hne => by rw [List.getElem?_set_ne (fun e => hne e.symm)]⟩
  have hc : ((ts.map encT).length + [encT t].length) * 32 ≤ 2 ^ 46 := by
   simp only [List.length_map,List.length_cons,List.length_nil]
   omega
  unfold appendA
  simp only [ht]
  rw [if_pos ⟨by simp, trivial, hc, by decide, trivial⟩]
  simp
theorem LkAt.pushed {A A' : Heap} {l b tok : Nat} {v : EnvT} {nm : Nms} {pth : List Nat} {f : Flt} {vn vp : AV} (h : LkAt A l v nm pth f vn vp) (hl : l < b) (hb : b ≤ tok) (hn : refA vn ≠ some tok) (hp : refA vp ≠ some tok) (hs : ∀ i, i < A.length → i ≠ tok → A'[i]? = A[i]?) : LkAt A' l v nm pth f vn vp :=
 h.same fun i hi => by
  rcases hi with rfl | hi | hi
  ·exact hs _ h.lt (by omega)
  ·exact hs i (h.sn.ref_lt hi) (fun e => hn (by rw [← e]; exact hi))
  ·exact hs i (h.sp.ref_lt hi) (fun e => hp (by rw [← e]; exact hi))
theorem Fr.pushed {H A A' : Heap} {l tok : Nat} {vn vp vn1 vp1 : AV} (h : Fr H A l vn vp vn1 vp1) (hle : A.length ≤ A'.length) (hb : H.length ≤ tok) (hs : ∀ i, i < A.length → i ≠ tok → A'[i]? = A[i]?) : Fr H A' l vn vp vn1 vp1 :=
 ⟨Nat.le_trans h.len hle, fun i hi hl h1 h2 => (hs i (Nat.lt_of_lt_of_le hi h.len) (by omega)).trans (h.old i hi hl h1 h2), h.rn, h.rp⟩
def fltS (pth : List Nat) (r : List KT ⊕ (List Nat × Int)) : Flt := match r with
 | .inl _ => none
 | .inr (p, c) => some (pth ++ p, c)
set_option maxHeartbeats 1000000 in
theorem l29 {H : Heap} {l : Nat} {v : EnvT} {nm : Nms} {pth : List Nat} {vn0 vp0 : AV} (h : LkAt H l v nm pth none vn0 vp0) (op : List UInt8) (i : Int) (txt : List UInt8) (ty : KT) (s : Nat) (kids : List NT) (hkl : kids.length ≤ 1000)
  (hk : ∀ (j : Nat) (k : NT), kids[j]? = some k → ∀ A vn vp, LkAt A l v nm pth none vn vp → Looks 54 [.im (.agg (encN (.mk op i txt ty s kids))), .im (.int .i64 (j : Int)), .nils] A l v nm pth vn vp (kidR j (lookX v k nm))) :
  ∀ (m j : Nat), j + m = kids.length → ∀ (A : Heap) (vn vp : AV) (ts : List KT) (w : AV), LkAt A l v nm pth none vn vp → Fr (H ++ [NOs op i txt ty s kids, ZO]) A l vn0 vp0 vn vp → GaS A (H.length + 2) vn vp ts w → ts.length = j →
  ∀ tm : List AV, Lo op l H tm → tm.getD 5 undefA = w → tm.getD 79 undefA = .im (.int .i64 (kids.length : Int)) → tm.getD 80 undefA = .im (.int .i64 (j : Int)) →
  ∃ e tm' A' vn' vp', Λ c29_0 tm A = some (e, tm', A') ∧ Lo op l H tm' ∧ LkAt A' l v nm pth (fltS pth (looksX v (kids.drop j) j nm)) vn' vp' ∧ Fr (H ++ [NOs op i txt ty s kids, ZO]) A' l vn0 vp0 vn' vp' ∧ match looksX v (kids.drop j) j nm with
   | .inl us => e = .exit 1 ∧ GaS A' (H.length + 2) vn' vp' (ts ++ us) (tm'.getD 5 undefA)
   | .inr _ => e = .ret
 | 0, j, hj, A, vn, vp, ts, w, hA, hF, g, htl, tm, hM, h5, h79, h80 => by
  obtain ⟨hlen, r0, r3, r4, r10⟩ := hM
  have e : kids.drop j = [] := by rw [List.drop_eq_nil_iff]; omega
  have hc : decide ((j : Int) < (kids.length : Int)) = false := by simp; omega
  rw [e, l29_0]
  simp only [looksX]
  simp only [b29_0,B0,B1,B2,List.replicate,reduceCtorEq,lenA,seval,hlen,h79,h80,hc]
  refine ⟨_, _, _, vn, vp, rfl, ⟨by simp only [List.length_set,hlen], by simp only [B3,seval,hlen,r0], by simp only [B3,seval,hlen,r3], by simp only [B3,seval,hlen,r4], by simp only [B3,seval,hlen,r10]⟩, hA, hF, rfl, ?_⟩
  have hap : ts ++ [] = ts := List.append_nil ts
  have : (tm.set 81 (AV.im (Dat.bool false))).getD 5 undefA = w := by simp only [B3,seval,hlen,h5]
  rw [this]
  simpa using g
 | m + 1, j, hj, A, vn, vp, ts, w, hA, hF, g, htl, tm, hM, h5, h79, h80 => by
  have hM' := hM
  obtain ⟨hlen, r0, r3, r4, r10⟩ := hM'
  have hlt : j < kids.length := by omega
  obtain ⟨k, hkj⟩ : ∃ k, kids[j]? = some k := ⟨_, List.getElem?_eq_getElem hlt⟩
  have e : kids.drop j = k :: kids.drop (j + 1) := by
   rw [List.drop_eq_getElem_cons hlt]
   congr 1
   rw [List.getElem?_eq_getElem hlt] at hkj
   exact Option.some.inj hkj
  have hc : decide ((j : Int) < (kids.length : Int)) = true := by simp; omega
  have hwr := wrap_nat (i := j) (by omega)
  obtain ⟨B, vn1, vp1, t, c54, kB, fB, ht, hwt⟩ := hk j k hkj A vn vp hA
  have hlH := h.lt
  have hFl := hF.len
  rw [List.length_append, List.length_cons, List.length_cons, List.length_nil] at hFl
  have gB := gas_call g (by omega) fB
  have hBl := fB.len
  obtain ⟨w', B', tok, ca, g', hle, hbt, hnt, hpt, hsame⟩ := gas_push gB t (by omega) (by omega) (fun i hi => kB.sn.ref_lt hi) (fun i hi => kB.sp.ref_lt hi)
  have kB' := kB.pushed (by omega) hbt hnt hpt hsame
  have fB' := (hF.trans fB).pushed hle (by simp; omega) hsame
  have g0 := Fr.top h hF 0 (by simp)
  have q1 := Fr.top h fB' 1 (by simp)
  rw [Nat.add_zero] at g0
  simp only [List.getElem?_cons_zero,List.getElem?_cons_succ] at g0 q1
  obtain ⟨va2, e2, o2, d2⟩ := kB'.errOk
  rw [e, l29_0]
  simp only [looksX]
  generalize kidR j (lookX v k nm) = r at *
  obtain ⟨tk1, ts1, ta1⟩ := t
  obtain ⟨tk, tys, targs⟩ := ty
  have td : toDatss [[AV.im (.int .i64 tk1), .im (.sl ts1 (encTs ta1))]] = some [[.int .i64 tk1, .sl ts1 (encTs ta1)]] := rfl
  cases r with
  | inr x =>
   obtain ⟨p, c⟩ := x
   change decide (e2 = 0) = false at d2
   obtain ⟨kX, fX⟩ := LkAt.box h kB' fB' (k := 1) (by simp) (.obj none [[.im (.int .i64 0), .nils]])
   have fX2 : Fr (H ++ [NOs op i txt (.mk tk tys targs) s kids, ZO]) (B'.set (H.length + 1) (.obj none [[.im (.int .i64 0), .nils]])) l vn0 vp0 vn1 vp1 := by
    have hs : B'.set (H.length + 1) (.obj none [[.im (.int .i64 0), .nils]]) = B' := by
     apply List.ext_getElem?
     intro n
     by_cases hn : H.length + 1 = n
     ·subst hn
      rw [List.getElem?_set_self (List.getElem?_eq_some_iff.1 q1).1, q1]
      rfl
     ·rw [List.getElem?_set_ne hn]
    rw [hs]
    exact fB'
   simp only [NOs,ZO,lookO,KT.k,KT.s,KT.args,encN,encT] at g0 q1 c54 o2 ca ⊢
   simp only [b29_0,B0,B1,B2,List.replicate,reduceCtorEq,lenA,seval,hlen,r0,r3,r4,r10,h5,h79,h80,hc,g0,c54,td,elems,ca,o2,d2,q1]
   exact ⟨_, _, _, vn1, vp1, rfl, ⟨by simp only [List.length_set,hlen], by simp only [B3,seval,hlen,r0], by simp only [B3,seval,hlen,r3], by simp only [B3,seval,hlen,r4], by simp only [B3,seval,hlen,r10]⟩, kX, fX2, rfl⟩
  | inl t0 =>
   change decide (e2 = 0) = true at d2
   have et : KT.mk tk1 ts1 ta1 = t0 := ht t0 rfl
   subst et
   have key : ∀ tm : List AV, Lo op l H tm → tm.getD 5 undefA = w' → tm.getD 79 undefA = .im (.int .i64 (kids.length : Int)) → tm.getD 80 undefA = .im (.int .i64 ((j + 1 : Nat) : Int)) →
     ∃ e tm' A' vn' vp', Λ c29_0 tm B' = some (e, tm', A') ∧ Lo op l H tm' ∧ LkAt A' l v nm pth (fltS pth (match looksX v (kids.drop (j + 1)) (j + 1) nm with | .inl ts => .inl (KT.mk tk1 ts1 ta1 :: ts) | .inr e => .inr e)) vn' vp' ∧ Fr (H ++ [NOs op i txt (.mk tk tys targs) s kids, ZO]) A' l vn0 vp0 vn' vp' ∧
      match (match looksX v (kids.drop (j + 1)) (j + 1) nm with | .inl ts => (.inl (KT.mk tk1 ts1 ta1 :: ts) : List KT ⊕ (List Nat × Int)) | .inr e => .inr e) with
      | .inl us => e = .exit 1 ∧ GaS A' (H.length + 2) vn' vp' (ts ++ us) (tm'.getD 5 undefA)
      | .inr _ => e = .ret := fun tm a1 a2 a3 a4 => by
    obtain ⟨e', tm', A', vn', vp', k1, k2, k3, k4, k5⟩ := l29 h op i txt (.mk tk tys targs) s kids hkl hk m (j + 1) (by omega) B' vn1 vp1 (ts ++ [KT.mk tk1 ts1 ta1]) w' kB' fB' g' (by simp [htl]) tm a1 a2 a3 a4
    refine ⟨e', tm', A', vn', vp', k1, k2, ?_⟩
    cases hlk : looksX v (kids.drop (j + 1)) (j + 1) nm with
    | inl us =>
     rw [hlk] at k3 k5
     refine ⟨k3, k4, k5.1, ?_⟩
     have := k5.2
     rwa [List.append_assoc] at this
    | inr x =>
     rw [hlk] at k3 k5
     exact ⟨k3, k4, k5⟩
   simp only [NOs,ZO,lookO,KT.k,KT.s,KT.args,encN,encT] at g0 q1 c54 o2 ca key ⊢
   simp only [b29_0,B0,B1,B2,List.replicate,reduceCtorEq,lenA,seval,hlen,r0,r3,r4,r10,h5,h79,h80,hc,g0,c54,td,elems,ca,o2,d2,q1,hwr]
   refine key _ ?_ ?_ ?_ ?_
   ·exact ⟨by simp only [List.length_set,hlen], by simp only [B3,seval,hlen,r0], by simp only [B3,seval,hlen,r3], by simp only [B3,seval,hlen,r4], by simp only [B3,seval,hlen,r10]⟩
   all_goals simp only [B3,seval,hlen,h79]
end Go.Abs.Seat
end
section
set_option linter.unusedVariables false
set_option linter.unusedSimpArgs false
namespace Go.Abs.Seat
open Go.Proofs
theorem encNs_len (kids : List NT) : (encNs kids).length = kids.length := by rw [encNs_map, List.length_map]
set_option maxHeartbeats 1000000 in
theorem w29_9 {H : Heap} {l : Nat} {v : EnvT} {nm : Nms} {pth : List Nat} {vn vp : AV} {tm : List AV} (h : LkAt H l v nm pth none vn vp) (op : List UInt8) (i : Int) (txt : List UInt8) (ty : KT) (s : Nat) (kids : List NT) (hkl : kids.length ≤ 1000) (hp : pth.length ≤ 1000) (hne : kids ≠ [])
  (h2 : op = [105, 102] → 1 < kids.length) (h3 : op = [111, 114, 95, 101, 108, 115, 101] → 1 < kids.length)
  (hk : ∀ (j : Nat) (k : NT), kids[j]? = some k → ∀ A vn vp, LkAt A l v nm pth none vn vp → Looks 54 [.im (.agg (encN (.mk op i txt ty s kids))), .im (.int .i64 (j : Int)), .nils] A l v nm pth vn vp (kidR j (lookX v k nm)))
  (hR : ∀ ts, looksX v kids 0 nm = .inl ts → ∀ a ∈ ts, Rt a) (hM : Lo op l H tm) :
  LooksE (exec0 L Λ x29_9 tm (H ++ [NOs op i txt ty s kids, ZO]) (K29 H)) H l v nm pth vn vp (match looksX v kids 0 nm with | .inl ts => plainR op ts | .inr e => .inr e) := by
 have key := l29 h op i txt ty s kids hkl hk kids.length 0 (by omega) (H ++ [NOs op i txt ty s kids, ZO]) vn vp [] .nils (h.more _) Fr.refl (.inl ⟨rfl, rfl⟩) rfl
 rw [List.drop_zero] at key
 obtain ⟨hlen, r0, r3, r4, r10⟩ := hM
 have hkn := encNs_len kids
 obtain ⟨tk, ts, targs⟩ := ty
 cases hlk : looksX v kids 0 nm with
 | inr x =>
  obtain ⟨p, c⟩ := x
  rw [hlk] at key
  simp only
  obtain ⟨tm1, htm1⟩ : ∃ t, t = (((((tm.set 5 .nils).set 77 (.ptr H.length 0 5)).set 78 (.im (.sl s (encNs kids)))).set 79 (.im (.int .i64 (kids.length : Int)))).set 80 (.im (.int .i64 0))) := ⟨_, rfl⟩
  obtain ⟨e, tm', A', vn', vp', k1, k2, k3, k4, k5⟩ := key tm1 (by subst htm1; exact ⟨by simp only [List.length_set,hlen], by simp only [B3,seval,hlen,r0], by simp only [B3,seval,hlen,r3], by simp only [B3,seval,hlen,r4], by simp only [B3,seval,hlen,r10]⟩) (by subst htm1; simp only [B3,seval,hlen]) (by subst htm1; simp only [B3,seval,hlen]) (by subst htm1; simp only [B3,seval,hlen]; first | done | rfl)
  simp only at k5
  subst k5
  subst htm1
  have q1 := Fr.top h k4 1 (by simp)
  simp only [List.getElem?_cons_zero,List.getElem?_cons_succ] at q1
  obtain ⟨l1, l0, l3, l4, l10⟩ := k2
  refine LooksE.leave (r := .inr (p, c)) (x := .agg [.im (.int .i64 0), .nils]) (t := zeroT) rfl h k3 k4.down (fun u hu => by cases hu) wt_zero fun H' hlv => ?_
  simp only [NOs,ZO,KT.k,KT.s,KT.args] at q1 k1 ⊢
  simp only [x29_9,h29_2,h29_3,e29_0,B0,B1,B2,List.replicate,reduceCtorEq,lenA,seval,K29,resA,tupA,hlen,r3,hkn]
  rw [k1]
  simp only [thenL,blockK,seqK,endK,B0,B1,B2,List.replicate,reduceCtorEq,lenA,seval,resA,tupA,res29,keep29,l1,l4,q1,hlv,zeroE]
 | inl us =>
  rw [hlk] at key
  simp only
  have hRu := hR us hlk
  have hul := looks_len v kids 0 nm us hlk
  have hkp : 0 < kids.length := List.length_pos_iff.2 hne
  obtain ⟨tm1, htm1⟩ : ∃ t, t = (((((tm.set 5 .nils).set 77 (.ptr H.length 0 5)).set 78 (.im (.sl s (encNs kids)))).set 79 (.im (.int .i64 (kids.length : Int)))).set 80 (.im (.int .i64 0))) := ⟨_, rfl⟩
  obtain ⟨e, tm', A', vn', vp', k1, k2, k3, k4, k5⟩ := key tm1 (by subst htm1; exact ⟨by simp only [List.length_set,hlen], by simp only [B3,seval,hlen,r0], by simp only [B3,seval,hlen,r3], by simp only [B3,seval,hlen,r4], by simp only [B3,seval,hlen,r10]⟩) (by subst htm1; simp only [B3,seval,hlen]) (by subst htm1; simp only [B3,seval,hlen]) (by subst htm1; simp only [B3,seval,hlen]; first | done | rfl)
  simp only [List.nil_append] at k5
  obtain ⟨rfl, hg⟩ := k5
  subst htm1
  obtain ⟨l1, l0, l3, l4, l10⟩ := k2
  rcases hg with ⟨hz, _⟩ | ⟨_, tok, _, h5, _⟩
  ·rw [hz] at hul; simp at hul; omega
  obtain ⟨n, hn⟩ : ∃ n, us.length = n + 1 := ⟨us.length - 1, by omega⟩
  obtain ⟨t0, ht0⟩ : ∃ t, us[0]? = some t := ⟨_, List.getElem?_eq_getElem (by omega)⟩
  obtain ⟨tl, htl⟩ : ∃ t, us[n]? = some t := ⟨_, List.getElem?_eq_getElem (by omega)⟩
  have c55 := fun H => s55 op us t0 tl n hn (by omega) ht0 htl hRu (fun e => by rw [hul]; exact h2 e) (fun e => by rw [hul]; exact h3 e) tok H
  have hpr : plainR op us = if ((plainX op us t0 tl).2 && rightT (plainX op us t0 tl).1 6) = true then .inl (plainX op us t0 tl).1 else .inr ([], 50) := by
   unfold plainR
   rw [show us.getD 0 zeroT = t0 by rw [List.getD_eq_getElem?_getD, ht0]; rfl, show us.length - 1 = n by omega, show us.getD n zeroT = tl by rw [List.getD_eq_getElem?_getD, htl]; rfl]
  have hpo : okT (plainX op us t0 tl).1 := plain_ok op us t0 tl (hRu _ (List.mem_of_getElem? ht0)).1 (hRu _ (List.mem_of_getElem? htl)).1 (fun a ha => (hRu a ha).1) (by omega)
  rw [hpr]
  generalize plainX op us t0 tl = px at *
  obtain ⟨t, ok⟩ := px
  have c33 := fun H => s33 t hpo H
  unfold checkT at c33
  have q0 := Fr.top h k4 0 (by simp)
  have q1 := Fr.top h k4 1 (by simp)
  rw [Nat.add_zero] at q0
  simp only [List.getElem?_cons_zero,List.getElem?_cons_succ] at q0 q1
  have m1 : ∀ M : Heap, (A' ++ M)[H.length + 1]? = some _ := fun M => fr_at (A := H) q1
  have mS : ∀ (M : Heap) (o : HO), ((A' ++ M).set (H.length + 1) o)[H.length + 1]? = some o := fun M o => List.getElem?_set_self (by have := (List.getElem?_eq_some_iff.1 q1).1; simp; omega)
  have jy := k3.more [TyO t]
  have fy := k4.app [TyO t]
  have z0 : (!decide ((0 : Int) = 0)) = false := rfl
  have z20 : (!decide ((20 : Int) = 0)) = true := rfl
  simp only at hpo ⊢
  have bad : (ok && rightT t 6) = false → LooksE (exec0 L Λ x29_9 tm (H ++ [NOs op i txt (.mk tk ts targs) s kids, ZO]) (K29 H)) H l v nm pth vn vp (.inr ([], 50)) := fun hb => by
   obtain ⟨B, c52, kB, fB⟩ := s52 jy 50 (by decide) hp
   have fz := fy.trans fB
   have x1 := Fr.top h fz 1 (by simp)
   simp only [List.getElem?_cons_zero,List.getElem?_cons_succ] at x1
   have xS : ∀ (o : HO), (B.set (H.length + 1) o)[H.length + 1]? = some o := fun o => List.getElem?_set_self (List.getElem?_eq_some_iff.1 x1).1
   obtain ⟨kX, fX⟩ := LkAt.box h kB fz (k := 1) (by simp) (.obj none [[.im (.int .i64 0), .im (.sl 0 [])]])
   refine LooksE.leave (r := .inr ([], 50)) (x := .im (.agg [.int .i64 0, .sl 0 []])) (t := zeroT) rfl h (by simpa [flt1, fltR, fltS] using kX) fX (fun u hu => by cases hu) wt_zero fun H' hlv => ?_
   obtain ⟨tk1, ts1, ta1⟩ := t
   simp only [NOs,ZO,TyO,encT,KT.k,KT.s,KT.args] at q0 q1 m1 x1 c55 c33 c52 k1 ⊢
   simp only [x29_9,h29_2,h29_3,e29_0,B0,B1,B2,List.replicate,reduceCtorEq,lenA,seval,K29,resA,tupA,hlen,r3,hkn]
   rw [k1]
   cases ok <;> cases hr : rightT (.mk tk1 ts1 ta1) 6 <;> first | (rw [hr] at hb; cases hb; done) |
    (rw [hr] at c33
     simp only [Bool.false_eq_true,if_false,if_true] at c33
     simp only [thenL,h29_4,h29_5,h29_6,h29_7,B0,B1,B2,List.replicate,reduceCtorEq,lenA,seval,B5,pairK,B4,stays,loadOf,endK,resA,tupA,res29,keep29,l1,l0,l3,l4,h5,q0,q1,m1,mS,c55,c33,z0,z20,c52,x1,xS,hlv,zeroE])
  cases hb : (ok && rightT t 6) with
  | false =>
   rw [if_neg Bool.false_ne_true]
   exact bad hb
  | true =>
   rw [if_pos rfl]
   rw [Bool.and_eq_true] at hb
   obtain ⟨rfl, hr⟩ := hb
   clear bad
   obtain ⟨kX, fX⟩ := LkAt.box h jy fy (k := 1) (by simp) (TyO t)
   refine LooksE.leave (x := .im (.agg (encT t))) (t := t) (by cases t; rfl) h kX fX (fun u hu => by cases hu; rfl) (wt_of ⟨hpo, hr⟩) fun H' hlv => ?_
   obtain ⟨tk1, ts1, ta1⟩ := t
   rw [hr] at c33
   simp only [if_true] at c33
   simp only [NOs,ZO,TyO,encT,KT.k,KT.s,KT.args] at q0 q1 m1 c55 c33 k1 hlv ⊢
   simp only [x29_9,h29_2,h29_3,e29_0,B0,B1,B2,List.replicate,reduceCtorEq,lenA,seval,K29,resA,tupA,hlen,r3,hkn]
   rw [k1]
   simp only [thenL,h29_4,h29_5,h29_6,h29_7,B0,B1,B2,List.replicate,reduceCtorEq,lenA,seval,B5,pairK,B4,stays,loadOf,endK,resA,tupA,res29,keep29,l1,l0,l3,l4,h5,q0,q1,m1,mS,c55,c33,z0,z20,hlv]
end Go.Abs.Seat
end
section
set_option linter.unusedVariables false
set_option linter.unusedSimpArgs false
namespace Go.Abs.Seat
open Go.Proofs
def leafW (op : List UInt8) : Prop := op = [105, 110, 116] ∨ op = [116, 101, 120, 116, 95, 111, 102] ∨ (op = [116, 114, 117, 101] ∨ op = [102, 97, 108, 115, 101]) ∨ op = [105, 116] ∨ op = [110, 97, 109, 101] ∨ op = [110, 105, 108] ∨ op = [110, 111, 110, 101] ∨ op = [115, 105, 100, 101]
structure ArOk (op : List UInt8) (n : Nat) : Prop where
 l : op = [108, 101, 116] → n = 3
 m : op = [109, 97, 112] → n = 3
 f : op = [102, 105, 108, 116, 101, 114] → n = 3
 d : op = [102, 111, 108, 100] → n = 5
 i : op = [105, 102] → 1 < n
 o : op = [111, 114, 95, 101, 108, 115, 101] → 1 < n
 z : ¬ leafW op → 0 < n
def Gd : Nat → NT → Prop
 | 0, _ => False
 | d + 1, .mk op i txt ty s kids => (kids = [] ∨ s = 6) ∧ ArOk op kids.length ∧ ∀ k ∈ kids, Gd d k
theorem three {α : Type} {l : List α} (h : l.length = 3) : ∃ a b c, l = [a, b, c] := by
 match l, h with
 | [a, b, c], _ => exact ⟨a, b, c, rfl⟩
theorem five {α : Type} {l : List α} (h : l.length = 5) : ∃ a b c d e, l = [a, b, c, d, e] := by
 match l, h with
 | [a, b, c, d, e], _ => exact ⟨a, b, c, d, e, rfl⟩
set_option maxHeartbeats 1000000 in
theorem s29 (v : EnvT) (hv : EnvOk v) : ∀ (d : Nat) (t : NT), Gd d t → tidyN t → ∀ (nm : Nms), (∀ x ∈ nm, Rt x.2) → nm.length + 2 * d ≤ 880 → ∀ (pth : List Nat), pth.length + d ≤ 890 → ∀ (l : Nat) (H : Heap) (vn vp : AV), LkAt H l v nm pth none vn vp → Looks 29 [.im (.agg (encN t))] H l v nm pth vn vp (lookX v t nm)
 | 0, t, hg, _, _, _, _, _, _, _, _, _, _, _ => by simp only [Gd] at hg
 | d + 1, .mk op i txt ty s kids, hg, ht, nm, hn, hnl, pth, hpl, l, H, vn, vp, h => by
  simp only [Gd] at hg
  simp only [tidyN] at ht
  obtain ⟨hs, har, hgk⟩ := hg
  obtain ⟨hty, hkl, hsi, htk⟩ := ht
  have ext : ∀ (x : Nms), (∀ y ∈ x, Rt y.2) → ∀ y ∈ nm ++ x, Rt y.2 := fun x hx y hy => by
   rcases List.mem_append.1 hy with hy | hy
   ·exact hn y hy
   ·exact hx y hy
  have kid : ∀ (j : Nat) (k : NT), kids[j]? = some k → ∀ (x : Nms), x.length ≤ 2 → (∀ y ∈ x, Rt y.2) → ∀ (H : Heap) vn vp, LkAt H l v (nm ++ x) (pth ++ [j]) none vn vp → Looks 29 [.im (.agg (encN k))] H l v (nm ++ x) (pth ++ [j]) vn vp (lookX v k (nm ++ x)) := fun j k hj x hx hr H vn vp hl =>
   s29 v hv d k (hgk k (List.mem_of_getElem? hj)) (tidyNs_at htk hj) (nm ++ x) (ext x hr) (by simp; omega) (pth ++ [j]) (by simp; omega) l H vn vp hl
  have rt : ∀ (j : Nat) (k : NT), kids[j]? = some k → ∀ (x : Nms), (∀ y ∈ x, Rt y.2) → ∀ u, kidR j (lookX v k (nm ++ x)) = .inl u → Rt u := fun j k hj x hr u hu =>
   look_rt v hv k _ u (tidyNs_at htk hj) (ext x hr) (kid_inl hu)
  have k54 : ∀ (j : Nat) (k : NT), kids[j]? = some k → ∀ A vn vp, LkAt A l v nm pth none vn vp → Looks 54 [.im (.agg (encN (.mk op i txt ty s kids))), .im (.int .i64 (j : Int)), .nils] A l v nm pth vn vp (kidR j (lookX v k nm)) := fun j k hj A vn vp hA => by
   have := s54 hA op txt i ty s kids hs j k hj [] .nils (.inl ⟨rfl, rfl⟩) (by omega) (by simp; omega) (lookX v k (nm ++ [])) (kid j k hj [] (by simp) (by simp))
   rwa [List.append_nil] at this
  obtain ⟨tm, e, hM⟩ := pre29 op i txt ty s kids l H
  have fin : ∀ r, LooksE (exec0 L Λ x29_0 tm (H ++ [NOs op i txt ty s kids, ZO]) (K29 H)) H l v nm pth vn vp r → Looks 29 [.im (.agg (encN (.mk op i txt ty s kids)))] H l v nm pth vn vp r := fun r hr => by
   obtain ⟨H', vn', vp', t', h1, h2⟩ := hr
   exact ⟨H', vn', vp', t', e.trans h1, h2⟩
  apply fin
  simp only [lookX]
  by_cases u0 : op = [105, 110, 116]
  ·rw [if_pos u0]
   exact w29_0 op i txt ty s kids h hM u0
  rw [if_neg u0]
  by_cases u1 : op = [116, 101, 120, 116, 95, 111, 102]
  ·rw [if_pos u1]
   obtain ⟨tm1, e1, l1, s1⟩ := to29_1 (op := op) (H := H ++ [NOs op i txt ty s kids, ZO]) (K29 H) hM.len hM.r10 (by simp [lits29, u0])
   rw [e1]
   exact w29_1 op i txt ty s kids h (hM.same l1 s1) u1
  rw [if_neg u1]
  by_cases u2 : op = [116, 114, 117, 101] ∨ op = [102, 97, 108, 115, 101]
  ·rw [if_pos u2]
   obtain ⟨tm1, e1, l1, s1⟩ := to29_2 (op := op) (H := H ++ [NOs op i txt ty s kids, ZO]) (K29 H) hM.len hM.r10 (by simp [lits29, u0, u1])
   rw [e1]
   exact w29_2 op i txt ty s kids h (hM.same l1 s1) u2
  rw [if_neg u2]
  have v2 := u2
  simp only [not_or] at v2
  by_cases u3 : op = [105, 116]
  ·rw [if_pos u3]
   obtain ⟨tm1, e1, l1, s1⟩ := to29_3 (op := op) (H := H ++ [NOs op i txt ty s kids, ZO]) (K29 H) hM.len hM.r10 (by simp [lits29, u0, u1, v2])
   rw [e1]
   exact w29_3 op i txt ty s kids h hv (hM.same l1 s1) u3
  rw [if_neg u3]
  by_cases u4 : op = [110, 97, 109, 101]
  ·rw [if_pos u4]
   obtain ⟨tm1, e1, l1, s1⟩ := to29_4 (op := op) (H := H ++ [NOs op i txt ty s kids, ZO]) (K29 H) hM.len hM.r10 (by simp [lits29, u0, u1, v2, u3])
   rw [e1]
   exact w29_4 op i txt ty s kids h (by omega) (by omega) hn (hM.same l1 s1) u4
  rw [if_neg u4]
  by_cases u5 : op = [110, 105, 108]
  ·rw [if_pos u5]
   obtain ⟨tm1, e1, l1, s1⟩ := to29_5 (op := op) (H := H ++ [NOs op i txt ty s kids, ZO]) (K29 H) hM.len hM.r10 (by simp [lits29, u0, u1, v2, u3, u4])
   rw [e1]
   exact w29_5 op i txt ty s kids h (by omega) hty (hM.same l1 s1) u5
  rw [if_neg u5]
  by_cases u6 : op = [110, 111, 110, 101]
  ·rw [if_pos u6]
   obtain ⟨tm1, e1, l1, s1⟩ := to29_6 (op := op) (H := H ++ [NOs op i txt ty s kids, ZO]) (K29 H) hM.len hM.r10 (by simp [lits29, u0, u1, v2, u3, u4, u5])
   rw [e1]
   exact w29_6 op i txt ty s kids h (by omega) hty (hM.same l1 s1) u6
  rw [if_neg u6]
  by_cases u7 : op = [115, 105, 100, 101]
  ·rw [if_pos u7]
   obtain ⟨tm1, e1, l1, s1⟩ := to29_7 (op := op) (H := H ++ [NOs op i txt ty s kids, ZO]) (K29 H) hM.len hM.r10 (by simp [lits29, u0, u1, v2, u3, u4, u5, u6])
   rw [e1]
   exact w29_7 op i txt ty s kids h hv (by omega) (hsi u7) (hM.same l1 s1) u7
  rw [if_neg u7]
  by_cases u8 : bindsW op
  ·rw [if_pos u8]
   obtain ⟨tm1, e1, l1, s1⟩ := to29_8 (op := op) (H := H ++ [NOs op i txt ty s kids, ZO]) (K29 H) hM.len hM.r10 (by simp [lits29, u0, u1, v2, u3, u4, u5, u6, u7])
   rw [e1]
   refine w29_8 op i txt ty s kids h _ (fun H vn vp hl => ?_) (hM.same l1 s1) u8
   by_cases b0 : op = letW
   ·obtain ⟨k0, k1, k2, rfl⟩ := three (har.l b0)
    have hs6 : s = 6 := by simpa using hs
    subst hs6
    unfold bindsR
    rw [if_pos b0]
    subst b0
    exact s53_let hl i txt ty k0 k1 k2 (by omega) (by omega) _ (fun t => lookX v k2 (nm ++ [(txtN k0, t)])) (kid 1 k1 rfl [] (by simp) (by simp)) (fun t hu => kid 2 k2 rfl _ (by simp) (fun y hy => by simp at hy; subst hy; exact rt 1 k1 rfl [] (by simp) t hu))
   by_cases b1 : op = foldW
   ·obtain ⟨k0, k1, k2, k3, k4, rfl⟩ := five (har.d b1)
    have hs6 : s = 6 := by simpa using hs
    subst hs6
    unfold bindsR
    rw [if_neg b0, if_pos b1]
    subst b1
    exact s53_fold hl i txt ty k0 k1 k2 k3 k4 (by omega) (by omega) _ _ (fun t u => lookX v k4 (nm ++ [(txtN k2, t), (txtN k3, u)])) (kid 0 k0 rfl [] (by simp) (by simp)) (kid 1 k1 rfl [] (by simp) (by simp))
     (fun t u ht hu hok => kid 4 k4 rfl _ (by simp) (fun y hy => by
      simp at hy
      rcases hy with rfl | rfl
      ·exact rt 1 k1 rfl [] (by simp) u hu
      ·exact rt_arg (rt 0 k0 rfl [] (by simp) t ht) hok))
   ·have h3 : kids.length = 3 := by
     rcases u8 with hh | hh | hh | hh
     ·exact har.l hh
     ·exact har.m hh
     ·exact har.f hh
     ·exact absurd hh b1
    obtain ⟨k0, k1, k2, rfl⟩ := three h3
    have hs6 : s = 6 := by simpa using hs
    subst hs6
    unfold bindsR
    rw [if_neg b0, if_neg b1]
    exact s53_mf hl op (decide_eq_false b0) (decide_eq_false b1) i txt ty k0 k1 k2 (by omega) (by omega) _ (fun t => lookX v k2 (nm ++ [(txtN k1, t)])) (kid 0 k0 rfl [] (by simp) (by simp))
     (fun t ht hok => kid 2 k2 rfl _ (by simp) (fun y hy => by
      simp at hy
      subst hy
      exact rt_arg (rt 0 k0 rfl [] (by simp) t ht) hok))
  rw [if_neg u8]
  have v8 := u8
  unfold bindsW at v8
  simp only [not_or] at v8
  obtain ⟨tm1, e1, l1, s1⟩ := to29_9 (op := op) (H := H ++ [NOs op i txt ty s kids, ZO]) (K29 H) hM.len hM.r10 (by simp [lits29, u0, u1, v2, u3, u4, u5, u6, u7, v8])
  rw [e1]
  have hpos : 0 < kids.length := har.z (by unfold leafW; simp [u0, u1, v2, u3, u4, u5, u6, u7])
  exact w29_9 h op i txt ty s kids hkl (by omega) (by intro e; subst e; simp at hpos) har.i har.o k54 (fun ts hts => looks_rt v hv kids 0 nm ts htk hn hts) (hM.same l1 s1)
end Go.Abs.Seat
end
section
set_option linter.unusedVariables false
set_option linter.unusedSimpArgs false
namespace Go.Abs.Seat
open Go.Proofs
def encE (v : EnvT) : List Dat := [.int .i64 v.it.k, .sl v.it.s (encTs v.it.args), .sl v.ss (v.sides.map encT)]
structure EnvH (v : EnvT) : Prop where
 it : okT v.it
 sides : ∀ t ∈ v.sides, okT t
 ss : v.sides = [] ∨ v.ss = 2
 len : v.sides.length ≤ 9223372036854775807
theorem s47 (t : KT) (hok : okT t) (H : Heap) : L 47 [.im (.agg (encT t))] H = some (.im (.bool (!rightT t 6)), H) := by
 have c33 := fun H => s33 t hok H
 unfold checkT at c33
 obtain ⟨k, s, a⟩ := t
 simp only [encT] at c33 ⊢
 rw [leq F47]
 obtain ⟨hlen, ha⟩ := enter_at (f := f47) (args := [.im (.agg [.int .i64 k, .sl s (encTs a)])]) (Nat.le_of_ble_eq_true rfl)
 have h0 := ha 0 _ rfl
 generalize enterA f47 [.im (.agg [.int .i64 k, .sl s (encTs a)])] = tm at *
 change tm.length = 6 at hlen
 have z0 : (!decide ((0 : Int) = 0)) = false := rfl
 have z20 : (!decide ((20 : Int) = 0)) = true := rfl
 cases hr : rightT (.mk k s a) 6 with
 | true =>
  rw [hr] at c33
  simp only [if_true] at c33
  simp only [f47,B0,B1,B2,List.replicate,reduceCtorEq,lenA,seval,B5,pairK,B4,stays,loadOf,endK,resA,tupA,hlen,h0,c33,z0,leave_app]
 | false =>
  rw [hr] at c33
  simp only [Bool.false_eq_true,if_false] at c33
  simp only [f47,B0,B1,B2,List.replicate,reduceCtorEq,lenA,seval,B5,pairK,B4,stays,loadOf,endK,resA,tupA,hlen,h0,c33,z20,leave_app]
def envR (v : EnvT) : Bool := (rightT v.it 6 && decide ((v.sides.length : Int) ≤ 10)) && !(v.sides.any fun t => !rightT t 6)
theorem s28 (v : EnvT) (hv : EnvH v) (H : Heap) : L 28 [.im (.agg (encE v))] H = some (.im (.bool (envR v)), H) := by
 have c47 := fun H => s47 v.it hv.it H
 have c48 := fun H => s48 v.sides v.ss hv.ss hv.len (fun t => !rightT t 6) 47 [] H (fun a ha => s47 a (hv.sides a ha) H)
 have hl : (v.sides.map encT).length = v.sides.length := List.length_map ..
 unfold envR
 obtain ⟨⟨k, s, a⟩, ss, sides⟩ := v
 simp only [encE,encT,KT.k,KT.s,KT.args] at c47 c48 hl ⊢
 rw [leq F28]
 obtain ⟨hlen, ha⟩ := enter_at (f := f28) (args := [.im (.agg [.int .i64 k, .sl s (encTs a), .sl ss (sides.map encT)])]) (Nat.le_of_ble_eq_true rfl)
 have h0 := ha 0 _ rfl
 generalize enterA f28 [.im (.agg [.int .i64 k, .sl s (encTs a), .sl ss (sides.map encT)])] = tm at *
 change tm.length = 22 at hlen
 generalize (sides.any fun t => !rightT t 6) = an at *
 cases hr : rightT (.mk k s a) 6 <;> cases hd : decide ((sides.length : Int) ≤ 10) <;>
  (simp only [hr,Bool.not_true,Bool.not_false] at c47
   simp only [f28,B0,B1,B2,List.replicate,reduceCtorEq,lenA,seval,B5,pairK,B4,stays,loadOf,endK,resA,tupA,hlen,h0,c47,c48,hl,hd,leave_app,Bool.true_and,Bool.false_and,Bool.and_false])
theorem leave_three {H M : Heap} {a b c : AV} {d d' d'' : Dat} (ha : toDat a = some d) (hb : toDat b = some d') (hc : toDat c = some d'') : leave H false (.tup [a, b, c]) (H ++ M) = (.tup [.im d, .im d', .im d''], H) := by
 unfold leave
 have e : (if (false : Bool) = true then AV.tup [a, b, c] else degrade (.tup [a, b, c])) = .tup [.im d, .im d', .im d''] := by simp [degrade, degrade1, toDat, ha, hb, hc]
 rw [e, if_pos ⟨by simp only [refsLt,refsLts,Bool.and_self], heldIn_app H M⟩, htake]
def inferX (t : NT) (v : EnvT) : KT × List Nat × Int :=
 if (showX t).2 = 0 then (if envR v = true then (match lookX v t [] with
  | .inl u => (cloneT u, [], 0)
  | .inr (p, c) => (zeroT, p, c)) else (zeroT, [], 20)) else (zeroT, [], 110)
theorem envOk {v : EnvT} (hv : EnvH v) (h : envR v = true) : EnvOk v := by
 unfold envR at h
 simp only [Bool.and_eq_true,decide_eq_true_eq,Bool.not_eq_true',List.any_eq_false] at h
 refine ⟨⟨hv.it, h.1.1⟩, fun t ht => ⟨hv.sides t ht, ?_⟩, hv.ss, by omega⟩
 have := h.2 t ht
 simpa using this
theorem fr_app {H M B : Heap} {l : Nat} {vn' vp' : AV} (f : Fr (H ++ M) B l .nils .nils vn' vp') (hl : H.length ≤ l) : ∃ X, B = H ++ X := by
 refine ⟨B.drop H.length, ?_⟩
 have hle := f.len
 rw [List.length_append] at hle
 have : B.take H.length = H := by
  apply List.ext_getElem?
  intro i
  rw [List.getElem?_take]
  split
  ·rename_i hi
   rw [f.old i (by rw [List.length_append]; omega) (by omega) (by simp [refA]) (by simp [refA]), List.getElem?_append_left hi]
  ·rename_i hi
   rw [List.getElem?_eq_none (by omega)]
 have h2 := List.take_append_drop H.length B
 rw [this] at h2
 exact h2.symm
set_option maxHeartbeats 1000000 in
theorem s10 (t : NT) (v : EnvT) (hf : fineN t) (hg : (showX t).2 = 0 → Gd 24 t ∧ tidyN t) (hv : EnvH v) (H : Heap) :
  ∃ s, L 10 [.im (.agg (encN t)), .im (.agg (encE v))] H = some (.tup [.im (.agg (encT (inferX t v).1)), .im (.sl s (rowsP (inferX t v).2.1)), .im (.int .i64 (inferX t v).2.2)], H) ∧ ((inferX t v).2.1 = [] ∨ s = 1) := by
 have c14 := fun H => s14 t hf H
 have c28 := fun H => s28 v hv H
 have hX : inferX t v = if (showX t).2 = 0 then (if envR v = true then (match lookX v t [] with
  | .inl u => (cloneT u, [], 0)
  | .inr (p, c) => (zeroT, p, c)) else (zeroT, [], 20)) else (zeroT, [], 110) := rfl
 rw [hX]
 have z0 : (!decide ((0 : Int) = 0)) = false := rfl
 have hE := encE v
 obtain ⟨op, i, txt, ⟨tk, tys, targs⟩, s, kids⟩ := t
 obtain ⟨⟨k, es, ea⟩, ss, sides⟩ := v
 have hN : encN (.mk op i txt (.mk tk tys targs) s kids) = [.str op, .int .i64 i, .str txt, .int .i64 tk, .sl tys (encTs targs), .sl s (encNs kids)] := by simp only [encN]
 have hE : encE ⟨.mk k es ea, ss, sides⟩ = [.int .i64 k, .sl es (encTs ea), .sl ss (sides.map encT)] := rfl
 by_cases hs : (showX (.mk op i txt (.mk tk tys targs) s kids)).2 = 0
 ·rw [if_pos hs]
  rw [hs] at c14
  cases he : envR ⟨.mk k es ea, ss, sides⟩ with
  | false =>
   rw [if_neg Bool.false_ne_true]
   refine ⟨0, ?_, .inl rfl⟩
   rw [he] at c28
   simp only [hN,hE] at c14 c28 ⊢
   rw [leq F10]
   obtain ⟨hlen, ha⟩ := enter_at (f := f10) (args := [.im (.agg [.str op, .int .i64 i, .str txt, .int .i64 tk, .sl tys (encTs targs), .sl s (encNs kids)]), .im (.agg [.int .i64 k, .sl es (encTs ea), .sl ss (sides.map encT)])]) (Nat.le_of_ble_eq_true rfl)
   have h0 := ha 0 _ rfl
   have h1 := ha 1 _ rfl
   generalize enterA f10 [.im (.agg [.str op, .int .i64 i, .str txt, .int .i64 tk, .sl tys (encTs targs), .sl s (encNs kids)]), .im (.agg [.int .i64 k, .sl es (encTs ea), .sl ss (sides.map encT)])] = tm at *
   change tm.length = 48 at hlen
   have hlv : ∀ M : Heap, leave H false (.tup [.agg [.im (.int .i64 0), .nils], .nils, .im (.int .i64 20)]) (H ++ M) = (.tup [.im (.agg [.int .i64 0, .sl 0 []]), .im (.sl 0 []), .im (.int .i64 20)], H) := fun M => leave_three rfl rfl rfl
   simp only [f10,B0,B1,B2,List.replicate,reduceCtorEq,lenA,seval,B5,pairK,B4,stays,loadOf,endK,resA,tupA,hlen,h0,h1,z0,c14,c28,hlv,zeroE]
   rfl
  | true =>
   rw [if_pos rfl]
   have hvo := envOk hv he
   obtain ⟨hgd, htd⟩ := hg hs
   have hlt : (H ++ [NOs op i txt (.mk tk tys targs) s kids, .obj none [[.im (.int .i64 k), .im (.sl es (encTs ea)), .im (.sl ss (sides.map encT))]], ZO, lookO ⟨.mk k es ea, ss, sides⟩ .nils .nils .nils 0])[H.length + 3]? = some (lookO ⟨.mk k es ea, ss, sides⟩ .nils .nils .nils 0) := by rw [hget 3]; rfl
   have hA : LkAt (H ++ [NOs op i txt (.mk tk tys targs) s kids, .obj none [[.im (.int .i64 k), .im (.sl es (encTs ea)), .im (.sl ss (sides.map encT))]], ZO, lookO ⟨.mk k es ea, ss, sides⟩ .nils .nils .nils 0]) (H.length + 3) ⟨.mk k es ea, ss, sides⟩ [] [] none .nils .nils :=
    ⟨⟨.nils, 0, hlt, rfl, rfl⟩, .inl ⟨rfl, rfl⟩, .inl ⟨rfl, rfl⟩, by simp [refA], by simp [refA], by simp [refA]⟩
   obtain ⟨B, vn1, vp1, t', c29, kB, fB, ht, hwt⟩ := s29 _ hvo 24 _ hgd htd [] (by simp) (by simp) [] (by simp) _ _ _ _ hA
   have hrt := fun u hu => look_rt _ hvo _ [] u htd (by simp) hu
   obtain ⟨X, rfl⟩ := fr_app fB (by omega)
   have old : ∀ j, j < 3 → X[j]? = ([NOs op i txt (.mk tk tys targs) s kids, .obj none [[.im (.int .i64 k), .im (.sl es (encTs ea)), .im (.sl ss (sides.map encT))]], ZO, lookO ⟨.mk k es ea, ss, sides⟩ .nils .nils .nils 0] : Heap)[j]? := fun j hj => by
    have := fB.old (H.length + j) (by simp; omega) (by omega) (by simp [refA]) (by simp [refA])
    rwa [hget j, hget j] at this
   have x0 := old 0 (by omega)
   have x2 := old 2 (by omega)
   simp only [List.getElem?_cons_zero,List.getElem?_cons_succ] at x0 x2
   have hXl : 4 ≤ X.length := by have := fB.len; simp at this; omega
   generalize lookX _ _ [] = r at *
   obtain ⟨va, e, ho, hfa⟩ := kB.obj
   rw [hget 3] at ho
   have hXS : ∀ o : HO, (X.set 2 o)[2]? = some o := fun o => List.getElem?_set_self (by omega)
   have ho' : ∀ o : HO, (X.set 2 o)[3]? = some _ := fun o => by rw [List.getElem?_set_ne (by decide)]; exact ho
   have lset : ∀ (a b : HO), (X.set 2 a).set 2 b = X.set 2 b := fun a b => List.set_set ..
   rw [he] at c28
   obtain ⟨tk1, ts1, ta1⟩ := t'
   cases r with
   | inr x =>
    obtain ⟨p, c⟩ := x
    obtain ⟨rfl, hc, s', rfl, hps⟩ := hfa
    have zc : (!decide (e = 0)) = true := by rw [decide_eq_false hc]; rfl
    refine ⟨s', ?_, hps⟩
    simp only [hN,hE,NOs,ZO,lookO,KT.k,KT.s,KT.args,encT] at c14 c28 c29 x0 x2 ho ho' ⊢
    rw [leq F10]
    obtain ⟨hlen, ha⟩ := enter_at (f := f10) (args := [.im (.agg [.str op, .int .i64 i, .str txt, .int .i64 tk, .sl tys (encTs targs), .sl s (encNs kids)]), .im (.agg [.int .i64 k, .sl es (encTs ea), .sl ss (sides.map encT)])]) (Nat.le_of_ble_eq_true rfl)
    have h0 := ha 0 _ rfl
    have h1 := ha 1 _ rfl
    generalize enterA f10 [.im (.agg [.str op, .int .i64 i, .str txt, .int .i64 tk, .sl tys (encTs targs), .sl s (encNs kids)]), .im (.agg [.int .i64 k, .sl es (encTs ea), .sl ss (sides.map encT)])] = tm at *
    change tm.length = 48 at hlen
    have hlv : ∀ M : Heap, leave H false (.tup [.agg [.im (.int .i64 0), .nils], .im (.sl s' (rowsP p)), .im (.int .i64 e)]) (H ++ M) = (.tup [.im (.agg [.int .i64 0, .sl 0 []]), .im (.sl s' (rowsP p)), .im (.int .i64 e)], H) := fun M => leave_three rfl rfl rfl
    simp only [f10,B0,B1,B2,List.replicate,reduceCtorEq,lenA,seval,B5,pairK,B4,stays,loadOf,endK,resA,tupA,hlen,h0,h1,z0,zc,c14,c28,c29,x0,x2,ho,ho',hXS,lset,hlv,zeroE]
   | inl u =>
    obtain ⟨rfl, rfl⟩ := hfa
    have := ht u rfl
    subst this
    refine ⟨0, ?_, .inl rfl⟩
    have hu := hrt _ rfl
    have c30 := fun H => s30 tk1 ts1 ta1 hu.1 H
    unfold checkT at c30
    rw [hu.2] at c30
    simp only [if_true] at c30
    simp only [cloneT] at c30 ⊢
    simp only [hN,hE,NOs,ZO,lookO,KT.k,KT.s,KT.args,encT] at c14 c28 c29 c30 x0 x2 ho ho' ⊢
    rw [leq F10]
    obtain ⟨hlen, ha⟩ := enter_at (f := f10) (args := [.im (.agg [.str op, .int .i64 i, .str txt, .int .i64 tk, .sl tys (encTs targs), .sl s (encNs kids)]), .im (.agg [.int .i64 k, .sl es (encTs ea), .sl ss (sides.map encT)])]) (Nat.le_of_ble_eq_true rfl)
    have h0 := ha 0 _ rfl
    have h1 := ha 1 _ rfl
    generalize enterA f10 [.im (.agg [.str op, .int .i64 i, .str txt, .int .i64 tk, .sl tys (encTs targs), .sl s (encNs kids)]), .im (.agg [.int .i64 k, .sl es (encTs ea), .sl ss (sides.map encT)])] = tm at *
    change tm.length = 48 at hlen
    have hlv : ∀ (d : List Dat) (M : Heap), leave H false (.tup [.im (.agg d), .nils, .im (.int .i64 0)]) (H ++ M) = (.tup [.im (.agg d), .im (.sl 0 []), .im (.int .i64 0)], H) := fun d M => leave_three rfl rfl rfl
    simp only [f10,B0,B1,B2,List.replicate,reduceCtorEq,lenA,seval,B5,pairK,B4,stays,loadOf,endK,resA,tupA,hlen,h0,h1,z0,c14,c28,c29,c30,x0,x2,ho,ho',hXS,lset,hlv,zeroE]
    rfl
 ·rw [if_neg hs]
  refine ⟨0, ?_, .inl rfl⟩
  have zn : (!decide ((showX (.mk op i txt (.mk tk tys targs) s kids)).2 = 0)) = true := by rw [decide_eq_false hs]; rfl
  simp only [hN,hE] at c14 c28 ⊢
  rw [leq F10]
  obtain ⟨hlen, ha⟩ := enter_at (f := f10) (args := [.im (.agg [.str op, .int .i64 i, .str txt, .int .i64 tk, .sl tys (encTs targs), .sl s (encNs kids)]), .im (.agg [.int .i64 k, .sl es (encTs ea), .sl ss (sides.map encT)])]) (Nat.le_of_ble_eq_true rfl)
  have h0 := ha 0 _ rfl
  have h1 := ha 1 _ rfl
  generalize enterA f10 [.im (.agg [.str op, .int .i64 i, .str txt, .int .i64 tk, .sl tys (encTs targs), .sl s (encNs kids)]), .im (.agg [.int .i64 k, .sl es (encTs ea), .sl ss (sides.map encT)])] = tm at *
  change tm.length = 48 at hlen
  have hlv : ∀ M : Heap, leave H false (.tup [.agg [.im (.int .i64 0), .nils], .nils, .im (.int .i64 110)]) (H ++ M) = (.tup [.im (.agg [.int .i64 0, .sl 0 []]), .im (.sl 0 []), .im (.int .i64 110)], H) := fun M => leave_three rfl rfl rfl
  simp only [f10,B0,B1,B2,List.replicate,reduceCtorEq,lenA,seval,B5,pairK,B4,stays,loadOf,endK,resA,tupA,hlen,h0,h1,zn,c14,c28,hlv,zeroE]
  rfl
end Go.Abs.Seat
end
section
set_option linter.unusedVariables false
set_option linter.unusedSimpArgs false
namespace Go.Abs.Seat
open Go.Proofs
theorem l8 (sides : List KT) (ss : Nat) (hs : sides = [] ∨ ss = 2) (hok : ∀ t ∈ sides, okT t) (hn : sides.length ≤ 9223372036854775807) (H : Heap) (a b : HO) :
  ∀ (m i : Nat), i + m = sides.length → ∀ (n : Int), 0 ≤ n → n ≤ 1000000 → ∀ (tm : List AV) (J : Heap), tm.length = 28 → tm.getD 5 undefA = .ptr (H.length + 2) 0 0 → tm.getD 18 undefA = .im (.sl ss (sides.map encT)) → tm.getD 19 undefA = .im (.int .i64 (sides.length : Int)) → tm.getD 20 undefA = .im (.int .i64 (i : Int)) →
  ∃ e tm' J', Λ c8_0 tm (H ++ a :: b :: numO n :: J) = some (e, tm', H ++ J') ∧ tm'.length = 28 ∧ ((e = .exit 0 ∧ (smallTs (sides.drop i) n 30).1 = true) ∨ (e = .ret ∧ (smallTs (sides.drop i) n 30).1 = false ∧ tm'.getD 4 undefA = .im (.bool false)))
 | 0, i, hi, n, hn0, hn1, tm, J, hlen, h5, h18, h19, h20 => by
  have e : sides.drop i = [] := by rw [List.drop_eq_nil_iff]; omega
  have hc : decide ((i : Int) < (sides.length : Int)) = false := by simp; omega
  rw [e, l8_0]
  simp only [b8_0,B0,B1,B2,List.replicate,reduceCtorEq,lenA,seval,hlen,h19,h20,hc]
  exact ⟨_, _, _, rfl, by simp only [List.length_set,hlen], .inl ⟨rfl, rfl⟩⟩
 | m + 1, i, hi, n, hn0, hn1, tm, J, hlen, h5, h18, h19, h20 => by
  have hlt : i < sides.length := by omega
  obtain ⟨w, hwi⟩ : ∃ w, sides[i]? = some w := ⟨_, List.getElem?_eq_getElem hlt⟩
  have e : sides.drop i = w :: sides.drop (i + 1) := by
   rw [List.drop_eq_getElem_cons hlt]
   congr 1
   rw [List.getElem?_eq_getElem hlt] at hwi
   exact Option.some.inj hwi
  have hss : ss = 2 := by
   rcases hs with h | h
   ·subst h; simp at hlt
   ·exact h
  subst hss
  have hc : decide ((i : Int) < (sides.length : Int)) = true := by simp; omega
  have hml : (sides.map encT).length = sides.length := List.length_map ..
  have hix := idx_nat (n := sides.length) (i := i) hlt
  have hget' : (sides.map encT)[i]? = some (encT w) := by rw [List.getElem?_map, hwi]; rfl
  have hwr := wrap_nat (i := i) (by omega)
  have hA2 : ∀ M : Heap, (H ++ a :: b :: numO n :: M)[H.length + 2]? = some (numO n) := fun M => by rw [hget 2]; rfl
  have hS2 : ∀ (M : Heap) (n' : Int), (H ++ a :: b :: numO n :: M).set (H.length + 2) (numO n') = H ++ a :: b :: numO n' :: M := fun M n' => by rw [hset 2]; rfl
  have c26 := fun M => s26 w (hok w (List.mem_of_getElem? hwi)) n 30 hn0 hn1 (by decide) (by decide) (H.length + 2) (H ++ a :: b :: numO n :: M) (hA2 M)
  have hj : (H ++ a :: b :: numO n :: J).length = H.length + 3 + J.length := by simp; omega
  have hap : ∀ o : HO, (H ++ a :: b :: numO n :: J) ++ [o] = H ++ a :: b :: numO n :: (J ++ [o]) := fun o => by simp
  have hgl : ∀ o : HO, (H ++ a :: b :: numO n :: (J ++ [o]))[H.length + 3 + J.length]? = some o := fun o => by
   rw [show H.length + 3 + J.length = H.length + (3 + J.length) by omega, hget (3 + J.length), show 3 + J.length = J.length + 3 by omega]
   simp
  have hsl : ∀ o o' : HO, (H ++ a :: b :: numO n :: (J ++ [o])).set (H.length + 3 + J.length) o' = H ++ a :: b :: numO n :: (J ++ [o']) := fun o o' => by
   rw [show H.length + 3 + J.length = H.length + (3 + J.length) by omega, hset (3 + J.length), show 3 + J.length = J.length + 3 by omega]
   simp [List.set_append_right]
  obtain ⟨wk, ws, wa⟩ := w
  have hleft := smallT_left (.mk wk ws wa) n 30 hn0
  have hst : smallTs (KT.mk wk ws wa :: sides.drop (i + 1)) n 30 = if (smallT (.mk wk ws wa) n 30).1 = true then smallTs (sides.drop (i + 1)) (smallT (.mk wk ws wa) n 30).2 30 else (false, (smallT (.mk wk ws wa) n 30).2) := rfl
  rw [e, l8_0]
  simp only [encT] at c26 hget'
  rcases Bool.eq_false_or_eq_true (smallT (.mk wk ws wa) n 30).1 with hr | hr
  rotate_left
  ·rw [if_neg (show ¬ (smallT (.mk wk ws wa) n 30).1 = true by rw [hr]; exact Bool.false_ne_true)] at hst
   rw [hst]
   simp only [hr] at c26
   simp only [b8_0,B0,B1,B2,List.replicate,reduceCtorEq,lenA,seval,hlen,h5,h18,h19,h20,hc,hml,hix,hget',hj,hap,hgl,hsl,c26,hS2]
   exact ⟨_, _, _, rfl, by simp only [List.length_set,hlen], .inr ⟨rfl, by simp only [B3,seval,hlen]⟩⟩
  ·rw [if_pos hr] at hst
   rw [hst]
   simp only [hr] at c26
   have key := l8 sides 2 hs hok hn H a b m (i + 1) (by omega) (smallT (.mk wk ws wa) n 30).2 (hleft.2.2 hr) (by omega)
   simp only [b8_0,B0,B1,B2,List.replicate,reduceCtorEq,lenA,seval,hlen,h5,h18,h19,h20,hc,hml,hix,hget',hj,hap,hgl,hsl,c26,hS2,hwr]
   refine key _ _ ?_ ?_ ?_ ?_ ?_
   all_goals simp only [B3,seval,hlen,h5,h18,h19]
def smallE (t : NT) (v : EnvT) : Bool :=
 if (fewN t 5000 60).1 = true then (if (smallT v.it (fewN t 5000 60).2 30).1 = true then (smallTs v.sides (smallT v.it (fewN t 5000 60).2 30).2 30).1 else false) else false
theorem s8 (t : NT) (v : EnvT) (hok : handN t) (hv : EnvH v) (H : Heap) : L 8 [.im (.agg (encN t)), .im (.agg (encE v))] H = some (.im (.bool (smallE t v)), H) := by
 have hX : smallE t v = if (fewN t 5000 60).1 = true then (if (smallT v.it (fewN t 5000 60).2 30).1 = true then (smallTs v.sides (smallT v.it (fewN t 5000 60).2 30).2 30).1 else false) else false := rfl
 rw [hX]
 have l1 := fewN_left t 5000 60 (by decide)
 have c25 := fun idl H => s25 t hok 5000 60 (by decide) (by decide) (by decide) (by decide) idl H
 have c26 := fun h0 h1 idl H => s26 v.it hv.it (fewN t 5000 60).2 30 h0 h1 (by decide) (by decide) idl H
 obtain ⟨op, ni, txt, ⟨tk, tys, targs⟩, s, kids⟩ := t
 obtain ⟨⟨k, es, ea⟩, ss, sides⟩ := v
 have hN : encN (.mk op ni txt (.mk tk tys targs) s kids) = [.str op, .int .i64 ni, .str txt, .int .i64 tk, .sl tys (encTs targs), .sl s (encNs kids)] := by simp only [encN]
 have hE : encE ⟨.mk k es ea, ss, sides⟩ = [.int .i64 k, .sl es (encTs ea), .sl ss (sides.map encT)] := rfl
 have hml : (sides.map encT).length = sides.length := List.length_map ..
 simp only [hN,hE,encT] at c25 c26 ⊢
 obtain ⟨a, ha⟩ : ∃ a : HO, a = .obj none [[.im (.str op), .im (.int .i64 ni), .im (.str txt), .im (.int .i64 tk), .im (.sl tys (encTs targs)), .im (.sl s (encNs kids))]] := ⟨_, rfl⟩
 obtain ⟨b, hb⟩ : ∃ b : HO, b = .obj none [[.im (.int .i64 k), .im (.sl es (encTs ea)), .im (.sl ss (sides.map encT))]] := ⟨_, rfl⟩
 have hnum : ∀ n, HO.obj none [[.im (.int .i64 n)]] = numO n := fun _ => rfl
 have c25' := c25 (H.length + 2) (H ++ [a, b, numO 5000]) (by rw [hget 2]; rfl)
 have hS : ∀ n n', (H ++ [a, b, numO n]).set (H.length + 2) (numO n') = H ++ [a, b, numO n'] := fun n n' => by rw [hset 2]; rfl
 rw [hS] at c25'
 rw [leq F8]
 obtain ⟨hlen, hx⟩ := enter_at (f := f8) (args := [.im (.agg [.str op, .int .i64 ni, .str txt, .int .i64 tk, .sl tys (encTs targs), .sl s (encNs kids)]), .im (.agg [.int .i64 k, .sl es (encTs ea), .sl ss (sides.map encT)])]) (Nat.le_of_ble_eq_true rfl)
 have h0 := hx 0 _ rfl
 have h1 := hx 1 _ rfl
 generalize enterA f8 [.im (.agg [.str op, .int .i64 ni, .str txt, .int .i64 tk, .sl tys (encTs targs), .sl s (encNs kids)]), .im (.agg [.int .i64 k, .sl es (encTs ea), .sl ss (sides.map encT)])] = tm at *
 change tm.length = 28 at hlen
 generalize fewN (.mk op ni txt (.mk tk tys targs) s kids) 5000 60 = r1 at *
 obtain ⟨b1, n1⟩ := r1
 rw [ha, hb] at c25'
 unfold numO at c25'
 cases b1 with
 | false =>
  rw [if_neg Bool.false_ne_true]
  simp only [f8,B0,B1,B2,List.replicate,reduceCtorEq,lenA,seval,B5,pairK,B4,stays,loadOf,endK,resA,tupA,hlen,h0,h1,c25',leave_app]
 | true =>
  rw [if_pos rfl]
  have c26' := c26 (l1.2.2 rfl) (by have := l1.2.1; simp at this ⊢; omega) (H.length + 2) (H ++ [a, b, numO n1]) (by rw [hget 2]; rfl)
  have l2 := smallT_left (.mk k es ea) n1 30 (l1.2.2 rfl)
  have l12 := l1.2.1
  simp only at l12
  rw [hS] at c26'
  generalize smallT (.mk k es ea) n1 30 = r2 at *
  obtain ⟨b2, n2⟩ := r2
  rw [ha, hb] at c26'
  unfold numO at c26'
  cases b2 with
  | false =>
   rw [if_neg Bool.false_ne_true]
   simp only [f8,B0,B1,B2,List.replicate,reduceCtorEq,lenA,seval,B5,pairK,B4,stays,loadOf,endK,resA,tupA,hlen,h0,h1,c25',c26',leave_app]
  | true =>
   rw [if_pos rfl]
   have key := fun tm => l8 sides ss hv.ss hv.sides hv.len H a b sides.length 0 (by omega) n2 (l2.2.2 rfl) (by have := l2.2.1; simp only at this; omega) tm []
   rw [ha, hb] at key
   unfold numO at key
   rw [List.drop_zero] at key
   have key := fun tm h1 h2 h3 h4 h5 => (show ∃ e tm' H', Λ c8_0 tm _ = some (e, tm', H') ∧ (tm'.length = 28 ∧ (∃ J', H' = H ++ J') ∧ ((e = .exit 0 ∧ (smallTs sides n2 30).1 = true) ∨ (e = .ret ∧ (smallTs sides n2 30).1 = false ∧ tm'.getD 4 undefA = .im (.bool false)))) from by
    obtain ⟨e, tm', J', x1, x2, x3⟩ := key tm h1 h2 h3 h4 h5
    exact ⟨e, tm', _, x1, x2, ⟨J', rfl⟩, x3⟩)
   simp only [f8,e8_0,B0,B1,B2,List.replicate,reduceCtorEq,lenA,seval,B5,pairK,B4,stays,loadOf,endK,resA,tupA,hlen,h0,h1,c25',c26',hml]
   generalize hr : thenL (Λ c8_0 _ _) _ = r
   refine Exists.elim (thenL_inv hr (key _ (by simp only [List.length_set,hlen]) (by simp only [B3,seval,hlen]) (by simp only [B3,seval,hlen]) (by simp only [B3,seval,hlen]) (by simp only [B3,seval,hlen]; first | done | rfl))) ?_
   clear hr key
   rintro e' ⟨tm', H', ⟨hl', ⟨J', rfl⟩, hm⟩, rfl⟩
   rcases hm with ⟨rfl, hz⟩ | ⟨rfl, hz, g4⟩
   ·rw [hz]
    simp only [B0,B1,B2,List.replicate,reduceCtorEq,lenA,seval,B5,pairK,B4,stays,loadOf,endK,resA,tupA,hl',leave_app]
   ·rw [hz]
    simp only [B0,B1,B2,List.replicate,reduceCtorEq,lenA,seval,B5,pairK,B4,stays,loadOf,endK,resA,tupA,hl',g4,leave_app]
end Go.Abs.Seat
end
section
set_option linter.unusedVariables false
set_option linter.unusedSimpArgs false
namespace Go.Abs.Seat
open Go.Proofs
theorem gath_swap {ty : TypeId} {s : Nat} {v : AV} {A B J : Heap} {es : List (List Dat)} (h : Gath ty s A.length v (A ++ J) es) (hl : A.length = B.length) : Gath ty s B.length v (B ++ J) es := by
 rcases h with h | ⟨h1, tok, h2, h3, h4⟩
 ·exact .inl h
 ·refine .inr ⟨h1, tok, by omega, h3, ?_⟩
  rw [List.getElem?_append_right h2] at h4
  rw [List.getElem?_append_right (by omega), ← hl]
  exact h4
def OE (k : Int) (s : Nat) (ta : List KT) (v : AV) : HO := .obj none [[.im (.int .i64 k), .im (.sl s (encTs ta)), v]]
theorem l12 (sides : List KT) (ss : Nat) (hs : sides = [] ∨ ss = 2) (hc : ∀ t ∈ sides, ∀ H, L 31 [.im (.agg (encT t))] H = some (.im (.agg (encT (cloneT t))), H)) (hn : sides.length ≤ 1000000) (H : Heap) (a b : HO) (k : Int) (s1 : Nat) (ta : List KT) :
  ∀ (m i : Nat), i + m = sides.length → ∀ (tm : List AV) (J : Heap) (v : AV), Gath 34 2 (H.length + 3) v (H ++ a :: b :: OE k s1 ta v :: J) ((sides.take i).map fun t => encT (cloneT t)) → tm.length = 26 → tm.getD 2 undefA = .ptr (H.length + 1) 0 0 → tm.getD 3 undefA = .ptr (H.length + 2) 0 0 → tm.getD 11 undefA = .im (.sl ss (sides.map encT)) → tm.getD 12 undefA = .im (.int .i64 (sides.length : Int)) → tm.getD 13 undefA = .im (.int .i64 (i : Int)) →
  ∃ e tm' A', Λ c12_0 tm (H ++ a :: b :: OE k s1 ta v :: J) = some (e, tm', A') ∧ (tm'.length = 26 ∧ e = .exit 0 ∧ tm'.getD 2 undefA = .ptr (H.length + 1) 0 0 ∧ tm'.getD 3 undefA = .ptr (H.length + 2) 0 0 ∧ ∃ J' v', A' = H ++ a :: b :: OE k s1 ta v' :: J' ∧ Gath 34 2 (H.length + 3) v' (H ++ a :: b :: OE k s1 ta v' :: J') (sides.map fun t => encT (cloneT t)))
 | 0, i, hi, tm, J, v, hG, hlen, h2, h3, h11, h12, h13 => by
  have hc' : decide ((i : Int) < (sides.length : Int)) = false := decide_eq_false (by omega)
  have e : sides.take i = sides := List.take_of_length_le (by omega)
  rw [e] at hG
  rw [l12_0]
  simp only [b12_0,B0,B1,B2,List.replicate,reduceCtorEq,lenA,seval,hlen,h12,h13,hc']
  refine ⟨_, _, _, rfl, by simp only [List.length_set,hlen], rfl, by simp only [B3,seval,hlen,h2], by simp only [B3,seval,hlen,h3], J, v, ?_, hG⟩
  rfl
 | m + 1, i, hi, tm, J, v, hG, hlen, h2, h3, h11, h12, h13 => by
  have hlt : i < sides.length := by omega
  obtain ⟨w, hwi⟩ : ∃ w, sides[i]? = some w := ⟨_, List.getElem?_eq_getElem hlt⟩
  have hss : ss = 2 := by
   rcases hs with h | h
   ·subst h; simp at hlt
   ·exact h
  subst hss
  have hc' : decide ((i : Int) < (sides.length : Int)) = true := decide_eq_true (by omega)
  have hml : (sides.map encT).length = sides.length := List.length_map ..
  have hix := idx_nat (n := sides.length) (i := i) hlt
  have hgw : (sides.map encT)[i]? = some (encT w) := by rw [List.getElem?_map, hwi]; rfl
  have hcall := hc w (List.mem_of_getElem? hwi)
  have hwr := wrap_nat (i := i) (by omega)
  have fl : ∀ (o : HO) (J : Heap), (H ++ [a, b, o]) ++ J = H ++ (a :: b :: o :: J) := fun o J => by simp
  have hL3 : ∀ o : HO, (H ++ [a, b, o]).length = H.length + 3 := fun o => by simp
  have hG2 := hG.more [TyO w]
  rw [← fl, ← hL3 (OE k s1 ta v), List.append_assoc] at hG2
  obtain ⟨v', M', hap, hG', _, _⟩ := hG2.push (bytes := 32) (encT (cloneT w)) (by simp; omega) (by decide)
  have htk : (sides.take (i + 1)).map (fun t => encT (cloneT t)) = (sides.take i).map (fun t => encT (cloneT t)) ++ [encT (cloneT w)] := by
   rw [List.take_add_one, hwi]; simp
  rw [← htk] at hG'
  have hv' : ∃ es tok, v' = .asl 2 es tok := by
   rcases hG' with ⟨h, _⟩ | ⟨_, tok, _, h, _⟩
   ·rw [htk] at h; simp at h
   ·exact ⟨_, tok, h⟩
  have hGn := gath_swap (B := H ++ [a, b, OE k s1 ta v']) hG' (by simp)
  rw [hL3, fl] at hGn
  have key := l12 sides 2 hs hc hn H a b k s1 ta m (i + 1) (by omega)
  have hO : ∀ (o : HO) (J : Heap), (H ++ (a :: b :: o :: J))[H.length + 2]? = some o := fun o J => by rw [hget 2]; rfl
  have hOs : ∀ (o o' : HO) (J : Heap), (H ++ (a :: b :: o :: J)).set (H.length + 2) o' = H ++ (a :: b :: o' :: J) := fun o o' J => by rw [hset 2]; rfl
  have hj : ∀ o : HO, (H ++ (a :: b :: o :: J)).length = H.length + 3 + J.length := fun o => by simp; omega
  have hap' : ∀ o o' : HO, (H ++ (a :: b :: o :: J)) ++ [o'] = H ++ (a :: b :: o :: (J ++ [o'])) := fun o o' => by simp
  have hgl : ∀ o o' : HO, (H ++ (a :: b :: o' :: (J ++ [o])))[H.length + 3 + J.length]? = some o := fun o o' => by
   rw [show H.length + 3 + J.length = H.length + (3 + J.length) by omega, hget (3 + J.length), show 3 + J.length = J.length + 3 by omega]
   simp
  have hsl : ∀ o o' o2 : HO, (H ++ (a :: b :: o2 :: (J ++ [o]))).set (H.length + 3 + J.length) o' = H ++ (a :: b :: o2 :: (J ++ [o'])) := fun o o' o2 => by
   rw [show H.length + 3 + J.length = H.length + (3 + J.length) by omega, hset (3 + J.length), show 3 + J.length = J.length + 3 by omega]
   simp [List.set_append_right]
  have key9 : ∀ tm : List AV, tm.length = 26 → tm.getD 2 undefA = .ptr (H.length + 1) 0 0 → tm.getD 3 undefA = .ptr (H.length + 2) 0 0 → tm.getD 11 undefA = .im (.sl 2 (sides.map encT)) → tm.getD 12 undefA = .im (.int .i64 (sides.length : Int)) → tm.getD 13 undefA = .im (.int .i64 ((i + 1 : Nat) : Int)) → _ := fun tm a1 a2 a3 a4 a5 a6 => key tm M' v' hGn a1 a2 a3 a4 a5 a6
  have key' := fun tm => key tm M' v' hGn
  clear key9 key
  obtain ⟨es', tok', rfl⟩ := hv'
  rw [fl] at hap
  rw [fl] at hap
  obtain ⟨wk, ws, wa⟩ := w
  generalize cloneT (.mk wk ws wa) = cw at *
  obtain ⟨ck, cs, ca⟩ := cw
  have td : toDatss [[AV.im (.int .i64 ck), .im (.sl cs (encTs ca))]] = some [[.int .i64 ck, .sl cs (encTs ca)]] := rfl
  simp only [encT] at hcall hgw hap
  unfold OE TyO at *
  simp only [KT.k,KT.s,KT.args] at hap
  rw [l12_0]
  simp only [b12_0,B0,B1,B2,List.replicate,reduceCtorEq,lenA,seval,B5,pairK,B4,stays,loadOf,hlen,h2,h3,h11,h12,h13,hc',hml,hix,hgw,hcall,hwr,hO,hOs,hj,hap',hgl,hsl,td,elems,hap]
  refine key' _ ?_ ?_ ?_ ?_ ?_ ?_
  all_goals simp only [B3,seval,hlen,h2,h3,h11,h12]
def envC (v : EnvT) : EnvT := ⟨cloneT v.it, if v.sides.length = 0 then 0 else 2, v.sides.map cloneT⟩
theorem leave_roomN {H M : Heap} {a b : Dat} : leave H true (.agg [.im a, .im b, .nils]) (H ++ M) = (.agg [.im a, .im b, .nils], H) := by
 unfold leave
 rw [if_pos ⟨by simp only [if_true,refsLt,refsLts,Bool.and_self], heldIn_app H M⟩, htake]
 rfl
theorem leave_room {H M : Heap} {a b : Dat} {s : Nat} {es : List (List Dat)} {tok : Nat} {ty : TypeId} {k : Nat} (ht : (H ++ M)[tok]? = some (.hw ty k)) (hle : H.length ≤ tok) :
  leave H true (.agg [.im a, .im b, .asl s es tok]) (H ++ M) = (.agg [.im a, .im b, .asl s es H.length], H ++ [.hw ty k]) := by
 unfold leave
 have e : decide (tok < H.length) = false := decide_eq_false (by omega)
 rw [if_neg (by simp only [if_true,refsLt,refsLts,e]; simp)]
 simp only [if_true,keepS,reAt,refsLt,refsLts,e,Bool.false_eq_true,if_false,ht]
 rw [if_pos (heldIn_app H M), htake]
theorem s12 (v : EnvT) (hv : EnvH v) (hs : slim v.it) (hss : ∀ t ∈ v.sides, slim t) (hn : v.sides.length ≤ 1000000) (H : Heap) : L 12 [.im (.agg (encE v))] H =
  some (if v.sides = [] then (.agg [.im (.int .i64 (cloneT v.it).k), .im (.sl (cloneT v.it).s (encTs (cloneT v.it).args)), .nils], H) else (.agg [.im (.int .i64 (cloneT v.it).k), .im (.sl (cloneT v.it).s (encTs (cloneT v.it).args)), .asl 2 (v.sides.map fun t => encT (cloneT t)) H.length], H ++ [.hw 34 v.sides.length])) := by
 have c31 := fun H => s31 v.it hv.it hs H
 have hcs : ∀ t ∈ v.sides, ∀ H, L 31 [.im (.agg (encT t))] H = some (.im (.agg (encT (cloneT t))), H) := fun t ht H => s31 t (hv.sides t ht) (hss t ht) H
 obtain ⟨⟨k, es, ea⟩, ss, sides⟩ := v
 have hE : encE ⟨.mk k es ea, ss, sides⟩ = [.int .i64 k, .sl es (encTs ea), .sl ss (sides.map encT)] := rfl
 have hml : (sides.map encT).length = sides.length := List.length_map ..
 simp only at hs hss hn c31 hcs ⊢
 generalize cloneT (.mk k es ea) = ct at *
 obtain ⟨k2, s2, a2⟩ := ct
 have key := l12 sides ss hv.ss hcs hn H (.obj none [[.im (.int .i64 k), .im (.sl es (encTs ea)), .im (.sl ss (sides.map encT))]]) (.obj none [[.im (.int .i64 0), .nils, .nils]]) k2 s2 a2 sides.length 0 (by omega)
 have key := fun tm => key tm [] .nils (.inl ⟨by simp, rfl⟩)
 unfold OE at key
 simp only [hE,encT,encE,KT.k,KT.s,KT.args] at c31 ⊢
 rw [leq F12]
 obtain ⟨hlen, hx⟩ := enter_at (f := f12) (args := [.im (.agg [.int .i64 k, .sl es (encTs ea), .sl ss (sides.map encT)])]) (Nat.le_of_ble_eq_true rfl)
 have h0 := hx 0 _ rfl
 generalize enterA f12 [.im (.agg [.int .i64 k, .sl es (encTs ea), .sl ss (sides.map encT)])] = tm at *
 change tm.length = 26 at hlen
 simp only [f12,e12_0,B0,B1,B2,List.replicate,reduceCtorEq,lenA,seval,hlen,h0,c31,hml]
 generalize hr : thenL (Λ c12_0 _ _) _ = r
 refine Exists.elim (thenL_inv hr (key _ ?_ ?_ ?_ ?_ ?_ ?_)) ?_
 iterate 5 simp only [B3,seval,hlen]
 ·simp only [B3,seval,hlen]; first | done | rfl
 clear hr key
 rintro e ⟨tm', A', ⟨hl', rfl, g2, g3, J, v', rfl, hG⟩, rfl⟩
 rcases hG with ⟨hes, rfl⟩ | ⟨hes, tok, hle, rfl, htk⟩
 ·have ha0 : sides = [] := by simpa using hes
  rw [if_pos ha0]
  simp only [B0,B1,B2,List.replicate,reduceCtorEq,lenA,seval,B5,pairK,B4,stays,loadOf,endK,resA,tupA,hl',g2,g3,leave_roomN]
 ·have ha0 : ¬ sides = [] := by simpa using hes
  rw [if_neg ha0]
  rw [List.length_map] at htk
  have hlv := fun M (h : (H ++ M)[tok]? = some (.hw 34 sides.length)) => leave_room (H := H) (M := M) (a := .int .i64 k2) (b := .sl s2 (encTs a2)) (s := 2) (es := sides.map fun t => encT (cloneT t)) h (by omega)
  have hget2 : ∀ x : HO, True := fun _ => trivial
  have hst : ∀ o : HO, (H ++ (HO.obj none [[.im (.int .i64 k), .im (.sl es (encTs ea)), .im (.sl ss (sides.map encT))]] :: o :: HO.obj none [[.im (.int .i64 k2), .im (.sl s2 (encTs a2)), .asl 2 (sides.map fun t => encT (cloneT t)) tok]] :: J))[tok]? = some (.hw 34 sides.length) := fun o => by
   rw [List.getElem?_append_right (by omega)] at htk ⊢
   obtain ⟨d, hd⟩ : ∃ d, tok - H.length = d + 3 := ⟨tok - H.length - 3, by omega⟩
   rw [hd] at htk ⊢
   simpa using htk
  simp only [B0,B1,B2,List.replicate,reduceCtorEq,lenA,seval,B5,pairK,B4,stays,loadOf,endK,resA,tupA,hl',g2,g3,hlv,hst]
end Go.Abs.Seat
end
section
set_option linter.unusedVariables false
set_option linter.unusedSimpArgs false
namespace Go.Abs.Seat
open Go.Proofs
theorem nodeW_bad (d : Nat) (t : NT) (acc : List UInt8) : nodeW d t (acc, true) = (acc, true) := by
 cases d with
 | zero => rfl
 | succ d =>
  obtain ⟨op, i, txt, ty, s, kids⟩ := t
  simp only [nodeW]
  rw [if_pos (by simp)]
theorem kidsW_good (d : Nat) (ps : List UInt8) : ∀ (kids : List NT) (i : Nat) (st : WSt), (kidsW (nodeW d) ps i kids st).2 = false → st.2 = false ∧ ∀ k ∈ kids, ∃ acc, (nodeW d k (acc, false)).2 = false
 | [], i, st, h => ⟨h, by simp⟩
 | k :: ks, i, st, h => by
  simp only [kidsW] at h
  obtain ⟨h1, h2⟩ := kidsW_good d ps ks (i + 1) _ h
  have hb : (st.2 || (decide (ps[i]? = some 110) && !isNam k)) = false := by
   cases hx : (st.2 || (decide (ps[i]? = some 110) && !isNam k)) with
   | false => rfl
   | true =>
    rw [hx, nodeW_bad] at h1
    cases h1
  rw [hb] at h1
  refine ⟨?_, fun k' hk' => ?_⟩
  ·rw [Bool.or_eq_false_iff] at hb; exact hb.1
  ·rcases List.mem_cons.1 hk' with rfl | hk'
   ·exact ⟨_, h1⟩
   ·exact h2 k' hk'
theorem shp1 : ∀ q ∈ shapes, q.1 = [108, 101, 116] → q.2.length = 3 ∧ q.2 ≠ [43] := by decide
theorem shp2 : ∀ q ∈ shapes, q.1 = [109, 97, 112] → q.2.length = 3 ∧ q.2 ≠ [43] := by decide
theorem shp3 : ∀ q ∈ shapes, q.1 = [102, 105, 108, 116, 101, 114] → q.2.length = 3 ∧ q.2 ≠ [43] := by decide
theorem shp4 : ∀ q ∈ shapes, q.1 = [102, 111, 108, 100] → q.2.length = 5 ∧ q.2 ≠ [43] := by decide
theorem shp5 : ∀ q ∈ shapes, q.1 = [105, 102] → q.2.length = 3 ∧ q.2 ≠ [43] := by decide
theorem shp6 : ∀ q ∈ shapes, q.1 = [111, 114, 95, 101, 108, 115, 101] → q.2.length = 2 ∧ q.2 ≠ [43] := by decide
theorem shp7 : ∀ q ∈ shapes, q.2 = [] → q.1 = [116, 114, 117, 101] ∨ q.1 = [102, 97, 108, 115, 101] ∨ q.1 = [105, 116] := by decide
theorem shp8 : ∀ q ∈ shapes, q.2 = [100] → q.1 = [115, 105, 100, 101] := by decide
theorem shp9 : ∀ q ∈ shapes, q.1 = [115, 105, 100, 101] → q.2 = [100] := by decide
theorem shp10 : ∀ q ∈ shapes, q.2 = [116] → q.1 = [110, 105, 108] ∨ q.1 = [110, 111, 110, 101] := by decide
theorem shp11 : ∀ q ∈ shapes, q.2.length ≤ 5 := by decide
theorem bare_kids {t : NT} {a b c : Bool} (h : bareN t a b c false = true) : ∃ op i txt ty s, t = .mk op i txt ty s [] := by
 obtain ⟨op, i, txt, ⟨k, ts, args⟩, s, kids⟩ := t
 simp only [bareN,Bool.and_eq_true,Bool.false_or,decide_eq_true_eq] at h
 have : kids = [] := by
  have := h.2
  cases kids with
  | nil => rfl
  | cons x l => simp at this; omega
 subst this
 exact ⟨op, i, txt, _, s, rfl⟩
theorem arOk_leaf {op : List UInt8} {n : Nat} (h : leafW op) : ArOk op n := by
 have hn : ¬ leafW [108, 101, 116] ∧ ¬ leafW [109, 97, 112] ∧ ¬ leafW [102, 105, 108, 116, 101, 114] ∧ ¬ leafW [102, 111, 108, 100] ∧ ¬ leafW [105, 102] ∧ ¬ leafW [111, 114, 95, 101, 108, 115, 101] := by
  refine ⟨?_, ?_, ?_, ?_, ?_, ?_⟩ <;> (unfold leafW; decide)
 exact ⟨fun e => absurd (e ▸ h) hn.1, fun e => absurd (e ▸ h) hn.2.1, fun e => absurd (e ▸ h) hn.2.2.1, fun e => absurd (e ▸ h) hn.2.2.2.1, fun e => absurd (e ▸ h) hn.2.2.2.2.1, fun e => absurd (e ▸ h) hn.2.2.2.2.2, fun e => absurd h e⟩
theorem gd_of : ∀ (d : Nat) (t : NT), fineN t → ∀ acc : List UInt8, (nodeW d t (acc, false)).2 = false → Gd d t ∧ tidyN t
 | 0, t, _, acc, h => by simp only [nodeW] at h; cases h
 | d + 1, .mk op i txt ty s kids, hf, acc, h => by
  simp only [fineN] at hf
  obtain ⟨_, _, _, hs, hty, hks⟩ := hf
  have leafCase : ∀ (hl : leafW op) (hk : kids = []) (hsd : op = [115, 105, 100, 101] → 0 ≤ i), Gd (d + 1) (.mk op i txt ty s kids) ∧ tidyN (.mk op i txt ty s kids) := fun hl hk hsd => by
   subst hk
   exact ⟨⟨.inl rfl, arOk_leaf hl, by simp⟩, hty, by simp, hsd, trivial⟩
  have bk : ∀ {a b c : Bool}, bareN (.mk op i txt ty s kids) a b c false = true → kids = [] := fun hb => by
   obtain ⟨_, _, _, _, _, he⟩ := bare_kids hb
   injection he
  simp only [nodeW] at h
  split at h
  ·cases h
  split at h
  ·rename_i ho
   subst ho
   exact leafCase (.inl rfl) (bk (by simpa using h)) (fun e => absurd e (by decide))
  split at h
  ·rename_i ho
   subst ho
   split at h
   ·cases h
   ·rename_i hb
    simp only [Bool.or_eq_true,not_or,Bool.not_eq_true',Bool.not_eq_false] at hb
    exact leafCase (.inr (.inl rfl)) (bk hb.1) (fun e => absurd e (by decide))
  split at h
  ·rename_i ho
   subst ho
   simp only [Bool.or_eq_false_iff,Bool.not_eq_false'] at h
   exact leafCase (.inr (.inr (.inr (.inr (.inl rfl))))) (bk h.1) (fun e => absurd e (by decide))
  split at h
  ·cases h
  ·rename_i ps hps
   have hm := lookup_mem hps
   have a1 := shp1 _ hm
   have a2 := shp2 _ hm
   have a3 := shp3 _ hm
   have a4 := shp4 _ hm
   have a5 := shp5 _ hm
   have a6 := shp6 _ hm
   have a7 := shp7 _ hm
   have a8 := shp8 _ hm
   have a9 := shp9 _ hm
   have a10 := shp10 _ hm
   have a11 := shp11 _ hm
   simp only at a1 a2 a3 a4 a5 a6 a7 a8 a9 a10 a11
   split at h
   ·rename_i hp
    have ho := a8 hp
    simp only [Bool.or_eq_false_iff,Bool.not_eq_false',decide_eq_false_iff_not] at h
    exact leafCase (by unfold leafW; simp [ho]) (bk h.1.1) (fun _ => by omega)
   split at h
   ·rename_i hnd hp
    have ho := a10 hp
    simp only [Bool.or_eq_false_iff,Bool.not_eq_false'] at h
    refine leafCase (by unfold leafW; rcases ho with ho | ho <;> simp [ho]) (bk h.1) (fun e => ?_)
    rw [a9 e] at hnd
    exact absurd rfl hnd
   rename_i hnd hnt
   unfold callW at h
   split at h
   ·cases h
   rename_i hc
   simp only [Bool.or_eq_true,not_or,Bool.not_eq_true',Bool.not_eq_false,decide_eq_true_eq] at hc
   obtain ⟨hc1, hc2⟩ := hc
   have hk : ∀ k ∈ kids, ∃ acc, (nodeW d k (acc, false)).2 = false := by
    split at h
    ·exact (kidsW_good d _ kids 0 _ h).2
    ·exact (kidsW_good d _ kids 0 _ h).2
   have hrec : ∀ k ∈ kids, Gd d k ∧ tidyN k := fun k hkm => by
    obtain ⟨acc', ha⟩ := hk k hkm
    exact gd_of d k (fineNs_mem hks k hkm) acc' ha
   have hlen : ps ≠ [43] → kids.length = ps.length := fun h43 => by
    rw [hc1]; unfold partsW; rw [if_neg h43]
   have hpos : ¬ leafW op → 0 < kids.length := fun hl => by
    by_cases h43 : ps = [43]
    ·rw [hc1]; unfold partsW; rw [if_pos h43, List.length_replicate]; omega
    ·rw [hlen h43]
     cases ps with
     | nil =>
      exfalso
      apply hl
      unfold leafW
      rcases a7 rfl with e | e | e <;> simp [e]
     | cons x l => simp
   have hle : kids.length ≤ 1000 := by
    by_cases h43 : ps = [43]
    ·rw [hc1]; unfold partsW; rw [if_pos h43, List.length_replicate]; omega
    ·rw [hlen h43]; omega
   have tns : ∀ l : List NT, (∀ k ∈ l, tidyN k) → tidyNs l := fun l => by
    induction l with
    | nil => intro _; trivial
    | cons a l ih => intro hh; exact ⟨hh a (by simp), ih fun k hk => hh k (List.mem_cons_of_mem _ hk)⟩
   refine ⟨⟨hs, ⟨fun e => ?_, fun e => ?_, fun e => ?_, fun e => ?_, fun e => ?_, fun e => ?_, hpos⟩, fun k hkm => (hrec k hkm).1⟩, hty, hle, fun e => absurd (a9 e) hnd, tns kids fun k hkm => (hrec k hkm).2⟩
   ·rw [hlen (a1 e).2]; exact (a1 e).1
   ·rw [hlen (a2 e).2]; exact (a2 e).1
   ·rw [hlen (a3 e).2]; exact (a3 e).1
   ·rw [hlen (a4 e).2]; exact (a4 e).1
   ·rw [hlen (a5 e).2, (a5 e).1]; decide
   ·rw [hlen (a6 e).2, (a6 e).1]; decide
theorem show_gd {t : NT} (hf : fineN t) (h : (showX t).2 = 0) : Gd 24 t ∧ tidyN t := by
 refine gd_of 24 t hf [] ?_
 unfold showX at h
 split at h
 ·cases h
 ·rename_i hc
  simp only [Bool.or_eq_true,not_or,Bool.not_eq_true] at hc
  exact hc.1
end Go.Abs.Seat
end
section
set_option linter.unusedVariables false
set_option linter.unusedSimpArgs false
namespace Go.Abs.Seat
open Go.Proofs
theorem then_inr {r : RT} {f : KT → RT} {x : List Nat × Int} (h : thenR r f = .inr x) : r = .inr x ∨ ∃ t, r = .inl t ∧ f t = .inr x := by
 cases r with
 | inl t => exact .inr ⟨t, rfl, h⟩
 | inr y => exact .inl h
end Go.Abs.Seat
end
section
set_option linter.unusedVariables false
set_option linter.unusedSimpArgs false
namespace Go.Abs.Seat
open Go.Proofs
mutual
theorem clone_fine : ∀ t : NT, fineN t → fineN (cloneN t)
 | .mk op i txt ty s kids, h => by
  simp only [fineN] at h
  simp only [cloneN,mkN,fineN]
  have := clone_fines kids h.2.2.2.2.2
  refine ⟨h.1, h.2.1, h.2.2.1, ?_, clone_ok ty h.2.2.2.2.1, this⟩
  by_cases h0 : (cloneNs kids).length = 0
  ·exact .inl (List.length_eq_zero_iff.1 h0)
  ·right; rw [if_neg h0]
theorem clone_fines : ∀ l : List NT, fineNs l → fineNs (cloneNs l)
 | [], _ => trivial
 | a :: l, h => by
  simp only [fineNs] at h
  simp only [cloneNs,fineNs]
  exact ⟨clone_fine a h.1, clone_fines l h.2⟩
end
theorem envC_h {v : EnvT} (h : EnvH v) : EnvH (envC v) := by
 refine ⟨clone_ok _ h.it, fun t ht => ?_, ?_, by simp [envC]; exact h.len⟩
 ·obtain ⟨u, hu, rfl⟩ := List.mem_map.1 ht
  exact clone_ok u (h.sides u hu)
 ·by_cases h0 : v.sides.length = 0
  ·left; simp [envC, List.length_eq_zero_iff.1 h0]
  ·right; simp [envC, h0]
theorem small_says {t : NT} {v : EnvT} (hh : handN t) (hv : EnvH v) (h : smallE t v = true) : okN t ∧ fineN t ∧ slim v.it ∧ (∀ u ∈ v.sides, slim u) ∧ v.sides.length ≤ 1000000 := by
 unfold smallE at h
 split at h
 ·rename_i h1
  split at h
  ·rename_i h2
   have q0 := fewN_left t 5000 60 (by decide)
   have q1 := few_ok t 5000 60 (by decide) (by decide) hh h1
   have q2 := smallT_left v.it (fewN t 5000 60).2 30 (q0.2.2 h1)
   have q3 := small_slim v.it (fewN t 5000 60).2 30 (q0.2.2 h1) (by omega) h2
   have q4 := small_slims v.sides _ 30 (q2.2.2 h2) (by omega) h
   have q5 := smallTs_left v.sides (smallT v.it (fewN t 5000 60).2 30).2 30 (q2.2.2 h2)
   have q6 := q5.2.2 h
   have q7 := q4.1
   exact ⟨q1.2.1, q1.2.2, q3.2, fun u hu => slims_mem q4.2 u hu, by omega⟩
  ·cases h
 ·cases h
theorem dg_im (d : Dat) : dgA true (.im d) = .im d := rfl
end Go.Abs.Seat
end
section
set_option linter.unusedVariables false
set_option linter.unusedSimpArgs false
namespace Go.Abs.Seat
open Go.Proofs
def cdOk (c : Int) : Prop := c = 50 ∨ c = 51 ∨ c = 53
theorem kid_cd {j : Nat} {r : RT} {p : List Nat} {c : Int} (h : kidR j r = .inr (p, c)) (hr : ∀ p' c', r = .inr (p', c') → cdOk c') : cdOk c := by
 cases r with
 | inl u => cases h
 | inr x =>
  obtain ⟨p', c'⟩ := x
  simp only [kidR] at h
  injection h with h
  injection h with h1 h2
  subst h2
  exact hr p' c' rfl
theorem cd_of {p : List Nat} {c e : Int} (h : (.inr ([], e) : RT) = .inr (p, c)) (he : cdOk e) : cdOk c := by
 injection h with h; injection h with h1 h2; subst h2; exact he
theorem made_cd {t : KT} {p : List Nat} {c : Int} (h : madeX t = .inr (p, c)) : cdOk c := by
 unfold madeX at h
 split at h
 ·cases h
 ·exact cd_of h (.inl rfl)
theorem looks_code (v : EnvT) (d : Nat) (nm : Nms) : ∀ (kids : List NT) (j : Nat) (p : List Nat) (c : Int), (∀ k ∈ kids, ∀ p c, lookX v k nm = .inr (p, c) → cdOk c) → looksX v kids j nm = .inr (p, c) → cdOk c
 | [], j, p, c, _, h => by simp only [looksX] at h; cases h
 | k :: ks, j, p, c, hk, h => by
  simp only [looksX] at h
  split at h
  ·rename_i e he
   injection h with h
   subst h
   exact kid_cd he fun p' c' hp => hk k (List.mem_cons_self ..) p' c' hp
  ·split at h
   ·cases h
   ·rename_i e he
    injection h with h
    subst h
    exact looks_code v d nm ks (j + 1) p c (fun k' hk' => hk k' (List.mem_cons_of_mem _ hk')) he
theorem look_code (v : EnvT) : ∀ (d : Nat) (t : NT) (nm : Nms) (p : List Nat) (c : Int), Gd d t → lookX v t nm = .inr (p, c) → cdOk c
 | 0, t, nm, p, c, hg, _ => by simp only [Gd] at hg
 | d + 1, .mk op i txt ty s kids, nm, p, c, hg, h => by
  simp only [Gd] at hg
  obtain ⟨_, har, hgk⟩ := hg
  have kid : ∀ j nm' p c, j < kids.length → kidR j (lookAt v kids j nm') = .inr (p, c) → cdOk c := fun j nm' p c hj he => kid_cd he fun p' c' hp => by
   rw [lookAt_get v kids j _ nm' (List.getElem?_eq_getElem hj)] at hp
   exact look_code v d _ nm' p' c' (hgk _ (List.getElem_mem hj)) hp
  simp only [lookX] at h
  split at h
  ·cases h
  split at h
  ·cases h
  split at h
  ·cases h
  split at h
  ·cases h
  split at h
  ·unfold nameX at h
   split at h
   ·cases h
   ·exact cd_of h (by unfold cdOk; decide)
  split at h
  ·exact made_cd h
  split at h
  ·exact made_cd h
  split at h
  ·split at h
   ·exact cd_of h (by unfold cdOk; decide)
   ·cases h
  split at h
  ·rename_i hbw
   unfold bindsR at h
   split at h
   ·rcases then_inr h with h1 | ⟨t, _, h1⟩ <;> exact kid _ _ _ _ (by first | (have := har.l (by assumption); omega) | (have := har.d (by assumption); omega) | (have h3' : kids.length = 3 := (by rcases hbw with hh | hh | hh | hh <;> first | exact har.l hh | exact har.m hh | exact har.f hh | (exfalso; simp_all [foldW])); omega)) h1
   split at h
   ·rcases then_inr h with h1 | ⟨t, _, h1⟩
    ·exact kid _ _ _ _ (by first | (have := har.l (by assumption); omega) | (have := har.d (by assumption); omega) | (have h3' : kids.length = 3 := (by rcases hbw with hh | hh | hh | hh <;> first | exact har.l hh | exact har.m hh | exact har.f hh | (exfalso; simp_all [foldW])); omega)) h1
    rcases then_inr h1 with h2 | ⟨t1, _, h2⟩
    ·exact kid _ _ _ _ (by first | (have := har.l (by assumption); omega) | (have := har.d (by assumption); omega) | (have h3' : kids.length = 3 := (by rcases hbw with hh | hh | hh | hh <;> first | exact har.l hh | exact har.m hh | exact har.f hh | (exfalso; simp_all [foldW])); omega)) h2
    split at h2
    ·rcases then_inr h2 with h3 | ⟨t4, _, h3⟩
     ·exact kid _ _ _ _ (by first | (have := har.l (by assumption); omega) | (have := har.d (by assumption); omega) | (have h3' : kids.length = 3 := (by rcases hbw with hh | hh | hh | hh <;> first | exact har.l hh | exact har.m hh | exact har.f hh | (exfalso; simp_all [foldW])); omega)) h3
     split at h3
     ·cases h3
     ·exact cd_of h3 (by unfold cdOk; decide)
    ·exact cd_of h2 (by unfold cdOk; decide)
   ·rcases then_inr h with h1 | ⟨t, _, h1⟩
    ·exact kid _ _ _ _ (by first | (have := har.l (by assumption); omega) | (have := har.d (by assumption); omega) | (have h3' : kids.length = 3 := (by rcases hbw with hh | hh | hh | hh <;> first | exact har.l hh | exact har.m hh | exact har.f hh | (exfalso; simp_all [foldW])); omega)) h1
    split at h1
    ·rcases then_inr h1 with h3 | ⟨t4, _, h3⟩
     ·exact kid _ _ _ _ (by first | (have := har.l (by assumption); omega) | (have := har.d (by assumption); omega) | (have h3' : kids.length = 3 := (by rcases hbw with hh | hh | hh | hh <;> first | exact har.l hh | exact har.m hh | exact har.f hh | (exfalso; simp_all [foldW])); omega)) h3
     split at h3
     ·exact made_cd h3
     split at h3
     ·cases h3
     ·exact cd_of h3 (by unfold cdOk; decide)
    ·exact cd_of h1 (by unfold cdOk; decide)
  ·split at h
   ·unfold plainR at h
    split at h
    ·cases h
    ·exact cd_of h (by unfold cdOk; decide)
   ·rename_i e he
    injection h with h
    subst h
    exact looks_code v d nm kids 0 p c (fun k hk p c hp => look_code v d k nm p c (hgk k hk) hp) he
end Go.Abs.Seat
end
section
set_option linter.unusedVariables false
set_option linter.unusedSimpArgs false
namespace Go.Abs.Seat
open Go.Proofs
theorem s10h (t : NT) (v : EnvT) (hf : fineN t) (hv : EnvH v) :
  ∃ sF : Heap → Nat, (∀ H, L 10 [.im (.agg (encN t)), .im (.agg (encE v))] H = some (.tup [.im (.agg (encT (inferX t v).1)), .im (.sl (sF H) (rowsP (inferX t v).2.1)), .im (.int .i64 (inferX t v).2.2)], H)) ∧ ∀ H, (inferX t v).2.1 = [] ∨ sF H = 1 := by
 have h := s10 t v hf (show_gd hf) hv
 exact ⟨fun H => (h H).choose, fun H => (h H).choose_spec.1, fun H => (h H).choose_spec.2⟩
theorem infer_okT {t : NT} {v : EnvT} (hf : fineN t) (hv : EnvH v) : okT (inferX t v).1 ∧ ((inferX t v).2.2 = 0 → rightT (inferX t v).1 6 = true) := by
 have hz : okT zeroT := simp_ok 0
 unfold inferX
 split
 ·rename_i h
  split
  ·rename_i he
   have ht := show_gd hf h
   split
   ·rename_i u hu
    have hr := look_rt v (envOk hv he) t [] u ht.2 (by simp) hu
    exact ⟨clone_ok u hr.1, fun _ => by rw [clone_right]; exact hr.2⟩
   ·rename_i p c hp
    refine ⟨hz, fun h0 => ?_⟩
    have := look_code v 24 t [] p c ht.1 hp
    change c = 0 at h0
    subst h0
    rcases this with h | h | h <;> cases h
  ·exact ⟨hz, fun h0 => by cases h0⟩
 ·exact ⟨hz, fun h0 => by cases h0⟩
theorem parts (t : NT) : ∃ op i txt tk ts ta s kids, t = .mk op i txt (.mk tk ts ta) s kids := by
 obtain ⟨op, i, txt, ⟨tk, ts, ta⟩, s, kids⟩ := t
 exact ⟨op, i, txt, tk, ts, ta, s, kids, rfl⟩
end Go.Abs.Seat
end
section
set_option linter.unusedVariables false
set_option linter.unusedSimpArgs false
namespace Go.Abs.Seat
open Go.Proofs
mutual
theorem same_clone : ∀ (a b : KT), sameT (cloneT a) (cloneT b) = sameT a b
 | .mk k s xs, .mk k' s' ys => by
  have h := same_clones xs ys
  have l1 : (cloneTs xs).length = xs.length := by rw [cloneTs_map, List.length_map]
  have l2 : (cloneTs ys).length = ys.length := by rw [cloneTs_map, List.length_map]
  simp only [cloneT,sameT,h,l1,l2]
theorem same_clones : ∀ (a b : List KT), sameTs (cloneTs a) (cloneTs b) = sameTs a b
 | [], [] => rfl
 | [], _ :: _ => by simp [cloneTs, sameTs]
 | _ :: _, [] => by simp [cloneTs, sameTs]
 | a :: l, b :: m => by
  simp only [cloneTs,sameTs,same_clone a b,same_clones l m]
end
theorem sameR_clone (a b : KT) : sameR (cloneT a) (cloneT b) = sameR a b := by
 unfold sameR
 rw [clone_right, clone_right, same_clone]
end Go.Abs.Seat
end
section
set_option linter.unusedVariables false
set_option linter.unusedSimpArgs false
namespace Go.Abs.Seat
open Go.Proofs
def sdW : List UInt8 := [115, 105, 100, 101]
def wN : NT := .mk nameW 0 [119] (.mk 0 0 []) 0 []
mutual
def swapN (n : Nat) : NT → NT
 | .mk op i txt ty _ kids => if op = sdW ∧ i = (n : Int) then wN else mkN op i txt ty (swapNs n kids)
def swapNs (n : Nat) : List NT → List NT
 | [] => []
 | a :: l => swapN n a :: swapNs n l
end
theorem swapNs_map (n : Nat) : ∀ l : List NT, swapNs n l = l.map (swapN n)
 | [] => rfl
 | a :: l => by simp only [swapNs,List.map_cons,swapNs_map n l]
def SO (op : List UInt8) (oi : Int) (txt : List UInt8) (tk : Int) (tys : Nat) (ta : List KT) (v : AV) : HO := .obj none [[.im (.str op), .im (.int .i64 oi), .im (.str txt), .im (.int .i64 tk), .im (.sl tys (encTs ta)), v]]
theorem l13 (v : EnvT) (n : Nat) (kids : List NT) (s : Nat) (hs : kids = [] ∨ s = 6) (hc : ∀ t ∈ kids, ∀ H, L 13 [.im (.agg (encN t)), .im (.agg (encE v))] H = some (.im (.agg (encN (swapN n t))), H)) (hn : kids.length ≤ 1000000) (H : Heap) (a c : HO) (op : List UInt8) (oi : Int) (txt : List UInt8) (tk : Int) (tys : Nat) (ta : List KT) :
  ∀ (m i : Nat), i + m = kids.length → ∀ (tm : List AV) (J : Heap) (x : AV), Gath 27 6 (H.length + 4) x (H ++ a :: .obj none [[.im (.int .i64 v.it.k), .im (.sl v.it.s (encTs v.it.args)), .im (.sl v.ss (v.sides.map encT))]] :: c :: SO op oi txt tk tys ta x :: J) ((kids.take i).map fun t => encN (swapN n t)) → tm.length = 39 → tm.getD 3 undefA = .ptr (H.length + 1) 0 0 → tm.getD 4 undefA = .ptr (H.length + 2) 0 0 → tm.getD 5 undefA = .ptr (H.length + 3) 0 0 → tm.getD 23 undefA = .im (.sl s (kids.map encN)) → tm.getD 24 undefA = .im (.int .i64 (kids.length : Int)) → tm.getD 25 undefA = .im (.int .i64 (i : Int)) →
  ∃ e tm' A', Λ c13_0 tm (H ++ a :: .obj none [[.im (.int .i64 v.it.k), .im (.sl v.it.s (encTs v.it.args)), .im (.sl v.ss (v.sides.map encT))]] :: c :: SO op oi txt tk tys ta x :: J) = some (e, tm', A') ∧ (tm'.length = 39 ∧ e = .exit 0 ∧ tm'.getD 4 undefA = .ptr (H.length + 2) 0 0 ∧ tm'.getD 5 undefA = .ptr (H.length + 3) 0 0 ∧ ∃ J' x', A' = H ++ a :: .obj none [[.im (.int .i64 v.it.k), .im (.sl v.it.s (encTs v.it.args)), .im (.sl v.ss (v.sides.map encT))]] :: c :: SO op oi txt tk tys ta x' :: J' ∧ Gath 27 6 (H.length + 4) x' A' (kids.map fun t => encN (swapN n t)))
 | 0, i, hi, tm, J, x, hG, hlen, h3, h4, h5, h23, h24, h25 => by
  have hc' : decide ((i : Int) < (kids.length : Int)) = false := decide_eq_false (by omega)
  have e : kids.take i = kids := List.take_of_length_le (by omega)
  rw [e] at hG
  rw [l13_0]
  simp only [b13_0,B0,B1,B2,List.replicate,reduceCtorEq,lenA,seval,hlen,h24,h25,hc']
  refine ⟨_, _, _, rfl, by simp only [List.length_set,hlen], rfl, by simp only [B3,seval,hlen,h4], by simp only [B3,seval,hlen,h5], J, x, ?_, hG⟩
  rfl
 | m + 1, i, hi, tm, J, x, hG, hlen, h3, h4, h5, h23, h24, h25 => by
  have hlt : i < kids.length := by omega
  obtain ⟨w, hwi⟩ : ∃ w, kids[i]? = some w := ⟨_, List.getElem?_eq_getElem hlt⟩
  have hss : s = 6 := by
   rcases hs with h | h
   ·subst h; simp at hlt
   ·exact h
  subst hss
  have hc' : decide ((i : Int) < (kids.length : Int)) = true := decide_eq_true (by omega)
  have hml : (kids.map encN).length = kids.length := List.length_map ..
  have hix := idx_nat (n := kids.length) (i := i) hlt
  have hgw : (kids.map encN)[i]? = some (encN w) := by rw [List.getElem?_map, hwi]; rfl
  have hcall := hc w (List.mem_of_getElem? hwi)
  have hwr := wrap_nat (i := i) (by omega)
  obtain ⟨wop, wi, wtx, wtk, wts, wta, ws, wk, hww⟩ := parts w
  have hNw : encN w = [.str wop, .int .i64 wi, .str wtx, .int .i64 wtk, .sl wts (encTs wta), .sl ws (encNs wk)] := by rw [hww]; simp only [encN]
  obtain ⟨cop, ci', ctx, ctk, cts, cta, cs', ck, hcw⟩ := parts (swapN n w)
  have hNc : encN (swapN n w) = [.str cop, .int .i64 ci', .str ctx, .int .i64 ctk, .sl cts (encTs cta), .sl cs' (encNs ck)] := by rw [hcw]; simp only [encN]
  have key := l13 v n kids 6 hs hc hn H a c op oi txt tk tys ta m (i + 1) (by omega)
  have hE0 : encE v = [.int .i64 v.it.k, .sl v.it.s (encTs v.it.args), .sl v.ss (v.sides.map encT)] := rfl
  generalize hb : (HO.obj none [[.im (.int .i64 v.it.k), .im (.sl v.it.s (encTs v.it.args)), .im (.sl v.ss (v.sides.map encT))]]) = b at *
  have fl : ∀ (o : HO) (J : Heap), (H ++ [a, b, c, o]) ++ J = H ++ (a :: b :: c :: o :: J) := fun o J => by simp
  have hL3 : ∀ o : HO, (H ++ [a, b, c, o]).length = H.length + 4 := fun o => by simp
  have hG2 := hG.more [.obj none [(encN w).map .im]]
  rw [← fl, ← hL3 (SO op oi txt tk tys ta x), List.append_assoc] at hG2
  obtain ⟨x', M', hap, hG', _, _⟩ := hG2.push (bytes := 96) (encN (swapN n w)) (by simp; omega) (by decide)
  have htk : (kids.take (i + 1)).map (fun t => encN (swapN n t)) = (kids.take i).map (fun t => encN (swapN n t)) ++ [encN (swapN n w)] := by
   rw [List.take_add_one, hwi]; simp
  rw [← htk] at hG'
  have hv' : ∃ es tok, x' = .asl 6 es tok := by
   rcases hG' with ⟨h, _⟩ | ⟨_, tok, _, h, _⟩
   ·rw [htk] at h; simp at h
   ·exact ⟨_, tok, h⟩
  have hGn := gath_swap (B := H ++ [a, b, c, SO op oi txt tk tys ta x']) hG' (by simp)
  rw [hL3, fl] at hGn
  have hO : ∀ (o : HO) (J : Heap), (H ++ (a :: b :: c :: o :: J))[H.length + 3]? = some o := fun o J => by rw [hget 3]; rfl
  have hOs : ∀ (o o' : HO) (J : Heap), (H ++ (a :: b :: c :: o :: J)).set (H.length + 3) o' = H ++ (a :: b :: c :: o' :: J) := fun o o' J => by rw [hset 3]; rfl
  have hB : ∀ (o : HO) (J : Heap), (H ++ (a :: b :: c :: o :: J))[H.length + 1]? = some (.obj none [[.im (.int .i64 v.it.k), .im (.sl v.it.s (encTs v.it.args)), .im (.sl v.ss (v.sides.map encT))]]) := fun o J => by rw [hget 1, hb]; rfl
  have hj : ∀ o : HO, (H ++ (a :: b :: c :: o :: J)).length = H.length + 4 + J.length := fun o => by simp; omega
  have hap' : ∀ o o' : HO, (H ++ (a :: b :: c :: o :: J)) ++ [o'] = H ++ (a :: b :: c :: o :: (J ++ [o'])) := fun o o' => by simp
  have hgl : ∀ o o' : HO, (H ++ (a :: b :: c :: o' :: (J ++ [o])))[H.length + 4 + J.length]? = some o := fun o o' => by
   rw [show H.length + 4 + J.length = H.length + (4 + J.length) by omega, hget (4 + J.length), show 4 + J.length = J.length + 4 by omega]
   simp
  have hsl : ∀ o o' o2 : HO, (H ++ (a :: b :: c :: o2 :: (J ++ [o]))).set (H.length + 4 + J.length) o' = H ++ (a :: b :: c :: o2 :: (J ++ [o'])) := fun o o' o2 => by
   rw [show H.length + 4 + J.length = H.length + (4 + J.length) by omega, hset (4 + J.length), show 4 + J.length = J.length + 4 by omega]
   simp [List.set_append_right]
  have key' := fun tm => key tm M' x' hGn
  clear key
  obtain ⟨es', tok', rfl⟩ := hv'
  rw [fl] at hap
  rw [fl] at hap
  have td : ∀ y, toDatss [[.im (.str cop), .im (.int .i64 ci'), .im (.str ctx), .im (.int .i64 ctk), .im (.sl cts (encTs cta)), .im y]] = some [[.str cop, .int .i64 ci', .str ctx, .int .i64 ctk, .sl cts (encTs cta), y]] := fun _ => rfl
  rw [hNw, hNc, hE0] at hcall
  rw [hNw] at hgw
  rw [hNw, hNc] at hap
  simp only [List.map_cons,List.map_nil] at hap
  have hvk : x = .nils ∨ ∃ es tok, x = .asl 6 es tok := by
   rcases hG with ⟨_, h⟩ | ⟨_, tok, _, h, _⟩
   ·exact .inl h
   ·exact .inr ⟨_, tok, h⟩
  unfold SO at *
  rw [l13_0]
  rcases hvk with rfl | ⟨es, tok, rfl⟩
  ·simp only [b13_0,B0,B1,B2,List.replicate,reduceCtorEq,lenA,seval,B5,pairK,B4,stays,loadOf,hlen,h3,h4,h5,h23,h24,h25,hc',hml,hix,hgw,hcall,hwr,hO,hOs,hB,hj,hap',hgl,hsl,td,elems,hap]
   refine key' _ ?_ ?_ ?_ ?_ ?_ ?_ ?_
   all_goals simp only [B3,seval,hlen,h3,h4,h5,h23,h24,h25]
   all_goals rfl
  ·simp only [b13_0,B0,B1,B2,List.replicate,reduceCtorEq,lenA,seval,B5,pairK,B4,stays,loadOf,hlen,h3,h4,h5,h23,h24,h25,hc',hml,hix,hgw,hcall,hwr,hO,hOs,hB,hj,hap',hgl,hsl,td,elems,hap]
   refine key' _ ?_ ?_ ?_ ?_ ?_ ?_ ?_
   all_goals simp only [B3,seval,hlen,h3,h4,h5,h23,h24,h25]
   all_goals rfl
theorem s13 (v : EnvT) : ∀ (t : NT), okN t → ∀ H, L 13 [.im (.agg (encN t)), .im (.agg (encE v))] H = some (.im (.agg (encN (swapN v.sides.length t))), H)
 | .mk op ni txt (.mk tk tts targs) s args, hok, H => by
  simp only [okN] at hok
  obtain ⟨hs, hn, hgt, hoks⟩ := hok
  have hc : ∀ a ∈ args, ∀ H, L 13 [.im (.agg (encN a)), .im (.agg (encE v))] H = some (.im (.agg (encN (swapN v.sides.length a))), H) := fun a ha H => s13 v a (okNs_mem hoks a ha) H
  have hE0 : encE v = [.int .i64 v.it.k, .sl v.it.s (encTs v.it.args), .sl v.ss (v.sides.map encT)] := rfl
  have hel : (args.map encN).length = args.length := List.length_map ..
  have hsl : (v.sides.map encT).length = v.sides.length := List.length_map ..
  have key := l13 v v.sides.length args s hs hc hn H (.obj none [[.im (.str op), .im (.int .i64 ni), .im (.str txt), .im (.int .i64 tk), .im (.sl tts (encTs targs)), .im (.sl s (args.map encN))]]) (.obj none [[.im (.str []), .im (.int .i64 0), .im (.str []), .im (.int .i64 0), .nils, .nils]]) op ni txt tk tts targs args.length 0 (by omega)
  have key := fun tm => key tm [] .nils (.inl ⟨by simp, rfl⟩)
  unfold SO at key
  have hX : swapN v.sides.length (.mk op ni txt (.mk tk tts targs) s args) = if op = sdW ∧ ni = (v.sides.length : Int) then wN else mkN op ni txt (.mk tk tts targs) (swapNs v.sides.length args) := by simp only [swapN]
  rw [hX, hE0]
  simp only [encN,encNs_map]
  rw [leq F13]
  obtain ⟨hlen, ha⟩ := enter_at (f := f13) (args := [.im (.agg [.str op, .int .i64 ni, .str txt, .int .i64 tk, .sl tts (encTs targs), .sl s (args.map encN)]), .im (.agg [.int .i64 v.it.k, .sl v.it.s (encTs v.it.args), .sl v.ss (v.sides.map encT)])]) (Nat.le_of_ble_eq_true rfl)
  have h0 := ha 0 _ rfl
  have h1 := ha 1 _ rfl
  generalize enterA f13 [.im (.agg [.str op, .int .i64 ni, .str txt, .int .i64 tk, .sl tts (encTs targs), .sl s (args.map encN)]), .im (.agg [.int .i64 v.it.k, .sl v.it.s (encTs v.it.args), .sl v.ss (v.sides.map encT)])] = tm at *
  change tm.length = 39 at hlen
  by_cases hsw : op = sdW ∧ ni = (v.sides.length : Int)
  ·rw [if_pos hsw]
   have d1 : decide (op = [115, 105, 100, 101]) = true := decide_eq_true hsw.1
   have d2 : decide (ni = (v.sides.length : Int)) = true := decide_eq_true hsw.2
   have e1 : toDat (.agg [.im (.str [110, 97, 109, 101]), .im (.int .i64 0), .im (.str [119]), .im (.int .i64 0), .nils, .nils]) = some (.agg (encN wN)) := rfl
   have hlv := fun L' => leave_one (H := H) (M := L') e1
   simp only [f13,B0,B1,B2,List.replicate,reduceCtorEq,lenA,seval,B5,pairK,B4,stays,loadOf,endK,resA,tupA,hlen,h0,h1,hsl,d1,d2,hlv]
  rw [if_neg hsw]
  have hd : decide (op = [115, 105, 100, 101]) = false ∨ (decide (op = [115, 105, 100, 101]) = true ∧ decide (ni = (v.sides.length : Int)) = false) := by
   by_cases h : op = sdW
   ·exact .inr ⟨decide_eq_true h, decide_eq_false fun h2 => hsw ⟨h, h2⟩⟩
   ·exact .inl (decide_eq_false h)
  have hm : encNs (swapNs v.sides.length args) = args.map fun a => encN (swapN v.sides.length a) := by rw [encNs_map, swapNs_map, List.map_map]; rfl
  have hml : (swapNs v.sides.length args).length = args.length := by rw [swapNs_map, List.length_map]
  rcases hd with d1 | ⟨d1, d2⟩
  ·simp only [f13,e13_0,B0,B1,B2,List.replicate,reduceCtorEq,lenA,seval,B5,pairK,B4,stays,loadOf,hlen,h0,h1,hsl,hel,d1]
   generalize hr : thenL (Λ c13_0 _ _) _ = r
   refine Exists.elim (thenL_inv hr (key _ ?_ ?_ ?_ ?_ ?_ ?_ ?_)) ?_
   ·simp only [List.length_set,hlen]
   iterate 5 simp only [B3,seval,hlen]
   ·simp only [B3,seval,hlen]; first | done | rfl
   clear hr key
   rintro e ⟨tm', A', ⟨hl', rfl, g4, g5, J, x, rfl, hG⟩, rfl⟩
   rcases hG with ⟨hes, rfl⟩ | ⟨hes, tok, _, rfl, _⟩
   ·have ha0 : args = [] := by simpa using hes
    have e1 : toDat (.agg [.im (.str op), .im (.int .i64 ni), .im (.str txt), .im (.int .i64 tk), .im (.sl tts (encTs targs)), .nils]) = some (.agg (encN (mkN op ni txt (.mk tk tts targs) (swapNs v.sides.length args)))) := by
     simp [toDat, toDats, mkN, encN, ha0, encNs, swapNs]
    have hlv := fun L' => leave_one (H := H) (M := L') e1
    simp only [B0,B1,B2,List.replicate,reduceCtorEq,lenA,seval,B5,pairK,B4,stays,loadOf,endK,resA,tupA,hl',g4,g5,hlv]
   ·have ha0 : (swapNs v.sides.length args).length ≠ 0 := by rw [hml]; simpa using hes
    have e1 : toDat (.agg [.im (.str op), .im (.int .i64 ni), .im (.str txt), .im (.int .i64 tk), .im (.sl tts (encTs targs)), .asl 6 (args.map fun a => encN (swapN v.sides.length a)) tok]) = some (.agg (encN (mkN op ni txt (.mk tk tts targs) (swapNs v.sides.length args)))) := by
     simp only [toDat,toDats,mkN,encN,if_neg ha0,hm]
    have hlv := fun L' => leave_one (H := H) (M := L') e1
    simp only [B0,B1,B2,List.replicate,reduceCtorEq,lenA,seval,B5,pairK,B4,stays,loadOf,endK,resA,tupA,hl',g4,g5,hlv]
  ·simp only [f13,e13_0,B0,B1,B2,List.replicate,reduceCtorEq,lenA,seval,B5,pairK,B4,stays,loadOf,hlen,h0,h1,hsl,hel,d1,d2]
   generalize hr : thenL (Λ c13_0 _ _) _ = r
   refine Exists.elim (thenL_inv hr (key _ ?_ ?_ ?_ ?_ ?_ ?_ ?_)) ?_
   ·simp only [List.length_set,hlen]
   iterate 5 simp only [B3,seval,hlen]
   ·simp only [B3,seval,hlen]; first | done | rfl
   clear hr key
   rintro e ⟨tm', A', ⟨hl', rfl, g4, g5, J, x, rfl, hG⟩, rfl⟩
   rcases hG with ⟨hes, rfl⟩ | ⟨hes, tok, _, rfl, _⟩
   ·have ha0 : args = [] := by simpa using hes
    have e1 : toDat (.agg [.im (.str op), .im (.int .i64 ni), .im (.str txt), .im (.int .i64 tk), .im (.sl tts (encTs targs)), .nils]) = some (.agg (encN (mkN op ni txt (.mk tk tts targs) (swapNs v.sides.length args)))) := by
     simp [toDat, toDats, mkN, encN, ha0, encNs, swapNs]
    have hlv := fun L' => leave_one (H := H) (M := L') e1
    simp only [B0,B1,B2,List.replicate,reduceCtorEq,lenA,seval,B5,pairK,B4,stays,loadOf,endK,resA,tupA,hl',g4,g5,hlv]
   ·have ha0 : (swapNs v.sides.length args).length ≠ 0 := by rw [hml]; simpa using hes
    have e1 : toDat (.agg [.im (.str op), .im (.int .i64 ni), .im (.str txt), .im (.int .i64 tk), .im (.sl tts (encTs targs)), .asl 6 (args.map fun a => encN (swapN v.sides.length a)) tok]) = some (.agg (encN (mkN op ni txt (.mk tk tts targs) (swapNs v.sides.length args)))) := by
     simp only [toDat,toDats,mkN,encN,if_neg ha0,hm]
    have hlv := fun L' => leave_one (H := H) (M := L') e1
    simp only [B0,B1,B2,List.replicate,reduceCtorEq,lenA,seval,B5,pairK,B4,stays,loadOf,endK,resA,tupA,hl',g4,g5,hlv]
termination_by t => SizeOf.sizeOf t
decreasing_by
 have := List.sizeOf_lt_of_mem ha
 simp only [NT.mk.sizeOf_spec]
 omega
mutual
def holdsB : NT → Bool
 | .mk op _ txt _ _ kids => holdsBs kids || (decide (op = nameW) && decide (txt = [119]))
def holdsBs : List NT → Bool
 | [] => false
 | a :: l => holdsB a || holdsBs l
end
theorem l15 (kids : List NT) (s : Nat) (hs : kids = [] ∨ s = 6) (hn : kids.length ≤ 1000000) (hc : ∀ t ∈ kids, ∀ H, L 15 [.im (.agg (encN t))] H = some (.im (.bool (holdsB t)), H)) (H0 : Heap) :
  ∀ (m i : Nat), i + m = kids.length → ∀ (tm : List AV) (M : Heap), tm.length = 23 → tm.getD 6 undefA = .im (.sl s (kids.map encN)) → tm.getD 7 undefA = .im (.int .i64 kids.length) → tm.getD 8 undefA = .im (.int .i64 i) →
  ∃ e tm' H', Λ c15_0 tm (H0 ++ M) = some (e, tm', H') ∧ (tm'.length = 23 ∧ (∃ M', H' = H0 ++ M') ∧ ((e = .exit 0 ∧ tm'.getD 1 undefA = tm.getD 1 undefA ∧ holdsBs (kids.drop i) = false) ∨ (e = .ret ∧ holdsBs (kids.drop i) = true ∧ tm'.getD 2 undefA = .im (.bool true))))
 | 0, i, hi, tm, M, hlen, h6, h7, h8 => by
  have e : kids.drop i = [] := by rw [List.drop_eq_nil_iff]; omega
  have hc : decide ((i : Int) < (kids.length : Int)) = false := decide_eq_false (by omega)
  rw [l15_0, e]
  simp only [b15_0,B0,B1,B2,List.replicate,reduceCtorEq,lenA,seval,hlen,h6,h7,h8,hc]
  exact ⟨_, _, _, rfl, by simp only [List.length_set,hlen], ⟨M, rfl⟩, .inl ⟨rfl, by simp only [B3,seval,hlen], rfl⟩⟩
 | m + 1, i, hi, tm, M, hlen, h6, h7, h8 => by
  have hlt : i < kids.length := by omega
  obtain ⟨w, hwi⟩ : ∃ w, kids[i]? = some w := ⟨_, List.getElem?_eq_getElem hlt⟩
  have e : kids.drop i = w :: kids.drop (i + 1) := by
   rw [List.drop_eq_getElem_cons hlt]
   congr 1
   rw [List.getElem?_eq_getElem hlt] at hwi
   exact Option.some.inj hwi
  have hs2 : s = 6 := by
   rcases hs with hs | hs
   ·subst hs; simp at hlt
   ·exact hs
  subst hs2
  have hml : (kids.map encN).length = kids.length := List.length_map ..
  have hc' : decide ((i : Int) < (kids.length : Int)) = true := decide_eq_true (by omega)
  have hix := idx_nat (n := kids.length) (i := i) hlt
  have hgw : (kids.map encN)[i]? = some (encN w) := by rw [List.getElem?_map, hwi]; rfl
  have hcall := hc w (List.mem_of_getElem? hwi)
  have hwr := wrap_nat (i := i) (by omega)
  have key := l15 kids 6 hs hn hc H0 m (i + 1) (by omega)
  obtain ⟨wop, wi, wtx, wtk, wts, wta, ws, wk, hww⟩ := parts w
  have hNw : encN w = [.str wop, .int .i64 wi, .str wtx, .int .i64 wtk, .sl wts (encTs wta), .sl ws (encNs wk)] := by rw [hww]; simp only [encN]
  have hset0 : ∀ o o' : HO, (H0 ++ (M ++ [o])).set (H0.length + M.length) o' = H0 ++ (M ++ [o']) := fun o o' => by
   rw [← List.append_assoc, ← List.append_assoc, ← List.length_append, Go.Abs.hset0]; rfl
  have hgetA : ∀ o, (H0 ++ (M ++ [o]))[H0.length + M.length]? = some o := fun o => by
   rw [← List.append_assoc, ← List.length_append, Go.Abs.hget0]; rfl
  rw [l15_0, e]
  simp only [holdsBs]
  rw [hNw] at hcall hgw
  cases hb : holdsB w with
  | false =>
   rw [hb] at hcall
   rw [Bool.false_or]
   simp only [b15_0,B0,B1,B2,List.replicate,reduceCtorEq,lenA,seval,B5,pairK,B4,stays,loadOf,hlen,h6,h7,h8,hc',hml,hix,hgw,hcall,hwr,hgetA,hset0]
   refine ex_imp (key _ _ ?_ ?_ ?_ ?_) ?_
   iterate 4 simp only [B3,seval,hlen,h6,h7,h8]
   all_goals (try rfl)
   rintro e tm' H' ⟨hl', hM, hq⟩
   refine ⟨hl', hM, ?_⟩
   rcases hq with ⟨q1, q2, q3⟩ | q
   ·refine .inl ⟨q1, ?_, q3⟩
    rw [q2]; simp only [B3,seval,hlen]
   ·exact .inr q
  | true =>
   rw [hb] at hcall
   generalize hz : (true || holdsBs (kids.drop (i + 1))) = z
   rw [Bool.true_or] at hz
   simp only [b15_0,B0,B1,B2,List.replicate,reduceCtorEq,lenA,seval,B5,pairK,B4,stays,loadOf,hlen,h6,h7,h8,hc',hml,hix,hgw,hcall,hwr,hgetA,hset0]
   exact ⟨_, _, _, rfl, by simp only [List.length_set,hlen], ⟨_, rfl⟩, .inr ⟨rfl, hz.symm, by simp only [B3,seval,hlen]⟩⟩
theorem s15 : ∀ (t : NT), okN t → ∀ H, L 15 [.im (.agg (encN t))] H = some (.im (.bool (holdsB t)), H)
 | .mk op ni txt (.mk tk tts targs) s args, hok, H => by
  simp only [okN] at hok
  obtain ⟨hs, hn, hgt, hoks⟩ := hok
  have hc : ∀ a ∈ args, ∀ H, L 15 [.im (.agg (encN a))] H = some (.im (.bool (holdsB a)), H) := fun a ha H => s15 a (okNs_mem hoks a ha) H
  have hel : (args.map encN).length = args.length := List.length_map ..
  have key := l15 args s hs hn hc (H ++ [.obj none [[.im (.str op), .im (.int .i64 ni), .im (.str txt), .im (.int .i64 tk), .im (.sl tts (encTs targs)), .im (.sl s (args.map encN))]]]) args.length 0 (by omega)
  have key := fun tm => key tm []
  simp only [List.append_nil] at key
  simp only [encN,encNs_map,holdsB]
  rw [leq F15]
  obtain ⟨hlen, ha⟩ := enter_at (f := f15) (args := [.im (.agg [.str op, .int .i64 ni, .str txt, .int .i64 tk, .sl tts (encTs targs), .sl s (args.map encN)])]) (Nat.le_of_ble_eq_true rfl)
  have h0 := ha 0 _ rfl
  generalize enterA f15 [.im (.agg [.str op, .int .i64 ni, .str txt, .int .i64 tk, .sl tts (encTs targs), .sl s (args.map encN)])] = tm at *
  change tm.length = 23 at hlen
  simp only [f15,e15_0,B0,B1,B2,List.replicate,reduceCtorEq,lenA,seval,B5,pairK,B4,stays,loadOf,hlen,h0,hel]
  generalize hr : thenL (Λ c15_0 _ _) _ = r
  refine Exists.elim (thenL_inv hr (key _ ?_ ?_ ?_ ?_)) ?_
  ·simp only [List.length_set,hlen]
  iterate 2 simp only [B3,seval,hlen]
  ·simp only [B3,seval,hlen]; first | done | rfl
  clear hr key
  rintro e ⟨tm', H', ⟨hl', ⟨M, rfl⟩, hm⟩, rfl⟩
  simp only [B3,seval,hlen] at hm
  rw [List.drop_zero] at hm
  rcases hm with ⟨rfl, g1, hz⟩ | ⟨rfl, hz, g2⟩
  ·rw [hz, Bool.false_or]
   unfold nameW
   cases hq : decide (op = [110, 97, 109, 101]) <;> cases hq2 : decide (txt = [119]) <;>
    simp only [B0,B1,B2,List.replicate,reduceCtorEq,lenA,seval,B5,pairK,B4,stays,loadOf,endK,resA,tupA,hl',g1,hq,hq2,leave_app,Bool.and_self,Bool.and_false,Bool.false_and]
  ·rw [hz, Bool.true_or]
   simp only [B0,B1,B2,List.replicate,reduceCtorEq,lenA,seval,B5,pairK,B4,stays,loadOf,endK,resA,tupA,hl',g2,leave_app]
termination_by t => SizeOf.sizeOf t
decreasing_by
 have := List.sizeOf_lt_of_mem ha
 simp only [NT.mk.sizeOf_spec]
 omega
end Go.Abs.Seat
end
section
set_option linter.unusedVariables false
set_option linter.unusedSimpArgs false
namespace Go.Abs.Seat
open Go.Proofs
def letN (d s : NT) : NT := .mk [108, 101, 116] 0 [] (.mk 0 0 []) 6 [wN, d, s]
theorem wN_fine : fineN wN := by
 unfold wN nameW
 simp only [fineN,fineNs]
 exact ⟨by decide, by decide, by decide, .inl trivial, simp_ok 0, trivial⟩
theorem let_fine {d s : NT} (hd : fineN d) (hs : fineN s) : fineN (letN d s) := by
 have := wN_fine
 unfold letN
 simp only [fineN,fineNs]
 exact ⟨by decide, by decide, by decide, .inr trivial, simp_ok 0, this, hd, hs, trivial⟩
mutual
theorem swap_fine (n : Nat) : ∀ t : NT, fineN t → fineN (swapN n t)
 | .mk op i txt ty s kids, h => by
  simp only [fineN] at h
  have hk := swap_fines n kids h.2.2.2.2.2
  simp only [swapN]
  split
  ·exact wN_fine
  ·simp only [mkN,fineN]
   refine ⟨h.1, h.2.1, h.2.2.1, ?_, h.2.2.2.2.1, hk⟩
   by_cases h0 : (swapNs n kids).length = 0
   ·exact .inl (List.length_eq_zero_iff.1 h0)
   ·right; rw [if_neg h0]
theorem swap_fines (n : Nat) : ∀ l : List NT, fineNs l → fineNs (swapNs n l)
 | [], _ => trivial
 | a :: l, h => by
  simp only [fineNs] at h
  simp only [swapNs,fineNs]
  exact ⟨swap_fine n a h.1, swap_fines n l h.2⟩
end
mutual
theorem swap_ok (n : Nat) : ∀ t : NT, okN t → okN (swapN n t)
 | .mk op i txt ty s kids, h => by
  simp only [okN] at h
  have hk := swap_oks n kids h.2.2.2
  have hl : (swapNs n kids).length = kids.length := by rw [swapNs_map, List.length_map]
  simp only [swapN]
  split
  ·unfold wN
   simp only [okN,okNs]
   exact ⟨.inl trivial, by decide, ⟨simp_ok 0, by simp [slim, slims]⟩, trivial⟩
  ·simp only [mkN,okN]
   refine ⟨?_, by omega, h.2.2.1, hk⟩
   by_cases h0 : (swapNs n kids).length = 0
   ·exact .inl (List.length_eq_zero_iff.1 h0)
   ·right; rw [if_neg h0]
theorem swap_oks (n : Nat) : ∀ l : List NT, okNs l → okNs (swapNs n l)
 | [], _ => trivial
 | a :: l, h => by
  simp only [okNs] at h
  simp only [swapNs,okNs]
  exact ⟨swap_ok n a h.1, swap_oks n l h.2⟩
end
def withE (v : EnvT) (u : KT) : EnvT := ⟨cloneT v.it, 2, v.sides.map cloneT ++ [u]⟩
theorem with_h {v : EnvT} (h : EnvH v) {u : KT} (hu : okT u) (hn : v.sides.length ≤ 1000000) : EnvH (withE v u) := by
 refine ⟨clone_ok _ h.it, fun t ht => ?_, .inr rfl, by simp [withE]; omega⟩
 simp only [withE] at ht
 rcases List.mem_append.1 ht with ht | ht
 ·obtain ⟨x, hx, rfl⟩ := List.mem_map.1 ht
  exact clone_ok x (h.sides x hx)
 ·rw [List.mem_singleton.1 ht]; exact hu
def letsB (d n : NT) (v : EnvT) : Bool :=
 if smallE d v = true then (if smallE n v = true then (if 8 < (v.sides.length : Int) then true else (
  if (inferX (cloneN d) (envC v)).2.2 = 0 then (
   if (showX (letN (cloneN d) (cloneN (swapN v.sides.length n)))).2 = 0 then (if (showX (cloneN n)).2 = 0 then (if holdsB n = true then true else
    (if (inferX (letN (cloneN d) (cloneN (swapN v.sides.length n))) (envC v)).2.2 = (inferX (cloneN n) (withE v (inferX (cloneN d) (envC v)).1)).2.2 then (
     if (inferX (letN (cloneN d) (cloneN (swapN v.sides.length n))) (envC v)).2.2 = 0 then sameR (inferX (letN (cloneN d) (cloneN (swapN v.sides.length n))) (envC v)).1 (inferX (cloneN n) (withE v (inferX (cloneN d) (envC v)).1)).1 else true)
    else false))
    else true) else true)
  else true)) else true) else true
theorem ap_side (rows : List (List Dat)) (y : List Dat) (n : Nat) (hr : rows.length = n) (hn : n ≤ 100) : ∀ (A : Heap) (tok : Nat), A[tok]? = some (.hw 34 n) → appendA A 34 32 2 (.asl 2 rows tok) [y] = some (.asl 2 (rows ++ [y]) tok, A.set tok (.hw 34 (n + 1))) := fun A tok hA => by
 unfold appendA
 simp only [hA]
 rw [if_pos ⟨hr.symm, trivial, by simp only [List.length_cons,List.length_nil]; omega, by decide, trivial⟩, hr]
 rfl
theorem ap_none (y : List Dat) : ∀ (A : Heap), appendA A 34 32 2 .nils [y] = some (.asl 2 [y] A.length, A ++ [.hw 34 1]) := fun A => by
 unfold appendA
 simp only [List.length_cons,List.length_nil]
 rw [if_pos ⟨by decide, by decide⟩]
set_option maxHeartbeats 4000000 in
set_option maxRecDepth 8000 in
theorem law3 (d n : NT) (v : EnvT) (hd : handN d) (hn : handN n) (hv : EnvH v) (H : Heap) :
  L 3 [.im (.agg (encN d)), .im (.agg (encN n)), .im (.agg (encE v))] H = some (.im (.bool (letsB d n v)), H) := by
 have ca8 := fun H => s8 d v hd hv H
 have cb8 := fun H => s8 n v hn hv H
 have c9 := fun H => s9 H
 unfold letsB
 obtain ⟨vk, vt, va, hvit⟩ : ∃ k s a, v.it = .mk k s a := by
  cases hx : v.it with
  | mk k s a => exact ⟨k, s, a, rfl⟩
 have hE0 : encE v = [.int .i64 vk, .sl vt (encTs va), .sl v.ss (v.sides.map encT)] := by unfold encE; rw [hvit]; rfl
 obtain ⟨aop, ai, atx, ak, ats, ata, as', akd, hta⟩ := parts d
 obtain ⟨bop, bi, btx, bk, bts, bta, bs', bkd, htb⟩ := parts n
 have hNa : encN d = [.str aop, .int .i64 ai, .str atx, .int .i64 ak, .sl ats (encTs ata), .sl as' (encNs akd)] := by rw [hta]; simp only [encN]
 have hNb : encN n = [.str bop, .int .i64 bi, .str btx, .int .i64 bk, .sl bts (encTs bta), .sl bs' (encNs bkd)] := by rw [htb]; simp only [encN]
 have hml : (v.sides.map encT).length = v.sides.length := List.length_map ..
 have fin : ∀ r : Bool, (∀ tm : List AV, tm.length = 109 → tm.getD 0 undefA = .im (.agg (encN d)) → tm.getD 1 undefA = .im (.agg (encN n)) → tm.getD 2 undefA = .im (.agg (encE v)) → exec0 L Λ f3.code tm H (endK f3 H) = some (.im (.bool r), H)) → L 3 [.im (.agg (encN d)), .im (.agg (encN n)), .im (.agg (encE v))] H = some (.im (.bool r), H) := fun r hr => by
  rw [leq F3]
  obtain ⟨hlen, hx⟩ := enter_at (f := f3) (args := [.im (.agg (encN d)), .im (.agg (encN n)), .im (.agg (encE v))]) (Nat.le_of_ble_eq_true rfl)
  exact hr _ hlen (hx 0 _ rfl) (hx 1 _ rfl) (hx 2 _ rfl)
 rw [hNa, hNb, hE0] at fin
 rw [hNa, hE0] at ca8
 rw [hNb, hE0] at cb8
 rw [hNa, hNb, hE0]
 cases hsa : smallE d v with
 | false =>
  rw [if_neg Bool.false_ne_true]
  rw [hsa] at ca8
  refine fin _ fun tm hlen h0 h1 h2 => ?_
  simp only [f3,B0,B1,B2,List.replicate,reduceCtorEq,lenA,seval,B5,pairK,B4,stays,loadOf,endK,resA,tupA,hlen,h0,h1,h2,ca8,c9,dg_im,leave_app]
 | true =>
 rw [if_pos rfl]
 rw [hsa] at ca8
 cases hsb : smallE n v with
 | false =>
  rw [if_neg Bool.false_ne_true]
  rw [hsb] at cb8
  refine fin _ fun tm hlen h0 h1 h2 => ?_
  simp only [f3,B0,B1,B2,List.replicate,reduceCtorEq,lenA,seval,B5,pairK,B4,stays,loadOf,endK,resA,tupA,hlen,h0,h1,h2,ca8,cb8,c9,dg_im,leave_app]
 | true =>
 rw [if_pos rfl]
 rw [hsb] at cb8
 by_cases h8 : 8 < (v.sides.length : Int)
 ·rw [if_pos h8]
  have d8 : decide (8 < (v.sides.length : Int)) = true := decide_eq_true h8
  refine fin _ fun tm hlen h0 h1 h2 => ?_
  simp only [f3,B0,B1,B2,List.replicate,reduceCtorEq,lenA,seval,B5,pairK,B4,stays,loadOf,endK,resA,tupA,hlen,h0,h1,h2,ca8,cb8,c9,hml,d8,dg_im,leave_app]
 rw [if_neg h8]
 have d8 : decide (8 < (v.sides.length : Int)) = false := decide_eq_false h8
 obtain ⟨oka, fa, hs1, hs2, hs3⟩ := small_says hd hv hsa
 obtain ⟨okb, fb, _⟩ := small_says hn hv hsb
 have ca11 := fun H => s11 d oka H
 have cb11 := fun H => s11 n okb H
 have cs11 := fun H => s11 (swapN v.sides.length n) (swap_ok _ n okb) H
 have c12 := fun H => s12 v hv hs1 hs2 hs3 H
 have c13 := fun H => s13 v n okb H
 have c15 := fun H => s15 n okb H
 have gfa := clone_fine d fa
 have gfb := clone_fine n fb
 have gfs := clone_fine _ (swap_fine v.sides.length n fb)
 have hEh := envC_h hv
 have hpf := let_fine gfa gfs
 have ca14 := fun H => s14 (letN (cloneN d) (cloneN (swapN v.sides.length n))) hpf H
 have cb14 := fun H => s14 (cloneN n) gfb H
 have hu := infer_okT gfa hEh
 have hWh := with_h hv hu.1 hs3
 obtain ⟨sa, ia, ja⟩ := s10h (cloneN d) (envC v) gfa hEh
 obtain ⟨sl, il, jl⟩ := s10h (letN (cloneN d) (cloneN (swapN v.sides.length n))) (envC v) hpf hEh
 obtain ⟨sb, ib, jb⟩ := s10h (cloneN n) (withE v (inferX (cloneN d) (envC v)).1) gfb hWh
 have c16 := fun H => s16 (inferX (letN (cloneN d) (cloneN (swapN v.sides.length n))) (envC v)).1 (inferX (cloneN n) (withE v (inferX (cloneN d) (envC v)).1)).1 (infer_okT hpf hEh).1 (infer_okT gfb hWh).1 H
 change ∀ H, L 16 _ H = some (.im (.bool (sameR _ _)), H) at c16
 obtain ⟨aop2, ai2, atx2, ak2, ats2, ata2, as2, akd2, hta2⟩ := parts (cloneN d)
 obtain ⟨bop2, bi2, btx2, bk2, bts2, bta2, bs2, bkd2, htb2⟩ := parts (cloneN n)
 obtain ⟨cop2, ci2, ctx2, ck2, cts2, cta2, cs2, ckd2, htc2⟩ := parts (cloneN (swapN v.sides.length n))
 obtain ⟨cop, ci', ctx, ck, cts, cta, cs', ckd, htc⟩ := parts (swapN v.sides.length n)
 have hNc : encN (swapN v.sides.length n) = [.str cop, .int .i64 ci', .str ctx, .int .i64 ck, .sl cts (encTs cta), .sl cs' (encNs ckd)] := by rw [htc]; simp only [encN]
 have hMa : encN (cloneN d) = [.str aop2, .int .i64 ai2, .str atx2, .int .i64 ak2, .sl ats2 (encTs ata2), .sl as2 (encNs akd2)] := by rw [hta2]; simp only [encN]
 have hMb : encN (cloneN n) = [.str bop2, .int .i64 bi2, .str btx2, .int .i64 bk2, .sl bts2 (encTs bta2), .sl bs2 (encNs bkd2)] := by rw [htb2]; simp only [encN]
 have hMc : encN (cloneN (swapN v.sides.length n)) = [.str cop2, .int .i64 ci2, .str ctx2, .int .i64 ck2, .sl cts2 (encTs cta2), .sl cs2 (encNs ckd2)] := by rw [htc2]; simp only [encN]
 have hMp : encN (letN (cloneN d) (cloneN (swapN v.sides.length n))) = [.str [108, 101, 116], .int .i64 0, .str [], .int .i64 0, .sl 0 [], .sl 6 [[.str [110, 97, 109, 101], .int .i64 0, .str [119], .int .i64 0, .sl 0 [], .sl 0 []], [.str aop2, .int .i64 ai2, .str atx2, .int .i64 ak2, .sl ats2 (encTs ata2), .sl as2 (encNs akd2)], [.str cop2, .int .i64 ci2, .str ctx2, .int .i64 ck2, .sl cts2 (encTs cta2), .sl cs2 (encNs ckd2)]]] := by
  rw [← hMa, ← hMc]
  unfold letN wN nameW
  simp only [encN,encNs,encTs]
 have hWe : encE (withE v (inferX (cloneN d) (envC v)).1) = [.int .i64 (cloneT v.it).k, .sl (cloneT v.it).s (encTs (cloneT v.it).args), .sl 2 ((v.sides.map fun t => encT (cloneT t)) ++ [encT (inferX (cloneN d) (envC v)).1])] := by
  have hm : (v.sides.map cloneT).map encT = v.sides.map fun t => encT (cloneT t) := by rw [List.map_map]; rfl
  simp only [withE,encE,List.map_append,List.map_cons,List.map_nil,hm]
 have hCe : encE (envC v) = [.int .i64 (cloneT v.it).k, .sl (cloneT v.it).s (encTs (cloneT v.it).args), .sl (if v.sides.length = 0 then 0 else 2) (v.sides.map fun t => encT (cloneT t))] := by
  have hm : (v.sides.map cloneT).map encT = v.sides.map fun t => encT (cloneT t) := by rw [List.map_map]; rfl
  simp only [envC,encE,hm]
 rw [hWe] at ib
 rw [hCe] at ia il
 generalize (showX (letN (cloneN d) (cloneN (swapN v.sides.length n)))).2 = w at *
 generalize (showX (cloneN n)).2 = wn at *
 generalize inferX (letN (cloneN d) (cloneN (swapN v.sides.length n))) (envC v) = rl at *
 generalize inferX (cloneN n) (withE v (inferX (cloneN d) (envC v)).1) = rb at *
 generalize inferX (cloneN d) (envC v) = ra at *
 generalize holdsB n = hb at *
 obtain ⟨⟨ka, sta, ara⟩, pa, ea⟩ := ra
 obtain ⟨⟨kb, stb, arb⟩, pb, eb⟩ := rb
 obtain ⟨⟨kl, stl, arl⟩, pl, el⟩ := rl
 generalize sameR (.mk kl stl arl) (.mk kb stb arb) = q1 at *
 generalize cloneT v.it = ci at *
 obtain ⟨cik, cis, cia⟩ := ci
 generalize hrows : (v.sides.map fun t => encT (cloneT t)) = rows at *
 have hrl : rows.length = v.sides.length := by rw [← hrows, List.length_map]
 simp only [hMp,hMa,hMb,hMc,hE0,hNa,hNb,hNc,encT,KT.k,KT.s,KT.args] at ia il ib ca11 cb11 cs11 c12 c13 c15 ca14 cb14 c16
 have dp : ∀ x, dgA true (.agg [.im (.str [108, 101, 116]), .im (.int .i64 0), .im (.str []), .im (.int .i64 0), .nils, .im x]) = .im (.agg [.str [108, 101, 116], .int .i64 0, .str [], .int .i64 0, .sl 0 [], x]) := fun _ => rfl
 have td : ∀ a b : Dat, toDatss [[.im (.str [110, 97, 109, 101]), .im (.int .i64 0), .im (.str [119]), .im (.int .i64 0), .nils, .nils], [.im (.str aop2), .im (.int .i64 ai2), .im (.str atx2), .im (.int .i64 ak2), .im (.sl ats2 (encTs ata2)), .im a], [.im (.str cop2), .im (.int .i64 ci2), .im (.str ctx2), .im (.int .i64 ck2), .im (.sl cts2 (encTs cta2)), .im b]] = some [[.str [110, 97, 109, 101], .int .i64 0, .str [119], .int .i64 0, .sl 0 [], .sl 0 []], [.str aop2, .int .i64 ai2, .str atx2, .int .i64 ak2, .sl ats2 (encTs ata2), a], [.str cop2, .int .i64 ci2, .str ctx2, .int .i64 ck2, .sl cts2 (encTs cta2), b]] := fun _ _ => rfl
 have td2 : toDatss [[.im (.int .i64 ka), .im (.sl sta (encTs ara))]] = some [[.int .i64 ka, .sl sta (encTs ara)]] := rfl
 have de0 : ∀ x y, dgA true (.agg [.im x, .im y, .nils]) = .im (.agg [x, y, .sl 0 []]) := fun _ _ => rfl
 have de2 : ∀ x y es tok, dgA true (.agg [.im x, .im y, .asl 2 es tok]) = .im (.agg [x, y, .sl 2 es]) := fun _ _ _ _ => rfl
 have ap1 := fun A tok => ap_side rows [.int .i64 ka, .sl sta (encTs ara)] v.sides.length hrl (by omega) A tok
 have ap0 := ap_none [.int .i64 ka, .sl sta (encTs ara)]
 by_cases hv0 : v.sides = []
 ·have hr0 : rows = [] := by rw [← hrows, hv0]; rfl
  subst hr0
  have hl0 : v.sides.length = 0 := by rw [hv0]; rfl
  simp only [if_pos hv0] at c12
  simp only [List.nil_append] at ib
  rw [if_pos hl0] at ia il
  by_cases za : ea = 0
  rotate_left
  ·rw [if_neg za]
   have dza : (!decide (ea = 0)) = true := by rw [decide_eq_false za]; rfl
   refine fin _ fun tm hlen h0 h1 h2 => ?_
   simp only [f3,B0,B1,B2,List.replicate,reduceCtorEq,lenA,seval,B5,pairK,B4,stays,loadOf,endK,resA,tupA,hlen,h0,h1,h2,ca8,cb8,c9,hml,d8,ca11,cb11,cs11,c12,c13,c15,ca14,cb14,ia,il,ib,c16,dg_im,dp,td,td2,de0,de2,elems,ap0,dza,leave_app]
  rw [if_pos za]
  have dza : (!decide (ea = 0)) = false := by rw [decide_eq_true za]; rfl
  by_cases hw : w = 0
  rotate_left
  ·rw [if_neg hw]
   have zw : (!decide (w = 0)) = true := by rw [decide_eq_false hw]; rfl
   refine fin _ fun tm hlen h0 h1 h2 => ?_
   simp only [f3,B0,B1,B2,List.replicate,reduceCtorEq,lenA,seval,B5,pairK,B4,stays,loadOf,endK,resA,tupA,hlen,h0,h1,h2,ca8,cb8,c9,hml,d8,ca11,cb11,cs11,c12,c13,c15,ca14,cb14,ia,il,ib,c16,dg_im,dp,td,td2,de0,de2,elems,ap0,dza,zw,leave_app]
  rw [if_pos hw]
  have zw : (!decide (w = 0)) = false := by rw [decide_eq_true hw]; rfl
  by_cases hwn : wn = 0
  rotate_left
  ·rw [if_neg hwn]
   have zn : (!decide (wn = 0)) = true := by rw [decide_eq_false hwn]; rfl
   refine fin _ fun tm hlen h0 h1 h2 => ?_
   simp only [f3,B0,B1,B2,List.replicate,reduceCtorEq,lenA,seval,B5,pairK,B4,stays,loadOf,endK,resA,tupA,hlen,h0,h1,h2,ca8,cb8,c9,hml,d8,ca11,cb11,cs11,c12,c13,c15,ca14,cb14,ia,il,ib,c16,dg_im,dp,td,td2,de0,de2,elems,ap0,dza,zw,zn,leave_app]
  rw [if_pos hwn]
  have zn : (!decide (wn = 0)) = false := by rw [decide_eq_true hwn]; rfl
  cases hb with
  | true =>
   rw [if_pos rfl]
   refine fin _ fun tm hlen h0 h1 h2 => ?_
   simp only [f3,B0,B1,B2,List.replicate,reduceCtorEq,lenA,seval,B5,pairK,B4,stays,loadOf,endK,resA,tupA,hlen,h0,h1,h2,ca8,cb8,c9,hml,d8,ca11,cb11,cs11,c12,c13,c15,ca14,cb14,ia,il,ib,c16,dg_im,dp,td,td2,de0,de2,elems,ap0,dza,zw,zn,leave_app]
  | false =>
  rw [if_neg Bool.false_ne_true]
  by_cases heq : el = eb
  rotate_left
  ·rw [if_neg heq]
   have dq : decide (el = eb) = false := decide_eq_false heq
   refine fin _ fun tm hlen h0 h1 h2 => ?_
   simp only [f3,B0,B1,B2,List.replicate,reduceCtorEq,lenA,seval,B5,pairK,B4,stays,loadOf,endK,resA,tupA,hlen,h0,h1,h2,ca8,cb8,c9,hml,d8,ca11,cb11,cs11,c12,c13,c15,ca14,cb14,ia,il,ib,c16,dg_im,dp,td,td2,de0,de2,elems,ap0,dza,zw,zn,dq,leave_app]
  rw [if_pos heq]
  have dq : decide (el = eb) = true := decide_eq_true heq
  by_cases hz : el = 0
  rotate_left
  ·rw [if_neg hz]
   have dz : (!decide (el = 0)) = true := by rw [decide_eq_false hz]; rfl
   refine fin _ fun tm hlen h0 h1 h2 => ?_
   simp only [f3,B0,B1,B2,List.replicate,reduceCtorEq,lenA,seval,B5,pairK,B4,stays,loadOf,endK,resA,tupA,hlen,h0,h1,h2,ca8,cb8,c9,hml,d8,ca11,cb11,cs11,c12,c13,c15,ca14,cb14,ia,il,ib,c16,dg_im,dp,td,td2,de0,de2,elems,ap0,dza,zw,zn,dq,dz,leave_app]
  ·rw [if_pos hz]
   have dz : (!decide (el = 0)) = false := by rw [decide_eq_true hz]; rfl
   refine fin _ fun tm hlen h0 h1 h2 => ?_
   cases q1 <;> simp only [f3,B0,B1,B2,List.replicate,reduceCtorEq,lenA,seval,B5,pairK,B4,stays,loadOf,endK,resA,tupA,hlen,h0,h1,h2,ca8,cb8,c9,hml,d8,ca11,cb11,cs11,c12,c13,c15,ca14,cb14,ia,il,ib,c16,dg_im,dp,td,td2,de0,de2,elems,ap0,dza,zw,zn,dq,dz,leave_app]
 ·have hl0 : v.sides.length ≠ 0 := fun h => hv0 (List.length_eq_zero_iff.1 h)
  simp only [if_neg hv0] at c12
  rw [if_neg hl0] at ia il
  by_cases za : ea = 0
  rotate_left
  ·rw [if_neg za]
   have dza : (!decide (ea = 0)) = true := by rw [decide_eq_false za]; rfl
   refine fin _ fun tm hlen h0 h1 h2 => ?_
   simp only [f3,B0,B1,B2,List.replicate,reduceCtorEq,lenA,seval,B5,pairK,B4,stays,loadOf,endK,resA,tupA,hlen,h0,h1,h2,ca8,cb8,c9,hml,d8,ca11,cb11,cs11,c12,c13,c15,ca14,cb14,ia,il,ib,c16,dg_im,dp,td,td2,de0,de2,elems,ap1,dza,leave_app]
  rw [if_pos za]
  have dza : (!decide (ea = 0)) = false := by rw [decide_eq_true za]; rfl
  by_cases hw : w = 0
  rotate_left
  ·rw [if_neg hw]
   have zw : (!decide (w = 0)) = true := by rw [decide_eq_false hw]; rfl
   refine fin _ fun tm hlen h0 h1 h2 => ?_
   simp only [f3,B0,B1,B2,List.replicate,reduceCtorEq,lenA,seval,B5,pairK,B4,stays,loadOf,endK,resA,tupA,hlen,h0,h1,h2,ca8,cb8,c9,hml,d8,ca11,cb11,cs11,c12,c13,c15,ca14,cb14,ia,il,ib,c16,dg_im,dp,td,td2,de0,de2,elems,ap1,dza,zw,leave_app]
  rw [if_pos hw]
  have zw : (!decide (w = 0)) = false := by rw [decide_eq_true hw]; rfl
  by_cases hwn : wn = 0
  rotate_left
  ·rw [if_neg hwn]
   have zn : (!decide (wn = 0)) = true := by rw [decide_eq_false hwn]; rfl
   refine fin _ fun tm hlen h0 h1 h2 => ?_
   simp only [f3,B0,B1,B2,List.replicate,reduceCtorEq,lenA,seval,B5,pairK,B4,stays,loadOf,endK,resA,tupA,hlen,h0,h1,h2,ca8,cb8,c9,hml,d8,ca11,cb11,cs11,c12,c13,c15,ca14,cb14,ia,il,ib,c16,dg_im,dp,td,td2,de0,de2,elems,ap1,dza,zw,zn,leave_app]
  rw [if_pos hwn]
  have zn : (!decide (wn = 0)) = false := by rw [decide_eq_true hwn]; rfl
  cases hb with
  | true =>
   rw [if_pos rfl]
   refine fin _ fun tm hlen h0 h1 h2 => ?_
   simp only [f3,B0,B1,B2,List.replicate,reduceCtorEq,lenA,seval,B5,pairK,B4,stays,loadOf,endK,resA,tupA,hlen,h0,h1,h2,ca8,cb8,c9,hml,d8,ca11,cb11,cs11,c12,c13,c15,ca14,cb14,ia,il,ib,c16,dg_im,dp,td,td2,de0,de2,elems,ap1,dza,zw,zn,leave_app]
  | false =>
  rw [if_neg Bool.false_ne_true]
  by_cases heq : el = eb
  rotate_left
  ·rw [if_neg heq]
   have dq : decide (el = eb) = false := decide_eq_false heq
   refine fin _ fun tm hlen h0 h1 h2 => ?_
   simp only [f3,B0,B1,B2,List.replicate,reduceCtorEq,lenA,seval,B5,pairK,B4,stays,loadOf,endK,resA,tupA,hlen,h0,h1,h2,ca8,cb8,c9,hml,d8,ca11,cb11,cs11,c12,c13,c15,ca14,cb14,ia,il,ib,c16,dg_im,dp,td,td2,de0,de2,elems,ap1,dza,zw,zn,dq,leave_app]
  rw [if_pos heq]
  have dq : decide (el = eb) = true := decide_eq_true heq
  by_cases hz : el = 0
  rotate_left
  ·rw [if_neg hz]
   have dz : (!decide (el = 0)) = true := by rw [decide_eq_false hz]; rfl
   refine fin _ fun tm hlen h0 h1 h2 => ?_
   simp only [f3,B0,B1,B2,List.replicate,reduceCtorEq,lenA,seval,B5,pairK,B4,stays,loadOf,endK,resA,tupA,hlen,h0,h1,h2,ca8,cb8,c9,hml,d8,ca11,cb11,cs11,c12,c13,c15,ca14,cb14,ia,il,ib,c16,dg_im,dp,td,td2,de0,de2,elems,ap1,dza,zw,zn,dq,dz,leave_app]
  ·rw [if_pos hz]
   have dz : (!decide (el = 0)) = false := by rw [decide_eq_true hz]; rfl
   refine fin _ fun tm hlen h0 h1 h2 => ?_
   cases q1 <;> simp only [f3,B0,B1,B2,List.replicate,reduceCtorEq,lenA,seval,B5,pairK,B4,stays,loadOf,endK,resA,tupA,hlen,h0,h1,h2,ca8,cb8,c9,hml,d8,ca11,cb11,cs11,c12,c13,c15,ca14,cb14,ia,il,ib,c16,dg_im,dp,td,td2,de0,de2,elems,ap1,dza,zw,zn,dq,dz,leave_app]
end Go.Abs.Seat
end
