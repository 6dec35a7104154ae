/- Part 5 of what the claim rests on. -/
import Derived.Test.YtobnhbbcegeljaaDoorParsesA
import Derived.Test.YtobnhbbcegeljaaDoorParsesB
import Derived.Test.YtobnhbbcegeljaaDoorParsesC
import Derived.Test.YtobnhbbcegeljaaDoorParsesD
section
set_option linter.unusedVariables false
set_option linter.unusedSimpArgs false
namespace Go.Abs.Seat
open Go.Proofs
inductive KT where
 | mk (k : Int) (s : Nat) (args : List KT)
def KT.k : KT → Int
 | .mk k _ _ => k
def KT.s : KT → Nat
 | .mk _ s _ => s
def KT.args : KT → List KT
 | .mk _ _ args => args
mutual
def encT : KT → List Dat
 | .mk k s args => [.int .i64 k, .sl s (encTs args)]
def encTs : List KT → List (List Dat)
 | [] => []
 | a :: l => encT a :: encTs l
end
theorem encTs_map : ∀ l : List KT, encTs l = l.map encT
 | [] => rfl
 | a :: l => by simp only [encTs,List.map_cons,encTs_map l]
mutual
def okT : KT → Prop
 | .mk _ s args => (args = [] ∨ s = 2) ∧ args.length ≤ 9223372036854775807 ∧ okTs args
def okTs : List KT → Prop
 | [] => True
 | a :: l => okT a ∧ okTs l
end
theorem okTs_mem : ∀ {l : List KT}, okTs l → ∀ a ∈ l, okT a
 | [], _, a, h => by simp at h
 | b :: l, h, a, hm => by
  simp only [okTs] at h
  rcases List.mem_cons.1 hm with rfl | hm
  ·exact h.1
  ·exact okTs_mem h.2 a hm
end Go.Abs.Seat
end
section
set_option linter.unusedVariables false
set_option linter.unusedSimpArgs false
namespace Go.Abs.Seat
open Go.Proofs
def datW (w : Word) : List Dat := [.int .i64 w.1, .str w.2.1, .int .i64 w.2.2]
def zeroW : Word := (0, [], 0)
def Asks (p : Word → Bool) (g : FuncId) (cap : List AV) (n idw : Nat) (H : Heap) (rows : List Word) : Prop :=
 ∀ w ∈ rows, ∀ H' : Heap, (∀ i, i < n → i ≠ idw → H'[i]? = H[i]?) → n ≤ H'.length → L g ([.im (.agg (datW w))] ++ cap) H' = some (.im (.bool (p w)), H')
theorem drop_cons {α : Type} {l : List α} {i : Nat} (h : i < l.length) : ∃ w, l[i]? = some w ∧ l.drop i = w :: l.drop (i + 1) := by
 refine ⟨_, List.getElem?_eq_getElem h, ?_⟩
 rw [List.drop_eq_getElem_cons h]
theorem l89g (rows : List Word) (rest : List Word) (idw : Nat) (H : Heap) (hw : H[idw]? = some (.obj none ((rows ++ rest).map encW))) (p : Word → Bool) (g : FuncId) (cap : List AV) (hp : Asks p g cap H.length idw H rows) (hn : rows.length ≤ 9223372036854775807) :
  ∀ (m i : Nat), i + m = rows.length → ∀ tm : List AV, tm.length = 19 → tm.getD 0 undefA = .ms 3 idw 0 rows.length → tm.getD 1 undefA = .clo g cap → tm.getD 6 undefA = .ms 3 idw 0 rows.length → tm.getD 7 undefA = .im (.int .i64 rows.length) → tm.getD 8 undefA = .im (.int .i64 i) →
  ∃ e tm' H', Λ c89_0 tm H = some (e, tm', H') ∧ tm'.length = 19 ∧ H' = H ∧ match (rows.drop i).findIdx? p with
   | some j => e = .ret ∧ tm'.getD 4 undefA = .im (.int .i64 ((i + j : Nat) : Int))
   | none => e = .exit 0
 | 0, i, hi, tm, hlen, h0, h1, h6, h7, h8 => by
  have e : rows.drop i = [] := by rw [List.drop_eq_nil_iff]; omega
  have hc : decide ((i : Int) < (rows.length : Int)) = false := decide_eq_false (by omega)
  rw [e, l89_0]
  simp only [b89_0,B0,B1,B2,List.replicate,Nat.reduceAdd,Nat.reduceSub,Nat.reduceLeDiff,Nat.reduceLT,Nat.reduceEqDiff,reduceCtorEq,Int.reduceEq,Int.reduceLT,Int.reduceLE,lenA,hlen,h0,h1,h6,h7,h8,hc,List.findIdx?_nil]
  exact ⟨_, _, _, rfl, by simp only [List.length_set,hlen], rfl, rfl⟩
 | m + 1, i, hi, tm, hlen, h0, h1, h6, h7, h8 => by
  have hlt : i < rows.length := by omega
  obtain ⟨w, hwi, e⟩ := drop_cons hlt
  have hc : decide ((i : Int) < (rows.length : Int)) = true := decide_eq_true (by omega)
  have hix := idx_nat hlt
  have hget : ((rows ++ rest).map encW)[i]? = some (encW w) := by rw [List.getElem?_map, List.getElem?_append_left hlt, hwi]; rfl
  have hcall := hp w (List.mem_of_getElem? hwi) H (fun _ _ _ => rfl) (Nat.le_refl _)
  have hwr := wrap_nat (i := i) (by omega)
  have key := l89g rows rest idw H hw p g cap hp hn m (i + 1) (by omega)
  rw [e, List.findIdx?_cons, l89_0]
  simp only [datW,List.cons_append,List.nil_append] at hcall
  cases hk : p w with
  | true =>
   rw [hk] at hcall
   simp only [b89_0,B0,B1,B2,List.replicate,Nat.reduceAdd,Nat.reduceSub,Nat.reduceLeDiff,Nat.reduceLT,Nat.reduceEqDiff,reduceCtorEq,Int.reduceEq,Int.reduceLT,Int.reduceLE,lenA,hlen,h0,h1,h6,h7,h8,hc,hix,hw,hget,encW,hcall]
   exact ⟨_, _, _, rfl, by simp only [List.length_set,hlen], rfl, rfl, by simp only [B3,Nat.reduceLT,Nat.reduceEqDiff,hlen]⟩
  | false =>
   rw [hk] at hcall
   simp only [b89_0,B0,B1,B2,List.replicate,Nat.reduceAdd,Nat.reduceSub,Nat.reduceLeDiff,Nat.reduceLT,Nat.reduceEqDiff,reduceCtorEq,Int.reduceEq,Int.reduceLT,Int.reduceLE,lenA,hlen,h0,h1,h6,h7,h8,hc,hix,hw,hget,encW,hcall,hwr]
   cases hf : (rows.drop (i + 1)).findIdx? p with
   | none =>
    simp only [hf] at key
    simp only [Option.map_none]
    apply key
    all_goals simp only [B3,Nat.reduceLT,Nat.reduceEqDiff,hlen,h0,h1,h6,h7]
   | some j =>
    simp only [hf] at key
    simp only [Option.map_some]
    rw [show i + (j + 1) = i + 1 + j by omega]
    apply key
    all_goals simp only [B3,Nat.reduceLT,Nat.reduceEqDiff,hlen,h0,h1,h6,h7]
theorem s89g (rows : List Word) (rest : List Word) (idw : Nat) (H : Heap) (hw : H[idw]? = some (.obj none ((rows ++ rest).map encW))) (p : Word → Bool) (g : FuncId) (cap : List AV) (hp : Asks p g cap H.length idw H rows) (hn : rows.length ≤ 9223372036854775807) :
  L 89 [.ms 3 idw 0 rows.length, .clo g cap] H = some (.im (.int .i64 (match rows.findIdx? p with | some j => ((j : Nat) : Int) | none => -1)), H) := by
 rw [leq F89]
 obtain ⟨hlen, ha⟩ := enter_at (f := f89) (args := [.ms 3 idw 0 rows.length, .clo g cap]) (Nat.le_of_ble_eq_true rfl)
 have h0 := ha 0 _ rfl
 have h1 := ha 1 _ rfl
 generalize enterA f89 [.ms 3 idw 0 rows.length, .clo g cap] = tm at *
 change tm.length = 19 at hlen
 have key := l89g rows rest idw H hw p g cap hp hn rows.length 0 (by omega)
 have z : ((0 : Nat) : Int) = 0 := rfl
 simp only [List.drop_zero,Nat.zero_add,z] at key
 simp only [f89,e89_0,B0,B1,B2,List.replicate,Nat.reduceAdd,Nat.reduceSub,Nat.reduceLeDiff,Nat.reduceLT,Nat.reduceEqDiff,reduceCtorEq,Int.reduceEq,Int.reduceLT,Int.reduceLE,lenA,hlen,h0,h1]
 refine thenL_of (key _ ?_ ?_ ?_ ?_ ?_ ?_) ?_
 iterate 6 simp only [B3,Nat.reduceLT,Nat.reduceEqDiff,hlen,h0,h1]
 rintro e tm' H' ⟨hl', rfl, hm⟩
 cases hf : rows.findIdx? p with
 | none =>
  simp only [hf] at hm
  subst hm
  simp only [B0,B1,B2,List.replicate,Nat.reduceAdd,Nat.reduceSub,Nat.reduceLeDiff,Nat.reduceLT,Nat.reduceEqDiff,reduceCtorEq,Int.reduceEq,Int.reduceLT,Int.reduceLE,lenA,endK,resA,tupA,hl',leave_same]
 | some j =>
  simp only [hf] at hm
  obtain ⟨rfl, h4⟩ := hm
  simp only [B0,B1,B2,List.replicate,Nat.reduceAdd,Nat.reduceSub,Nat.reduceLeDiff,Nat.reduceLT,Nat.reduceEqDiff,reduceCtorEq,Int.reduceEq,Int.reduceLT,Int.reduceLE,lenA,endK,resA,tupA,hl',leave_same,h4]
theorem l107 (rows rest : List Word) (idw n : Nat) (H0 : Heap) (hnn : n ≤ H0.length) (hidw : idw < n) (p : Word → Bool) (g : FuncId) (cap : List AV) (hp : Asks p g cap n idw H0 rows) (hn : rows.length ≤ 9223372036854775806) :
  ∀ (m j : Nat), j + m = rows.length → ∀ (tm : List AV) (H : Heap) (fl cw : List Word), But n idw H0 H → (rows.take j).filter (fun w => !p w) = fl → fl.length ≤ j → cw.take fl.length = fl → cw.drop j = rows.drop j ++ rest → cw.length = rows.length + rest.length → H[idw]? = some (.obj none (cw.map encW)) →
  tm.length = 42 → tm.getD 0 undefA = .ms 3 idw 0 rows.length → tm.getD 1 undefA = .clo g cap → tm.getD 5 undefA = .im (.int .i64 (fl.length : Int)) → tm.getD 6 undefA = .im (.int .i64 j) →
  ∃ e tm' H', Λ c107_0 tm H = some (e, tm', H') ∧ tm'.length = 42 ∧ e = .exit 0 ∧ But n idw H0 H' ∧ tm'.getD 0 undefA = .ms 3 idw 0 rows.length ∧ ∃ fl' cw' : List Word, rows.filter (fun w => !p w) = fl' ∧ tm'.getD 5 undefA = .im (.int .i64 (fl'.length : Int)) ∧
   fl'.length ≤ rows.length ∧ cw'.take fl'.length = fl' ∧ cw'.drop rows.length = rest ∧ cw'.length = rows.length + rest.length ∧ H'[idw]? = some (.obj none (cw'.map encW))
 | 0, j, hj, tm, H, fl, cw, hb, hfl, hle, htake, hdrop, hcw, ho, hlen, h0, h1, h5, h6 => by
  have hj' : j = rows.length := by omega
  subst hj'
  have hc : decide ((rows.length : Int) < (rows.length : Int)) = false := decide_eq_false (by omega)
  rw [List.take_length] at hfl
  rw [List.drop_length, List.nil_append] at hdrop
  rw [l107_0]
  simp only [b107_0,B0,B1,B2,List.replicate,Nat.reduceAdd,Nat.reduceSub,Nat.reduceLeDiff,Nat.reduceLT,Nat.reduceEqDiff,reduceCtorEq,Int.reduceEq,Int.reduceLT,Int.reduceLE,lenA,hlen,h0,h1,h5,h6,hc]
  exact ⟨_, _, _, rfl, by simp only [List.length_set,hlen], rfl, hb, by simp only [B3,Nat.reduceLT,Nat.reduceEqDiff,hlen,h0], fl, cw, hfl, by simp only [B3,Nat.reduceLT,Nat.reduceEqDiff,hlen,h5], hle, htake, hdrop, hcw, ho⟩
 | m + 1, j, hj, tm, H, fl, cw, hb, hfl, hle, htake, hdrop, hcw, ho, hlen, h0, h1, h5, h6 => by
  have hlt : j < rows.length := by omega
  obtain ⟨w, hwi, e⟩ := drop_cons hlt
  have hc : decide ((j : Int) < (rows.length : Int)) = true := decide_eq_true (by omega)
  have hix := idx_nat hlt
  have htk : rows.take (j + 1) = rows.take j ++ [w] := by rw [List.take_add_one, hwi]; rfl
  have hcj : cw[j]? = some w := by
   have : (cw.drop j)[0]? = some w := by rw [hdrop, e]; rfl
   rwa [List.getElem?_drop, Nat.add_zero] at this
  have hcl : j < cw.length := (List.getElem?_eq_some_iff.1 hcj).1
  have hget : (cw.map encW)[j]? = some (encW w) := by rw [List.getElem?_map, hcj]; rfl
  have hlt2 : idw < H.length := by have := hb.1; omega
  have hb1 := hb.app hnn [.obj none [encW w]]
  have hcall := hp w (List.mem_of_getElem? hwi) (H ++ [.obj none [encW w]]) (fun i hi hne => hb1.2 i hi hne) (by have := hb1.1; omega)
  have hwr := wrap_nat (i := j) (by omega)
  have key := l107 rows rest idw n H0 hnn hidw p g cap hp hn m (j + 1) (by omega)
  rw [htk, List.filter_append, hfl] at key
  have hoa : ∀ M : Heap, (H ++ M)[idw]? = some (.obj none (cw.map encW)) := fun M => by rw [List.getElem?_append_left hlt2]; exact ho
  have hd1 : cw.drop (j + 1) = rows.drop (j + 1) ++ rest := by
   have := congrArg (List.drop 1) hdrop
   rw [List.drop_drop, e] at this
   simpa using this
  rw [l107_0]
  simp only [datW,encW,List.cons_append,List.nil_append] at hcall hget hb1
  cases hk : p w with
  | true =>
   rw [hk] at hcall
   have hf : ([w].filter fun w => !p w) = [] := by simp [hk]
   rw [hf, List.append_nil] at key
   simp only [b107_0,B0,B1,B2,List.replicate,Nat.reduceAdd,Nat.reduceSub,Nat.reduceLeDiff,Nat.reduceLT,Nat.reduceEqDiff,reduceCtorEq,Int.reduceEq,Int.reduceLT,Int.reduceLE,lenA,hlen,h0,h1,h5,h6,hc,hix,ho,hget,hcall,hwr]
   refine ex_imp (key _ _ fl cw hb1 rfl (by omega) htake hd1 hcw (hoa _) ?_ ?_ ?_ ?_ ?_) fun _ _ _ h => h
   all_goals simp only [B3,Nat.reduceLT,Nat.reduceEqDiff,hlen,h0,h1,h5]
  | false =>
   rw [hk] at hcall
   have hf : ([w].filter fun w => !p w) = [w] := by simp [hk]
   rw [hf] at key
   have hix5 := idx_nat (i := fl.length) (n := rows.length) (by omega)
   have hwr5 := wrap_nat (i := fl.length) (by omega)
   have hg5 : (cw.map encW)[fl.length]? = some (encW (cw[fl.length]'(by omega))) := by
    rw [List.getElem?_map, List.getElem?_eq_getElem (by omega)]; rfl
   have hset : (cw.map encW).set fl.length (encW w) = (cw.set fl.length w).map encW := by rw [List.map_set]
   generalize cw[fl.length]'(by omega) = u at hg5
   have hb2 := hb1.set (.obj none ((cw.map encW).set fl.length (encW w)))
   rw [hset] at hb2
   simp only [encW] at hset hg5
   simp only [b107_0,B0,B1,B2,List.replicate,Nat.reduceAdd,Nat.reduceSub,Nat.reduceLeDiff,Nat.reduceLT,Nat.reduceEqDiff,reduceCtorEq,Int.reduceEq,Int.reduceLT,Int.reduceLE,lenA,hlen,h0,h1,h5,h6,hc,hix,ho,hget,hcall,hwr,hix5,hwr5,hoa,hg5,hset]
   refine ex_imp (key _ _ (fl ++ [w]) (cw.set fl.length w) hb2 rfl (by simp; omega) ?_ ?_ (by simpa using hcw) ?_ ?_ ?_ ?_ ?_ ?_) fun _ _ _ h => h
   ·rw [List.length_append, List.length_singleton, List.take_add_one, List.take_set_of_le (Nat.le_refl _), htake, List.getElem?_set_self (by omega)]
    rfl
   ·rw [List.drop_set_of_lt (by omega)]; exact hd1
   ·rw [List.getElem?_set_self (by simp; omega)]
   ·simp only [B3,Nat.reduceLT,Nat.reduceEqDiff,hlen]
   ·simp only [B3,Nat.reduceLT,Nat.reduceEqDiff,hlen,h0]
   ·simp only [B3,Nat.reduceLT,Nat.reduceEqDiff,hlen,h1]
   ·simp only [B3,Nat.reduceLT,Nat.reduceEqDiff,hlen,List.length_append,List.length_cons,List.length_nil,Nat.zero_add]
   ·simp only [B3,Nat.reduceLT,Nat.reduceEqDiff,hlen]
def msOf (idw k : Nat) : AV := if 0 < k then .ms 3 idw 0 k else .im (.sl 3 [])
theorem refs_words (n : Nat) (cw : List Word) : refsO n (.obj none (cw.map encW)) = true := by
 simp only [refsO,List.all_eq_true,List.mem_map]
 rintro e ⟨w, _, rfl⟩
 rfl
theorem s107 (rows rest : List Word) (idw : Nat) (H : Heap) (hw : H[idw]? = some (.obj none ((rows ++ rest).map encW))) (p : Word → Bool) (g : FuncId) (cap : List AV) (hp : Asks p g cap H.length idw H rows) (hn : rows.length ≤ 9223372036854775806) (hne : rows ≠ []) :
  ∃ rest' : List Word, L 107 [.ms 3 idw 0 rows.length, .clo g cap] H = some (msOf idw (rows.filter fun w => !p w).length, H.set idw (.obj none (((rows.filter fun w => !p w) ++ rest').map encW))) := by
 have hidw := (List.getElem?_eq_some_iff.1 hw).1
 have h76 := s89g rows rest idw H hw p g cap hp (by omega)
 rw [leq F107]
 have hK : ∀ (tm : List AV) (H' : Heap) (v : AV) (o : HO), tm.length = 42 → tm.getD 4 undefA = v → But H.length idw H H' → H'[idw]? = some o → refsO H.length o = true → refsLt H.length v = true → endK f107 H .ret tm H' = some (v, H.set idw o) := fun tm H' v o hl h hb ho hro hr => by
  have := leave_but (keep := true) (r := v) hb ho hro (by simpa using hr) hidw
  simp only [endK,f107,resA,h,tupA,this,if_true]
 have hcode : f107.code = f107.code := rfl
 conv at hcode => rhs; simp only [f107]
 rw [hcode]
 clear hcode
 generalize endK f107 H = K at *
 obtain ⟨hlen, ha⟩ := enter_at (f := f107) (args := [.ms 3 idw 0 rows.length, .clo g cap]) (Nat.le_of_ble_eq_true rfl)
 have h0 := ha 0 _ rfl
 have h1 := ha 1 _ rfl
 generalize enterA f107 [.ms 3 idw 0 rows.length, .clo g cap] = tm at *
 change tm.length = 42 at hlen
 cases hf : rows.findIdx? p with
 | none =>
  rw [hf] at h76
  have hall : rows.filter (fun w => !p w) = rows := by
   rw [List.findIdx?_eq_none_iff] at hf
   rw [List.filter_eq_self]
   intro a ha
   simp [hf a ha]
  rw [hall]
  refine ⟨rest, ?_⟩
  have hpos : 0 < rows.length := List.length_pos_iff.2 hne
  simp only [B0,B1,B2,List.replicate,Nat.reduceAdd,Nat.reduceSub,Nat.reduceLeDiff,Nat.reduceLT,Nat.reduceEqDiff,reduceCtorEq,Int.reduceEq,Int.reduceLT,Int.reduceLE,lenA,hlen,h0,h1,h76]
  refine hK _ _ _ _ (by simp only [List.length_set,hlen]) (by simp only [B3,Nat.reduceLT,Nat.reduceEqDiff,hlen,msOf,if_pos hpos]) But.refl hw (refs_words _ _) ?_
  simp only [msOf,if_pos hpos,refsLt,hidw,decide_true]
 | some j =>
  rw [hf] at h76
  obtain ⟨hjl, hpj, hbefore⟩ := List.findIdx?_eq_some_iff_getElem.1 hf
  have hfl : (rows.take (j + 1)).filter (fun w => !p w) = rows.take j := by
   rw [List.take_add_one, List.getElem?_eq_getElem hjl, List.filter_append]
   simp only [Option.toList_some,List.filter_cons,hpj,Bool.not_true,Bool.false_eq_true,if_false,List.filter_nil,List.append_nil]
   rw [List.filter_eq_self]
   intro a ha
   obtain ⟨i, hi, rfl⟩ := List.getElem_of_mem ha
   simp only [List.length_take] at hi
   rw [List.getElem_take]
   have := hbefore i (by omega)
   simpa using this
  have htl : (rows.take j).length = j := by simp; omega
  have hne1 : decide (((j : Nat) : Int) = -1) = false := decide_eq_false (by omega)
  have hwr := wrap_nat (i := j) (by omega)
  have key := l107 rows rest idw H.length H (Nat.le_refl _) hidw p g cap hp hn (rows.length - (j + 1)) (j + 1) (by omega)
  simp only [e107_0,B0,B1,B2,List.replicate,Nat.reduceAdd,Nat.reduceSub,Nat.reduceLeDiff,Nat.reduceLT,Nat.reduceEqDiff,reduceCtorEq,Int.reduceEq,Int.reduceLT,Int.reduceLE,lenA,hlen,h0,h1,h76,hne1,hwr]
  refine thenL_ex (fun r => ∃ rest' : List Word, r = some (msOf idw (rows.filter fun w => !p w).length, H.set idw (.obj none (((rows.filter fun w => !p w) ++ rest').map encW)))) (key _ _ (rows.take j) (rows ++ rest) But.refl hfl (by omega) ?_ ?_ (by simp) hw ?_ ?_ ?_ ?_ ?_) ?_
  ·rw [htl, List.take_append_of_le_length (by omega)]
  ·rw [List.drop_append_of_le_length (by omega)]
  ·simp only [B3,Nat.reduceLT,Nat.reduceEqDiff,hlen]
  ·simp only [B3,Nat.reduceLT,Nat.reduceEqDiff,hlen,h0]
  ·simp only [B3,Nat.reduceLT,Nat.reduceEqDiff,hlen,h1]
  ·simp only [B3,Nat.reduceLT,Nat.reduceEqDiff,hlen,htl]
  ·simp only [B3,Nat.reduceLT,Nat.reduceEqDiff,hlen]
  rintro e tm1 H1 ⟨hl1, rfl, hb, a0, fl, cw, hfl', a5, hle, htk, hdr, hcw, ho⟩
  rw [hfl']
  have hlt : fl.length < rows.length := by
   have h1 : fl.length < rows.length := by
    rw [← hfl']
    have := List.length_filter_lt_length_iff_exists (p := fun w => !p w) (l := rows)
    rw [this]
    exact ⟨rows[j], List.getElem_mem hjl, by simp [hpj]⟩
   exact h1
  have hcl : rows.length ≤ cw.length := by omega
  have hnn : (0 : Int) ≤ (fl.length : Int) := Int.natCast_nonneg _
  have hc1 : fl.length + (rows.length - fl.length) ≤ cw.length := by omega
  have hmap : List.take fl.length (cw.map encW) ++ (List.replicate (rows.length - fl.length) [.im (.int .i64 0), .im (.str []), .im (.int .i64 0)] ++ List.drop (fl.length + (rows.length - fl.length)) (cw.map encW)) = (fl ++ (List.replicate (rows.length - fl.length) zeroW ++ rest)).map encW := by
   rw [← List.map_take, htk, ← List.map_drop, show fl.length + (rows.length - fl.length) = rows.length by omega, hdr, List.map_append, List.map_append, List.map_replicate]
   rfl
  have hsl1 : sliceA 3 (.ms 3 idw 0 rows.length) fl.length (fun n => some n) none = some (.ms 3 idw fl.length (rows.length - fl.length)) := by
   simp only [sliceA]
   rw [if_pos ⟨by omega, by omega, trivial⟩, if_pos hlt, Nat.zero_add]
  have hsl2 : sliceA 3 (.ms 3 idw 0 rows.length) 0 (fun n => some fl.length) none = some (msOf idw fl.length) := by
   simp only [sliceA]
   rw [if_pos ⟨by omega, by omega, trivial⟩, Nat.zero_add, Nat.sub_zero]
   rfl
  simp only [B0,B1,B2,List.replicate,Nat.reduceAdd,Nat.reduceSub,Nat.reduceLeDiff,Nat.reduceLT,Nat.reduceEqDiff,reduceCtorEq,Int.reduceEq,Int.reduceLT,Int.reduceLE,lenA,boundA,intOfA,hl1,a0,a5,hnn,Int.toNat_natCast,hsl1,hsl2,ho,List.length_map,hc1,hmap]
  refine ⟨List.replicate (rows.length - fl.length) zeroW ++ rest, ?_⟩
  have hlt1 : idw < H1.length := by have := hb.1; omega
  refine hK _ _ _ _ ?_ ?_ (hb.set _) (List.getElem?_set_self hlt1) (refs_words _ _) ?_
  ·simp only [List.length_set,hl1]
  ·simp only [B3,Nat.reduceLT,Nat.reduceEqDiff,hl1]
  ·simp only [msOf]
   split <;> simp [refsLt, hidw]
end Go.Abs.Seat
end
section
set_option linter.unusedVariables false
set_option linter.unusedSimpArgs false
namespace Go.Abs.Seat
open Go.Proofs
def kidx (k : Int) : Option Nat := words.findIdx? (fun w => decide (w.1 = k))
def kcnt (i : Nat) : Int := match words[i]? with
 | some w => w.2.2
 | none => 0
theorem wrap_small (z : Int) (h : -9223372036854775808 ≤ z ∧ z < 9223372036854775808) : IntKind.i64.wrap z = z := by
 simp [IntKind.wrap, IntKind.bits, IntKind.signed]
 omega
end Go.Abs.Seat
end
section
set_option linter.unusedVariables false
set_option linter.unusedSimpArgs false
namespace Go.Abs.Seat
open Go.Proofs
def wordK (k : Int) : List UInt8 := match kidx k with
 | some i => match words[i]? with
  | some w => w.2.1
  | none => []
 | none => []
def cntK (k : Int) : Int := match kidx k with
 | some i => kcnt i
 | none => 0
theorem kidx_none {k : Int} (h1 : k ≠ 1) (h2 : k ≠ 2) (h3 : k ≠ 3) (h4 : k ≠ 4) (h5 : k ≠ 5) (h6 : k ≠ 6) (h7 : k ≠ 7) (h9 : k ≠ 9) : kidx k = none := by
 have e : ∀ j : Int, k ≠ j → decide (j = k) = false := fun j h => decide_eq_false (Ne.symm h)
 simp only [kidx,words,List.findIdx?_cons,List.findIdx?_nil,e 1 h1,e 2 h2,e 3 h3,e 4 h4,e 5 h5,e 6 h6,e 7 h7,e 9 h9,Bool.false_eq_true,if_false,Option.map_none]
theorem s82 (k : Int) (H : Heap) : L 82 [.im (.int .i64 k)] H = some (.im (.str (wordK k)), H) := by
 rw [leq F82]
 obtain ⟨hlen, ha⟩ := enter_at (f := f82) (args := [.im (.int .i64 k)]) (Nat.le_of_ble_eq_true rfl)
 have h0 := ha 0 _ rfl
 generalize enterA f82 [.im (.int .i64 k)] = tm at *
 change tm.length = 20 at hlen
 by_cases h1 : k = 1
 ·subst h1
  simp only [f82,exec0,xreg,xops,wantedA,aopc,aop,ev,putA,endK,resA,tupA,List.length_cons,List.length_nil,List.replicate,List.cons_append,List.nil_append,List.append_nil,List.append_assoc,gs_same,gs_ne,gq_same,gq_ne,List.length_set,List.map_cons,List.map_nil,cellsOf,List.all_cons,List.all_nil,cellOk,boxTy,Bool.and_true,Bool.and_self,if_true,ite_true,ite_false,loadAt,storeAt,setAt,hget,hget0,hset,hset0,List.getElem?_cons_zero,List.getElem?_cons_succ,List.set_cons_zero,List.set_cons_succ,Nat.add_zero,Nat.zero_add,Nat.reduceAdd,Nat.reduceSub,Nat.reduceLeDiff,Nat.reduceLT,Nat.reduceEqDiff,Nat.le_refl,and_self,and_true,true_and,mkAgg,toIms,List.drop_zero,List.drop_succ_cons,List.take_succ_cons,List.take_zero,List.length_append,binA,isShift,binInt,binBool,unA,Bool.false_eq_true,if_false,partA,fillA,fillE,List.take_nil,Nat.zero_ne_one,Nat.one_ne_zero,not_false_eq_true,ne_eq,Nat.succ_ne_self,reduceCtorEq,Int.reduceEq,Int.reduceLT,Int.reduceLE,decide_true,decide_false,lenA,beq_self_eq_true,beq_true,beq_false,Bool.not_true,Bool.not_false,hlen,h0,leave_same]
  rfl
 by_cases h2 : k = 2
 ·subst h2
  simp only [f82,exec0,xreg,xops,wantedA,aopc,aop,ev,putA,endK,resA,tupA,List.length_cons,List.length_nil,List.replicate,List.cons_append,List.nil_append,List.append_nil,List.append_assoc,gs_same,gs_ne,gq_same,gq_ne,List.length_set,List.map_cons,List.map_nil,cellsOf,List.all_cons,List.all_nil,cellOk,boxTy,Bool.and_true,Bool.and_self,if_true,ite_true,ite_false,loadAt,storeAt,setAt,hget,hget0,hset,hset0,List.getElem?_cons_zero,List.getElem?_cons_succ,List.set_cons_zero,List.set_cons_succ,Nat.add_zero,Nat.zero_add,Nat.reduceAdd,Nat.reduceSub,Nat.reduceLeDiff,Nat.reduceLT,Nat.reduceEqDiff,Nat.le_refl,and_self,and_true,true_and,mkAgg,toIms,List.drop_zero,List.drop_succ_cons,List.take_succ_cons,List.take_zero,List.length_append,binA,isShift,binInt,binBool,unA,Bool.false_eq_true,if_false,partA,fillA,fillE,List.take_nil,Nat.zero_ne_one,Nat.one_ne_zero,not_false_eq_true,ne_eq,Nat.succ_ne_self,reduceCtorEq,Int.reduceEq,Int.reduceLT,Int.reduceLE,decide_true,decide_false,lenA,beq_self_eq_true,beq_true,beq_false,Bool.not_true,Bool.not_false,hlen,h0,leave_same]
  rfl
 by_cases h3 : k = 3
 ·subst h3
  simp only [f82,exec0,xreg,xops,wantedA,aopc,aop,ev,putA,endK,resA,tupA,List.length_cons,List.length_nil,List.replicate,List.cons_append,List.nil_append,List.append_nil,List.append_assoc,gs_same,gs_ne,gq_same,gq_ne,List.length_set,List.map_cons,List.map_nil,cellsOf,List.all_cons,List.all_nil,cellOk,boxTy,Bool.and_true,Bool.and_self,if_true,ite_true,ite_false,loadAt,storeAt,setAt,hget,hget0,hset,hset0,List.getElem?_cons_zero,List.getElem?_cons_succ,List.set_cons_zero,List.set_cons_succ,Nat.add_zero,Nat.zero_add,Nat.reduceAdd,Nat.reduceSub,Nat.reduceLeDiff,Nat.reduceLT,Nat.reduceEqDiff,Nat.le_refl,and_self,and_true,true_and,mkAgg,toIms,List.drop_zero,List.drop_succ_cons,List.take_succ_cons,List.take_zero,List.length_append,binA,isShift,binInt,binBool,unA,Bool.false_eq_true,if_false,partA,fillA,fillE,List.take_nil,Nat.zero_ne_one,Nat.one_ne_zero,not_false_eq_true,ne_eq,Nat.succ_ne_self,reduceCtorEq,Int.reduceEq,Int.reduceLT,Int.reduceLE,decide_true,decide_false,lenA,beq_self_eq_true,beq_true,beq_false,Bool.not_true,Bool.not_false,hlen,h0,leave_same]
  rfl
 by_cases h4 : k = 4
 ·subst h4
  simp only [f82,exec0,xreg,xops,wantedA,aopc,aop,ev,putA,endK,resA,tupA,List.length_cons,List.length_nil,List.replicate,List.cons_append,List.nil_append,List.append_nil,List.append_assoc,gs_same,gs_ne,gq_same,gq_ne,List.length_set,List.map_cons,List.map_nil,cellsOf,List.all_cons,List.all_nil,cellOk,boxTy,Bool.and_true,Bool.and_self,if_true,ite_true,ite_false,loadAt,storeAt,setAt,hget,hget0,hset,hset0,List.getElem?_cons_zero,List.getElem?_cons_succ,List.set_cons_zero,List.set_cons_succ,Nat.add_zero,Nat.zero_add,Nat.reduceAdd,Nat.reduceSub,Nat.reduceLeDiff,Nat.reduceLT,Nat.reduceEqDiff,Nat.le_refl,and_self,and_true,true_and,mkAgg,toIms,List.drop_zero,List.drop_succ_cons,List.take_succ_cons,List.take_zero,List.length_append,binA,isShift,binInt,binBool,unA,Bool.false_eq_true,if_false,partA,fillA,fillE,List.take_nil,Nat.zero_ne_one,Nat.one_ne_zero,not_false_eq_true,ne_eq,Nat.succ_ne_self,reduceCtorEq,Int.reduceEq,Int.reduceLT,Int.reduceLE,decide_true,decide_false,lenA,beq_self_eq_true,beq_true,beq_false,Bool.not_true,Bool.not_false,hlen,h0,leave_same]
  rfl
 by_cases h5 : k = 5
 ·subst h5
  simp only [f82,exec0,xreg,xops,wantedA,aopc,aop,ev,putA,endK,resA,tupA,List.length_cons,List.length_nil,List.replicate,List.cons_append,List.nil_append,List.append_nil,List.append_assoc,gs_same,gs_ne,gq_same,gq_ne,List.length_set,List.map_cons,List.map_nil,cellsOf,List.all_cons,List.all_nil,cellOk,boxTy,Bool.and_true,Bool.and_self,if_true,ite_true,ite_false,loadAt,storeAt,setAt,hget,hget0,hset,hset0,List.getElem?_cons_zero,List.getElem?_cons_succ,List.set_cons_zero,List.set_cons_succ,Nat.add_zero,Nat.zero_add,Nat.reduceAdd,Nat.reduceSub,Nat.reduceLeDiff,Nat.reduceLT,Nat.reduceEqDiff,Nat.le_refl,and_self,and_true,true_and,mkAgg,toIms,List.drop_zero,List.drop_succ_cons,List.take_succ_cons,List.take_zero,List.length_append,binA,isShift,binInt,binBool,unA,Bool.false_eq_true,if_false,partA,fillA,fillE,List.take_nil,Nat.zero_ne_one,Nat.one_ne_zero,not_false_eq_true,ne_eq,Nat.succ_ne_self,reduceCtorEq,Int.reduceEq,Int.reduceLT,Int.reduceLE,decide_true,decide_false,lenA,beq_self_eq_true,beq_true,beq_false,Bool.not_true,Bool.not_false,hlen,h0,leave_same]
  rfl
 by_cases h6 : k = 6
 ·subst h6
  simp only [f82,exec0,xreg,xops,wantedA,aopc,aop,ev,putA,endK,resA,tupA,List.length_cons,List.length_nil,List.replicate,List.cons_append,List.nil_append,List.append_nil,List.append_assoc,gs_same,gs_ne,gq_same,gq_ne,List.length_set,List.map_cons,List.map_nil,cellsOf,List.all_cons,List.all_nil,cellOk,boxTy,Bool.and_true,Bool.and_self,if_true,ite_true,ite_false,loadAt,storeAt,setAt,hget,hget0,hset,hset0,List.getElem?_cons_zero,List.getElem?_cons_succ,List.set_cons_zero,List.set_cons_succ,Nat.add_zero,Nat.zero_add,Nat.reduceAdd,Nat.reduceSub,Nat.reduceLeDiff,Nat.reduceLT,Nat.reduceEqDiff,Nat.le_refl,and_self,and_true,true_and,mkAgg,toIms,List.drop_zero,List.drop_succ_cons,List.take_succ_cons,List.take_zero,List.length_append,binA,isShift,binInt,binBool,unA,Bool.false_eq_true,if_false,partA,fillA,fillE,List.take_nil,Nat.zero_ne_one,Nat.one_ne_zero,not_false_eq_true,ne_eq,Nat.succ_ne_self,reduceCtorEq,Int.reduceEq,Int.reduceLT,Int.reduceLE,decide_true,decide_false,lenA,beq_self_eq_true,beq_true,beq_false,Bool.not_true,Bool.not_false,hlen,h0,leave_same]
  rfl
 by_cases h7 : k = 7
 ·subst h7
  simp only [f82,exec0,xreg,xops,wantedA,aopc,aop,ev,putA,endK,resA,tupA,List.length_cons,List.length_nil,List.replicate,List.cons_append,List.nil_append,List.append_nil,List.append_assoc,gs_same,gs_ne,gq_same,gq_ne,List.length_set,List.map_cons,List.map_nil,cellsOf,List.all_cons,List.all_nil,cellOk,boxTy,Bool.and_true,Bool.and_self,if_true,ite_true,ite_false,loadAt,storeAt,setAt,hget,hget0,hset,hset0,List.getElem?_cons_zero,List.getElem?_cons_succ,List.set_cons_zero,List.set_cons_succ,Nat.add_zero,Nat.zero_add,Nat.reduceAdd,Nat.reduceSub,Nat.reduceLeDiff,Nat.reduceLT,Nat.reduceEqDiff,Nat.le_refl,and_self,and_true,true_and,mkAgg,toIms,List.drop_zero,List.drop_succ_cons,List.take_succ_cons,List.take_zero,List.length_append,binA,isShift,binInt,binBool,unA,Bool.false_eq_true,if_false,partA,fillA,fillE,List.take_nil,Nat.zero_ne_one,Nat.one_ne_zero,not_false_eq_true,ne_eq,Nat.succ_ne_self,reduceCtorEq,Int.reduceEq,Int.reduceLT,Int.reduceLE,decide_true,decide_false,lenA,beq_self_eq_true,beq_true,beq_false,Bool.not_true,Bool.not_false,hlen,h0,leave_same]
  rfl
 by_cases h9 : k = 9
 ·subst h9
  simp only [f82,exec0,xreg,xops,wantedA,aopc,aop,ev,putA,endK,resA,tupA,List.length_cons,List.length_nil,List.replicate,List.cons_append,List.nil_append,List.append_nil,List.append_assoc,gs_same,gs_ne,gq_same,gq_ne,List.length_set,List.map_cons,List.map_nil,cellsOf,List.all_cons,List.all_nil,cellOk,boxTy,Bool.and_true,Bool.and_self,if_true,ite_true,ite_false,loadAt,storeAt,setAt,hget,hget0,hset,hset0,List.getElem?_cons_zero,List.getElem?_cons_succ,List.set_cons_zero,List.set_cons_succ,Nat.add_zero,Nat.zero_add,Nat.reduceAdd,Nat.reduceSub,Nat.reduceLeDiff,Nat.reduceLT,Nat.reduceEqDiff,Nat.le_refl,and_self,and_true,true_and,mkAgg,toIms,List.drop_zero,List.drop_succ_cons,List.take_succ_cons,List.take_zero,List.length_append,binA,isShift,binInt,binBool,unA,Bool.false_eq_true,if_false,partA,fillA,fillE,List.take_nil,Nat.zero_ne_one,Nat.one_ne_zero,not_false_eq_true,ne_eq,Nat.succ_ne_self,reduceCtorEq,Int.reduceEq,Int.reduceLT,Int.reduceLE,decide_true,decide_false,lenA,beq_self_eq_true,beq_true,beq_false,Bool.not_true,Bool.not_false,hlen,h0,leave_same]
  rfl
 have e : wordK k = [] := by unfold wordK; rw [kidx_none h1 h2 h3 h4 h5 h6 h7 h9]
 simp only [f82,exec0,xreg,xops,wantedA,aopc,aop,ev,putA,endK,resA,tupA,List.length_cons,List.length_nil,List.replicate,List.cons_append,List.nil_append,List.append_nil,List.append_assoc,gs_same,gs_ne,gq_same,gq_ne,List.length_set,List.map_cons,List.map_nil,cellsOf,List.all_cons,List.all_nil,cellOk,boxTy,Bool.and_true,Bool.and_self,if_true,ite_true,ite_false,loadAt,storeAt,setAt,hget,hget0,hset,hset0,List.getElem?_cons_zero,List.getElem?_cons_succ,List.set_cons_zero,List.set_cons_succ,Nat.add_zero,Nat.zero_add,Nat.reduceAdd,Nat.reduceSub,Nat.reduceLeDiff,Nat.reduceLT,Nat.reduceEqDiff,Nat.le_refl,and_self,and_true,true_and,mkAgg,toIms,List.drop_zero,List.drop_succ_cons,List.take_succ_cons,List.take_zero,List.length_append,binA,isShift,binInt,binBool,unA,Bool.false_eq_true,if_false,partA,fillA,fillE,List.take_nil,Nat.zero_ne_one,Nat.one_ne_zero,not_false_eq_true,ne_eq,Nat.succ_ne_self,reduceCtorEq,Int.reduceEq,Int.reduceLT,Int.reduceLE,decide_true,decide_false,lenA,beq_self_eq_true,beq_true,beq_false,Bool.not_true,Bool.not_false,hlen,h0,h1,h2,h3,h4,h5,h6,h7,h9,leave_same,e]
theorem s83 (k : Int) (H : Heap) : L 83 [.im (.int .i64 k)] H = some (.im (.int .i64 (cntK k)), H) := by
 rw [leq F83]
 obtain ⟨hlen, ha⟩ := enter_at (f := f83) (args := [.im (.int .i64 k)]) (Nat.le_of_ble_eq_true rfl)
 have h0 := ha 0 _ rfl
 generalize enterA f83 [.im (.int .i64 k)] = tm at *
 change tm.length = 11 at hlen
 by_cases h6 : k = 6
 ·subst h6
  simp only [f83,exec0,xreg,xops,wantedA,aopc,aop,ev,putA,endK,resA,tupA,List.length_cons,List.length_nil,List.replicate,List.cons_append,List.nil_append,List.append_nil,List.append_assoc,gs_same,gs_ne,gq_same,gq_ne,List.length_set,List.map_cons,List.map_nil,cellsOf,List.all_cons,List.all_nil,cellOk,boxTy,Bool.and_true,Bool.and_self,if_true,ite_true,ite_false,loadAt,storeAt,setAt,hget,hget0,hset,hset0,List.getElem?_cons_zero,List.getElem?_cons_succ,List.set_cons_zero,List.set_cons_succ,Nat.add_zero,Nat.zero_add,Nat.reduceAdd,Nat.reduceSub,Nat.reduceLeDiff,Nat.reduceLT,Nat.reduceEqDiff,Nat.le_refl,and_self,and_true,true_and,mkAgg,toIms,List.drop_zero,List.drop_succ_cons,List.take_succ_cons,List.take_zero,List.length_append,binA,isShift,binInt,binBool,unA,Bool.false_eq_true,if_false,partA,fillA,fillE,List.take_nil,Nat.zero_ne_one,Nat.one_ne_zero,not_false_eq_true,ne_eq,Nat.succ_ne_self,reduceCtorEq,Int.reduceEq,Int.reduceLT,Int.reduceLE,decide_true,decide_false,lenA,beq_self_eq_true,beq_true,beq_false,Bool.not_true,Bool.not_false,hlen,h0,leave_same]
  rfl
 by_cases h7 : k = 7
 ·subst h7
  simp only [f83,exec0,xreg,xops,wantedA,aopc,aop,ev,putA,endK,resA,tupA,List.length_cons,List.length_nil,List.replicate,List.cons_append,List.nil_append,List.append_nil,List.append_assoc,gs_same,gs_ne,gq_same,gq_ne,List.length_set,List.map_cons,List.map_nil,cellsOf,List.all_cons,List.all_nil,cellOk,boxTy,Bool.and_true,Bool.and_self,if_true,ite_true,ite_false,loadAt,storeAt,setAt,hget,hget0,hset,hset0,List.getElem?_cons_zero,List.getElem?_cons_succ,List.set_cons_zero,List.set_cons_succ,Nat.add_zero,Nat.zero_add,Nat.reduceAdd,Nat.reduceSub,Nat.reduceLeDiff,Nat.reduceLT,Nat.reduceEqDiff,Nat.le_refl,and_self,and_true,true_and,mkAgg,toIms,List.drop_zero,List.drop_succ_cons,List.take_succ_cons,List.take_zero,List.length_append,binA,isShift,binInt,binBool,unA,Bool.false_eq_true,if_false,partA,fillA,fillE,List.take_nil,Nat.zero_ne_one,Nat.one_ne_zero,not_false_eq_true,ne_eq,Nat.succ_ne_self,reduceCtorEq,Int.reduceEq,Int.reduceLT,Int.reduceLE,decide_true,decide_false,lenA,beq_self_eq_true,beq_true,beq_false,Bool.not_true,Bool.not_false,hlen,h0,leave_same]
  rfl
 by_cases h9 : k = 9
 ·subst h9
  simp only [f83,exec0,xreg,xops,wantedA,aopc,aop,ev,putA,endK,resA,tupA,List.length_cons,List.length_nil,List.replicate,List.cons_append,List.nil_append,List.append_nil,List.append_assoc,gs_same,gs_ne,gq_same,gq_ne,List.length_set,List.map_cons,List.map_nil,cellsOf,List.all_cons,List.all_nil,cellOk,boxTy,Bool.and_true,Bool.and_self,if_true,ite_true,ite_false,loadAt,storeAt,setAt,hget,hget0,hset,hset0,List.getElem?_cons_zero,List.getElem?_cons_succ,List.set_cons_zero,List.set_cons_succ,Nat.add_zero,Nat.zero_add,Nat.reduceAdd,Nat.reduceSub,Nat.reduceLeDiff,Nat.reduceLT,Nat.reduceEqDiff,Nat.le_refl,and_self,and_true,true_and,mkAgg,toIms,List.drop_zero,List.drop_succ_cons,List.take_succ_cons,List.take_zero,List.length_append,binA,isShift,binInt,binBool,unA,Bool.false_eq_true,if_false,partA,fillA,fillE,List.take_nil,Nat.zero_ne_one,Nat.one_ne_zero,not_false_eq_true,ne_eq,Nat.succ_ne_self,reduceCtorEq,Int.reduceEq,Int.reduceLT,Int.reduceLE,decide_true,decide_false,lenA,beq_self_eq_true,beq_true,beq_false,Bool.not_true,Bool.not_false,hlen,h0,leave_same]
  rfl
 have e : cntK k = 0 := by
  by_cases h1 : k = 1
  ·subst h1; rfl
  by_cases h2 : k = 2
  ·subst h2; rfl
  by_cases h3 : k = 3
  ·subst h3; rfl
  by_cases h4 : k = 4
  ·subst h4; rfl
  by_cases h5 : k = 5
  ·subst h5; rfl
  unfold cntK; rw [kidx_none h1 h2 h3 h4 h5 h6 h7 h9]
 simp only [f83,exec0,xreg,xops,wantedA,aopc,aop,ev,putA,endK,resA,tupA,List.length_cons,List.length_nil,List.replicate,List.cons_append,List.nil_append,List.append_nil,List.append_assoc,gs_same,gs_ne,gq_same,gq_ne,List.length_set,List.map_cons,List.map_nil,cellsOf,List.all_cons,List.all_nil,cellOk,boxTy,Bool.and_true,Bool.and_self,if_true,ite_true,ite_false,loadAt,storeAt,setAt,hget,hget0,hset,hset0,List.getElem?_cons_zero,List.getElem?_cons_succ,List.set_cons_zero,List.set_cons_succ,Nat.add_zero,Nat.zero_add,Nat.reduceAdd,Nat.reduceSub,Nat.reduceLeDiff,Nat.reduceLT,Nat.reduceEqDiff,Nat.le_refl,and_self,and_true,true_and,mkAgg,toIms,List.drop_zero,List.drop_succ_cons,List.take_succ_cons,List.take_zero,List.length_append,binA,isShift,binInt,binBool,unA,Bool.false_eq_true,if_false,partA,fillA,fillE,List.take_nil,Nat.zero_ne_one,Nat.one_ne_zero,not_false_eq_true,ne_eq,Nat.succ_ne_self,reduceCtorEq,Int.reduceEq,Int.reduceLT,Int.reduceLE,decide_true,decide_false,lenA,beq_self_eq_true,beq_true,beq_false,Bool.not_true,Bool.not_false,hlen,h0,h6,h7,h9,leave_same,e]
mutual
def narrow : KT → Prop
 | .mk _ _ args => args.length ≤ 2 ∧ narrows args
def narrows : List KT → Prop
 | [] => True
 | a :: l => narrow a ∧ narrows l
end
mutual
def cloneT : KT → KT
 | .mk k _ args => .mk k (if args.length = 0 then 0 else 2) (cloneTs args)
def cloneTs : List KT → List KT
 | [] => []
 | a :: l => cloneT a :: cloneTs l
end
theorem cloneTs_map : ∀ l : List KT, cloneTs l = l.map cloneT
 | [] => rfl
 | a :: l => by simp only [cloneTs,List.map_cons,cloneTs_map l]
end Go.Abs.Seat
end
section
set_option linter.unusedVariables false
set_option linter.unusedSimpArgs false
namespace Go.Abs.Seat
open Go.Proofs
mutual
theorem clone_ok : ∀ (t : KT), okT t → okT (cloneT t)
 | .mk k s args, h => by
  have hl : (cloneTs args).length = args.length := by rw [cloneTs_map]; simp
  simp only [okT] at h
  simp only [cloneT,okT]
  refine ⟨?_, by omega, clone_oks args h.2.2⟩
  by_cases h0 : args.length = 0
  ·left
   have : (cloneTs args).length = 0 := by omega
   exact List.length_eq_zero_iff.1 this
  ·right; rw [if_neg h0]
theorem clone_oks : ∀ (l : List KT), okTs l → okTs (cloneTs l)
 | [], h => by simp only [cloneTs,okTs]
 | a :: l, h => by
  simp only [okTs] at h
  simp only [cloneTs,okTs]
  exact ⟨clone_ok a h.1, clone_oks l h.2⟩
end
theorem word_len : ∀ w ∈ words, w.2.1.length ≤ 8 := by decide
def sepB (i : Nat) : UInt8 := if i = 0 then 40 else 44
theorem kidx_cases (k : Int) : (k = 1 ∨ k = 2 ∨ k = 3 ∨ k = 4 ∨ k = 5 ∨ k = 6 ∨ k = 7 ∨ k = 9) ∨ kidx k = none := by
 by_cases h1 : k = 1
 ·simp [h1]
 by_cases h2 : k = 2
 ·simp [h2]
 by_cases h3 : k = 3
 ·simp [h3]
 by_cases h4 : k = 4
 ·simp [h4]
 by_cases h5 : k = 5
 ·simp [h5]
 by_cases h6 : k = 6
 ·simp [h6]
 by_cases h7 : k = 7
 ·simp [h7]
 by_cases h9 : k = 9
 ·simp [h9]
 exact .inr (kidx_none h1 h2 h3 h4 h5 h6 h7 h9)
end Go.Abs.Seat
end
section
set_option linter.unusedVariables false
set_option linter.unusedSimpArgs false
namespace Go.Abs.Seat
open Go.Proofs
def w98_0 : ACode := (.seq (.seq (.ops [⟨some 13,.move (.t 6),none⟩,⟨some 14,.lenSl (.t 13),none⟩,⟨some 15,.move (.c (.im (.int .i64 0))),none⟩] []) (.block 0 c98_0)) (.seq (.seq (.ops [⟨some 26,.load none (.t 2),none⟩,⟨some 27,.nilCheck (.t 26),none⟩,⟨some 28,.fieldAddr 1 (.t 27),none⟩,⟨some 29,.load none (.t 28),none⟩,⟨some 30,.load none (.t 2),none⟩,⟨some 31,.nilCheck (.t 30),none⟩,⟨some 32,.fieldAddr 0 (.t 31),none⟩,⟨some 33,.load none (.t 32),none⟩,⟨some 34,.lenStr (.t 33),none⟩,⟨some 35,.bin .lss (.t 29) (.t 34),none⟩] []) (.cond (.t 35) (.seq (.ops [⟨some 36,.move (.t 6),none⟩,⟨some 37,.mkfunc 109 [(.t 7),(.t 2)],none⟩,⟨some 38,.call (.c (.clo 107 [])) [(.t 36),(.t 37)],none⟩,⟨some 6,.move (.t 38),none⟩] []) (.seq (.ops [⟨some 39,.move (.t 6),none⟩,⟨some 40,.lenSl (.t 39),none⟩,⟨some 41,.bin .gtr (.t 40) (.c (.im (.int .i64 0))),none⟩] []) (.cond (.t 41) (.seq (.ops [⟨some 42,.load none (.t 2),none⟩,⟨some 43,.nilCheck (.t 42),none⟩,⟨some 44,.fieldAddr 1 (.t 43),none⟩,⟨some 45,.load none (.t 44),none⟩,⟨some 46,.bin .add (.t 45) (.c (.im (.int .i64 1))),none⟩,⟨some 47,.nilCheck (.t 42),none⟩,⟨some 48,.fieldAddr 1 (.t 47),none⟩,⟨none,.store 1 (.t 48) (.t 46),none⟩] []) (.seq (.ops [⟨some 49,.load none (.t 7),none⟩,⟨some 50,.bin .add (.t 49) (.c (.im (.int .i64 1))),none⟩,⟨none,.store 1 (.t 7) (.t 50),none⟩] []) (.goto 0))) .skip))) .skip)) (.seq (.ops [⟨some 51,.build [(.im (.int .i64 0)),(.im (.str [])),(.im (.int .i64 0))] [],none⟩,⟨none,.store 3 (.t 4) (.t 51),none⟩,⟨some 5,.move (.c (.im (.bool false))),none⟩] []) .ret)))
def s98b : ACode := (.seq (.ops [⟨some 10,.call (.c (.clo 76 [])) [],none⟩,⟨some 11,.mkfunc 108 [(.t 3)],none⟩,⟨some 12,.call (.c (.clo 107 [])) [(.t 10),(.t 11)],none⟩,⟨some 6,.move (.t 12),none⟩] []) (.seq (.ops [⟨some 7,.alloc none [(.im (.int .i64 0))],none⟩,⟨none,.store 1 (.t 7) (.c (.im (.int .i64 0))),none⟩] []) (.seq (.label 0) w98_0)))
theorem s98b_eq : c98_1 = .scope s98b s98b := rfl
noncomputable def K98 (e : AEx) (tm : List AV) (H : Heap) : Option Out := match e with
  | .goto l => match findA s98b l with
   | some rest => Λ (.scope s98b rest) tm H
   | none => none
  | .normal => some (.normal, tm, H)
  | .exit i => some (.exit i, tm, H)
  | .ret => some (.ret, tm, H)
theorem K98_ret (tm : List AV) (H : Heap) : K98 .ret tm H = some (.ret, tm, H) := _root_.id rfl
theorem c98_1_eq (tm : List AV) (H : Heap) : Λ c98_1 tm H = exec0 L Λ s98b tm H K98 := by
 rw [s98b_eq]; exact scope_eq
def g98_0 : ACode := .scope s98b (.seq .skip w98_0)
theorem K98_goto0 (tm : List AV) (H : Heap) : K98 (.goto 0) tm H = Λ g98_0 tm H := by
 have h : findA s98b 0 = some (.seq .skip w98_0) := rfl
 simp only [K98,h,g98_0]
theorem g98_0_eq (tm : List AV) (H : Heap) : Λ g98_0 tm H = exec0 L Λ w98_0 tm H K98 := by
 rw [g98_0]; exact scope_eq
def w31_0 : ACode := (.seq (.ops [⟨some 50,.move (.t 0),none⟩,⟨some 51,.call (.c (.clo 29 [])) [(.t 50)],none⟩,⟨some 7,.move (.t 51),none⟩] []) (.seq (.seq (.ops [⟨some 52,.move (.t 7),none⟩,⟨some 53,.bin .lss (.t 52) (.c (.im (.int .u8 48))),none⟩,⟨some 54,.move (.t 53),none⟩,⟨some 55,.move (.t 7),some (54,false)⟩,⟨some 56,.bin .gtr (.t 55) (.c (.im (.int .u8 57))),some (54,false)⟩,⟨some 57,.pick (.t 54) (.c (.im (.bool true))) (.t 56),none⟩] []) (.cond (.t 57) (.seq (.ops [⟨some 58,.move (.t 3),none⟩,⟨some 59,.move (.t 6),none⟩,⟨some 60,.i2i .i64 (.t 59),none⟩,⟨some 61,.bin .mul (.t 58) (.t 60),none⟩,⟨some 62,.build [(.im (.str [])),(.im (.int .i64 0)),(.im (.str [])),(.im (.int .i64 0)),.nils,.nils] [(0,(1,(.c (.im (.str [105,110,116]))))),(1,(1,(.t 61)))],none⟩,⟨none,.store 6 (.t 2) (.t 62),none⟩] []) .ret) .skip)) (.seq (.seq (.ops [⟨some 63,.move (.t 7),none⟩,⟨some 64,.bin .sub (.t 63) (.c (.im (.int .u8 48))),none⟩,⟨some 65,.i2i .u64 (.t 64),none⟩,⟨some 8,.move (.t 65),none⟩] []) (.seq (.ops [⟨some 66,.move (.t 6),none⟩,⟨some 67,.bin .gtr (.t 66) (.c (.im (.int .u64 0))),none⟩,⟨some 68,.move (.t 67),none⟩,⟨some 69,.move (.t 6),some (68,true)⟩,⟨some 70,.move (.t 4),some (68,true)⟩,⟨some 71,.move (.t 8),some (68,true)⟩,⟨some 72,.bin .sub (.t 70) (.t 71),some (68,true)⟩,⟨some 73,.bin .quo (.t 72) (.c (.im (.int .u64 10))),some (68,true)⟩,⟨some 74,.bin .leq (.t 69) (.t 73),some (68,true)⟩,⟨some 75,.pick (.t 68) (.t 74) (.c (.im (.bool false))),none⟩] []) (.cond (.t 75) (.seq (.ops [⟨some 76,.move (.t 6),none⟩,⟨some 77,.bin .mul (.c (.im (.int .u64 10))) (.t 76),none⟩,⟨some 78,.move (.t 8),none⟩,⟨some 79,.bin .add (.t 77) (.t 78),none⟩,⟨some 6,.move (.t 79),none⟩] []) (.seq (.ops [⟨some 80,.move (.t 0),none⟩,⟨some 81,.nilCheck (.t 80),none⟩,⟨some 82,.fieldAddr 1 (.t 81),none⟩,⟨some 83,.load none (.t 82),none⟩,⟨some 84,.bin .add (.t 83) (.c (.im (.int .i64 1))),none⟩,⟨some 85,.nilCheck (.t 80),none⟩,⟨some 86,.fieldAddr 1 (.t 85),none⟩,⟨none,.store 1 (.t 86) (.t 84),none⟩] []) (.goto 0))) .skip))) (.seq (.ops [⟨some 87,.move (.t 0),none⟩,⟨some 88,.nilCheck (.t 87),none⟩,⟨some 89,.fieldAddr 2 (.t 88),none⟩,⟨none,.store 1 (.t 89) (.c (.im (.bool true))),none⟩] []) (.seq (.ops [⟨some 90,.build [(.im (.str [])),(.im (.int .i64 0)),(.im (.str [])),(.im (.int .i64 0)),.nils,.nils] [],none⟩,⟨none,.store 6 (.t 2) (.t 90),none⟩] []) .ret)))))
def s31b : ACode := (.seq (.ops [⟨some 3,.move (.c (.im (.int .i64 1))),none⟩,⟨some 4,.move (.c (.im (.int .u64 9223372036854775807))),none⟩] []) (.seq (.seq (.ops [⟨some 9,.move (.t 0),none⟩,⟨some 10,.call (.c (.clo 29 [])) [(.t 9)],none⟩,⟨some 11,.bin .eql (.t 10) (.c (.im (.int .u8 45))),none⟩] []) (.cond (.t 11) (.seq (.ops [⟨some 12,.move (.t 0),none⟩,⟨some 13,.nilCheck (.t 12),none⟩,⟨some 14,.fieldAddr 1 (.t 13),none⟩,⟨some 15,.load none (.t 14),none⟩,⟨some 16,.bin .add (.t 15) (.c (.im (.int .i64 1))),none⟩,⟨some 17,.nilCheck (.t 12),none⟩,⟨some 18,.fieldAddr 1 (.t 17),none⟩,⟨none,.store 1 (.t 18) (.t 16),none⟩] []) (.ops [⟨some 3,.move (.c (.im (.int .i64 (-1)))),none⟩,⟨some 4,.move (.c (.im (.int .u64 9223372036854775808))),none⟩] [])) .skip)) (.seq (.seq (.ops [⟨some 19,.move (.t 0),none⟩,⟨some 20,.call (.c (.clo 29 [])) [(.t 19)],none⟩,⟨some 5,.move (.t 20),none⟩] []) (.seq (.ops [⟨some 21,.move (.t 5),none⟩,⟨some 22,.bin .lss (.t 21) (.c (.im (.int .u8 48))),none⟩,⟨some 23,.move (.t 22),none⟩,⟨some 24,.move (.t 5),some (23,false)⟩,⟨some 25,.bin .gtr (.t 24) (.c (.im (.int .u8 57))),some (23,false)⟩,⟨some 26,.pick (.t 23) (.c (.im (.bool true))) (.t 25),none⟩,⟨some 27,.move (.t 26),none⟩,⟨some 28,.move (.t 5),some (27,false)⟩,⟨some 29,.bin .eql (.t 28) (.c (.im (.int .u8 48))),some (27,false)⟩,⟨some 30,.move (.t 29),some (27,false)⟩,⟨some 31,.move (.t 3),some (30,true)⟩,⟨some 32,.bin .lss (.t 31) (.c (.im (.int .i64 0))),some (30,true)⟩,⟨some 33,.pick (.t 30) (.t 32) (.c (.im (.bool false))),some (27,false)⟩,⟨some 34,.pick (.t 27) (.c (.im (.bool true))) (.t 33),none⟩] []) (.cond (.t 34) (.seq (.ops [⟨some 35,.move (.t 0),none⟩,⟨some 36,.nilCheck (.t 35),none⟩,⟨some 37,.fieldAddr 2 (.t 36),none⟩,⟨none,.store 1 (.t 37) (.c (.im (.bool true))),none⟩] []) (.seq (.ops [⟨some 38,.build [(.im (.str [])),(.im (.int .i64 0)),(.im (.str [])),(.im (.int .i64 0)),.nils,.nils] [],none⟩,⟨none,.store 6 (.t 2) (.t 38),none⟩] []) .ret)) .skip))) (.seq (.ops [⟨some 39,.move (.t 0),none⟩,⟨some 40,.call (.c (.clo 29 [])) [(.t 39)],none⟩,⟨some 41,.bin .sub (.t 40) (.c (.im (.int .u8 48))),none⟩,⟨some 42,.i2i .u64 (.t 41),none⟩,⟨some 6,.move (.t 42),none⟩] []) (.seq (.ops [⟨some 43,.move (.t 0),none⟩,⟨some 44,.nilCheck (.t 43),none⟩,⟨some 45,.fieldAddr 1 (.t 44),none⟩,⟨some 46,.load none (.t 45),none⟩,⟨some 47,.bin .add (.t 46) (.c (.im (.int .i64 1))),none⟩,⟨some 48,.nilCheck (.t 43),none⟩,⟨some 49,.fieldAddr 1 (.t 48),none⟩,⟨none,.store 1 (.t 49) (.t 47),none⟩] []) (.seq (.label 0) w31_0))))))
theorem s31b_eq : c31_0 = .scope s31b s31b := rfl
noncomputable def K31 (e : AEx) (tm : List AV) (H : Heap) : Option Out := match e with
  | .goto l => match findA s31b l with
   | some rest => Λ (.scope s31b rest) tm H
   | none => none
  | .normal => some (.normal, tm, H)
  | .exit i => some (.exit i, tm, H)
  | .ret => some (.ret, tm, H)
theorem K31_ret (tm : List AV) (H : Heap) : K31 .ret tm H = some (.ret, tm, H) := _root_.id rfl
theorem c31_0_eq (tm : List AV) (H : Heap) : Λ c31_0 tm H = exec0 L Λ s31b tm H K31 := by
 rw [s31b_eq]; exact scope_eq
def g31_0 : ACode := .scope s31b (.seq .skip w31_0)
theorem K31_goto0 (tm : List AV) (H : Heap) : K31 (.goto 0) tm H = Λ g31_0 tm H := by
 have h : findA s31b 0 = some (.seq .skip w31_0) := rfl
 simp only [K31,h,g31_0]
theorem g31_0_eq (tm : List AV) (H : Heap) : Λ g31_0 tm H = exec0 L Λ w31_0 tm H K31 := by
 rw [g31_0]; exact scope_eq
def w30_0 : ACode := (.seq (.ops [⟨some 5,.move (.t 0),none⟩,⟨some 6,.call (.c (.clo 29 [])) [(.t 5)],none⟩,⟨some 4,.move (.t 6),none⟩] []) (.seq (.block 0 (.seq (.ops [⟨some 8,.move (.t 4),none⟩,⟨some 9,.bin .eql (.t 8) (.c (.im (.int .u8 34))),none⟩,⟨some 7,.move (.t 9),none⟩] []) (.cond (.t 7) (.seq (.ops [⟨some 10,.move (.t 0),none⟩,⟨some 11,.nilCheck (.t 10),none⟩,⟨some 12,.fieldAddr 1 (.t 11),none⟩,⟨some 13,.load none (.t 12),none⟩,⟨some 14,.bin .add (.t 13) (.c (.im (.int .i64 1))),none⟩,⟨some 15,.nilCheck (.t 10),none⟩,⟨some 16,.fieldAddr 1 (.t 15),none⟩,⟨none,.store 1 (.t 16) (.t 14),none⟩] []) (.seq (.ops [⟨some 17,.move (.t 3),none⟩,⟨some 18,.b2s (.t 17),none⟩,⟨some 19,.build [(.im (.str [])),(.im (.int .i64 0)),(.im (.str [])),(.im (.int .i64 0)),.nils,.nils] [(0,(1,(.c (.im (.str [116,101,120,116,95,111,102]))))),(2,(1,(.t 18)))],none⟩,⟨none,.store 6 (.t 2) (.t 19),none⟩] []) .ret)) (.seq (.ops [⟨some 21,.move (.t 3),none⟩,⟨some 22,.lenSl (.t 21),none⟩,⟨some 23,.bin .eql (.t 22) (.c (.im (.int .i64 256))),none⟩,⟨some 24,.move (.t 23),none⟩,⟨some 25,.move (.t 4),some (24,false)⟩,⟨some 26,.call (.c (.clo 51 [])) [(.t 25)],some (24,false)⟩,⟨some 27,.un .not (.t 26),some (24,false)⟩,⟨some 28,.move (.t 27),some (24,false)⟩,⟨some 29,.move (.t 4),some (28,true)⟩,⟨some 30,.bin .neq (.t 29) (.c (.im (.int .u8 92))),some (28,true)⟩,⟨some 31,.pick (.t 28) (.t 30) (.c (.im (.bool false))),some (24,false)⟩,⟨some 32,.pick (.t 24) (.c (.im (.bool true))) (.t 31),none⟩,⟨some 20,.move (.t 32),none⟩] []) (.cond (.t 20) (.seq (.ops [⟨some 33,.move (.t 0),none⟩,⟨some 34,.nilCheck (.t 33),none⟩,⟨some 35,.fieldAddr 2 (.t 34),none⟩,⟨none,.store 1 (.t 35) (.c (.im (.bool true))),none⟩] []) (.seq (.ops [⟨some 36,.build [(.im (.str [])),(.im (.int .i64 0)),(.im (.str [])),(.im (.int .i64 0)),.nils,.nils] [],none⟩,⟨none,.store 6 (.t 2) (.t 36),none⟩] []) .ret)) .skip))))) (.seq (.ops [⟨some 37,.move (.t 0),none⟩,⟨some 38,.nilCheck (.t 37),none⟩,⟨some 39,.fieldAddr 1 (.t 38),none⟩,⟨some 40,.load none (.t 39),none⟩,⟨some 41,.bin .add (.t 40) (.c (.im (.int .i64 1))),none⟩,⟨some 42,.nilCheck (.t 37),none⟩,⟨some 43,.fieldAddr 1 (.t 42),none⟩,⟨none,.store 1 (.t 43) (.t 41),none⟩] []) (.seq (.seq (.ops [⟨some 44,.move (.t 4),none⟩,⟨some 45,.bin .eql (.t 44) (.c (.im (.int .u8 92))),none⟩] []) (.cond (.t 45) (.ops [⟨some 46,.move (.t 0),none⟩,⟨some 47,.call (.c (.clo 52 [])) [(.t 46)],none⟩,⟨some 4,.move (.t 47),none⟩] []) .skip)) (.seq (.ops [⟨some 48,.move (.t 3),none⟩,⟨some 49,.move (.t 4),none⟩,⟨some 50,.bslice false 1 1 [(.im (.int .u8 0))] [(0,(.t 49))],none⟩,⟨some 51,.append 5 1 1 (.t 48) (.t 50),none⟩,⟨some 3,.move (.t 51),none⟩] []) (.seq (.seq (.ops [⟨some 52,.move (.t 0),none⟩,⟨some 53,.nilCheck (.t 52),none⟩,⟨some 54,.fieldAddr 2 (.t 53),none⟩,⟨some 55,.load none (.t 54),none⟩,⟨some 56,.un .not (.t 55),none⟩] []) (.cond (.t 56) (.goto 0) .skip)) (.seq (.ops [⟨some 57,.build [(.im (.str [])),(.im (.int .i64 0)),(.im (.str [])),(.im (.int .i64 0)),.nils,.nils] [],none⟩,⟨none,.store 6 (.t 2) (.t 57),none⟩] []) .ret)))))))
def s30b : ACode := (.seq (.ops [⟨some 3,.move (.c .nils),none⟩] []) (.seq (.label 0) w30_0))
theorem s30b_eq : c30_0 = .scope s30b s30b := rfl
noncomputable def K30 (e : AEx) (tm : List AV) (H : Heap) : Option Out := match e with
  | .goto l => match findA s30b l with
   | some rest => Λ (.scope s30b rest) tm H
   | none => none
  | .normal => some (.normal, tm, H)
  | .exit i => some (.exit i, tm, H)
  | .ret => some (.ret, tm, H)
theorem K30_ret (tm : List AV) (H : Heap) : K30 .ret tm H = some (.ret, tm, H) := _root_.id rfl
theorem c30_0_eq (tm : List AV) (H : Heap) : Λ c30_0 tm H = exec0 L Λ s30b tm H K30 := by
 rw [s30b_eq]; exact scope_eq
def g30_0 : ACode := .scope s30b (.seq .skip w30_0)
theorem K30_goto0 (tm : List AV) (H : Heap) : K30 (.goto 0) tm H = Λ g30_0 tm H := by
 have h : findA s30b 0 = some (.seq .skip w30_0) := rfl
 simp only [K30,h,g30_0]
theorem g30_0_eq (tm : List AV) (H : Heap) : Λ g30_0 tm H = exec0 L Λ w30_0 tm H K30 := by
 rw [g30_0]; exact scope_eq
end Go.Abs.Seat
end
section
set_option linter.unusedVariables false
set_option linter.unusedSimpArgs false
namespace Go.Abs.Seat
open Go.Proofs
def outW (d : Int) (w : Word) : Bool := decide (0 < w.2.2) && decide (d = 1)
theorem s108 (w : Word) (idd : Nat) (d : Int) (H : Heap) (hd : H[idd]? = some (.obj none [[.im (.int .i64 d)]])) : L 108 [.im (.agg (datW w)), .ptr idd 0 0] H = some (.im (.bool (outW d w)), H) := by
 have hda : ∀ M : Heap, (H ++ M)[idd]? = some (.obj none [[.im (.int .i64 d)]]) := fun M => by rw [get_app (List.getElem?_eq_some_iff.1 hd).1]; exact hd
 simp only [datW]
 rw [leq F108]
 obtain ⟨hlen, ha⟩ := enter_at (f := f108) (args := [.im (.agg [.int .i64 w.1, .str w.2.1, .int .i64 w.2.2]), .ptr idd 0 0]) (Nat.le_of_ble_eq_true rfl)
 have h0 := ha 0 _ rfl
 have h1 := ha 1 _ rfl
 generalize enterA f108 [.im (.agg [.int .i64 w.1, .str w.2.1, .int .i64 w.2.2]), .ptr idd 0 0] = tm at *
 change tm.length = 11 at hlen
 unfold outW
 rcases Bool.eq_false_or_eq_true (decide (0 < w.2.2)) with hb | hb
 ·simp only [f108,B0,B1,B2,List.replicate,Nat.reduceAdd,Nat.reduceSub,Nat.reduceLeDiff,Nat.reduceLT,Nat.reduceEqDiff,reduceCtorEq,Int.reduceEq,Int.reduceLT,Int.reduceLE,lenA,endK,resA,tupA,hlen,h0,h1,hda,hb,leave_app,Bool.true_and]
 ·simp only [f108,B0,B1,B2,List.replicate,Nat.reduceAdd,Nat.reduceSub,Nat.reduceLeDiff,Nat.reduceLT,Nat.reduceEqDiff,reduceCtorEq,Int.reduceEq,Int.reduceLT,Int.reduceLE,lenA,endK,resA,tupA,hlen,h0,h1,hda,hb,leave_app,Bool.false_and]
theorem byte_eq (a c : UInt8) : decide (((a.toNat : Nat) : Int) = ((c.toNat : Nat) : Int)) = decide (a = c) := by
 congr 1
 simp only [Int.ofNat_inj,UInt8.toNat_inj]
theorem s109 (w : Word) (idn ia ir n : Nat) (s : List UInt8) (k : Nat) (a c : UInt8) (H : Heap) (hn : H[idn]? = some (.obj none [[.im (.int .i64 (n : Int))]])) (hia : H[ia]? = some (.obj none [[.ptr ir 0 0]])) (hir : H[ir]? = some (.obj none [[.im (.str s), .im (.int .i64 (k : Int))]]))
  (ha : w.2.1[n]? = some a) (hc : s[k]? = some c) : L 109 [.im (.agg (datW w)), .ptr idn 0 0, .ptr ia 0 0] H = some (.im (.bool (!decide (a = c))), H) := by
 have hna : ∀ M : Heap, (H ++ M)[idn]? = some (.obj none [[.im (.int .i64 (n : Int))]]) := fun M => by rw [get_app (List.getElem?_eq_some_iff.1 hn).1]; exact hn
 have hia' : ∀ M : Heap, (H ++ M)[ia]? = some (.obj none [[.ptr ir 0 0]]) := fun M => by rw [get_app (List.getElem?_eq_some_iff.1 hia).1]; exact hia
 have hir' : ∀ M : Heap, (H ++ M)[ir]? = some (.obj none [[.im (.str s), .im (.int .i64 (k : Int))]]) := fun M => by rw [get_app (List.getElem?_eq_some_iff.1 hir).1]; exact hir
 have p1 : (0 : Int) ≤ (n : Int) := Int.natCast_nonneg n
 have p2 : (0 : Int) ≤ (k : Int) := Int.natCast_nonneg k
 simp only [datW]
 rw [leq F109]
 obtain ⟨hlen, hg⟩ := enter_at (f := f109) (args := [.im (.agg [.int .i64 w.1, .str w.2.1, .int .i64 w.2.2]), .ptr idn 0 0, .ptr ia 0 0]) (Nat.le_of_ble_eq_true rfl)
 have h0 := hg 0 _ rfl
 have h1 := hg 1 _ rfl
 have h2 := hg 2 _ rfl
 generalize enterA f109 [.im (.agg [.int .i64 w.1, .str w.2.1, .int .i64 w.2.2]), .ptr idn 0 0, .ptr ia 0 0] = tm at *
 change tm.length = 19 at hlen
 simp only [f109,B0,B1,B2,List.replicate,Nat.reduceAdd,Nat.reduceSub,Nat.reduceLeDiff,Nat.reduceLT,Nat.reduceEqDiff,reduceCtorEq,Int.reduceEq,Int.reduceLT,Int.reduceLE,lenA,endK,resA,tupA,intOfA,byteDat,Int.toNat_natCast,hlen,h0,h1,h2,hna,hia',hir',p1,p2,ha,hc,byte_eq,leave_app]
def wordGo (r : List UInt8) : Nat → List Word → Nat → Nat × Option Word
 | 0, may, n => (n, may.find? fun w => decide (w.2.1.length = n))
 | k + 1, may, n => match may.find? (fun w => decide (w.2.1.length = n)) with
  | some w => (n, some w)
  | none => match r[n]? with
   | none => (n, none)
   | some c => if may.filter (fun w => decide (w.2.1[n]? = some c)) = [] then (n, none) else wordGo r k (may.filter fun w => decide (w.2.1[n]? = some c)) (n + 1)
theorem l98 (may rest : List Word) (idw idn b : Nat) (n : Nat) (hlt : may.length ≤ 9223372036854775806) (hbw : b ≠ idw) (hbn : b ≠ idn) (H : Heap) (x y z : AV) (hw : H[idw]? = some (.obj none ((may ++ rest).map encW))) (hn : H[idn]? = some (.obj none [[.im (.int .i64 (n : Int))]])) (hb : H[b]? = some (.obj none [[x, y, z]])) :
  ∀ (m i : Nat), i + m = may.length → ∀ (tm : List AV) (M : Heap), tm.length = 52 → tm.getD 4 undefA = .ptr b 0 0 → tm.getD 7 undefA = .ptr idn 0 0 → tm.getD 13 undefA = .ms 3 idw 0 may.length → tm.getD 14 undefA = .im (.int .i64 may.length) → tm.getD 15 undefA = .im (.int .i64 i) →
  ∃ e tm' H', Λ c98_0 tm (H ++ M) = some (e, tm', H') ∧ tm'.length = 52 ∧ (∀ j, j = 2 ∨ j = 4 ∨ j = 6 ∨ j = 7 → tm'.getD j undefA = tm.getD j undefA) ∧ match (may.drop i).find? (fun w => decide (w.2.1.length = n)) with
   | some w => e = .ret ∧ tm'.getD 5 undefA = .im (.bool true) ∧ ∃ M', H' = H.set b (.obj none [encW w]) ++ M'
   | none => e = .exit 0 ∧ ∃ M', H' = H ++ M'
 | 0, i, hi, tm, M, hlen, h4, h7, h13, h14, h15 => by
  have e : may.drop i = [] := by rw [List.drop_eq_nil_iff]; omega
  have hc : decide ((i : Int) < (may.length : Int)) = false := decide_eq_false (by omega)
  rw [e, l98_0]
  simp only [b98_0,B0,B1,B2,List.replicate,Nat.reduceAdd,Nat.reduceSub,Nat.reduceLeDiff,Nat.reduceLT,Nat.reduceEqDiff,reduceCtorEq,Int.reduceEq,Int.reduceLT,Int.reduceLE,lenA,hlen,h4,h7,h13,h14,h15,hc,List.find?_nil]
  exact ⟨_, _, _, rfl, by simp only [List.length_set,hlen], by rintro j (rfl | rfl | rfl | rfl) <;> simp only [B3,Nat.reduceLT,Nat.reduceEqDiff,hlen], rfl, _, rfl⟩
 | m + 1, i, hi, tm, M, hlen, h4, h7, h13, h14, h15 => by
  have hil : i < may.length := by omega
  obtain ⟨w, hwi, e⟩ := drop_cons hil
  have hc : decide ((i : Int) < (may.length : Int)) = true := decide_eq_true (by omega)
  have hix := idx_nat hil
  have hget : ((may ++ rest).map encW)[i]? = some (encW w) := by rw [List.getElem?_map, List.getElem?_append_left hil, hwi]; rfl
  have hwr := wrap_nat (i := i) (by omega)
  have key := l98 may rest idw idn b n hlt hbw hbn H x y z hw hn hb m (i + 1) (by omega)
  have hbl := (List.getElem?_eq_some_iff.1 hb).1
  have ga : ∀ (j : Nat) (o : HO), H[j]? = some o → ∀ M : Heap, (H ++ M)[j]? = some o := fun j o h M => by rw [get_app (List.getElem?_eq_some_iff.1 h).1]; exact h
  have hset : ∀ (M : Heap) (o : HO), (H ++ M).set b o = H.set b o ++ M := fun M o => set_app hbl
  have hwM := ga _ _ hw
  have hnM := ga _ _ hn
  have hbM := ga _ _ hb
  have hdl : decide (((w.2.1.length : Nat) : Int) = (n : Int)) = decide (w.2.1.length = n) := by congr 1; simp only [Int.ofNat_inj]
  have hap : ∀ o : HO, H ++ M ++ [o] = H ++ (M ++ [o]) := fun o => List.append_assoc ..
  have hgg : ∀ o : HO, (H ++ (M ++ [o]))[(H ++ M).length]? = some o := fun o => by rw [← hap, Go.Abs.hget0]; rfl
  have hss : ∀ o o' : HO, (H ++ (M ++ [o])).set (H ++ M).length o' = H ++ (M ++ [o']) := fun o o' => by rw [← hap, hset0, List.set_cons_zero, hap]
  rw [e, List.find?_cons, l98_0]
  generalize hhl : (H ++ M).length = hl at *
  simp only [encW] at hget
  cases hk : decide (w.2.1.length = n) with
  | true =>
   rw [hk] at hdl
   simp only [b98_0,B0,B1,B2,List.replicate,Nat.reduceAdd,Nat.reduceSub,Nat.reduceLeDiff,Nat.reduceLT,Nat.reduceEqDiff,reduceCtorEq,Int.reduceEq,Int.reduceLT,Int.reduceLE,lenA,hlen,h4,h7,h13,h14,h15,hc,hix,hwM,hget,hnM,hhl,hap,hgg,hss,hbM,hdl,hset]
   exact ⟨_, _, _, rfl, by simp only [List.length_set,hlen], by rintro j (rfl | rfl | rfl | rfl) <;> simp only [B3,Nat.reduceLT,Nat.reduceEqDiff,hlen], rfl, by simp only [B3,Nat.reduceLT,Nat.reduceEqDiff,hlen], _, rfl⟩
  | false =>
   rw [hk] at hdl
   simp only [b98_0,B0,B1,B2,List.replicate,Nat.reduceAdd,Nat.reduceSub,Nat.reduceLeDiff,Nat.reduceLT,Nat.reduceEqDiff,reduceCtorEq,Int.reduceEq,Int.reduceLT,Int.reduceLE,lenA,hlen,h4,h7,h13,h14,h15,hc,hix,hwM,hget,hnM,hhl,hap,hgg,hss,hbM,hdl,hset,hwr]
   refine ex_imp (key _ _ ?_ ?_ ?_ ?_ ?_ ?_) ?_
   iterate 6 simp only [B3,Nat.reduceLT,Nat.reduceEqDiff,hlen,h4,h7,h13,h14]
   rintro e tm' H' ⟨hl', g, hm⟩
   refine ⟨hl', ?_, hm⟩
   rintro j (rfl | rfl | rfl | rfl)
   all_goals (rw [g _ (by simp)]; simp only [B3,Nat.reduceLT,Nat.reduceEqDiff,hlen])
def wordRes (o : Option Word) : Word := match o with
 | some w => w
 | none => zeroW
theorem g98 (s : List UInt8) (at0 ir N : Nat) (H0 : Heap) (hN : N = H0.length) (hir : ir < N) (hs : s.length ≤ 9223372036854775807) (hat : at0 ≤ s.length) :
  ∀ (k : Nat) (may rest : List Word) (n : Nat), may ≠ [] → may.length ≤ 8 → (∀ w ∈ may, n ≤ w.2.1.length ∧ w.2.1.length ≤ n + k) → at0 + n ≤ s.length →
  ∀ (tm : List AV) (H : Heap) (x y z : AV), tm.length = 52 → tm.getD 2 undefA = .ptr N 0 0 → tm.getD 4 undefA = .ptr (N + 2) 0 0 → tm.getD 6 undefA = .ms 3 (N + 3) 0 may.length → tm.getD 7 undefA = .ptr (N + 4) 0 0 →
  H[N]? = some (.obj none [[.ptr ir 0 0]]) → H[N + 2]? = some (.obj none [[x, y, z]]) → H[N + 3]? = some (.obj none ((may ++ rest).map encW)) → H[N + 4]? = some (.obj none [[.im (.int .i64 (n : Int))]]) → H[ir]? = some (.obj none [[.im (.str s), .im (.int .i64 ((at0 + n : Nat) : Int))]]) → But N ir H0 H →
  ∃ tm' H', Λ g98_0 tm H = some (.ret, tm', H') ∧ tm'.length = 52 ∧ tm'.getD 4 undefA = .ptr (N + 2) 0 0 ∧ tm'.getD 5 undefA = .im (.bool (wordGo (s.drop at0) k may n).2.isSome) ∧ H'[N + 2]? = some (.obj none [encW (wordRes (wordGo (s.drop at0) k may n).2)]) ∧
   H'[ir]? = some (.obj none [[.im (.str s), .im (.int .i64 ((at0 + (wordGo (s.drop at0) k may n).1 : Nat) : Int))]]) ∧ But N ir H0 H' := by
 intro k
 induction k with
 | zero =>
  intro may rest n hne hm8 hlens han tm H x y z hlen h2 h4 h6 h7 oN o2 o3 o4 oir hbut
  have key := l98 may rest (N + 3) (N + 4) (N + 2) n (by omega) (by omega) (by omega) H x y z o3 o4 o2 may.length 0 (by omega)
  have zz : ((0 : Nat) : Int) = 0 := rfl
  simp only [List.drop_zero,zz] at key
  have key0 := fun tm => key tm []
  simp only [List.append_nil] at key0
  have hHl : N + 4 < H.length := (List.getElem?_eq_some_iff.1 o4).1
  rw [g98_0_eq]
  simp only [w98_0,e98_0,B0,B1,B2,List.replicate,Nat.reduceAdd,Nat.reduceSub,Nat.reduceLeDiff,Nat.reduceLT,Nat.reduceEqDiff,reduceCtorEq,Int.reduceEq,Int.reduceLT,Int.reduceLE,lenA,hlen,h2,h4,h6,h7]
  generalize hr : thenL _ _ = r
  refine Exists.elim (thenL_inv hr (key0 _ ?_ ?_ ?_ ?_ ?_ ?_)) ?_
  iterate 6 simp only [B3,Nat.reduceLT,Nat.reduceEqDiff,hlen,h4,h6,h7]
  clear hr
  rintro e ⟨tm1, H1, ⟨hl1, g, hm⟩, rfl⟩
  have g4 := g 4 (by simp)
  simp only [B3,Nat.reduceLT,Nat.reduceEqDiff,hlen,h4] at g4
  clear g
  simp only [wordGo]
  cases hf : may.find? (fun w => decide (w.2.1.length = n)) with
  | some w =>
   rw [hf] at hm
   obtain ⟨rfl, g5, M', rfl⟩ := hm
   simp only [B0,B1,B2,List.replicate,Nat.reduceAdd,Nat.reduceSub,Nat.reduceLeDiff,Nat.reduceLT,Nat.reduceEqDiff,reduceCtorEq,Int.reduceEq,Int.reduceLT,Int.reduceLE,lenA,K98_ret]
   have hlt : ∀ i, i ≤ N + 4 → ∀ o : HO, (H.set (N + 2) o ++ M')[i]? = (H.set (N + 2) o)[i]? := fun i hi o => get_app (by simp; omega)
   refine ⟨_, _, rfl, hl1, g4, g5, ?_, ?_, ?_⟩
   ·rw [hlt _ (by omega), List.getElem?_set_self (by omega)]; rfl
   ·rw [hlt _ (by omega), List.getElem?_set_ne (by omega)]; exact oir
   ·refine ⟨by have := hbut.1; simp; omega, fun i hi hne => ?_⟩
    rw [hlt _ (by omega), List.getElem?_set_ne (by omega)]; exact hbut.2 i hi hne
  | none =>
   obtain ⟨w, hw⟩ := List.exists_mem_of_ne_nil _ hne
   have := List.find?_eq_none.1 hf w hw
   have h2 := hlens w hw
   simp at this
   omega
 | succ k ih =>
  intro may rest n hne hm8 hlens han tm H x y z hlen h2 h4 h6 h7 oN o2 o3 o4 oir hbut
  have key := l98 may rest (N + 3) (N + 4) (N + 2) n (by omega) (by omega) (by omega) H x y z o3 o4 o2 may.length 0 (by omega)
  have zz : ((0 : Nat) : Int) = 0 := rfl
  simp only [List.drop_zero,zz] at key
  have key0 := fun tm => key tm []
  simp only [List.append_nil] at key0
  have hHl : N + 4 < H.length := (List.getElem?_eq_some_iff.1 o4).1
  rw [g98_0_eq]
  simp only [w98_0,e98_0,B0,B1,B2,List.replicate,Nat.reduceAdd,Nat.reduceSub,Nat.reduceLeDiff,Nat.reduceLT,Nat.reduceEqDiff,reduceCtorEq,Int.reduceEq,Int.reduceLT,Int.reduceLE,lenA,hlen,h2,h4,h6,h7]
  generalize hr : thenL _ _ = r
  refine Exists.elim (thenL_inv hr (key0 _ ?_ ?_ ?_ ?_ ?_ ?_)) ?_
  iterate 6 simp only [B3,Nat.reduceLT,Nat.reduceEqDiff,hlen,h4,h6,h7]
  clear hr
  rintro e ⟨tm1, H1, ⟨hl1, g, hm⟩, rfl⟩
  have g2 := g 2 (by simp)
  have g4 := g 4 (by simp)
  have g6 := g 6 (by simp)
  have g7 := g 7 (by simp)
  simp only [B3,Nat.reduceLT,Nat.reduceEqDiff,hlen,h2,h4,h6,h7] at g2 g4 g6 g7
  clear g key key0
  simp only [wordGo]
  cases hf : may.find? (fun w => decide (w.2.1.length = n)) with
  | some w =>
   rw [hf] at hm
   obtain ⟨rfl, g5, M', rfl⟩ := hm
   simp only [B0,B1,B2,List.replicate,Nat.reduceAdd,Nat.reduceSub,Nat.reduceLeDiff,Nat.reduceLT,Nat.reduceEqDiff,reduceCtorEq,Int.reduceEq,Int.reduceLT,Int.reduceLE,lenA,K98_ret]
   have hlt : ∀ i, i ≤ N + 4 → ∀ o : HO, (H.set (N + 2) o ++ M')[i]? = (H.set (N + 2) o)[i]? := fun i hi o => get_app (by simp; omega)
   refine ⟨_, _, rfl, hl1, g4, g5, ?_, ?_, ?_⟩
   ·rw [hlt _ (by omega), List.getElem?_set_self (by omega)]; rfl
   ·rw [hlt _ (by omega), List.getElem?_set_ne (by omega)]; exact oir
   ·refine ⟨by have := hbut.1; simp; omega, fun i hi hne => ?_⟩
    rw [hlt _ (by omega), List.getElem?_set_ne (by omega)]; exact hbut.2 i hi hne
  | none =>
   rw [hf] at hm
   obtain ⟨rfl, M', rfl⟩ := hm
   have ga : ∀ (j : Nat) (o : HO), H[j]? = some o → (H ++ M')[j]? = some o := fun j o h => by rw [get_app (List.getElem?_eq_some_iff.1 h).1]; exact h
   replace oN := ga _ _ oN
   replace o2 := ga _ _ o2
   replace o3 := ga _ _ o3
   replace o4 := ga _ _ o4
   replace oir := ga _ _ oir
   replace hbut := hbut.app (by omega) M'
   have hHl : N + 4 < (H ++ M').length := by simp; omega
   clear ga
   generalize H ++ M' = Hc at *
   have hdr : (s.drop at0)[n]? = s[at0 + n]? := List.getElem?_drop
   rw [hdr]
   have fin : ∀ (tm2 : List AV) (H2 : Heap) (n2 : Nat), n2 = n → tm2.length = 52 → tm2.getD 4 undefA = .ptr (N + 2) 0 0 → tm2.getD 5 undefA = .im (.bool false) → H2[N + 2]? = some (.obj none [encW zeroW]) → H2[ir]? = some (.obj none [[.im (.str s), .im (.int .i64 ((at0 + n : Nat) : Int))]]) → But N ir H0 H2 →
     ∃ tm' H', some (AEx.ret, tm2, H2) = some (AEx.ret, tm', H') ∧ tm'.length = 52 ∧ tm'.getD 4 undefA = .ptr (N + 2) 0 0 ∧ tm'.getD 5 undefA = .im (.bool (Option.isSome (none : Option Word))) ∧ H'[N + 2]? = some (.obj none [encW (wordRes none)]) ∧ H'[ir]? = some (.obj none [[.im (.str s), .im (.int .i64 ((at0 + n2 : Nat) : Int))]]) ∧ But N ir H0 H' :=
    fun tm2 H2 n2 hn2 a b c d e f => ⟨tm2, H2, rfl, a, b, c, d, by rw [hn2]; exact e, f⟩
   by_cases hat' : at0 + n < s.length
   ·have hc : decide ((((at0 + n : Nat) : Nat) : Int) < (s.length : Int)) = true := decide_eq_true (by omega)
    have hsc : s[at0 + n]? = some s[at0 + n] := List.getElem?_eq_getElem hat'
    generalize s[at0 + n] = c at hsc
    rw [hsc]
    simp only
    have hasks : Asks (fun w => !decide (w.2.1[n]? = some c)) 109 [.ptr (N + 4) 0 0, .ptr N 0 0] Hc.length (N + 3) Hc may := by
     intro w hw H' hH' hl'
     have h1 := hlens w hw
     have h2 := List.find?_eq_none.1 hf w hw
     simp at h2
     have hwa : w.2.1[n]? = some (w.2.1[n]'(by omega)) := List.getElem?_eq_getElem (by omega)
     generalize w.2.1[n]'(by omega) = a at hwa
     have := s109 w (N + 4) N ir n s (at0 + n) a c H' (by rw [hH' _ (by omega) (by omega)]; exact o4) (by rw [hH' _ (by omega) (by omega)]; exact oN) (by rw [hH' _ (by omega) (by omega)]; exact oir) hwa hsc
     simp only [List.cons_append,List.nil_append]
     rw [this, hwa]
     simp only [Option.some.injEq]
    obtain ⟨rest', h98⟩ := s107 may rest (N + 3) Hc o3 _ 109 _ hasks (by omega) hne
    simp only [Bool.not_not] at h98
    have hmem : ∀ w ∈ may.filter (fun w => decide (w.2.1[n]? = some c)), w ∈ may ∧ w.2.1[n]? = some c := fun w hw => by simpa using hw
    have hfl : (may.filter fun w => decide (w.2.1[n]? = some c)).length ≤ may.length := List.length_filter_le _ _
    generalize may.filter (fun w => decide (w.2.1[n]? = some c)) = may' at *
    have oN' : ∀ o, (Hc.set (N + 3) o)[N]? = some (.obj none [[.ptr ir 0 0]]) := fun o => by rw [List.getElem?_set_ne (by omega)]; exact oN
    have o2' : ∀ o, (Hc.set (N + 3) o)[N + 2]? = some (.obj none [[x, y, z]]) := fun o => by rw [List.getElem?_set_ne (by omega)]; exact o2
    have oir' : ∀ o, (Hc.set (N + 3) o)[ir]? = some (.obj none [[.im (.str s), .im (.int .i64 ((at0 + n : Nat) : Int))]]) := fun o => by rw [List.getElem?_set_ne (by omega)]; exact oir
    have o4' : ∀ o, (Hc.set (N + 3) o)[N + 4]? = some (.obj none [[.im (.int .i64 (n : Int))]]) := fun o => by rw [List.getElem?_set_ne (by omega)]; exact o4
    by_cases hm0 : may' = []
    ·subst hm0
     simp only [if_true]
     simp only [List.length_nil,msOf,Nat.lt_irrefl,if_false,List.nil_append] at h98
     have z0 : (((0 : Nat) : Nat) : Int) = 0 := rfl
     simp only [B0,B1,B2,List.replicate,Nat.reduceAdd,Nat.reduceSub,Nat.reduceLeDiff,Nat.reduceLT,Nat.reduceEqDiff,reduceCtorEq,Int.reduceEq,Int.reduceLT,Int.reduceLE,lenA,hl1,g2,g4,g6,g7,oN,oir,hc,h98,lenA,z0,o2',Int.reduceLT,K98_ret,decide_false]
     refine fin _ _ n rfl ?_ ?_ ?_ ?_ ?_ ?_
     ·simp only [List.length_set,hl1]
     ·simp only [B3,Nat.reduceLT,Nat.reduceEqDiff,hl1,g4]
     ·simp only [B3,Nat.reduceLT,Nat.reduceEqDiff,hl1]
     ·rw [List.getElem?_set_self (by simp; omega)]; rfl
     ·rw [List.getElem?_set_ne (by omega)]; exact oir' _
     ·refine ⟨by have := hbut.1; simp; omega, fun i hi hne => ?_⟩
      rw [List.getElem?_set_ne (by omega), List.getElem?_set_ne (by omega)]; exact hbut.2 i hi hne
    ·simp only [if_neg hm0]
     have hpos : 0 < may'.length := List.length_pos_iff.2 hm0
     have hpos' : decide ((0 : Int) < (may'.length : Int)) = true := decide_eq_true (by omega)
     simp only [msOf,if_pos hpos] at h98
     have hwr := wrap_nat (i := at0 + n) (by omega)
     have hwrn := wrap_nat (i := n) (by omega)
     have hno : N + 4 ≠ ir := by omega
     have o4'' : ∀ o o', ((Hc.set (N + 3) o).set ir o')[N + 4]? = some (.obj none [[.im (.int .i64 (n : Int))]]) := fun o o' => by rw [List.getElem?_set_ne (by omega)]; exact o4' o
     simp only [B0,B1,B2,List.replicate,Nat.reduceAdd,Nat.reduceSub,Nat.reduceLeDiff,Nat.reduceLT,Nat.reduceEqDiff,reduceCtorEq,Int.reduceEq,Int.reduceLT,Int.reduceLE,lenA,hl1,g2,g4,g6,g7,oN,oN',oir,oir',o4',o4'',hc,h98,lenA,hpos',hwr,hwrn,K98_goto0]
     refine ih may' rest' (n + 1) hm0 (by omega) ?_ (by omega) _ _ x y z ?_ ?_ ?_ ?_ ?_ ?_ ?_ ?_ ?_ ?_ ?_
     ·intro w hw
      obtain ⟨h1, h2⟩ := hmem w hw
      have := hlens w h1
      have := (List.getElem?_eq_some_iff.1 h2).1
      omega
     ·simp only [List.length_set,hl1]
     ·simp only [B3,Nat.reduceLT,Nat.reduceEqDiff,hl1,g2]
     ·simp only [B3,Nat.reduceLT,Nat.reduceEqDiff,hl1,g4]
     ·simp only [B3,Nat.reduceLT,Nat.reduceEqDiff,hl1]
     ·simp only [B3,Nat.reduceLT,Nat.reduceEqDiff,hl1,g7]
     ·rw [List.getElem?_set_ne (by omega), List.getElem?_set_ne (by omega)]; exact oN' _
     ·rw [List.getElem?_set_ne (by omega), List.getElem?_set_ne (by omega)]; exact o2' _
     ·rw [List.getElem?_set_ne (by omega), List.getElem?_set_ne (by omega), List.getElem?_set_self (by omega)]
     ·rw [List.getElem?_set_self (by simp; omega)]
     ·rw [List.getElem?_set_ne (by omega), List.getElem?_set_self (by simp; omega)]; rfl
     ·refine ⟨by have := hbut.1; simp; omega, fun i hi hne => ?_⟩
      rw [List.getElem?_set_ne (by omega), List.getElem?_set_ne (by omega), List.getElem?_set_ne (by omega)]; exact hbut.2 i hi hne
   ·have hc : decide ((((at0 + n : Nat) : Nat) : Int) < (s.length : Int)) = false := decide_eq_false (by omega)
    have hsc : s[at0 + n]? = none := List.getElem?_eq_none (by omega)
    rw [hsc]
    simp only [B0,B1,B2,List.replicate,Nat.reduceAdd,Nat.reduceSub,Nat.reduceLeDiff,Nat.reduceLT,Nat.reduceEqDiff,reduceCtorEq,Int.reduceEq,Int.reduceLT,Int.reduceLE,lenA,hl1,g2,g4,g6,g7,oN,oir,hc,o2,K98_ret]
    refine fin _ _ n rfl ?_ ?_ ?_ ?_ ?_ ?_
    ·simp only [List.length_set,hl1]
    ·simp only [B3,Nat.reduceLT,Nat.reduceEqDiff,hl1,g4]
    ·simp only [B3,Nat.reduceLT,Nat.reduceEqDiff,hl1]
    ·rw [List.getElem?_set_self (by omega)]; rfl
    ·rw [List.getElem?_set_ne (by omega)]; exact oir
    ·refine ⟨by have := hbut.1; simp; omega, fun i hi hne => ?_⟩
     rw [List.getElem?_set_ne (by omega)]; exact hbut.2 i hi hne
def mayW (d : Int) : List Word := words.filter fun w => !outW d w
def word69 (s : List UInt8) (at0 : Nat) (d : Int) : Nat × Option Word := wordGo (s.drop at0) 8 (mayW d) 0
theorem mayW_ne (d : Int) : mayW d ≠ [] := by
 have : ((1 : Int), ([98, 111, 111, 108] : List UInt8), (0 : Int)) ∈ mayW d := by
  simp only [mayW,List.mem_filter]
  exact ⟨by decide, by simp [outW]⟩
 exact List.ne_nil_of_mem this
theorem mayW_len (d : Int) : (mayW d).length ≤ 8 := List.length_filter_le _ _
theorem s98 (s : List UInt8) (at0 ir : Nat) (d : Int) (H : Heap) (hir : H[ir]? = some (.obj none [[.im (.str s), .im (.int .i64 (at0 : Int))]])) (hs : s.length ≤ 9223372036854775807) (hat : at0 ≤ s.length) :
  L 98 [.ptr ir 0 0, .im (.int .i64 d)] H = some (.tup [.im (.agg (datW (wordRes (word69 s at0 d).2))), .im (.bool (word69 s at0 d).2.isSome)], H.set ir (.obj none [[.im (.str s), .im (.int .i64 ((at0 + (word69 s at0 d).1 : Nat) : Int))]])) := by
 have hirl := (List.getElem?_eq_some_iff.1 hir).1
 rw [leq F98]
 have hK : ∀ (tm : List AV) (H' : Heap) (w : Word) (b : Bool) (o : HO), tm.length = 52 → tm.getD 4 undefA = .ptr (H.length + 2) 0 0 → tm.getD 5 undefA = .im (.bool b) → H'[H.length + 2]? = some (.obj none [encW w]) → But H.length ir H H' → H'[ir]? = some o → refsO H.length o = true →
   endK f98 H .ret tm H' = some (.tup [.im (.agg (datW w)), .im (.bool b)], H.set ir o) := fun tm H' w b o hl h4 h5 h2 hb ho hro => by
  have := leave_but (keep := false) (r := .tup [.im (.agg (datW w)), .im (.bool b)]) hb ho hro (by simp [degrade, degrade1, toDat, refsLt, refsLts]) hirl
  simp only [Bool.false_eq_true,if_false] at this
  have hd : degrade (.tup [.im (.agg (datW w)), .im (.bool b)]) = .tup [.im (.agg (datW w)), .im (.bool b)] := by simp [degrade, degrade1, toDat]
  rw [hd] at this
  simp only [encW] at h2
  simp only [datW] at this
  simp only [endK,f98,B0,B1,B2,List.replicate,Nat.reduceAdd,Nat.reduceSub,Nat.reduceLeDiff,Nat.reduceLT,Nat.reduceEqDiff,reduceCtorEq,Int.reduceEq,Int.reduceLT,Int.reduceLE,lenA,resA,tupA,h4,h5,h2,this,datW]
 have hcode : f98.code = f98.code := rfl
 conv at hcode => rhs; simp only [f98]
 rw [hcode]
 clear hcode
 generalize endK f98 H = K at *
 obtain ⟨hlen, ha⟩ := enter_at (f := f98) (args := [.ptr ir 0 0, .im (.int .i64 d)]) (Nat.le_of_ble_eq_true rfl)
 have h0 := ha 0 _ rfl
 have h1 := ha 1 _ rfl
 generalize enterA f98 [.ptr ir 0 0, .im (.int .i64 d)] = tm at *
 change tm.length = 52 at hlen
 have hN : H.length = H.length := rfl
 have hda : ∀ M : Heap, (H ++ M)[ir]? = some (.obj none [[.im (.str s), .im (.int .i64 (at0 : Int))]]) := fun M => by rw [get_app hirl]; exact hir
 have hx : (H ++ [.obj none [[.ptr ir 0 0]], .obj none [[.im (.int .i64 d)]], .obj none [[.im (.int .i64 0), .im (.str []), .im (.int .i64 0)]], HO.obj none ((words ++ []).map encW)]).length = H.length + 4 := by simp
 obtain ⟨rest', h98⟩ := s107 words [] (H.length + 3) (H ++ [.obj none [[.ptr ir 0 0]], .obj none [[.im (.int .i64 d)]], .obj none [[.im (.int .i64 0), .im (.str []), .im (.int .i64 0)]], HO.obj none ((words ++ []).map encW)])
  (by rw [hget]; rfl) (outW d) 108 [.ptr (H.length + 1) 0 0] (by
   intro w hw H' hH' hl'
   rw [hx] at hH'
   exact s108 w (H.length + 1) d H' (by rw [hH' _ (by omega) (by omega), hget]; rfl)) (by decide) (by decide)
 have hfm : words.filter (fun w => !outW d w) = mayW d := rfl
 have hw8 : words.length = 8 := rfl
 have hpos : 0 < (mayW d).length := List.length_pos_iff.2 (mayW_ne d)
 rw [hfm, hw8] at h98
 simp only [msOf,if_pos hpos,List.append_nil] at h98
 have hmem : ∀ w ∈ mayW d, w ∈ words := fun w hw => (List.mem_filter.1 hw).1
 have hml := mayW_len d
 simp only [e98_1,c98_1_eq,s98b,B0,B1,B2,List.replicate,Nat.reduceAdd,Nat.reduceSub,Nat.reduceLeDiff,Nat.reduceLT,Nat.reduceEqDiff,reduceCtorEq,Int.reduceEq,Int.reduceLT,Int.reduceLE,lenA,hlen,h0,h1,s76,h98]
 rw [← g98_0_eq]
 generalize hr : thenL _ _ = r
 have key := g98 s at0 ir H.length H rfl hirl hs hat 8 (mayW d) rest' 0 (mayW_ne d) hml (fun w hw => by have := word_len w (hmem w hw); omega) (by omega)
 refine Exists.elim (thenL_inv hr (ret_ex (key _ _ (.im (.int .i64 0)) (.im (.str [])) (.im (.int .i64 0)) ?_ ?_ ?_ ?_ ?_ ?_ ?_ ?_ ?_ ?_ ?_))) ?_
 ·simp only [List.length_set,hlen]
 iterate 4 simp only [B3,Nat.reduceLT,Nat.reduceEqDiff,hlen]
 ·rw [hget0]; rfl
 ·rw [hget]; rfl
 ·rw [hget]; rfl
 ·rw [hget]; rfl
 ·exact hda _
 ·exact But.refl.app (Nat.le_refl _) _
 ·rintro e ⟨tm1, H1, ⟨rfl, hl1, g4, g5, g2, gir, hb⟩, rfl⟩
  exact hK _ _ _ _ _ hl1 g4 g5 g2 hb gir rfl
end Go.Abs.Seat
end
section
set_option linter.unusedVariables false
set_option linter.unusedSimpArgs false
namespace Go.Abs.Seat
open Go.Proofs
def signB (s : List UInt8) (k : Nat) (c : UInt8) : Bool := decide (s[k]? = some c)
def objR (s : List UInt8) (k : Nat) : HO := .obj none [[.im (.str s), .im (.int .i64 (k : Int))]]
theorem s99 (s : List UInt8) (k ir : Nat) (c : UInt8) (H : Heap) (hir : H[ir]? = some (objR s k)) (hs : s.length ≤ 9223372036854775807) :
  L 99 [.ptr ir 0 0, .im (byteDat c)] H = some (.im (.bool (signB s k c)), H.set ir (objR s (if signB s k c = true then k + 1 else k))) := by
 have hirl := (List.getElem?_eq_some_iff.1 hir).1
 have p2 : (0 : Int) ≤ (k : Int) := Int.natCast_nonneg k
 have hl0 : leave H false (.im (.bool false)) H = (.im (.bool false), H) := leave_same
 have hl1 : ∀ o : HO, refsO H.length o = true → leave H false (.im (.bool true)) (H.set ir o) = (.im (.bool true), H.set ir o) := fun o ho => by
  have := leave_but (keep := false) (r := .im (.bool true)) (But.refl.set o) (List.getElem?_set_self hirl) ho rfl hirl
  simpa [degrade, toDat] using this
 have hl1' := hl1 (objR s (k + 1)) rfl
 simp only [objR,byteDat] at hir hl1' ⊢
 rw [leq F99]
 obtain ⟨hlen, ha⟩ := enter_at (f := f99) (args := [.ptr ir 0 0, .im (.int .u8 (c.toNat : Int))]) (Nat.le_of_ble_eq_true rfl)
 have h0 := ha 0 _ rfl
 have h1 := ha 1 _ rfl
 generalize enterA f99 [.ptr ir 0 0, .im (.int .u8 (c.toNat : Int))] = tm at *
 change tm.length = 35 at hlen
 by_cases hk : k < s.length
 ·have hc : decide ((k : Int) < (s.length : Int)) = true := decide_eq_true (by omega)
  have hsk : s[k]? = some s[k] := List.getElem?_eq_getElem hk
  generalize s[k] = a at hsk
  have hwr := wrap_nat (i := k) (by omega)
  unfold signB
  rw [hsk]
  by_cases hac : a = c
  ·have hd : decide (((a.toNat : Nat) : Int) = ((c.toNat : Nat) : Int)) = true := by rw [byte_eq]; exact decide_eq_true hac
   have hd2 : decide (some a = some c) = true := decide_eq_true (by rw [hac])
   rw [hd2]
   simp only [f99,B0,B1,B2,List.replicate,Nat.reduceAdd,Nat.reduceSub,Nat.reduceLeDiff,Nat.reduceLT,Nat.reduceEqDiff,reduceCtorEq,Int.reduceEq,Int.reduceLT,Int.reduceLE,lenA,endK,resA,tupA,intOfA,byteDat,Int.toNat_natCast,hlen,h0,h1,hir,hc,p2,hsk,hd,hwr,hl1']
  ·have hd : decide (((a.toNat : Nat) : Int) = ((c.toNat : Nat) : Int)) = false := by rw [byte_eq]; exact decide_eq_false hac
   have hd2 : decide (some a = some c) = false := decide_eq_false (by simpa using hac)
   rw [hd2]
   rw [show (if false = true then k + 1 else k) = k from rfl, set_same hir]
   simp only [f99,B0,B1,B2,List.replicate,Nat.reduceAdd,Nat.reduceSub,Nat.reduceLeDiff,Nat.reduceLT,Nat.reduceEqDiff,reduceCtorEq,Int.reduceEq,Int.reduceLT,Int.reduceLE,lenA,endK,resA,tupA,intOfA,byteDat,Int.toNat_natCast,hlen,h0,h1,hir,hc,p2,hsk,hd,hwr,hl0]
 ·have hc : decide ((k : Int) < (s.length : Int)) = false := decide_eq_false (by omega)
  have hsk : s[k]? = none := List.getElem?_eq_none (by omega)
  unfold signB
  rw [hsk]
  have hd2 : decide (none = some c) = false := decide_eq_false (by simp)
  rw [hd2]
  rw [show (if false = true then k + 1 else k) = k from rfl, set_same hir]
  simp only [f99,B0,B1,B2,List.replicate,Nat.reduceAdd,Nat.reduceSub,Nat.reduceLeDiff,Nat.reduceLT,Nat.reduceEqDiff,reduceCtorEq,Int.reduceEq,Int.reduceLT,Int.reduceLE,lenA,endK,resA,tupA,hlen,h0,h1,hir,hc,hl0]
def mkT (k : Int) (args : List KT) : KT := .mk k (if args.length = 0 then 0 else 2) args
def zeroT : KT := mkT 0 []
def readL (rd : Nat → Nat × KT × Bool) (s : List UInt8) : Nat → Nat → Nat → List KT → Nat × Option (List KT)
 | 0, i, k, acc => (k, some acc)
 | m + 1, i, k, acc => if signB s k (sepB i) = true then (if (rd (k + 1)).2.2 = true then readL rd s m (i + 1) (rd (k + 1)).1 (acc ++ [(rd (k + 1)).2.1]) else ((rd (k + 1)).1, none)) else (k, none)
def readP (s : List UInt8) : Nat → Nat → Nat × KT × Bool
 | 0, k => (k, zeroT, false)
 | d + 1, k => match word69 s k ((d : Int) + 1) with
  |(n, none) => (k + n, zeroT, false)
  |(n, some w) => match readL (readP s d) s w.2.2.toNat 0 (k + n) [] with
   |(k', none) => (k', zeroT, false)
   |(k', some l) => if w.2.2 = 0 then (k', mkT w.1 l, true) else (if signB s k' 41 = true then (k' + 1, mkT w.1 l, true) else (k', mkT w.1 l, false))
theorem sign_lt {s : List UInt8} {k : Nat} {c : UInt8} (h : signB s k c = true) : k < s.length := by
 have := of_decide_eq_true h
 exact (List.getElem?_eq_some_iff.1 this).1
end Go.Abs.Seat
end
section
set_option linter.unusedVariables false
set_option linter.unusedSimpArgs false
namespace Go.Abs.Seat
open Go.Proofs
theorem l81 (s : List UInt8) (ir N : Nat) (H0 : Heap) (hN : N = H0.length) (hir : ir < N) (hs : s.length ≤ 9223372036854775807) (d d' : Int) (hd : IntKind.i64.wrap (d - 1) = d') (rd : Nat → Nat × KT × Bool)
  (cnt : Nat) (hrd : 0 < cnt → ∀ (k : Nat) (H : Heap), k ≤ s.length → H[ir]? = some (objR s k) → L 81 [.ptr ir 0 0, .im (.int .i64 d')] H = some (.tup [.im (.agg (encT (rd k).2.1)), .im (.bool (rd k).2.2)], H.set ir (objR s (rd k).1)))
  (hle : 0 < cnt → ∀ k, k ≤ s.length → (rd k).1 ≤ s.length) (hcnt : cnt ≤ 2) (kk : Int) (W : HO) :
  ∀ (m i : Nat), i + m = cnt → ∀ (tm : List AV) (H : Heap) (k : Nat) (acc : List KT) (v x y : AV), k ≤ s.length → acc.length = i → tm.length = 60 → tm.getD 0 undefA = .ptr ir 0 0 → tm.getD 1 undefA = .im (.int .i64 d) → tm.getD 4 undefA = .ptr N 0 0 → tm.getD 6 undefA = .ptr (N + 1) 0 0 → tm.getD 8 undefA = .ptr (N + 2) 0 0 →
  tm.getD 25 undefA = .im (.int .i64 (cnt : Int)) → tm.getD 26 undefA = .im (.int .i64 (i : Int)) → H[N]? = some (.obj none [[x, y]]) → H[N + 1]? = some W → H[N + 2]? = some (.obj none [[.im (.int .i64 kk), v]]) → Gath 24 2 (N + 3) v H (acc.map encT) → H[ir]? = some (objR s k) → But N ir H0 H → N + 3 ≤ H.length →
  ∃ e tm' H', Λ c81_0 tm H = some (e, tm', H') ∧ tm'.length = 60 ∧ tm'.getD 0 undefA = .ptr ir 0 0 ∧ tm'.getD 4 undefA = .ptr N 0 0 ∧ tm'.getD 6 undefA = .ptr (N + 1) 0 0 ∧ tm'.getD 8 undefA = .ptr (N + 2) 0 0 ∧ But N ir H0 H' ∧ H'[N + 1]? = some W ∧ N + 3 ≤ H'.length ∧
   H'[ir]? = some (objR s (readL rd s m i k acc).1) ∧ (readL rd s m i k acc).1 ≤ s.length ∧ match (readL rd s m i k acc).2 with
    | none => e = .ret ∧ H'[N]? = some (.obj none [[.im (.int .i64 0), .nils]]) ∧ tm'.getD 5 undefA = .im (.bool false)
    | some l => e = .exit 0 ∧ (∃ x y, H'[N]? = some (.obj none [[x, y]])) ∧ (∃ v', H'[N + 2]? = some (.obj none [[.im (.int .i64 kk), v']]) ∧ Gath 24 2 (N + 3) v' H' (l.map encT)) ∧ l.length = cnt
 | 0, i, hi, tm, H, k, acc, v, x, y, hk, hacc, hlen, h0, h1, h4, h6, h8, h25, h26, oN, o1, o2, hG, oir, hb, hHl => by
  have hc : decide ((i : Int) < (cnt : Int)) = false := decide_eq_false (by omega)
  rw [l81_0]
  simp only [readL,b81_0,B0,B1,B2,List.replicate,Nat.reduceAdd,Nat.reduceSub,Nat.reduceLeDiff,Nat.reduceLT,Nat.reduceEqDiff,reduceCtorEq,Int.reduceEq,Int.reduceLT,Int.reduceLE,lenA,hlen,h25,h26,hc]
  exact ⟨_, _, _, rfl, by simp only [List.length_set,hlen], by simp only [B3,Nat.reduceLT,Nat.reduceEqDiff,hlen,h0], by simp only [B3,Nat.reduceLT,Nat.reduceEqDiff,hlen,h4], by simp only [B3,Nat.reduceLT,Nat.reduceEqDiff,hlen,h6], by simp only [B3,Nat.reduceLT,Nat.reduceEqDiff,hlen,h8], hb, o1, hHl, oir, hk, rfl, ⟨_, _, oN⟩, ⟨_, o2, hG⟩, by omega⟩
 | m + 1, i, hi, tm, H, k, acc, v, x, y, hk, hacc, hlen, h0, h1, h4, h6, h8, h25, h26, oN, o1, o2, hG, oir, hb, hHl => by
  have hc : decide ((i : Int) < (cnt : Int)) = true := decide_eq_true (by omega)
  have hnn : (0 : Int) ≤ (i : Int) := Int.natCast_nonneg i
  have hwr := wrap_nat (i := i) (by omega)
  have hsep : ([40, 44] : List UInt8)[i]? = some (sepB i) := by
   have : i = 0 ∨ i = 1 := by omega
   rcases this with rfl | rfl <;> rfl
  have h70 := s99 s k ir (sepB i) H oir hs
  simp only [byteDat] at h70
  have hirH : ir < H.length := by omega
  rw [l81_0]
  simp only [readL]
  by_cases hsg : signB s k (sepB i) = true
  ·simp only [hsg,if_true] at h70 ⊢
   have hk1 : k + 1 ≤ s.length := sign_lt hsg
   have oir1 : (H.set ir (objR s (k + 1)))[ir]? = some (objR s (k + 1)) := List.getElem?_set_self hirH
   have h45 := hrd (by omega) (k + 1) _ hk1 oir1
   rw [List.set_set] at h45
   have hle1 := hle (by omega) (k + 1) hk1
   generalize hrk : rd (k + 1) = q at *
   obtain ⟨k2, t, ok⟩ := q
   simp only at h45 hle1 ⊢
   have gs : ∀ (j : Nat) (o o' : HO), j ≠ ir → H[j]? = some o → (H.set ir o')[j]? = some o := fun j o o' hne h => by rw [List.getElem?_set_ne (fun e => hne e.symm)]; exact h
   have oN1 := gs N _ (objR s k2) (by omega) oN
   have o11 := gs (N + 1) _ (objR s k2) (by omega) o1
   have o21 := gs (N + 2) _ (objR s k2) (by omega) o2
   have oir2 : (H.set ir (objR s k2))[ir]? = some (objR s k2) := List.getElem?_set_self hirH
   have hb2 := hb.set (objR s k2)
   have hG2 := hG.set_obj oir (objR s k2)
   have hHl2 : N + 3 ≤ (H.set ir (objR s k2)).length := by simpa using hHl
   generalize H.set ir (objR s k2) = H2 at *
   have ga : ∀ (j : Nat) (o : HO) (M : Heap), H2[j]? = some o → (H2 ++ M)[j]? = some o := fun j o M h => by rw [get_app (List.getElem?_eq_some_iff.1 h).1]; exact h
   obtain ⟨k', s', ts⟩ := t
   simp only [encT] at h45
   cases ok with
   | true =>
    have hGx := (hG2.more [.obj none [[.im (.int .i64 k'), .im (.sl s' (encTs ts))]]]).grow (bytes := 32) (by simp; omega) (encT (.mk k' s' ts)) (by simp; omega) (by decide)
    obtain ⟨tok, H3, hap, hG3, hl3, hlow3, hob3⟩ := hGx
    simp only [encT] at hap
    have oN2 := ga _ _ [.obj none [[.im (.int .i64 k'), .im (.sl s' (encTs ts))]]] oN1
    have o12 := ga _ _ [.obj none [[.im (.int .i64 k'), .im (.sl s' (encTs ts))]]] o11
    have o22 := ga _ _ [.obj none [[.im (.int .i64 k'), .im (.sl s' (encTs ts))]]] o21
    have o23 := hob3 _ _ _ o22
    have oir3 := ga _ _ [.obj none [[.im (.int .i64 k'), .im (.sl s' (encTs ts))]]] oir2
    have hid : decide True = true := rfl
    have key := l81 s ir N H0 hN hir hs d d' hd rd cnt hrd hle hcnt kk W m (i + 1) (by omega)
    simp only [b81_0,B0,B1,B2,List.replicate,Nat.reduceAdd,Nat.reduceSub,Nat.reduceLeDiff,Nat.reduceLT,Nat.reduceEqDiff,reduceCtorEq,Int.reduceEq,Int.reduceLT,Int.reduceLE,lenA,intOfA,byteDat,elems,toDatss,toDats,toDat,Int.toNat_natCast,hlen,h0,h1,h4,h6,h8,h25,h26,hc,hnn,hsep,hd,h70,h45,o22,hap,o23,hwr]
    have hnir : N + 2 ≠ ir := by omega
    have oH3 : ∀ j, j < N + 3 → j ≠ N + 2 → ∀ o o', (H2 ++ [.obj none [[.im (.int .i64 k'), .im (.sl s' (encTs ts))]]])[j]? = some o → (H3.set (N + 2) o')[j]? = some o := fun j hj hj2 o o' h => by
     rw [List.getElem?_set_ne (fun e => hj2 e.symm), hlow3 j hj]; exact h
    have hmap : acc.map encT ++ [encT (.mk k' s' ts)] = (acc ++ [KT.mk k' s' ts]).map encT := by simp
    have hN2 : N + 2 < H3.length := by simp at hl3; omega
    refine ex_imp (key _ _ k2 (acc ++ [.mk k' s' ts]) (.asl 2 (acc.map encT ++ [encT (.mk k' s' ts)]) tok) x y hle1 (by simp; omega) ?_ ?_ ?_ ?_ ?_ ?_ ?_ ?_ ?_ ?_ ?_ ?_ ?_ ?_ ?_) fun _ _ _ h => h
    ·simp only [List.length_set,hlen]
    iterate 7 simp only [B3,Nat.reduceLT,Nat.reduceEqDiff,hlen,h0,h1,h4,h6,h8,h25]
    ·exact oH3 N (by omega) (by omega) _ _ oN2
    ·exact oH3 (N + 1) (by omega) (by omega) _ _ o12
    ·rw [List.getElem?_set_self hN2]; simp only [encT]
    ·rw [← hmap]; exact hG3.set_obj o23 _
    ·exact oH3 ir (by omega) (by omega) _ _ oir3
    ·have hb4 := hb2.app (by omega) [.obj none [[.im (.int .i64 k'), .im (.sl s' (encTs ts))]]]
     refine ⟨by have := hb4.1; simp; omega, fun j hj hne => ?_⟩
     rw [List.getElem?_set_ne (by omega), hlow3 j (by omega)]; exact hb4.2 j hj hne
    ·simp; omega
   | false =>
    simp only [Bool.false_eq_true,if_false]
    have hb4 := hb2.app (by omega) [.obj none [[.im (.int .i64 k'), .im (.sl s' (encTs ts))]]]
    have oN2 := ga _ _ [.obj none [[.im (.int .i64 k'), .im (.sl s' (encTs ts))]]] oN1
    have o12 := ga _ _ [.obj none [[.im (.int .i64 k'), .im (.sl s' (encTs ts))]]] o11
    have oir3 := ga _ _ [.obj none [[.im (.int .i64 k'), .im (.sl s' (encTs ts))]]] oir2
    simp only [b81_0,B0,B1,B2,List.replicate,Nat.reduceAdd,Nat.reduceSub,Nat.reduceLeDiff,Nat.reduceLT,Nat.reduceEqDiff,reduceCtorEq,Int.reduceEq,Int.reduceLT,Int.reduceLE,lenA,intOfA,byteDat,Int.toNat_natCast,hlen,h0,h1,h4,h6,h8,h25,h26,hc,hnn,hsep,hd,h70,h45,oN2,hwr]
    refine ⟨_, _, _, rfl, ?_, ?_, ?_, ?_, ?_, ?_, ?_, ?_, ?_, hle1, rfl, ?_, ?_⟩
    ·simp only [List.length_set,hlen]
    iterate 4 simp only [B3,Nat.reduceLT,Nat.reduceEqDiff,hlen,h0,h4,h6,h8]
    ·refine ⟨by have := hb4.1; simp at this ⊢; omega, fun j hj hne => ?_⟩
     rw [List.getElem?_set_ne (by omega)]; exact hb4.2 j hj hne
    ·rw [List.getElem?_set_ne (by omega)]; exact o12
    ·simp; omega
    ·rw [List.getElem?_set_ne (by omega)]; exact oir3
    ·rw [List.getElem?_set_self (by simp; omega)]
    ·simp only [B3,Nat.reduceLT,Nat.reduceEqDiff,hlen]
  ·have hsg' : signB s k (sepB i) = false := by simpa using hsg
   rw [hsg'] at h70 ⊢
   simp only [Bool.false_eq_true,if_false] at h70 ⊢
   rw [set_same oir] at h70
   simp only [b81_0,B0,B1,B2,List.replicate,Nat.reduceAdd,Nat.reduceSub,Nat.reduceLeDiff,Nat.reduceLT,Nat.reduceEqDiff,reduceCtorEq,Int.reduceEq,Int.reduceLT,Int.reduceLE,lenA,intOfA,byteDat,Int.toNat_natCast,hlen,h0,h1,h4,h6,h8,h25,h26,hc,hnn,hsep,h70,oN,hwr]
   refine ⟨_, _, _, rfl, ?_, ?_, ?_, ?_, ?_, ?_, ?_, ?_, ?_, hk, rfl, ?_, ?_⟩
   ·simp only [List.length_set,hlen]
   iterate 4 simp only [B3,Nat.reduceLT,Nat.reduceEqDiff,hlen,h0,h4,h6,h8]
   ·refine ⟨by have := hb.1; simp at this ⊢; omega, fun j hj hne => ?_⟩
    rw [List.getElem?_set_ne (by omega)]; exact hb.2 j hj hne
   ·rw [List.getElem?_set_ne (by omega)]; exact o1
   ·simp; omega
   ·rw [List.getElem?_set_ne (by omega)]; exact oir
   ·rw [List.getElem?_set_self (by omega)]
   ·simp only [B3,Nat.reduceLT,Nat.reduceEqDiff,hlen]
end Go.Abs.Seat
end
section
set_option linter.unusedVariables false
set_option linter.unusedSimpArgs false
namespace Go.Abs.Seat
open Go.Proofs
theorem wordGo_some : ∀ (r : List UInt8) (k : Nat) (may : List Word) (n : Nat), n ≤ r.length → n ≤ (wordGo r k may n).1 ∧ (wordGo r k may n).1 ≤ r.length ∧ ∀ w, (wordGo r k may n).2 = some w → w ∈ may
 | r, 0, may, n, h => ⟨Nat.le_refl _, h, fun w hw => List.mem_of_find?_eq_some hw⟩
 | r, k + 1, may, n, h => by
  simp only [wordGo]
  cases hf : may.find? (fun w => decide (w.2.1.length = n)) with
  | some w =>
   refine ⟨Nat.le_refl _, h, fun w' hw => ?_⟩
   simp only [Option.some.injEq] at hw
   subst hw
   exact List.mem_of_find?_eq_some hf
  | none =>
   cases hr : r[n]? with
   | none => exact ⟨Nat.le_refl _, h, fun w' hw => by simp at hw⟩
   | some c =>
    have hn := (List.getElem?_eq_some_iff.1 hr).1
    simp only
    split
    ·exact ⟨Nat.le_refl _, h, fun w' hw => by simp at hw⟩
    ·obtain ⟨h1, h2, h3⟩ := wordGo_some r k (may.filter fun w => decide (w.2.1[n]? = some c)) (n + 1) hn
     exact ⟨by omega, h2, fun w' hw => (List.mem_filter.1 (h3 w' hw)).1⟩
theorem word69_le {s : List UInt8} {k : Nat} {d : Int} (hk : k ≤ s.length) : k + (word69 s k d).1 ≤ s.length ∧ ∀ w, (word69 s k d).2 = some w → w ∈ mayW d := by
 obtain ⟨_, h1, h2⟩ := wordGo_some (s.drop k) 8 (mayW d) 0 (Nat.zero_le _)
 rw [List.length_drop] at h1
 exact ⟨by unfold word69; omega, h2⟩
theorem words_cnt : ∀ w ∈ words, 0 ≤ w.2.2 ∧ w.2.2 ≤ 2 := by decide
theorem mayW_cnt {d : Int} {w : Word} (h : w ∈ mayW d) : 0 ≤ w.2.2 ∧ w.2.2 ≤ 2 ∧ (d = 1 → w.2.2 = 0) := by
 obtain ⟨h1, h2⟩ := List.mem_filter.1 h
 obtain ⟨h3, h4⟩ := words_cnt w h1
 refine ⟨h3, h4, fun hd => ?_⟩
 subst hd
 simp [outW] at h2
 omega
theorem readL_le (rd : Nat → Nat × KT × Bool) (s : List UInt8) (hrd : ∀ k, k ≤ s.length → (rd k).1 ≤ s.length) : ∀ (m i k : Nat) (acc : List KT), k ≤ s.length → (readL rd s m i k acc).1 ≤ s.length
 | 0, i, k, acc, h => h
 | m + 1, i, k, acc, h => by
  simp only [readL]
  split
  ·rename_i hs
   have := hrd (k + 1) (sign_lt hs)
   split
   ·exact readL_le rd s hrd m (i + 1) _ _ this
   ·exact this
  ·exact h
theorem readP_le (s : List UInt8) : ∀ (d k : Nat), k ≤ s.length → (readP s d k).1 ≤ s.length
 | 0, k, h => h
 | d + 1, k, h => by
  obtain ⟨h1, h2⟩ := word69_le (d := (d : Int) + 1) h
  simp only [readP]
  cases hw : word69 s k ((d : Int) + 1) with
  | mk n o =>
   rw [hw] at h1
   cases o with
   | none => exact h1
   | some w =>
    have h3 := readL_le (readP s d) s (fun k hk => readP_le s d k hk) w.2.2.toNat 0 (k + n) [] h1
    simp only
    cases hl : readL (readP s d) s w.2.2.toNat 0 (k + n) [] with
    | mk k' ol =>
     rw [hl] at h3
     cases ol with
     | none => exact h3
     | some l =>
      simp only
      split
      ·exact h3
      ·split
       ·rename_i hs; exact sign_lt hs
       ·exact h3
theorem s81k {H H' : Heap} {tm : List AV} {ir k n : Nat} {s : List UInt8} {kk : Int} {v : AV} {l : List KT} {b : Bool} (hir : ir < H.length) (h4 : tm.getD 4 undefA = .ptr H.length 0 0) (h5 : tm.getD 5 undefA = .im (.bool b)) (hN : H'[H.length]? = some (.obj none [[.im (.int .i64 kk), v]]))
  (hG : Gath 24 2 n v H' (l.map encT)) (hb : But H.length ir H H') (ho : H'[ir]? = some (objR s k)) : endK f81 H .ret tm H' = some (.tup [.im (.agg (encT (mkT kk l))), .im (.bool b)], H.set ir (objR s k)) := by
 have hr : ∀ v, (v = .nils ∧ l.map encT = [] ∨ ∃ tok, v = .asl 2 (l.map encT) tok ∧ l.map encT ≠ []) → leave H false (.tup [.agg [.im (.int .i64 kk), v], .im (.bool b)]) H' = (.tup [.im (.agg (encT (mkT kk l))), .im (.bool b)], H.set ir (objR s k)) := by
  intro v hv
  have hd : degrade (.tup [.agg [.im (.int .i64 kk), v], .im (.bool b)]) = .tup [.im (.agg (encT (mkT kk l))), .im (.bool b)] := by
   rcases hv with ⟨rfl, hl⟩ | ⟨tok, rfl, hl⟩
   ·have hl0 : l = [] := by simpa using hl
    subst hl0
    simp [degrade, degrade1, toDat, toDats, mkT, encT, encTs]
   ·have hl0 : l.length ≠ 0 := by simpa using hl
    simp only [degrade,degrade1,toDat,toDats,mkT,encT,encTs_map,if_neg hl0,List.map_cons,List.map_nil]
  have := leave_but (keep := false) (r := .tup [.agg [.im (.int .i64 kk), v], .im (.bool b)]) hb ho rfl (by simp only [Bool.false_eq_true,if_false,hd,refsLt,refsLts,Bool.and_self]) hir
  simpa only [Bool.false_eq_true, if_false, hd] using this
 have hfr : f81.results = [(4, some (some 2)), (5, none)] := rfl
 have hfk : f81.keep = false := rfl
 rcases hG with ⟨he, rfl⟩ | ⟨he, tok, _, rfl, _⟩
 ·have := hr _ (.inl ⟨rfl, he⟩)
  simp only [endK,hfr,hfk,B0,B1,B2,List.replicate,Nat.reduceAdd,Nat.reduceSub,Nat.reduceLeDiff,Nat.reduceLT,Nat.reduceEqDiff,reduceCtorEq,Int.reduceEq,Int.reduceLT,Int.reduceLE,lenA,resA,tupA,h4,h5,hN,this]
 ·have := hr _ (.inr ⟨tok, rfl, he⟩)
  simp only [endK,hfr,hfk,B0,B1,B2,List.replicate,Nat.reduceAdd,Nat.reduceSub,Nat.reduceLeDiff,Nat.reduceLT,Nat.reduceEqDiff,reduceCtorEq,Int.reduceEq,Int.reduceLT,Int.reduceLE,lenA,resA,tupA,h4,h5,hN,this]
theorem s81step (s : List UInt8) (ir : Nat) (hs : s.length ≤ 9223372036854775807) (d : Nat) (hd : d < 1000)
  (hrec : 0 < d → ∀ (k : Nat) (H : Heap), k ≤ s.length → H[ir]? = some (objR s k) → L 81 [.ptr ir 0 0, .im (.int .i64 (d : Int))] H = some (.tup [.im (.agg (encT (readP s d k).2.1)), .im (.bool (readP s d k).2.2)], H.set ir (objR s (readP s d k).1)))
  (k : Nat) (H : Heap) (hk : k ≤ s.length) (oir : H[ir]? = some (objR s k)) :
  L 81 [.ptr ir 0 0, .im (.int .i64 ((d : Int) + 1))] H = some (.tup [.im (.agg (encT (readP s (d + 1) k).2.1)), .im (.bool (readP s (d + 1) k).2.2)], H.set ir (objR s (readP s (d + 1) k).1)) := by
 have hir := (List.getElem?_eq_some_iff.1 oir).1
 have hoa : (H ++ [HO.obj none [[.im (.int .i64 0), .nils]]])[ir]? = some (objR s k) := by rw [get_app hir]; exact oir
 have h69 := s98 s k ir ((d : Int) + 1) _ hoa hs hk
 obtain ⟨hle, hmay⟩ := word69_le (d := (d : Int) + 1) hk
 have hb1 : But H.length ir H ((H ++ [HO.obj none [[.im (.int .i64 0), .nils]]]).set ir (objR s (k + (word69 s k ((d : Int) + 1)).1))) := (But.refl.app (Nat.le_refl _) _).set _
 have hx : ((H ++ [HO.obj none [[.im (.int .i64 0), .nils]]]).set ir (objR s (k + (word69 s k ((d : Int) + 1)).1))).length = H.length + 1 := by simp
 have hxN : ((H ++ [HO.obj none [[.im (.int .i64 0), .nils]]]).set ir (objR s (k + (word69 s k ((d : Int) + 1)).1)))[H.length]? = some (.obj none [[.im (.int .i64 0), .nils]]) := by rw [List.getElem?_set_ne (by omega), hget0]; rfl
 have hxr : ((H ++ [HO.obj none [[.im (.int .i64 0), .nils]]]).set ir (objR s (k + (word69 s k ((d : Int) + 1)).1)))[ir]? = some (objR s (k + (word69 s k ((d : Int) + 1)).1)) := by rw [List.getElem?_set_self (by simp; omega)]
 rw [leq F81]
 have hK := @s81k H
 have hcode : f81.code = f81.code := rfl
 conv at hcode => rhs; simp only [f81]
 rw [hcode]
 clear hcode
 generalize endK f81 H = K at *
 obtain ⟨hlen, ha⟩ := enter_at (f := f81) (args := [.ptr ir 0 0, .im (.int .i64 ((d : Int) + 1))]) (Nat.le_of_ble_eq_true rfl)
 have h0 := ha 0 _ rfl
 have h1 := ha 1 _ rfl
 generalize enterA f81 [.ptr ir 0 0, .im (.int .i64 ((d : Int) + 1))] = tm at *
 change tm.length = 60 at hlen
 simp only [readP]
 change L 98 _ _ = some (_, List.set _ ir (objR s (k + _))) at h69
 generalize hw : word69 s k ((d : Int) + 1) = q at *
 obtain ⟨n, ow⟩ := q
 simp only at hle hmay h69 hb1 hx hxN hxr ⊢
 generalize (H ++ [HO.obj none [[.im (.int .i64 0), .nils]]]).set ir (objR s (k + n)) = Hx at *
 have hxa : ∀ (j : Nat) (o : HO) (M : Heap), Hx[j]? = some o → (Hx ++ M)[j]? = some o := fun j o M h => by rw [get_app (List.getElem?_eq_some_iff.1 h).1]; exact h
 have hNa := hxa _ _ [HO.obj none [(encW (wordRes ow))]] hxN
 cases ow with
 | none =>
  simp only [wordRes,Option.isSome_none,datW] at h69
  simp only [wordRes,encW,zeroW] at hNa
  simp only [B0,B1,B2,List.replicate,Nat.reduceAdd,Nat.reduceSub,Nat.reduceLeDiff,Nat.reduceLT,Nat.reduceEqDiff,reduceCtorEq,Int.reduceEq,Int.reduceLT,Int.reduceLE,lenA,hlen,h0,h1,h69,zeroW,hNa]
  have hb2 := hb1.app (Nat.le_refl _) [HO.obj none [[.im (.int .i64 0), .im (.str []), .im (.int .i64 0)]]]
  refine hK hir ?_ ?_ (v := .nils) (n := 0) ?_ (l := []) (.inl ⟨rfl, rfl⟩) ?_ ?_
  ·simp only [B3,Nat.reduceLT,Nat.reduceEqDiff,hlen]
  ·simp only [B3,Nat.reduceLT,Nat.reduceEqDiff,hlen]
  ·rw [List.getElem?_set_self (by simp; omega)]
  ·refine ⟨by have := hb2.1; simp at this ⊢; omega, fun j hj hne => ?_⟩
   rw [List.getElem?_set_ne (by omega)]; exact hb2.2 j hj hne
  ·rw [List.getElem?_set_ne (by omega), get_app (by omega)]; exact hxr
 | some w =>
  obtain ⟨hc0, hc2, hc1⟩ := mayW_cnt (hmay w rfl)
  have hcnt : ((w.2.2.toNat : Nat) : Int) = w.2.2 := by omega
  simp only [wordRes,Option.isSome_some,datW] at h69
  simp only [wordRes,encW] at hNa
  have hwrap := Go.Abs.Seat.wrap_small ((d : Int) + 1 - 1) (by omega)
  have hdd : (d : Int) + 1 - 1 = d := by omega
  rw [hdd] at hwrap
  have key := l81 s ir H.length H rfl hir hs ((d : Int) + 1) (d : Int) (by rw [hdd]; exact hwrap) (readP s d) w.2.2.toNat (fun hp => hrec (by
   rcases Nat.eq_zero_or_pos d with h | h
   ·subst h
    have := hc1 rfl
    omega
   ·exact h)) (fun _ k hk => readP_le s d k hk) (by omega) w.1 (.obj none [encW w]) w.2.2.toNat 0 (by omega)
  have zz : ((0 : Nat) : Int) = 0 := rfl
  rw [hcnt, zz] at key
  simp only [e81_0,B0,B1,B2,List.replicate,Nat.reduceAdd,Nat.reduceSub,Nat.reduceLeDiff,Nat.reduceLT,Nat.reduceEqDiff,reduceCtorEq,Int.reduceEq,Int.reduceLT,Int.reduceLE,lenA,hlen,h0,h1,h69]
  generalize hr : thenL _ _ = r
  refine Exists.elim (thenL_inv hr (key _ _ (k + n) [] .nils (.im (.int .i64 0)) .nils hle rfl ?_ ?_ ?_ ?_ ?_ ?_ ?_ ?_ ?_ ?_ ?_ (.inl ⟨rfl, rfl⟩) ?_ ?_ ?_)) ?_
  ·simp only [List.length_set,hlen]
  ·simp only [B3,Nat.reduceLT,Nat.reduceEqDiff,hlen,h0]
  ·simp only [B3,Nat.reduceLT,Nat.reduceEqDiff,hlen,h1]
  ·simp only [B3,Nat.reduceLT,Nat.reduceEqDiff,hlen]
  ·simp only [B3,Nat.reduceLT,Nat.reduceEqDiff,hlen,hx]
  ·simp only [B3,Nat.reduceLT,Nat.reduceEqDiff,hlen,hx,Nat.add_assoc,Nat.reduceAdd]
  ·simp only [B3,Nat.reduceLT,Nat.reduceEqDiff,hlen]
  ·simp only [B3,Nat.reduceLT,Nat.reduceEqDiff,hlen]
  ·exact hxa _ _ _ hxN
  ·rw [← hx, hget0]; rfl
  ·rw [show H.length + 2 = Hx.length + 1 by omega, hget]; rfl
  ·exact hxa _ _ _ hxr
  ·exact hb1.app (Nat.le_refl _) _
  ·simp; omega
  clear hr
  rintro e ⟨tm1, H1, ⟨hl1, g0, g4, g6, g8, gb, gW, gl, gir, gle, hm⟩, rfl⟩
  generalize readL (readP s d) s w.2.2.toNat 0 (k + n) [] = q at *
  obtain ⟨k', ol⟩ := q
  simp only at gir gle hm ⊢
  cases ol with
  | none =>
   obtain ⟨rfl, oN, g5⟩ := hm
   simp only [b_ret,k_ret]
   exact hK hir g4 g5 oN (n := 0) (l := []) (.inl ⟨rfl, rfl⟩) gb gir
  | some l =>
   obtain ⟨rfl, ⟨x, y, oN⟩, ⟨v', o2, hG⟩, hll⟩ := hm
   simp only [encW] at gW
   have hgr : ∀ o, refsO H.length (objR s o) = true := fun o => rfl
   have hgo : HO.obj none [[.im (.str s), .im (.int .i64 (k' : Int))]] = objR s k' := rfl
   have h70 := s99 s k' ir 41 H1 gir hs
   simp only [byteDat,show (((41 : UInt8).toNat : Nat) : Int) = 41 from rfl] at h70
   have hld : ∀ o', loadAt (H1.set ir o') (some 2) (.ptr (H.length + 2) 0 0) = loadAt H1 (some 2) (.ptr (H.length + 2) 0 0) := fun o' => by
    simp only [loadAt,List.getElem?_set_ne (show ir ≠ H.length + 2 by omega)]
   have hbN : ∀ o, But H.length ir H (H1.set H.length o) := fun o => ⟨by have := gb.1; simpa using this, fun j hj hne => by rw [List.getElem?_set_ne (by omega)]; exact gb.2 j hj hne⟩
   have hlN : H.length < H1.length := by omega
   have hlr : ir < H1.length := by omega
   by_cases hw0 : w.2.2 = 0
   ·have hd0 : decide (w.2.2 = 0) = true := decide_eq_true hw0
    simp only [if_pos hw0]
    have hG' := hG
    rcases hG with ⟨he, rfl⟩ | ⟨he, tok, _, rfl, _⟩
    all_goals simp only [B0,B1,B2,List.replicate,Nat.reduceAdd,Nat.reduceSub,Nat.reduceLeDiff,Nat.reduceLT,Nat.reduceEqDiff,reduceCtorEq,Int.reduceEq,Int.reduceLT,Int.reduceLE,lenA,z_ops,z_nil,z_cons,z_guard,z_some,z_drop,z_do,z_not,z_not0,pairK,forall_eq_or_imp,stays,loadOf,List.reverse_cons,List.reverse_nil,List.mem_cons,List.not_mem_nil,or_false,forall_eq,true_or,or_true,Bool.true_and,hl1,g0,g4,g6,g8,gW,o2,oN,hd0]
    all_goals refine hK hir ?_ ?_ (List.getElem?_set_self hlN) (hG'.set_obj oN _) (hbN _) ?_
    ·simp only [B3,Nat.reduceLT,Nat.reduceEqDiff,hl1,g4]
    ·simp only [B3,Nat.reduceLT,Nat.reduceEqDiff,hl1]
    ·rw [List.getElem?_set_ne (by omega)]; exact gir
    ·simp only [B3,Nat.reduceLT,Nat.reduceEqDiff,hl1,g4]
    ·simp only [B3,Nat.reduceLT,Nat.reduceEqDiff,hl1]
    ·rw [List.getElem?_set_ne (by omega)]; exact gir
   ·have hd0 : decide (w.2.2 = 0) = false := decide_eq_false hw0
    simp only [if_neg hw0]
    have hG' := hG
    have oN' : ∀ o', (H1.set ir o')[H.length]? = some (.obj none [[x, y]]) := fun o' => by rw [List.getElem?_set_ne (by omega)]; exact oN
    have o2' : ∀ o', (H1.set ir o')[H.length + 2]? = some (.obj none [[.im (.int .i64 w.1), v']]) := fun o' => by rw [List.getElem?_set_ne (by omega)]; exact o2
    have hbN' : ∀ o o', But H.length ir H ((H1.set ir o').set H.length o) := fun o o' => ⟨by have := gb.1; simpa using this, fun j hj hne => by rw [List.getElem?_set_ne (by omega), List.getElem?_set_ne (by omega)]; exact gb.2 j hj hne⟩
    cases hsg : signB s k' 41 with
    | true =>
     rw [hsg] at h70
     simp only [if_true] at h70 ⊢
     rcases hG with ⟨he, rfl⟩ | ⟨he, tok, _, rfl, _⟩
     all_goals simp only [B0,B1,B2,List.replicate,Nat.reduceAdd,Nat.reduceSub,Nat.reduceLeDiff,Nat.reduceLT,Nat.reduceEqDiff,reduceCtorEq,Int.reduceEq,Int.reduceLT,Int.reduceLE,lenA,z_ops,z_nil,z_cons,z_guard,z_some,z_drop,z_do,z_not,z_not0,pairK,forall_eq_or_imp,stays,loadOf,List.reverse_cons,List.reverse_nil,List.mem_cons,List.not_mem_nil,or_false,forall_eq,true_or,or_true,Bool.true_and,hl1,g0,g4,g6,g8,gW,o2,o2',oN',hd0,h70]
     all_goals refine hK hir ?_ ?_ (List.getElem?_set_self (by simp; omega)) ((hG'.set_obj gir _).set_obj (oN' _) _) (hbN' _ _) ?_
     ·simp only [B3,Nat.reduceLT,Nat.reduceEqDiff,hl1,g4]
     ·simp only [B3,Nat.reduceLT,Nat.reduceEqDiff,hl1]
     ·rw [List.getElem?_set_ne (by omega), List.getElem?_set_self hlr]
     ·simp only [B3,Nat.reduceLT,Nat.reduceEqDiff,hl1,g4]
     ·simp only [B3,Nat.reduceLT,Nat.reduceEqDiff,hl1]
     ·rw [List.getElem?_set_ne (by omega), List.getElem?_set_self hlr]
    | false =>
     rw [hsg] at h70
     simp only [Bool.false_eq_true,if_false] at h70 ⊢
     rcases hG with ⟨he, rfl⟩ | ⟨he, tok, _, rfl, _⟩
     all_goals simp only [B0,B1,B2,List.replicate,Nat.reduceAdd,Nat.reduceSub,Nat.reduceLeDiff,Nat.reduceLT,Nat.reduceEqDiff,reduceCtorEq,Int.reduceEq,Int.reduceLT,Int.reduceLE,lenA,z_ops,z_nil,z_cons,z_guard,z_some,z_drop,z_do,z_not,z_not0,pairK,forall_eq_or_imp,stays,loadOf,List.reverse_cons,List.reverse_nil,List.mem_cons,List.not_mem_nil,or_false,forall_eq,true_or,or_true,Bool.true_and,hl1,g0,g4,g6,g8,gW,o2,o2',oN',hd0,h70]
     all_goals refine hK hir ?_ ?_ (List.getElem?_set_self (by simp; omega)) ((hG'.set_obj gir _).set_obj (oN' _) _) (hbN' _ _) ?_
     ·simp only [B3,Nat.reduceLT,Nat.reduceEqDiff,hl1,g4]
     ·simp only [B3,Nat.reduceLT,Nat.reduceEqDiff,hl1]
     ·rw [List.getElem?_set_ne (by omega), List.getElem?_set_self hlr]
     ·simp only [B3,Nat.reduceLT,Nat.reduceEqDiff,hl1,g4]
     ·simp only [B3,Nat.reduceLT,Nat.reduceEqDiff,hl1]
     ·rw [List.getElem?_set_ne (by omega), List.getElem?_set_self hlr]
theorem s81 (s : List UInt8) (ir : Nat) (hs : s.length ≤ 9223372036854775807) : ∀ (d : Nat), d < 1000 → ∀ (k : Nat) (H : Heap), k ≤ s.length → H[ir]? = some (objR s k) →
  L 81 [.ptr ir 0 0, .im (.int .i64 ((d : Int) + 1))] H = some (.tup [.im (.agg (encT (readP s (d + 1) k).2.1)), .im (.bool (readP s (d + 1) k).2.2)], H.set ir (objR s (readP s (d + 1) k).1)) := by
 intro d
 induction d with
 | zero => exact fun _ k H hk ho => s81step s ir hs 0 (by omega) (fun h => absurd h (by omega)) k H hk ho
 | succ d ih => exact fun hd k H hk ho => s81step s ir hs (d + 1) hd (fun _ => ih (by omega)) k H hk ho
end Go.Abs.Seat
end
section
set_option linter.unusedVariables false
set_option linter.unusedSimpArgs false
namespace Go.Abs.Seat
open Go.Proofs
def parseP (s : List UInt8) : KT × Nat × Int :=
 if (readP s 6 0).2.2 = true ∧ ¬ (readP s 6 0).1 < s.length then ((readP s 6 0).2.1, 0, 0) else (zeroT, (readP s 6 0).1, 40)
theorem s70 (s : List UInt8) (hs : s.length ≤ 9223372036854775807) (H : Heap) : L 70 [.im (.str s)] H = some (.tup [.im (.agg (encT (parseP s).1)), .im (.int .i64 ((parseP s).2.1 : Int)), .im (.int .i64 (parseP s).2.2)], H) := by
 have h45 := s81 s (H.length + 1) hs 5 (by decide) 0 (H ++ [HO.obj none [[.im (.int .i64 0), .nils]], objR s 0]) (Nat.zero_le _) (by rw [hget]; rfl)
 rw [hset, show (((5 : Nat) : Int) + 1) = 6 from rfl] at h45
 simp only [List.set_cons_succ,List.set_cons_zero] at h45
 unfold parseP
 generalize readP s (5 + 1) 0 = q at h45 ⊢
 obtain ⟨p, t, ok⟩ := q
 obtain ⟨k', s', ts⟩ := t
 have z0 : ((0 : Nat) : Int) = 0 := rfl
 simp only [encT,objR,z0] at h45
 have hlv : ∀ (M : Heap) (a b : Int), leave H false (.tup [.im (.agg [.int .i64 k', .sl s' (encTs ts)]), .im (.int .i64 a), .im (.int .i64 b)]) (H ++ M) = (.tup [.im (.agg [.int .i64 k', .sl s' (encTs ts)]), .im (.int .i64 a), .im (.int .i64 b)], H) := fun M a b => leave_deg (by simp [degrade, degrade1, toDat]) (by simp [refsLt, refsLts])
 have hlz : ∀ (M : Heap) (a b : Int), leave H false (.tup [.agg [.im (.int .i64 0), .nils], .im (.int .i64 a), .im (.int .i64 b)]) (H ++ M) = (.tup [.im (.agg [.int .i64 0, .sl 0 []]), .im (.int .i64 a), .im (.int .i64 b)], H) := fun M a b => leave_deg (by simp [degrade, degrade1, toDat, toDats]) (by simp [refsLt, refsLts])
 rw [leq F70]
 obtain ⟨hlen, ha⟩ := enter_at (f := f70) (args := [.im (.str s)]) (Nat.le_of_ble_eq_true rfl)
 have h0 := ha 0 _ rfl
 generalize enterA f70 [.im (.str s)] = tm at *
 change tm.length = 32 at hlen
 have hne : (H.length + 1 = H.length) = False := by simp
 simp only
 cases ok with
 | true =>
  by_cases hp : p < s.length
  ·have hc : decide ((p : Int) < (s.length : Int)) = true := decide_eq_true (by omega)
   rw [if_neg (by simp [hp])]
   simp only [f70,zeroT,mkT,List.length_nil,if_true,encT,encTs,B0,B1,B2,List.replicate,Nat.reduceAdd,Nat.reduceSub,Nat.reduceLeDiff,Nat.reduceLT,Nat.reduceEqDiff,reduceCtorEq,Int.reduceEq,Int.reduceLT,Int.reduceLE,lenA,z_ops,z_nil,z_cons,z_guard,z_some,z_drop,z_do,z_not,z_not0,pairK,forall_eq_or_imp,stays,loadOf,List.reverse_cons,List.reverse_nil,List.mem_cons,List.not_mem_nil,or_false,forall_eq,true_or,or_true,Bool.true_and,endK,resA,tupA,hlen,h0,h45,hc,hlz]
  ·have hc : decide ((p : Int) < (s.length : Int)) = false := decide_eq_false (by omega)
   rw [if_pos (by simp [hp])]
   simp only [f70,encT,B0,B1,B2,List.replicate,Nat.reduceAdd,Nat.reduceSub,Nat.reduceLeDiff,Nat.reduceLT,Nat.reduceEqDiff,reduceCtorEq,Int.reduceEq,Int.reduceLT,Int.reduceLE,lenA,z_ops,z_nil,z_cons,z_guard,z_some,z_drop,z_do,z_not,z_not0,pairK,forall_eq_or_imp,stays,loadOf,List.reverse_cons,List.reverse_nil,List.mem_cons,List.not_mem_nil,or_false,forall_eq,true_or,or_true,Bool.true_and,endK,resA,tupA,hlen,h0,h45,hc,hlv,z0]
 | false =>
  rw [if_neg (by simp)]
  simp only [f70,zeroT,mkT,List.length_nil,if_true,encT,encTs,B0,B1,B2,List.replicate,Nat.reduceAdd,Nat.reduceSub,Nat.reduceLeDiff,Nat.reduceLT,Nat.reduceEqDiff,reduceCtorEq,Int.reduceEq,Int.reduceLT,Int.reduceLE,lenA,z_ops,z_nil,z_cons,z_guard,z_some,z_drop,z_do,z_not,z_not0,pairK,forall_eq_or_imp,stays,loadOf,List.reverse_cons,List.reverse_nil,List.mem_cons,List.not_mem_nil,or_false,forall_eq,true_or,or_true,Bool.true_and,endK,resA,tupA,hlen,h0,h45,hlz]
end Go.Abs.Seat
end
section
set_option linter.unusedVariables false
set_option linter.unusedSimpArgs false
namespace Go.Abs.Seat
open Go.Proofs
def letZ (n : Int) : Bool := decide (97 ≤ n) && decide (n ≤ 122)
def digZ (n : Int) : Bool := decide (48 ≤ n) && decide (n ≤ 57)
def namZ (n : Int) : Bool := (letZ n || digZ n) || decide (n = 95)
def plnZ (n : Int) : Bool := ((decide (32 ≤ n) && decide (n ≤ 126)) && !decide (n = 34)) && !decide (n = 92)
theorem s58 (n : Int) (H : Heap) : L 58 [.im (.int .u8 n)] H = some (.im (.bool (letZ n)), H) := by
 rw [leq F58]
 obtain ⟨hlen, ha⟩ := enter_at (f := f58) (args := [.im (.int .u8 n)]) (Nat.le_of_ble_eq_true rfl)
 have h0 := ha 0 _ rfl
 generalize enterA f58 [.im (.int .u8 n)] = tm at *
 change tm.length = 9 at hlen
 unfold letZ
 rcases Bool.eq_false_or_eq_true (decide (97 ≤ n)) with h1 | h1
 ·rw [h1]; simp only [f58,B0,B1,B2,List.replicate,Nat.reduceAdd,Nat.reduceSub,Nat.reduceLeDiff,Nat.reduceLT,Nat.reduceEqDiff,reduceCtorEq,Int.reduceEq,Int.reduceLT,Int.reduceLE,lenA,endK,resA,tupA,hlen,h0,h1,leave_same,Bool.true_and]
 ·rw [h1]; simp only [f58,B0,B1,B2,List.replicate,Nat.reduceAdd,Nat.reduceSub,Nat.reduceLeDiff,Nat.reduceLT,Nat.reduceEqDiff,reduceCtorEq,Int.reduceEq,Int.reduceLT,Int.reduceLE,lenA,endK,resA,tupA,hlen,h0,h1,leave_same,Bool.false_and]
theorem s37 (n : Int) (H : Heap) : L 37 [.im (.int .u8 n)] H = some (.im (.bool (digZ n)), H) := by
 rw [leq F37]
 obtain ⟨hlen, ha⟩ := enter_at (f := f37) (args := [.im (.int .u8 n)]) (Nat.le_of_ble_eq_true rfl)
 have h0 := ha 0 _ rfl
 generalize enterA f37 [.im (.int .u8 n)] = tm at *
 change tm.length = 9 at hlen
 unfold digZ
 rcases Bool.eq_false_or_eq_true (decide (48 ≤ n)) with h1 | h1
 ·rw [h1]; simp only [f37,B0,B1,B2,List.replicate,Nat.reduceAdd,Nat.reduceSub,Nat.reduceLeDiff,Nat.reduceLT,Nat.reduceEqDiff,reduceCtorEq,Int.reduceEq,Int.reduceLT,Int.reduceLE,lenA,endK,resA,tupA,hlen,h0,h1,leave_same,Bool.true_and]
 ·rw [h1]; simp only [f37,B0,B1,B2,List.replicate,Nat.reduceAdd,Nat.reduceSub,Nat.reduceLeDiff,Nat.reduceLT,Nat.reduceEqDiff,reduceCtorEq,Int.reduceEq,Int.reduceLT,Int.reduceLE,lenA,endK,resA,tupA,hlen,h0,h1,leave_same,Bool.false_and]
theorem s34 (n : Int) (H : Heap) : L 34 [.im (.int .u8 n)] H = some (.im (.bool (namZ n)), H) := by
 rw [leq F34]
 obtain ⟨hlen, ha⟩ := enter_at (f := f34) (args := [.im (.int .u8 n)]) (Nat.le_of_ble_eq_true rfl)
 have h0 := ha 0 _ rfl
 generalize enterA f34 [.im (.int .u8 n)] = tm at *
 change tm.length = 21 at hlen
 unfold namZ letZ digZ
 rcases Bool.eq_false_or_eq_true (decide (97 ≤ n)) with h1 | h1 <;> rcases Bool.eq_false_or_eq_true (decide (n ≤ 122)) with h2 | h2 <;> rcases Bool.eq_false_or_eq_true (decide (48 ≤ n)) with h3 | h3 <;> rcases Bool.eq_false_or_eq_true (decide (n ≤ 57)) with h4 | h4 <;>
  (rw [h1, h2, h3, h4]; simp only [f34,B0,B1,B2,List.replicate,Nat.reduceAdd,Nat.reduceSub,Nat.reduceLeDiff,Nat.reduceLT,Nat.reduceEqDiff,reduceCtorEq,Int.reduceEq,Int.reduceLT,Int.reduceLE,lenA,endK,resA,tupA,hlen,h0,h1,h2,h3,h4,leave_same,Bool.true_and,Bool.false_and,Bool.true_or,Bool.false_or,Bool.or_true,Bool.or_false])
theorem s51 (n : Int) (H : Heap) : L 51 [.im (.int .u8 n)] H = some (.im (.bool (plnZ n)), H) := by
 rw [leq F51]
 obtain ⟨hlen, ha⟩ := enter_at (f := f51) (args := [.im (.int .u8 n)]) (Nat.le_of_ble_eq_true rfl)
 have h0 := ha 0 _ rfl
 generalize enterA f51 [.im (.int .u8 n)] = tm at *
 change tm.length = 17 at hlen
 unfold plnZ
 rcases Bool.eq_false_or_eq_true (decide (32 ≤ n)) with h1 | h1 <;> rcases Bool.eq_false_or_eq_true (decide (n ≤ 126)) with h2 | h2 <;> rcases Bool.eq_false_or_eq_true (decide (n = 34)) with h3 | h3 <;>
  (rw [h1, h2, h3]; simp only [f51,B0,B1,B2,List.replicate,Nat.reduceAdd,Nat.reduceSub,Nat.reduceLeDiff,Nat.reduceLT,Nat.reduceEqDiff,reduceCtorEq,Int.reduceEq,Int.reduceLT,Int.reduceLE,lenA,endK,resA,tupA,hlen,h0,h1,h2,h3,leave_same,Bool.true_and,Bool.false_and,Bool.not_true,Bool.not_false,Bool.and_false,Bool.and_true])
theorem s56 (n : Int) (H : Heap) : L 56 [.im (.int .i64 n)] H = some (.im (.bool (plnZ n)), H) := by
 rw [leq F56]
 obtain ⟨hlen, ha⟩ := enter_at (f := f56) (args := [.im (.int .i64 n)]) (Nat.le_of_ble_eq_true rfl)
 have h0 := ha 0 _ rfl
 generalize enterA f56 [.im (.int .i64 n)] = tm at *
 change tm.length = 17 at hlen
 unfold plnZ
 rcases Bool.eq_false_or_eq_true (decide (32 ≤ n)) with h1 | h1 <;> rcases Bool.eq_false_or_eq_true (decide (n ≤ 126)) with h2 | h2 <;> rcases Bool.eq_false_or_eq_true (decide (n = 34)) with h3 | h3 <;>
  (rw [h1, h2, h3]; simp only [f56,B0,B1,B2,List.replicate,Nat.reduceAdd,Nat.reduceSub,Nat.reduceLeDiff,Nat.reduceLT,Nat.reduceEqDiff,reduceCtorEq,Int.reduceEq,Int.reduceLT,Int.reduceLE,lenA,endK,resA,tupA,hlen,h0,h1,h2,h3,leave_same,Bool.true_and,Bool.false_and,Bool.not_true,Bool.not_false,Bool.and_false,Bool.and_true])
def nibZ (n : Int) : Int := if digZ n = true then n - 48 else if (decide (97 ≤ n) && decide (n ≤ 102)) = true then n - 87 else -1
theorem s57 (n : Int) (hn : 0 ≤ n ∧ n < 256) (H : Heap) : L 57 [.im (.int .u8 n)] H = some (.im (.int .i64 (nibZ n)), H) := by
 have c1 := fun H => s37 n H
 have u8w : ∀ z : Int, 0 ≤ z ∧ z < 256 → IntKind.u8.wrap z = z := fun z h => by
  have e : IntKind.u8.wrap z = z % 256 := rfl
  rw [e]; omega
 have i64w : ∀ z : Int, 0 ≤ z ∧ z < 300 → IntKind.i64.wrap z = z := fun z h => Go.Abs.Seat.wrap_small _ (by omega)
 rw [leq F57]
 obtain ⟨hlen, ha⟩ := enter_at (f := f57) (args := [.im (.int .u8 n)]) (Nat.le_of_ble_eq_true rfl)
 have h0 := ha 0 _ rfl
 generalize enterA f57 [.im (.int .u8 n)] = tm at *
 change tm.length = 18 at hlen
 unfold nibZ
 rcases Bool.eq_false_or_eq_true (digZ n) with hd | hd
 ·have hd' := hd
  unfold digZ at hd'
  simp only [Bool.and_eq_true,decide_eq_true_eq] at hd'
  have w1 := u8w (n - 48) (by omega)
  have w2 := i64w (n - 48) (by omega)
  rw [hd, if_pos rfl]
  simp only [f57,B0,B1,B2,List.replicate,Nat.reduceAdd,Nat.reduceSub,Nat.reduceLeDiff,Nat.reduceLT,Nat.reduceEqDiff,reduceCtorEq,Int.reduceEq,Int.reduceLT,Int.reduceLE,lenA,endK,resA,tupA,hlen,h0,c1,hd,w1,w2,leave_same]
 ·rw [hd, if_neg (by simp)]
  rcases Bool.eq_false_or_eq_true (decide (97 ≤ n)) with h1 | h1
  ·rcases Bool.eq_false_or_eq_true (decide (n ≤ 102)) with h2 | h2
   ·have e1 := of_decide_eq_true h1
    have e2 := of_decide_eq_true h2
    have w1 := u8w (n - 97) (by omega)
    have w2 := i64w (n - 97) (by omega)
    have w3 := i64w (n - 97 + 10) (by omega)
    rw [h1, h2, Bool.and_self, if_pos rfl, show n - 87 = n - 97 + 10 by omega]
    simp only [f57,B0,B1,B2,List.replicate,Nat.reduceAdd,Nat.reduceSub,Nat.reduceLeDiff,Nat.reduceLT,Nat.reduceEqDiff,reduceCtorEq,Int.reduceEq,Int.reduceLT,Int.reduceLE,lenA,endK,resA,tupA,hlen,h0,c1,hd,h1,h2,w1,w2,w3,leave_same]
   ·rw [h1, h2, Bool.and_false, if_neg (by simp)]
    simp only [f57,B0,B1,B2,List.replicate,Nat.reduceAdd,Nat.reduceSub,Nat.reduceLeDiff,Nat.reduceLT,Nat.reduceEqDiff,reduceCtorEq,Int.reduceEq,Int.reduceLT,Int.reduceLE,lenA,endK,resA,tupA,hlen,h0,c1,hd,h1,h2,leave_same]
  ·rw [h1, Bool.false_and, if_neg (by simp)]
   simp only [f57,B0,B1,B2,List.replicate,Nat.reduceAdd,Nat.reduceSub,Nat.reduceLeDiff,Nat.reduceLT,Nat.reduceEqDiff,reduceCtorEq,Int.reduceEq,Int.reduceLT,Int.reduceLE,lenA,endK,resA,tupA,hlen,h0,c1,hd,h1,leave_same]
def peekB (b : List UInt8) (p : Nat) : UInt8 := (b[p]?).getD 0
def objS (b : List UInt8) (p : Nat) (bad : Bool) : HO := .obj none [[.im (.str b), .im (.int .i64 (p : Int)), .im (.bool bad)]]
theorem s29 (b : List UInt8) (p ir : Nat) (bad : Bool) (H : Heap) (hir : H[ir]? = some (objS b p bad)) (hb : b.length ≤ 4611686018427387904) :
  L 29 [.ptr ir 0 0] H = some (.im (.int .u8 ((peekB b p).toNat : Int)), H) := by
 have p2 : (0 : Int) ≤ (p : Int) := Int.natCast_nonneg p
 simp only [objS] at hir
 rw [leq F29]
 obtain ⟨hlen, ha⟩ := enter_at (f := f29) (args := [.ptr ir 0 0]) (Nat.le_of_ble_eq_true rfl)
 have h0 := ha 0 _ rfl
 generalize enterA f29 [.ptr ir 0 0] = tm at *
 change tm.length = 22 at hlen
 unfold peekB
 by_cases hk : p < b.length
 ·have hc : decide ((p : Int) < (b.length : Int)) = true := decide_eq_true (by omega)
  have hsk : b[p]? = some b[p] := List.getElem?_eq_getElem hk
  rw [hsk]
  generalize b[p] = a at hsk
  simp only [f29,B0,B1,B2,List.replicate,Nat.reduceAdd,Nat.reduceSub,Nat.reduceLeDiff,Nat.reduceLT,Nat.reduceEqDiff,reduceCtorEq,Int.reduceEq,Int.reduceLT,Int.reduceLE,lenA,endK,resA,tupA,intOfA,byteDat,Int.toNat_natCast,hlen,h0,hir,hc,p2,hsk,leave_same,Option.getD_some]
 ·have hc : decide ((p : Int) < (b.length : Int)) = false := decide_eq_false (by omega)
  have hsk : b[p]? = none := List.getElem?_eq_none (by omega)
  rw [hsk]
  simp only [f29,B0,B1,B2,List.replicate,Nat.reduceAdd,Nat.reduceSub,Nat.reduceLeDiff,Nat.reduceLT,Nat.reduceEqDiff,reduceCtorEq,Int.reduceEq,Int.reduceLT,Int.reduceLE,lenA,endK,resA,tupA,hlen,h0,hir,hc,leave_same,Option.getD_none]
  rfl
def skipN (b : List UInt8) : Nat → Nat → Nat
 | 0, p => p
 | f + 1, p => if b[p]? = some 32 then skipN b f (p + 1) else p
def skipB (b : List UInt8) (p : Nat) : Nat := skipN b (b.length - p) p
theorem skipN_len (b : List UInt8) : ∀ f p, p ≤ b.length → skipN b f p ≤ b.length
 | 0, p, h => h
 | f + 1, p, h => by
  unfold skipN
  split
  ·rename_i hp
   have := (List.getElem?_eq_some_iff.1 hp).1
   exact skipN_len b f (p + 1) (by omega)
  ·exact h
theorem skip_len {b : List UInt8} {p : Nat} (h : p ≤ b.length) : skipB b p ≤ b.length := skipN_len b _ p h
theorem b32 (a : UInt8) : decide (((a.toNat : Nat) : Int) = 32) = decide (a = 32) := byte_eq a 32
theorem l19 (b : List UInt8) (ir : Nat) (bad : Bool) (hb : b.length ≤ 4611686018427387904) :
  ∀ (f p : Nat) (tm : List AV) (H : Heap), b.length ≤ p + f → p ≤ b.length → H[ir]? = some (objS b p bad) → tm.length = 31 → tm.getD 0 undefA = .ptr ir 0 0 →
  ∃ e tm' H', Λ c19_0 tm H = some (e, tm', H') ∧ (e = .exit 0 ∧ tm'.length = 31 ∧ H' = H.set ir (objS b (skipN b f p) bad))
 | 0, p, tm, H, hf, hp, hir, hlen, h0 => by
  have hc : decide ((p : Int) < (b.length : Int)) = false := decide_eq_false (by omega)
  have hset : H.set ir (objS b (skipN b 0 p) bad) = H := set_same hir
  rw [hset]
  simp only [objS] at hir
  rw [l19_0]
  simp only [b19_0,B0,B1,B2,List.replicate,Nat.reduceAdd,Nat.reduceSub,Nat.reduceLeDiff,Nat.reduceLT,Nat.reduceEqDiff,reduceCtorEq,Int.reduceEq,Int.reduceLT,Int.reduceLE,lenA,hlen,h0,hir,hc]
  exact ⟨_, _, _, rfl, rfl, by simp only [List.length_set,hlen], rfl⟩
 | f + 1, p, tm, H, hf, hp, hir, hlen, h0 => by
  have p2 : (0 : Int) ≤ (p : Int) := Int.natCast_nonneg p
  have hirl := (List.getElem?_eq_some_iff.1 hir).1
  by_cases hk : p < b.length
  ·have hc : decide ((p : Int) < (b.length : Int)) = true := decide_eq_true (by omega)
   have hsk : b[p]? = some b[p] := List.getElem?_eq_getElem hk
   have hwr := wrap_nat (i := p) (by omega)
   unfold skipN
   rw [hsk]
   generalize b[p] = a at hsk
   by_cases ha : a = 32
   ·have hd : decide (((a.toNat : Nat) : Int) = 32) = true := by rw [b32]; exact decide_eq_true ha
    rw [if_pos (by rw [ha])]
    have key := fun tm1 => l19 b ir bad hb f (p + 1) tm1 (H.set ir (objS b (p + 1) bad)) (by omega) (by omega) (List.getElem?_set_self hirl)
    simp only [List.set_set] at key
    simp only [objS] at hir key ⊢
    rw [l19_0]
    simp only [b19_0,B0,B1,B2,List.replicate,Nat.reduceAdd,Nat.reduceSub,Nat.reduceLeDiff,Nat.reduceLT,Nat.reduceEqDiff,reduceCtorEq,Int.reduceEq,Int.reduceLT,Int.reduceLE,lenA,intOfA,byteDat,Int.toNat_natCast,hlen,h0,hir,hc,p2,hsk,hd,hwr]
    refine ex_imp (key _ ?_ ?_) fun _ _ _ h => h
    all_goals simp only [B3,Nat.reduceLT,Nat.reduceEqDiff,hlen,h0]
   ·have hd : decide (((a.toNat : Nat) : Int) = 32) = false := by rw [b32]; exact decide_eq_false ha
    rw [if_neg (by simpa using ha)]
    rw [show H.set ir (objS b p bad) = H from set_same hir]
    simp only [objS] at hir
    rw [l19_0]
    simp only [b19_0,B0,B1,B2,List.replicate,Nat.reduceAdd,Nat.reduceSub,Nat.reduceLeDiff,Nat.reduceLT,Nat.reduceEqDiff,reduceCtorEq,Int.reduceEq,Int.reduceLT,Int.reduceLE,lenA,intOfA,byteDat,Int.toNat_natCast,hlen,h0,hir,hc,p2,hsk,hd]
    exact ⟨_, _, _, rfl, rfl, by simp only [List.length_set,hlen], rfl⟩
  ·have hc : decide ((p : Int) < (b.length : Int)) = false := decide_eq_false (by omega)
   have hsk : b[p]? = none := List.getElem?_eq_none (by omega)
   unfold skipN
   rw [hsk, if_neg (by simp)]
   rw [show H.set ir (objS b p bad) = H from set_same hir]
   simp only [objS] at hir
   rw [l19_0]
   simp only [b19_0,B0,B1,B2,List.replicate,Nat.reduceAdd,Nat.reduceSub,Nat.reduceLeDiff,Nat.reduceLT,Nat.reduceEqDiff,reduceCtorEq,Int.reduceEq,Int.reduceLT,Int.reduceLE,lenA,hlen,h0,hir,hc]
   exact ⟨_, _, _, rfl, rfl, by simp only [List.length_set,hlen], rfl⟩
theorem leave_S {H : Heap} {ir : Nat} {b : List UInt8} {p : Nat} {bad bad' : Bool} {p' : Nat} {r r' : AV} (hir : H[ir]? = some (objS b p bad)) (hd : degrade r = r') (hr : refsLt H.length r' = true) : leave H false r (H.set ir (objS b p' bad')) = (r', H.set ir (objS b p' bad')) := by
 have hirl := (List.getElem?_eq_some_iff.1 hir).1
 have := leave_but (keep := false) (r := r) (But.refl.set (objS b p' bad')) (List.getElem?_set_self hirl) rfl (by simpa [hd] using hr) hirl
 simpa [hd] using this
theorem s19 (b : List UInt8) (p ir : Nat) (bad : Bool) (H : Heap) (hir : H[ir]? = some (objS b p bad)) (hb : b.length ≤ 4611686018427387904) (hp : p ≤ b.length) :
  L 19 [.ptr ir 0 0] H = some (.tup [], H.set ir (objS b (skipB b p) bad)) := by
 have key := fun tm1 => l19 b ir bad hb (b.length - p) p tm1 H (by omega) hp hir
 have hlv := leave_S (p' := skipB b p) (bad' := bad) (r := .tup []) hir rfl rfl
 rw [leq F19]
 obtain ⟨hlen, ha⟩ := enter_at (f := f19) (args := [.ptr ir 0 0]) (Nat.le_of_ble_eq_true rfl)
 have h0 := ha 0 _ rfl
 generalize enterA f19 [.ptr ir 0 0] = tm at *
 change tm.length = 31 at hlen
 simp only [f19,e19_0,B0,B1,B2,List.replicate,Nat.reduceAdd,Nat.reduceSub,Nat.reduceLeDiff,Nat.reduceLT,Nat.reduceEqDiff,reduceCtorEq,Int.reduceEq,Int.reduceLT,Int.reduceLE,lenA,hlen,h0]
 generalize hr : thenL (Λ c19_0 _ _) _ = r
 refine Exists.elim (thenL_inv hr (key _ ?_ ?_)) ?_
 ·first | exact hlen | simp only [B3,Nat.reduceLT,Nat.reduceEqDiff,hlen]
 ·first | exact h0 | simp only [B3,Nat.reduceLT,Nat.reduceEqDiff,hlen,h0]
 clear hr key
 rintro e ⟨tm1, H1, ⟨rfl, g1, rfl⟩, rfl⟩
 simp only [B0,B1,B2,List.replicate,Nat.reduceAdd,Nat.reduceSub,Nat.reduceLeDiff,Nat.reduceLT,Nat.reduceEqDiff,reduceCtorEq,Int.reduceEq,Int.reduceLT,Int.reduceLE,lenA,endK,resA,tupA,g1]
 exact congrArg some hlv
end Go.Abs.Seat
end
section
set_option linter.unusedVariables false
set_option linter.unusedSimpArgs false
namespace Go.Abs.Seat
open Go.Proofs
theorem peek_lt {b : List UInt8} {p : Nat} (h : peekB b p ≠ 0) : p < b.length := by
 rcases Nat.lt_or_ge p b.length with h' | h'
 ·exact h'
 ·exact absurd (by unfold peekB; rw [List.getElem?_eq_none h']; rfl) h
theorem peek_some {b : List UInt8} {p : Nat} (h : p < b.length) : b[p]? = some (peekB b p) := by
 unfold peekB
 rw [List.getElem?_eq_getElem h]; rfl
def signP (b : List UInt8) (p : Nat) (bad : Bool) (c : UInt8) : Nat × Bool :=
 if bad = true then (p, true) else if peekB b (skipB b p) = c then (skipB b p + 1, false) else (skipB b p, true)
theorem s53 (b : List UInt8) (p ir : Nat) (bad : Bool) (c : UInt8) (H : Heap) (hc0 : c ≠ 0) (hir : H[ir]? = some (objS b p bad)) (hb : b.length ≤ 4611686018427387904) (hp : p ≤ b.length) :
  L 53 [.ptr ir 0 0, .im (.int .u8 (c.toNat : Int))] H = some (.tup [], H.set ir (objS b (signP b p bad c).1 (signP b p bad c).2)) := by
 have hirl := (List.getElem?_eq_some_iff.1 hir).1
 have c1 := s19 b p ir bad H hir hb hp
 have c2 := s29 b (skipB b p) ir bad (H.set ir (objS b (skipB b p) bad)) (List.getElem?_set_self hirl) hb
 have hq : (H.set ir (objS b (skipB b p) bad))[ir]? = some (objS b (skipB b p) bad) := List.getElem?_set_self hirl
 have hlv : ∀ q bd, leave H false (.tup []) (H.set ir (objS b q bd)) = (.tup [], H.set ir (objS b q bd)) := fun q bd => leave_S hir rfl rfl
 have hle := skip_len hp
 rw [leq F53]
 obtain ⟨hlen, ha⟩ := enter_at (f := f53) (args := [.ptr ir 0 0, .im (.int .u8 (c.toNat : Int))]) (Nat.le_of_ble_eq_true rfl)
 have h0 := ha 0 _ rfl
 have h1 := ha 1 _ rfl
 generalize enterA f53 [.ptr ir 0 0, .im (.int .u8 (c.toNat : Int))] = tm at *
 change tm.length = 24 at hlen
 unfold signP
 cases bad with
 | true =>
  rw [if_pos rfl]
  have hsm : H.set ir (objS b p true) = H := set_same hir
  have hlv' := hlv p true
  rw [hsm] at hlv' ⊢
  simp only [objS] at hir
  simp only [f53,B0,B1,B2,List.replicate,Nat.reduceAdd,Nat.reduceSub,Nat.reduceLeDiff,Nat.reduceLT,Nat.reduceEqDiff,reduceCtorEq,Int.reduceEq,Int.reduceLT,Int.reduceLE,lenA,endK,resA,tupA,hlen,h0,h1,hir,hlv']
 | false =>
  rw [if_neg (by simp)]
  generalize skipB b p = q at *
  by_cases hc : peekB b q = c
  ·have hd : decide ((((peekB b q).toNat : Nat) : Int) = ((c.toNat : Nat) : Int)) = true := by rw [byte_eq]; exact decide_eq_true hc
   have hlt : q < b.length := peek_lt (by rw [hc]; exact hc0)
   have hwr := wrap_nat (i := q) (by omega)
   have hlv' := hlv (q + 1) false
   rw [if_pos hc]
   simp only [objS] at hir hq c1 c2 hlv' ⊢
   simp only [f53,B0,B1,B2,List.replicate,Nat.reduceAdd,Nat.reduceSub,Nat.reduceLeDiff,Nat.reduceLT,Nat.reduceEqDiff,reduceCtorEq,Int.reduceEq,Int.reduceLT,Int.reduceLE,lenA,endK,resA,tupA,hlen,h0,h1,hir,c1,hq,c2,hd,hwr,List.set_set,hlv']
  ·have hd : decide ((((peekB b q).toNat : Nat) : Int) = ((c.toNat : Nat) : Int)) = false := by rw [byte_eq]; exact decide_eq_false hc
   have hlv' := hlv q true
   rw [if_neg hc]
   simp only [objS] at hir hq c1 c2 hlv' ⊢
   simp only [f53,B0,B1,B2,List.replicate,Nat.reduceAdd,Nat.reduceSub,Nat.reduceLeDiff,Nat.reduceLT,Nat.reduceEqDiff,reduceCtorEq,Int.reduceEq,Int.reduceLT,Int.reduceLE,lenA,endK,resA,tupA,hlen,h0,h1,hir,c1,hq,c2,hd,List.set_set,hlv']
def goesB (b : List UInt8) (p0 p : Nat) : Bool := (decide (p - p0 < 16) && namZ (peekB b p).toNat) && (decide (p0 < p) || decide (97 ≤ ((peekB b p).toNat : Int)))
def runN (b : List UInt8) (p0 : Nat) : Nat → Nat → Nat
 | 0, p => p
 | f + 1, p => if goesB b p0 p = true then runN b p0 f (p + 1) else p
def runB (b : List UInt8) (p : Nat) : Nat := runN b p 16 p
def wordB (b : List UInt8) (p : Nat) : List UInt8 := (b.drop p).take (runB b p - p)
theorem nam0 : namZ ((0 : UInt8).toNat : Int) = false := by decide
theorem goes_lt {b : List UInt8} {p0 p : Nat} (h : goesB b p0 p = true) : p < b.length ∧ p - p0 < 16 := by
 unfold goesB at h
 simp only [Bool.and_eq_true,decide_eq_true_eq] at h
 refine ⟨peek_lt fun e => ?_, h.1.1⟩
 have := h.1.2
 rw [e, nam0] at this
 simp at this
theorem runN_le (b : List UInt8) (p0 : Nat) : ∀ f p, p ≤ runN b p0 f p
 | 0, p => Nat.le_refl _
 | f + 1, p => by
  unfold runN
  split
  ·have := runN_le b p0 f (p + 1); omega
  ·exact Nat.le_refl _
theorem runN_len (b : List UInt8) (p0 : Nat) : ∀ f p, p ≤ b.length → runN b p0 f p ≤ b.length
 | 0, p, h => h
 | f + 1, p, h => by
  unfold runN
  split
  ·rename_i hg
   have := (goes_lt hg).1
   exact runN_len b p0 f (p + 1) (by omega)
  ·exact h
theorem runN_16 (b : List UInt8) (p0 : Nat) : ∀ f p, p0 ≤ p → p - p0 ≤ 16 → runN b p0 f p - p0 ≤ 16
 | 0, p, h0, h => h
 | f + 1, p, h0, h => by
  unfold runN
  split
  ·rename_i hg
   have := (goes_lt hg).2
   exact runN_16 b p0 f (p + 1) (by omega) (by omega)
  ·exact h
theorem run_le (b : List UInt8) (p : Nat) : p ≤ runB b p := runN_le b p _ p
theorem run_len {b : List UInt8} {p : Nat} (h : p ≤ b.length) : runB b p ≤ b.length := runN_len b p _ p h
theorem run_16 (b : List UInt8) (p : Nat) : runB b p - p ≤ 16 := runN_16 b p _ p (Nat.le_refl _) (by omega)
theorem l32 (b : List UInt8) (ir p0 : Nat) (bad : Bool) (hb : b.length ≤ 4611686018427387904) :
  ∀ (f p : Nat) (tm : List AV) (H : Heap), 16 ≤ (p - p0) + f → p0 ≤ p → p ≤ b.length → H[ir]? = some (objS b p bad) → tm.length = 50 → tm.getD 0 undefA = .ptr ir 0 0 → tm.getD 3 undefA = .im (.int .i64 (p0 : Int)) →
  ∃ e tm' H', Λ c32_0 tm H = some (e, tm', H') ∧ (e = .exit 0 ∧ tm'.length = 50 ∧ tm'.getD 0 undefA = .ptr ir 0 0 ∧ tm'.getD 3 undefA = .im (.int .i64 (p0 : Int)) ∧ H' = H.set ir (objS b (runN b p0 f p) bad))
 | 0, p, tm, H, hf, h0p, hp, hir, hlen, h0, h3 => by
  have hws : IntKind.i64.wrap ((p : Int) - (p0 : Int)) = (p : Int) - (p0 : Int) := Go.Abs.Seat.wrap_small _ (by omega)
  have hc : decide ((p : Int) - (p0 : Int) < 16) = false := decide_eq_false (by omega)
  have hset : H.set ir (objS b (runN b p0 0 p) bad) = H := set_same hir
  rw [hset]
  simp only [objS] at hir
  rw [l32_0]
  simp only [b32_0,B0,B1,B2,List.replicate,Nat.reduceAdd,Nat.reduceSub,Nat.reduceLeDiff,Nat.reduceLT,Nat.reduceEqDiff,reduceCtorEq,Int.reduceEq,Int.reduceLT,Int.reduceLE,lenA,hlen,h0,h3,hir,hws,hc]
  exact ⟨_, _, _, rfl, rfl, by simp only [List.length_set,hlen], by simp only [B3,Nat.reduceLT,Nat.reduceEqDiff,hlen,h0], by simp only [B3,Nat.reduceLT,Nat.reduceEqDiff,hlen,h3], rfl⟩
 | f + 1, p, tm, H, hf, h0p, hp, hir, hlen, h0, h3 => by
  have hirl := (List.getElem?_eq_some_iff.1 hir).1
  have hws : IntKind.i64.wrap ((p : Int) - (p0 : Int)) = (p : Int) - (p0 : Int) := Go.Abs.Seat.wrap_small _ (by omega)
  have c1 := s29 b p ir bad H hir hb
  have c2 := fun H => s34 ((peekB b p).toNat : Int) H
  have hx : decide ((p : Int) - (p0 : Int) < 16) = decide (p - p0 < 16) := by
   by_cases h : p - p0 < 16
   ·rw [decide_eq_true h, decide_eq_true (by omega)]
   ·rw [decide_eq_false h, decide_eq_false (by omega)]
  have hy : decide ((p0 : Int) < (p : Int)) = decide (p0 < p) := by
   by_cases h : p0 < p
   ·rw [decide_eq_true h, decide_eq_true (by omega)]
   ·rw [decide_eq_false h, decide_eq_false (by omega)]
  have stop : goesB b p0 p = false → ∃ e tm' H', Λ c32_0 tm H = some (e, tm', H') ∧ (e = .exit 0 ∧ tm'.length = 50 ∧ tm'.getD 0 undefA = .ptr ir 0 0 ∧ tm'.getD 3 undefA = .im (.int .i64 (p0 : Int)) ∧ H' = H.set ir (objS b (runN b p0 (f + 1) p) bad)) := by
   intro hg
   have hr : runN b p0 (f + 1) p = p := by unfold runN; rw [hg, if_neg (by simp)]
   rw [hr, show H.set ir (objS b p bad) = H from set_same hir]
   unfold goesB at hg
   simp only [objS] at hir
   rcases Bool.eq_false_or_eq_true (decide (p - p0 < 16)) with g1 | g1 <;> rcases Bool.eq_false_or_eq_true (namZ ((peekB b p).toNat : Int)) with g2 | g2 <;> rcases Bool.eq_false_or_eq_true (decide (p0 < p)) with g3 | g3 <;> rcases Bool.eq_false_or_eq_true (decide (97 ≤ ((peekB b p).toNat : Int))) with g4 | g4 <;>
    first
    |(rw [g1, g2, g3, g4] at hg; simp at hg; done)
    |(rw [l32_0]
      simp only [b32_0,B0,B1,B2,List.replicate,Nat.reduceAdd,Nat.reduceSub,Nat.reduceLeDiff,Nat.reduceLT,Nat.reduceEqDiff,reduceCtorEq,Int.reduceEq,Int.reduceLT,Int.reduceLE,lenA,hlen,h0,h3,hir,hws,hx,hy,c1,c2,g1,g2,g3,g4]
      exact ⟨_, _, _, rfl, rfl, by simp only [List.length_set,hlen], by simp only [B3,Nat.reduceLT,Nat.reduceEqDiff,hlen,h0], by simp only [B3,Nat.reduceLT,Nat.reduceEqDiff,hlen,h3], rfl⟩)
  rcases Bool.eq_false_or_eq_true (goesB b p0 p) with hg | hg
  ·have hlt := goes_lt hg
   have hwr := wrap_nat (i := p) (by omega)
   have key := fun tm1 => l32 b ir p0 bad hb f (p + 1) tm1 (H.set ir (objS b (p + 1) bad)) (by omega) (by omega) (by omega) (List.getElem?_set_self hirl)
   simp only [List.set_set] at key
   have hr : runN b p0 (f + 1) p = runN b p0 f (p + 1) := by rw [runN, hg, if_pos rfl]
   rw [hr]
   unfold goesB at hg
   simp only [Bool.and_eq_true] at hg
   obtain ⟨⟨g1, g2⟩, g3⟩ := hg
   simp only [objS] at hir key ⊢
   rcases Bool.eq_false_or_eq_true (decide (p0 < p)) with g5 | g5
   ·rw [l32_0]
    simp only [b32_0,B0,B1,B2,List.replicate,Nat.reduceAdd,Nat.reduceSub,Nat.reduceLeDiff,Nat.reduceLT,Nat.reduceEqDiff,reduceCtorEq,Int.reduceEq,Int.reduceLT,Int.reduceLE,lenA,hlen,h0,h3,hir,hws,hx,hy,c1,c2,g1,g2,g5,hwr]
    refine ex_imp (key _ ?_ ?_ ?_) fun _ _ _ h => h
    all_goals simp only [B3,Nat.reduceLT,Nat.reduceEqDiff,hlen,h0,h3]
   ·rw [g5, Bool.false_or] at g3
    rw [l32_0]
    simp only [b32_0,B0,B1,B2,List.replicate,Nat.reduceAdd,Nat.reduceSub,Nat.reduceLeDiff,Nat.reduceLT,Nat.reduceEqDiff,reduceCtorEq,Int.reduceEq,Int.reduceLT,Int.reduceLE,lenA,hlen,h0,h3,hir,hws,hx,hy,c1,c2,g1,g2,g5,g3,hwr]
    refine ex_imp (key _ ?_ ?_ ?_) fun _ _ _ h => h
    all_goals simp only [B3,Nat.reduceLT,Nat.reduceEqDiff,hlen,h0,h3]
  ·exact stop hg
theorem s32 (b : List UInt8) (p ir : Nat) (bad : Bool) (H : Heap) (hir : H[ir]? = some (objS b p bad)) (hb : b.length ≤ 4611686018427387904) (hp : p ≤ b.length) :
  L 32 [.ptr ir 0 0] H = some (.im (.str (wordB b p)), H.set ir (objS b (runB b p) bad)) := by
 have hirl := (List.getElem?_eq_some_iff.1 hir).1
 have key := fun tm1 => l32 b ir p bad hb 16 p tm1 H (by omega) (Nat.le_refl _) hp hir
 have hlv : ∀ q w, leave H false (.im (.str w)) (H.set ir (objS b q bad)) = (.im (.str w), H.set ir (objS b q bad)) := fun q w => leave_S hir rfl rfl
 have hq : (H.set ir (objS b (runB b p) bad))[ir]? = some (objS b (runB b p) bad) := List.getElem?_set_self hirl
 have hle := run_len hp
 have hle2 := run_le b p
 have ki : runN b p 16 p = runB b p := rfl
 rw [ki] at key
 unfold wordB
 generalize runB b p = q at *
 have hlv' := hlv q ((b.drop p).take (q - p))
 simp only [objS] at hir hq key hlv' ⊢
 rw [leq F32]
 obtain ⟨hlen, ha⟩ := enter_at (f := f32) (args := [.ptr ir 0 0]) (Nat.le_of_ble_eq_true rfl)
 have h0 := ha 0 _ rfl
 generalize enterA f32 [.ptr ir 0 0] = tm at *
 change tm.length = 50 at hlen
 simp only [f32,e32_0,B0,B1,B2,List.replicate,Nat.reduceAdd,Nat.reduceSub,Nat.reduceLeDiff,Nat.reduceLT,Nat.reduceEqDiff,reduceCtorEq,Int.reduceEq,Int.reduceLT,Int.reduceLE,lenA,hlen,h0,hir]
 generalize hr : thenL (Λ c32_0 _ _) _ = r
 refine Exists.elim (thenL_inv hr (key _ ?_ ?_ ?_)) ?_
 iterate 3 simp only [B3,Nat.reduceLT,Nat.reduceEqDiff,hlen,h0]
 clear hr key
 rintro e ⟨tm1, H1, ⟨rfl, g1, g2, g3, rfl⟩, rfl⟩
 have hba : boundA (fun x => ev tm1 x) 0 (some (.c (.im (.int .i64 (p : Int))))) = some p := by simp [boundA, intOfA, ev]
 have hc1 : p ≤ q ∧ q ≤ b.length := ⟨hle2, hle⟩
 simp only [B0,B1,B2,List.replicate,Nat.reduceAdd,Nat.reduceSub,Nat.reduceLeDiff,Nat.reduceLT,Nat.reduceEqDiff,reduceCtorEq,Int.reduceEq,Int.reduceLT,Int.reduceLE,lenA,endK,resA,tupA,boundA,intOfA,Int.natCast_nonneg,Int.toNat_natCast,if_true,g1,g2,g3,hq,hc1,hlv']
end Go.Abs.Seat
end
section
set_option linter.unusedVariables false
set_option linter.unusedSimpArgs false
namespace Go.Abs.Seat
open Go.Proofs
set_option maxRecDepth 10000 in
theorem Tok (f : FuncId) (af : AFunc) (h : T f = some af) : F f = some af ∧ closedC af.code = true := by
 unfold T at h
 by_cases h3 : f = 3
 ·subst h3; rw [if_pos rfl] at h; injection h with h; subst h; exact ⟨F3, by kernel_rfl⟩
 rw [if_neg h3] at h
 by_cases h5 : f = 5
 ·subst h5; rw [if_pos rfl] at h; injection h with h; subst h; exact ⟨F5, by kernel_rfl⟩
 rw [if_neg h5] at h
 by_cases h9 : f = 9
 ·subst h9; rw [if_pos rfl] at h; injection h with h; subst h; exact ⟨F9, by kernel_rfl⟩
 rw [if_neg h9] at h
 by_cases h10 : f = 10
 ·subst h10; rw [if_pos rfl] at h; injection h with h; subst h; exact ⟨F10, by kernel_rfl⟩
 rw [if_neg h10] at h
 by_cases h11 : f = 11
 ·subst h11; rw [if_pos rfl] at h; injection h with h; subst h; exact ⟨F11, by kernel_rfl⟩
 rw [if_neg h11] at h
 by_cases h12 : f = 12
 ·subst h12; rw [if_pos rfl] at h; injection h with h; subst h; exact ⟨F12, by kernel_rfl⟩
 rw [if_neg h12] at h
 by_cases h13 : f = 13
 ·subst h13; rw [if_pos rfl] at h; injection h with h; subst h; exact ⟨F13, by kernel_rfl⟩
 rw [if_neg h13] at h
 by_cases h14 : f = 14
 ·subst h14; rw [if_pos rfl] at h; injection h with h; subst h; exact ⟨F14, by kernel_rfl⟩
 rw [if_neg h14] at h
 by_cases h18 : f = 18
 ·subst h18; rw [if_pos rfl] at h; injection h with h; subst h; exact ⟨F18, by kernel_rfl⟩
 rw [if_neg h18] at h
 by_cases h19 : f = 19
 ·subst h19; rw [if_pos rfl] at h; injection h with h; subst h; exact ⟨F19, by kernel_rfl⟩
 rw [if_neg h19] at h
 by_cases h20 : f = 20
 ·subst h20; rw [if_pos rfl] at h; injection h with h; subst h; exact ⟨F20, by kernel_rfl⟩
 rw [if_neg h20] at h
 by_cases h21 : f = 21
 ·subst h21; rw [if_pos rfl] at h; injection h with h; subst h; exact ⟨F21, by kernel_rfl⟩
 rw [if_neg h21] at h
 by_cases h22 : f = 22
 ·subst h22; rw [if_pos rfl] at h; injection h with h; subst h; exact ⟨F22, by kernel_rfl⟩
 rw [if_neg h22] at h
 by_cases h23 : f = 23
 ·subst h23; rw [if_pos rfl] at h; injection h with h; subst h; exact ⟨F23, by kernel_rfl⟩
 rw [if_neg h23] at h
 by_cases h24 : f = 24
 ·subst h24; rw [if_pos rfl] at h; injection h with h; subst h; exact ⟨F24, by kernel_rfl⟩
 rw [if_neg h24] at h
 by_cases h25 : f = 25
 ·subst h25; rw [if_pos rfl] at h; injection h with h; subst h; exact ⟨F25, by kernel_rfl⟩
 rw [if_neg h25] at h
 by_cases h29 : f = 29
 ·subst h29; rw [if_pos rfl] at h; injection h with h; subst h; exact ⟨F29, by kernel_rfl⟩
 rw [if_neg h29] at h
 by_cases h30 : f = 30
 ·subst h30; rw [if_pos rfl] at h; injection h with h; subst h; exact ⟨F30, by kernel_rfl⟩
 rw [if_neg h30] at h
 by_cases h31 : f = 31
 ·subst h31; rw [if_pos rfl] at h; injection h with h; subst h; exact ⟨F31, by kernel_rfl⟩
 rw [if_neg h31] at h
 by_cases h32 : f = 32
 ·subst h32; rw [if_pos rfl] at h; injection h with h; subst h; exact ⟨F32, by kernel_rfl⟩
 rw [if_neg h32] at h
 by_cases h33 : f = 33
 ·subst h33; rw [if_pos rfl] at h; injection h with h; subst h; exact ⟨F33, by kernel_rfl⟩
 rw [if_neg h33] at h
 by_cases h34 : f = 34
 ·subst h34; rw [if_pos rfl] at h; injection h with h; subst h; exact ⟨F34, by kernel_rfl⟩
 rw [if_neg h34] at h
 by_cases h35 : f = 35
 ·subst h35; rw [if_pos rfl] at h; injection h with h; subst h; exact ⟨F35, by kernel_rfl⟩
 rw [if_neg h35] at h
 by_cases h36 : f = 36
 ·subst h36; rw [if_pos rfl] at h; injection h with h; subst h; exact ⟨F36, by kernel_rfl⟩
 rw [if_neg h36] at h
 by_cases h37 : f = 37
 ·subst h37; rw [if_pos rfl] at h; injection h with h; subst h; exact ⟨F37, by kernel_rfl⟩
 rw [if_neg h37] at h
 by_cases h38 : f = 38
 ·subst h38; rw [if_pos rfl] at h; injection h with h; subst h; exact ⟨F38, by kernel_rfl⟩
 rw [if_neg h38] at h
 by_cases h39 : f = 39
 ·subst h39; rw [if_pos rfl] at h; injection h with h; subst h; exact ⟨F39, by kernel_rfl⟩
 rw [if_neg h39] at h
 by_cases h40 : f = 40
 ·subst h40; rw [if_pos rfl] at h; injection h with h; subst h; exact ⟨F40, by kernel_rfl⟩
 rw [if_neg h40] at h
 by_cases h41 : f = 41
 ·subst h41; rw [if_pos rfl] at h; injection h with h; subst h; exact ⟨F41, by kernel_rfl⟩
 rw [if_neg h41] at h
 by_cases h42 : f = 42
 ·subst h42; rw [if_pos rfl] at h; injection h with h; subst h; exact ⟨F42, by kernel_rfl⟩
 rw [if_neg h42] at h
 by_cases h43 : f = 43
 ·subst h43; rw [if_pos rfl] at h; injection h with h; subst h; exact ⟨F43, by kernel_rfl⟩
 rw [if_neg h43] at h
 by_cases h44 : f = 44
 ·subst h44; rw [if_pos rfl] at h; injection h with h; subst h; exact ⟨F44, by kernel_rfl⟩
 rw [if_neg h44] at h
 by_cases h45 : f = 45
 ·subst h45; rw [if_pos rfl] at h; injection h with h; subst h; exact ⟨F45, by kernel_rfl⟩
 rw [if_neg h45] at h
 by_cases h46 : f = 46
 ·subst h46; rw [if_pos rfl] at h; injection h with h; subst h; exact ⟨F46, by kernel_rfl⟩
 rw [if_neg h46] at h
 by_cases h47 : f = 47
 ·subst h47; rw [if_pos rfl] at h; injection h with h; subst h; exact ⟨F47, by kernel_rfl⟩
 rw [if_neg h47] at h
 by_cases h48 : f = 48
 ·subst h48; rw [if_pos rfl] at h; injection h with h; subst h; exact ⟨F48, by kernel_rfl⟩
 rw [if_neg h48] at h
 by_cases h49 : f = 49
 ·subst h49; rw [if_pos rfl] at h; injection h with h; subst h; exact ⟨F49, by kernel_rfl⟩
 rw [if_neg h49] at h
 by_cases h51 : f = 51
 ·subst h51; rw [if_pos rfl] at h; injection h with h; subst h; exact ⟨F51, by kernel_rfl⟩
 rw [if_neg h51] at h
 by_cases h52 : f = 52
 ·subst h52; rw [if_pos rfl] at h; injection h with h; subst h; exact ⟨F52, by kernel_rfl⟩
 rw [if_neg h52] at h
 by_cases h53 : f = 53
 ·subst h53; rw [if_pos rfl] at h; injection h with h; subst h; exact ⟨F53, by kernel_rfl⟩
 rw [if_neg h53] at h
 by_cases h54 : f = 54
 ·subst h54; rw [if_pos rfl] at h; injection h with h; subst h; exact ⟨F54, by kernel_rfl⟩
 rw [if_neg h54] at h
 by_cases h55 : f = 55
 ·subst h55; rw [if_pos rfl] at h; injection h with h; subst h; exact ⟨F55, by kernel_rfl⟩
 rw [if_neg h55] at h
 by_cases h56 : f = 56
 ·subst h56; rw [if_pos rfl] at h; injection h with h; subst h; exact ⟨F56, by kernel_rfl⟩
 rw [if_neg h56] at h
 by_cases h57 : f = 57
 ·subst h57; rw [if_pos rfl] at h; injection h with h; subst h; exact ⟨F57, by kernel_rfl⟩
 rw [if_neg h57] at h
 by_cases h58 : f = 58
 ·subst h58; rw [if_pos rfl] at h; injection h with h; subst h; exact ⟨F58, by kernel_rfl⟩
 rw [if_neg h58] at h
 by_cases h59 : f = 59
 ·subst h59; rw [if_pos rfl] at h; injection h with h; subst h; exact ⟨F59, by kernel_rfl⟩
 rw [if_neg h59] at h
 by_cases h61 : f = 61
 ·subst h61; rw [if_pos rfl] at h; injection h with h; subst h; exact ⟨F61, by kernel_rfl⟩
 rw [if_neg h61] at h
 by_cases h62 : f = 62
 ·subst h62; rw [if_pos rfl] at h; injection h with h; subst h; exact ⟨F62, by kernel_rfl⟩
 rw [if_neg h62] at h
 by_cases h63 : f = 63
 ·subst h63; rw [if_pos rfl] at h; injection h with h; subst h; exact ⟨F63, by kernel_rfl⟩
 rw [if_neg h63] at h
 by_cases h64 : f = 64
 ·subst h64; rw [if_pos rfl] at h; injection h with h; subst h; exact ⟨F64, by kernel_rfl⟩
 rw [if_neg h64] at h
 by_cases h65 : f = 65
 ·subst h65; rw [if_pos rfl] at h; injection h with h; subst h; exact ⟨F65, by kernel_rfl⟩
 rw [if_neg h65] at h
 by_cases h66 : f = 66
 ·subst h66; rw [if_pos rfl] at h; injection h with h; subst h; exact ⟨F66, by kernel_rfl⟩
 rw [if_neg h66] at h
 by_cases h67 : f = 67
 ·subst h67; rw [if_pos rfl] at h; injection h with h; subst h; exact ⟨F67, by kernel_rfl⟩
 rw [if_neg h67] at h
 by_cases h68 : f = 68
 ·subst h68; rw [if_pos rfl] at h; injection h with h; subst h; exact ⟨F68, by kernel_rfl⟩
 rw [if_neg h68] at h
 by_cases h69 : f = 69
 ·subst h69; rw [if_pos rfl] at h; injection h with h; subst h; exact ⟨F69, by kernel_rfl⟩
 rw [if_neg h69] at h
 by_cases h70 : f = 70
 ·subst h70; rw [if_pos rfl] at h; injection h with h; subst h; exact ⟨F70, by kernel_rfl⟩
 rw [if_neg h70] at h
 by_cases h71 : f = 71
 ·subst h71; rw [if_pos rfl] at h; injection h with h; subst h; exact ⟨F71, by kernel_rfl⟩
 rw [if_neg h71] at h
 by_cases h73 : f = 73
 ·subst h73; rw [if_pos rfl] at h; injection h with h; subst h; exact ⟨F73, by kernel_rfl⟩
 rw [if_neg h73] at h
 by_cases h74 : f = 74
 ·subst h74; rw [if_pos rfl] at h; injection h with h; subst h; exact ⟨F74, by kernel_rfl⟩
 rw [if_neg h74] at h
 by_cases h75 : f = 75
 ·subst h75; rw [if_pos rfl] at h; injection h with h; subst h; exact ⟨F75, by kernel_rfl⟩
 rw [if_neg h75] at h
 by_cases h76 : f = 76
 ·subst h76; rw [if_pos rfl] at h; injection h with h; subst h; exact ⟨F76, by kernel_rfl⟩
 rw [if_neg h76] at h
 by_cases h77 : f = 77
 ·subst h77; rw [if_pos rfl] at h; injection h with h; subst h; exact ⟨F77, by kernel_rfl⟩
 rw [if_neg h77] at h
 by_cases h78 : f = 78
 ·subst h78; rw [if_pos rfl] at h; injection h with h; subst h; exact ⟨F78, by kernel_rfl⟩
 rw [if_neg h78] at h
 by_cases h79 : f = 79
 ·subst h79; rw [if_pos rfl] at h; injection h with h; subst h; exact ⟨F79, by kernel_rfl⟩
 rw [if_neg h79] at h
 by_cases h81 : f = 81
 ·subst h81; rw [if_pos rfl] at h; injection h with h; subst h; exact ⟨F81, by kernel_rfl⟩
 rw [if_neg h81] at h
 by_cases h82 : f = 82
 ·subst h82; rw [if_pos rfl] at h; injection h with h; subst h; exact ⟨F82, by kernel_rfl⟩
 rw [if_neg h82] at h
 by_cases h83 : f = 83
 ·subst h83; rw [if_pos rfl] at h; injection h with h; subst h; exact ⟨F83, by kernel_rfl⟩
 rw [if_neg h83] at h
 by_cases h84 : f = 84
 ·subst h84; rw [if_pos rfl] at h; injection h with h; subst h; exact ⟨F84, by kernel_rfl⟩
 rw [if_neg h84] at h
 by_cases h85 : f = 85
 ·subst h85; rw [if_pos rfl] at h; injection h with h; subst h; exact ⟨F85, by kernel_rfl⟩
 rw [if_neg h85] at h
 by_cases h86 : f = 86
 ·subst h86; rw [if_pos rfl] at h; injection h with h; subst h; exact ⟨F86, by kernel_rfl⟩
 rw [if_neg h86] at h
 by_cases h87 : f = 87
 ·subst h87; rw [if_pos rfl] at h; injection h with h; subst h; exact ⟨F87, by kernel_rfl⟩
 rw [if_neg h87] at h
 by_cases h88 : f = 88
 ·subst h88; rw [if_pos rfl] at h; injection h with h; subst h; exact ⟨F88, by kernel_rfl⟩
 rw [if_neg h88] at h
 by_cases h89 : f = 89
 ·subst h89; rw [if_pos rfl] at h; injection h with h; subst h; exact ⟨F89, by kernel_rfl⟩
 rw [if_neg h89] at h
 by_cases h90 : f = 90
 ·subst h90; rw [if_pos rfl] at h; injection h with h; subst h; exact ⟨F90, by kernel_rfl⟩
 rw [if_neg h90] at h
 by_cases h91 : f = 91
 ·subst h91; rw [if_pos rfl] at h; injection h with h; subst h; exact ⟨F91, by kernel_rfl⟩
 rw [if_neg h91] at h
 by_cases h92 : f = 92
 ·subst h92; rw [if_pos rfl] at h; injection h with h; subst h; exact ⟨F92, by kernel_rfl⟩
 rw [if_neg h92] at h
 by_cases h93 : f = 93
 ·subst h93; rw [if_pos rfl] at h; injection h with h; subst h; exact ⟨F93, by kernel_rfl⟩
 rw [if_neg h93] at h
 by_cases h94 : f = 94
 ·subst h94; rw [if_pos rfl] at h; injection h with h; subst h; exact ⟨F94, by kernel_rfl⟩
 rw [if_neg h94] at h
 by_cases h95 : f = 95
 ·subst h95; rw [if_pos rfl] at h; injection h with h; subst h; exact ⟨F95, by kernel_rfl⟩
 rw [if_neg h95] at h
 by_cases h96 : f = 96
 ·subst h96; rw [if_pos rfl] at h; injection h with h; subst h; exact ⟨F96, by kernel_rfl⟩
 rw [if_neg h96] at h
 by_cases h98 : f = 98
 ·subst h98; rw [if_pos rfl] at h; injection h with h; subst h; exact ⟨F98, by kernel_rfl⟩
 rw [if_neg h98] at h
 by_cases h99 : f = 99
 ·subst h99; rw [if_pos rfl] at h; injection h with h; subst h; exact ⟨F99, by kernel_rfl⟩
 rw [if_neg h99] at h
 by_cases h100 : f = 100
 ·subst h100; rw [if_pos rfl] at h; injection h with h; subst h; exact ⟨F100, by kernel_rfl⟩
 rw [if_neg h100] at h
 by_cases h101 : f = 101
 ·subst h101; rw [if_pos rfl] at h; injection h with h; subst h; exact ⟨F101, by kernel_rfl⟩
 rw [if_neg h101] at h
 by_cases h102 : f = 102
 ·subst h102; rw [if_pos rfl] at h; injection h with h; subst h; exact ⟨F102, by kernel_rfl⟩
 rw [if_neg h102] at h
 by_cases h103 : f = 103
 ·subst h103; rw [if_pos rfl] at h; injection h with h; subst h; exact ⟨F103, by kernel_rfl⟩
 rw [if_neg h103] at h
 by_cases h104 : f = 104
 ·subst h104; rw [if_pos rfl] at h; injection h with h; subst h; exact ⟨F104, by kernel_rfl⟩
 rw [if_neg h104] at h
 by_cases h105 : f = 105
 ·subst h105; rw [if_pos rfl] at h; injection h with h; subst h; exact ⟨F105, by kernel_rfl⟩
 rw [if_neg h105] at h
 by_cases h107 : f = 107
 ·subst h107; rw [if_pos rfl] at h; injection h with h; subst h; exact ⟨F107, by kernel_rfl⟩
 rw [if_neg h107] at h
 by_cases h108 : f = 108
 ·subst h108; rw [if_pos rfl] at h; injection h with h; subst h; exact ⟨F108, by kernel_rfl⟩
 rw [if_neg h108] at h
 by_cases h109 : f = 109
 ·subst h109; rw [if_pos rfl] at h; injection h with h; subst h; exact ⟨F109, by kernel_rfl⟩
 rw [if_neg h109] at h
 by_cases h110 : f = 110
 ·subst h110; rw [if_pos rfl] at h; injection h with h; subst h; exact ⟨F110, by kernel_rfl⟩
 rw [if_neg h110] at h
 by_cases h111 : f = 111
 ·subst h111; rw [if_pos rfl] at h; injection h with h; subst h; exact ⟨F111, by kernel_rfl⟩
 rw [if_neg h111] at h
 simp at h
theorem bsh : ∀ n H0, n = H0.length → ShO n H0 bld bld := fun _ _ h => idxO_sh (strO_sh h none_sh)
theorem Tno (f : FuncId) (_ : T f = none) : F f = none ∨ ∀ args H, bld f args H = none := by
 by_cases h1 : f = 60
 ·subst h1; left; kernel_rfl
 by_cases h2 : f = 26
 ·subst h2; left; kernel_rfl
 by_cases h3 : f = 80
 ·subst h3; left; kernel_rfl
 right
 intro args H
 simp only [bld,idxO,strO,h1,h2,h3,if_false]
end Go.Abs.Seat
end
section
set_option linter.unusedVariables false
set_option linter.unusedSimpArgs false
namespace Go.Abs.Seat
open Go.Proofs
def shapes : List (List UInt8 × List UInt8) := [([116, 114, 117, 101], []),
 ([102, 97, 108, 115, 101], []),
 ([105, 116], []),
 ([110, 101, 103], [101]),
 ([110, 111, 116], [101]),
 ([102, 105, 114, 115, 116], [101]),
 ([115, 101, 99, 111, 110, 100], [101]),
 ([108, 101, 110], [101]),
 ([115, 111, 114, 116], [101]),
 ([115, 111, 109, 101], [101]),
 ([105, 115, 95, 115, 111, 109, 101], [101]),
 ([115, 105, 122, 101], [101]),
 ([98, 121, 116, 101, 115], [101]),
 ([116, 101, 120, 116], [101]),
 ([115, 104, 111, 119], [101]),
 ([114, 101], [101]),
 ([105, 109], [101]),
 ([99, 111, 110, 106], [101]),
 ([114, 97, 110, 103, 101], [101]),
 ([97, 100, 100], [101, 101]),
 ([115, 117, 98], [101, 101]),
 ([109, 117, 108], [101, 101]),
 ([100, 105, 118], [101, 101]),
 ([109, 111, 100], [101, 101]),
 ([101, 113], [101, 101]),
 ([108, 116], [101, 101]),
 ([97, 110, 100], [101, 101]),
 ([111, 114], [101, 101]),
 ([112, 97, 105, 114], [101, 101]),
 ([99, 111, 110, 115], [101, 101]),
 ([99, 111, 110, 99, 97, 116], [101, 101]),
 ([97, 116], [101, 101]),
 ([111, 114, 95, 101, 108, 115, 101], [101, 101]),
 ([106, 111, 105, 110], [101, 101]),
 ([112, 111, 105, 110, 116], [101, 101]),
 ([105, 102], [101, 101, 101]),
 ([99, 117, 116], [101, 101, 101]),
 ([108, 105, 115, 116], [43]),
 ([115, 105, 100, 101], [100]),
 ([110, 105, 108], [116]),
 ([110, 111, 110, 101], [116]),
 ([108, 101, 116], [110, 101, 101]),
 ([109, 97, 112], [101, 110, 101]),
 ([102, 105, 108, 116, 101, 114], [101, 110, 101]),
 ([102, 111, 108, 100], [101, 101, 110, 110, 101])]
def shapeT (w : List UInt8) : Option (List UInt8) := shapes.lookup w
def partR (p : List UInt8) : List UInt8 := if p = [43] then [108] else p
set_option maxRecDepth 100000 in
theorem shape_run : ∀ e ∈ shapes, runC bld T 400 33 [.im (.str e.1)] [] = some (.tup [.im (.str e.2), .im (.bool true)], []) := by
 intro e he
 simp only [shapes,List.mem_cons,List.not_mem_nil,or_false] at he
 rcases he with rfl | rfl | rfl | rfl | rfl | rfl | rfl | rfl | rfl | rfl | rfl | rfl | rfl | rfl | rfl | rfl | rfl | rfl | rfl | rfl | rfl | rfl | rfl | rfl | rfl | rfl | rfl | rfl | rfl | rfl | rfl | rfl | rfl | rfl | rfl | rfl | rfl | rfl | rfl | rfl | rfl | rfl | rfl | rfl | rfl <;> kernel_rfl
theorem lookup_mem {α β : Type} [BEq α] [LawfulBEq α] : ∀ {l : List (α × β)} {a : α} {b : β}, l.lookup a = some b → (a, b) ∈ l
 |(x, y) :: l, a, b, h => by
  simp only [List.lookup] at h
  split at h
  ·rename_i he
   have : a = x := by simpa using he
   subst this
   injection h with h
   subst h
   simp
  ·exact List.mem_cons_of_mem _ (lookup_mem h)
theorem lookup_none {α β : Type} [BEq α] [LawfulBEq α] : ∀ {l : List (α × β)} {a : α}, l.lookup a = none → ∀ e ∈ l, a ≠ e.1
 |(x, y) :: l, a, h, e, he => by
  simp only [List.lookup] at h
  split at h
  ·simp at h
  ·rename_i hne
   rcases List.mem_cons.1 he with rfl | he
   ·simpa using hne
   ·exact lookup_none h e he
theorem s33_some {w p : List UInt8} (h : shapeT w = some p) (H : Heap) : L 33 [.im (.str w)] H = some (.tup [.im (.str p), .im (.bool true)], H) :=
 lim_args bsh Tok Tno (shape_run (w, p) (lookup_mem h)) (fun _ => rfl) (fun _ => rfl) H
structure NoW (w : List UInt8) : Prop where
 h0 : decide (w = [116, 114, 117, 101]) = false
 h1 : decide (w = [102, 97, 108, 115, 101]) = false
 h2 : decide (w = [105, 116]) = false
 h3 : decide (w = [110, 101, 103]) = false
 h4 : decide (w = [110, 111, 116]) = false
 h5 : decide (w = [102, 105, 114, 115, 116]) = false
 h6 : decide (w = [115, 101, 99, 111, 110, 100]) = false
 h7 : decide (w = [108, 101, 110]) = false
 h8 : decide (w = [115, 111, 114, 116]) = false
 h9 : decide (w = [115, 111, 109, 101]) = false
 h10 : decide (w = [105, 115, 95, 115, 111, 109, 101]) = false
 h11 : decide (w = [115, 105, 122, 101]) = false
 h12 : decide (w = [98, 121, 116, 101, 115]) = false
 h13 : decide (w = [116, 101, 120, 116]) = false
 h14 : decide (w = [115, 104, 111, 119]) = false
 h15 : decide (w = [114, 101]) = false
 h16 : decide (w = [105, 109]) = false
 h17 : decide (w = [99, 111, 110, 106]) = false
 h18 : decide (w = [114, 97, 110, 103, 101]) = false
 h19 : decide (w = [97, 100, 100]) = false
 h20 : decide (w = [115, 117, 98]) = false
 h21 : decide (w = [109, 117, 108]) = false
 h22 : decide (w = [100, 105, 118]) = false
 h23 : decide (w = [109, 111, 100]) = false
 h24 : decide (w = [101, 113]) = false
 h25 : decide (w = [108, 116]) = false
 h26 : decide (w = [97, 110, 100]) = false
 h27 : decide (w = [111, 114]) = false
 h28 : decide (w = [112, 97, 105, 114]) = false
 h29 : decide (w = [99, 111, 110, 115]) = false
 h30 : decide (w = [99, 111, 110, 99, 97, 116]) = false
 h31 : decide (w = [97, 116]) = false
 h32 : decide (w = [111, 114, 95, 101, 108, 115, 101]) = false
 h33 : decide (w = [106, 111, 105, 110]) = false
 h34 : decide (w = [112, 111, 105, 110, 116]) = false
 h35 : decide (w = [105, 102]) = false
 h36 : decide (w = [99, 117, 116]) = false
 h37 : decide (w = [108, 105, 115, 116]) = false
 h38 : decide (w = [115, 105, 100, 101]) = false
 h39 : decide (w = [110, 105, 108]) = false
 h40 : decide (w = [110, 111, 110, 101]) = false
 h41 : decide (w = [108, 101, 116]) = false
 h42 : decide (w = [109, 97, 112]) = false
 h43 : decide (w = [102, 105, 108, 116, 101, 114]) = false
 h44 : decide (w = [102, 111, 108, 100]) = false
theorem now_of {w : List UInt8} (h : shapeT w = none) : NoW w := by
 have hn := lookup_none h
 simp only [shapes,List.forall_mem_cons,ne_eq] at hn
 obtain ⟨n0, n1, n2, n3, n4, n5, n6, n7, n8, n9, n10, n11, n12, n13, n14, n15, n16, n17, n18, n19, n20, n21, n22, n23, n24, n25, n26, n27, n28, n29, n30, n31, n32, n33, n34, n35, n36, n37, n38, n39, n40, n41, n42, n43, n44, _⟩ := hn
 exact ⟨decide_eq_false n0, decide_eq_false n1, decide_eq_false n2, decide_eq_false n3, decide_eq_false n4, decide_eq_false n5, decide_eq_false n6, decide_eq_false n7, decide_eq_false n8, decide_eq_false n9, decide_eq_false n10, decide_eq_false n11, decide_eq_false n12, decide_eq_false n13, decide_eq_false n14, decide_eq_false n15, decide_eq_false n16, decide_eq_false n17, decide_eq_false n18, decide_eq_false n19, decide_eq_false n20, decide_eq_false n21, decide_eq_false n22, decide_eq_false n23, decide_eq_false n24, decide_eq_false n25, decide_eq_false n26, decide_eq_false n27, decide_eq_false n28, decide_eq_false n29, decide_eq_false n30, decide_eq_false n31, decide_eq_false n32, decide_eq_false n33, decide_eq_false n34, decide_eq_false n35, decide_eq_false n36, decide_eq_false n37, decide_eq_false n38, decide_eq_false n39, decide_eq_false n40, decide_eq_false n41, decide_eq_false n42, decide_eq_false n43, decide_eq_false n44⟩
def Passes (w : List UInt8) (code : ACode) (post : List AV → Prop) : Prop := ∀ (tm : List AV) (H : Heap) (K : AEx → List AV → Heap → Option (AV × Heap)), tm.length = 60 → tm.getD 4 undefA = .im (.str w) →
 ∃ tm', tm'.length = 60 ∧ tm'.getD 4 undefA = .im (.str w) ∧ post tm' ∧ exec0 L Λ code tm H K = K .normal tm' H
theorem pass_skip {w : List UInt8} : Passes w .skip (fun _ => True) := fun tm H K hl h4 => ⟨tm, hl, h4, trivial, x_skip⟩
theorem pass_eq {w lit : List UInt8} {a c : Nat} (ha : a < 60 ∧ c < 60 ∧ a ≠ 4 ∧ c ≠ 4) (h : decide (w = lit) = false) :
  Passes w (.ops [⟨some a, .bin .eql (.t 4) (.c (.im (.str lit))), none⟩, ⟨some c, .move (.t a), none⟩] []) (fun tm => tm.getD c undefA = .im (.bool false)) := fun tm H K hl h4 => by
 obtain ⟨h1, h2, h3, h5⟩ := ha
 refine ⟨(tm.set a (.im (.bool false))).set c (.im (.bool false)), by simp only [List.length_set,hl], ?_, ?_, ?_⟩
 ·rw [gs_ne h5, gs_ne h3, h4]
 ·exact gs_same (by simp only [List.length_set,hl]; exact h2)
 ·have e : (tm.set a (.im (.bool false))).getD a undefA = .im (.bool false) := gs_same (by rw [hl]; exact h1)
  simp only [B0,B1,B2,List.replicate,Nat.reduceAdd,Nat.reduceSub,Nat.reduceLeDiff,Nat.reduceLT,Nat.reduceEqDiff,reduceCtorEq,Int.reduceEq,Int.reduceLT,Int.reduceLE,lenA,h4,h,e]
theorem pass_grp {w lit : List UInt8} {a c : Nat} {G : ACode} (ha : a < 60 ∧ c < 60 ∧ a ≠ 4 ∧ c ≠ 4) (h : decide (w = lit) = false) (hG : Passes w G (fun tm => tm.getD c undefA = .im (.bool false))) :
  Passes w (.seq (.ops [⟨some a, .bin .eql (.t 4) (.c (.im (.str lit))), none⟩, ⟨some c, .move (.t a), none⟩] []) (.cond (.t c) .skip G)) (fun tm => tm.getD c undefA = .im (.bool false)) := fun tm H K hl h4 => by
 obtain ⟨tm1, a1, a2, a3, a4⟩ := pass_eq ha h tm H (seqK L Λ (.cond (.t c) .skip G) K) hl h4
 obtain ⟨tm2, b1, b2, b3, b4⟩ := hG tm1 H K a1 a2
 refine ⟨tm2, b1, b2, b3, ?_⟩
 rw [x_seq, a4, k_normal]
 simp only [x_cond,ev,a3,Bool.false_eq_true,if_false]
 exact b4
theorem pass_case {w : List UInt8} {c : Nat} {G A X : ACode} (hG : Passes w G (fun tm => tm.getD c undefA = .im (.bool false))) (hX : Passes w X (fun _ => True)) :
  Passes w (.seq G (.cond (.t c) A X)) (fun _ => True) := fun tm H K hl h4 => by
 obtain ⟨tm1, a1, a2, a3, a4⟩ := hG tm H (seqK L Λ (.cond (.t c) A X) K) hl h4
 obtain ⟨tm2, b1, b2, b3, b4⟩ := hX tm1 H K a1 a2
 refine ⟨tm2, b1, b2, trivial, ?_⟩
 rw [x_seq, a4, k_normal]
 simp only [x_cond,ev,a3,Bool.false_eq_true,if_false]
 exact b4
def d33 : ACode := (.seq (.seq (.ops [⟨some 6,.bin .eql (.t 4) (.c (.im (.str [116,114,117,101]))),none⟩,⟨some 5,.move (.t 6),none⟩] []) (.cond (.t 5) .skip (.seq (.ops [⟨some 7,.bin .eql (.t 4) (.c (.im (.str [102,97,108,115,101]))),none⟩,⟨some 5,.move (.t 7),none⟩] []) (.cond (.t 5) .skip (.ops [⟨some 8,.bin .eql (.t 4) (.c (.im (.str [105,116]))),none⟩,⟨some 5,.move (.t 8),none⟩] []))))) (.cond (.t 5) (.seq (.ops [⟨some 2,.move (.c (.im (.str []))),none⟩,⟨some 3,.move (.c (.im (.bool true))),none⟩] []) .ret) (.seq (.seq (.ops [⟨some 10,.bin .eql (.t 4) (.c (.im (.str [110,101,103]))),none⟩,⟨some 9,.move (.t 10),none⟩] []) (.cond (.t 9) .skip (.seq (.ops [⟨some 11,.bin .eql (.t 4) (.c (.im (.str [110,111,116]))),none⟩,⟨some 9,.move (.t 11),none⟩] []) (.cond (.t 9) .skip (.seq (.ops [⟨some 12,.bin .eql (.t 4) (.c (.im (.str [102,105,114,115,116]))),none⟩,⟨some 9,.move (.t 12),none⟩] []) (.cond (.t 9) .skip (.seq (.ops [⟨some 13,.bin .eql (.t 4) (.c (.im (.str [115,101,99,111,110,100]))),none⟩,⟨some 9,.move (.t 13),none⟩] []) (.cond (.t 9) .skip (.seq (.ops [⟨some 14,.bin .eql (.t 4) (.c (.im (.str [108,101,110]))),none⟩,⟨some 9,.move (.t 14),none⟩] []) (.cond (.t 9) .skip (.seq (.ops [⟨some 15,.bin .eql (.t 4) (.c (.im (.str [115,111,114,116]))),none⟩,⟨some 9,.move (.t 15),none⟩] []) (.cond (.t 9) .skip (.seq (.ops [⟨some 16,.bin .eql (.t 4) (.c (.im (.str [115,111,109,101]))),none⟩,⟨some 9,.move (.t 16),none⟩] []) (.cond (.t 9) .skip (.seq (.ops [⟨some 17,.bin .eql (.t 4) (.c (.im (.str [105,115,95,115,111,109,101]))),none⟩,⟨some 9,.move (.t 17),none⟩] []) (.cond (.t 9) .skip (.seq (.ops [⟨some 18,.bin .eql (.t 4) (.c (.im (.str [115,105,122,101]))),none⟩,⟨some 9,.move (.t 18),none⟩] []) (.cond (.t 9) .skip (.seq (.ops [⟨some 19,.bin .eql (.t 4) (.c (.im (.str [98,121,116,101,115]))),none⟩,⟨some 9,.move (.t 19),none⟩] []) (.cond (.t 9) .skip (.seq (.ops [⟨some 20,.bin .eql (.t 4) (.c (.im (.str [116,101,120,116]))),none⟩,⟨some 9,.move (.t 20),none⟩] []) (.cond (.t 9) .skip (.seq (.ops [⟨some 21,.bin .eql (.t 4) (.c (.im (.str [115,104,111,119]))),none⟩,⟨some 9,.move (.t 21),none⟩] []) (.cond (.t 9) .skip (.seq (.ops [⟨some 22,.bin .eql (.t 4) (.c (.im (.str [114,101]))),none⟩,⟨some 9,.move (.t 22),none⟩] []) (.cond (.t 9) .skip (.seq (.ops [⟨some 23,.bin .eql (.t 4) (.c (.im (.str [105,109]))),none⟩,⟨some 9,.move (.t 23),none⟩] []) (.cond (.t 9) .skip (.seq (.ops [⟨some 24,.bin .eql (.t 4) (.c (.im (.str [99,111,110,106]))),none⟩,⟨some 9,.move (.t 24),none⟩] []) (.cond (.t 9) .skip (.ops [⟨some 25,.bin .eql (.t 4) (.c (.im (.str [114,97,110,103,101]))),none⟩,⟨some 9,.move (.t 25),none⟩] []))))))))))))))))))))))))))))))) (.cond (.t 9) (.seq (.ops [⟨some 2,.move (.c (.im (.str [101]))),none⟩,⟨some 3,.move (.c (.im (.bool true))),none⟩] []) .ret) (.seq (.seq (.ops [⟨some 27,.bin .eql (.t 4) (.c (.im (.str [97,100,100]))),none⟩,⟨some 26,.move (.t 27),none⟩] []) (.cond (.t 26) .skip (.seq (.ops [⟨some 28,.bin .eql (.t 4) (.c (.im (.str [115,117,98]))),none⟩,⟨some 26,.move (.t 28),none⟩] []) (.cond (.t 26) .skip (.seq (.ops [⟨some 29,.bin .eql (.t 4) (.c (.im (.str [109,117,108]))),none⟩,⟨some 26,.move (.t 29),none⟩] []) (.cond (.t 26) .skip (.seq (.ops [⟨some 30,.bin .eql (.t 4) (.c (.im (.str [100,105,118]))),none⟩,⟨some 26,.move (.t 30),none⟩] []) (.cond (.t 26) .skip (.seq (.ops [⟨some 31,.bin .eql (.t 4) (.c (.im (.str [109,111,100]))),none⟩,⟨some 26,.move (.t 31),none⟩] []) (.cond (.t 26) .skip (.seq (.ops [⟨some 32,.bin .eql (.t 4) (.c (.im (.str [101,113]))),none⟩,⟨some 26,.move (.t 32),none⟩] []) (.cond (.t 26) .skip (.seq (.ops [⟨some 33,.bin .eql (.t 4) (.c (.im (.str [108,116]))),none⟩,⟨some 26,.move (.t 33),none⟩] []) (.cond (.t 26) .skip (.seq (.ops [⟨some 34,.bin .eql (.t 4) (.c (.im (.str [97,110,100]))),none⟩,⟨some 26,.move (.t 34),none⟩] []) (.cond (.t 26) .skip (.seq (.ops [⟨some 35,.bin .eql (.t 4) (.c (.im (.str [111,114]))),none⟩,⟨some 26,.move (.t 35),none⟩] []) (.cond (.t 26) .skip (.seq (.ops [⟨some 36,.bin .eql (.t 4) (.c (.im (.str [112,97,105,114]))),none⟩,⟨some 26,.move (.t 36),none⟩] []) (.cond (.t 26) .skip (.seq (.ops [⟨some 37,.bin .eql (.t 4) (.c (.im (.str [99,111,110,115]))),none⟩,⟨some 26,.move (.t 37),none⟩] []) (.cond (.t 26) .skip (.seq (.ops [⟨some 38,.bin .eql (.t 4) (.c (.im (.str [99,111,110,99,97,116]))),none⟩,⟨some 26,.move (.t 38),none⟩] []) (.cond (.t 26) .skip (.seq (.ops [⟨some 39,.bin .eql (.t 4) (.c (.im (.str [97,116]))),none⟩,⟨some 26,.move (.t 39),none⟩] []) (.cond (.t 26) .skip (.seq (.ops [⟨some 40,.bin .eql (.t 4) (.c (.im (.str [111,114,95,101,108,115,101]))),none⟩,⟨some 26,.move (.t 40),none⟩] []) (.cond (.t 26) .skip (.seq (.ops [⟨some 41,.bin .eql (.t 4) (.c (.im (.str [106,111,105,110]))),none⟩,⟨some 26,.move (.t 41),none⟩] []) (.cond (.t 26) .skip (.ops [⟨some 42,.bin .eql (.t 4) (.c (.im (.str [112,111,105,110,116]))),none⟩,⟨some 26,.move (.t 42),none⟩] []))))))))))))))))))))))))))))))) (.cond (.t 26) (.seq (.ops [⟨some 2,.move (.c (.im (.str [101,101]))),none⟩,⟨some 3,.move (.c (.im (.bool true))),none⟩] []) .ret) (.seq (.seq (.ops [⟨some 44,.bin .eql (.t 4) (.c (.im (.str [105,102]))),none⟩,⟨some 43,.move (.t 44),none⟩] []) (.cond (.t 43) .skip (.ops [⟨some 45,.bin .eql (.t 4) (.c (.im (.str [99,117,116]))),none⟩,⟨some 43,.move (.t 45),none⟩] []))) (.cond (.t 43) (.seq (.ops [⟨some 2,.move (.c (.im (.str [101,101,101]))),none⟩,⟨some 3,.move (.c (.im (.bool true))),none⟩] []) .ret) (.seq (.ops [⟨some 47,.bin .eql (.t 4) (.c (.im (.str [108,105,115,116]))),none⟩,⟨some 46,.move (.t 47),none⟩] []) (.cond (.t 46) (.seq (.ops [⟨some 2,.move (.c (.im (.str [43]))),none⟩,⟨some 3,.move (.c (.im (.bool true))),none⟩] []) .ret) (.seq (.ops [⟨some 49,.bin .eql (.t 4) (.c (.im (.str [115,105,100,101]))),none⟩,⟨some 48,.move (.t 49),none⟩] []) (.cond (.t 48) (.seq (.ops [⟨some 2,.move (.c (.im (.str [100]))),none⟩,⟨some 3,.move (.c (.im (.bool true))),none⟩] []) .ret) (.seq (.seq (.ops [⟨some 51,.bin .eql (.t 4) (.c (.im (.str [110,105,108]))),none⟩,⟨some 50,.move (.t 51),none⟩] []) (.cond (.t 50) .skip (.ops [⟨some 52,.bin .eql (.t 4) (.c (.im (.str [110,111,110,101]))),none⟩,⟨some 50,.move (.t 52),none⟩] []))) (.cond (.t 50) (.seq (.ops [⟨some 2,.move (.c (.im (.str [116]))),none⟩,⟨some 3,.move (.c (.im (.bool true))),none⟩] []) .ret) (.seq (.ops [⟨some 54,.bin .eql (.t 4) (.c (.im (.str [108,101,116]))),none⟩,⟨some 53,.move (.t 54),none⟩] []) (.cond (.t 53) (.seq (.ops [⟨some 2,.move (.c (.im (.str [110,101,101]))),none⟩,⟨some 3,.move (.c (.im (.bool true))),none⟩] []) .ret) (.seq (.seq (.ops [⟨some 56,.bin .eql (.t 4) (.c (.im (.str [109,97,112]))),none⟩,⟨some 55,.move (.t 56),none⟩] []) (.cond (.t 55) .skip (.ops [⟨some 57,.bin .eql (.t 4) (.c (.im (.str [102,105,108,116,101,114]))),none⟩,⟨some 55,.move (.t 57),none⟩] []))) (.cond (.t 55) (.seq (.ops [⟨some 2,.move (.c (.im (.str [101,110,101]))),none⟩,⟨some 3,.move (.c (.im (.bool true))),none⟩] []) .ret) (.seq (.ops [⟨some 59,.bin .eql (.t 4) (.c (.im (.str [102,111,108,100]))),none⟩,⟨some 58,.move (.t 59),none⟩] []) (.cond (.t 58) (.seq (.ops [⟨some 2,.move (.c (.im (.str [101,101,110,110,101]))),none⟩,⟨some 3,.move (.c (.im (.bool true))),none⟩] []) .ret) .skip))))))))))))))))))))
theorem pass33 {w : List UInt8} (h : NoW w) : Passes w d33 (fun _ => True) := by
 obtain ⟨n0, n1, n2, n3, n4, n5, n6, n7, n8, n9, n10, n11, n12, n13, n14, n15, n16, n17, n18, n19, n20, n21, n22, n23, n24, n25, n26, n27, n28, n29, n30, n31, n32, n33, n34, n35, n36, n37, n38, n39, n40, n41, n42, n43, n44⟩ := h
 unfold d33
 repeat' first
  | exact pass_skip
  | exact pass_eq (by decide) (by assumption)
  | refine pass_grp (by decide) (by assumption) ?_
  | refine pass_case ?_ ?_
theorem s33_none {w : List UInt8} (h : shapeT w = none) (H : Heap) : L 33 [.im (.str w)] H = some (.tup [.im (.str []), .im (.bool false)], H) := by
 have hp := pass33 (now_of h)
 have hlv : leave H false (.tup [.im (.str []), .im (.bool false)]) H = (.tup [.im (.str []), .im (.bool false)], H) := by
  have := leave_deg (H := H) (M := []) (r := .tup [.im (.str []), .im (.bool false)]) rfl rfl
  rwa [List.append_nil] at this
 have hf : f33 = ⟨60, [(2, none), (3, none)], (.seq (.ops [⟨(some 2), (.move (.c (.im (.str [])))), none⟩, ⟨(some 3), (.move (.c (.im (.bool false)))), none⟩] []) (.seq (.seq (.ops [⟨(some 4), (.move (.t 0)), none⟩] []) (.block 0 d33)) (.seq (.ops [⟨(some 2), (.move (.c (.im (.str [])))), none⟩, ⟨(some 3), (.move (.c (.im (.bool false)))), none⟩] []) .ret))), false⟩ := rfl
 rw [leq F33]
 obtain ⟨hlen, ha⟩ := enter_at (f := f33) (args := [.im (.str w)]) (Nat.le_of_ble_eq_true rfl)
 have h0 := ha 0 _ rfl
 generalize enterA f33 [.im (.str w)] = tm at *
 change tm.length = 60 at hlen
 rw [hf]
 have hp' := fun H K => hp (((tm.set 2 (.im (.str []))).set 3 (.im (.bool false))).set 4 (.im (.str w))) H K (by simp only [List.length_set,hlen]) (by simp only [B3,Nat.reduceLT,Nat.reduceEqDiff,hlen])
 simp only [B0,B1,B2,List.replicate,Nat.reduceAdd,Nat.reduceSub,Nat.reduceLeDiff,Nat.reduceLT,Nat.reduceEqDiff,reduceCtorEq,Int.reduceEq,Int.reduceLT,Int.reduceLE,lenA,hlen,h0]
 obtain ⟨tm1, a1, a2, _, a4⟩ := hp' H _
 rw [a4]
 simp only [B0,B1,B2,List.replicate,Nat.reduceAdd,Nat.reduceSub,Nat.reduceLeDiff,Nat.reduceLT,Nat.reduceEqDiff,reduceCtorEq,Int.reduceEq,Int.reduceLT,Int.reduceLE,lenA,endK,resA,tupA,a1,hlv]
def hitN (s w : List UInt8) : Nat → Nat → Nat → Bool
 | 0, _, _ => false
 | f + 1, fr, k => if k = s.length ∨ s[k]? = some 32 then (decide (w = (s.drop fr).take (k - fr)) || hitN s w f (k + 1) (k + 1)) else hitN s w f fr (k + 1)
def ls0 : List UInt8 := [116, 114, 117, 101, 32, 102, 97, 108, 115, 101, 32, 105, 116]
abbrev ls1 : List UInt8 := k40_0
abbrev ls2 : List UInt8 := k40_1
def ls3 : List UInt8 := [105, 102, 32, 99, 117, 116]
def ls4 : List UInt8 := [108, 105, 115, 116]
def ls5 : List UInt8 := [115, 105, 100, 101]
def ls6 : List UInt8 := [110, 105, 108, 32, 110, 111, 110, 101]
def ls7 : List UInt8 := [108, 101, 116]
def ls8 : List UInt8 := [109, 97, 112, 32, 102, 105, 108, 116, 101, 114]
def ls9 : List UInt8 := [102, 111, 108, 100]
def listsR : List (List UInt8) := [ls0, ls1, ls2, ls3, ls4, ls5, ls6, ls7, ls8, ls9]
def groupsR : List (List UInt8) := [[], [101], [101, 101], [101, 101, 101], [108], [100], [116], [110, 101, 101], [101, 110, 101], [101, 101, 110, 110, 101]]
def partsN (w : List UInt8) : List (List UInt8) → List (List UInt8) → Option (List UInt8)
 | s :: ls, g :: gs => if hitN s w (s.length + 1) 0 0 = true then some g else partsN w ls gs
 | _, _ => none
set_option maxRecDepth 100000 in
theorem hit0 (w : List UInt8) : hitN ls0 w (ls0.length + 1) 0 0 = (decide (w = [116, 114, 117, 101]) || (decide (w = [102, 97, 108, 115, 101]) || (decide (w = [105, 116]) || false))) := by kernel_rfl
set_option maxRecDepth 100000 in
theorem hit1 (w : List UInt8) : hitN ls1 w (ls1.length + 1) 0 0 = (decide (w = [110, 101, 103]) || (decide (w = [110, 111, 116]) || (decide (w = [102, 105, 114, 115, 116]) || (decide (w = [115, 101, 99, 111, 110, 100]) || (decide (w = [108, 101, 110]) || (decide (w = [115, 111, 114, 116]) || (decide (w = [115, 111, 109, 101]) || (decide (w = [105, 115, 95, 115, 111, 109, 101]) || (decide (w = [115, 105, 122, 101]) || (decide (w = [98, 121, 116, 101, 115]) || (decide (w = [116, 101, 120, 116]) || (decide (w = [115, 104, 111, 119]) || (decide (w = [114, 101]) || (decide (w = [105, 109]) || (decide (w = [99, 111, 110, 106]) || (decide (w = [114, 97, 110, 103, 101]) || false)))))))))))))))) := by kernel_rfl
set_option maxRecDepth 100000 in
theorem hit2 (w : List UInt8) : hitN ls2 w (ls2.length + 1) 0 0 = (decide (w = [97, 100, 100]) || (decide (w = [115, 117, 98]) || (decide (w = [109, 117, 108]) || (decide (w = [100, 105, 118]) || (decide (w = [109, 111, 100]) || (decide (w = [101, 113]) || (decide (w = [108, 116]) || (decide (w = [97, 110, 100]) || (decide (w = [111, 114]) || (decide (w = [112, 97, 105, 114]) || (decide (w = [99, 111, 110, 115]) || (decide (w = [99, 111, 110, 99, 97, 116]) || (decide (w = [97, 116]) || (decide (w = [111, 114, 95, 101, 108, 115, 101]) || (decide (w = [106, 111, 105, 110]) || (decide (w = [112, 111, 105, 110, 116]) || false)))))))))))))))) := by kernel_rfl
set_option maxRecDepth 100000 in
theorem hit3 (w : List UInt8) : hitN ls3 w (ls3.length + 1) 0 0 = (decide (w = [105, 102]) || (decide (w = [99, 117, 116]) || false)) := by kernel_rfl
set_option maxRecDepth 100000 in
theorem hit4 (w : List UInt8) : hitN ls4 w (ls4.length + 1) 0 0 = (decide (w = [108, 105, 115, 116]) || false) := by kernel_rfl
set_option maxRecDepth 100000 in
theorem hit5 (w : List UInt8) : hitN ls5 w (ls5.length + 1) 0 0 = (decide (w = [115, 105, 100, 101]) || false) := by kernel_rfl
set_option maxRecDepth 100000 in
theorem hit6 (w : List UInt8) : hitN ls6 w (ls6.length + 1) 0 0 = (decide (w = [110, 105, 108]) || (decide (w = [110, 111, 110, 101]) || false)) := by kernel_rfl
set_option maxRecDepth 100000 in
theorem hit7 (w : List UInt8) : hitN ls7 w (ls7.length + 1) 0 0 = (decide (w = [108, 101, 116]) || false) := by kernel_rfl
set_option maxRecDepth 100000 in
theorem hit8 (w : List UInt8) : hitN ls8 w (ls8.length + 1) 0 0 = (decide (w = [109, 97, 112]) || (decide (w = [102, 105, 108, 116, 101, 114]) || false)) := by kernel_rfl
set_option maxRecDepth 100000 in
theorem hit9 (w : List UInt8) : hitN ls9 w (ls9.length + 1) 0 0 = (decide (w = [102, 111, 108, 100]) || false) := by kernel_rfl
theorem parts_none {w : List UInt8} (h : shapeT w = none) : partsN w listsR groupsR = none := by
 obtain ⟨n0, n1, n2, n3, n4, n5, n6, n7, n8, n9, n10, n11, n12, n13, n14, n15, n16, n17, n18, n19, n20, n21, n22, n23, n24, n25, n26, n27, n28, n29, n30, n31, n32, n33, n34, n35, n36, n37, n38, n39, n40, n41, n42, n43, n44⟩ := now_of h
 have k0 : hitN ls0 w (ls0.length + 1) 0 0 = false := by rw [hit0]; simp only [n0,n1,n2,Bool.or_self]
 have k1 : hitN ls1 w (ls1.length + 1) 0 0 = false := by rw [hit1]; simp only [n3,n4,n5,n6,n7,n8,n9,n10,n11,n12,n13,n14,n15,n16,n17,n18,Bool.or_self]
 have k2 : hitN ls2 w (ls2.length + 1) 0 0 = false := by rw [hit2]; simp only [n19,n20,n21,n22,n23,n24,n25,n26,n27,n28,n29,n30,n31,n32,n33,n34,Bool.or_self]
 have k3 : hitN ls3 w (ls3.length + 1) 0 0 = false := by rw [hit3]; simp only [n35,n36,Bool.or_self]
 have k4 : hitN ls4 w (ls4.length + 1) 0 0 = false := by rw [hit4]; simp only [n37,Bool.or_self]
 have k5 : hitN ls5 w (ls5.length + 1) 0 0 = false := by rw [hit5]; simp only [n38,Bool.or_self]
 have k6 : hitN ls6 w (ls6.length + 1) 0 0 = false := by rw [hit6]; simp only [n39,n40,Bool.or_self]
 have k7 : hitN ls7 w (ls7.length + 1) 0 0 = false := by rw [hit7]; simp only [n41,Bool.or_self]
 have k8 : hitN ls8 w (ls8.length + 1) 0 0 = false := by rw [hit8]; simp only [n42,n43,Bool.or_self]
 have k9 : hitN ls9 w (ls9.length + 1) 0 0 = false := by rw [hit9]; simp only [n44,Bool.or_self]
 simp only [listsR,groupsR,partsN,k0,k1,k2,k3,k4,k5,k6,k7,k8,k9,Bool.false_eq_true,if_false]
set_option maxRecDepth 100000 in
theorem parts_all : ∀ e ∈ shapes, partsN e.1 listsR groupsR = some (partR e.2) := by
 intro e he
 simp only [shapes,List.mem_cons,List.not_mem_nil,or_false] at he
 rcases he with rfl | rfl | rfl | rfl | rfl | rfl | rfl | rfl | rfl | rfl | rfl | rfl | rfl | rfl | rfl | rfl | rfl | rfl | rfl | rfl | rfl | rfl | rfl | rfl | rfl | rfl | rfl | rfl | rfl | rfl | rfl | rfl | rfl | rfl | rfl | rfl | rfl | rfl | rfl | rfl | rfl | rfl | rfl | rfl | rfl <;> kernel_rfl
theorem parts_some {w p : List UInt8} (h : shapeT w = some p) : partsN w listsR groupsR = some (partR p) := parts_all (w, p) (lookup_mem h)
end Go.Abs.Seat
end
section
set_option linter.unusedVariables false
set_option linter.unusedSimpArgs false
namespace Go.Abs.Seat
open Go.Proofs
theorem zc0 : ((0 : Nat) : Int) = 0 := _root_.id rfl
theorem eq_comm_d (a b : List UInt8) : decide (a = b) = decide (b = a) := by
 by_cases h : a = b
 ·subst h; rfl
 ·rw [decide_eq_false h, decide_eq_false (fun e => h e.symm)]
set_option maxHeartbeats 1000000 in
theorem q40a (w s g : List UInt8) (i : Nat) (ls gs : List (List UInt8)) (hi : i < 10) (hls : ls.length = 10) (hgs : gs.length = 10) (his : ls[i]? = some s) (hig : gs[i]? = some g) (hsl : s.length ≤ 1000) :
  ∀ (f fr k : Nat) (v : Bool) (tm : List AV) (H : Heap), hitN s w f fr k = v → s.length + 1 ≤ k + f → k ≤ s.length + 1 → fr ≤ k → tm.length = 57 → tm.getD 0 undefA = .im (.str w) → tm.getD 4 undefA = .im (.sl 1 (gs.map fun x => [.str x])) → tm.getD 5 undefA = .im (.sl 1 (ls.map fun x => [.str x])) → tm.getD 6 undefA = .im (.int .i64 (i : Int)) → tm.getD 7 undefA = .im (.int .i64 (fr : Int)) → tm.getD 8 undefA = .im (.int .i64 (k : Int)) →
  ∃ e tm' H', Λ c40_0 tm H = some (e, tm', H') ∧ (tm'.length = 57 ∧ H' = H ∧ ((v = true ∧ e = .ret ∧ tm'.getD 2 undefA = .im (.str g) ∧ tm'.getD 3 undefA = .im (.bool true)) ∨
   (v = false ∧ e = .exit 2 ∧ tm'.getD 0 undefA = .im (.str w) ∧ tm'.getD 4 undefA = .im (.sl 1 (gs.map fun x => [.str x])) ∧ tm'.getD 5 undefA = .im (.sl 1 (ls.map fun x => [.str x])) ∧ tm'.getD 6 undefA = .im (.int .i64 (i : Int)))))
 | 0, fr, k, v, tm, H, hv, hf, hk, hfr, hlen, h0, h4, h5, h6, h7, h8 => by
  have hix := idx_nat (n := 10) (i := i) hi
  have e1 : (ls.map fun x => [Dat.str x])[i]? = some [.str s] := by rw [List.getElem?_map, his]; rfl
  have hc : decide ((k : Int) ≤ (s.length : Int)) = false := decide_eq_false (by omega)
  rw [l40_0]
  simp only [b40_0,B0,B1,B2,List.replicate,Nat.reduceAdd,Nat.reduceSub,Nat.reduceLeDiff,Nat.reduceLT,Nat.reduceEqDiff,reduceCtorEq,Int.reduceEq,Int.reduceLT,Int.reduceLE,lenA,hlen,h5,h6,h8,hix,List.length_map,hls,e1,hc]
  exact ⟨_, _, _, rfl, by simp only [List.length_set,hlen], rfl, .inr ⟨hv.symm, rfl, by simp only [B3,Nat.reduceLT,Nat.reduceEqDiff,hlen,h0], by simp only [B3,Nat.reduceLT,Nat.reduceEqDiff,hlen,h4], by simp only [B3,Nat.reduceLT,Nat.reduceEqDiff,hlen,h5], by simp only [B3,Nat.reduceLT,Nat.reduceEqDiff,hlen,h6]⟩⟩
 | f + 1, fr, k, v, tm, H, hv, hf, hk, hfr, hlen, h0, h4, h5, h6, h7, h8 => by
  have hix := idx_nat (n := 10) (i := i) hi
  have e1 : (ls.map fun x => [Dat.str x])[i]? = some [.str s] := by rw [List.getElem?_map, his]; rfl
  have e2 : (gs.map fun x => [Dat.str x])[i]? = some [.str g] := by rw [List.getElem?_map, hig]; rfl
  by_cases hks : k ≤ s.length
  ·have hc : decide ((k : Int) ≤ (s.length : Int)) = true := decide_eq_true (by omega)
   have p1 : (0 : Int) ≤ (fr : Int) := Int.natCast_nonneg fr
   have p2 : (0 : Int) ≤ (k : Int) := Int.natCast_nonneg k
   have hwr := wrap_nat (i := k) (by omega)
   have hcond : fr ≤ k ∧ k ≤ s.length := ⟨hfr, hks⟩
   have hcm := eq_comm_d ((s.drop fr).take (k - fr)) w
   have go : ∀ (P : Bool), (k = s.length ∨ s[k]? = some 32) = (P = true) → hitN s w (f + 1) fr k = if P = true then (decide (w = (s.drop fr).take (k - fr)) || hitN s w f (k + 1) (k + 1)) else hitN s w f fr (k + 1) := by
    intro P hP
    rw [hitN]
    simp only [hP]
   by_cases hkl : k = s.length
   ·have d1 : decide ((k : Int) = (s.length : Int)) = true := decide_eq_true (by omega)
    rw [go true (by simp [hkl]), if_pos rfl] at hv
    by_cases hw : w = (s.drop fr).take (k - fr)
    ·have d2 : decide (w = (s.drop fr).take (k - fr)) = true := decide_eq_true hw
     rw [d2] at hcm
     rw [d2, Bool.true_or] at hv
     rw [l40_0]
     simp only [b40_0,B0,B1,B2,List.replicate,Nat.reduceAdd,Nat.reduceSub,Nat.reduceLeDiff,Nat.reduceLT,Nat.reduceEqDiff,reduceCtorEq,Int.reduceEq,Int.reduceLT,Int.reduceLE,lenA,boundA,intOfA,Int.toNat_natCast,hlen,h0,h4,h5,h6,h7,h8,hix,List.length_map,hls,hgs,e1,e2,hc,d1,p1,p2,hcond,hcm]
     exact ⟨_, _, _, rfl, by simp only [List.length_set,hlen], rfl, .inl ⟨hv.symm, rfl, by simp only [B3,Nat.reduceLT,Nat.reduceEqDiff,hlen], by simp only [B3,Nat.reduceLT,Nat.reduceEqDiff,hlen]⟩⟩
    ·have d2 : decide (w = (s.drop fr).take (k - fr)) = false := decide_eq_false hw
     rw [d2] at hcm
     rw [d2, Bool.false_or] at hv
     have key := fun tm1 => q40a w s g i ls gs hi hls hgs his hig hsl f (k + 1) (k + 1) v tm1 H hv (by omega) (by omega) (Nat.le_refl _)
     rw [l40_0]
     simp only [b40_0,B0,B1,B2,List.replicate,Nat.reduceAdd,Nat.reduceSub,Nat.reduceLeDiff,Nat.reduceLT,Nat.reduceEqDiff,reduceCtorEq,Int.reduceEq,Int.reduceLT,Int.reduceLE,lenA,boundA,intOfA,Int.toNat_natCast,hlen,h0,h4,h5,h6,h7,h8,hix,List.length_map,hls,hgs,e1,e2,hc,d1,p1,p2,hcond,hcm,hwr]
     refine ex_imp (key _ ?_ ?_ ?_ ?_ ?_ ?_ ?_) fun _ _ _ h => h
     all_goals simp only [B3,Nat.reduceLT,Nat.reduceEqDiff,hlen,h0,h4,h5,h6]
   ·have d1 : decide ((k : Int) = (s.length : Int)) = false := decide_eq_false (by omega)
    have hlt : k < s.length := by omega
    have hsk : s[k]? = some s[k] := List.getElem?_eq_getElem hlt
    generalize hax : s[k] = a at hsk
    by_cases ha : a = 32
    ·have d3 : decide (((a.toNat : Nat) : Int) = 32) = true := by rw [b32]; exact decide_eq_true ha
     rw [go true (by simp [hsk, ha]), if_pos rfl] at hv
     by_cases hw : w = (s.drop fr).take (k - fr)
     ·have d2 : decide (w = (s.drop fr).take (k - fr)) = true := decide_eq_true hw
      rw [d2] at hcm
      rw [d2, Bool.true_or] at hv
      rw [l40_0]
      simp only [b40_0,B0,B1,B2,List.replicate,Nat.reduceAdd,Nat.reduceSub,Nat.reduceLeDiff,Nat.reduceLT,Nat.reduceEqDiff,reduceCtorEq,Int.reduceEq,Int.reduceLT,Int.reduceLE,lenA,boundA,intOfA,byteDat,Int.toNat_natCast,hlen,h0,h4,h5,h6,h7,h8,hix,List.length_map,hls,hgs,e1,e2,hc,d1,d3,hsk,p1,p2,hcond,hcm]
      exact ⟨_, _, _, rfl, by simp only [List.length_set,hlen], rfl, .inl ⟨hv.symm, rfl, by simp only [B3,Nat.reduceLT,Nat.reduceEqDiff,hlen], by simp only [B3,Nat.reduceLT,Nat.reduceEqDiff,hlen]⟩⟩
     ·have d2 : decide (w = (s.drop fr).take (k - fr)) = false := decide_eq_false hw
      rw [d2] at hcm
      rw [d2, Bool.false_or] at hv
      have key := fun tm1 => q40a w s g i ls gs hi hls hgs his hig hsl f (k + 1) (k + 1) v tm1 H hv (by omega) (by omega) (Nat.le_refl _)
      rw [l40_0]
      simp only [b40_0,B0,B1,B2,List.replicate,Nat.reduceAdd,Nat.reduceSub,Nat.reduceLeDiff,Nat.reduceLT,Nat.reduceEqDiff,reduceCtorEq,Int.reduceEq,Int.reduceLT,Int.reduceLE,lenA,boundA,intOfA,byteDat,Int.toNat_natCast,hlen,h0,h4,h5,h6,h7,h8,hix,List.length_map,hls,hgs,e1,e2,hc,d1,d3,hsk,p1,p2,hcond,hcm,hwr]
      refine ex_imp (key _ ?_ ?_ ?_ ?_ ?_ ?_ ?_) fun _ _ _ h => h
      all_goals simp only [B3,Nat.reduceLT,Nat.reduceEqDiff,hlen,h0,h4,h5,h6]
    ·have d3 : decide (((a.toNat : Nat) : Int) = 32) = false := by rw [b32]; exact decide_eq_false ha
     rw [go false (by simp [hsk, ha, hkl]), if_neg (by simp)] at hv
     have key := fun tm1 => q40a w s g i ls gs hi hls hgs his hig hsl f fr (k + 1) v tm1 H hv (by omega) (by omega) (by omega)
     rw [l40_0]
     simp only [b40_0,B0,B1,B2,List.replicate,Nat.reduceAdd,Nat.reduceSub,Nat.reduceLeDiff,Nat.reduceLT,Nat.reduceEqDiff,reduceCtorEq,Int.reduceEq,Int.reduceLT,Int.reduceLE,lenA,boundA,intOfA,byteDat,Int.toNat_natCast,hlen,h0,h4,h5,h6,h7,h8,hix,List.length_map,hls,hgs,e1,e2,hc,d1,d3,hsk,p1,p2,hwr]
     refine ex_imp (key _ ?_ ?_ ?_ ?_ ?_ ?_ ?_) fun _ _ _ h => h
     all_goals simp only [B3,Nat.reduceLT,Nat.reduceEqDiff,hlen,h0,h4,h5,h6,h7]
  ·have hk1 : k = s.length + 1 := by omega
   have hz : hitN s w (f + 1) fr k = false := by
    have : ∀ f fr k, s.length < k → hitN s w f fr k = false := by
     intro f
     induction f with
     | zero => intro _ _ _; rfl
     | succ f ih =>
      intro fr k hk
      rw [hitN, if_neg (by rw [List.getElem?_eq_none (by omega)]; simp; omega)]
      exact ih _ _ (by omega)
    exact this _ _ _ (by omega)
   rw [hz] at hv
   have hc : decide ((k : Int) ≤ (s.length : Int)) = false := decide_eq_false (by omega)
   rw [l40_0]
   simp only [b40_0,B0,B1,B2,List.replicate,Nat.reduceAdd,Nat.reduceSub,Nat.reduceLeDiff,Nat.reduceLT,Nat.reduceEqDiff,reduceCtorEq,Int.reduceEq,Int.reduceLT,Int.reduceLE,lenA,hlen,h5,h6,h8,hix,List.length_map,hls,e1,hc]
   exact ⟨_, _, _, rfl, by simp only [List.length_set,hlen], rfl, .inr ⟨hv.symm, rfl, by simp only [B3,Nat.reduceLT,Nat.reduceEqDiff,hlen,h0], by simp only [B3,Nat.reduceLT,Nat.reduceEqDiff,hlen,h4], by simp only [B3,Nat.reduceLT,Nat.reduceEqDiff,hlen,h5], by simp only [B3,Nat.reduceLT,Nat.reduceEqDiff,hlen,h6]⟩⟩
theorem q40b (w : List UInt8) (ls gs : List (List UInt8)) (hls : ls.length = 10) (hgs : gs.length = 10) (hlen10 : ∀ s ∈ ls, s.length ≤ 1000) :
  ∀ (m i : Nat) (tm : List AV) (H : Heap), i + m = 10 → tm.length = 57 → tm.getD 0 undefA = .im (.str w) → tm.getD 4 undefA = .im (.sl 1 (gs.map fun x => [.str x])) → tm.getD 5 undefA = .im (.sl 1 (ls.map fun x => [.str x])) → tm.getD 6 undefA = .im (.int .i64 (i : Int)) →
  ∃ e tm' H', Λ c40_1 tm H = some (e, tm', H') ∧ (tm'.length = 57 ∧ H' = H ∧ ((∃ g, partsN w (ls.drop i) (gs.drop i) = some g ∧ e = .ret ∧ tm'.getD 2 undefA = .im (.str g) ∧ tm'.getD 3 undefA = .im (.bool true)) ∨
   (partsN w (ls.drop i) (gs.drop i) = none ∧ e = .exit 0)))
 | 0, i, tm, H, hi, hlen, h0, h4, h5, h6 => by
  have hc : decide ((i : Int) < ((10 : Nat) : Int)) = false := decide_eq_false (by omega)
  rw [l40_1]
  simp only [b40_1,B0,B1,B2,List.replicate,Nat.reduceAdd,Nat.reduceSub,Nat.reduceLeDiff,Nat.reduceLT,Nat.reduceEqDiff,reduceCtorEq,Int.reduceEq,Int.reduceLT,Int.reduceLE,lenA,hlen,h5,h6,List.length_map,hls,hc]
  exact ⟨_, _, _, rfl, by simp only [List.length_set,hlen], rfl, .inr ⟨by rw [List.drop_of_length_le (by omega)]; rfl, rfl⟩⟩
 | m + 1, i, tm, H, hi, hlen, h0, h4, h5, h6 => by
  have hc : decide ((i : Int) < ((10 : Nat) : Int)) = true := decide_eq_true (by omega)
  have hlt : i < ls.length := by omega
  have hlt2 : i < gs.length := by omega
  obtain ⟨s, his, hds⟩ : ∃ s, ls[i]? = some s ∧ ls.drop i = s :: ls.drop (i + 1) := ⟨ls[i], List.getElem?_eq_getElem hlt, List.drop_eq_getElem_cons hlt⟩
  obtain ⟨g, hig, hdg⟩ : ∃ g, gs[i]? = some g ∧ gs.drop i = g :: gs.drop (i + 1) := ⟨gs[i], List.getElem?_eq_getElem hlt2, List.drop_eq_getElem_cons hlt2⟩
  have hwr := wrap_nat (i := i) (by omega)
  have hsl := hlen10 s (List.mem_of_getElem? his)
  have ka := fun tm1 => q40a w s g i ls gs (by omega) hls hgs his hig hsl (s.length + 1) 0 0 _ tm1 H rfl (by omega) (by omega) (Nat.le_refl _)
  simp only [zc0] at ka
  have kb := fun tm1 => q40b w ls gs hls hgs hlen10 m (i + 1) tm1 H (by omega)
  rw [hds, hdg]
  rw [l40_1]
  simp only [b40_1,e40_0,B0,B1,B2,List.replicate,Nat.reduceAdd,Nat.reduceSub,Nat.reduceLeDiff,Nat.reduceLT,Nat.reduceEqDiff,reduceCtorEq,Int.reduceEq,Int.reduceLT,Int.reduceLE,lenA,hlen,h0,h4,h5,h6,List.length_map,hls,hc]
  generalize hr : thenL (Λ c40_0 _ _) _ = r
  refine Exists.elim (thenL_inv hr (ka _ ?_ ?_ ?_ ?_ ?_ ?_ ?_)) ?_
  iterate 7 simp only [B3,Nat.reduceLT,Nat.reduceEqDiff,hlen,h0,h4,h5,h6]
  clear hr
  rintro e ⟨tm1, H1, ⟨g1, rfl, ⟨hh, rfl, g2, g3⟩ | ⟨hh, rfl, g2, g3, g4, g5⟩⟩, rfl⟩
  ·simp only [B0,B1,B2,List.replicate,Nat.reduceAdd,Nat.reduceSub,Nat.reduceLeDiff,Nat.reduceLT,Nat.reduceEqDiff,reduceCtorEq,Int.reduceEq,Int.reduceLT,Int.reduceLE,lenA]
   exact ⟨_, _, _, rfl, g1, rfl, .inl ⟨g, by simp only [partsN,hh,if_true], rfl, g2, g3⟩⟩
  ·have hp : partsN w (s :: ls.drop (i + 1)) (g :: gs.drop (i + 1)) = partsN w (ls.drop (i + 1)) (gs.drop (i + 1)) := by simp only [partsN,hh,Bool.false_eq_true,if_false]
   rw [hp]
   simp only [B0,B1,B2,List.replicate,Nat.reduceAdd,Nat.reduceSub,Nat.reduceLeDiff,Nat.reduceLT,Nat.reduceEqDiff,reduceCtorEq,Int.reduceEq,Int.reduceLT,Int.reduceLE,lenA,g1,g5,hwr]
   refine ex_imp (kb _ ?_ ?_ ?_ ?_ ?_) fun _ _ _ h => h
   all_goals simp only [B3,Nat.reduceLT,Nat.reduceEqDiff,g1,g2,g3,g4]
theorem s40 (w : List UInt8) (H : Heap) : L 40 [.im (.str w)] H = some (.tup [.im (.str (match shapeT w with | some p => partR p | none => [])), .im (.bool (shapeT w).isSome)], H) := by
 have kb := fun tm1 => q40b w listsR groupsR rfl rfl (by decide) 10 0 tm1 H rfl
 simp only [zc0,List.drop_zero] at kb
 have d1 : toDatss [[.im (.str [])], [.im (.str [101])], [.im (.str [101, 101])], [.im (.str [101, 101, 101])], [.im (.str [108])], [.im (.str [100])], [.im (.str [116])], [.im (.str [110, 101, 101])], [.im (.str [101, 110, 101])], [.im (.str [101, 101, 110, 110, 101])]] = some (groupsR.map fun x => [.str x]) := _root_.id rfl
 have hlv : ∀ p k, leave H false (.tup [.im (.str p), .im (.bool k)]) H = (.tup [.im (.str p), .im (.bool k)], H) := fun p k => by
  have := leave_deg (H := H) (M := []) (r := .tup [.im (.str p), .im (.bool k)]) rfl rfl
  rwa [List.append_nil] at this
 have d2 : toDatss [[.im (.str [116, 114, 117, 101, 32, 102, 97, 108, 115, 101, 32, 105, 116])], [.im (.str k40_0)], [.im (.str k40_1)], [.im (.str [105, 102, 32, 99, 117, 116])], [.im (.str [108, 105, 115, 116])], [.im (.str [115, 105, 100, 101])], [.im (.str [110, 105, 108, 32, 110, 111, 110, 101])], [.im (.str [108, 101, 116])], [.im (.str [109, 97, 112, 32, 102, 105, 108, 116, 101, 114])], [.im (.str [102, 111, 108, 100])]] = some (listsR.map fun x => [.str x]) := _root_.id rfl
 rw [leq F40]
 obtain ⟨hlen, ha⟩ := enter_at (f := f40) (args := [.im (.str w)]) (Nat.le_of_ble_eq_true rfl)
 have h0 := ha 0 _ rfl
 generalize enterA f40 [.im (.str w)] = tm at *
 change tm.length = 57 at hlen
 simp only [f40,e40_1,B0,B1,B2,List.replicate,Nat.reduceAdd,Nat.reduceSub,Nat.reduceLeDiff,Nat.reduceLT,Nat.reduceEqDiff,reduceCtorEq,Int.reduceEq,Int.reduceLT,Int.reduceLE,lenA,hlen,h0,d1,d2]
 generalize hr : thenL (Λ c40_1 _ _) _ = r
 refine Exists.elim (thenL_inv hr (kb _ ?_ ?_ ?_ ?_ ?_)) ?_
 iterate 5 simp only [B3,Nat.reduceLT,Nat.reduceEqDiff,hlen,h0]
 clear hr kb
 rintro e ⟨tm1, H1, ⟨g1, rfl, ⟨g, hp, rfl, g2, g3⟩ | ⟨hp, rfl⟩⟩, rfl⟩
 ·cases hs : shapeT w with
  | none => rw [parts_none hs] at hp; simp at hp
  | some p =>
   rw [parts_some hs] at hp
   injection hp with hp
   subst hp
   simp only [B0,B1,B2,List.replicate,Nat.reduceAdd,Nat.reduceSub,Nat.reduceLeDiff,Nat.reduceLT,Nat.reduceEqDiff,reduceCtorEq,Int.reduceEq,Int.reduceLT,Int.reduceLE,lenA,endK,resA,tupA,g1,g2,g3,hlv,Option.isSome_some]
 ·cases hs : shapeT w with
  | none => simp only [B0,B1,B2,List.replicate,Nat.reduceAdd,Nat.reduceSub,Nat.reduceLeDiff,Nat.reduceLT,Nat.reduceEqDiff,reduceCtorEq,Int.reduceEq,Int.reduceLT,Int.reduceLE,lenA,endK,resA,tupA,g1,hlv,Option.isSome_none]
  | some p => rw [parts_some hs] at hp; simp at hp
end Go.Abs.Seat
end
section
set_option linter.unusedVariables false
set_option linter.unusedSimpArgs false
namespace Go.Abs.Seat
open Go.Proofs
structure Nm (s : List UInt8) : Prop where
 ne : s ≠ []
 len : s.length ≤ 16
 hd : ∀ a, s[0]? = some a → letZ (a.toNat : Int) = true
 all : ∀ (i : Nat) a, s[i]? = some a → namZ (a.toNat : Int) = true
theorem s64 (n : Int) (H : Heap) : L 64 [.im (.int .u8 n)] H = some (.im (.bool (!namZ n)), H) := by
 have c1 := fun H => s34 n H
 rw [leq F64]
 obtain ⟨hlen, ha⟩ := enter_at (f := f64) (args := [.im (.int .u8 n)]) (Nat.le_of_ble_eq_true rfl)
 have h0 := ha 0 _ rfl
 generalize enterA f64 [.im (.int .u8 n)] = tm at *
 change tm.length = 6 at hlen
 simp only [f64,B0,B1,B2,List.replicate,Nat.reduceAdd,Nat.reduceSub,Nat.reduceLeDiff,Nat.reduceLT,Nat.reduceEqDiff,reduceCtorEq,Int.reduceEq,Int.reduceLT,Int.reduceLE,lenA,endK,resA,tupA,hlen,h0,c1,leave_same]
theorem l74 (s : List UInt8) (hn : s.length ≤ 1000) (hal : ∀ (i : Nat) a, s[i]? = some a → namZ (a.toNat : Int) = true) (H : Heap) :
  ∀ (m i : Nat) (tm : List AV), i + m = s.length → tm.length = 19 → tm.getD 0 undefA = .im (.sl 1 (s.map fun c => [byteDat c])) → tm.getD 1 undefA = .clo 64 [] → tm.getD 7 undefA = .im (.int .i64 (s.length : Int)) → tm.getD 8 undefA = .im (.int .i64 (i : Int)) →
  ∃ e tm' H', Λ c74_0 tm H = some (e, tm', H') ∧ (e = .exit 0 ∧ tm'.length = 19 ∧ H' = H)
 | 0, i, tm, hi, hlen, h0, h1, h7, h8 => by
  have hc : decide ((i : Int) < (s.length : Int)) = false := decide_eq_false (by omega)
  rw [l74_0]
  simp only [b74_0,B0,B1,B2,List.replicate,Nat.reduceAdd,Nat.reduceSub,Nat.reduceLeDiff,Nat.reduceLT,Nat.reduceEqDiff,reduceCtorEq,Int.reduceEq,Int.reduceLT,Int.reduceLE,lenA,hlen,h7,h8,hc]
  exact ⟨_, _, _, rfl, rfl, by simp only [List.length_set,hlen], rfl⟩
 | m + 1, i, tm, hi, hlen, h0, h1, h7, h8 => by
  have hlt : i < s.length := by omega
  have hc : decide ((i : Int) < (s.length : Int)) = true := decide_eq_true (by omega)
  obtain ⟨a, hai⟩ : ∃ a, s[i]? = some a := ⟨s[i], List.getElem?_eq_getElem hlt⟩
  have hg : (s.map fun c => [byteDat c])[i]? = some [.int .u8 (a.toNat : Int)] := by rw [List.getElem?_map, hai]; rfl
  have hix := idx_nat (n := s.length) (i := i) hlt
  have hwr := wrap_nat (i := i) (by omega)
  have c1 := fun H => s64 (a.toNat : Int) H
  rw [hal i a hai] at c1
  have key := fun tm1 => l74 s hn hal H m (i + 1) tm1 (by omega)
  rw [l74_0]
  simp only [b74_0,B0,B1,B2,List.replicate,Nat.reduceAdd,Nat.reduceSub,Nat.reduceLeDiff,Nat.reduceLT,Nat.reduceEqDiff,reduceCtorEq,Int.reduceEq,Int.reduceLT,Int.reduceLE,lenA,hlen,h0,h1,h7,h8,hc,hix,hg,List.length_map,c1,hwr]
  refine ex_imp (key _ ?_ ?_ ?_ ?_ ?_) fun _ _ _ h => h
  all_goals simp only [B3,Nat.reduceLT,Nat.reduceEqDiff,hlen,h0,h1,h7]
theorem s74 (s : List UInt8) (hn : s.length ≤ 1000) (hal : ∀ (i : Nat) a, s[i]? = some a → namZ (a.toNat : Int) = true) (H : Heap) : L 74 [.im (.sl 1 (s.map fun c => [byteDat c])), .clo 64 []] H = some (.im (.int .i64 (-1)), H) := by
 have key := fun tm1 => l74 s hn hal H s.length 0 tm1 (by omega)
 simp only [zc0] at key
 have hlA : lenA (.im (.sl 1 (s.map fun c => [byteDat c]))) = some s.length := by simp [lenA]
 rw [leq F74]
 obtain ⟨hlen, ha⟩ := enter_at (f := f74) (args := [.im (.sl 1 (s.map fun c => [byteDat c])), .clo 64 []]) (Nat.le_of_ble_eq_true rfl)
 have h0 := ha 0 _ rfl
 have h1 := ha 1 _ rfl
 generalize enterA f74 [.im (.sl 1 (s.map fun c => [byteDat c])), .clo 64 []] = tm at *
 change tm.length = 19 at hlen
 simp only [f74,e74_0,B0,B1,B2,List.replicate,Nat.reduceAdd,Nat.reduceSub,Nat.reduceLeDiff,Nat.reduceLT,Nat.reduceEqDiff,reduceCtorEq,Int.reduceEq,Int.reduceLT,Int.reduceLE,hlen,h0,h1,hlA]
 generalize hr : thenL (Λ c74_0 _ _) _ = r
 refine Exists.elim (thenL_inv hr (key _ ?_ ?_ ?_ ?_ ?_)) ?_
 iterate 5 simp only [B3,Nat.reduceLT,Nat.reduceEqDiff,hlen,h0,h1]
 clear hr key
 rintro e ⟨tm1, H1, ⟨rfl, g1, rfl⟩, rfl⟩
 simp only [B0,B1,B2,List.replicate,Nat.reduceAdd,Nat.reduceSub,Nat.reduceLeDiff,Nat.reduceLT,Nat.reduceEqDiff,reduceCtorEq,Int.reduceEq,Int.reduceLT,Int.reduceLE,lenA,endK,resA,tupA,g1,leave_same]
theorem s63 (s : List UInt8) (hn : s.length ≤ 1000) (hal : ∀ (i : Nat) a, s[i]? = some a → namZ (a.toNat : Int) = true) (H : Heap) : L 63 [.im (.sl 1 (s.map fun c => [byteDat c])), .clo 64 []] H = some (.im (.bool false), H) := by
 have c1 := fun H => s74 s hn hal H
 rw [leq F63]
 obtain ⟨hlen, ha⟩ := enter_at (f := f63) (args := [.im (.sl 1 (s.map fun c => [byteDat c])), .clo 64 []]) (Nat.le_of_ble_eq_true rfl)
 have h0 := ha 0 _ rfl
 have h1 := ha 1 _ rfl
 generalize enterA f63 [.im (.sl 1 (s.map fun c => [byteDat c])), .clo 64 []] = tm at *
 change tm.length = 9 at hlen
 simp only [f63,B0,B1,B2,List.replicate,Nat.reduceAdd,Nat.reduceSub,Nat.reduceLeDiff,Nat.reduceLT,Nat.reduceEqDiff,reduceCtorEq,Int.reduceEq,Int.reduceLT,Int.reduceLE,lenA,endK,resA,tupA,hlen,h0,h1,c1,leave_same]
theorem s33 (w : List UInt8) (H : Heap) : L 33 [.im (.str w)] H = some (.tup [.im (.str ((shapeT w).getD [])), .im (.bool (shapeT w).isSome)], H) := by
 cases hs : shapeT w with
 | none => exact s33_none hs H
 | some p => exact s33_some hs H
theorem s47 (s : List UInt8) (h : Nm s) (H : Heap) : L 47 [.im (.str s)] H = some (.im (.bool (shapeT s).isNone), H) := by
 have c1 := fun H => s33 s H
 have c2 := fun H => s63 s (by have := h.len; omega) h.all H
 obtain ⟨a, r, hs⟩ : ∃ a r, s = a :: r := by
  cases s with
  | nil => exact absurd rfl h.ne
  | cons a r => exact ⟨a, r, rfl⟩
 have ha0 : s[0]? = some a := by rw [hs]; rfl
 have hl := h.hd a ha0
 unfold letZ at hl
 simp only [Bool.and_eq_true,decide_eq_true_eq] at hl
 have d0 : decide (s = []) = false := decide_eq_false h.ne
 have d1 : decide (16 < (s.length : Int)) = false := decide_eq_false (by have := h.len; omega)
 have d2 : decide ((a.toNat : Int) < 97) = false := decide_eq_false (by omega)
 have d3 : decide (122 < (a.toNat : Int)) = false := decide_eq_false (by omega)
 have t0 : (0 : Int).toNat = 0 := rfl
 have hbd : byteDat a = .int .u8 (a.toNat : Int) := rfl
 have z0 : (0 : Int) ≤ 0 := Int.le_refl 0
 rw [leq F47]
 obtain ⟨hlen, hg⟩ := enter_at (f := f47) (args := [.im (.str s)]) (Nat.le_of_ble_eq_true rfl)
 have h0 := hg 0 _ rfl
 generalize enterA f47 [.im (.str s)] = tm at *
 change tm.length = 35 at hlen
 clear hs
 cases hsh : shapeT s with
 | none =>
  rw [hsh] at c1
  simp only [Option.getD_none,Option.isSome_none] at c1
  simp only [f47,B0,B1,B2,List.replicate,Nat.reduceAdd,Nat.reduceSub,Nat.reduceLeDiff,Nat.reduceLT,Nat.reduceEqDiff,reduceCtorEq,Int.reduceEq,Int.reduceLT,Int.reduceLE,lenA,intOfA,hbd,endK,resA,tupA,hlen,h0,d0,d1,d2,d3,ha0,t0,z0,c1,c2,leave_same,Option.isNone_none]
 | some p =>
  rw [hsh] at c1
  simp only [Option.getD_some,Option.isSome_some] at c1
  simp only [f47,B0,B1,B2,List.replicate,Nat.reduceAdd,Nat.reduceSub,Nat.reduceLeDiff,Nat.reduceLT,Nat.reduceEqDiff,reduceCtorEq,Int.reduceEq,Int.reduceLT,Int.reduceLE,lenA,intOfA,hbd,endK,resA,tupA,hlen,h0,d0,d1,d2,d3,ha0,t0,z0,c1,c2,leave_same,Option.isNone_some]
theorem l42 (s : List UInt8) (hn : s.length ≤ 1000) (hal : ∀ (i : Nat) a, s[i]? = some a → namZ (a.toNat : Int) = true) (H : Heap) :
  ∀ (m i : Nat) (tm : List AV), i + m = s.length → tm.length = 51 → tm.getD 0 undefA = .im (.str s) → tm.getD 3 undefA = .im (.int .i64 (i : Int)) →
  ∃ e tm' H', Λ c42_0 tm H = some (e, tm', H') ∧ (e = .exit 0 ∧ tm'.length = 51 ∧ tm'.getD 0 undefA = .im (.str s) ∧ H' = H)
 | 0, i, tm, hi, hlen, h0, h3 => by
  have hc : decide ((i : Int) < (s.length : Int)) = false := decide_eq_false (by omega)
  rw [l42_0]
  simp only [b42_0,B0,B1,B2,List.replicate,Nat.reduceAdd,Nat.reduceSub,Nat.reduceLeDiff,Nat.reduceLT,Nat.reduceEqDiff,reduceCtorEq,Int.reduceEq,Int.reduceLT,Int.reduceLE,lenA,hlen,h0,h3,hc]
  exact ⟨_, _, _, rfl, rfl, by simp only [List.length_set,hlen], by simp only [B3,Nat.reduceLT,Nat.reduceEqDiff,hlen,h0], rfl⟩
 | m + 1, i, tm, hi, hlen, h0, h3 => by
  have hlt : i < s.length := by omega
  have hc : decide ((i : Int) < (s.length : Int)) = true := decide_eq_true (by omega)
  obtain ⟨a, hai⟩ : ∃ a, s[i]? = some a := ⟨s[i], List.getElem?_eq_getElem hlt⟩
  have p2 : (0 : Int) ≤ (i : Int) := Int.natCast_nonneg i
  have hwr := wrap_nat (i := i) (by omega)
  have c1 := fun H => s58 (a.toNat : Int) H
  have c2 := fun H => s37 (a.toNat : Int) H
  have hnm := hal i a hai
  unfold namZ at hnm
  have key := fun tm1 => l42 s hn hal H m (i + 1) tm1 (by omega)
  rw [l42_0]
  rcases Bool.eq_false_or_eq_true (letZ (a.toNat : Int)) with e1 | e1
  ·rw [e1] at c1
   simp only [b42_0,B0,B1,B2,List.replicate,Nat.reduceAdd,Nat.reduceSub,Nat.reduceLeDiff,Nat.reduceLT,Nat.reduceEqDiff,reduceCtorEq,Int.reduceEq,Int.reduceLT,Int.reduceLE,lenA,intOfA,byteDat,Int.toNat_natCast,hlen,h0,h3,hc,p2,hai,c1,hwr]
   refine ex_imp (key _ ?_ ?_ ?_) fun _ _ _ h => h
   all_goals simp only [B3,Nat.reduceLT,Nat.reduceEqDiff,hlen,h0]
  ·rw [e1] at c1 hnm
   rcases Bool.eq_false_or_eq_true (digZ (a.toNat : Int)) with e2 | e2
   ·rw [e2] at c2
    simp only [b42_0,B0,B1,B2,List.replicate,Nat.reduceAdd,Nat.reduceSub,Nat.reduceLeDiff,Nat.reduceLT,Nat.reduceEqDiff,reduceCtorEq,Int.reduceEq,Int.reduceLT,Int.reduceLE,lenA,intOfA,byteDat,Int.toNat_natCast,hlen,h0,h3,hc,p2,hai,c1,c2,hwr]
    refine ex_imp (key _ ?_ ?_ ?_) fun _ _ _ h => h
    all_goals simp only [B3,Nat.reduceLT,Nat.reduceEqDiff,hlen,h0]
   ·rw [e2] at c2 hnm
    simp only [Bool.or_self,Bool.false_or] at hnm
    simp only [b42_0,B0,B1,B2,List.replicate,Nat.reduceAdd,Nat.reduceSub,Nat.reduceLeDiff,Nat.reduceLT,Nat.reduceEqDiff,reduceCtorEq,Int.reduceEq,Int.reduceLT,Int.reduceLE,lenA,intOfA,byteDat,Int.toNat_natCast,hlen,h0,h3,hc,p2,hai,c1,c2,hnm,hwr]
    refine ex_imp (key _ ?_ ?_ ?_) fun _ _ _ h => h
    all_goals simp only [B3,Nat.reduceLT,Nat.reduceEqDiff,hlen,h0]
theorem s42 (s : List UInt8) (h : Nm s) (H : Heap) : L 42 [.im (.str s)] H = some (.im (.bool (shapeT s).isNone), H) := by
 have c1 := fun H => s40 s H
 have key := fun tm1 => l42 s (by have := h.len; omega) h.all H s.length 0 tm1 (by omega)
 simp only [zc0] at key
 obtain ⟨a, r, hs⟩ : ∃ a r, s = a :: r := by
  cases s with
  | nil => exact absurd rfl h.ne
  | cons a r => exact ⟨a, r, rfl⟩
 have ha0 : s[0]? = some a := by rw [hs]; rfl
 have c2 := fun H => s58 (a.toNat : Int) H
 rw [h.hd a ha0] at c2
 have d0 : decide ((s.length : Int) < 1) = false := decide_eq_false (by rw [hs]; simp; omega)
 have d1 : decide (16 < (s.length : Int)) = false := decide_eq_false (by have := h.len; omega)
 have t0 : (0 : Int).toNat = 0 := rfl
 have z0 : (0 : Int) ≤ 0 := Int.le_refl 0
 rw [leq F42]
 obtain ⟨hlen, hg⟩ := enter_at (f := f42) (args := [.im (.str s)]) (Nat.le_of_ble_eq_true rfl)
 have h0 := hg 0 _ rfl
 generalize enterA f42 [.im (.str s)] = tm at *
 change tm.length = 51 at hlen
 clear hs
 simp only [f42,e42_0,B0,B1,B2,List.replicate,Nat.reduceAdd,Nat.reduceSub,Nat.reduceLeDiff,Nat.reduceLT,Nat.reduceEqDiff,reduceCtorEq,Int.reduceEq,Int.reduceLT,Int.reduceLE,lenA,intOfA,byteDat,hlen,h0,d0,d1,ha0,t0,z0,c2]
 generalize hr : thenL (Λ c42_0 _ _) _ = r2
 refine Exists.elim (thenL_inv hr (key _ ?_ ?_ ?_)) ?_
 iterate 3 simp only [B3,Nat.reduceLT,Nat.reduceEqDiff,hlen,h0]
 clear hr key
 rintro e ⟨tm1, H1, ⟨rfl, g1, g2, rfl⟩, rfl⟩
 cases hsh : shapeT s with
 | none =>
  rw [hsh] at c1
  simp only [Option.isSome_none] at c1
  simp only [B0,B1,B2,List.replicate,Nat.reduceAdd,Nat.reduceSub,Nat.reduceLeDiff,Nat.reduceLT,Nat.reduceEqDiff,reduceCtorEq,Int.reduceEq,Int.reduceLT,Int.reduceLE,lenA,endK,resA,tupA,g1,g2,c1,leave_same,Option.isNone_none]
 | some p =>
  rw [hsh] at c1
  simp only [Option.isSome_some] at c1
  simp only [B0,B1,B2,List.replicate,Nat.reduceAdd,Nat.reduceSub,Nat.reduceLeDiff,Nat.reduceLT,Nat.reduceEqDiff,reduceCtorEq,Int.reduceEq,Int.reduceLT,Int.reduceLE,lenA,endK,resA,tupA,g1,g2,c1,leave_same,Option.isNone_some]
end Go.Abs.Seat
end
section
set_option linter.unusedVariables false
set_option linter.unusedSimpArgs false
namespace Go.Abs.Seat
open Go.Proofs
theorem runN_goes (b : List UInt8) (p0 : Nat) : ∀ f p i, p ≤ i → i < runN b p0 f p → goesB b p0 i = true
 | 0, p, i, h1, h2 => by simp only [runN] at h2; omega
 | f + 1, p, i, h1, h2 => by
  unfold runN at h2
  split at h2
  ·rename_i hg
   by_cases hi : i = p
   ·subst hi; exact hg
   ·exact runN_goes b p0 f (p + 1) i (by omega) h2
  ·omega
theorem goes_nam {b : List UInt8} {p0 p : Nat} (h : goesB b p0 p = true) : namZ ((peekB b p).toNat : Int) = true := by
 unfold goesB at h
 simp only [Bool.and_eq_true] at h
 exact h.1.2
theorem nam_let {n : Int} (h : namZ n = true) (h2 : 97 ≤ n) : letZ n = true := by
 unfold namZ letZ digZ at h
 unfold letZ
 simp only [Bool.or_eq_true,Bool.and_eq_true,decide_eq_true_eq] at h ⊢
 omega
theorem wordB_len {b : List UInt8} {p : Nat} (hp : p ≤ b.length) : (wordB b p).length = runB b p - p := by
 have := run_len hp
 unfold wordB
 rw [List.length_take, List.length_drop]
 omega
theorem wordB_get {b : List UInt8} {p i : Nat} (hi : i < runB b p - p) (hp : p ≤ b.length) : (wordB b p)[i]? = some (peekB b (p + i)) := by
 have := run_len hp
 unfold wordB
 rw [List.getElem?_take, if_pos hi, List.getElem?_drop, peek_some (by omega)]
theorem word_nm {b : List UInt8} {p : Nat} (hp : p ≤ b.length) (h : p < runB b p) : Nm (wordB b p) := by
 have hl := wordB_len hp
 have h16 := run_16 b p
 refine ⟨fun e => by rw [e] at hl; simp at hl; omega, by omega, fun a ha => ?_, fun i a ha => ?_⟩
 ·rw [wordB_get (by omega) hp] at ha
  injection ha with ha
  have hg := runN_goes b p 16 p p (Nat.le_refl _) h
  have hnm := goes_nam hg
  unfold goesB at hg
  simp only [Bool.and_eq_true,Nat.lt_irrefl,decide_false,Bool.false_or,decide_eq_true_eq] at hg
  rw [← ha]
  exact nam_let hnm hg.2
 ·have hi : i < runB b p - p := by
   have := (List.getElem?_eq_some_iff.1 ha).1
   omega
  rw [wordB_get hi hp] at ha
  injection ha with ha
  rw [← ha]
  exact goes_nam (runN_goes b p 16 p (p + i) (by omega) (by unfold runB at hi; omega))
theorem leave_SM {H M : Heap} {ir : Nat} {b : List UInt8} {p : Nat} {bad bad' : Bool} {p' : Nat} {r r' : AV} (hir : H[ir]? = some (objS b p bad)) (hd : degrade r = r') (hr : refsLt H.length r' = true) : leave H false r (H.set ir (objS b p' bad') ++ M) = (r', H.set ir (objS b p' bad')) := by
 have hirl := (List.getElem?_eq_some_iff.1 hir).1
 have hbut : But H.length ir H (H.set ir (objS b p' bad') ++ M) := ⟨by simp, fun i hi hne => by rw [List.getElem?_append_left (by simpa using hi), List.getElem?_set_ne (fun e => hne e.symm)]⟩
 have := leave_but (keep := false) (r := r) (o := objS b p' bad') hbut (by rw [List.getElem?_append_left (by simpa using hirl)]; exact List.getElem?_set_self hirl) rfl (by simpa [hd] using hr) hirl
 simpa [hd] using this
inductive NT where
 | mk (op : List UInt8) (i : Int) (txt : List UInt8) (ty : KT) (s : Nat) (kids : List NT)
mutual
def encN : NT → List Dat
 | .mk op i txt (.mk k st args) s kids => [.str op, .int .i64 i, .str txt, .int .i64 k, .sl st (encTs args), .sl s (encNs kids)]
def encNs : List NT → List (List Dat)
 | [] => []
 | a :: l => encN a :: encNs l
end
theorem encNs_map : ∀ l : List NT, encNs l = l.map encN
 | [] => rfl
 | a :: l => by simp only [encNs,List.map_cons,encNs_map l]
def mkN (op : List UInt8) (i : Int) (txt : List UInt8) (ty : KT) (kids : List NT) : NT := .mk op i txt ty (if kids.length = 0 then 0 else 6) kids
def zeroN : NT := mkN [] 0 [] zeroT []
def nameW : List UInt8 := [110, 97, 109, 101]
def longB (b : List UInt8) (p : Nat) : Bool := decide (runB b p - p = 16) && namZ ((peekB b (runB b p)).toNat : Int)
def nameP (b : List UInt8) (p : Nat) : NT × Nat × Bool :=
 if (longB b (skipB b p) || decide (wordB b (skipB b p) = [])) = true then (zeroN, runB b (skipB b p), true)
 else if (shapeT (wordB b (skipB b p))).isNone = true then (mkN nameW 0 (wordB b (skipB b p)) zeroT [], runB b (skipB b p), false) else (zeroN, runB b (skipB b p), true)
theorem s55 (b : List UInt8) (p ir : Nat) (H : Heap) (hir : H[ir]? = some (objS b p false)) (hb : b.length ≤ 4611686018427387904) (hp : p ≤ b.length) :
  L 55 [.ptr ir 0 0] H = some (.im (.agg (encN (nameP b p).1)), H.set ir (objS b (nameP b p).2.1 (nameP b p).2.2)) := by
 have hirl := (List.getElem?_eq_some_iff.1 hir).1
 have hle := skip_len hp
 have hle2 := run_len hle
 have hge2 := run_le b (skipB b p)
 have hwl := wordB_len hle
 have hap : ∀ M : Heap, (H ++ M)[ir]? = some (objS b p false) := fun M => by rw [get_app hirl]; exact hir
 have hsp : ∀ (M : Heap) o, (H ++ M).set ir o = H.set ir o ++ M := fun M o => by rw [List.set_append_left _ _ hirl]
 have c1 : ∀ M, L 19 [.ptr ir 0 0] (H ++ M) = some (.tup [], H.set ir (objS b (skipB b p) false) ++ M) := fun M => by rw [s19 b p ir false (H ++ M) (hap M) hb hp, hsp]
 have g1 : ∀ (q : Nat) (bd : Bool) (M : Heap), (H.set ir (objS b q bd) ++ M)[ir]? = some (objS b q bd) := fun q bd M => by rw [get_app (by simpa using hirl)]; exact List.getElem?_set_self hirl
 have sp2 : ∀ (q : Nat) (bd : Bool) (M : Heap) o, (H.set ir (objS b q bd) ++ M).set ir o = H.set ir o ++ M := fun q bd M o => by rw [List.set_append_left _ _ (by simpa using hirl), List.set_set]
 have c2 : ∀ M, L 32 [.ptr ir 0 0] (H.set ir (objS b (skipB b p) false) ++ M) = some (.im (.str (wordB b (skipB b p))), H.set ir (objS b (runB b (skipB b p)) false) ++ M) := fun M => by rw [s32 b (skipB b p) ir false _ (g1 _ _ M) hb hle, sp2]
 have c3 : ∀ M, L 29 [.ptr ir 0 0] (H.set ir (objS b (runB b (skipB b p)) false) ++ M) = some (.im (.int .u8 ((peekB b (runB b (skipB b p))).toNat : Int)), H.set ir (objS b (runB b (skipB b p)) false) ++ M) := fun M => s29 b _ ir false _ (g1 _ _ M) hb
 have c4 := fun H => s34 ((peekB b (runB b (skipB b p))).toNat : Int) H
 have hlv : ∀ (q : Nat) (bd : Bool) (M : Heap) (op txt : List UInt8) (i : Int), leave H false (.agg [.im (.str op), .im (.int .i64 i), .im (.str txt), .im (.int .i64 0), .nils, .nils]) (H.set ir (objS b q bd) ++ M) = (.im (.agg [.str op, .int .i64 i, .str txt, .int .i64 0, .sl 0 [], .sl 0 []]), H.set ir (objS b q bd)) := fun q bd M op txt i => leave_SM hir rfl rfl
 have gN : ∀ o x, (H.set ir o ++ [x])[H.length]? = some x := fun o x => by rw [List.getElem?_append_right (by simp)]; simp
 have sN : ∀ o x y, (H.set ir o ++ [x]).set H.length y = H.set ir o ++ [y] := fun o x y => by rw [List.set_append_right _ _ (by simp)]; simp
 have hws : IntKind.i64.wrap ((runB b (skipB b p) : Nat) - (skipB b p : Nat) : Int) = ((runB b (skipB b p) - skipB b p : Nat) : Int) := by rw [Go.Abs.Seat.wrap_small _ (by omega)]; omega
 have hcast : ∀ x : Nat, decide ((x : Int) = 16) = decide (x = 16) := fun x => by
  by_cases h : x = 16
  ·subst h; rfl
  ·rw [decide_eq_false h, decide_eq_false (by omega)]
 have hnm := fun h => word_nm (b := b) (p := skipB b p) hle h
 unfold nameP longB
 rw [leq F55]
 obtain ⟨hlen, ha⟩ := enter_at (f := f55) (args := [.ptr ir 0 0]) (Nat.le_of_ble_eq_true rfl)
 have h0 := ha 0 _ rfl
 generalize enterA f55 [.ptr ir 0 0] = tm at *
 change tm.length = 42 at hlen
 generalize hw : wordB b (skipB b p) = w at *
 generalize hq : runB b (skipB b p) = q at *
 generalize skipB b p = q0 at *
 simp only [objS] at c1 c2 c3 g1 sp2 hlv ⊢
 rcases Bool.eq_false_or_eq_true (decide (q - q0 = 16)) with e1 | e1
 ·rcases Bool.eq_false_or_eq_true (namZ ((peekB b q).toNat : Int)) with e2 | e2
  ·rw [e2] at c4
   rw [e1, e2]
   simp only [Bool.and_self,Bool.true_or,if_true]
   simp only [zeroN,zeroT,mkT,mkN,List.length_nil,if_true,encN,encTs,encNs]
   simp only [f55,B0,B1,B2,List.replicate,Nat.reduceAdd,Nat.reduceSub,Nat.reduceLeDiff,Nat.reduceLT,Nat.reduceEqDiff,reduceCtorEq,Int.reduceEq,Int.reduceLT,Int.reduceLE,lenA,endK,resA,tupA,hlen,h0,c1,c2,c3,c4,g1,sp2,gN,sN,hws,hcast,e1,hlv]
  ·rw [e2] at c4
   have hne : w ≠ [] := fun e => by
    rw [e] at hwl; simp at hwl
    have := of_decide_eq_true e1; omega
   have e3 : decide (w = []) = false := decide_eq_false hne
   have c5 := fun H => s47 w (hnm (by have := of_decide_eq_true e1; omega)) H
   rw [e1, e2, e3]
   simp only [Bool.and_false,Bool.or_self,Bool.false_eq_true,if_false]
   rcases Bool.eq_false_or_eq_true ((shapeT w).isNone) with e4 | e4
   ·rw [e4] at c5
    rw [e4, if_pos rfl]
    simp only [nameW,zeroT,mkT,mkN,List.length_nil,if_true,encN,encTs,encNs]
    simp only [f55,B0,B1,B2,List.replicate,Nat.reduceAdd,Nat.reduceSub,Nat.reduceLeDiff,Nat.reduceLT,Nat.reduceEqDiff,reduceCtorEq,Int.reduceEq,Int.reduceLT,Int.reduceLE,lenA,endK,resA,tupA,hlen,h0,c1,c2,c3,c4,c5,g1,sp2,gN,sN,hws,hcast,e1,e3,hlv]
   ·rw [e4] at c5
    rw [e4, if_neg (by simp)]
    simp only [zeroN,zeroT,mkT,mkN,List.length_nil,if_true,encN,encTs,encNs]
    simp only [f55,B0,B1,B2,List.replicate,Nat.reduceAdd,Nat.reduceSub,Nat.reduceLeDiff,Nat.reduceLT,Nat.reduceEqDiff,reduceCtorEq,Int.reduceEq,Int.reduceLT,Int.reduceLE,lenA,endK,resA,tupA,hlen,h0,c1,c2,c3,c4,c5,g1,sp2,gN,sN,hws,hcast,e1,e3,hlv]
 ·rw [e1]
  simp only [Bool.false_and,Bool.false_or]
  by_cases hne : w = []
  ·have e3 : decide (w = []) = true := decide_eq_true hne
   rw [e3, if_pos rfl]
   simp only [zeroN,zeroT,mkT,mkN,List.length_nil,if_true,encN,encTs,encNs]
   simp only [f55,B0,B1,B2,List.replicate,Nat.reduceAdd,Nat.reduceSub,Nat.reduceLeDiff,Nat.reduceLT,Nat.reduceEqDiff,reduceCtorEq,Int.reduceEq,Int.reduceLT,Int.reduceLE,lenA,endK,resA,tupA,hlen,h0,c1,c2,g1,sp2,gN,sN,hws,hcast,e1,e3,hlv]
  ·have e3 : decide (w = []) = false := decide_eq_false hne
   have hlt : q0 < q := by
    rcases Nat.lt_or_ge q0 q with h | h
    ·exact h
    ·exact absurd (List.length_eq_zero_iff.1 (by omega)) hne
   have c5 := fun H => s47 w (hnm hlt) H
   rw [e3, if_neg (by simp)]
   rcases Bool.eq_false_or_eq_true ((shapeT w).isNone) with e4 | e4
   ·rw [e4] at c5
    rw [e4, if_pos rfl]
    simp only [nameW,zeroT,mkT,mkN,List.length_nil,if_true,encN,encTs,encNs]
    simp only [f55,B0,B1,B2,List.replicate,Nat.reduceAdd,Nat.reduceSub,Nat.reduceLeDiff,Nat.reduceLT,Nat.reduceEqDiff,reduceCtorEq,Int.reduceEq,Int.reduceLT,Int.reduceLE,lenA,endK,resA,tupA,hlen,h0,c1,c2,c5,g1,sp2,gN,sN,hws,hcast,e1,e3,hlv]
   ·rw [e4] at c5
    rw [e4, if_neg (by simp)]
    simp only [zeroN,zeroT,mkT,mkN,List.length_nil,if_true,encN,encTs,encNs]
    simp only [f55,B0,B1,B2,List.replicate,Nat.reduceAdd,Nat.reduceSub,Nat.reduceLeDiff,Nat.reduceLT,Nat.reduceEqDiff,reduceCtorEq,Int.reduceEq,Int.reduceLT,Int.reduceLE,lenA,endK,resA,tupA,hlen,h0,c1,c2,c5,g1,sp2,gN,sN,hws,hcast,e1,e3,hlv]
end Go.Abs.Seat
end
section
set_option linter.unusedVariables false
set_option linter.unusedSimpArgs false
namespace Go.Abs.Seat
open Go.Proofs
theorem l21 (b : List UInt8) (hb : b.length ≤ 4611686018427387904) (H : Heap) :
  ∀ (f p : Nat) (tm : List AV), b.length ≤ p + f → p ≤ b.length → tm.length = 18 → tm.getD 0 undefA = .im (.str b) → tm.getD 1 undefA = .im (.int .i64 (p : Int)) →
  ∃ e tm' H', Λ c21_0 tm H = some (e, tm', H') ∧ (e = .exit 0 ∧ tm'.length = 18 ∧ tm'.getD 1 undefA = .im (.int .i64 ((skipN b f p : Nat) : Int)) ∧ H' = H)
 | 0, p, tm, hf, hp, hlen, h0, h1 => by
  have hc : decide ((p : Int) < (b.length : Int)) = false := decide_eq_false (by omega)
  rw [l21_0]
  simp only [b21_0,B0,B1,B2,List.replicate,Nat.reduceAdd,Nat.reduceSub,Nat.reduceLeDiff,Nat.reduceLT,Nat.reduceEqDiff,reduceCtorEq,Int.reduceEq,Int.reduceLT,Int.reduceLE,lenA,hlen,h0,h1,hc]
  exact ⟨_, _, _, rfl, rfl, by simp only [List.length_set,hlen], by simp only [B3,Nat.reduceLT,Nat.reduceEqDiff,hlen,h1,skipN], rfl⟩
 | f + 1, p, tm, hf, hp, hlen, h0, h1 => by
  have p2 : (0 : Int) ≤ (p : Int) := Int.natCast_nonneg p
  by_cases hk : p < b.length
  ·have hc : decide ((p : Int) < (b.length : Int)) = true := decide_eq_true (by omega)
   have hsk : b[p]? = some b[p] := List.getElem?_eq_getElem hk
   have hwr := wrap_nat (i := p) (by omega)
   unfold skipN
   rw [hsk]
   generalize b[p] = a at hsk
   by_cases ha : a = 32
   ·have hd : decide (((a.toNat : Nat) : Int) = 32) = true := by rw [b32]; exact decide_eq_true ha
    rw [if_pos (by rw [ha])]
    have key := fun tm1 => l21 b hb H f (p + 1) tm1 (by omega) (by omega)
    rw [l21_0]
    simp only [b21_0,B0,B1,B2,List.replicate,Nat.reduceAdd,Nat.reduceSub,Nat.reduceLeDiff,Nat.reduceLT,Nat.reduceEqDiff,reduceCtorEq,Int.reduceEq,Int.reduceLT,Int.reduceLE,lenA,intOfA,byteDat,Int.toNat_natCast,hlen,h0,h1,hc,p2,hsk,hd,hwr]
    refine ex_imp (key _ ?_ ?_ ?_) fun _ _ _ h => h
    all_goals simp only [B3,Nat.reduceLT,Nat.reduceEqDiff,hlen,h0]
   ·have hd : decide (((a.toNat : Nat) : Int) = 32) = false := by rw [b32]; exact decide_eq_false ha
    rw [if_neg (by simpa using ha)]
    rw [l21_0]
    simp only [b21_0,B0,B1,B2,List.replicate,Nat.reduceAdd,Nat.reduceSub,Nat.reduceLeDiff,Nat.reduceLT,Nat.reduceEqDiff,reduceCtorEq,Int.reduceEq,Int.reduceLT,Int.reduceLE,lenA,intOfA,byteDat,Int.toNat_natCast,hlen,h0,h1,hc,p2,hsk,hd]
    exact ⟨_, _, _, rfl, rfl, by simp only [List.length_set,hlen], by simp only [B3,Nat.reduceLT,Nat.reduceEqDiff,hlen,h1], rfl⟩
  ·have hc : decide ((p : Int) < (b.length : Int)) = false := decide_eq_false (by omega)
   have hsk : b[p]? = none := List.getElem?_eq_none (by omega)
   unfold skipN
   rw [hsk, if_neg (by simp)]
   rw [l21_0]
   simp only [b21_0,B0,B1,B2,List.replicate,Nat.reduceAdd,Nat.reduceSub,Nat.reduceLeDiff,Nat.reduceLT,Nat.reduceEqDiff,reduceCtorEq,Int.reduceEq,Int.reduceLT,Int.reduceLE,lenA,hlen,h0,h1,hc]
   exact ⟨_, _, _, rfl, rfl, by simp only [List.length_set,hlen], by simp only [B3,Nat.reduceLT,Nat.reduceEqDiff,hlen,h1], rfl⟩
theorem s21 (b : List UInt8) (p : Nat) (hb : b.length ≤ 4611686018427387904) (hp : p ≤ b.length) (H : Heap) : L 21 [.im (.str b), .im (.int .i64 (p : Int))] H = some (.im (.int .i64 ((skipB b p : Nat) : Int)), H) := by
 have key := fun tm1 => l21 b hb H (b.length - p) p tm1 (by omega) hp
 rw [leq F21]
 obtain ⟨hlen, ha⟩ := enter_at (f := f21) (args := [.im (.str b), .im (.int .i64 (p : Int))]) (Nat.le_of_ble_eq_true rfl)
 have h0 := ha 0 _ rfl
 have h1 := ha 1 _ rfl
 generalize enterA f21 [.im (.str b), .im (.int .i64 (p : Int))] = tm at *
 change tm.length = 18 at hlen
 simp only [f21,e21_0,B0,B1,B2,List.replicate,Nat.reduceAdd,Nat.reduceSub,Nat.reduceLeDiff,Nat.reduceLT,Nat.reduceEqDiff,reduceCtorEq,Int.reduceEq,Int.reduceLT,Int.reduceLE,lenA,hlen,h0,h1]
 generalize hr : thenL (Λ c21_0 _ _) _ = r
 refine Exists.elim (thenL_inv hr (key _ ?_ ?_ ?_)) ?_
 iterate 3 simp only [B3,Nat.reduceLT,Nat.reduceEqDiff,hlen,h0,h1]
 clear hr key
 rintro e ⟨tm1, H1, ⟨rfl, g1, g2, rfl⟩, rfl⟩
 simp only [B0,B1,B2,List.replicate,Nat.reduceAdd,Nat.reduceSub,Nat.reduceLeDiff,Nat.reduceLT,Nat.reduceEqDiff,reduceCtorEq,Int.reduceEq,Int.reduceLT,Int.reduceLE,lenA,endK,resA,tupA,g1,g2,leave_same]
 rfl
def wordR (b : List UInt8) (p : Nat) : List UInt8 × Nat × Bool :=
 if letZ ((peekB b p).toNat : Int) = true then (if longB b p = true then ([], runB b p, false) else (wordB b p, runB b p, true)) else ([], p, false)
theorem let_nam {n : Int} (h : letZ n = true) : namZ n = true ∧ 97 ≤ n := by
 unfold letZ at h
 unfold namZ letZ digZ
 simp only [Bool.or_eq_true,Bool.and_eq_true,decide_eq_true_eq] at h ⊢
 omega
theorem let0 : letZ ((0 : UInt8).toNat : Int) = false := by decide
theorem goes_in {b : List UInt8} {p0 p : Nat} (h : p0 < p ∨ letZ ((peekB b p0).toNat : Int) = true ∧ p = p0) : goesB b p0 p = (decide (p - p0 < 16) && namZ ((peekB b p).toNat : Int)) := by
 unfold goesB
 rcases h with h | ⟨h, rfl⟩
 ·rw [decide_eq_true h, Bool.true_or, Bool.and_true]
 ·rw [decide_eq_true (let_nam h).2, Bool.or_true, Bool.and_true]
theorem l39 (b : List UInt8) (hb : b.length ≤ 4611686018427387904) (p0 : Nat) (hl : letZ ((peekB b p0).toNat : Int) = true) (H : Heap) :
  ∀ (f p : Nat) (tm : List AV) (q : Nat) (lng : Bool), runN b p0 f p = q → (decide (q - p0 = 16) && namZ ((peekB b q).toNat : Int)) = lng → 16 ≤ (p - p0) + f → p0 ≤ p → p - p0 ≤ 16 → p ≤ b.length → tm.length = 55 → tm.getD 0 undefA = .im (.str b) → tm.getD 1 undefA = .im (.int .i64 (p0 : Int)) → tm.getD 7 undefA = .im (.int .i64 (p : Int)) →
  ∃ e tm' H', Λ c39_0 tm H = some (e, tm', H') ∧ (tm'.length = 55 ∧ H' = H ∧ ((e = .ret ∧ lng = true ∧ tm'.getD 4 undefA = .im (.str []) ∧ tm'.getD 5 undefA = .im (.int .i64 (q : Int)) ∧ tm'.getD 6 undefA = .im (.bool false)) ∨
   (e = .exit 0 ∧ lng = false ∧ tm'.getD 0 undefA = .im (.str b) ∧ tm'.getD 1 undefA = .im (.int .i64 (p0 : Int)) ∧ tm'.getD 7 undefA = .im (.int .i64 (q : Int)))))
 | f, p, tm, q, lng, hq, hlng, hf, h0p, h16, hp, hlen, h0, h1, h7 => by
  have p2 : (0 : Int) ≤ (p : Int) := Int.natCast_nonneg p
  have hws : IntKind.i64.wrap ((p : Int) - (p0 : Int)) = ((p - p0 : Nat) : Int) := by rw [Go.Abs.Seat.wrap_small _ (by omega)]; omega
  have hcast : ∀ x : Nat, decide ((x : Int) = 16) = decide (x = 16) := fun x => by
   by_cases h : x = 16
   ·subst h; rfl
   ·rw [decide_eq_false h, decide_eq_false (by omega)]
  have hnone : b.length ≤ p → peekB b p = 0 := fun h => by unfold peekB; rw [List.getElem?_eq_none h]; rfl
  have hin : p0 < p ∨ letZ ((peekB b p0).toNat : Int) = true ∧ p = p0 := by
   by_cases h : p = p0
   ·exact .inr ⟨hl, h⟩
   ·exact .inl (by omega)
  have hgo := goes_in hin
  by_cases hk : p < b.length
  ·have hc : decide ((p : Int) < (b.length : Int)) = true := decide_eq_true (by omega)
   have hsk := peek_some hk
   have c1 := fun H => s58 ((peekB b p).toNat : Int) H
   have c2 := fun H => s37 ((peekB b p).toNat : Int) H
   have hwr := wrap_nat (i := p) (by omega)
   rcases Bool.eq_false_or_eq_true (namZ ((peekB b p).toNat : Int)) with hnm | hnm
   ·by_cases h15 : p - p0 = 16
    ·-- too long
     have hd : decide (p - p0 = 16) = true := decide_eq_true h15
     have hr : runN b p0 f p = p := by
      cases f with
      | zero => rfl
      | succ f => rw [runN, hgo, decide_eq_false (by omega)]; simp
     rw [hr] at hq
     subst hq
     rw [hd, hnm] at hlng
     have hnm' := hnm
     unfold namZ at hnm'
     rcases Bool.eq_false_or_eq_true (letZ ((peekB b p).toNat : Int)) with e1 | e1
     ·rw [e1] at c1
      rw [l39_0]
      simp only [b39_0,B0,B1,B2,List.replicate,Nat.reduceAdd,Nat.reduceSub,Nat.reduceLeDiff,Nat.reduceLT,Nat.reduceEqDiff,reduceCtorEq,Int.reduceEq,Int.reduceLT,Int.reduceLE,lenA,intOfA,byteDat,Int.toNat_natCast,hlen,h0,h1,h7,hc,p2,hsk,c1,hws,hcast,hd]
      exact ⟨_, _, _, rfl, by simp only [List.length_set,hlen], rfl, .inl ⟨rfl, hlng.symm, by simp only [B3,Nat.reduceLT,Nat.reduceEqDiff,hlen], by simp only [B3,Nat.reduceLT,Nat.reduceEqDiff,hlen], by simp only [B3,Nat.reduceLT,Nat.reduceEqDiff,hlen]⟩⟩
     ·rw [e1] at c1 hnm'
      rcases Bool.eq_false_or_eq_true (digZ ((peekB b p).toNat : Int)) with e2 | e2
      ·rw [e2] at c2
       rw [l39_0]
       simp only [b39_0,B0,B1,B2,List.replicate,Nat.reduceAdd,Nat.reduceSub,Nat.reduceLeDiff,Nat.reduceLT,Nat.reduceEqDiff,reduceCtorEq,Int.reduceEq,Int.reduceLT,Int.reduceLE,lenA,intOfA,byteDat,Int.toNat_natCast,hlen,h0,h1,h7,hc,p2,hsk,c1,c2,hws,hcast,hd]
       exact ⟨_, _, _, rfl, by simp only [List.length_set,hlen], rfl, .inl ⟨rfl, hlng.symm, by simp only [B3,Nat.reduceLT,Nat.reduceEqDiff,hlen], by simp only [B3,Nat.reduceLT,Nat.reduceEqDiff,hlen], by simp only [B3,Nat.reduceLT,Nat.reduceEqDiff,hlen]⟩⟩
      ·rw [e2] at c2 hnm'
       simp only [Bool.or_self,Bool.false_or] at hnm'
       rw [l39_0]
       simp only [b39_0,B0,B1,B2,List.replicate,Nat.reduceAdd,Nat.reduceSub,Nat.reduceLeDiff,Nat.reduceLT,Nat.reduceEqDiff,reduceCtorEq,Int.reduceEq,Int.reduceLT,Int.reduceLE,lenA,intOfA,byteDat,Int.toNat_natCast,hlen,h0,h1,h7,hc,p2,hsk,c1,c2,hnm',hws,hcast,hd]
       exact ⟨_, _, _, rfl, by simp only [List.length_set,hlen], rfl, .inl ⟨rfl, hlng.symm, by simp only [B3,Nat.reduceLT,Nat.reduceEqDiff,hlen], by simp only [B3,Nat.reduceLT,Nat.reduceEqDiff,hlen], by simp only [B3,Nat.reduceLT,Nat.reduceEqDiff,hlen]⟩⟩
    ·-- on
     have hd : decide (p - p0 = 16) = false := decide_eq_false h15
     cases f with
     | zero => omega
     | succ f =>
      have hr : runN b p0 (f + 1) p = runN b p0 f (p + 1) := by rw [runN, hgo, decide_eq_true (by omega), hnm]; rfl
      rw [hr] at hq
      have key := fun tm1 => l39 b hb p0 hl H f (p + 1) tm1 q lng hq hlng (by omega) (by omega) (by omega) (by omega)
      have hnm' := hnm
      unfold namZ at hnm'
      rcases Bool.eq_false_or_eq_true (letZ ((peekB b p).toNat : Int)) with e1 | e1
      ·rw [e1] at c1
       rw [l39_0]
       simp only [b39_0,B0,B1,B2,List.replicate,Nat.reduceAdd,Nat.reduceSub,Nat.reduceLeDiff,Nat.reduceLT,Nat.reduceEqDiff,reduceCtorEq,Int.reduceEq,Int.reduceLT,Int.reduceLE,lenA,intOfA,byteDat,Int.toNat_natCast,hlen,h0,h1,h7,hc,p2,hsk,c1,hws,hcast,hd,hwr]
       refine ex_imp (key _ ?_ ?_ ?_ ?_) fun _ _ _ h => h
       all_goals simp only [B3,Nat.reduceLT,Nat.reduceEqDiff,hlen,h0,h1]
      ·rw [e1] at c1 hnm'
       rcases Bool.eq_false_or_eq_true (digZ ((peekB b p).toNat : Int)) with e2 | e2
       ·rw [e2] at c2
        rw [l39_0]
        simp only [b39_0,B0,B1,B2,List.replicate,Nat.reduceAdd,Nat.reduceSub,Nat.reduceLeDiff,Nat.reduceLT,Nat.reduceEqDiff,reduceCtorEq,Int.reduceEq,Int.reduceLT,Int.reduceLE,lenA,intOfA,byteDat,Int.toNat_natCast,hlen,h0,h1,h7,hc,p2,hsk,c1,c2,hws,hcast,hd,hwr]
        refine ex_imp (key _ ?_ ?_ ?_ ?_) fun _ _ _ h => h
        all_goals simp only [B3,Nat.reduceLT,Nat.reduceEqDiff,hlen,h0,h1]
       ·rw [e2] at c2 hnm'
        simp only [Bool.or_self,Bool.false_or] at hnm'
        rw [l39_0]
        simp only [b39_0,B0,B1,B2,List.replicate,Nat.reduceAdd,Nat.reduceSub,Nat.reduceLeDiff,Nat.reduceLT,Nat.reduceEqDiff,reduceCtorEq,Int.reduceEq,Int.reduceLT,Int.reduceLE,lenA,intOfA,byteDat,Int.toNat_natCast,hlen,h0,h1,h7,hc,p2,hsk,c1,c2,hnm',hws,hcast,hd,hwr]
        refine ex_imp (key _ ?_ ?_ ?_ ?_) fun _ _ _ h => h
        all_goals simp only [B3,Nat.reduceLT,Nat.reduceEqDiff,hlen,h0,h1]
   ·-- no name's byte
    have hr : runN b p0 f p = p := by
     cases f with
     | zero => rfl
     | succ f => rw [runN, hgo, hnm, Bool.and_false]; simp
    rw [hr] at hq
    subst hq
    rw [hnm, Bool.and_false] at hlng
    have hnm' := hnm
    unfold namZ at hnm'
    simp only [Bool.or_eq_false_iff] at hnm'
    obtain ⟨⟨e1, e2⟩, e3⟩ := hnm'
    rw [e1] at c1
    rw [e2] at c2
    rw [l39_0]
    simp only [b39_0,B0,B1,B2,List.replicate,Nat.reduceAdd,Nat.reduceSub,Nat.reduceLeDiff,Nat.reduceLT,Nat.reduceEqDiff,reduceCtorEq,Int.reduceEq,Int.reduceLT,Int.reduceLE,lenA,intOfA,byteDat,Int.toNat_natCast,hlen,h0,h1,h7,hc,p2,hsk,c1,c2,e3]
    exact ⟨_, _, _, rfl, by simp only [List.length_set,hlen], rfl, .inr ⟨rfl, hlng.symm, by simp only [B3,Nat.reduceLT,Nat.reduceEqDiff,hlen,h0], by simp only [B3,Nat.reduceLT,Nat.reduceEqDiff,hlen,h1], by simp only [B3,Nat.reduceLT,Nat.reduceEqDiff,hlen,h7]⟩⟩
  ·have hc : decide ((p : Int) < (b.length : Int)) = false := decide_eq_false (by omega)
   have hnm : namZ ((peekB b p).toNat : Int) = false := by rw [hnone (by omega)]; exact nam0
   have hr : runN b p0 f p = p := by
    cases f with
    | zero => rfl
    | succ f => rw [runN, hgo, hnm, Bool.and_false]; simp
   rw [hr] at hq
   subst hq
   rw [hnm, Bool.and_false] at hlng
   rw [l39_0]
   simp only [b39_0,B0,B1,B2,List.replicate,Nat.reduceAdd,Nat.reduceSub,Nat.reduceLeDiff,Nat.reduceLT,Nat.reduceEqDiff,reduceCtorEq,Int.reduceEq,Int.reduceLT,Int.reduceLE,lenA,hlen,h0,h1,h7,hc]
   exact ⟨_, _, _, rfl, by simp only [List.length_set,hlen], rfl, .inr ⟨rfl, hlng.symm, by simp only [B3,Nat.reduceLT,Nat.reduceEqDiff,hlen,h0], by simp only [B3,Nat.reduceLT,Nat.reduceEqDiff,hlen,h1], by simp only [B3,Nat.reduceLT,Nat.reduceEqDiff,hlen,h7]⟩⟩
termination_by f => f
theorem s39 (b : List UInt8) (p : Nat) (hb : b.length ≤ 4611686018427387904) (hp : p ≤ b.length) (H : Heap) : L 39 [.im (.str b), .im (.int .i64 (p : Int))] H = some (.tup [.im (.str (wordR b p).1), .im (.int .i64 ((wordR b p).2.1 : Int)), .im (.bool (wordR b p).2.2)], H) := by
 have p2 : (0 : Int) ≤ (p : Int) := Int.natCast_nonneg p
 have hle := run_len hp
 have hge := run_le b p
 have hlv : ∀ s q k, leave H false (.tup [.im (.str s), .im (.int .i64 q), .im (.bool k)]) H = (.tup [.im (.str s), .im (.int .i64 q), .im (.bool k)], H) := fun s q k => by
  have := leave_deg (H := H) (M := []) (r := .tup [.im (.str s), .im (.int .i64 q), .im (.bool k)]) rfl rfl
  rwa [List.append_nil] at this
 rw [leq F39]
 obtain ⟨hlen, ha⟩ := enter_at (f := f39) (args := [.im (.str b), .im (.int .i64 (p : Int))]) (Nat.le_of_ble_eq_true rfl)
 have h0 := ha 0 _ rfl
 have h1 := ha 1 _ rfl
 generalize enterA f39 [.im (.str b), .im (.int .i64 (p : Int))] = tm at *
 change tm.length = 55 at hlen
 unfold wordR
 rcases Bool.eq_false_or_eq_true (letZ ((peekB b p).toNat : Int)) with e1 | e1
 ·have hk : p < b.length := peek_lt fun e => by rw [e, let0] at e1; simp at e1
  have hc : decide ((b.length : Int) ≤ (p : Int)) = false := decide_eq_false (by omega)
  have hsk := peek_some hk
  have c1 := fun H => s58 ((peekB b p).toNat : Int) H
  rw [e1] at c1
  have key := fun tm1 => l39 b hb p e1 H 16 p tm1 (runB b p) (longB b p) rfl rfl (by omega) (Nat.le_refl _) (by omega) hp
  rw [e1, if_pos rfl]
  simp only [f39,e39_0,B0,B1,B2,List.replicate,Nat.reduceAdd,Nat.reduceSub,Nat.reduceLeDiff,Nat.reduceLT,Nat.reduceEqDiff,reduceCtorEq,Int.reduceEq,Int.reduceLT,Int.reduceLE,lenA,intOfA,byteDat,Int.toNat_natCast,hlen,h0,h1,hc,p2,hsk,c1]
  generalize hr : thenL (Λ c39_0 _ _) _ = r
  refine Exists.elim (thenL_inv hr (key _ ?_ ?_ ?_ ?_)) ?_
  iterate 4 simp only [B3,Nat.reduceLT,Nat.reduceEqDiff,hlen,h0,h1]
  clear hr key
  rintro e ⟨tm1, H1, ⟨g1, rfl, ⟨rfl, hl, g2, g3, g4⟩ | ⟨rfl, hl, g2, g3, g4⟩⟩, rfl⟩
  ·rw [hl, if_pos rfl]
   simp only [B0,B1,B2,List.replicate,Nat.reduceAdd,Nat.reduceSub,Nat.reduceLeDiff,Nat.reduceLT,Nat.reduceEqDiff,reduceCtorEq,Int.reduceEq,Int.reduceLT,Int.reduceLE,lenA,endK,resA,tupA,g1,g2,g3,g4,hlv]
  ·rw [hl, if_neg (by simp)]
   unfold wordB
   generalize runB b p = q at *
   have hc1 : p ≤ q ∧ q ≤ b.length := ⟨hge, hle⟩
   simp only [B0,B1,B2,List.replicate,Nat.reduceAdd,Nat.reduceSub,Nat.reduceLeDiff,Nat.reduceLT,Nat.reduceEqDiff,reduceCtorEq,Int.reduceEq,Int.reduceLT,Int.reduceLE,lenA,endK,resA,tupA,boundA,intOfA,Int.natCast_nonneg,Int.toNat_natCast,g1,g2,g3,g4,hc1,hlv]
 ·rw [e1, if_neg (by simp)]
  by_cases hk : p < b.length
  ·have hc : decide ((b.length : Int) ≤ (p : Int)) = false := decide_eq_false (by omega)
   have hsk := peek_some hk
   have c1 := fun H => s58 ((peekB b p).toNat : Int) H
   rw [e1] at c1
   simp only [f39,B0,B1,B2,List.replicate,Nat.reduceAdd,Nat.reduceSub,Nat.reduceLeDiff,Nat.reduceLT,Nat.reduceEqDiff,reduceCtorEq,Int.reduceEq,Int.reduceLT,Int.reduceLE,lenA,endK,resA,tupA,intOfA,byteDat,Int.toNat_natCast,hlen,h0,h1,hc,p2,hsk,c1,hlv]
  ·have hc : decide ((b.length : Int) ≤ (p : Int)) = true := decide_eq_true (by omega)
   simp only [f39,B0,B1,B2,List.replicate,Nat.reduceAdd,Nat.reduceSub,Nat.reduceLeDiff,Nat.reduceLT,Nat.reduceEqDiff,reduceCtorEq,Int.reduceEq,Int.reduceLT,Int.reduceLE,lenA,endK,resA,tupA,hlen,h0,h1,hc,hlv]
end Go.Abs.Seat
end
section
set_option linter.unusedVariables false
set_option linter.unusedSimpArgs false
namespace Go.Abs.Seat
open Go.Proofs
def intW : List UInt8 := [105, 110, 116]
def numN (b : List UInt8) (most : Nat) : Nat → Nat → Nat → Nat × Nat × Bool
 | 0, n, p => (n, p, false)
 | f + 1, n, p => if digZ ((peekB b p).toNat : Int) = true then
   (if 0 < n ∧ n ≤ (most - ((peekB b p).toNat - 48)) / 10 then numN b most f (10 * n + ((peekB b p).toNat - 48)) (p + 1) else (n, p, true))
  else (n, p, false)
def mostN (neg : Bool) : Nat := if neg = true then 9223372036854775808 else 9223372036854775807
def sgnN (neg : Bool) (n : Nat) : Int := if neg = true then -(n : Int) else (n : Int)
def numP (b : List UInt8) (p : Nat) : NT × Nat × Bool :=
 let neg := decide (peekB b p = 45)
 let p1 := if neg = true then p + 1 else p
 if (!digZ ((peekB b p1).toNat : Int) || (decide (peekB b p1 = 48) && neg)) = true then (zeroN, p1, true)
 else match numN b (mostN neg) (b.length - (p1 + 1)) ((peekB b p1).toNat - 48) (p1 + 1) with
  |(n, q, true) => (zeroN, q, true)
  |(n, q, false) => (mkN intW (sgnN neg n) [] zeroT [], q, false)
theorem b_quo10 (x : Int) : binA .quo (.im (.int .u64 x)) (.im (.int .u64 10)) = some (.im (.int .u64 (IntKind.u64.wrap (x.tdiv 10)))) := by
 simp only [binA,isShift,Bool.false_eq_true,if_false,if_true,binInt,if_neg (show ¬ (10 : Int) = 0 by decide)]
theorem u64w {z : Int} (h : 0 ≤ z ∧ z < 18446744073709551616) : IntKind.u64.wrap z = z := by
 have e : IntKind.u64.wrap z = z % 18446744073709551616 := rfl
 rw [e]; omega
theorem u8w {z : Int} (h : 0 ≤ z ∧ z < 256) : IntKind.u8.wrap z = z := by
 have e : IntKind.u8.wrap z = z % 256 := rfl
 rw [e]; omega
theorem dig_range {n : Int} (h : digZ n = true) : 48 ≤ n ∧ n ≤ 57 := by
 unfold digZ at h
 simpa using h
theorem dig_not {n : Int} (h : digZ n = false) : n < 48 ∨ 57 < n := by
 unfold digZ at h
 simp only [Bool.and_eq_false_iff,decide_eq_false_iff_not] at h
 omega
theorem dig0 : digZ ((0 : UInt8).toNat : Int) = false := by decide
theorem numN_bound (b : List UInt8) (most : Nat) : ∀ f n p, n ≤ most → (numN b most f n p).1 ≤ most
 | 0, n, p, h => h
 | f + 1, n, p, h => by
  unfold numN
  split
  ·split
   ·rename_i hd h2
    have hr := dig_range hd
    have h3 : ((peekB b p).toNat - 48) ≤ 9 := by omega
    refine numN_bound b most f _ _ ?_
    have := h2.2
    omega
   ·exact h
  ·exact h
abbrev zO : HO := .obj none [[.im (.str []), .im (.int .i64 0), .im (.str []), .im (.int .i64 0), .nils, .nils]]
abbrev nO (op txt : List UInt8) (i : Int) : HO := .obj none [[.im (.str op), .im (.int .i64 i), .im (.str txt), .im (.int .i64 0), .nils, .nils]]
section
variable {H : Heap} {ir : Nat} {b : List UInt8}
theorem hp_get (hirl : ir < H.length) (o : HO) (M : Heap) : (H.set ir o ++ M)[ir]? = some o := by rw [get_app (by simpa using hirl)]; exact List.getElem?_set_self hirl
theorem hp_set (hirl : ir < H.length) (o o' : HO) (M : Heap) : (H.set ir o ++ M).set ir o' = H.set ir o' ++ M := by rw [List.set_append_left _ _ (by simpa using hirl), List.set_set]
theorem hp_getN (o x : HO) : (H.set ir o ++ [x])[H.length]? = some x := by rw [List.getElem?_append_right (by simp)]; simp
theorem hp_setN (o x y : HO) : (H.set ir o ++ [x]).set H.length y = H.set ir o ++ [y] := by rw [List.set_append_right _ _ (by simp)]; simp
end
theorem l31 (b : List UInt8) (hb : b.length ≤ 4611686018427387904) (ir : Nat) (H : Heap) (hirl : ir < H.length) (neg : Bool) :
  ∀ (f p n : Nat) (tm : List AV) (n' q : Nat) (bad : Bool), numN b (mostN neg) f n p = (n', q, bad) → b.length ≤ p + f → p ≤ b.length → n ≤ mostN neg → tm.length = 91 → tm.getD 0 undefA = .ptr ir 0 0 → tm.getD 2 undefA = .ptr H.length 0 0 →
   tm.getD 3 undefA = .im (.int .i64 (if neg = true then -1 else 1)) → tm.getD 4 undefA = .im (.int .u64 ((mostN neg : Nat) : Int)) → tm.getD 6 undefA = .im (.int .u64 (n : Int)) →
  ∃ e tm' H', Λ g31_0 tm (H.set ir (objS b p false) ++ [zO]) = some (e, tm', H') ∧ (e = .ret ∧ tm'.length = 91 ∧ tm'.getD 2 undefA = .ptr H.length 0 0 ∧ H' = H.set ir (objS b q bad) ++ [if bad = true then zO else nO intW [] (sgnN neg n')]) := by
 intro f
 induction f with
 | zero =>
  intro p n tm n' q bad hN hf hp hn hlen h0 h2 h3 h4 h6
  simp only [numN,Prod.mk.injEq] at hN
  obtain ⟨rfl, rfl, rfl⟩ := hN
  have hz : peekB b p = 0 := by unfold peekB; rw [List.getElem?_eq_none (by omega)]; rfl
  have c1 := s29 b p ir false (H.set ir (objS b p false) ++ [zO]) (hp_get hirl _ _) hb
  rw [hz] at c1
  have d1 : decide (((0 : UInt8).toNat : Int) < 48) = true := rfl
  have hi : IntKind.i64.wrap ((if neg = true then -1 else 1) * IntKind.i64.wrap (n : Int)) = sgnN neg n := by
   unfold sgnN mostN at *
   cases neg with
   | true =>
    simp only [if_true] at hn ⊢
    by_cases hm : n = 9223372036854775808
    ·subst hm; decide
    ·rw [Go.Abs.Seat.wrap_small (n : Int) (by omega), Go.Abs.Seat.wrap_small _ (by omega)]; omega
   | false =>
    simp only [Bool.false_eq_true,if_false] at hn ⊢
    rw [Go.Abs.Seat.wrap_small (n : Int) (by omega), Go.Abs.Seat.wrap_small _ (by omega)]; omega
  have g1 := hp_get (H := H) hirl
  have g2 := hp_getN (H := H) (ir := ir)
  have g3 := hp_setN (H := H) (ir := ir)
  rw [g31_0_eq]
  simp only [intW,zO,Bool.false_eq_true,if_false] at *
  simp only [w31_0,B0,B1,B2,List.replicate,Nat.reduceAdd,Nat.reduceSub,Nat.reduceLeDiff,Nat.reduceLT,Nat.reduceEqDiff,reduceCtorEq,Int.reduceEq,Int.reduceLT,Int.reduceLE,lenA,hlen,h0,h2,h3,h4,h6,c1,d1,hi,g2,g3,K31_ret]
  exact ⟨_, _, _, rfl, rfl, by simp only [List.length_set,hlen], by simp only [B3,Nat.reduceLT,Nat.reduceEqDiff,hlen,h2], rfl⟩
 | succ f ih =>
  intro p n tm n' q bad hN hf hp hn hlen h0 h2 h3 h4 h6
  have c1 := s29 b p ir false (H.set ir (objS b p false) ++ [zO]) (hp_get hirl _ _) hb
  have hlt := peek_lt (b := b) (p := p)
  have hi : IntKind.i64.wrap ((if neg = true then -1 else 1) * IntKind.i64.wrap (n : Int)) = sgnN neg n := by
   unfold sgnN mostN at *
   cases neg with
   | true =>
    simp only [if_true] at hn ⊢
    by_cases hm : n = 9223372036854775808
    ·subst hm; decide
    ·rw [Go.Abs.Seat.wrap_small (n : Int) (by omega), Go.Abs.Seat.wrap_small _ (by omega)]; omega
   | false =>
    simp only [Bool.false_eq_true,if_false] at hn ⊢
    rw [Go.Abs.Seat.wrap_small (n : Int) (by omega), Go.Abs.Seat.wrap_small _ (by omega)]; omega
  have g1 := hp_get (H := H) hirl
  have g2 := hp_getN (H := H) (ir := ir)
  have g3 := hp_setN (H := H) (ir := ir)
  have g4 := hp_set (H := H) hirl
  have hmost : mostN neg ≤ 9223372036854775808 := by unfold mostN; split <;> omega
  unfold numN at hN
  generalize hpk : peekB b p = c at *
  have hc256 : c.toNat < 256 := c.toNat_lt
  rcases Bool.eq_false_or_eq_true (digZ (c.toNat : Int)) with hd | hd
  ·have hr := dig_range hd
   have e1 : decide ((c.toNat : Int) < 48) = false := decide_eq_false (by omega)
   have e2 : decide (57 < (c.toNat : Int)) = false := decide_eq_false (by omega)
   have w1 : IntKind.u8.wrap ((c.toNat : Int) - 48) = ((c.toNat - 48 : Nat) : Int) := by rw [u8w (by omega)]; omega
   have w2 : IntKind.u64.wrap ((c.toNat - 48 : Nat) : Int) = ((c.toNat - 48 : Nat) : Int) := u64w (by omega)
   have w3 : IntKind.u64.wrap (((mostN neg : Nat) : Int) - ((c.toNat - 48 : Nat) : Int)) = ((mostN neg - (c.toNat - 48) : Nat) : Int) := by
    have : 100 ≤ mostN neg := by unfold mostN; split <;> omega
    rw [u64w (by omega)]; omega
   have w4 : IntKind.u64.wrap ((((mostN neg - (c.toNat - 48) : Nat) : Int)).tdiv 10) = (((mostN neg - (c.toNat - 48)) / 10 : Nat) : Int) := by
    rw [show (((mostN neg - (c.toNat - 48) : Nat) : Int)).tdiv 10 = (((mostN neg - (c.toNat - 48)) / 10 : Nat) : Int) from rfl, u64w (by omega)]
   have hcp : p < b.length := hlt (fun e => by subst e; revert hd; decide)
   rw [hd, if_pos rfl] at hN
   by_cases hok : 0 < n ∧ n ≤ (mostN neg - (c.toNat - 48)) / 10
   ·rw [if_pos hok] at hN
    have e3 : decide ((0 : Int) < (n : Int)) = true := decide_eq_true (by omega)
    have e4 : decide ((n : Int) ≤ (((mostN neg - (c.toNat - 48)) / 10 : Nat) : Int)) = true := decide_eq_true (by omega)
    have w5 : IntKind.u64.wrap (10 * (n : Int)) = ((10 * n : Nat) : Int) := by rw [u64w (by omega)]; omega
    have w6 : IntKind.u64.wrap (((10 * n : Nat) : Int) + ((c.toNat - 48 : Nat) : Int)) = ((10 * n + (c.toNat - 48) : Nat) : Int) := by rw [u64w (by omega)]; omega
    have hwr := wrap_nat (i := p) (by omega)
    have key := fun tm1 => ih (p + 1) (10 * n + (c.toNat - 48)) tm1 n' q bad hN (by omega) (by omega) (by omega)
    rw [g31_0_eq]
    simp only [objS] at *
    simp only [w31_0,B0,B1,B2,List.replicate,Nat.reduceAdd,Nat.reduceSub,Nat.reduceLeDiff,Nat.reduceLT,Nat.reduceEqDiff,reduceCtorEq,Int.reduceEq,Int.reduceLT,Int.reduceLE,lenA,hlen,h0,h2,h3,h4,h6,c1,e1,e2,w1,w2,w3,b_quo10,w4,e3,e4,w5,w6,hwr,g1,g4,K31_goto0]
    refine ex_imp (key _ ?_ ?_ ?_ ?_ ?_ ?_) fun _ _ _ h => h
    all_goals simp only [B3,Nat.reduceLT,Nat.reduceEqDiff,hlen,h0,h2,h3,h4]
   ·rw [if_neg hok] at hN
    simp only [Prod.mk.injEq] at hN
    obtain ⟨rfl, rfl, rfl⟩ := hN
    rw [g31_0_eq]
    simp only [objS,zO,if_true] at *
    rcases Bool.eq_false_or_eq_true (decide ((0 : Int) < (n : Int))) with e3 | e3
    ·have e4 : decide ((n : Int) ≤ (((mostN neg - (c.toNat - 48)) / 10 : Nat) : Int)) = false := decide_eq_false fun h => hok ⟨by have := of_decide_eq_true e3; omega, by omega⟩
     simp only [w31_0,B0,B1,B2,List.replicate,Nat.reduceAdd,Nat.reduceSub,Nat.reduceLeDiff,Nat.reduceLT,Nat.reduceEqDiff,reduceCtorEq,Int.reduceEq,Int.reduceLT,Int.reduceLE,lenA,hlen,h0,h2,h3,h4,h6,c1,e1,e2,w1,w2,w3,b_quo10,w4,e3,e4,g1,g2,g3,g4,K31_ret]
     exact ⟨_, _, _, rfl, rfl, by simp only [List.length_set,hlen], by simp only [B3,Nat.reduceLT,Nat.reduceEqDiff,hlen,h2], rfl⟩
    ·simp only [w31_0,B0,B1,B2,List.replicate,Nat.reduceAdd,Nat.reduceSub,Nat.reduceLeDiff,Nat.reduceLT,Nat.reduceEqDiff,reduceCtorEq,Int.reduceEq,Int.reduceLT,Int.reduceLE,lenA,hlen,h0,h2,h3,h4,h6,c1,e1,e2,w1,w2,e3,g1,g2,g3,g4,K31_ret]
     exact ⟨_, _, _, rfl, rfl, by simp only [List.length_set,hlen], by simp only [B3,Nat.reduceLT,Nat.reduceEqDiff,hlen,h2], rfl⟩
  ·rw [hd, if_neg (by simp)] at hN
   simp only [Prod.mk.injEq] at hN
   obtain ⟨rfl, rfl, rfl⟩ := hN
   rw [g31_0_eq]
   simp only [objS,intW,zO,Bool.false_eq_true,if_false] at *
   rcases dig_not hd with hd | hd
   ·have e1 : decide ((c.toNat : Int) < 48) = true := decide_eq_true hd
    simp only [w31_0,B0,B1,B2,List.replicate,Nat.reduceAdd,Nat.reduceSub,Nat.reduceLeDiff,Nat.reduceLT,Nat.reduceEqDiff,reduceCtorEq,Int.reduceEq,Int.reduceLT,Int.reduceLE,lenA,hlen,h0,h2,h3,h4,h6,c1,e1,hi,g2,g3,K31_ret]
    exact ⟨_, _, _, rfl, rfl, by simp only [List.length_set,hlen], by simp only [B3,Nat.reduceLT,Nat.reduceEqDiff,hlen,h2], rfl⟩
   ·have e1 : decide ((c.toNat : Int) < 48) = false := decide_eq_false (by omega)
    have e2 : decide (57 < (c.toNat : Int)) = true := decide_eq_true hd
    simp only [w31_0,B0,B1,B2,List.replicate,Nat.reduceAdd,Nat.reduceSub,Nat.reduceLeDiff,Nat.reduceLT,Nat.reduceEqDiff,reduceCtorEq,Int.reduceEq,Int.reduceLT,Int.reduceLE,lenA,hlen,h0,h2,h3,h4,h6,c1,e1,e2,hi,g2,g3,K31_ret]
    exact ⟨_, _, _, rfl, rfl, by simp only [List.length_set,hlen], by simp only [B3,Nat.reduceLT,Nat.reduceEqDiff,hlen,h2], rfl⟩
theorem zm1 : ((9223372036854775808 : Nat) : Int) = 9223372036854775808 := _root_.id rfl
theorem zm2 : ((9223372036854775807 : Nat) : Int) = 9223372036854775807 := _root_.id rfl
theorem leave_N {H : Heap} {ir : Nat} {b : List UInt8} {p : Nat} {bad : Bool} (hir : H[ir]? = some (objS b p bad)) (q : Nat) (bd : Bool) (M : Heap) (op txt : List UInt8) (i : Int) :
  leave H false (.agg [.im (.str op), .im (.int .i64 i), .im (.str txt), .im (.int .i64 0), .nils, .nils]) (H.set ir (objS b q bd) ++ M) = (.im (.agg [.str op, .int .i64 i, .str txt, .int .i64 0, .sl 0 [], .sl 0 []]), H.set ir (objS b q bd)) := leave_SM hir rfl rfl
theorem enc_flat (op txt : List UInt8) (i : Int) : encN (mkN op i txt zeroT []) = [.str op, .int .i64 i, .str txt, .int .i64 0, .sl 0 [], .sl 0 []] := _root_.id rfl
theorem s31 (b : List UInt8) (p ir : Nat) (H : Heap) (hir : H[ir]? = some (objS b p false)) (hb : b.length ≤ 4611686018427387904) (hp : p < b.length) :
  L 31 [.ptr ir 0 0] H = some (.im (.agg (encN (numP b p).1)), H.set ir (objS b (numP b p).2.1 (numP b p).2.2)) := by
 have hirl := (List.getElem?_eq_some_iff.1 hir).1
 have hself : H = H.set ir (objS b p false) := (set_same hir).symm
 have c0 : ∀ (q : Nat), L 29 [.ptr ir 0 0] (H.set ir (objS b q false) ++ [zO]) = some (.im (.int .u8 ((peekB b q).toNat : Int)), H.set ir (objS b q false) ++ [zO]) := fun q => s29 b q ir false _ (hp_get hirl _ _) hb
 have hlv := leave_N hir
 have g1 := hp_get (H := H) hirl
 have g2 := hp_getN (H := H) (ir := ir)
 have g3 := hp_setN (H := H) (ir := ir)
 have g4 := hp_set (H := H) hirl
 rw [leq F31]
 obtain ⟨hlen, ha⟩ := enter_at (f := f31) (args := [.ptr ir 0 0]) (Nat.le_of_ble_eq_true rfl)
 have h0 := ha 0 _ rfl
 generalize enterA f31 [.ptr ir 0 0] = tm at *
 change tm.length = 91 at hlen
 have c00 : L 29 [.ptr ir 0 0] (H ++ [zO]) = some (.im (.int .u8 ((peekB b p).toNat : Int)), H ++ [zO]) := by have := c0 p; rwa [← hself] at this
 have g0 : (H ++ [zO])[ir]? = some (objS b p false) := by rw [get_app hirl]; exact hir
 have g5 : ∀ o M, (H ++ M).set ir o = H.set ir o ++ M := fun o M => by rw [List.set_append_left _ _ hirl]
 have thenS : ∀ (e : AEx) (tm : List AV) (H' : Heap) (K : AEx → List AV → Heap → Option (AV × Heap)), thenL (some (e, tm, H')) K = K e tm H' := fun _ _ _ _ => rfl
 unfold numP
 simp only
 by_cases hsg : peekB b p = 45
 ·-- with a sign
  have hs : decide (peekB b p = 45) = true := decide_eq_true hsg
  have hs2 : decide (((peekB b p).toNat : Int) = 45) = true := (byte_eq (peekB b p) 45).trans hs
  rw [hs]
  simp only [if_true,Bool.false_eq_true,if_false,Bool.and_true,Bool.and_false,Bool.or_false]
  have hwr0 := wrap_nat (i := p) (by omega)
  have hwr := wrap_nat (i := (p + 1)) (by omega)
  have c1 := c0 p
  have c2 := c0 (p + 1)
  have hlt := peek_lt (b := b) (p := (p + 1))
  generalize hc : peekB b (p + 1) = c at *
  have hc256 : c.toNat < 256 := c.toNat_lt
  have key := fun n q bad tm1 hN => l31 b hb ir H hirl true (b.length - ((p + 1) + 1)) ((p + 1) + 1) (c.toNat - 48) tm1 n q bad hN
  rcases Bool.eq_false_or_eq_true (digZ (c.toNat : Int)) with hd | hd
  ·have hr := dig_range hd
   have e1 : decide ((c.toNat : Int) < 48) = false := decide_eq_false (by omega)
   have e2 : decide (57 < (c.toNat : Int)) = false := decide_eq_false (by omega)
   have w1 : IntKind.u8.wrap ((c.toNat : Int) - 48) = ((c.toNat - 48 : Nat) : Int) := by rw [u8w (by omega)]; omega
   have w2 : IntKind.u64.wrap ((c.toNat - 48 : Nat) : Int) = ((c.toNat - 48 : Nat) : Int) := u64w (by omega)
   have hcp : (p + 1) < b.length := hlt (fun e => by subst e; revert hd; decide)
   rw [hd]
   simp only [Bool.not_true,Bool.false_or]
   have e3' : decide ((c.toNat : Int) = 48) = decide (c = 48) := byte_eq c 48
   rcases Bool.eq_false_or_eq_true (decide (c = 48)) with e3 | e3
   ·rw [e3] at e3'
    rw [e3, if_pos rfl]
    simp only [zeroN,enc_flat]
    simp only [objS,zO] at *
    simp only [f31,e31_0,c31_0_eq,s31b,B0,B1,B2,List.replicate,Nat.reduceAdd,Nat.reduceSub,Nat.reduceLeDiff,Nat.reduceLT,Nat.reduceEqDiff,reduceCtorEq,Int.reduceEq,Int.reduceLT,Int.reduceLE,lenA,endK,resA,tupA,hlen,h0,c00,c1,c2,g0,g5,hs2,hwr0,e1,e2,e3',g1,g2,g3,g4,K31_ret,thenS,hlv]
   ·rw [e3] at e3'
    rw [e3, if_neg (by simp)]
    cases hN : numN b (mostN true) (b.length - ((p + 1) + 1)) (c.toNat - 48) ((p + 1) + 1) with
    | mk n qb =>
     obtain ⟨q, bad⟩ := qb
     have key := key n q bad
     simp only [mostN,if_true,Bool.false_eq_true,if_false,zm1,zm2] at hN key
     have key := fun tm1 => key tm1 hN (by omega) (by omega) (by omega)
     simp only [objS,zO] at *
     simp only [f31,e31_0,c31_0_eq,s31b,B0,B1,B2,List.replicate,Nat.reduceAdd,Nat.reduceSub,Nat.reduceLeDiff,Nat.reduceLT,Nat.reduceEqDiff,reduceCtorEq,Int.reduceEq,Int.reduceLT,Int.reduceLE,lenA,hlen,h0,c00,c1,c2,g0,g5,hs2,hwr0,hwr,e1,e2,e3',w1,w2,g1,g2,g3,g4]
     rw [← g31_0_eq]
     generalize hr2 : thenL (Λ g31_0 _ _) _ = r
     refine Exists.elim (thenL_inv hr2 (key _ ?_ ?_ ?_ ?_ ?_ ?_)) ?_
     iterate 6 simp only [B3,Nat.reduceLT,Nat.reduceEqDiff,hlen,h0]
     clear hr2 key
     rintro e ⟨tm1, H1, ⟨rfl, k1, k2, rfl⟩, rfl⟩
     cases bad with
     | true =>
      simp only [if_true,zeroN,enc_flat]
      simp only [B0,B1,B2,List.replicate,Nat.reduceAdd,Nat.reduceSub,Nat.reduceLeDiff,Nat.reduceLT,Nat.reduceEqDiff,reduceCtorEq,Int.reduceEq,Int.reduceLT,Int.reduceLE,lenA,endK,resA,tupA,k1,k2,g2,hlv]
     | false =>
      simp only [Bool.false_eq_true,if_false,enc_flat,nO]
      simp only [B0,B1,B2,List.replicate,Nat.reduceAdd,Nat.reduceSub,Nat.reduceLeDiff,Nat.reduceLT,Nat.reduceEqDiff,reduceCtorEq,Int.reduceEq,Int.reduceLT,Int.reduceLE,lenA,endK,resA,tupA,k1,k2,g2,hlv]
  ·rw [hd]
   simp only [Bool.not_false,Bool.true_or,if_true,zeroN,enc_flat]
   simp only [objS,zO] at *
   rcases dig_not hd with hd | hd
   ·have e1 : decide ((c.toNat : Int) < 48) = true := decide_eq_true hd
    simp only [f31,e31_0,c31_0_eq,s31b,B0,B1,B2,List.replicate,Nat.reduceAdd,Nat.reduceSub,Nat.reduceLeDiff,Nat.reduceLT,Nat.reduceEqDiff,reduceCtorEq,Int.reduceEq,Int.reduceLT,Int.reduceLE,lenA,endK,resA,tupA,hlen,h0,c00,c1,c2,g0,g5,hs2,hwr0,e1,g1,g2,g3,g4,K31_ret,thenS,hlv]
   ·have e1 : decide ((c.toNat : Int) < 48) = false := decide_eq_false (by omega)
    have e2 : decide (57 < (c.toNat : Int)) = true := decide_eq_true hd
    simp only [f31,e31_0,c31_0_eq,s31b,B0,B1,B2,List.replicate,Nat.reduceAdd,Nat.reduceSub,Nat.reduceLeDiff,Nat.reduceLT,Nat.reduceEqDiff,reduceCtorEq,Int.reduceEq,Int.reduceLT,Int.reduceLE,lenA,endK,resA,tupA,hlen,h0,c00,c1,c2,g0,g5,hs2,hwr0,e1,e2,g1,g2,g3,g4,K31_ret,thenS,hlv]
 ·-- without a sign
  have hs : decide (peekB b p = 45) = false := decide_eq_false hsg
  have hs2 : decide (((peekB b p).toNat : Int) = 45) = false := (byte_eq (peekB b p) 45).trans hs
  rw [hs]
  simp only [if_true,Bool.false_eq_true,if_false,Bool.and_true,Bool.and_false,Bool.or_false]
  have hwr0 := wrap_nat (i := p) (by omega)
  have hwr := wrap_nat (i := p) (by omega)
  have c1 := c0 p
  have c2 := c0 p
  have hlt := peek_lt (b := b) (p := p)
  generalize hc : peekB b p = c at *
  have hc256 : c.toNat < 256 := c.toNat_lt
  have key := fun n q bad tm1 hN => l31 b hb ir H hirl false (b.length - (p + 1)) (p + 1) (c.toNat - 48) tm1 n q bad hN
  rcases Bool.eq_false_or_eq_true (digZ (c.toNat : Int)) with hd | hd
  ·have hr := dig_range hd
   have e1 : decide ((c.toNat : Int) < 48) = false := decide_eq_false (by omega)
   have e2 : decide (57 < (c.toNat : Int)) = false := decide_eq_false (by omega)
   have w1 : IntKind.u8.wrap ((c.toNat : Int) - 48) = ((c.toNat - 48 : Nat) : Int) := by rw [u8w (by omega)]; omega
   have w2 : IntKind.u64.wrap ((c.toNat - 48 : Nat) : Int) = ((c.toNat - 48 : Nat) : Int) := u64w (by omega)
   have hcp : p < b.length := hlt (fun e => by subst e; revert hd; decide)
   rw [hd]
   simp only [Bool.not_true,Bool.false_or]
   have e3' : decide ((c.toNat : Int) = 48) = decide (c = 48) := byte_eq c 48
   rcases Bool.eq_false_or_eq_true (decide (c = 48)) with e3 | e3
   all_goals rw [e3] at e3'
   all_goals
    cases hN : numN b (mostN false) (b.length - (p + 1)) (c.toNat - 48) (p + 1) with
    | mk n qb =>
     obtain ⟨q, bad⟩ := qb
     have key := key n q bad
     simp only [mostN,if_true,Bool.false_eq_true,if_false,zm1,zm2] at hN key
     have key := fun tm1 => key tm1 hN (by omega) (by omega) (by omega)
     simp only [objS,zO] at *
     simp only [f31,e31_0,c31_0_eq,s31b,B0,B1,B2,List.replicate,Nat.reduceAdd,Nat.reduceSub,Nat.reduceLeDiff,Nat.reduceLT,Nat.reduceEqDiff,reduceCtorEq,Int.reduceEq,Int.reduceLT,Int.reduceLE,lenA,hlen,h0,c00,c1,c2,g0,g5,hs2,hwr0,hwr,e1,e2,e3',w1,w2,g1,g2,g3,g4]
     rw [← g31_0_eq]
     generalize hr2 : thenL (Λ g31_0 _ _) _ = r
     refine Exists.elim (thenL_inv hr2 (key _ ?_ ?_ ?_ ?_ ?_ ?_)) ?_
     iterate 6 simp only [B3,Nat.reduceLT,Nat.reduceEqDiff,hlen,h0]
     clear hr2 key
     rintro e ⟨tm1, H1, ⟨rfl, k1, k2, rfl⟩, rfl⟩
     cases bad with
     | true =>
      simp only [if_true,zeroN,enc_flat]
      simp only [B0,B1,B2,List.replicate,Nat.reduceAdd,Nat.reduceSub,Nat.reduceLeDiff,Nat.reduceLT,Nat.reduceEqDiff,reduceCtorEq,Int.reduceEq,Int.reduceLT,Int.reduceLE,lenA,endK,resA,tupA,k1,k2,g2,hlv]
     | false =>
      simp only [Bool.false_eq_true,if_false,enc_flat,nO]
      simp only [B0,B1,B2,List.replicate,Nat.reduceAdd,Nat.reduceSub,Nat.reduceLeDiff,Nat.reduceLT,Nat.reduceEqDiff,reduceCtorEq,Int.reduceEq,Int.reduceLT,Int.reduceLE,lenA,endK,resA,tupA,k1,k2,g2,hlv]
  ·rw [hd]
   simp only [Bool.not_false,Bool.true_or,if_true,zeroN,enc_flat]
   simp only [objS,zO] at *
   rcases dig_not hd with hd | hd
   ·have e1 : decide ((c.toNat : Int) < 48) = true := decide_eq_true hd
    simp only [f31,e31_0,c31_0_eq,s31b,B0,B1,B2,List.replicate,Nat.reduceAdd,Nat.reduceSub,Nat.reduceLeDiff,Nat.reduceLT,Nat.reduceEqDiff,reduceCtorEq,Int.reduceEq,Int.reduceLT,Int.reduceLE,lenA,endK,resA,tupA,hlen,h0,c00,c1,c2,g0,g5,hs2,hwr0,e1,g1,g2,g3,g4,K31_ret,thenS,hlv]
   ·have e1 : decide ((c.toNat : Int) < 48) = false := decide_eq_false (by omega)
    have e2 : decide (57 < (c.toNat : Int)) = true := decide_eq_true hd
    simp only [f31,e31_0,c31_0_eq,s31b,B0,B1,B2,List.replicate,Nat.reduceAdd,Nat.reduceSub,Nat.reduceLeDiff,Nat.reduceLT,Nat.reduceEqDiff,reduceCtorEq,Int.reduceEq,Int.reduceLT,Int.reduceLE,lenA,endK,resA,tupA,hlen,h0,c00,c1,c2,g0,g5,hs2,hwr0,e1,e2,g1,g2,g3,g4,K31_ret,thenS,hlv]
end Go.Abs.Seat
end
section
set_option linter.unusedVariables false
set_option linter.unusedSimpArgs false
namespace Go.Abs.Seat
open Go.Proofs
theorem b_quoI (x : Int) : binA .quo (.im (.int .i64 x)) (.im (.int .i64 10)) = some (.im (.int .i64 (IntKind.i64.wrap (x.tdiv 10)))) := by
 simp only [binA,isShift,Bool.false_eq_true,if_false,if_true,binInt,if_neg (show ¬ (10 : Int) = 0 by decide)]
theorem tdiv_neg (x : Nat) : (-(x : Int)).tdiv 10 = -((x / 10 : Nat) : Int) := by rw [Int.neg_tdiv]; rfl
theorem l38 (b : List UInt8) (hb : b.length ≤ 4611686018427387904) (neg : Bool) (from_ : Nat) (H : Heap) :
  ∀ (f p n : Nat) (tm : List AV) (n' q : Nat) (bad : Bool), numN b (mostN neg) f n p = (n', q, bad) → b.length ≤ p + f → p ≤ b.length → n ≤ mostN neg → from_ < p → tm.length = 100 → tm.getD 0 undefA = .im (.str b) → tm.getD 1 undefA = .im (.int .i64 (p : Int)) →
   tm.getD 7 undefA = .im (.bool neg) → tm.getD 8 undefA = .im (.int .i64 (-(n : Int))) → tm.getD 9 undefA = .im (.int .i64 (from_ : Int)) →
  ∃ e tm' H', Λ c38_0 tm H = some (e, tm', H') ∧ (tm'.length = 100 ∧ H' = H ∧ ((bad = true ∧ e = .ret ∧ tm'.getD 4 undefA = .im (.int .i64 0) ∧ tm'.getD 5 undefA = .im (.int .i64 (q : Int)) ∧ tm'.getD 6 undefA = .im (.bool false)) ∨
   (bad = false ∧ e = .exit 0 ∧ tm'.getD 1 undefA = .im (.int .i64 (q : Int)) ∧ tm'.getD 7 undefA = .im (.bool neg) ∧ tm'.getD 8 undefA = .im (.int .i64 (-(n' : Int))))))
 | f, p, n, tm, n', q, bad, hN, hf, hp, hn, hfr, hlen, h0, h1, h7, h8, h9 => by
  have p2 : (0 : Int) ≤ (p : Int) := Int.natCast_nonneg p
  have hmost : mostN neg ≤ 9223372036854775808 ∧ 9223372036854775807 ≤ mostN neg := by unfold mostN; split <;> omega
  have stop : (p < b.length → digZ ((peekB b p).toNat : Int) = false) → n' = n ∧ q = p ∧ bad = false := by
   intro h
   have hd : digZ ((peekB b p).toNat : Int) = false := by
    by_cases hk : p < b.length
    ·exact h hk
    ·have : peekB b p = 0 := by unfold peekB; rw [List.getElem?_eq_none (by omega)]; rfl
     rw [this]; exact dig0
   cases f with
   | zero => simp only [numN,Prod.mk.injEq] at hN; exact ⟨hN.1.symm, hN.2.1.symm, hN.2.2.symm⟩
   | succ f =>
    unfold numN at hN
    rw [hd, if_neg (by simp)] at hN
    simp only [Prod.mk.injEq] at hN; exact ⟨hN.1.symm, hN.2.1.symm, hN.2.2.symm⟩
  by_cases hk : p < b.length
  ·have hc : decide ((p : Int) < (b.length : Int)) = true := decide_eq_true (by omega)
   have hsk := peek_some hk
   have c1 := fun H => s37 ((peekB b p).toNat : Int) H
   have hwr := wrap_nat (i := p) (by omega)
   cases f with
   | zero => omega
   | succ f =>
    generalize hpk : peekB b p = c at *
    have hc256 : c.toNat < 256 := c.toNat_lt
    rcases Bool.eq_false_or_eq_true (digZ (c.toNat : Int)) with hd | hd
    ·have hr := dig_range hd
     unfold numN at hN
     rw [hpk, hd, if_pos rfl] at hN
     rw [hd] at c1
     generalize hdd : c.toNat - 48 = d at *
     have hd9 : d ≤ 9 := by omega
     have w1 : IntKind.u8.wrap ((c.toNat : Int) - 48) = (d : Int) := by rw [u8w (by omega)]; omega
     have w2 : IntKind.i64.wrap (d : Int) = (d : Int) := Go.Abs.Seat.wrap_small _ (by omega)
     have w3 : IntKind.i64.wrap (-9223372036854775808 + (d : Int)) = -((9223372036854775808 - d : Nat) : Int) := by rw [Go.Abs.Seat.wrap_small _ (by omega)]; omega
     have w4 : IntKind.i64.wrap ((-((9223372036854775808 - d : Nat) : Int)).tdiv 10) = -(((9223372036854775808 - d) / 10 : Nat) : Int) := by rw [tdiv_neg, Go.Abs.Seat.wrap_small _ (by omega)]
     have e1 : decide ((from_ : Int) < (p : Int)) = true := decide_eq_true (by omega)
     by_cases hz : n = 0
     ·rw [if_neg (by omega)] at hN
      simp only [Prod.mk.injEq] at hN
      obtain ⟨rfl, rfl, rfl⟩ := hN
      have e2 : decide (-(n : Int) = 0) = true := decide_eq_true (by omega)
      rw [l38_0]
      simp only [b38_0,B0,B1,B2,List.replicate,Nat.reduceAdd,Nat.reduceSub,Nat.reduceLeDiff,Nat.reduceLT,Nat.reduceEqDiff,reduceCtorEq,Int.reduceEq,Int.reduceLT,Int.reduceLE,lenA,intOfA,byteDat,Int.toNat_natCast,hlen,h0,h1,h7,h8,h9,hc,p2,hsk,c1,w1,w2,e1,e2]
      refine ⟨_, _, _, rfl, by simp only [List.length_set,hlen], rfl, .inl ?_⟩
      simp only [B3,Nat.reduceLT,Nat.reduceEqDiff,hlen,true_and,and_self]
     ·have e2 : decide (-(n : Int) = 0) = false := decide_eq_false (by omega)
      by_cases hgt : (9223372036854775808 - d) / 10 < n
      ·have hno : ¬ (0 < n ∧ n ≤ (mostN neg - d) / 10) := by omega
       rw [if_neg hno] at hN
       simp only [Prod.mk.injEq] at hN
       obtain ⟨rfl, rfl, rfl⟩ := hN
       have e3 : decide (-(n : Int) < -(((9223372036854775808 - d) / 10 : Nat) : Int)) = true := decide_eq_true (by omega)
       rw [l38_0]
       simp only [b38_0,B0,B1,B2,List.replicate,Nat.reduceAdd,Nat.reduceSub,Nat.reduceLeDiff,Nat.reduceLT,Nat.reduceEqDiff,reduceCtorEq,Int.reduceEq,Int.reduceLT,Int.reduceLE,lenA,intOfA,byteDat,Int.toNat_natCast,hlen,h0,h1,h7,h8,h9,hc,p2,hsk,c1,w1,w2,w3,b_quoI,w4,e1,e2,e3]
       refine ⟨_, _, _, rfl, by simp only [List.length_set,hlen], rfl, .inl ?_⟩
       simp only [B3,Nat.reduceLT,Nat.reduceEqDiff,hlen,true_and,and_self]
      ·have e3 : decide (-(n : Int) < -(((9223372036854775808 - d) / 10 : Nat) : Int)) = false := decide_eq_false (by omega)
       have w5 : IntKind.i64.wrap (-(n : Int) * 10) = -((10 * n : Nat) : Int) := by rw [Go.Abs.Seat.wrap_small _ (by omega)]; omega
       have e4 : decide (-((10 * n : Nat) : Int) < -((9223372036854775808 - d : Nat) : Int)) = false := decide_eq_false (by omega)
       have w6 : IntKind.i64.wrap (-((10 * n : Nat) : Int) - (d : Int)) = -((10 * n + d : Nat) : Int) := by rw [Go.Abs.Seat.wrap_small _ (by omega)]; omega
       cases neg with
       | true =>
        rw [if_pos (by simp only [mostN,if_true]; omega)] at hN
        have key := fun tm1 => l38 b hb true from_ H f (p + 1) (10 * n + d) tm1 n' q bad hN (by omega) (by omega) (by simp only [mostN,if_true]; omega) (by omega)
        rw [l38_0]
        simp only [b38_0,B0,B1,B2,List.replicate,Nat.reduceAdd,Nat.reduceSub,Nat.reduceLeDiff,Nat.reduceLT,Nat.reduceEqDiff,reduceCtorEq,Int.reduceEq,Int.reduceLT,Int.reduceLE,lenA,intOfA,byteDat,Int.toNat_natCast,hlen,h0,h1,h7,h8,h9,hc,p2,hsk,c1,w1,w2,w3,b_quoI,w4,w5,w6,e1,e2,e3,e4,hwr]
        refine ex_imp (key _ ?_ ?_ ?_ ?_ ?_ ?_) fun _ _ _ h => h
        all_goals simp only [B3,Nat.reduceLT,Nat.reduceEqDiff,hlen,h0,h7,h9]
       | false =>
        by_cases hlast : 10 * n + d = 9223372036854775808
        ·rw [if_neg (by simp only [mostN,Bool.false_eq_true,if_false]; omega)] at hN
         simp only [Prod.mk.injEq] at hN
         obtain ⟨rfl, rfl, rfl⟩ := hN
         have e5 : decide (-((10 * n + d : Nat) : Int) = -9223372036854775808) = true := decide_eq_true (by omega)
         rw [l38_0]
         simp only [b38_0,B0,B1,B2,List.replicate,Nat.reduceAdd,Nat.reduceSub,Nat.reduceLeDiff,Nat.reduceLT,Nat.reduceEqDiff,reduceCtorEq,Int.reduceEq,Int.reduceLT,Int.reduceLE,lenA,intOfA,byteDat,Int.toNat_natCast,hlen,h0,h1,h7,h8,h9,hc,p2,hsk,c1,w1,w2,w3,b_quoI,w4,w5,w6,e1,e2,e3,e4,e5]
         refine ⟨_, _, _, rfl, by simp only [List.length_set,hlen], rfl, .inl ?_⟩
         simp only [B3,Nat.reduceLT,Nat.reduceEqDiff,hlen,true_and,and_self]
        ·rw [if_pos (by simp only [mostN,Bool.false_eq_true,if_false]; omega)] at hN
         have e5 : decide (-((10 * n + d : Nat) : Int) = -9223372036854775808) = false := decide_eq_false (by omega)
         have key := fun tm1 => l38 b hb false from_ H f (p + 1) (10 * n + d) tm1 n' q bad hN (by omega) (by omega) (by simp only [mostN,Bool.false_eq_true,if_false]; omega) (by omega)
         rw [l38_0]
         simp only [b38_0,B0,B1,B2,List.replicate,Nat.reduceAdd,Nat.reduceSub,Nat.reduceLeDiff,Nat.reduceLT,Nat.reduceEqDiff,reduceCtorEq,Int.reduceEq,Int.reduceLT,Int.reduceLE,lenA,intOfA,byteDat,Int.toNat_natCast,hlen,h0,h1,h7,h8,h9,hc,p2,hsk,c1,w1,w2,w3,b_quoI,w4,w5,w6,e1,e2,e3,e4,e5,hwr]
         refine ex_imp (key _ ?_ ?_ ?_ ?_ ?_ ?_) fun _ _ _ h => h
         all_goals simp only [B3,Nat.reduceLT,Nat.reduceEqDiff,hlen,h0,h7,h9]
    ·obtain ⟨rfl, rfl, rfl⟩ := stop fun _ => hd
     rw [hd] at c1
     rw [l38_0]
     simp only [b38_0,B0,B1,B2,List.replicate,Nat.reduceAdd,Nat.reduceSub,Nat.reduceLeDiff,Nat.reduceLT,Nat.reduceEqDiff,reduceCtorEq,Int.reduceEq,Int.reduceLT,Int.reduceLE,lenA,intOfA,byteDat,Int.toNat_natCast,hlen,h0,h1,h7,h8,h9,hc,p2,hsk,c1]
     refine ⟨_, _, _, rfl, by simp only [List.length_set,hlen], rfl, .inr ?_⟩
     simp only [B3,Nat.reduceLT,Nat.reduceEqDiff,hlen,h1,h7,h8,true_and,and_self]
  ·have hc : decide ((p : Int) < (b.length : Int)) = false := decide_eq_false (by omega)
   obtain ⟨rfl, rfl, rfl⟩ := stop fun h => absurd h hk
   rw [l38_0]
   simp only [b38_0,B0,B1,B2,List.replicate,Nat.reduceAdd,Nat.reduceSub,Nat.reduceLeDiff,Nat.reduceLT,Nat.reduceEqDiff,reduceCtorEq,Int.reduceEq,Int.reduceLT,Int.reduceLE,lenA,hlen,h0,h1,h7,h8,h9,hc]
   refine ⟨_, _, _, rfl, by simp only [List.length_set,hlen], rfl, .inr ?_⟩
   simp only [B3,Nat.reduceLT,Nat.reduceEqDiff,hlen,h1,h7,h8,true_and,and_self]
termination_by f => f
theorem s38 (b : List UInt8) (p : Nat) (hb : b.length ≤ 4611686018427387904) (hp : p < b.length) (H : Heap) :
  ∃ v, L 38 [.im (.str b), .im (.int .i64 (p : Int))] H = some (.tup [.im (.int .i64 v), .im (.int .i64 ((numP b p).2.1 : Int)), .im (.bool (!(numP b p).2.2))], H) ∧ ((numP b p).2.2 = false → (numP b p).1 = mkN intW v [] zeroT []) := by
 have p2 : (0 : Int) ≤ (p : Int) := Int.natCast_nonneg p
 have hsk := peek_some hp
 have hlv : ∀ v q k, leave H false (.tup [.im (.int .i64 v), .im (.int .i64 q), .im (.bool k)]) H = (.tup [.im (.int .i64 v), .im (.int .i64 q), .im (.bool k)], H) := fun v q k => by
  have := leave_deg (H := H) (M := []) (r := .tup [.im (.int .i64 v), .im (.int .i64 q), .im (.bool k)]) rfl rfl
  rwa [List.append_nil] at this
 rw [leq F38]
 obtain ⟨hlen, ha⟩ := enter_at (f := f38) (args := [.im (.str b), .im (.int .i64 (p : Int))]) (Nat.le_of_ble_eq_true rfl)
 have h0 := ha 0 _ rfl
 have h1 := ha 1 _ rfl
 generalize enterA f38 [.im (.str b), .im (.int .i64 (p : Int))] = tm at *
 change tm.length = 100 at hlen
 unfold numP
 simp only
 have hwr0 := wrap_nat (i := p) (by omega)
 by_cases hsg : peekB b p = 45
 ·have hs : decide (peekB b p = 45) = true := decide_eq_true hsg
  have hs2 : decide (((peekB b p).toNat : Int) = 45) = true := (byte_eq (peekB b p) 45).trans hs
  rw [hs]
  simp only [if_true,Bool.false_eq_true,if_false,Bool.and_true,Bool.and_false,Bool.or_false]
  have q2 : (0 : Int) ≤ (((p + 1) : Nat) : Int) := Int.natCast_nonneg _
  by_cases hk : (p + 1) < b.length
  ·have hc : decide ((b.length : Int) ≤ (((p + 1) : Nat) : Int)) = false := decide_eq_false (by omega)
   have hc' : decide ((((p + 1) : Nat) : Int) < (b.length : Int)) = true := decide_eq_true (by omega)
   have hsk1 := peek_some hk
   have c1 := fun H => s37 ((peekB b (p + 1)).toNat : Int) H
   have hwr := wrap_nat (i := (p + 1)) (by omega)
   generalize hpc : peekB b (p + 1) = c at *
   have hc256 : c.toNat < 256 := c.toNat_lt
   have e3' : decide ((c.toNat : Int) = 48) = decide (c = 48) := byte_eq c 48
   rcases Bool.eq_false_or_eq_true (digZ (c.toNat : Int)) with hd | hd
   ·have hr := dig_range hd
    rw [hd] at c1 ⊢
    simp only [Bool.not_true,Bool.false_or]
    have w1 : IntKind.u8.wrap ((c.toNat : Int) - 48) = ((c.toNat - 48 : Nat) : Int) := by rw [u8w (by omega)]; omega
    have w2 : IntKind.i64.wrap ((c.toNat - 48 : Nat) : Int) = ((c.toNat - 48 : Nat) : Int) := Go.Abs.Seat.wrap_small _ (by omega)
    have w3 : IntKind.i64.wrap (-9223372036854775808 + ((c.toNat - 48 : Nat) : Int)) = -((9223372036854775808 - (c.toNat - 48) : Nat) : Int) := by rw [Go.Abs.Seat.wrap_small _ (by omega)]; omega
    have w4 : IntKind.i64.wrap ((-((9223372036854775808 - (c.toNat - 48) : Nat) : Int)).tdiv 10) = -(((9223372036854775808 - (c.toNat - 48)) / 10 : Nat) : Int) := by rw [tdiv_neg, Go.Abs.Seat.wrap_small _ (by omega)]
    have w5 : IntKind.i64.wrap (0 * 10) = 0 := rfl
    have w6 : IntKind.i64.wrap (0 - ((c.toNat - 48 : Nat) : Int)) = -((c.toNat - 48 : Nat) : Int) := by rw [Go.Abs.Seat.wrap_small _ (by omega)]; omega
    have o1 : decide ((((p + 1) : Nat) : Int) < (((p + 1) : Nat) : Int)) = false := decide_eq_false (by omega)
    have o2 : decide ((0 : Int) < -(((9223372036854775808 - (c.toNat - 48)) / 10 : Nat) : Int)) = false := decide_eq_false (by omega)
    have o3 : decide ((0 : Int) < -((9223372036854775808 - (c.toNat - 48) : Nat) : Int)) = false := decide_eq_false (by omega)
    have o4 : decide (-((c.toNat - 48 : Nat) : Int) = -9223372036854775808) = false := decide_eq_false (by omega)
    rcases Bool.eq_false_or_eq_true (decide (c = 48)) with e3 | e3
    ·rw [e3] at e3'
     rw [e3]
     simp only [if_true,Bool.not_true]
     refine ⟨0, ?_, fun h => by simp at h⟩
     simp only [f38,B0,B1,B2,List.replicate,Nat.reduceAdd,Nat.reduceSub,Nat.reduceLeDiff,Nat.reduceLT,Nat.reduceEqDiff,reduceCtorEq,Int.reduceEq,Int.reduceLT,Int.reduceLE,lenA,endK,resA,tupA,intOfA,byteDat,Int.toNat_natCast,hlen,h0,h1,p2,hsk,hs2,hwr0,hc,q2,hsk1,c1,e3',hlv]
    ·rw [e3] at e3'
     rw [e3]
     simp only [Bool.false_eq_true,if_false]
     cases hN : numN b (mostN true) (b.length - ((p + 1) + 1)) (c.toNat - 48) ((p + 1) + 1) with
         | mk n qb =>
          obtain ⟨q, bad⟩ := qb
          have key := fun tm1 => l38 b hb true (p + 1) H (b.length - ((p + 1) + 1)) ((p + 1) + 1) (c.toNat - 48) tm1 n q bad hN (by omega) (by omega) (by simp only [mostN,if_true,Bool.false_eq_true,if_false]; omega) (by omega)
          have hbd := numN_bound b (mostN true) (b.length - ((p + 1) + 1)) (c.toNat - 48) ((p + 1) + 1) (by simp only [mostN,if_true,Bool.false_eq_true,if_false]; omega)
          rw [hN] at hbd
          simp only [mostN,if_true,Bool.false_eq_true,if_false] at hbd
          have run : ∃ v, exec0 L Λ f38.code tm H (endK f38 H) = some (.tup [.im (.int .i64 v), .im (.int .i64 (q : Int)), .im (.bool (!bad))], H) ∧ (bad = false → v = sgnN true n) := by
           simp only [f38,e38_0,B0,B1,B2,List.replicate,Nat.reduceAdd,Nat.reduceSub,Nat.reduceLeDiff,Nat.reduceLT,Nat.reduceEqDiff,reduceCtorEq,Int.reduceEq,Int.reduceLT,Int.reduceLE,lenA,intOfA,byteDat,Int.toNat_natCast,hlen,h0,h1,p2,hsk,hs2,hwr0,hc,hc',q2,hsk1,c1,e3']
           rw [l38_0]
           simp only [b38_0,B0,B1,B2,List.replicate,Nat.reduceAdd,Nat.reduceSub,Nat.reduceLeDiff,Nat.reduceLT,Nat.reduceEqDiff,reduceCtorEq,Int.reduceEq,Int.reduceLT,Int.reduceLE,lenA,intOfA,byteDat,Int.toNat_natCast,hlen,h0,h1,p2,hsk,hs2,hwr0,hc,hc',q2,hsk1,c1,w1,w2,w3,b_quoI,w4,w5,w6,o1,o2,o3,o4,hwr]
           generalize hr2 : thenL (Λ c38_0 _ _) _ = r
           refine Exists.elim (thenL_inv hr2 (key _ ?_ ?_ ?_ ?_ ?_ ?_)) ?_
           iterate 6 simp only [B3,Nat.reduceLT,Nat.reduceEqDiff,hlen,h0,h1]
           clear hr2 key
           rintro e ⟨tm1, H1, ⟨k1, rfl, ⟨rfl, rfl, k2, k3, k4⟩ | ⟨rfl, rfl, k2, k3, k4⟩⟩, rfl⟩
           ·refine ⟨0, ?_, fun h => by simp at h⟩
            simp only [B0,B1,B2,List.replicate,Nat.reduceAdd,Nat.reduceSub,Nat.reduceLeDiff,Nat.reduceLT,Nat.reduceEqDiff,reduceCtorEq,Int.reduceEq,Int.reduceLT,Int.reduceLE,lenA,endK,resA,tupA,k1,k2,k3,k4,hlv,Bool.not_true]
           ·refine ⟨sgnN true n, ?_, fun _ => rfl⟩
            simp only [sgnN,if_true]
            simp only [B0,B1,B2,List.replicate,Nat.reduceAdd,Nat.reduceSub,Nat.reduceLeDiff,Nat.reduceLT,Nat.reduceEqDiff,reduceCtorEq,Int.reduceEq,Int.reduceLT,Int.reduceLE,lenA,endK,resA,tupA,k1,k2,k3,k4,hlv,Bool.not_false]
          obtain ⟨v, r1, r2⟩ := run
          refine ⟨v, ?_, ?_⟩
          ·rw [r1]; cases bad <;> rfl
          ·intro h
           cases bad with
           | true => simp at h
           | false => have e := r2 rfl; subst e; rfl
   ·rw [hd] at c1 ⊢
    simp only [Bool.not_false,Bool.true_or,if_true,Bool.not_true]
    refine ⟨0, ?_, fun h => by simp at h⟩
    simp only [f38,B0,B1,B2,List.replicate,Nat.reduceAdd,Nat.reduceSub,Nat.reduceLeDiff,Nat.reduceLT,Nat.reduceEqDiff,reduceCtorEq,Int.reduceEq,Int.reduceLT,Int.reduceLE,lenA,endK,resA,tupA,intOfA,byteDat,Int.toNat_natCast,hlen,h0,h1,p2,hsk,hs2,hwr0,hc,q2,hsk1,c1,hlv]
  ·have hc : decide ((b.length : Int) ≤ (((p + 1) : Nat) : Int)) = true := decide_eq_true (by omega)
   have hz : peekB b (p + 1) = 0 := by unfold peekB; rw [List.getElem?_eq_none (by omega)]; rfl
   rw [hz, dig0]
   simp only [Bool.not_false,Bool.true_or,if_true,Bool.not_true]
   refine ⟨0, ?_, fun h => by simp at h⟩
   simp only [f38,B0,B1,B2,List.replicate,Nat.reduceAdd,Nat.reduceSub,Nat.reduceLeDiff,Nat.reduceLT,Nat.reduceEqDiff,reduceCtorEq,Int.reduceEq,Int.reduceLT,Int.reduceLE,lenA,endK,resA,tupA,intOfA,byteDat,Int.toNat_natCast,hlen,h0,h1,p2,hsk,hs2,hwr0,hc,hlv]
 ·have hs : decide (peekB b p = 45) = false := decide_eq_false hsg
  have hs2 : decide (((peekB b p).toNat : Int) = 45) = false := (byte_eq (peekB b p) 45).trans hs
  rw [hs]
  simp only [if_true,Bool.false_eq_true,if_false,Bool.and_true,Bool.and_false,Bool.or_false]
  have q2 : (0 : Int) ≤ ((p : Nat) : Int) := Int.natCast_nonneg _
  by_cases hk : p < b.length
  ·have hc : decide ((b.length : Int) ≤ ((p : Nat) : Int)) = false := decide_eq_false (by omega)
   have hc' : decide (((p : Nat) : Int) < (b.length : Int)) = true := decide_eq_true (by omega)
   have hsk1 := peek_some hk
   have c1 := fun H => s37 ((peekB b p).toNat : Int) H
   have hwr := wrap_nat (i := p) (by omega)
   generalize hpc : peekB b p = c at *
   have hc256 : c.toNat < 256 := c.toNat_lt
   have e3' : decide ((c.toNat : Int) = 48) = decide (c = 48) := byte_eq c 48
   rcases Bool.eq_false_or_eq_true (digZ (c.toNat : Int)) with hd | hd
   ·have hr := dig_range hd
    rw [hd] at c1 ⊢
    simp only [Bool.not_true,Bool.false_or]
    have w1 : IntKind.u8.wrap ((c.toNat : Int) - 48) = ((c.toNat - 48 : Nat) : Int) := by rw [u8w (by omega)]; omega
    have w2 : IntKind.i64.wrap ((c.toNat - 48 : Nat) : Int) = ((c.toNat - 48 : Nat) : Int) := Go.Abs.Seat.wrap_small _ (by omega)
    have w3 : IntKind.i64.wrap (-9223372036854775808 + ((c.toNat - 48 : Nat) : Int)) = -((9223372036854775808 - (c.toNat - 48) : Nat) : Int) := by rw [Go.Abs.Seat.wrap_small _ (by omega)]; omega
    have w4 : IntKind.i64.wrap ((-((9223372036854775808 - (c.toNat - 48) : Nat) : Int)).tdiv 10) = -(((9223372036854775808 - (c.toNat - 48)) / 10 : Nat) : Int) := by rw [tdiv_neg, Go.Abs.Seat.wrap_small _ (by omega)]
    have w5 : IntKind.i64.wrap (0 * 10) = 0 := rfl
    have w6 : IntKind.i64.wrap (0 - ((c.toNat - 48 : Nat) : Int)) = -((c.toNat - 48 : Nat) : Int) := by rw [Go.Abs.Seat.wrap_small _ (by omega)]; omega
    have o1 : decide (((p : Nat) : Int) < ((p : Nat) : Int)) = false := decide_eq_false (by omega)
    have o2 : decide ((0 : Int) < -(((9223372036854775808 - (c.toNat - 48)) / 10 : Nat) : Int)) = false := decide_eq_false (by omega)
    have o3 : decide ((0 : Int) < -((9223372036854775808 - (c.toNat - 48) : Nat) : Int)) = false := decide_eq_false (by omega)
    have o4 : decide (-((c.toNat - 48 : Nat) : Int) = -9223372036854775808) = false := decide_eq_false (by omega)
    cases hN : numN b (mostN false) (b.length - (p + 1)) (c.toNat - 48) (p + 1) with
        | mk n qb =>
         obtain ⟨q, bad⟩ := qb
         have key := fun tm1 => l38 b hb false p H (b.length - (p + 1)) (p + 1) (c.toNat - 48) tm1 n q bad hN (by omega) (by omega) (by simp only [mostN,if_true,Bool.false_eq_true,if_false]; omega) (by omega)
         have hbd := numN_bound b (mostN false) (b.length - (p + 1)) (c.toNat - 48) (p + 1) (by simp only [mostN,if_true,Bool.false_eq_true,if_false]; omega)
         rw [hN] at hbd
         simp only [mostN,if_true,Bool.false_eq_true,if_false] at hbd
         have run : ∃ v, exec0 L Λ f38.code tm H (endK f38 H) = some (.tup [.im (.int .i64 v), .im (.int .i64 (q : Int)), .im (.bool (!bad))], H) ∧ (bad = false → v = sgnN false n) := by
          simp only [f38,e38_0,B0,B1,B2,List.replicate,Nat.reduceAdd,Nat.reduceSub,Nat.reduceLeDiff,Nat.reduceLT,Nat.reduceEqDiff,reduceCtorEq,Int.reduceEq,Int.reduceLT,Int.reduceLE,lenA,intOfA,byteDat,Int.toNat_natCast,hlen,h0,h1,p2,hsk,hs2,hc,hc',q2,hsk1,c1]
          rw [l38_0]
          simp only [b38_0,B0,B1,B2,List.replicate,Nat.reduceAdd,Nat.reduceSub,Nat.reduceLeDiff,Nat.reduceLT,Nat.reduceEqDiff,reduceCtorEq,Int.reduceEq,Int.reduceLT,Int.reduceLE,lenA,intOfA,byteDat,Int.toNat_natCast,hlen,h0,h1,p2,hsk,hs2,hc,hc',q2,hsk1,c1,w1,w2,w3,b_quoI,w4,w5,w6,o1,o2,o3,o4,hwr]
          generalize hr2 : thenL (Λ c38_0 _ _) _ = r
          refine Exists.elim (thenL_inv hr2 (key _ ?_ ?_ ?_ ?_ ?_ ?_)) ?_
          iterate 6 simp only [B3,Nat.reduceLT,Nat.reduceEqDiff,hlen,h0,h1]
          clear hr2 key
          rintro e ⟨tm1, H1, ⟨k1, rfl, ⟨rfl, rfl, k2, k3, k4⟩ | ⟨rfl, rfl, k2, k3, k4⟩⟩, rfl⟩
          ·refine ⟨0, ?_, fun h => by simp at h⟩
           simp only [B0,B1,B2,List.replicate,Nat.reduceAdd,Nat.reduceSub,Nat.reduceLeDiff,Nat.reduceLT,Nat.reduceEqDiff,reduceCtorEq,Int.reduceEq,Int.reduceLT,Int.reduceLE,lenA,endK,resA,tupA,k1,k2,k3,k4,hlv,Bool.not_true]
          ·refine ⟨sgnN false n, ?_, fun _ => rfl⟩
           have wn : IntKind.i64.wrap (0 - -(n : Int)) = (n : Int) := by rw [Go.Abs.Seat.wrap_small _ (by omega)]; omega
           simp only [sgnN,Bool.false_eq_true,if_false]
           simp only [B0,B1,B2,List.replicate,Nat.reduceAdd,Nat.reduceSub,Nat.reduceLeDiff,Nat.reduceLT,Nat.reduceEqDiff,reduceCtorEq,Int.reduceEq,Int.reduceLT,Int.reduceLE,lenA,endK,resA,tupA,unA,k1,k2,k3,k4,wn,hlv,Bool.not_false]
         obtain ⟨v, r1, r2⟩ := run
         refine ⟨v, ?_, ?_⟩
         ·rw [r1]; cases bad <;> rfl
         ·intro h
          cases bad with
          | true => simp at h
          | false => have e := r2 rfl; subst e; rfl
   ·rw [hd] at c1 ⊢
    simp only [Bool.not_false,Bool.true_or,if_true,Bool.not_true]
    refine ⟨0, ?_, fun h => by simp at h⟩
    simp only [f38,B0,B1,B2,List.replicate,Nat.reduceAdd,Nat.reduceSub,Nat.reduceLeDiff,Nat.reduceLT,Nat.reduceEqDiff,reduceCtorEq,Int.reduceEq,Int.reduceLT,Int.reduceLE,lenA,endK,resA,tupA,intOfA,byteDat,Int.toNat_natCast,hlen,h0,h1,p2,hsk,hs2,hc,q2,hsk1,c1,hlv]
  ·have hc : decide ((b.length : Int) ≤ ((p : Nat) : Int)) = true := decide_eq_true (by omega)
   have hz : peekB b p = 0 := by unfold peekB; rw [List.getElem?_eq_none (by omega)]; rfl
   rw [hz, dig0]
   simp only [Bool.not_false,Bool.true_or,if_true,Bool.not_true]
   refine ⟨0, ?_, fun h => by simp at h⟩
   simp only [f38,B0,B1,B2,List.replicate,Nat.reduceAdd,Nat.reduceSub,Nat.reduceLeDiff,Nat.reduceLT,Nat.reduceEqDiff,reduceCtorEq,Int.reduceEq,Int.reduceLT,Int.reduceLE,lenA,endK,resA,tupA,intOfA,byteDat,Int.toNat_natCast,hlen,h0,h1,p2,hsk,hs2,hc,hlv]
end Go.Abs.Seat
end
