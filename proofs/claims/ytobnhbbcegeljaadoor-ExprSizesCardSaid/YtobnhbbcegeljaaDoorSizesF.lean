/- Part 6 of what the claim rests on. -/
import Derived.Test.YtobnhbbcegeljaaDoorSizesA
import Derived.Test.YtobnhbbcegeljaaDoorSizesB
import Derived.Test.YtobnhbbcegeljaaDoorSizesC
import Derived.Test.YtobnhbbcegeljaaDoorSizesD
import Derived.Test.YtobnhbbcegeljaaDoorSizesE
section
set_option linter.unusedVariables false
set_option linter.unusedSimpArgs false
namespace Go.Abs.Seat
open Go.Proofs
abbrev Word := Int × List UInt8 × Int
def encW (w : Word) : List AV := [.im (.int .i64 w.1), .im (.str w.2.1), .im (.int .i64 w.2.2)]
def words : List Word := [(1, [98, 111, 111, 108], 0), (2, [105, 110, 116], 0), (3, [116, 101, 120, 116], 0), (4, [98, 121, 116, 101, 115], 0), (5, [112, 111, 105, 110, 116], 0), (6, [112, 97, 105, 114], 2), (7, [108, 105, 115, 116], 1), (9, [111, 112, 116, 105, 111, 110], 1)]
set_option maxRecDepth 10000 in
theorem s76 (H : Heap) : L 76 [] H = some (.ms 3 H.length 0 8, H ++ [.obj none (words.map encW)]) := by
 rw [leq F76]
 have e : leave H true (.ms 3 H.length 0 8) (H ++ [.obj none (words.map encW)]) = (.ms 3 H.length 0 8, H ++ [.obj none (words.map encW)]) := by
  unfold leave
  rw [if_neg (by simp [refsLt])]
  rfl
 obtain ⟨hlen, -⟩ := enter_at (f := f76) (args := []) (by decide)
 generalize enterA f76 [] = tm at *
 change tm.length = 10 at hlen
 simp only [f76,exec0,xreg,xops,wantedA,aopc,aop,ev,putA,endK,resA,tupA,List.length_cons,List.length_nil,List.replicate,List.cons_append,List.nil_append,List.append_nil,List.append_assoc,gs_same,gs_ne,gq_same,gq_ne,List.length_set,List.map_cons,List.map_nil,cellsOf,List.all_cons,List.all_nil,cellOk,boxTy,Bool.and_true,Bool.and_self,if_true,ite_true,ite_false,loadAt,storeAt,setAt,hget,hget0,hset,hset0,List.getElem?_cons_zero,List.getElem?_cons_succ,List.set_cons_zero,List.set_cons_succ,Nat.add_zero,Nat.zero_add,Nat.reduceAdd,Nat.reduceSub,Nat.reduceLeDiff,Nat.reduceLT,Nat.reduceEqDiff,Nat.le_refl,and_self,and_true,true_and,mkAgg,toIms,List.drop_zero,List.drop_succ_cons,List.take_succ_cons,List.take_zero,List.length_append,binA,isShift,binInt,binBool,unA,Bool.false_eq_true,if_false,partA,fillA,fillE,List.take_nil,Nat.zero_ne_one,Nat.one_ne_zero,not_false_eq_true,ne_eq,Nat.succ_ne_self,reduceCtorEq,Int.reduceEq,Int.reduceLT,Int.reduceLE,decide_true,decide_false,lenA,beq_self_eq_true,beq_true,beq_false,Bool.not_true,Bool.not_false,hlen]
 rw [← e]
 rfl
theorem s90 (H : Heap) (w : Word) (k' : Int) (id : Nat) (x : AV) (hid : H[id]? = some (.obj none [[.im (.int .i64 k'), x]])) :
  L 90 [.im (.agg [.int .i64 w.1, .str w.2.1, .int .i64 w.2.2]), .ptr id 0 0] H = some (.im (.bool (decide (w.1 = k'))), H) := by
 have hlt := (List.getElem?_eq_some_iff.1 hid).1
 have h2 : ∀ o, (H ++ [o])[id]? = some (.obj none [[.im (.int .i64 k'), x]]) := fun o => by rw [List.getElem?_append_left hlt]; exact hid
 rw [leq F90]
 obtain ⟨hlen, ha⟩ := enter_at (f := f90) (args := [.im (.agg [.int .i64 w.1, .str w.2.1, .int .i64 w.2.2]), .ptr id 0 0]) (Nat.le_of_ble_eq_true rfl)
 have h0 := ha 0 _ rfl
 have h1 := ha 1 _ rfl
 generalize enterA f90 [.im (.agg [.int .i64 w.1, .str w.2.1, .int .i64 w.2.2]), .ptr id 0 0] = tm at *
 change tm.length = 9 at hlen
 simp only [f90,exec0,xreg,xops,wantedA,aopc,aop,ev,putA,endK,resA,tupA,List.length_cons,List.length_nil,List.replicate,List.cons_append,List.nil_append,List.append_nil,List.append_assoc,gs_same,gs_ne,gq_same,gq_ne,List.length_set,List.map_cons,List.map_nil,cellsOf,List.all_cons,List.all_nil,cellOk,boxTy,Bool.and_true,Bool.and_self,if_true,ite_true,ite_false,loadAt,storeAt,setAt,hget,hget0,hset,hset0,List.getElem?_cons_zero,List.getElem?_cons_succ,List.set_cons_zero,List.set_cons_succ,Nat.add_zero,Nat.zero_add,Nat.reduceAdd,Nat.reduceSub,Nat.reduceLeDiff,Nat.reduceLT,Nat.reduceEqDiff,Nat.le_refl,and_self,and_true,true_and,mkAgg,toIms,List.drop_zero,List.drop_succ_cons,List.take_succ_cons,List.take_zero,List.length_append,binA,isShift,binInt,binBool,unA,Bool.false_eq_true,if_false,partA,fillA,fillE,List.take_nil,Nat.zero_ne_one,Nat.one_ne_zero,not_false_eq_true,ne_eq,Nat.succ_ne_self,reduceCtorEq,Int.reduceEq,Int.reduceLT,Int.reduceLE,decide_true,decide_false,lenA,beq_self_eq_true,beq_true,beq_false,Bool.not_true,Bool.not_false,hlen,h0,h1,h2,leave_app]
theorem l89 (rows : List Word) (idw idt : Nat) (k' : Int) (x : AV) (H : Heap) (hw : H[idw]? = some (.obj none (rows.map encW))) (hid : H[idt]? = some (.obj none [[.im (.int .i64 k'), x]])) (hn : rows.length ≤ 9223372036854775807) :
  ∀ (m i : Nat), i + m = rows.length → ∀ tm : List AV, tm.length = 19 → tm.getD 0 undefA = .ms 3 idw 0 rows.length → tm.getD 1 undefA = .clo 90 [.ptr idt 0 0] → tm.getD 6 undefA = .ms 3 idw 0 rows.length → tm.getD 7 undefA = .im (.int .i64 rows.length) → tm.getD 8 undefA = .im (.int .i64 i) →
  ∃ e tm' H', Λ c89_0 tm H = some (e, tm', H') ∧ tm'.length = 19 ∧ H' = H ∧ match (rows.drop i).findIdx? (fun w => decide (w.1 = k')) with
   | some j => e = .ret ∧ tm'.getD 4 undefA = .im (.int .i64 ((i + j : Nat) : Int))
   | none => e = .exit 0
 | 0, i, hi, tm, hlen, h0, h1, h6, h7, h8 => by
  have e : rows.drop i = [] := by rw [List.drop_eq_nil_iff]; omega
  have hc : decide ((i : Int) < (rows.length : Int)) = false := by simp; omega
  rw [e, l89_0]
  simp only [b89_0,exec0,xreg,xops,wantedA,aopc,aop,ev,putA,endK,resA,tupA,List.length_cons,List.length_nil,List.replicate,List.cons_append,List.nil_append,List.append_nil,List.append_assoc,gs_same,gs_ne,gq_same,gq_ne,List.length_set,List.map_cons,List.map_nil,cellsOf,List.all_cons,List.all_nil,cellOk,boxTy,Bool.and_true,Bool.and_self,if_true,ite_true,ite_false,loadAt,storeAt,setAt,hget,hget0,hset,hset0,List.getElem?_cons_zero,List.getElem?_cons_succ,List.set_cons_zero,List.set_cons_succ,Nat.add_zero,Nat.zero_add,Nat.reduceAdd,Nat.reduceSub,Nat.reduceLeDiff,Nat.reduceLT,Nat.reduceEqDiff,Nat.le_refl,and_self,and_true,true_and,mkAgg,toIms,List.drop_zero,List.drop_succ_cons,List.take_succ_cons,List.take_zero,List.length_append,binA,isShift,binInt,binBool,unA,Bool.false_eq_true,if_false,partA,fillA,fillE,List.take_nil,Nat.zero_ne_one,Nat.one_ne_zero,not_false_eq_true,ne_eq,Nat.succ_ne_self,reduceCtorEq,Int.reduceEq,Int.reduceLT,Int.reduceLE,decide_true,decide_false,lenA,beq_self_eq_true,beq_true,beq_false,Bool.not_true,Bool.not_false,hlen,h0,h1,h6,h7,h8,hc,List.findIdx?_nil]
  exact ⟨_, _, _, rfl, by simp only [List.length_set,hlen], rfl, rfl⟩
 | m + 1, i, hi, tm, hlen, h0, h1, h6, h7, h8 => by
  have hlt : i < rows.length := by omega
  obtain ⟨w, hwi⟩ : ∃ w, rows[i]? = some w := ⟨_, List.getElem?_eq_getElem hlt⟩
  have e : rows.drop i = w :: rows.drop (i + 1) := by
   rw [List.drop_eq_getElem_cons hlt]
   congr 1
   rw [List.getElem?_eq_getElem hlt] at hwi
   exact Option.some.inj hwi
  have hc : decide ((i : Int) < (rows.length : Int)) = true := by simp; omega
  have hix := idx_nat hlt
  have hget : (rows.map encW)[i]? = some (encW w) := by rw [List.getElem?_map, hwi]; rfl
  have hcall := s90 H w k' idt x hid
  rw [e, List.findIdx?_cons, l89_0]
  by_cases hk : w.1 = k'
  ·have hd : decide (w.1 = k') = true := decide_eq_true hk
   simp only [b89_0,exec0,xreg,xops,wantedA,aopc,aop,ev,putA,endK,resA,tupA,List.length_cons,List.length_nil,List.replicate,List.cons_append,List.nil_append,List.append_nil,List.append_assoc,gs_same,gs_ne,gq_same,gq_ne,List.length_set,List.map_cons,List.map_nil,cellsOf,List.all_cons,List.all_nil,cellOk,boxTy,Bool.and_true,Bool.and_self,if_true,ite_true,ite_false,loadAt,storeAt,setAt,hget,hget0,hset,hset0,List.getElem?_cons_zero,List.getElem?_cons_succ,List.set_cons_zero,List.set_cons_succ,Nat.add_zero,Nat.zero_add,Nat.reduceAdd,Nat.reduceSub,Nat.reduceLeDiff,Nat.reduceLT,Nat.reduceEqDiff,Nat.le_refl,and_self,and_true,true_and,mkAgg,toIms,List.drop_zero,List.drop_succ_cons,List.take_succ_cons,List.take_zero,List.length_append,binA,isShift,binInt,binBool,unA,Bool.false_eq_true,if_false,partA,fillA,fillE,List.take_nil,Nat.zero_ne_one,Nat.one_ne_zero,not_false_eq_true,ne_eq,Nat.succ_ne_self,reduceCtorEq,Int.reduceEq,Int.reduceLT,Int.reduceLE,decide_true,decide_false,lenA,beq_self_eq_true,beq_true,beq_false,Bool.not_true,Bool.not_false,hlen,h0,h1,h6,h7,h8,hc,hix,hw,hget,encW,hcall,hd]
   exact ⟨_, _, _, rfl, by simp only [List.length_set,hlen], rfl, rfl, by simp only [B3,Nat.reduceLT,Nat.reduceEqDiff,hlen]⟩
  ·have hd : decide (w.1 = k') = false := decide_eq_false hk
   have hwr := wrap_nat (i := i) (by omega)
   have key := l89 rows idw idt k' x H hw hid hn m (i + 1) (by omega)
   simp only [b89_0,exec0,xreg,xops,wantedA,aopc,aop,ev,putA,endK,resA,tupA,List.length_cons,List.length_nil,List.replicate,List.cons_append,List.nil_append,List.append_nil,List.append_assoc,gs_same,gs_ne,gq_same,gq_ne,List.length_set,List.map_cons,List.map_nil,cellsOf,List.all_cons,List.all_nil,cellOk,boxTy,Bool.and_true,Bool.and_self,if_true,ite_true,ite_false,loadAt,storeAt,setAt,hget,hget0,hset,hset0,List.getElem?_cons_zero,List.getElem?_cons_succ,List.set_cons_zero,List.set_cons_succ,Nat.add_zero,Nat.zero_add,Nat.reduceAdd,Nat.reduceSub,Nat.reduceLeDiff,Nat.reduceLT,Nat.reduceEqDiff,Nat.le_refl,and_self,and_true,true_and,mkAgg,toIms,List.drop_zero,List.drop_succ_cons,List.take_succ_cons,List.take_zero,List.length_append,binA,isShift,binInt,binBool,unA,Bool.false_eq_true,if_false,partA,fillA,fillE,List.take_nil,Nat.zero_ne_one,Nat.one_ne_zero,not_false_eq_true,ne_eq,Nat.succ_ne_self,reduceCtorEq,Int.reduceEq,Int.reduceLT,Int.reduceLE,decide_true,decide_false,lenA,beq_self_eq_true,beq_true,beq_false,Bool.not_true,Bool.not_false,hlen,h0,h1,h6,h7,h8,hc,hix,hw,hget,encW,hcall,hd,hwr]
   cases hf : (rows.drop (i + 1)).findIdx? (fun w => decide (w.1 = k')) with
   | none =>
    simp only [hf] at key
    simp only [Option.map_none]
    apply key
    all_goals simp only [B3,Nat.reduceLT,Nat.reduceEqDiff,hlen,h0,h1,h6,h7]
   | some j =>
    simp only [hf] at key
    simp only [Option.map_some]
    rw [show i + (j + 1) = i + 1 + j by omega]
    apply key
    all_goals simp only [B3,Nat.reduceLT,Nat.reduceEqDiff,hlen,h0,h1,h6,h7]
end Go.Abs.Seat
end
section
set_option linter.unusedVariables false
set_option linter.unusedSimpArgs false
namespace Go.Abs.Seat
open Go.Proofs
theorem s89 (rows : List Word) (idw idt : Nat) (k' : Int) (x : AV) (H : Heap) (hw : H[idw]? = some (.obj none (rows.map encW))) (hid : H[idt]? = some (.obj none [[.im (.int .i64 k'), x]])) (hn : rows.length ≤ 9223372036854775807) :
  L 89 [.ms 3 idw 0 rows.length, .clo 90 [.ptr idt 0 0]] H = some (.im (.int .i64 (match rows.findIdx? (fun w => decide (w.1 = k')) with | some j => ((j : Nat) : Int) | none => -1)), H) := by
 rw [leq F89]
 obtain ⟨hlen, ha⟩ := enter_at (f := f89) (args := [.ms 3 idw 0 rows.length, .clo 90 [.ptr idt 0 0]]) (Nat.le_of_ble_eq_true rfl)
 have h0 := ha 0 _ rfl
 have h1 := ha 1 _ rfl
 generalize enterA f89 [.ms 3 idw 0 rows.length, .clo 90 [.ptr idt 0 0]] = tm at *
 change tm.length = 19 at hlen
 have key := l89 rows idw idt k' x H hw hid hn rows.length 0 (by omega)
 have z : ((0 : Nat) : Int) = 0 := rfl
 simp only [List.drop_zero,Nat.zero_add,z] at key
 simp only [f89,e89_0,exec0,xreg,xops,wantedA,aopc,aop,ev,putA,endK,resA,tupA,List.length_cons,List.length_nil,List.replicate,List.cons_append,List.nil_append,List.append_nil,List.append_assoc,gs_same,gs_ne,gq_same,gq_ne,List.length_set,List.map_cons,List.map_nil,cellsOf,List.all_cons,List.all_nil,cellOk,boxTy,Bool.and_true,Bool.and_self,if_true,ite_true,ite_false,loadAt,storeAt,setAt,hget,hget0,hset,hset0,List.getElem?_cons_zero,List.getElem?_cons_succ,List.set_cons_zero,List.set_cons_succ,Nat.add_zero,Nat.zero_add,Nat.reduceAdd,Nat.reduceSub,Nat.reduceLeDiff,Nat.reduceLT,Nat.reduceEqDiff,Nat.le_refl,and_self,and_true,true_and,mkAgg,toIms,List.drop_zero,List.drop_succ_cons,List.take_succ_cons,List.take_zero,List.length_append,binA,isShift,binInt,binBool,unA,Bool.false_eq_true,if_false,partA,fillA,fillE,List.take_nil,Nat.zero_ne_one,Nat.one_ne_zero,not_false_eq_true,ne_eq,Nat.succ_ne_self,reduceCtorEq,Int.reduceEq,Int.reduceLT,Int.reduceLE,decide_true,decide_false,lenA,beq_self_eq_true,beq_true,beq_false,Bool.not_true,Bool.not_false,hlen,h0,h1]
 refine thenL_of (key _ ?_ ?_ ?_ ?_ ?_ ?_) ?_
 iterate 6 simp only [B3,Nat.reduceLT,Nat.reduceEqDiff,hlen,h0,h1]
 rintro e tm' H' ⟨hl', rfl, hm⟩
 cases hf : rows.findIdx? (fun w => decide (w.1 = k')) with
 | none =>
  simp only [hf] at hm
  subst hm
  simp only [exec0,xreg,xops,wantedA,aopc,aop,ev,putA,endK,resA,tupA,List.length_cons,List.length_nil,List.replicate,List.cons_append,List.nil_append,List.append_nil,List.append_assoc,gs_same,gs_ne,gq_same,gq_ne,List.length_set,List.map_cons,List.map_nil,cellsOf,List.all_cons,List.all_nil,cellOk,boxTy,Bool.and_true,Bool.and_self,if_true,ite_true,ite_false,loadAt,storeAt,setAt,hget,hget0,hset,hset0,List.getElem?_cons_zero,List.getElem?_cons_succ,List.set_cons_zero,List.set_cons_succ,Nat.add_zero,Nat.zero_add,Nat.reduceAdd,Nat.reduceSub,Nat.reduceLeDiff,Nat.reduceLT,Nat.reduceEqDiff,Nat.le_refl,and_self,and_true,true_and,mkAgg,toIms,List.drop_zero,List.drop_succ_cons,List.take_succ_cons,List.take_zero,List.length_append,binA,isShift,binInt,binBool,unA,Bool.false_eq_true,if_false,partA,fillA,fillE,List.take_nil,Nat.zero_ne_one,Nat.one_ne_zero,not_false_eq_true,ne_eq,Nat.succ_ne_self,reduceCtorEq,Int.reduceEq,Int.reduceLT,Int.reduceLE,decide_true,decide_false,lenA,beq_self_eq_true,beq_true,beq_false,Bool.not_true,Bool.not_false,hl',leave_same]
 | some j =>
  simp only [hf] at hm
  obtain ⟨rfl, h4⟩ := hm
  simp only [exec0,xreg,xops,wantedA,aopc,aop,ev,putA,endK,resA,tupA,List.length_cons,List.length_nil,List.replicate,List.cons_append,List.nil_append,List.append_nil,List.append_assoc,gs_same,gs_ne,gq_same,gq_ne,List.length_set,List.map_cons,List.map_nil,cellsOf,List.all_cons,List.all_nil,cellOk,boxTy,Bool.and_true,Bool.and_self,if_true,ite_true,ite_false,loadAt,storeAt,setAt,hget,hget0,hset,hset0,List.getElem?_cons_zero,List.getElem?_cons_succ,List.set_cons_zero,List.set_cons_succ,Nat.add_zero,Nat.zero_add,Nat.reduceAdd,Nat.reduceSub,Nat.reduceLeDiff,Nat.reduceLT,Nat.reduceEqDiff,Nat.le_refl,and_self,and_true,true_and,mkAgg,toIms,List.drop_zero,List.drop_succ_cons,List.take_succ_cons,List.take_zero,List.length_append,binA,isShift,binInt,binBool,unA,Bool.false_eq_true,if_false,partA,fillA,fillE,List.take_nil,Nat.zero_ne_one,Nat.one_ne_zero,not_false_eq_true,ne_eq,Nat.succ_ne_self,reduceCtorEq,Int.reduceEq,Int.reduceLT,Int.reduceLE,decide_true,decide_false,lenA,beq_self_eq_true,beq_true,beq_false,Bool.not_true,Bool.not_false,hl',leave_same,h4]
inductive KT where
 | mk (k : Int) (s : Nat) (args : List KT)
def KT.k : KT → Int
 | .mk k _ _ => k
def KT.s : KT → Nat
 | .mk _ s _ => s
def KT.args : KT → List KT
 | .mk _ _ args => args
mutual
def encT : KT → List Dat
 | .mk k s args => [.int .i64 k, .sl s (encTs args)]
def encTs : List KT → List (List Dat)
 | [] => []
 | a :: l => encT a :: encTs l
end
theorem encTs_map : ∀ l : List KT, encTs l = l.map encT
 | [] => rfl
 | a :: l => by simp only [encTs,List.map_cons,encTs_map l]
mutual
def okT : KT → Prop
 | .mk _ s args => (args = [] ∨ s = 2) ∧ args.length ≤ 9223372036854775807 ∧ okTs args
def okTs : List KT → Prop
 | [] => True
 | a :: l => okT a ∧ okTs l
end
theorem okTs_mem : ∀ {l : List KT}, okTs l → ∀ a ∈ l, okT a
 | [], _, a, h => by simp at h
 | b :: l, h, a, hm => by
  simp only [okTs] at h
  rcases List.mem_cons.1 hm with rfl | hm
  ·exact h.1
  ·exact okTs_mem h.2 a hm
theorem l105 (args : List KT) (s : Nat) (hs : args = [] ∨ s = 2) (hn : args.length ≤ 9223372036854775807) (p : KT → Bool) (g : FuncId) (cap : List AV) (H : Heap)
  (hc : ∀ a ∈ args, L g ([.im (.agg (encT a))] ++ cap) H = some (.im (.bool (p a)), H)) :
  ∀ (m i : Nat), i + m = args.length → ∀ tm : List AV, tm.length = 19 → tm.getD 0 undefA = .im (.sl s (args.map encT)) → tm.getD 1 undefA = .clo g cap → tm.getD 6 undefA = .im (.sl s (args.map encT)) → tm.getD 7 undefA = .im (.int .i64 args.length) → tm.getD 8 undefA = .im (.int .i64 i) →
  ∃ e tm' H', Λ c105_0 tm H = some (e, tm', H') ∧ tm'.length = 19 ∧ H' = H ∧ match (args.drop i).findIdx? p with
   | some j => e = .ret ∧ tm'.getD 4 undefA = .im (.int .i64 ((i + j : Nat) : Int))
   | none => e = .exit 0
 | 0, i, hi, tm, hlen, h0, h1, h6, h7, h8 => by
  have e : args.drop i = [] := by rw [List.drop_eq_nil_iff]; omega
  have hc : decide ((i : Int) < (args.length : Int)) = false := by simp; omega
  rw [e, l105_0]
  simp only [b105_0,exec0,xreg,xops,wantedA,aopc,aop,ev,putA,endK,resA,tupA,List.length_cons,List.length_nil,List.replicate,List.cons_append,List.nil_append,List.append_nil,List.append_assoc,gs_same,gs_ne,gq_same,gq_ne,List.length_set,List.map_cons,List.map_nil,cellsOf,List.all_cons,List.all_nil,cellOk,boxTy,Bool.and_true,Bool.and_self,if_true,ite_true,ite_false,loadAt,storeAt,setAt,hget,hget0,hset,hset0,List.getElem?_cons_zero,List.getElem?_cons_succ,List.set_cons_zero,List.set_cons_succ,Nat.add_zero,Nat.zero_add,Nat.reduceAdd,Nat.reduceSub,Nat.reduceLeDiff,Nat.reduceLT,Nat.reduceEqDiff,Nat.le_refl,and_self,and_true,true_and,mkAgg,toIms,List.drop_zero,List.drop_succ_cons,List.take_succ_cons,List.take_zero,List.length_append,binA,isShift,binInt,binBool,unA,Bool.false_eq_true,if_false,partA,fillA,fillE,List.take_nil,Nat.zero_ne_one,Nat.one_ne_zero,not_false_eq_true,ne_eq,Nat.succ_ne_self,reduceCtorEq,Int.reduceEq,Int.reduceLT,Int.reduceLE,decide_true,decide_false,lenA,beq_self_eq_true,beq_true,beq_false,Bool.not_true,Bool.not_false,hlen,h0,h1,h6,h7,h8,hc,List.findIdx?_nil]
  exact ⟨_, _, _, rfl, by simp only [List.length_set,hlen], rfl, rfl⟩
 | m + 1, i, hi, tm, hlen, h0, h1, h6, h7, h8 => by
  have hlt : i < args.length := by omega
  obtain ⟨w, hwi⟩ : ∃ w, args[i]? = some w := ⟨_, List.getElem?_eq_getElem hlt⟩
  have e : args.drop i = w :: args.drop (i + 1) := by
   rw [List.drop_eq_getElem_cons hlt]
   congr 1
   rw [List.getElem?_eq_getElem hlt] at hwi
   exact Option.some.inj hwi
  have hs2 : s = 2 := by
   rcases hs with hs | hs
   ·subst hs; simp at hlt
   ·exact hs
  subst hs2
  have hc' : decide ((i : Int) < (args.length : Int)) = true := by simp; omega
  have hix := idx_nat (n := (args.map encT).length) (i := i) (by simpa using hlt)
  have hget : (args.map encT)[i]? = some (encT w) := by rw [List.getElem?_map, hwi]; rfl
  have hcall := hc w (List.mem_of_getElem? hwi)
  obtain ⟨k, s', ts⟩ := w
  have hwr := wrap_nat (i := i) (by omega)
  have key := l105 args 2 hs hn p g cap H hc m (i + 1) (by omega)
  rw [e, List.findIdx?_cons, l105_0]
  simp only [encT,List.cons_append,List.nil_append] at hcall hget
  cases hp : p (.mk k s' ts) with
  | true =>
   simp only [hp] at hcall
   simp only [b105_0,exec0,xreg,xops,wantedA,aopc,aop,ev,putA,endK,resA,tupA,List.length_cons,List.length_nil,List.replicate,List.cons_append,List.nil_append,List.append_nil,List.append_assoc,gs_same,gs_ne,gq_same,gq_ne,List.length_set,List.map_cons,List.map_nil,cellsOf,List.all_cons,List.all_nil,cellOk,boxTy,Bool.and_true,Bool.and_self,if_true,ite_true,ite_false,loadAt,storeAt,setAt,hget,hget0,hset,hset0,List.getElem?_cons_zero,List.getElem?_cons_succ,List.set_cons_zero,List.set_cons_succ,Nat.add_zero,Nat.zero_add,Nat.reduceAdd,Nat.reduceSub,Nat.reduceLeDiff,Nat.reduceLT,Nat.reduceEqDiff,Nat.le_refl,and_self,and_true,true_and,mkAgg,toIms,List.drop_zero,List.drop_succ_cons,List.take_succ_cons,List.take_zero,List.length_append,binA,isShift,binInt,binBool,unA,Bool.false_eq_true,if_false,partA,fillA,fillE,List.take_nil,Nat.zero_ne_one,Nat.one_ne_zero,not_false_eq_true,ne_eq,Nat.succ_ne_self,reduceCtorEq,Int.reduceEq,Int.reduceLT,Int.reduceLE,decide_true,decide_false,lenA,beq_self_eq_true,beq_true,beq_false,Bool.not_true,Bool.not_false,hlen,h0,h1,h6,h7,h8,hc',hix,hget,hcall]
   exact ⟨_, _, _, rfl, by simp only [List.length_set,hlen], rfl, rfl, by simp only [B3,Nat.reduceLT,Nat.reduceEqDiff,hlen]⟩
  | false =>
   simp only [hp] at hcall
   simp only [b105_0,exec0,xreg,xops,wantedA,aopc,aop,ev,putA,endK,resA,tupA,List.length_cons,List.length_nil,List.replicate,List.cons_append,List.nil_append,List.append_nil,List.append_assoc,gs_same,gs_ne,gq_same,gq_ne,List.length_set,List.map_cons,List.map_nil,cellsOf,List.all_cons,List.all_nil,cellOk,boxTy,Bool.and_true,Bool.and_self,if_true,ite_true,ite_false,loadAt,storeAt,setAt,hget,hget0,hset,hset0,List.getElem?_cons_zero,List.getElem?_cons_succ,List.set_cons_zero,List.set_cons_succ,Nat.add_zero,Nat.zero_add,Nat.reduceAdd,Nat.reduceSub,Nat.reduceLeDiff,Nat.reduceLT,Nat.reduceEqDiff,Nat.le_refl,and_self,and_true,true_and,mkAgg,toIms,List.drop_zero,List.drop_succ_cons,List.take_succ_cons,List.take_zero,List.length_append,binA,isShift,binInt,binBool,unA,Bool.false_eq_true,if_false,partA,fillA,fillE,List.take_nil,Nat.zero_ne_one,Nat.one_ne_zero,not_false_eq_true,ne_eq,Nat.succ_ne_self,reduceCtorEq,Int.reduceEq,Int.reduceLT,Int.reduceLE,decide_true,decide_false,lenA,beq_self_eq_true,beq_true,beq_false,Bool.not_true,Bool.not_false,hlen,h0,h1,h6,h7,h8,hc',hix,hget,hcall,hwr]
   cases hf : (args.drop (i + 1)).findIdx? p with
   | none =>
    simp only [hf] at key
    simp only [Option.map_none]
    apply key
    all_goals simp only [B3,Nat.reduceLT,Nat.reduceEqDiff,hlen,h0,h1,h6,h7]
   | some j =>
    simp only [hf] at key
    simp only [Option.map_some]
    rw [show i + (j + 1) = i + 1 + j by omega]
    apply key
    all_goals simp only [B3,Nat.reduceLT,Nat.reduceEqDiff,hlen,h0,h1,h6,h7]
theorem s105 (args : List KT) (s : Nat) (hs : args = [] ∨ s = 2) (hn : args.length ≤ 9223372036854775807) (p : KT → Bool) (g : FuncId) (cap : List AV) (H : Heap)
  (hc : ∀ a ∈ args, L g ([.im (.agg (encT a))] ++ cap) H = some (.im (.bool (p a)), H)) :
  L 105 [.im (.sl s (args.map encT)), .clo g cap] H = some (.im (.int .i64 (match args.findIdx? p with | some j => ((j : Nat) : Int) | none => -1)), H) := by
 rw [leq F105]
 obtain ⟨hlen, ha⟩ := enter_at (f := f105) (args := [.im (.sl s (args.map encT)), .clo g cap]) (Nat.le_of_ble_eq_true rfl)
 have h0 := ha 0 _ rfl
 have h1 := ha 1 _ rfl
 generalize enterA f105 [.im (.sl s (args.map encT)), .clo g cap] = tm at *
 change tm.length = 19 at hlen
 have key := l105 args s hs hn p g cap H hc args.length 0 (by omega)
 have z : ((0 : Nat) : Int) = 0 := rfl
 simp only [List.drop_zero,Nat.zero_add,z] at key
 simp only [f105,e105_0,exec0,xreg,xops,wantedA,aopc,aop,ev,putA,endK,resA,tupA,List.length_cons,List.length_nil,List.replicate,List.cons_append,List.nil_append,List.append_nil,List.append_assoc,gs_same,gs_ne,gq_same,gq_ne,List.length_set,List.map_cons,List.map_nil,cellsOf,List.all_cons,List.all_nil,cellOk,boxTy,Bool.and_true,Bool.and_self,if_true,ite_true,ite_false,loadAt,storeAt,setAt,hget,hget0,hset,hset0,List.getElem?_cons_zero,List.getElem?_cons_succ,List.set_cons_zero,List.set_cons_succ,Nat.add_zero,Nat.zero_add,Nat.reduceAdd,Nat.reduceSub,Nat.reduceLeDiff,Nat.reduceLT,Nat.reduceEqDiff,Nat.le_refl,and_self,and_true,true_and,mkAgg,toIms,List.drop_zero,List.drop_succ_cons,List.take_succ_cons,List.take_zero,List.length_append,binA,isShift,binInt,binBool,unA,Bool.false_eq_true,if_false,partA,fillA,fillE,List.take_nil,Nat.zero_ne_one,Nat.one_ne_zero,not_false_eq_true,ne_eq,Nat.succ_ne_self,reduceCtorEq,Int.reduceEq,Int.reduceLT,Int.reduceLE,decide_true,decide_false,lenA,beq_self_eq_true,beq_true,beq_false,Bool.not_true,Bool.not_false,hlen,h0,h1]
 refine thenL_of (key _ ?_ ?_ ?_ ?_ ?_ ?_) ?_
 iterate 6 simp only [B3,Nat.reduceLT,Nat.reduceEqDiff,hlen,h0,h1,List.length_map]
 rintro e tm' H' ⟨hl', rfl, hm⟩
 cases hf : args.findIdx? p with
 | none =>
  simp only [hf] at hm
  subst hm
  simp only [exec0,xreg,xops,wantedA,aopc,aop,ev,putA,endK,resA,tupA,List.length_cons,List.length_nil,List.replicate,List.cons_append,List.nil_append,List.append_nil,List.append_assoc,gs_same,gs_ne,gq_same,gq_ne,List.length_set,List.map_cons,List.map_nil,cellsOf,List.all_cons,List.all_nil,cellOk,boxTy,Bool.and_true,Bool.and_self,if_true,ite_true,ite_false,loadAt,storeAt,setAt,hget,hget0,hset,hset0,List.getElem?_cons_zero,List.getElem?_cons_succ,List.set_cons_zero,List.set_cons_succ,Nat.add_zero,Nat.zero_add,Nat.reduceAdd,Nat.reduceSub,Nat.reduceLeDiff,Nat.reduceLT,Nat.reduceEqDiff,Nat.le_refl,and_self,and_true,true_and,mkAgg,toIms,List.drop_zero,List.drop_succ_cons,List.take_succ_cons,List.take_zero,List.length_append,binA,isShift,binInt,binBool,unA,Bool.false_eq_true,if_false,partA,fillA,fillE,List.take_nil,Nat.zero_ne_one,Nat.one_ne_zero,not_false_eq_true,ne_eq,Nat.succ_ne_self,reduceCtorEq,Int.reduceEq,Int.reduceLT,Int.reduceLE,decide_true,decide_false,lenA,beq_self_eq_true,beq_true,beq_false,Bool.not_true,Bool.not_false,hl',leave_same]
 | some j =>
  simp only [hf] at hm
  obtain ⟨rfl, h4⟩ := hm
  simp only [exec0,xreg,xops,wantedA,aopc,aop,ev,putA,endK,resA,tupA,List.length_cons,List.length_nil,List.replicate,List.cons_append,List.nil_append,List.append_nil,List.append_assoc,gs_same,gs_ne,gq_same,gq_ne,List.length_set,List.map_cons,List.map_nil,cellsOf,List.all_cons,List.all_nil,cellOk,boxTy,Bool.and_true,Bool.and_self,if_true,ite_true,ite_false,loadAt,storeAt,setAt,hget,hget0,hset,hset0,List.getElem?_cons_zero,List.getElem?_cons_succ,List.set_cons_zero,List.set_cons_succ,Nat.add_zero,Nat.zero_add,Nat.reduceAdd,Nat.reduceSub,Nat.reduceLeDiff,Nat.reduceLT,Nat.reduceEqDiff,Nat.le_refl,and_self,and_true,true_and,mkAgg,toIms,List.drop_zero,List.drop_succ_cons,List.take_succ_cons,List.take_zero,List.length_append,binA,isShift,binInt,binBool,unA,Bool.false_eq_true,if_false,partA,fillA,fillE,List.take_nil,Nat.zero_ne_one,Nat.one_ne_zero,not_false_eq_true,ne_eq,Nat.succ_ne_self,reduceCtorEq,Int.reduceEq,Int.reduceLT,Int.reduceLE,decide_true,decide_false,lenA,beq_self_eq_true,beq_true,beq_false,Bool.not_true,Bool.not_false,hl',leave_same,h4]
theorem s91 (args : List KT) (s : Nat) (hs : args = [] ∨ s = 2) (hn : args.length ≤ 9223372036854775807) (p : KT → Bool) (g : FuncId) (cap : List AV) (H : Heap)
  (hc : ∀ a ∈ args, L g ([.im (.agg (encT a))] ++ cap) H = some (.im (.bool (p a)), H)) :
  L 91 [.im (.sl s (args.map encT)), .clo g cap] H = some (.im (.bool (args.any p)), H) := by
 have h102 := s105 args s hs hn p g cap H hc
 rw [leq F91]
 obtain ⟨hlen, ha⟩ := enter_at (f := f91) (args := [.im (.sl s (args.map encT)), .clo g cap]) (Nat.le_of_ble_eq_true rfl)
 have h0 := ha 0 _ rfl
 have h1 := ha 1 _ rfl
 generalize enterA f91 [.im (.sl s (args.map encT)), .clo g cap] = tm at *
 change tm.length = 9 at hlen
 simp only [f91,exec0,xreg,xops,wantedA,aopc,aop,ev,putA,endK,resA,tupA,List.length_cons,List.length_nil,List.replicate,List.cons_append,List.nil_append,List.append_nil,List.append_assoc,gs_same,gs_ne,gq_same,gq_ne,List.length_set,List.map_cons,List.map_nil,cellsOf,List.all_cons,List.all_nil,cellOk,boxTy,Bool.and_true,Bool.and_self,if_true,ite_true,ite_false,loadAt,storeAt,setAt,hget,hget0,hset,hset0,List.getElem?_cons_zero,List.getElem?_cons_succ,List.set_cons_zero,List.set_cons_succ,Nat.add_zero,Nat.zero_add,Nat.reduceAdd,Nat.reduceSub,Nat.reduceLeDiff,Nat.reduceLT,Nat.reduceEqDiff,Nat.le_refl,and_self,and_true,true_and,mkAgg,toIms,List.drop_zero,List.drop_succ_cons,List.take_succ_cons,List.take_zero,List.length_append,binA,isShift,binInt,binBool,unA,Bool.false_eq_true,if_false,partA,fillA,fillE,List.take_nil,Nat.zero_ne_one,Nat.one_ne_zero,not_false_eq_true,ne_eq,Nat.succ_ne_self,reduceCtorEq,Int.reduceEq,Int.reduceLT,Int.reduceLE,decide_true,decide_false,lenA,beq_self_eq_true,beq_true,beq_false,Bool.not_true,Bool.not_false,hlen,h0,h1,h102,leave_same]
 congr 4
 cases hf : args.findIdx? p with
 | none =>
  rw [List.findIdx?_eq_none_iff] at hf
  have : args.any p = false := by simpa using hf
  rw [this]; rfl
 | some j =>
  have : args.any p = true := by
   rw [List.any_eq_true]
   obtain ⟨h1, h2, _⟩ := List.findIdx?_eq_some_iff_getElem.1 hf
   exact ⟨_, List.getElem_mem h1, h2⟩
  rw [this]
  simp
end Go.Abs.Seat
end
section
set_option linter.unusedVariables false
set_option linter.unusedSimpArgs false
namespace Go.Abs.Seat
open Go.Proofs
def kidx (k : Int) : Option Nat := words.findIdx? (fun w => decide (w.1 = k))
def kcnt (i : Nat) : Int := match words[i]? with
 | some w => w.2.2
 | none => 0
mutual
def rightT : KT → Int → Bool
 | .mk k _ args, d => match kidx k with
  | some i => if d < 1 then false else if (args.length : Int) = kcnt i then !rightNot args (d - 1) else false
  | none => false
def rightNot : List KT → Int → Bool
 | [], _ => false
 | a :: l, d => !rightT a d || rightNot l d
end
theorem rightNot_any : ∀ (l : List KT) (d : Int), rightNot l d = l.any fun a => !rightT a d
 | [], d => rfl
 | a :: l, d => by simp only [rightNot,List.any_cons,rightNot_any l d]
theorem kidx_lt {k : Int} {i : Nat} (h : kidx k = some i) : i < 8 ∧ ∃ w, words[i]? = some w ∧ kcnt i = w.2.2 := by
 obtain ⟨h1, _, _⟩ := List.findIdx?_eq_some_iff_getElem.1 h
 refine ⟨h1, words[i], List.getElem?_eq_getElem h1, ?_⟩
 unfold kcnt
 rw [List.getElem?_eq_getElem h1]
theorem wrap_small (z : Int) (h : -9223372036854775808 ≤ z ∧ z < 9223372036854775808) : IntKind.i64.wrap z = z := by
 simp [IntKind.wrap, IntKind.bits, IntKind.signed]
 omega
theorem s92 (a : KT) (d : Int) (hd : 1 ≤ d ∧ d ≤ 1000) (idd : Nat) (H : Heap) (hid : H[idd]? = some (.obj none [[.im (.int .i64 d)]])) (b : Bool) (h51 : ∀ H, L 75 [.im (.agg (encT a)), .im (.int .i64 (d - 1))] H = some (.im (.bool b), H)) :
  L 92 [.im (.agg (encT a)), .ptr idd 0 0] H = some (.im (.bool (!b)), H) := by
 have hlt := (List.getElem?_eq_some_iff.1 hid).1
 have h2 : ∀ o, (H ++ [o])[idd]? = some (.obj none [[.im (.int .i64 d)]]) := fun o => by rw [List.getElem?_append_left hlt]; exact hid
 have hwr := wrap_small (d - 1) (by omega)
 obtain ⟨k, s, ts⟩ := a
 simp only [encT] at h51 ⊢
 rw [leq F92]
 obtain ⟨hlen, ha⟩ := enter_at (f := f92) (args := [.im (.agg [.int .i64 k, .sl s (encTs ts)]), .ptr idd 0 0]) (Nat.le_of_ble_eq_true rfl)
 have h0 := ha 0 _ rfl
 have h1 := ha 1 _ rfl
 generalize enterA f92 [.im (.agg [.int .i64 k, .sl s (encTs ts)]), .ptr idd 0 0] = tm at *
 change tm.length = 9 at hlen
 simp only [f92,exec0,xreg,xops,wantedA,aopc,aop,ev,putA,endK,resA,tupA,List.length_cons,List.length_nil,List.replicate,List.cons_append,List.nil_append,List.append_nil,List.append_assoc,gs_same,gs_ne,gq_same,gq_ne,List.length_set,List.map_cons,List.map_nil,cellsOf,List.all_cons,List.all_nil,cellOk,boxTy,Bool.and_true,Bool.and_self,if_true,ite_true,ite_false,loadAt,storeAt,setAt,hget,hget0,hset,hset0,List.getElem?_cons_zero,List.getElem?_cons_succ,List.set_cons_zero,List.set_cons_succ,Nat.add_zero,Nat.zero_add,Nat.reduceAdd,Nat.reduceSub,Nat.reduceLeDiff,Nat.reduceLT,Nat.reduceEqDiff,Nat.le_refl,and_self,and_true,true_and,mkAgg,toIms,List.drop_zero,List.drop_succ_cons,List.take_succ_cons,List.take_zero,List.length_append,binA,isShift,binInt,binBool,unA,Bool.false_eq_true,if_false,partA,fillA,fillE,List.take_nil,Nat.zero_ne_one,Nat.one_ne_zero,not_false_eq_true,ne_eq,Nat.succ_ne_self,reduceCtorEq,Int.reduceEq,Int.reduceLT,Int.reduceLE,decide_true,decide_false,lenA,beq_self_eq_true,beq_true,beq_false,Bool.not_true,Bool.not_false,hlen,h0,h1,h2,hwr,h51,leave_app]
theorem s75 : ∀ (t : KT), okT t → ∀ (d : Int), 0 ≤ d → d ≤ 1000 → ∀ H, L 75 [.im (.agg (encT t)), .im (.int .i64 d)] H = some (.im (.bool (rightT t d)), H)
 | .mk k s args, hok, d, hd0, hd1, H => by
  simp only [okT] at hok
  obtain ⟨hs, hn, hoks⟩ := hok
  have h76 := fun H' id (hid : H'[id]? = some (.obj none [[.im (.int .i64 k), .im (.sl s (encTs args))]])) (idw : Nat) (hw : H'[idw]? = some (.obj none (words.map encW))) => s89 words idw id k (.im (.sl s (encTs args))) H' hw hid (by decide)
  simp only [encT]
  rw [leq F75]
  obtain ⟨hlen, ha⟩ := enter_at (f := f75) (args := [.im (.agg [.int .i64 k, .sl s (encTs args)]), .im (.int .i64 d)]) (Nat.le_of_ble_eq_true rfl)
  have h0 := ha 0 _ rfl
  have h1 := ha 1 _ rfl
  generalize enterA f75 [.im (.agg [.int .i64 k, .sl s (encTs args)]), .im (.int .i64 d)] = tm at *
  change tm.length = 31 at hlen
  have h76' := h76 (H ++ [.obj none [[.im (.int .i64 k), .im (.sl s (encTs args))]], .obj none [[.im (.int .i64 d)]], .obj none (words.map encW)]) H.length (by rw [hget0]; rfl) (H.length + 2) (by rw [hget]; rfl)
  simp only [show words.length = 8 from rfl] at h76'
  cases hk : kidx k with
  | none =>
   unfold kidx at hk
   simp only [hk] at h76'
   have e1 : decide ((-1 : Int) < 0) = true := rfl
   simp only [f75,exec0,xreg,xops,wantedA,aopc,aop,ev,putA,endK,resA,tupA,List.length_cons,List.length_nil,List.replicate,List.cons_append,List.nil_append,List.append_nil,List.append_assoc,gs_same,gs_ne,gq_same,gq_ne,List.length_set,List.map_cons,List.map_nil,cellsOf,List.all_cons,List.all_nil,cellOk,boxTy,Bool.and_true,Bool.and_self,if_true,ite_true,ite_false,loadAt,storeAt,setAt,hget,hget0,hset,hset0,List.getElem?_cons_zero,List.getElem?_cons_succ,List.set_cons_zero,List.set_cons_succ,Nat.add_zero,Nat.zero_add,Nat.reduceAdd,Nat.reduceSub,Nat.reduceLeDiff,Nat.reduceLT,Nat.reduceEqDiff,Nat.le_refl,and_self,and_true,true_and,mkAgg,toIms,List.drop_zero,List.drop_succ_cons,List.take_succ_cons,List.take_zero,List.length_append,binA,isShift,binInt,binBool,unA,Bool.false_eq_true,if_false,partA,fillA,fillE,List.take_nil,Nat.zero_ne_one,Nat.one_ne_zero,not_false_eq_true,ne_eq,Nat.succ_ne_self,reduceCtorEq,Int.reduceEq,Int.reduceLT,Int.reduceLE,decide_true,decide_false,lenA,beq_self_eq_true,beq_true,beq_false,Bool.not_true,Bool.not_false,forall_eq_or_imp,stays,loadOf,List.reverse_cons,List.reverse_nil,List.mem_cons,List.not_mem_nil,or_false,forall_eq,true_or,or_true,Bool.true_and,hlen,h0,h1,s76,h76',e1,leave_app]
   have e2 : rightT (.mk k s args) d = false := by
    unfold rightT kidx
    rw [hk]
   rw [e2]
  | some i =>
   obtain ⟨hi8, w, hw, hcw⟩ := kidx_lt hk
   have hk' := hk
   unfold kidx at hk
   simp only [hk] at h76'
   have e1 : decide ((i : Int) < 0) = false := decide_eq_false (by omega)
   by_cases hd : d < 1
   ·have e3 : decide (d < 1) = true := decide_eq_true hd
    have e2 : rightT (.mk k s args) d = false := by
     simp only [rightT,hk',hd,if_true]
    simp only [f75,exec0,xreg,xops,wantedA,aopc,aop,ev,putA,endK,resA,tupA,List.length_cons,List.length_nil,List.replicate,List.cons_append,List.nil_append,List.append_nil,List.append_assoc,gs_same,gs_ne,gq_same,gq_ne,List.length_set,List.map_cons,List.map_nil,cellsOf,List.all_cons,List.all_nil,cellOk,boxTy,Bool.and_true,Bool.and_self,if_true,ite_true,ite_false,loadAt,storeAt,setAt,hget,hget0,hset,hset0,List.getElem?_cons_zero,List.getElem?_cons_succ,List.set_cons_zero,List.set_cons_succ,Nat.add_zero,Nat.zero_add,Nat.reduceAdd,Nat.reduceSub,Nat.reduceLeDiff,Nat.reduceLT,Nat.reduceEqDiff,Nat.le_refl,and_self,and_true,true_and,mkAgg,toIms,List.drop_zero,List.drop_succ_cons,List.take_succ_cons,List.take_zero,List.length_append,binA,isShift,binInt,binBool,unA,Bool.false_eq_true,if_false,partA,fillA,fillE,List.take_nil,Nat.zero_ne_one,Nat.one_ne_zero,not_false_eq_true,ne_eq,Nat.succ_ne_self,reduceCtorEq,Int.reduceEq,Int.reduceLT,Int.reduceLE,decide_true,decide_false,lenA,beq_self_eq_true,beq_true,beq_false,Bool.not_true,Bool.not_false,forall_eq_or_imp,stays,loadOf,List.reverse_cons,List.reverse_nil,List.mem_cons,List.not_mem_nil,or_false,forall_eq,true_or,or_true,Bool.true_and,hlen,h0,h1,s76,h76',e1,e3,leave_app]
    rw [e2]
   ·have e3 : decide (d < 1) = false := decide_eq_false hd
    have hix := idx_nat (n := 8) (i := i) hi8
    have hgw : (words.map encW)[i]? = some (encW w) := by rw [List.getElem?_map, hw]; rfl
    have hel : (encTs args).length = args.length := by rw [encTs_map]; simp
    by_cases hc : (args.length : Int) = w.2.2
    ·have e4 : decide ((args.length : Int) = w.2.2) = true := decide_eq_true hc
     have e2 : rightT (.mk k s args) d = !(args.any fun a => !rightT a (d - 1)) := by
      simp only [rightT,rightNot_any,hk',hd,if_false,hcw,hc,if_true]
     have h78 := s91 args s hs hn (fun a => !rightT a (d - 1)) 92 [.ptr (H.length + 1) 0 0] (H ++ [.obj none [[.im (.int .i64 k), .im (.sl s (encTs args))]], .obj none [[.im (.int .i64 d)]], .obj none (words.map encW), .obj none (words.map encW)])
      (fun a ha => s92 a d ⟨by omega, hd1⟩ (H.length + 1) _ (by rw [hget]; rfl) (rightT a (d - 1)) (fun H' => s75 a (okTs_mem hoks a ha) (d - 1) (by omega) (by omega) H'))
     rw [← encTs_map] at h78
     rw [e2]
     simp only [f75,exec0,xreg,xops,wantedA,aopc,aop,ev,putA,endK,resA,tupA,List.length_cons,List.length_nil,List.replicate,List.cons_append,List.nil_append,List.append_nil,List.append_assoc,gs_same,gs_ne,gq_same,gq_ne,List.length_set,List.map_cons,List.map_nil,cellsOf,List.all_cons,List.all_nil,cellOk,boxTy,Bool.and_true,Bool.and_self,if_true,ite_true,ite_false,loadAt,storeAt,setAt,hget,hget0,hset,hset0,List.getElem?_cons_zero,List.getElem?_cons_succ,List.set_cons_zero,List.set_cons_succ,Nat.add_zero,Nat.zero_add,Nat.reduceAdd,Nat.reduceSub,Nat.reduceLeDiff,Nat.reduceLT,Nat.reduceEqDiff,Nat.le_refl,and_self,and_true,true_and,mkAgg,toIms,List.drop_zero,List.drop_succ_cons,List.take_succ_cons,List.take_zero,List.length_append,binA,isShift,binInt,binBool,unA,Bool.false_eq_true,if_false,partA,fillA,fillE,List.take_nil,Nat.zero_ne_one,Nat.one_ne_zero,not_false_eq_true,ne_eq,Nat.succ_ne_self,reduceCtorEq,Int.reduceEq,Int.reduceLT,Int.reduceLE,decide_true,decide_false,lenA,beq_self_eq_true,beq_true,beq_false,Bool.not_true,Bool.not_false,forall_eq_or_imp,stays,loadOf,List.reverse_cons,List.reverse_nil,List.mem_cons,List.not_mem_nil,or_false,forall_eq,true_or,or_true,Bool.true_and,hlen,h0,h1,s76,h76',e1,e3,hix,hgw,encW,hel,e4,h78,leave_app]
    ·have e4 : decide ((args.length : Int) = w.2.2) = false := decide_eq_false hc
     have e2 : rightT (.mk k s args) d = false := by
      simp only [rightT,hk',hd,if_false,hcw,hc]
     simp only [f75,exec0,xreg,xops,wantedA,aopc,aop,ev,putA,endK,resA,tupA,List.length_cons,List.length_nil,List.replicate,List.cons_append,List.nil_append,List.append_nil,List.append_assoc,gs_same,gs_ne,gq_same,gq_ne,List.length_set,List.map_cons,List.map_nil,cellsOf,List.all_cons,List.all_nil,cellOk,boxTy,Bool.and_true,Bool.and_self,if_true,ite_true,ite_false,loadAt,storeAt,setAt,hget,hget0,hset,hset0,List.getElem?_cons_zero,List.getElem?_cons_succ,List.set_cons_zero,List.set_cons_succ,Nat.add_zero,Nat.zero_add,Nat.reduceAdd,Nat.reduceSub,Nat.reduceLeDiff,Nat.reduceLT,Nat.reduceEqDiff,Nat.le_refl,and_self,and_true,true_and,mkAgg,toIms,List.drop_zero,List.drop_succ_cons,List.take_succ_cons,List.take_zero,List.length_append,binA,isShift,binInt,binBool,unA,Bool.false_eq_true,if_false,partA,fillA,fillE,List.take_nil,Nat.zero_ne_one,Nat.one_ne_zero,not_false_eq_true,ne_eq,Nat.succ_ne_self,reduceCtorEq,Int.reduceEq,Int.reduceLT,Int.reduceLE,decide_true,decide_false,lenA,beq_self_eq_true,beq_true,beq_false,Bool.not_true,Bool.not_false,forall_eq_or_imp,stays,loadOf,List.reverse_cons,List.reverse_nil,List.mem_cons,List.not_mem_nil,or_false,forall_eq,true_or,or_true,Bool.true_and,hlen,h0,h1,s76,h76',e1,e3,hix,hgw,encW,hel,e4,leave_app]
     rw [e2]
termination_by t => SizeOf.sizeOf t
decreasing_by
 have := List.sizeOf_lt_of_mem ha
 simp only [KT.mk.sizeOf_spec]
 omega
end Go.Abs.Seat
end
section
set_option linter.unusedVariables false
set_option linter.unusedSimpArgs false
namespace Go.Abs.Seat
open Go.Proofs
mutual
def narrow : KT → Prop
 | .mk _ _ args => args.length ≤ 2 ∧ narrows args
def narrows : List KT → Prop
 | [] => True
 | a :: l => narrow a ∧ narrows l
end
theorem narrows_mem : ∀ {l : List KT}, narrows l → ∀ a ∈ l, narrow a
 | [], _, a, h => by simp at h
 | b :: l, h, a, hm => by
  simp only [narrows] at h
  rcases List.mem_cons.1 hm with rfl | hm
  ·exact h.1
  ·exact narrows_mem h.2 a hm
end Go.Abs.Seat
end
section
set_option linter.unusedVariables false
set_option linter.unusedSimpArgs false
namespace Go.Abs.Seat
open Go.Proofs
theorem word_len : ∀ w ∈ words, w.2.1.length ≤ 8 := by decide
def sepB (i : Nat) : UInt8 := if i = 0 then 40 else 44
end Go.Abs.Seat
end
section
set_option linter.unusedVariables false
set_option linter.unusedSimpArgs false
namespace Go.Abs.Seat
open Go.Proofs
def mkT (k : Int) (args : List KT) : KT := .mk k (if args.length = 0 then 0 else 2) args
def zeroT : KT := mkT 0 []
end Go.Abs.Seat
end
section
set_option linter.unusedVariables false
set_option linter.unusedSimpArgs false
namespace Go.Abs.Seat
open Go.Proofs
def letZ (n : Int) : Bool := decide (97 ≤ n) && decide (n ≤ 122)
def digZ (n : Int) : Bool := decide (48 ≤ n) && decide (n ≤ 57)
def namZ (n : Int) : Bool := (letZ n || digZ n) || decide (n = 95)
def plnZ (n : Int) : Bool := ((decide (32 ≤ n) && decide (n ≤ 126)) && !decide (n = 34)) && !decide (n = 92)
theorem s34 (n : Int) (H : Heap) : L 34 [.im (.int .u8 n)] H = some (.im (.bool (namZ n)), H) := by
 rw [leq F34]
 obtain ⟨hlen, ha⟩ := enter_at (f := f34) (args := [.im (.int .u8 n)]) (Nat.le_of_ble_eq_true rfl)
 have h0 := ha 0 _ rfl
 generalize enterA f34 [.im (.int .u8 n)] = tm at *
 change tm.length = 21 at hlen
 unfold namZ letZ digZ
 rcases Bool.eq_false_or_eq_true (decide (97 ≤ n)) with h1 | h1 <;> rcases Bool.eq_false_or_eq_true (decide (n ≤ 122)) with h2 | h2 <;> rcases Bool.eq_false_or_eq_true (decide (48 ≤ n)) with h3 | h3 <;> rcases Bool.eq_false_or_eq_true (decide (n ≤ 57)) with h4 | h4 <;>
  (rw [h1, h2, h3, h4]; simp only [f34,B0,B1,B2,List.replicate,Nat.reduceAdd,Nat.reduceSub,Nat.reduceLeDiff,Nat.reduceLT,Nat.reduceEqDiff,reduceCtorEq,Int.reduceEq,Int.reduceLT,Int.reduceLE,lenA,endK,resA,tupA,hlen,h0,h1,h2,h3,h4,leave_same,Bool.true_and,Bool.false_and,Bool.true_or,Bool.false_or,Bool.or_true,Bool.or_false])
theorem s51 (n : Int) (H : Heap) : L 51 [.im (.int .u8 n)] H = some (.im (.bool (plnZ n)), H) := by
 rw [leq F51]
 obtain ⟨hlen, ha⟩ := enter_at (f := f51) (args := [.im (.int .u8 n)]) (Nat.le_of_ble_eq_true rfl)
 have h0 := ha 0 _ rfl
 generalize enterA f51 [.im (.int .u8 n)] = tm at *
 change tm.length = 17 at hlen
 unfold plnZ
 rcases Bool.eq_false_or_eq_true (decide (32 ≤ n)) with h1 | h1 <;> rcases Bool.eq_false_or_eq_true (decide (n ≤ 126)) with h2 | h2 <;> rcases Bool.eq_false_or_eq_true (decide (n = 34)) with h3 | h3 <;>
  (rw [h1, h2, h3]; simp only [f51,B0,B1,B2,List.replicate,Nat.reduceAdd,Nat.reduceSub,Nat.reduceLeDiff,Nat.reduceLT,Nat.reduceEqDiff,reduceCtorEq,Int.reduceEq,Int.reduceLT,Int.reduceLE,lenA,endK,resA,tupA,hlen,h0,h1,h2,h3,leave_same,Bool.true_and,Bool.false_and,Bool.not_true,Bool.not_false,Bool.and_false,Bool.and_true])
def peekB (b : List UInt8) (p : Nat) : UInt8 := (b[p]?).getD 0
def objS (b : List UInt8) (p : Nat) (bad : Bool) : HO := .obj none [[.im (.str b), .im (.int .i64 (p : Int)), .im (.bool bad)]]
def skipN (b : List UInt8) : Nat → Nat → Nat
 | 0, p => p
 | f + 1, p => if b[p]? = some 32 then skipN b f (p + 1) else p
def skipB (b : List UInt8) (p : Nat) : Nat := skipN b (b.length - p) p
end Go.Abs.Seat
end
section
set_option linter.unusedVariables false
set_option linter.unusedSimpArgs false
namespace Go.Abs.Seat
open Go.Proofs
def signP (b : List UInt8) (p : Nat) (bad : Bool) (c : UInt8) : Nat × Bool :=
 if bad = true then (p, true) else if peekB b (skipB b p) = c then (skipB b p + 1, false) else (skipB b p, true)
end Go.Abs.Seat
end
section
set_option linter.unusedVariables false
set_option linter.unusedSimpArgs false
namespace Go.Abs.Seat
open Go.Proofs
def shapes : List (List UInt8 × List UInt8) := [([116, 114, 117, 101], []),
 ([102, 97, 108, 115, 101], []),
 ([105, 116], []),
 ([110, 101, 103], [101]),
 ([110, 111, 116], [101]),
 ([102, 105, 114, 115, 116], [101]),
 ([115, 101, 99, 111, 110, 100], [101]),
 ([108, 101, 110], [101]),
 ([115, 111, 114, 116], [101]),
 ([115, 111, 109, 101], [101]),
 ([105, 115, 95, 115, 111, 109, 101], [101]),
 ([115, 105, 122, 101], [101]),
 ([98, 121, 116, 101, 115], [101]),
 ([116, 101, 120, 116], [101]),
 ([115, 104, 111, 119], [101]),
 ([114, 101], [101]),
 ([105, 109], [101]),
 ([99, 111, 110, 106], [101]),
 ([114, 97, 110, 103, 101], [101]),
 ([97, 100, 100], [101, 101]),
 ([115, 117, 98], [101, 101]),
 ([109, 117, 108], [101, 101]),
 ([100, 105, 118], [101, 101]),
 ([109, 111, 100], [101, 101]),
 ([101, 113], [101, 101]),
 ([108, 116], [101, 101]),
 ([97, 110, 100], [101, 101]),
 ([111, 114], [101, 101]),
 ([112, 97, 105, 114], [101, 101]),
 ([99, 111, 110, 115], [101, 101]),
 ([99, 111, 110, 99, 97, 116], [101, 101]),
 ([97, 116], [101, 101]),
 ([111, 114, 95, 101, 108, 115, 101], [101, 101]),
 ([106, 111, 105, 110], [101, 101]),
 ([112, 111, 105, 110, 116], [101, 101]),
 ([105, 102], [101, 101, 101]),
 ([99, 117, 116], [101, 101, 101]),
 ([108, 105, 115, 116], [43]),
 ([115, 105, 100, 101], [100]),
 ([110, 105, 108], [116]),
 ([110, 111, 110, 101], [116]),
 ([108, 101, 116], [110, 101, 101]),
 ([109, 97, 112], [101, 110, 101]),
 ([102, 105, 108, 116, 101, 114], [101, 110, 101]),
 ([102, 111, 108, 100], [101, 101, 110, 110, 101])]
def shapeT (w : List UInt8) : Option (List UInt8) := shapes.lookup w
set_option maxRecDepth 100000 in
theorem shape_run : ∀ e ∈ shapes, runC bld T 400 33 [.im (.str e.1)] [] = some (.tup [.im (.str e.2), .im (.bool true)], []) := by
 intro e he
 simp only [shapes,List.mem_cons,List.not_mem_nil,or_false] at he
 rcases he with rfl | rfl | rfl | rfl | rfl | rfl | rfl | rfl | rfl | rfl | rfl | rfl | rfl | rfl | rfl | rfl | rfl | rfl | rfl | rfl | rfl | rfl | rfl | rfl | rfl | rfl | rfl | rfl | rfl | rfl | rfl | rfl | rfl | rfl | rfl | rfl | rfl | rfl | rfl | rfl | rfl | rfl | rfl | rfl | rfl <;> kernel_rfl
theorem lookup_mem {α β : Type} [BEq α] [LawfulBEq α] : ∀ {l : List (α × β)} {a : α} {b : β}, l.lookup a = some b → (a, b) ∈ l
 |(x, y) :: l, a, b, h => by
  simp only [List.lookup] at h
  split at h
  ·rename_i he
   have : a = x := by simpa using he
   subst this
   injection h with h
   subst h
   simp
  ·exact List.mem_cons_of_mem _ (lookup_mem h)
theorem lookup_none {α β : Type} [BEq α] [LawfulBEq α] : ∀ {l : List (α × β)} {a : α}, l.lookup a = none → ∀ e ∈ l, a ≠ e.1
 |(x, y) :: l, a, h, e, he => by
  simp only [List.lookup] at h
  split at h
  ·simp at h
  ·rename_i hne
   rcases List.mem_cons.1 he with rfl | he
   ·simpa using hne
   ·exact lookup_none h e he
theorem s33_some {w p : List UInt8} (h : shapeT w = some p) (H : Heap) : L 33 [.im (.str w)] H = some (.tup [.im (.str p), .im (.bool true)], H) :=
 lim_args bsh Tok Tno (shape_run (w, p) (lookup_mem h)) (fun _ => rfl) (fun _ => rfl) H
structure NoW (w : List UInt8) : Prop where
 h0 : decide (w = [116, 114, 117, 101]) = false
 h1 : decide (w = [102, 97, 108, 115, 101]) = false
 h2 : decide (w = [105, 116]) = false
 h3 : decide (w = [110, 101, 103]) = false
 h4 : decide (w = [110, 111, 116]) = false
 h5 : decide (w = [102, 105, 114, 115, 116]) = false
 h6 : decide (w = [115, 101, 99, 111, 110, 100]) = false
 h7 : decide (w = [108, 101, 110]) = false
 h8 : decide (w = [115, 111, 114, 116]) = false
 h9 : decide (w = [115, 111, 109, 101]) = false
 h10 : decide (w = [105, 115, 95, 115, 111, 109, 101]) = false
 h11 : decide (w = [115, 105, 122, 101]) = false
 h12 : decide (w = [98, 121, 116, 101, 115]) = false
 h13 : decide (w = [116, 101, 120, 116]) = false
 h14 : decide (w = [115, 104, 111, 119]) = false
 h15 : decide (w = [114, 101]) = false
 h16 : decide (w = [105, 109]) = false
 h17 : decide (w = [99, 111, 110, 106]) = false
 h18 : decide (w = [114, 97, 110, 103, 101]) = false
 h19 : decide (w = [97, 100, 100]) = false
 h20 : decide (w = [115, 117, 98]) = false
 h21 : decide (w = [109, 117, 108]) = false
 h22 : decide (w = [100, 105, 118]) = false
 h23 : decide (w = [109, 111, 100]) = false
 h24 : decide (w = [101, 113]) = false
 h25 : decide (w = [108, 116]) = false
 h26 : decide (w = [97, 110, 100]) = false
 h27 : decide (w = [111, 114]) = false
 h28 : decide (w = [112, 97, 105, 114]) = false
 h29 : decide (w = [99, 111, 110, 115]) = false
 h30 : decide (w = [99, 111, 110, 99, 97, 116]) = false
 h31 : decide (w = [97, 116]) = false
 h32 : decide (w = [111, 114, 95, 101, 108, 115, 101]) = false
 h33 : decide (w = [106, 111, 105, 110]) = false
 h34 : decide (w = [112, 111, 105, 110, 116]) = false
 h35 : decide (w = [105, 102]) = false
 h36 : decide (w = [99, 117, 116]) = false
 h37 : decide (w = [108, 105, 115, 116]) = false
 h38 : decide (w = [115, 105, 100, 101]) = false
 h39 : decide (w = [110, 105, 108]) = false
 h40 : decide (w = [110, 111, 110, 101]) = false
 h41 : decide (w = [108, 101, 116]) = false
 h42 : decide (w = [109, 97, 112]) = false
 h43 : decide (w = [102, 105, 108, 116, 101, 114]) = false
 h44 : decide (w = [102, 111, 108, 100]) = false
theorem now_of {w : List UInt8} (h : shapeT w = none) : NoW w := by
 have hn := lookup_none h
 simp only [shapes,List.forall_mem_cons,ne_eq] at hn
 obtain ⟨n0, n1, n2, n3, n4, n5, n6, n7, n8, n9, n10, n11, n12, n13, n14, n15, n16, n17, n18, n19, n20, n21, n22, n23, n24, n25, n26, n27, n28, n29, n30, n31, n32, n33, n34, n35, n36, n37, n38, n39, n40, n41, n42, n43, n44, _⟩ := hn
 exact ⟨decide_eq_false n0, decide_eq_false n1, decide_eq_false n2, decide_eq_false n3, decide_eq_false n4, decide_eq_false n5, decide_eq_false n6, decide_eq_false n7, decide_eq_false n8, decide_eq_false n9, decide_eq_false n10, decide_eq_false n11, decide_eq_false n12, decide_eq_false n13, decide_eq_false n14, decide_eq_false n15, decide_eq_false n16, decide_eq_false n17, decide_eq_false n18, decide_eq_false n19, decide_eq_false n20, decide_eq_false n21, decide_eq_false n22, decide_eq_false n23, decide_eq_false n24, decide_eq_false n25, decide_eq_false n26, decide_eq_false n27, decide_eq_false n28, decide_eq_false n29, decide_eq_false n30, decide_eq_false n31, decide_eq_false n32, decide_eq_false n33, decide_eq_false n34, decide_eq_false n35, decide_eq_false n36, decide_eq_false n37, decide_eq_false n38, decide_eq_false n39, decide_eq_false n40, decide_eq_false n41, decide_eq_false n42, decide_eq_false n43, decide_eq_false n44⟩
def Passes (w : List UInt8) (code : ACode) (post : List AV → Prop) : Prop := ∀ (tm : List AV) (H : Heap) (K : AEx → List AV → Heap → Option (AV × Heap)), tm.length = 60 → tm.getD 4 undefA = .im (.str w) →
 ∃ tm', tm'.length = 60 ∧ tm'.getD 4 undefA = .im (.str w) ∧ post tm' ∧ exec0 L Λ code tm H K = K .normal tm' H
theorem pass_skip {w : List UInt8} : Passes w .skip (fun _ => True) := fun tm H K hl h4 => ⟨tm, hl, h4, trivial, x_skip⟩
theorem pass_eq {w lit : List UInt8} {a c : Nat} (ha : a < 60 ∧ c < 60 ∧ a ≠ 4 ∧ c ≠ 4) (h : decide (w = lit) = false) :
  Passes w (.ops [⟨some a, .bin .eql (.t 4) (.c (.im (.str lit))), none⟩, ⟨some c, .move (.t a), none⟩] []) (fun tm => tm.getD c undefA = .im (.bool false)) := fun tm H K hl h4 => by
 obtain ⟨h1, h2, h3, h5⟩ := ha
 refine ⟨(tm.set a (.im (.bool false))).set c (.im (.bool false)), by simp only [List.length_set,hl], ?_, ?_, ?_⟩
 ·rw [gs_ne h5, gs_ne h3, h4]
 ·exact gs_same (by simp only [List.length_set,hl]; exact h2)
 ·have e : (tm.set a (.im (.bool false))).getD a undefA = .im (.bool false) := gs_same (by rw [hl]; exact h1)
  simp only [B0,B1,B2,List.replicate,Nat.reduceAdd,Nat.reduceSub,Nat.reduceLeDiff,Nat.reduceLT,Nat.reduceEqDiff,reduceCtorEq,Int.reduceEq,Int.reduceLT,Int.reduceLE,lenA,h4,h,e]
theorem pass_grp {w lit : List UInt8} {a c : Nat} {G : ACode} (ha : a < 60 ∧ c < 60 ∧ a ≠ 4 ∧ c ≠ 4) (h : decide (w = lit) = false) (hG : Passes w G (fun tm => tm.getD c undefA = .im (.bool false))) :
  Passes w (.seq (.ops [⟨some a, .bin .eql (.t 4) (.c (.im (.str lit))), none⟩, ⟨some c, .move (.t a), none⟩] []) (.cond (.t c) .skip G)) (fun tm => tm.getD c undefA = .im (.bool false)) := fun tm H K hl h4 => by
 obtain ⟨tm1, a1, a2, a3, a4⟩ := pass_eq ha h tm H (seqK L Λ (.cond (.t c) .skip G) K) hl h4
 obtain ⟨tm2, b1, b2, b3, b4⟩ := hG tm1 H K a1 a2
 refine ⟨tm2, b1, b2, b3, ?_⟩
 rw [x_seq, a4, k_normal]
 simp only [x_cond,ev,a3,Bool.false_eq_true,if_false]
 exact b4
theorem pass_case {w : List UInt8} {c : Nat} {G A X : ACode} (hG : Passes w G (fun tm => tm.getD c undefA = .im (.bool false))) (hX : Passes w X (fun _ => True)) :
  Passes w (.seq G (.cond (.t c) A X)) (fun _ => True) := fun tm H K hl h4 => by
 obtain ⟨tm1, a1, a2, a3, a4⟩ := hG tm H (seqK L Λ (.cond (.t c) A X) K) hl h4
 obtain ⟨tm2, b1, b2, b3, b4⟩ := hX tm1 H K a1 a2
 refine ⟨tm2, b1, b2, trivial, ?_⟩
 rw [x_seq, a4, k_normal]
 simp only [x_cond,ev,a3,Bool.false_eq_true,if_false]
 exact b4
def d33 : ACode := (.seq (.seq (.ops [⟨some 6,.bin .eql (.t 4) (.c (.im (.str [116,114,117,101]))),none⟩,⟨some 5,.move (.t 6),none⟩] []) (.cond (.t 5) .skip (.seq (.ops [⟨some 7,.bin .eql (.t 4) (.c (.im (.str [102,97,108,115,101]))),none⟩,⟨some 5,.move (.t 7),none⟩] []) (.cond (.t 5) .skip (.ops [⟨some 8,.bin .eql (.t 4) (.c (.im (.str [105,116]))),none⟩,⟨some 5,.move (.t 8),none⟩] []))))) (.cond (.t 5) (.seq (.ops [⟨some 2,.move (.c (.im (.str []))),none⟩,⟨some 3,.move (.c (.im (.bool true))),none⟩] []) .ret) (.seq (.seq (.ops [⟨some 10,.bin .eql (.t 4) (.c (.im (.str [110,101,103]))),none⟩,⟨some 9,.move (.t 10),none⟩] []) (.cond (.t 9) .skip (.seq (.ops [⟨some 11,.bin .eql (.t 4) (.c (.im (.str [110,111,116]))),none⟩,⟨some 9,.move (.t 11),none⟩] []) (.cond (.t 9) .skip (.seq (.ops [⟨some 12,.bin .eql (.t 4) (.c (.im (.str [102,105,114,115,116]))),none⟩,⟨some 9,.move (.t 12),none⟩] []) (.cond (.t 9) .skip (.seq (.ops [⟨some 13,.bin .eql (.t 4) (.c (.im (.str [115,101,99,111,110,100]))),none⟩,⟨some 9,.move (.t 13),none⟩] []) (.cond (.t 9) .skip (.seq (.ops [⟨some 14,.bin .eql (.t 4) (.c (.im (.str [108,101,110]))),none⟩,⟨some 9,.move (.t 14),none⟩] []) (.cond (.t 9) .skip (.seq (.ops [⟨some 15,.bin .eql (.t 4) (.c (.im (.str [115,111,114,116]))),none⟩,⟨some 9,.move (.t 15),none⟩] []) (.cond (.t 9) .skip (.seq (.ops [⟨some 16,.bin .eql (.t 4) (.c (.im (.str [115,111,109,101]))),none⟩,⟨some 9,.move (.t 16),none⟩] []) (.cond (.t 9) .skip (.seq (.ops [⟨some 17,.bin .eql (.t 4) (.c (.im (.str [105,115,95,115,111,109,101]))),none⟩,⟨some 9,.move (.t 17),none⟩] []) (.cond (.t 9) .skip (.seq (.ops [⟨some 18,.bin .eql (.t 4) (.c (.im (.str [115,105,122,101]))),none⟩,⟨some 9,.move (.t 18),none⟩] []) (.cond (.t 9) .skip (.seq (.ops [⟨some 19,.bin .eql (.t 4) (.c (.im (.str [98,121,116,101,115]))),none⟩,⟨some 9,.move (.t 19),none⟩] []) (.cond (.t 9) .skip (.seq (.ops [⟨some 20,.bin .eql (.t 4) (.c (.im (.str [116,101,120,116]))),none⟩,⟨some 9,.move (.t 20),none⟩] []) (.cond (.t 9) .skip (.seq (.ops [⟨some 21,.bin .eql (.t 4) (.c (.im (.str [115,104,111,119]))),none⟩,⟨some 9,.move (.t 21),none⟩] []) (.cond (.t 9) .skip (.seq (.ops [⟨some 22,.bin .eql (.t 4) (.c (.im (.str [114,101]))),none⟩,⟨some 9,.move (.t 22),none⟩] []) (.cond (.t 9) .skip (.seq (.ops [⟨some 23,.bin .eql (.t 4) (.c (.im (.str [105,109]))),none⟩,⟨some 9,.move (.t 23),none⟩] []) (.cond (.t 9) .skip (.seq (.ops [⟨some 24,.bin .eql (.t 4) (.c (.im (.str [99,111,110,106]))),none⟩,⟨some 9,.move (.t 24),none⟩] []) (.cond (.t 9) .skip (.ops [⟨some 25,.bin .eql (.t 4) (.c (.im (.str [114,97,110,103,101]))),none⟩,⟨some 9,.move (.t 25),none⟩] []))))))))))))))))))))))))))))))) (.cond (.t 9) (.seq (.ops [⟨some 2,.move (.c (.im (.str [101]))),none⟩,⟨some 3,.move (.c (.im (.bool true))),none⟩] []) .ret) (.seq (.seq (.ops [⟨some 27,.bin .eql (.t 4) (.c (.im (.str [97,100,100]))),none⟩,⟨some 26,.move (.t 27),none⟩] []) (.cond (.t 26) .skip (.seq (.ops [⟨some 28,.bin .eql (.t 4) (.c (.im (.str [115,117,98]))),none⟩,⟨some 26,.move (.t 28),none⟩] []) (.cond (.t 26) .skip (.seq (.ops [⟨some 29,.bin .eql (.t 4) (.c (.im (.str [109,117,108]))),none⟩,⟨some 26,.move (.t 29),none⟩] []) (.cond (.t 26) .skip (.seq (.ops [⟨some 30,.bin .eql (.t 4) (.c (.im (.str [100,105,118]))),none⟩,⟨some 26,.move (.t 30),none⟩] []) (.cond (.t 26) .skip (.seq (.ops [⟨some 31,.bin .eql (.t 4) (.c (.im (.str [109,111,100]))),none⟩,⟨some 26,.move (.t 31),none⟩] []) (.cond (.t 26) .skip (.seq (.ops [⟨some 32,.bin .eql (.t 4) (.c (.im (.str [101,113]))),none⟩,⟨some 26,.move (.t 32),none⟩] []) (.cond (.t 26) .skip (.seq (.ops [⟨some 33,.bin .eql (.t 4) (.c (.im (.str [108,116]))),none⟩,⟨some 26,.move (.t 33),none⟩] []) (.cond (.t 26) .skip (.seq (.ops [⟨some 34,.bin .eql (.t 4) (.c (.im (.str [97,110,100]))),none⟩,⟨some 26,.move (.t 34),none⟩] []) (.cond (.t 26) .skip (.seq (.ops [⟨some 35,.bin .eql (.t 4) (.c (.im (.str [111,114]))),none⟩,⟨some 26,.move (.t 35),none⟩] []) (.cond (.t 26) .skip (.seq (.ops [⟨some 36,.bin .eql (.t 4) (.c (.im (.str [112,97,105,114]))),none⟩,⟨some 26,.move (.t 36),none⟩] []) (.cond (.t 26) .skip (.seq (.ops [⟨some 37,.bin .eql (.t 4) (.c (.im (.str [99,111,110,115]))),none⟩,⟨some 26,.move (.t 37),none⟩] []) (.cond (.t 26) .skip (.seq (.ops [⟨some 38,.bin .eql (.t 4) (.c (.im (.str [99,111,110,99,97,116]))),none⟩,⟨some 26,.move (.t 38),none⟩] []) (.cond (.t 26) .skip (.seq (.ops [⟨some 39,.bin .eql (.t 4) (.c (.im (.str [97,116]))),none⟩,⟨some 26,.move (.t 39),none⟩] []) (.cond (.t 26) .skip (.seq (.ops [⟨some 40,.bin .eql (.t 4) (.c (.im (.str [111,114,95,101,108,115,101]))),none⟩,⟨some 26,.move (.t 40),none⟩] []) (.cond (.t 26) .skip (.seq (.ops [⟨some 41,.bin .eql (.t 4) (.c (.im (.str [106,111,105,110]))),none⟩,⟨some 26,.move (.t 41),none⟩] []) (.cond (.t 26) .skip (.ops [⟨some 42,.bin .eql (.t 4) (.c (.im (.str [112,111,105,110,116]))),none⟩,⟨some 26,.move (.t 42),none⟩] []))))))))))))))))))))))))))))))) (.cond (.t 26) (.seq (.ops [⟨some 2,.move (.c (.im (.str [101,101]))),none⟩,⟨some 3,.move (.c (.im (.bool true))),none⟩] []) .ret) (.seq (.seq (.ops [⟨some 44,.bin .eql (.t 4) (.c (.im (.str [105,102]))),none⟩,⟨some 43,.move (.t 44),none⟩] []) (.cond (.t 43) .skip (.ops [⟨some 45,.bin .eql (.t 4) (.c (.im (.str [99,117,116]))),none⟩,⟨some 43,.move (.t 45),none⟩] []))) (.cond (.t 43) (.seq (.ops [⟨some 2,.move (.c (.im (.str [101,101,101]))),none⟩,⟨some 3,.move (.c (.im (.bool true))),none⟩] []) .ret) (.seq (.ops [⟨some 47,.bin .eql (.t 4) (.c (.im (.str [108,105,115,116]))),none⟩,⟨some 46,.move (.t 47),none⟩] []) (.cond (.t 46) (.seq (.ops [⟨some 2,.move (.c (.im (.str [43]))),none⟩,⟨some 3,.move (.c (.im (.bool true))),none⟩] []) .ret) (.seq (.ops [⟨some 49,.bin .eql (.t 4) (.c (.im (.str [115,105,100,101]))),none⟩,⟨some 48,.move (.t 49),none⟩] []) (.cond (.t 48) (.seq (.ops [⟨some 2,.move (.c (.im (.str [100]))),none⟩,⟨some 3,.move (.c (.im (.bool true))),none⟩] []) .ret) (.seq (.seq (.ops [⟨some 51,.bin .eql (.t 4) (.c (.im (.str [110,105,108]))),none⟩,⟨some 50,.move (.t 51),none⟩] []) (.cond (.t 50) .skip (.ops [⟨some 52,.bin .eql (.t 4) (.c (.im (.str [110,111,110,101]))),none⟩,⟨some 50,.move (.t 52),none⟩] []))) (.cond (.t 50) (.seq (.ops [⟨some 2,.move (.c (.im (.str [116]))),none⟩,⟨some 3,.move (.c (.im (.bool true))),none⟩] []) .ret) (.seq (.ops [⟨some 54,.bin .eql (.t 4) (.c (.im (.str [108,101,116]))),none⟩,⟨some 53,.move (.t 54),none⟩] []) (.cond (.t 53) (.seq (.ops [⟨some 2,.move (.c (.im (.str [110,101,101]))),none⟩,⟨some 3,.move (.c (.im (.bool true))),none⟩] []) .ret) (.seq (.seq (.ops [⟨some 56,.bin .eql (.t 4) (.c (.im (.str [109,97,112]))),none⟩,⟨some 55,.move (.t 56),none⟩] []) (.cond (.t 55) .skip (.ops [⟨some 57,.bin .eql (.t 4) (.c (.im (.str [102,105,108,116,101,114]))),none⟩,⟨some 55,.move (.t 57),none⟩] []))) (.cond (.t 55) (.seq (.ops [⟨some 2,.move (.c (.im (.str [101,110,101]))),none⟩,⟨some 3,.move (.c (.im (.bool true))),none⟩] []) .ret) (.seq (.ops [⟨some 59,.bin .eql (.t 4) (.c (.im (.str [102,111,108,100]))),none⟩,⟨some 58,.move (.t 59),none⟩] []) (.cond (.t 58) (.seq (.ops [⟨some 2,.move (.c (.im (.str [101,101,110,110,101]))),none⟩,⟨some 3,.move (.c (.im (.bool true))),none⟩] []) .ret) .skip))))))))))))))))))))
theorem pass33 {w : List UInt8} (h : NoW w) : Passes w d33 (fun _ => True) := by
 obtain ⟨n0, n1, n2, n3, n4, n5, n6, n7, n8, n9, n10, n11, n12, n13, n14, n15, n16, n17, n18, n19, n20, n21, n22, n23, n24, n25, n26, n27, n28, n29, n30, n31, n32, n33, n34, n35, n36, n37, n38, n39, n40, n41, n42, n43, n44⟩ := h
 unfold d33
 repeat' first
  | exact pass_skip
  | exact pass_eq (by decide) (by assumption)
  | refine pass_grp (by decide) (by assumption) ?_
  | refine pass_case ?_ ?_
theorem s33_none {w : List UInt8} (h : shapeT w = none) (H : Heap) : L 33 [.im (.str w)] H = some (.tup [.im (.str []), .im (.bool false)], H) := by
 have hp := pass33 (now_of h)
 have hlv : leave H false (.tup [.im (.str []), .im (.bool false)]) H = (.tup [.im (.str []), .im (.bool false)], H) := by
  have := leave_deg (H := H) (M := []) (r := .tup [.im (.str []), .im (.bool false)]) rfl rfl
  rwa [List.append_nil] at this
 have hf : f33 = ⟨60, [(2, none), (3, none)], (.seq (.ops [⟨(some 2), (.move (.c (.im (.str [])))), none⟩, ⟨(some 3), (.move (.c (.im (.bool false)))), none⟩] []) (.seq (.seq (.ops [⟨(some 4), (.move (.t 0)), none⟩] []) (.block 0 d33)) (.seq (.ops [⟨(some 2), (.move (.c (.im (.str [])))), none⟩, ⟨(some 3), (.move (.c (.im (.bool false)))), none⟩] []) .ret))), false⟩ := rfl
 rw [leq F33]
 obtain ⟨hlen, ha⟩ := enter_at (f := f33) (args := [.im (.str w)]) (Nat.le_of_ble_eq_true rfl)
 have h0 := ha 0 _ rfl
 generalize enterA f33 [.im (.str w)] = tm at *
 change tm.length = 60 at hlen
 rw [hf]
 have hp' := fun H K => hp (((tm.set 2 (.im (.str []))).set 3 (.im (.bool false))).set 4 (.im (.str w))) H K (by simp only [List.length_set,hlen]) (by simp only [B3,Nat.reduceLT,Nat.reduceEqDiff,hlen])
 simp only [B0,B1,B2,List.replicate,Nat.reduceAdd,Nat.reduceSub,Nat.reduceLeDiff,Nat.reduceLT,Nat.reduceEqDiff,reduceCtorEq,Int.reduceEq,Int.reduceLT,Int.reduceLE,lenA,hlen,h0]
 obtain ⟨tm1, a1, a2, _, a4⟩ := hp' H _
 rw [a4]
 simp only [B0,B1,B2,List.replicate,Nat.reduceAdd,Nat.reduceSub,Nat.reduceLeDiff,Nat.reduceLT,Nat.reduceEqDiff,reduceCtorEq,Int.reduceEq,Int.reduceLT,Int.reduceLE,lenA,endK,resA,tupA,a1,hlv]
end Go.Abs.Seat
end
section
set_option linter.unusedVariables false
set_option linter.unusedSimpArgs false
namespace Go.Abs.Seat
open Go.Proofs
theorem zc0 : ((0 : Nat) : Int) = 0 := _root_.id rfl
end Go.Abs.Seat
end
section
set_option linter.unusedVariables false
set_option linter.unusedSimpArgs false
namespace Go.Abs.Seat
open Go.Proofs
variable {n : Nat} {ty : TypeId × Nat} {rest : List AV} {txt : List UInt8} {H : Heap} {id : Nat}
theorem L60 (args : List AV) (H : Heap) : L 60 args H = ccE Tryd.okB args H := by
 have h : F 60 = none := by kernel_rfl
 exact lim_none h args H
theorem L26 (args : List AV) (H : Heap) : L 26 args H = stE Tryd.okB 5 args H := by
 have h : F 26 = none := by kernel_rfl
 exact lim_none h args H
theorem s44 (hok : Tryd.okB ty = true) (h : HoldE ty 5 n H id rest txt) (s : List UInt8) (hb : txt.length + s.length ≤ 2 ^ 46) :
  ∃ H', L 44 [.ptr id 0 0, .im (.str s)] H = some (.tup [.im (.int .i64 s.length), .im .nili], H') ∧ HoldE ty 5 n H' id rest (txt ++ s) ∧ Keeps n id H H' := by
 obtain ⟨v, H1, hcc, hid, hG, hK, hn1⟩ := cc_holdE hok h
 obtain ⟨v', H2, hap, hG2, hcs, hco, hl2, hk2⟩ := gath_bytes hn1 hG s hb
 have hid2 := (hk2 _ _ _).1 hid
 have hH3 : HoldE ty 5 n (H2.set id (.obj (some ty) [.ptr id 0 0 :: v' :: rest])) id rest (txt ++ s) :=
  ⟨_, v', by rw [List.getElem?_set_self (List.getElem?_eq_some_iff.1 hid2).1], .inr rfl, hG2.set_obj hid2 _, by simp; omega⟩
 have hK3 : Keeps n id H (H2.set id (.obj (some ty) [.ptr id 0 0 :: v' :: rest])) :=
  (hK.trans ⟨hl2, fun i ty es _ hi => (hk2 i ty es).1 hi, fun i hi _ _ => (hk2 i none []).2 hi⟩).set _
 obtain ⟨H', hlv, hH', hK'⟩ := leave_holdE (r := .tup [.im (.int .i64 s.length), .im .nili]) (r' := .tup [.im (.int .i64 s.length), .im .nili]) rfl h hH3 hK3
 refine ⟨H', ?_, hH', hK'⟩
 rw [leq F44]
 obtain ⟨hlen, ha⟩ := enter_at (f := f44) (args := [.ptr id 0 0, .im (.str s)]) (Nat.le_of_ble_eq_true rfl)
 have h0 := ha 0 _ rfl
 have h1 := ha 1 _ rfl
 generalize enterA f44 [.ptr id 0 0, .im (.str s)] = tm at *
 change tm.length = 19 at hlen
 have hel : elems H1 1 (.im (.str s)) = some (s.map fun b => [byteDat b]) := by simp [elems]
 simp only [exec0,xreg,xops,wantedA,aopc,aop,ev,putA,gs_same,gs_ne,List.length_set,hlen,Nat.reduceLT,Nat.reduceEqDiff,not_false_eq_true,if_true,h0,h1,List.map_cons,List.map_nil,List.append_nil,f44,L60,hcc,loadAt,hid,List.getElem?_cons_zero,List.getElem?_cons_succ,Nat.zero_add,Nat.reduceAdd,hel,hap,storeAt,hid2,hcs,List.length_cons,List.length_nil,Nat.reduceLeDiff,Nat.le_refl,List.all_cons,List.all_nil,hco,Bool.and_true,and_self,setAt,List.set_cons_zero,List.set_cons_succ,endK,resA,tupA,hlv]
theorem s62 (hok : Tryd.okB ty = true) (h : HoldE ty 5 n H id rest txt) (b : UInt8) (hb : txt.length + 1 ≤ 2 ^ 46) :
  ∃ H', L 62 [.ptr id 0 0, .im (byteDat b)] H = some (.im .nili, H') ∧ HoldE ty 5 n H' id rest (txt ++ [b]) ∧ Keeps n id H H' := by
 obtain ⟨v, H1, hcc, hid, hG, hK, hn1⟩ := cc_holdE hok h
 obtain ⟨v', H2, hap, hG2, hcs, hco, hl2, hk2⟩ := gath_bytes hn1 hG [b] hb
 have hid2 := (hk2 _ _ _).1 hid
 have hH3 : HoldE ty 5 n (H2.set id (.obj (some ty) [.ptr id 0 0 :: v' :: rest])) id rest (txt ++ [b]) :=
  ⟨_, v', by rw [List.getElem?_set_self (List.getElem?_eq_some_iff.1 hid2).1], .inr rfl, hG2.set_obj hid2 _, by simp; omega⟩
 have hK3 : Keeps n id H (H2.set id (.obj (some ty) [.ptr id 0 0 :: v' :: rest])) :=
  (hK.trans ⟨hl2, fun i ty es _ hi => (hk2 i ty es).1 hi, fun i hi _ _ => (hk2 i none []).2 hi⟩).set _
 obtain ⟨H', hlv, hH', hK'⟩ := leave_holdE (r := .im .nili) (r' := .im .nili) rfl h hH3 hK3
 refine ⟨H', ?_, hH', hK'⟩
 rw [leq F62]
 obtain ⟨hlen, ha⟩ := enter_at (f := f62) (args := [.ptr id 0 0, .im (byteDat b)]) (Nat.le_of_ble_eq_true rfl)
 have h0 := ha 0 _ rfl
 have h1 := ha 1 _ rfl
 generalize enterA f62 [.ptr id 0 0, .im (byteDat b)] = tm at *
 change tm.length = 17 at hlen
 simp only [List.map_cons,List.map_nil,byteDat] at hap
 have hck : ∀ (k : IntKind) (n : Int), cellOk (.im (.int k n)) = true := fun _ _ => rfl
 have hci : ∀ (k : IntKind) (n : Int), cellsOf (.im (.int k n)) = [.im (.int k n)] := fun _ _ => rfl
 simp only [exec0,xreg,xops,wantedA,aopc,aop,ev,putA,gs_same,gs_ne,List.length_set,hlen,Nat.reduceLT,Nat.reduceEqDiff,not_false_eq_true,if_true,h0,h1,List.map_cons,List.map_nil,List.append_nil,f62,L60,hcc,loadAt,hid,List.getElem?_cons_zero,List.getElem?_cons_succ,Nat.zero_add,Nat.reduceAdd,elems,byteDat,hcs,hci,List.replicate,fillE,toDatss,toDats,toDat,hck,Bool.false_eq_true,if_false,hap,storeAt,hid2,List.length_cons,List.length_nil,Nat.reduceLeDiff,Nat.le_refl,List.all_cons,List.all_nil,hco,Bool.and_true,and_self,setAt,List.set_cons_zero,List.set_cons_succ,endK,resA,tupA,hlv]
theorem s25 (h : HoldE ty 5 n H id rest txt) : L 25 [.ptr id 0 0] H = some (.im (.int .i64 txt.length), H) := by
 obtain ⟨a0, v, h1, h2⟩ := h.len
 rw [leq F25]
 obtain ⟨hlen, ha⟩ := enter_at (f := f25) (args := [.ptr id 0 0]) (Nat.le_of_ble_eq_true rfl)
 have h0 := ha 0 _ rfl
 generalize enterA f25 [.ptr id 0 0] = tm at *
 change tm.length = 8 at hlen
 simp only [f25,B0,B1,B2,List.replicate,Nat.reduceAdd,Nat.reduceSub,Nat.reduceLeDiff,Nat.reduceLT,Nat.reduceEqDiff,reduceCtorEq,Int.reduceEq,Int.reduceLT,Int.reduceLE,endK,resA,tupA,hlen,h0,h1,h2,leave_same]
end Go.Abs.Seat
end
section
set_option linter.unusedVariables false
set_option linter.unusedSimpArgs false
namespace Go.Abs.Seat
open Go.Proofs
variable {n : Nat} {ty : TypeId × Nat} {rest : List AV}
def kgath (k : Int) : List Word → List UInt8
 | [] => []
 | w :: l => (if w.1 = k then w.2.1 else []) ++ kgath k l
theorem kgath_len (k : Int) : ∀ l : List Word, (∀ w ∈ l, w.2.1.length ≤ 8) → (kgath k l).length ≤ 8 * l.length
 | [], _ => by simp [kgath]
 | w :: l, h => by
  have h1 := kgath_len k l fun x hx => h x (by simp [hx])
  have h2 := h w (by simp)
  simp only [kgath,List.length_append,List.length_cons]
  split <;> simp <;> omega
section
variable (hty : Tryd.okB ty = true)
include hty
theorem l66w (k : Int) (x : AV) (id idt idw : Nat) (hne : idt ≠ id) (hnw : idw ≠ id) (rows : List Word) (hr : ∀ w ∈ rows, w.2.1.length ≤ 8) (hrn : rows.length ≤ 1000) :
  ∀ (m i : Nat), i + m = rows.length → ∀ (tm : List AV) (Hc : Heap) (txt : List UInt8), txt.length + 8 * m ≤ 2 ^ 46 → HoldE ty 5 n Hc id rest txt → Hc[idt]? = some (.obj none [[.im (.int .i64 k), x]]) → Hc[idw]? = some (.obj none (rows.map encW)) →
  tm.length = 46 → tm.getD 0 undefA = .ptr id 0 0 → tm.getD 3 undefA = .ptr idt 0 0 → tm.getD 8 undefA = .ms 3 idw 0 rows.length → tm.getD 9 undefA = .im (.int .i64 rows.length) → tm.getD 10 undefA = .im (.int .i64 i) →
  ∃ e tm' H', Λ c66_1 tm Hc = some (e, tm', H') ∧ tm'.length = 46 ∧ e = .exit 0 ∧ tm'.getD 0 undefA = .ptr id 0 0 ∧ tm'.getD 3 undefA = .ptr idt 0 0 ∧ HoldE ty 5 n H' id rest (txt ++ kgath k (rows.drop i)) ∧ Keeps n id Hc H'
 | 0, i, hi, tm, Hc, txt, hb, hH, ht, hw, hlen, h0, h3, h8, h9, h10 => by
  have e : rows.drop i = [] := by rw [List.drop_eq_nil_iff]; omega
  have hc : decide ((i : Int) < (rows.length : Int)) = false := decide_eq_false (by omega)
  rw [l66_1, e]
  simp only [b66_1,exec0,xreg,xops,wantedA,aopc,aop,ev,putA,endK,resA,tupA,List.length_cons,List.length_nil,List.replicate,List.cons_append,List.nil_append,List.append_nil,List.append_assoc,gs_same,gs_ne,gq_same,gq_ne,List.length_set,List.map_cons,List.map_nil,cellsOf,List.all_cons,List.all_nil,cellOk,boxTy,Bool.and_true,Bool.and_self,if_true,ite_true,ite_false,loadAt,storeAt,setAt,hget,hget0,hset,hset0,List.getElem?_cons_zero,List.getElem?_cons_succ,List.set_cons_zero,List.set_cons_succ,Nat.add_zero,Nat.zero_add,Nat.reduceAdd,Nat.reduceSub,Nat.reduceLeDiff,Nat.reduceLT,Nat.reduceEqDiff,Nat.le_refl,and_self,and_true,true_and,mkAgg,toIms,List.drop_zero,List.drop_succ_cons,List.take_succ_cons,List.take_zero,List.length_append,binA,isShift,binInt,binBool,unA,Bool.false_eq_true,if_false,partA,fillA,fillE,List.take_nil,Nat.zero_ne_one,Nat.one_ne_zero,not_false_eq_true,ne_eq,Nat.succ_ne_self,reduceCtorEq,Int.reduceEq,Int.reduceLT,Int.reduceLE,decide_true,decide_false,lenA,beq_self_eq_true,beq_true,beq_false,Bool.not_true,Bool.not_false,hlen,h0,h3,h8,h9,h10,hc]
  exact ⟨_, _, _, rfl, by simp only [List.length_set,hlen], rfl, by simp only [B3,Nat.reduceLT,Nat.reduceEqDiff,hlen,h0], by simp only [B3,Nat.reduceLT,Nat.reduceEqDiff,hlen,h3], by simpa only [kgath, List.append_nil] using hH, Keeps.refl _ _ _⟩
 | m + 1, i, hi, tm, Hc, txt, hb, hH, ht, hw, hlen, h0, h3, h8, h9, h10 => by
  have hlt : i < rows.length := by omega
  obtain ⟨w, hwi⟩ : ∃ w, rows[i]? = some w := ⟨_, List.getElem?_eq_getElem hlt⟩
  have e : rows.drop i = w :: rows.drop (i + 1) := by
   rw [List.drop_eq_getElem_cons hlt]
   congr 1
   rw [List.getElem?_eq_getElem hlt] at hwi
   exact Option.some.inj hwi
  have hc : decide ((i : Int) < (rows.length : Int)) = true := decide_eq_true (by omega)
  have hix := idx_nat hlt
  have hgw : (rows.map encW)[i]? = some (encW w) := by rw [List.getElem?_map, hwi]; rfl
  have hwl := hr w (List.mem_of_getElem? hwi)
  have hwr := wrap_nat (i := i) (by omega)
  have hta : ∀ M : Heap, (Hc ++ M)[idt]? = some (.obj none [[.im (.int .i64 k), x]]) := fun M => by rw [get_app (List.getElem?_eq_some_iff.1 ht).1]; exact ht
  have key := l66w k x id idt idw hne hnw rows hr hrn m (i + 1) (by omega)
  have hH1 := hH.more [.obj none [encW w]]
  simp only [encW] at hH1 hgw
  rw [l66_1, e]
  by_cases hk : w.1 = k
  ·have hd : decide (w.1 = k) = true := decide_eq_true hk
   obtain ⟨H2, hcall, hH2, hK2⟩ := s44 hty hH1 w.2.1 (by omega)
   have hK := hK2.down
   simp only [b66_1,exec0,xreg,xops,wantedA,aopc,aop,ev,putA,endK,resA,tupA,List.length_cons,List.length_nil,List.replicate,List.cons_append,List.nil_append,List.append_nil,List.append_assoc,gs_same,gs_ne,gq_same,gq_ne,List.length_set,List.map_cons,List.map_nil,cellsOf,List.all_cons,List.all_nil,cellOk,boxTy,Bool.and_true,Bool.and_self,if_true,ite_true,ite_false,loadAt,storeAt,setAt,hget,hget0,hset,hset0,List.getElem?_cons_zero,List.getElem?_cons_succ,List.set_cons_zero,List.set_cons_succ,Nat.add_zero,Nat.zero_add,Nat.reduceAdd,Nat.reduceSub,Nat.reduceLeDiff,Nat.reduceLT,Nat.reduceEqDiff,Nat.le_refl,and_self,and_true,true_and,mkAgg,toIms,List.drop_zero,List.drop_succ_cons,List.take_succ_cons,List.take_zero,List.length_append,binA,isShift,binInt,binBool,unA,Bool.false_eq_true,if_false,partA,fillA,fillE,List.take_nil,Nat.zero_ne_one,Nat.one_ne_zero,not_false_eq_true,ne_eq,Nat.succ_ne_self,reduceCtorEq,Int.reduceEq,Int.reduceLT,Int.reduceLE,decide_true,decide_false,lenA,beq_self_eq_true,beq_true,beq_false,Bool.not_true,Bool.not_false,hlen,h0,h3,h8,h9,h10,hc,hix,hw,hgw,hta,hd,hcall,hwr]
   refine ex_imp (key _ H2 (txt ++ w.2.1) (by simp; omega) hH2 (hK.2.1 _ _ _ hne ht) (hK.2.1 _ _ _ hnw hw) ?_ ?_ ?_ ?_ ?_ ?_) ?_
   iterate 6 simp only [B3,Nat.reduceLT,Nat.reduceEqDiff,hlen,h0,h3,h8,h9]
   rintro e tm' H' ⟨hl', he, g0, g3, gH, gK⟩
   refine ⟨hl', he, g0, g3, ?_, hK.trans gK⟩
   simp only [kgath,hk,if_true]
   rwa [List.append_assoc] at gH
  ·have hd : decide (w.1 = k) = false := decide_eq_false hk
   have hK := (Keeps.refl n id Hc).app [.obj none [[.im (.int .i64 w.1), .im (.str w.2.1), .im (.int .i64 w.2.2)]]]
   simp only [b66_1,exec0,xreg,xops,wantedA,aopc,aop,ev,putA,endK,resA,tupA,List.length_cons,List.length_nil,List.replicate,List.cons_append,List.nil_append,List.append_nil,List.append_assoc,gs_same,gs_ne,gq_same,gq_ne,List.length_set,List.map_cons,List.map_nil,cellsOf,List.all_cons,List.all_nil,cellOk,boxTy,Bool.and_true,Bool.and_self,if_true,ite_true,ite_false,loadAt,storeAt,setAt,hget,hget0,hset,hset0,List.getElem?_cons_zero,List.getElem?_cons_succ,List.set_cons_zero,List.set_cons_succ,Nat.add_zero,Nat.zero_add,Nat.reduceAdd,Nat.reduceSub,Nat.reduceLeDiff,Nat.reduceLT,Nat.reduceEqDiff,Nat.le_refl,and_self,and_true,true_and,mkAgg,toIms,List.drop_zero,List.drop_succ_cons,List.take_succ_cons,List.take_zero,List.length_append,binA,isShift,binInt,binBool,unA,Bool.false_eq_true,if_false,partA,fillA,fillE,List.take_nil,Nat.zero_ne_one,Nat.one_ne_zero,not_false_eq_true,ne_eq,Nat.succ_ne_self,reduceCtorEq,Int.reduceEq,Int.reduceLT,Int.reduceLE,decide_true,decide_false,lenA,beq_self_eq_true,beq_true,beq_false,Bool.not_true,Bool.not_false,hlen,h0,h3,h8,h9,h10,hc,hix,hw,hgw,hta,hd,hwr]
   refine ex_imp (key _ _ txt (by omega) hH1 (hK.2.1 _ _ _ hne ht) (hK.2.1 _ _ _ hnw hw) ?_ ?_ ?_ ?_ ?_ ?_) ?_
   iterate 6 simp only [B3,Nat.reduceLT,Nat.reduceEqDiff,hlen,h0,h3,h8,h9]
   rintro e tm' H' ⟨hl', he, g0, g3, gH, gK⟩
   refine ⟨hl', he, g0, g3, ?_, hK.trans gK⟩
   simp only [kgath,hk,if_false,List.nil_append]
   exact gH
end
mutual
def showT : KT → List UInt8
 | .mk k _ args => kgath k words ++ (showTs args 40 ++ if args.length = 0 then [] else [41])
def showTs : List KT → UInt8 → List UInt8
 | [], _ => []
 | a :: l, c => c :: (showT a ++ showTs l 44)
end
section
variable (hty : Tryd.okB ty = true)
include hty
theorem l66a (args : List KT) (s : Nat) (hs : args = [] ∨ s = 2) (hn : args.length ≤ 2) (id : Nat)
  (hc : ∀ a ∈ args, ∀ (H : Heap) (txt : List UInt8), txt.length + (showT a).length + 100 ≤ 2 ^ 46 → HoldE ty 5 n H id rest txt → ∃ H', L 66 [.ptr id 0 0, .im (.agg (encT a))] H = some (.tup [], H') ∧ HoldE ty 5 n H' id rest (txt ++ showT a) ∧ Keeps n id H H') :
  ∀ (m i : Nat), i + m = args.length → ∀ (tm : List AV) (Hc : Heap) (txt : List UInt8), txt.length + (showTs (args.drop i) (sepB i)).length + 100 ≤ 2 ^ 46 → HoldE ty 5 n Hc id rest txt →
  tm.length = 46 → tm.getD 0 undefA = .ptr id 0 0 → tm.getD 25 undefA = .im (.sl s (args.map encT)) → tm.getD 26 undefA = .im (.int .i64 args.length) → tm.getD 27 undefA = .im (.int .i64 i) →
  ∃ e tm' H', Λ c66_0 tm Hc = some (e, tm', H') ∧ tm'.length = 46 ∧ e = .exit 2 ∧ tm'.getD 0 undefA = .ptr id 0 0 ∧ tm'.getD 3 undefA = tm.getD 3 undefA ∧ HoldE ty 5 n H' id rest (txt ++ showTs (args.drop i) (sepB i)) ∧ Keeps n id Hc H'
 | 0, i, hi, tm, Hc, txt, hb, hH, hlen, h0, h25, h26, h27 => by
  have e : args.drop i = [] := by rw [List.drop_eq_nil_iff]; omega
  have hc : decide ((i : Int) < (args.length : Int)) = false := decide_eq_false (by omega)
  rw [l66_0, e]
  simp only [b66_0,exec0,xreg,xops,wantedA,aopc,aop,ev,putA,endK,resA,tupA,List.length_cons,List.length_nil,List.replicate,List.cons_append,List.nil_append,List.append_nil,List.append_assoc,gs_same,gs_ne,gq_same,gq_ne,List.length_set,List.map_cons,List.map_nil,cellsOf,List.all_cons,List.all_nil,cellOk,boxTy,Bool.and_true,Bool.and_self,if_true,ite_true,ite_false,loadAt,storeAt,setAt,hget,hget0,hset,hset0,List.getElem?_cons_zero,List.getElem?_cons_succ,List.set_cons_zero,List.set_cons_succ,Nat.add_zero,Nat.zero_add,Nat.reduceAdd,Nat.reduceSub,Nat.reduceLeDiff,Nat.reduceLT,Nat.reduceEqDiff,Nat.le_refl,and_self,and_true,true_and,mkAgg,toIms,List.drop_zero,List.drop_succ_cons,List.take_succ_cons,List.take_zero,List.length_append,binA,isShift,binInt,binBool,unA,Bool.false_eq_true,if_false,partA,fillA,fillE,List.take_nil,Nat.zero_ne_one,Nat.one_ne_zero,not_false_eq_true,ne_eq,Nat.succ_ne_self,reduceCtorEq,Int.reduceEq,Int.reduceLT,Int.reduceLE,decide_true,decide_false,lenA,beq_self_eq_true,beq_true,beq_false,Bool.not_true,Bool.not_false,hlen,h0,h25,h26,h27,hc]
  exact ⟨_, _, _, rfl, by simp only [List.length_set,hlen], rfl, by simp only [B3,Nat.reduceLT,Nat.reduceEqDiff,hlen,h0], by simp only [B3,Nat.reduceLT,Nat.reduceEqDiff,hlen], by simpa only [showTs, List.append_nil] using hH, Keeps.refl _ _ _⟩
 | m + 1, i, hi, tm, Hc, txt, hb, hH, hlen, h0, h25, h26, h27 => by
  have hlt : i < args.length := by omega
  obtain ⟨w, hwi⟩ : ∃ w, args[i]? = some w := ⟨_, List.getElem?_eq_getElem hlt⟩
  have e : args.drop i = w :: args.drop (i + 1) := by
   rw [List.drop_eq_getElem_cons hlt]
   congr 1
   rw [List.getElem?_eq_getElem hlt] at hwi
   exact Option.some.inj hwi
  have hs2 : s = 2 := by
   rcases hs with hs | hs
   ·subst hs; simp at hlt
   ·exact hs
  subst hs2
  have hc' : decide ((i : Int) < (args.length : Int)) = true := decide_eq_true (by omega)
  have hix := idx_nat (n := (args.map encT).length) (i := i) (by simpa using hlt)
  have hix2 := idx_nat (n := 2) (i := i) (by omega)
  have hgw : (args.map encT)[i]? = some (encT w) := by rw [List.getElem?_map, hwi]; rfl
  have hwr := wrap_nat (i := i) (by omega)
  have key := l66a args 2 hs hn id hc m (i + 1) (by omega)
  rw [e] at hb
  simp only [showTs,List.length_cons,List.length_append] at hb
  have hsb : sepB (i + 1) = 44 := by simp [sepB]
  have hsep : ([40, 44] : List UInt8)[i]? = some (sepB i) := by
   have : i = 0 ∨ i = 1 := by omega
   rcases this with rfl | rfl <;> rfl
  have hH1 := hH.more [.obj none [(encT w).map .im]]
  obtain ⟨H2, hcall2, hH2, hK2⟩ := s62 hty hH1 (sepB i) (by omega)
  obtain ⟨H3, hcall3, hH3, hK3⟩ := hc w (List.mem_of_getElem? hwi) H2 (txt ++ [sepB i]) (by simp; omega) hH2
  have hloc := hK2.2.1 Hc.length none [(encT w).map .im]
  have hidlt : id < Hc.length := by obtain ⟨_, _, h, _⟩ := hH; exact (List.getElem?_eq_some_iff.1 h).1
  have hloc := hloc (by omega) (by rw [Go.Abs.hget0]; rfl)
  have hK := hK2.down.trans hK3
  rw [l66_0, e]
  generalize hsw : showT w = sw at *
  generalize hsbi : sepB i = c at *
  obtain ⟨k, s', ts⟩ := w
  simp only [encT,List.map_cons,List.map_nil,byteDat] at hcall2 hcall3 hgw hloc
  have hnn : (0 : Int) ≤ (i : Int) := Int.natCast_nonneg i
  simp only [b66_0,exec0,xreg,xops,wantedA,aopc,aop,ev,putA,endK,resA,tupA,List.length_cons,List.length_nil,List.replicate,List.cons_append,List.nil_append,List.append_nil,List.append_assoc,gs_same,gs_ne,gq_same,gq_ne,List.length_set,List.map_cons,List.map_nil,cellsOf,List.all_cons,List.all_nil,cellOk,boxTy,Bool.and_true,Bool.and_self,if_true,ite_true,ite_false,loadAt,storeAt,setAt,hget,hget0,hset,hset0,List.getElem?_cons_zero,List.getElem?_cons_succ,List.set_cons_zero,List.set_cons_succ,Nat.add_zero,Nat.zero_add,Nat.reduceAdd,Nat.reduceSub,Nat.reduceLeDiff,Nat.reduceLT,Nat.reduceEqDiff,Nat.le_refl,and_self,and_true,true_and,mkAgg,toIms,List.drop_zero,List.drop_succ_cons,List.take_succ_cons,List.take_zero,List.length_append,binA,isShift,binInt,binBool,unA,Bool.false_eq_true,if_false,partA,fillA,fillE,List.take_nil,Nat.zero_ne_one,Nat.one_ne_zero,not_false_eq_true,ne_eq,Nat.succ_ne_self,reduceCtorEq,Int.reduceEq,Int.reduceLT,Int.reduceLE,decide_true,decide_false,lenA,beq_self_eq_true,beq_true,beq_false,Bool.not_true,Bool.not_false,intOfA,hnn,Int.toNat_natCast,hlen,h0,h25,h26,h27,hc',hix,hix2,hgw,hwr,hsep,hcall2,hloc,hcall3,byteDat]
  refine ex_imp (key _ H3 (txt ++ [c] ++ sw) (by rw [hsb]; simp; omega) hH3 ?_ ?_ ?_ ?_ ?_) ?_
  iterate 5 simp only [B3,Nat.reduceLT,Nat.reduceEqDiff,hlen,h0,h25,h26]
  rintro e tm' H' ⟨hl', he, g0, g3, gH, gK⟩
  refine ⟨hl', he, g0, ?_, ?_, hK.trans gK⟩
  ·rw [g3]; simp only [B3,Nat.reduceLT,Nat.reduceEqDiff,hlen]
  ·rw [hsb] at gH
   simp only [showTs,hsw]
   simpa only [List.append_assoc, List.cons_append, List.nil_append] using gH
theorem s66 : ∀ (t : KT), okT t → narrow t → ∀ (id : Nat) (H : Heap) (txt : List UInt8), txt.length + (showT t).length + 100 ≤ 2 ^ 46 → HoldE ty 5 n H id rest txt →
  ∃ H', L 66 [.ptr id 0 0, .im (.agg (encT t))] H = some (.tup [], H') ∧ HoldE ty 5 n H' id rest (txt ++ showT t) ∧ Keeps n id H H'
 | .mk k s args, hok, hnw, id, H, txt, hb, hH => by
  simp only [okT] at hok
  obtain ⟨hs, _, hoks⟩ := hok
  simp only [narrow] at hnw
  obtain ⟨hn, hnws⟩ := hnw
  have hc : ∀ a ∈ args, ∀ (H : Heap) (txt : List UInt8), txt.length + (showT a).length + 100 ≤ 2 ^ 46 → HoldE ty 5 n H id rest txt → ∃ H', L 66 [.ptr id 0 0, .im (.agg (encT a))] H = some (.tup [], H') ∧ HoldE ty 5 n H' id rest (txt ++ showT a) ∧ Keeps n id H H' :=
   fun a ha H txt hb hH => s66 a (okTs_mem hoks a ha) (narrows_mem hnws a ha) id H txt hb hH
  have hidlt : id < H.length := by obtain ⟨_, _, h, _⟩ := hH; exact (List.getElem?_eq_some_iff.1 h).1
  simp only [showT,List.length_append] at hb
  have hgl := kgath_len k words word_len
  have hw8 : words.length = 8 := rfl
  have hH1 := hH.more [.obj none [[.im (.int .i64 k), .im (.sl s (encTs args))]], .obj none (words.map encW)]
  have keyw := l66w (n := n) (rest := rest) hty k (.im (.sl s (encTs args))) id H.length (H.length + 1) (by omega) (by omega) words word_len (by decide) 8 0 (by decide)
  have z : ((0 : Nat) : Int) = 0 := rfl
  have z8 : ((8 : Nat) : Int) = 8 := rfl
  simp only [z,hw8,List.drop_zero,z8] at keyw
  have hel : (encTs args).length = args.length := by rw [encTs_map]; simp
  have keya := l66a hty args s hs hn id hc args.length 0 (by omega)
  simp only [z,List.drop_zero] at keya
  have hsep0 : sepB 0 = 40 := rfl
  rw [hsep0] at keya
  simp only [encT]
  have fin : ∀ (H2 : Heap), HoldE ty 5 n H2 id rest (txt ++ showT (.mk k s args)) → Keeps n id H H2 → ∃ H', leave H false (.tup []) H2 = (.tup [], H') ∧ HoldE ty 5 n H' id rest (txt ++ showT (.mk k s args)) ∧ Keeps n id H H' :=
   fun H2 h1 h2 => leave_holdE rfl hH h1 h2
  suffices hsuf : ∃ H2, HoldE ty 5 n H2 id rest (txt ++ showT (.mk k s args)) ∧ Keeps n id H H2 ∧ L 66 [.ptr id 0 0, .im (.agg [.int .i64 k, .sl s (encTs args)])] H = some (leave H false (.tup []) H2) by
   obtain ⟨H2, h1, h2, h3⟩ := hsuf
   obtain ⟨H', e1, e2, e3⟩ := fin H2 h1 h2
   exact ⟨H', by rw [h3, e1], e2, e3⟩
  rw [leq F66]
  obtain ⟨hlen, ha⟩ := enter_at (f := f66) (args := [.ptr id 0 0, .im (.agg [.int .i64 k, .sl s (encTs args)])]) (Nat.le_of_ble_eq_true rfl)
  have h0 := ha 0 _ rfl
  have h1 := ha 1 _ rfl
  generalize enterA f66 [.ptr id 0 0, .im (.agg [.int .i64 k, .sl s (encTs args)])] = tm at *
  change tm.length = 46 at hlen
  simp only [f66,e66_0,e66_1,exec0,xreg,xops,wantedA,aopc,aop,ev,putA,endK,resA,tupA,List.length_cons,List.length_nil,List.replicate,List.cons_append,List.nil_append,List.append_nil,List.append_assoc,gs_same,gs_ne,gq_same,gq_ne,List.length_set,List.map_cons,List.map_nil,cellsOf,List.all_cons,List.all_nil,cellOk,boxTy,Bool.and_true,Bool.and_self,if_true,ite_true,ite_false,loadAt,storeAt,setAt,hget,hget0,hset,hset0,List.getElem?_cons_zero,List.getElem?_cons_succ,List.set_cons_zero,List.set_cons_succ,Nat.add_zero,Nat.zero_add,Nat.reduceAdd,Nat.reduceSub,Nat.reduceLeDiff,Nat.reduceLT,Nat.reduceEqDiff,Nat.le_refl,and_self,and_true,true_and,mkAgg,toIms,List.drop_zero,List.drop_succ_cons,List.take_succ_cons,List.take_zero,List.length_append,binA,isShift,binInt,binBool,unA,Bool.false_eq_true,if_false,partA,fillA,fillE,List.take_nil,Nat.zero_ne_one,Nat.one_ne_zero,not_false_eq_true,ne_eq,Nat.succ_ne_self,reduceCtorEq,Int.reduceEq,Int.reduceLT,Int.reduceLE,decide_true,decide_false,lenA,beq_self_eq_true,beq_true,beq_false,Bool.not_true,Bool.not_false,hlen,h0,h1,s76]
  refine thenL_ex (fun r => ∃ H2, HoldE ty 5 n H2 id rest (txt ++ showT (.mk k s args)) ∧ Keeps n id H H2 ∧ r = some (leave H false (.tup []) H2)) (keyw _ _ txt (by omega) hH1 (by rw [Go.Abs.hget0]; rfl) (by rw [Go.Abs.hget]; rfl) ?_ ?_ ?_ ?_ ?_ ?_) ?_
  iterate 6 simp only [B3,Nat.reduceLT,Nat.reduceEqDiff,hlen,h0,z8]
  rintro e tm1 H1 ⟨hl1, rfl, a0, a3, aH, aK⟩
  have hob1 : H1[H.length]? = some (.obj none [[.im (.int .i64 k), .im (.sl s (encTs args))]]) := aK.2.1 _ _ _ (by omega) (by rw [Go.Abs.hget0]; rfl)
  simp only [exec0,xreg,xops,wantedA,aopc,aop,ev,putA,endK,resA,tupA,List.length_cons,List.length_nil,List.replicate,List.cons_append,List.nil_append,List.append_nil,List.append_assoc,gs_same,gs_ne,gq_same,gq_ne,List.length_set,List.map_cons,List.map_nil,cellsOf,List.all_cons,List.all_nil,cellOk,boxTy,Bool.and_true,Bool.and_self,if_true,ite_true,ite_false,loadAt,storeAt,setAt,hget,hget0,hset,hset0,List.getElem?_cons_zero,List.getElem?_cons_succ,List.set_cons_zero,List.set_cons_succ,Nat.add_zero,Nat.zero_add,Nat.reduceAdd,Nat.reduceSub,Nat.reduceLeDiff,Nat.reduceLT,Nat.reduceEqDiff,Nat.le_refl,and_self,and_true,true_and,mkAgg,toIms,List.drop_zero,List.drop_succ_cons,List.take_succ_cons,List.take_zero,List.length_append,binA,isShift,binInt,binBool,unA,Bool.false_eq_true,if_false,partA,fillA,fillE,List.take_nil,Nat.zero_ne_one,Nat.one_ne_zero,not_false_eq_true,ne_eq,Nat.succ_ne_self,reduceCtorEq,Int.reduceEq,Int.reduceLT,Int.reduceLE,decide_true,decide_false,lenA,beq_self_eq_true,beq_true,beq_false,Bool.not_true,Bool.not_false,hl1,a0,a3,hob1,hel]
  refine thenL_ex (fun r => ∃ H2, HoldE ty 5 n H2 id rest (txt ++ showT (.mk k s args)) ∧ Keeps n id H H2 ∧ r = some (leave H false (.tup []) H2)) (keya _ _ (txt ++ kgath k words) (by simp; omega) aH ?_ ?_ ?_ ?_ ?_) ?_
  iterate 5 simp only [B3,Nat.reduceLT,Nat.reduceEqDiff,hl1,a0,encTs_map]
  rintro e tm2 H2 ⟨hl2, rfl, b0, b3, bH, bK⟩
  have hob2 : H2[H.length]? = some (.obj none [[.im (.int .i64 k), .im (.sl s (encTs args))]]) := bK.2.1 _ _ _ (by omega) hob1
  have b3' : tm2.getD 3 undefA = .ptr H.length 0 0 := by rw [b3]; simp only [B3,Nat.reduceLT,Nat.reduceEqDiff,hl1,a3]
  have hK2 : Keeps n id H H2 := aK.down.trans bK
  by_cases h0 : args.length = 0
  ·have hd : decide ((0 : Int) < (args.length : Int)) = false := decide_eq_false (by omega)
   simp only [exec0,xreg,xops,wantedA,aopc,aop,ev,putA,endK,resA,tupA,List.length_cons,List.length_nil,List.replicate,List.cons_append,List.nil_append,List.append_nil,List.append_assoc,gs_same,gs_ne,gq_same,gq_ne,List.length_set,List.map_cons,List.map_nil,cellsOf,List.all_cons,List.all_nil,cellOk,boxTy,Bool.and_true,Bool.and_self,if_true,ite_true,ite_false,loadAt,storeAt,setAt,hget,hget0,hset,hset0,List.getElem?_cons_zero,List.getElem?_cons_succ,List.set_cons_zero,List.set_cons_succ,Nat.add_zero,Nat.zero_add,Nat.reduceAdd,Nat.reduceSub,Nat.reduceLeDiff,Nat.reduceLT,Nat.reduceEqDiff,Nat.le_refl,and_self,and_true,true_and,mkAgg,toIms,List.drop_zero,List.drop_succ_cons,List.take_succ_cons,List.take_zero,List.length_append,binA,isShift,binInt,binBool,unA,Bool.false_eq_true,if_false,partA,fillA,fillE,List.take_nil,Nat.zero_ne_one,Nat.one_ne_zero,not_false_eq_true,ne_eq,Nat.succ_ne_self,reduceCtorEq,Int.reduceEq,Int.reduceLT,Int.reduceLE,decide_true,decide_false,lenA,beq_self_eq_true,beq_true,beq_false,Bool.not_true,Bool.not_false,hl2,b0,b3',hob2,hel,hd]
   refine ⟨H2, ?_, hK2, rfl⟩
   simp only [showT,if_pos h0,List.append_nil]
   rwa [List.append_assoc] at bH
  ·have hd : decide ((0 : Int) < (args.length : Int)) = true := decide_eq_true (by omega)
   obtain ⟨H3, hc3, cH, cK⟩ := s62 hty bH 41 (by simp only [List.length_append]; rw [if_neg h0] at hb; simp at hb; omega)
   simp only [byteDat,show (((41 : UInt8).toNat : Nat) : Int) = 41 from rfl] at hc3
   simp only [exec0,xreg,xops,wantedA,aopc,aop,ev,putA,endK,resA,tupA,List.length_cons,List.length_nil,List.replicate,List.cons_append,List.nil_append,List.append_nil,List.append_assoc,gs_same,gs_ne,gq_same,gq_ne,List.length_set,List.map_cons,List.map_nil,cellsOf,List.all_cons,List.all_nil,cellOk,boxTy,Bool.and_true,Bool.and_self,if_true,ite_true,ite_false,loadAt,storeAt,setAt,hget,hget0,hset,hset0,List.getElem?_cons_zero,List.getElem?_cons_succ,List.set_cons_zero,List.set_cons_succ,Nat.add_zero,Nat.zero_add,Nat.reduceAdd,Nat.reduceSub,Nat.reduceLeDiff,Nat.reduceLT,Nat.reduceEqDiff,Nat.le_refl,and_self,and_true,true_and,mkAgg,toIms,List.drop_zero,List.drop_succ_cons,List.take_succ_cons,List.take_zero,List.length_append,binA,isShift,binInt,binBool,unA,Bool.false_eq_true,if_false,partA,fillA,fillE,List.take_nil,Nat.zero_ne_one,Nat.one_ne_zero,not_false_eq_true,ne_eq,Nat.succ_ne_self,reduceCtorEq,Int.reduceEq,Int.reduceLT,Int.reduceLE,decide_true,decide_false,lenA,beq_self_eq_true,beq_true,beq_false,Bool.not_true,Bool.not_false,hl2,b0,b3',hob2,hel,hd,hc3]
   refine ⟨H3, ?_, hK2.trans cK, rfl⟩
   simp only [showT,if_neg h0]
   simpa only [List.append_assoc] using cH
termination_by t => SizeOf.sizeOf t
decreasing_by
 have := List.sizeOf_lt_of_mem ha
 simp only [KT.mk.sizeOf_spec]
 omega
end
end Go.Abs.Seat
end
section
set_option linter.unusedVariables false
set_option linter.unusedSimpArgs false
namespace Go.Abs.Seat
open Go.Proofs
theorem kcnt_le : ∀ i, i < 8 → kcnt i ≤ 2 := by decide
mutual
theorem right_narrow : ∀ (t : KT) (d : Int), rightT t d = true → narrow t
 | .mk k s args, d, h => by
  simp only [rightT] at h
  split at h
  ·rename_i i hi
   split at h
   ·simp at h
   ·split at h
    ·rename_i hl
     have := kcnt_le i (kidx_lt hi).1
     simp only [narrow]
     exact ⟨by omega, right_narrows args (d - 1) (by simpa using h)⟩
    ·simp at h
  ·simp at h
theorem right_narrows : ∀ (l : List KT) (d : Int), rightNot l d = false → narrows l
 | [], d, h => by simp only [narrows]
 | a :: l, d, h => by
  simp only [rightNot,Bool.or_eq_false_iff,Bool.not_eq_false'] at h
  simp only [narrows]
  exact ⟨right_narrow a d h.1, right_narrows l d h.2⟩
end
theorem bytesE_of : ∀ l : List UInt8, bytesE (l.map fun b => [byteDat b]) = some l
 | [] => rfl
 | b :: l => by
  have h := bytesE_of l
  simp only [List.map_cons,byteDat,bytesE]
  simp only [byteDat] at h
  rw [h]
  have hb := b.toNat_lt
  simp only
  rw [if_pos ⟨by omega, by omega⟩]
  simp
mutual
theorem show_len : ∀ (t : KT) (d : Nat), rightT t d = true → (showT t).length ≤ 100 * 4 ^ d
 | .mk k s args, d, h => by
  have hg := kgath_len k words word_len
  have hw8 : words.length = 8 := rfl
  simp only [rightT] at h
  split at h
  ·rename_i i hi
   split at h
   ·simp at h
   ·rename_i hd
    obtain ⟨d, rfl⟩ : ∃ d', d = d' + 1 := ⟨d - 1, by omega⟩
    split at h
    ·rename_i hl
     have h2 := kcnt_le i (kidx_lt hi).1
     have := show_lens args d 40 (by simpa using h)
     have hp : 0 < 4 ^ d := Nat.pos_of_ne_zero (by simp)
     have hm : args.length * (1 + 100 * 4 ^ d) ≤ 2 * (1 + 100 * 4 ^ d) := Nat.mul_le_mul_right _ (by omega)
     have he : 4 ^ (d + 1) = 4 * 4 ^ d := by rw [Nat.pow_succ]; omega
     simp only [showT,List.length_append]
     split <;> simp <;> omega
    ·simp at h
  ·simp at h
theorem show_lens : ∀ (l : List KT) (d : Nat) (c : UInt8), rightNot l d = false → (showTs l c).length ≤ l.length * (1 + 100 * 4 ^ d)
 | [], d, c, h => by simp [showTs]
 | a :: l, d, c, h => by
  simp only [rightNot,Bool.or_eq_false_iff,Bool.not_eq_false'] at h
  have h1 := show_len a d h.1
  have h2 := show_lens l d 44 h.2
  simp only [showTs,List.length_cons,List.length_append,Nat.add_mul]
  omega
end
theorem show_ne : ∀ (t : KT) (d : Int), rightT t d = true → showT t ≠ []
 | .mk k s args, d, h => by
  simp only [rightT] at h
  split at h
  ·rename_i i hi
   simp only [showT]
   intro e
   have e2 := (List.append_eq_nil_iff.1 e).1
   have hi' := hi
   unfold kidx at hi'
   obtain ⟨h1, h2, _⟩ := List.findIdx?_eq_some_iff_getElem.1 hi'
   have key : ∀ w ∈ words, kgath w.1 words ≠ [] := by decide
   have := key words[i] (List.getElem_mem h1)
   rw [of_decide_eq_true h2] at this
   exact this e2
  ·simp at h
def checkT (t : KT) : Int := if rightT t 6 = true then 0 else 20
theorem s65 (t : KT) (hok : okT t) (H : Heap) : L 65 [.im (.agg (encT t))] H = some (.im (.int .i64 (checkT t)), H) := by
 have h51 := fun H => s75 t hok 6 (by decide) (by decide) H
 obtain ⟨k, s, ts⟩ := t
 simp only [encT] at h51 ⊢
 rw [leq F65]
 obtain ⟨hlen, ha⟩ := enter_at (f := f65) (args := [.im (.agg [.int .i64 k, .sl s (encTs ts)])]) (Nat.le_of_ble_eq_true rfl)
 have h0 := ha 0 _ rfl
 generalize enterA f65 [.im (.agg [.int .i64 k, .sl s (encTs ts)])] = tm at *
 change tm.length = 6 at hlen
 unfold checkT
 cases hr : rightT (.mk k s ts) 6 with
 | true =>
  simp only [hr] at h51
  simp only [f65,exec0,xreg,xops,wantedA,aopc,aop,ev,putA,endK,resA,tupA,List.length_cons,List.length_nil,List.replicate,List.cons_append,List.nil_append,List.append_nil,List.append_assoc,gs_same,gs_ne,gq_same,gq_ne,List.length_set,List.map_cons,List.map_nil,cellsOf,List.all_cons,List.all_nil,cellOk,boxTy,Bool.and_true,Bool.and_self,if_true,ite_true,ite_false,loadAt,storeAt,setAt,hget,hget0,hset,hset0,List.getElem?_cons_zero,List.getElem?_cons_succ,List.set_cons_zero,List.set_cons_succ,Nat.add_zero,Nat.zero_add,Nat.reduceAdd,Nat.reduceSub,Nat.reduceLeDiff,Nat.reduceLT,Nat.reduceEqDiff,Nat.le_refl,and_self,and_true,true_and,mkAgg,toIms,List.drop_zero,List.drop_succ_cons,List.take_succ_cons,List.take_zero,List.length_append,binA,isShift,binInt,binBool,unA,Bool.false_eq_true,if_false,partA,fillA,fillE,List.take_nil,Nat.zero_ne_one,Nat.one_ne_zero,not_false_eq_true,ne_eq,Nat.succ_ne_self,reduceCtorEq,Int.reduceEq,Int.reduceLT,Int.reduceLE,decide_true,decide_false,lenA,beq_self_eq_true,beq_true,beq_false,Bool.not_true,Bool.not_false,hlen,h0,h51,leave_app]
 | false =>
  simp only [hr] at h51
  simp only [f65,exec0,xreg,xops,wantedA,aopc,aop,ev,putA,endK,resA,tupA,List.length_cons,List.length_nil,List.replicate,List.cons_append,List.nil_append,List.append_nil,List.append_assoc,gs_same,gs_ne,gq_same,gq_ne,List.length_set,List.map_cons,List.map_nil,cellsOf,List.all_cons,List.all_nil,cellOk,boxTy,Bool.and_true,Bool.and_self,if_true,ite_true,ite_false,loadAt,storeAt,setAt,hget,hget0,hset,hset0,List.getElem?_cons_zero,List.getElem?_cons_succ,List.set_cons_zero,List.set_cons_succ,Nat.add_zero,Nat.zero_add,Nat.reduceAdd,Nat.reduceSub,Nat.reduceLeDiff,Nat.reduceLT,Nat.reduceEqDiff,Nat.le_refl,and_self,and_true,true_and,mkAgg,toIms,List.drop_zero,List.drop_succ_cons,List.take_succ_cons,List.take_zero,List.length_append,binA,isShift,binInt,binBool,unA,Bool.false_eq_true,if_false,partA,fillA,fillE,List.take_nil,Nat.zero_ne_one,Nat.one_ne_zero,not_false_eq_true,ne_eq,Nat.succ_ne_self,reduceCtorEq,Int.reduceEq,Int.reduceLT,Int.reduceLE,decide_true,decide_false,lenA,beq_self_eq_true,beq_true,beq_false,Bool.not_true,Bool.not_false,hlen,h0,h51,leave_app]
theorem s48 (t : KT) (hok : okT t) (H : Heap) : L 48 [.im (.agg (encT t))] H = some (.tup [.im (.str (if rightT t 6 = true then showT t else [])), .im (.int .i64 (checkT t))], H) := by
 have h19 := fun H => s65 t hok H
 unfold checkT at h19 ⊢
 rcases Bool.eq_false_or_eq_true (rightT t 6) with hr | hr
 ·simp only [hr,if_true] at h19 ⊢
  have hlen := show_len t 6 hr
  have hne := show_ne t 6 hr
  have h48 := s66 (n := H.length + 2) (ty := (64, 2)) (rest := []) (by decide) t hok (right_narrow t 6 hr) (H.length + 1) (H ++ [.obj none [(encT t).map .im], .obj (some (64, 2)) [[.im .nilp, .nils]]]) []
   (by simp; omega) ⟨.im .nilp, .nils, by rw [Go.Abs.hget]; rfl, .inl rfl, .inl ⟨rfl, rfl⟩, by simp⟩
  obtain ⟨H2, hc, ⟨a0, v, hid, _, hG, _⟩, hK⟩ := h48
  rw [List.nil_append] at hG
  rcases hG with ⟨hes, _⟩ | ⟨_, tok, htok, rfl, hhw⟩
  ·exact absurd (by simpa using hes) hne
  ·have h49 : L 26 [.ptr (H.length + 1) 0 0] H2 = some (.im (.str (showT t)), H2.set tok (.hw 5 ((showT t).length + 1))) := by
    rw [L26]
    simp only [stE,hid,hhw,bytesE_of]
    rw [if_pos ⟨by decide, trivial, by simp, trivial, List.length_pos_iff.2 hne, by omega⟩]
    simp
   have hheld : heldIn H (H2.set tok (.hw 5 ((showT t).length + 1))) := fun i hi => by
    left
    rw [List.getElem?_set_ne (by omega), hK.2.2 i (by omega) (by simp; omega) (by omega), List.getElem?_append_left hi]
   have htake : (H2.set tok (.hw 5 ((showT t).length + 1))).take H.length = H := by
    apply List.ext_getElem?
    intro i
    rw [List.getElem?_take]
    split
    ·rename_i hi
     rcases hheld i hi with h | ⟨o, h, _⟩
     ·exact h
     ·rw [List.getElem?_set_ne (by omega), hK.2.2 i (by omega) (by simp; omega) (by omega), List.getElem?_append_left hi]
    ·rename_i hi
     rw [List.getElem?_eq_none (by omega)]
   have hlv : leave H false (.tup [.im (.str (showT t)), .im (.int .i64 0)]) (H2.set tok (.hw 5 ((showT t).length + 1))) = (.tup [.im (.str (showT t)), .im (.int .i64 0)], H) := by
    unfold leave
    have e : (if (false : Bool) = true then AV.tup [.im (.str (showT t)), .im (.int .i64 0)] else degrade (.tup [.im (.str (showT t)), .im (.int .i64 0)])) = .tup [.im (.str (showT t)), .im (.int .i64 0)] := by simp [degrade, degrade1, toDat]
    rw [e, if_pos ⟨by simp only [refsLt,refsLts,Bool.and_self], hheld⟩, htake]
   generalize showT t = txt at *
   obtain ⟨k, s, ts⟩ := t
   simp only [encT,List.map_cons,List.map_nil] at h19 hc ⊢
   rw [leq F48]
   obtain ⟨hln, ha⟩ := enter_at (f := f48) (args := [.im (.agg [.int .i64 k, .sl s (encTs ts)])]) (Nat.le_of_ble_eq_true rfl)
   have h0 := ha 0 _ rfl
   generalize enterA f48 [.im (.agg [.int .i64 k, .sl s (encTs ts)])] = tm at *
   change tm.length = 18 at hln
   simp only [f48,exec0,xreg,xops,wantedA,aopc,aop,ev,putA,endK,resA,tupA,List.length_cons,List.length_nil,List.replicate,List.cons_append,List.nil_append,List.append_nil,List.append_assoc,gs_same,gs_ne,gq_same,gq_ne,List.length_set,List.map_cons,List.map_nil,cellsOf,List.all_cons,List.all_nil,cellOk,boxTy,Bool.and_true,Bool.and_self,if_true,ite_true,ite_false,loadAt,storeAt,setAt,hget,hget0,hset,hset0,List.getElem?_cons_zero,List.getElem?_cons_succ,List.set_cons_zero,List.set_cons_succ,Nat.add_zero,Nat.zero_add,Nat.reduceAdd,Nat.reduceSub,Nat.reduceLeDiff,Nat.reduceLT,Nat.reduceEqDiff,Nat.le_refl,and_self,and_true,true_and,mkAgg,toIms,List.drop_zero,List.drop_succ_cons,List.take_succ_cons,List.take_zero,List.length_append,binA,isShift,binInt,binBool,unA,Bool.false_eq_true,if_false,partA,fillA,fillE,List.take_nil,Nat.zero_ne_one,Nat.one_ne_zero,not_false_eq_true,ne_eq,Nat.succ_ne_self,reduceCtorEq,Int.reduceEq,Int.reduceLT,Int.reduceLE,decide_true,decide_false,lenA,beq_self_eq_true,beq_true,beq_false,Bool.not_true,Bool.not_false,hln,h0,h19,hc,h49,hlv]
 ·simp only [hr,Bool.false_eq_true,if_false] at h19 ⊢
  obtain ⟨k, s, ts⟩ := t
  simp only [encT] at h19 ⊢
  rw [leq F48]
  obtain ⟨hln, ha⟩ := enter_at (f := f48) (args := [.im (.agg [.int .i64 k, .sl s (encTs ts)])]) (Nat.le_of_ble_eq_true rfl)
  have h0 := ha 0 _ rfl
  generalize enterA f48 [.im (.agg [.int .i64 k, .sl s (encTs ts)])] = tm at *
  change tm.length = 18 at hln
  simp only [f48,exec0,xreg,xops,wantedA,aopc,aop,ev,putA,endK,resA,tupA,List.length_cons,List.length_nil,List.replicate,List.cons_append,List.nil_append,List.append_nil,List.append_assoc,gs_same,gs_ne,gq_same,gq_ne,List.length_set,List.map_cons,List.map_nil,cellsOf,List.all_cons,List.all_nil,cellOk,boxTy,Bool.and_true,Bool.and_self,if_true,ite_true,ite_false,loadAt,storeAt,setAt,hget,hget0,hset,hset0,List.getElem?_cons_zero,List.getElem?_cons_succ,List.set_cons_zero,List.set_cons_succ,Nat.add_zero,Nat.zero_add,Nat.reduceAdd,Nat.reduceSub,Nat.reduceLeDiff,Nat.reduceLT,Nat.reduceEqDiff,Nat.le_refl,and_self,and_true,true_and,mkAgg,toIms,List.drop_zero,List.drop_succ_cons,List.take_succ_cons,List.take_zero,List.length_append,binA,isShift,binInt,binBool,unA,Bool.false_eq_true,if_false,partA,fillA,fillE,List.take_nil,Nat.zero_ne_one,Nat.one_ne_zero,not_false_eq_true,ne_eq,Nat.succ_ne_self,reduceCtorEq,Int.reduceEq,Int.reduceLT,Int.reduceLE,decide_true,decide_false,lenA,beq_self_eq_true,beq_true,beq_false,Bool.not_true,Bool.not_false,hln,h0,h19,leave_tup2]
end Go.Abs.Seat
end
section
set_option linter.unusedVariables false
set_option linter.unusedSimpArgs false
namespace Go.Abs.Seat
open Go.Proofs
structure Nm (s : List UInt8) : Prop where
 ne : s ≠ []
 len : s.length ≤ 16
 hd : ∀ a, s[0]? = some a → letZ (a.toNat : Int) = true
 all : ∀ (i : Nat) a, s[i]? = some a → namZ (a.toNat : Int) = true
theorem s64 (n : Int) (H : Heap) : L 64 [.im (.int .u8 n)] H = some (.im (.bool (!namZ n)), H) := by
 have c1 := fun H => s34 n H
 rw [leq F64]
 obtain ⟨hlen, ha⟩ := enter_at (f := f64) (args := [.im (.int .u8 n)]) (Nat.le_of_ble_eq_true rfl)
 have h0 := ha 0 _ rfl
 generalize enterA f64 [.im (.int .u8 n)] = tm at *
 change tm.length = 6 at hlen
 simp only [f64,B0,B1,B2,List.replicate,Nat.reduceAdd,Nat.reduceSub,Nat.reduceLeDiff,Nat.reduceLT,Nat.reduceEqDiff,reduceCtorEq,Int.reduceEq,Int.reduceLT,Int.reduceLE,lenA,endK,resA,tupA,hlen,h0,c1,leave_same]
theorem s33 (w : List UInt8) (H : Heap) : L 33 [.im (.str w)] H = some (.tup [.im (.str ((shapeT w).getD [])), .im (.bool (shapeT w).isSome)], H) := by
 cases hs : shapeT w with
 | none => exact s33_none hs H
 | some p => exact s33_some hs H
end Go.Abs.Seat
end
section
set_option linter.unusedVariables false
set_option linter.unusedSimpArgs false
namespace Go.Abs.Seat
open Go.Proofs
inductive NT where
 | mk (op : List UInt8) (i : Int) (txt : List UInt8) (ty : KT) (s : Nat) (kids : List NT)
mutual
def encN : NT → List Dat
 | .mk op i txt (.mk k st args) s kids => [.str op, .int .i64 i, .str txt, .int .i64 k, .sl st (encTs args), .sl s (encNs kids)]
def encNs : List NT → List (List Dat)
 | [] => []
 | a :: l => encN a :: encNs l
end
theorem encNs_map : ∀ l : List NT, encNs l = l.map encN
 | [] => rfl
 | a :: l => by simp only [encNs,List.map_cons,encNs_map l]
def nameW : List UInt8 := [110, 97, 109, 101]
end Go.Abs.Seat
end
section
set_option linter.unusedVariables false
set_option linter.unusedSimpArgs false
namespace Go.Abs.Seat
open Go.Proofs
def intW : List UInt8 := [105, 110, 116]
section
variable {H : Heap} {ir : Nat} {b : List UInt8}
end
end Go.Abs.Seat
end
section
set_option linter.unusedVariables false
set_option linter.unusedSimpArgs false
namespace Go.Abs.Seat
open Go.Proofs
def hexW : List UInt8 := [48, 49, 50, 51, 52, 53, 54, 55, 56, 57, 97, 98, 99, 100, 101, 102]
end Go.Abs.Seat
end
section
set_option linter.unusedVariables false
set_option linter.unusedSimpArgs false
namespace Go.Abs.Seat
open Go.Proofs
def textW : List UInt8 := [116, 101, 120, 116, 95, 111, 102]
end Go.Abs.Seat
end
section
set_option linter.unusedVariables false
set_option linter.unusedSimpArgs false
namespace Go.Abs.Seat
open Go.Proofs
section
variable {H : Heap} {ir : Nat}
end
abbrev tyO : HO := .obj none [[.im (.int .i64 0), .nils]]
end Go.Abs.Seat
end
section
set_option linter.unusedVariables false
set_option linter.unusedSimpArgs false
namespace Go.Abs.Seat
open Go.Proofs
abbrev St := Int × KT × List NT
end Go.Abs.Seat
end
section
set_option linter.unusedVariables false
set_option linter.unusedSimpArgs false
namespace Go.Abs.Seat
open Go.Proofs
def TyA (ty : KT) (k : Int) (y : AV) : Prop := (ty = zeroT ∧ k = 0 ∧ y = .nils) ∨ ∃ s args, ty = .mk k s args ∧ y = .im (.sl s (encTs args))
def NodeAt (tid : TypeId) (n id : Nat) (w : List UInt8) (st : St) (H : Heap) : Prop :=
 ∃ (k : Int) (y v : AV), H[id]? = some (.obj none [[.im (.str w), .im (.int .i64 st.1), .im (.str []), .im (.int .i64 k), y, v]]) ∧ TyA st.2.1 k y ∧ Gath tid 6 n v H (st.2.2.map encN)
theorem NodeAt.set {tid : TypeId} {n id ir : Nat} {w : List UInt8} {st : St} {H : Heap} {t : Option (TypeId × Nat)} {xs : List (List AV)} (h : NodeAt tid n id w st H) (hne : ir ≠ id) (ho : H[ir]? = some (.obj t xs)) (x : HO) : NodeAt tid n id w st (H.set ir x) := by
 obtain ⟨k, y, v, h1, h2, h3⟩ := h
 exact ⟨k, y, v, by rw [List.getElem?_set_ne hne]; exact h1, h2, h3.set_obj ho x⟩
theorem NodeAt.more {tid : TypeId} {n id : Nat} {w : List UInt8} {st : St} {H : Heap} (h : NodeAt tid n id w st H) (M : Heap) : NodeAt tid n id w st (H ++ M) := by
 obtain ⟨k, y, v, h1, h2, h3⟩ := h
 exact ⟨k, y, v, by rw [get_app (List.getElem?_eq_some_iff.1 h1).1]; exact h1, h2, h3.more M⟩
def Regs (l : List Nat) (tm tm' : List AV) : Prop := ∀ j ∈ l, tm'.getD j undefA = tm.getD j undefA
def But2 (n ir id : Nat) (H H' : Heap) : Prop := H.length ≤ H'.length ∧ ∀ i, i < n → i ≠ ir → i ≠ id → H'[i]? = H[i]?
end Go.Abs.Seat
end
section
set_option linter.unusedVariables false
set_option linter.unusedSimpArgs false
namespace Go.Abs.Seat
open Go.Proofs
theorem But2.refl {n ir id : Nat} {H : Heap} : But2 n ir id H H := ⟨Nat.le_refl _, fun _ _ _ _ => rfl⟩
theorem But2.trans {n ir id : Nat} {A B C : Heap} (h : But2 n ir id A B) (h2 : But2 n ir id B C) : But2 n ir id A C :=
 ⟨Nat.le_trans h.1 h2.1, fun i a b c => (h2.2 i a b c).trans (h.2 i a b c)⟩
theorem But2.set {n ir id : Nat} {A : Heap} (o : HO) : But2 n ir id A (A.set ir o) := ⟨by simp, fun i _ h _ => List.getElem?_set_ne (fun e => h e.symm)⟩
theorem Regs.trans {l : List Nat} {a b c : List AV} (h : Regs l a b) (h2 : Regs l b c) : Regs l a c := fun j hj => (h2 j hj).trans (h j hj)
theorem Regs.sub {l l' : List Nat} {a b : List AV} (h : Regs l a b) (hl : ∀ j ∈ l', j ∈ l) : Regs l' a b := fun j hj => h j (hl j hj)
def Gone (b w : List UInt8) (ir N : Nat) (tm : List AV) (H : Heap) (r : St × Nat × Bool) (e : AEx) (tm' : List AV) (H' : Heap) : Prop :=
 e = .exit 0 ∧ tm'.length = 112 ∧ Regs [0, 1, 2, 3, 8, 9] tm tm' ∧ But2 (N + 2) ir (N + 1) H H' ∧ ∃ q' st', H'[ir]? = some (objS b q' r.2.2) ∧ NodeAt 27 (N + 2) (N + 1) w st' H' ∧ q' ≤ b.length ∧ (r.2.2 = true → q' = r.2.1) ∧ (r.2.2 = false → st' = r.1 ∧ ∀ c, signP b q' false c = signP b r.2.1 false c)
theorem Gone.before {b w : List UInt8} {ir N : Nat} {tm tm0 : List AV} {H H0 : Heap} {r : St × Nat × Bool} {e : AEx} {tm' : List AV} {H' : Heap} (h : Gone b w ir N tm H r e tm' H') (ht : Regs [0, 1, 2, 3, 8, 9] tm0 tm) (hh : But2 (N + 2) ir (N + 1) H0 H) : Gone b w ir N tm0 H0 r e tm' H' :=
 ⟨h.1, h.2.1, ht.trans h.2.2.1, hh.trans h.2.2.2.1, h.2.2.2.2⟩
end Go.Abs.Seat
end
section
set_option linter.unusedVariables false
set_option linter.unusedSimpArgs false
namespace Go.Abs.Seat
open Go.Proofs
def VA (v : AV) (kids : List NT) : Prop := (v = .nils ∧ kids = []) ∨ ∃ tok, v = .asl 6 (kids.map encN) tok ∧ kids ≠ []
end Go.Abs.Seat
end
section
set_option linter.unusedVariables false
set_option linter.unusedSimpArgs false
namespace Go.Abs.Seat
open Go.Proofs
def Low (n : Nat) (H H' : Heap) : Prop := H.length ≤ H'.length ∧ ∀ i, i < n → H'[i]? = H[i]?
theorem Low.refl {n : Nat} {H : Heap} : Low n H H := ⟨Nat.le_refl _, fun _ _ => rfl⟩
theorem Low.trans {n : Nat} {A B C : Heap} (h : Low n A B) (h2 : Low n B C) : Low n A C := ⟨Nat.le_trans h.1 h2.1, fun i a => (h2.2 i a).trans (h.2 i a)⟩
end Go.Abs.Seat
end
section
set_option linter.unusedVariables false
set_option linter.unusedSimpArgs false
namespace Go.Abs.Seat
open Go.Proofs
def ResAt (N : Nat) (w : List UInt8) (st : St) (H : Heap) : Prop := ∃ (k : Int) (y v : AV), H[N]? = some (.obj none [[.im (.str w), .im (.int .i64 st.1), .im (.str []), .im (.int .i64 k), y, v]]) ∧ TyA st.2.1 k y ∧ VA v st.2.2
end Go.Abs.Seat
end
section
set_option linter.unusedVariables false
set_option linter.unusedSimpArgs false
namespace Go.Abs.Seat
open Go.Proofs
def finX (b : List UInt8) (r : St × Nat × Bool) : Nat × Bool := if r.2.2 = true then (r.2.1, true) else signP b r.2.1 false 41
def Over20 (b w : List UInt8) (N : Nat) (H : Heap) (r : St × Nat × Bool) (e : AEx) (tm' : List AV) (H' : Heap) : Prop :=
 e = .ret ∧ tm'.length = 287 ∧ Low N H H' ∧ tm'.getD 6 undefA = .ptr N 0 0 ∧ tm'.getD 7 undefA = .im (.int .i64 ((finX b r).1 : Int)) ∧ tm'.getD 8 undefA = .im (.bool (!(finX b r).2)) ∧ ∃ w' st', ResAt N w' st' H' ∧ ((finX b r).2 = false → w' = w ∧ st' = r.1)
theorem Over20.before {b w : List UInt8} {N : Nat} {H H0 : Heap} {r : St × Nat × Bool} {e : AEx} {tm' : List AV} {H' : Heap} (h : Over20 b w N H r e tm' H') (hh : Low N H0 H) : Over20 b w N H0 r e tm' H' :=
 ⟨h.1, h.2.1, hh.trans h.2.2.1, h.2.2.2⟩
end Go.Abs.Seat
end
section
set_option linter.unusedVariables false
set_option linter.unusedSimpArgs false
namespace Go.Abs.Seat
open Go.Proofs
def bareN : NT → Bool → Bool → Bool → Bool → Bool
 | .mk _ i txt (.mk k _ args) _ kids, a, b, c, d => (((a || decide (i = 0)) && (b || decide (txt = []))) && (c || (decide (k = 0) && decide ((args.length : Int) = 0)))) && (d || decide ((kids.length : Int) = 0))
section
variable (op txt : List UInt8) (i k : Int) (sa s : Nat) (args : List KT) (kids : List NT) (H : Heap)
theorem s43 (a b c d : Bool) (hp : (a, b, c, d) = (true, false, false, false) ∨ (a, b, c, d) = (false, true, false, false) ∨ (a, b, c, d) = (false, false, true, false) ∨ (a, b, c, d) = (false, false, false, true)) : L 43 [.im (.agg (encN (.mk op i txt (.mk k sa args) s kids))), .im (.bool a), .im (.bool b), .im (.bool c), .im (.bool d)] H = some (.im (.bool (bareN (.mk op i txt (.mk k sa args) s kids) a b c d)), H) := by
 have hl1 : (encTs args).length = args.length := by rw [encTs_map]; simp
 have hl2 : (encNs kids).length = kids.length := by rw [encNs_map]; simp
 simp only [encN,bareN]
 rw [leq F43]
 obtain ⟨hlen, ha⟩ := enter_at (f := f43) (args := [.im (.agg [.str op, .int .i64 i, .str txt, .int .i64 k, .sl sa (encTs args), .sl s (encNs kids)]), .im (.bool a), .im (.bool b), .im (.bool c), .im (.bool d)]) (Nat.le_of_ble_eq_true rfl)
 have h0 := ha 0 _ rfl
 have h1 := ha 1 _ rfl
 have h2 := ha 2 _ rfl
 have h3 := ha 3 _ rfl
 have h4 := ha 4 _ rfl
 generalize enterA f43 [.im (.agg [.str op, .int .i64 i, .str txt, .int .i64 k, .sl sa (encTs args), .sl s (encNs kids)]), .im (.bool a), .im (.bool b), .im (.bool c), .im (.bool d)] = tm at *
 change tm.length = 50 at hlen
 clear ha
 have kl : ((encTs args).length : Int) = (args.length : Int) := by rw [hl1]
 have kl2 : ((encNs kids).length : Int) = (kids.length : Int) := by rw [hl2]
 have go : ∀ (p1 p2 p3 p4 p5 : Bool), decide (i = 0) = p1 → decide (txt = []) = p2 → decide (k = 0) = p3 → decide ((args.length : Int) = 0) = p4 → decide ((kids.length : Int) = 0) = p5 →
   exec0 L Λ f43.code tm H (endK f43 H) = some (.im (.bool ((((a || p1) && (b || p2)) && (c || (p3 && p4))) && (d || p5))), H) := fun p1 p2 p3 p4 p5 e1 e2 e3 e4 e5 => by
  have hp := hp
  rcases hp with hp | hp | hp | hp
  ·simp only [Prod.mk.injEq] at hp
   obtain ⟨rfl, rfl, rfl, rfl⟩ := hp
   cases p2
   ·simp only [f43,B0,B1,B2,List.replicate,Nat.reduceAdd,Nat.reduceSub,Nat.reduceLeDiff,Nat.reduceLT,Nat.reduceEqDiff,reduceCtorEq,Int.reduceEq,Int.reduceLT,Int.reduceLE,lenA,z_ops,z_nil,z_cons,z_guard,z_some,z_drop,z_do,z_not,z_not0,pairK,forall_eq_or_imp,stays,loadOf,List.reverse_cons,List.reverse_nil,List.mem_cons,List.not_mem_nil,or_false,forall_eq,true_or,or_true,Bool.true_and,endK,resA,tupA,hlen,h0,h1,h2,h3,h4,e1,e2,e3,e4,e5,hl1,hl2,leave_app,Bool.false_or,Bool.true_or,Bool.false_and,Bool.true_and]
   cases p3
   ·simp only [f43,B0,B1,B2,List.replicate,Nat.reduceAdd,Nat.reduceSub,Nat.reduceLeDiff,Nat.reduceLT,Nat.reduceEqDiff,reduceCtorEq,Int.reduceEq,Int.reduceLT,Int.reduceLE,lenA,z_ops,z_nil,z_cons,z_guard,z_some,z_drop,z_do,z_not,z_not0,pairK,forall_eq_or_imp,stays,loadOf,List.reverse_cons,List.reverse_nil,List.mem_cons,List.not_mem_nil,or_false,forall_eq,true_or,or_true,Bool.true_and,endK,resA,tupA,hlen,h0,h1,h2,h3,h4,e1,e2,e3,e4,e5,hl1,hl2,leave_app,Bool.false_or,Bool.true_or,Bool.false_and,Bool.true_and]
   cases p4
   ·simp only [f43,B0,B1,B2,List.replicate,Nat.reduceAdd,Nat.reduceSub,Nat.reduceLeDiff,Nat.reduceLT,Nat.reduceEqDiff,reduceCtorEq,Int.reduceEq,Int.reduceLT,Int.reduceLE,lenA,z_ops,z_nil,z_cons,z_guard,z_some,z_drop,z_do,z_not,z_not0,pairK,forall_eq_or_imp,stays,loadOf,List.reverse_cons,List.reverse_nil,List.mem_cons,List.not_mem_nil,or_false,forall_eq,true_or,or_true,Bool.true_and,endK,resA,tupA,hlen,h0,h1,h2,h3,h4,e1,e2,e3,e4,e5,hl1,hl2,leave_app,Bool.false_or,Bool.true_or,Bool.false_and,Bool.true_and]
   cases p5
   ·simp only [f43,B0,B1,B2,List.replicate,Nat.reduceAdd,Nat.reduceSub,Nat.reduceLeDiff,Nat.reduceLT,Nat.reduceEqDiff,reduceCtorEq,Int.reduceEq,Int.reduceLT,Int.reduceLE,lenA,z_ops,z_nil,z_cons,z_guard,z_some,z_drop,z_do,z_not,z_not0,pairK,forall_eq_or_imp,stays,loadOf,List.reverse_cons,List.reverse_nil,List.mem_cons,List.not_mem_nil,or_false,forall_eq,true_or,or_true,Bool.true_and,endK,resA,tupA,hlen,h0,h1,h2,h3,h4,e1,e2,e3,e4,e5,hl1,hl2,leave_app,Bool.false_or,Bool.true_or,Bool.false_and,Bool.true_and]
   simp only [f43,B0,B1,B2,List.replicate,Nat.reduceAdd,Nat.reduceSub,Nat.reduceLeDiff,Nat.reduceLT,Nat.reduceEqDiff,reduceCtorEq,Int.reduceEq,Int.reduceLT,Int.reduceLE,lenA,z_ops,z_nil,z_cons,z_guard,z_some,z_drop,z_do,z_not,z_not0,pairK,forall_eq_or_imp,stays,loadOf,List.reverse_cons,List.reverse_nil,List.mem_cons,List.not_mem_nil,or_false,forall_eq,true_or,or_true,Bool.true_and,endK,resA,tupA,hlen,h0,h1,h2,h3,h4,e1,e2,e3,e4,e5,hl1,hl2,leave_app,Bool.false_or,Bool.true_or,Bool.false_and,Bool.true_and]
  ·simp only [Prod.mk.injEq] at hp
   obtain ⟨rfl, rfl, rfl, rfl⟩ := hp
   cases p1
   ·simp only [f43,B0,B1,B2,List.replicate,Nat.reduceAdd,Nat.reduceSub,Nat.reduceLeDiff,Nat.reduceLT,Nat.reduceEqDiff,reduceCtorEq,Int.reduceEq,Int.reduceLT,Int.reduceLE,lenA,z_ops,z_nil,z_cons,z_guard,z_some,z_drop,z_do,z_not,z_not0,pairK,forall_eq_or_imp,stays,loadOf,List.reverse_cons,List.reverse_nil,List.mem_cons,List.not_mem_nil,or_false,forall_eq,true_or,or_true,Bool.true_and,endK,resA,tupA,hlen,h0,h1,h2,h3,h4,e1,e2,e3,e4,e5,hl1,hl2,leave_app,Bool.false_or,Bool.true_or,Bool.false_and,Bool.true_and]
   cases p3
   ·simp only [f43,B0,B1,B2,List.replicate,Nat.reduceAdd,Nat.reduceSub,Nat.reduceLeDiff,Nat.reduceLT,Nat.reduceEqDiff,reduceCtorEq,Int.reduceEq,Int.reduceLT,Int.reduceLE,lenA,z_ops,z_nil,z_cons,z_guard,z_some,z_drop,z_do,z_not,z_not0,pairK,forall_eq_or_imp,stays,loadOf,List.reverse_cons,List.reverse_nil,List.mem_cons,List.not_mem_nil,or_false,forall_eq,true_or,or_true,Bool.true_and,endK,resA,tupA,hlen,h0,h1,h2,h3,h4,e1,e2,e3,e4,e5,hl1,hl2,leave_app,Bool.false_or,Bool.true_or,Bool.false_and,Bool.true_and]
   cases p4
   ·simp only [f43,B0,B1,B2,List.replicate,Nat.reduceAdd,Nat.reduceSub,Nat.reduceLeDiff,Nat.reduceLT,Nat.reduceEqDiff,reduceCtorEq,Int.reduceEq,Int.reduceLT,Int.reduceLE,lenA,z_ops,z_nil,z_cons,z_guard,z_some,z_drop,z_do,z_not,z_not0,pairK,forall_eq_or_imp,stays,loadOf,List.reverse_cons,List.reverse_nil,List.mem_cons,List.not_mem_nil,or_false,forall_eq,true_or,or_true,Bool.true_and,endK,resA,tupA,hlen,h0,h1,h2,h3,h4,e1,e2,e3,e4,e5,hl1,hl2,leave_app,Bool.false_or,Bool.true_or,Bool.false_and,Bool.true_and]
   cases p5
   ·simp only [f43,B0,B1,B2,List.replicate,Nat.reduceAdd,Nat.reduceSub,Nat.reduceLeDiff,Nat.reduceLT,Nat.reduceEqDiff,reduceCtorEq,Int.reduceEq,Int.reduceLT,Int.reduceLE,lenA,z_ops,z_nil,z_cons,z_guard,z_some,z_drop,z_do,z_not,z_not0,pairK,forall_eq_or_imp,stays,loadOf,List.reverse_cons,List.reverse_nil,List.mem_cons,List.not_mem_nil,or_false,forall_eq,true_or,or_true,Bool.true_and,endK,resA,tupA,hlen,h0,h1,h2,h3,h4,e1,e2,e3,e4,e5,hl1,hl2,leave_app,Bool.false_or,Bool.true_or,Bool.false_and,Bool.true_and]
   simp only [f43,B0,B1,B2,List.replicate,Nat.reduceAdd,Nat.reduceSub,Nat.reduceLeDiff,Nat.reduceLT,Nat.reduceEqDiff,reduceCtorEq,Int.reduceEq,Int.reduceLT,Int.reduceLE,lenA,z_ops,z_nil,z_cons,z_guard,z_some,z_drop,z_do,z_not,z_not0,pairK,forall_eq_or_imp,stays,loadOf,List.reverse_cons,List.reverse_nil,List.mem_cons,List.not_mem_nil,or_false,forall_eq,true_or,or_true,Bool.true_and,endK,resA,tupA,hlen,h0,h1,h2,h3,h4,e1,e2,e3,e4,e5,hl1,hl2,leave_app,Bool.false_or,Bool.true_or,Bool.false_and,Bool.true_and]
  ·simp only [Prod.mk.injEq] at hp
   obtain ⟨rfl, rfl, rfl, rfl⟩ := hp
   cases p1
   ·simp only [f43,B0,B1,B2,List.replicate,Nat.reduceAdd,Nat.reduceSub,Nat.reduceLeDiff,Nat.reduceLT,Nat.reduceEqDiff,reduceCtorEq,Int.reduceEq,Int.reduceLT,Int.reduceLE,lenA,z_ops,z_nil,z_cons,z_guard,z_some,z_drop,z_do,z_not,z_not0,pairK,forall_eq_or_imp,stays,loadOf,List.reverse_cons,List.reverse_nil,List.mem_cons,List.not_mem_nil,or_false,forall_eq,true_or,or_true,Bool.true_and,endK,resA,tupA,hlen,h0,h1,h2,h3,h4,e1,e2,e3,e4,e5,hl1,hl2,leave_app,Bool.false_or,Bool.true_or,Bool.false_and,Bool.true_and]
   cases p2
   ·simp only [f43,B0,B1,B2,List.replicate,Nat.reduceAdd,Nat.reduceSub,Nat.reduceLeDiff,Nat.reduceLT,Nat.reduceEqDiff,reduceCtorEq,Int.reduceEq,Int.reduceLT,Int.reduceLE,lenA,z_ops,z_nil,z_cons,z_guard,z_some,z_drop,z_do,z_not,z_not0,pairK,forall_eq_or_imp,stays,loadOf,List.reverse_cons,List.reverse_nil,List.mem_cons,List.not_mem_nil,or_false,forall_eq,true_or,or_true,Bool.true_and,endK,resA,tupA,hlen,h0,h1,h2,h3,h4,e1,e2,e3,e4,e5,hl1,hl2,leave_app,Bool.false_or,Bool.true_or,Bool.false_and,Bool.true_and]
   cases p5
   ·simp only [f43,B0,B1,B2,List.replicate,Nat.reduceAdd,Nat.reduceSub,Nat.reduceLeDiff,Nat.reduceLT,Nat.reduceEqDiff,reduceCtorEq,Int.reduceEq,Int.reduceLT,Int.reduceLE,lenA,z_ops,z_nil,z_cons,z_guard,z_some,z_drop,z_do,z_not,z_not0,pairK,forall_eq_or_imp,stays,loadOf,List.reverse_cons,List.reverse_nil,List.mem_cons,List.not_mem_nil,or_false,forall_eq,true_or,or_true,Bool.true_and,endK,resA,tupA,hlen,h0,h1,h2,h3,h4,e1,e2,e3,e4,e5,hl1,hl2,leave_app,Bool.false_or,Bool.true_or,Bool.false_and,Bool.true_and]
   simp only [f43,B0,B1,B2,List.replicate,Nat.reduceAdd,Nat.reduceSub,Nat.reduceLeDiff,Nat.reduceLT,Nat.reduceEqDiff,reduceCtorEq,Int.reduceEq,Int.reduceLT,Int.reduceLE,lenA,z_ops,z_nil,z_cons,z_guard,z_some,z_drop,z_do,z_not,z_not0,pairK,forall_eq_or_imp,stays,loadOf,List.reverse_cons,List.reverse_nil,List.mem_cons,List.not_mem_nil,or_false,forall_eq,true_or,or_true,Bool.true_and,endK,resA,tupA,hlen,h0,h1,h2,h3,h4,e1,e2,e3,e4,e5,hl1,hl2,leave_app,Bool.false_or,Bool.true_or,Bool.false_and,Bool.true_and]
  ·simp only [Prod.mk.injEq] at hp
   obtain ⟨rfl, rfl, rfl, rfl⟩ := hp
   cases p1
   ·simp only [f43,B0,B1,B2,List.replicate,Nat.reduceAdd,Nat.reduceSub,Nat.reduceLeDiff,Nat.reduceLT,Nat.reduceEqDiff,reduceCtorEq,Int.reduceEq,Int.reduceLT,Int.reduceLE,lenA,z_ops,z_nil,z_cons,z_guard,z_some,z_drop,z_do,z_not,z_not0,pairK,forall_eq_or_imp,stays,loadOf,List.reverse_cons,List.reverse_nil,List.mem_cons,List.not_mem_nil,or_false,forall_eq,true_or,or_true,Bool.true_and,endK,resA,tupA,hlen,h0,h1,h2,h3,h4,e1,e2,e3,e4,e5,hl1,hl2,leave_app,Bool.false_or,Bool.true_or,Bool.false_and,Bool.true_and]
   cases p2
   ·simp only [f43,B0,B1,B2,List.replicate,Nat.reduceAdd,Nat.reduceSub,Nat.reduceLeDiff,Nat.reduceLT,Nat.reduceEqDiff,reduceCtorEq,Int.reduceEq,Int.reduceLT,Int.reduceLE,lenA,z_ops,z_nil,z_cons,z_guard,z_some,z_drop,z_do,z_not,z_not0,pairK,forall_eq_or_imp,stays,loadOf,List.reverse_cons,List.reverse_nil,List.mem_cons,List.not_mem_nil,or_false,forall_eq,true_or,or_true,Bool.true_and,endK,resA,tupA,hlen,h0,h1,h2,h3,h4,e1,e2,e3,e4,e5,hl1,hl2,leave_app,Bool.false_or,Bool.true_or,Bool.false_and,Bool.true_and]
   cases p3
   ·simp only [f43,B0,B1,B2,List.replicate,Nat.reduceAdd,Nat.reduceSub,Nat.reduceLeDiff,Nat.reduceLT,Nat.reduceEqDiff,reduceCtorEq,Int.reduceEq,Int.reduceLT,Int.reduceLE,lenA,z_ops,z_nil,z_cons,z_guard,z_some,z_drop,z_do,z_not,z_not0,pairK,forall_eq_or_imp,stays,loadOf,List.reverse_cons,List.reverse_nil,List.mem_cons,List.not_mem_nil,or_false,forall_eq,true_or,or_true,Bool.true_and,endK,resA,tupA,hlen,h0,h1,h2,h3,h4,e1,e2,e3,e4,e5,hl1,hl2,leave_app,Bool.false_or,Bool.true_or,Bool.false_and,Bool.true_and]
   cases p4
   ·simp only [f43,B0,B1,B2,List.replicate,Nat.reduceAdd,Nat.reduceSub,Nat.reduceLeDiff,Nat.reduceLT,Nat.reduceEqDiff,reduceCtorEq,Int.reduceEq,Int.reduceLT,Int.reduceLE,lenA,z_ops,z_nil,z_cons,z_guard,z_some,z_drop,z_do,z_not,z_not0,pairK,forall_eq_or_imp,stays,loadOf,List.reverse_cons,List.reverse_nil,List.mem_cons,List.not_mem_nil,or_false,forall_eq,true_or,or_true,Bool.true_and,endK,resA,tupA,hlen,h0,h1,h2,h3,h4,e1,e2,e3,e4,e5,hl1,hl2,leave_app,Bool.false_or,Bool.true_or,Bool.false_and,Bool.true_and]
   simp only [f43,B0,B1,B2,List.replicate,Nat.reduceAdd,Nat.reduceSub,Nat.reduceLeDiff,Nat.reduceLT,Nat.reduceEqDiff,reduceCtorEq,Int.reduceEq,Int.reduceLT,Int.reduceLE,lenA,z_ops,z_nil,z_cons,z_guard,z_some,z_drop,z_do,z_not,z_not0,pairK,forall_eq_or_imp,stays,loadOf,List.reverse_cons,List.reverse_nil,List.mem_cons,List.not_mem_nil,or_false,forall_eq,true_or,or_true,Bool.true_and,endK,resA,tupA,hlen,h0,h1,h2,h3,h4,e1,e2,e3,e4,e5,hl1,hl2,leave_app,Bool.false_or,Bool.true_or,Bool.false_and,Bool.true_and]
 exact go _ _ _ _ _ rfl rfl rfl rfl rfl
end
end Go.Abs.Seat
end
section
set_option linter.unusedVariables false
set_option linter.unusedSimpArgs false
namespace Go.Abs.Seat
open Go.Proofs
def hexD (n : Nat) : UInt8 := (hexW[n]?).getD 0
def quoteC (c : UInt8) : List UInt8 := if plnZ (c.toNat : Int) = true then [c] else [92, hexD (c.toNat / 16), hexD (c.toNat % 16)]
def quoteL : List UInt8 → List UInt8
 | [] => []
 | c :: s => quoteC c ++ quoteL s
def quoteB (s : List UInt8) : List UInt8 := 34 :: (quoteL s ++ [34])
theorem quoteC_len (c : UInt8) : (quoteC c).length ≤ 3 := by unfold quoteC; split <;> simp
theorem quoteL_len : ∀ s : List UInt8, (quoteL s).length ≤ 3 * s.length
 | [] => Nat.le_refl _
 | c :: s => by
  have h1 := quoteC_len c
  have h2 := quoteL_len s
  simp only [quoteL,List.length_append,List.length_cons]
  omega
theorem hexD_at (n : Nat) (h : n < 16) : hexW[n]? = some (hexD n) := by
 unfold hexD
 rw [List.getElem?_eq_getElem (show n < hexW.length from h)]
 rfl
theorem enc_hex : ∀ n : Fin 16, (Utf8.encode ((hexD n.val).toNat : Int)).data.toList = [hexD n.val] := by decide +kernel
theorem byte_hi : ∀ x : Fin 256, ((x.val : Int)).fdiv (2 ^ (Min.min (4 : Int).toNat IntKind.u8.bits)) = ((x.val / 16 : Nat) : Int) := by decide +kernel
theorem byte_lo : ∀ x : Fin 256, IntKind.u8.wrap (((BitVec.ofInt IntKind.u8.bits (x.val : Int)) &&& (BitVec.ofInt IntKind.u8.bits 15)).toNat : Int) = ((x.val % 16 : Nat) : Int) := by decide +kernel
theorem b_hi (c : UInt8) : binA .shr (.im (.int .u8 (c.toNat : Int))) (.im (.int .u64 4)) = some (.im (.int .u8 ((c.toNat / 16 : Nat) : Int))) := by
 have := byte_hi ⟨c.toNat, c.toNat_lt⟩
 simp only [binA,isShift,if_true,binShift]
 rw [if_neg (by decide), this]
theorem b_lo (c : UInt8) : binA .and (.im (.int .u8 (c.toNat : Int))) (.im (.int .u8 15)) = some (.im (.int .u8 ((c.toNat % 16 : Nat) : Int))) := by
 have := byte_lo ⟨c.toNat, c.toNat_lt⟩
 simp only [binA,isShift,Bool.false_eq_true,if_false,if_true,binInt]
 rw [this]
variable {n : Nat} {ty : TypeId × Nat} {rest : List AV}
theorem l46 (hty : Tryd.okB ty = true) (id : Nat) (s : List UInt8) (hs : s.length ≤ 4611686018427387904) :
  ∀ (m i : Nat) (tm : List AV) (H : Heap) (txt : List UInt8), i + m = s.length → txt.length + 3 * m ≤ 2 ^ 46 → HoldE ty 5 n H id rest txt → tm.length = 43 → tm.getD 0 undefA = .ptr id 0 0 →
   tm.getD 11 undefA = .im (.sl 1 (s.map fun c => [byteDat c])) → tm.getD 12 undefA = .im (.int .i64 (s.length : Int)) → tm.getD 13 undefA = .im (.int .i64 (i : Int)) →
  ∃ e tm' H', Λ c46_0 tm H = some (e, tm', H') ∧ (e = .exit 0 ∧ tm'.length = 43 ∧ tm'.getD 0 undefA = .ptr id 0 0 ∧ HoldE ty 5 n H' id rest (txt ++ quoteL (s.drop i)) ∧ Keeps n id H H')
 | 0, i, tm, H, txt, hi, hb, hH, hlen, h0, h11, h12, h13 => by
  have e : s.drop i = [] := by rw [List.drop_eq_nil_iff]; omega
  have hc : decide ((i : Int) < (s.length : Int)) = false := decide_eq_false (by omega)
  rw [l46_0, e]
  simp only [b46_0,B0,B1,B2,List.replicate,Nat.reduceAdd,Nat.reduceSub,Nat.reduceLeDiff,Nat.reduceLT,Nat.reduceEqDiff,reduceCtorEq,Int.reduceEq,Int.reduceLT,Int.reduceLE,lenA,hlen,h0,h11,h12,h13,hc]
  exact ⟨_, _, _, rfl, rfl, by simp only [List.length_set,hlen], by simp only [B3,Nat.reduceLT,Nat.reduceEqDiff,hlen,h0], by simpa only [quoteL, List.append_nil] using hH, Keeps.refl _ _ _⟩
 | m + 1, i, tm, H, txt, hi, hb, hH, hlen, h0, h11, h12, h13 => by
  have hlt : i < s.length := by omega
  have e : s.drop i = s[i] :: s.drop (i + 1) := List.drop_eq_getElem_cons hlt
  have hsi : s[i]? = some s[i] := List.getElem?_eq_getElem hlt
  generalize s[i] = c at e hsi
  have hc : decide ((i : Int) < (s.length : Int)) = true := decide_eq_true (by omega)
  have hix := idx_nat (i := i) (n := (s.map fun c => [byteDat c]).length) (by simpa using hlt)
  have hget : (s.map fun c => [byteDat c])[i]? = some [byteDat c] := by rw [List.getElem?_map, hsi]; rfl
  have hwr := wrap_nat (i := i) (by omega)
  have c51 := fun H => s51 (c.toNat : Int) H
  rw [l46_0, e]
  rcases Bool.eq_false_or_eq_true (plnZ (c.toNat : Int)) with hp | hp
  ·obtain ⟨H2, hcall, hH2, hK2⟩ := s62 hty hH c (by omega)
   have key := fun tm1 => l46 hty id s hs m (i + 1) tm1 H2 (txt ++ [c]) (by omega) (by simp; omega) hH2
   simp only [byteDat] at hcall hget c51 hix
   simp only [hp] at c51
   simp only [b46_0,B0,B1,B2,List.replicate,Nat.reduceAdd,Nat.reduceSub,Nat.reduceLeDiff,Nat.reduceLT,Nat.reduceEqDiff,reduceCtorEq,Int.reduceEq,Int.reduceLT,Int.reduceLE,lenA,byteDat,hlen,h0,h11,h12,h13,hc,hix,hget,c51,hcall,hwr]
   refine ex_imp (key _ ?_ ?_ ?_ ?_ ?_) ?_
   iterate 5 simp only [B3,Nat.reduceLT,Nat.reduceEqDiff,hlen,h0,h11,h12,byteDat]
   rintro e tm' H' ⟨he, hl, g0, gH, gK⟩
   refine ⟨he, hl, g0, ?_, hK2.trans gK⟩
   simpa only [quoteL, quoteC, hp, if_true, List.append_assoc] using gH
  ·have hq : quoteC c = [92, hexD (c.toNat / 16), hexD (c.toNat % 16)] := by unfold quoteC; rw [if_neg (by rw [hp]; simp)]
   have hhi : c.toNat / 16 < 16 := by have := c.toNat_lt; omega
   have hlo : c.toNat % 16 < 16 := by omega
   have e1 := enc_hex ⟨c.toNat / 16, hhi⟩
   have e2 := enc_hex ⟨c.toNat % 16, hlo⟩
   have g1 := hexD_at _ hhi
   have g2 := hexD_at _ hlo
   have q1 := b_hi c
   have q2 := b_lo c
   obtain ⟨H2, hcall, hH2, hK2⟩ := s44 hty hH [92, hexD (c.toNat / 16), hexD (c.toNat % 16)] (by simp only [List.length_cons,List.length_nil]; omega)
   have key := fun tm1 => l46 hty id s hs m (i + 1) tm1 H2 (txt ++ [92, hexD (c.toNat / 16), hexD (c.toNat % 16)]) (by omega) (by simp; omega) hH2
   have p1 : (0 : Int) ≤ ((c.toNat / 16 : Nat) : Int) := Int.natCast_nonneg _
   have p2 : (0 : Int) ≤ ((c.toNat % 16 : Nat) : Int) := Int.natCast_nonneg _
   simp only [byteDat] at hcall hget c51 hix
   simp only [hp] at c51
   simp only [hexW] at g1 g2
   generalize c.toNat / 16 = u1 at *
   generalize c.toNat % 16 = u2 at *
   generalize hexD u1 = x1 at *
   generalize hexD u2 = x2 at *
   have a1 : ∀ a b : List UInt8, a.length + b.length ≤ 100 → binA .add (.im (.str a)) (.im (.str b)) = some (.im (.str (a ++ b))) := fun a b h => s_add (by omega)
   have a2 := a1 [92] [x1] (by simp)
   have a3 := a1 [92, x1] [x2] (by simp)
   simp only [List.cons_append,List.nil_append] at a2 a3
   clear a1
   simp only [b46_0,B0,B1,B2,List.replicate,Nat.reduceAdd,Nat.reduceSub,Nat.reduceLeDiff,Nat.reduceLT,Nat.reduceEqDiff,reduceCtorEq,Int.reduceEq,Int.reduceLT,Int.reduceLE,lenA,byteDat,intOfA,Int.toNat_natCast,hlen,h0,h11,h12,h13,hc,hix,hget,c51,q1,q2,p1,p2,g1,g2,e1,e2,a2,a3,hcall,hwr]
   refine ex_imp (key _ ?_ ?_ ?_ ?_ ?_) ?_
   iterate 5 simp only [B3,Nat.reduceLT,Nat.reduceEqDiff,hlen,h0,h11,h12,byteDat]
   rintro e tm' H' ⟨he, hl, g0, gH, gK⟩
   refine ⟨he, hl, g0, ?_, hK2.trans gK⟩
   simpa only [quoteL, hq, List.append_assoc] using gH
theorem s46 (hty : Tryd.okB ty = true) {H : Heap} {id : Nat} {txt : List UInt8} (h : HoldE ty 5 n H id rest txt) (s : List UInt8) (hs : s.length ≤ 1000000) (hb : txt.length ≤ 1000000000) :
  ∃ H', L 46 [.ptr id 0 0, .im (.str s)] H = some (.tup [], H') ∧ HoldE ty 5 n H' id rest (txt ++ quoteB s) ∧ Keeps n id H H' := by
 obtain ⟨H1, hc1, hH1, hK1⟩ := s62 hty h 34 (by omega)
 have key := fun tm1 => l46 (n := n) hty id s (by omega) s.length 0 tm1 H1 (txt ++ [34]) (by omega) (by simp; omega) hH1
 suffices hsuf : ∃ H2, HoldE ty 5 n H2 id rest (txt ++ quoteB s) ∧ Keeps n id H H2 ∧ L 46 [.ptr id 0 0, .im (.str s)] H = some (leave H false (.tup []) H2) by
  obtain ⟨H2, h1, h2, h3⟩ := hsuf
  obtain ⟨H', e1, e2, e3⟩ := leave_holdE (r := .tup []) (r' := .tup []) rfl h h1 h2
  exact ⟨H', by rw [h3, e1], e2, e3⟩
 rw [leq F46]
 obtain ⟨hlen, ha⟩ := enter_at (f := f46) (args := [.ptr id 0 0, .im (.str s)]) (Nat.le_of_ble_eq_true rfl)
 have h0 := ha 0 _ rfl
 have h1 := ha 1 _ rfl
 generalize enterA f46 [.ptr id 0 0, .im (.str s)] = tm at *
 change tm.length = 43 at hlen
 have z : ((0 : Nat) : Int) = 0 := rfl
 have b34 : (((34 : UInt8).toNat : Nat) : Int) = 34 := rfl
 simp only [byteDat,b34] at hc1
 have hml : (s.map fun c => [byteDat c]).length = s.length := by simp
 simp only [byteDat] at hml
 simp only [z,List.drop_zero,byteDat] at key
 simp only [f46,e46_0,B0,B1,B2,List.replicate,Nat.reduceAdd,Nat.reduceSub,Nat.reduceLeDiff,Nat.reduceLT,Nat.reduceEqDiff,reduceCtorEq,Int.reduceEq,Int.reduceLT,Int.reduceLE,lenA,byteDat,hlen,h0,h1,hc1,hml]
 refine thenL_ex (fun r => ∃ H2, HoldE ty 5 n H2 id rest (txt ++ quoteB s) ∧ Keeps n id H H2 ∧ r = some (leave H false (.tup []) H2)) (key _ ?_ ?_ ?_ ?_ ?_) ?_
 iterate 5 simp only [B3,Nat.reduceLT,Nat.reduceEqDiff,hlen,h0,h1,hml]
 rintro e tm1 H2 ⟨rfl, hl1, a0, aH, aK⟩
 obtain ⟨H3, hc3, hH3, hK3⟩ := s62 hty aH 34 (by
  have := quoteL_len s
  simp only [List.length_append,List.length_cons,List.length_nil]
  omega)
 simp only [byteDat,b34] at hc3
 simp only [B0,B1,B2,List.replicate,Nat.reduceAdd,Nat.reduceSub,Nat.reduceLeDiff,Nat.reduceLT,Nat.reduceEqDiff,reduceCtorEq,Int.reduceEq,Int.reduceLT,Int.reduceLE,lenA,hl1,a0,hc3,endK,f46,resA,tupA]
 refine ⟨H3, ?_, (hK1.trans aK).trans hK3, rfl⟩
 simpa only [quoteB, List.append_assoc, List.cons_append, List.nil_append] using hH3
end Go.Abs.Seat
end
section
set_option linter.unusedVariables false
set_option linter.unusedSimpArgs false
namespace Go.Abs.Seat
open Go.Proofs
def oddB (a : UInt8) : Bool := !namZ (a.toNat : Int)
theorem l74g (s : List UInt8) (hn : s.length ≤ 4611686018427387904) (H : Heap) :
  ∀ (m i : Nat) (tm : List AV), i + m = s.length → tm.length = 19 → tm.getD 0 undefA = .im (.sl 1 (s.map fun c => [byteDat c])) → tm.getD 1 undefA = .clo 64 [] → tm.getD 7 undefA = .im (.int .i64 (s.length : Int)) → tm.getD 8 undefA = .im (.int .i64 (i : Int)) →
  ∃ e tm' H', Λ c74_0 tm H = some (e, tm', H') ∧ tm'.length = 19 ∧ H' = H ∧ ((e = .exit 0 ∧ (s.drop i).any oddB = false) ∨ (e = .ret ∧ (s.drop i).any oddB = true ∧ ∃ j : Nat, tm'.getD 4 undefA = .im (.int .i64 (j : Int))))
 | 0, i, tm, hi, hlen, h0, h1, h7, h8 => by
  have e : s.drop i = [] := by rw [List.drop_eq_nil_iff]; omega
  have hc : decide ((i : Int) < (s.length : Int)) = false := decide_eq_false (by omega)
  rw [l74_0, e]
  simp only [b74_0,B0,B1,B2,List.replicate,Nat.reduceAdd,Nat.reduceSub,Nat.reduceLeDiff,Nat.reduceLT,Nat.reduceEqDiff,reduceCtorEq,Int.reduceEq,Int.reduceLT,Int.reduceLE,lenA,hlen,h7,h8,hc]
  exact ⟨_, _, _, rfl, by simp only [List.length_set,hlen], rfl, .inl ⟨rfl, rfl⟩⟩
 | m + 1, i, tm, hi, hlen, h0, h1, h7, h8 => by
  have hlt : i < s.length := by omega
  have e : s.drop i = s[i] :: s.drop (i + 1) := List.drop_eq_getElem_cons hlt
  have hai : s[i]? = some s[i] := List.getElem?_eq_getElem hlt
  generalize s[i] = a at e hai
  have hc : decide ((i : Int) < (s.length : Int)) = true := decide_eq_true (by omega)
  have hg : (s.map fun c => [byteDat c])[i]? = some [.int .u8 (a.toNat : Int)] := by rw [List.getElem?_map, hai]; rfl
  have hix := idx_nat (n := s.length) (i := i) hlt
  have hwr := wrap_nat (i := i) (by omega)
  have c1 := fun H => s64 (a.toNat : Int) H
  have key := fun tm1 => l74g s hn H m (i + 1) tm1 (by omega)
  rw [l74_0, e]
  rcases Bool.eq_false_or_eq_true (oddB a) with ho | ho
  ·have ho' := ho
   unfold oddB at ho'
   rw [ho'] at c1
   simp only [b74_0,B0,B1,B2,List.replicate,Nat.reduceAdd,Nat.reduceSub,Nat.reduceLeDiff,Nat.reduceLT,Nat.reduceEqDiff,reduceCtorEq,Int.reduceEq,Int.reduceLT,Int.reduceLE,lenA,hlen,h0,h1,h7,h8,hc,hix,hg,List.length_map,c1]
   exact ⟨_, _, _, rfl, by simp only [List.length_set,hlen], rfl, .inr ⟨rfl, by simp [ho], i, by simp only [B3,Nat.reduceLT,Nat.reduceEqDiff,hlen]⟩⟩
  ·have ho' := ho
   unfold oddB at ho'
   rw [ho'] at c1
   simp only [b74_0,B0,B1,B2,List.replicate,Nat.reduceAdd,Nat.reduceSub,Nat.reduceLeDiff,Nat.reduceLT,Nat.reduceEqDiff,reduceCtorEq,Int.reduceEq,Int.reduceLT,Int.reduceLE,lenA,hlen,h0,h1,h7,h8,hc,hix,hg,List.length_map,c1,hwr]
   refine ex_imp (key _ ?_ ?_ ?_ ?_ ?_) fun _ _ _ h => ?_
   iterate 5 simp only [B3,Nat.reduceLT,Nat.reduceEqDiff,hlen,h0,h1,h7]
   simpa only [List.any_cons, ho, Bool.false_or] using h
theorem s74g (s : List UInt8) (hn : s.length ≤ 4611686018427387904) (H : Heap) : ∃ r : Int, L 74 [.im (.sl 1 (s.map fun c => [byteDat c])), .clo 64 []] H = some (.im (.int .i64 r), H) ∧ decide (0 ≤ r) = s.any oddB := by
 have key := fun tm1 => l74g s hn H s.length 0 tm1 (by omega)
 simp only [zc0,List.drop_zero] at key
 have hlA : lenA (.im (.sl 1 (s.map fun c => [byteDat c]))) = some s.length := by simp [lenA]
 rw [leq F74]
 obtain ⟨hlen, ha⟩ := enter_at (f := f74) (args := [.im (.sl 1 (s.map fun c => [byteDat c])), .clo 64 []]) (Nat.le_of_ble_eq_true rfl)
 have h0 := ha 0 _ rfl
 have h1 := ha 1 _ rfl
 generalize enterA f74 [.im (.sl 1 (s.map fun c => [byteDat c])), .clo 64 []] = tm at *
 change tm.length = 19 at hlen
 simp only [f74,e74_0,B0,B1,B2,List.replicate,Nat.reduceAdd,Nat.reduceSub,Nat.reduceLeDiff,Nat.reduceLT,Nat.reduceEqDiff,reduceCtorEq,Int.reduceEq,Int.reduceLT,Int.reduceLE,hlen,h0,h1,hlA]
 generalize hr : thenL (Λ c74_0 _ _) _ = r
 refine Exists.elim (thenL_inv hr (key _ ?_ ?_ ?_ ?_ ?_)) ?_
 iterate 5 simp only [B3,Nat.reduceLT,Nat.reduceEqDiff,hlen,h0,h1]
 clear hr key
 rintro e ⟨tm1, H1, ⟨g1, rfl, hm⟩, rfl⟩
 rcases hm with ⟨rfl, hm⟩ | ⟨rfl, hm, j, hj⟩
 ·simp only [B0,B1,B2,List.replicate,Nat.reduceAdd,Nat.reduceSub,Nat.reduceLeDiff,Nat.reduceLT,Nat.reduceEqDiff,reduceCtorEq,Int.reduceEq,Int.reduceLT,Int.reduceLE,lenA,endK,resA,tupA,g1,leave_same]
  exact ⟨-1, rfl, by rw [hm]; rfl⟩
 ·simp only [B0,B1,B2,List.replicate,Nat.reduceAdd,Nat.reduceSub,Nat.reduceLeDiff,Nat.reduceLT,Nat.reduceEqDiff,reduceCtorEq,Int.reduceEq,Int.reduceLT,Int.reduceLE,lenA,endK,resA,tupA,g1,hj,leave_same]
  exact ⟨_, rfl, by rw [hm]; exact decide_eq_true (Int.natCast_nonneg j)⟩
theorem s63g (s : List UInt8) (hn : s.length ≤ 4611686018427387904) (H : Heap) : L 63 [.im (.sl 1 (s.map fun c => [byteDat c])), .clo 64 []] H = some (.im (.bool (s.any oddB)), H) := by
 obtain ⟨r, c1, hr⟩ := s74g s hn H
 rw [leq F63]
 obtain ⟨hlen, ha⟩ := enter_at (f := f63) (args := [.im (.sl 1 (s.map fun c => [byteDat c])), .clo 64 []]) (Nat.le_of_ble_eq_true rfl)
 have h0 := ha 0 _ rfl
 have h1 := ha 1 _ rfl
 generalize enterA f63 [.im (.sl 1 (s.map fun c => [byteDat c])), .clo 64 []] = tm at *
 change tm.length = 9 at hlen
 simp only [f63,B0,B1,B2,List.replicate,Nat.reduceAdd,Nat.reduceSub,Nat.reduceLeDiff,Nat.reduceLT,Nat.reduceEqDiff,reduceCtorEq,Int.reduceEq,Int.reduceLT,Int.reduceLE,lenA,endK,resA,tupA,hlen,h0,h1,c1,hr,leave_same]
def nameOk (s : List UInt8) : Bool := !((decide (s = []) || decide (16 < (s.length : Int))) || !letZ ((peekB s 0).toNat : Int)) && ((shapeT s).isNone && !s.any oddB)
theorem s47g (s : List UInt8) (hn : s.length ≤ 4611686018427387904) (H : Heap) : L 47 [.im (.str s)] H = some (.im (.bool (nameOk s)), H) := by
 have c1 := fun H => s33 s H
 have c2 := fun H => s63g s hn H
 have t0 : (0 : Int).toNat = 0 := rfl
 have z0 : (0 : Int) ≤ 0 := Int.le_refl 0
 unfold nameOk
 rw [leq F47]
 obtain ⟨hlen, hg⟩ := enter_at (f := f47) (args := [.im (.str s)]) (Nat.le_of_ble_eq_true rfl)
 have h0 := hg 0 _ rfl
 generalize enterA f47 [.im (.str s)] = tm at *
 change tm.length = 35 at hlen
 rcases Bool.eq_false_or_eq_true (decide (s = [])) with d0 | d0
 ·rw [d0]
  simp only [Bool.true_or,Bool.not_true,Bool.false_and]
  simp only [f47,B0,B1,B2,List.replicate,Nat.reduceAdd,Nat.reduceSub,Nat.reduceLeDiff,Nat.reduceLT,Nat.reduceEqDiff,reduceCtorEq,Int.reduceEq,Int.reduceLT,Int.reduceLE,lenA,intOfA,endK,resA,tupA,hlen,h0,d0,leave_same]
 rcases Bool.eq_false_or_eq_true (decide (16 < (s.length : Int))) with d1 | d1
 ·rw [d0, d1]
  simp only [Bool.or_true,Bool.true_or,Bool.not_true,Bool.false_and]
  simp only [f47,B0,B1,B2,List.replicate,Nat.reduceAdd,Nat.reduceSub,Nat.reduceLeDiff,Nat.reduceLT,Nat.reduceEqDiff,reduceCtorEq,Int.reduceEq,Int.reduceLT,Int.reduceLE,lenA,intOfA,endK,resA,tupA,hlen,h0,d0,d1,leave_same]
 obtain ⟨a, r, hs⟩ : ∃ a r, s = a :: r := by
  cases s with
  | nil => simp at d0
  | cons a r => exact ⟨a, r, rfl⟩
 have ha0 : s[0]? = some a := by rw [hs]; rfl
 have hpk : peekB s 0 = a := by unfold peekB; rw [ha0]; rfl
 have hbd : byteDat a = .int .u8 (a.toNat : Int) := rfl
 rw [hpk, d0, d1]
 clear hs hpk
 unfold letZ
 rcases Bool.eq_false_or_eq_true (decide ((a.toNat : Int) < 97)) with d2 | d2
 ·have e : decide ((97 : Int) ≤ (a.toNat : Int)) = false := by rw [decide_eq_true_eq] at d2; exact decide_eq_false (by omega)
  rw [e]
  simp only [Bool.false_and,Bool.not_false,Bool.or_true,Bool.not_true]
  simp only [f47,B0,B1,B2,List.replicate,Nat.reduceAdd,Nat.reduceSub,Nat.reduceLeDiff,Nat.reduceLT,Nat.reduceEqDiff,reduceCtorEq,Int.reduceEq,Int.reduceLT,Int.reduceLE,lenA,intOfA,hbd,endK,resA,tupA,hlen,h0,d0,d1,d2,ha0,t0,z0,leave_same]
 rcases Bool.eq_false_or_eq_true (decide (122 < (a.toNat : Int))) with d3 | d3
 ·have e : decide ((a.toNat : Int) ≤ 122) = false := by rw [decide_eq_true_eq] at d3; exact decide_eq_false (by omega)
  rw [e]
  simp only [Bool.and_false,Bool.not_false,Bool.or_true,Bool.not_true,Bool.false_and]
  simp only [f47,B0,B1,B2,List.replicate,Nat.reduceAdd,Nat.reduceSub,Nat.reduceLeDiff,Nat.reduceLT,Nat.reduceEqDiff,reduceCtorEq,Int.reduceEq,Int.reduceLT,Int.reduceLE,lenA,intOfA,hbd,endK,resA,tupA,hlen,h0,d0,d1,d2,d3,ha0,t0,z0,leave_same]
 have e1 : decide ((97 : Int) ≤ (a.toNat : Int)) = true := by rw [decide_eq_false_iff_not] at d2; exact decide_eq_true (by omega)
 have e2 : decide ((a.toNat : Int) ≤ 122) = true := by rw [decide_eq_false_iff_not] at d3; exact decide_eq_true (by omega)
 rw [e1, e2]
 simp only [Bool.and_self,Bool.not_true,Bool.or_self,Bool.not_false,Bool.true_and]
 cases hsh : shapeT s with
 | none =>
  rw [hsh] at c1
  simp only [Option.getD_none,Option.isSome_none] at c1
  simp only [Option.isNone_none,Bool.true_and]
  simp only [f47,B0,B1,B2,List.replicate,Nat.reduceAdd,Nat.reduceSub,Nat.reduceLeDiff,Nat.reduceLT,Nat.reduceEqDiff,reduceCtorEq,Int.reduceEq,Int.reduceLT,Int.reduceLE,lenA,intOfA,hbd,endK,resA,tupA,hlen,h0,d0,d1,d2,d3,ha0,t0,z0,c1,c2,leave_same]
 | some p =>
  rw [hsh] at c1
  simp only [Option.getD_some,Option.isSome_some] at c1
  simp only [Option.isNone_some,Bool.false_and]
  simp only [f47,B0,B1,B2,List.replicate,Nat.reduceAdd,Nat.reduceSub,Nat.reduceLeDiff,Nat.reduceLT,Nat.reduceEqDiff,reduceCtorEq,Int.reduceEq,Int.reduceLT,Int.reduceLE,lenA,intOfA,hbd,endK,resA,tupA,hlen,h0,d0,d1,d2,d3,ha0,t0,z0,c1,c2,leave_same]
end Go.Abs.Seat
end
section
set_option linter.unusedVariables false
set_option linter.unusedSimpArgs false
namespace Go.Abs.Seat
open Go.Proofs
abbrev WSt := List UInt8 × Bool
def WA (n : Nat) (H : Heap) (id : Nat) (st : WSt) : Prop := HoldE (66, 3) 5 n H id [.im (.bool st.2)] st.1
def isNam : NT → Bool
 | .mk op _ _ _ _ _ => decide (op = nameW)
def showW (t : KT) : List UInt8 := if rightT t 6 = true then showT t else []
def kidsW (nd : NT → WSt → WSt) (ps : List UInt8) : Nat → List NT → WSt → WSt
 | _, [], st => st
 | i, k :: ks, st => kidsW nd ps (i + 1) ks (nd k (st.1 ++ [sepB i], st.2 || (decide (ps[i]? = some 110) && !isNam k)))
def partsW (ps : List UInt8) (n : Nat) : List UInt8 := if ps = [43] then List.replicate (min (max 1 n) 64) 101 else ps
def callW (nd : NT → WSt → WSt) (op ps : List UInt8) (t : NT) (kids : List NT) (st : WSt) : WSt :=
 if (!decide (kids.length = (partsW ps kids.length).length) || !bareN t false false false true) = true then (st.1, true)
 else if 0 < kids.length then ((kidsW nd (partsW ps kids.length) 0 kids (st.1 ++ op, st.2)).1 ++ [41], (kidsW nd (partsW ps kids.length) 0 kids (st.1 ++ op, st.2)).2)
 else kidsW nd (partsW ps kids.length) 0 kids (st.1 ++ op, st.2)
def sideW : List UInt8 := [115, 105, 100, 101, 40]
def nodeW : Nat → NT → WSt → WSt
 | 0, _, st => (st.1, true)
 | d + 1, .mk op i txt ty s kids, st =>
  if (st.2 || decide (4096 < st.1.length)) = true then (st.1, true)
  else if op = intW then (st.1 ++ itoaN i, !bareN (.mk op i txt ty s kids) true false false false)
  else if op = textW then (if (!bareN (.mk op i txt ty s kids) false true false false || decide (256 < txt.length)) = true then (st.1, true) else (st.1 ++ quoteB txt, false))
  else if op = nameW then (st.1 ++ txt, !bareN (.mk op i txt ty s kids) false true false false || !nameOk txt)
  else match shapeT op with
   | none => (st.1, true)
   | some ps =>
    if ps = [100] then (st.1 ++ ((sideW ++ itoaN i) ++ [41]), (!bareN (.mk op i txt ty s kids) true false false false || decide (i < 0)) || decide (9 < i))
    else if ps = [116] then (st.1 ++ (((op ++ [40]) ++ showW ty) ++ [41]), !bareN (.mk op i txt ty s kids) false false true false || !decide (checkT ty = 0))
    else callW (nodeW d) op ps (.mk op i txt ty s kids) kids st
theorem digN_len : ∀ f u, (digN f u).length ≤ f
 | 0, u => Nat.le_refl _
 | f + 1, u => by
  unfold digN
  split
  ·simp
  ·have := digN_len f (u / 10)
   simp only [List.length_append,List.length_cons,List.length_nil]
   omega
theorem itoaN_len (n : Int) : (itoaN n).length ≤ 21 := by
 unfold itoaN
 split
 ·have := digN_len 20 n.natAbs; simp only [List.length_cons]; omega
 ·have := digN_len 20 n.toNat; omega
theorem showW_len (t : KT) : (showW t).length ≤ 409600 := by
 unfold showW
 split
 ·rename_i h
  have := show_len t 6 h
  omega
 ·simp
theorem wa_more {n : Nat} {H : Heap} {id : Nat} {st : WSt} (h : WA n H id st) (M : Heap) : WA n (H ++ M) id st := HoldE.more h M
theorem wa_get {n : Nat} {H : Heap} {id : Nat} {st : WSt} (h : WA n H id st) : ∃ a0 v, H[id]? = some (.obj (some (66, 3)) [[a0, v, .im (.bool st.2)]]) ∧ lenA v = some st.1.length ∧
  ∀ b, WA n (H.set id (.obj (some (66, 3)) [[a0, v, .im (.bool b)]])) id (st.1, b) := by
 obtain ⟨a0, v, h1, h2, h3, h4⟩ := h
 have hlt := (List.getElem?_eq_some_iff.1 h1).1
 refine ⟨a0, v, h1, ?_, fun b => ⟨a0, v, by rw [List.getElem?_set_self hlt], h2, h3.set_obj h1 _, by simpa using h4⟩⟩
 rcases h3 with ⟨he, rfl⟩ | ⟨_, tok, _, rfl, _⟩
 ·have : st.1 = [] := by simpa using he
  rw [this]; rfl
 ·simp [lenA]
theorem wa_lt {n : Nat} {H : Heap} {id : Nat} {st : WSt} (h : WA n H id st) : id < H.length := by
 obtain ⟨a0, v, h1, _⟩ := h
 exact (List.getElem?_eq_some_iff.1 h1).1
theorem okw : Tryd.okB (66, 3) = true := by decide
theorem wa_leave {n : Nat} {H H2 : Heap} {id : Nat} {st st2 : WSt} (h : WA n H id st) (h2 : WA n H2 id st2) (hk : Keeps n id H H2) :
  ∃ H', leave H false (.tup []) H2 = (.tup [], H') ∧ WA n H' id st2 ∧ Keeps n id H H' := leave_holdE (r := .tup []) (r' := .tup []) rfl h h2 hk
theorem s45 (i : Int) (h : -9223372036854775808 ≤ i ∧ i ≤ 9223372036854775807) (H : Heap) : L 45 [.im (.int .i64 i)] H = some (.im (.str (itoaN i)), H) := by
 have hF : F 45 = none := by kernel_rfl
 have : L 45 [.im (.int .i64 i)] H = bld 45 [.im (.int .i64 i)] H := lim_none hF _ _
 rw [this]
 show itoaO 45 _ 45 [.im (.int .i64 i)] H = _
 unfold itoaO
 rw [if_pos rfl]
 simp only [if_pos h]
abbrev nOf (op txt : List UInt8) (i k : Int) (sa s : Nat) (args : List KT) (kids : List NT) : HO := .obj none [[.im (.str op), .im (.int .i64 i), .im (.str txt), .im (.int .i64 k), .im (.sl sa (encTs args)), .im (.sl s (encNs kids))]]
section
variable {n : Nat} {H : Heap} {id : Nat} {st : WSt} (hw : WA n H id st) (op txt : List UInt8) (i k : Int) (sa s : Nat) (args : List KT) (kids : List NT) (d : Nat)
include hw
def Wrote (n : Nat) (H : Heap) (id : Nat) (t : NT) (d : Nat) (r : WSt) : Prop :=
 ∃ H2, WA n H2 id r ∧ Keeps n id H H2 ∧ L 24 [.ptr id 0 0, .im (.agg (encN t)), .im (.int .i64 (d : Int))] H = some (leave H false (.tup []) H2)
theorem s24_bad (hb : st.2 = true) : Wrote n H id (.mk op i txt (.mk k sa args) s kids) d (st.1, true) := by
 have hidlt := wa_lt hw
 have hw1 := wa_more hw [nOf op txt i k sa s args kids]
 obtain ⟨a0, v, hid, hlv, hset⟩ := wa_get hw1
 have hbx : (H ++ [nOf op txt i k sa s args kids])[H.length]? = some (nOf op txt i k sa s args kids) := by simp
 have hk1 : Keeps n id H (H ++ [nOf op txt i k sa s args kids]) := (Keeps.refl n id H).app _
 have c33 := fun H => s33 op H
 have hidlt1 : id < (H ++ [nOf op txt i k sa s args kids]).length := by simp only [List.length_append]; omega
 have hb := hb
 rw [hb] at hid
 unfold Wrote
 simp only [encN]
 rw [leq F24]
 obtain ⟨hlen, ha⟩ := enter_at (f := f24) (args := [.ptr id 0 0, .im (.agg [.str op, .int .i64 i, .str txt, .int .i64 k, .sl sa (encTs args), .sl s (encNs kids)]), .im (.int .i64 (d : Nat))]) (Nat.le_of_ble_eq_true rfl)
 have h0 := ha 0 _ rfl
 have h1 := ha 1 _ rfl
 have h2 := ha 2 _ rfl
 generalize enterA f24 [.ptr id 0 0, .im (.agg [.str op, .int .i64 i, .str txt, .int .i64 k, .sl sa (encTs args), .sl s (encNs kids)]), .im (.int .i64 (d : Nat))] = tm at *
 change tm.length = 167 at hlen
 clear ha
 simp only [nOf] at *
 simp only [f24,B0,B1,B2,List.replicate,Nat.reduceAdd,Nat.reduceSub,Nat.reduceLeDiff,Nat.reduceLT,Nat.reduceEqDiff,reduceCtorEq,Int.reduceEq,Int.reduceLT,Int.reduceLE,endK,resA,tupA,hlen,h0,h1,h2,hid,hbx,c33,hb]
 exact ⟨_, hset true, hk1.set _, rfl⟩
theorem s24_zero (hb : st.2 = false) : Wrote n H id (.mk op i txt (.mk k sa args) s kids) 0 (st.1, true) := by
 have hidlt := wa_lt hw
 have hw1 := wa_more hw [nOf op txt i k sa s args kids]
 obtain ⟨a0, v, hid, hlv, hset⟩ := wa_get hw1
 have hbx : (H ++ [nOf op txt i k sa s args kids])[H.length]? = some (nOf op txt i k sa s args kids) := by simp
 have hk1 : Keeps n id H (H ++ [nOf op txt i k sa s args kids]) := (Keeps.refl n id H).app _
 have c33 := fun H => s33 op H
 have hidlt1 : id < (H ++ [nOf op txt i k sa s args kids]).length := by simp only [List.length_append]; omega
 rw [hb] at hid
 have z0 : ((0 : Nat) : Int) = 0 := rfl
 unfold Wrote
 simp only [encN]
 rw [leq F24]
 obtain ⟨hlen, ha⟩ := enter_at (f := f24) (args := [.ptr id 0 0, .im (.agg [.str op, .int .i64 i, .str txt, .int .i64 k, .sl sa (encTs args), .sl s (encNs kids)]), .im (.int .i64 (0 : Nat))]) (Nat.le_of_ble_eq_true rfl)
 have h0 := ha 0 _ rfl
 have h1 := ha 1 _ rfl
 have h2 := ha 2 _ rfl
 generalize enterA f24 [.ptr id 0 0, .im (.agg [.str op, .int .i64 i, .str txt, .int .i64 k, .sl sa (encTs args), .sl s (encNs kids)]), .im (.int .i64 (0 : Nat))] = tm at *
 change tm.length = 167 at hlen
 clear ha
 simp only [nOf] at *
 simp only [f24,B0,B1,B2,List.replicate,Nat.reduceAdd,Nat.reduceSub,Nat.reduceLeDiff,Nat.reduceLT,Nat.reduceEqDiff,reduceCtorEq,Int.reduceEq,Int.reduceLT,Int.reduceLE,endK,resA,tupA,hlen,h0,h1,h2,hid,hbx,c33,z0]
 exact ⟨_, hset true, hk1.set _, rfl⟩
theorem s24_long (hb : st.2 = false) (hl : 4096 < st.1.length) : Wrote n H id (.mk op i txt (.mk k sa args) s kids) (d + 1) (st.1, true) := by
 have hidlt := wa_lt hw
 have hw1 := wa_more hw [nOf op txt i k sa s args kids]
 obtain ⟨a0, v, hid, hlv, hset⟩ := wa_get hw1
 have hbx : (H ++ [nOf op txt i k sa s args kids])[H.length]? = some (nOf op txt i k sa s args kids) := by simp
 have hk1 : Keeps n id H (H ++ [nOf op txt i k sa s args kids]) := (Keeps.refl n id H).app _
 have c33 := fun H => s33 op H
 have hidlt1 : id < (H ++ [nOf op txt i k sa s args kids]).length := by simp only [List.length_append]; omega
 rw [hb] at hid
 have d0 : decide (((d + 1 : Nat) : Int) = 0) = false := decide_eq_false (by omega)
 have d1 : decide ((4096 : Int) < (st.1.length : Int)) = true := decide_eq_true (by omega)
 have c25 := s25 hw1
 unfold Wrote
 simp only [encN]
 rw [leq F24]
 obtain ⟨hlen, ha⟩ := enter_at (f := f24) (args := [.ptr id 0 0, .im (.agg [.str op, .int .i64 i, .str txt, .int .i64 k, .sl sa (encTs args), .sl s (encNs kids)]), .im (.int .i64 ((d + 1) : Nat))]) (Nat.le_of_ble_eq_true rfl)
 have h0 := ha 0 _ rfl
 have h1 := ha 1 _ rfl
 have h2 := ha 2 _ rfl
 generalize enterA f24 [.ptr id 0 0, .im (.agg [.str op, .int .i64 i, .str txt, .int .i64 k, .sl sa (encTs args), .sl s (encNs kids)]), .im (.int .i64 ((d + 1) : Nat))] = tm at *
 change tm.length = 167 at hlen
 clear ha
 simp only [nOf] at *
 simp only [f24,B0,B1,B2,List.replicate,Nat.reduceAdd,Nat.reduceSub,Nat.reduceLeDiff,Nat.reduceLT,Nat.reduceEqDiff,reduceCtorEq,Int.reduceEq,Int.reduceLT,Int.reduceLE,endK,resA,tupA,hlen,h0,h1,h2,hid,hbx,c33,d0,d1,c25]
 exact ⟨_, hset true, hk1.set _, rfl⟩
theorem s24_int (hb : st.2 = false) (hl : ¬ 4096 < st.1.length) (hop : op = intW) (h64 : -9223372036854775808 ≤ i ∧ i ≤ 9223372036854775807) : Wrote n H id (.mk op i txt (.mk k sa args) s kids) (d + 1) (st.1 ++ itoaN i, !bareN (.mk op i txt (.mk k sa args) s kids) true false false false) := by
 have hidlt := wa_lt hw
 have hw1 := wa_more hw [nOf op txt i k sa s args kids]
 obtain ⟨a0, v, hid, hlv, hset⟩ := wa_get hw1
 have hbx : (H ++ [nOf op txt i k sa s args kids])[H.length]? = some (nOf op txt i k sa s args kids) := by simp
 have hk1 : Keeps n id H (H ++ [nOf op txt i k sa s args kids]) := (Keeps.refl n id H).app _
 have c33 := fun H => s33 op H
 have hidlt1 : id < (H ++ [nOf op txt i k sa s args kids]).length := by simp only [List.length_append]; omega
 rw [hb] at hid
 have d0 : decide (((d + 1 : Nat) : Int) = 0) = false := decide_eq_false (by omega)
 have d1 : decide ((4096 : Int) < (st.1.length : Int)) = false := decide_eq_false (by omega)
 have c25 := s25 hw1
 have c43 := fun H => s43 op txt i k sa s args kids H
 simp only [encN] at c43
 have hbx2 : ∀ x, ((H ++ [nOf op txt i k sa s args kids]).set id x)[H.length]? = some (nOf op txt i k sa s args kids) := fun x => by rw [List.getElem?_set_ne (by omega)]; exact hbx
 have e1 : decide (op = [105, 110, 116]) = true := decide_eq_true hop
 have c43 := fun H => c43 H true false false false (.inl rfl)
 have c45 := fun H => s45 i h64 H
 generalize bareN (.mk op i txt (.mk k sa args) s kids) true false false false = bb at *
 obtain ⟨H2, c44, hH2, hK2⟩ := s44 okw (hset (!bb)) (itoaN i) (by have := itoaN_len i; simp only; omega)
 unfold Wrote
 simp only [encN]
 rw [leq F24]
 obtain ⟨hlen, ha⟩ := enter_at (f := f24) (args := [.ptr id 0 0, .im (.agg [.str op, .int .i64 i, .str txt, .int .i64 k, .sl sa (encTs args), .sl s (encNs kids)]), .im (.int .i64 ((d + 1) : Nat))]) (Nat.le_of_ble_eq_true rfl)
 have h0 := ha 0 _ rfl
 have h1 := ha 1 _ rfl
 have h2 := ha 2 _ rfl
 generalize enterA f24 [.ptr id 0 0, .im (.agg [.str op, .int .i64 i, .str txt, .int .i64 k, .sl sa (encTs args), .sl s (encNs kids)]), .im (.int .i64 ((d + 1) : Nat))] = tm at *
 change tm.length = 167 at hlen
 clear ha
 simp only [nOf] at *
 simp only [f24,B0,B1,B2,List.replicate,Nat.reduceAdd,Nat.reduceSub,Nat.reduceLeDiff,Nat.reduceLT,Nat.reduceEqDiff,reduceCtorEq,Int.reduceEq,Int.reduceLT,Int.reduceLE,endK,resA,tupA,hlen,h0,h1,h2,hid,hbx,c33,d0,d1,c25,e1,c43,c45,hbx2,c44]
 exact ⟨H2, hH2, (hk1.set _).trans hK2, rfl⟩
theorem s24_text1 (hb : st.2 = false) (hl : ¬ 4096 < st.1.length) (hop : op = textW) (hbare : bareN (.mk op i txt (.mk k sa args) s kids) false true false false = false) : Wrote n H id (.mk op i txt (.mk k sa args) s kids) (d + 1) (st.1, true) := by
 have hidlt := wa_lt hw
 have hw1 := wa_more hw [nOf op txt i k sa s args kids]
 obtain ⟨a0, v, hid, hlv, hset⟩ := wa_get hw1
 have hbx : (H ++ [nOf op txt i k sa s args kids])[H.length]? = some (nOf op txt i k sa s args kids) := by simp
 have hk1 : Keeps n id H (H ++ [nOf op txt i k sa s args kids]) := (Keeps.refl n id H).app _
 have c33 := fun H => s33 op H
 have hidlt1 : id < (H ++ [nOf op txt i k sa s args kids]).length := by simp only [List.length_append]; omega
 rw [hb] at hid
 have d0 : decide (((d + 1 : Nat) : Int) = 0) = false := decide_eq_false (by omega)
 have d1 : decide ((4096 : Int) < (st.1.length : Int)) = false := decide_eq_false (by omega)
 have c25 := s25 hw1
 have c43 := fun H => s43 op txt i k sa s args kids H
 simp only [encN] at c43
 have hbx2 : ∀ x, ((H ++ [nOf op txt i k sa s args kids]).set id x)[H.length]? = some (nOf op txt i k sa s args kids) := fun x => by rw [List.getElem?_set_ne (by omega)]; exact hbx
 have e1 : decide (op = [105, 110, 116]) = false := decide_eq_false (by rw [hop]; decide)
 have e2 : decide (op = [116, 101, 120, 116, 95, 111, 102]) = true := decide_eq_true hop
 have c43 := fun H => c43 H false true false false (.inr (.inl rfl))
 rw [hbare] at c43
 unfold Wrote
 simp only [encN]
 rw [leq F24]
 obtain ⟨hlen, ha⟩ := enter_at (f := f24) (args := [.ptr id 0 0, .im (.agg [.str op, .int .i64 i, .str txt, .int .i64 k, .sl sa (encTs args), .sl s (encNs kids)]), .im (.int .i64 ((d + 1) : Nat))]) (Nat.le_of_ble_eq_true rfl)
 have h0 := ha 0 _ rfl
 have h1 := ha 1 _ rfl
 have h2 := ha 2 _ rfl
 generalize enterA f24 [.ptr id 0 0, .im (.agg [.str op, .int .i64 i, .str txt, .int .i64 k, .sl sa (encTs args), .sl s (encNs kids)]), .im (.int .i64 ((d + 1) : Nat))] = tm at *
 change tm.length = 167 at hlen
 clear ha
 simp only [nOf] at *
 simp only [f24,B0,B1,B2,List.replicate,Nat.reduceAdd,Nat.reduceSub,Nat.reduceLeDiff,Nat.reduceLT,Nat.reduceEqDiff,reduceCtorEq,Int.reduceEq,Int.reduceLT,Int.reduceLE,endK,resA,tupA,hlen,h0,h1,h2,hid,hbx,c33,d0,d1,c25,e1,e2,c43,hbx2,List.set_set,List.getElem?_set_self hidlt1]
 exact ⟨_, hset true, hk1.set _, rfl⟩
theorem s24_text2 (hb : st.2 = false) (hl : ¬ 4096 < st.1.length) (hop : op = textW) (hbare : bareN (.mk op i txt (.mk k sa args) s kids) false true false false = true) (hlen2 : 256 < txt.length) : Wrote n H id (.mk op i txt (.mk k sa args) s kids) (d + 1) (st.1, true) := by
 have hidlt := wa_lt hw
 have hw1 := wa_more hw [nOf op txt i k sa s args kids]
 obtain ⟨a0, v, hid, hlv, hset⟩ := wa_get hw1
 have hbx : (H ++ [nOf op txt i k sa s args kids])[H.length]? = some (nOf op txt i k sa s args kids) := by simp
 have hk1 : Keeps n id H (H ++ [nOf op txt i k sa s args kids]) := (Keeps.refl n id H).app _
 have c33 := fun H => s33 op H
 have hidlt1 : id < (H ++ [nOf op txt i k sa s args kids]).length := by simp only [List.length_append]; omega
 rw [hb] at hid
 have d0 : decide (((d + 1 : Nat) : Int) = 0) = false := decide_eq_false (by omega)
 have d1 : decide ((4096 : Int) < (st.1.length : Int)) = false := decide_eq_false (by omega)
 have c25 := s25 hw1
 have c43 := fun H => s43 op txt i k sa s args kids H
 simp only [encN] at c43
 have hbx2 : ∀ x, ((H ++ [nOf op txt i k sa s args kids]).set id x)[H.length]? = some (nOf op txt i k sa s args kids) := fun x => by rw [List.getElem?_set_ne (by omega)]; exact hbx
 have e1 : decide (op = [105, 110, 116]) = false := decide_eq_false (by rw [hop]; decide)
 have e2 : decide (op = [116, 101, 120, 116, 95, 111, 102]) = true := decide_eq_true hop
 have c43 := fun H => c43 H false true false false (.inr (.inl rfl))
 rw [hbare] at c43
 have e3 : decide ((256 : Int) < (txt.length : Int)) = true := decide_eq_true (by omega)
 unfold Wrote
 simp only [encN]
 rw [leq F24]
 obtain ⟨hlen, ha⟩ := enter_at (f := f24) (args := [.ptr id 0 0, .im (.agg [.str op, .int .i64 i, .str txt, .int .i64 k, .sl sa (encTs args), .sl s (encNs kids)]), .im (.int .i64 ((d + 1) : Nat))]) (Nat.le_of_ble_eq_true rfl)
 have h0 := ha 0 _ rfl
 have h1 := ha 1 _ rfl
 have h2 := ha 2 _ rfl
 generalize enterA f24 [.ptr id 0 0, .im (.agg [.str op, .int .i64 i, .str txt, .int .i64 k, .sl sa (encTs args), .sl s (encNs kids)]), .im (.int .i64 ((d + 1) : Nat))] = tm at *
 change tm.length = 167 at hlen
 clear ha
 simp only [nOf] at *
 simp only [f24,B0,B1,B2,List.replicate,Nat.reduceAdd,Nat.reduceSub,Nat.reduceLeDiff,Nat.reduceLT,Nat.reduceEqDiff,reduceCtorEq,Int.reduceEq,Int.reduceLT,Int.reduceLE,endK,resA,tupA,hlen,h0,h1,h2,hid,hbx,c33,d0,d1,c25,e1,e2,e3,c43,hbx2,List.set_set,List.getElem?_set_self hidlt1]
 exact ⟨_, hset true, hk1.set _, rfl⟩
theorem s24_text3 (hb : st.2 = false) (hl : ¬ 4096 < st.1.length) (hop : op = textW) (hbare : bareN (.mk op i txt (.mk k sa args) s kids) false true false false = true) (hlen2 : ¬ 256 < txt.length) : Wrote n H id (.mk op i txt (.mk k sa args) s kids) (d + 1) (st.1 ++ quoteB txt, false) := by
 have hidlt := wa_lt hw
 have hw1 := wa_more hw [nOf op txt i k sa s args kids]
 obtain ⟨a0, v, hid, hlv, hset⟩ := wa_get hw1
 have hbx : (H ++ [nOf op txt i k sa s args kids])[H.length]? = some (nOf op txt i k sa s args kids) := by simp
 have hk1 : Keeps n id H (H ++ [nOf op txt i k sa s args kids]) := (Keeps.refl n id H).app _
 have c33 := fun H => s33 op H
 have hidlt1 : id < (H ++ [nOf op txt i k sa s args kids]).length := by simp only [List.length_append]; omega
 rw [hb] at hid
 have d0 : decide (((d + 1 : Nat) : Int) = 0) = false := decide_eq_false (by omega)
 have d1 : decide ((4096 : Int) < (st.1.length : Int)) = false := decide_eq_false (by omega)
 have c25 := s25 hw1
 have c43 := fun H => s43 op txt i k sa s args kids H
 simp only [encN] at c43
 have hbx2 : ∀ x, ((H ++ [nOf op txt i k sa s args kids]).set id x)[H.length]? = some (nOf op txt i k sa s args kids) := fun x => by rw [List.getElem?_set_ne (by omega)]; exact hbx
 have e1 : decide (op = [105, 110, 116]) = false := decide_eq_false (by rw [hop]; decide)
 have e2 : decide (op = [116, 101, 120, 116, 95, 111, 102]) = true := decide_eq_true hop
 have c43 := fun H => c43 H false true false false (.inr (.inl rfl))
 rw [hbare] at c43
 have e3 : decide ((256 : Int) < (txt.length : Int)) = false := decide_eq_false (by omega)
 obtain ⟨H2, c46, hH2, hK2⟩ := s46 okw (hset false) txt (by omega) (by simp only; omega)
 unfold Wrote
 simp only [encN]
 rw [leq F24]
 obtain ⟨hlen, ha⟩ := enter_at (f := f24) (args := [.ptr id 0 0, .im (.agg [.str op, .int .i64 i, .str txt, .int .i64 k, .sl sa (encTs args), .sl s (encNs kids)]), .im (.int .i64 ((d + 1) : Nat))]) (Nat.le_of_ble_eq_true rfl)
 have h0 := ha 0 _ rfl
 have h1 := ha 1 _ rfl
 have h2 := ha 2 _ rfl
 generalize enterA f24 [.ptr id 0 0, .im (.agg [.str op, .int .i64 i, .str txt, .int .i64 k, .sl sa (encTs args), .sl s (encNs kids)]), .im (.int .i64 ((d + 1) : Nat))] = tm at *
 change tm.length = 167 at hlen
 clear ha
 simp only [nOf] at *
 simp only [f24,B0,B1,B2,List.replicate,Nat.reduceAdd,Nat.reduceSub,Nat.reduceLeDiff,Nat.reduceLT,Nat.reduceEqDiff,reduceCtorEq,Int.reduceEq,Int.reduceLT,Int.reduceLE,endK,resA,tupA,hlen,h0,h1,h2,hid,hbx,c33,d0,d1,c25,e1,e2,e3,c43,hbx2,List.set_set,List.getElem?_set_self hidlt1,c46]
 exact ⟨H2, hH2, (hk1.set _).trans hK2, rfl⟩
theorem s24_name1 (hb : st.2 = false) (hl : ¬ 4096 < st.1.length) (hop : op = nameW) (hbare : bareN (.mk op i txt (.mk k sa args) s kids) false true false false = false) (htl : txt.length ≤ 1000000) : Wrote n H id (.mk op i txt (.mk k sa args) s kids) (d + 1) (st.1 ++ txt, true) := by
 have hidlt := wa_lt hw
 have hw1 := wa_more hw [nOf op txt i k sa s args kids]
 obtain ⟨a0, v, hid, hlv, hset⟩ := wa_get hw1
 have hbx : (H ++ [nOf op txt i k sa s args kids])[H.length]? = some (nOf op txt i k sa s args kids) := by simp
 have hk1 : Keeps n id H (H ++ [nOf op txt i k sa s args kids]) := (Keeps.refl n id H).app _
 have c33 := fun H => s33 op H
 have hidlt1 : id < (H ++ [nOf op txt i k sa s args kids]).length := by simp only [List.length_append]; omega
 rw [hb] at hid
 have d0 : decide (((d + 1 : Nat) : Int) = 0) = false := decide_eq_false (by omega)
 have d1 : decide ((4096 : Int) < (st.1.length : Int)) = false := decide_eq_false (by omega)
 have c25 := s25 hw1
 have c43 := fun H => s43 op txt i k sa s args kids H
 simp only [encN] at c43
 have hbx2 : ∀ x, ((H ++ [nOf op txt i k sa s args kids]).set id x)[H.length]? = some (nOf op txt i k sa s args kids) := fun x => by rw [List.getElem?_set_ne (by omega)]; exact hbx
 have e1 : decide (op = [105, 110, 116]) = false := decide_eq_false (by rw [hop]; decide)
 have e2 : decide (op = [116, 101, 120, 116, 95, 111, 102]) = false := decide_eq_false (by rw [hop]; decide)
 have e3 : decide (op = [110, 97, 109, 101]) = true := decide_eq_true hop
 have c43 := fun H => c43 H false true false false (.inr (.inl rfl))
 have c47 := fun H => s47g txt (by omega) H
 rw [hbare] at c43
 obtain ⟨H2, c44, hH2, hK2⟩ := s44 okw (hset true) txt (by simp only; omega)
 unfold Wrote
 simp only [encN]
 rw [leq F24]
 obtain ⟨hlen, ha⟩ := enter_at (f := f24) (args := [.ptr id 0 0, .im (.agg [.str op, .int .i64 i, .str txt, .int .i64 k, .sl sa (encTs args), .sl s (encNs kids)]), .im (.int .i64 ((d + 1) : Nat))]) (Nat.le_of_ble_eq_true rfl)
 have h0 := ha 0 _ rfl
 have h1 := ha 1 _ rfl
 have h2 := ha 2 _ rfl
 generalize enterA f24 [.ptr id 0 0, .im (.agg [.str op, .int .i64 i, .str txt, .int .i64 k, .sl sa (encTs args), .sl s (encNs kids)]), .im (.int .i64 ((d + 1) : Nat))] = tm at *
 change tm.length = 167 at hlen
 clear ha
 simp only [nOf] at *
 simp only [f24,B0,B1,B2,List.replicate,Nat.reduceAdd,Nat.reduceSub,Nat.reduceLeDiff,Nat.reduceLT,Nat.reduceEqDiff,reduceCtorEq,Int.reduceEq,Int.reduceLT,Int.reduceLE,endK,resA,tupA,hlen,h0,h1,h2,hid,hbx,c33,d0,d1,c25,e1,e2,e3,c43,c47,hbx2,c44]
 exact ⟨H2, hH2, (hk1.set _).trans hK2, rfl⟩
theorem s24_name2 (hb : st.2 = false) (hl : ¬ 4096 < st.1.length) (hop : op = nameW) (hbare : bareN (.mk op i txt (.mk k sa args) s kids) false true false false = true) (htl : txt.length ≤ 1000000) : Wrote n H id (.mk op i txt (.mk k sa args) s kids) (d + 1) (st.1 ++ txt, !nameOk txt) := by
 have hidlt := wa_lt hw
 have hw1 := wa_more hw [nOf op txt i k sa s args kids]
 obtain ⟨a0, v, hid, hlv, hset⟩ := wa_get hw1
 have hbx : (H ++ [nOf op txt i k sa s args kids])[H.length]? = some (nOf op txt i k sa s args kids) := by simp
 have hk1 : Keeps n id H (H ++ [nOf op txt i k sa s args kids]) := (Keeps.refl n id H).app _
 have c33 := fun H => s33 op H
 have hidlt1 : id < (H ++ [nOf op txt i k sa s args kids]).length := by simp only [List.length_append]; omega
 rw [hb] at hid
 have d0 : decide (((d + 1 : Nat) : Int) = 0) = false := decide_eq_false (by omega)
 have d1 : decide ((4096 : Int) < (st.1.length : Int)) = false := decide_eq_false (by omega)
 have c25 := s25 hw1
 have c43 := fun H => s43 op txt i k sa s args kids H
 simp only [encN] at c43
 have hbx2 : ∀ x, ((H ++ [nOf op txt i k sa s args kids]).set id x)[H.length]? = some (nOf op txt i k sa s args kids) := fun x => by rw [List.getElem?_set_ne (by omega)]; exact hbx
 have e1 : decide (op = [105, 110, 116]) = false := decide_eq_false (by rw [hop]; decide)
 have e2 : decide (op = [116, 101, 120, 116, 95, 111, 102]) = false := decide_eq_false (by rw [hop]; decide)
 have e3 : decide (op = [110, 97, 109, 101]) = true := decide_eq_true hop
 have c43 := fun H => c43 H false true false false (.inr (.inl rfl))
 have c47 := fun H => s47g txt (by omega) H
 rw [hbare] at c43
 obtain ⟨H2, c44, hH2, hK2⟩ := s44 okw (hset (!nameOk txt)) txt (by simp only; omega)
 unfold Wrote
 simp only [encN]
 rw [leq F24]
 obtain ⟨hlen, ha⟩ := enter_at (f := f24) (args := [.ptr id 0 0, .im (.agg [.str op, .int .i64 i, .str txt, .int .i64 k, .sl sa (encTs args), .sl s (encNs kids)]), .im (.int .i64 ((d + 1) : Nat))]) (Nat.le_of_ble_eq_true rfl)
 have h0 := ha 0 _ rfl
 have h1 := ha 1 _ rfl
 have h2 := ha 2 _ rfl
 generalize enterA f24 [.ptr id 0 0, .im (.agg [.str op, .int .i64 i, .str txt, .int .i64 k, .sl sa (encTs args), .sl s (encNs kids)]), .im (.int .i64 ((d + 1) : Nat))] = tm at *
 change tm.length = 167 at hlen
 clear ha
 simp only [nOf] at *
 simp only [f24,B0,B1,B2,List.replicate,Nat.reduceAdd,Nat.reduceSub,Nat.reduceLeDiff,Nat.reduceLT,Nat.reduceEqDiff,reduceCtorEq,Int.reduceEq,Int.reduceLT,Int.reduceLE,endK,resA,tupA,hlen,h0,h1,h2,hid,hbx,c33,d0,d1,c25,e1,e2,e3,c43,c47,hbx2,c44]
 exact ⟨H2, hH2, (hk1.set _).trans hK2, rfl⟩
theorem s24_none (hb : st.2 = false) (hl : ¬ 4096 < st.1.length) (hn1 : op ≠ intW) (hn2 : op ≠ textW) (hn3 : op ≠ nameW) (hsh : shapeT op = none) : Wrote n H id (.mk op i txt (.mk k sa args) s kids) (d + 1) (st.1, true) := by
 have hidlt := wa_lt hw
 have hw1 := wa_more hw [nOf op txt i k sa s args kids]
 obtain ⟨a0, v, hid, hlv, hset⟩ := wa_get hw1
 have hbx : (H ++ [nOf op txt i k sa s args kids])[H.length]? = some (nOf op txt i k sa s args kids) := by simp
 have hk1 : Keeps n id H (H ++ [nOf op txt i k sa s args kids]) := (Keeps.refl n id H).app _
 have c33 := fun H => s33 op H
 have hidlt1 : id < (H ++ [nOf op txt i k sa s args kids]).length := by simp only [List.length_append]; omega
 rw [hb] at hid
 have d0 : decide (((d + 1 : Nat) : Int) = 0) = false := decide_eq_false (by omega)
 have d1 : decide ((4096 : Int) < (st.1.length : Int)) = false := decide_eq_false (by omega)
 have c25 := s25 hw1
 have c43 := fun H => s43 op txt i k sa s args kids H
 simp only [encN] at c43
 have hbx2 : ∀ x, ((H ++ [nOf op txt i k sa s args kids]).set id x)[H.length]? = some (nOf op txt i k sa s args kids) := fun x => by rw [List.getElem?_set_ne (by omega)]; exact hbx
 have e1 : decide (op = [105, 110, 116]) = false := decide_eq_false hn1
 have e2 : decide (op = [116, 101, 120, 116, 95, 111, 102]) = false := decide_eq_false hn2
 have e3 : decide (op = [110, 97, 109, 101]) = false := decide_eq_false hn3
 rw [hsh] at c33
 simp only [Option.getD_none,Option.isSome_none] at c33
 unfold Wrote
 simp only [encN]
 rw [leq F24]
 obtain ⟨hlen, ha⟩ := enter_at (f := f24) (args := [.ptr id 0 0, .im (.agg [.str op, .int .i64 i, .str txt, .int .i64 k, .sl sa (encTs args), .sl s (encNs kids)]), .im (.int .i64 ((d + 1) : Nat))]) (Nat.le_of_ble_eq_true rfl)
 have h0 := ha 0 _ rfl
 have h1 := ha 1 _ rfl
 have h2 := ha 2 _ rfl
 generalize enterA f24 [.ptr id 0 0, .im (.agg [.str op, .int .i64 i, .str txt, .int .i64 k, .sl sa (encTs args), .sl s (encNs kids)]), .im (.int .i64 ((d + 1) : Nat))] = tm at *
 change tm.length = 167 at hlen
 clear ha
 simp only [nOf] at *
 simp only [f24,B0,B1,B2,List.replicate,Nat.reduceAdd,Nat.reduceSub,Nat.reduceLeDiff,Nat.reduceLT,Nat.reduceEqDiff,reduceCtorEq,Int.reduceEq,Int.reduceLT,Int.reduceLE,endK,resA,tupA,hlen,h0,h1,h2,hid,hbx,c33,d0,d1,c25,e1,e2,e3]
 exact ⟨_, hset true, hk1.set _, rfl⟩
theorem s24_d1 (hb : st.2 = false) (hl : ¬ 4096 < st.1.length) (hn1 : op ≠ intW) (hn2 : op ≠ textW) (hn3 : op ≠ nameW) (hsh : shapeT op = some [100]) (h64 : -9223372036854775808 ≤ i ∧ i ≤ 9223372036854775807) (hbare : bareN (.mk op i txt (.mk k sa args) s kids) true false false false = false) : Wrote n H id (.mk op i txt (.mk k sa args) s kids) (d + 1) (st.1 ++ ((sideW ++ itoaN i) ++ [41]), true) := by
 have hidlt := wa_lt hw
 have hw1 := wa_more hw [nOf op txt i k sa s args kids]
 obtain ⟨a0, v, hid, hlv, hset⟩ := wa_get hw1
 have hbx : (H ++ [nOf op txt i k sa s args kids])[H.length]? = some (nOf op txt i k sa s args kids) := by simp
 have hk1 : Keeps n id H (H ++ [nOf op txt i k sa s args kids]) := (Keeps.refl n id H).app _
 have c33 := fun H => s33 op H
 have hidlt1 : id < (H ++ [nOf op txt i k sa s args kids]).length := by simp only [List.length_append]; omega
 rw [hb] at hid
 have d0 : decide (((d + 1 : Nat) : Int) = 0) = false := decide_eq_false (by omega)
 have d1 : decide ((4096 : Int) < (st.1.length : Int)) = false := decide_eq_false (by omega)
 have c25 := s25 hw1
 have c43 := fun H => s43 op txt i k sa s args kids H
 simp only [encN] at c43
 have hbx2 : ∀ x, ((H ++ [nOf op txt i k sa s args kids]).set id x)[H.length]? = some (nOf op txt i k sa s args kids) := fun x => by rw [List.getElem?_set_ne (by omega)]; exact hbx
 have e1 : decide (op = [105, 110, 116]) = false := decide_eq_false hn1
 have e2 : decide (op = [116, 101, 120, 116, 95, 111, 102]) = false := decide_eq_false hn2
 have e3 : decide (op = [110, 97, 109, 101]) = false := decide_eq_false hn3
 rw [hsh] at c33
 simp only [Option.getD_some,Option.isSome_some] at c33
 have f1 : decide (([100] : List UInt8) = [100]) = true := rfl
 have c43 := fun H => c43 H true false false false (.inl rfl)
 have c45 := fun H => s45 i h64 H
 have hil := itoaN_len i
 have a1 := s_add (x := [115, 105, 100, 101, 40]) (y := itoaN i) (by simp only [List.length_cons,List.length_nil]; omega)
 have a2 := s_add (x := [115, 105, 100, 101, 40] ++ itoaN i) (y := [41]) (by simp only [List.length_append,List.length_cons,List.length_nil]; omega)
 simp only [List.cons_append,List.nil_append] at a1 a2
 rw [hbare] at c43
 have g1 := hb
 have g2 := hb
 obtain ⟨H2, c44, hH2, hK2⟩ := s44 okw (hset true) ((sideW ++ itoaN i) ++ [41]) (by simp only [sideW,List.length_append,List.length_cons,List.length_nil]; omega)
 simp only [sideW,List.cons_append,List.nil_append] at c44
 unfold Wrote
 simp only [encN]
 rw [leq F24]
 obtain ⟨hlen, ha⟩ := enter_at (f := f24) (args := [.ptr id 0 0, .im (.agg [.str op, .int .i64 i, .str txt, .int .i64 k, .sl sa (encTs args), .sl s (encNs kids)]), .im (.int .i64 ((d + 1) : Nat))]) (Nat.le_of_ble_eq_true rfl)
 have h0 := ha 0 _ rfl
 have h1 := ha 1 _ rfl
 have h2 := ha 2 _ rfl
 generalize enterA f24 [.ptr id 0 0, .im (.agg [.str op, .int .i64 i, .str txt, .int .i64 k, .sl sa (encTs args), .sl s (encNs kids)]), .im (.int .i64 ((d + 1) : Nat))] = tm at *
 change tm.length = 167 at hlen
 clear ha
 simp only [nOf] at *
 simp only [f24,B0,B1,B2,List.replicate,Nat.reduceAdd,Nat.reduceSub,Nat.reduceLeDiff,Nat.reduceLT,Nat.reduceEqDiff,reduceCtorEq,Int.reduceEq,Int.reduceLT,Int.reduceLE,endK,resA,tupA,hlen,h0,h1,h2,hid,hbx,c33,d0,d1,c25,e1,e2,e3,f1,c43,c45,a1,a2,g1,g2,hbx2,c44]
 exact ⟨H2, hH2, (hk1.set _).trans hK2, rfl⟩
theorem s24_d2 (hb : st.2 = false) (hl : ¬ 4096 < st.1.length) (hn1 : op ≠ intW) (hn2 : op ≠ textW) (hn3 : op ≠ nameW) (hsh : shapeT op = some [100]) (h64 : -9223372036854775808 ≤ i ∧ i ≤ 9223372036854775807) (hbare : bareN (.mk op i txt (.mk k sa args) s kids) true false false false = true) (hi : i < 0) : Wrote n H id (.mk op i txt (.mk k sa args) s kids) (d + 1) (st.1 ++ ((sideW ++ itoaN i) ++ [41]), true) := by
 have hidlt := wa_lt hw
 have hw1 := wa_more hw [nOf op txt i k sa s args kids]
 obtain ⟨a0, v, hid, hlv, hset⟩ := wa_get hw1
 have hbx : (H ++ [nOf op txt i k sa s args kids])[H.length]? = some (nOf op txt i k sa s args kids) := by simp
 have hk1 : Keeps n id H (H ++ [nOf op txt i k sa s args kids]) := (Keeps.refl n id H).app _
 have c33 := fun H => s33 op H
 have hidlt1 : id < (H ++ [nOf op txt i k sa s args kids]).length := by simp only [List.length_append]; omega
 rw [hb] at hid
 have d0 : decide (((d + 1 : Nat) : Int) = 0) = false := decide_eq_false (by omega)
 have d1 : decide ((4096 : Int) < (st.1.length : Int)) = false := decide_eq_false (by omega)
 have c25 := s25 hw1
 have c43 := fun H => s43 op txt i k sa s args kids H
 simp only [encN] at c43
 have hbx2 : ∀ x, ((H ++ [nOf op txt i k sa s args kids]).set id x)[H.length]? = some (nOf op txt i k sa s args kids) := fun x => by rw [List.getElem?_set_ne (by omega)]; exact hbx
 have e1 : decide (op = [105, 110, 116]) = false := decide_eq_false hn1
 have e2 : decide (op = [116, 101, 120, 116, 95, 111, 102]) = false := decide_eq_false hn2
 have e3 : decide (op = [110, 97, 109, 101]) = false := decide_eq_false hn3
 rw [hsh] at c33
 simp only [Option.getD_some,Option.isSome_some] at c33
 have f1 : decide (([100] : List UInt8) = [100]) = true := rfl
 have c43 := fun H => c43 H true false false false (.inl rfl)
 have c45 := fun H => s45 i h64 H
 have hil := itoaN_len i
 have a1 := s_add (x := [115, 105, 100, 101, 40]) (y := itoaN i) (by simp only [List.length_cons,List.length_nil]; omega)
 have a2 := s_add (x := [115, 105, 100, 101, 40] ++ itoaN i) (y := [41]) (by simp only [List.length_append,List.length_cons,List.length_nil]; omega)
 simp only [List.cons_append,List.nil_append] at a1 a2
 rw [hbare] at c43
 have g1 : decide (i < 0) = true := decide_eq_true hi
 have g2 := hb
 obtain ⟨H2, c44, hH2, hK2⟩ := s44 okw (hset true) ((sideW ++ itoaN i) ++ [41]) (by simp only [sideW,List.length_append,List.length_cons,List.length_nil]; omega)
 simp only [sideW,List.cons_append,List.nil_append] at c44
 unfold Wrote
 simp only [encN]
 rw [leq F24]
 obtain ⟨hlen, ha⟩ := enter_at (f := f24) (args := [.ptr id 0 0, .im (.agg [.str op, .int .i64 i, .str txt, .int .i64 k, .sl sa (encTs args), .sl s (encNs kids)]), .im (.int .i64 ((d + 1) : Nat))]) (Nat.le_of_ble_eq_true rfl)
 have h0 := ha 0 _ rfl
 have h1 := ha 1 _ rfl
 have h2 := ha 2 _ rfl
 generalize enterA f24 [.ptr id 0 0, .im (.agg [.str op, .int .i64 i, .str txt, .int .i64 k, .sl sa (encTs args), .sl s (encNs kids)]), .im (.int .i64 ((d + 1) : Nat))] = tm at *
 change tm.length = 167 at hlen
 clear ha
 simp only [nOf] at *
 simp only [f24,B0,B1,B2,List.replicate,Nat.reduceAdd,Nat.reduceSub,Nat.reduceLeDiff,Nat.reduceLT,Nat.reduceEqDiff,reduceCtorEq,Int.reduceEq,Int.reduceLT,Int.reduceLE,endK,resA,tupA,hlen,h0,h1,h2,hid,hbx,c33,d0,d1,c25,e1,e2,e3,f1,c43,c45,a1,a2,g1,g2,hbx2,c44]
 exact ⟨H2, hH2, (hk1.set _).trans hK2, rfl⟩
theorem s24_d3 (hb : st.2 = false) (hl : ¬ 4096 < st.1.length) (hn1 : op ≠ intW) (hn2 : op ≠ textW) (hn3 : op ≠ nameW) (hsh : shapeT op = some [100]) (h64 : -9223372036854775808 ≤ i ∧ i ≤ 9223372036854775807) (hbare : bareN (.mk op i txt (.mk k sa args) s kids) true false false false = true) (hi : ¬ i < 0) : Wrote n H id (.mk op i txt (.mk k sa args) s kids) (d + 1) (st.1 ++ ((sideW ++ itoaN i) ++ [41]), (decide (9 < i))) := by
 have hidlt := wa_lt hw
 have hw1 := wa_more hw [nOf op txt i k sa s args kids]
 obtain ⟨a0, v, hid, hlv, hset⟩ := wa_get hw1
 have hbx : (H ++ [nOf op txt i k sa s args kids])[H.length]? = some (nOf op txt i k sa s args kids) := by simp
 have hk1 : Keeps n id H (H ++ [nOf op txt i k sa s args kids]) := (Keeps.refl n id H).app _
 have c33 := fun H => s33 op H
 have hidlt1 : id < (H ++ [nOf op txt i k sa s args kids]).length := by simp only [List.length_append]; omega
 rw [hb] at hid
 have d0 : decide (((d + 1 : Nat) : Int) = 0) = false := decide_eq_false (by omega)
 have d1 : decide ((4096 : Int) < (st.1.length : Int)) = false := decide_eq_false (by omega)
 have c25 := s25 hw1
 have c43 := fun H => s43 op txt i k sa s args kids H
 simp only [encN] at c43
 have hbx2 : ∀ x, ((H ++ [nOf op txt i k sa s args kids]).set id x)[H.length]? = some (nOf op txt i k sa s args kids) := fun x => by rw [List.getElem?_set_ne (by omega)]; exact hbx
 have e1 : decide (op = [105, 110, 116]) = false := decide_eq_false hn1
 have e2 : decide (op = [116, 101, 120, 116, 95, 111, 102]) = false := decide_eq_false hn2
 have e3 : decide (op = [110, 97, 109, 101]) = false := decide_eq_false hn3
 rw [hsh] at c33
 simp only [Option.getD_some,Option.isSome_some] at c33
 have f1 : decide (([100] : List UInt8) = [100]) = true := rfl
 have c43 := fun H => c43 H true false false false (.inl rfl)
 have c45 := fun H => s45 i h64 H
 have hil := itoaN_len i
 have a1 := s_add (x := [115, 105, 100, 101, 40]) (y := itoaN i) (by simp only [List.length_cons,List.length_nil]; omega)
 have a2 := s_add (x := [115, 105, 100, 101, 40] ++ itoaN i) (y := [41]) (by simp only [List.length_append,List.length_cons,List.length_nil]; omega)
 simp only [List.cons_append,List.nil_append] at a1 a2
 rw [hbare] at c43
 have g1 : decide (i < 0) = false := decide_eq_false hi
 have g2 := hb
 obtain ⟨H2, c44, hH2, hK2⟩ := s44 okw (hset (decide (9 < i))) ((sideW ++ itoaN i) ++ [41]) (by simp only [sideW,List.length_append,List.length_cons,List.length_nil]; omega)
 simp only [sideW,List.cons_append,List.nil_append] at c44
 unfold Wrote
 simp only [encN]
 rw [leq F24]
 obtain ⟨hlen, ha⟩ := enter_at (f := f24) (args := [.ptr id 0 0, .im (.agg [.str op, .int .i64 i, .str txt, .int .i64 k, .sl sa (encTs args), .sl s (encNs kids)]), .im (.int .i64 ((d + 1) : Nat))]) (Nat.le_of_ble_eq_true rfl)
 have h0 := ha 0 _ rfl
 have h1 := ha 1 _ rfl
 have h2 := ha 2 _ rfl
 generalize enterA f24 [.ptr id 0 0, .im (.agg [.str op, .int .i64 i, .str txt, .int .i64 k, .sl sa (encTs args), .sl s (encNs kids)]), .im (.int .i64 ((d + 1) : Nat))] = tm at *
 change tm.length = 167 at hlen
 clear ha
 simp only [nOf] at *
 simp only [f24,B0,B1,B2,List.replicate,Nat.reduceAdd,Nat.reduceSub,Nat.reduceLeDiff,Nat.reduceLT,Nat.reduceEqDiff,reduceCtorEq,Int.reduceEq,Int.reduceLT,Int.reduceLE,endK,resA,tupA,hlen,h0,h1,h2,hid,hbx,c33,d0,d1,c25,e1,e2,e3,f1,c43,c45,a1,a2,g1,g2,hbx2,c44]
 exact ⟨H2, hH2, (hk1.set _).trans hK2, rfl⟩
theorem s24_t1 (hb : st.2 = false) (hl : ¬ 4096 < st.1.length) (hn1 : op ≠ intW) (hn2 : op ≠ textW) (hn3 : op ≠ nameW) (hsh : shapeT op = some [116]) (hty : okT (.mk k sa args)) (hol : op.length ≤ 1000000) (hbare : bareN (.mk op i txt (.mk k sa args) s kids) false false true false = false) : Wrote n H id (.mk op i txt (.mk k sa args) s kids) (d + 1) (st.1 ++ (((op ++ [40]) ++ showW (.mk k sa args)) ++ [41]), true) := by
 have hidlt := wa_lt hw
 have hw1 := wa_more hw [nOf op txt i k sa s args kids]
 obtain ⟨a0, v, hid, hlv, hset⟩ := wa_get hw1
 have hbx : (H ++ [nOf op txt i k sa s args kids])[H.length]? = some (nOf op txt i k sa s args kids) := by simp
 have hk1 : Keeps n id H (H ++ [nOf op txt i k sa s args kids]) := (Keeps.refl n id H).app _
 have c33 := fun H => s33 op H
 have hidlt1 : id < (H ++ [nOf op txt i k sa s args kids]).length := by simp only [List.length_append]; omega
 rw [hb] at hid
 have d0 : decide (((d + 1 : Nat) : Int) = 0) = false := decide_eq_false (by omega)
 have d1 : decide ((4096 : Int) < (st.1.length : Int)) = false := decide_eq_false (by omega)
 have c25 := s25 hw1
 have c43 := fun H => s43 op txt i k sa s args kids H
 simp only [encN] at c43
 have hbx2 : ∀ x, ((H ++ [nOf op txt i k sa s args kids]).set id x)[H.length]? = some (nOf op txt i k sa s args kids) := fun x => by rw [List.getElem?_set_ne (by omega)]; exact hbx
 have e1 : decide (op = [105, 110, 116]) = false := decide_eq_false hn1
 have e2 : decide (op = [116, 101, 120, 116, 95, 111, 102]) = false := decide_eq_false hn2
 have e3 : decide (op = [110, 97, 109, 101]) = false := decide_eq_false hn3
 rw [hsh] at c33
 simp only [Option.getD_some,Option.isSome_some] at c33
 have f1 : decide (([116] : List UInt8) = [100]) = false := rfl
 have f2 : decide (([116] : List UInt8) = [116]) = true := rfl
 have c43 := fun H => c43 H false false true false (.inr (.inr (.inl rfl)))
 have c48 := fun H => s48 (.mk k sa args) hty H
 have hsl := showW_len (.mk k sa args)
 unfold showW
 unfold showW at hsl
 simp only [encT] at c48
 generalize (if rightT (KT.mk k sa args) 6 = true then showT (KT.mk k sa args) else []) = sw at *
 generalize checkT (KT.mk k sa args) = ec at *
 have a1 := s_add (x := op) (y := [40]) (by simp only [List.length_cons,List.length_nil]; omega)
 have a2 := s_add (x := op ++ [40]) (y := sw) (by simp only [List.length_append,List.length_cons,List.length_nil]; omega)
 have a3 := s_add (x := op ++ [40] ++ sw) (y := [41]) (by simp only [List.length_append,List.length_cons,List.length_nil]; omega)
 rw [hbare] at c43
 obtain ⟨H2, c44, hH2, hK2⟩ := s44 okw (hset true) (((op ++ [40]) ++ sw) ++ [41]) (by simp only [List.length_append,List.length_cons,List.length_nil]; omega)
 simp only [List.append_assoc,List.cons_append,List.nil_append] at a2 a3 c44 hH2
 unfold Wrote
 simp only [encN]
 rw [leq F24]
 obtain ⟨hlen, ha⟩ := enter_at (f := f24) (args := [.ptr id 0 0, .im (.agg [.str op, .int .i64 i, .str txt, .int .i64 k, .sl sa (encTs args), .sl s (encNs kids)]), .im (.int .i64 ((d + 1) : Nat))]) (Nat.le_of_ble_eq_true rfl)
 have h0 := ha 0 _ rfl
 have h1 := ha 1 _ rfl
 have h2 := ha 2 _ rfl
 generalize enterA f24 [.ptr id 0 0, .im (.agg [.str op, .int .i64 i, .str txt, .int .i64 k, .sl sa (encTs args), .sl s (encNs kids)]), .im (.int .i64 ((d + 1) : Nat))] = tm at *
 change tm.length = 167 at hlen
 clear ha
 simp only [nOf] at *
 simp only [f24,B0,B1,B2,List.replicate,Nat.reduceAdd,Nat.reduceSub,Nat.reduceLeDiff,Nat.reduceLT,Nat.reduceEqDiff,reduceCtorEq,Int.reduceEq,Int.reduceLT,Int.reduceLE,endK,resA,tupA,hlen,h0,h1,h2,hid,hbx,c33,d0,d1,c25,e1,e2,e3,f1,f2,c43,c48,a1,a2,a3,hbx2,c44]
 exact ⟨H2, hH2, (hk1.set _).trans hK2, rfl⟩
theorem s24_t2 (hb : st.2 = false) (hl : ¬ 4096 < st.1.length) (hn1 : op ≠ intW) (hn2 : op ≠ textW) (hn3 : op ≠ nameW) (hsh : shapeT op = some [116]) (hty : okT (.mk k sa args)) (hol : op.length ≤ 1000000) (hbare : bareN (.mk op i txt (.mk k sa args) s kids) false false true false = true) : Wrote n H id (.mk op i txt (.mk k sa args) s kids) (d + 1) (st.1 ++ (((op ++ [40]) ++ showW (.mk k sa args)) ++ [41]), (!decide (checkT (.mk k sa args) = 0))) := by
 have hidlt := wa_lt hw
 have hw1 := wa_more hw [nOf op txt i k sa s args kids]
 obtain ⟨a0, v, hid, hlv, hset⟩ := wa_get hw1
 have hbx : (H ++ [nOf op txt i k sa s args kids])[H.length]? = some (nOf op txt i k sa s args kids) := by simp
 have hk1 : Keeps n id H (H ++ [nOf op txt i k sa s args kids]) := (Keeps.refl n id H).app _
 have c33 := fun H => s33 op H
 have hidlt1 : id < (H ++ [nOf op txt i k sa s args kids]).length := by simp only [List.length_append]; omega
 rw [hb] at hid
 have d0 : decide (((d + 1 : Nat) : Int) = 0) = false := decide_eq_false (by omega)
 have d1 : decide ((4096 : Int) < (st.1.length : Int)) = false := decide_eq_false (by omega)
 have c25 := s25 hw1
 have c43 := fun H => s43 op txt i k sa s args kids H
 simp only [encN] at c43
 have hbx2 : ∀ x, ((H ++ [nOf op txt i k sa s args kids]).set id x)[H.length]? = some (nOf op txt i k sa s args kids) := fun x => by rw [List.getElem?_set_ne (by omega)]; exact hbx
 have e1 : decide (op = [105, 110, 116]) = false := decide_eq_false hn1
 have e2 : decide (op = [116, 101, 120, 116, 95, 111, 102]) = false := decide_eq_false hn2
 have e3 : decide (op = [110, 97, 109, 101]) = false := decide_eq_false hn3
 rw [hsh] at c33
 simp only [Option.getD_some,Option.isSome_some] at c33
 have f1 : decide (([116] : List UInt8) = [100]) = false := rfl
 have f2 : decide (([116] : List UInt8) = [116]) = true := rfl
 have c43 := fun H => c43 H false false true false (.inr (.inr (.inl rfl)))
 have c48 := fun H => s48 (.mk k sa args) hty H
 have hsl := showW_len (.mk k sa args)
 unfold showW
 unfold showW at hsl
 simp only [encT] at c48
 generalize (if rightT (KT.mk k sa args) 6 = true then showT (KT.mk k sa args) else []) = sw at *
 generalize checkT (KT.mk k sa args) = ec at *
 have a1 := s_add (x := op) (y := [40]) (by simp only [List.length_cons,List.length_nil]; omega)
 have a2 := s_add (x := op ++ [40]) (y := sw) (by simp only [List.length_append,List.length_cons,List.length_nil]; omega)
 have a3 := s_add (x := op ++ [40] ++ sw) (y := [41]) (by simp only [List.length_append,List.length_cons,List.length_nil]; omega)
 rw [hbare] at c43
 obtain ⟨H2, c44, hH2, hK2⟩ := s44 okw (hset (!decide (ec = 0))) (((op ++ [40]) ++ sw) ++ [41]) (by simp only [List.length_append,List.length_cons,List.length_nil]; omega)
 simp only [List.append_assoc,List.cons_append,List.nil_append] at a2 a3 c44 hH2
 unfold Wrote
 simp only [encN]
 rw [leq F24]
 obtain ⟨hlen, ha⟩ := enter_at (f := f24) (args := [.ptr id 0 0, .im (.agg [.str op, .int .i64 i, .str txt, .int .i64 k, .sl sa (encTs args), .sl s (encNs kids)]), .im (.int .i64 ((d + 1) : Nat))]) (Nat.le_of_ble_eq_true rfl)
 have h0 := ha 0 _ rfl
 have h1 := ha 1 _ rfl
 have h2 := ha 2 _ rfl
 generalize enterA f24 [.ptr id 0 0, .im (.agg [.str op, .int .i64 i, .str txt, .int .i64 k, .sl sa (encTs args), .sl s (encNs kids)]), .im (.int .i64 ((d + 1) : Nat))] = tm at *
 change tm.length = 167 at hlen
 clear ha
 simp only [nOf] at *
 simp only [f24,B0,B1,B2,List.replicate,Nat.reduceAdd,Nat.reduceSub,Nat.reduceLeDiff,Nat.reduceLT,Nat.reduceEqDiff,reduceCtorEq,Int.reduceEq,Int.reduceLT,Int.reduceLE,endK,resA,tupA,hlen,h0,h1,h2,hid,hbx,c33,d0,d1,c25,e1,e2,e3,f1,f2,c43,c48,a1,a2,a3,hbx2,c44]
 exact ⟨H2, hH2, (hk1.set _).trans hK2, rfl⟩
end
end Go.Abs.Seat
end
section
set_option linter.unusedVariables false
set_option linter.unusedSimpArgs false
namespace Go.Abs.Seat
open Go.Proofs
theorem repeat_rep : ∀ c : Nat, Lib.repeatL [101] c = List.replicate c 101
 | 0 => rfl
 | c + 1 => by
  simp only [Lib.repeatL,repeat_rep c,List.replicate_succ,List.cons_append,List.nil_append]
theorem s67 (c : Nat) (h : c ≤ 1000) (H : Heap) : L 67 [.im (.str [101]), .im (.int .i64 (c : Int))] H = some (.im (.str (List.replicate c 101)), H) := by
 have hF : F 67 = none := by kernel_rfl
 have e : L 67 [.im (.str [101]), .im (.int .i64 (c : Int))] H = bld 67 [.im (.str [101]), .im (.int .i64 (c : Int))] H := lim_none hF _ _
 rw [e]
 have e2 : bld 67 [.im (.str [101]), .im (.int .i64 (c : Int))] H = repO 67 (idxO 80 (strO 60 26 Tryd.okB 5 fun _ _ _ => none)) 67 [.im (.str [101]), .im (.int .i64 (c : Int))] H := by
  unfold bld itoaO
  rw [if_neg (by decide)]
 rw [e2]
 unfold repO
 rw [if_pos rfl]
 simp only
 rw [if_pos ⟨by omega, by omega, by simp; omega⟩, Int.toNat_natCast, repeat_rep]
def Nod (n : Nat) (id d : Nat) (k : NT) : Prop := ∀ (st : WSt) (H : Heap), st.1.length ≤ 1000000000 → WA n H id st →
 ∃ H', L 24 [.ptr id 0 0, .im (.agg (encN k)), .im (.int .i64 (d : Int))] H = some (.tup [], H') ∧ WA n H' id (nodeW d k st) ∧ Keeps n id H H'
theorem min1 (i : Nat) : minA (.im (.int .i64 (i : Int))) (.im (.int .i64 1)) = some (.im (.int .i64 ((min i 1 : Nat) : Int))) := by
 simp only [minA]
 split
 ·have : min i 1 = 1 := by omega
  rw [this]; rfl
 ·have : min i 1 = i := by omega
  rw [this]
theorem sep_at (i : Nat) : ([40, 44] : List UInt8)[min i 1]? = some (sepB i) := by
 unfold sepB
 cases i with
 | zero => rfl
 | succ i =>
  have : min (i + 1) 1 = 1 := by omega
  rw [this, if_neg (by omega)]; rfl
theorem encNs_at {kids : List NT} {i : Nat} {k : NT} (h : kids[i]? = some k) : (encNs kids)[i]? = some (encN k) := by rw [encNs_map, List.getElem?_map, h]; rfl
theorem l49 (n id idn d : Nat) (hd : d ≤ 1000) (hne : idn ≠ id) (ps : List UInt8) (s : Nat) (kids : List NT) (hs : kids = [] ∨ s = 6) (hps : kids.length = ps.length) (o : HO) (ho : ∃ ty es, o = .obj ty es)
  (C : Nat) (hC : ∀ k ∈ kids, ∀ st : WSt, (nodeW d k st).1.length ≤ max st.1.length C) (hnod : ∀ k ∈ kids, Nod n id d k) (hcl : C + kids.length ≤ 1000000000) :
  ∀ (m i : Nat) (tm : List AV) (H : Heap) (st : WSt), i + m = kids.length → st.1.length + m ≤ 1000000000 → WA n H id st → H[idn]? = some o → tm.length = 79 → tm.getD 0 undefA = .ptr id 0 0 → tm.getD 2 undefA = .im (.str ps) → tm.getD 3 undefA = .im (.int .i64 ((d + 1 : Nat) : Int)) →
   tm.getD 5 undefA = .ptr idn 0 0 → tm.getD 39 undefA = .im (.sl s (encNs kids)) → tm.getD 40 undefA = .im (.int .i64 (kids.length : Int)) → tm.getD 41 undefA = .im (.int .i64 (i : Int)) →
  ∃ e tm' H', Λ c49_0 tm H = some (e, tm', H') ∧ (e = .exit 0 ∧ tm'.length = 79 ∧ tm'.getD 0 undefA = .ptr id 0 0 ∧ tm'.getD 5 undefA = .ptr idn 0 0 ∧ WA n H' id (kidsW (nodeW d) ps i (kids.drop i) st) ∧ Keeps n id H H' ∧ H'[idn]? = some o ∧ (kidsW (nodeW d) ps i (kids.drop i) st).1.length ≤ max (st.1.length + m) (C + m))
 | 0, i, tm, H, st, hi, hb, hw, hon, hlen, h0, h2, h3, h5, h39, h40, h41 => by
  have e : kids.drop i = [] := by rw [List.drop_eq_nil_iff]; omega
  have hc : decide ((i : Int) < (kids.length : Int)) = false := decide_eq_false (by omega)
  rw [l49_0, e]
  simp only [b49_0,B0,B1,B2,List.replicate,Nat.reduceAdd,Nat.reduceSub,Nat.reduceLeDiff,Nat.reduceLT,Nat.reduceEqDiff,reduceCtorEq,Int.reduceEq,Int.reduceLT,Int.reduceLE,lenA,hlen,h40,h41,hc]
  exact ⟨_, _, _, rfl, rfl, by simp only [List.length_set,hlen], by simp only [B3,Nat.reduceLT,Nat.reduceEqDiff,hlen,h0], by simp only [B3,Nat.reduceLT,Nat.reduceEqDiff,hlen,h5], hw, Keeps.refl _ _ _, hon, by simp only [kidsW]; omega⟩
 | m + 1, i, tm, H, st, hi, hb, hw, hon, hlen, h0, h2, h3, h5, h39, h40, h41 => by
  have hlt : i < kids.length := by omega
  have e : kids.drop i = kids[i] :: kids.drop (i + 1) := List.drop_eq_getElem_cons hlt
  have hki : kids[i]? = some kids[i] := List.getElem?_eq_getElem hlt
  generalize kids[i] = k at e hki
  have hmem := List.mem_of_getElem? hki
  have hs6 : s = 6 := by
   rcases hs with hs | hs
   ·rw [hs] at hlt; simp at hlt
   ·exact hs
  subst hs6
  have hc : decide ((i : Int) < (kids.length : Int)) = true := decide_eq_true (by omega)
  have hix := idx_nat (n := (encNs kids).length) (i := i) (by rw [encNs_map]; simpa using hlt)
  have hget := encNs_at hki
  have hwr := wrap_nat (i := i) (by omega)
  have hsub : IntKind.i64.wrap (((d + 1 : Nat) : Int) - 1) = (d : Int) := by rw [Go.Abs.Seat.wrap_small _ (by omega)]; omega
  obtain ⟨cp, hcp⟩ : ∃ cp, ps[i]? = some cp := ⟨ps[i]'(by omega), List.getElem?_eq_getElem (by omega)⟩
  have p2 : (0 : Int) ≤ (i : Int) := Int.natCast_nonneg i
  have p3 : (0 : Int) ≤ ((min i 1 : Nat) : Int) := Int.natCast_nonneg _
  have hsep := sep_at i
  have hmin := min1 i
  have hdrop := hC k hmem
  obtain ⟨op, ni, txt, ty, ns, kk⟩ := k
  obtain ⟨tk, ts, targs⟩ := ty
  obtain ⟨ty0, es0, rfl⟩ := ho
  have hw1 := wa_more hw [nOf op txt ni tk ts ns targs kk]
  have hon1 : (H ++ [nOf op txt ni tk ts ns targs kk])[idn]? = some (.obj ty0 es0) := by rw [get_app (List.getElem?_eq_some_iff.1 hon).1]; exact hon
  obtain ⟨H2, c62, hH2, hK2⟩ := s62 okw hw1 (sepB i) (by omega)
  have hw2 : WA n H2 id (st.1 ++ [sepB i], st.2) := hH2
  have hH0 : (H ++ [nOf op txt ni tk ts ns targs kk])[H.length]? = some (nOf op txt ni tk ts ns targs kk) := by simp
  have hidlt := wa_lt hw
  have ho2 : H2[H.length]? = some (nOf op txt ni tk ts ns targs kk) := hK2.2.1 _ _ _ (by omega) hH0
  have hon2 : H2[idn]? = some (.obj ty0 es0) := hK2.2.1 _ _ _ hne hon1
  have hK02 : Keeps n id H H2 := hK2.down
  obtain ⟨a0, v, hid2, _, hset⟩ := wa_get hw2
  have hid2lt := wa_lt hw2
  simp only [byteDat] at c62
  simp only [nOf] at *
  have hlen1 : (st.1 ++ [sepB i]).length = st.1.length + 1 := by simp
  generalize hs0 : sepB i = sp at *
  have fin : ∀ (b : Bool) (H3 : Heap), WA n H3 id (st.1 ++ [sp], b) → Keeps n id H H3 → H3[idn]? = some (.obj ty0 es0) → b = (st.2 || (decide (ps[i]? = some 110) && !decide (op = nameW))) →
    ∃ H4, L 24 [.ptr id 0 0, .im (.agg (encN (.mk op ni txt (.mk tk ts targs) ns kk))), .im (.int .i64 (d : Int))] H3 = some (.tup [], H4) ∧
     ∀ tm1 : List AV, tm1.length = 79 → tm1.getD 0 undefA = .ptr id 0 0 → tm1.getD 2 undefA = .im (.str ps) → tm1.getD 3 undefA = .im (.int .i64 ((d + 1 : Nat) : Int)) → tm1.getD 5 undefA = .ptr idn 0 0 → tm1.getD 39 undefA = .im (.sl 6 (encNs kids)) → tm1.getD 40 undefA = .im (.int .i64 (kids.length : Int)) → tm1.getD 41 undefA = .im (.int .i64 ((i + 1 : Nat) : Int)) →
     ∃ e tm' H', Λ c49_0 tm1 H4 = some (e, tm', H') ∧ (e = .exit 0 ∧ tm'.length = 79 ∧ tm'.getD 0 undefA = .ptr id 0 0 ∧ tm'.getD 5 undefA = .ptr idn 0 0 ∧ WA n H' id (kidsW (nodeW d) ps i (.mk op ni txt (.mk tk ts targs) ns kk :: kids.drop (i + 1)) st) ∧ Keeps n id H H' ∧ H'[idn]? = some (.obj ty0 es0) ∧ (kidsW (nodeW d) ps i (.mk op ni txt (.mk tk ts targs) ns kk :: kids.drop (i + 1)) st).1.length ≤ max (st.1.length + (m + 1)) (C + (m + 1))) := by
   intro b H3 hw3 hK3 hon3 hb2
   obtain ⟨H4, c24, hw4, hK4⟩ := hnod _ hmem (st.1 ++ [sp], b) H3 (by simp only [hlen1]; omega) hw3
   refine ⟨H4, c24, fun tm1 q1 q2 q3 q4 q5 q6 q7 q8 => ?_⟩
   have hl4 := hdrop (st.1 ++ [sp], b)
   simp only [hlen1] at hl4
   obtain ⟨e', tm', H', r1, r2, r3, r4, r5, r6, r7, r8, r9⟩ := l49 n id idn d hd hne ps 6 kids (.inr rfl) hps _ ⟨_, _, rfl⟩ C hC hnod hcl m (i + 1) tm1 H4 _ (by omega) (by omega) hw4 (hK4.2.1 _ _ _ hne hon3) q1 q2 q3 q4 q5 q6 q7 q8
   refine ⟨e', tm', H', r1, r2, r3, r4, r5, ?_, (hK3.trans hK4).trans r7, r8, ?_⟩
   ·simp only [kidsW,isNam]
    rw [hs0, ← hb2]
    exact r6
   ·simp only [kidsW,isNam]
    rw [hs0, ← hb2]
    omega
  simp only [encN] at fin hget
  rw [l49_0, e]
  have plain : st.2 = (st.2 || (decide (ps[i]? = some 110) && !decide (op = nameW))) → (decide ((cp.toNat : Int) = 110) = false ∨ (decide ((cp.toNat : Int) = 110) = true ∧ decide (op = [110, 97, 109, 101]) = true)) → ∃ e tm' H', exec0 L Λ b49_0 tm H (fun e tm H => match e with
    | .normal => Λ c49_0 tm H
    | .exit i => some (.exit i, tm, H)
    | .goto l => some (.goto l, tm, H)
    | .ret => some (.ret, tm, H)) = some (e, tm', H') ∧ (e = .exit 0 ∧ tm'.length = 79 ∧ tm'.getD 0 undefA = .ptr id 0 0 ∧ tm'.getD 5 undefA = .ptr idn 0 0 ∧ WA n H' id (kidsW (nodeW d) ps i (.mk op ni txt (.mk tk ts targs) ns kk :: kids.drop (i + 1)) st) ∧ Keeps n id H H' ∧ H'[idn]? = some (.obj ty0 es0) ∧ (kidsW (nodeW d) ps i (.mk op ni txt (.mk tk ts targs) ns kk :: kids.drop (i + 1)) st).1.length ≤ max (st.1.length + (m + 1)) (C + (m + 1))) := by
   intro hbb hcase
   obtain ⟨H4, c24, rest⟩ := fin st.2 H2 hw2 hK02 hon2 hbb
   rcases hcase with hn | ⟨hn, ho3⟩
   ·simp only [b49_0,B0,B1,B2,List.replicate,Nat.reduceAdd,Nat.reduceSub,Nat.reduceLeDiff,Nat.reduceLT,Nat.reduceEqDiff,reduceCtorEq,Int.reduceEq,Int.reduceLT,Int.reduceLE,lenA,byteDat,intOfA,Int.toNat_natCast,hlen,h0,h2,h3,h5,h39,h40,h41,hc,hix,hget,hwr,hsub,hmin,hsep,p2,p3,c62,hcp,hn,ho2,c24]
    refine rest _ ?_ ?_ ?_ ?_ ?_ ?_ ?_ ?_
    all_goals simp only [B3,Nat.reduceLT,Nat.reduceEqDiff,hlen,h0,h2,h3,h5,h39,h40]
   ·simp only [b49_0,B0,B1,B2,List.replicate,Nat.reduceAdd,Nat.reduceSub,Nat.reduceLeDiff,Nat.reduceLT,Nat.reduceEqDiff,reduceCtorEq,Int.reduceEq,Int.reduceLT,Int.reduceLE,lenA,byteDat,intOfA,Int.toNat_natCast,hlen,h0,h2,h3,h5,h39,h40,h41,hc,hix,hget,hwr,hsub,hmin,hsep,p2,p3,c62,hcp,hn,ho3,ho2,c24]
    refine rest _ ?_ ?_ ?_ ?_ ?_ ?_ ?_ ?_
    all_goals simp only [B3,Nat.reduceLT,Nat.reduceEqDiff,hlen,h0,h2,h3,h5,h39,h40]
  have hcn : decide (ps[i]? = some 110) = decide ((cp.toNat : Int) = 110) := by
   rw [hcp]
   have e110 : (110 : UInt8).toNat = 110 := rfl
   by_cases h : cp = 110
   ·rw [decide_eq_true (by rw [h]), decide_eq_true (by rw [h]; rfl)]
   ·rw [decide_eq_false (by simpa using h), decide_eq_false (fun h2 => h (UInt8.toNat_inj.1 (by omega)))]
  rcases Bool.eq_false_or_eq_true (decide ((cp.toNat : Int) = 110)) with hn | hn
  ·rcases Bool.eq_false_or_eq_true (decide (op = [110, 97, 109, 101])) with ho3 | ho3
   ·exact plain (by rw [show decide (op = nameW) = true from ho3]; simp) (.inr ⟨hn, ho3⟩)
   ·obtain ⟨H4, c24, rest⟩ := fin true _ (hset true) (hK02.set _) (by rw [List.getElem?_set_ne (fun e => hne e.symm)]; exact hon2) (by rw [show decide (op = nameW) = false from ho3, hcn, hn]; simp)
    have ho4 : ∀ x, (H2.set id x)[H.length]? = some (nOf op txt ni tk ts ns targs kk) := fun x => by rw [List.getElem?_set_ne (by omega)]; exact ho2
    simp only [nOf] at ho4
    simp only [b49_0,B0,B1,B2,List.replicate,Nat.reduceAdd,Nat.reduceSub,Nat.reduceLeDiff,Nat.reduceLT,Nat.reduceEqDiff,reduceCtorEq,Int.reduceEq,Int.reduceLT,Int.reduceLE,lenA,byteDat,intOfA,Int.toNat_natCast,hlen,h0,h2,h3,h5,h39,h40,h41,hc,hix,hget,hwr,hsub,hmin,hsep,p2,p3,c62,hcp,hn,ho3,ho2,hid2,ho4,c24]
    refine rest _ ?_ ?_ ?_ ?_ ?_ ?_ ?_ ?_
    all_goals simp only [B3,Nat.reduceLT,Nat.reduceEqDiff,hlen,h0,h2,h3,h5,h39,h40]
  ·exact plain (by rw [hcn, hn]; simp) (.inl hn)
end Go.Abs.Seat
end
section
set_option linter.unusedVariables false
set_option linter.unusedSimpArgs false
set_option linter.unusedSectionVars false
namespace Go.Abs.Seat
open Go.Proofs
theorem max1 (l : Nat) : maxA (.im (.int .i64 1)) (.im (.int .i64 (l : Int))) = some (.im (.int .i64 ((max 1 l : Nat) : Int))) := by
 simp only [maxA]
 split
 ·have : max 1 l = l := by omega
  rw [this]
 ·have : max 1 l = 1 := by omega
  rw [this]; rfl
theorem min64 (l : Nat) : minA (.im (.int .i64 (l : Int))) (.im (.int .i64 64)) = some (.im (.int .i64 ((min l 64 : Nat) : Int))) := by
 simp only [minA]
 split
 ·have : min l 64 = 64 := by omega
  rw [this]; rfl
 ·have : min l 64 = l := by omega
  rw [this]
def Called (n : Nat) (H : Heap) (id : Nat) (t : NT) (ps : List UInt8) (d : Nat) (r : WSt) : Prop :=
 ∃ H2, WA n H2 id r ∧ Keeps n id H H2 ∧ L 49 [.ptr id 0 0, .im (.agg (encN t)), .im (.str ps), .im (.int .i64 (d : Int))] H = some (leave H false (.tup []) H2)
section
variable {n : Nat} {H : Heap} {id : Nat} {st : WSt} (hw : WA n H id st) (op txt : List UInt8) (i k : Int) (sa s : Nat) (args : List KT) (kids : List NT) (ps : List UInt8) (d : Nat)
 (hol : op.length ≤ 1000000) (hpl : ps.length ≤ 1000) (hst : st.1.length ≤ 100000000)
include hw hol hpl hst
theorem s49_lenA (hp : ps = [43]) (hl : kids.length ≠ (List.replicate (min (max 1 kids.length) 64) (101 : UInt8)).length) : Called n H id (.mk op i txt (.mk k sa args) s kids) ps (d + 1) (st.1, true) := by
 have hidlt := wa_lt hw
 have hw1 := wa_more hw [nOf op txt i k sa s args kids]
 obtain ⟨a0, v, hid, hlv, hset⟩ := wa_get hw1
 have hbx : (H ++ [nOf op txt i k sa s args kids])[H.length]? = some (nOf op txt i k sa s args kids) := by simp
 have hk1 : Keeps n id H (H ++ [nOf op txt i k sa s args kids]) := (Keeps.refl n id H).app _
 have hkl : (encNs kids).length = kids.length := by rw [encNs_map]; simp
 have c43 := fun H => s43 op txt i k sa s args kids H false false false true (.inr (.inr (.inr rfl)))
 simp only [encN] at c43
 have p1 : decide (ps = [43]) = true := decide_eq_true hp
 have m1 := max1 kids.length
 have m2 := min64 (max 1 kids.length)
 have c67 := fun H => s67 (min (max 1 kids.length) 64) (by omega) H
 have hpl2 : (List.replicate (min (max 1 kids.length) 64) (101 : UInt8)).length ≤ 64 := by rw [List.length_replicate]; omega
 generalize max 1 kids.length = mx at *
 generalize min mx 64 = mn at *
 generalize List.replicate mn (101 : UInt8) = pp at *
 have q1 : decide ((kids.length : Int) = ((pp).length : Int)) = false := decide_eq_false (fun e => hl (by omega))
 unfold Called
 simp only [encN]
 rw [leq F49]
 obtain ⟨hlen, ha⟩ := enter_at (f := f49) (args := [.ptr id 0 0, .im (.agg [.str op, .int .i64 i, .str txt, .int .i64 k, .sl sa (encTs args), .sl s (encNs kids)]), .im (.str ps), .im (.int .i64 ((d + 1 : Nat) : Int))]) (Nat.le_of_ble_eq_true rfl)
 have h0 := ha 0 _ rfl
 have h1 := ha 1 _ rfl
 have h2 := ha 2 _ rfl
 have h3 := ha 3 _ rfl
 generalize enterA f49 [.ptr id 0 0, .im (.agg [.str op, .int .i64 i, .str txt, .int .i64 k, .sl sa (encTs args), .sl s (encNs kids)]), .im (.str ps), .im (.int .i64 ((d + 1 : Nat) : Int))] = tm at *
 change tm.length = 79 at hlen
 clear ha
 simp only [nOf] at *
 simp only [f49,e49_0,B0,B1,B2,List.replicate,Nat.reduceAdd,Nat.reduceSub,Nat.reduceLeDiff,Nat.reduceLT,Nat.reduceEqDiff,reduceCtorEq,Int.reduceEq,Int.reduceLT,Int.reduceLE,lenA,endK,resA,tupA,hlen,h0,h1,h2,h3,hid,hbx,hkl,p1,m1,m2,c67,q1]
 exact ⟨_, hset true, hk1.set _, rfl⟩
theorem s49_bareA (hp : ps = [43]) (hl : kids.length = (List.replicate (min (max 1 kids.length) 64) (101 : UInt8)).length) (hb : bareN (.mk op i txt (.mk k sa args) s kids) false false false true = false) : Called n H id (.mk op i txt (.mk k sa args) s kids) ps (d + 1) (st.1, true) := by
 have hidlt := wa_lt hw
 have hw1 := wa_more hw [nOf op txt i k sa s args kids]
 obtain ⟨a0, v, hid, hlv, hset⟩ := wa_get hw1
 have hbx : (H ++ [nOf op txt i k sa s args kids])[H.length]? = some (nOf op txt i k sa s args kids) := by simp
 have hk1 : Keeps n id H (H ++ [nOf op txt i k sa s args kids]) := (Keeps.refl n id H).app _
 have hkl : (encNs kids).length = kids.length := by rw [encNs_map]; simp
 have c43 := fun H => s43 op txt i k sa s args kids H false false false true (.inr (.inr (.inr rfl)))
 simp only [encN] at c43
 have p1 : decide (ps = [43]) = true := decide_eq_true hp
 have m1 := max1 kids.length
 have m2 := min64 (max 1 kids.length)
 have c67 := fun H => s67 (min (max 1 kids.length) 64) (by omega) H
 have hpl2 : (List.replicate (min (max 1 kids.length) 64) (101 : UInt8)).length ≤ 64 := by rw [List.length_replicate]; omega
 generalize max 1 kids.length = mx at *
 generalize min mx 64 = mn at *
 generalize List.replicate mn (101 : UInt8) = pp at *
 have q1 : decide ((kids.length : Int) = ((pp).length : Int)) = true := decide_eq_true (by omega)
 rw [hb] at c43
 unfold Called
 simp only [encN]
 rw [leq F49]
 obtain ⟨hlen, ha⟩ := enter_at (f := f49) (args := [.ptr id 0 0, .im (.agg [.str op, .int .i64 i, .str txt, .int .i64 k, .sl sa (encTs args), .sl s (encNs kids)]), .im (.str ps), .im (.int .i64 ((d + 1 : Nat) : Int))]) (Nat.le_of_ble_eq_true rfl)
 have h0 := ha 0 _ rfl
 have h1 := ha 1 _ rfl
 have h2 := ha 2 _ rfl
 have h3 := ha 3 _ rfl
 generalize enterA f49 [.ptr id 0 0, .im (.agg [.str op, .int .i64 i, .str txt, .int .i64 k, .sl sa (encTs args), .sl s (encNs kids)]), .im (.str ps), .im (.int .i64 ((d + 1 : Nat) : Int))] = tm at *
 change tm.length = 79 at hlen
 clear ha
 simp only [nOf] at *
 simp only [f49,e49_0,B0,B1,B2,List.replicate,Nat.reduceAdd,Nat.reduceSub,Nat.reduceLeDiff,Nat.reduceLT,Nat.reduceEqDiff,reduceCtorEq,Int.reduceEq,Int.reduceLT,Int.reduceLE,lenA,endK,resA,tupA,hlen,h0,h1,h2,h3,hid,hbx,hkl,p1,m1,m2,c67,q1,c43]
 exact ⟨_, hset true, hk1.set _, rfl⟩
theorem s49_goA (hp : ps = [43]) (hl : kids.length = (List.replicate (min (max 1 kids.length) 64) (101 : UInt8)).length) (hb : bareN (.mk op i txt (.mk k sa args) s kids) false false false true = true) (hd : d ≤ 1000) (hs : kids = [] ∨ s = 6)
  (C : Nat) (hC : ∀ k ∈ kids, ∀ st : WSt, (nodeW d k st).1.length ≤ max st.1.length C) (hnod : ∀ k ∈ kids, Nod n id d k) (hcl : C ≤ 100000000) : Called n H id (.mk op i txt (.mk k sa args) s kids) ps (d + 1) (if 0 < kids.length then ((kidsW (nodeW d) (List.replicate (min (max 1 kids.length) 64) (101 : UInt8)) 0 kids (st.1 ++ op, st.2)).1 ++ [41], (kidsW (nodeW d) (List.replicate (min (max 1 kids.length) 64) (101 : UInt8)) 0 kids (st.1 ++ op, st.2)).2) else kidsW (nodeW d) (List.replicate (min (max 1 kids.length) 64) (101 : UInt8)) 0 kids (st.1 ++ op, st.2)) := by
 have hidlt := wa_lt hw
 have hw1 := wa_more hw [nOf op txt i k sa s args kids]
 obtain ⟨a0, v, hid, hlv, hset⟩ := wa_get hw1
 have hbx : (H ++ [nOf op txt i k sa s args kids])[H.length]? = some (nOf op txt i k sa s args kids) := by simp
 have hk1 : Keeps n id H (H ++ [nOf op txt i k sa s args kids]) := (Keeps.refl n id H).app _
 have hkl : (encNs kids).length = kids.length := by rw [encNs_map]; simp
 have c43 := fun H => s43 op txt i k sa s args kids H false false false true (.inr (.inr (.inr rfl)))
 simp only [encN] at c43
 have p1 : decide (ps = [43]) = true := decide_eq_true hp
 have m1 := max1 kids.length
 have m2 := min64 (max 1 kids.length)
 have c67 := fun H => s67 (min (max 1 kids.length) 64) (by omega) H
 have hpl2 : (List.replicate (min (max 1 kids.length) 64) (101 : UInt8)).length ≤ 64 := by rw [List.length_replicate]; omega
 generalize max 1 kids.length = mx at *
 generalize min mx 64 = mn at *
 generalize List.replicate mn (101 : UInt8) = pp at *
 have q1 : decide ((kids.length : Int) = ((pp).length : Int)) = true := decide_eq_true (by omega)
 rw [hb] at c43
 obtain ⟨H2, c44, hH2, hK2⟩ := s44 okw hw1 op (by omega)
 have hw2 : WA n H2 id (st.1 ++ op, st.2) := hH2
 have hbx2 : H2[H.length]? = some (nOf op txt i k sa s args kids) := hK2.2.1 _ _ _ (by omega) hbx
 have hkn : kids.length ≤ 1000 := by omega
 have key := fun tm1 => l49 n id H.length d hd (by omega) pp s kids hs (by omega) (nOf op txt i k sa s args kids) ⟨_, _, rfl⟩ C hC hnod (by omega) kids.length 0 tm1 H2 (st.1 ++ op, st.2) (by omega) (by simp only [List.length_append]; omega) hw2 hbx2
 have z0 : ((0 : Nat) : Int) = 0 := rfl
 simp only [List.drop_zero,z0,List.length_append] at key
 unfold Called
 simp only [encN]
 rw [leq F49]
 obtain ⟨hlen, ha⟩ := enter_at (f := f49) (args := [.ptr id 0 0, .im (.agg [.str op, .int .i64 i, .str txt, .int .i64 k, .sl sa (encTs args), .sl s (encNs kids)]), .im (.str ps), .im (.int .i64 ((d + 1 : Nat) : Int))]) (Nat.le_of_ble_eq_true rfl)
 have h0 := ha 0 _ rfl
 have h1 := ha 1 _ rfl
 have h2 := ha 2 _ rfl
 have h3 := ha 3 _ rfl
 generalize enterA f49 [.ptr id 0 0, .im (.agg [.str op, .int .i64 i, .str txt, .int .i64 k, .sl sa (encTs args), .sl s (encNs kids)]), .im (.str ps), .im (.int .i64 ((d + 1 : Nat) : Int))] = tm at *
 change tm.length = 79 at hlen
 clear ha
 simp only [nOf] at *
 simp only [f49,e49_0,B0,B1,B2,List.replicate,Nat.reduceAdd,Nat.reduceSub,Nat.reduceLeDiff,Nat.reduceLT,Nat.reduceEqDiff,reduceCtorEq,Int.reduceEq,Int.reduceLT,Int.reduceLE,lenA,endK,resA,tupA,hlen,h0,h1,h2,h3,hid,hbx,hkl,p1,m1,m2,c67,q1,c43,c44,hbx2]
 refine thenL_ex (fun r => ∃ H2, WA n H2 id (if 0 < kids.length then ((kidsW (nodeW d) (pp) 0 kids (st.1 ++ op, st.2)).1 ++ [41], (kidsW (nodeW d) (pp) 0 kids (st.1 ++ op, st.2)).2) else kidsW (nodeW d) (pp) 0 kids (st.1 ++ op, st.2)) ∧ Keeps n id H H2 ∧ r = some (leave H false (.tup []) H2)) (key _ ?_ ?_ ?_ ?_ ?_ ?_ ?_ ?_) ?_
 iterate 8 simp only [B3,Nat.reduceLT,Nat.reduceEqDiff,hlen,h0,h1,h2,h3,z0]
 rintro e tm1 H3 ⟨rfl, g1, g2, g3, g4, g5, g6, g7⟩
 have hK3 : Keeps n id H H3 := hK2.down.trans g5
 by_cases hz : 0 < kids.length
 ·have q2 : decide ((0 : Int) < (kids.length : Int)) = true := decide_eq_true (by omega)
  obtain ⟨H4, c62, hH4, hK4⟩ := s62 okw g4 41 (by omega)
  simp only [byteDat,show (((41 : UInt8).toNat : Nat) : Int) = 41 from rfl] at c62
  simp only [B0,B1,B2,List.replicate,Nat.reduceAdd,Nat.reduceSub,Nat.reduceLeDiff,Nat.reduceLT,Nat.reduceEqDiff,reduceCtorEq,Int.reduceEq,Int.reduceLT,Int.reduceLE,lenA,endK,f49,resA,tupA,g1,g2,g3,g6,hkl,q2,c62]
  rw [if_pos hz]
  exact ⟨H4, hH4, hK3.trans hK4, rfl⟩
 ·have q2 : decide ((0 : Int) < (kids.length : Int)) = false := decide_eq_false (by omega)
  simp only [B0,B1,B2,List.replicate,Nat.reduceAdd,Nat.reduceSub,Nat.reduceLeDiff,Nat.reduceLT,Nat.reduceEqDiff,reduceCtorEq,Int.reduceEq,Int.reduceLT,Int.reduceLE,lenA,endK,f49,resA,tupA,g1,g2,g3,g6,hkl,q2]
  rw [if_neg hz]
  exact ⟨H3, g4, hK3, rfl⟩
theorem s49_lenB (hp : ps ≠ [43]) (hl : kids.length ≠ (ps).length) : Called n H id (.mk op i txt (.mk k sa args) s kids) ps (d + 1) (st.1, true) := by
 have hidlt := wa_lt hw
 have hw1 := wa_more hw [nOf op txt i k sa s args kids]
 obtain ⟨a0, v, hid, hlv, hset⟩ := wa_get hw1
 have hbx : (H ++ [nOf op txt i k sa s args kids])[H.length]? = some (nOf op txt i k sa s args kids) := by simp
 have hk1 : Keeps n id H (H ++ [nOf op txt i k sa s args kids]) := (Keeps.refl n id H).app _
 have hkl : (encNs kids).length = kids.length := by rw [encNs_map]; simp
 have c43 := fun H => s43 op txt i k sa s args kids H false false false true (.inr (.inr (.inr rfl)))
 simp only [encN] at c43
 have p1 : decide (ps = [43]) = false := decide_eq_false hp
 have q1 : decide ((kids.length : Int) = ((ps).length : Int)) = false := decide_eq_false (fun e => hl (by omega))
 unfold Called
 simp only [encN]
 rw [leq F49]
 obtain ⟨hlen, ha⟩ := enter_at (f := f49) (args := [.ptr id 0 0, .im (.agg [.str op, .int .i64 i, .str txt, .int .i64 k, .sl sa (encTs args), .sl s (encNs kids)]), .im (.str ps), .im (.int .i64 ((d + 1 : Nat) : Int))]) (Nat.le_of_ble_eq_true rfl)
 have h0 := ha 0 _ rfl
 have h1 := ha 1 _ rfl
 have h2 := ha 2 _ rfl
 have h3 := ha 3 _ rfl
 generalize enterA f49 [.ptr id 0 0, .im (.agg [.str op, .int .i64 i, .str txt, .int .i64 k, .sl sa (encTs args), .sl s (encNs kids)]), .im (.str ps), .im (.int .i64 ((d + 1 : Nat) : Int))] = tm at *
 change tm.length = 79 at hlen
 clear ha
 simp only [nOf] at *
 simp only [f49,e49_0,B0,B1,B2,List.replicate,Nat.reduceAdd,Nat.reduceSub,Nat.reduceLeDiff,Nat.reduceLT,Nat.reduceEqDiff,reduceCtorEq,Int.reduceEq,Int.reduceLT,Int.reduceLE,lenA,endK,resA,tupA,hlen,h0,h1,h2,h3,hid,hbx,hkl,p1,q1]
 exact ⟨_, hset true, hk1.set _, rfl⟩
theorem s49_bareB (hp : ps ≠ [43]) (hl : kids.length = (ps).length) (hb : bareN (.mk op i txt (.mk k sa args) s kids) false false false true = false) : Called n H id (.mk op i txt (.mk k sa args) s kids) ps (d + 1) (st.1, true) := by
 have hidlt := wa_lt hw
 have hw1 := wa_more hw [nOf op txt i k sa s args kids]
 obtain ⟨a0, v, hid, hlv, hset⟩ := wa_get hw1
 have hbx : (H ++ [nOf op txt i k sa s args kids])[H.length]? = some (nOf op txt i k sa s args kids) := by simp
 have hk1 : Keeps n id H (H ++ [nOf op txt i k sa s args kids]) := (Keeps.refl n id H).app _
 have hkl : (encNs kids).length = kids.length := by rw [encNs_map]; simp
 have c43 := fun H => s43 op txt i k sa s args kids H false false false true (.inr (.inr (.inr rfl)))
 simp only [encN] at c43
 have p1 : decide (ps = [43]) = false := decide_eq_false hp
 have q1 : decide ((kids.length : Int) = ((ps).length : Int)) = true := decide_eq_true (by omega)
 rw [hb] at c43
 unfold Called
 simp only [encN]
 rw [leq F49]
 obtain ⟨hlen, ha⟩ := enter_at (f := f49) (args := [.ptr id 0 0, .im (.agg [.str op, .int .i64 i, .str txt, .int .i64 k, .sl sa (encTs args), .sl s (encNs kids)]), .im (.str ps), .im (.int .i64 ((d + 1 : Nat) : Int))]) (Nat.le_of_ble_eq_true rfl)
 have h0 := ha 0 _ rfl
 have h1 := ha 1 _ rfl
 have h2 := ha 2 _ rfl
 have h3 := ha 3 _ rfl
 generalize enterA f49 [.ptr id 0 0, .im (.agg [.str op, .int .i64 i, .str txt, .int .i64 k, .sl sa (encTs args), .sl s (encNs kids)]), .im (.str ps), .im (.int .i64 ((d + 1 : Nat) : Int))] = tm at *
 change tm.length = 79 at hlen
 clear ha
 simp only [nOf] at *
 simp only [f49,e49_0,B0,B1,B2,List.replicate,Nat.reduceAdd,Nat.reduceSub,Nat.reduceLeDiff,Nat.reduceLT,Nat.reduceEqDiff,reduceCtorEq,Int.reduceEq,Int.reduceLT,Int.reduceLE,lenA,endK,resA,tupA,hlen,h0,h1,h2,h3,hid,hbx,hkl,p1,q1,c43]
 exact ⟨_, hset true, hk1.set _, rfl⟩
theorem s49_goB (hp : ps ≠ [43]) (hl : kids.length = (ps).length) (hb : bareN (.mk op i txt (.mk k sa args) s kids) false false false true = true) (hd : d ≤ 1000) (hs : kids = [] ∨ s = 6)
  (C : Nat) (hC : ∀ k ∈ kids, ∀ st : WSt, (nodeW d k st).1.length ≤ max st.1.length C) (hnod : ∀ k ∈ kids, Nod n id d k) (hcl : C ≤ 100000000) : Called n H id (.mk op i txt (.mk k sa args) s kids) ps (d + 1) (if 0 < kids.length then ((kidsW (nodeW d) (ps) 0 kids (st.1 ++ op, st.2)).1 ++ [41], (kidsW (nodeW d) (ps) 0 kids (st.1 ++ op, st.2)).2) else kidsW (nodeW d) (ps) 0 kids (st.1 ++ op, st.2)) := by
 have hidlt := wa_lt hw
 have hw1 := wa_more hw [nOf op txt i k sa s args kids]
 obtain ⟨a0, v, hid, hlv, hset⟩ := wa_get hw1
 have hbx : (H ++ [nOf op txt i k sa s args kids])[H.length]? = some (nOf op txt i k sa s args kids) := by simp
 have hk1 : Keeps n id H (H ++ [nOf op txt i k sa s args kids]) := (Keeps.refl n id H).app _
 have hkl : (encNs kids).length = kids.length := by rw [encNs_map]; simp
 have c43 := fun H => s43 op txt i k sa s args kids H false false false true (.inr (.inr (.inr rfl)))
 simp only [encN] at c43
 have p1 : decide (ps = [43]) = false := decide_eq_false hp
 have q1 : decide ((kids.length : Int) = ((ps).length : Int)) = true := decide_eq_true (by omega)
 rw [hb] at c43
 obtain ⟨H2, c44, hH2, hK2⟩ := s44 okw hw1 op (by omega)
 have hw2 : WA n H2 id (st.1 ++ op, st.2) := hH2
 have hbx2 : H2[H.length]? = some (nOf op txt i k sa s args kids) := hK2.2.1 _ _ _ (by omega) hbx
 have hkn : kids.length ≤ 1000 := by omega
 have key := fun tm1 => l49 n id H.length d hd (by omega) ps s kids hs (by omega) (nOf op txt i k sa s args kids) ⟨_, _, rfl⟩ C hC hnod (by omega) kids.length 0 tm1 H2 (st.1 ++ op, st.2) (by omega) (by simp only [List.length_append]; omega) hw2 hbx2
 have z0 : ((0 : Nat) : Int) = 0 := rfl
 simp only [List.drop_zero,z0,List.length_append] at key
 unfold Called
 simp only [encN]
 rw [leq F49]
 obtain ⟨hlen, ha⟩ := enter_at (f := f49) (args := [.ptr id 0 0, .im (.agg [.str op, .int .i64 i, .str txt, .int .i64 k, .sl sa (encTs args), .sl s (encNs kids)]), .im (.str ps), .im (.int .i64 ((d + 1 : Nat) : Int))]) (Nat.le_of_ble_eq_true rfl)
 have h0 := ha 0 _ rfl
 have h1 := ha 1 _ rfl
 have h2 := ha 2 _ rfl
 have h3 := ha 3 _ rfl
 generalize enterA f49 [.ptr id 0 0, .im (.agg [.str op, .int .i64 i, .str txt, .int .i64 k, .sl sa (encTs args), .sl s (encNs kids)]), .im (.str ps), .im (.int .i64 ((d + 1 : Nat) : Int))] = tm at *
 change tm.length = 79 at hlen
 clear ha
 simp only [nOf] at *
 simp only [f49,e49_0,B0,B1,B2,List.replicate,Nat.reduceAdd,Nat.reduceSub,Nat.reduceLeDiff,Nat.reduceLT,Nat.reduceEqDiff,reduceCtorEq,Int.reduceEq,Int.reduceLT,Int.reduceLE,lenA,endK,resA,tupA,hlen,h0,h1,h2,h3,hid,hbx,hkl,p1,q1,c43,c44,hbx2]
 refine thenL_ex (fun r => ∃ H2, WA n H2 id (if 0 < kids.length then ((kidsW (nodeW d) (ps) 0 kids (st.1 ++ op, st.2)).1 ++ [41], (kidsW (nodeW d) (ps) 0 kids (st.1 ++ op, st.2)).2) else kidsW (nodeW d) (ps) 0 kids (st.1 ++ op, st.2)) ∧ Keeps n id H H2 ∧ r = some (leave H false (.tup []) H2)) (key _ ?_ ?_ ?_ ?_ ?_ ?_ ?_ ?_) ?_
 iterate 8 simp only [B3,Nat.reduceLT,Nat.reduceEqDiff,hlen,h0,h1,h2,h3,z0]
 rintro e tm1 H3 ⟨rfl, g1, g2, g3, g4, g5, g6, g7⟩
 have hK3 : Keeps n id H H3 := hK2.down.trans g5
 by_cases hz : 0 < kids.length
 ·have q2 : decide ((0 : Int) < (kids.length : Int)) = true := decide_eq_true (by omega)
  obtain ⟨H4, c62, hH4, hK4⟩ := s62 okw g4 41 (by omega)
  simp only [byteDat,show (((41 : UInt8).toNat : Nat) : Int) = 41 from rfl] at c62
  simp only [B0,B1,B2,List.replicate,Nat.reduceAdd,Nat.reduceSub,Nat.reduceLeDiff,Nat.reduceLT,Nat.reduceEqDiff,reduceCtorEq,Int.reduceEq,Int.reduceLT,Int.reduceLE,lenA,endK,f49,resA,tupA,g1,g2,g3,g6,hkl,q2,c62]
  rw [if_pos hz]
  exact ⟨H4, hH4, hK3.trans hK4, rfl⟩
 ·have q2 : decide ((0 : Int) < (kids.length : Int)) = false := decide_eq_false (by omega)
  simp only [B0,B1,B2,List.replicate,Nat.reduceAdd,Nat.reduceSub,Nat.reduceLeDiff,Nat.reduceLT,Nat.reduceEqDiff,reduceCtorEq,Int.reduceEq,Int.reduceLT,Int.reduceLE,lenA,endK,f49,resA,tupA,g1,g2,g3,g6,hkl,q2]
  rw [if_neg hz]
  exact ⟨H3, g4, hK3, rfl⟩
end
end Go.Abs.Seat
end
section
set_option linter.unusedVariables false
set_option linter.unusedSimpArgs false
set_option linter.unusedSectionVars false
namespace Go.Abs.Seat
open Go.Proofs
mutual
def fineN : NT → Prop
 | .mk op i txt ty s kids => (-9223372036854775808 ≤ i ∧ i ≤ 9223372036854775807) ∧ txt.length ≤ 1000000 ∧ op.length ≤ 1000000 ∧ (kids = [] ∨ s = 6) ∧ okT ty ∧ fineNs kids
def fineNs : List NT → Prop
 | [] => True
 | a :: l => fineN a ∧ fineNs l
end
theorem fineNs_mem : ∀ {l : List NT}, fineNs l → ∀ a ∈ l, fineN a
 | [], _, a, ha => by simp at ha
 | x :: l, h, a, ha => by
  simp only [fineNs] at h
  rcases List.mem_cons.1 ha with rfl | ha
  ·exact h.1
  ·exact fineNs_mem h.2 a ha
theorem shape_le {w p : List UInt8} (h : shapeT w = some p) : p.length ≤ 5 ∧ w ≠ [] := by
 have hm := lookup_mem h
 have key : ∀ q ∈ shapes, q.2.length ≤ 5 ∧ q.1 ≠ [] := by decide
 exact key _ hm
theorem nodeW_stop {d : Nat} {t : NT} {st : WSt} (h : 4096 < st.1.length) : (nodeW d t st).1 = st.1 := by
 cases d with
 | zero => rfl
 | succ d =>
  obtain ⟨op, i, txt, ty, s, kids⟩ := t
  simp only [nodeW]
  rw [if_pos (by rw [decide_eq_true h, Bool.or_true])]
theorem kidsW_len {nd : NT → WSt → WSt} {ps : List UInt8} {X : Nat} (hX : 4097 ≤ X) (hs : ∀ k st, 4096 < st.1.length → (nd k st).1 = st.1) : ∀ (kids : List NT), (∀ k ∈ kids, ∀ st : WSt, (nd k st).1.length ≤ max st.1.length X) → ∀ (i : Nat) (st : WSt),
  (kidsW nd ps i kids st).1.length ≤ max st.1.length X + kids.length
 | [], _, i, st => by simp only [kidsW,List.length_nil]; omega
 | k :: ks, hk, i, st => by
  have h1 := hk k (by simp) (st.1 ++ [sepB i], st.2 || (decide (ps[i]? = some 110) && !isNam k))
  have h2 := hs k (st.1 ++ [sepB i], st.2 || (decide (ps[i]? = some 110) && !isNam k))
  have ih := kidsW_len (ps := ps) hX hs ks (fun k hk' => hk k (by simp [hk'])) (i + 1) (nd k (st.1 ++ [sepB i], st.2 || (decide (ps[i]? = some 110) && !isNam k)))
  simp only [kidsW,List.length_cons]
  simp only [List.length_append,List.length_cons,List.length_nil] at h1 h2
  by_cases hl : 4096 < st.1.length + 1
  ·have := h2 (by omega)
   rw [this] at ih
   simp only [List.length_append,List.length_cons,List.length_nil] at ih
   omega
  ·omega
theorem parts_len (ps : List UInt8) (n : Nat) (h : ps.length ≤ 5) : (partsW ps n).length ≤ 64 := by
 unfold partsW
 split
 ·rw [List.length_replicate]; omega
 ·omega
theorem nodeW_len : ∀ (d : Nat) (t : NT), fineN t → ∀ st : WSt, (nodeW d t st).1.length ≤ max st.1.length (5000000 + 70 * d)
 | 0, t, h, st => by simp only [nodeW]; omega
 | d + 1, .mk op i txt ty s kids, h, st => by
  simp only [fineN] at h
  obtain ⟨hi, ht, ho, hs, hty, hk⟩ := h
  simp only [nodeW]
  split
  ·simp only; omega
  ·rename_i hst
   have hl : st.1.length ≤ 4096 := by
    rcases Nat.lt_or_ge 4096 st.1.length with h | h
    ·exact absurd (by rw [decide_eq_true h, Bool.or_true]) hst
    ·exact h
   split
   ·have := itoaN_len i
    simp only [List.length_append]; omega
   ·split
    ·split
     ·simp only; omega
     ·rename_i h2
      have ht2 : txt.length ≤ 256 := by
       rcases Nat.lt_or_ge 256 txt.length with h | h
       ·exact absurd (by rw [decide_eq_true h, Bool.or_true]) h2
       ·exact h
      have := quoteL_len txt
      simp only [quoteB,List.length_append,List.length_cons,List.length_nil]; omega
    ·split
     ·simp only [List.length_append]; omega
     ·split
      ·simp only; omega
      ·rename_i ps hsh
       have hp5 := (shape_le hsh).1
       split
       ·have := itoaN_len i
        simp only [sideW,List.length_append,List.length_cons,List.length_nil]; omega
       ·split
        ·have := showW_len ty
         simp only [List.length_append,List.length_cons,List.length_nil]; omega
        ·unfold callW
         split
         ·simp only; omega
         ·rename_i hc
          have hkl : kids.length ≤ 64 := by
           have hpl := parts_len ps kids.length hp5
           by_cases he : kids.length = (partsW ps kids.length).length
           ·omega
           ·exact absurd (by rw [decide_eq_false he]; rfl) hc
          have hkn := kidsW_len (nd := nodeW d) (ps := partsW ps kids.length) (X := 5000000 + 70 * d) (by omega) (fun k st h => nodeW_stop h) kids (fun k hk' st => nodeW_len d k (fineNs_mem hk k hk') st) 0 (st.1 ++ op, st.2)
          simp only [List.length_append] at hkn
          split
          ·simp only [List.length_append,List.length_cons,List.length_nil]; omega
          ·omega
section
variable {n : Nat} {H : Heap} {id : Nat} {st : WSt} (hw : WA n H id st) (op txt : List UInt8) (i k : Int) (sa s : Nat) (args : List KT) (kids : List NT) (d : Nat)
include hw
theorem s24_call (hb : st.2 = false) (hl : ¬ 4096 < st.1.length) (hn1 : op ≠ intW) (hn2 : op ≠ textW) (hn3 : op ≠ nameW) (ps : List UInt8) (hsh : shapeT op = some ps) (hq1 : ps ≠ [100]) (hq2 : ps ≠ [116]) (r : WSt)
  (c49 : ∃ H3, L 49 [.ptr id 0 0, .im (.agg (encN (.mk op i txt (.mk k sa args) s kids))), .im (.str ps), .im (.int .i64 ((d + 1 : Nat) : Int))] (H ++ [nOf op txt i k sa s args kids]) = some (.tup [], H3) ∧ WA n H3 id r ∧ Keeps n id (H ++ [nOf op txt i k sa s args kids]) H3) : Wrote n H id (.mk op i txt (.mk k sa args) s kids) (d + 1) r := by
 have hidlt := wa_lt hw
 have hw1 := wa_more hw [nOf op txt i k sa s args kids]
 obtain ⟨a0, v, hid, hlv, hset⟩ := wa_get hw1
 have hbx : (H ++ [nOf op txt i k sa s args kids])[H.length]? = some (nOf op txt i k sa s args kids) := by simp
 have hk1 : Keeps n id H (H ++ [nOf op txt i k sa s args kids]) := (Keeps.refl n id H).app _
 have c33 := fun H => s33 op H
 have hidlt1 : id < (H ++ [nOf op txt i k sa s args kids]).length := by simp only [List.length_append]; omega
 rw [hb] at hid
 have d0 : decide (((d + 1 : Nat) : Int) = 0) = false := decide_eq_false (by omega)
 have d1 : decide ((4096 : Int) < (st.1.length : Int)) = false := decide_eq_false (by omega)
 have c25 := s25 hw1
 have c43 := fun H => s43 op txt i k sa s args kids H
 simp only [encN] at c43
 have hbx2 : ∀ x, ((H ++ [nOf op txt i k sa s args kids]).set id x)[H.length]? = some (nOf op txt i k sa s args kids) := fun x => by rw [List.getElem?_set_ne (by omega)]; exact hbx
 have e1 : decide (op = [105, 110, 116]) = false := decide_eq_false hn1
 have e2 : decide (op = [116, 101, 120, 116, 95, 111, 102]) = false := decide_eq_false hn2
 have e3 : decide (op = [110, 97, 109, 101]) = false := decide_eq_false hn3
 rw [hsh] at c33
 simp only [Option.getD_some,Option.isSome_some] at c33
 obtain ⟨H3, c49, hw3, hk3⟩ := c49
 have f1 : decide (ps = [100]) = false := decide_eq_false hq1
 have f2 : decide (ps = [116]) = false := decide_eq_false hq2
 simp only [encN] at c49
 unfold Wrote
 simp only [encN]
 rw [leq F24]
 obtain ⟨hlen, ha⟩ := enter_at (f := f24) (args := [.ptr id 0 0, .im (.agg [.str op, .int .i64 i, .str txt, .int .i64 k, .sl sa (encTs args), .sl s (encNs kids)]), .im (.int .i64 ((d + 1) : Nat))]) (Nat.le_of_ble_eq_true rfl)
 have h0 := ha 0 _ rfl
 have h1 := ha 1 _ rfl
 have h2 := ha 2 _ rfl
 generalize enterA f24 [.ptr id 0 0, .im (.agg [.str op, .int .i64 i, .str txt, .int .i64 k, .sl sa (encTs args), .sl s (encNs kids)]), .im (.int .i64 ((d + 1) : Nat))] = tm at *
 change tm.length = 167 at hlen
 clear ha
 simp only [nOf] at *
 simp only [f24,B0,B1,B2,List.replicate,Nat.reduceAdd,Nat.reduceSub,Nat.reduceLeDiff,Nat.reduceLT,Nat.reduceEqDiff,reduceCtorEq,Int.reduceEq,Int.reduceLT,Int.reduceLE,endK,resA,tupA,hlen,h0,h1,h2,hid,hbx,c33,d0,d1,c25,e1,e2,e3,f1,f2,c49]
 exact ⟨H3, hw3, hk1.trans hk3, rfl⟩
end
theorem s24 (n id : Nat) : ∀ (d : Nat), d ≤ 1000 → ∀ t : NT, fineN t → Nod n id d t
 | d, hd, .mk op i txt (.mk k sa args) s kids, hf => by
  intro st H hst hw
  suffices hsuf : Wrote n H id (.mk op i txt (.mk k sa args) s kids) d (nodeW d (.mk op i txt (.mk k sa args) s kids) st) by
   obtain ⟨H2, h1, h2, h3⟩ := hsuf
   obtain ⟨H', e1, e2, e3⟩ := wa_leave hw h1 h2
   exact ⟨H', by rw [h3, e1], e2, e3⟩
  have hf' := hf
  simp only [fineN] at hf
  obtain ⟨hi, ht, ho, hs, hty, hk⟩ := hf
  cases hb : st.2 with
  | true =>
   have e : nodeW d (.mk op i txt (.mk k sa args) s kids) st = (st.1, true) := by
    cases d with
    | zero => rfl
    | succ d => simp only [nodeW]; rw [if_pos (by rw [hb, Bool.true_or])]
   rw [e]
   exact s24_bad hw op txt i k sa s args kids d hb
  | false =>
   cases d with
   | zero => exact s24_zero hw op txt i k sa s args kids hb
   | succ d =>
    simp only [nodeW]
    by_cases hl : 4096 < st.1.length
    ·rw [if_pos (by rw [decide_eq_true hl, Bool.or_true])]
     exact s24_long hw op txt i k sa s args kids d hb hl
    rw [if_neg (by rw [hb, decide_eq_false hl]; simp)]
    by_cases h1 : op = intW
    ·rw [if_pos h1]
     exact s24_int hw op txt i k sa s args kids d hb hl h1 hi
    rw [if_neg h1]
    by_cases h2 : op = textW
    ·rw [if_pos h2]
     cases hbare : bareN (.mk op i txt (.mk k sa args) s kids) false true false false with
     | false =>
      rw [if_pos (by simp)]
      exact s24_text1 hw op txt i k sa s args kids d hb hl h2 hbare
     | true =>
      by_cases h3 : 256 < txt.length
      ·rw [if_pos (by rw [decide_eq_true h3, Bool.or_true])]
       exact s24_text2 hw op txt i k sa s args kids d hb hl h2 hbare h3
      ·rw [if_neg (by rw [decide_eq_false h3]; simp)]
       exact s24_text3 hw op txt i k sa s args kids d hb hl h2 hbare h3
    rw [if_neg h2]
    by_cases h3 : op = nameW
    ·rw [if_pos h3]
     cases hbare : bareN (.mk op i txt (.mk k sa args) s kids) false true false false with
     | false => exact s24_name1 hw op txt i k sa s args kids d hb hl h3 hbare ht
     | true => exact s24_name2 hw op txt i k sa s args kids d hb hl h3 hbare ht
    rw [if_neg h3]
    cases hsh : shapeT op with
    | none => exact s24_none hw op txt i k sa s args kids d hb hl h1 h2 h3 hsh
    | some ps =>
     simp only
     by_cases h4 : ps = [100]
     ·rw [if_pos h4]
      rw [h4] at hsh
      cases hbare : bareN (.mk op i txt (.mk k sa args) s kids) true false false false with
      | false => exact s24_d1 hw op txt i k sa s args kids d hb hl h1 h2 h3 hsh hi hbare
      | true =>
       by_cases h5 : i < 0
       ·have := s24_d2 hw op txt i k sa s args kids d hb hl h1 h2 h3 hsh hi hbare h5
        rw [decide_eq_true h5]
        exact this
       ·have := s24_d3 hw op txt i k sa s args kids d hb hl h1 h2 h3 hsh hi hbare h5
        rw [decide_eq_false h5]
        exact this
     rw [if_neg h4]
     by_cases h5 : ps = [116]
     ·rw [if_pos h5]
      rw [h5] at hsh
      cases hbare : bareN (.mk op i txt (.mk k sa args) s kids) false false true false with
      | false => exact s24_t1 hw op txt i k sa s args kids d hb hl h1 h2 h3 hsh hty ho hbare
      | true => exact s24_t2 hw op txt i k sa s args kids d hb hl h1 h2 h3 hsh hty ho hbare
     rw [if_neg h5]
     have hw1 := wa_more hw [nOf op txt i k sa s args kids]
     have hp5 := (shape_le hsh).1
     have hC : ∀ k ∈ kids, ∀ st : WSt, (nodeW d k st).1.length ≤ max st.1.length (5000000 + 70 * d) := fun k hk' st => nodeW_len d k (fineNs_mem hk k hk') st
     have hnod : ∀ k ∈ kids, Nod n id d k := fun k hk' => s24 n id d (by omega) k (fineNs_mem hk k hk')
     refine s24_call hw op txt i k sa s args kids d hb hl h1 h2 h3 ps hsh h4 h5 _ ?_
     have fin : Called n (H ++ [nOf op txt i k sa s args kids]) id (.mk op i txt (.mk k sa args) s kids) ps (d + 1) (callW (nodeW d) op ps (.mk op i txt (.mk k sa args) s kids) kids st) := by
      unfold callW partsW
      by_cases hp : ps = [43]
      ·rw [if_pos hp]
       by_cases hkl : kids.length = (List.replicate (min (max 1 kids.length) 64) (101 : UInt8)).length
       ·cases hbare : bareN (.mk op i txt (.mk k sa args) s kids) false false false true with
        | false =>
         rw [if_pos (by simp)]
         exact s49_bareA hw1 op txt i k sa s args kids ps d ho (by omega) (by omega) hp hkl hbare
        | true =>
         rw [if_neg (by rw [decide_eq_true hkl]; simp)]
         exact s49_goA hw1 op txt i k sa s args kids ps d ho (by omega) (by omega) hp hkl hbare (by omega) hs (5000000 + 70 * d) hC hnod (by omega)
       ·rw [if_pos (by rw [decide_eq_false hkl]; rfl)]
        exact s49_lenA hw1 op txt i k sa s args kids ps d ho (by omega) (by omega) hp hkl
      ·rw [if_neg hp]
       by_cases hkl : kids.length = ps.length
       ·cases hbare : bareN (.mk op i txt (.mk k sa args) s kids) false false false true with
        | false =>
         rw [if_pos (by simp)]
         exact s49_bareB hw1 op txt i k sa s args kids ps d ho (by omega) (by omega) hp hkl hbare
        | true =>
         rw [if_neg (by rw [decide_eq_true hkl]; simp)]
         exact s49_goB hw1 op txt i k sa s args kids ps d ho (by omega) (by omega) hp hkl hbare (by omega) hs (5000000 + 70 * d) hC hnod (by omega)
       ·rw [if_pos (by rw [decide_eq_false hkl]; rfl)]
        exact s49_lenB hw1 op txt i k sa s args kids ps d ho (by omega) (by omega) hp hkl
     obtain ⟨H2, g1, g2, g3⟩ := fin
     obtain ⟨H', e1, e2, e3⟩ := wa_leave hw1 g1 g2
     exact ⟨H', by rw [g3, e1], e2, e3⟩
end Go.Abs.Seat
end
section
set_option linter.unusedVariables false
set_option linter.unusedSimpArgs false
namespace Go.Abs.Seat
open Go.Proofs
theorem kidsW_ge {nd : NT → WSt → WSt} {ps : List UInt8} : ∀ (kids : List NT), (∀ k ∈ kids, ∀ st : WSt, st.1.length ≤ (nd k st).1.length) → ∀ (i : Nat) (st : WSt), st.1.length ≤ (kidsW nd ps i kids st).1.length
 | [], _, i, st => Nat.le_refl _
 | k :: ks, hk, i, st => by
  have h1 := hk k (by simp) (st.1 ++ [sepB i], st.2 || (decide (ps[i]? = some 110) && !isNam k))
  have ih := kidsW_ge (ps := ps) ks (fun k hk' => hk k (by simp [hk'])) (i + 1) (nd k (st.1 ++ [sepB i], st.2 || (decide (ps[i]? = some 110) && !isNam k)))
  simp only [kidsW]
  simp only [List.length_append,List.length_cons,List.length_nil] at h1
  omega
theorem callW_ge {nd : NT → WSt → WSt} {op ps : List UInt8} {t : NT} {kids : List NT} (hk : ∀ k ∈ kids, ∀ st : WSt, st.1.length ≤ (nd k st).1.length) (st : WSt) : st.1.length ≤ (callW nd op ps t kids st).1.length ∧ ((callW nd op ps t kids st).2 = false → st.2 = false → st.1.length + op.length ≤ (callW nd op ps t kids st).1.length) := by
 unfold callW
 have h := kidsW_ge (ps := partsW ps kids.length) kids hk 0 (st.1 ++ op, st.2)
 simp only [List.length_append] at h
 split
 ·exact ⟨Nat.le_refl _, fun h => by simp at h⟩
 ·split
  ·simp only [List.length_append]
   exact ⟨by omega, fun _ _ => by omega⟩
  ·exact ⟨by omega, fun _ _ => by omega⟩
theorem nodeW_ge : ∀ (d : Nat) (t : NT) (st : WSt), st.1.length ≤ (nodeW d t st).1.length
 | 0, t, st => Nat.le_refl _
 | d + 1, .mk op i txt ty s kids, st => by
  have hk : ∀ k ∈ kids, ∀ st : WSt, st.1.length ≤ (nodeW d k st).1.length := fun k _ st => nodeW_ge d k st
  simp only [nodeW]
  split
  ·exact Nat.le_refl _
  ·split
   ·simp
   ·split
    ·split
     ·exact Nat.le_refl _
     ·simp
    ·split
     ·simp
     ·split
      ·exact Nat.le_refl _
      ·split
       ·simp
       ·split
        ·simp
        ·exact (callW_ge hk st).1
theorem digN_ne (f u : Nat) : digN (f + 1) u ≠ [] := by
 unfold digN
 split <;> simp
theorem itoaN_ne (n : Int) : itoaN n ≠ [] := by
 unfold itoaN
 split
 ·simp
 ·exact digN_ne 19 _
theorem nodeW_ne (d : Nat) (t : NT) (h : (nodeW d t ([], false)).2 = false) : (nodeW d t ([], false)).1 ≠ [] := by
 cases d with
 | zero => simp [nodeW] at h
 | succ d =>
  obtain ⟨op, i, txt, ty, s, kids⟩ := t
  have hk : ∀ k ∈ kids, ∀ st : WSt, st.1.length ≤ (nodeW d k st).1.length := fun k _ st => nodeW_ge d k st
  simp only [nodeW] at h ⊢
  rw [if_neg (by simp)] at h ⊢
  by_cases h1 : op = intW
  ·rw [if_pos h1]
   simpa using itoaN_ne i
  rw [if_neg h1] at h ⊢
  by_cases h2 : op = textW
  ·rw [if_pos h2] at h ⊢
   by_cases h3 : (!bareN (.mk op i txt ty s kids) false true false false || decide (256 < txt.length)) = true
   ·rw [if_pos h3] at h; simp at h
   ·rw [if_neg h3]; simp [quoteB]
  rw [if_neg h2] at h ⊢
  by_cases h3 : op = nameW
  ·rw [if_pos h3] at h ⊢
   simp only [Bool.or_eq_false_iff,Bool.not_eq_false'] at h
   intro e
   have e' : txt = [] := by simpa using e
   have := h.2
   rw [e'] at this
   simp [nameOk] at this
  rw [if_neg h3] at h ⊢
  cases hsh : shapeT op with
  | none => rw [hsh] at h; simp at h
  | some ps =>
   rw [hsh] at h
   simp only at h ⊢
   by_cases h4 : ps = [100]
   ·rw [if_pos h4]; simp [sideW]
   rw [if_neg h4] at h ⊢
   by_cases h5 : ps = [116]
   ·rw [if_pos h5]; simp
   rw [if_neg h5] at h ⊢
   have := (callW_ge (op := op) (ps := ps) (t := .mk op i txt ty s kids) hk ([], false)).2 h rfl
   have hne := (shape_le hsh).2
   intro e
   rw [e] at this
   have : 0 < op.length := List.length_pos_iff.2 hne
   simp only [List.length_nil] at *
   omega
def showX (t : NT) : List UInt8 × Int := if ((nodeW 24 t ([], false)).2 || decide (4096 < (nodeW 24 t ([], false)).1.length)) = true then ([], 110) else ((nodeW 24 t ([], false)).1, 0)
theorem leave_keeps {n id : Nat} {H M H2 : Heap} {r : AV} (hd : degrade r = r) (hr : refsLt H.length r = true) (hn : H.length ≤ n) (hid : H.length ≤ id) (hk : Keeps n id (H ++ M) H2) : leave H false r H2 = (r, H) := by
 have hsame : ∀ i, i < H.length → H2[i]? = H[i]? := fun i hi => by
  rw [hk.2.2 i (by omega) (by simp; omega) (by omega), List.getElem?_append_left hi]
 have hheld : heldIn H H2 := fun i hi => .inl (hsame i hi)
 have htake : H2.take H.length = H := by
  apply List.ext_getElem?
  intro i
  rw [List.getElem?_take]
  split
  ·rename_i hi; exact hsame i hi
  ·rw [List.getElem?_eq_none (by omega)]
 unfold leave
 have e : (if (false : Bool) = true then r else degrade r) = r := by simp [hd]
 rw [e, if_pos ⟨hr, hheld⟩, htake]
theorem s14 (t : NT) (hf : fineN t) (H : Heap) : L 14 [.im (.agg (encN t))] H = some (.tup [.im (.str (showX t).1), .im (.int .i64 (showX t).2)], H) := by
 obtain ⟨op, i, txt, ty, s, kids⟩ := t
 obtain ⟨k, sa, args⟩ := ty
 have hw0 : WA (H.length + 2) (H ++ [nOf op txt i k sa s args kids, .obj (some (66, 3)) [[.im .nilp, .nils, .im (.bool false)]]]) (H.length + 1) ([], false) :=
  ⟨.im .nilp, .nils, by rw [Go.Abs.hget]; rfl, .inl rfl, .inl ⟨rfl, rfl⟩, by simp⟩
 obtain ⟨H2, c24, hw2, hK2⟩ := s24 (H.length + 2) (H.length + 1) 24 (by decide) _ hf ([], false) _ (by simp) hw0
 have hlen0 := nodeW_len 24 _ hf ([], false)
 have hne := nodeW_ne 24 (.mk op i txt (.mk k sa args) s kids)
 unfold showX
 generalize nodeW 24 (.mk op i txt (.mk k sa args) s kids) ([], false) = r at *
 obtain ⟨out, bad⟩ := r
 simp only at hne hlen0 ⊢
 obtain ⟨a0, v, hid, _, hset⟩ := wa_get hw2
 have c25 := s25 hw2
 simp only [encN] at c24 ⊢
 have hlv : ∀ (x : List UInt8) (e : Int) (H3 : Heap), Keeps (H.length + 2) (H.length + 1) (H ++ [nOf op txt i k sa s args kids, .obj (some (66, 3)) [[.im .nilp, .nils, .im (.bool false)]]]) H3 →
   leave H false (.tup [.im (.str x), .im (.int .i64 e)]) H3 = (.tup [.im (.str x), .im (.int .i64 e)], H) := fun x e H3 h => leave_keeps (by simp [degrade, degrade1, toDat]) (by simp [refsLt, refsLts]) (by omega) (by omega) h
 simp only [nOf] at *
 have c24' : L 24 [.ptr (H.length + 1) 0 0, .im (.agg [.str op, .int .i64 i, .str txt, .int .i64 k, .sl sa (encTs args), .sl s (encNs kids)]), .im (.int .i64 24)] _ = _ := c24
 rw [leq F14]
 obtain ⟨hlen, ha⟩ := enter_at (f := f14) (args := [.im (.agg [.str op, .int .i64 i, .str txt, .int .i64 k, .sl sa (encTs args), .sl s (encNs kids)])]) (Nat.le_of_ble_eq_true rfl)
 have h0 := ha 0 _ rfl
 generalize enterA f14 [.im (.agg [.str op, .int .i64 i, .str txt, .int .i64 k, .sl sa (encTs args), .sl s (encNs kids)])] = tm at *
 change tm.length = 25 at hlen
 clear ha
 cases bad with
 | true =>
  rw [Bool.true_or, if_pos rfl]
  simp only [f14,B0,B1,B2,List.replicate,Nat.reduceAdd,Nat.reduceSub,Nat.reduceLeDiff,Nat.reduceLT,Nat.reduceEqDiff,reduceCtorEq,Int.reduceEq,Int.reduceLT,Int.reduceLE,lenA,endK,resA,tupA,hlen,h0,c24',hid,hlv _ _ _ hK2]
 | false =>
  simp only [Bool.false_or,decide_eq_true_eq]
  by_cases hl : 4096 < out.length
  ·have e1 : decide ((4096 : Int) < (out.length : Int)) = true := decide_eq_true (by omega)
   rw [if_pos hl]
   simp only [f14,B0,B1,B2,List.replicate,Nat.reduceAdd,Nat.reduceSub,Nat.reduceLeDiff,Nat.reduceLT,Nat.reduceEqDiff,reduceCtorEq,Int.reduceEq,Int.reduceLT,Int.reduceLE,lenA,endK,resA,tupA,hlen,h0,c24',hid,c25,e1,hlv _ _ _ hK2]
  ·have e1 : decide ((4096 : Int) < (out.length : Int)) = false := decide_eq_false (by omega)
   rw [if_neg hl]
   have hne := hne rfl
   obtain ⟨b0, u, hid', _, hG, _⟩ := hw2
   rcases hG with ⟨hes, _⟩ | ⟨_, tok, htok, rfl, hhw⟩
   ·exact absurd (by simpa using hes) hne
   ·have c26 : L 26 [.ptr (H.length + 1) 0 0] H2 = some (.im (.str out), H2.set tok (.hw 5 (out.length + 1))) := by
     rw [L26]
     simp only [stE,hid',hhw,bytesE_of]
     rw [if_pos ⟨by decide, trivial, by simp, trivial, List.length_pos_iff.2 hne, by omega⟩]
     simp
    have hK3 := hK2.2
    have hK4 : Keeps (H.length + 2) (H.length + 1) (H ++ [.obj none [[.im (.str op), .im (.int .i64 i), .im (.str txt), .im (.int .i64 k), .im (.sl sa (encTs args)), .im (.sl s (encNs kids))]], .obj (some (66, 3)) [[.im .nilp, .nils, .im (.bool false)]]]) (H2.set tok (.hw 5 (out.length + 1))) :=
     ⟨by simpa using hK2.1, fun j ty es hj hA => by
      have := hK2.2.1 j ty es hj hA
      have hne2 : tok ≠ j := fun e => by subst e; rw [hhw] at this; simp at this
      rw [List.getElem?_set_ne hne2]; exact this, fun j hj hl2 hji => by
      rw [List.getElem?_set_ne (by omega)]; exact hK2.2.2 j hj hl2 hji⟩
    simp only [f14,B0,B1,B2,List.replicate,Nat.reduceAdd,Nat.reduceSub,Nat.reduceLeDiff,Nat.reduceLT,Nat.reduceEqDiff,reduceCtorEq,Int.reduceEq,Int.reduceLT,Int.reduceLE,lenA,endK,resA,tupA,hlen,h0,c24',hid,c25,e1,c26,hlv _ _ _ hK4]
theorem s16 (t : NT) (hf : fineN t) (H : Heap) : L 16 [.im (.agg (encN t))] H = some (.im (.int .i64 (showX t).2), H) := by
 have c14 := fun H => s14 t hf H
 obtain ⟨op, i, txt, ty, s, kids⟩ := t
 obtain ⟨k, sa, args⟩ := ty
 simp only [encN] at c14 ⊢
 rw [leq F16]
 obtain ⟨hlen, ha⟩ := enter_at (f := f16) (args := [.im (.agg [.str op, .int .i64 i, .str txt, .int .i64 k, .sl sa (encTs args), .sl s (encNs kids)])]) (Nat.le_of_ble_eq_true rfl)
 have h0 := ha 0 _ rfl
 generalize enterA f16 [.im (.agg [.str op, .int .i64 i, .str txt, .int .i64 k, .sl sa (encTs args), .sl s (encNs kids)])] = tm at *
 change tm.length = 11 at hlen
 simp only [f16,B0,B1,B2,List.replicate,Nat.reduceAdd,Nat.reduceSub,Nat.reduceLeDiff,Nat.reduceLT,Nat.reduceEqDiff,reduceCtorEq,Int.reduceEq,Int.reduceLT,Int.reduceLE,lenA,endK,resA,tupA,hlen,h0,c14,leave_app]
end Go.Abs.Seat
end
section
set_option linter.unusedVariables false
set_option linter.unusedSimpArgs false
namespace Go.Abs.Seat
open Go.Proofs
mutual
def smallT : KT → Int → Int → Bool × Int
 | .mk _ _ args, left, d => if left - 1 < 0 ∨ d = 0 then (false, left - 1) else smallTs args (left - 1) (d - 1)
def smallTs : List KT → Int → Int → Bool × Int
 | [], left, _ => (true, left)
 | a :: l, left, d => if (smallT a left d).1 = true then smallTs l (smallT a left d).2 d else (false, (smallT a left d).2)
end
mutual
theorem smallT_left : ∀ (t : KT) (left d : Int), 0 ≤ left → -1 ≤ (smallT t left d).2 ∧ (smallT t left d).2 ≤ left ∧ ((smallT t left d).1 = true → 0 ≤ (smallT t left d).2)
 | .mk _ _ args, left, d, h => by
  simp only [smallT]
  split
  ·refine ⟨by simp only; omega, by simp only; omega, by simp⟩
  ·have := smallTs_left args (left - 1) (d - 1) (by omega)
   exact ⟨this.1, by omega, this.2.2⟩
theorem smallTs_left : ∀ (l : List KT) (left d : Int), 0 ≤ left → -1 ≤ (smallTs l left d).2 ∧ (smallTs l left d).2 ≤ left ∧ ((smallTs l left d).1 = true → 0 ≤ (smallTs l left d).2)
 | [], left, d, h => by
  simp only [smallTs]
  exact ⟨by omega, by omega, fun _ => h⟩
 | a :: l, left, d, h => by
  have h1 := smallT_left a left d h
  simp only [smallTs]
  split
  ·rename_i hb
   have h2 := smallTs_left l (smallT a left d).2 d (h1.2.2 hb)
   exact ⟨h2.1, by omega, h2.2.2⟩
  ·exact ⟨h1.1, h1.2.1, by simp⟩
end
def numO (n : Int) : HO := .obj none [[.im (.int .i64 n)]]
theorem l50 (args : List KT) (s : Nat) (hs : args = [] ∨ s = 2) (hn : args.length ≤ 9223372036854775807) (d : Int) (hd : 1 ≤ d ∧ d ≤ 1000) (idl : Nat) (H0 : Heap) (hid : idl < H0.length)
  (hc : ∀ a ∈ args, ∀ (n : Int), 0 ≤ n → n ≤ 1000000 → ∀ (H : Heap), H[idl]? = some (numO n) → L 50 [.im (.agg (encT a)), .ptr idl 0 0, .im (.int .i64 (d - 1))] H = some (.im (.bool (smallT a n (d - 1)).1), H.set idl (numO (smallT a n (d - 1)).2))) :
  ∀ (m i : Nat), i + m = args.length → ∀ (tm : List AV) (M : Heap) (n : Int), 0 ≤ n → n ≤ 1000000 → tm.length = 36 → tm.getD 1 undefA = .ptr idl 0 0 → tm.getD 2 undefA = .im (.int .i64 d) → tm.getD 23 undefA = .im (.sl s (args.map encT)) → tm.getD 24 undefA = .im (.int .i64 args.length) → tm.getD 25 undefA = .im (.int .i64 i) →
  ∃ e tm' H', Λ c50_0 tm (H0.set idl (numO n) ++ M) = some (e, tm', H') ∧ tm'.length = 36 ∧ (∃ M', H' = H0.set idl (numO (smallTs (args.drop i) n (d - 1)).2) ++ M') ∧
   if (smallTs (args.drop i) n (d - 1)).1 = true then e = .exit 0 else e = .ret ∧ tm'.getD 6 undefA = .im (.bool false)
 | 0, i, hi, tm, M, n, hn0, hn1, hlen, h1, h2, h23, h24, h25 => by
  have e : args.drop i = [] := by rw [List.drop_eq_nil_iff]; omega
  have hc : decide ((i : Int) < (args.length : Int)) = false := decide_eq_false (by omega)
  rw [l50_0, e]
  simp only [smallTs,if_true]
  simp only [b50_0,exec0,xreg,xops,wantedA,aopc,aop,ev,putA,endK,resA,tupA,List.length_cons,List.length_nil,List.replicate,List.cons_append,List.nil_append,List.append_nil,List.append_assoc,gs_same,gs_ne,gq_same,gq_ne,List.length_set,List.map_cons,List.map_nil,cellsOf,List.all_cons,List.all_nil,cellOk,boxTy,Bool.and_true,Bool.and_self,if_true,ite_true,ite_false,loadAt,storeAt,setAt,hget,hget0,hset,hset0,List.getElem?_cons_zero,List.getElem?_cons_succ,List.set_cons_zero,List.set_cons_succ,Nat.add_zero,Nat.zero_add,Nat.reduceAdd,Nat.reduceSub,Nat.reduceLeDiff,Nat.reduceLT,Nat.reduceEqDiff,Nat.le_refl,and_self,and_true,true_and,mkAgg,toIms,List.drop_zero,List.drop_succ_cons,List.take_succ_cons,List.take_zero,List.length_append,binA,isShift,binInt,binBool,unA,Bool.false_eq_true,if_false,partA,fillA,fillE,List.take_nil,Nat.zero_ne_one,Nat.one_ne_zero,not_false_eq_true,ne_eq,Nat.succ_ne_self,reduceCtorEq,Int.reduceEq,Int.reduceLT,Int.reduceLE,decide_true,decide_false,lenA,beq_self_eq_true,beq_true,beq_false,Bool.not_true,Bool.not_false,hlen,h1,h2,h23,h24,h25,hc]
  exact ⟨_, _, _, rfl, by simp only [List.length_set,hlen], ⟨_, rfl⟩, rfl⟩
 | m + 1, i, hi, tm, M, n, hn0, hn1, hlen, h1, h2, h23, h24, h25 => by
  have hlt : i < args.length := by omega
  obtain ⟨w, hwi⟩ : ∃ w, args[i]? = some w := ⟨_, List.getElem?_eq_getElem hlt⟩
  have e : args.drop i = w :: args.drop (i + 1) := by
   rw [List.drop_eq_getElem_cons hlt]
   congr 1
   rw [List.getElem?_eq_getElem hlt] at hwi
   exact Option.some.inj hwi
  have hs2 : s = 2 := by
   rcases hs with hs | hs
   ·subst hs; simp at hlt
   ·exact hs
  subst hs2
  have hc' : decide ((i : Int) < (args.length : Int)) = true := decide_eq_true (by omega)
  have hix := idx_nat (n := (args.map encT).length) (i := i) (by simpa using hlt)
  have hgw : (args.map encT)[i]? = some (encT w) := by rw [List.getElem?_map, hwi]; rfl
  have hcall := hc w (List.mem_of_getElem? hwi) n hn0 hn1 (H0.set idl (numO n) ++ (M ++ [.obj none [(encT w).map .im]])) (by rw [get_app (by simpa using hid), List.getElem?_set_self hid])
  rw [set_app (by simpa using hid), List.set_set] at hcall
  have hsl := smallT_left w n (d - 1) hn0
  have hwr := wrap_nat (i := i) (by omega)
  have hwd := wrap_small (d - 1) (by omega)
  have key := l50 args 2 hs hn d hd idl H0 hid hc m (i + 1) (by omega)
  rw [l50_0, e]
  simp only [smallTs]
  have hset0 : ∀ o o' : HO, (H0.set idl (numO n) ++ (M ++ [o])).set ((H0.set idl (numO n)).length + M.length) o' = H0.set idl (numO n) ++ (M ++ [o']) := fun o o' => by
   rw [← List.append_assoc, ← List.append_assoc, ← List.length_append, Go.Abs.hset0]; rfl
  have hgetA : ∀ o, (H0.set idl (numO n) ++ (M ++ [o]))[(H0.set idl (numO n)).length + M.length]? = some o := fun o => by
   rw [← List.append_assoc, ← List.length_append, Go.Abs.hget0]; rfl
  rw [List.length_set] at hset0 hgetA
  rcases Bool.eq_false_or_eq_true (smallT w n (d - 1)).1 with hb | hb
  ·simp only [hb,if_true] at hcall hsl ⊢
   generalize (smallT w n (d - 1)).2 = n' at *
   obtain ⟨k, s', ts⟩ := w
   simp only [encT,List.map_cons,List.map_nil] at hcall hgw
   simp only [b50_0,exec0,xreg,xops,wantedA,aopc,aop,ev,putA,endK,resA,tupA,List.length_cons,List.length_nil,List.replicate,List.cons_append,List.nil_append,List.append_nil,List.append_assoc,gs_same,gs_ne,gq_same,gq_ne,List.length_set,List.map_cons,List.map_nil,cellsOf,List.all_cons,List.all_nil,cellOk,boxTy,Bool.and_true,Bool.and_self,if_true,ite_true,ite_false,loadAt,storeAt,setAt,hget,hget0,hset,hset0,List.getElem?_cons_zero,List.getElem?_cons_succ,List.set_cons_zero,List.set_cons_succ,Nat.add_zero,Nat.zero_add,Nat.reduceAdd,Nat.reduceSub,Nat.reduceLeDiff,Nat.reduceLT,Nat.reduceEqDiff,Nat.le_refl,and_self,and_true,true_and,mkAgg,toIms,List.drop_zero,List.drop_succ_cons,List.take_succ_cons,List.take_zero,List.length_append,binA,isShift,binInt,binBool,unA,Bool.false_eq_true,if_false,partA,fillA,fillE,List.take_nil,Nat.zero_ne_one,Nat.one_ne_zero,not_false_eq_true,ne_eq,Nat.succ_ne_self,reduceCtorEq,Int.reduceEq,Int.reduceLT,Int.reduceLE,decide_true,decide_false,lenA,beq_self_eq_true,beq_true,beq_false,Bool.not_true,Bool.not_false,hlen,h1,h2,h23,h24,h25,hc',hix,hgw,hcall,hwr,hwd,hgetA,hset0]
   refine ex_imp (key _ _ n' (by have := hsl.2.2 trivial; omega) (by omega) ?_ ?_ ?_ ?_ ?_ ?_) ?_
   iterate 6 simp only [B3,Nat.reduceLT,Nat.reduceEqDiff,hlen,h1,h2,h23,h24,h25]
   exact fun e tm' H' h => h
  ·simp only [hb,Bool.false_eq_true,if_false] at hcall hsl ⊢
   generalize (smallT w n (d - 1)).2 = n' at *
   obtain ⟨k, s', ts⟩ := w
   simp only [encT,List.map_cons,List.map_nil] at hcall hgw
   simp only [b50_0,exec0,xreg,xops,wantedA,aopc,aop,ev,putA,endK,resA,tupA,List.length_cons,List.length_nil,List.replicate,List.cons_append,List.nil_append,List.append_nil,List.append_assoc,gs_same,gs_ne,gq_same,gq_ne,List.length_set,List.map_cons,List.map_nil,cellsOf,List.all_cons,List.all_nil,cellOk,boxTy,Bool.and_true,Bool.and_self,if_true,ite_true,ite_false,loadAt,storeAt,setAt,hget,hget0,hset,hset0,List.getElem?_cons_zero,List.getElem?_cons_succ,List.set_cons_zero,List.set_cons_succ,Nat.add_zero,Nat.zero_add,Nat.reduceAdd,Nat.reduceSub,Nat.reduceLeDiff,Nat.reduceLT,Nat.reduceEqDiff,Nat.le_refl,and_self,and_true,true_and,mkAgg,toIms,List.drop_zero,List.drop_succ_cons,List.take_succ_cons,List.take_zero,List.length_append,binA,isShift,binInt,binBool,unA,Bool.false_eq_true,if_false,partA,fillA,fillE,List.take_nil,Nat.zero_ne_one,Nat.one_ne_zero,not_false_eq_true,ne_eq,Nat.succ_ne_self,reduceCtorEq,Int.reduceEq,Int.reduceLT,Int.reduceLE,decide_true,decide_false,lenA,beq_self_eq_true,beq_true,beq_false,Bool.not_true,Bool.not_false,hlen,h1,h2,h23,h24,h25,hc',hix,hgw,hcall,hwr,hwd,hgetA,hset0]
   exact ⟨_, _, _, rfl, by simp only [List.length_set,hlen], ⟨_, rfl⟩, rfl, by simp only [B3,Nat.reduceLT,Nat.reduceEqDiff,hlen]⟩
theorem s50 : ∀ (t : KT), okT t → ∀ (n d : Int), 0 ≤ n → n ≤ 1000000 → 0 ≤ d → d ≤ 1000 → ∀ (idl : Nat) (H : Heap), H[idl]? = some (numO n) →
  L 50 [.im (.agg (encT t)), .ptr idl 0 0, .im (.int .i64 d)] H = some (.im (.bool (smallT t n d).1), H.set idl (numO (smallT t n d).2))
 | .mk k s args, hok, n, d, hn0, hn1, hd0, hd1, idl, H, hid => by
  simp only [okT] at hok
  obtain ⟨hs, hn, hoks⟩ := hok
  have hlt := (List.getElem?_eq_some_iff.1 hid).1
  have hgl : ∀ M : Heap, (H ++ M)[idl]? = some (numO n) := fun M => by rw [get_app hlt]; exact hid
  have hsl : ∀ (M : Heap) o, (H ++ M).set idl o = H.set idl o ++ M := fun M o => set_app hlt
  have hgs : ∀ (M : Heap) o, (H.set idl o ++ M)[idl]? = some o := fun M o => by rw [get_app (by simpa using hlt), List.getElem?_set_self hlt]
  have hgt : ∀ (o x : HO), (H.set idl o ++ [x])[H.length]? = some x := fun o x => by
   have := Go.Abs.hget0 (H := H.set idl o) (l := [x])
   rwa [List.length_set] at this
  have hel : (encTs args).length = args.length := by rw [encTs_map]; simp
  have hwn := wrap_small (n - 1) (by omega)
  have key := fun (hd : 1 ≤ d) => l50 args s hs hn d ⟨hd, hd1⟩ idl H hlt (fun a ha n hn0 hn1 H' hH' => s50 a (okTs_mem hoks a ha) n (d - 1) hn0 hn1 (by omega) (by omega) idl H' hH') args.length 0 (by omega)
  have z : ((0 : Nat) : Int) = 0 := rfl
  simp only [List.drop_zero,z] at key
  simp only [encT]
  rw [leq F50]
  obtain ⟨hlen, ha⟩ := enter_at (f := f50) (args := [.im (.agg [.int .i64 k, .sl s (encTs args)]), .ptr idl 0 0, .im (.int .i64 d)]) (Nat.le_of_ble_eq_true rfl)
  have h0 := ha 0 _ rfl
  have h1 := ha 1 _ rfl
  have h2 := ha 2 _ rfl
  generalize enterA f50 [.im (.agg [.int .i64 k, .sl s (encTs args)]), .ptr idl 0 0, .im (.int .i64 d)] = tm at *
  change tm.length = 36 at hlen
  have hlv : ∀ (b : Bool) (M : Heap) (v : Int), leave H false (.im (.bool b)) (H.set idl (.obj none [[.im (.int .i64 v)]]) ++ M) = (.im (.bool b), H.set idl (.obj none [[.im (.int .i64 v)]])) := fun b M v => leave_set
  simp only [numO] at hgl hlv hgs
  by_cases hn2 : n - 1 < 0
  ·have e1 : decide (n - 1 < 0) = true := decide_eq_true hn2
   simp only [smallT,hn2,true_or,if_true]
   simp only [f50,e50_0,exec0,xreg,xops,wantedA,aopc,aop,ev,putA,endK,resA,tupA,List.length_cons,List.length_nil,List.replicate,List.cons_append,List.nil_append,List.append_nil,List.append_assoc,gs_same,gs_ne,gq_same,gq_ne,List.length_set,List.map_cons,List.map_nil,cellsOf,List.all_cons,List.all_nil,cellOk,boxTy,Bool.and_true,Bool.and_self,if_true,ite_true,ite_false,loadAt,storeAt,setAt,hget,hget0,hset,hset0,List.getElem?_cons_zero,List.getElem?_cons_succ,List.set_cons_zero,List.set_cons_succ,Nat.add_zero,Nat.zero_add,Nat.reduceAdd,Nat.reduceSub,Nat.reduceLeDiff,Nat.reduceLT,Nat.reduceEqDiff,Nat.le_refl,and_self,and_true,true_and,mkAgg,toIms,List.drop_zero,List.drop_succ_cons,List.take_succ_cons,List.take_zero,List.length_append,binA,isShift,binInt,binBool,unA,Bool.false_eq_true,if_false,partA,fillA,fillE,List.take_nil,Nat.zero_ne_one,Nat.one_ne_zero,not_false_eq_true,ne_eq,Nat.succ_ne_self,reduceCtorEq,Int.reduceEq,Int.reduceLT,Int.reduceLE,decide_true,decide_false,lenA,beq_self_eq_true,beq_true,beq_false,Bool.not_true,Bool.not_false,hlen,h0,h1,h2,hel,hgl,hsl,hgs,hwn,e1,hlv,numO]
  ·have e1 : decide (n - 1 < 0) = false := decide_eq_false hn2
   by_cases hd2 : d = 0
   ·have e2 : decide (d = 0) = true := decide_eq_true hd2
    simp only [smallT,hn2,hd2,or_true,if_true]
    subst hd2
    simp only [f50,e50_0,exec0,xreg,xops,wantedA,aopc,aop,ev,putA,endK,resA,tupA,List.length_cons,List.length_nil,List.replicate,List.cons_append,List.nil_append,List.append_nil,List.append_assoc,gs_same,gs_ne,gq_same,gq_ne,List.length_set,List.map_cons,List.map_nil,cellsOf,List.all_cons,List.all_nil,cellOk,boxTy,Bool.and_true,Bool.and_self,if_true,ite_true,ite_false,loadAt,storeAt,setAt,hget,hget0,hset,hset0,List.getElem?_cons_zero,List.getElem?_cons_succ,List.set_cons_zero,List.set_cons_succ,Nat.add_zero,Nat.zero_add,Nat.reduceAdd,Nat.reduceSub,Nat.reduceLeDiff,Nat.reduceLT,Nat.reduceEqDiff,Nat.le_refl,and_self,and_true,true_and,mkAgg,toIms,List.drop_zero,List.drop_succ_cons,List.take_succ_cons,List.take_zero,List.length_append,binA,isShift,binInt,binBool,unA,Bool.false_eq_true,if_false,partA,fillA,fillE,List.take_nil,Nat.zero_ne_one,Nat.one_ne_zero,not_false_eq_true,ne_eq,Nat.succ_ne_self,reduceCtorEq,Int.reduceEq,Int.reduceLT,Int.reduceLE,decide_true,decide_false,lenA,beq_self_eq_true,beq_true,beq_false,Bool.not_true,Bool.not_false,hlen,h0,h1,h2,hel,hgl,hsl,hgs,hwn,e1,hlv,numO]
   ·have e2 : decide (d = 0) = false := decide_eq_false hd2
    simp only [smallT,hn2,hd2,or_self,if_false]
    simp only [f50,e50_0,exec0,xreg,xops,wantedA,aopc,aop,ev,putA,endK,resA,tupA,List.length_cons,List.length_nil,List.replicate,List.cons_append,List.nil_append,List.append_nil,List.append_assoc,gs_same,gs_ne,gq_same,gq_ne,List.length_set,List.map_cons,List.map_nil,cellsOf,List.all_cons,List.all_nil,cellOk,boxTy,Bool.and_true,Bool.and_self,if_true,ite_true,ite_false,loadAt,storeAt,setAt,hget,hget0,hset,hset0,List.getElem?_cons_zero,List.getElem?_cons_succ,List.set_cons_zero,List.set_cons_succ,Nat.add_zero,Nat.zero_add,Nat.reduceAdd,Nat.reduceSub,Nat.reduceLeDiff,Nat.reduceLT,Nat.reduceEqDiff,Nat.le_refl,and_self,and_true,true_and,mkAgg,toIms,List.drop_zero,List.drop_succ_cons,List.take_succ_cons,List.take_zero,List.length_append,binA,isShift,binInt,binBool,unA,Bool.false_eq_true,if_false,partA,fillA,fillE,List.take_nil,Nat.zero_ne_one,Nat.one_ne_zero,not_false_eq_true,ne_eq,Nat.succ_ne_self,reduceCtorEq,Int.reduceEq,Int.reduceLT,Int.reduceLE,decide_true,decide_false,lenA,beq_self_eq_true,beq_true,beq_false,Bool.not_true,Bool.not_false,hlen,h0,h1,h2,hel,hgl,hsl,hgs,hgt,hwn,e1,e2]
    have key := key (by omega)
    simp only [numO] at key
    refine thenL_of (key _ _ (n - 1) (by omega) (by omega) ?_ ?_ ?_ ?_ ?_ ?_) ?_
    iterate 6 simp only [B3,Nat.reduceLT,Nat.reduceEqDiff,hlen,h0,h1,h2,encTs_map]
    rintro e tm' H' ⟨hl', ⟨M, rfl⟩, hb⟩
    rcases Bool.eq_false_or_eq_true (smallTs args (n - 1) (d - 1)).1 with hq | hq
    ·simp only [hq,if_true] at hb
     subst hb
     simp only [exec0,xreg,xops,wantedA,aopc,aop,ev,putA,endK,resA,tupA,List.length_cons,List.length_nil,List.replicate,List.cons_append,List.nil_append,List.append_nil,List.append_assoc,gs_same,gs_ne,gq_same,gq_ne,List.length_set,List.map_cons,List.map_nil,cellsOf,List.all_cons,List.all_nil,cellOk,boxTy,Bool.and_true,Bool.and_self,if_true,ite_true,ite_false,loadAt,storeAt,setAt,hget,hget0,hset,hset0,List.getElem?_cons_zero,List.getElem?_cons_succ,List.set_cons_zero,List.set_cons_succ,Nat.add_zero,Nat.zero_add,Nat.reduceAdd,Nat.reduceSub,Nat.reduceLeDiff,Nat.reduceLT,Nat.reduceEqDiff,Nat.le_refl,and_self,and_true,true_and,mkAgg,toIms,List.drop_zero,List.drop_succ_cons,List.take_succ_cons,List.take_zero,List.length_append,binA,isShift,binInt,binBool,unA,Bool.false_eq_true,if_false,partA,fillA,fillE,List.take_nil,Nat.zero_ne_one,Nat.one_ne_zero,not_false_eq_true,ne_eq,Nat.succ_ne_self,reduceCtorEq,Int.reduceEq,Int.reduceLT,Int.reduceLE,decide_true,decide_false,lenA,beq_self_eq_true,beq_true,beq_false,Bool.not_true,Bool.not_false,hl',hlv,numO,hq]
    ·simp only [hq,Bool.false_eq_true,if_false] at hb
     obtain ⟨rfl, h6⟩ := hb
     simp only [exec0,xreg,xops,wantedA,aopc,aop,ev,putA,endK,resA,tupA,List.length_cons,List.length_nil,List.replicate,List.cons_append,List.nil_append,List.append_nil,List.append_assoc,gs_same,gs_ne,gq_same,gq_ne,List.length_set,List.map_cons,List.map_nil,cellsOf,List.all_cons,List.all_nil,cellOk,boxTy,Bool.and_true,Bool.and_self,if_true,ite_true,ite_false,loadAt,storeAt,setAt,hget,hget0,hset,hset0,List.getElem?_cons_zero,List.getElem?_cons_succ,List.set_cons_zero,List.set_cons_succ,Nat.add_zero,Nat.zero_add,Nat.reduceAdd,Nat.reduceSub,Nat.reduceLeDiff,Nat.reduceLT,Nat.reduceEqDiff,Nat.le_refl,and_self,and_true,true_and,mkAgg,toIms,List.drop_zero,List.drop_succ_cons,List.take_succ_cons,List.take_zero,List.length_append,binA,isShift,binInt,binBool,unA,Bool.false_eq_true,if_false,partA,fillA,fillE,List.take_nil,Nat.zero_ne_one,Nat.one_ne_zero,not_false_eq_true,ne_eq,Nat.succ_ne_self,reduceCtorEq,Int.reduceEq,Int.reduceLT,Int.reduceLE,decide_true,decide_false,lenA,beq_self_eq_true,beq_true,beq_false,Bool.not_true,Bool.not_false,hl',h6,hlv,numO,hq]
termination_by t => SizeOf.sizeOf t
decreasing_by
 have := List.sizeOf_lt_of_mem ha
 simp only [KT.mk.sizeOf_spec]
 omega
end Go.Abs.Seat
end
section
set_option linter.unusedVariables false
set_option linter.unusedSimpArgs false
namespace Go.Abs.Seat
open Go.Proofs
mutual
def handN : NT → Prop
 | .mk op i txt ty s kids => (-9223372036854775808 ≤ i ∧ i ≤ 9223372036854775807) ∧ (kids = [] ∨ s = 6) ∧ kids.length ≤ 9223372036854775807 ∧ okT ty ∧ handNs kids
def handNs : List NT → Prop
 | [] => True
 | a :: l => handN a ∧ handNs l
end
theorem handNs_mem : ∀ {l : List NT}, handNs l → ∀ a ∈ l, handN a
 | [], _, a, ha => by simp at ha
 | x :: l, h, a, ha => by
  simp only [handNs] at h
  rcases List.mem_cons.1 ha with rfl | ha
  ·exact h.1
  ·exact handNs_mem h.2 a ha
mutual
def fewN : NT → Int → Int → Bool × Int
 | .mk op _ txt ty _ kids, left, d =>
  if left - 1 < 0 ∨ d = 0 ∨ (10000 : Int) < (txt.length : Int) ∨ (100 : Int) < (op.length : Int) then (false, left - 1)
  else if (smallT ty (left - 1) 30).1 = true then fewNs kids (smallT ty (left - 1) 30).2 (d - 1) else (false, (smallT ty (left - 1) 30).2)
def fewNs : List NT → Int → Int → Bool × Int
 | [], left, _ => (true, left)
 | a :: l, left, d => if (fewN a left d).1 = true then fewNs l (fewN a left d).2 d else (false, (fewN a left d).2)
end
mutual
theorem fewN_left : ∀ (t : NT) (left d : Int), 0 ≤ left → -1 ≤ (fewN t left d).2 ∧ (fewN t left d).2 ≤ left ∧ ((fewN t left d).1 = true → 0 ≤ (fewN t left d).2)
 | .mk op _ txt ty _ kids, left, d, h => by
  simp only [fewN]
  split
  ·refine ⟨by simp only; omega, by simp only; omega, by simp⟩
  ·have h1 := smallT_left ty (left - 1) 30 (by omega)
   split
   ·rename_i hb
    have h2 := fewNs_left kids (smallT ty (left - 1) 30).2 (d - 1) (h1.2.2 hb)
    exact ⟨h2.1, by omega, h2.2.2⟩
   ·exact ⟨h1.1, by simp only; omega, by simp⟩
theorem fewNs_left : ∀ (l : List NT) (left d : Int), 0 ≤ left → -1 ≤ (fewNs l left d).2 ∧ (fewNs l left d).2 ≤ left ∧ ((fewNs l left d).1 = true → 0 ≤ (fewNs l left d).2)
 | [], left, d, h => by
  simp only [fewNs]
  exact ⟨by omega, by omega, fun _ => h⟩
 | a :: l, left, d, h => by
  have h1 := fewN_left a left d h
  simp only [fewNs]
  split
  ·rename_i hb
   have h2 := fewNs_left l (fewN a left d).2 d (h1.2.2 hb)
   exact ⟨h2.1, by omega, h2.2.2⟩
  ·exact ⟨h1.1, h1.2.1, by simp⟩
end
theorem l27 (kids : List NT) (s : Nat) (hs : kids = [] ∨ s = 6) (hn : kids.length ≤ 9223372036854775807) (d : Int) (hd : 1 ≤ d ∧ d ≤ 1000) (idl : Nat) (H0 : Heap) (hid : idl < H0.length)
  (hc : ∀ a ∈ kids, ∀ (n : Int), 0 ≤ n → n ≤ 1000000 → ∀ (H : Heap), H[idl]? = some (numO n) → L 27 [.im (.agg (encN a)), .ptr idl 0 0, .im (.int .i64 (d - 1))] H = some (.im (.bool (fewN a n (d - 1)).1), H.set idl (numO (fewN a n (d - 1)).2))) :
  ∀ (m i : Nat), i + m = kids.length → ∀ (tm : List AV) (M : Heap) (n : Int), 0 ≤ n → n ≤ 1000000 → tm.length = 55 → tm.getD 1 undefA = .ptr idl 0 0 → tm.getD 2 undefA = .im (.int .i64 d) → tm.getD 42 undefA = .im (.sl s (encNs kids)) → tm.getD 43 undefA = .im (.int .i64 kids.length) → tm.getD 44 undefA = .im (.int .i64 i) →
  ∃ e tm' H', Λ c27_0 tm (H0.set idl (numO n) ++ M) = some (e, tm', H') ∧ tm'.length = 55 ∧ (∃ M', H' = H0.set idl (numO (fewNs (kids.drop i) n (d - 1)).2) ++ M') ∧
   if (fewNs (kids.drop i) n (d - 1)).1 = true then e = .exit 0 else e = .ret ∧ tm'.getD 6 undefA = .im (.bool false)
 | 0, i, hi, tm, M, n, hn0, hn1, hlen, h1, h2, h23, h24, h25 => by
  have e : kids.drop i = [] := by rw [List.drop_eq_nil_iff]; omega
  have hc : decide ((i : Int) < (kids.length : Int)) = false := decide_eq_false (by omega)
  rw [l27_0, e]
  simp only [fewNs,if_true]
  simp only [b27_0,B0,B1,B2,List.replicate,Nat.reduceAdd,Nat.reduceSub,Nat.reduceLeDiff,Nat.reduceLT,Nat.reduceEqDiff,reduceCtorEq,Int.reduceEq,Int.reduceLT,Int.reduceLE,lenA,hlen,h1,h2,h23,h24,h25,hc]
  exact ⟨_, _, _, rfl, by simp only [List.length_set,hlen], ⟨_, rfl⟩, rfl⟩
 | m + 1, i, hi, tm, M, n, hn0, hn1, hlen, h1, h2, h23, h24, h25 => by
  have hlt : i < kids.length := by omega
  have e : kids.drop i = kids[i] :: kids.drop (i + 1) := List.drop_eq_getElem_cons hlt
  have hwi : kids[i]? = some kids[i] := List.getElem?_eq_getElem hlt
  generalize kids[i] = w at e hwi
  have hs6 : s = 6 := by
   rcases hs with hs | hs
   ·rw [hs] at hlt; simp at hlt
   ·exact hs
  subst hs6
  have hc' : decide ((i : Int) < (kids.length : Int)) = true := decide_eq_true (by omega)
  have hix := idx_nat (n := (encNs kids).length) (i := i) (by rw [encNs_map]; simpa using hlt)
  have hgw := encNs_at hwi
  have hcall := hc w (List.mem_of_getElem? hwi) n hn0 hn1 (H0.set idl (numO n) ++ (M ++ [.obj none [(encN w).map .im]])) (by rw [get_app (by simpa using hid), List.getElem?_set_self hid])
  rw [set_app (by simpa using hid), List.set_set] at hcall
  have hsl := fewN_left w n (d - 1) hn0
  have hwr := wrap_nat (i := i) (by omega)
  have hwd := wrap_small (d - 1) (by omega)
  have key := l27 kids 6 hs hn d hd idl H0 hid hc m (i + 1) (by omega)
  rw [l27_0, e]
  simp only [fewNs]
  have hset0 : ∀ o o' : HO, (H0.set idl (numO n) ++ (M ++ [o])).set ((H0.set idl (numO n)).length + M.length) o' = H0.set idl (numO n) ++ (M ++ [o']) := fun o o' => by
   rw [← List.append_assoc, ← List.append_assoc, ← List.length_append, Go.Abs.hset0]; rfl
  have hgetA : ∀ o, (H0.set idl (numO n) ++ (M ++ [o]))[(H0.set idl (numO n)).length + M.length]? = some o := fun o => by
   rw [← List.append_assoc, ← List.length_append, Go.Abs.hget0]; rfl
  rw [List.length_set] at hset0 hgetA
  rcases Bool.eq_false_or_eq_true (fewN w n (d - 1)).1 with hb | hb
  ·simp only [hb,if_true] at hcall hsl ⊢
   generalize (fewN w n (d - 1)).2 = n' at *
   obtain ⟨op, ni, txt, ty, ns, kk⟩ := w
   obtain ⟨tk, ts, targs⟩ := ty
   simp only [encN,List.map_cons,List.map_nil] at hcall hgw
   simp only [b27_0,B0,B1,B2,List.replicate,Nat.reduceAdd,Nat.reduceSub,Nat.reduceLeDiff,Nat.reduceLT,Nat.reduceEqDiff,reduceCtorEq,Int.reduceEq,Int.reduceLT,Int.reduceLE,lenA,hlen,h1,h2,h23,h24,h25,hc',hix,hgw,hcall,hwr,hwd,hgetA,hset0]
   refine ex_imp (key _ _ n' (by have := hsl.2.2 trivial; omega) (by omega) ?_ ?_ ?_ ?_ ?_ ?_) ?_
   iterate 6 simp only [B3,Nat.reduceLT,Nat.reduceEqDiff,hlen,h1,h2,h23,h24,h25]
   exact fun e tm' H' h => h
  ·simp only [hb,Bool.false_eq_true,if_false] at hcall hsl ⊢
   generalize (fewN w n (d - 1)).2 = n' at *
   obtain ⟨op, ni, txt, ty, ns, kk⟩ := w
   obtain ⟨tk, ts, targs⟩ := ty
   simp only [encN,List.map_cons,List.map_nil] at hcall hgw
   simp only [b27_0,B0,B1,B2,List.replicate,Nat.reduceAdd,Nat.reduceSub,Nat.reduceLeDiff,Nat.reduceLT,Nat.reduceEqDiff,reduceCtorEq,Int.reduceEq,Int.reduceLT,Int.reduceLE,lenA,hlen,h1,h2,h23,h24,h25,hc',hix,hgw,hcall,hwr,hwd,hgetA,hset0]
   exact ⟨_, _, _, rfl, by simp only [List.length_set,hlen], ⟨_, rfl⟩, rfl, by simp only [B3,Nat.reduceLT,Nat.reduceEqDiff,hlen]⟩
theorem s27 : ∀ (t : NT), handN t → ∀ (n d : Int), 0 ≤ n → n ≤ 1000000 → 0 ≤ d → d ≤ 1000 → ∀ (idl : Nat) (H : Heap), H[idl]? = some (numO n) →
  L 27 [.im (.agg (encN t)), .ptr idl 0 0, .im (.int .i64 d)] H = some (.im (.bool (fewN t n d).1), H.set idl (numO (fewN t n d).2))
 | .mk op ni txt (.mk tk ts targs) s kids, hok, n, d, hn0, hn1, hd0, hd1, idl, H, hid => by
  simp only [handN] at hok
  obtain ⟨_, hs, hn, hty, hoks⟩ := hok
  have hlt := (List.getElem?_eq_some_iff.1 hid).1
  have hgl : ∀ M : Heap, (H ++ M)[idl]? = some (numO n) := fun M => by rw [get_app hlt]; exact hid
  have hsl : ∀ (M : Heap) o, (H ++ M).set idl o = H.set idl o ++ M := fun M o => set_app hlt
  have hgs : ∀ (M : Heap) o, (H.set idl o ++ M)[idl]? = some o := fun M o => by rw [get_app (by simpa using hlt), List.getElem?_set_self hlt]
  have hss : ∀ (M : Heap) o o', (H.set idl o ++ M).set idl o' = H.set idl o' ++ M := fun M o o' => by rw [set_app (by simpa using hlt), List.set_set]
  have hgt : ∀ (o x : HO), (H.set idl o ++ [x])[H.length]? = some x := fun o x => by
   have := Go.Abs.hget0 (H := H.set idl o) (l := [x])
   rwa [List.length_set] at this
  have hel : (encNs kids).length = kids.length := by rw [encNs_map]; simp
  have hwn := wrap_small (n - 1) (by omega)
  have key := fun (hd : 1 ≤ d) => l27 kids s hs hn d ⟨hd, hd1⟩ idl H hlt (fun a ha n hn0 hn1 H' hH' => s27 a (handNs_mem hoks a ha) n (d - 1) hn0 hn1 (by omega) (by omega) idl H' hH') kids.length 0 (by omega)
  have z : ((0 : Nat) : Int) = 0 := rfl
  simp only [List.drop_zero,z] at key
  have c50 := fun (hn2 : ¬ n - 1 < 0) (M : Heap) => s50 (.mk tk ts targs) hty (n - 1) 30 (by omega) (by omega) (by decide) (by decide) idl (H.set idl (numO (n - 1)) ++ M) (hgs _ _)
  simp only [hss,encT] at c50
  simp only [encN]
  rw [leq F27]
  obtain ⟨hlen, ha⟩ := enter_at (f := f27) (args := [.im (.agg [.str op, .int .i64 ni, .str txt, .int .i64 tk, .sl ts (encTs targs), .sl s (encNs kids)]), .ptr idl 0 0, .im (.int .i64 d)]) (Nat.le_of_ble_eq_true rfl)
  have h0 := ha 0 _ rfl
  have h1 := ha 1 _ rfl
  have h2 := ha 2 _ rfl
  generalize enterA f27 [.im (.agg [.str op, .int .i64 ni, .str txt, .int .i64 tk, .sl ts (encTs targs), .sl s (encNs kids)]), .ptr idl 0 0, .im (.int .i64 d)] = tm at *
  change tm.length = 55 at hlen
  have hlv : ∀ (b : Bool) (M : Heap) (v : Int), leave H false (.im (.bool b)) (H.set idl (.obj none [[.im (.int .i64 v)]]) ++ M) = (.im (.bool b), H.set idl (.obj none [[.im (.int .i64 v)]])) := fun b M v => leave_set
  simp only [numO] at hgl hlv hgs c50
  by_cases hn2 : n - 1 < 0
  ·have e1 : decide (n - 1 < 0) = true := decide_eq_true hn2
   simp only [fewN,hn2,true_or,if_true]
   simp only [f27,e27_0,B0,B1,B2,List.replicate,Nat.reduceAdd,Nat.reduceSub,Nat.reduceLeDiff,Nat.reduceLT,Nat.reduceEqDiff,reduceCtorEq,Int.reduceEq,Int.reduceLT,Int.reduceLE,lenA,endK,resA,tupA,hlen,h0,h1,h2,hel,hgl,hsl,hgs,hwn,e1,hlv,numO]
  have e1 : decide (n - 1 < 0) = false := decide_eq_false hn2
  by_cases hd2 : d = 0
  ·have e2 : decide (d = 0) = true := decide_eq_true hd2
   simp only [fewN,hn2,hd2,true_or,or_true,if_true]
   simp only [f27,e27_0,B0,B1,B2,List.replicate,Nat.reduceAdd,Nat.reduceSub,Nat.reduceLeDiff,Nat.reduceLT,Nat.reduceEqDiff,reduceCtorEq,Int.reduceEq,Int.reduceLT,Int.reduceLE,lenA,endK,resA,tupA,hlen,h0,h1,h2,hel,hgl,hsl,hgs,hwn,e1,e2,hlv,numO]
  have e2 : decide (d = 0) = false := decide_eq_false hd2
  by_cases ht : (10000 : Int) < (txt.length : Int)
  ·have e3 : decide ((10000 : Int) < (txt.length : Int)) = true := decide_eq_true ht
   simp only [fewN,hn2,hd2,ht,true_or,or_true,if_true]
   simp only [f27,e27_0,B0,B1,B2,List.replicate,Nat.reduceAdd,Nat.reduceSub,Nat.reduceLeDiff,Nat.reduceLT,Nat.reduceEqDiff,reduceCtorEq,Int.reduceEq,Int.reduceLT,Int.reduceLE,lenA,endK,resA,tupA,hlen,h0,h1,h2,hel,hgl,hsl,hgs,hgt,hwn,e1,e2,e3,hlv,numO]
  have e3 : decide ((10000 : Int) < (txt.length : Int)) = false := decide_eq_false ht
  by_cases ho : (100 : Int) < (op.length : Int)
  ·have e4 : decide ((100 : Int) < (op.length : Int)) = true := decide_eq_true ho
   simp only [fewN,hn2,hd2,ht,ho,or_true,if_true]
   simp only [f27,e27_0,B0,B1,B2,List.replicate,Nat.reduceAdd,Nat.reduceSub,Nat.reduceLeDiff,Nat.reduceLT,Nat.reduceEqDiff,reduceCtorEq,Int.reduceEq,Int.reduceLT,Int.reduceLE,lenA,endK,resA,tupA,hlen,h0,h1,h2,hel,hgl,hsl,hgs,hgt,hwn,e1,e2,e3,e4,hlv,numO]
  have e4 : decide ((100 : Int) < (op.length : Int)) = false := decide_eq_false ho
  have c50 := c50 hn2
  have hsml := smallT_left (.mk tk ts targs) (n - 1) 30 (by omega)
  simp only [fewN,hn2,hd2,ht,ho,or_self,if_false]
  generalize smallT (.mk tk ts targs) (n - 1) 30 = q at *
  obtain ⟨qb, qn⟩ := q
  simp only at c50 hsml ⊢
  cases qb with
  | false =>
   simp only [Bool.false_eq_true,if_false]
   simp only [f27,e27_0,B0,B1,B2,List.replicate,Nat.reduceAdd,Nat.reduceSub,Nat.reduceLeDiff,Nat.reduceLT,Nat.reduceEqDiff,reduceCtorEq,Int.reduceEq,Int.reduceLT,Int.reduceLE,lenA,endK,resA,tupA,hlen,h0,h1,h2,hel,hgl,hsl,hgs,hgt,hwn,e1,e2,e3,e4,c50,hlv,numO]
  | true =>
   simp only [if_true]
   have hqn := hsml.2.2 rfl
   simp only [f27,e27_0,B0,B1,B2,List.replicate,Nat.reduceAdd,Nat.reduceSub,Nat.reduceLeDiff,Nat.reduceLT,Nat.reduceEqDiff,reduceCtorEq,Int.reduceEq,Int.reduceLT,Int.reduceLE,lenA,endK,resA,tupA,hlen,h0,h1,h2,hel,hgl,hsl,hgs,hgt,hwn,e1,e2,e3,e4,c50]
   have key := key (by omega)
   simp only [numO] at key
   refine thenL_of (key _ _ qn (by omega) (by omega) ?_ ?_ ?_ ?_ ?_ ?_) ?_
   iterate 6 simp only [B3,Nat.reduceLT,Nat.reduceEqDiff,hlen,h0,h1,h2]
   rintro e tm' H' ⟨hl', ⟨M, rfl⟩, hb⟩
   rcases Bool.eq_false_or_eq_true (fewNs kids qn (d - 1)).1 with hq | hq
   ·simp only [hq,if_true] at hb
    subst hb
    simp only [B0,B1,B2,List.replicate,Nat.reduceAdd,Nat.reduceSub,Nat.reduceLeDiff,Nat.reduceLT,Nat.reduceEqDiff,reduceCtorEq,Int.reduceEq,Int.reduceLT,Int.reduceLE,lenA,endK,resA,tupA,hl',hlv,numO,hq]
   ·simp only [hq,Bool.false_eq_true,if_false] at hb
    obtain ⟨rfl, h6⟩ := hb
    simp only [B0,B1,B2,List.replicate,Nat.reduceAdd,Nat.reduceSub,Nat.reduceLeDiff,Nat.reduceLT,Nat.reduceEqDiff,reduceCtorEq,Int.reduceEq,Int.reduceLT,Int.reduceLE,lenA,endK,resA,tupA,hl',h6,hlv,numO,hq]
termination_by t => SizeOf.sizeOf t
decreasing_by
 have := List.sizeOf_lt_of_mem ha
 simp only [NT.mk.sizeOf_spec]
 omega
theorem s15 (t : NT) (hok : handN t) (H : Heap) : L 15 [.im (.agg (encN t))] H = some (.im (.bool (fewN t 5000 60).1), H) := by
 have h27 := s27 t hok 5000 60 (by decide) (by decide) (by decide) (by decide)
 obtain ⟨op, ni, txt, ty, s, kids⟩ := t
 obtain ⟨tk, ts, targs⟩ := ty
 simp only [encN] at h27 ⊢
 rw [leq F15]
 obtain ⟨hlen, ha⟩ := enter_at (f := f15) (args := [.im (.agg [.str op, .int .i64 ni, .str txt, .int .i64 tk, .sl ts (encTs targs), .sl s (encNs kids)])]) (Nat.le_of_ble_eq_true rfl)
 have h0 := ha 0 _ rfl
 generalize enterA f15 [.im (.agg [.str op, .int .i64 ni, .str txt, .int .i64 tk, .sl ts (encTs targs), .sl s (encNs kids)])] = tm at *
 change tm.length = 6 at hlen
 have h27' := h27 (H.length + 1) (H ++ [.obj none [[.im (.str op), .im (.int .i64 ni), .im (.str txt), .im (.int .i64 tk), .im (.sl ts (encTs targs)), .im (.sl s (encNs kids))]], .obj none [[.im (.int .i64 5000)]]]) (by rw [Go.Abs.hget]; rfl)
 rw [Go.Abs.hset] at h27'
 simp only [f15,B0,B1,B2,List.replicate,Nat.reduceAdd,Nat.reduceSub,Nat.reduceLeDiff,Nat.reduceLT,Nat.reduceEqDiff,reduceCtorEq,Int.reduceEq,Int.reduceLT,Int.reduceLE,lenA,endK,resA,tupA,hlen,h0,h27',leave_app]
end Go.Abs.Seat
end
section
set_option linter.unusedVariables false
set_option linter.unusedSimpArgs false
namespace Go.Abs.Seat
open Go.Proofs
set_option maxRecDepth 100000 in
theorem awakeE : runC bld T 400 10 [] [] = some (.im (.bool true), []) := by kernel_rfl
theorem s10 (H : Heap) : L 10 [] H = some (.im (.bool true), H) := lim_at bsh Tok Tno awakeE H
end Go.Abs.Seat
end
section
set_option linter.unusedVariables false
set_option linter.unusedSimpArgs false
namespace Go.Abs.Seat
open Go.Proofs
mutual
def sizeN : NT → Nat
 | .mk _ _ _ _ _ kids => 1 + sizeNs kids
def sizeNs : List NT → Nat
 | [] => 0
 | a :: l => sizeN a + sizeNs l
end
mutual
theorem few_size : ∀ (t : NT) (left d : Int), 0 ≤ left → (fewN t left d).1 = true → (sizeN t : Int) + (fewN t left d).2 ≤ left
 | .mk op _ txt ty _ kids, left, d, h, hb => by
  simp only [fewN] at hb ⊢
  split at hb
  ·simp at hb
  ·rename_i h1
   rw [if_neg h1]
   have hs := smallT_left ty (left - 1) 30 (by omega)
   split at hb
   ·rename_i h2
    rw [if_pos h2]
    have := few_sizes kids _ (d - 1) (hs.2.2 h2) hb
    simp only [sizeN]
    omega
   ·simp at hb
theorem few_sizes : ∀ (l : List NT) (left d : Int), 0 ≤ left → (fewNs l left d).1 = true → (sizeNs l : Int) + (fewNs l left d).2 ≤ left
 | [], left, d, h, hb => by simp only [fewNs,sizeNs]; omega
 | a :: l, left, d, h, hb => by
  simp only [fewNs] at hb ⊢
  split at hb
  ·rename_i h1
   rw [if_pos h1]
   have h2 := few_size a left d h h1
   have h3 := fewN_left a left d h
   have h4 := few_sizes l _ d (h3.2.2 h1) hb
   simp only [sizeNs]
   omega
  ·simp at hb
end
mutual
theorem few_fine : ∀ (t : NT) (left d : Int), handN t → (fewN t left d).1 = true → fineN t
 | .mk op i txt ty s kids, left, d, hh, hb => by
  simp only [handN] at hh
  obtain ⟨hi, hs, _, hty, hk⟩ := hh
  simp only [fewN] at hb
  split at hb
  ·simp at hb
  ·rename_i h1
   split at hb
   ·simp only [fineN]
    exact ⟨hi, by omega, by omega, hs, hty, few_fines kids _ _ hk hb⟩
   ·simp at hb
theorem few_fines : ∀ (l : List NT) (left d : Int), handNs l → (fewNs l left d).1 = true → fineNs l
 | [], left, d, hh, hb => by simp only [fineNs]
 | a :: l, left, d, hh, hb => by
  simp only [handNs] at hh
  simp only [fewNs] at hb
  split at hb
  ·rename_i h1
   simp only [fineNs]
   exact ⟨few_fine a left d hh.1 h1, few_fines l _ d hh.2 hb⟩
  ·simp at hb
end
theorem sizeNs_le : ∀ {l : List NT} {a : NT}, a ∈ l → sizeN a ≤ sizeNs l
 | x :: l, a, h => by
  simp only [sizeNs]
  rcases List.mem_cons.1 h with rfl | h
  ·omega
  ·have := sizeNs_le h; omega
theorem l28 (kids : List NT) (s : Nat) (hs : kids = [] ∨ s = 6) (H0 : Heap) (hc : ∀ a ∈ kids, ∀ H, L 28 [.im (.agg (encN a))] H = some (.im (.int .i64 (sizeN a : Int)), H)) :
  ∀ (m i : Nat), i + m = kids.length → ∀ (tm : List AV) (M : Heap) (k : Nat), k + sizeNs (kids.drop i) ≤ 1000000000 → kids.length ≤ 1000000000 → tm.length = 19 → tm.getD 3 undefA = .im (.int .i64 (k : Int)) → tm.getD 7 undefA = .im (.sl s (encNs kids)) → tm.getD 8 undefA = .im (.int .i64 kids.length) → tm.getD 9 undefA = .im (.int .i64 i) →
  ∃ e tm' H', Λ c28_0 tm (H0 ++ M) = some (e, tm', H') ∧ tm'.length = 19 ∧ (∃ M', H' = H0 ++ M') ∧ e = .exit 0 ∧ tm'.getD 3 undefA = .im (.int .i64 ((k + sizeNs (kids.drop i) : Nat) : Int))
 | 0, i, hi, tm, M, k, hk, hkl, hlen, h3, h7, h8, h9 => by
  have e : kids.drop i = [] := by rw [List.drop_eq_nil_iff]; omega
  have hc : decide ((i : Int) < (kids.length : Int)) = false := decide_eq_false (by omega)
  rw [l28_0, e]
  simp only [b28_0,B0,B1,B2,List.replicate,Nat.reduceAdd,Nat.reduceSub,Nat.reduceLeDiff,Nat.reduceLT,Nat.reduceEqDiff,reduceCtorEq,Int.reduceEq,Int.reduceLT,Int.reduceLE,lenA,hlen,h3,h7,h8,h9,hc]
  exact ⟨_, _, _, rfl, by simp only [List.length_set,hlen], ⟨_, rfl⟩, rfl, by simp only [B3,Nat.reduceLT,Nat.reduceEqDiff,hlen,h3,sizeNs,Nat.add_zero]⟩
 | m + 1, i, hi, tm, M, k, hk, hkl, hlen, h3, h7, h8, h9 => by
  have hlt : i < kids.length := by omega
  have e : kids.drop i = kids[i] :: kids.drop (i + 1) := List.drop_eq_getElem_cons hlt
  have hwi : kids[i]? = some kids[i] := List.getElem?_eq_getElem hlt
  generalize kids[i] = w at e hwi
  have hs6 : s = 6 := by
   rcases hs with hs | hs
   ·rw [hs] at hlt; simp at hlt
   ·exact hs
  subst hs6
  rw [e] at hk
  simp only [sizeNs] at hk
  have hc' : decide ((i : Int) < (kids.length : Int)) = true := decide_eq_true (by omega)
  have hix := idx_nat (n := (encNs kids).length) (i := i) (by rw [encNs_map]; simpa using hlt)
  have hgw := encNs_at hwi
  have hcall := hc w (List.mem_of_getElem? hwi)
  have hwr := wrap_nat (i := i) (by omega)
  have hws : IntKind.i64.wrap ((k : Int) + (sizeN w : Int)) = ((k + sizeN w : Nat) : Int) := by rw [Go.Abs.Seat.wrap_small _ (by omega)]; omega
  have key := l28 kids 6 hs H0 hc m (i + 1) (by omega)
  rw [l28_0, e]
  have hset0 : ∀ o o' : HO, (H0 ++ (M ++ [o])).set (H0.length + M.length) o' = H0 ++ (M ++ [o']) := fun o o' => by
   rw [← List.append_assoc, ← List.append_assoc, ← List.length_append, Go.Abs.hset0]; rfl
  have hgetA : ∀ o, (H0 ++ (M ++ [o]))[H0.length + M.length]? = some o := fun o => by
   rw [← List.append_assoc, ← List.length_append, Go.Abs.hget0]; rfl
  have key := fun tm1 M => key tm1 M (k + sizeN w) (by omega) hkl
  simp only [sizeNs]
  rw [← Nat.add_assoc]
  generalize sizeN w = sw at *
  obtain ⟨op, ni, txt, ty, ns, kk⟩ := w
  obtain ⟨tk, ts, targs⟩ := ty
  simp only [encN,List.map_cons,List.map_nil] at hcall hgw
  simp only [b28_0,B0,B1,B2,List.replicate,Nat.reduceAdd,Nat.reduceSub,Nat.reduceLeDiff,Nat.reduceLT,Nat.reduceEqDiff,reduceCtorEq,Int.reduceEq,Int.reduceLT,Int.reduceLE,lenA,hlen,h3,h7,h8,h9,hc',hix,hgw,hcall,hwr,hws,hgetA,hset0]
  refine ex_imp (key _ _ ?_ ?_ ?_ ?_ ?_) fun _ _ _ h => h
  all_goals simp only [B3,Nat.reduceLT,Nat.reduceEqDiff,hlen,h7,h8]
theorem s28 : ∀ (t : NT), handN t → sizeN t ≤ 1000000000 → ∀ H, L 28 [.im (.agg (encN t))] H = some (.im (.int .i64 (sizeN t : Int)), H)
 | .mk op ni txt (.mk tk ts targs) s kids, hok, hsz, H => by
  simp only [handN] at hok
  obtain ⟨_, hs, hn, hty, hoks⟩ := hok
  simp only [sizeN] at hsz
  have hel : (encNs kids).length = kids.length := by rw [encNs_map]; simp
  have hkl : kids.length ≤ sizeNs kids := by
   clear hel hn hs hsz hoks
   induction kids with
   | nil => simp
   | cons a l ih =>
    simp only [sizeNs,List.length_cons]
    have : 1 ≤ sizeN a := by obtain ⟨a1, a2, a3, a4, a5, a6⟩ := a; simp only [sizeN]; omega
    omega
  have key := l28 kids s hs (H ++ [nOf op txt ni tk ts s targs kids]) (fun a ha H' => s28 a (handNs_mem hoks a ha) (by have := sizeNs_le ha; omega) H') kids.length 0 (by omega)
  have z : ((0 : Nat) : Int) = 0 := rfl
  have z1 : ((1 : Nat) : Int) = 1 := rfl
  have key := fun tm1 M => key tm1 M 1 (by simp only [List.drop_zero]; omega) (by omega)
  simp only [List.drop_zero,z,z1] at key
  have key0 := fun tm1 => key tm1 []
  simp only [List.append_nil,nOf] at key0
  simp only [encN,sizeN]
  rw [leq F28]
  obtain ⟨hlen, ha⟩ := enter_at (f := f28) (args := [.im (.agg [.str op, .int .i64 ni, .str txt, .int .i64 tk, .sl ts (encTs targs), .sl s (encNs kids)])]) (Nat.le_of_ble_eq_true rfl)
  have h0 := ha 0 _ rfl
  generalize enterA f28 [.im (.agg [.str op, .int .i64 ni, .str txt, .int .i64 tk, .sl ts (encTs targs), .sl s (encNs kids)])] = tm at *
  change tm.length = 19 at hlen
  simp only [f28,e28_0,B0,B1,B2,List.replicate,Nat.reduceAdd,Nat.reduceSub,Nat.reduceLeDiff,Nat.reduceLT,Nat.reduceEqDiff,reduceCtorEq,Int.reduceEq,Int.reduceLT,Int.reduceLE,lenA,endK,resA,tupA,hlen,h0,hel]
  refine thenL_of (key0 _ ?_ ?_ ?_ ?_ ?_) ?_
  iterate 5 simp only [B3,Nat.reduceLT,Nat.reduceEqDiff,hlen,h0]
  rintro e tm' H' ⟨hl', ⟨M, rfl⟩, rfl, h3⟩
  have hlv : ∀ v : Int, leave H false (.im (.int .i64 v)) (H ++ [nOf op txt ni tk ts s targs kids] ++ M) = (.im (.int .i64 v), H) := fun v => by rw [List.append_assoc]; exact leave_app
  simp only [nOf] at hlv
  simp only [B0,B1,B2,List.replicate,Nat.reduceAdd,Nat.reduceSub,Nat.reduceLeDiff,Nat.reduceLT,Nat.reduceEqDiff,reduceCtorEq,Int.reduceEq,Int.reduceLT,Int.reduceLE,lenA,endK,f28,resA,tupA,hl',h3]
  simp only [List.append_assoc,List.cons_append,List.nil_append] at hlv
  simp only [hlv]
termination_by t => SizeOf.sizeOf t
decreasing_by
 have := List.sizeOf_lt_of_mem ha
 simp only [NT.mk.sizeOf_spec]
 omega
end Go.Abs.Seat
end
