/- Part 8 of what the claim rests on. -/
import Derived.Test.YtmlpfgibpigcdaaGreatDoorListsA
import Derived.Test.YtmlpfgibpigcdaaGreatDoorListsB
import Derived.Test.YtmlpfgibpigcdaaGreatDoorListsC
import Derived.Test.YtmlpfgibpigcdaaGreatDoorListsD
import Derived.Test.YtmlpfgibpigcdaaGreatDoorListsE
import Derived.Test.YtmlpfgibpigcdaaGreatDoorListsF
import Derived.Test.YtmlpfgibpigcdaaGreatDoorListsG
section
set_option linter.unusedVariables false
set_option linter.unusedSimpArgs false
namespace Go.Abs.Seat
open Go.Proofs
variable {R : Type} {op : List UInt8} {tm : List AV} {H : Heap} (K : AEx → List AV → Heap → Option R)
def Same (l : List Nat) (tm tm' : List AV) : Prop := ∀ j ∈ l, tm'.getD j undefA = tm.getD j undefA
theorem Same.trans {l : List Nat} {a b c : List AV} (h : Same l a b) (k : Same l b c) : Same l a c := fun j hj => (k j hj).trans (h j hj)
def h55_0 : ACode := .ops [oo 4 (.alloc none [.im (.int .i64 0),.nils]),mc 5 (cb false)] []
def h55_1 : ACode := .ops [mv 13 1,oo 14 (.indexSl 2 (.t 13) (ci 0)),ld 15 2 14,oo 6 (.alloc none [.im (.int .i64 0),.nils]),st 2 6 15] []
def h55_2 : ACode := .ops [mv 16 1,mv 17 1,oo 18 (.lenSl (.t 17)),bi 19 .sub 18 (ci 1),oo 20 (.indexSl 2 (.t 16) (.t 19)),ld 21 2 20,oo 7 (.alloc none [.im (.int .i64 0),.nils]),st 2 7 21] []
def h55_3 : ACode := .ops [ld 22 2 6,ld 23 2 7,oo 24 (.call false (cl 16) [.t 22,.t 23]),mv 8 24] []
def h55_4 : ACode := .ops [ld 26 2 6,oo 27 (.call false (cl 36) [.t 26,ci 7,ci 0]),mv 25 27,ex 28 0 25,ex 29 1 25,oo 9 (.alloc none [.im (.int .i64 0),.nils]),st 2 9 28,mv 10 29] []
def h55_5 : ACode := .ops [mv 30 0] []
def x55_16 : ACode := .skip
def g55_15 : ACode := .ops [bi 157 .eql 30 (cs [115,111,109,101]),mv 156 157] []
def a55_15 : ACode := sq [mv 158 1,oo 159 (.build [.im (.int .i64 0),.nils] [(0,(1,ci 9)),(1,(1,.t 158))]),st 2 4 159,mc 5 (cb true)] .ret
def x55_15 : ACode := .seq g55_15 (.cond (.t 156) a55_15 x55_16)
def g55_14 : ACode := .ops [bi 150 .eql 30 (cs [114,97,110,103,101]),mv 149 150] []
def a55_14 : ACode := .seq (.ops [mv 151 1,oo 152 (.build [.im (.int .i64 0),.nils] [(0,(1,ci 7)),(1,(1,.t 151))]),fa 153 0 6,l0 154 153,bi 155 .eql 154 (ci 2),st 2 4 152,mv 5 155] [(3,5)]) .ret
def x55_14 : ACode := .seq g55_14 (.cond (.t 149) a55_14 x55_15)
def g55_13 : ACode := .ops [bi 139 .eql 30 (cs [97,116]),mv 138 139] []
def a55_13 : ACode := .seq (.ops [ld 140 2 9,oo 141 (.bslice false 2 1 [.im (.int .i64 0),.nils] [(0,.t 140)]),oo 142 (.build [.im (.int .i64 0),.nils] [(0,(1,ci 9)),(1,(1,.t 141))]),mv 143 10,mv 144 143,og 145 (.fieldAddr 0 (.t 7)) 144 true,og 146 (.load none (.t 145)) 144 true,og 147 (.bin .eql (.t 146) (ci 2)) 144 true,pa 148 144 147,st 2 4 142,mv 5 148] [(6,9)]) .ret
def x55_13 : ACode := .seq g55_13 (.cond (.t 138) a55_13 x55_14)
def g55_12 : ACode := .ops [bi 135 .eql 30 (cs [108,101,110]),mv 134 135] []
def a55_12 : ACode := sq [oo 136 (.call false (cl 49) [ci 2]),mv 137 10,st 2 4 136,mv 5 137] .ret
def x55_12 : ACode := .seq g55_12 (.cond (.t 134) a55_12 x55_13)
def g55_11 : ACode := .ops [bi 131 .eql 30 (cs [115,111,114,116]),mv 130 131] []
def a55_11 : ACode := sq [ld 132 2 6,mv 133 10,st 2 4 132,mv 5 133] .ret
def x55_11 : ACode := .seq g55_11 (.cond (.t 130) a55_11 x55_12)
def g55_10 : ACode := .ops [bi 124 .eql 30 (cs [99,111,110,99,97,116]),mv 123 124] []
def a55_10 : ACode := sq [ld 125 2 6,mv 126 10,mv 127 126,og 128 (.move (.t 8)) 127 true,pa 129 127 128,st 2 4 125,mv 5 129] .ret
def x55_10 : ACode := .seq g55_10 (.cond (.t 123) a55_10 x55_11)
def g55_9 : ACode := .ops [bi 110 .eql 30 (cs [99,111,110,115]),mv 109 110] []
def a55_9 : ACode := sq [ld 112 2 7,oo 113 (.call false (cl 36) [.t 112,ci 7,ci 0]),mv 111 113,ex 114 0 111,ex 115 1 111,oo 11 (.alloc none [.im (.int .i64 0),.nils]),st 2 11 114,mv 12 115] (.seq (.ops [ld 116 2 7,mv 117 12,mv 118 117,og 119 (.load (some 2) (.t 6)) 118 true,og 120 (.load (some 2) (.t 11)) 118 true,og 121 (.call false (cl 16) [.t 119,.t 120]) 118 true,pa 122 118 121,st 2 4 116,mv 5 122] [(0,5)]) .ret)
def x55_9 : ACode := .seq g55_9 (.cond (.t 109) a55_9 x55_10)
def g55_8 : ACode := .ops [bi 101 .eql 30 (cs [108,105,115,116]),mv 100 101] []
def a55_8 : ACode := sq [mv 102 1,oo 103 (.slice 2 (.t 102) none (some (ci 1)) none),oo 104 (.build [.im (.int .i64 0),.nils] [(0,(1,ci 7)),(1,(1,.t 103))]),mv 105 1,oo 106 (.mkfunc 83 [.t 6]),oo 107 (.call false (cl 48) [.t 105,.t 106]),oo 108 (.un .not (.t 107)),st 2 4 104,mv 5 108] .ret
def x55_8 : ACode := .seq g55_8 (.cond (.t 100) a55_8 x55_9)
def g55_7 : ACode := .ops [bi 97 .eql 30 (cs [112,97,105,114]),mv 96 97] []
def a55_7 : ACode := sq [mv 98 1,oo 99 (.build [.im (.int .i64 0),.nils] [(0,(1,ci 6)),(1,(1,.t 98))]),st 2 4 99,mc 5 (cb true)] .ret
def x55_7 : ACode := .seq g55_7 (.cond (.t 96) a55_7 x55_8)
def g55_6 : ACode := .ops [bi 84 .eql 30 (cs [105,102]),mv 83 84] []
def a55_6 : ACode := .seq (.ops [ld 85 2 7,fa 86 0 6,l0 87 86,bi 88 .eql 87 (ci 1),mv 89 88,og 90 (.move (.t 1)) 89 true,og 91 (.indexSl 2 (.t 90) (ci 1)) 89 true,og 92 (.load (some 2) (.t 91)) 89 true,og 93 (.load (some 2) (.t 7)) 89 true,og 94 (.call false (cl 16) [.t 92,.t 93]) 89 true,pa 95 89 94,st 2 4 85,mv 5 95] [(0,9)]) .ret
def x55_6 : ACode := .seq g55_6 (.cond (.t 83) a55_6 x55_7)
def g55_5 : ACode := .ops [bi 78 .eql 30 (cs [110,111,116]),mv 77 78] []
def a55_5 : ACode := .seq (.ops [ld 79 2 6,fa 80 0 6,l0 81 80,bi 82 .eql 81 (ci 1),st 2 4 79,mv 5 82] [(2,4)]) .ret
def x55_5 : ACode := .seq g55_5 (.cond (.t 77) a55_5 x55_6)
def g55_4 : ACode := sq [bi 71 .eql 30 (cs [97,110,100]),mv 70 71] (.cond (.t 70) .skip (.ops [bi 72 .eql 30 (cs [111,114]),mv 70 72] []))
def a55_4 : ACode := .seq (.ops [ld 73 2 6,mv 74 1,oo 75 (.bslice false 1 2 [.im (.int .i64 0)] [(0,ci 1),(1,ci 1)]),oo 76 (.call false (cl 82) [.t 74,.t 75]),st 2 4 73,mv 5 76] [(0,3)]) .ret
def x55_4 : ACode := .seq g55_4 (.cond (.t 70) a55_4 x55_5)
def g55_3 : ACode := sq [bi 66 .eql 30 (cs [101,113]),mv 65 66] (.cond (.t 65) .skip (.ops [bi 67 .eql 30 (cs [108,116]),mv 65 67] []))
def a55_3 : ACode := sq [oo 68 (.call false (cl 49) [ci 1]),mv 69 8,st 2 4 68,mv 5 69] .ret
def x55_3 : ACode := .seq g55_3 (.cond (.t 65) a55_3 x55_4)
def g55_2 : ACode := sq [bi 59 .eql 30 (cs [100,105,118]),mv 58 59] (.cond (.t 58) .skip (.ops [bi 60 .eql 30 (cs [109,111,100]),mv 58 60] []))
def a55_2 : ACode := .seq (.ops [ld 61 2 6,mv 62 1,oo 63 (.bslice false 1 2 [.im (.int .i64 0)] [(0,ci 2),(1,ci 2)]),oo 64 (.call false (cl 82) [.t 62,.t 63]),st 2 4 61,mv 5 64] [(0,3)]) .ret
def x55_2 : ACode := .seq g55_2 (.cond (.t 58) a55_2 x55_3)
def g55_1 : ACode := .ops [bi 48 .eql 30 (cs [110,101,103]),mv 47 48] []
def a55_1 : ACode := .seq (.ops [ld 49 2 6,fa 50 0 6,l0 51 50,bi 52 .eql 51 (ci 2),mv 53 52,og 54 (.fieldAddr 0 (.t 6)) 53 false,og 55 (.load none (.t 54)) 53 false,og 56 (.bin .eql (.t 55) (ci 5)) 53 false,po 57 53 56,st 2 4 49,mv 5 57] [(6,9)]) .ret
def x55_1 : ACode := .seq g55_1 (.cond (.t 47) a55_1 x55_2)
def g55_0 : ACode := sq [bi 32 .eql 30 (cs [97,100,100]),mv 31 32] (.cond (.t 31) .skip (sq [bi 33 .eql 30 (cs [115,117,98]),mv 31 33] (.cond (.t 31) .skip (.ops [bi 34 .eql 30 (cs [109,117,108]),mv 31 34] []))))
def a55_0 : ACode := .seq (.ops [ld 35 2 6,mv 36 8,mv 37 36,og 38 (.fieldAddr 0 (.t 6)) 37 true,og 39 (.load none (.t 38)) 37 true,og 40 (.bin .eql (.t 39) (ci 2)) 37 true,og 41 (.move (.t 40)) 37 true,og 42 (.fieldAddr 0 (.t 6)) 41 false,og 43 (.load none (.t 42)) 41 false,og 44 (.bin .eql (.t 43) (ci 5)) 41 false,og 45 (.pick (.t 41) (cb true) (.t 44)) 37 true,pa 46 37 45,st 2 4 35,mv 5 46] [(8,12)]) .ret
def x55_0 : ACode := .seq g55_0 (.cond (.t 31) a55_0 x55_1)
def lits55 : List (List (List UInt8)) := [[[97, 100, 100], [115, 117, 98], [109, 117, 108]], [[110, 101, 103]], [[100, 105, 118], [109, 111, 100]], [[101, 113], [108, 116]], [[97, 110, 100], [111, 114]], [[110, 111, 116]], [[105, 102]], [[112, 97, 105, 114]], [[108, 105, 115, 116]], [[99, 111, 110, 115]], [[99, 111, 110, 99, 97, 116]], [[115, 111, 114, 116]], [[108, 101, 110]], [[97, 116]], [[114, 97, 110, 103, 101]], [[115, 111, 109, 101]]]
theorem n55_0 (e0 : decide (op = [97, 100, 100]) = false) (e1 : decide (op = [115, 117, 98]) = false) (e2 : decide (op = [109, 117, 108]) = false) (hlen : tm.length = 165) (hs : tm.getD 30 undefA = .im (.str op)) :
  ∃ tm', exec0 L Λ x55_0 tm H K = exec0 L Λ x55_1 tm' H K ∧ tm'.length = 165 ∧ Same [0,1,4,5,6,7,8,9,10,30] tm tm' := by
 simp only [x55_0,g55_0,B0,B1,B2,List.replicate,reduceCtorEq,lenA,seval,hlen,hs,e0,e1,e2]
 refine ⟨_, rfl, by simp only [List.length_set,hlen], fun r hr => ?_⟩
 simp only [List.mem_cons,List.not_mem_nil,or_false] at hr
 rcases hr with rfl | rfl | rfl | rfl | rfl | rfl | rfl | rfl | rfl | rfl <;> simp only [B3,seval,hlen]
theorem n55_1 (e0 : decide (op = [110, 101, 103]) = false) (hlen : tm.length = 165) (hs : tm.getD 30 undefA = .im (.str op)) :
  ∃ tm', exec0 L Λ x55_1 tm H K = exec0 L Λ x55_2 tm' H K ∧ tm'.length = 165 ∧ Same [0,1,4,5,6,7,8,9,10,30] tm tm' := by
 simp only [x55_1,g55_1,B0,B1,B2,List.replicate,reduceCtorEq,lenA,seval,hlen,hs,e0]
 refine ⟨_, rfl, by simp only [List.length_set,hlen], fun r hr => ?_⟩
 simp only [List.mem_cons,List.not_mem_nil,or_false] at hr
 rcases hr with rfl | rfl | rfl | rfl | rfl | rfl | rfl | rfl | rfl | rfl <;> simp only [B3,seval,hlen]
theorem n55_2 (e0 : decide (op = [100, 105, 118]) = false) (e1 : decide (op = [109, 111, 100]) = false) (hlen : tm.length = 165) (hs : tm.getD 30 undefA = .im (.str op)) :
  ∃ tm', exec0 L Λ x55_2 tm H K = exec0 L Λ x55_3 tm' H K ∧ tm'.length = 165 ∧ Same [0,1,4,5,6,7,8,9,10,30] tm tm' := by
 simp only [x55_2,g55_2,B0,B1,B2,List.replicate,reduceCtorEq,lenA,seval,hlen,hs,e0,e1]
 refine ⟨_, rfl, by simp only [List.length_set,hlen], fun r hr => ?_⟩
 simp only [List.mem_cons,List.not_mem_nil,or_false] at hr
 rcases hr with rfl | rfl | rfl | rfl | rfl | rfl | rfl | rfl | rfl | rfl <;> simp only [B3,seval,hlen]
theorem n55_3 (e0 : decide (op = [101, 113]) = false) (e1 : decide (op = [108, 116]) = false) (hlen : tm.length = 165) (hs : tm.getD 30 undefA = .im (.str op)) :
  ∃ tm', exec0 L Λ x55_3 tm H K = exec0 L Λ x55_4 tm' H K ∧ tm'.length = 165 ∧ Same [0,1,4,5,6,7,8,9,10,30] tm tm' := by
 simp only [x55_3,g55_3,B0,B1,B2,List.replicate,reduceCtorEq,lenA,seval,hlen,hs,e0,e1]
 refine ⟨_, rfl, by simp only [List.length_set,hlen], fun r hr => ?_⟩
 simp only [List.mem_cons,List.not_mem_nil,or_false] at hr
 rcases hr with rfl | rfl | rfl | rfl | rfl | rfl | rfl | rfl | rfl | rfl <;> simp only [B3,seval,hlen]
theorem n55_4 (e0 : decide (op = [97, 110, 100]) = false) (e1 : decide (op = [111, 114]) = false) (hlen : tm.length = 165) (hs : tm.getD 30 undefA = .im (.str op)) :
  ∃ tm', exec0 L Λ x55_4 tm H K = exec0 L Λ x55_5 tm' H K ∧ tm'.length = 165 ∧ Same [0,1,4,5,6,7,8,9,10,30] tm tm' := by
 simp only [x55_4,g55_4,B0,B1,B2,List.replicate,reduceCtorEq,lenA,seval,hlen,hs,e0,e1]
 refine ⟨_, rfl, by simp only [List.length_set,hlen], fun r hr => ?_⟩
 simp only [List.mem_cons,List.not_mem_nil,or_false] at hr
 rcases hr with rfl | rfl | rfl | rfl | rfl | rfl | rfl | rfl | rfl | rfl <;> simp only [B3,seval,hlen]
theorem n55_5 (e0 : decide (op = [110, 111, 116]) = false) (hlen : tm.length = 165) (hs : tm.getD 30 undefA = .im (.str op)) :
  ∃ tm', exec0 L Λ x55_5 tm H K = exec0 L Λ x55_6 tm' H K ∧ tm'.length = 165 ∧ Same [0,1,4,5,6,7,8,9,10,30] tm tm' := by
 simp only [x55_5,g55_5,B0,B1,B2,List.replicate,reduceCtorEq,lenA,seval,hlen,hs,e0]
 refine ⟨_, rfl, by simp only [List.length_set,hlen], fun r hr => ?_⟩
 simp only [List.mem_cons,List.not_mem_nil,or_false] at hr
 rcases hr with rfl | rfl | rfl | rfl | rfl | rfl | rfl | rfl | rfl | rfl <;> simp only [B3,seval,hlen]
theorem n55_6 (e0 : decide (op = [105, 102]) = false) (hlen : tm.length = 165) (hs : tm.getD 30 undefA = .im (.str op)) :
  ∃ tm', exec0 L Λ x55_6 tm H K = exec0 L Λ x55_7 tm' H K ∧ tm'.length = 165 ∧ Same [0,1,4,5,6,7,8,9,10,30] tm tm' := by
 simp only [x55_6,g55_6,B0,B1,B2,List.replicate,reduceCtorEq,lenA,seval,hlen,hs,e0]
 refine ⟨_, rfl, by simp only [List.length_set,hlen], fun r hr => ?_⟩
 simp only [List.mem_cons,List.not_mem_nil,or_false] at hr
 rcases hr with rfl | rfl | rfl | rfl | rfl | rfl | rfl | rfl | rfl | rfl <;> simp only [B3,seval,hlen]
theorem n55_7 (e0 : decide (op = [112, 97, 105, 114]) = false) (hlen : tm.length = 165) (hs : tm.getD 30 undefA = .im (.str op)) :
  ∃ tm', exec0 L Λ x55_7 tm H K = exec0 L Λ x55_8 tm' H K ∧ tm'.length = 165 ∧ Same [0,1,4,5,6,7,8,9,10,30] tm tm' := by
 simp only [x55_7,g55_7,B0,B1,B2,List.replicate,reduceCtorEq,lenA,seval,hlen,hs,e0]
 refine ⟨_, rfl, by simp only [List.length_set,hlen], fun r hr => ?_⟩
 simp only [List.mem_cons,List.not_mem_nil,or_false] at hr
 rcases hr with rfl | rfl | rfl | rfl | rfl | rfl | rfl | rfl | rfl | rfl <;> simp only [B3,seval,hlen]
theorem n55_8 (e0 : decide (op = [108, 105, 115, 116]) = false) (hlen : tm.length = 165) (hs : tm.getD 30 undefA = .im (.str op)) :
  ∃ tm', exec0 L Λ x55_8 tm H K = exec0 L Λ x55_9 tm' H K ∧ tm'.length = 165 ∧ Same [0,1,4,5,6,7,8,9,10,30] tm tm' := by
 simp only [x55_8,g55_8,B0,B1,B2,List.replicate,reduceCtorEq,lenA,seval,hlen,hs,e0]
 refine ⟨_, rfl, by simp only [List.length_set,hlen], fun r hr => ?_⟩
 simp only [List.mem_cons,List.not_mem_nil,or_false] at hr
 rcases hr with rfl | rfl | rfl | rfl | rfl | rfl | rfl | rfl | rfl | rfl <;> simp only [B3,seval,hlen]
theorem n55_9 (e0 : decide (op = [99, 111, 110, 115]) = false) (hlen : tm.length = 165) (hs : tm.getD 30 undefA = .im (.str op)) :
  ∃ tm', exec0 L Λ x55_9 tm H K = exec0 L Λ x55_10 tm' H K ∧ tm'.length = 165 ∧ Same [0,1,4,5,6,7,8,9,10,30] tm tm' := by
 simp only [x55_9,g55_9,B0,B1,B2,List.replicate,reduceCtorEq,lenA,seval,hlen,hs,e0]
 refine ⟨_, rfl, by simp only [List.length_set,hlen], fun r hr => ?_⟩
 simp only [List.mem_cons,List.not_mem_nil,or_false] at hr
 rcases hr with rfl | rfl | rfl | rfl | rfl | rfl | rfl | rfl | rfl | rfl <;> simp only [B3,seval,hlen]
theorem n55_10 (e0 : decide (op = [99, 111, 110, 99, 97, 116]) = false) (hlen : tm.length = 165) (hs : tm.getD 30 undefA = .im (.str op)) :
  ∃ tm', exec0 L Λ x55_10 tm H K = exec0 L Λ x55_11 tm' H K ∧ tm'.length = 165 ∧ Same [0,1,4,5,6,7,8,9,10,30] tm tm' := by
 simp only [x55_10,g55_10,B0,B1,B2,List.replicate,reduceCtorEq,lenA,seval,hlen,hs,e0]
 refine ⟨_, rfl, by simp only [List.length_set,hlen], fun r hr => ?_⟩
 simp only [List.mem_cons,List.not_mem_nil,or_false] at hr
 rcases hr with rfl | rfl | rfl | rfl | rfl | rfl | rfl | rfl | rfl | rfl <;> simp only [B3,seval,hlen]
theorem n55_11 (e0 : decide (op = [115, 111, 114, 116]) = false) (hlen : tm.length = 165) (hs : tm.getD 30 undefA = .im (.str op)) :
  ∃ tm', exec0 L Λ x55_11 tm H K = exec0 L Λ x55_12 tm' H K ∧ tm'.length = 165 ∧ Same [0,1,4,5,6,7,8,9,10,30] tm tm' := by
 simp only [x55_11,g55_11,B0,B1,B2,List.replicate,reduceCtorEq,lenA,seval,hlen,hs,e0]
 refine ⟨_, rfl, by simp only [List.length_set,hlen], fun r hr => ?_⟩
 simp only [List.mem_cons,List.not_mem_nil,or_false] at hr
 rcases hr with rfl | rfl | rfl | rfl | rfl | rfl | rfl | rfl | rfl | rfl <;> simp only [B3,seval,hlen]
theorem n55_12 (e0 : decide (op = [108, 101, 110]) = false) (hlen : tm.length = 165) (hs : tm.getD 30 undefA = .im (.str op)) :
  ∃ tm', exec0 L Λ x55_12 tm H K = exec0 L Λ x55_13 tm' H K ∧ tm'.length = 165 ∧ Same [0,1,4,5,6,7,8,9,10,30] tm tm' := by
 simp only [x55_12,g55_12,B0,B1,B2,List.replicate,reduceCtorEq,lenA,seval,hlen,hs,e0]
 refine ⟨_, rfl, by simp only [List.length_set,hlen], fun r hr => ?_⟩
 simp only [List.mem_cons,List.not_mem_nil,or_false] at hr
 rcases hr with rfl | rfl | rfl | rfl | rfl | rfl | rfl | rfl | rfl | rfl <;> simp only [B3,seval,hlen]
theorem n55_13 (e0 : decide (op = [97, 116]) = false) (hlen : tm.length = 165) (hs : tm.getD 30 undefA = .im (.str op)) :
  ∃ tm', exec0 L Λ x55_13 tm H K = exec0 L Λ x55_14 tm' H K ∧ tm'.length = 165 ∧ Same [0,1,4,5,6,7,8,9,10,30] tm tm' := by
 simp only [x55_13,g55_13,B0,B1,B2,List.replicate,reduceCtorEq,lenA,seval,hlen,hs,e0]
 refine ⟨_, rfl, by simp only [List.length_set,hlen], fun r hr => ?_⟩
 simp only [List.mem_cons,List.not_mem_nil,or_false] at hr
 rcases hr with rfl | rfl | rfl | rfl | rfl | rfl | rfl | rfl | rfl | rfl <;> simp only [B3,seval,hlen]
theorem n55_14 (e0 : decide (op = [114, 97, 110, 103, 101]) = false) (hlen : tm.length = 165) (hs : tm.getD 30 undefA = .im (.str op)) :
  ∃ tm', exec0 L Λ x55_14 tm H K = exec0 L Λ x55_15 tm' H K ∧ tm'.length = 165 ∧ Same [0,1,4,5,6,7,8,9,10,30] tm tm' := by
 simp only [x55_14,g55_14,B0,B1,B2,List.replicate,reduceCtorEq,lenA,seval,hlen,hs,e0]
 refine ⟨_, rfl, by simp only [List.length_set,hlen], fun r hr => ?_⟩
 simp only [List.mem_cons,List.not_mem_nil,or_false] at hr
 rcases hr with rfl | rfl | rfl | rfl | rfl | rfl | rfl | rfl | rfl | rfl <;> simp only [B3,seval,hlen]
theorem n55_15 (e0 : decide (op = [115, 111, 109, 101]) = false) (hlen : tm.length = 165) (hs : tm.getD 30 undefA = .im (.str op)) :
  ∃ tm', exec0 L Λ x55_15 tm H K = exec0 L Λ x55_16 tm' H K ∧ tm'.length = 165 ∧ Same [0,1,4,5,6,7,8,9,10,30] tm tm' := by
 simp only [x55_15,g55_15,B0,B1,B2,List.replicate,reduceCtorEq,lenA,seval,hlen,hs,e0]
 refine ⟨_, rfl, by simp only [List.length_set,hlen], fun r hr => ?_⟩
 simp only [List.mem_cons,List.not_mem_nil,or_false] at hr
 rcases hr with rfl | rfl | rfl | rfl | rfl | rfl | rfl | rfl | rfl | rfl <;> simp only [B3,seval,hlen]
theorem to55_0 (hlen : tm.length = 165) (hs : tm.getD 30 undefA = .im (.str op)) (h : ∀ g ∈ lits55.take 0, ∀ w ∈ g, op ≠ w) :
  ∃ tm', exec0 L Λ x55_0 tm H K = exec0 L Λ x55_0 tm' H K ∧ tm'.length = 165 ∧ Same [0,1,4,5,6,7,8,9,10,30] tm tm' := ⟨tm, rfl, hlen, fun _ _ => rfl⟩
theorem to55_1 (hlen : tm.length = 165) (hs : tm.getD 30 undefA = .im (.str op)) (h : ∀ g ∈ lits55.take 1, ∀ w ∈ g, op ≠ w) :
  ∃ tm', exec0 L Λ x55_0 tm H K = exec0 L Λ x55_1 tm' H K ∧ tm'.length = 165 ∧ Same [0,1,4,5,6,7,8,9,10,30] tm tm' := by
 obtain ⟨t1, h1, h2, h3⟩ := to55_0 (op := op) (H := H) K hlen hs (fun g hg => h g (List.mem_of_mem_take (show g ∈ (lits55.take 1).take 0 by rw [List.take_take]; exact hg)))
 obtain ⟨t2, k1, k2, k3⟩ := n55_0 (op := op) (H := H) K (decide_eq_false (h [[97, 100, 100], [115, 117, 98], [109, 117, 108]] (by simp [lits55]) [97, 100, 100] (by simp))) (decide_eq_false (h [[97, 100, 100], [115, 117, 98], [109, 117, 108]] (by simp [lits55]) [115, 117, 98] (by simp))) (decide_eq_false (h [[97, 100, 100], [115, 117, 98], [109, 117, 108]] (by simp [lits55]) [109, 117, 108] (by simp))) h2 ((h3 30 (by simp)).trans hs)
 exact ⟨t2, h1.trans k1, k2, h3.trans k3⟩
theorem to55_2 (hlen : tm.length = 165) (hs : tm.getD 30 undefA = .im (.str op)) (h : ∀ g ∈ lits55.take 2, ∀ w ∈ g, op ≠ w) :
  ∃ tm', exec0 L Λ x55_0 tm H K = exec0 L Λ x55_2 tm' H K ∧ tm'.length = 165 ∧ Same [0,1,4,5,6,7,8,9,10,30] tm tm' := by
 obtain ⟨t1, h1, h2, h3⟩ := to55_1 (op := op) (H := H) K hlen hs (fun g hg => h g (List.mem_of_mem_take (show g ∈ (lits55.take 2).take 1 by rw [List.take_take]; exact hg)))
 obtain ⟨t2, k1, k2, k3⟩ := n55_1 (op := op) (H := H) K (decide_eq_false (h [[110, 101, 103]] (by simp [lits55]) [110, 101, 103] (by simp))) h2 ((h3 30 (by simp)).trans hs)
 exact ⟨t2, h1.trans k1, k2, h3.trans k3⟩
theorem to55_3 (hlen : tm.length = 165) (hs : tm.getD 30 undefA = .im (.str op)) (h : ∀ g ∈ lits55.take 3, ∀ w ∈ g, op ≠ w) :
  ∃ tm', exec0 L Λ x55_0 tm H K = exec0 L Λ x55_3 tm' H K ∧ tm'.length = 165 ∧ Same [0,1,4,5,6,7,8,9,10,30] tm tm' := by
 obtain ⟨t1, h1, h2, h3⟩ := to55_2 (op := op) (H := H) K hlen hs (fun g hg => h g (List.mem_of_mem_take (show g ∈ (lits55.take 3).take 2 by rw [List.take_take]; exact hg)))
 obtain ⟨t2, k1, k2, k3⟩ := n55_2 (op := op) (H := H) K (decide_eq_false (h [[100, 105, 118], [109, 111, 100]] (by simp [lits55]) [100, 105, 118] (by simp))) (decide_eq_false (h [[100, 105, 118], [109, 111, 100]] (by simp [lits55]) [109, 111, 100] (by simp))) h2 ((h3 30 (by simp)).trans hs)
 exact ⟨t2, h1.trans k1, k2, h3.trans k3⟩
theorem to55_4 (hlen : tm.length = 165) (hs : tm.getD 30 undefA = .im (.str op)) (h : ∀ g ∈ lits55.take 4, ∀ w ∈ g, op ≠ w) :
  ∃ tm', exec0 L Λ x55_0 tm H K = exec0 L Λ x55_4 tm' H K ∧ tm'.length = 165 ∧ Same [0,1,4,5,6,7,8,9,10,30] tm tm' := by
 obtain ⟨t1, h1, h2, h3⟩ := to55_3 (op := op) (H := H) K hlen hs (fun g hg => h g (List.mem_of_mem_take (show g ∈ (lits55.take 4).take 3 by rw [List.take_take]; exact hg)))
 obtain ⟨t2, k1, k2, k3⟩ := n55_3 (op := op) (H := H) K (decide_eq_false (h [[101, 113], [108, 116]] (by simp [lits55]) [101, 113] (by simp))) (decide_eq_false (h [[101, 113], [108, 116]] (by simp [lits55]) [108, 116] (by simp))) h2 ((h3 30 (by simp)).trans hs)
 exact ⟨t2, h1.trans k1, k2, h3.trans k3⟩
theorem to55_5 (hlen : tm.length = 165) (hs : tm.getD 30 undefA = .im (.str op)) (h : ∀ g ∈ lits55.take 5, ∀ w ∈ g, op ≠ w) :
  ∃ tm', exec0 L Λ x55_0 tm H K = exec0 L Λ x55_5 tm' H K ∧ tm'.length = 165 ∧ Same [0,1,4,5,6,7,8,9,10,30] tm tm' := by
 obtain ⟨t1, h1, h2, h3⟩ := to55_4 (op := op) (H := H) K hlen hs (fun g hg => h g (List.mem_of_mem_take (show g ∈ (lits55.take 5).take 4 by rw [List.take_take]; exact hg)))
 obtain ⟨t2, k1, k2, k3⟩ := n55_4 (op := op) (H := H) K (decide_eq_false (h [[97, 110, 100], [111, 114]] (by simp [lits55]) [97, 110, 100] (by simp))) (decide_eq_false (h [[97, 110, 100], [111, 114]] (by simp [lits55]) [111, 114] (by simp))) h2 ((h3 30 (by simp)).trans hs)
 exact ⟨t2, h1.trans k1, k2, h3.trans k3⟩
theorem to55_6 (hlen : tm.length = 165) (hs : tm.getD 30 undefA = .im (.str op)) (h : ∀ g ∈ lits55.take 6, ∀ w ∈ g, op ≠ w) :
  ∃ tm', exec0 L Λ x55_0 tm H K = exec0 L Λ x55_6 tm' H K ∧ tm'.length = 165 ∧ Same [0,1,4,5,6,7,8,9,10,30] tm tm' := by
 obtain ⟨t1, h1, h2, h3⟩ := to55_5 (op := op) (H := H) K hlen hs (fun g hg => h g (List.mem_of_mem_take (show g ∈ (lits55.take 6).take 5 by rw [List.take_take]; exact hg)))
 obtain ⟨t2, k1, k2, k3⟩ := n55_5 (op := op) (H := H) K (decide_eq_false (h [[110, 111, 116]] (by simp [lits55]) [110, 111, 116] (by simp))) h2 ((h3 30 (by simp)).trans hs)
 exact ⟨t2, h1.trans k1, k2, h3.trans k3⟩
theorem to55_7 (hlen : tm.length = 165) (hs : tm.getD 30 undefA = .im (.str op)) (h : ∀ g ∈ lits55.take 7, ∀ w ∈ g, op ≠ w) :
  ∃ tm', exec0 L Λ x55_0 tm H K = exec0 L Λ x55_7 tm' H K ∧ tm'.length = 165 ∧ Same [0,1,4,5,6,7,8,9,10,30] tm tm' := by
 obtain ⟨t1, h1, h2, h3⟩ := to55_6 (op := op) (H := H) K hlen hs (fun g hg => h g (List.mem_of_mem_take (show g ∈ (lits55.take 7).take 6 by rw [List.take_take]; exact hg)))
 obtain ⟨t2, k1, k2, k3⟩ := n55_6 (op := op) (H := H) K (decide_eq_false (h [[105, 102]] (by simp [lits55]) [105, 102] (by simp))) h2 ((h3 30 (by simp)).trans hs)
 exact ⟨t2, h1.trans k1, k2, h3.trans k3⟩
theorem to55_8 (hlen : tm.length = 165) (hs : tm.getD 30 undefA = .im (.str op)) (h : ∀ g ∈ lits55.take 8, ∀ w ∈ g, op ≠ w) :
  ∃ tm', exec0 L Λ x55_0 tm H K = exec0 L Λ x55_8 tm' H K ∧ tm'.length = 165 ∧ Same [0,1,4,5,6,7,8,9,10,30] tm tm' := by
 obtain ⟨t1, h1, h2, h3⟩ := to55_7 (op := op) (H := H) K hlen hs (fun g hg => h g (List.mem_of_mem_take (show g ∈ (lits55.take 8).take 7 by rw [List.take_take]; exact hg)))
 obtain ⟨t2, k1, k2, k3⟩ := n55_7 (op := op) (H := H) K (decide_eq_false (h [[112, 97, 105, 114]] (by simp [lits55]) [112, 97, 105, 114] (by simp))) h2 ((h3 30 (by simp)).trans hs)
 exact ⟨t2, h1.trans k1, k2, h3.trans k3⟩
theorem to55_9 (hlen : tm.length = 165) (hs : tm.getD 30 undefA = .im (.str op)) (h : ∀ g ∈ lits55.take 9, ∀ w ∈ g, op ≠ w) :
  ∃ tm', exec0 L Λ x55_0 tm H K = exec0 L Λ x55_9 tm' H K ∧ tm'.length = 165 ∧ Same [0,1,4,5,6,7,8,9,10,30] tm tm' := by
 obtain ⟨t1, h1, h2, h3⟩ := to55_8 (op := op) (H := H) K hlen hs (fun g hg => h g (List.mem_of_mem_take (show g ∈ (lits55.take 9).take 8 by rw [List.take_take]; exact hg)))
 obtain ⟨t2, k1, k2, k3⟩ := n55_8 (op := op) (H := H) K (decide_eq_false (h [[108, 105, 115, 116]] (by simp [lits55]) [108, 105, 115, 116] (by simp))) h2 ((h3 30 (by simp)).trans hs)
 exact ⟨t2, h1.trans k1, k2, h3.trans k3⟩
theorem to55_10 (hlen : tm.length = 165) (hs : tm.getD 30 undefA = .im (.str op)) (h : ∀ g ∈ lits55.take 10, ∀ w ∈ g, op ≠ w) :
  ∃ tm', exec0 L Λ x55_0 tm H K = exec0 L Λ x55_10 tm' H K ∧ tm'.length = 165 ∧ Same [0,1,4,5,6,7,8,9,10,30] tm tm' := by
 obtain ⟨t1, h1, h2, h3⟩ := to55_9 (op := op) (H := H) K hlen hs (fun g hg => h g (List.mem_of_mem_take (show g ∈ (lits55.take 10).take 9 by rw [List.take_take]; exact hg)))
 obtain ⟨t2, k1, k2, k3⟩ := n55_9 (op := op) (H := H) K (decide_eq_false (h [[99, 111, 110, 115]] (by simp [lits55]) [99, 111, 110, 115] (by simp))) h2 ((h3 30 (by simp)).trans hs)
 exact ⟨t2, h1.trans k1, k2, h3.trans k3⟩
theorem to55_11 (hlen : tm.length = 165) (hs : tm.getD 30 undefA = .im (.str op)) (h : ∀ g ∈ lits55.take 11, ∀ w ∈ g, op ≠ w) :
  ∃ tm', exec0 L Λ x55_0 tm H K = exec0 L Λ x55_11 tm' H K ∧ tm'.length = 165 ∧ Same [0,1,4,5,6,7,8,9,10,30] tm tm' := by
 obtain ⟨t1, h1, h2, h3⟩ := to55_10 (op := op) (H := H) K hlen hs (fun g hg => h g (List.mem_of_mem_take (show g ∈ (lits55.take 11).take 10 by rw [List.take_take]; exact hg)))
 obtain ⟨t2, k1, k2, k3⟩ := n55_10 (op := op) (H := H) K (decide_eq_false (h [[99, 111, 110, 99, 97, 116]] (by simp [lits55]) [99, 111, 110, 99, 97, 116] (by simp))) h2 ((h3 30 (by simp)).trans hs)
 exact ⟨t2, h1.trans k1, k2, h3.trans k3⟩
theorem to55_12 (hlen : tm.length = 165) (hs : tm.getD 30 undefA = .im (.str op)) (h : ∀ g ∈ lits55.take 12, ∀ w ∈ g, op ≠ w) :
  ∃ tm', exec0 L Λ x55_0 tm H K = exec0 L Λ x55_12 tm' H K ∧ tm'.length = 165 ∧ Same [0,1,4,5,6,7,8,9,10,30] tm tm' := by
 obtain ⟨t1, h1, h2, h3⟩ := to55_11 (op := op) (H := H) K hlen hs (fun g hg => h g (List.mem_of_mem_take (show g ∈ (lits55.take 12).take 11 by rw [List.take_take]; exact hg)))
 obtain ⟨t2, k1, k2, k3⟩ := n55_11 (op := op) (H := H) K (decide_eq_false (h [[115, 111, 114, 116]] (by simp [lits55]) [115, 111, 114, 116] (by simp))) h2 ((h3 30 (by simp)).trans hs)
 exact ⟨t2, h1.trans k1, k2, h3.trans k3⟩
theorem to55_13 (hlen : tm.length = 165) (hs : tm.getD 30 undefA = .im (.str op)) (h : ∀ g ∈ lits55.take 13, ∀ w ∈ g, op ≠ w) :
  ∃ tm', exec0 L Λ x55_0 tm H K = exec0 L Λ x55_13 tm' H K ∧ tm'.length = 165 ∧ Same [0,1,4,5,6,7,8,9,10,30] tm tm' := by
 obtain ⟨t1, h1, h2, h3⟩ := to55_12 (op := op) (H := H) K hlen hs (fun g hg => h g (List.mem_of_mem_take (show g ∈ (lits55.take 13).take 12 by rw [List.take_take]; exact hg)))
 obtain ⟨t2, k1, k2, k3⟩ := n55_12 (op := op) (H := H) K (decide_eq_false (h [[108, 101, 110]] (by simp [lits55]) [108, 101, 110] (by simp))) h2 ((h3 30 (by simp)).trans hs)
 exact ⟨t2, h1.trans k1, k2, h3.trans k3⟩
theorem to55_14 (hlen : tm.length = 165) (hs : tm.getD 30 undefA = .im (.str op)) (h : ∀ g ∈ lits55.take 14, ∀ w ∈ g, op ≠ w) :
  ∃ tm', exec0 L Λ x55_0 tm H K = exec0 L Λ x55_14 tm' H K ∧ tm'.length = 165 ∧ Same [0,1,4,5,6,7,8,9,10,30] tm tm' := by
 obtain ⟨t1, h1, h2, h3⟩ := to55_13 (op := op) (H := H) K hlen hs (fun g hg => h g (List.mem_of_mem_take (show g ∈ (lits55.take 14).take 13 by rw [List.take_take]; exact hg)))
 obtain ⟨t2, k1, k2, k3⟩ := n55_13 (op := op) (H := H) K (decide_eq_false (h [[97, 116]] (by simp [lits55]) [97, 116] (by simp))) h2 ((h3 30 (by simp)).trans hs)
 exact ⟨t2, h1.trans k1, k2, h3.trans k3⟩
theorem to55_15 (hlen : tm.length = 165) (hs : tm.getD 30 undefA = .im (.str op)) (h : ∀ g ∈ lits55.take 15, ∀ w ∈ g, op ≠ w) :
  ∃ tm', exec0 L Λ x55_0 tm H K = exec0 L Λ x55_15 tm' H K ∧ tm'.length = 165 ∧ Same [0,1,4,5,6,7,8,9,10,30] tm tm' := by
 obtain ⟨t1, h1, h2, h3⟩ := to55_14 (op := op) (H := H) K hlen hs (fun g hg => h g (List.mem_of_mem_take (show g ∈ (lits55.take 15).take 14 by rw [List.take_take]; exact hg)))
 obtain ⟨t2, k1, k2, k3⟩ := n55_14 (op := op) (H := H) K (decide_eq_false (h [[114, 97, 110, 103, 101]] (by simp [lits55]) [114, 97, 110, 103, 101] (by simp))) h2 ((h3 30 (by simp)).trans hs)
 exact ⟨t2, h1.trans k1, k2, h3.trans k3⟩
theorem to55_16 (hlen : tm.length = 165) (hs : tm.getD 30 undefA = .im (.str op)) (h : ∀ g ∈ lits55.take 16, ∀ w ∈ g, op ≠ w) :
  ∃ tm', exec0 L Λ x55_0 tm H K = exec0 L Λ x55_16 tm' H K ∧ tm'.length = 165 ∧ Same [0,1,4,5,6,7,8,9,10,30] tm tm' := by
 obtain ⟨t1, h1, h2, h3⟩ := to55_15 (op := op) (H := H) K hlen hs (fun g hg => h g (List.mem_of_mem_take (show g ∈ (lits55.take 16).take 15 by rw [List.take_take]; exact hg)))
 obtain ⟨t2, k1, k2, k3⟩ := n55_15 (op := op) (H := H) K (decide_eq_false (h [[115, 111, 109, 101]] (by simp [lits55]) [115, 111, 109, 101] (by simp))) h2 ((h3 30 (by simp)).trans hs)
 exact ⟨t2, h1.trans k1, k2, h3.trans k3⟩
def h55_6 : ACode := .ops [mv 160 0,mv 161 1,oo 162 (.call false (cl 84) [.t 160,.t 161]),ex 163 0 162,ex 164 1 162,st 2 4 163,mv 5 164] []
def h55_7 : ACode := .ret
theorem f55_code : f55 = ⟨165, [(4, (some (some 2))), (5, none)], (.seq h55_0 (.seq h55_1 (.seq h55_2 (.seq h55_3 (.seq h55_4 (.seq (.seq h55_5 (.block 0 x55_0)) (.seq h55_6 h55_7))))))), false⟩ := rfl
def h84_0 : ACode := .ops [oo 4 (.alloc none [.im (.int .i64 0),.nils]),mc 5 (cb false)] []
def h84_1 : ACode := .ops [mv 11 1,oo 12 (.indexSl 2 (.t 11) (ci 0)),ld 13 2 12,oo 6 (.alloc none [.im (.int .i64 0),.nils]),st 2 6 13] []
def h84_2 : ACode := .ops [fa 14 0 6,l0 15 14,bi 16 .eql 15 (ci 3),mv 17 16,og 18 (.fieldAddr 0 (.t 6)) 17 false,og 19 (.load none (.t 18)) 17 false,og 20 (.bin .eql (.t 19) (ci 4)) 17 false,po 21 17 20,mv 7 21] []
def h84_3 : ACode := .ops [mv 22 0] []
def x84_12 : ACode := .skip
def g84_11 : ACode := .ops [bi 107 .eql 22 (cs [99,111,110,106]),mv 106 107] []
def a84_11 : ACode := .seq (.ops [ld 108 2 6,fa 109 0 6,l0 110 109,bi 111 .eql 110 (ci 5),st 2 4 108,mv 5 111] [(2,4)]) .ret
def x84_11 : ACode := .seq g84_11 (.cond (.t 106) a84_11 x84_12)
def g84_10 : ACode := sq [bi 100 .eql 22 (cs [114,101]),mv 99 100] (.cond (.t 99) .skip (.ops [bi 101 .eql 22 (cs [105,109]),mv 99 101] []))
def a84_10 : ACode := .seq (.ops [oo 102 (.call false (cl 49) [ci 2]),fa 103 0 6,l0 104 103,bi 105 .eql 104 (ci 5),st 2 4 102,mv 5 105] [(2,0),(2,4)]) .ret
def x84_10 : ACode := .seq g84_10 (.cond (.t 99) a84_10 x84_11)
def g84_9 : ACode := .ops [bi 94 .eql 22 (cs [112,111,105,110,116]),mv 93 94] []
def a84_9 : ACode := sq [oo 95 (.call false (cl 49) [ci 5]),mv 96 1,oo 97 (.bslice false 1 2 [.im (.int .i64 0)] [(0,ci 2),(1,ci 2)]),oo 98 (.call false (cl 82) [.t 96,.t 97]),st 2 4 95,mv 5 98] .ret
def x84_9 : ACode := .seq g84_9 (.cond (.t 93) a84_9 x84_10)
def g84_8 : ACode := .ops [bi 88 .eql 22 (cs [115,104,111,119]),mv 87 88] []
def a84_8 : ACode := .seq (.ops [oo 89 (.call false (cl 49) [ci 3]),fa 90 0 6,l0 91 90,bi 92 .eql 91 (ci 2),st 2 4 89,mv 5 92] [(2,0),(2,4)]) .ret
def x84_8 : ACode := .seq g84_8 (.cond (.t 87) a84_8 x84_9)
def g84_7 : ACode := .ops [bi 82 .eql 22 (cs [116,101,120,116]),mv 81 82] []
def a84_7 : ACode := .seq (.ops [oo 83 (.call false (cl 49) [ci 3]),fa 84 0 6,l0 85 84,bi 86 .eql 85 (ci 4),st 2 4 83,mv 5 86] [(2,0),(2,4)]) .ret
def x84_7 : ACode := .seq g84_7 (.cond (.t 81) a84_7 x84_8)
def g84_6 : ACode := .ops [bi 76 .eql 22 (cs [98,121,116,101,115]),mv 75 76] []
def a84_6 : ACode := .seq (.ops [oo 77 (.call false (cl 49) [ci 4]),fa 78 0 6,l0 79 78,bi 80 .eql 79 (ci 3),st 2 4 77,mv 5 80] [(2,0),(2,4)]) .ret
def x84_6 : ACode := .seq g84_6 (.cond (.t 75) a84_6 x84_7)
def g84_5 : ACode := .ops [bi 66 .eql 22 (cs [99,117,116]),mv 65 66] []
def a84_5 : ACode := .seq (.ops [ld 67 2 6,mv 68 7,mv 69 68,og 70 (.move (.t 1)) 69 true,og 71 (.slice 2 (.t 70) (some (ci 1)) none none) 69 true,og 72 (.bslice false 1 2 [.im (.int .i64 0)] [(0,ci 2),(1,ci 2)]) 69 true,og 73 (.call false (cl 82) [.t 71,.t 72]) 69 true,pa 74 69 73,st 2 4 67,mv 5 74] [(0,6)]) .ret
def x84_5 : ACode := .seq g84_5 (.cond (.t 65) a84_5 x84_6)
def g84_4 : ACode := .ops [bi 62 .eql 22 (cs [115,105,122,101]),mv 61 62] []
def a84_4 : ACode := sq [oo 63 (.call false (cl 49) [ci 2]),mv 64 7,st 2 4 63,mv 5 64] .ret
def x84_4 : ACode := .seq g84_4 (.cond (.t 61) a84_4 x84_5)
def g84_3 : ACode := .ops [bi 56 .eql 22 (cs [106,111,105,110]),mv 55 56] []
def a84_3 : ACode := .seq (.ops [ld 57 2 6,mv 58 1,oo 59 (.bslice false 1 2 [.im (.int .i64 0)] [(0,ci 3),(1,ci 3)]),oo 60 (.call false (cl 82) [.t 58,.t 59]),st 2 4 57,mv 5 60] [(0,3)]) .ret
def x84_3 : ACode := .seq g84_3 (.cond (.t 55) a84_3 x84_4)
def g84_2 : ACode := .ops [bi 40 .eql 22 (cs [111,114,95,101,108,115,101]),mv 39 40] []
def a84_2 : ACode := sq [ld 42 2 6,oo 43 (.call false (cl 36) [.t 42,ci 9,ci 0]),mv 41 43,ex 44 0 41,ex 45 1 41,oo 9 (.alloc none [.im (.int .i64 0),.nils]),st 2 9 44,mv 10 45] (.seq (.ops [ld 46 2 9,mv 47 10,mv 48 47,og 49 (.load (some 2) (.t 9)) 48 true,og 50 (.move (.t 1)) 48 true,og 51 (.indexSl 2 (.t 50) (ci 1)) 48 true,og 52 (.load (some 2) (.t 51)) 48 true,og 53 (.call false (cl 16) [.t 49,.t 52]) 48 true,pa 54 48 53,st 2 4 46,mv 5 54] [(0,7)]) .ret)
def x84_2 : ACode := .seq g84_2 (.cond (.t 39) a84_2 x84_3)
def g84_1 : ACode := .ops [bi 34 .eql 22 (cs [105,115,95,115,111,109,101]),mv 33 34] []
def a84_1 : ACode := .seq (.ops [oo 35 (.call false (cl 49) [ci 1]),fa 36 0 6,l0 37 36,bi 38 .eql 37 (ci 9),st 2 4 35,mv 5 38] [(2,0),(2,4)]) .ret
def x84_1 : ACode := .seq g84_1 (.cond (.t 33) a84_1 x84_2)
def g84_0 : ACode := sq [bi 24 .eql 22 (cs [102,105,114,115,116]),mv 23 24] (.cond (.t 23) .skip (.ops [bi 25 .eql 22 (cs [115,101,99,111,110,100]),mv 23 25] []))
def a84_0 : ACode := sq [mc 8 (ci 0)] (.seq (sq [mv 26 0,bi 27 .eql 26 (cs [115,101,99,111,110,100])] (.cond (.t 27) (.ops [mc 8 (ci 1)] []) .skip)) (sq [ld 28 2 6,mv 29 8,oo 30 (.call false (cl 36) [.t 28,ci 6,.t 29]),ex 31 0 30,ex 32 1 30,st 2 4 31,mv 5 32] .ret))
def x84_0 : ACode := .seq g84_0 (.cond (.t 23) a84_0 x84_1)
def lits84 : List (List (List UInt8)) := [[[102, 105, 114, 115, 116], [115, 101, 99, 111, 110, 100]], [[105, 115, 95, 115, 111, 109, 101]], [[111, 114, 95, 101, 108, 115, 101]], [[106, 111, 105, 110]], [[115, 105, 122, 101]], [[99, 117, 116]], [[98, 121, 116, 101, 115]], [[116, 101, 120, 116]], [[115, 104, 111, 119]], [[112, 111, 105, 110, 116]], [[114, 101], [105, 109]], [[99, 111, 110, 106]]]
theorem n84_0 (e0 : decide (op = [102, 105, 114, 115, 116]) = false) (e1 : decide (op = [115, 101, 99, 111, 110, 100]) = false) (hlen : tm.length = 113) (hs : tm.getD 22 undefA = .im (.str op)) :
  ∃ tm', exec0 L Λ x84_0 tm H K = exec0 L Λ x84_1 tm' H K ∧ tm'.length = 113 ∧ Same [0,1,4,5,6,7,22] tm tm' := by
 simp only [x84_0,g84_0,B0,B1,B2,List.replicate,reduceCtorEq,lenA,seval,hlen,hs,e0,e1]
 refine ⟨_, rfl, by simp only [List.length_set,hlen], fun r hr => ?_⟩
 simp only [List.mem_cons,List.not_mem_nil,or_false] at hr
 rcases hr with rfl | rfl | rfl | rfl | rfl | rfl | rfl <;> simp only [B3,seval,hlen]
theorem n84_1 (e0 : decide (op = [105, 115, 95, 115, 111, 109, 101]) = false) (hlen : tm.length = 113) (hs : tm.getD 22 undefA = .im (.str op)) :
  ∃ tm', exec0 L Λ x84_1 tm H K = exec0 L Λ x84_2 tm' H K ∧ tm'.length = 113 ∧ Same [0,1,4,5,6,7,22] tm tm' := by
 simp only [x84_1,g84_1,B0,B1,B2,List.replicate,reduceCtorEq,lenA,seval,hlen,hs,e0]
 refine ⟨_, rfl, by simp only [List.length_set,hlen], fun r hr => ?_⟩
 simp only [List.mem_cons,List.not_mem_nil,or_false] at hr
 rcases hr with rfl | rfl | rfl | rfl | rfl | rfl | rfl <;> simp only [B3,seval,hlen]
theorem n84_2 (e0 : decide (op = [111, 114, 95, 101, 108, 115, 101]) = false) (hlen : tm.length = 113) (hs : tm.getD 22 undefA = .im (.str op)) :
  ∃ tm', exec0 L Λ x84_2 tm H K = exec0 L Λ x84_3 tm' H K ∧ tm'.length = 113 ∧ Same [0,1,4,5,6,7,22] tm tm' := by
 simp only [x84_2,g84_2,B0,B1,B2,List.replicate,reduceCtorEq,lenA,seval,hlen,hs,e0]
 refine ⟨_, rfl, by simp only [List.length_set,hlen], fun r hr => ?_⟩
 simp only [List.mem_cons,List.not_mem_nil,or_false] at hr
 rcases hr with rfl | rfl | rfl | rfl | rfl | rfl | rfl <;> simp only [B3,seval,hlen]
theorem n84_3 (e0 : decide (op = [106, 111, 105, 110]) = false) (hlen : tm.length = 113) (hs : tm.getD 22 undefA = .im (.str op)) :
  ∃ tm', exec0 L Λ x84_3 tm H K = exec0 L Λ x84_4 tm' H K ∧ tm'.length = 113 ∧ Same [0,1,4,5,6,7,22] tm tm' := by
 simp only [x84_3,g84_3,B0,B1,B2,List.replicate,reduceCtorEq,lenA,seval,hlen,hs,e0]
 refine ⟨_, rfl, by simp only [List.length_set,hlen], fun r hr => ?_⟩
 simp only [List.mem_cons,List.not_mem_nil,or_false] at hr
 rcases hr with rfl | rfl | rfl | rfl | rfl | rfl | rfl <;> simp only [B3,seval,hlen]
theorem n84_4 (e0 : decide (op = [115, 105, 122, 101]) = false) (hlen : tm.length = 113) (hs : tm.getD 22 undefA = .im (.str op)) :
  ∃ tm', exec0 L Λ x84_4 tm H K = exec0 L Λ x84_5 tm' H K ∧ tm'.length = 113 ∧ Same [0,1,4,5,6,7,22] tm tm' := by
 simp only [x84_4,g84_4,B0,B1,B2,List.replicate,reduceCtorEq,lenA,seval,hlen,hs,e0]
 refine ⟨_, rfl, by simp only [List.length_set,hlen], fun r hr => ?_⟩
 simp only [List.mem_cons,List.not_mem_nil,or_false] at hr
 rcases hr with rfl | rfl | rfl | rfl | rfl | rfl | rfl <;> simp only [B3,seval,hlen]
theorem n84_5 (e0 : decide (op = [99, 117, 116]) = false) (hlen : tm.length = 113) (hs : tm.getD 22 undefA = .im (.str op)) :
  ∃ tm', exec0 L Λ x84_5 tm H K = exec0 L Λ x84_6 tm' H K ∧ tm'.length = 113 ∧ Same [0,1,4,5,6,7,22] tm tm' := by
 simp only [x84_5,g84_5,B0,B1,B2,List.replicate,reduceCtorEq,lenA,seval,hlen,hs,e0]
 refine ⟨_, rfl, by simp only [List.length_set,hlen], fun r hr => ?_⟩
 simp only [List.mem_cons,List.not_mem_nil,or_false] at hr
 rcases hr with rfl | rfl | rfl | rfl | rfl | rfl | rfl <;> simp only [B3,seval,hlen]
theorem n84_6 (e0 : decide (op = [98, 121, 116, 101, 115]) = false) (hlen : tm.length = 113) (hs : tm.getD 22 undefA = .im (.str op)) :
  ∃ tm', exec0 L Λ x84_6 tm H K = exec0 L Λ x84_7 tm' H K ∧ tm'.length = 113 ∧ Same [0,1,4,5,6,7,22] tm tm' := by
 simp only [x84_6,g84_6,B0,B1,B2,List.replicate,reduceCtorEq,lenA,seval,hlen,hs,e0]
 refine ⟨_, rfl, by simp only [List.length_set,hlen], fun r hr => ?_⟩
 simp only [List.mem_cons,List.not_mem_nil,or_false] at hr
 rcases hr with rfl | rfl | rfl | rfl | rfl | rfl | rfl <;> simp only [B3,seval,hlen]
theorem n84_7 (e0 : decide (op = [116, 101, 120, 116]) = false) (hlen : tm.length = 113) (hs : tm.getD 22 undefA = .im (.str op)) :
  ∃ tm', exec0 L Λ x84_7 tm H K = exec0 L Λ x84_8 tm' H K ∧ tm'.length = 113 ∧ Same [0,1,4,5,6,7,22] tm tm' := by
 simp only [x84_7,g84_7,B0,B1,B2,List.replicate,reduceCtorEq,lenA,seval,hlen,hs,e0]
 refine ⟨_, rfl, by simp only [List.length_set,hlen], fun r hr => ?_⟩
 simp only [List.mem_cons,List.not_mem_nil,or_false] at hr
 rcases hr with rfl | rfl | rfl | rfl | rfl | rfl | rfl <;> simp only [B3,seval,hlen]
theorem n84_8 (e0 : decide (op = [115, 104, 111, 119]) = false) (hlen : tm.length = 113) (hs : tm.getD 22 undefA = .im (.str op)) :
  ∃ tm', exec0 L Λ x84_8 tm H K = exec0 L Λ x84_9 tm' H K ∧ tm'.length = 113 ∧ Same [0,1,4,5,6,7,22] tm tm' := by
 simp only [x84_8,g84_8,B0,B1,B2,List.replicate,reduceCtorEq,lenA,seval,hlen,hs,e0]
 refine ⟨_, rfl, by simp only [List.length_set,hlen], fun r hr => ?_⟩
 simp only [List.mem_cons,List.not_mem_nil,or_false] at hr
 rcases hr with rfl | rfl | rfl | rfl | rfl | rfl | rfl <;> simp only [B3,seval,hlen]
theorem n84_9 (e0 : decide (op = [112, 111, 105, 110, 116]) = false) (hlen : tm.length = 113) (hs : tm.getD 22 undefA = .im (.str op)) :
  ∃ tm', exec0 L Λ x84_9 tm H K = exec0 L Λ x84_10 tm' H K ∧ tm'.length = 113 ∧ Same [0,1,4,5,6,7,22] tm tm' := by
 simp only [x84_9,g84_9,B0,B1,B2,List.replicate,reduceCtorEq,lenA,seval,hlen,hs,e0]
 refine ⟨_, rfl, by simp only [List.length_set,hlen], fun r hr => ?_⟩
 simp only [List.mem_cons,List.not_mem_nil,or_false] at hr
 rcases hr with rfl | rfl | rfl | rfl | rfl | rfl | rfl <;> simp only [B3,seval,hlen]
theorem n84_10 (e0 : decide (op = [114, 101]) = false) (e1 : decide (op = [105, 109]) = false) (hlen : tm.length = 113) (hs : tm.getD 22 undefA = .im (.str op)) :
  ∃ tm', exec0 L Λ x84_10 tm H K = exec0 L Λ x84_11 tm' H K ∧ tm'.length = 113 ∧ Same [0,1,4,5,6,7,22] tm tm' := by
 simp only [x84_10,g84_10,B0,B1,B2,List.replicate,reduceCtorEq,lenA,seval,hlen,hs,e0,e1]
 refine ⟨_, rfl, by simp only [List.length_set,hlen], fun r hr => ?_⟩
 simp only [List.mem_cons,List.not_mem_nil,or_false] at hr
 rcases hr with rfl | rfl | rfl | rfl | rfl | rfl | rfl <;> simp only [B3,seval,hlen]
theorem n84_11 (e0 : decide (op = [99, 111, 110, 106]) = false) (hlen : tm.length = 113) (hs : tm.getD 22 undefA = .im (.str op)) :
  ∃ tm', exec0 L Λ x84_11 tm H K = exec0 L Λ x84_12 tm' H K ∧ tm'.length = 113 ∧ Same [0,1,4,5,6,7,22] tm tm' := by
 simp only [x84_11,g84_11,B0,B1,B2,List.replicate,reduceCtorEq,lenA,seval,hlen,hs,e0]
 refine ⟨_, rfl, by simp only [List.length_set,hlen], fun r hr => ?_⟩
 simp only [List.mem_cons,List.not_mem_nil,or_false] at hr
 rcases hr with rfl | rfl | rfl | rfl | rfl | rfl | rfl <;> simp only [B3,seval,hlen]
theorem to84_0 (hlen : tm.length = 113) (hs : tm.getD 22 undefA = .im (.str op)) (h : ∀ g ∈ lits84.take 0, ∀ w ∈ g, op ≠ w) :
  ∃ tm', exec0 L Λ x84_0 tm H K = exec0 L Λ x84_0 tm' H K ∧ tm'.length = 113 ∧ Same [0,1,4,5,6,7,22] tm tm' := ⟨tm, rfl, hlen, fun _ _ => rfl⟩
theorem to84_1 (hlen : tm.length = 113) (hs : tm.getD 22 undefA = .im (.str op)) (h : ∀ g ∈ lits84.take 1, ∀ w ∈ g, op ≠ w) :
  ∃ tm', exec0 L Λ x84_0 tm H K = exec0 L Λ x84_1 tm' H K ∧ tm'.length = 113 ∧ Same [0,1,4,5,6,7,22] tm tm' := by
 obtain ⟨t1, h1, h2, h3⟩ := to84_0 (op := op) (H := H) K hlen hs (fun g hg => h g (List.mem_of_mem_take (show g ∈ (lits84.take 1).take 0 by rw [List.take_take]; exact hg)))
 obtain ⟨t2, k1, k2, k3⟩ := n84_0 (op := op) (H := H) K (decide_eq_false (h [[102, 105, 114, 115, 116], [115, 101, 99, 111, 110, 100]] (by simp [lits84]) [102, 105, 114, 115, 116] (by simp))) (decide_eq_false (h [[102, 105, 114, 115, 116], [115, 101, 99, 111, 110, 100]] (by simp [lits84]) [115, 101, 99, 111, 110, 100] (by simp))) h2 ((h3 22 (by simp)).trans hs)
 exact ⟨t2, h1.trans k1, k2, h3.trans k3⟩
theorem to84_2 (hlen : tm.length = 113) (hs : tm.getD 22 undefA = .im (.str op)) (h : ∀ g ∈ lits84.take 2, ∀ w ∈ g, op ≠ w) :
  ∃ tm', exec0 L Λ x84_0 tm H K = exec0 L Λ x84_2 tm' H K ∧ tm'.length = 113 ∧ Same [0,1,4,5,6,7,22] tm tm' := by
 obtain ⟨t1, h1, h2, h3⟩ := to84_1 (op := op) (H := H) K hlen hs (fun g hg => h g (List.mem_of_mem_take (show g ∈ (lits84.take 2).take 1 by rw [List.take_take]; exact hg)))
 obtain ⟨t2, k1, k2, k3⟩ := n84_1 (op := op) (H := H) K (decide_eq_false (h [[105, 115, 95, 115, 111, 109, 101]] (by simp [lits84]) [105, 115, 95, 115, 111, 109, 101] (by simp))) h2 ((h3 22 (by simp)).trans hs)
 exact ⟨t2, h1.trans k1, k2, h3.trans k3⟩
theorem to84_3 (hlen : tm.length = 113) (hs : tm.getD 22 undefA = .im (.str op)) (h : ∀ g ∈ lits84.take 3, ∀ w ∈ g, op ≠ w) :
  ∃ tm', exec0 L Λ x84_0 tm H K = exec0 L Λ x84_3 tm' H K ∧ tm'.length = 113 ∧ Same [0,1,4,5,6,7,22] tm tm' := by
 obtain ⟨t1, h1, h2, h3⟩ := to84_2 (op := op) (H := H) K hlen hs (fun g hg => h g (List.mem_of_mem_take (show g ∈ (lits84.take 3).take 2 by rw [List.take_take]; exact hg)))
 obtain ⟨t2, k1, k2, k3⟩ := n84_2 (op := op) (H := H) K (decide_eq_false (h [[111, 114, 95, 101, 108, 115, 101]] (by simp [lits84]) [111, 114, 95, 101, 108, 115, 101] (by simp))) h2 ((h3 22 (by simp)).trans hs)
 exact ⟨t2, h1.trans k1, k2, h3.trans k3⟩
theorem to84_4 (hlen : tm.length = 113) (hs : tm.getD 22 undefA = .im (.str op)) (h : ∀ g ∈ lits84.take 4, ∀ w ∈ g, op ≠ w) :
  ∃ tm', exec0 L Λ x84_0 tm H K = exec0 L Λ x84_4 tm' H K ∧ tm'.length = 113 ∧ Same [0,1,4,5,6,7,22] tm tm' := by
 obtain ⟨t1, h1, h2, h3⟩ := to84_3 (op := op) (H := H) K hlen hs (fun g hg => h g (List.mem_of_mem_take (show g ∈ (lits84.take 4).take 3 by rw [List.take_take]; exact hg)))
 obtain ⟨t2, k1, k2, k3⟩ := n84_3 (op := op) (H := H) K (decide_eq_false (h [[106, 111, 105, 110]] (by simp [lits84]) [106, 111, 105, 110] (by simp))) h2 ((h3 22 (by simp)).trans hs)
 exact ⟨t2, h1.trans k1, k2, h3.trans k3⟩
theorem to84_5 (hlen : tm.length = 113) (hs : tm.getD 22 undefA = .im (.str op)) (h : ∀ g ∈ lits84.take 5, ∀ w ∈ g, op ≠ w) :
  ∃ tm', exec0 L Λ x84_0 tm H K = exec0 L Λ x84_5 tm' H K ∧ tm'.length = 113 ∧ Same [0,1,4,5,6,7,22] tm tm' := by
 obtain ⟨t1, h1, h2, h3⟩ := to84_4 (op := op) (H := H) K hlen hs (fun g hg => h g (List.mem_of_mem_take (show g ∈ (lits84.take 5).take 4 by rw [List.take_take]; exact hg)))
 obtain ⟨t2, k1, k2, k3⟩ := n84_4 (op := op) (H := H) K (decide_eq_false (h [[115, 105, 122, 101]] (by simp [lits84]) [115, 105, 122, 101] (by simp))) h2 ((h3 22 (by simp)).trans hs)
 exact ⟨t2, h1.trans k1, k2, h3.trans k3⟩
theorem to84_6 (hlen : tm.length = 113) (hs : tm.getD 22 undefA = .im (.str op)) (h : ∀ g ∈ lits84.take 6, ∀ w ∈ g, op ≠ w) :
  ∃ tm', exec0 L Λ x84_0 tm H K = exec0 L Λ x84_6 tm' H K ∧ tm'.length = 113 ∧ Same [0,1,4,5,6,7,22] tm tm' := by
 obtain ⟨t1, h1, h2, h3⟩ := to84_5 (op := op) (H := H) K hlen hs (fun g hg => h g (List.mem_of_mem_take (show g ∈ (lits84.take 6).take 5 by rw [List.take_take]; exact hg)))
 obtain ⟨t2, k1, k2, k3⟩ := n84_5 (op := op) (H := H) K (decide_eq_false (h [[99, 117, 116]] (by simp [lits84]) [99, 117, 116] (by simp))) h2 ((h3 22 (by simp)).trans hs)
 exact ⟨t2, h1.trans k1, k2, h3.trans k3⟩
theorem to84_7 (hlen : tm.length = 113) (hs : tm.getD 22 undefA = .im (.str op)) (h : ∀ g ∈ lits84.take 7, ∀ w ∈ g, op ≠ w) :
  ∃ tm', exec0 L Λ x84_0 tm H K = exec0 L Λ x84_7 tm' H K ∧ tm'.length = 113 ∧ Same [0,1,4,5,6,7,22] tm tm' := by
 obtain ⟨t1, h1, h2, h3⟩ := to84_6 (op := op) (H := H) K hlen hs (fun g hg => h g (List.mem_of_mem_take (show g ∈ (lits84.take 7).take 6 by rw [List.take_take]; exact hg)))
 obtain ⟨t2, k1, k2, k3⟩ := n84_6 (op := op) (H := H) K (decide_eq_false (h [[98, 121, 116, 101, 115]] (by simp [lits84]) [98, 121, 116, 101, 115] (by simp))) h2 ((h3 22 (by simp)).trans hs)
 exact ⟨t2, h1.trans k1, k2, h3.trans k3⟩
theorem to84_8 (hlen : tm.length = 113) (hs : tm.getD 22 undefA = .im (.str op)) (h : ∀ g ∈ lits84.take 8, ∀ w ∈ g, op ≠ w) :
  ∃ tm', exec0 L Λ x84_0 tm H K = exec0 L Λ x84_8 tm' H K ∧ tm'.length = 113 ∧ Same [0,1,4,5,6,7,22] tm tm' := by
 obtain ⟨t1, h1, h2, h3⟩ := to84_7 (op := op) (H := H) K hlen hs (fun g hg => h g (List.mem_of_mem_take (show g ∈ (lits84.take 8).take 7 by rw [List.take_take]; exact hg)))
 obtain ⟨t2, k1, k2, k3⟩ := n84_7 (op := op) (H := H) K (decide_eq_false (h [[116, 101, 120, 116]] (by simp [lits84]) [116, 101, 120, 116] (by simp))) h2 ((h3 22 (by simp)).trans hs)
 exact ⟨t2, h1.trans k1, k2, h3.trans k3⟩
theorem to84_9 (hlen : tm.length = 113) (hs : tm.getD 22 undefA = .im (.str op)) (h : ∀ g ∈ lits84.take 9, ∀ w ∈ g, op ≠ w) :
  ∃ tm', exec0 L Λ x84_0 tm H K = exec0 L Λ x84_9 tm' H K ∧ tm'.length = 113 ∧ Same [0,1,4,5,6,7,22] tm tm' := by
 obtain ⟨t1, h1, h2, h3⟩ := to84_8 (op := op) (H := H) K hlen hs (fun g hg => h g (List.mem_of_mem_take (show g ∈ (lits84.take 9).take 8 by rw [List.take_take]; exact hg)))
 obtain ⟨t2, k1, k2, k3⟩ := n84_8 (op := op) (H := H) K (decide_eq_false (h [[115, 104, 111, 119]] (by simp [lits84]) [115, 104, 111, 119] (by simp))) h2 ((h3 22 (by simp)).trans hs)
 exact ⟨t2, h1.trans k1, k2, h3.trans k3⟩
theorem to84_10 (hlen : tm.length = 113) (hs : tm.getD 22 undefA = .im (.str op)) (h : ∀ g ∈ lits84.take 10, ∀ w ∈ g, op ≠ w) :
  ∃ tm', exec0 L Λ x84_0 tm H K = exec0 L Λ x84_10 tm' H K ∧ tm'.length = 113 ∧ Same [0,1,4,5,6,7,22] tm tm' := by
 obtain ⟨t1, h1, h2, h3⟩ := to84_9 (op := op) (H := H) K hlen hs (fun g hg => h g (List.mem_of_mem_take (show g ∈ (lits84.take 10).take 9 by rw [List.take_take]; exact hg)))
 obtain ⟨t2, k1, k2, k3⟩ := n84_9 (op := op) (H := H) K (decide_eq_false (h [[112, 111, 105, 110, 116]] (by simp [lits84]) [112, 111, 105, 110, 116] (by simp))) h2 ((h3 22 (by simp)).trans hs)
 exact ⟨t2, h1.trans k1, k2, h3.trans k3⟩
theorem to84_11 (hlen : tm.length = 113) (hs : tm.getD 22 undefA = .im (.str op)) (h : ∀ g ∈ lits84.take 11, ∀ w ∈ g, op ≠ w) :
  ∃ tm', exec0 L Λ x84_0 tm H K = exec0 L Λ x84_11 tm' H K ∧ tm'.length = 113 ∧ Same [0,1,4,5,6,7,22] tm tm' := by
 obtain ⟨t1, h1, h2, h3⟩ := to84_10 (op := op) (H := H) K hlen hs (fun g hg => h g (List.mem_of_mem_take (show g ∈ (lits84.take 11).take 10 by rw [List.take_take]; exact hg)))
 obtain ⟨t2, k1, k2, k3⟩ := n84_10 (op := op) (H := H) K (decide_eq_false (h [[114, 101], [105, 109]] (by simp [lits84]) [114, 101] (by simp))) (decide_eq_false (h [[114, 101], [105, 109]] (by simp [lits84]) [105, 109] (by simp))) h2 ((h3 22 (by simp)).trans hs)
 exact ⟨t2, h1.trans k1, k2, h3.trans k3⟩
theorem to84_12 (hlen : tm.length = 113) (hs : tm.getD 22 undefA = .im (.str op)) (h : ∀ g ∈ lits84.take 12, ∀ w ∈ g, op ≠ w) :
  ∃ tm', exec0 L Λ x84_0 tm H K = exec0 L Λ x84_12 tm' H K ∧ tm'.length = 113 ∧ Same [0,1,4,5,6,7,22] tm tm' := by
 obtain ⟨t1, h1, h2, h3⟩ := to84_11 (op := op) (H := H) K hlen hs (fun g hg => h g (List.mem_of_mem_take (show g ∈ (lits84.take 12).take 11 by rw [List.take_take]; exact hg)))
 obtain ⟨t2, k1, k2, k3⟩ := n84_11 (op := op) (H := H) K (decide_eq_false (h [[99, 111, 110, 106]] (by simp [lits84]) [99, 111, 110, 106] (by simp))) h2 ((h3 22 (by simp)).trans hs)
 exact ⟨t2, h1.trans k1, k2, h3.trans k3⟩
def h84_4 : ACode := .ops [oo 112 (.build [.im (.int .i64 0),.nils] []),st 2 4 112,mc 5 (cb false)] []
def h84_5 : ACode := .ret
theorem f84_code : f84 = ⟨113, [(4, (some (some 2))), (5, none)], (.seq h84_0 (.seq h84_1 (.seq h84_2 (.seq (.seq h84_3 (.block 0 x84_0)) (.seq h84_4 h84_5))))), false⟩ := rfl
def h29_0 : ACode := .ops [oo 3 (.box none (.t 1)),oo 4 (.alloc none [.im (.int .i64 0),.nils])] []
def h29_1 : ACode := .ops [fa 9 0 3,l0 10 9] []
def x29_9 : ACode := .skip
def g29_8 : ACode := sq [bi 70 .eql 10 (cs [108,101,116]),mv 69 70] (.cond (.t 69) .skip (sq [bi 71 .eql 10 (cs [109,97,112]),mv 69 71] (.cond (.t 69) .skip (sq [bi 72 .eql 10 (cs [102,105,108,116,101,114]),mv 69 72] (.cond (.t 69) .skip (.ops [bi 73 .eql 10 (cs [102,111,108,100]),mv 69 73] []))))))
def a29_8 : ACode := sq [mv 74 0,ld 75 6 3,oo 76 (.call false (cl 53) [.t 74,.t 75]),st 2 4 76] .ret
def x29_8 : ACode := .seq g29_8 (.cond (.t 69) a29_8 x29_9)
def g29_7 : ACode := .ops [bi 48 .eql 10 (cs [115,105,100,101]),mv 47 48] []
def a29_7 : ACode := .seq (sq [fa 49 1 3,l0 50 49,mv 51 0,nc 52 51,fa 53 0 52,fa 54 2 53,l0 55 54,oo 56 (.lenSl (.t 55)),bi 57 .geq 50 (.t 56)] (.cond (.t 57) (sq [mv 58 0,oo 59 (.call false (cl 52) [.t 58,ci 53]),st 2 4 59] .ret) .skip)) (sq [mv 60 0,nc 61 60,fa 62 0 61,fa 63 2 62,l0 64 63,fa 65 1 3,l0 66 65,oo 67 (.indexSl 2 (.t 64) (.t 66)),ld 68 2 67,st 2 4 68] .ret)
def x29_7 : ACode := .seq g29_7 (.cond (.t 47) a29_7 x29_8)
def g29_6 : ACode := .ops [bi 41 .eql 10 (cs [110,111,110,101]),mv 40 41] []
def a29_6 : ACode := sq [mv 42 0,fa 43 3 3,ld 44 2 43,oo 45 (.bslice false 2 1 [.im (.int .i64 0),.nils] [(0,.t 44)]),oo 46 (.call false (cl 51) [.t 42,ci 9,.t 45]),st 2 4 46] .ret
def x29_6 : ACode := .seq g29_6 (.cond (.t 40) a29_6 x29_7)
def g29_5 : ACode := .ops [bi 34 .eql 10 (cs [110,105,108]),mv 33 34] []
def a29_5 : ACode := sq [mv 35 0,fa 36 3 3,ld 37 2 36,oo 38 (.bslice false 2 1 [.im (.int .i64 0),.nils] [(0,.t 37)]),oo 39 (.call false (cl 51) [.t 35,ci 7,.t 38]),st 2 4 39] .ret
def x29_5 : ACode := .seq g29_5 (.cond (.t 33) a29_5 x29_6)
def g29_4 : ACode := .ops [bi 29 .eql 10 (cs [110,97,109,101]),mv 28 29] []
def a29_4 : ACode := sq [mv 30 0,ld 31 6 3,oo 32 (.call false (cl 50) [.t 30,.t 31]),st 2 4 32] .ret
def x29_4 : ACode := .seq g29_4 (.cond (.t 28) a29_4 x29_5)
def g29_3 : ACode := .ops [bi 22 .eql 10 (cs [105,116]),mv 21 22] []
def a29_3 : ACode := sq [mv 23 0,nc 24 23,fa 25 0 24,fa 26 0 25,ld 27 2 26,st 2 4 27] .ret
def x29_3 : ACode := .seq g29_3 (.cond (.t 21) a29_3 x29_4)
def g29_2 : ACode := sq [bi 18 .eql 10 (cs [116,114,117,101]),mv 17 18] (.cond (.t 17) .skip (.ops [bi 19 .eql 10 (cs [102,97,108,115,101]),mv 17 19] []))
def a29_2 : ACode := sq [oo 20 (.call false (cl 49) [ci 1]),st 2 4 20] .ret
def x29_2 : ACode := .seq g29_2 (.cond (.t 17) a29_2 x29_3)
def g29_1 : ACode := .ops [bi 15 .eql 10 (cs [116,101,120,116,95,111,102]),mv 14 15] []
def a29_1 : ACode := sq [oo 16 (.call false (cl 49) [ci 3]),st 2 4 16] .ret
def x29_1 : ACode := .seq g29_1 (.cond (.t 14) a29_1 x29_2)
def g29_0 : ACode := .ops [bi 12 .eql 10 (cs [105,110,116]),mv 11 12] []
def a29_0 : ACode := sq [oo 13 (.call false (cl 49) [ci 2]),st 2 4 13] .ret
def x29_0 : ACode := .seq g29_0 (.cond (.t 11) a29_0 x29_1)
def lits29 : List (List (List UInt8)) := [[[105, 110, 116]], [[116, 101, 120, 116, 95, 111, 102]], [[116, 114, 117, 101], [102, 97, 108, 115, 101]], [[105, 116]], [[110, 97, 109, 101]], [[110, 105, 108]], [[110, 111, 110, 101]], [[115, 105, 100, 101]], [[108, 101, 116], [109, 97, 112], [102, 105, 108, 116, 101, 114], [102, 111, 108, 100]]]
theorem n29_0 (e0 : decide (op = [105, 110, 116]) = false) (hlen : tm.length = 114) (hs : tm.getD 10 undefA = .im (.str op)) :
  ∃ tm', exec0 L Λ x29_0 tm H K = exec0 L Λ x29_1 tm' H K ∧ tm'.length = 114 ∧ Same [0,3,4,10] tm tm' := by
 simp only [x29_0,g29_0,B0,B1,B2,List.replicate,reduceCtorEq,lenA,seval,hlen,hs,e0]
 refine ⟨_, rfl, by simp only [List.length_set,hlen], fun r hr => ?_⟩
 simp only [List.mem_cons,List.not_mem_nil,or_false] at hr
 rcases hr with rfl | rfl | rfl | rfl <;> simp only [B3,seval,hlen]
theorem n29_1 (e0 : decide (op = [116, 101, 120, 116, 95, 111, 102]) = false) (hlen : tm.length = 114) (hs : tm.getD 10 undefA = .im (.str op)) :
  ∃ tm', exec0 L Λ x29_1 tm H K = exec0 L Λ x29_2 tm' H K ∧ tm'.length = 114 ∧ Same [0,3,4,10] tm tm' := by
 simp only [x29_1,g29_1,B0,B1,B2,List.replicate,reduceCtorEq,lenA,seval,hlen,hs,e0]
 refine ⟨_, rfl, by simp only [List.length_set,hlen], fun r hr => ?_⟩
 simp only [List.mem_cons,List.not_mem_nil,or_false] at hr
 rcases hr with rfl | rfl | rfl | rfl <;> simp only [B3,seval,hlen]
theorem n29_2 (e0 : decide (op = [116, 114, 117, 101]) = false) (e1 : decide (op = [102, 97, 108, 115, 101]) = false) (hlen : tm.length = 114) (hs : tm.getD 10 undefA = .im (.str op)) :
  ∃ tm', exec0 L Λ x29_2 tm H K = exec0 L Λ x29_3 tm' H K ∧ tm'.length = 114 ∧ Same [0,3,4,10] tm tm' := by
 simp only [x29_2,g29_2,B0,B1,B2,List.replicate,reduceCtorEq,lenA,seval,hlen,hs,e0,e1]
 refine ⟨_, rfl, by simp only [List.length_set,hlen], fun r hr => ?_⟩
 simp only [List.mem_cons,List.not_mem_nil,or_false] at hr
 rcases hr with rfl | rfl | rfl | rfl <;> simp only [B3,seval,hlen]
theorem n29_3 (e0 : decide (op = [105, 116]) = false) (hlen : tm.length = 114) (hs : tm.getD 10 undefA = .im (.str op)) :
  ∃ tm', exec0 L Λ x29_3 tm H K = exec0 L Λ x29_4 tm' H K ∧ tm'.length = 114 ∧ Same [0,3,4,10] tm tm' := by
 simp only [x29_3,g29_3,B0,B1,B2,List.replicate,reduceCtorEq,lenA,seval,hlen,hs,e0]
 refine ⟨_, rfl, by simp only [List.length_set,hlen], fun r hr => ?_⟩
 simp only [List.mem_cons,List.not_mem_nil,or_false] at hr
 rcases hr with rfl | rfl | rfl | rfl <;> simp only [B3,seval,hlen]
theorem n29_4 (e0 : decide (op = [110, 97, 109, 101]) = false) (hlen : tm.length = 114) (hs : tm.getD 10 undefA = .im (.str op)) :
  ∃ tm', exec0 L Λ x29_4 tm H K = exec0 L Λ x29_5 tm' H K ∧ tm'.length = 114 ∧ Same [0,3,4,10] tm tm' := by
 simp only [x29_4,g29_4,B0,B1,B2,List.replicate,reduceCtorEq,lenA,seval,hlen,hs,e0]
 refine ⟨_, rfl, by simp only [List.length_set,hlen], fun r hr => ?_⟩
 simp only [List.mem_cons,List.not_mem_nil,or_false] at hr
 rcases hr with rfl | rfl | rfl | rfl <;> simp only [B3,seval,hlen]
theorem n29_5 (e0 : decide (op = [110, 105, 108]) = false) (hlen : tm.length = 114) (hs : tm.getD 10 undefA = .im (.str op)) :
  ∃ tm', exec0 L Λ x29_5 tm H K = exec0 L Λ x29_6 tm' H K ∧ tm'.length = 114 ∧ Same [0,3,4,10] tm tm' := by
 simp only [x29_5,g29_5,B0,B1,B2,List.replicate,reduceCtorEq,lenA,seval,hlen,hs,e0]
 refine ⟨_, rfl, by simp only [List.length_set,hlen], fun r hr => ?_⟩
 simp only [List.mem_cons,List.not_mem_nil,or_false] at hr
 rcases hr with rfl | rfl | rfl | rfl <;> simp only [B3,seval,hlen]
theorem n29_6 (e0 : decide (op = [110, 111, 110, 101]) = false) (hlen : tm.length = 114) (hs : tm.getD 10 undefA = .im (.str op)) :
  ∃ tm', exec0 L Λ x29_6 tm H K = exec0 L Λ x29_7 tm' H K ∧ tm'.length = 114 ∧ Same [0,3,4,10] tm tm' := by
 simp only [x29_6,g29_6,B0,B1,B2,List.replicate,reduceCtorEq,lenA,seval,hlen,hs,e0]
 refine ⟨_, rfl, by simp only [List.length_set,hlen], fun r hr => ?_⟩
 simp only [List.mem_cons,List.not_mem_nil,or_false] at hr
 rcases hr with rfl | rfl | rfl | rfl <;> simp only [B3,seval,hlen]
theorem n29_7 (e0 : decide (op = [115, 105, 100, 101]) = false) (hlen : tm.length = 114) (hs : tm.getD 10 undefA = .im (.str op)) :
  ∃ tm', exec0 L Λ x29_7 tm H K = exec0 L Λ x29_8 tm' H K ∧ tm'.length = 114 ∧ Same [0,3,4,10] tm tm' := by
 simp only [x29_7,g29_7,B0,B1,B2,List.replicate,reduceCtorEq,lenA,seval,hlen,hs,e0]
 refine ⟨_, rfl, by simp only [List.length_set,hlen], fun r hr => ?_⟩
 simp only [List.mem_cons,List.not_mem_nil,or_false] at hr
 rcases hr with rfl | rfl | rfl | rfl <;> simp only [B3,seval,hlen]
theorem n29_8 (e0 : decide (op = [108, 101, 116]) = false) (e1 : decide (op = [109, 97, 112]) = false) (e2 : decide (op = [102, 105, 108, 116, 101, 114]) = false) (e3 : decide (op = [102, 111, 108, 100]) = false) (hlen : tm.length = 114) (hs : tm.getD 10 undefA = .im (.str op)) :
  ∃ tm', exec0 L Λ x29_8 tm H K = exec0 L Λ x29_9 tm' H K ∧ tm'.length = 114 ∧ Same [0,3,4,10] tm tm' := by
 simp only [x29_8,g29_8,B0,B1,B2,List.replicate,reduceCtorEq,lenA,seval,hlen,hs,e0,e1,e2,e3]
 refine ⟨_, rfl, by simp only [List.length_set,hlen], fun r hr => ?_⟩
 simp only [List.mem_cons,List.not_mem_nil,or_false] at hr
 rcases hr with rfl | rfl | rfl | rfl <;> simp only [B3,seval,hlen]
theorem to29_0 (hlen : tm.length = 114) (hs : tm.getD 10 undefA = .im (.str op)) (h : ∀ g ∈ lits29.take 0, ∀ w ∈ g, op ≠ w) :
  ∃ tm', exec0 L Λ x29_0 tm H K = exec0 L Λ x29_0 tm' H K ∧ tm'.length = 114 ∧ Same [0,3,4,10] tm tm' := ⟨tm, rfl, hlen, fun _ _ => rfl⟩
theorem to29_1 (hlen : tm.length = 114) (hs : tm.getD 10 undefA = .im (.str op)) (h : ∀ g ∈ lits29.take 1, ∀ w ∈ g, op ≠ w) :
  ∃ tm', exec0 L Λ x29_0 tm H K = exec0 L Λ x29_1 tm' H K ∧ tm'.length = 114 ∧ Same [0,3,4,10] tm tm' := by
 obtain ⟨t1, h1, h2, h3⟩ := to29_0 (op := op) (H := H) K hlen hs (fun g hg => h g (List.mem_of_mem_take (show g ∈ (lits29.take 1).take 0 by rw [List.take_take]; exact hg)))
 obtain ⟨t2, k1, k2, k3⟩ := n29_0 (op := op) (H := H) K (decide_eq_false (h [[105, 110, 116]] (by simp [lits29]) [105, 110, 116] (by simp))) h2 ((h3 10 (by simp)).trans hs)
 exact ⟨t2, h1.trans k1, k2, h3.trans k3⟩
theorem to29_2 (hlen : tm.length = 114) (hs : tm.getD 10 undefA = .im (.str op)) (h : ∀ g ∈ lits29.take 2, ∀ w ∈ g, op ≠ w) :
  ∃ tm', exec0 L Λ x29_0 tm H K = exec0 L Λ x29_2 tm' H K ∧ tm'.length = 114 ∧ Same [0,3,4,10] tm tm' := by
 obtain ⟨t1, h1, h2, h3⟩ := to29_1 (op := op) (H := H) K hlen hs (fun g hg => h g (List.mem_of_mem_take (show g ∈ (lits29.take 2).take 1 by rw [List.take_take]; exact hg)))
 obtain ⟨t2, k1, k2, k3⟩ := n29_1 (op := op) (H := H) K (decide_eq_false (h [[116, 101, 120, 116, 95, 111, 102]] (by simp [lits29]) [116, 101, 120, 116, 95, 111, 102] (by simp))) h2 ((h3 10 (by simp)).trans hs)
 exact ⟨t2, h1.trans k1, k2, h3.trans k3⟩
theorem to29_3 (hlen : tm.length = 114) (hs : tm.getD 10 undefA = .im (.str op)) (h : ∀ g ∈ lits29.take 3, ∀ w ∈ g, op ≠ w) :
  ∃ tm', exec0 L Λ x29_0 tm H K = exec0 L Λ x29_3 tm' H K ∧ tm'.length = 114 ∧ Same [0,3,4,10] tm tm' := by
 obtain ⟨t1, h1, h2, h3⟩ := to29_2 (op := op) (H := H) K hlen hs (fun g hg => h g (List.mem_of_mem_take (show g ∈ (lits29.take 3).take 2 by rw [List.take_take]; exact hg)))
 obtain ⟨t2, k1, k2, k3⟩ := n29_2 (op := op) (H := H) K (decide_eq_false (h [[116, 114, 117, 101], [102, 97, 108, 115, 101]] (by simp [lits29]) [116, 114, 117, 101] (by simp))) (decide_eq_false (h [[116, 114, 117, 101], [102, 97, 108, 115, 101]] (by simp [lits29]) [102, 97, 108, 115, 101] (by simp))) h2 ((h3 10 (by simp)).trans hs)
 exact ⟨t2, h1.trans k1, k2, h3.trans k3⟩
theorem to29_4 (hlen : tm.length = 114) (hs : tm.getD 10 undefA = .im (.str op)) (h : ∀ g ∈ lits29.take 4, ∀ w ∈ g, op ≠ w) :
  ∃ tm', exec0 L Λ x29_0 tm H K = exec0 L Λ x29_4 tm' H K ∧ tm'.length = 114 ∧ Same [0,3,4,10] tm tm' := by
 obtain ⟨t1, h1, h2, h3⟩ := to29_3 (op := op) (H := H) K hlen hs (fun g hg => h g (List.mem_of_mem_take (show g ∈ (lits29.take 4).take 3 by rw [List.take_take]; exact hg)))
 obtain ⟨t2, k1, k2, k3⟩ := n29_3 (op := op) (H := H) K (decide_eq_false (h [[105, 116]] (by simp [lits29]) [105, 116] (by simp))) h2 ((h3 10 (by simp)).trans hs)
 exact ⟨t2, h1.trans k1, k2, h3.trans k3⟩
theorem to29_5 (hlen : tm.length = 114) (hs : tm.getD 10 undefA = .im (.str op)) (h : ∀ g ∈ lits29.take 5, ∀ w ∈ g, op ≠ w) :
  ∃ tm', exec0 L Λ x29_0 tm H K = exec0 L Λ x29_5 tm' H K ∧ tm'.length = 114 ∧ Same [0,3,4,10] tm tm' := by
 obtain ⟨t1, h1, h2, h3⟩ := to29_4 (op := op) (H := H) K hlen hs (fun g hg => h g (List.mem_of_mem_take (show g ∈ (lits29.take 5).take 4 by rw [List.take_take]; exact hg)))
 obtain ⟨t2, k1, k2, k3⟩ := n29_4 (op := op) (H := H) K (decide_eq_false (h [[110, 97, 109, 101]] (by simp [lits29]) [110, 97, 109, 101] (by simp))) h2 ((h3 10 (by simp)).trans hs)
 exact ⟨t2, h1.trans k1, k2, h3.trans k3⟩
theorem to29_6 (hlen : tm.length = 114) (hs : tm.getD 10 undefA = .im (.str op)) (h : ∀ g ∈ lits29.take 6, ∀ w ∈ g, op ≠ w) :
  ∃ tm', exec0 L Λ x29_0 tm H K = exec0 L Λ x29_6 tm' H K ∧ tm'.length = 114 ∧ Same [0,3,4,10] tm tm' := by
 obtain ⟨t1, h1, h2, h3⟩ := to29_5 (op := op) (H := H) K hlen hs (fun g hg => h g (List.mem_of_mem_take (show g ∈ (lits29.take 6).take 5 by rw [List.take_take]; exact hg)))
 obtain ⟨t2, k1, k2, k3⟩ := n29_5 (op := op) (H := H) K (decide_eq_false (h [[110, 105, 108]] (by simp [lits29]) [110, 105, 108] (by simp))) h2 ((h3 10 (by simp)).trans hs)
 exact ⟨t2, h1.trans k1, k2, h3.trans k3⟩
theorem to29_7 (hlen : tm.length = 114) (hs : tm.getD 10 undefA = .im (.str op)) (h : ∀ g ∈ lits29.take 7, ∀ w ∈ g, op ≠ w) :
  ∃ tm', exec0 L Λ x29_0 tm H K = exec0 L Λ x29_7 tm' H K ∧ tm'.length = 114 ∧ Same [0,3,4,10] tm tm' := by
 obtain ⟨t1, h1, h2, h3⟩ := to29_6 (op := op) (H := H) K hlen hs (fun g hg => h g (List.mem_of_mem_take (show g ∈ (lits29.take 7).take 6 by rw [List.take_take]; exact hg)))
 obtain ⟨t2, k1, k2, k3⟩ := n29_6 (op := op) (H := H) K (decide_eq_false (h [[110, 111, 110, 101]] (by simp [lits29]) [110, 111, 110, 101] (by simp))) h2 ((h3 10 (by simp)).trans hs)
 exact ⟨t2, h1.trans k1, k2, h3.trans k3⟩
theorem to29_8 (hlen : tm.length = 114) (hs : tm.getD 10 undefA = .im (.str op)) (h : ∀ g ∈ lits29.take 8, ∀ w ∈ g, op ≠ w) :
  ∃ tm', exec0 L Λ x29_0 tm H K = exec0 L Λ x29_8 tm' H K ∧ tm'.length = 114 ∧ Same [0,3,4,10] tm tm' := by
 obtain ⟨t1, h1, h2, h3⟩ := to29_7 (op := op) (H := H) K hlen hs (fun g hg => h g (List.mem_of_mem_take (show g ∈ (lits29.take 8).take 7 by rw [List.take_take]; exact hg)))
 obtain ⟨t2, k1, k2, k3⟩ := n29_7 (op := op) (H := H) K (decide_eq_false (h [[115, 105, 100, 101]] (by simp [lits29]) [115, 105, 100, 101] (by simp))) h2 ((h3 10 (by simp)).trans hs)
 exact ⟨t2, h1.trans k1, k2, h3.trans k3⟩
theorem to29_9 (hlen : tm.length = 114) (hs : tm.getD 10 undefA = .im (.str op)) (h : ∀ g ∈ lits29.take 9, ∀ w ∈ g, op ≠ w) :
  ∃ tm', exec0 L Λ x29_0 tm H K = exec0 L Λ x29_9 tm' H K ∧ tm'.length = 114 ∧ Same [0,3,4,10] tm tm' := by
 obtain ⟨t1, h1, h2, h3⟩ := to29_8 (op := op) (H := H) K hlen hs (fun g hg => h g (List.mem_of_mem_take (show g ∈ (lits29.take 9).take 8 by rw [List.take_take]; exact hg)))
 obtain ⟨t2, k1, k2, k3⟩ := n29_8 (op := op) (H := H) K (decide_eq_false (h [[108, 101, 116], [109, 97, 112], [102, 105, 108, 116, 101, 114], [102, 111, 108, 100]] (by simp [lits29]) [108, 101, 116] (by simp))) (decide_eq_false (h [[108, 101, 116], [109, 97, 112], [102, 105, 108, 116, 101, 114], [102, 111, 108, 100]] (by simp [lits29]) [109, 97, 112] (by simp))) (decide_eq_false (h [[108, 101, 116], [109, 97, 112], [102, 105, 108, 116, 101, 114], [102, 111, 108, 100]] (by simp [lits29]) [102, 105, 108, 116, 101, 114] (by simp))) (decide_eq_false (h [[108, 101, 116], [109, 97, 112], [102, 105, 108, 116, 101, 114], [102, 111, 108, 100]] (by simp [lits29]) [102, 111, 108, 100] (by simp))) h2 ((h3 10 (by simp)).trans hs)
 exact ⟨t2, h1.trans k1, k2, h3.trans k3⟩
def h29_2 : ACode := .ops [oo 5 (.move (.c .nils))] []
def h29_3 : ACode := sq [fa 77 5 3,l0 78 77,oo 79 (.lenSl (.t 78)),mc 80 (ci 0)] (.block 1 c29_0)
def h29_4 : ACode := .ops [fa 98 0 3,l0 99 98,mv 100 5,oo 101 (.call false (cl 55) [.t 99,.t 100]),mv 97 101,ex 102 0 97,ex 103 1 97,oo 7 (.alloc none [.im (.int .i64 0),.nils]),st 2 7 102,mv 8 103] []
def h29_5 : ACode := sq [mv 104 8,oo 105 (.un .not (.t 104)),mv 106 105,og 107 (.load (some 2) (.t 7)) 106 false,og 108 (.call false (cl 33) [.t 107]) 106 false,og 109 (.bin .neq (.t 108) (ci 0)) 106 false,po 110 106 109] (.cond (.t 110) (sq [mv 111 0,oo 112 (.call false (cl 52) [.t 111,ci 50]),st 2 4 112] .ret) .skip)
def h29_6 : ACode := .ops [ld 113 2 7,st 2 4 113] []
def h29_7 : ACode := .ret
theorem f29_code : f29 = ⟨114, [(4, (some (some 2)))], (.seq h29_0 (.seq (.seq h29_1 (.block 0 x29_0)) (.seq h29_2 (.seq h29_3 (.seq h29_4 (.seq h29_5 (.seq h29_6 h29_7))))))), false⟩ := rfl
end Go.Abs.Seat
end
section
set_option linter.unusedVariables false
set_option linter.unusedSimpArgs false
namespace Go.Abs.Seat
open Go.Proofs
def Rt (t : KT) : Prop := okT t ∧ rightT t 6 = true
def sameR (a b : KT) : Bool := rightT a 6 && (rightT b 6 && sameT a b)
theorem right_cnt {k : Int} {s : Nat} {args : List KT} (h : rightT (.mk k s args) 6 = true) (h7 : k = 7 ∨ k = 9) : 0 < args.length := by
 rw [right_iff] at h
 obtain ⟨⟨w, hw, h1, h2⟩, _⟩ := h
 have key : ∀ w ∈ words, (w.1 = 7 ∨ w.1 = 9) → 0 < w.2.2 := by decide
 have := key w hw (by rw [h1]; exact h7)
 omega
theorem right_cnt2 {k : Int} {s : Nat} {args : List KT} (h : rightT (.mk k s args) 6 = true) (h7 : k = 6) : args.length = 2 := by
 rw [right_iff] at h
 obtain ⟨⟨w, hw, h1, h2⟩, _⟩ := h
 have key : ∀ w ∈ words, w.1 = 6 → w.2.2 = 2 := by decide
 have := key w hw (by rw [h1]; exact h7)
 omega
def TyO (t : KT) : HO := .obj none [[.im (.int .i64 t.k), .im (.sl t.s (encTs t.args))]]
noncomputable def K55 (H : Heap) := blockK 0 (seqK L Λ (.seq h55_6 h55_7) (endK f55 H))
structure Pl (op : List UInt8) (ts : List KT) (t0 tl : KT) (tok : Nat) (H : Heap) (tm : List AV) : Prop where
 len : tm.length = 165
 r0 : tm.getD 0 undefA = .im (.str op)
 r1 : tm.getD 1 undefA = .asl 2 (ts.map encT) tok
 r4 : tm.getD 4 undefA = .ptr H.length 0 0
 r6 : tm.getD 6 undefA = .ptr (H.length + 1) 0 0
 r7 : tm.getD 7 undefA = .ptr (H.length + 2) 0 0
 r8 : tm.getD 8 undefA = .im (.bool (sameR t0 tl))
 r9 : tm.getD 9 undefA = .ptr (H.length + 3) 0 0
 r10 : tm.getD 10 undefA = .im (.bool (argX t0 7 0).2)
 r30 : tm.getD 30 undefA = .im (.str op)
theorem Pl.same {op : List UInt8} {ts : List KT} {t0 tl : KT} {tok : Nat} {H : Heap} {tm tm' : List AV} (h : Pl op ts t0 tl tok H tm) (hl : tm'.length = 165) (hs : Same [0, 1, 4, 5, 6, 7, 8, 9, 10, 30] tm tm') : Pl op ts t0 tl tok H tm' :=
 ⟨hl, (hs 0 (by simp)).trans h.r0, (hs 1 (by simp)).trans h.r1, (hs 4 (by simp)).trans h.r4, (hs 6 (by simp)).trans h.r6, (hs 7 (by simp)).trans h.r7, (hs 8 (by simp)).trans h.r8, (hs 9 (by simp)).trans h.r9, (hs 10 (by simp)).trans h.r10, (hs 30 (by simp)).trans h.r30⟩
theorem pre55 (op : List UInt8) (ts : List KT) (t0 tl : KT) (n : Nat) (hn : ts.length = n + 1) (hn2 : n ≤ 1000) (h0 : ts[0]? = some t0) (hl : ts[n]? = some tl) (ht0 : Rt t0) (htl : Rt tl) (tok : Nat) (H : Heap) :
  ∃ tm, L 55 [.im (.str op), .asl 2 (ts.map encT) tok] H = exec0 L Λ x55_0 tm (H ++ [.obj none [[.im (.int .i64 0), .nils]], TyO t0, TyO tl, TyO (argX t0 7 0).1]) (K55 H) ∧ Pl op ts t0 tl tok H tm := by
 have c16 := fun H => s16 t0 tl ht0.1 htl.1 H
 change ∀ H, L 16 _ H = some (.im (.bool (sameR t0 tl)), H) at c16
 have c36 := fun H => s36 t0 ht0.1 7 0 (fun h => right_cnt (k := t0.k) (s := t0.s) (args := t0.args) (by cases t0; exact ht0.2) (.inl h)) H
 have hp8 : ∀ (tm : List AV), (tm.getD 8 undefA = .im (.bool (sameR t0 tl))) = (tm.getD 8 undefA = .im (.bool (sameR t0 tl))) := fun _ => rfl
 have key : ∀ sm ag, sameR t0 tl = sm → argX t0 7 0 = ag → ∃ tm, L 55 [.im (.str op), .asl 2 (ts.map encT) tok] H = exec0 L Λ x55_0 tm (H ++ [.obj none [[.im (.int .i64 0), .nils]], TyO t0, TyO tl, TyO ag.1]) (K55 H) ∧ Pl op ts t0 tl tok H tm := by
  intro sm ag es ea
  rw [es] at c16
  rw [ea] at c36
  have hg0 : (ts.map encT)[0]? = some (encT t0) := by rw [List.getElem?_map, h0]; rfl
  have hgl : (ts.map encT)[n]? = some (encT tl) := by rw [List.getElem?_map, hl]; rfl
  have hml : (ts.map encT).length = n + 1 := by rw [List.length_map, hn]
  obtain ⟨⟨k3, s3, a3⟩, ok3⟩ := ag
  obtain ⟨k1, s1, a1⟩ := t0
  obtain ⟨k2, s2, a2⟩ := tl
  simp only [encT,TyO,KT.k,KT.s,KT.args] at c16 c36 hg0 hgl ⊢
  have z0 : ((0 : Nat) : Int) = 0 := rfl
  rw [z0] at c36
  have w1 : IntKind.i64.wrap (((n + 1 : Nat) : Int) - 1) = ((n : Nat) : Int) := by rw [show (((n + 1 : Nat) : Int) - 1) = ((n : Nat) : Int) by omega]; exact Go.Abs.Seat.wrap_small _ (by omega)
  have i0 : idx (.im (.int .i64 0)) (n + 1) = some 0 := idx_nat (i := 0) (by omega)
  have i1 : idx (.im (.int .i64 ((n : Nat) : Int))) (n + 1) = some n := idx_nat (by omega)
  rw [leq F55]
  obtain ⟨hlen, hg⟩ := enter_at (f := f55) (args := [.im (.str op), .asl 2 (ts.map encT) tok]) (Nat.le_of_ble_eq_true rfl)
  have h0 := hg 0 _ rfl
  have h1 := hg 1 _ rfl
  generalize enterA f55 [.im (.str op), .asl 2 (ts.map encT) tok] = tm at *
  change tm.length = 165 at hlen
  have hc : f55.code = (.seq h55_0 (.seq h55_1 (.seq h55_2 (.seq h55_3 (.seq h55_4 (.seq (.seq h55_5 (.block 0 x55_0)) (.seq h55_6 h55_7))))))) := congrArg AFunc.code f55_code
  rw [hc]
  unfold K55
  simp only [h55_0,h55_1,h55_2,h55_3,h55_4,h55_5,B0,B1,B2,List.replicate,reduceCtorEq,lenA,seval,hlen,h0,h1,hml,hg0,hgl,c16,c36,w1,i0,i1]
  refine ⟨_, rfl, ?_⟩
  rw [← es] at *
  exact ⟨by simp only [List.length_set,hlen], by simp only [B3,seval,hlen,h0], by simp only [B3,seval,hlen,h1], by simp only [B3,seval,hlen], by simp only [B3,seval,hlen], by simp only [B3,seval,hlen], by simp only [B3,seval,hlen,es], by simp only [B3,seval,hlen], by simp only [B3,seval,hlen,ea], by simp only [B3,seval,hlen]⟩
 exact key _ _ rfl rfl
end Go.Abs.Seat
end
section
set_option linter.unusedVariables false
set_option linter.unusedSimpArgs false
namespace Go.Abs.Seat
open Go.Proofs
theorem s83 (t u : KT) (l : Nat) (ht : Rt t) (hu : Rt u) (H : Heap) (ho : H[l]? = some (TyO u)) : L 83 ([.im (.agg (encT t))] ++ [.ptr l 0 0]) H = some (.im (.bool (!sameR t u)), H) := by
 have c16 := fun H => s16 t u ht.1 hu.1 H
 change ∀ H, L 16 _ H = some (.im (.bool (sameR t u)), H) at c16
 generalize sameR t u = sm at *
 obtain ⟨k1, s1, a1⟩ := t
 obtain ⟨k2, s2, a2⟩ := u
 have hob : ∀ M : Heap, (H ++ M)[l]? = some (.obj none [[.im (.int .i64 k2), .im (.sl s2 (encTs a2))]]) := fun M => by rw [List.getElem?_append_left (List.getElem?_eq_some_iff.1 ho).1]; exact ho
 simp only [encT] at c16 ⊢
 rw [leq F83]
 obtain ⟨hlen, hg⟩ := enter_at (f := f83) (args := [.im (.agg [.int .i64 k1, .sl s1 (encTs a1)]), .ptr l 0 0]) (Nat.le_of_ble_eq_true rfl)
 have h0 := hg 0 _ rfl
 have h1 := hg 1 _ rfl
 rw [List.cons_append, List.nil_append]
 generalize enterA f83 [.im (.agg [.int .i64 k1, .sl s1 (encTs a1)]), .ptr l 0 0] = tm at *
 change tm.length = 8 at hlen
 simp only [f83,B0,B1,B2,List.replicate,reduceCtorEq,lenA,seval,endK,resA,tupA,hlen,h0,h1,hob,c16,leave_app]
theorem res55 : f55.results = [(4, (some (some 2))), (5, none)] := _root_.id rfl
theorem keep55 : f55.keep = false := _root_.id rfl
theorem w55_0 (op : List UInt8) (ts : List KT) (t0 tl : KT) (n : Nat) (hn : ts.length = n + 1) (hn2 : n ≤ 999) (hg0 : ts[0]? = some t0) (hgl : ts[n]? = some tl) (hR : ∀ t ∈ ts, Rt t) (tok : Nat) (H : Heap)
  (tm : List AV) (h : Pl op ts t0 tl tok H tm) (hw : op = [97, 100, 100] ∨ op = [115, 117, 98] ∨ op = [109, 117, 108]) :
  exec0 L Λ x55_0 tm (H ++ [.obj none [[.im (.int .i64 0), .nils]], TyO t0, TyO tl, TyO (argX t0 7 0).1]) (K55 H) = some (.tup [.im (.agg (encT t0)), .im (.bool (sameR t0 tl && (decide (t0.k = 2) || decide (t0.k = 5))))], H) := by
 have ht0 : Rt t0 := hR _ (List.mem_of_getElem? hg0)
 have htl : Rt tl := hR _ (List.mem_of_getElem? hgl)
 obtain ⟨hlen, r0, rr1, r4, r6, r7, r8, r9, r10, r30⟩ := h
 have hml : (ts.map encT).length = n + 1 := by rw [List.length_map, hn]
 have hE : ∀ l : List KT, encTs l = l.map encT := fun l => by induction l with | nil => rfl | cons a l ih => simp only [encTs,List.map_cons,ih]
 generalize hsm : sameR t0 tl = sm0 at *
 generalize hag : argX t0 7 0 = ag at *
 obtain ⟨⟨k5, s5, a5⟩, ok5⟩ := ag
 obtain ⟨k1, s1, a1⟩ := t0
 obtain ⟨k2, s2, a2⟩ := tl
 change exec0 L Λ x55_0 tm (H ++ [.obj none [[.im (.int .i64 0), .nils]], .obj none [[.im (.int .i64 k1), .im (.sl s1 (encTs a1))]], .obj none [[.im (.int .i64 k2), .im (.sl s2 (encTs a2))]], .obj none [[.im (.int .i64 k5), .im (.sl s5 (encTs a5))]]]) (K55 H) = some (.tup [.im (.agg [.int .i64 k1, .sl s1 (encTs a1)]), .im (.bool (sm0 && (decide (k1 = 2) || decide (k1 = 5))))], H)
 rcases hw with rfl | rfl | rfl
 ·have q0 : decide (([97, 100, 100] : List UInt8) = [97, 100, 100]) = true := rfl
  cases hk2 : decide (k1 = 2) <;> cases hk5 : decide (k1 = 5) <;> cases sm0 <;>
   (simp only [x55_0,g55_0,a55_0,B0,B1,B2,List.replicate,reduceCtorEq,lenA,seval,B5,pairK,B4,stays,loadOf,K55,endK,resA,tupA,hlen,r0,rr1,r4,r6,r7,r8,r9,r10,r30,hml,q0,hk2,hk5,res55,keep55,leave_app,leave_tup2]) <;> (try (rw [hk2, hk5])) <;> first | done | rfl | skip
 ·have q0 : decide (([115, 117, 98] : List UInt8) = [97, 100, 100]) = false := rfl
  have q1 : decide (([115, 117, 98] : List UInt8) = [115, 117, 98]) = true := rfl
  cases hk2 : decide (k1 = 2) <;> cases hk5 : decide (k1 = 5) <;> cases sm0 <;>
   (simp only [x55_0,g55_0,a55_0,B0,B1,B2,List.replicate,reduceCtorEq,lenA,seval,B5,pairK,B4,stays,loadOf,K55,endK,resA,tupA,hlen,r0,rr1,r4,r6,r7,r8,r9,r10,r30,hml,q0,q1,hk2,hk5,res55,keep55,leave_app,leave_tup2]) <;> (try (rw [hk2, hk5])) <;> first | done | rfl | skip
 ·have q0 : decide (([109, 117, 108] : List UInt8) = [97, 100, 100]) = false := rfl
  have q1 : decide (([109, 117, 108] : List UInt8) = [115, 117, 98]) = false := rfl
  have q2 : decide (([109, 117, 108] : List UInt8) = [109, 117, 108]) = true := rfl
  cases hk2 : decide (k1 = 2) <;> cases hk5 : decide (k1 = 5) <;> cases sm0 <;>
   (simp only [x55_0,g55_0,a55_0,B0,B1,B2,List.replicate,reduceCtorEq,lenA,seval,B5,pairK,B4,stays,loadOf,K55,endK,resA,tupA,hlen,r0,rr1,r4,r6,r7,r8,r9,r10,r30,hml,q0,q1,q2,hk2,hk5,res55,keep55,leave_app,leave_tup2]) <;> (try (rw [hk2, hk5])) <;> first | done | rfl | skip
theorem w55_1 (op : List UInt8) (ts : List KT) (t0 tl : KT) (n : Nat) (hn : ts.length = n + 1) (hn2 : n ≤ 999) (hg0 : ts[0]? = some t0) (hgl : ts[n]? = some tl) (hR : ∀ t ∈ ts, Rt t) (tok : Nat) (H : Heap)
  (tm : List AV) (h : Pl op ts t0 tl tok H tm) (hw : op = [110, 101, 103]) :
  exec0 L Λ x55_1 tm (H ++ [.obj none [[.im (.int .i64 0), .nils]], TyO t0, TyO tl, TyO (argX t0 7 0).1]) (K55 H) = some (.tup [.im (.agg (encT t0)), .im (.bool (decide (t0.k = 2) || decide (t0.k = 5)))], H) := by
 have ht0 : Rt t0 := hR _ (List.mem_of_getElem? hg0)
 have htl : Rt tl := hR _ (List.mem_of_getElem? hgl)
 obtain ⟨hlen, r0, rr1, r4, r6, r7, r8, r9, r10, r30⟩ := h
 have hml : (ts.map encT).length = n + 1 := by rw [List.length_map, hn]
 have hE : ∀ l : List KT, encTs l = l.map encT := fun l => by induction l with | nil => rfl | cons a l ih => simp only [encTs,List.map_cons,ih]
 generalize hsm : sameR t0 tl = sm0 at *
 generalize hag : argX t0 7 0 = ag at *
 obtain ⟨⟨k5, s5, a5⟩, ok5⟩ := ag
 obtain ⟨k1, s1, a1⟩ := t0
 obtain ⟨k2, s2, a2⟩ := tl
 change exec0 L Λ x55_1 tm (H ++ [.obj none [[.im (.int .i64 0), .nils]], .obj none [[.im (.int .i64 k1), .im (.sl s1 (encTs a1))]], .obj none [[.im (.int .i64 k2), .im (.sl s2 (encTs a2))]], .obj none [[.im (.int .i64 k5), .im (.sl s5 (encTs a5))]]]) (K55 H) = some (.tup [.im (.agg [.int .i64 k1, .sl s1 (encTs a1)]), .im (.bool (decide (k1 = 2) || decide (k1 = 5)))], H)
 rcases hw with rfl
 ·have q0 : decide (([110, 101, 103] : List UInt8) = [110, 101, 103]) = true := rfl
  cases hk2 : decide (k1 = 2) <;> cases hk5 : decide (k1 = 5) <;>
   (simp only [x55_1,g55_1,a55_1,B0,B1,B2,List.replicate,reduceCtorEq,lenA,seval,B5,pairK,B4,stays,loadOf,K55,endK,resA,tupA,hlen,r0,rr1,r4,r6,r7,r8,r9,r10,r30,hml,q0,hk2,hk5,res55,keep55,leave_app,leave_tup2]) <;> (try (rw [hk2, hk5])) <;> first | done | rfl | skip
theorem w55_2 (op : List UInt8) (ts : List KT) (t0 tl : KT) (n : Nat) (hn : ts.length = n + 1) (hn2 : n ≤ 999) (hg0 : ts[0]? = some t0) (hgl : ts[n]? = some tl) (hR : ∀ t ∈ ts, Rt t) (tok : Nat) (H : Heap)
  (tm : List AV) (h : Pl op ts t0 tl tok H tm) (hw : op = [100, 105, 118] ∨ op = [109, 111, 100]) :
  exec0 L Λ x55_2 tm (H ++ [.obj none [[.im (.int .i64 0), .nils]], TyO t0, TyO tl, TyO (argX t0 7 0).1]) (K55 H) = some (.tup [.im (.agg (encT t0)), .im (.bool (kindsX ts [2, 2]))], H) := by
 have ht0 : Rt t0 := hR _ (List.mem_of_getElem? hg0)
 have htl : Rt tl := hR _ (List.mem_of_getElem? hgl)
 obtain ⟨hlen, r0, rr1, r4, r6, r7, r8, r9, r10, r30⟩ := h
 have hml : (ts.map encT).length = n + 1 := by rw [List.length_map, hn]
 have hE : ∀ l : List KT, encTs l = l.map encT := fun l => by induction l with | nil => rfl | cons a l ih => simp only [encTs,List.map_cons,ih]
 have c82 := fun H => s82 ts [2, 2] (some tok) 2 1 (.inr rfl) (.inr rfl) (by omega) H
 simp only [slV,intsD,List.map_cons,List.map_nil] at c82
 have td : toDatss [[AV.im (.int .i64 2)], [.im (.int .i64 2)]] = some [[.int .i64 2], [.int .i64 2]] := rfl
 generalize hsm : sameR t0 tl = sm0 at *
 generalize hag : argX t0 7 0 = ag at *
 obtain ⟨⟨k5, s5, a5⟩, ok5⟩ := ag
 obtain ⟨k1, s1, a1⟩ := t0
 obtain ⟨k2, s2, a2⟩ := tl
 change exec0 L Λ x55_2 tm (H ++ [.obj none [[.im (.int .i64 0), .nils]], .obj none [[.im (.int .i64 k1), .im (.sl s1 (encTs a1))]], .obj none [[.im (.int .i64 k2), .im (.sl s2 (encTs a2))]], .obj none [[.im (.int .i64 k5), .im (.sl s5 (encTs a5))]]]) (K55 H) = some (.tup [.im (.agg [.int .i64 k1, .sl s1 (encTs a1)]), .im (.bool (kindsX ts [2, 2]))], H)
 rcases hw with rfl | rfl
 ·have q0 : decide (([100, 105, 118] : List UInt8) = [100, 105, 118]) = true := rfl
  (simp only [x55_2,g55_2,a55_2,B0,B1,B2,List.replicate,reduceCtorEq,lenA,seval,B5,pairK,B4,stays,loadOf,K55,endK,resA,tupA,hlen,r0,rr1,r4,r6,r7,r8,r9,r10,r30,hml,q0,c82,td,res55,keep55,leave_app,leave_tup2])
 ·have q0 : decide (([109, 111, 100] : List UInt8) = [100, 105, 118]) = false := rfl
  have q1 : decide (([109, 111, 100] : List UInt8) = [109, 111, 100]) = true := rfl
  (simp only [x55_2,g55_2,a55_2,B0,B1,B2,List.replicate,reduceCtorEq,lenA,seval,B5,pairK,B4,stays,loadOf,K55,endK,resA,tupA,hlen,r0,rr1,r4,r6,r7,r8,r9,r10,r30,hml,q0,q1,c82,td,res55,keep55,leave_app,leave_tup2])
theorem w55_3 (op : List UInt8) (ts : List KT) (t0 tl : KT) (n : Nat) (hn : ts.length = n + 1) (hn2 : n ≤ 999) (hg0 : ts[0]? = some t0) (hgl : ts[n]? = some tl) (hR : ∀ t ∈ ts, Rt t) (tok : Nat) (H : Heap)
  (tm : List AV) (h : Pl op ts t0 tl tok H tm) (hw : op = [101, 113] ∨ op = [108, 116]) :
  exec0 L Λ x55_3 tm (H ++ [.obj none [[.im (.int .i64 0), .nils]], TyO t0, TyO tl, TyO (argX t0 7 0).1]) (K55 H) = some (.tup [.im (.agg (encT (.mk 1 0 []))), .im (.bool (sameR t0 tl))], H) := by
 have ht0 : Rt t0 := hR _ (List.mem_of_getElem? hg0)
 have htl : Rt tl := hR _ (List.mem_of_getElem? hgl)
 obtain ⟨hlen, r0, rr1, r4, r6, r7, r8, r9, r10, r30⟩ := h
 have hml : (ts.map encT).length = n + 1 := by rw [List.length_map, hn]
 have hE : ∀ l : List KT, encTs l = l.map encT := fun l => by induction l with | nil => rfl | cons a l ih => simp only [encTs,List.map_cons,ih]
 have c49 := fun H => s49 1 H
 generalize hsm : sameR t0 tl = sm0 at *
 generalize hag : argX t0 7 0 = ag at *
 obtain ⟨⟨k5, s5, a5⟩, ok5⟩ := ag
 obtain ⟨k1, s1, a1⟩ := t0
 obtain ⟨k2, s2, a2⟩ := tl
 change exec0 L Λ x55_3 tm (H ++ [.obj none [[.im (.int .i64 0), .nils]], .obj none [[.im (.int .i64 k1), .im (.sl s1 (encTs a1))]], .obj none [[.im (.int .i64 k2), .im (.sl s2 (encTs a2))]], .obj none [[.im (.int .i64 k5), .im (.sl s5 (encTs a5))]]]) (K55 H) = some (.tup [.im (.agg [.int .i64 1, .sl 0 []]), .im (.bool (sm0))], H)
 rcases hw with rfl | rfl
 ·have q0 : decide (([101, 113] : List UInt8) = [101, 113]) = true := rfl
  (simp only [x55_3,g55_3,a55_3,B0,B1,B2,List.replicate,reduceCtorEq,lenA,seval,B5,pairK,B4,stays,loadOf,K55,endK,resA,tupA,hlen,r0,rr1,r4,r6,r7,r8,r9,r10,r30,hml,q0,c49,res55,keep55,leave_app,leave_tup2])
 ·have q0 : decide (([108, 116] : List UInt8) = [101, 113]) = false := rfl
  have q1 : decide (([108, 116] : List UInt8) = [108, 116]) = true := rfl
  (simp only [x55_3,g55_3,a55_3,B0,B1,B2,List.replicate,reduceCtorEq,lenA,seval,B5,pairK,B4,stays,loadOf,K55,endK,resA,tupA,hlen,r0,rr1,r4,r6,r7,r8,r9,r10,r30,hml,q0,q1,c49,res55,keep55,leave_app,leave_tup2])
theorem w55_4 (op : List UInt8) (ts : List KT) (t0 tl : KT) (n : Nat) (hn : ts.length = n + 1) (hn2 : n ≤ 999) (hg0 : ts[0]? = some t0) (hgl : ts[n]? = some tl) (hR : ∀ t ∈ ts, Rt t) (tok : Nat) (H : Heap)
  (tm : List AV) (h : Pl op ts t0 tl tok H tm) (hw : op = [97, 110, 100] ∨ op = [111, 114]) :
  exec0 L Λ x55_4 tm (H ++ [.obj none [[.im (.int .i64 0), .nils]], TyO t0, TyO tl, TyO (argX t0 7 0).1]) (K55 H) = some (.tup [.im (.agg (encT t0)), .im (.bool (kindsX ts [1, 1]))], H) := by
 have ht0 : Rt t0 := hR _ (List.mem_of_getElem? hg0)
 have htl : Rt tl := hR _ (List.mem_of_getElem? hgl)
 obtain ⟨hlen, r0, rr1, r4, r6, r7, r8, r9, r10, r30⟩ := h
 have hml : (ts.map encT).length = n + 1 := by rw [List.length_map, hn]
 have hE : ∀ l : List KT, encTs l = l.map encT := fun l => by induction l with | nil => rfl | cons a l ih => simp only [encTs,List.map_cons,ih]
 have c82 := fun H => s82 ts [1, 1] (some tok) 2 1 (.inr rfl) (.inr rfl) (by omega) H
 simp only [slV,intsD,List.map_cons,List.map_nil] at c82
 have td : toDatss [[AV.im (.int .i64 1)], [.im (.int .i64 1)]] = some [[.int .i64 1], [.int .i64 1]] := rfl
 generalize hsm : sameR t0 tl = sm0 at *
 generalize hag : argX t0 7 0 = ag at *
 obtain ⟨⟨k5, s5, a5⟩, ok5⟩ := ag
 obtain ⟨k1, s1, a1⟩ := t0
 obtain ⟨k2, s2, a2⟩ := tl
 change exec0 L Λ x55_4 tm (H ++ [.obj none [[.im (.int .i64 0), .nils]], .obj none [[.im (.int .i64 k1), .im (.sl s1 (encTs a1))]], .obj none [[.im (.int .i64 k2), .im (.sl s2 (encTs a2))]], .obj none [[.im (.int .i64 k5), .im (.sl s5 (encTs a5))]]]) (K55 H) = some (.tup [.im (.agg [.int .i64 k1, .sl s1 (encTs a1)]), .im (.bool (kindsX ts [1, 1]))], H)
 rcases hw with rfl | rfl
 ·have q0 : decide (([97, 110, 100] : List UInt8) = [97, 110, 100]) = true := rfl
  (simp only [x55_4,g55_4,a55_4,B0,B1,B2,List.replicate,reduceCtorEq,lenA,seval,B5,pairK,B4,stays,loadOf,K55,endK,resA,tupA,hlen,r0,rr1,r4,r6,r7,r8,r9,r10,r30,hml,q0,c82,td,res55,keep55,leave_app,leave_tup2])
 ·have q0 : decide (([111, 114] : List UInt8) = [97, 110, 100]) = false := rfl
  have q1 : decide (([111, 114] : List UInt8) = [111, 114]) = true := rfl
  (simp only [x55_4,g55_4,a55_4,B0,B1,B2,List.replicate,reduceCtorEq,lenA,seval,B5,pairK,B4,stays,loadOf,K55,endK,resA,tupA,hlen,r0,rr1,r4,r6,r7,r8,r9,r10,r30,hml,q0,q1,c82,td,res55,keep55,leave_app,leave_tup2])
theorem w55_5 (op : List UInt8) (ts : List KT) (t0 tl : KT) (n : Nat) (hn : ts.length = n + 1) (hn2 : n ≤ 999) (hg0 : ts[0]? = some t0) (hgl : ts[n]? = some tl) (hR : ∀ t ∈ ts, Rt t) (tok : Nat) (H : Heap)
  (tm : List AV) (h : Pl op ts t0 tl tok H tm) (hw : op = [110, 111, 116]) :
  exec0 L Λ x55_5 tm (H ++ [.obj none [[.im (.int .i64 0), .nils]], TyO t0, TyO tl, TyO (argX t0 7 0).1]) (K55 H) = some (.tup [.im (.agg (encT t0)), .im (.bool (decide (t0.k = 1)))], H) := by
 have ht0 : Rt t0 := hR _ (List.mem_of_getElem? hg0)
 have htl : Rt tl := hR _ (List.mem_of_getElem? hgl)
 obtain ⟨hlen, r0, rr1, r4, r6, r7, r8, r9, r10, r30⟩ := h
 have hml : (ts.map encT).length = n + 1 := by rw [List.length_map, hn]
 have hE : ∀ l : List KT, encTs l = l.map encT := fun l => by induction l with | nil => rfl | cons a l ih => simp only [encTs,List.map_cons,ih]
 generalize hsm : sameR t0 tl = sm0 at *
 generalize hag : argX t0 7 0 = ag at *
 obtain ⟨⟨k5, s5, a5⟩, ok5⟩ := ag
 obtain ⟨k1, s1, a1⟩ := t0
 obtain ⟨k2, s2, a2⟩ := tl
 change exec0 L Λ x55_5 tm (H ++ [.obj none [[.im (.int .i64 0), .nils]], .obj none [[.im (.int .i64 k1), .im (.sl s1 (encTs a1))]], .obj none [[.im (.int .i64 k2), .im (.sl s2 (encTs a2))]], .obj none [[.im (.int .i64 k5), .im (.sl s5 (encTs a5))]]]) (K55 H) = some (.tup [.im (.agg [.int .i64 k1, .sl s1 (encTs a1)]), .im (.bool (decide (k1 = 1)))], H)
 rcases hw with rfl
 ·have q0 : decide (([110, 111, 116] : List UInt8) = [110, 111, 116]) = true := rfl
  (simp only [x55_5,g55_5,a55_5,B0,B1,B2,List.replicate,reduceCtorEq,lenA,seval,B5,pairK,B4,stays,loadOf,K55,endK,resA,tupA,hlen,r0,rr1,r4,r6,r7,r8,r9,r10,r30,hml,q0,res55,keep55,leave_app,leave_tup2])
theorem w55_6 (op : List UInt8) (ts : List KT) (t0 tl : KT) (n : Nat) (hn : ts.length = n + 1) (hn2 : n ≤ 999) (hg0 : ts[0]? = some t0) (hgl : ts[n]? = some tl) (hR : ∀ t ∈ ts, Rt t) (tok : Nat) (H : Heap) (t1 : KT) (hg1 : ts[1]? = some t1)
  (tm : List AV) (h : Pl op ts t0 tl tok H tm) (hw : op = [105, 102]) :
  exec0 L Λ x55_6 tm (H ++ [.obj none [[.im (.int .i64 0), .nils]], TyO t0, TyO tl, TyO (argX t0 7 0).1]) (K55 H) = some (.tup [.im (.agg (encT tl)), .im (.bool (decide (t0.k = 1) && sameR (ts.getD 1 zeroT) tl))], H) := by
 have ht0 : Rt t0 := hR _ (List.mem_of_getElem? hg0)
 have htl : Rt tl := hR _ (List.mem_of_getElem? hgl)
 obtain ⟨hlen, r0, rr1, r4, r6, r7, r8, r9, r10, r30⟩ := h
 have hml : (ts.map encT).length = n + 1 := by rw [List.length_map, hn]
 have hE : ∀ l : List KT, encTs l = l.map encT := fun l => by induction l with | nil => rfl | cons a l ih => simp only [encTs,List.map_cons,ih]
 have ht1 : Rt t1 := hR _ (List.mem_of_getElem? hg1)
 have hgD : ts.getD 1 zeroT = t1 := by rw [List.getD_eq_getElem?_getD, hg1]; rfl
 have hm1 : (ts.map encT)[1]? = some (encT t1) := by rw [List.getElem?_map, hg1]; rfl
 have hlt1 := (List.getElem?_eq_some_iff.1 hg1).1
 have i1 : idx (.im (.int .i64 1)) (n + 1) = some 1 := idx_nat (i := 1) (by omega)
 rw [hgD]
 have c16 := fun H => s16 t1 tl ht1.1 htl.1 H
 change ∀ H, L 16 _ H = some (.im (.bool (sameR t1 tl)), H) at c16
 generalize sameR t1 tl = sm at *
 obtain ⟨k3, s3, a3⟩ := t1
 generalize hsm : sameR t0 tl = sm0 at *
 generalize hag : argX t0 7 0 = ag at *
 obtain ⟨⟨k5, s5, a5⟩, ok5⟩ := ag
 obtain ⟨k1, s1, a1⟩ := t0
 obtain ⟨k2, s2, a2⟩ := tl
 simp only [encT] at hm1
 simp only [encT] at c16
 change exec0 L Λ x55_6 tm (H ++ [.obj none [[.im (.int .i64 0), .nils]], .obj none [[.im (.int .i64 k1), .im (.sl s1 (encTs a1))]], .obj none [[.im (.int .i64 k2), .im (.sl s2 (encTs a2))]], .obj none [[.im (.int .i64 k5), .im (.sl s5 (encTs a5))]]]) (K55 H) = some (.tup [.im (.agg [.int .i64 k2, .sl s2 (encTs a2)]), .im (.bool (decide (k1 = 1) && sm))], H)
 rcases hw with rfl
 ·have q0 : decide (([105, 102] : List UInt8) = [105, 102]) = true := rfl
  cases hk1 : decide (k1 = 1) <;>
   (simp only [x55_6,g55_6,a55_6,B0,B1,B2,List.replicate,reduceCtorEq,lenA,seval,B5,pairK,B4,stays,loadOf,K55,endK,resA,tupA,hlen,r0,rr1,r4,r6,r7,r8,r9,r10,r30,hml,q0,hm1,i1,c16,hk1,res55,keep55,leave_app,leave_tup2]) <;> (try (rw [hk1])) <;> first | done | rfl | skip
theorem w55_7 (op : List UInt8) (ts : List KT) (t0 tl : KT) (n : Nat) (hn : ts.length = n + 1) (hn2 : n ≤ 999) (hg0 : ts[0]? = some t0) (hgl : ts[n]? = some tl) (hR : ∀ t ∈ ts, Rt t) (tok : Nat) (H : Heap)
  (tm : List AV) (h : Pl op ts t0 tl tok H tm) (hw : op = [112, 97, 105, 114]) :
  exec0 L Λ x55_7 tm (H ++ [.obj none [[.im (.int .i64 0), .nils]], TyO t0, TyO tl, TyO (argX t0 7 0).1]) (K55 H) = some (.tup [.im (.agg (encT (.mk 6 2 ts))), .im (.bool true)], H) := by
 have ht0 : Rt t0 := hR _ (List.mem_of_getElem? hg0)
 have htl : Rt tl := hR _ (List.mem_of_getElem? hgl)
 obtain ⟨hlen, r0, rr1, r4, r6, r7, r8, r9, r10, r30⟩ := h
 have hml : (ts.map encT).length = n + 1 := by rw [List.length_map, hn]
 have hE : ∀ l : List KT, encTs l = l.map encT := fun l => by induction l with | nil => rfl | cons a l ih => simp only [encTs,List.map_cons,ih]
 generalize hsm : sameR t0 tl = sm0 at *
 generalize hag : argX t0 7 0 = ag at *
 obtain ⟨⟨k5, s5, a5⟩, ok5⟩ := ag
 obtain ⟨k1, s1, a1⟩ := t0
 obtain ⟨k2, s2, a2⟩ := tl
 change exec0 L Λ x55_7 tm (H ++ [.obj none [[.im (.int .i64 0), .nils]], .obj none [[.im (.int .i64 k1), .im (.sl s1 (encTs a1))]], .obj none [[.im (.int .i64 k2), .im (.sl s2 (encTs a2))]], .obj none [[.im (.int .i64 k5), .im (.sl s5 (encTs a5))]]]) (K55 H) = some (.tup [.im (.agg [.int .i64 6, .sl 2 (encTs ts)]), .im (.bool true)], H)
 rw [hE ts]
 have hlv : ∀ (l : List KT) (b : Bool) (M : Heap), leave H false (.tup [.agg [.im (.int .i64 6), .asl 2 (l.map encT) tok], .im (.bool b)]) (H ++ M) = (.tup [.im (.agg [.int .i64 6, .sl 2 (l.map encT)]), .im (.bool b)], H) := fun l b M => leave_two rfl rfl
 rcases hw with rfl
 ·have q0 : decide (([112, 97, 105, 114] : List UInt8) = [112, 97, 105, 114]) = true := rfl
  (simp only [x55_7,g55_7,a55_7,B0,B1,B2,List.replicate,reduceCtorEq,lenA,seval,B5,pairK,B4,stays,loadOf,K55,endK,resA,tupA,hlen,r0,rr1,r4,r6,r7,r8,r9,r10,r30,hml,q0,hlv,res55,keep55,leave_app,leave_tup2])
theorem w55_8 (op : List UInt8) (ts : List KT) (t0 tl : KT) (n : Nat) (hn : ts.length = n + 1) (hn2 : n ≤ 999) (hg0 : ts[0]? = some t0) (hgl : ts[n]? = some tl) (hR : ∀ t ∈ ts, Rt t) (tok : Nat) (H : Heap)
  (tm : List AV) (h : Pl op ts t0 tl tok H tm) (hw : op = [108, 105, 115, 116]) :
  exec0 L Λ x55_8 tm (H ++ [.obj none [[.im (.int .i64 0), .nils]], TyO t0, TyO tl, TyO (argX t0 7 0).1]) (K55 H) = some (.tup [.im (.agg (encT (.mk 7 2 (ts.take 1)))), .im (.bool (!(ts.any fun t => !sameR t t0)))], H) := by
 have ht0 : Rt t0 := hR _ (List.mem_of_getElem? hg0)
 have htl : Rt tl := hR _ (List.mem_of_getElem? hgl)
 obtain ⟨hlen, r0, rr1, r4, r6, r7, r8, r9, r10, r30⟩ := h
 have hml : (ts.map encT).length = n + 1 := by rw [List.length_map, hn]
 have hE : ∀ l : List KT, encTs l = l.map encT := fun l => by induction l with | nil => rfl | cons a l ih => simp only [encTs,List.map_cons,ih]
 have hct : (ts.map encT).take (1 - 0) = encTs (ts.take 1) := by rw [hE, List.map_take]
 have htk : (sliceA 2 (.asl 2 (ts.map encT) tok) 0 (fun _ => some 1) none = some (.asl 2 (ts.map encT) tok) ∧ ts.take 1 = ts) ∨ sliceA 2 (.asl 2 (ts.map encT) tok) 0 (fun _ => some 1) none = some (.im (.sl 2 ((ts.take 1).map encT))) := by
  by_cases hz : n = 0
  ·subst hz
   left
   refine ⟨?_, List.take_of_length_le (by omega)⟩
   unfold sliceA
   simp [hml]
  ·right
   unfold sliceA
   simp [hml, hz, List.map_take]
 have b0 : ∀ (ρ : AOpd → AV) (d : Nat), boundA ρ d none = some d := fun _ _ => rfl
 have b1 : ∀ (tm : List AV) (d : Nat), boundA (ev tm) d (some (.c (.im (.int .i64 1)))) = some 1 := fun _ _ => rfl
 have c48 : ∀ M : Heap, L 48 [.asl 2 (ts.map encT) tok, .clo 83 [.ptr (H.length + 1) 0 0]] (H ++ [.obj none [[.im (.int .i64 0), .nils]], TyO t0, TyO tl, TyO (argX t0 7 0).1] ++ M) = some (.im (.bool (ts.any fun t => !sameR t t0)), H ++ [.obj none [[.im (.int .i64 0), .nils]], TyO t0, TyO tl, TyO (argX t0 7 0).1] ++ M) := fun M =>
  s48v ts tok (by omega) _ 83 _ _ fun a ha => s83 a t0 _ (hR a ha) ht0 _ (by rw [List.append_assoc, List.getElem?_append_right (by omega)]; simp)
 have c48 := c48 []
 rw [List.append_nil] at c48
 generalize (ts.any fun t => !sameR t t0) = an at *
 generalize hsm : sameR t0 tl = sm0 at *
 generalize hag : argX t0 7 0 = ag at *
 obtain ⟨⟨k5, s5, a5⟩, ok5⟩ := ag
 obtain ⟨k1, s1, a1⟩ := t0
 obtain ⟨k2, s2, a2⟩ := tl
 change exec0 L Λ x55_8 tm (H ++ [.obj none [[.im (.int .i64 0), .nils]], .obj none [[.im (.int .i64 k1), .im (.sl s1 (encTs a1))]], .obj none [[.im (.int .i64 k2), .im (.sl s2 (encTs a2))]], .obj none [[.im (.int .i64 k5), .im (.sl s5 (encTs a5))]]]) (K55 H) = some (.tup [.im (.agg [.int .i64 7, .sl 2 (encTs (ts.take 1))]), .im (.bool (!an))], H)
 rw [hE (ts.take 1)]
 have hlv : ∀ (l : List KT) (b : Bool) (M : Heap), leave H false (.tup [.agg [.im (.int .i64 7), .asl 2 (l.map encT) tok], .im (.bool b)]) (H ++ M) = (.tup [.im (.agg [.int .i64 7, .sl 2 (l.map encT)]), .im (.bool b)], H) := fun l b M => leave_two rfl rfl
 change L 48 _ (H ++ [.obj none [[.im (.int .i64 0), .nils]], .obj none [[.im (.int .i64 k1), .im (.sl s1 (encTs a1))]], .obj none [[.im (.int .i64 k2), .im (.sl s2 (encTs a2))]], .obj none [[.im (.int .i64 k5), .im (.sl s5 (encTs a5))]]]) = some (_, H ++ [.obj none [[.im (.int .i64 0), .nils]], .obj none [[.im (.int .i64 k1), .im (.sl s1 (encTs a1))]], .obj none [[.im (.int .i64 k2), .im (.sl s2 (encTs a2))]], .obj none [[.im (.int .i64 k5), .im (.sl s5 (encTs a5))]]]) at c48
 rcases hw with rfl
 ·have q0 : decide (([108, 105, 115, 116] : List UInt8) = [108, 105, 115, 116]) = true := rfl
  rcases htk with ⟨htk, htk1⟩ | htk <;>
   (simp only [x55_8,g55_8,a55_8,B0,B1,B2,List.replicate,reduceCtorEq,lenA,seval,B5,pairK,B4,stays,loadOf,K55,endK,resA,tupA,hlen,r0,rr1,r4,r6,r7,r8,r9,r10,r30,hml,q0,c48,hlv,htk,b0,b1,res55,keep55,leave_app,leave_tup2]) <;> rw [htk1]
theorem w55_9 (op : List UInt8) (ts : List KT) (t0 tl : KT) (n : Nat) (hn : ts.length = n + 1) (hn2 : n ≤ 999) (hg0 : ts[0]? = some t0) (hgl : ts[n]? = some tl) (hR : ∀ t ∈ ts, Rt t) (tok : Nat) (H : Heap)
  (tm : List AV) (h : Pl op ts t0 tl tok H tm) (hw : op = [99, 111, 110, 115]) :
  exec0 L Λ x55_9 tm (H ++ [.obj none [[.im (.int .i64 0), .nils]], TyO t0, TyO tl, TyO (argX t0 7 0).1]) (K55 H) = some (.tup [.im (.agg (encT tl)), .im (.bool ((argX tl 7 0).2 && sameR t0 (argX tl 7 0).1))], H) := by
 have ht0 : Rt t0 := hR _ (List.mem_of_getElem? hg0)
 have htl : Rt tl := hR _ (List.mem_of_getElem? hgl)
 obtain ⟨hlen, r0, rr1, r4, r6, r7, r8, r9, r10, r30⟩ := h
 have hml : (ts.map encT).length = n + 1 := by rw [List.length_map, hn]
 have hE : ∀ l : List KT, encTs l = l.map encT := fun l => by induction l with | nil => rfl | cons a l ih => simp only [encTs,List.map_cons,ih]
 have c36 := fun H => s36 tl htl.1 7 0 (fun h => right_cnt (k := tl.k) (s := tl.s) (args := tl.args) (by cases tl; exact htl.2) (.inl h)) H
 have z0 : ((0 : Nat) : Int) = 0 := rfl
 rw [z0] at c36
 have hoa : okT (argX tl 7 0).1 := by
  unfold argX
  split
  ·rcases List.getElem?_eq_some_iff.1 (show tl.args[0]? = some (tl.args.getD 0 zeroT) by
    rw [List.getD_eq_getElem?_getD, List.getElem?_eq_getElem (right_cnt (k := tl.k) (s := tl.s) (args := tl.args) (by cases tl; exact htl.2) (.inl (by assumption)))]; rfl) with ⟨hl, he⟩
   have := htl.1
   obtain ⟨k2, s2, a2⟩ := tl
   simp only [okT] at this
   exact okTs_mem this.2.2 _ (List.mem_of_getElem? (List.getElem?_eq_some_iff.2 ⟨hl, he⟩))
  ·exact ⟨.inl rfl, by simp [zeroT], trivial⟩
 have c16 := fun H => s16 t0 (argX tl 7 0).1 ht0.1 hoa H
 change ∀ H, L 16 _ H = some (.im (.bool (sameR t0 (argX tl 7 0).1)), H) at c16
 generalize sameR t0 (argX tl 7 0).1 = sm at *
 generalize argX tl 7 0 = ag2 at *
 obtain ⟨⟨k4, s4, a4⟩, ok4⟩ := ag2
 generalize hsm : sameR t0 tl = sm0 at *
 generalize hag : argX t0 7 0 = ag at *
 obtain ⟨⟨k5, s5, a5⟩, ok5⟩ := ag
 obtain ⟨k1, s1, a1⟩ := t0
 obtain ⟨k2, s2, a2⟩ := tl
 simp only [encT] at c36
 simp only [encT] at c16
 change exec0 L Λ x55_9 tm (H ++ [.obj none [[.im (.int .i64 0), .nils]], .obj none [[.im (.int .i64 k1), .im (.sl s1 (encTs a1))]], .obj none [[.im (.int .i64 k2), .im (.sl s2 (encTs a2))]], .obj none [[.im (.int .i64 k5), .im (.sl s5 (encTs a5))]]]) (K55 H) = some (.tup [.im (.agg [.int .i64 k2, .sl s2 (encTs a2)]), .im (.bool (ok4 && sm))], H)
 rcases hw with rfl
 ·have q0 : decide (([99, 111, 110, 115] : List UInt8) = [99, 111, 110, 115]) = true := rfl
  cases ok4 <;>
   (simp only [x55_9,g55_9,a55_9,B0,B1,B2,List.replicate,reduceCtorEq,lenA,seval,B5,pairK,B4,stays,loadOf,K55,endK,resA,tupA,hlen,r0,rr1,r4,r6,r7,r8,r9,r10,r30,hml,q0,c36,c16,res55,keep55,leave_app,leave_tup2]) <;> first | done | rfl | skip
theorem w55_10 (op : List UInt8) (ts : List KT) (t0 tl : KT) (n : Nat) (hn : ts.length = n + 1) (hn2 : n ≤ 999) (hg0 : ts[0]? = some t0) (hgl : ts[n]? = some tl) (hR : ∀ t ∈ ts, Rt t) (tok : Nat) (H : Heap)
  (tm : List AV) (h : Pl op ts t0 tl tok H tm) (hw : op = [99, 111, 110, 99, 97, 116]) :
  exec0 L Λ x55_10 tm (H ++ [.obj none [[.im (.int .i64 0), .nils]], TyO t0, TyO tl, TyO (argX t0 7 0).1]) (K55 H) = some (.tup [.im (.agg (encT t0)), .im (.bool ((argX t0 7 0).2 && sameR t0 tl))], H) := by
 have ht0 : Rt t0 := hR _ (List.mem_of_getElem? hg0)
 have htl : Rt tl := hR _ (List.mem_of_getElem? hgl)
 obtain ⟨hlen, r0, rr1, r4, r6, r7, r8, r9, r10, r30⟩ := h
 have hml : (ts.map encT).length = n + 1 := by rw [List.length_map, hn]
 have hE : ∀ l : List KT, encTs l = l.map encT := fun l => by induction l with | nil => rfl | cons a l ih => simp only [encTs,List.map_cons,ih]
 generalize hsm : sameR t0 tl = sm0 at *
 generalize hag : argX t0 7 0 = ag at *
 obtain ⟨⟨k5, s5, a5⟩, ok5⟩ := ag
 obtain ⟨k1, s1, a1⟩ := t0
 obtain ⟨k2, s2, a2⟩ := tl
 change exec0 L Λ x55_10 tm (H ++ [.obj none [[.im (.int .i64 0), .nils]], .obj none [[.im (.int .i64 k1), .im (.sl s1 (encTs a1))]], .obj none [[.im (.int .i64 k2), .im (.sl s2 (encTs a2))]], .obj none [[.im (.int .i64 k5), .im (.sl s5 (encTs a5))]]]) (K55 H) = some (.tup [.im (.agg [.int .i64 k1, .sl s1 (encTs a1)]), .im (.bool (ok5 && sm0))], H)
 rcases hw with rfl
 ·have q0 : decide (([99, 111, 110, 99, 97, 116] : List UInt8) = [99, 111, 110, 99, 97, 116]) = true := rfl
  cases ok5 <;>
   (simp only [x55_10,g55_10,a55_10,B0,B1,B2,List.replicate,reduceCtorEq,lenA,seval,B5,pairK,B4,stays,loadOf,K55,endK,resA,tupA,hlen,r0,rr1,r4,r6,r7,r8,r9,r10,r30,hml,q0,res55,keep55,leave_app,leave_tup2]) <;> first | done | rfl | skip
theorem w55_11 (op : List UInt8) (ts : List KT) (t0 tl : KT) (n : Nat) (hn : ts.length = n + 1) (hn2 : n ≤ 999) (hg0 : ts[0]? = some t0) (hgl : ts[n]? = some tl) (hR : ∀ t ∈ ts, Rt t) (tok : Nat) (H : Heap)
  (tm : List AV) (h : Pl op ts t0 tl tok H tm) (hw : op = [115, 111, 114, 116]) :
  exec0 L Λ x55_11 tm (H ++ [.obj none [[.im (.int .i64 0), .nils]], TyO t0, TyO tl, TyO (argX t0 7 0).1]) (K55 H) = some (.tup [.im (.agg (encT t0)), .im (.bool (argX t0 7 0).2)], H) := by
 have ht0 : Rt t0 := hR _ (List.mem_of_getElem? hg0)
 have htl : Rt tl := hR _ (List.mem_of_getElem? hgl)
 obtain ⟨hlen, r0, rr1, r4, r6, r7, r8, r9, r10, r30⟩ := h
 have hml : (ts.map encT).length = n + 1 := by rw [List.length_map, hn]
 have hE : ∀ l : List KT, encTs l = l.map encT := fun l => by induction l with | nil => rfl | cons a l ih => simp only [encTs,List.map_cons,ih]
 generalize hsm : sameR t0 tl = sm0 at *
 generalize hag : argX t0 7 0 = ag at *
 obtain ⟨⟨k5, s5, a5⟩, ok5⟩ := ag
 obtain ⟨k1, s1, a1⟩ := t0
 obtain ⟨k2, s2, a2⟩ := tl
 change exec0 L Λ x55_11 tm (H ++ [.obj none [[.im (.int .i64 0), .nils]], .obj none [[.im (.int .i64 k1), .im (.sl s1 (encTs a1))]], .obj none [[.im (.int .i64 k2), .im (.sl s2 (encTs a2))]], .obj none [[.im (.int .i64 k5), .im (.sl s5 (encTs a5))]]]) (K55 H) = some (.tup [.im (.agg [.int .i64 k1, .sl s1 (encTs a1)]), .im (.bool ok5)], H)
 rcases hw with rfl
 ·have q0 : decide (([115, 111, 114, 116] : List UInt8) = [115, 111, 114, 116]) = true := rfl
  (simp only [x55_11,g55_11,a55_11,B0,B1,B2,List.replicate,reduceCtorEq,lenA,seval,B5,pairK,B4,stays,loadOf,K55,endK,resA,tupA,hlen,r0,rr1,r4,r6,r7,r8,r9,r10,r30,hml,q0,res55,keep55,leave_app,leave_tup2])
theorem w55_12 (op : List UInt8) (ts : List KT) (t0 tl : KT) (n : Nat) (hn : ts.length = n + 1) (hn2 : n ≤ 999) (hg0 : ts[0]? = some t0) (hgl : ts[n]? = some tl) (hR : ∀ t ∈ ts, Rt t) (tok : Nat) (H : Heap)
  (tm : List AV) (h : Pl op ts t0 tl tok H tm) (hw : op = [108, 101, 110]) :
  exec0 L Λ x55_12 tm (H ++ [.obj none [[.im (.int .i64 0), .nils]], TyO t0, TyO tl, TyO (argX t0 7 0).1]) (K55 H) = some (.tup [.im (.agg (encT (.mk 2 0 []))), .im (.bool (argX t0 7 0).2)], H) := by
 have ht0 : Rt t0 := hR _ (List.mem_of_getElem? hg0)
 have htl : Rt tl := hR _ (List.mem_of_getElem? hgl)
 obtain ⟨hlen, r0, rr1, r4, r6, r7, r8, r9, r10, r30⟩ := h
 have hml : (ts.map encT).length = n + 1 := by rw [List.length_map, hn]
 have hE : ∀ l : List KT, encTs l = l.map encT := fun l => by induction l with | nil => rfl | cons a l ih => simp only [encTs,List.map_cons,ih]
 have c49 := fun H => s49 2 H
 generalize hsm : sameR t0 tl = sm0 at *
 generalize hag : argX t0 7 0 = ag at *
 obtain ⟨⟨k5, s5, a5⟩, ok5⟩ := ag
 obtain ⟨k1, s1, a1⟩ := t0
 obtain ⟨k2, s2, a2⟩ := tl
 change exec0 L Λ x55_12 tm (H ++ [.obj none [[.im (.int .i64 0), .nils]], .obj none [[.im (.int .i64 k1), .im (.sl s1 (encTs a1))]], .obj none [[.im (.int .i64 k2), .im (.sl s2 (encTs a2))]], .obj none [[.im (.int .i64 k5), .im (.sl s5 (encTs a5))]]]) (K55 H) = some (.tup [.im (.agg [.int .i64 2, .sl 0 []]), .im (.bool ok5)], H)
 rcases hw with rfl
 ·have q0 : decide (([108, 101, 110] : List UInt8) = [108, 101, 110]) = true := rfl
  (simp only [x55_12,g55_12,a55_12,B0,B1,B2,List.replicate,reduceCtorEq,lenA,seval,B5,pairK,B4,stays,loadOf,K55,endK,resA,tupA,hlen,r0,rr1,r4,r6,r7,r8,r9,r10,r30,hml,q0,c49,res55,keep55,leave_app,leave_tup2])
theorem w55_13 (op : List UInt8) (ts : List KT) (t0 tl : KT) (n : Nat) (hn : ts.length = n + 1) (hn2 : n ≤ 999) (hg0 : ts[0]? = some t0) (hgl : ts[n]? = some tl) (hR : ∀ t ∈ ts, Rt t) (tok : Nat) (H : Heap)
  (tm : List AV) (h : Pl op ts t0 tl tok H tm) (hw : op = [97, 116]) :
  exec0 L Λ x55_13 tm (H ++ [.obj none [[.im (.int .i64 0), .nils]], TyO t0, TyO tl, TyO (argX t0 7 0).1]) (K55 H) = some (.tup [.im (.agg (encT (.mk 9 2 [(argX t0 7 0).1]))), .im (.bool ((argX t0 7 0).2 && decide (tl.k = 2)))], H) := by
 have ht0 : Rt t0 := hR _ (List.mem_of_getElem? hg0)
 have htl : Rt tl := hR _ (List.mem_of_getElem? hgl)
 obtain ⟨hlen, r0, rr1, r4, r6, r7, r8, r9, r10, r30⟩ := h
 have hml : (ts.map encT).length = n + 1 := by rw [List.length_map, hn]
 have hE : ∀ l : List KT, encTs l = l.map encT := fun l => by induction l with | nil => rfl | cons a l ih => simp only [encTs,List.map_cons,ih]
 generalize hsm : sameR t0 tl = sm0 at *
 generalize hag : argX t0 7 0 = ag at *
 obtain ⟨⟨k5, s5, a5⟩, ok5⟩ := ag
 obtain ⟨k1, s1, a1⟩ := t0
 obtain ⟨k2, s2, a2⟩ := tl
 change exec0 L Λ x55_13 tm (H ++ [.obj none [[.im (.int .i64 0), .nils]], .obj none [[.im (.int .i64 k1), .im (.sl s1 (encTs a1))]], .obj none [[.im (.int .i64 k2), .im (.sl s2 (encTs a2))]], .obj none [[.im (.int .i64 k5), .im (.sl s5 (encTs a5))]]]) (K55 H) = some (.tup [.im (.agg [.int .i64 9, .sl 2 [[.int .i64 k5, .sl s5 (encTs a5)]]]), .im (.bool (ok5 && decide (k2 = 2)))], H)
 have td : toDatss [[AV.im (.int .i64 k5), .im (.sl s5 (encTs a5))]] = some [[.int .i64 k5, .sl s5 (encTs a5)]] := rfl
 rcases hw with rfl
 ·have q0 : decide (([97, 116] : List UInt8) = [97, 116]) = true := rfl
  cases ok5 <;>
   (simp only [x55_13,g55_13,a55_13,B0,B1,B2,List.replicate,reduceCtorEq,lenA,seval,B5,pairK,B4,stays,loadOf,K55,endK,resA,tupA,hlen,r0,rr1,r4,r6,r7,r8,r9,r10,r30,hml,q0,td,res55,keep55,leave_app,leave_tup2]) <;> first | done | rfl | skip
theorem w55_14 (op : List UInt8) (ts : List KT) (t0 tl : KT) (n : Nat) (hn : ts.length = n + 1) (hn2 : n ≤ 999) (hg0 : ts[0]? = some t0) (hgl : ts[n]? = some tl) (hR : ∀ t ∈ ts, Rt t) (tok : Nat) (H : Heap)
  (tm : List AV) (h : Pl op ts t0 tl tok H tm) (hw : op = [114, 97, 110, 103, 101]) :
  exec0 L Λ x55_14 tm (H ++ [.obj none [[.im (.int .i64 0), .nils]], TyO t0, TyO tl, TyO (argX t0 7 0).1]) (K55 H) = some (.tup [.im (.agg (encT (.mk 7 2 ts))), .im (.bool (decide (t0.k = 2)))], H) := by
 have ht0 : Rt t0 := hR _ (List.mem_of_getElem? hg0)
 have htl : Rt tl := hR _ (List.mem_of_getElem? hgl)
 obtain ⟨hlen, r0, rr1, r4, r6, r7, r8, r9, r10, r30⟩ := h
 have hml : (ts.map encT).length = n + 1 := by rw [List.length_map, hn]
 have hE : ∀ l : List KT, encTs l = l.map encT := fun l => by induction l with | nil => rfl | cons a l ih => simp only [encTs,List.map_cons,ih]
 generalize hsm : sameR t0 tl = sm0 at *
 generalize hag : argX t0 7 0 = ag at *
 obtain ⟨⟨k5, s5, a5⟩, ok5⟩ := ag
 obtain ⟨k1, s1, a1⟩ := t0
 obtain ⟨k2, s2, a2⟩ := tl
 change exec0 L Λ x55_14 tm (H ++ [.obj none [[.im (.int .i64 0), .nils]], .obj none [[.im (.int .i64 k1), .im (.sl s1 (encTs a1))]], .obj none [[.im (.int .i64 k2), .im (.sl s2 (encTs a2))]], .obj none [[.im (.int .i64 k5), .im (.sl s5 (encTs a5))]]]) (K55 H) = some (.tup [.im (.agg [.int .i64 7, .sl 2 (encTs ts)]), .im (.bool (decide (k1 = 2)))], H)
 rw [hE ts]
 have hlv : ∀ (l : List KT) (b : Bool) (M : Heap), leave H false (.tup [.agg [.im (.int .i64 7), .asl 2 (l.map encT) tok], .im (.bool b)]) (H ++ M) = (.tup [.im (.agg [.int .i64 7, .sl 2 (l.map encT)]), .im (.bool b)], H) := fun l b M => leave_two rfl rfl
 rcases hw with rfl
 ·have q0 : decide (([114, 97, 110, 103, 101] : List UInt8) = [114, 97, 110, 103, 101]) = true := rfl
  (simp only [x55_14,g55_14,a55_14,B0,B1,B2,List.replicate,reduceCtorEq,lenA,seval,B5,pairK,B4,stays,loadOf,K55,endK,resA,tupA,hlen,r0,rr1,r4,r6,r7,r8,r9,r10,r30,hml,q0,hlv,res55,keep55,leave_app,leave_tup2])
theorem w55_15 (op : List UInt8) (ts : List KT) (t0 tl : KT) (n : Nat) (hn : ts.length = n + 1) (hn2 : n ≤ 999) (hg0 : ts[0]? = some t0) (hgl : ts[n]? = some tl) (hR : ∀ t ∈ ts, Rt t) (tok : Nat) (H : Heap)
  (tm : List AV) (h : Pl op ts t0 tl tok H tm) (hw : op = [115, 111, 109, 101]) :
  exec0 L Λ x55_15 tm (H ++ [.obj none [[.im (.int .i64 0), .nils]], TyO t0, TyO tl, TyO (argX t0 7 0).1]) (K55 H) = some (.tup [.im (.agg (encT (.mk 9 2 ts))), .im (.bool true)], H) := by
 have ht0 : Rt t0 := hR _ (List.mem_of_getElem? hg0)
 have htl : Rt tl := hR _ (List.mem_of_getElem? hgl)
 obtain ⟨hlen, r0, rr1, r4, r6, r7, r8, r9, r10, r30⟩ := h
 have hml : (ts.map encT).length = n + 1 := by rw [List.length_map, hn]
 have hE : ∀ l : List KT, encTs l = l.map encT := fun l => by induction l with | nil => rfl | cons a l ih => simp only [encTs,List.map_cons,ih]
 generalize hsm : sameR t0 tl = sm0 at *
 generalize hag : argX t0 7 0 = ag at *
 obtain ⟨⟨k5, s5, a5⟩, ok5⟩ := ag
 obtain ⟨k1, s1, a1⟩ := t0
 obtain ⟨k2, s2, a2⟩ := tl
 change exec0 L Λ x55_15 tm (H ++ [.obj none [[.im (.int .i64 0), .nils]], .obj none [[.im (.int .i64 k1), .im (.sl s1 (encTs a1))]], .obj none [[.im (.int .i64 k2), .im (.sl s2 (encTs a2))]], .obj none [[.im (.int .i64 k5), .im (.sl s5 (encTs a5))]]]) (K55 H) = some (.tup [.im (.agg [.int .i64 9, .sl 2 (encTs ts)]), .im (.bool true)], H)
 rw [hE ts]
 have hlv : ∀ (l : List KT) (b : Bool) (M : Heap), leave H false (.tup [.agg [.im (.int .i64 9), .asl 2 (l.map encT) tok], .im (.bool b)]) (H ++ M) = (.tup [.im (.agg [.int .i64 9, .sl 2 (l.map encT)]), .im (.bool b)], H) := fun l b M => leave_two rfl rfl
 rcases hw with rfl
 ·have q0 : decide (([115, 111, 109, 101] : List UInt8) = [115, 111, 109, 101]) = true := rfl
  (simp only [x55_15,g55_15,a55_15,B0,B1,B2,List.replicate,reduceCtorEq,lenA,seval,B5,pairK,B4,stays,loadOf,K55,endK,resA,tupA,hlen,r0,rr1,r4,r6,r7,r8,r9,r10,r30,hml,q0,hlv,res55,keep55,leave_app,leave_tup2])
end Go.Abs.Seat
end
section
set_option linter.unusedVariables false
set_option linter.unusedSimpArgs false
namespace Go.Abs.Seat
open Go.Proofs
noncomputable def K84 (H : Heap) := blockK 0 (seqK L Λ (.seq h84_4 h84_5) (endK f84 H))
theorem res84 : f84.results = [(4, (some (some 2))), (5, none)] := _root_.id rfl
theorem keep84 : f84.keep = false := _root_.id rfl
structure Mo (op : List UInt8) (ts : List KT) (t0 : KT) (tok : Nat) (H : Heap) (tm : List AV) : Prop where
 len : tm.length = 113
 r0 : tm.getD 0 undefA = .im (.str op)
 r1 : tm.getD 1 undefA = .asl 2 (ts.map encT) tok
 r4 : tm.getD 4 undefA = .ptr H.length 0 0
 r6 : tm.getD 6 undefA = .ptr (H.length + 1) 0 0
 r7 : tm.getD 7 undefA = .im (.bool (decide (t0.k = 3) || decide (t0.k = 4)))
 r22 : tm.getD 22 undefA = .im (.str op)
theorem Mo.same {op : List UInt8} {ts : List KT} {t0 : KT} {tok : Nat} {H : Heap} {tm tm' : List AV} (h : Mo op ts t0 tok H tm) (hl : tm'.length = 113) (hs : Same [0, 1, 4, 5, 6, 7, 22] tm tm') : Mo op ts t0 tok H tm' :=
 ⟨hl, (hs 0 (by simp)).trans h.r0, (hs 1 (by simp)).trans h.r1, (hs 4 (by simp)).trans h.r4, (hs 6 (by simp)).trans h.r6, (hs 7 (by simp)).trans h.r7, (hs 22 (by simp)).trans h.r22⟩
theorem pre84 (op : List UInt8) (ts : List KT) (t0 : KT) (n : Nat) (hn : ts.length = n + 1) (hn2 : n ≤ 999) (h0 : ts[0]? = some t0) (tok : Nat) (H : Heap) :
  ∃ tm, L 84 [.im (.str op), .asl 2 (ts.map encT) tok] H = exec0 L Λ x84_0 tm (H ++ [.obj none [[.im (.int .i64 0), .nils]], TyO t0]) (K84 H) ∧ Mo op ts t0 tok H tm := by
 have hg0 : (ts.map encT)[0]? = some (encT t0) := by rw [List.getElem?_map, h0]; rfl
 have hml : (ts.map encT).length = n + 1 := by rw [List.length_map, hn]
 have i0 : idx (.im (.int .i64 0)) (n + 1) = some 0 := idx_nat (i := 0) (by omega)
 obtain ⟨k1, s1, a1⟩ := t0
 simp only [encT,TyO,KT.k,KT.s,KT.args] at hg0 ⊢
 rw [leq F84]
 obtain ⟨hlen, hg⟩ := enter_at (f := f84) (args := [.im (.str op), .asl 2 (ts.map encT) tok]) (Nat.le_of_ble_eq_true rfl)
 have h0 := hg 0 _ rfl
 have h1 := hg 1 _ rfl
 generalize enterA f84 [.im (.str op), .asl 2 (ts.map encT) tok] = tm at *
 change tm.length = 113 at hlen
 have hc : f84.code = (.seq h84_0 (.seq h84_1 (.seq h84_2 (.seq (.seq h84_3 (.block 0 x84_0)) (.seq h84_4 h84_5))))) := congrArg AFunc.code f84_code
 rw [hc]
 unfold K84
 cases hk3 : decide (k1 = 3) <;> cases hk4 : decide (k1 = 4) <;>
 (simp only [h84_0,h84_1,h84_2,h84_3,B0,B1,B2,List.replicate,reduceCtorEq,lenA,seval,B5,pairK,B4,stays,loadOf,hlen,h0,h1,hml,hg0,i0,hk3,hk4]
  refine ⟨_, rfl, ?_⟩
  refine ⟨by simp only [List.length_set,hlen], by simp only [B3,seval,hlen,h0], by simp only [B3,seval,hlen,h1], by simp only [B3,seval,hlen], by simp only [B3,seval,hlen], ?_, by simp only [B3,seval,hlen]⟩
  change _ = AV.im (Dat.bool (decide (k1 = 3) || decide (k1 = 4)))
  rw [hk3, hk4]
  simp only [B3,seval,hlen]
  try rfl)
theorem w84_0a (op : List UInt8) (ts : List KT) (t0 : KT) (n : Nat) (hn : ts.length = n + 1) (hn2 : n ≤ 999) (hg0 : ts[0]? = some t0) (hR : ∀ t ∈ ts, Rt t) (tok : Nat) (H : Heap)
  (tm : List AV) (h : Mo op ts t0 tok H tm) (hw : op = [102, 105, 114, 115, 116]) :
  exec0 L Λ x84_0 tm (H ++ [.obj none [[.im (.int .i64 0), .nils]], TyO t0]) (K84 H) = some (.tup [.im (.agg (encT (argX t0 6 0).1)), .im (.bool (argX t0 6 0).2)], H) := by
 have ht0 : Rt t0 := hR _ (List.mem_of_getElem? hg0)
 obtain ⟨hlen, r0, rr1, r4, r6, r7, r22⟩ := h
 have hml : (ts.map encT).length = n + 1 := by rw [List.length_map, hn]
 have c36 := fun H => s36 t0 ht0.1 6 0 (fun h => by have := right_cnt2 (k := t0.k) (s := t0.s) (args := t0.args) (by cases t0; exact ht0.2) h; omega) H
 have z0 : ((0 : Nat) : Int) = 0 := rfl
 rw [z0] at c36
 generalize argX t0 6 0 = ag at *
 obtain ⟨⟨k5, s5, a5⟩, ok5⟩ := ag
 obtain ⟨k1, s1, a1⟩ := t0
 change tm.getD 7 undefA = .im (.bool (decide (k1 = 3) || decide (k1 = 4))) at r7
 simp only [encT] at c36
 change exec0 L Λ x84_0 tm (H ++ [.obj none [[.im (.int .i64 0), .nils]], .obj none [[.im (.int .i64 k1), .im (.sl s1 (encTs a1))]]]) (K84 H) = some (.tup [.im (.agg [.int .i64 k5, .sl s5 (encTs a5)]), .im (.bool ok5)], H)
 rcases hw with rfl
 ·have q0 : decide (([102, 105, 114, 115, 116] : List UInt8) = [102, 105, 114, 115, 116]) = true := rfl
  have q1 : decide (([102, 105, 114, 115, 116] : List UInt8) = [115, 101, 99, 111, 110, 100]) = false := rfl
  (simp only [x84_0,g84_0,a84_0,B0,B1,B2,List.replicate,reduceCtorEq,lenA,seval,B5,pairK,B4,stays,loadOf,K84,endK,resA,tupA,hlen,r0,rr1,r4,r6,r7,r22,hml,q0,q1,c36,res84,keep84,leave_app,leave_tup2])
theorem w84_0b (op : List UInt8) (ts : List KT) (t0 : KT) (n : Nat) (hn : ts.length = n + 1) (hn2 : n ≤ 999) (hg0 : ts[0]? = some t0) (hR : ∀ t ∈ ts, Rt t) (tok : Nat) (H : Heap)
  (tm : List AV) (h : Mo op ts t0 tok H tm) (hw : op = [115, 101, 99, 111, 110, 100]) :
  exec0 L Λ x84_0 tm (H ++ [.obj none [[.im (.int .i64 0), .nils]], TyO t0]) (K84 H) = some (.tup [.im (.agg (encT (argX t0 6 1).1)), .im (.bool (argX t0 6 1).2)], H) := by
 have ht0 : Rt t0 := hR _ (List.mem_of_getElem? hg0)
 obtain ⟨hlen, r0, rr1, r4, r6, r7, r22⟩ := h
 have hml : (ts.map encT).length = n + 1 := by rw [List.length_map, hn]
 have c36 := fun H => s36 t0 ht0.1 6 1 (fun h => by have := right_cnt2 (k := t0.k) (s := t0.s) (args := t0.args) (by cases t0; exact ht0.2) h; omega) H
 have z0 : ((1 : Nat) : Int) = 1 := rfl
 rw [z0] at c36
 generalize argX t0 6 1 = ag at *
 obtain ⟨⟨k5, s5, a5⟩, ok5⟩ := ag
 obtain ⟨k1, s1, a1⟩ := t0
 change tm.getD 7 undefA = .im (.bool (decide (k1 = 3) || decide (k1 = 4))) at r7
 simp only [encT] at c36
 change exec0 L Λ x84_0 tm (H ++ [.obj none [[.im (.int .i64 0), .nils]], .obj none [[.im (.int .i64 k1), .im (.sl s1 (encTs a1))]]]) (K84 H) = some (.tup [.im (.agg [.int .i64 k5, .sl s5 (encTs a5)]), .im (.bool ok5)], H)
 rcases hw with rfl
 ·have q0 : decide (([115, 101, 99, 111, 110, 100] : List UInt8) = [102, 105, 114, 115, 116]) = false := rfl
  have q1 : decide (([115, 101, 99, 111, 110, 100] : List UInt8) = [115, 101, 99, 111, 110, 100]) = true := rfl
  (simp only [x84_0,g84_0,a84_0,B0,B1,B2,List.replicate,reduceCtorEq,lenA,seval,B5,pairK,B4,stays,loadOf,K84,endK,resA,tupA,hlen,r0,rr1,r4,r6,r7,r22,hml,q0,q1,c36,res84,keep84,leave_app,leave_tup2])
theorem w84_1 (op : List UInt8) (ts : List KT) (t0 : KT) (n : Nat) (hn : ts.length = n + 1) (hn2 : n ≤ 999) (hg0 : ts[0]? = some t0) (hR : ∀ t ∈ ts, Rt t) (tok : Nat) (H : Heap)
  (tm : List AV) (h : Mo op ts t0 tok H tm) (hw : op = [105, 115, 95, 115, 111, 109, 101]) :
  exec0 L Λ x84_1 tm (H ++ [.obj none [[.im (.int .i64 0), .nils]], TyO t0]) (K84 H) = some (.tup [.im (.agg (encT (.mk 1 0 []))), .im (.bool (decide (t0.k = 9)))], H) := by
 have ht0 : Rt t0 := hR _ (List.mem_of_getElem? hg0)
 obtain ⟨hlen, r0, rr1, r4, r6, r7, r22⟩ := h
 have hml : (ts.map encT).length = n + 1 := by rw [List.length_map, hn]
 have c49 := fun H => s49 1 H
 obtain ⟨k1, s1, a1⟩ := t0
 change tm.getD 7 undefA = .im (.bool (decide (k1 = 3) || decide (k1 = 4))) at r7
 change exec0 L Λ x84_1 tm (H ++ [.obj none [[.im (.int .i64 0), .nils]], .obj none [[.im (.int .i64 k1), .im (.sl s1 (encTs a1))]]]) (K84 H) = some (.tup [.im (.agg [.int .i64 1, .sl 0 []]), .im (.bool (decide (k1 = 9)))], H)
 rcases hw with rfl
 ·have q0 : decide (([105, 115, 95, 115, 111, 109, 101] : List UInt8) = [105, 115, 95, 115, 111, 109, 101]) = true := rfl
  (simp only [x84_1,g84_1,a84_1,B0,B1,B2,List.replicate,reduceCtorEq,lenA,seval,B5,pairK,B4,stays,loadOf,K84,endK,resA,tupA,hlen,r0,rr1,r4,r6,r7,r22,hml,q0,c49,res84,keep84,leave_app,leave_tup2])
theorem w84_2 (op : List UInt8) (ts : List KT) (t0 : KT) (n : Nat) (hn : ts.length = n + 1) (hn2 : n ≤ 999) (hg0 : ts[0]? = some t0) (hR : ∀ t ∈ ts, Rt t) (tok : Nat) (H : Heap) (t1 : KT) (hg1 : ts[1]? = some t1)
  (tm : List AV) (h : Mo op ts t0 tok H tm) (hw : op = [111, 114, 95, 101, 108, 115, 101]) :
  exec0 L Λ x84_2 tm (H ++ [.obj none [[.im (.int .i64 0), .nils]], TyO t0]) (K84 H) = some (.tup [.im (.agg (encT (argX t0 9 0).1)), .im (.bool ((argX t0 9 0).2 && sameR (argX t0 9 0).1 (ts.getD 1 zeroT)))], H) := by
 have ht0 : Rt t0 := hR _ (List.mem_of_getElem? hg0)
 obtain ⟨hlen, r0, rr1, r4, r6, r7, r22⟩ := h
 have hml : (ts.map encT).length = n + 1 := by rw [List.length_map, hn]
 have ht1 : Rt t1 := hR _ (List.mem_of_getElem? hg1)
 have hgD : ts.getD 1 zeroT = t1 := by rw [List.getD_eq_getElem?_getD, hg1]; rfl
 have hm1 : (ts.map encT)[1]? = some (encT t1) := by rw [List.getElem?_map, hg1]; rfl
 have hlt1 := (List.getElem?_eq_some_iff.1 hg1).1
 have i1 : idx (.im (.int .i64 1)) (n + 1) = some 1 := idx_nat (i := 1) (by omega)
 rw [hgD]
 have c36 := fun H => s36 t0 ht0.1 9 0 (fun h => right_cnt (k := t0.k) (s := t0.s) (args := t0.args) (by cases t0; exact ht0.2) (.inr h)) H
 have z0 : ((0 : Nat) : Int) = 0 := rfl
 rw [z0] at c36
 have hoa : okT (argX t0 9 0).1 := by
  unfold argX
  split
  ·rcases List.getElem?_eq_some_iff.1 (show t0.args[0]? = some (t0.args.getD 0 zeroT) by
    rw [List.getD_eq_getElem?_getD, List.getElem?_eq_getElem (right_cnt (k := t0.k) (s := t0.s) (args := t0.args) (by cases t0; exact ht0.2) (.inr (by assumption)))]; rfl) with ⟨hl, he⟩
   have := ht0.1
   obtain ⟨k2, s2, a2⟩ := t0
   simp only [okT] at this
   exact okTs_mem this.2.2 _ (List.mem_of_getElem? (List.getElem?_eq_some_iff.2 ⟨hl, he⟩))
  ·exact ⟨.inl rfl, by simp [zeroT], trivial⟩
 have c16 := fun H => s16 (argX t0 9 0).1 t1 hoa ht1.1 H
 change ∀ H, L 16 _ H = some (.im (.bool (sameR (argX t0 9 0).1 t1)), H) at c16
 generalize sameR (argX t0 9 0).1 t1 = sm at *
 generalize argX t0 9 0 = ag at *
 obtain ⟨⟨k5, s5, a5⟩, ok5⟩ := ag
 obtain ⟨k3, s3, a3⟩ := t1
 obtain ⟨k1, s1, a1⟩ := t0
 change tm.getD 7 undefA = .im (.bool (decide (k1 = 3) || decide (k1 = 4))) at r7
 simp only [encT] at hm1
 simp only [encT] at c36
 simp only [encT] at c16
 change exec0 L Λ x84_2 tm (H ++ [.obj none [[.im (.int .i64 0), .nils]], .obj none [[.im (.int .i64 k1), .im (.sl s1 (encTs a1))]]]) (K84 H) = some (.tup [.im (.agg [.int .i64 k5, .sl s5 (encTs a5)]), .im (.bool (ok5 && sm))], H)
 rcases hw with rfl
 ·have q0 : decide (([111, 114, 95, 101, 108, 115, 101] : List UInt8) = [111, 114, 95, 101, 108, 115, 101]) = true := rfl
  cases ok5 <;>
   (simp only [x84_2,g84_2,a84_2,B0,B1,B2,List.replicate,reduceCtorEq,lenA,seval,B5,pairK,B4,stays,loadOf,K84,endK,resA,tupA,hlen,r0,rr1,r4,r6,r7,r22,hml,q0,hm1,i1,c36,c16,res84,keep84,leave_app,leave_tup2]) <;> first | done | rfl | skip
theorem w84_3 (op : List UInt8) (ts : List KT) (t0 : KT) (n : Nat) (hn : ts.length = n + 1) (hn2 : n ≤ 999) (hg0 : ts[0]? = some t0) (hR : ∀ t ∈ ts, Rt t) (tok : Nat) (H : Heap)
  (tm : List AV) (h : Mo op ts t0 tok H tm) (hw : op = [106, 111, 105, 110]) :
  exec0 L Λ x84_3 tm (H ++ [.obj none [[.im (.int .i64 0), .nils]], TyO t0]) (K84 H) = some (.tup [.im (.agg (encT t0)), .im (.bool (kindsX ts [3, 3]))], H) := by
 have ht0 : Rt t0 := hR _ (List.mem_of_getElem? hg0)
 obtain ⟨hlen, r0, rr1, r4, r6, r7, r22⟩ := h
 have hml : (ts.map encT).length = n + 1 := by rw [List.length_map, hn]
 have c82 := fun H => s82 ts [3, 3] (some tok) 2 1 (.inr rfl) (.inr rfl) (by omega) H
 simp only [slV,intsD,List.map_cons,List.map_nil] at c82
 have td : toDatss [[AV.im (.int .i64 3)], [.im (.int .i64 3)]] = some [[.int .i64 3], [.int .i64 3]] := rfl
 obtain ⟨k1, s1, a1⟩ := t0
 change tm.getD 7 undefA = .im (.bool (decide (k1 = 3) || decide (k1 = 4))) at r7
 change exec0 L Λ x84_3 tm (H ++ [.obj none [[.im (.int .i64 0), .nils]], .obj none [[.im (.int .i64 k1), .im (.sl s1 (encTs a1))]]]) (K84 H) = some (.tup [.im (.agg [.int .i64 k1, .sl s1 (encTs a1)]), .im (.bool (kindsX ts [3, 3]))], H)
 rcases hw with rfl
 ·have q0 : decide (([106, 111, 105, 110] : List UInt8) = [106, 111, 105, 110]) = true := rfl
  (simp only [x84_3,g84_3,a84_3,B0,B1,B2,List.replicate,reduceCtorEq,lenA,seval,B5,pairK,B4,stays,loadOf,K84,endK,resA,tupA,hlen,r0,rr1,r4,r6,r7,r22,hml,q0,c82,td,res84,keep84,leave_app,leave_tup2])
theorem w84_4 (op : List UInt8) (ts : List KT) (t0 : KT) (n : Nat) (hn : ts.length = n + 1) (hn2 : n ≤ 999) (hg0 : ts[0]? = some t0) (hR : ∀ t ∈ ts, Rt t) (tok : Nat) (H : Heap)
  (tm : List AV) (h : Mo op ts t0 tok H tm) (hw : op = [115, 105, 122, 101]) :
  exec0 L Λ x84_4 tm (H ++ [.obj none [[.im (.int .i64 0), .nils]], TyO t0]) (K84 H) = some (.tup [.im (.agg (encT (.mk 2 0 []))), .im (.bool (decide (t0.k = 3) || decide (t0.k = 4)))], H) := by
 have ht0 : Rt t0 := hR _ (List.mem_of_getElem? hg0)
 obtain ⟨hlen, r0, rr1, r4, r6, r7, r22⟩ := h
 have hml : (ts.map encT).length = n + 1 := by rw [List.length_map, hn]
 have c49 := fun H => s49 2 H
 obtain ⟨k1, s1, a1⟩ := t0
 change tm.getD 7 undefA = .im (.bool (decide (k1 = 3) || decide (k1 = 4))) at r7
 change exec0 L Λ x84_4 tm (H ++ [.obj none [[.im (.int .i64 0), .nils]], .obj none [[.im (.int .i64 k1), .im (.sl s1 (encTs a1))]]]) (K84 H) = some (.tup [.im (.agg [.int .i64 2, .sl 0 []]), .im (.bool (decide (k1 = 3) || decide (k1 = 4)))], H)
 rcases hw with rfl
 ·have q0 : decide (([115, 105, 122, 101] : List UInt8) = [115, 105, 122, 101]) = true := rfl
  (simp only [x84_4,g84_4,a84_4,B0,B1,B2,List.replicate,reduceCtorEq,lenA,seval,B5,pairK,B4,stays,loadOf,K84,endK,resA,tupA,hlen,r0,rr1,r4,r6,r7,r22,hml,q0,c49,res84,keep84,leave_app,leave_tup2])
theorem w84_5 (op : List UInt8) (ts : List KT) (t0 : KT) (n : Nat) (hn : ts.length = n + 1) (hn2 : n ≤ 999) (hg0 : ts[0]? = some t0) (hR : ∀ t ∈ ts, Rt t) (tok : Nat) (H : Heap)
  (tm : List AV) (h : Mo op ts t0 tok H tm) (hw : op = [99, 117, 116]) :
  exec0 L Λ x84_5 tm (H ++ [.obj none [[.im (.int .i64 0), .nils]], TyO t0]) (K84 H) = some (.tup [.im (.agg (encT t0)), .im (.bool ((decide (t0.k = 3) || decide (t0.k = 4)) && kindsX (ts.drop 1) [2, 2]))], H) := by
 have ht0 : Rt t0 := hR _ (List.mem_of_getElem? hg0)
 obtain ⟨hlen, r0, rr1, r4, r6, r7, r22⟩ := h
 have hml : (ts.map encT).length = n + 1 := by rw [List.length_map, hn]
 have c82 := fun H => s82 (ts.drop 1) [2, 2] none 2 1 (.inr rfl) (.inr rfl) (by rw [List.length_drop]; omega) H
 simp only [slV,intsD,List.map_cons,List.map_nil] at c82
 have htk : sliceA 2 (.asl 2 (ts.map encT) tok) 1 (fun n => some n) none = some (.im (.sl 2 ((ts.drop 1).map encT))) := by
  unfold sliceA
  simp only [hml,if_true]
  rw [if_neg (by omega), if_pos (by omega), List.map_drop, List.take_of_length_le (by rw [List.length_drop, hml]; exact Nat.le_refl _)]
 have b0 : ∀ (ρ : AOpd → AV) (d : Nat), boundA ρ d none = some d := fun _ _ => rfl
 have b1 : ∀ (tm : List AV) (d : Nat), boundA (ev tm) d (some (.c (.im (.int .i64 1)))) = some 1 := fun _ _ => rfl
 have td : toDatss [[AV.im (.int .i64 2)], [.im (.int .i64 2)]] = some [[.int .i64 2], [.int .i64 2]] := rfl
 obtain ⟨k1, s1, a1⟩ := t0
 change tm.getD 7 undefA = .im (.bool (decide (k1 = 3) || decide (k1 = 4))) at r7
 change exec0 L Λ x84_5 tm (H ++ [.obj none [[.im (.int .i64 0), .nils]], .obj none [[.im (.int .i64 k1), .im (.sl s1 (encTs a1))]]]) (K84 H) = some (.tup [.im (.agg [.int .i64 k1, .sl s1 (encTs a1)]), .im (.bool ((decide (k1 = 3) || decide (k1 = 4)) && kindsX (ts.drop 1) [2, 2]))], H)
 generalize (decide (k1 = 3) || decide (k1 = 4)) = lk at *
 rcases hw with rfl
 ·have q0 : decide (([99, 117, 116] : List UInt8) = [99, 117, 116]) = true := rfl
  cases lk <;>
   (simp only [x84_5,g84_5,a84_5,B0,B1,B2,List.replicate,reduceCtorEq,lenA,seval,B5,pairK,B4,stays,loadOf,K84,endK,resA,tupA,hlen,r0,rr1,r4,r6,r7,r22,hml,q0,c82,td,htk,b0,b1,res84,keep84,leave_app,leave_tup2]) <;> first | done | rfl | skip
theorem w84_6 (op : List UInt8) (ts : List KT) (t0 : KT) (n : Nat) (hn : ts.length = n + 1) (hn2 : n ≤ 999) (hg0 : ts[0]? = some t0) (hR : ∀ t ∈ ts, Rt t) (tok : Nat) (H : Heap)
  (tm : List AV) (h : Mo op ts t0 tok H tm) (hw : op = [98, 121, 116, 101, 115]) :
  exec0 L Λ x84_6 tm (H ++ [.obj none [[.im (.int .i64 0), .nils]], TyO t0]) (K84 H) = some (.tup [.im (.agg (encT (.mk 4 0 []))), .im (.bool (decide (t0.k = 3)))], H) := by
 have ht0 : Rt t0 := hR _ (List.mem_of_getElem? hg0)
 obtain ⟨hlen, r0, rr1, r4, r6, r7, r22⟩ := h
 have hml : (ts.map encT).length = n + 1 := by rw [List.length_map, hn]
 have c49 := fun H => s49 4 H
 obtain ⟨k1, s1, a1⟩ := t0
 change tm.getD 7 undefA = .im (.bool (decide (k1 = 3) || decide (k1 = 4))) at r7
 change exec0 L Λ x84_6 tm (H ++ [.obj none [[.im (.int .i64 0), .nils]], .obj none [[.im (.int .i64 k1), .im (.sl s1 (encTs a1))]]]) (K84 H) = some (.tup [.im (.agg [.int .i64 4, .sl 0 []]), .im (.bool (decide (k1 = 3)))], H)
 rcases hw with rfl
 ·have q0 : decide (([98, 121, 116, 101, 115] : List UInt8) = [98, 121, 116, 101, 115]) = true := rfl
  (simp only [x84_6,g84_6,a84_6,B0,B1,B2,List.replicate,reduceCtorEq,lenA,seval,B5,pairK,B4,stays,loadOf,K84,endK,resA,tupA,hlen,r0,rr1,r4,r6,r7,r22,hml,q0,c49,res84,keep84,leave_app,leave_tup2])
theorem w84_7 (op : List UInt8) (ts : List KT) (t0 : KT) (n : Nat) (hn : ts.length = n + 1) (hn2 : n ≤ 999) (hg0 : ts[0]? = some t0) (hR : ∀ t ∈ ts, Rt t) (tok : Nat) (H : Heap)
  (tm : List AV) (h : Mo op ts t0 tok H tm) (hw : op = [116, 101, 120, 116]) :
  exec0 L Λ x84_7 tm (H ++ [.obj none [[.im (.int .i64 0), .nils]], TyO t0]) (K84 H) = some (.tup [.im (.agg (encT (.mk 3 0 []))), .im (.bool (decide (t0.k = 4)))], H) := by
 have ht0 : Rt t0 := hR _ (List.mem_of_getElem? hg0)
 obtain ⟨hlen, r0, rr1, r4, r6, r7, r22⟩ := h
 have hml : (ts.map encT).length = n + 1 := by rw [List.length_map, hn]
 have c49 := fun H => s49 3 H
 obtain ⟨k1, s1, a1⟩ := t0
 change tm.getD 7 undefA = .im (.bool (decide (k1 = 3) || decide (k1 = 4))) at r7
 change exec0 L Λ x84_7 tm (H ++ [.obj none [[.im (.int .i64 0), .nils]], .obj none [[.im (.int .i64 k1), .im (.sl s1 (encTs a1))]]]) (K84 H) = some (.tup [.im (.agg [.int .i64 3, .sl 0 []]), .im (.bool (decide (k1 = 4)))], H)
 rcases hw with rfl
 ·have q0 : decide (([116, 101, 120, 116] : List UInt8) = [116, 101, 120, 116]) = true := rfl
  (simp only [x84_7,g84_7,a84_7,B0,B1,B2,List.replicate,reduceCtorEq,lenA,seval,B5,pairK,B4,stays,loadOf,K84,endK,resA,tupA,hlen,r0,rr1,r4,r6,r7,r22,hml,q0,c49,res84,keep84,leave_app,leave_tup2])
theorem w84_8 (op : List UInt8) (ts : List KT) (t0 : KT) (n : Nat) (hn : ts.length = n + 1) (hn2 : n ≤ 999) (hg0 : ts[0]? = some t0) (hR : ∀ t ∈ ts, Rt t) (tok : Nat) (H : Heap)
  (tm : List AV) (h : Mo op ts t0 tok H tm) (hw : op = [115, 104, 111, 119]) :
  exec0 L Λ x84_8 tm (H ++ [.obj none [[.im (.int .i64 0), .nils]], TyO t0]) (K84 H) = some (.tup [.im (.agg (encT (.mk 3 0 []))), .im (.bool (decide (t0.k = 2)))], H) := by
 have ht0 : Rt t0 := hR _ (List.mem_of_getElem? hg0)
 obtain ⟨hlen, r0, rr1, r4, r6, r7, r22⟩ := h
 have hml : (ts.map encT).length = n + 1 := by rw [List.length_map, hn]
 have c49 := fun H => s49 3 H
 obtain ⟨k1, s1, a1⟩ := t0
 change tm.getD 7 undefA = .im (.bool (decide (k1 = 3) || decide (k1 = 4))) at r7
 change exec0 L Λ x84_8 tm (H ++ [.obj none [[.im (.int .i64 0), .nils]], .obj none [[.im (.int .i64 k1), .im (.sl s1 (encTs a1))]]]) (K84 H) = some (.tup [.im (.agg [.int .i64 3, .sl 0 []]), .im (.bool (decide (k1 = 2)))], H)
 rcases hw with rfl
 ·have q0 : decide (([115, 104, 111, 119] : List UInt8) = [115, 104, 111, 119]) = true := rfl
  (simp only [x84_8,g84_8,a84_8,B0,B1,B2,List.replicate,reduceCtorEq,lenA,seval,B5,pairK,B4,stays,loadOf,K84,endK,resA,tupA,hlen,r0,rr1,r4,r6,r7,r22,hml,q0,c49,res84,keep84,leave_app,leave_tup2])
theorem w84_9 (op : List UInt8) (ts : List KT) (t0 : KT) (n : Nat) (hn : ts.length = n + 1) (hn2 : n ≤ 999) (hg0 : ts[0]? = some t0) (hR : ∀ t ∈ ts, Rt t) (tok : Nat) (H : Heap)
  (tm : List AV) (h : Mo op ts t0 tok H tm) (hw : op = [112, 111, 105, 110, 116]) :
  exec0 L Λ x84_9 tm (H ++ [.obj none [[.im (.int .i64 0), .nils]], TyO t0]) (K84 H) = some (.tup [.im (.agg (encT (.mk 5 0 []))), .im (.bool (kindsX ts [2, 2]))], H) := by
 have ht0 : Rt t0 := hR _ (List.mem_of_getElem? hg0)
 obtain ⟨hlen, r0, rr1, r4, r6, r7, r22⟩ := h
 have hml : (ts.map encT).length = n + 1 := by rw [List.length_map, hn]
 have c49 := fun H => s49 5 H
 have c82 := fun H => s82 ts [2, 2] (some tok) 2 1 (.inr rfl) (.inr rfl) (by omega) H
 simp only [slV,intsD,List.map_cons,List.map_nil] at c82
 have td : toDatss [[AV.im (.int .i64 2)], [.im (.int .i64 2)]] = some [[.int .i64 2], [.int .i64 2]] := rfl
 obtain ⟨k1, s1, a1⟩ := t0
 change tm.getD 7 undefA = .im (.bool (decide (k1 = 3) || decide (k1 = 4))) at r7
 change exec0 L Λ x84_9 tm (H ++ [.obj none [[.im (.int .i64 0), .nils]], .obj none [[.im (.int .i64 k1), .im (.sl s1 (encTs a1))]]]) (K84 H) = some (.tup [.im (.agg [.int .i64 5, .sl 0 []]), .im (.bool (kindsX ts [2, 2]))], H)
 rcases hw with rfl
 ·have q0 : decide (([112, 111, 105, 110, 116] : List UInt8) = [112, 111, 105, 110, 116]) = true := rfl
  (simp only [x84_9,g84_9,a84_9,B0,B1,B2,List.replicate,reduceCtorEq,lenA,seval,B5,pairK,B4,stays,loadOf,K84,endK,resA,tupA,hlen,r0,rr1,r4,r6,r7,r22,hml,q0,c49,c82,td,res84,keep84,leave_app,leave_tup2])
theorem w84_10 (op : List UInt8) (ts : List KT) (t0 : KT) (n : Nat) (hn : ts.length = n + 1) (hn2 : n ≤ 999) (hg0 : ts[0]? = some t0) (hR : ∀ t ∈ ts, Rt t) (tok : Nat) (H : Heap)
  (tm : List AV) (h : Mo op ts t0 tok H tm) (hw : op = [114, 101] ∨ op = [105, 109]) :
  exec0 L Λ x84_10 tm (H ++ [.obj none [[.im (.int .i64 0), .nils]], TyO t0]) (K84 H) = some (.tup [.im (.agg (encT (.mk 2 0 []))), .im (.bool (decide (t0.k = 5)))], H) := by
 have ht0 : Rt t0 := hR _ (List.mem_of_getElem? hg0)
 obtain ⟨hlen, r0, rr1, r4, r6, r7, r22⟩ := h
 have hml : (ts.map encT).length = n + 1 := by rw [List.length_map, hn]
 have c49 := fun H => s49 2 H
 obtain ⟨k1, s1, a1⟩ := t0
 change tm.getD 7 undefA = .im (.bool (decide (k1 = 3) || decide (k1 = 4))) at r7
 change exec0 L Λ x84_10 tm (H ++ [.obj none [[.im (.int .i64 0), .nils]], .obj none [[.im (.int .i64 k1), .im (.sl s1 (encTs a1))]]]) (K84 H) = some (.tup [.im (.agg [.int .i64 2, .sl 0 []]), .im (.bool (decide (k1 = 5)))], H)
 rcases hw with rfl | rfl
 ·have q0 : decide (([114, 101] : List UInt8) = [114, 101]) = true := rfl
  (simp only [x84_10,g84_10,a84_10,B0,B1,B2,List.replicate,reduceCtorEq,lenA,seval,B5,pairK,B4,stays,loadOf,K84,endK,resA,tupA,hlen,r0,rr1,r4,r6,r7,r22,hml,q0,c49,res84,keep84,leave_app,leave_tup2])
 ·have q0 : decide (([105, 109] : List UInt8) = [114, 101]) = false := rfl
  have q1 : decide (([105, 109] : List UInt8) = [105, 109]) = true := rfl
  (simp only [x84_10,g84_10,a84_10,B0,B1,B2,List.replicate,reduceCtorEq,lenA,seval,B5,pairK,B4,stays,loadOf,K84,endK,resA,tupA,hlen,r0,rr1,r4,r6,r7,r22,hml,q0,q1,c49,res84,keep84,leave_app,leave_tup2])
theorem w84_11 (op : List UInt8) (ts : List KT) (t0 : KT) (n : Nat) (hn : ts.length = n + 1) (hn2 : n ≤ 999) (hg0 : ts[0]? = some t0) (hR : ∀ t ∈ ts, Rt t) (tok : Nat) (H : Heap)
  (tm : List AV) (h : Mo op ts t0 tok H tm) (hw : op = [99, 111, 110, 106]) :
  exec0 L Λ x84_11 tm (H ++ [.obj none [[.im (.int .i64 0), .nils]], TyO t0]) (K84 H) = some (.tup [.im (.agg (encT t0)), .im (.bool (decide (t0.k = 5)))], H) := by
 have ht0 : Rt t0 := hR _ (List.mem_of_getElem? hg0)
 obtain ⟨hlen, r0, rr1, r4, r6, r7, r22⟩ := h
 have hml : (ts.map encT).length = n + 1 := by rw [List.length_map, hn]
 obtain ⟨k1, s1, a1⟩ := t0
 change tm.getD 7 undefA = .im (.bool (decide (k1 = 3) || decide (k1 = 4))) at r7
 change exec0 L Λ x84_11 tm (H ++ [.obj none [[.im (.int .i64 0), .nils]], .obj none [[.im (.int .i64 k1), .im (.sl s1 (encTs a1))]]]) (K84 H) = some (.tup [.im (.agg [.int .i64 k1, .sl s1 (encTs a1)]), .im (.bool (decide (k1 = 5)))], H)
 rcases hw with rfl
 ·have q0 : decide (([99, 111, 110, 106] : List UInt8) = [99, 111, 110, 106]) = true := rfl
  (simp only [x84_11,g84_11,a84_11,B0,B1,B2,List.replicate,reduceCtorEq,lenA,seval,B5,pairK,B4,stays,loadOf,K84,endK,resA,tupA,hlen,r0,rr1,r4,r6,r7,r22,hml,q0,res84,keep84,leave_app,leave_tup2])
end Go.Abs.Seat
end
section
set_option linter.unusedVariables false
set_option linter.unusedSimpArgs false
namespace Go.Abs.Seat
open Go.Proofs
def moreX (op : List UInt8) (ts : List KT) (t0 : KT) : KT × Bool :=
 if op = [102, 105, 114, 115, 116] then argX t0 6 0 else
 if op = [115, 101, 99, 111, 110, 100] then argX t0 6 1 else
 if op = [105, 115, 95, 115, 111, 109, 101] then ((.mk 1 0 []), (decide (t0.k = 9))) else
 if op = [111, 114, 95, 101, 108, 115, 101] then ((argX t0 9 0).1, ((argX t0 9 0).2 && sameR (argX t0 9 0).1 (ts.getD 1 zeroT))) else
 if op = [106, 111, 105, 110] then (t0, (kindsX ts [3, 3])) else
 if op = [115, 105, 122, 101] then ((.mk 2 0 []), (decide (t0.k = 3) || decide (t0.k = 4))) else
 if op = [99, 117, 116] then (t0, ((decide (t0.k = 3) || decide (t0.k = 4)) && kindsX (ts.drop 1) [2, 2])) else
 if op = [98, 121, 116, 101, 115] then ((.mk 4 0 []), (decide (t0.k = 3))) else
 if op = [116, 101, 120, 116] then ((.mk 3 0 []), (decide (t0.k = 4))) else
 if op = [115, 104, 111, 119] then ((.mk 3 0 []), (decide (t0.k = 2))) else
 if op = [112, 111, 105, 110, 116] then ((.mk 5 0 []), (kindsX ts [2, 2])) else
 if op = [114, 101] ∨ op = [105, 109] then ((.mk 2 0 []), (decide (t0.k = 5))) else
 if op = [99, 111, 110, 106] then (t0, (decide (t0.k = 5))) else
 (.mk 0 0 [], false)
def plainX (op : List UInt8) (ts : List KT) (t0 tl : KT) : KT × Bool :=
 if op = [97, 100, 100] ∨ op = [115, 117, 98] ∨ op = [109, 117, 108] then (t0, (sameR t0 tl && (decide (t0.k = 2) || decide (t0.k = 5)))) else
 if op = [110, 101, 103] then (t0, (decide (t0.k = 2) || decide (t0.k = 5))) else
 if op = [100, 105, 118] ∨ op = [109, 111, 100] then (t0, (kindsX ts [2, 2])) else
 if op = [101, 113] ∨ op = [108, 116] then ((.mk 1 0 []), (sameR t0 tl)) else
 if op = [97, 110, 100] ∨ op = [111, 114] then (t0, (kindsX ts [1, 1])) else
 if op = [110, 111, 116] then (t0, (decide (t0.k = 1))) else
 if op = [105, 102] then (tl, (decide (t0.k = 1) && sameR (ts.getD 1 zeroT) tl)) else
 if op = [112, 97, 105, 114] then ((.mk 6 2 ts), true) else
 if op = [108, 105, 115, 116] then ((.mk 7 2 (ts.take 1)), (!(ts.any fun t => !sameR t t0))) else
 if op = [99, 111, 110, 115] then (tl, ((argX tl 7 0).2 && sameR t0 (argX tl 7 0).1)) else
 if op = [99, 111, 110, 99, 97, 116] then (t0, ((argX t0 7 0).2 && sameR t0 tl)) else
 if op = [115, 111, 114, 116] then (t0, (argX t0 7 0).2) else
 if op = [108, 101, 110] then ((.mk 2 0 []), (argX t0 7 0).2) else
 if op = [97, 116] then ((.mk 9 2 [(argX t0 7 0).1]), ((argX t0 7 0).2 && decide (tl.k = 2))) else
 if op = [114, 97, 110, 103, 101] then ((.mk 7 2 ts), (decide (t0.k = 2))) else
 if op = [115, 111, 109, 101] then ((.mk 9 2 ts), true) else
 moreX op ts t0
theorem s84 (op : List UInt8) (ts : List KT) (t0 : KT) (n : Nat) (hn : ts.length = n + 1) (hn2 : n ≤ 999) (hg0 : ts[0]? = some t0) (hR : ∀ t ∈ ts, Rt t) (h2 : op = [111, 114, 95, 101, 108, 115, 101] → 1 < ts.length) (tok : Nat) (H : Heap) :
  L 84 [.im (.str op), .asl 2 (ts.map encT) tok] H = some (.tup [.im (.agg (encT (moreX op ts t0).1)), .im (.bool (moreX op ts t0).2)], H) := by
 obtain ⟨tm, e, hM⟩ := pre84 op ts t0 n hn hn2 hg0 tok H
 rw [e]
 by_cases u0a : op = [102, 105, 114, 115, 116]
 ·obtain ⟨tm1, e1, l1, s1⟩ := to84_0 (op := op) (H := H ++ [.obj none [[.im (.int .i64 0), .nils]], TyO t0]) (K84 H) hM.len hM.r22 (by simp [lits84])
  rw [e1]
  rw [show moreX op ts t0 = argX t0 6 0 from by unfold moreX; rw [if_pos u0a]]
  exact w84_0a op ts t0 n hn hn2 hg0 hR tok H tm1 (hM.same l1 s1) u0a
 have vu0a := u0a
 by_cases u0b : op = [115, 101, 99, 111, 110, 100]
 ·obtain ⟨tm1, e1, l1, s1⟩ := to84_0 (op := op) (H := H ++ [.obj none [[.im (.int .i64 0), .nils]], TyO t0]) (K84 H) hM.len hM.r22 (by simp [lits84])
  rw [e1]
  rw [show moreX op ts t0 = argX t0 6 1 from by unfold moreX; rw [if_neg u0a, if_pos u0b]]
  exact w84_0b op ts t0 n hn hn2 hg0 hR tok H tm1 (hM.same l1 s1) u0b
 have vu0b := u0b
 by_cases u1 : op = [105, 115, 95, 115, 111, 109, 101]
 ·obtain ⟨tm1, e1, l1, s1⟩ := to84_1 (op := op) (H := H ++ [.obj none [[.im (.int .i64 0), .nils]], TyO t0]) (K84 H) hM.len hM.r22 (by simp [lits84, vu0a, vu0b])
  rw [e1]
  rw [show moreX op ts t0 = ((.mk 1 0 []), (decide (t0.k = 9))) from by unfold moreX; rw [if_neg u0a, if_neg u0b, if_pos u1]]
  exact w84_1 op ts t0 n hn hn2 hg0 hR tok H tm1 (hM.same l1 s1) u1
 have vu1 := u1
 by_cases u2 : op = [111, 114, 95, 101, 108, 115, 101]
 ·obtain ⟨tm1, e1, l1, s1⟩ := to84_2 (op := op) (H := H ++ [.obj none [[.im (.int .i64 0), .nils]], TyO t0]) (K84 H) hM.len hM.r22 (by simp [lits84, vu0a, vu0b, vu1])
  rw [e1]
  rw [show moreX op ts t0 = ((argX t0 9 0).1, ((argX t0 9 0).2 && sameR (argX t0 9 0).1 (ts.getD 1 zeroT))) from by unfold moreX; rw [if_neg u0a, if_neg u0b, if_neg u1, if_pos u2]]
  obtain ⟨t1, hg1⟩ : ∃ t1, ts[1]? = some t1 := ⟨_, List.getElem?_eq_getElem (h2 u2)⟩
  exact w84_2 op ts t0 n hn hn2 hg0 hR tok H t1 hg1 tm1 (hM.same l1 s1) u2
 have vu2 := u2
 by_cases u3 : op = [106, 111, 105, 110]
 ·obtain ⟨tm1, e1, l1, s1⟩ := to84_3 (op := op) (H := H ++ [.obj none [[.im (.int .i64 0), .nils]], TyO t0]) (K84 H) hM.len hM.r22 (by simp [lits84, vu0a, vu0b, vu1, vu2])
  rw [e1]
  rw [show moreX op ts t0 = (t0, (kindsX ts [3, 3])) from by unfold moreX; rw [if_neg u0a, if_neg u0b, if_neg u1, if_neg u2, if_pos u3]]
  exact w84_3 op ts t0 n hn hn2 hg0 hR tok H tm1 (hM.same l1 s1) u3
 have vu3 := u3
 by_cases u4 : op = [115, 105, 122, 101]
 ·obtain ⟨tm1, e1, l1, s1⟩ := to84_4 (op := op) (H := H ++ [.obj none [[.im (.int .i64 0), .nils]], TyO t0]) (K84 H) hM.len hM.r22 (by simp [lits84, vu0a, vu0b, vu1, vu2, vu3])
  rw [e1]
  rw [show moreX op ts t0 = ((.mk 2 0 []), (decide (t0.k = 3) || decide (t0.k = 4))) from by unfold moreX; rw [if_neg u0a, if_neg u0b, if_neg u1, if_neg u2, if_neg u3, if_pos u4]]
  exact w84_4 op ts t0 n hn hn2 hg0 hR tok H tm1 (hM.same l1 s1) u4
 have vu4 := u4
 by_cases u5 : op = [99, 117, 116]
 ·obtain ⟨tm1, e1, l1, s1⟩ := to84_5 (op := op) (H := H ++ [.obj none [[.im (.int .i64 0), .nils]], TyO t0]) (K84 H) hM.len hM.r22 (by simp [lits84, vu0a, vu0b, vu1, vu2, vu3, vu4])
  rw [e1]
  rw [show moreX op ts t0 = (t0, ((decide (t0.k = 3) || decide (t0.k = 4)) && kindsX (ts.drop 1) [2, 2])) from by unfold moreX; rw [if_neg u0a, if_neg u0b, if_neg u1, if_neg u2, if_neg u3, if_neg u4, if_pos u5]]
  exact w84_5 op ts t0 n hn hn2 hg0 hR tok H tm1 (hM.same l1 s1) u5
 have vu5 := u5
 by_cases u6 : op = [98, 121, 116, 101, 115]
 ·obtain ⟨tm1, e1, l1, s1⟩ := to84_6 (op := op) (H := H ++ [.obj none [[.im (.int .i64 0), .nils]], TyO t0]) (K84 H) hM.len hM.r22 (by simp [lits84, vu0a, vu0b, vu1, vu2, vu3, vu4, vu5])
  rw [e1]
  rw [show moreX op ts t0 = ((.mk 4 0 []), (decide (t0.k = 3))) from by unfold moreX; rw [if_neg u0a, if_neg u0b, if_neg u1, if_neg u2, if_neg u3, if_neg u4, if_neg u5, if_pos u6]]
  exact w84_6 op ts t0 n hn hn2 hg0 hR tok H tm1 (hM.same l1 s1) u6
 have vu6 := u6
 by_cases u7 : op = [116, 101, 120, 116]
 ·obtain ⟨tm1, e1, l1, s1⟩ := to84_7 (op := op) (H := H ++ [.obj none [[.im (.int .i64 0), .nils]], TyO t0]) (K84 H) hM.len hM.r22 (by simp [lits84, vu0a, vu0b, vu1, vu2, vu3, vu4, vu5, vu6])
  rw [e1]
  rw [show moreX op ts t0 = ((.mk 3 0 []), (decide (t0.k = 4))) from by unfold moreX; rw [if_neg u0a, if_neg u0b, if_neg u1, if_neg u2, if_neg u3, if_neg u4, if_neg u5, if_neg u6, if_pos u7]]
  exact w84_7 op ts t0 n hn hn2 hg0 hR tok H tm1 (hM.same l1 s1) u7
 have vu7 := u7
 by_cases u8 : op = [115, 104, 111, 119]
 ·obtain ⟨tm1, e1, l1, s1⟩ := to84_8 (op := op) (H := H ++ [.obj none [[.im (.int .i64 0), .nils]], TyO t0]) (K84 H) hM.len hM.r22 (by simp [lits84, vu0a, vu0b, vu1, vu2, vu3, vu4, vu5, vu6, vu7])
  rw [e1]
  rw [show moreX op ts t0 = ((.mk 3 0 []), (decide (t0.k = 2))) from by unfold moreX; rw [if_neg u0a, if_neg u0b, if_neg u1, if_neg u2, if_neg u3, if_neg u4, if_neg u5, if_neg u6, if_neg u7, if_pos u8]]
  exact w84_8 op ts t0 n hn hn2 hg0 hR tok H tm1 (hM.same l1 s1) u8
 have vu8 := u8
 by_cases u9 : op = [112, 111, 105, 110, 116]
 ·obtain ⟨tm1, e1, l1, s1⟩ := to84_9 (op := op) (H := H ++ [.obj none [[.im (.int .i64 0), .nils]], TyO t0]) (K84 H) hM.len hM.r22 (by simp [lits84, vu0a, vu0b, vu1, vu2, vu3, vu4, vu5, vu6, vu7, vu8])
  rw [e1]
  rw [show moreX op ts t0 = ((.mk 5 0 []), (kindsX ts [2, 2])) from by unfold moreX; rw [if_neg u0a, if_neg u0b, if_neg u1, if_neg u2, if_neg u3, if_neg u4, if_neg u5, if_neg u6, if_neg u7, if_neg u8, if_pos u9]]
  exact w84_9 op ts t0 n hn hn2 hg0 hR tok H tm1 (hM.same l1 s1) u9
 have vu9 := u9
 by_cases u10 : op = [114, 101] ∨ op = [105, 109]
 ·obtain ⟨tm1, e1, l1, s1⟩ := to84_10 (op := op) (H := H ++ [.obj none [[.im (.int .i64 0), .nils]], TyO t0]) (K84 H) hM.len hM.r22 (by simp [lits84, vu0a, vu0b, vu1, vu2, vu3, vu4, vu5, vu6, vu7, vu8, vu9])
  rw [e1]
  rw [show moreX op ts t0 = ((.mk 2 0 []), (decide (t0.k = 5))) from by unfold moreX; rw [if_neg u0a, if_neg u0b, if_neg u1, if_neg u2, if_neg u3, if_neg u4, if_neg u5, if_neg u6, if_neg u7, if_neg u8, if_neg u9, if_pos u10]]
  exact w84_10 op ts t0 n hn hn2 hg0 hR tok H tm1 (hM.same l1 s1) u10
 have vu10 := u10
 simp only [not_or] at vu10
 by_cases u11 : op = [99, 111, 110, 106]
 ·obtain ⟨tm1, e1, l1, s1⟩ := to84_11 (op := op) (H := H ++ [.obj none [[.im (.int .i64 0), .nils]], TyO t0]) (K84 H) hM.len hM.r22 (by simp [lits84, vu0a, vu0b, vu1, vu2, vu3, vu4, vu5, vu6, vu7, vu8, vu9, vu10])
  rw [e1]
  rw [show moreX op ts t0 = (t0, (decide (t0.k = 5))) from by unfold moreX; rw [if_neg u0a, if_neg u0b, if_neg u1, if_neg u2, if_neg u3, if_neg u4, if_neg u5, if_neg u6, if_neg u7, if_neg u8, if_neg u9, if_neg u10, if_pos u11]]
  exact w84_11 op ts t0 n hn hn2 hg0 hR tok H tm1 (hM.same l1 s1) u11
 have vu11 := u11
 obtain ⟨tm1, e1, l1, s1⟩ := to84_12 (op := op) (H := H ++ [.obj none [[.im (.int .i64 0), .nils]], TyO t0]) (K84 H) hM.len hM.r22 (by simp [lits84, vu0a, vu0b, vu1, vu2, vu3, vu4, vu5, vu6, vu7, vu8, vu9, vu10, vu11])
 rw [e1]
 rw [show moreX op ts t0 = (.mk 0 0 [], false) from by unfold moreX; rw [if_neg u0a, if_neg u0b, if_neg u1, if_neg u2, if_neg u3, if_neg u4, if_neg u5, if_neg u6, if_neg u7, if_neg u8, if_neg u9, if_neg u10, if_neg u11]]
 obtain ⟨hlen, r0, rr1, r4, r6, r7, r22⟩ := hM.same l1 s1
 have hlv : ∀ (M : Heap), leave H false (.tup [.agg [.im (.int .i64 0), .nils], .im (.bool false)]) (H ++ M) = (.tup [.im (.agg [.int .i64 0, .sl 0 []]), .im (.bool false)], H) := fun M => leave_two rfl rfl
 simp only [x84_12,h84_4,h84_5,TyO,B0,B1,B2,List.replicate,reduceCtorEq,lenA,seval,B5,pairK,B4,stays,loadOf,K84,endK,resA,tupA,hlen,r4,res84,keep84,hlv,leave_app,leave_tup2]
 rfl
theorem s55 (op : List UInt8) (ts : List KT) (t0 tl : KT) (n : Nat) (hn : ts.length = n + 1) (hn2 : n ≤ 999) (hg0 : ts[0]? = some t0) (hgl : ts[n]? = some tl) (hR : ∀ t ∈ ts, Rt t) (h2 : op = [105, 102] → 1 < ts.length) (h3 : op = [111, 114, 95, 101, 108, 115, 101] → 1 < ts.length) (tok : Nat) (H : Heap) :
  L 55 [.im (.str op), .asl 2 (ts.map encT) tok] H = some (.tup [.im (.agg (encT (plainX op ts t0 tl).1)), .im (.bool (plainX op ts t0 tl).2)], H) := by
 obtain ⟨tm, e, hM⟩ := pre55 op ts t0 tl n hn (by omega) hg0 hgl (hR _ (List.mem_of_getElem? hg0)) (hR _ (List.mem_of_getElem? hgl)) tok H
 rw [e]
 by_cases u0 : op = [97, 100, 100] ∨ op = [115, 117, 98] ∨ op = [109, 117, 108]
 ·obtain ⟨tm1, e1, l1, s1⟩ := to55_0 (op := op) (H := H ++ [.obj none [[.im (.int .i64 0), .nils]], TyO t0, TyO tl, TyO (argX t0 7 0).1]) (K55 H) hM.len hM.r30 (by simp [lits55])
  rw [e1]
  rw [show plainX op ts t0 tl = (t0, (sameR t0 tl && (decide (t0.k = 2) || decide (t0.k = 5)))) from by unfold plainX; rw [if_pos u0]]
  exact w55_0 op ts t0 tl n hn hn2 hg0 hgl hR tok H tm1 (hM.same l1 s1) u0
 have vu0 := u0
 simp only [not_or] at vu0
 by_cases u1 : op = [110, 101, 103]
 ·obtain ⟨tm1, e1, l1, s1⟩ := to55_1 (op := op) (H := H ++ [.obj none [[.im (.int .i64 0), .nils]], TyO t0, TyO tl, TyO (argX t0 7 0).1]) (K55 H) hM.len hM.r30 (by simp [lits55, vu0])
  rw [e1]
  rw [show plainX op ts t0 tl = (t0, (decide (t0.k = 2) || decide (t0.k = 5))) from by unfold plainX; rw [if_neg u0, if_pos u1]]
  exact w55_1 op ts t0 tl n hn hn2 hg0 hgl hR tok H tm1 (hM.same l1 s1) u1
 have vu1 := u1
 by_cases u2 : op = [100, 105, 118] ∨ op = [109, 111, 100]
 ·obtain ⟨tm1, e1, l1, s1⟩ := to55_2 (op := op) (H := H ++ [.obj none [[.im (.int .i64 0), .nils]], TyO t0, TyO tl, TyO (argX t0 7 0).1]) (K55 H) hM.len hM.r30 (by simp [lits55, vu0, vu1])
  rw [e1]
  rw [show plainX op ts t0 tl = (t0, (kindsX ts [2, 2])) from by unfold plainX; rw [if_neg u0, if_neg u1, if_pos u2]]
  exact w55_2 op ts t0 tl n hn hn2 hg0 hgl hR tok H tm1 (hM.same l1 s1) u2
 have vu2 := u2
 simp only [not_or] at vu2
 by_cases u3 : op = [101, 113] ∨ op = [108, 116]
 ·obtain ⟨tm1, e1, l1, s1⟩ := to55_3 (op := op) (H := H ++ [.obj none [[.im (.int .i64 0), .nils]], TyO t0, TyO tl, TyO (argX t0 7 0).1]) (K55 H) hM.len hM.r30 (by simp [lits55, vu0, vu1, vu2])
  rw [e1]
  rw [show plainX op ts t0 tl = ((.mk 1 0 []), (sameR t0 tl)) from by unfold plainX; rw [if_neg u0, if_neg u1, if_neg u2, if_pos u3]]
  exact w55_3 op ts t0 tl n hn hn2 hg0 hgl hR tok H tm1 (hM.same l1 s1) u3
 have vu3 := u3
 simp only [not_or] at vu3
 by_cases u4 : op = [97, 110, 100] ∨ op = [111, 114]
 ·obtain ⟨tm1, e1, l1, s1⟩ := to55_4 (op := op) (H := H ++ [.obj none [[.im (.int .i64 0), .nils]], TyO t0, TyO tl, TyO (argX t0 7 0).1]) (K55 H) hM.len hM.r30 (by simp [lits55, vu0, vu1, vu2, vu3])
  rw [e1]
  rw [show plainX op ts t0 tl = (t0, (kindsX ts [1, 1])) from by unfold plainX; rw [if_neg u0, if_neg u1, if_neg u2, if_neg u3, if_pos u4]]
  exact w55_4 op ts t0 tl n hn hn2 hg0 hgl hR tok H tm1 (hM.same l1 s1) u4
 have vu4 := u4
 simp only [not_or] at vu4
 by_cases u5 : op = [110, 111, 116]
 ·obtain ⟨tm1, e1, l1, s1⟩ := to55_5 (op := op) (H := H ++ [.obj none [[.im (.int .i64 0), .nils]], TyO t0, TyO tl, TyO (argX t0 7 0).1]) (K55 H) hM.len hM.r30 (by simp [lits55, vu0, vu1, vu2, vu3, vu4])
  rw [e1]
  rw [show plainX op ts t0 tl = (t0, (decide (t0.k = 1))) from by unfold plainX; rw [if_neg u0, if_neg u1, if_neg u2, if_neg u3, if_neg u4, if_pos u5]]
  exact w55_5 op ts t0 tl n hn hn2 hg0 hgl hR tok H tm1 (hM.same l1 s1) u5
 have vu5 := u5
 by_cases u6 : op = [105, 102]
 ·obtain ⟨tm1, e1, l1, s1⟩ := to55_6 (op := op) (H := H ++ [.obj none [[.im (.int .i64 0), .nils]], TyO t0, TyO tl, TyO (argX t0 7 0).1]) (K55 H) hM.len hM.r30 (by simp [lits55, vu0, vu1, vu2, vu3, vu4, vu5])
  rw [e1]
  rw [show plainX op ts t0 tl = (tl, (decide (t0.k = 1) && sameR (ts.getD 1 zeroT) tl)) from by unfold plainX; rw [if_neg u0, if_neg u1, if_neg u2, if_neg u3, if_neg u4, if_neg u5, if_pos u6]]
  obtain ⟨t1, hg1⟩ : ∃ t1, ts[1]? = some t1 := ⟨_, List.getElem?_eq_getElem (h2 u6)⟩
  exact w55_6 op ts t0 tl n hn hn2 hg0 hgl hR tok H t1 hg1 tm1 (hM.same l1 s1) u6
 have vu6 := u6
 by_cases u7 : op = [112, 97, 105, 114]
 ·obtain ⟨tm1, e1, l1, s1⟩ := to55_7 (op := op) (H := H ++ [.obj none [[.im (.int .i64 0), .nils]], TyO t0, TyO tl, TyO (argX t0 7 0).1]) (K55 H) hM.len hM.r30 (by simp [lits55, vu0, vu1, vu2, vu3, vu4, vu5, vu6])
  rw [e1]
  rw [show plainX op ts t0 tl = ((.mk 6 2 ts), true) from by unfold plainX; rw [if_neg u0, if_neg u1, if_neg u2, if_neg u3, if_neg u4, if_neg u5, if_neg u6, if_pos u7]]
  exact w55_7 op ts t0 tl n hn hn2 hg0 hgl hR tok H tm1 (hM.same l1 s1) u7
 have vu7 := u7
 by_cases u8 : op = [108, 105, 115, 116]
 ·obtain ⟨tm1, e1, l1, s1⟩ := to55_8 (op := op) (H := H ++ [.obj none [[.im (.int .i64 0), .nils]], TyO t0, TyO tl, TyO (argX t0 7 0).1]) (K55 H) hM.len hM.r30 (by simp [lits55, vu0, vu1, vu2, vu3, vu4, vu5, vu6, vu7])
  rw [e1]
  rw [show plainX op ts t0 tl = ((.mk 7 2 (ts.take 1)), (!(ts.any fun t => !sameR t t0))) from by unfold plainX; rw [if_neg u0, if_neg u1, if_neg u2, if_neg u3, if_neg u4, if_neg u5, if_neg u6, if_neg u7, if_pos u8]]
  exact w55_8 op ts t0 tl n hn hn2 hg0 hgl hR tok H tm1 (hM.same l1 s1) u8
 have vu8 := u8
 by_cases u9 : op = [99, 111, 110, 115]
 ·obtain ⟨tm1, e1, l1, s1⟩ := to55_9 (op := op) (H := H ++ [.obj none [[.im (.int .i64 0), .nils]], TyO t0, TyO tl, TyO (argX t0 7 0).1]) (K55 H) hM.len hM.r30 (by simp [lits55, vu0, vu1, vu2, vu3, vu4, vu5, vu6, vu7, vu8])
  rw [e1]
  rw [show plainX op ts t0 tl = (tl, ((argX tl 7 0).2 && sameR t0 (argX tl 7 0).1)) from by unfold plainX; rw [if_neg u0, if_neg u1, if_neg u2, if_neg u3, if_neg u4, if_neg u5, if_neg u6, if_neg u7, if_neg u8, if_pos u9]]
  exact w55_9 op ts t0 tl n hn hn2 hg0 hgl hR tok H tm1 (hM.same l1 s1) u9
 have vu9 := u9
 by_cases u10 : op = [99, 111, 110, 99, 97, 116]
 ·obtain ⟨tm1, e1, l1, s1⟩ := to55_10 (op := op) (H := H ++ [.obj none [[.im (.int .i64 0), .nils]], TyO t0, TyO tl, TyO (argX t0 7 0).1]) (K55 H) hM.len hM.r30 (by simp [lits55, vu0, vu1, vu2, vu3, vu4, vu5, vu6, vu7, vu8, vu9])
  rw [e1]
  rw [show plainX op ts t0 tl = (t0, ((argX t0 7 0).2 && sameR t0 tl)) from by unfold plainX; rw [if_neg u0, if_neg u1, if_neg u2, if_neg u3, if_neg u4, if_neg u5, if_neg u6, if_neg u7, if_neg u8, if_neg u9, if_pos u10]]
  exact w55_10 op ts t0 tl n hn hn2 hg0 hgl hR tok H tm1 (hM.same l1 s1) u10
 have vu10 := u10
 by_cases u11 : op = [115, 111, 114, 116]
 ·obtain ⟨tm1, e1, l1, s1⟩ := to55_11 (op := op) (H := H ++ [.obj none [[.im (.int .i64 0), .nils]], TyO t0, TyO tl, TyO (argX t0 7 0).1]) (K55 H) hM.len hM.r30 (by simp [lits55, vu0, vu1, vu2, vu3, vu4, vu5, vu6, vu7, vu8, vu9, vu10])
  rw [e1]
  rw [show plainX op ts t0 tl = (t0, (argX t0 7 0).2) from by unfold plainX; rw [if_neg u0, if_neg u1, if_neg u2, if_neg u3, if_neg u4, if_neg u5, if_neg u6, if_neg u7, if_neg u8, if_neg u9, if_neg u10, if_pos u11]]
  exact w55_11 op ts t0 tl n hn hn2 hg0 hgl hR tok H tm1 (hM.same l1 s1) u11
 have vu11 := u11
 by_cases u12 : op = [108, 101, 110]
 ·obtain ⟨tm1, e1, l1, s1⟩ := to55_12 (op := op) (H := H ++ [.obj none [[.im (.int .i64 0), .nils]], TyO t0, TyO tl, TyO (argX t0 7 0).1]) (K55 H) hM.len hM.r30 (by simp [lits55, vu0, vu1, vu2, vu3, vu4, vu5, vu6, vu7, vu8, vu9, vu10, vu11])
  rw [e1]
  rw [show plainX op ts t0 tl = ((.mk 2 0 []), (argX t0 7 0).2) from by unfold plainX; rw [if_neg u0, if_neg u1, if_neg u2, if_neg u3, if_neg u4, if_neg u5, if_neg u6, if_neg u7, if_neg u8, if_neg u9, if_neg u10, if_neg u11, if_pos u12]]
  exact w55_12 op ts t0 tl n hn hn2 hg0 hgl hR tok H tm1 (hM.same l1 s1) u12
 have vu12 := u12
 by_cases u13 : op = [97, 116]
 ·obtain ⟨tm1, e1, l1, s1⟩ := to55_13 (op := op) (H := H ++ [.obj none [[.im (.int .i64 0), .nils]], TyO t0, TyO tl, TyO (argX t0 7 0).1]) (K55 H) hM.len hM.r30 (by simp [lits55, vu0, vu1, vu2, vu3, vu4, vu5, vu6, vu7, vu8, vu9, vu10, vu11, vu12])
  rw [e1]
  rw [show plainX op ts t0 tl = ((.mk 9 2 [(argX t0 7 0).1]), ((argX t0 7 0).2 && decide (tl.k = 2))) from by unfold plainX; rw [if_neg u0, if_neg u1, if_neg u2, if_neg u3, if_neg u4, if_neg u5, if_neg u6, if_neg u7, if_neg u8, if_neg u9, if_neg u10, if_neg u11, if_neg u12, if_pos u13]]
  exact w55_13 op ts t0 tl n hn hn2 hg0 hgl hR tok H tm1 (hM.same l1 s1) u13
 have vu13 := u13
 by_cases u14 : op = [114, 97, 110, 103, 101]
 ·obtain ⟨tm1, e1, l1, s1⟩ := to55_14 (op := op) (H := H ++ [.obj none [[.im (.int .i64 0), .nils]], TyO t0, TyO tl, TyO (argX t0 7 0).1]) (K55 H) hM.len hM.r30 (by simp [lits55, vu0, vu1, vu2, vu3, vu4, vu5, vu6, vu7, vu8, vu9, vu10, vu11, vu12, vu13])
  rw [e1]
  rw [show plainX op ts t0 tl = ((.mk 7 2 ts), (decide (t0.k = 2))) from by unfold plainX; rw [if_neg u0, if_neg u1, if_neg u2, if_neg u3, if_neg u4, if_neg u5, if_neg u6, if_neg u7, if_neg u8, if_neg u9, if_neg u10, if_neg u11, if_neg u12, if_neg u13, if_pos u14]]
  exact w55_14 op ts t0 tl n hn hn2 hg0 hgl hR tok H tm1 (hM.same l1 s1) u14
 have vu14 := u14
 by_cases u15 : op = [115, 111, 109, 101]
 ·obtain ⟨tm1, e1, l1, s1⟩ := to55_15 (op := op) (H := H ++ [.obj none [[.im (.int .i64 0), .nils]], TyO t0, TyO tl, TyO (argX t0 7 0).1]) (K55 H) hM.len hM.r30 (by simp [lits55, vu0, vu1, vu2, vu3, vu4, vu5, vu6, vu7, vu8, vu9, vu10, vu11, vu12, vu13, vu14])
  rw [e1]
  rw [show plainX op ts t0 tl = ((.mk 9 2 ts), true) from by unfold plainX; rw [if_neg u0, if_neg u1, if_neg u2, if_neg u3, if_neg u4, if_neg u5, if_neg u6, if_neg u7, if_neg u8, if_neg u9, if_neg u10, if_neg u11, if_neg u12, if_neg u13, if_neg u14, if_pos u15]]
  exact w55_15 op ts t0 tl n hn hn2 hg0 hgl hR tok H tm1 (hM.same l1 s1) u15
 have vu15 := u15
 obtain ⟨tm1, e1, l1, s1⟩ := to55_16 (op := op) (H := H ++ [.obj none [[.im (.int .i64 0), .nils]], TyO t0, TyO tl, TyO (argX t0 7 0).1]) (K55 H) hM.len hM.r30 (by simp [lits55, vu0, vu1, vu2, vu3, vu4, vu5, vu6, vu7, vu8, vu9, vu10, vu11, vu12, vu13, vu14, vu15])
 rw [e1]
 rw [show plainX op ts t0 tl = moreX op ts t0 from by unfold plainX; rw [if_neg u0, if_neg u1, if_neg u2, if_neg u3, if_neg u4, if_neg u5, if_neg u6, if_neg u7, if_neg u8, if_neg u9, if_neg u10, if_neg u11, if_neg u12, if_neg u13, if_neg u14, if_neg u15]]
 have c84 := fun H => s84 op ts t0 n hn hn2 hg0 hR h3 tok H
 obtain ⟨hlen, r0, rr1, r4, r6, r7, r8, r9, r10, r30⟩ := hM.same l1 s1
 generalize moreX op ts t0 = mx at *
 obtain ⟨⟨k6, s6, a6⟩, ok6⟩ := mx
 simp only [encT] at c84 ⊢
 simp only [x55_16,h55_6,h55_7,TyO,B0,B1,B2,List.replicate,reduceCtorEq,lenA,seval,B5,pairK,B4,stays,loadOf,K55,endK,resA,tupA,hlen,r0,rr1,r4,c84,res55,keep55,leave_app,leave_tup2]
end Go.Abs.Seat
end
section
set_option linter.unusedVariables false
set_option linter.unusedSimpArgs false
namespace Go.Abs.Seat
open Go.Proofs
abbrev RT := KT ⊕ (List Nat × Int)
def thenR (r : RT) (f : KT → RT) : RT := match r with
 | .inl t => f t
 | .inr e => .inr e
def txtN : NT → List UInt8
 | .mk _ _ txt _ _ _ => txt
def NO (op : List UInt8) (i : Int) (txt : List UInt8) (ty : KT) (kids : List NT) : HO := .obj none [[.im (.str op), .im (.int .i64 i), .im (.str txt), .im (.int .i64 ty.k), .im (.sl ty.s (encTs ty.args)), .im (.sl 6 (encNs kids))]]
def letW : List UInt8 := [108, 101, 116]
theorem Looks.leave {fn : FuncId} {xs : List AV} {H : Heap} {l : Nat} {v : EnvT} {nm : Nms} {pth : List Nat} {vn vp vn1 vp1 : AV} {r : RT} {B : Heap} {t : KT} {af : AFunc}
  (h : LkAt H l v nm pth none vn vp) (hB : LkAt B l v nm pth (fltR pth r) vn1 vp1) (hF : Fr H B l vn vp vn1 vp1) (ht : ∀ u, r = .inl u → t = u) (hw : Wt t)
  (hrun : ∀ H', Abs.leave H false (.im (.agg (encT t))) B = (.im (.agg (encT t)), H') → L fn (.ptr l 0 0 :: xs) H = some (.im (.agg (encT t)), H')) : Looks fn xs H l v nm pth vn vp r := by
 obtain ⟨H', hlv, hk, hff⟩ := leave_lk h hB hF (r := .im (.agg (encT t))) (r' := .im (.agg (encT t))) (by cases t; rfl) (fun _ => by cases t; rfl)
 exact ⟨H', vn1, vp1, t, hrun H' hlv, hk, hff, ht, hw⟩
theorem LkAt.errOk {H : Heap} {l : Nat} {v : EnvT} {nm : Nms} {pth : List Nat} {r : RT} {vn vp : AV} (h : LkAt H l v nm pth (fltR pth r) vn vp) :
  ∃ va e, H[l]? = some (lookO v vn vp va e) ∧ decide (e = 0) = (match r with | .inl _ => true | .inr _ => false) := by
 obtain ⟨va, e, ho, hf⟩ := h.obj
 refine ⟨va, e, ho, ?_⟩
 cases r with
 | inl t => obtain ⟨rfl, _⟩ := hf; rfl
 | inr x => obtain ⟨p, c⟩ := x; obtain ⟨rfl, h1, _⟩ := hf; exact decide_eq_false h1
set_option maxHeartbeats 1000000 in
theorem s53_let {H : Heap} {l : Nat} {v : EnvT} {nm : Nms} {pth : List Nat} {vn vp : AV} (h : LkAt H l v nm pth none vn vp) (i0 : Int) (txt : List UInt8) (ty : KT) (k0 k1 k2 : NT)
  (hp : pth.length ≤ 899) (hn : nm.length ≤ 890) (lk1 : RT) (lk2 : KT → RT)
  (h1 : ∀ (H : Heap) vn vp, LkAt H l v (nm ++ []) (pth ++ [1]) none vn vp → Looks 29 [.im (.agg (encN k1))] H l v (nm ++ []) (pth ++ [1]) vn vp lk1)
  (h2 : ∀ t, kidR 1 lk1 = .inl t → ∀ (H : Heap) vn vp, LkAt H l v (nm ++ [(txtN k0, t)]) (pth ++ [2]) none vn vp → Looks 29 [.im (.agg (encN k2))] H l v (nm ++ [(txtN k0, t)]) (pth ++ [2]) vn vp (lk2 t)) :
  Looks 53 [.im (.agg (encN (.mk letW i0 txt ty 6 [k0, k1, k2])))] H l v nm pth vn vp (thenR (kidR 1 lk1) fun t => kidR 2 (lk2 t)) := by
 have hA := h.more [NO letW i0 txt ty [k0, k1, k2], .obj none [[.im (.int .i64 0), .nils]]]
 obtain ⟨A1, vn1, vp1, t1, c1, j1, f1, ht1, hw1⟩ := s54 hA letW txt i0 ty 6 [k0, k1, k2] (.inr rfl) 1 k1 rfl [] .nils (.inl ⟨rfl, rfl⟩) (by omega) (by simp; omega) lk1 h1
 have g0 := Fr.top h f1 0 (by simp)
 have g1 := Fr.top h f1 1 (by simp)
 obtain ⟨va1, e1, o1, d1⟩ := j1.errOk
 have e0 : (decide (letW = [108, 101, 116])) = true := rfl
 obtain ⟨tk, ts, targs⟩ := ty
 have hlt1 := j1.lt
 rw [Nat.add_zero] at g0
 simp only [List.getElem?_cons_zero,List.getElem?_cons_succ] at g0 g1
 generalize kidR 1 lk1 = r1 at *
 cases r1 with
 | inr e =>
  simp only [thenR]
  change decide (e1 = 0) = false at d1
  obtain ⟨kX, fX⟩ := LkAt.box h (j1.more [TyO t1]) (f1.app [TyO t1]) (k := 1) (by simp) (TyO t1)
  refine Looks.leave (af := f53) h kX fX (fun u hu => by cases hu) hw1 fun H' hlv => ?_
  obtain ⟨tk1, ts1, ta1⟩ := t1
  simp only [TyO,NO,encT,encN,KT.k,KT.s,KT.args] at *
  rw [leq F53]
  obtain ⟨hlen, ha⟩ := enter_at (f := f53) (args := [.ptr l 0 0, .im (.agg [.str letW, .int .i64 i0, .str txt, .int .i64 tk, .sl ts (encTs targs), .sl 6 (encNs [k0, k1, k2])])]) (Nat.le_of_ble_eq_true rfl)
  have h0 := ha 0 _ rfl
  have h1 := ha 1 _ rfl
  generalize enterA f53 [.ptr l 0 0, .im (.agg [.str letW, .int .i64 i0, .str txt, .int .i64 tk, .sl ts (encTs targs), .sl 6 (encNs [k0, k1, k2])])] = tm at *
  change tm.length = 137 at hlen
  have m0 : ∀ M : Heap, (A1 ++ M)[H.length]? = some _ := fun M => by rw [List.getElem?_append_left (List.getElem?_eq_some_iff.1 g0).1]; exact g0
  have m1 : ∀ M : Heap, (A1 ++ M)[H.length + 1]? = some _ := fun M => by rw [List.getElem?_append_left (List.getElem?_eq_some_iff.1 g1).1]; exact g1
  have ml : ∀ M : Heap, (A1 ++ M)[l]? = some _ := fun M => by rw [List.getElem?_append_left hlt1]; exact o1
  have mS : ∀ (M : Heap) (o : HO), ((A1 ++ M).set (H.length + 1) o)[H.length + 1]? = some o := fun M o => List.getElem?_set_self (by have := (List.getElem?_eq_some_iff.1 g1).1; simp; omega)
  have z1 : ((1 : Nat) : Int) = 1 := rfl
  rw [z1] at c1
  unfold lookO at *
  simp only [f53,B0,B1,B2,List.replicate,reduceCtorEq,lenA,seval,B5,pairK,B4,stays,loadOf,endK,resA,tupA,hlen,h0,h1,e0,c1,m0,m1,ml,mS,d1,hlv]
 | inl t =>
  simp only [thenR]
  change decide (e1 = 0) = true at d1
  have et : t1 = t := ht1 t rfl
  subst et
  obtain ⟨A2, vn2, vp2, t2, c2, j2, f2, ht2, hw2⟩ := s54 (j1.more [TyO t1]) letW txt i0 (.mk tk ts targs) 6 [k0, k1, k2] (.inr rfl) 2 k2 rfl [(txtN k0, t1)] (.im (.sl 3 (rowsN [(txtN k0, t1)]))) (.inr rfl) (by omega) (by simp; omega) (lk2 t1) (h2 t1 rfl)
  have f12 := (f1.app [TyO t1]).trans f2
  have q0 := Fr.top h f12 0 (by simp)
  have q1 := Fr.top h f12 1 (by simp)
  rw [Nat.add_zero] at q0
  simp only [List.getElem?_cons_zero,List.getElem?_cons_succ] at q0 q1
  obtain ⟨kX, fX⟩ := LkAt.box h j2 f12 (k := 1) (by simp) (TyO t2)
  refine Looks.leave (af := f53) h kX fX (fun u hu => ht2 u hu) hw2 fun H' hlv => ?_
  obtain ⟨tk1, ts1, ta1⟩ := t1
  obtain ⟨tk2, ts2, ta2⟩ := t2
  obtain ⟨ko, ki, kt, ⟨kyk, kys, kya⟩, ks, kk⟩ := k0
  have hS2 : ∀ (o : HO), (A2.set (H.length + 1) o)[H.length + 1]? = some o := fun o => List.getElem?_set_self (List.getElem?_eq_some_iff.1 q1).1
  have hnm : rowsN [(txtN (.mk ko ki kt (.mk kyk kys kya) ks kk), KT.mk tk1 ts1 ta1)] = [[.str kt, .int .i64 tk1, .sl ts1 (encTs ta1)]] := rfl
  rw [hnm] at c2
  simp only [TyO,NO,encT,encN,encNs,KT.k,KT.s,KT.args] at *
  rw [leq F53]
  obtain ⟨hlen, ha⟩ := enter_at (f := f53) (args := [.ptr l 0 0, .im (.agg [.str letW, .int .i64 i0, .str txt, .int .i64 tk, .sl ts (encTs targs), .sl 6 ([.str ko, .int .i64 ki, .str kt, .int .i64 kyk, .sl kys (encTs kya), .sl ks (encNs kk)] :: encN k1 :: encN k2 :: [])])]) (Nat.le_of_ble_eq_true rfl)
  have h0 := ha 0 _ rfl
  have h1 := ha 1 _ rfl
  generalize enterA f53 [.ptr l 0 0, .im (.agg [.str letW, .int .i64 i0, .str txt, .int .i64 tk, .sl ts (encTs targs), .sl 6 ([.str ko, .int .i64 ki, .str kt, .int .i64 kyk, .sl kys (encTs kya), .sl ks (encNs kk)] :: encN k1 :: encN k2 :: [])])] = tm at *
  change tm.length = 137 at hlen
  have m0 : ∀ M : Heap, (A1 ++ M)[H.length]? = some _ := fun M => by rw [List.getElem?_append_left (List.getElem?_eq_some_iff.1 g0).1]; exact g0
  have m1 : ∀ M : Heap, (A1 ++ M)[H.length + 1]? = some _ := fun M => by rw [List.getElem?_append_left (List.getElem?_eq_some_iff.1 g1).1]; exact g1
  have ml : ∀ M : Heap, (A1 ++ M)[l]? = some _ := fun M => by rw [List.getElem?_append_left hlt1]; exact o1
  have z1 : ((1 : Nat) : Int) = 1 := rfl
  have z2 : ((2 : Nat) : Int) = 2 := rfl
  rw [z1] at c1
  rw [z2] at c2
  have i3 : ∀ n : Nat, idx (.im (.int .i64 0)) (n + 3) = some 0 := fun n => idx_nat (i := 0) (by omega)
  have i3' : idx (.im (.int .i64 0)) 3 = some 0 := i3 0
  have td : toDatss [[AV.im (.str kt), .im (.int .i64 tk1), .im (.sl ts1 (encTs ta1))]] = some [[.str kt, .int .i64 tk1, .sl ts1 (encTs ta1)]] := rfl
  unfold lookO at *
  simp only [f53,B0,B1,B2,List.replicate,reduceCtorEq,lenA,seval,B5,pairK,B4,stays,loadOf,endK,resA,tupA,hlen,h0,h1,e0,c1,m0,m1,ml,d1,c2,q0,q1,hS2,i3',td,hlv]
end Go.Abs.Seat
end
section
set_option linter.unusedVariables false
set_option linter.unusedSimpArgs false
namespace Go.Abs.Seat
open Go.Proofs
theorem right_up : ∀ (t : KT) (d d' : Int), d ≤ d' → rightT t d = true → rightT t d' = true
 | .mk k s args, d, d', hd, h => by
  rw [right_iff] at h ⊢
  exact ⟨h.1, by omega, fun a ha => right_up a (d - 1) (d' - 1) (by omega) (h.2.2 a ha)⟩
termination_by t => t
decreasing_by simp_wf; have := List.sizeOf_lt_of_mem ha; omega
theorem wt_zero : Wt zeroT := .inl rfl
theorem wt_of {t : KT} (h : Rt t) : Wt t := .inr h
theorem wt_arg {t : KT} (h : Wt t) (k : Int) (i : Nat) : Wt (argX t k i).1 := by
 unfold argX
 split
 ·rcases h with rfl | ⟨hok, hr⟩
  ·exact .inl (by cases i <;> rfl)
  ·obtain ⟨tk, s, args⟩ := t
   simp only [KT.args]
   rw [List.getD_eq_getElem?_getD]
   cases hi : args[i]? with
   | none => exact wt_zero
   | some a =>
    have hm := List.mem_of_getElem? hi
    simp only [okT] at hok
    rw [right_iff] at hr
    exact .inr ⟨okTs_mem hok.2.2 a hm, right_up a _ _ (by omega) (hr.2.2 a hm)⟩
 ·exact wt_zero
theorem wt_cnt {t : KT} (h : Wt t) (h7 : t.k = 7) : 0 < t.args.length := by
 rcases h with rfl | h
 ·exact absurd h7 (by decide)
 ·exact right_cnt (k := t.k) (s := t.s) (args := t.args) (by cases t; exact h.2) (.inl h7)
theorem c36w {t : KT} (h : Wt t) (H : Heap) : L 36 [.im (.agg (encT t)), .im (.int .i64 7), .im (.int .i64 0)] H = some (.tup [.im (.agg (encT (argX t 7 0).1)), .im (.bool (argX t 7 0).2)], H) :=
 s36 t h.ok 7 0 (wt_cnt h) H
theorem Looks.leave' {fn : FuncId} {xs : List AV} {H : Heap} {l : Nat} {v : EnvT} {nm : Nms} {pth : List Nat} {vn vp vn1 vp1 : AV} {r : RT} {B : Heap} {t : KT} {x : AV} (hx : degrade x = .im (.agg (encT t)))
  (h : LkAt H l v nm pth none vn vp) (hB : LkAt B l v nm pth (fltR pth r) vn1 vp1) (hF : Fr H B l vn vp vn1 vp1) (ht : ∀ u, r = .inl u → t = u) (hw : Wt t)
  (hrun : ∀ H', Abs.leave H false x B = (.im (.agg (encT t)), H') → L fn (.ptr l 0 0 :: xs) H = some (.im (.agg (encT t)), H')) : Looks fn xs H l v nm pth vn vp r := by
 obtain ⟨H', hlv, hk, hff⟩ := leave_lk h hB hF (r := x) (r' := .im (.agg (encT t))) hx (fun _ => by cases t; rfl)
 exact ⟨H', vn1, vp1, t, hrun H' hlv, hk, hff, ht, hw⟩
def foldW : List UInt8 := [102, 111, 108, 100]
def mapW : List UInt8 := [109, 97, 112]
def ZO : HO := .obj none [[.im (.int .i64 0), .nils]]
theorem fr_at {A B : Heap} {M : Heap} {i : Nat} {o : HO} (h : B[i]? = some o) : (B ++ M)[i]? = some o := by rw [List.getElem?_append_left (List.getElem?_eq_some_iff.1 h).1]; exact h
theorem clone_right : ∀ (t : KT) (d : Int), rightT (cloneT t) d = rightT t d
 | .mk k s args, d => by
  have e : ∀ a ∈ args, ∀ d, rightT (cloneT a) d = rightT a d := fun a ha d => clone_right a d
  rw [Bool.eq_iff_iff]
  simp only [cloneT]
  rw [right_iff, right_iff, cloneTs_map, List.length_map]
  refine and_congr Iff.rfl (and_congr Iff.rfl ⟨fun h a ha => ?_, fun h a ha => ?_⟩)
  ·rw [← e a ha]; exact h _ (List.mem_map_of_mem ha)
  ·obtain ⟨b, hb, rfl⟩ := List.mem_map.1 ha
   rw [e b hb]; exact h b hb
termination_by t => t
decreasing_by simp_wf; have := List.sizeOf_lt_of_mem ha; omega
theorem s51b {H : Heap} {l : Nat} {v : EnvT} {nm : Nms} {pth : List Nat} {x : List Nat × Int} {vn vp : AV} (h : LkAt H l v nm pth (some x) vn vp) (k : Int) (s : Nat) (args : List KT) :
  ∃ H', L 51 [.ptr l 0 0, .im (.int .i64 k), .im (.sl s (encTs args))] H = some (.im (.agg (encT zeroT)), H') ∧ LkAt H' l v nm pth (some x) vn vp ∧ Fr H H' l vn vp vn vp := by
 obtain ⟨va, e, ho, hfa⟩ := h.obj
 obtain ⟨p, c⟩ := x
 obtain ⟨rfl, hne, s', rfl, hs⟩ := hfa
 have hlt := h.lt
 have hob : ∀ M : Heap, (H ++ M)[l]? = some _ := fun M => fr_at (A := H) ho
 unfold lookO at hob
 have z0 : decide (e = 0) = false := decide_eq_false hne
 obtain ⟨H', hlv, hk, hf⟩ := leave_lk h (h.more [ZO]) (Fr.refl.app [ZO]) (r := .agg [.im (.int .i64 0), .nils]) (r' := .im (.agg [.int .i64 0, .sl 0 []])) rfl (fun _ => rfl)
 refine ⟨H', ?_, hk, hf⟩
 unfold ZO at hlv
 rw [leq F51]
 obtain ⟨hlen, ha⟩ := enter_at (f := f51) (args := [.ptr l 0 0, .im (.int .i64 k), .im (.sl s (encTs args))]) (Nat.le_of_ble_eq_true rfl)
 have h0 := ha 0 _ rfl
 generalize enterA f51 [.ptr l 0 0, .im (.int .i64 k), .im (.sl s (encTs args))] = tm at *
 change tm.length = 26 at hlen
 simp only [f51,B0,B1,B2,List.replicate,reduceCtorEq,lenA,seval,B5,pairK,B4,stays,loadOf,endK,resA,tupA,hlen,h0,hob,z0,hlv,zeroE]
theorem s51x {H : Heap} {l : Nat} {v : EnvT} {nm : Nms} {pth : List Nat} {r : RT} {vn vp : AV} (h : LkAt H l v nm pth (fltR pth r) vn vp) (k : Int) (s : Nat) (args : List KT) (hok : okT (.mk k s args)) (hp : pth.length ≤ 1000) :
  ∃ H' t, L 51 [.ptr l 0 0, .im (.int .i64 k), .im (.sl s (encTs args))] H = some (.im (.agg (encT t)), H') ∧ LkAt H' l v nm pth (fltR pth (thenR r fun _ => madeX (.mk k s args))) vn vp ∧ Fr H H' l vn vp vn vp ∧ (∀ u, (thenR r fun _ => madeX (.mk k s args)) = .inl u → t = u) ∧ Wt t := by
 cases r with
 | inl t0 =>
  obtain ⟨H', c, k', f⟩ := s51 h k s args hok hp
  refine ⟨H', _, c, k', f, fun u hu => ?_, ?_⟩
  ·change madeX _ = _ at hu
   rw [hu]; rfl
  ·unfold madeX
   split
   ·rename_i hr
    exact .inr ⟨clone_ok _ hok, by change rightT (cloneT (.mk k s args)) 6 = true; rw [clone_right]; exact hr⟩
   ·exact wt_zero
 | inr x =>
  obtain ⟨p, c⟩ := x
  obtain ⟨H', c, k', f⟩ := s51b h k s args
  exact ⟨H', zeroT, c, k', f, fun u hu => (by cases hu), wt_zero⟩
set_option maxHeartbeats 2000000 in
theorem s53_mf {H : Heap} {l : Nat} {v : EnvT} {nm : Nms} {pth : List Nat} {vn vp : AV} (h : LkAt H l v nm pth none vn vp) (op : List UInt8) (el : decide (op = letW) = false) (ef : decide (op = foldW) = false) (i0 : Int) (txt : List UInt8) (ty : KT) (k0 k1 k2 : NT)
  (hp : pth.length ≤ 899) (hn : nm.length ≤ 890) (lk0 : RT) (lk2 : KT → RT)
  (h1 : ∀ (H : Heap) vn vp, LkAt H l v (nm ++ []) (pth ++ [0]) none vn vp → Looks 29 [.im (.agg (encN k0))] H l v (nm ++ []) (pth ++ [0]) vn vp lk0)
  (h2 : ∀ t, kidR 0 lk0 = .inl t → (argX t 7 0).2 = true → ∀ (H : Heap) vn vp, LkAt H l v (nm ++ [(txtN k1, (argX t 7 0).1)]) (pth ++ [2]) none vn vp → Looks 29 [.im (.agg (encN k2))] H l v (nm ++ [(txtN k1, (argX t 7 0).1)]) (pth ++ [2]) vn vp (lk2 (argX t 7 0).1)) :
  Looks 53 [.im (.agg (encN (.mk op i0 txt ty 6 [k0, k1, k2])))] H l v nm pth vn vp (thenR (kidR 0 lk0) fun t => if (argX t 7 0).2 = true then thenR (kidR 2 (lk2 (argX t 7 0).1)) fun u => (if decide (op = mapW) = true then madeX (.mk 7 2 [u]) else if decide (u.k = 1) = true then .inl t else .inr ([], 50)) else .inr ([], 50)) := by
 have hA := h.more [NO op i0 txt ty [k0, k1, k2], ZO]
 obtain ⟨A1, vn1, vp1, t1, c1, j1, f1, ht1, hw1⟩ := s54 hA op txt i0 ty 6 [k0, k1, k2] (.inr rfl) 0 k0 rfl [] .nils (.inl ⟨rfl, rfl⟩) (by omega) (by simp; omega) lk0 h1
 have g0 := Fr.top h f1 0 (by simp)
 have g1 := Fr.top h f1 1 (by simp)
 obtain ⟨va1, e1, o1, d1⟩ := j1.errOk
 have hlt1 := j1.lt
 rw [Nat.add_zero] at g0
 simp only [List.getElem?_cons_zero,List.getElem?_cons_succ] at g0 g1
 have c36 := fun H => c36w hw1 H
 have hwa := wt_arg hw1 7 0
 have z0 : ((0 : Nat) : Int) = 0 := rfl
 rw [z0] at c1
 have m0 : ∀ M : Heap, (A1 ++ M)[H.length]? = some _ := fun M => fr_at (A := H) g0
 have m1 : ∀ M : Heap, (A1 ++ M)[H.length + 1]? = some _ := fun M => fr_at (A := H) g1
 have ml : ∀ M : Heap, (A1 ++ M)[l]? = some _ := fun M => fr_at (A := H) o1
 have mS : ∀ (M : Heap) (o : HO), ((A1 ++ M).set (H.length + 1) o)[H.length + 1]? = some o := fun M o => List.getElem?_set_self (by have := (List.getElem?_eq_some_iff.1 g1).1; simp; omega)
 have ma : ∀ M : Heap, (A1 ++ M)[A1.length]? = M[0]? := fun M => hget0
 have mb : ∀ (k : Nat) (M : Heap), (A1 ++ M)[A1.length + k]? = M[k]? := fun k M => hget k
 have sa : ∀ (M : Heap) o, (A1 ++ M).set A1.length o = A1 ++ M.set 0 o := fun M o => hset0
 have sb : ∀ (k : Nat) (M : Heap) o, (A1 ++ M).set (A1.length + k) o = A1 ++ M.set k o := fun k M o => hset k
 obtain ⟨tk, ts, targs⟩ := ty
 generalize kidR 0 lk0 = r0 at *
 cases r0 with
 | inr e =>
  simp only [thenR]
  change decide (e1 = 0) = false at d1
  obtain ⟨kX, fX⟩ := LkAt.box h (j1.more [TyO t1, ZO, TyO (argX t1 7 0).1]) (f1.app [TyO t1, ZO, TyO (argX t1 7 0).1]) (k := 1) (by simp) (.obj none [[.im (.int .i64 0), .nils]])
  refine Looks.leave' (x := .agg [.im (.int .i64 0), .nils]) (t := zeroT) rfl h kX fX (fun u hu => by cases hu) wt_zero fun H' hlv => ?_
  generalize argX t1 7 0 = ag at *
  obtain ⟨⟨k5, s5, a5⟩, ok5⟩ := ag
  obtain ⟨tk1, ts1, ta1⟩ := t1
  simp only [TyO,NO,ZO,encT,encN,KT.k,KT.s,KT.args] at *
  rw [leq F53]
  obtain ⟨hlen, ha⟩ := enter_at (f := f53) (args := [.ptr l 0 0, .im (.agg [.str op, .int .i64 i0, .str txt, .int .i64 tk, .sl ts (encTs targs), .sl 6 (encNs [k0, k1, k2])])]) (Nat.le_of_ble_eq_true rfl)
  have h0 := ha 0 _ rfl
  have h1 := ha 1 _ rfl
  generalize enterA f53 [.ptr l 0 0, .im (.agg [.str op, .int .i64 i0, .str txt, .int .i64 tk, .sl ts (encTs targs), .sl 6 (encNs [k0, k1, k2])])] = tm at *
  change tm.length = 137 at hlen
  unfold lookO at *
  unfold letW foldW at *
  simp only [f53,B0,B1,B2,List.replicate,reduceCtorEq,lenA,seval,B5,pairK,B4,stays,loadOf,endK,resA,tupA,hlen,h0,h1,el,ef,c1,c36,m0,m1,ml,mS,ma,mb,sa,sb,d1,hlv,zeroE]
 | inl t =>
  change decide (e1 = 0) = true at d1
  have et : t1 = t := ht1 t rfl
  subst et
  change Looks 53 _ H l v nm pth vn vp (if (argX t1 7 0).2 = true then _ else _)
  have jx := j1.more [TyO t1, ZO, TyO (argX t1 7 0).1]
  have fx := f1.app [TyO t1, ZO, TyO (argX t1 7 0).1]
  cases hok : (argX t1 7 0).2 with
  | false =>
   rw [if_neg Bool.false_ne_true]
   obtain ⟨B, c52, kB, fB⟩ := s52 jx 50 (by decide) (by omega)
   have fB' := fx.trans fB
   have q1 := Fr.top h fB' 1 (by simp)
   simp only [List.getElem?_cons_zero,List.getElem?_cons_succ] at q1
   have qS : ∀ (o : HO), (B.set (H.length + 1) o)[H.length + 1]? = some o := fun o => List.getElem?_set_self (List.getElem?_eq_some_iff.1 q1).1
   obtain ⟨kX, fX⟩ := LkAt.box h kB fB' (k := 1) (by simp) (.obj none [[.im (.int .i64 0), .im (.sl 0 [])]])
   refine Looks.leave' (r := .inr ([], 50)) (x := .im (.agg [.int .i64 0, .sl 0 []])) (t := zeroT) rfl h (by simpa [flt1, fltR] using kX) fX (fun u hu => by cases hu) wt_zero fun H' hlv => ?_
   generalize argX t1 7 0 = ag at *
   obtain ⟨⟨k5, s5, a5⟩, ok5⟩ := ag
   change ok5 = false at hok
   subst hok
   obtain ⟨tk1, ts1, ta1⟩ := t1
   simp only [TyO,NO,ZO,encT,encN,KT.k,KT.s,KT.args] at *
   rw [leq F53]
   obtain ⟨hlen, ha⟩ := enter_at (f := f53) (args := [.ptr l 0 0, .im (.agg [.str op, .int .i64 i0, .str txt, .int .i64 tk, .sl ts (encTs targs), .sl 6 (encNs [k0, k1, k2])])]) (Nat.le_of_ble_eq_true rfl)
   have h0 := ha 0 _ rfl
   have h1 := ha 1 _ rfl
   generalize enterA f53 [.ptr l 0 0, .im (.agg [.str op, .int .i64 i0, .str txt, .int .i64 tk, .sl ts (encTs targs), .sl 6 (encNs [k0, k1, k2])])] = tm at *
   change tm.length = 137 at hlen
   unfold lookO at *
   unfold letW foldW at *
   simp only [f53,B0,B1,B2,List.replicate,reduceCtorEq,lenA,seval,B5,pairK,B4,stays,loadOf,endK,resA,tupA,hlen,h0,h1,el,ef,c1,c36,m0,m1,ml,mS,ma,mb,sa,sb,d1,c52,q1,qS,hlv,zeroE]
  | true =>
   rw [if_pos rfl]
   obtain ⟨A2, vn2, vp2, t2, c2, j2, f2, ht2, hw2⟩ := s54 jx op txt i0 (.mk tk ts targs) 6 [k0, k1, k2] (.inr rfl) 2 k2 rfl [(txtN k1, (argX t1 7 0).1)] (.im (.sl 3 (rowsN [(txtN k1, (argX t1 7 0).1)]))) (.inr rfl) (by omega) (by simp; omega) _ (h2 _ rfl hok)
   have f12 := fx.trans f2
   have q0 := Fr.top h f12 0 (by simp)
   have q1 := Fr.top h f12 1 (by simp)
   have qa := Fr.top j1 f2 0 (by simp)
   have qe := Fr.top j1 f2 2 (by simp)
   rw [Nat.add_zero] at q0 qa
   simp only [List.getElem?_cons_zero,List.getElem?_cons_succ] at q0 q1 qa qe
   obtain ⟨va2, e2, o2, d2⟩ := j2.errOk
   have w0 : ∀ M : Heap, (A2 ++ M)[H.length]? = some _ := fun M => fr_at (A := H) q0
   have w1 : ∀ M : Heap, (A2 ++ M)[H.length + 1]? = some _ := fun M => fr_at (A := H) q1
   have wa : ∀ M : Heap, (A2 ++ M)[A1.length]? = some _ := fun M => fr_at (A := H) qa
   have we : ∀ M : Heap, (A2 ++ M)[A1.length + 2]? = some _ := fun M => fr_at (A := H) qe
   have wl : ∀ M : Heap, (A2 ++ M)[l]? = some _ := fun M => fr_at (A := H) o2
   have wS : ∀ (M : Heap) (o : HO), ((A2 ++ M).set (H.length + 1) o)[H.length + 1]? = some o := fun M o => List.getElem?_set_self (by have := (List.getElem?_eq_some_iff.1 q1).1; simp; omega)
   have wma : ∀ M : Heap, (A2 ++ M)[A2.length]? = M[0]? := fun M => hget0
   have wsa : ∀ (M : Heap) o, (A2 ++ M).set A2.length o = A2 ++ M.set 0 o := fun M o => hset0
   have jy := j2.more [TyO t2]
   have fy := f12.app [TyO t2]
   obtain ⟨ko, ki, kt, ⟨kyk, kys, kya⟩, ks, kk⟩ := k1
   have i3 : idx (.im (.int .i64 1)) 3 = some 1 := idx_nat (n := 3) (i := 1) (by omega)
   have z2 : ((2 : Nat) : Int) = 2 := rfl
   rw [z2] at c2
   generalize kidR 2 (lk2 (argX t1 7 0).1) = r2 at *
   cases hm : decide (op = mapW) with
   | true =>
    obtain ⟨B, t3, c51, kB, fB, ht3, hw3⟩ := s51x jy 7 2 [t2] ⟨.inr rfl, by simp, hw2.ok, trivial⟩ (by omega)
    have fz := fy.trans fB
    have x1 := Fr.top h fz 1 (by simp)
    simp only [List.getElem?_cons_zero,List.getElem?_cons_succ] at x1
    have xS : ∀ (o : HO), (B.set (H.length + 1) o)[H.length + 1]? = some o := fun o => List.getElem?_set_self (List.getElem?_eq_some_iff.1 x1).1
    obtain ⟨kX, fX⟩ := LkAt.box h kB fz (k := 1) (by simp) (TyO t3)
    have er : (thenR r2 fun u => if true = true then madeX (.mk 7 2 [u]) else if decide (u.k = 1) = true then .inl t1 else .inr ([], 50)) = thenR r2 fun _ => madeX (.mk 7 2 [t2]) := by
     cases r2 with
     | inl u => have := ht2 u rfl; subst this; rfl
     | inr x => rfl
    rw [er]
    refine Looks.leave' (x := .im (.agg (encT t3))) (t := t3) (by cases t3; rfl) h kX fX ht3 hw3 fun H' hlv => ?_
    generalize argX t1 7 0 = ag at *
    obtain ⟨⟨k5, s5, a5⟩, ok5⟩ := ag
    change ok5 = true at hok
    subst hok
    obtain ⟨tk1, ts1, ta1⟩ := t1
    obtain ⟨tk2, ts2, ta2⟩ := t2
    obtain ⟨tk3, ts3, ta3⟩ := t3
    have hnm : rowsN [(txtN (.mk ko ki kt (.mk kyk kys kya) ks kk), KT.mk k5 s5 a5)] = [[.str kt, .int .i64 k5, .sl s5 (encTs a5)]] := rfl
    rw [hnm] at c2
    have td : toDatss [[AV.im (.str kt), .im (.int .i64 k5), .im (.sl s5 (encTs a5))]] = some [[.str kt, .int .i64 k5, .sl s5 (encTs a5)]] := rfl
    have td2 : toDatss [[AV.im (.int .i64 tk2), .im (.sl ts2 (encTs ta2))]] = some [[.int .i64 tk2, .sl ts2 (encTs ta2)]] := rfl
    simp only [TyO,NO,ZO,encT,encTs,encN,encNs,KT.k,KT.s,KT.args] at *
    rw [leq F53]
    obtain ⟨hlen, ha⟩ := enter_at (f := f53) (args := [.ptr l 0 0, .im (.agg [.str op, .int .i64 i0, .str txt, .int .i64 tk, .sl ts (encTs targs), .sl 6 (encN k0 :: [.str ko, .int .i64 ki, .str kt, .int .i64 kyk, .sl kys (encTs kya), .sl ks (encNs kk)] :: encN k2 :: [])])]) (Nat.le_of_ble_eq_true rfl)
    have h0 := ha 0 _ rfl
    have h1 := ha 1 _ rfl
    generalize enterA f53 [.ptr l 0 0, .im (.agg [.str op, .int .i64 i0, .str txt, .int .i64 tk, .sl ts (encTs targs), .sl 6 (encN k0 :: [.str ko, .int .i64 ki, .str kt, .int .i64 kyk, .sl kys (encTs kya), .sl ks (encNs kk)] :: encN k2 :: [])])] = tm at *
    change tm.length = 137 at hlen
    unfold lookO at *
    unfold letW foldW at *
    have em : decide (op = [109, 97, 112]) = true := hm
    simp only [f53,B0,B1,B2,List.replicate,reduceCtorEq,lenA,seval,B5,pairK,B4,stays,loadOf,endK,resA,tupA,hlen,h0,h1,el,ef,em,c1,c36,m0,m1,ml,mS,ma,mb,sa,sb,d1,c2,q0,o2,qa,qe,we,w0,w1,wa,wl,wma,wsa,i3,td,td2,c51,x1,xS,hlv,zeroE]
   | false =>
    have keep : ∀ (r : RT), (fltR pth r = fltR pth r2) → (∀ u, r = .inl u → t1 = u) → (decide (e2 = 0) = true → decide (t2.k = 1) = true) → Looks 53 [.im (.agg (encN (.mk op i0 txt (.mk tk ts targs) 6 [k0, .mk ko ki kt (.mk kyk kys kya) ks kk, k2])))] H l v nm pth vn vp r := fun r hr hru hcond => by
     obtain ⟨kX, fX⟩ := LkAt.box h jy fy (k := 1) (by simp) (TyO t1)
     rw [← hr] at kX
     refine Looks.leave' (x := .im (.agg (encT t1))) (t := t1) (by cases t1; rfl) h kX fX hru hw1 fun H' hlv => ?_
     generalize argX t1 7 0 = ag at *
     obtain ⟨⟨k5, s5, a5⟩, ok5⟩ := ag
     change ok5 = true at hok
     subst hok
     obtain ⟨tk1, ts1, ta1⟩ := t1
     obtain ⟨tk2, ts2, ta2⟩ := t2
     have hnm : rowsN [(txtN (.mk ko ki kt (.mk kyk kys kya) ks kk), KT.mk k5 s5 a5)] = [[.str kt, .int .i64 k5, .sl s5 (encTs a5)]] := rfl
     rw [hnm] at c2
     have td : toDatss [[AV.im (.str kt), .im (.int .i64 k5), .im (.sl s5 (encTs a5))]] = some [[.str kt, .int .i64 k5, .sl s5 (encTs a5)]] := rfl
     have em : decide (op = [109, 97, 112]) = false := hm
     clear ht2
     simp only [TyO,NO,ZO,encT,encTs,encN,encNs,KT.k,KT.s,KT.args] at *
     rw [leq F53]
     obtain ⟨hlen, ha⟩ := enter_at (f := f53) (args := [.ptr l 0 0, .im (.agg [.str op, .int .i64 i0, .str txt, .int .i64 tk, .sl ts (encTs targs), .sl 6 (encN k0 :: [.str ko, .int .i64 ki, .str kt, .int .i64 kyk, .sl kys (encTs kya), .sl ks (encNs kk)] :: encN k2 :: [])])]) (Nat.le_of_ble_eq_true rfl)
     have h0 := ha 0 _ rfl
     have h1 := ha 1 _ rfl
     generalize enterA f53 [.ptr l 0 0, .im (.agg [.str op, .int .i64 i0, .str txt, .int .i64 tk, .sl ts (encTs targs), .sl 6 (encN k0 :: [.str ko, .int .i64 ki, .str kt, .int .i64 kyk, .sl kys (encTs kya), .sl ks (encNs kk)] :: encN k2 :: [])])] = tm at *
     change tm.length = 137 at hlen
     unfold lookO at *
     unfold letW foldW at *
     cases he : decide (e2 = 0) with
     | false =>
      simp only [f53,B0,B1,B2,List.replicate,reduceCtorEq,lenA,seval,B5,pairK,B4,stays,loadOf,endK,resA,tupA,hlen,h0,h1,el,ef,em,c1,c36,m0,m1,ml,mS,ma,mb,sa,sb,d1,c2,q0,o2,qa,qe,we,w0,w1,wa,wl,wS,wma,wsa,i3,td,he,hlv,zeroE]
     | true =>
      have hk1 : decide (tk2 = 1) = true := hcond he
      simp only [f53,B0,B1,B2,List.replicate,reduceCtorEq,lenA,seval,B5,pairK,B4,stays,loadOf,endK,resA,tupA,hlen,h0,h1,el,ef,em,c1,c36,m0,m1,ml,mS,ma,mb,sa,sb,d1,c2,q0,o2,qa,qe,we,w0,w1,wa,wl,wS,wma,wsa,i3,td,he,hk1,hlv,zeroE]
    cases r2 with
    | inr x =>
     exact keep (.inr x) rfl (fun u hu => by cases hu) (fun hc => by rw [d2] at hc; cases hc)
    | inl u =>
     have := ht2 u rfl
     subst this
     cases hk1 : decide (t2.k = 1) with
     | true =>
      simp only [thenR,Bool.false_eq_true,if_false,hk1,if_true]
      exact keep (.inl t1) rfl (fun u hu => by cases hu; rfl) (fun _ => hk1)
     | false =>
      simp only [thenR,Bool.false_eq_true,if_false,hk1]
      change decide (e2 = 0) = true at d2
      obtain ⟨B, c52, kB, fB⟩ := s52 jy 50 (by decide) (by omega)
      have fz := fy.trans fB
      have x1 := Fr.top h fz 1 (by simp)
      simp only [List.getElem?_cons_zero,List.getElem?_cons_succ] at x1
      have xS : ∀ (o : HO), (B.set (H.length + 1) o)[H.length + 1]? = some o := fun o => List.getElem?_set_self (List.getElem?_eq_some_iff.1 x1).1
      obtain ⟨kX, fX⟩ := LkAt.box h kB fz (k := 1) (by simp) (.obj none [[.im (.int .i64 0), .im (.sl 0 [])]])
      refine Looks.leave' (r := .inr ([], 50)) (x := .im (.agg [.int .i64 0, .sl 0 []])) (t := zeroT) rfl h (by simpa [flt1, fltR] using kX) fX (fun u hu => by cases hu) wt_zero fun H' hlv => ?_
      clear keep
      generalize argX t1 7 0 = ag at *
      obtain ⟨⟨k5, s5, a5⟩, ok5⟩ := ag
      change ok5 = true at hok
      subst hok
      obtain ⟨tk1, ts1, ta1⟩ := t1
      obtain ⟨tk2, ts2, ta2⟩ := t2
      have hk2 : decide (tk2 = 1) = false := hk1
      have hnm : rowsN [(txtN (.mk ko ki kt (.mk kyk kys kya) ks kk), KT.mk k5 s5 a5)] = [[.str kt, .int .i64 k5, .sl s5 (encTs a5)]] := rfl
      rw [hnm] at c2
      have td : toDatss [[AV.im (.str kt), .im (.int .i64 k5), .im (.sl s5 (encTs a5))]] = some [[.str kt, .int .i64 k5, .sl s5 (encTs a5)]] := rfl
      have em : decide (op = [109, 97, 112]) = false := hm
      simp only [TyO,NO,ZO,encT,encTs,encN,encNs,KT.k,KT.s,KT.args] at *
      rw [leq F53]
      obtain ⟨hlen, ha⟩ := enter_at (f := f53) (args := [.ptr l 0 0, .im (.agg [.str op, .int .i64 i0, .str txt, .int .i64 tk, .sl ts (encTs targs), .sl 6 (encN k0 :: [.str ko, .int .i64 ki, .str kt, .int .i64 kyk, .sl kys (encTs kya), .sl ks (encNs kk)] :: encN k2 :: [])])]) (Nat.le_of_ble_eq_true rfl)
      have h0 := ha 0 _ rfl
      have h1 := ha 1 _ rfl
      generalize enterA f53 [.ptr l 0 0, .im (.agg [.str op, .int .i64 i0, .str txt, .int .i64 tk, .sl ts (encTs targs), .sl 6 (encN k0 :: [.str ko, .int .i64 ki, .str kt, .int .i64 kyk, .sl kys (encTs kya), .sl ks (encNs kk)] :: encN k2 :: [])])] = tm at *
      change tm.length = 137 at hlen
      unfold lookO at *
      unfold letW foldW at *
      simp only [f53,B0,B1,B2,List.replicate,reduceCtorEq,lenA,seval,B5,pairK,B4,stays,loadOf,endK,resA,tupA,hlen,h0,h1,el,ef,em,c1,c36,m0,m1,ml,mS,ma,mb,sa,sb,d1,c2,q0,o2,qa,qe,we,w0,w1,wa,wl,wS,wma,wsa,i3,td,d2,hk2,c52,x1,xS,hlv,zeroE]
end Go.Abs.Seat
end
section
set_option linter.unusedVariables false
set_option linter.unusedSimpArgs false
namespace Go.Abs.Seat
open Go.Proofs
theorem fr_keep {A M A2 D N A3 : Heap} {l : Nat} {v : EnvT} {nm : Nms} {pth : List Nat} {f : Flt} {vn1 vp1 vn2 vp2 vn3 vp3 : AV} (j : LkAt A l v nm pth f vn1 vp1) (f2 : Fr (A ++ M) A2 l vn1 vp1 vn2 vp2) (hl : A2.length ≤ D.length) (f3 : Fr (D ++ N) A3 l vn2 vp2 vn3 vp3) {k : Nat} (hk : k < M.length) :
  A3[A.length + k]? = D[A.length + k]? := by
 have hl2 := f2.len
 rw [List.length_append] at hl2
 have hlt := j.lt
 rw [f3.old (A.length + k) (by rw [List.length_append]; omega) (by omega) ?_ ?_, List.getElem?_append_left (by omega)]
 ·intro e
  rcases f2.rn with e1 | ⟨i, e1, hi⟩
  ·rw [e1] at e; have := j.sn.ref_lt e; omega
  ·rw [e1] at e; rw [List.length_append] at hi; injection e; omega
 ·intro e
  rcases f2.rp with e1 | ⟨i, e1, hi⟩
  ·rw [e1] at e; have := j.sp.ref_lt e; omega
  ·rw [e1] at e; rw [List.length_append] at hi; injection e; omega
set_option maxHeartbeats 2000000 in
theorem s53_fold {H : Heap} {l : Nat} {v : EnvT} {nm : Nms} {pth : List Nat} {vn vp : AV} (h : LkAt H l v nm pth none vn vp) (i0 : Int) (txt : List UInt8) (ty : KT) (k0 k1 k2 k3 k4 : NT)
  (hp : pth.length ≤ 899) (hn : nm.length ≤ 890) (lk0 lk1 : RT) (lk4 : KT → KT → RT)
  (h0 : ∀ (H : Heap) vn vp, LkAt H l v (nm ++ []) (pth ++ [0]) none vn vp → Looks 29 [.im (.agg (encN k0))] H l v (nm ++ []) (pth ++ [0]) vn vp lk0)
  (h1 : ∀ (H : Heap) vn vp, LkAt H l v (nm ++ []) (pth ++ [1]) none vn vp → Looks 29 [.im (.agg (encN k1))] H l v (nm ++ []) (pth ++ [1]) vn vp lk1)
  (h4 : ∀ t u, kidR 0 lk0 = .inl t → kidR 1 lk1 = .inl u → (argX t 7 0).2 = true → ∀ (H : Heap) vn vp, LkAt H l v (nm ++ [(txtN k2, u), (txtN k3, (argX t 7 0).1)]) (pth ++ [4]) none vn vp → Looks 29 [.im (.agg (encN k4))] H l v (nm ++ [(txtN k2, u), (txtN k3, (argX t 7 0).1)]) (pth ++ [4]) vn vp (lk4 u (argX t 7 0).1)) :
  Looks 53 [.im (.agg (encN (.mk foldW i0 txt ty 6 [k0, k1, k2, k3, k4])))] H l v nm pth vn vp (thenR (kidR 0 lk0) fun t => thenR (kidR 1 lk1) fun t1 => if (argX t 7 0).2 = true then thenR (kidR 4 (lk4 t1 (argX t 7 0).1)) fun u => (if sameR u t1 = true then .inl t1 else .inr ([], 50)) else .inr ([], 50)) := by
 have hA := h.more [NO foldW i0 txt ty [k0, k1, k2, k3, k4], ZO]
 obtain ⟨A1, vn1, vp1, t1, c1, j1, f1, ht1, hw1⟩ := s54 hA foldW txt i0 ty 6 [k0, k1, k2, k3, k4] (.inr rfl) 0 k0 rfl [] .nils (.inl ⟨rfl, rfl⟩) (by omega) (by simp; omega) lk0 h0
 have g0 := Fr.top h f1 0 (by simp)
 have g1 := Fr.top h f1 1 (by simp)
 obtain ⟨va1, e1, o1, d1⟩ := j1.errOk
 have hlt1 := j1.lt
 rw [Nat.add_zero] at g0
 simp only [List.getElem?_cons_zero,List.getElem?_cons_succ] at g0 g1
 have c36 := fun H => c36w hw1 H
 have hwa := wt_arg hw1 7 0
 have z0 : ((0 : Nat) : Int) = 0 := rfl
 have z1 : ((1 : Nat) : Int) = 1 := rfl
 have z4 : ((4 : Nat) : Int) = 4 := rfl
 rw [z0] at c1
 have el : decide (foldW = [108, 101, 116]) = false := rfl
 have ef : decide (foldW = [102, 111, 108, 100]) = true := rfl
 have m0 : ∀ M : Heap, (A1 ++ M)[H.length]? = some _ := fun M => fr_at (A := H) g0
 have m1 : ∀ M : Heap, (A1 ++ M)[H.length + 1]? = some _ := fun M => fr_at (A := H) g1
 have ml : ∀ M : Heap, (A1 ++ M)[l]? = some _ := fun M => fr_at (A := H) o1
 have mS : ∀ (M : Heap) (o : HO), ((A1 ++ M).set (H.length + 1) o)[H.length + 1]? = some o := fun M o => List.getElem?_set_self (by have := (List.getElem?_eq_some_iff.1 g1).1; simp; omega)
 have ma : ∀ M : Heap, (A1 ++ M)[A1.length]? = M[0]? := fun M => hget0
 have mb : ∀ (k : Nat) (M : Heap), (A1 ++ M)[A1.length + k]? = M[k]? := fun k M => hget k
 have sa : ∀ (M : Heap) o, (A1 ++ M).set A1.length o = A1 ++ M.set 0 o := fun M o => hset0
 have sb : ∀ (k : Nat) (M : Heap) o, (A1 ++ M).set (A1.length + k) o = A1 ++ M.set k o := fun k M o => hset k
 obtain ⟨tk, ts, targs⟩ := ty
 generalize kidR 0 lk0 = r0 at *
 cases r0 with
 | inr e =>
  simp only [thenR]
  change decide (e1 = 0) = false at d1
  obtain ⟨kX, fX⟩ := LkAt.box h (j1.more [TyO t1, ZO, TyO (argX t1 7 0).1]) (f1.app [TyO t1, ZO, TyO (argX t1 7 0).1]) (k := 1) (by simp) (.obj none [[.im (.int .i64 0), .nils]])
  refine Looks.leave' (x := .agg [.im (.int .i64 0), .nils]) (t := zeroT) rfl h kX fX (fun u hu => by cases hu) wt_zero fun H' hlv => ?_
  generalize argX t1 7 0 = ag at *
  obtain ⟨⟨k5, s5, a5⟩, ok5⟩ := ag
  obtain ⟨tk1, ts1, ta1⟩ := t1
  simp only [TyO,NO,ZO,encT,encN,KT.k,KT.s,KT.args] at *
  rw [leq F53]
  obtain ⟨hlen, ha⟩ := enter_at (f := f53) (args := [.ptr l 0 0, .im (.agg [.str foldW, .int .i64 i0, .str txt, .int .i64 tk, .sl ts (encTs targs), .sl 6 (encNs [k0, k1, k2, k3, k4])])]) (Nat.le_of_ble_eq_true rfl)
  have h0 := ha 0 _ rfl
  have h1 := ha 1 _ rfl
  generalize enterA f53 [.ptr l 0 0, .im (.agg [.str foldW, .int .i64 i0, .str txt, .int .i64 tk, .sl ts (encTs targs), .sl 6 (encNs [k0, k1, k2, k3, k4])])] = tm at *
  change tm.length = 137 at hlen
  unfold lookO at *
  unfold foldW at *
  simp only [f53,B0,B1,B2,List.replicate,reduceCtorEq,lenA,seval,B5,pairK,B4,stays,loadOf,endK,resA,tupA,hlen,h0,h1,el,ef,c1,c36,m0,m1,ml,mS,ma,mb,sa,sb,d1,hlv,zeroE]
 | inl t =>
  change decide (e1 = 0) = true at d1
  have et : t1 = t := ht1 t rfl
  subst et
  change Looks 53 _ H l v nm pth vn vp (thenR (kidR 1 lk1) fun tI => if (argX t1 7 0).2 = true then thenR (kidR 4 (lk4 tI (argX t1 7 0).1)) fun u => (if sameR u tI = true then .inl tI else .inr ([], 50)) else .inr ([], 50))
  obtain ⟨A2, vn2, vp2, t2, c2, j2, f2, ht2, hw2⟩ := s54 (j1.more [TyO t1, ZO]) foldW txt i0 (.mk tk ts targs) 6 [k0, k1, k2, k3, k4] (.inr rfl) 1 k1 rfl [] .nils (.inl ⟨rfl, rfl⟩) (by omega) (by simp; omega) lk1 h1
  rw [z1] at c2
  have f12 := (f1.app [TyO t1, ZO]).trans f2
  have p0 := Fr.top h f12 0 (by simp)
  have p1 := Fr.top h f12 1 (by simp)
  have pa := Fr.top j1 f2 0 (by simp)
  have pb := Fr.top j1 f2 1 (by simp)
  rw [Nat.add_zero] at p0 pa
  simp only [List.getElem?_cons_zero,List.getElem?_cons_succ] at p0 p1 pa pb
  obtain ⟨jD, fD⟩ := LkAt.box j1 j2 f2 (k := 1) (by simp) (TyO t2)
  have fD' := f1.trans fD
  have hA1 := (List.getElem?_eq_some_iff.1 pb).1
  have hH1 := (List.getElem?_eq_some_iff.1 g1).1
  have hA10 := (List.getElem?_eq_some_iff.1 g0).1
  obtain ⟨vaD, eD, oD, dD⟩ := jD.errOk
  have ns : ∀ {i : Nat} {o : HO} (x : HO), i ≠ A1.length + 1 → A2[i]? = some o → ∀ M : Heap, (A2.set (A1.length + 1) x ++ M)[i]? = some o := fun x hi ho M => fr_at (A := H) (by rw [List.getElem?_set_ne (fun e => hi e.symm)]; exact ho)
  have n0 := fun M => ns (TyO t2) (by omega) p0 M
  have n1 := fun M => ns (TyO t2) (by omega) p1 M
  have na := fun M => ns (TyO t2) (by omega) pa M
  have nb : ∀ M : Heap, (A2.set (A1.length + 1) (TyO t2) ++ M)[A1.length + 1]? = some (TyO t2) := fun M => fr_at (A := H) (List.getElem?_set_self hA1)
  have nl : ∀ M : Heap, (A2.set (A1.length + 1) (TyO t2) ++ M)[l]? = some _ := fun M => fr_at (A := H) oD
  have n0' := n0 []
  have n1' := n1 []
  have na' := na []
  have nb' := nb []
  have nl' := nl []
  rw [List.append_nil] at n0' n1' na' nb' nl'
  have nc : ∀ M : Heap, (A2.set (A1.length + 1) (TyO t2) ++ M)[A2.length]? = M[0]? := fun M => by rw [List.getElem?_append_right (by simp)]; simp
  have nd : ∀ (M : Heap) o, (A2.set (A1.length + 1) (TyO t2) ++ M).set A2.length o = A2.set (A1.length + 1) (TyO t2) ++ M.set 0 o := fun M o => by rw [List.set_append_right _ _ (by simp)]; simp
  have nS : ∀ (M : Heap) (o : HO), ((A2.set (A1.length + 1) (TyO t2) ++ M).set (H.length + 1) o)[H.length + 1]? = some o := fun M o => List.getElem?_set_self (by simp; omega)
  have jE := jD.more [TyO (argX t1 7 0).1]
  have fE := fD'.app [TyO (argX t1 7 0).1]
  generalize kidR 1 lk1 = r1 at *
  cases r1 with
  | inr e =>
   simp only [thenR]
   change decide (eD = 0) = false at dD
   obtain ⟨kX, fX⟩ := LkAt.box h jE fE (k := 1) (by simp) (.obj none [[.im (.int .i64 0), .nils]])
   refine Looks.leave' (x := .agg [.im (.int .i64 0), .nils]) (t := zeroT) rfl h kX fX (fun u hu => by cases hu) wt_zero fun H' hlv => ?_
   generalize argX t1 7 0 = ag at *
   obtain ⟨⟨k5, s5, a5⟩, ok5⟩ := ag
   obtain ⟨tk1, ts1, ta1⟩ := t1
   obtain ⟨tk2, ts2, ta2⟩ := t2
   simp only [TyO,NO,ZO,encT,encN,KT.k,KT.s,KT.args] at *
   rw [leq F53]
   obtain ⟨hlen, ha⟩ := enter_at (f := f53) (args := [.ptr l 0 0, .im (.agg [.str foldW, .int .i64 i0, .str txt, .int .i64 tk, .sl ts (encTs targs), .sl 6 (encNs [k0, k1, k2, k3, k4])])]) (Nat.le_of_ble_eq_true rfl)
   have h0 := ha 0 _ rfl
   have h1 := ha 1 _ rfl
   generalize enterA f53 [.ptr l 0 0, .im (.agg [.str foldW, .int .i64 i0, .str txt, .int .i64 tk, .sl ts (encTs targs), .sl 6 (encNs [k0, k1, k2, k3, k4])])] = tm at *
   change tm.length = 137 at hlen
   unfold lookO at *
   unfold foldW at *
   simp only [f53,B0,B1,B2,List.replicate,reduceCtorEq,lenA,seval,B5,pairK,B4,stays,loadOf,endK,resA,tupA,hlen,h0,h1,el,ef,c1,c2,c36,m0,m1,ml,mS,ma,mb,sa,sb,pb,n0,n1,na,nb,nl,n0',n1',na',nb',nl',nc,nd,nS,d1,dD,hlv,zeroE]
  | inl tI =>
   change decide (eD = 0) = true at dD
   have et : t2 = tI := ht2 tI rfl
   subst et
   change Looks 53 _ H l v nm pth vn vp (if (argX t1 7 0).2 = true then _ else _)
   cases hok : (argX t1 7 0).2 with
   | false =>
    rw [if_neg Bool.false_ne_true]
    obtain ⟨B, c52, kB, fB⟩ := s52 jE 50 (by decide) (by omega)
    have fB' := fE.trans fB
    have q1 := Fr.top h fB' 1 (by simp)
    simp only [List.getElem?_cons_zero,List.getElem?_cons_succ] at q1
    have qS : ∀ (o : HO), (B.set (H.length + 1) o)[H.length + 1]? = some o := fun o => List.getElem?_set_self (List.getElem?_eq_some_iff.1 q1).1
    obtain ⟨kX, fX⟩ := LkAt.box h kB fB' (k := 1) (by simp) (.obj none [[.im (.int .i64 0), .im (.sl 0 [])]])
    refine Looks.leave' (r := .inr ([], 50)) (x := .im (.agg [.int .i64 0, .sl 0 []])) (t := zeroT) rfl h (by simpa [flt1, fltR] using kX) fX (fun u hu => by cases hu) wt_zero fun H' hlv => ?_
    generalize argX t1 7 0 = ag at *
    obtain ⟨⟨k5, s5, a5⟩, ok5⟩ := ag
    change ok5 = false at hok
    subst hok
    obtain ⟨tk1, ts1, ta1⟩ := t1
    obtain ⟨tk2, ts2, ta2⟩ := t2
    simp only [TyO,NO,ZO,encT,encN,KT.k,KT.s,KT.args] at *
    rw [leq F53]
    obtain ⟨hlen, ha⟩ := enter_at (f := f53) (args := [.ptr l 0 0, .im (.agg [.str foldW, .int .i64 i0, .str txt, .int .i64 tk, .sl ts (encTs targs), .sl 6 (encNs [k0, k1, k2, k3, k4])])]) (Nat.le_of_ble_eq_true rfl)
    have h0 := ha 0 _ rfl
    have h1 := ha 1 _ rfl
    generalize enterA f53 [.ptr l 0 0, .im (.agg [.str foldW, .int .i64 i0, .str txt, .int .i64 tk, .sl ts (encTs targs), .sl 6 (encNs [k0, k1, k2, k3, k4])])] = tm at *
    change tm.length = 137 at hlen
    unfold lookO at *
    unfold foldW at *
    simp only [f53,B0,B1,B2,List.replicate,reduceCtorEq,lenA,seval,B5,pairK,B4,stays,loadOf,endK,resA,tupA,hlen,h0,h1,el,ef,c1,c2,c36,m0,m1,ml,mS,ma,mb,sa,sb,pb,n0,n1,na,nb,nl,n0',n1',na',nb',nl',nc,nd,nS,d1,dD,c52,q1,qS,hlv,zeroE]
   | true =>
    rw [if_pos rfl]
    obtain ⟨A3, vn3, vp3, t3, c3, j3, f3, ht3, hw3⟩ := s54 jE foldW txt i0 (.mk tk ts targs) 6 [k0, k1, k2, k3, k4] (.inr rfl) 4 k4 rfl [(txtN k2, t2), (txtN k3, (argX t1 7 0).1)] (.im (.sl 3 (rowsN [(txtN k2, t2), (txtN k3, (argX t1 7 0).1)]))) (.inr rfl) (by omega) (by simp; omega) _ (h4 _ _ rfl rfl hok)
    rw [z4] at c3
    have f13 := fE.trans f3
    have q0 := Fr.top h f13 0 (by simp)
    have q1 := Fr.top h f13 1 (by simp)
    have fDE := (Fr.refl (H := A2.set (A1.length + 1) (TyO t2)) (l := l) (vn := vn2) (vp := vp2)).app [TyO (argX t1 7 0).1]
    have qc := Fr.top jD f3 0 (by simp)
    rw [Nat.add_zero] at q0 qc
    simp only [List.getElem?_cons_zero,List.getElem?_cons_succ,List.length_set] at q0 q1 qc
    have qb : A3[A1.length + 1]? = some (TyO t2) := (fr_keep j1 f2 (by simp) f3 (k := 1) (by simp)).trans nb'
    have qa : A3[A1.length]? = some (TyO t1) := (fr_keep j1 f2 (by simp) f3 (k := 0) (by simp)).trans na'
    obtain ⟨va3, e3, o3, d3⟩ := j3.errOk
    have w0 : ∀ M : Heap, (A3 ++ M)[H.length]? = some _ := fun M => fr_at (A := H) q0
    have w1 : ∀ M : Heap, (A3 ++ M)[H.length + 1]? = some _ := fun M => fr_at (A := H) q1
    have wa : ∀ M : Heap, (A3 ++ M)[A1.length]? = some _ := fun M => fr_at (A := H) qa
    have wb : ∀ M : Heap, (A3 ++ M)[A1.length + 1]? = some _ := fun M => fr_at (A := H) qb
    have wc : ∀ M : Heap, (A3 ++ M)[A2.length]? = some _ := fun M => fr_at (A := H) qc
    have wl : ∀ M : Heap, (A3 ++ M)[l]? = some _ := fun M => fr_at (A := H) o3
    have wS : ∀ (M : Heap) (o : HO), ((A3 ++ M).set (H.length + 1) o)[H.length + 1]? = some o := fun M o => List.getElem?_set_self (by have := (List.getElem?_eq_some_iff.1 q1).1; simp; omega)
    have wma : ∀ M : Heap, (A3 ++ M)[A3.length]? = M[0]? := fun M => hget0
    have wsa : ∀ (M : Heap) o, (A3 ++ M).set A3.length o = A3 ++ M.set 0 o := fun M o => hset0
    have jy := j3.more [TyO t3]
    have fy := f13.app [TyO t3]
    obtain ⟨ko, ki, kt, ⟨kyk, kys, kya⟩, ks, kk⟩ := k2
    obtain ⟨lo, li, lt, ⟨lyk, lys, lya⟩, ls, lkk⟩ := k3
    have i3 : idx (.im (.int .i64 2)) 5 = some 2 := idx_nat (n := 5) (i := 2) (by omega)
    have i4 : idx (.im (.int .i64 3)) 5 = some 3 := idx_nat (n := 5) (i := 3) (by omega)
    have c16 := fun H => s16 t3 t2 hw3.ok hw2.ok H
    change ∀ H, L 16 _ H = some (.im (.bool (sameR t3 t2)), H) at c16
    generalize kidR 4 (lk4 t2 (argX t1 7 0).1) = r4 at *
    have keep : ∀ (r : RT), (fltR pth r = fltR pth r4) → (∀ u, r = .inl u → t2 = u) → (decide (e3 = 0) = true → sameR t3 t2 = true) → Looks 53 [.im (.agg (encN (.mk foldW i0 txt (.mk tk ts targs) 6 [k0, k1, .mk ko ki kt (.mk kyk kys kya) ks kk, .mk lo li lt (.mk lyk lys lya) ls lkk, k4])))] H l v nm pth vn vp r := fun r hr hru hcond => by
     obtain ⟨kX, fX⟩ := LkAt.box h jy fy (k := 1) (by simp) (TyO t2)
     rw [← hr] at kX
     refine Looks.leave' (x := .im (.agg (encT t2))) (t := t2) (by cases t2; rfl) h kX fX hru hw2 fun H' hlv => ?_
     clear ht3 d3
     generalize sameR t3 t2 = sm at *
     generalize argX t1 7 0 = ag at *
     obtain ⟨⟨k5, s5, a5⟩, ok5⟩ := ag
     change ok5 = true at hok
     subst hok
     obtain ⟨tk1, ts1, ta1⟩ := t1
     obtain ⟨tk2, ts2, ta2⟩ := t2
     obtain ⟨tk3, ts3, ta3⟩ := t3
     have hnm : rowsN [(txtN (.mk ko ki kt (.mk kyk kys kya) ks kk), KT.mk tk2 ts2 ta2), (txtN (.mk lo li lt (.mk lyk lys lya) ls lkk), KT.mk k5 s5 a5)] = [[.str kt, .int .i64 tk2, .sl ts2 (encTs ta2)], [.str lt, .int .i64 k5, .sl s5 (encTs a5)]] := rfl
     rw [hnm] at c3
     have td : toDatss [[AV.im (.str kt), .im (.int .i64 tk2), .im (.sl ts2 (encTs ta2))], [AV.im (.str lt), .im (.int .i64 k5), .im (.sl s5 (encTs a5))]] = some [[.str kt, .int .i64 tk2, .sl ts2 (encTs ta2)], [.str lt, .int .i64 k5, .sl s5 (encTs a5)]] := rfl
     simp only [TyO,NO,ZO,encT,encTs,encN,encNs,KT.k,KT.s,KT.args] at *
     rw [leq F53]
     obtain ⟨hlen, ha⟩ := enter_at (f := f53) (args := [.ptr l 0 0, .im (.agg [.str foldW, .int .i64 i0, .str txt, .int .i64 tk, .sl ts (encTs targs), .sl 6 (encN k0 :: encN k1 :: [.str ko, .int .i64 ki, .str kt, .int .i64 kyk, .sl kys (encTs kya), .sl ks (encNs kk)] :: [.str lo, .int .i64 li, .str lt, .int .i64 lyk, .sl lys (encTs lya), .sl ls (encNs lkk)] :: encN k4 :: [])])]) (Nat.le_of_ble_eq_true rfl)
     have h0 := ha 0 _ rfl
     have h1 := ha 1 _ rfl
     generalize enterA f53 [.ptr l 0 0, .im (.agg [.str foldW, .int .i64 i0, .str txt, .int .i64 tk, .sl ts (encTs targs), .sl 6 (encN k0 :: encN k1 :: [.str ko, .int .i64 ki, .str kt, .int .i64 kyk, .sl kys (encTs kya), .sl ks (encNs kk)] :: [.str lo, .int .i64 li, .str lt, .int .i64 lyk, .sl lys (encTs lya), .sl ls (encNs lkk)] :: encN k4 :: [])])] = tm at *
     change tm.length = 137 at hlen
     unfold lookO at *
     unfold foldW at *
     cases he : decide (e3 = 0) with
     | false =>
      simp only [f53,B0,B1,B2,List.replicate,reduceCtorEq,lenA,seval,B5,pairK,B4,stays,loadOf,endK,resA,tupA,hlen,h0,h1,el,ef,c1,c2,c36,m0,m1,ml,mS,ma,mb,sa,sb,pb,n0,n1,na,nb,nl,n0',n1',na',nb',nl',nc,nd,nS,d1,dD,c3,q0,q1,qa,qb,qc,o3,w0,w1,wa,wb,wc,wl,wS,wma,wsa,i3,i4,td,c16,he,hlv,zeroE]
     | true =>
      have hk1 : sm = true := hcond he
      subst hk1
      simp only [f53,B0,B1,B2,List.replicate,reduceCtorEq,lenA,seval,B5,pairK,B4,stays,loadOf,endK,resA,tupA,hlen,h0,h1,el,ef,c1,c2,c36,m0,m1,ml,mS,ma,mb,sa,sb,pb,n0,n1,na,nb,nl,n0',n1',na',nb',nl',nc,nd,nS,d1,dD,c3,q0,q1,qa,qb,qc,o3,w0,w1,wa,wb,wc,wl,wS,wma,wsa,i3,i4,td,c16,he,hlv,zeroE]
    cases r4 with
    | inr x =>
     exact keep (.inr x) rfl (fun u hu => by cases hu) (fun hc => by rw [d3] at hc; cases hc)
    | inl u =>
     have := ht3 u rfl
     subst this
     cases hk1 : sameR t3 t2 with
     | true =>
      simp only [thenR,hk1,if_true]
      exact keep (.inl t2) rfl (fun u hu => by cases hu; rfl) (fun _ => hk1)
     | false =>
      simp only [thenR,Bool.false_eq_true,if_false,hk1]
      change decide (e3 = 0) = true at d3
      obtain ⟨B, c52, kB, fB⟩ := s52 jy 50 (by decide) (by omega)
      have fz := fy.trans fB
      have x1 := Fr.top h fz 1 (by simp)
      simp only [List.getElem?_cons_zero,List.getElem?_cons_succ] at x1
      have xS : ∀ (o : HO), (B.set (H.length + 1) o)[H.length + 1]? = some o := fun o => List.getElem?_set_self (List.getElem?_eq_some_iff.1 x1).1
      obtain ⟨kX, fX⟩ := LkAt.box h kB fz (k := 1) (by simp) (.obj none [[.im (.int .i64 0), .im (.sl 0 [])]])
      refine Looks.leave' (r := .inr ([], 50)) (x := .im (.agg [.int .i64 0, .sl 0 []])) (t := zeroT) rfl h (by simpa [flt1, fltR] using kX) fX (fun u hu => by cases hu) wt_zero fun H' hlv => ?_
      clear keep
      rw [hk1] at c16
      generalize argX t1 7 0 = ag at *
      obtain ⟨⟨k5, s5, a5⟩, ok5⟩ := ag
      change ok5 = true at hok
      subst hok
      obtain ⟨tk1, ts1, ta1⟩ := t1
      obtain ⟨tk2, ts2, ta2⟩ := t2
      obtain ⟨tk3, ts3, ta3⟩ := t3
      have hnm : rowsN [(txtN (.mk ko ki kt (.mk kyk kys kya) ks kk), KT.mk tk2 ts2 ta2), (txtN (.mk lo li lt (.mk lyk lys lya) ls lkk), KT.mk k5 s5 a5)] = [[.str kt, .int .i64 tk2, .sl ts2 (encTs ta2)], [.str lt, .int .i64 k5, .sl s5 (encTs a5)]] := rfl
      rw [hnm] at c3
      have td : toDatss [[AV.im (.str kt), .im (.int .i64 tk2), .im (.sl ts2 (encTs ta2))], [AV.im (.str lt), .im (.int .i64 k5), .im (.sl s5 (encTs a5))]] = some [[.str kt, .int .i64 tk2, .sl ts2 (encTs ta2)], [.str lt, .int .i64 k5, .sl s5 (encTs a5)]] := rfl
      simp only [TyO,NO,ZO,encT,encTs,encN,encNs,KT.k,KT.s,KT.args] at *
      rw [leq F53]
      obtain ⟨hlen, ha⟩ := enter_at (f := f53) (args := [.ptr l 0 0, .im (.agg [.str foldW, .int .i64 i0, .str txt, .int .i64 tk, .sl ts (encTs targs), .sl 6 (encN k0 :: encN k1 :: [.str ko, .int .i64 ki, .str kt, .int .i64 kyk, .sl kys (encTs kya), .sl ks (encNs kk)] :: [.str lo, .int .i64 li, .str lt, .int .i64 lyk, .sl lys (encTs lya), .sl ls (encNs lkk)] :: encN k4 :: [])])]) (Nat.le_of_ble_eq_true rfl)
      have h0 := ha 0 _ rfl
      have h1 := ha 1 _ rfl
      generalize enterA f53 [.ptr l 0 0, .im (.agg [.str foldW, .int .i64 i0, .str txt, .int .i64 tk, .sl ts (encTs targs), .sl 6 (encN k0 :: encN k1 :: [.str ko, .int .i64 ki, .str kt, .int .i64 kyk, .sl kys (encTs kya), .sl ks (encNs kk)] :: [.str lo, .int .i64 li, .str lt, .int .i64 lyk, .sl lys (encTs lya), .sl ls (encNs lkk)] :: encN k4 :: [])])] = tm at *
      change tm.length = 137 at hlen
      unfold lookO at *
      unfold foldW at *
      simp only [f53,B0,B1,B2,List.replicate,reduceCtorEq,lenA,seval,B5,pairK,B4,stays,loadOf,endK,resA,tupA,hlen,h0,h1,el,ef,c1,c2,c36,m0,m1,ml,mS,ma,mb,sa,sb,pb,n0,n1,na,nb,nl,n0',n1',na',nb',nl',nc,nd,nS,d1,dD,c3,q0,q1,qa,qb,qc,o3,w0,w1,wa,wb,wc,wl,wS,wma,wsa,i3,i4,td,c16,d3,c52,x1,xS,hlv,zeroE]
end Go.Abs.Seat
end
section
set_option linter.unusedVariables false
set_option linter.unusedSimpArgs false
namespace Go.Abs.Seat
open Go.Proofs
def plainR (op : List UInt8) (ts : List KT) : RT :=
 if ((plainX op ts (ts.getD 0 zeroT) (ts.getD (ts.length - 1) zeroT)).2 && rightT (plainX op ts (ts.getD 0 zeroT) (ts.getD (ts.length - 1) zeroT)).1 6) = true then .inl (plainX op ts (ts.getD 0 zeroT) (ts.getD (ts.length - 1) zeroT)).1 else .inr ([], 50)
def bindsR (op : List UInt8) (tx : Nat → List UInt8) (lk : Nat → Nms → RT) (nm : Nms) : RT :=
 if op = letW then thenR (kidR 1 (lk 1 (nm ++ []))) fun t => kidR 2 (lk 2 (nm ++ [(tx 0, t)]))
 else if op = foldW then thenR (kidR 0 (lk 0 (nm ++ []))) fun t => thenR (kidR 1 (lk 1 (nm ++ []))) fun t1 => if (argX t 7 0).2 = true then thenR (kidR 4 (lk 4 (nm ++ [(tx 2, t1), (tx 3, (argX t 7 0).1)]))) fun u => (if sameR u t1 = true then .inl t1 else .inr ([], 50)) else .inr ([], 50)
 else thenR (kidR 0 (lk 0 (nm ++ []))) fun t => if (argX t 7 0).2 = true then thenR (kidR 2 (lk 2 (nm ++ [(tx 1, (argX t 7 0).1)]))) fun u => (if decide (op = mapW) = true then madeX (.mk 7 2 [u]) else if decide (u.k = 1) = true then .inl t else .inr ([], 50)) else .inr ([], 50)
def txAt (kids : List NT) (j : Nat) : List UInt8 := match kids[j]? with
 | some k => txtN k
 | none => []
def bindsW (op : List UInt8) : Prop := op = [108, 101, 116] ∨ op = [109, 97, 112] ∨ op = [102, 105, 108, 116, 101, 114] ∨ op = [102, 111, 108, 100]
instance (op : List UInt8) : Decidable (bindsW op) := inferInstanceAs (Decidable (_ ∨ _))
mutual
def lookX (v : EnvT) : NT → Nms → RT
 | .mk op i txt ty s kids, nm =>
  if op = [105, 110, 116] then .inl (.mk 2 0 [])
  else if op = [116, 101, 120, 116, 95, 111, 102] then .inl (.mk 3 0 [])
  else if op = [116, 114, 117, 101] ∨ op = [102, 97, 108, 115, 101] then .inl (.mk 1 0 [])
  else if op = [105, 116] then .inl v.it
  else if op = [110, 97, 109, 101] then nameX nm txt
  else if op = [110, 105, 108] then madeX (.mk 7 2 [ty])
  else if op = [110, 111, 110, 101] then madeX (.mk 9 2 [ty])
  else if op = [115, 105, 100, 101] then (if (v.sides.length : Int) ≤ i then .inr ([], 53) else .inl (v.sides.getD i.toNat zeroT))
  else if bindsW op then bindsR op (txAt kids) (fun j nm' => lookAt v kids j nm') nm
  else match looksX v kids 0 nm with
   | .inl ts => plainR op ts
   | .inr e => .inr e
def lookAt (v : EnvT) : List NT → Nat → Nms → RT
 | [], _, _ => .inr ([], 0)
 | k :: _, 0, nm => lookX v k nm
 | _ :: ks, j + 1, nm => lookAt v ks j nm
def looksX (v : EnvT) : List NT → Nat → Nms → List KT ⊕ (List Nat × Int)
 | [], _, _ => .inl []
 | k :: ks, j, nm => match kidR j (lookX v k nm) with
  | .inr e => .inr e
  | .inl t => match looksX v ks (j + 1) nm with
   | .inl ts => .inl (t :: ts)
   | .inr e => .inr e
end
theorem lookAt_get (v : EnvT) : ∀ (kids : List NT) (j : Nat) (k : NT) (nm : Nms), kids[j]? = some k → lookAt v kids j nm = lookX v k nm
 | [], j, k, nm, h => by simp at h
 | x :: ks, 0, k, nm, h => by simp at h; subst h; simp only [lookAt]
 | x :: ks, j + 1, k, nm, h => by simp at h; simp only [lookAt]; exact lookAt_get v ks j k nm h
structure EnvOk (v : EnvT) : Prop where
 it : Rt v.it
 sides : ∀ t ∈ v.sides, Rt t
 ss : v.sides = [] ∨ v.ss = 2
 len : v.sides.length ≤ 1000
theorem rt_simple (k : Int) (h : k = 1 ∨ k = 2 ∨ k = 3 ∨ k = 4 ∨ k = 5) : Rt (.mk k 0 []) := by
 refine ⟨⟨.inl rfl, by simp, trivial⟩, ?_⟩
 rcases h with rfl | rfl | rfl | rfl | rfl <;> decide
theorem rt_arg {t : KT} (h : Rt t) (h2 : (argX t 7 0).2 = true) : Rt (argX t 7 0).1 := by
 have hk : t.k = 7 := by
  unfold argX at h2
  split at h2
  ·assumption
  ·cases h2
 rcases wt_arg (wt_of h) 7 0 with hz | hr
 ·exfalso
  have hc := wt_cnt (wt_of h) hk
  obtain ⟨hok, hr⟩ := h
  obtain ⟨tk, s, args⟩ := t
  simp only [KT.k] at hk
  subst hk
  rw [right_iff] at hr
  simp only [KT.args] at hc
  have hm : args[0] ∈ args := List.getElem_mem hc
  have ha := hr.2.2 _ hm
  have : (argX (.mk 7 s args) 7 0).1 = args[0] := by simp [argX, KT.k, KT.args, hc]
  rw [this] at hz
  rw [hz] at ha
  exact absurd ha (by decide)
 ·exact hr
theorem made_rt {t u : KT} (hok : okT t) (h : madeX t = .inl u) : Rt u := by
 unfold madeX at h
 split at h
 ·rename_i hr
  cases h
  exact ⟨clone_ok _ hok, by rw [clone_right]; exact hr⟩
 ·cases h
theorem kid_inl {i : Nat} {r : RT} {t : KT} (h : kidR i r = .inl t) : r = .inl t := by
 cases r with
 | inl u => exact h
 | inr x => cases h
theorem then_inl {r : RT} {f : KT → RT} {u : KT} (h : thenR r f = .inl u) : ∃ t, r = .inl t ∧ f t = .inl u := by
 cases r with
 | inl t => exact ⟨t, rfl, h⟩
 | inr x => cases h
theorem argX_ok {t : KT} (h : okT t) (k : Int) (i : Nat) : okT (argX t k i).1 := by
 unfold argX
 split
 ·obtain ⟨tk, s, args⟩ := t
  simp only [KT.args,okT] at h ⊢
  rw [List.getD_eq_getElem?_getD]
  cases hi : args[i]? with
  | none => exact wt_zero.ok
  | some a => exact okTs_mem h.2.2 a (List.mem_of_getElem? hi)
 ·exact wt_zero.ok
theorem okTs_of : ∀ {l : List KT}, (∀ a ∈ l, okT a) → okTs l
 | [], _ => trivial
 | a :: l, h => ⟨h a (by simp), okTs_of fun b hb => h b (List.mem_cons_of_mem _ hb)⟩
theorem mk_ok (k : Int) {l : List KT} (h : ∀ a ∈ l, okT a) (hl : l.length ≤ 1000) : okT (.mk k 2 l) := ⟨.inr rfl, by omega, okTs_of h⟩
theorem simp_ok (k : Int) : okT (.mk k 0 []) := ⟨.inl rfl, by simp, trivial⟩
theorem ite_ok {c : Prop} [Decidable c] {a b : KT × Bool} (ha : okT a.1) (hb : okT b.1) : okT (if c then a else b).1 := by split <;> assumption
theorem more_ok (op : List UInt8) (ts : List KT) (t0 : KT) (h0 : okT t0) : okT (moreX op ts t0).1 := by
 unfold moreX
 repeat' first | exact argX_ok h0 _ _ | exact simp_ok _ | exact h0 | refine ite_ok ?_ ?_
theorem plain_ok (op : List UInt8) (ts : List KT) (t0 tl : KT) (h0 : okT t0) (hl : okT tl) (h : ∀ a ∈ ts, okT a) (hn : ts.length ≤ 1000) : okT (plainX op ts t0 tl).1 := by
 unfold plainX
 repeat' first | exact more_ok _ _ _ h0 | exact argX_ok h0 _ _ | refine ite_ok ?_ ?_ | exact h0 | exact hl | exact simp_ok _ | exact mk_ok _ h hn | exact mk_ok _ (fun a ha => h a (List.mem_of_mem_take ha)) (by rw [List.length_take]; omega) | exact mk_ok _ (fun a ha => by simp at ha; subst ha; exact argX_ok h0 _ _) (by simp) | exact more_ok _ _ _ h0
theorem getD_ok {ts : List KT} (h : ∀ a ∈ ts, okT a) (i : Nat) : okT (ts.getD i zeroT) := by
 rw [List.getD_eq_getElem?_getD]
 cases hi : ts[i]? with
 | none => exact wt_zero.ok
 | some a => exact h a (List.mem_of_getElem? hi)
theorem plain_rt {op : List UInt8} {ts : List KT} {u : KT} (h : ∀ a ∈ ts, okT a) (hn : ts.length ≤ 1000) (hu : plainR op ts = .inl u) : Rt u := by
 unfold plainR at hu
 split at hu
 ·rename_i hc
  rw [Bool.and_eq_true] at hc
  cases hu
  exact ⟨plain_ok _ _ _ _ (getD_ok h _) (getD_ok h _) h hn, hc.2⟩
 ·cases hu
theorem looks_len (v : EnvT) : ∀ (kids : List NT) (j : Nat) (nm : Nms) (ts : List KT), looksX v kids j nm = .inl ts → ts.length = kids.length
 | [], j, nm, ts, h => by simp only [looksX] at h; cases h; rfl
 | k :: ks, j, nm, ts, h => by
  simp only [looksX] at h
  split at h
  ·cases h
  ·split at h
   ·rename_i h2
    cases h
    simp [looks_len v ks _ _ _ h2]
   ·cases h
mutual
def tidyN : NT → Prop
 | .mk op i txt ty s kids => okT ty ∧ kids.length ≤ 1000 ∧ (op = [115, 105, 100, 101] → 0 ≤ i) ∧ tidyNs kids
def tidyNs : List NT → Prop
 | [] => True
 | a :: l => tidyN a ∧ tidyNs l
end
theorem tidyNs_at : ∀ {l : List NT} {j : Nat} {k : NT}, tidyNs l → l[j]? = some k → tidyN k
 | [], j, k, _, h => by simp at h
 | x :: l, 0, k, h, h2 => by simp at h2; subst h2; exact h.1
 | x :: l, j + 1, k, h, h2 => by simp at h2; exact tidyNs_at h.2 h2
mutual
theorem look_rt (v : EnvT) (hv : EnvOk v) : ∀ (t : NT) (nm : Nms) (u : KT), tidyN t → (∀ x ∈ nm, Rt x.2) → lookX v t nm = .inl u → Rt u
 | .mk op i txt ty s kids, nm, u, ht, hn, h => by
  simp only [tidyN] at ht
  obtain ⟨hty, hkl, hsi, hks⟩ := ht
  have key : ∀ j nm' t, (∀ x ∈ nm', Rt x.2) → lookAt v kids j nm' = .inl t → Rt t := fun j nm' t hn' he => look_at v hv kids j nm' t hks hn' he
  have keys : ∀ ts, looksX v kids 0 nm = .inl ts → ∀ a ∈ ts, Rt a := fun ts he => looks_rt v hv kids 0 nm ts hks hn he
  have ext : ∀ (l : Nms), (∀ x ∈ l, Rt x.2) → ∀ x ∈ nm ++ l, Rt x.2 := fun l hl x hx => by
   rcases List.mem_append.1 hx with hx | hx
   ·exact hn x hx
   ·exact hl x hx
  simp only [lookX] at h
  split at h
  ·cases h; exact rt_simple 2 (by simp)
  split at h
  ·cases h; exact rt_simple 3 (by simp)
  split at h
  ·cases h; exact rt_simple 1 (by simp)
  split at h
  ·cases h; exact hv.it
  split at h
  ·unfold nameX at h
   split at h
   ·rename_i x hf
    cases h
    exact hn x (List.mem_reverse.1 (List.mem_of_find?_eq_some hf))
   ·cases h
  split at h
  ·exact made_rt (mk_ok _ (fun a ha => by simp at ha; subst ha; exact hty) (by simp)) h
  split at h
  ·exact made_rt (mk_ok _ (fun a ha => by simp at ha; subst ha; exact hty) (by simp)) h
  split at h
  ·rename_i hsd
   have hi0 := hsi hsd
   split at h
   ·cases h
   ·cases h
    rename_i hi
    rw [List.getD_eq_getElem?_getD]
    cases hs : v.sides[i.toNat]? with
    | none =>
     rw [List.getElem?_eq_none_iff] at hs
     omega
    | some a => exact hv.sides a (List.mem_of_getElem? hs)
  split at h
  ·unfold bindsR at h
   split at h
   ·obtain ⟨t, h1, h2⟩ := then_inl h
    have r1 := key 1 _ t (ext [] (by simp)) (kid_inl h1)
    exact key 2 _ u (ext _ (fun x hx => by simp at hx; subst hx; exact r1)) (kid_inl h2)
   split at h
   ·obtain ⟨t, h1, h2⟩ := then_inl h
    obtain ⟨t1, h3, h4⟩ := then_inl h2
    have r0 := key 0 _ t (ext [] (by simp)) (kid_inl h1)
    have r1 := key 1 _ t1 (ext [] (by simp)) (kid_inl h3)
    split at h4
    ·obtain ⟨t4, h5, h6⟩ := then_inl h4
     split at h6
     ·cases h6; exact r1
     ·cases h6
    ·cases h4
   ·obtain ⟨t, h1, h2⟩ := then_inl h
    have r0 := key 0 _ t (ext [] (by simp)) (kid_inl h1)
    split at h2
    ·rename_i hok
     obtain ⟨t4, h5, h6⟩ := then_inl h2
     have r2 := key 2 _ t4 (ext _ (fun x hx => by simp at hx; subst hx; exact rt_arg r0 hok)) (kid_inl h5)
     split at h6
     ·exact made_rt (mk_ok _ (fun a ha => by simp at ha; subst ha; exact r2.1) (by simp)) h6
     split at h6
     ·cases h6; exact r0
     ·cases h6
    ·cases h2
  ·split at h
   ·rename_i ts hts
    exact plain_rt (fun a ha => (keys ts hts a ha).1) (by rw [looks_len v kids 0 nm ts hts]; exact hkl) h
   ·cases h
theorem look_at (v : EnvT) (hv : EnvOk v) : ∀ (kids : List NT) (j : Nat) (nm : Nms) (u : KT), tidyNs kids → (∀ x ∈ nm, Rt x.2) → lookAt v kids j nm = .inl u → Rt u
 | [], j, nm, u, _, _, h => by simp only [lookAt] at h; cases h
 | k :: ks, 0, nm, u, ht, hn, h => by
  simp only [lookAt] at h
  exact look_rt v hv k nm u ht.1 hn h
 | k :: ks, j + 1, nm, u, ht, hn, h => by
  simp only [lookAt] at h
  exact look_at v hv ks j nm u ht.2 hn h
theorem looks_rt (v : EnvT) (hv : EnvOk v) : ∀ (kids : List NT) (j : Nat) (nm : Nms) (ts : List KT), tidyNs kids → (∀ x ∈ nm, Rt x.2) → looksX v kids j nm = .inl ts → ∀ a ∈ ts, Rt a
 | [], j, nm, ts, _, _, h => by simp only [looksX] at h; cases h; simp
 | k :: ks, j, nm, ts, ht, hn, h => by
  simp only [looksX] at h
  split at h
  ·cases h
  ·rename_i t he
   split at h
   ·rename_i ts' h2
    cases h
    intro a ha
    rcases List.mem_cons.1 ha with rfl | ha
    ·exact look_rt v hv k nm _ ht.1 hn (kid_inl he)
    ·exact looks_rt v hv ks (j + 1) nm ts' ht.2 hn h2 a ha
   ·cases h
end
end Go.Abs.Seat
end
section
set_option linter.unusedVariables false
set_option linter.unusedSimpArgs false
namespace Go.Abs.Seat
open Go.Proofs
theorem res29 : f29.results = [(4, (some (some 2)))] := _root_.id rfl
theorem keep29 : f29.keep = false := _root_.id rfl
def NOs (op : List UInt8) (i : Int) (txt : List UInt8) (ty : KT) (s : Nat) (kids : List NT) : HO := .obj none [[.im (.str op), .im (.int .i64 i), .im (.str txt), .im (.int .i64 ty.k), .im (.sl ty.s (encTs ty.args)), .im (.sl s (encNs kids))]]
noncomputable def K29 (H : Heap) := blockK 0 (seqK L Λ (.seq h29_2 (.seq h29_3 (.seq h29_4 (.seq h29_5 (.seq h29_6 h29_7))))) (endK f29 H))
structure Lo (op : List UInt8) (l : Nat) (H : Heap) (tm : List AV) : Prop where
 len : tm.length = 114
 r0 : tm.getD 0 undefA = .ptr l 0 0
 r3 : tm.getD 3 undefA = .ptr H.length 0 0
 r4 : tm.getD 4 undefA = .ptr (H.length + 1) 0 0
 r10 : tm.getD 10 undefA = .im (.str op)
theorem Lo.same {op : List UInt8} {l : Nat} {H : Heap} {tm tm' : List AV} (h : Lo op l H tm) (hl : tm'.length = 114) (hs : Same [0, 3, 4, 10] tm tm') : Lo op l H tm' :=
 ⟨hl, (hs 0 (by simp)).trans h.r0, (hs 3 (by simp)).trans h.r3, (hs 4 (by simp)).trans h.r4, (hs 10 (by simp)).trans h.r10⟩
theorem pre29 (op : List UInt8) (i : Int) (txt : List UInt8) (ty : KT) (s : Nat) (kids : List NT) (l : Nat) (H : Heap) :
  ∃ tm, L 29 [.ptr l 0 0, .im (.agg (encN (.mk op i txt ty s kids)))] H = exec0 L Λ x29_0 tm (H ++ [NOs op i txt ty s kids, ZO]) (K29 H) ∧ Lo op l H tm := by
 obtain ⟨tk, ts, targs⟩ := ty
 simp only [encN,NOs,ZO,KT.k,KT.s,KT.args]
 rw [leq F29]
 obtain ⟨hlen, ha⟩ := enter_at (f := f29) (args := [.ptr l 0 0, .im (.agg [.str op, .int .i64 i, .str txt, .int .i64 tk, .sl ts (encTs targs), .sl s (encNs kids)])]) (Nat.le_of_ble_eq_true rfl)
 have h0 := ha 0 _ rfl
 have h1 := ha 1 _ rfl
 generalize enterA f29 [.ptr l 0 0, .im (.agg [.str op, .int .i64 i, .str txt, .int .i64 tk, .sl ts (encTs targs), .sl s (encNs kids)])] = tm at *
 change tm.length = 114 at hlen
 have hc : f29.code = (.seq h29_0 (.seq (.seq h29_1 (.block 0 x29_0)) (.seq h29_2 (.seq h29_3 (.seq h29_4 (.seq h29_5 (.seq h29_6 h29_7))))))) := congrArg AFunc.code f29_code
 rw [hc]
 unfold K29
 simp only [h29_0,h29_1,B0,B1,B2,List.replicate,reduceCtorEq,lenA,seval,hlen,h0,h1]
 refine ⟨_, rfl, ?_⟩
 exact ⟨by simp only [List.length_set,hlen], by simp only [B3,seval,hlen,h0], by simp only [B3,seval,hlen,h1], by simp only [B3,seval,hlen], by simp only [B3,seval,hlen]⟩
def LooksE (run : Option (AV × Heap)) (H : Heap) (l : Nat) (v : EnvT) (nm : Nms) (pth : List Nat) (vn vp : AV) (r : RT) : Prop :=
 ∃ H' vn' vp' t', run = some (.im (.agg (encT t')), H') ∧ LkAt H' l v nm pth (fltR pth r) vn' vp' ∧ Fr H H' l vn vp vn' vp' ∧ (∀ t, r = .inl t → t' = t) ∧ Wt t'
theorem LooksE.leave {run : Option (AV × Heap)} {H : Heap} {l : Nat} {v : EnvT} {nm : Nms} {pth : List Nat} {vn vp vn1 vp1 : AV} {r : RT} {B : Heap} {t : KT} {x : AV} (hx : degrade x = .im (.agg (encT t)))
  (h : LkAt H l v nm pth none vn vp) (hB : LkAt B l v nm pth (fltR pth r) vn1 vp1) (hF : Fr H B l vn vp vn1 vp1) (ht : ∀ u, r = .inl u → t = u) (hw : Wt t)
  (hrun : ∀ H', Abs.leave H false x B = (.im (.agg (encT t)), H') → run = some (.im (.agg (encT t)), H')) : LooksE run H l v nm pth vn vp r := by
 obtain ⟨H', hlv, hk, hff⟩ := leave_lk h hB hF (r := x) (r' := .im (.agg (encT t))) hx (fun _ => by cases t; rfl)
 exact ⟨H', vn1, vp1, t, hrun H' hlv, hk, hff, ht, hw⟩
section
variable {H : Heap} {l : Nat} {v : EnvT} {nm : Nms} {pth : List Nat} {vn vp : AV} {tm : List AV} (op : List UInt8) (i : Int) (txt : List UInt8) (ty : KT) (s : Nat) (kids : List NT)
theorem w29_s (j : Nat) (k : Int) (hk : k = 1 ∨ k = 2 ∨ k = 3) (h : LkAt H l v nm pth none vn vp) (code : ACode)
  (hrun : (∀ M, L 49 [.im (.int .i64 k)] M = some (.im (.agg [.int .i64 k, .sl 0 []]), M)) → ∀ H', leave H false (.im (.agg [.int .i64 k, .sl 0 []])) (H ++ [NOs op i txt ty s kids, .obj none [[.im (.int .i64 k), .im (.sl 0 [])]]]) = (.im (.agg [.int .i64 k, .sl 0 []]), H') →
   exec0 L Λ code tm (H ++ [NOs op i txt ty s kids, ZO]) (K29 H) = some (.im (.agg [.int .i64 k, .sl 0 []]), H')) :
  LooksE (exec0 L Λ code tm (H ++ [NOs op i txt ty s kids, ZO]) (K29 H)) H l v nm pth vn vp (.inl (.mk k 0 [])) :=
 LooksE.leave (t := .mk k 0 []) rfl h (h.more [NOs op i txt ty s kids, .obj none [[.im (.int .i64 k), .im (.sl 0 [])]]]) (Fr.refl.app _) (fun u hu => by cases hu; rfl) (wt_of (rt_simple k (by omega))) (hrun (s49 k))
theorem w29_0 (h : LkAt H l v nm pth none vn vp) (hM : Lo op l H tm) (hw : op = [105, 110, 116]) :
  LooksE (exec0 L Λ x29_0 tm (H ++ [NOs op i txt ty s kids, ZO]) (K29 H)) H l v nm pth vn vp (.inl (.mk 2 0 [])) := by
 refine w29_s (tm := tm) op i txt ty s kids 0 2 (by simp) h x29_0 fun c49 H' hlv => ?_
 obtain ⟨hlen, r0, r3, r4, r10⟩ := hM
 subst hw
 have q0 : decide (([105, 110, 116] : List UInt8) = [105, 110, 116]) = true := rfl
 simp only [NOs,ZO] at hlv ⊢
 simp only [x29_0,g29_0,a29_0,B0,B1,B2,List.replicate,reduceCtorEq,lenA,seval,B5,pairK,B4,stays,loadOf,K29,endK,resA,tupA,res29,keep29,hlen,r0,r3,r4,r10,q0,c49,hlv]
theorem w29_1 (h : LkAt H l v nm pth none vn vp) (hM : Lo op l H tm) (hw : op = [116, 101, 120, 116, 95, 111, 102]) :
  LooksE (exec0 L Λ x29_1 tm (H ++ [NOs op i txt ty s kids, ZO]) (K29 H)) H l v nm pth vn vp (.inl (.mk 3 0 [])) := by
 refine w29_s (tm := tm) op i txt ty s kids 0 3 (by simp) h x29_1 fun c49 H' hlv => ?_
 obtain ⟨hlen, r0, r3, r4, r10⟩ := hM
 subst hw
 have q0 : decide (([116, 101, 120, 116, 95, 111, 102] : List UInt8) = [116, 101, 120, 116, 95, 111, 102]) = true := rfl
 simp only [NOs,ZO] at hlv ⊢
 simp only [x29_1,g29_1,a29_1,B0,B1,B2,List.replicate,reduceCtorEq,lenA,seval,B5,pairK,B4,stays,loadOf,K29,endK,resA,tupA,res29,keep29,hlen,r0,r3,r4,r10,q0,c49,hlv]
theorem w29_2 (h : LkAt H l v nm pth none vn vp) (hM : Lo op l H tm) (hw : op = [116, 114, 117, 101] ∨ op = [102, 97, 108, 115, 101]) :
  LooksE (exec0 L Λ x29_2 tm (H ++ [NOs op i txt ty s kids, ZO]) (K29 H)) H l v nm pth vn vp (.inl (.mk 1 0 [])) := by
 refine w29_s (tm := tm) op i txt ty s kids 0 1 (by simp) h x29_2 fun c49 H' hlv => ?_
 obtain ⟨hlen, r0, r3, r4, r10⟩ := hM
 simp only [NOs,ZO] at hlv ⊢
 rcases hw with rfl | rfl
 ·have q0 : decide (([116, 114, 117, 101] : List UInt8) = [116, 114, 117, 101]) = true := rfl
  simp only [x29_2,g29_2,a29_2,B0,B1,B2,List.replicate,reduceCtorEq,lenA,seval,B5,pairK,B4,stays,loadOf,K29,endK,resA,tupA,res29,keep29,hlen,r0,r3,r4,r10,q0,c49,hlv]
 ·have q0 : decide (([102, 97, 108, 115, 101] : List UInt8) = [116, 114, 117, 101]) = false := rfl
  have q1 : decide (([102, 97, 108, 115, 101] : List UInt8) = [102, 97, 108, 115, 101]) = true := rfl
  simp only [x29_2,g29_2,a29_2,B0,B1,B2,List.replicate,reduceCtorEq,lenA,seval,B5,pairK,B4,stays,loadOf,K29,endK,resA,tupA,res29,keep29,hlen,r0,r3,r4,r10,q0,q1,c49,hlv]
theorem w29_3 (h : LkAt H l v nm pth none vn vp) (hv : EnvOk v) (hM : Lo op l H tm) (hw : op = [105, 116]) :
  LooksE (exec0 L Λ x29_3 tm (H ++ [NOs op i txt ty s kids, ZO]) (K29 H)) H l v nm pth vn vp (.inl v.it) := by
 obtain ⟨va, e, ho, hfa⟩ := h.obj
 refine LooksE.leave (t := v.it) (x := .im (.agg (encT v.it))) (by cases v.it; rfl) h (h.more [NOs op i txt ty s kids, TyO v.it]) (Fr.refl.app _) (fun u hu => by cases hu; rfl) (wt_of hv.it) fun H' hlv => ?_
 obtain ⟨hlen, r0, r3, r4, r10⟩ := hM
 subst hw
 have q0 : decide (([105, 116] : List UInt8) = [105, 116]) = true := rfl
 have ml : ∀ M : Heap, (H ++ M)[l]? = some _ := fun M => fr_at (A := H) ho
 obtain ⟨⟨k1, s1, a1⟩, vss, vsd⟩ := v
 simp only [NOs,ZO,lookO,TyO,encT,KT.k,KT.s,KT.args] at hlv ml ⊢
 simp only [x29_3,g29_3,a29_3,B0,B1,B2,List.replicate,reduceCtorEq,lenA,seval,B5,pairK,B4,stays,loadOf,K29,endK,resA,tupA,res29,keep29,hlen,r0,r3,r4,r10,q0,ml,hlv]
theorem tyR_wt {r : RT} (h : ∀ u, r = .inl u → Wt u) : Wt (tyR r) := by
 cases r with
 | inl u => exact h u rfl
 | inr x => exact wt_zero
theorem tyR_eq {r : RT} {u : KT} (h : r = .inl u) : tyR r = u := by subst h; rfl
theorem w29_4 (h : LkAt H l v nm pth none vn vp) (hp : pth.length ≤ 1000) (hn : nm.length ≤ 1000) (hR : ∀ x ∈ nm, Rt x.2) (hM : Lo op l H tm) (hw : op = [110, 97, 109, 101]) :
  LooksE (exec0 L Λ x29_4 tm (H ++ [NOs op i txt ty s kids, ZO]) (K29 H)) H l v nm pth vn vp (nameX nm txt) := by
 obtain ⟨B, c50, kB, fB⟩ := s50 (h.more [NOs op i txt ty s kids, ZO]) op txt i ty s kids hp hn
 have hwt : Wt (tyR (nameX nm txt)) := tyR_wt fun u hu => by
  unfold nameX at hu
  split at hu
  ·rename_i x hf
   cases hu
   exact wt_of (hR x (List.mem_reverse.1 (List.mem_of_find?_eq_some hf)))
  ·cases hu
 generalize hr : nameX nm txt = r at *
 obtain ⟨kX, fX⟩ := LkAt.box h kB fB (k := 1) (by simp) (TyO (tyR r))
 have x1 := Fr.top h fB 1 (by simp)
 simp only [List.getElem?_cons_zero,List.getElem?_cons_succ] at x1
 have xS : ∀ (o : HO), (B.set (H.length + 1) o)[H.length + 1]? = some o := fun o => List.getElem?_set_self (List.getElem?_eq_some_iff.1 x1).1
 refine LooksE.leave (t := tyR r) (x := .im (.agg (encT (tyR r)))) (by cases tyR r; rfl) h kX fX (fun u hu => tyR_eq hu) hwt fun H' hlv => ?_
 obtain ⟨hlen, r0, r3, r4, r10⟩ := hM
 subst hw
 have q0 : decide (([110, 97, 109, 101] : List UInt8) = [110, 97, 109, 101]) = true := rfl
 generalize tyR r = t at *
 obtain ⟨k1, s1, a1⟩ := t
 obtain ⟨tk, ts, targs⟩ := ty
 simp only [NOs,ZO,TyO,encT,encN,KT.k,KT.s,KT.args] at hlv x1 c50 ⊢
 simp only [x29_4,g29_4,a29_4,B0,B1,B2,List.replicate,reduceCtorEq,lenA,seval,B5,pairK,B4,stays,loadOf,K29,endK,resA,tupA,res29,keep29,hlen,r0,r3,r4,r10,q0,c50,x1,xS,hlv]
theorem w29_5 (h : LkAt H l v nm pth none vn vp) (hp : pth.length ≤ 1000) (hok : okT ty) (hM : Lo op l H tm) (hw : op = [110, 105, 108]) :
  LooksE (exec0 L Λ x29_5 tm (H ++ [NOs op i txt ty s kids, ZO]) (K29 H)) H l v nm pth vn vp (madeX (.mk 7 2 [ty])) := by
 obtain ⟨B, t, c51, kB, fB, ht, hwt⟩ := s51x (r := .inl zeroT) (h.more [NOs op i txt ty s kids, ZO]) 7 2 [ty] ⟨.inr rfl, by simp, hok, trivial⟩ hp
 simp only [thenR] at kB ht
 obtain ⟨kX, fX⟩ := LkAt.box h kB fB (k := 1) (by simp) (TyO t)
 have x1 := Fr.top h fB 1 (by simp)
 simp only [List.getElem?_cons_zero,List.getElem?_cons_succ] at x1
 have xS : ∀ (o : HO), (B.set (H.length + 1) o)[H.length + 1]? = some o := fun o => List.getElem?_set_self (List.getElem?_eq_some_iff.1 x1).1
 refine LooksE.leave (t := t) (x := .im (.agg (encT t))) (by cases t; rfl) h kX fX ht hwt fun H' hlv => ?_
 obtain ⟨hlen, r0, r3, r4, r10⟩ := hM
 subst hw
 have q0 : decide (([110, 105, 108] : List UInt8) = [110, 105, 108]) = true := rfl
 obtain ⟨k1, s1, a1⟩ := t
 obtain ⟨tk, ts, targs⟩ := ty
 have td : toDatss [[AV.im (.int .i64 tk), .im (.sl ts (encTs targs))]] = some [[.int .i64 tk, .sl ts (encTs targs)]] := rfl
 simp only [NOs,ZO,TyO,encT,encTs,KT.k,KT.s,KT.args] at hlv x1 c51 ⊢
 simp only [x29_5,g29_5,a29_5,B0,B1,B2,List.replicate,reduceCtorEq,lenA,seval,B5,pairK,B4,stays,loadOf,K29,endK,resA,tupA,res29,keep29,hlen,r0,r3,r4,r10,q0,td,c51,x1,xS,hlv]
theorem w29_6 (h : LkAt H l v nm pth none vn vp) (hp : pth.length ≤ 1000) (hok : okT ty) (hM : Lo op l H tm) (hw : op = [110, 111, 110, 101]) :
  LooksE (exec0 L Λ x29_6 tm (H ++ [NOs op i txt ty s kids, ZO]) (K29 H)) H l v nm pth vn vp (madeX (.mk 9 2 [ty])) := by
 obtain ⟨B, t, c51, kB, fB, ht, hwt⟩ := s51x (r := .inl zeroT) (h.more [NOs op i txt ty s kids, ZO]) 9 2 [ty] ⟨.inr rfl, by simp, hok, trivial⟩ hp
 simp only [thenR] at kB ht
 obtain ⟨kX, fX⟩ := LkAt.box h kB fB (k := 1) (by simp) (TyO t)
 have x1 := Fr.top h fB 1 (by simp)
 simp only [List.getElem?_cons_zero,List.getElem?_cons_succ] at x1
 have xS : ∀ (o : HO), (B.set (H.length + 1) o)[H.length + 1]? = some o := fun o => List.getElem?_set_self (List.getElem?_eq_some_iff.1 x1).1
 refine LooksE.leave (t := t) (x := .im (.agg (encT t))) (by cases t; rfl) h kX fX ht hwt fun H' hlv => ?_
 obtain ⟨hlen, r0, r3, r4, r10⟩ := hM
 subst hw
 have q0 : decide (([110, 111, 110, 101] : List UInt8) = [110, 111, 110, 101]) = true := rfl
 obtain ⟨k1, s1, a1⟩ := t
 obtain ⟨tk, ts, targs⟩ := ty
 have td : toDatss [[AV.im (.int .i64 tk), .im (.sl ts (encTs targs))]] = some [[.int .i64 tk, .sl ts (encTs targs)]] := rfl
 simp only [NOs,ZO,TyO,encT,encTs,KT.k,KT.s,KT.args] at hlv x1 c51 ⊢
 simp only [x29_6,g29_6,a29_6,B0,B1,B2,List.replicate,reduceCtorEq,lenA,seval,B5,pairK,B4,stays,loadOf,K29,endK,resA,tupA,res29,keep29,hlen,r0,r3,r4,r10,q0,td,c51,x1,xS,hlv]
theorem w29_7 (h : LkAt H l v nm pth none vn vp) (hv : EnvOk v) (hp : pth.length ≤ 1000) (hi : 0 ≤ i) (hM : Lo op l H tm) (hw : op = [115, 105, 100, 101]) :
  LooksE (exec0 L Λ x29_7 tm (H ++ [NOs op i txt ty s kids, ZO]) (K29 H)) H l v nm pth vn vp (if (v.sides.length : Int) ≤ i then .inr ([], 53) else .inl (v.sides.getD i.toNat zeroT)) := by
 obtain ⟨va, e, ho, hfa⟩ := h.obj
 obtain ⟨hlen, r0, r3, r4, r10⟩ := hM
 subst hw
 have q0 : decide (([115, 105, 100, 101] : List UInt8) = [115, 105, 100, 101]) = true := rfl
 have ml : ∀ M : Heap, (H ++ M)[l]? = some _ := fun M => fr_at (A := H) ho
 have hl : (v.sides.map encT).length = v.sides.length := by rw [List.length_map]
 by_cases hge : (v.sides.length : Int) ≤ i
 ·rw [if_pos hge]
  have hd : decide ((v.sides.length : Int) ≤ i) = true := decide_eq_true hge
  obtain ⟨B, c52, kB, fB⟩ := s52 (h.more [NOs [115, 105, 100, 101] i txt ty s kids, ZO]) 53 (by decide) hp
  have x1 := Fr.top h fB 1 (by simp)
  simp only [List.getElem?_cons_zero,List.getElem?_cons_succ] at x1
  have xS : ∀ (o : HO), (B.set (H.length + 1) o)[H.length + 1]? = some o := fun o => List.getElem?_set_self (List.getElem?_eq_some_iff.1 x1).1
  obtain ⟨kX, fX⟩ := LkAt.box h kB fB (k := 1) (by simp) (.obj none [[.im (.int .i64 0), .im (.sl 0 [])]])
  refine LooksE.leave (r := .inr ([], 53)) (x := .im (.agg [.int .i64 0, .sl 0 []])) (t := zeroT) rfl h (by simpa [flt1, fltR] using kX) fX (fun u hu => by cases hu) wt_zero fun H' hlv => ?_
  simp only [NOs,ZO,lookO,zeroE] at hlv ml x1 c52 ⊢
  simp only [x29_7,g29_7,a29_7,B0,B1,B2,List.replicate,reduceCtorEq,lenA,seval,B5,pairK,B4,stays,loadOf,K29,endK,resA,tupA,res29,keep29,hlen,r0,r3,r4,r10,q0,ml,hl,hd,c52,x1,xS,hlv]
 ·rw [if_neg hge]
  have hd : decide ((v.sides.length : Int) ≤ i) = false := decide_eq_false hge
  have hlt : i.toNat < v.sides.length := by omega
  obtain ⟨t, ht⟩ : ∃ t, v.sides[i.toNat]? = some t := ⟨_, List.getElem?_eq_getElem hlt⟩
  have hgD : v.sides.getD i.toNat zeroT = t := by rw [List.getD_eq_getElem?_getD, ht]; rfl
  have hgm : (v.sides.map encT)[i.toNat]? = some (encT t) := by rw [List.getElem?_map, ht]; rfl
  have hix : idx (.im (.int .i64 i)) v.sides.length = some i.toNat := by
   have := idx_nat (n := v.sides.length) (i := i.toNat) hlt
   rwa [Int.toNat_of_nonneg hi] at this
  have hss : v.ss = 2 := by
   rcases hv.ss with h1 | h1
   ·rw [h1] at hlt; simp at hlt
   ·exact h1
  rw [hgD]
  have hr := hv.sides t (List.mem_of_getElem? ht)
  refine LooksE.leave (t := t) (x := .im (.agg (encT t))) (by cases t; rfl) h (h.more [NOs [115, 105, 100, 101] i txt ty s kids, TyO t]) (Fr.refl.app _) (fun u hu => by cases hu; rfl) (wt_of hr) fun H' hlv => ?_
  obtain ⟨k1, s1, a1⟩ := t
  obtain ⟨vi, vss, vsd⟩ := v
  simp only at hss
  subst hss
  simp only [NOs,ZO,lookO,TyO,encT,KT.k,KT.s,KT.args] at hlv ml hgm ⊢
  simp only [x29_7,g29_7,a29_7,B0,B1,B2,List.replicate,reduceCtorEq,lenA,seval,B5,pairK,B4,stays,loadOf,K29,endK,resA,tupA,res29,keep29,hlen,r0,r3,r4,r10,q0,ml,hl,hd,hix,hgm,hlv]
theorem w29_8 (h : LkAt H l v nm pth none vn vp) (r : RT) (h53 : ∀ H vn vp, LkAt H l v nm pth none vn vp → Looks 53 [.im (.agg (encN (.mk op i txt ty s kids)))] H l v nm pth vn vp r) (hM : Lo op l H tm) (hw : bindsW op) :
  LooksE (exec0 L Λ x29_8 tm (H ++ [NOs op i txt ty s kids, ZO]) (K29 H)) H l v nm pth vn vp r := by
 obtain ⟨B, vn1, vp1, t, c53, kB, fB, ht, hwt⟩ := h53 _ _ _ (h.more [NOs op i txt ty s kids, ZO])
 obtain ⟨kX, fX⟩ := LkAt.box h kB fB (k := 1) (by simp) (TyO t)
 have x1 := Fr.top h fB 1 (by simp)
 simp only [List.getElem?_cons_zero,List.getElem?_cons_succ] at x1
 have xS : ∀ (o : HO), (B.set (H.length + 1) o)[H.length + 1]? = some o := fun o => List.getElem?_set_self (List.getElem?_eq_some_iff.1 x1).1
 refine LooksE.leave (t := t) (x := .im (.agg (encT t))) (by cases t; rfl) h kX fX ht hwt fun H' hlv => ?_
 obtain ⟨hlen, r0, r3, r4, r10⟩ := hM
 obtain ⟨k1, s1, a1⟩ := t
 obtain ⟨tk, ts, targs⟩ := ty
 simp only [NOs,ZO,TyO,encT,encN,KT.k,KT.s,KT.args] at hlv x1 c53 ⊢
 have hrun : ∀ b0 b1 b2 b3 : Bool, (b0 || b1 || b2 || b3) = true → decide (op = [108, 101, 116]) = b0 → decide (op = [109, 97, 112]) = b1 → decide (op = [102, 105, 108, 116, 101, 114]) = b2 → decide (op = [102, 111, 108, 100]) = b3 → exec0 L Λ x29_8 tm (H ++ [.obj none [[.im (.str op), .im (.int .i64 i), .im (.str txt), .im (.int .i64 tk), .im (.sl ts (encTs targs)), .im (.sl s (encNs kids))]], .obj none [[.im (.int .i64 0), .nils]]]) (K29 H) = some (.im (.agg [.int .i64 k1, .sl s1 (encTs a1)]), H') := by
  intro b0 b1 b2 b3 hb e0 e1 e2 e3
  cases b0 <;> cases b1 <;> cases b2 <;> cases b3 <;>
  first
  |(cases hb; done)
  | simp only [x29_8,g29_8,a29_8,B0,B1,B2,List.replicate,reduceCtorEq,lenA,seval,B5,pairK,B4,stays,loadOf,K29,endK,resA,tupA,res29,keep29,hlen,r0,r3,r4,r10,e0,e1,e2,e3,c53,x1,xS,hlv]
 refine hrun _ _ _ _ ?_ rfl rfl rfl rfl
 rcases hw with rfl | rfl | rfl | rfl <;> rfl
end
end Go.Abs.Seat
end
section
set_option linter.unusedVariables false
set_option linter.unusedSimpArgs false
namespace Go.Abs.Seat
open Go.Proofs
def GaS (A : Heap) (b : Nat) (vn vp : AV) (ts : List KT) (w : AV) : Prop :=
 (ts = [] ∧ w = .nils) ∨ (ts ≠ [] ∧ ∃ tok, b ≤ tok ∧ w = .asl 2 (ts.map encT) tok ∧ A[tok]? = some (.hw 34 ts.length) ∧ refA vn ≠ some tok ∧ refA vp ≠ some tok)
theorem gas_call {A B : Heap} {b l : Nat} {vn vp vn1 vp1 : AV} {ts : List KT} {w : AV} (g : GaS A b vn vp ts w) (hl : l < b) (f : Fr A B l vn vp vn1 vp1) : GaS B b vn1 vp1 ts w := by
 rcases g with h | ⟨hne, tok, hb, hw, ht, hn, hp⟩
 ·exact .inl h
 ·have hlt := (List.getElem?_eq_some_iff.1 ht).1
  refine .inr ⟨hne, tok, hb, hw, (f.old tok hlt (by omega) hn hp).trans ht, ?_, ?_⟩
  ·rcases f.rn with e | ⟨j, e, hj⟩
   ·rw [e]; exact hn
   ·rw [e]; intro e'; injection e'; omega
  ·rcases f.rp with e | ⟨j, e, hj⟩
   ·rw [e]; exact hp
   ·rw [e]; intro e'; injection e'; omega
theorem gas_push {A : Heap} {b : Nat} {vn vp : AV} {ts : List KT} {w : AV} (g : GaS A b vn vp ts w) (t : KT) (hn : ts.length ≤ 1000) (hb : b ≤ A.length) (hvn : ∀ i, refA vn = some i → i < A.length) (hvp : ∀ i, refA vp = some i → i < A.length) :
  ∃ w' A' tok, appendA A 34 32 2 w [encT t] = some (w', A') ∧ GaS A' b vn vp (ts ++ [t]) w' ∧ A.length ≤ A'.length ∧ b ≤ tok ∧ refA vn ≠ some tok ∧ refA vp ≠ some tok ∧ (∀ i, i < A.length → i ≠ tok → A'[i]? = A[i]?) := by
 rcases g with ⟨rfl, rfl⟩ | ⟨hne, tok, hb', rfl, ht, hn', hp⟩
 ·have e1 : refA vn ≠ some A.length := fun e => by have := hvn _ e; omega
  have e2 : refA vp ≠ some A.length := fun e => by have := hvp _ e; omega
  refine ⟨.asl 2 [encT t] A.length, A ++ [.hw 34 1], A.length, rfl, .inr ⟨by simp, A.length, hb, rfl, by simp, e1, e2⟩, by simp, hb, e1, e2, fun i hi _ => by rw [List.getElem?_append_left hi]⟩
 ·have hlt := (List.getElem?_eq_some_iff.1 ht).1
  refine ⟨.asl 2 (ts.map encT ++ [encT t]) tok, A.set tok (.hw 34 (ts.length + 1)), tok, ?_, .inr ⟨by simp, tok, hb', by simp, by rw [List.getElem?_set_self hlt]; simp, hn', hp⟩, by simp, hb', hn', hp, fun i hi hne => by rw [List.getElem?_set_ne (fun e => hne e.symm)]⟩
  have hc : ((ts.map encT).length + [encT t].length) * 32 ≤ 2 ^ 46 := by
   simp only [List.length_map,List.length_cons,List.length_nil]
   omega
  unfold appendA
  simp only [ht]
  rw [if_pos ⟨by simp, trivial, hc, by decide, trivial⟩]
  simp
theorem LkAt.pushed {A A' : Heap} {l b tok : Nat} {v : EnvT} {nm : Nms} {pth : List Nat} {f : Flt} {vn vp : AV} (h : LkAt A l v nm pth f vn vp) (hl : l < b) (hb : b ≤ tok) (hn : refA vn ≠ some tok) (hp : refA vp ≠ some tok) (hs : ∀ i, i < A.length → i ≠ tok → A'[i]? = A[i]?) : LkAt A' l v nm pth f vn vp :=
 h.same fun i hi => by
  rcases hi with rfl | hi | hi
  ·exact hs _ h.lt (by omega)
  ·exact hs i (h.sn.ref_lt hi) (fun e => hn (by rw [← e]; exact hi))
  ·exact hs i (h.sp.ref_lt hi) (fun e => hp (by rw [← e]; exact hi))
theorem Fr.pushed {H A A' : Heap} {l tok : Nat} {vn vp vn1 vp1 : AV} (h : Fr H A l vn vp vn1 vp1) (hle : A.length ≤ A'.length) (hb : H.length ≤ tok) (hs : ∀ i, i < A.length → i ≠ tok → A'[i]? = A[i]?) : Fr H A' l vn vp vn1 vp1 :=
 ⟨Nat.le_trans h.len hle, fun i hi hl h1 h2 => (hs i (Nat.lt_of_lt_of_le hi h.len) (by omega)).trans (h.old i hi hl h1 h2), h.rn, h.rp⟩
def fltS (pth : List Nat) (r : List KT ⊕ (List Nat × Int)) : Flt := match r with
 | .inl _ => none
 | .inr (p, c) => some (pth ++ p, c)
set_option maxHeartbeats 1000000 in
theorem l29 {H : Heap} {l : Nat} {v : EnvT} {nm : Nms} {pth : List Nat} {vn0 vp0 : AV} (h : LkAt H l v nm pth none vn0 vp0) (op : List UInt8) (i : Int) (txt : List UInt8) (ty : KT) (s : Nat) (kids : List NT) (hkl : kids.length ≤ 1000)
  (hk : ∀ (j : Nat) (k : NT), kids[j]? = some k → ∀ A vn vp, LkAt A l v nm pth none vn vp → Looks 54 [.im (.agg (encN (.mk op i txt ty s kids))), .im (.int .i64 (j : Int)), .nils] A l v nm pth vn vp (kidR j (lookX v k nm))) :
  ∀ (m j : Nat), j + m = kids.length → ∀ (A : Heap) (vn vp : AV) (ts : List KT) (w : AV), LkAt A l v nm pth none vn vp → Fr (H ++ [NOs op i txt ty s kids, ZO]) A l vn0 vp0 vn vp → GaS A (H.length + 2) vn vp ts w → ts.length = j →
  ∀ tm : List AV, Lo op l H tm → tm.getD 5 undefA = w → tm.getD 79 undefA = .im (.int .i64 (kids.length : Int)) → tm.getD 80 undefA = .im (.int .i64 (j : Int)) →
  ∃ e tm' A' vn' vp', Λ c29_0 tm A = some (e, tm', A') ∧ Lo op l H tm' ∧ LkAt A' l v nm pth (fltS pth (looksX v (kids.drop j) j nm)) vn' vp' ∧ Fr (H ++ [NOs op i txt ty s kids, ZO]) A' l vn0 vp0 vn' vp' ∧ match looksX v (kids.drop j) j nm with
   | .inl us => e = .exit 1 ∧ GaS A' (H.length + 2) vn' vp' (ts ++ us) (tm'.getD 5 undefA)
   | .inr _ => e = .ret
 | 0, j, hj, A, vn, vp, ts, w, hA, hF, g, htl, tm, hM, h5, h79, h80 => by
  obtain ⟨hlen, r0, r3, r4, r10⟩ := hM
  have e : kids.drop j = [] := by rw [List.drop_eq_nil_iff]; omega
  have hc : decide ((j : Int) < (kids.length : Int)) = false := by simp; omega
  rw [e, l29_0]
  simp only [looksX]
  simp only [b29_0,B0,B1,B2,List.replicate,reduceCtorEq,lenA,seval,hlen,h79,h80,hc]
  refine ⟨_, _, _, vn, vp, rfl, ⟨by simp only [List.length_set,hlen], by simp only [B3,seval,hlen,r0], by simp only [B3,seval,hlen,r3], by simp only [B3,seval,hlen,r4], by simp only [B3,seval,hlen,r10]⟩, hA, hF, rfl, ?_⟩
  have hap : ts ++ [] = ts := List.append_nil ts
  have : (tm.set 81 (AV.im (Dat.bool false))).getD 5 undefA = w := by simp only [B3,seval,hlen,h5]
  rw [this]
  simpa using g
 | m + 1, j, hj, A, vn, vp, ts, w, hA, hF, g, htl, tm, hM, h5, h79, h80 => by
  have hM' := hM
  obtain ⟨hlen, r0, r3, r4, r10⟩ := hM'
  have hlt : j < kids.length := by omega
  obtain ⟨k, hkj⟩ : ∃ k, kids[j]? = some k := ⟨_, List.getElem?_eq_getElem hlt⟩
  have e : kids.drop j = k :: kids.drop (j + 1) := by
   rw [List.drop_eq_getElem_cons hlt]
   congr 1
   rw [List.getElem?_eq_getElem hlt] at hkj
   exact Option.some.inj hkj
  have hc : decide ((j : Int) < (kids.length : Int)) = true := by simp; omega
  have hwr := wrap_nat (i := j) (by omega)
  obtain ⟨B, vn1, vp1, t, c54, kB, fB, ht, hwt⟩ := hk j k hkj A vn vp hA
  have hlH := h.lt
  have hFl := hF.len
  rw [List.length_append, List.length_cons, List.length_cons, List.length_nil] at hFl
  have gB := gas_call g (by omega) fB
  have hBl := fB.len
  obtain ⟨w', B', tok, ca, g', hle, hbt, hnt, hpt, hsame⟩ := gas_push gB t (by omega) (by omega) (fun i hi => kB.sn.ref_lt hi) (fun i hi => kB.sp.ref_lt hi)
  have kB' := kB.pushed (by omega) hbt hnt hpt hsame
  have fB' := (hF.trans fB).pushed hle (by simp; omega) hsame
  have g0 := Fr.top h hF 0 (by simp)
  have q1 := Fr.top h fB' 1 (by simp)
  rw [Nat.add_zero] at g0
  simp only [List.getElem?_cons_zero,List.getElem?_cons_succ] at g0 q1
  obtain ⟨va2, e2, o2, d2⟩ := kB'.errOk
  rw [e, l29_0]
  simp only [looksX]
  generalize kidR j (lookX v k nm) = r at *
  obtain ⟨tk1, ts1, ta1⟩ := t
  obtain ⟨tk, tys, targs⟩ := ty
  have td : toDatss [[AV.im (.int .i64 tk1), .im (.sl ts1 (encTs ta1))]] = some [[.int .i64 tk1, .sl ts1 (encTs ta1)]] := rfl
  cases r with
  | inr x =>
   obtain ⟨p, c⟩ := x
   change decide (e2 = 0) = false at d2
   obtain ⟨kX, fX⟩ := LkAt.box h kB' fB' (k := 1) (by simp) (.obj none [[.im (.int .i64 0), .nils]])
   have fX2 : Fr (H ++ [NOs op i txt (.mk tk tys targs) s kids, ZO]) (B'.set (H.length + 1) (.obj none [[.im (.int .i64 0), .nils]])) l vn0 vp0 vn1 vp1 := by
    have hs : B'.set (H.length + 1) (.obj none [[.im (.int .i64 0), .nils]]) = B' := by
     apply List.ext_getElem?
     intro n
     by_cases hn : H.length + 1 = n
     ·subst hn
      rw [List.getElem?_set_self (List.getElem?_eq_some_iff.1 q1).1, q1]
      rfl
     ·rw [List.getElem?_set_ne hn]
    rw [hs]
    exact fB'
   simp only [NOs,ZO,lookO,KT.k,KT.s,KT.args,encN,encT] at g0 q1 c54 o2 ca ⊢
   simp only [b29_0,B0,B1,B2,List.replicate,reduceCtorEq,lenA,seval,hlen,r0,r3,r4,r10,h5,h79,h80,hc,g0,c54,td,elems,ca,o2,d2,q1]
   exact ⟨_, _, _, vn1, vp1, rfl, ⟨by simp only [List.length_set,hlen], by simp only [B3,seval,hlen,r0], by simp only [B3,seval,hlen,r3], by simp only [B3,seval,hlen,r4], by simp only [B3,seval,hlen,r10]⟩, kX, fX2, rfl⟩
  | inl t0 =>
   change decide (e2 = 0) = true at d2
   have et : KT.mk tk1 ts1 ta1 = t0 := ht t0 rfl
   subst et
   have key : ∀ tm : List AV, Lo op l H tm → tm.getD 5 undefA = w' → tm.getD 79 undefA = .im (.int .i64 (kids.length : Int)) → tm.getD 80 undefA = .im (.int .i64 ((j + 1 : Nat) : Int)) →
     ∃ e tm' A' vn' vp', Λ c29_0 tm B' = some (e, tm', A') ∧ Lo op l H tm' ∧ LkAt A' l v nm pth (fltS pth (match looksX v (kids.drop (j + 1)) (j + 1) nm with | .inl ts => .inl (KT.mk tk1 ts1 ta1 :: ts) | .inr e => .inr e)) vn' vp' ∧ Fr (H ++ [NOs op i txt (.mk tk tys targs) s kids, ZO]) A' l vn0 vp0 vn' vp' ∧
      match (match looksX v (kids.drop (j + 1)) (j + 1) nm with | .inl ts => (.inl (KT.mk tk1 ts1 ta1 :: ts) : List KT ⊕ (List Nat × Int)) | .inr e => .inr e) with
      | .inl us => e = .exit 1 ∧ GaS A' (H.length + 2) vn' vp' (ts ++ us) (tm'.getD 5 undefA)
      | .inr _ => e = .ret := fun tm a1 a2 a3 a4 => by
    obtain ⟨e', tm', A', vn', vp', k1, k2, k3, k4, k5⟩ := l29 h op i txt (.mk tk tys targs) s kids hkl hk m (j + 1) (by omega) B' vn1 vp1 (ts ++ [KT.mk tk1 ts1 ta1]) w' kB' fB' g' (by simp [htl]) tm a1 a2 a3 a4
    refine ⟨e', tm', A', vn', vp', k1, k2, ?_⟩
    cases hlk : looksX v (kids.drop (j + 1)) (j + 1) nm with
    | inl us =>
     rw [hlk] at k3 k5
     refine ⟨k3, k4, k5.1, ?_⟩
     have := k5.2
     rwa [List.append_assoc] at this
    | inr x =>
     rw [hlk] at k3 k5
     exact ⟨k3, k4, k5⟩
   simp only [NOs,ZO,lookO,KT.k,KT.s,KT.args,encN,encT] at g0 q1 c54 o2 ca key ⊢
   simp only [b29_0,B0,B1,B2,List.replicate,reduceCtorEq,lenA,seval,hlen,r0,r3,r4,r10,h5,h79,h80,hc,g0,c54,td,elems,ca,o2,d2,q1,hwr]
   refine key _ ?_ ?_ ?_ ?_
   ·exact ⟨by simp only [List.length_set,hlen], by simp only [B3,seval,hlen,r0], by simp only [B3,seval,hlen,r3], by simp only [B3,seval,hlen,r4], by simp only [B3,seval,hlen,r10]⟩
   all_goals simp only [B3,seval,hlen,h79]
end Go.Abs.Seat
end
section
set_option linter.unusedVariables false
set_option linter.unusedSimpArgs false
namespace Go.Abs.Seat
open Go.Proofs
theorem encNs_len (kids : List NT) : (encNs kids).length = kids.length := by rw [encNs_map, List.length_map]
set_option maxHeartbeats 1000000 in
theorem w29_9 {H : Heap} {l : Nat} {v : EnvT} {nm : Nms} {pth : List Nat} {vn vp : AV} {tm : List AV} (h : LkAt H l v nm pth none vn vp) (op : List UInt8) (i : Int) (txt : List UInt8) (ty : KT) (s : Nat) (kids : List NT) (hkl : kids.length ≤ 1000) (hp : pth.length ≤ 1000) (hne : kids ≠ [])
  (h2 : op = [105, 102] → 1 < kids.length) (h3 : op = [111, 114, 95, 101, 108, 115, 101] → 1 < kids.length)
  (hk : ∀ (j : Nat) (k : NT), kids[j]? = some k → ∀ A vn vp, LkAt A l v nm pth none vn vp → Looks 54 [.im (.agg (encN (.mk op i txt ty s kids))), .im (.int .i64 (j : Int)), .nils] A l v nm pth vn vp (kidR j (lookX v k nm)))
  (hR : ∀ ts, looksX v kids 0 nm = .inl ts → ∀ a ∈ ts, Rt a) (hM : Lo op l H tm) :
  LooksE (exec0 L Λ x29_9 tm (H ++ [NOs op i txt ty s kids, ZO]) (K29 H)) H l v nm pth vn vp (match looksX v kids 0 nm with | .inl ts => plainR op ts | .inr e => .inr e) := by
 have key := l29 h op i txt ty s kids hkl hk kids.length 0 (by omega) (H ++ [NOs op i txt ty s kids, ZO]) vn vp [] .nils (h.more _) Fr.refl (.inl ⟨rfl, rfl⟩) rfl
 rw [List.drop_zero] at key
 obtain ⟨hlen, r0, r3, r4, r10⟩ := hM
 have hkn := encNs_len kids
 obtain ⟨tk, ts, targs⟩ := ty
 cases hlk : looksX v kids 0 nm with
 | inr x =>
  obtain ⟨p, c⟩ := x
  rw [hlk] at key
  simp only
  obtain ⟨tm1, htm1⟩ : ∃ t, t = (((((tm.set 5 .nils).set 77 (.ptr H.length 0 5)).set 78 (.im (.sl s (encNs kids)))).set 79 (.im (.int .i64 (kids.length : Int)))).set 80 (.im (.int .i64 0))) := ⟨_, rfl⟩
  obtain ⟨e, tm', A', vn', vp', k1, k2, k3, k4, k5⟩ := key tm1 (by subst htm1; exact ⟨by simp only [List.length_set,hlen], by simp only [B3,seval,hlen,r0], by simp only [B3,seval,hlen,r3], by simp only [B3,seval,hlen,r4], by simp only [B3,seval,hlen,r10]⟩) (by subst htm1; simp only [B3,seval,hlen]) (by subst htm1; simp only [B3,seval,hlen]) (by subst htm1; simp only [B3,seval,hlen]; first | done | rfl)
  simp only at k5
  subst k5
  subst htm1
  have q1 := Fr.top h k4 1 (by simp)
  simp only [List.getElem?_cons_zero,List.getElem?_cons_succ] at q1
  obtain ⟨l1, l0, l3, l4, l10⟩ := k2
  refine LooksE.leave (r := .inr (p, c)) (x := .agg [.im (.int .i64 0), .nils]) (t := zeroT) rfl h k3 k4.down (fun u hu => by cases hu) wt_zero fun H' hlv => ?_
  simp only [NOs,ZO,KT.k,KT.s,KT.args] at q1 k1 ⊢
  simp only [x29_9,h29_2,h29_3,e29_0,B0,B1,B2,List.replicate,reduceCtorEq,lenA,seval,K29,resA,tupA,hlen,r3,hkn]
  rw [k1]
  simp only [thenL,blockK,seqK,endK,B0,B1,B2,List.replicate,reduceCtorEq,lenA,seval,resA,tupA,res29,keep29,l1,l4,q1,hlv,zeroE]
 | inl us =>
  rw [hlk] at key
  simp only
  have hRu := hR us hlk
  have hul := looks_len v kids 0 nm us hlk
  have hkp : 0 < kids.length := List.length_pos_iff.2 hne
  obtain ⟨tm1, htm1⟩ : ∃ t, t = (((((tm.set 5 .nils).set 77 (.ptr H.length 0 5)).set 78 (.im (.sl s (encNs kids)))).set 79 (.im (.int .i64 (kids.length : Int)))).set 80 (.im (.int .i64 0))) := ⟨_, rfl⟩
  obtain ⟨e, tm', A', vn', vp', k1, k2, k3, k4, k5⟩ := key tm1 (by subst htm1; exact ⟨by simp only [List.length_set,hlen], by simp only [B3,seval,hlen,r0], by simp only [B3,seval,hlen,r3], by simp only [B3,seval,hlen,r4], by simp only [B3,seval,hlen,r10]⟩) (by subst htm1; simp only [B3,seval,hlen]) (by subst htm1; simp only [B3,seval,hlen]) (by subst htm1; simp only [B3,seval,hlen]; first | done | rfl)
  simp only [List.nil_append] at k5
  obtain ⟨rfl, hg⟩ := k5
  subst htm1
  obtain ⟨l1, l0, l3, l4, l10⟩ := k2
  rcases hg with ⟨hz, _⟩ | ⟨_, tok, _, h5, _⟩
  ·rw [hz] at hul; simp at hul; omega
  obtain ⟨n, hn⟩ : ∃ n, us.length = n + 1 := ⟨us.length - 1, by omega⟩
  obtain ⟨t0, ht0⟩ : ∃ t, us[0]? = some t := ⟨_, List.getElem?_eq_getElem (by omega)⟩
  obtain ⟨tl, htl⟩ : ∃ t, us[n]? = some t := ⟨_, List.getElem?_eq_getElem (by omega)⟩
  have c55 := fun H => s55 op us t0 tl n hn (by omega) ht0 htl hRu (fun e => by rw [hul]; exact h2 e) (fun e => by rw [hul]; exact h3 e) tok H
  have hpr : plainR op us = if ((plainX op us t0 tl).2 && rightT (plainX op us t0 tl).1 6) = true then .inl (plainX op us t0 tl).1 else .inr ([], 50) := by
   unfold plainR
   rw [show us.getD 0 zeroT = t0 by rw [List.getD_eq_getElem?_getD, ht0]; rfl, show us.length - 1 = n by omega, show us.getD n zeroT = tl by rw [List.getD_eq_getElem?_getD, htl]; rfl]
  have hpo : okT (plainX op us t0 tl).1 := plain_ok op us t0 tl (hRu _ (List.mem_of_getElem? ht0)).1 (hRu _ (List.mem_of_getElem? htl)).1 (fun a ha => (hRu a ha).1) (by omega)
  rw [hpr]
  generalize plainX op us t0 tl = px at *
  obtain ⟨t, ok⟩ := px
  have c33 := fun H => s33 t hpo H
  unfold checkT at c33
  have q0 := Fr.top h k4 0 (by simp)
  have q1 := Fr.top h k4 1 (by simp)
  rw [Nat.add_zero] at q0
  simp only [List.getElem?_cons_zero,List.getElem?_cons_succ] at q0 q1
  have m1 : ∀ M : Heap, (A' ++ M)[H.length + 1]? = some _ := fun M => fr_at (A := H) q1
  have mS : ∀ (M : Heap) (o : HO), ((A' ++ M).set (H.length + 1) o)[H.length + 1]? = some o := fun M o => List.getElem?_set_self (by have := (List.getElem?_eq_some_iff.1 q1).1; simp; omega)
  have jy := k3.more [TyO t]
  have fy := k4.app [TyO t]
  have z0 : (!decide ((0 : Int) = 0)) = false := rfl
  have z20 : (!decide ((20 : Int) = 0)) = true := rfl
  simp only at hpo ⊢
  have bad : (ok && rightT t 6) = false → LooksE (exec0 L Λ x29_9 tm (H ++ [NOs op i txt (.mk tk ts targs) s kids, ZO]) (K29 H)) H l v nm pth vn vp (.inr ([], 50)) := fun hb => by
   obtain ⟨B, c52, kB, fB⟩ := s52 jy 50 (by decide) hp
   have fz := fy.trans fB
   have x1 := Fr.top h fz 1 (by simp)
   simp only [List.getElem?_cons_zero,List.getElem?_cons_succ] at x1
   have xS : ∀ (o : HO), (B.set (H.length + 1) o)[H.length + 1]? = some o := fun o => List.getElem?_set_self (List.getElem?_eq_some_iff.1 x1).1
   obtain ⟨kX, fX⟩ := LkAt.box h kB fz (k := 1) (by simp) (.obj none [[.im (.int .i64 0), .im (.sl 0 [])]])
   refine LooksE.leave (r := .inr ([], 50)) (x := .im (.agg [.int .i64 0, .sl 0 []])) (t := zeroT) rfl h (by simpa [flt1, fltR, fltS] using kX) fX (fun u hu => by cases hu) wt_zero fun H' hlv => ?_
   obtain ⟨tk1, ts1, ta1⟩ := t
   simp only [NOs,ZO,TyO,encT,KT.k,KT.s,KT.args] at q0 q1 m1 x1 c55 c33 c52 k1 ⊢
   simp only [x29_9,h29_2,h29_3,e29_0,B0,B1,B2,List.replicate,reduceCtorEq,lenA,seval,K29,resA,tupA,hlen,r3,hkn]
   rw [k1]
   cases ok <;> cases hr : rightT (.mk tk1 ts1 ta1) 6 <;> first | (rw [hr] at hb; cases hb; done) |
    (rw [hr] at c33
     simp only [Bool.false_eq_true,if_false,if_true] at c33
     simp only [thenL,h29_4,h29_5,h29_6,h29_7,B0,B1,B2,List.replicate,reduceCtorEq,lenA,seval,B5,pairK,B4,stays,loadOf,endK,resA,tupA,res29,keep29,l1,l0,l3,l4,h5,q0,q1,m1,mS,c55,c33,z0,z20,c52,x1,xS,hlv,zeroE])
  cases hb : (ok && rightT t 6) with
  | false =>
   rw [if_neg Bool.false_ne_true]
   exact bad hb
  | true =>
   rw [if_pos rfl]
   rw [Bool.and_eq_true] at hb
   obtain ⟨rfl, hr⟩ := hb
   clear bad
   obtain ⟨kX, fX⟩ := LkAt.box h jy fy (k := 1) (by simp) (TyO t)
   refine LooksE.leave (x := .im (.agg (encT t))) (t := t) (by cases t; rfl) h kX fX (fun u hu => by cases hu; rfl) (wt_of ⟨hpo, hr⟩) fun H' hlv => ?_
   obtain ⟨tk1, ts1, ta1⟩ := t
   rw [hr] at c33
   simp only [if_true] at c33
   simp only [NOs,ZO,TyO,encT,KT.k,KT.s,KT.args] at q0 q1 m1 c55 c33 k1 hlv ⊢
   simp only [x29_9,h29_2,h29_3,e29_0,B0,B1,B2,List.replicate,reduceCtorEq,lenA,seval,K29,resA,tupA,hlen,r3,hkn]
   rw [k1]
   simp only [thenL,h29_4,h29_5,h29_6,h29_7,B0,B1,B2,List.replicate,reduceCtorEq,lenA,seval,B5,pairK,B4,stays,loadOf,endK,resA,tupA,res29,keep29,l1,l0,l3,l4,h5,q0,q1,m1,mS,c55,c33,z0,z20,hlv]
end Go.Abs.Seat
end
section
set_option linter.unusedVariables false
set_option linter.unusedSimpArgs false
namespace Go.Abs.Seat
open Go.Proofs
def leafW (op : List UInt8) : Prop := op = [105, 110, 116] ∨ op = [116, 101, 120, 116, 95, 111, 102] ∨ (op = [116, 114, 117, 101] ∨ op = [102, 97, 108, 115, 101]) ∨ op = [105, 116] ∨ op = [110, 97, 109, 101] ∨ op = [110, 105, 108] ∨ op = [110, 111, 110, 101] ∨ op = [115, 105, 100, 101]
structure ArOk (op : List UInt8) (n : Nat) : Prop where
 l : op = [108, 101, 116] → n = 3
 m : op = [109, 97, 112] → n = 3
 f : op = [102, 105, 108, 116, 101, 114] → n = 3
 d : op = [102, 111, 108, 100] → n = 5
 i : op = [105, 102] → 1 < n
 o : op = [111, 114, 95, 101, 108, 115, 101] → 1 < n
 z : ¬ leafW op → 0 < n
def Gd : Nat → NT → Prop
 | 0, _ => False
 | d + 1, .mk op i txt ty s kids => (kids = [] ∨ s = 6) ∧ ArOk op kids.length ∧ ∀ k ∈ kids, Gd d k
theorem three {α : Type} {l : List α} (h : l.length = 3) : ∃ a b c, l = [a, b, c] := by
 match l, h with
 | [a, b, c], _ => exact ⟨a, b, c, rfl⟩
theorem five {α : Type} {l : List α} (h : l.length = 5) : ∃ a b c d e, l = [a, b, c, d, e] := by
 match l, h with
 | [a, b, c, d, e], _ => exact ⟨a, b, c, d, e, rfl⟩
set_option maxHeartbeats 1000000 in
theorem s29 (v : EnvT) (hv : EnvOk v) : ∀ (d : Nat) (t : NT), Gd d t → tidyN t → ∀ (nm : Nms), (∀ x ∈ nm, Rt x.2) → nm.length + 2 * d ≤ 880 → ∀ (pth : List Nat), pth.length + d ≤ 890 → ∀ (l : Nat) (H : Heap) (vn vp : AV), LkAt H l v nm pth none vn vp → Looks 29 [.im (.agg (encN t))] H l v nm pth vn vp (lookX v t nm)
 | 0, t, hg, _, _, _, _, _, _, _, _, _, _, _ => by simp only [Gd] at hg
 | d + 1, .mk op i txt ty s kids, hg, ht, nm, hn, hnl, pth, hpl, l, H, vn, vp, h => by
  simp only [Gd] at hg
  simp only [tidyN] at ht
  obtain ⟨hs, har, hgk⟩ := hg
  obtain ⟨hty, hkl, hsi, htk⟩ := ht
  have ext : ∀ (x : Nms), (∀ y ∈ x, Rt y.2) → ∀ y ∈ nm ++ x, Rt y.2 := fun x hx y hy => by
   rcases List.mem_append.1 hy with hy | hy
   ·exact hn y hy
   ·exact hx y hy
  have kid : ∀ (j : Nat) (k : NT), kids[j]? = some k → ∀ (x : Nms), x.length ≤ 2 → (∀ y ∈ x, Rt y.2) → ∀ (H : Heap) vn vp, LkAt H l v (nm ++ x) (pth ++ [j]) none vn vp → Looks 29 [.im (.agg (encN k))] H l v (nm ++ x) (pth ++ [j]) vn vp (lookX v k (nm ++ x)) := fun j k hj x hx hr H vn vp hl =>
   s29 v hv d k (hgk k (List.mem_of_getElem? hj)) (tidyNs_at htk hj) (nm ++ x) (ext x hr) (by simp; omega) (pth ++ [j]) (by simp; omega) l H vn vp hl
  have rt : ∀ (j : Nat) (k : NT), kids[j]? = some k → ∀ (x : Nms), (∀ y ∈ x, Rt y.2) → ∀ u, kidR j (lookX v k (nm ++ x)) = .inl u → Rt u := fun j k hj x hr u hu =>
   look_rt v hv k _ u (tidyNs_at htk hj) (ext x hr) (kid_inl hu)
  have k54 : ∀ (j : Nat) (k : NT), kids[j]? = some k → ∀ A vn vp, LkAt A l v nm pth none vn vp → Looks 54 [.im (.agg (encN (.mk op i txt ty s kids))), .im (.int .i64 (j : Int)), .nils] A l v nm pth vn vp (kidR j (lookX v k nm)) := fun j k hj A vn vp hA => by
   have := s54 hA op txt i ty s kids hs j k hj [] .nils (.inl ⟨rfl, rfl⟩) (by omega) (by simp; omega) (lookX v k (nm ++ [])) (kid j k hj [] (by simp) (by simp))
   rwa [List.append_nil] at this
  obtain ⟨tm, e, hM⟩ := pre29 op i txt ty s kids l H
  have fin : ∀ r, LooksE (exec0 L Λ x29_0 tm (H ++ [NOs op i txt ty s kids, ZO]) (K29 H)) H l v nm pth vn vp r → Looks 29 [.im (.agg (encN (.mk op i txt ty s kids)))] H l v nm pth vn vp r := fun r hr => by
   obtain ⟨H', vn', vp', t', h1, h2⟩ := hr
   exact ⟨H', vn', vp', t', e.trans h1, h2⟩
  apply fin
  simp only [lookX]
  by_cases u0 : op = [105, 110, 116]
  ·rw [if_pos u0]
   exact w29_0 op i txt ty s kids h hM u0
  rw [if_neg u0]
  by_cases u1 : op = [116, 101, 120, 116, 95, 111, 102]
  ·rw [if_pos u1]
   obtain ⟨tm1, e1, l1, s1⟩ := to29_1 (op := op) (H := H ++ [NOs op i txt ty s kids, ZO]) (K29 H) hM.len hM.r10 (by simp [lits29, u0])
   rw [e1]
   exact w29_1 op i txt ty s kids h (hM.same l1 s1) u1
  rw [if_neg u1]
  by_cases u2 : op = [116, 114, 117, 101] ∨ op = [102, 97, 108, 115, 101]
  ·rw [if_pos u2]
   obtain ⟨tm1, e1, l1, s1⟩ := to29_2 (op := op) (H := H ++ [NOs op i txt ty s kids, ZO]) (K29 H) hM.len hM.r10 (by simp [lits29, u0, u1])
   rw [e1]
   exact w29_2 op i txt ty s kids h (hM.same l1 s1) u2
  rw [if_neg u2]
  have v2 := u2
  simp only [not_or] at v2
  by_cases u3 : op = [105, 116]
  ·rw [if_pos u3]
   obtain ⟨tm1, e1, l1, s1⟩ := to29_3 (op := op) (H := H ++ [NOs op i txt ty s kids, ZO]) (K29 H) hM.len hM.r10 (by simp [lits29, u0, u1, v2])
   rw [e1]
   exact w29_3 op i txt ty s kids h hv (hM.same l1 s1) u3
  rw [if_neg u3]
  by_cases u4 : op = [110, 97, 109, 101]
  ·rw [if_pos u4]
   obtain ⟨tm1, e1, l1, s1⟩ := to29_4 (op := op) (H := H ++ [NOs op i txt ty s kids, ZO]) (K29 H) hM.len hM.r10 (by simp [lits29, u0, u1, v2, u3])
   rw [e1]
   exact w29_4 op i txt ty s kids h (by omega) (by omega) hn (hM.same l1 s1) u4
  rw [if_neg u4]
  by_cases u5 : op = [110, 105, 108]
  ·rw [if_pos u5]
   obtain ⟨tm1, e1, l1, s1⟩ := to29_5 (op := op) (H := H ++ [NOs op i txt ty s kids, ZO]) (K29 H) hM.len hM.r10 (by simp [lits29, u0, u1, v2, u3, u4])
   rw [e1]
   exact w29_5 op i txt ty s kids h (by omega) hty (hM.same l1 s1) u5
  rw [if_neg u5]
  by_cases u6 : op = [110, 111, 110, 101]
  ·rw [if_pos u6]
   obtain ⟨tm1, e1, l1, s1⟩ := to29_6 (op := op) (H := H ++ [NOs op i txt ty s kids, ZO]) (K29 H) hM.len hM.r10 (by simp [lits29, u0, u1, v2, u3, u4, u5])
   rw [e1]
   exact w29_6 op i txt ty s kids h (by omega) hty (hM.same l1 s1) u6
  rw [if_neg u6]
  by_cases u7 : op = [115, 105, 100, 101]
  ·rw [if_pos u7]
   obtain ⟨tm1, e1, l1, s1⟩ := to29_7 (op := op) (H := H ++ [NOs op i txt ty s kids, ZO]) (K29 H) hM.len hM.r10 (by simp [lits29, u0, u1, v2, u3, u4, u5, u6])
   rw [e1]
   exact w29_7 op i txt ty s kids h hv (by omega) (hsi u7) (hM.same l1 s1) u7
  rw [if_neg u7]
  by_cases u8 : bindsW op
  ·rw [if_pos u8]
   obtain ⟨tm1, e1, l1, s1⟩ := to29_8 (op := op) (H := H ++ [NOs op i txt ty s kids, ZO]) (K29 H) hM.len hM.r10 (by simp [lits29, u0, u1, v2, u3, u4, u5, u6, u7])
   rw [e1]
   refine w29_8 op i txt ty s kids h _ (fun H vn vp hl => ?_) (hM.same l1 s1) u8
   by_cases b0 : op = letW
   ·obtain ⟨k0, k1, k2, rfl⟩ := three (har.l b0)
    have hs6 : s = 6 := by simpa using hs
    subst hs6
    unfold bindsR
    rw [if_pos b0]
    subst b0
    exact s53_let hl i txt ty k0 k1 k2 (by omega) (by omega) _ (fun t => lookX v k2 (nm ++ [(txtN k0, t)])) (kid 1 k1 rfl [] (by simp) (by simp)) (fun t hu => kid 2 k2 rfl _ (by simp) (fun y hy => by simp at hy; subst hy; exact rt 1 k1 rfl [] (by simp) t hu))
   by_cases b1 : op = foldW
   ·obtain ⟨k0, k1, k2, k3, k4, rfl⟩ := five (har.d b1)
    have hs6 : s = 6 := by simpa using hs
    subst hs6
    unfold bindsR
    rw [if_neg b0, if_pos b1]
    subst b1
    exact s53_fold hl i txt ty k0 k1 k2 k3 k4 (by omega) (by omega) _ _ (fun t u => lookX v k4 (nm ++ [(txtN k2, t), (txtN k3, u)])) (kid 0 k0 rfl [] (by simp) (by simp)) (kid 1 k1 rfl [] (by simp) (by simp))
     (fun t u ht hu hok => kid 4 k4 rfl _ (by simp) (fun y hy => by
      simp at hy
      rcases hy with rfl | rfl
      ·exact rt 1 k1 rfl [] (by simp) u hu
      ·exact rt_arg (rt 0 k0 rfl [] (by simp) t ht) hok))
   ·have h3 : kids.length = 3 := by
     rcases u8 with hh | hh | hh | hh
     ·exact har.l hh
     ·exact har.m hh
     ·exact har.f hh
     ·exact absurd hh b1
    obtain ⟨k0, k1, k2, rfl⟩ := three h3
    have hs6 : s = 6 := by simpa using hs
    subst hs6
    unfold bindsR
    rw [if_neg b0, if_neg b1]
    exact s53_mf hl op (decide_eq_false b0) (decide_eq_false b1) i txt ty k0 k1 k2 (by omega) (by omega) _ (fun t => lookX v k2 (nm ++ [(txtN k1, t)])) (kid 0 k0 rfl [] (by simp) (by simp))
     (fun t ht hok => kid 2 k2 rfl _ (by simp) (fun y hy => by
      simp at hy
      subst hy
      exact rt_arg (rt 0 k0 rfl [] (by simp) t ht) hok))
  rw [if_neg u8]
  have v8 := u8
  unfold bindsW at v8
  simp only [not_or] at v8
  obtain ⟨tm1, e1, l1, s1⟩ := to29_9 (op := op) (H := H ++ [NOs op i txt ty s kids, ZO]) (K29 H) hM.len hM.r10 (by simp [lits29, u0, u1, v2, u3, u4, u5, u6, u7, v8])
  rw [e1]
  have hpos : 0 < kids.length := har.z (by unfold leafW; simp [u0, u1, v2, u3, u4, u5, u6, u7])
  exact w29_9 h op i txt ty s kids hkl (by omega) (by intro e; subst e; simp at hpos) har.i har.o k54 (fun ts hts => looks_rt v hv kids 0 nm ts htk hn hts) (hM.same l1 s1)
end Go.Abs.Seat
end
section
set_option linter.unusedVariables false
set_option linter.unusedSimpArgs false
namespace Go.Abs.Seat
open Go.Proofs
def encE (v : EnvT) : List Dat := [.int .i64 v.it.k, .sl v.it.s (encTs v.it.args), .sl v.ss (v.sides.map encT)]
structure EnvH (v : EnvT) : Prop where
 it : okT v.it
 sides : ∀ t ∈ v.sides, okT t
 ss : v.sides = [] ∨ v.ss = 2
 len : v.sides.length ≤ 9223372036854775807
theorem s47 (t : KT) (hok : okT t) (H : Heap) : L 47 [.im (.agg (encT t))] H = some (.im (.bool (!rightT t 6)), H) := by
 have c33 := fun H => s33 t hok H
 unfold checkT at c33
 obtain ⟨k, s, a⟩ := t
 simp only [encT] at c33 ⊢
 rw [leq F47]
 obtain ⟨hlen, ha⟩ := enter_at (f := f47) (args := [.im (.agg [.int .i64 k, .sl s (encTs a)])]) (Nat.le_of_ble_eq_true rfl)
 have h0 := ha 0 _ rfl
 generalize enterA f47 [.im (.agg [.int .i64 k, .sl s (encTs a)])] = tm at *
 change tm.length = 6 at hlen
 have z0 : (!decide ((0 : Int) = 0)) = false := rfl
 have z20 : (!decide ((20 : Int) = 0)) = true := rfl
 cases hr : rightT (.mk k s a) 6 with
 | true =>
  rw [hr] at c33
  simp only [if_true] at c33
  simp only [f47,B0,B1,B2,List.replicate,reduceCtorEq,lenA,seval,B5,pairK,B4,stays,loadOf,endK,resA,tupA,hlen,h0,c33,z0,leave_app]
 | false =>
  rw [hr] at c33
  simp only [Bool.false_eq_true,if_false] at c33
  simp only [f47,B0,B1,B2,List.replicate,reduceCtorEq,lenA,seval,B5,pairK,B4,stays,loadOf,endK,resA,tupA,hlen,h0,c33,z20,leave_app]
def envR (v : EnvT) : Bool := (rightT v.it 6 && decide ((v.sides.length : Int) ≤ 10)) && !(v.sides.any fun t => !rightT t 6)
theorem s28 (v : EnvT) (hv : EnvH v) (H : Heap) : L 28 [.im (.agg (encE v))] H = some (.im (.bool (envR v)), H) := by
 have c47 := fun H => s47 v.it hv.it H
 have c48 := fun H => s48 v.sides v.ss hv.ss hv.len (fun t => !rightT t 6) 47 [] H (fun a ha => s47 a (hv.sides a ha) H)
 have hl : (v.sides.map encT).length = v.sides.length := List.length_map ..
 unfold envR
 obtain ⟨⟨k, s, a⟩, ss, sides⟩ := v
 simp only [encE,encT,KT.k,KT.s,KT.args] at c47 c48 hl ⊢
 rw [leq F28]
 obtain ⟨hlen, ha⟩ := enter_at (f := f28) (args := [.im (.agg [.int .i64 k, .sl s (encTs a), .sl ss (sides.map encT)])]) (Nat.le_of_ble_eq_true rfl)
 have h0 := ha 0 _ rfl
 generalize enterA f28 [.im (.agg [.int .i64 k, .sl s (encTs a), .sl ss (sides.map encT)])] = tm at *
 change tm.length = 22 at hlen
 generalize (sides.any fun t => !rightT t 6) = an at *
 cases hr : rightT (.mk k s a) 6 <;> cases hd : decide ((sides.length : Int) ≤ 10) <;>
  (simp only [hr,Bool.not_true,Bool.not_false] at c47
   simp only [f28,B0,B1,B2,List.replicate,reduceCtorEq,lenA,seval,B5,pairK,B4,stays,loadOf,endK,resA,tupA,hlen,h0,c47,c48,hl,hd,leave_app,Bool.true_and,Bool.false_and,Bool.and_false])
theorem leave_three {H M : Heap} {a b c : AV} {d d' d'' : Dat} (ha : toDat a = some d) (hb : toDat b = some d') (hc : toDat c = some d'') : leave H false (.tup [a, b, c]) (H ++ M) = (.tup [.im d, .im d', .im d''], H) := by
 unfold leave
 have e : (if (false : Bool) = true then AV.tup [a, b, c] else degrade (.tup [a, b, c])) = .tup [.im d, .im d', .im d''] := by simp [degrade, degrade1, toDat, ha, hb, hc]
 rw [e, if_pos ⟨by simp only [refsLt,refsLts,Bool.and_self], heldIn_app H M⟩, htake]
def inferX (t : NT) (v : EnvT) : KT × List Nat × Int :=
 if (showX t).2 = 0 then (if envR v = true then (match lookX v t [] with
  | .inl u => (cloneT u, [], 0)
  | .inr (p, c) => (zeroT, p, c)) else (zeroT, [], 20)) else (zeroT, [], 110)
theorem envOk {v : EnvT} (hv : EnvH v) (h : envR v = true) : EnvOk v := by
 unfold envR at h
 simp only [Bool.and_eq_true,decide_eq_true_eq,Bool.not_eq_true',List.any_eq_false] at h
 refine ⟨⟨hv.it, h.1.1⟩, fun t ht => ⟨hv.sides t ht, ?_⟩, hv.ss, by omega⟩
 have := h.2 t ht
 simpa using this
theorem fr_app {H M B : Heap} {l : Nat} {vn' vp' : AV} (f : Fr (H ++ M) B l .nils .nils vn' vp') (hl : H.length ≤ l) : ∃ X, B = H ++ X := by
 refine ⟨B.drop H.length, ?_⟩
 have hle := f.len
 rw [List.length_append] at hle
 have : B.take H.length = H := by
  apply List.ext_getElem?
  intro i
  rw [List.getElem?_take]
  split
  ·rename_i hi
   rw [f.old i (by rw [List.length_append]; omega) (by omega) (by simp [refA]) (by simp [refA]), List.getElem?_append_left hi]
  ·rename_i hi
   rw [List.getElem?_eq_none (by omega)]
 have h2 := List.take_append_drop H.length B
 rw [this] at h2
 exact h2.symm
set_option maxHeartbeats 1000000 in
theorem s10 (t : NT) (v : EnvT) (hf : fineN t) (hg : (showX t).2 = 0 → Gd 24 t ∧ tidyN t) (hv : EnvH v) (H : Heap) :
  ∃ s, L 10 [.im (.agg (encN t)), .im (.agg (encE v))] H = some (.tup [.im (.agg (encT (inferX t v).1)), .im (.sl s (rowsP (inferX t v).2.1)), .im (.int .i64 (inferX t v).2.2)], H) ∧ ((inferX t v).2.1 = [] ∨ s = 1) := by
 have c14 := fun H => s14 t hf H
 have c28 := fun H => s28 v hv H
 have hX : inferX t v = if (showX t).2 = 0 then (if envR v = true then (match lookX v t [] with
  | .inl u => (cloneT u, [], 0)
  | .inr (p, c) => (zeroT, p, c)) else (zeroT, [], 20)) else (zeroT, [], 110) := rfl
 rw [hX]
 have z0 : (!decide ((0 : Int) = 0)) = false := rfl
 have hE := encE v
 obtain ⟨op, i, txt, ⟨tk, tys, targs⟩, s, kids⟩ := t
 obtain ⟨⟨k, es, ea⟩, ss, sides⟩ := v
 have hN : encN (.mk op i txt (.mk tk tys targs) s kids) = [.str op, .int .i64 i, .str txt, .int .i64 tk, .sl tys (encTs targs), .sl s (encNs kids)] := by simp only [encN]
 have hE : encE ⟨.mk k es ea, ss, sides⟩ = [.int .i64 k, .sl es (encTs ea), .sl ss (sides.map encT)] := rfl
 by_cases hs : (showX (.mk op i txt (.mk tk tys targs) s kids)).2 = 0
 ·rw [if_pos hs]
  rw [hs] at c14
  cases he : envR ⟨.mk k es ea, ss, sides⟩ with
  | false =>
   rw [if_neg Bool.false_ne_true]
   refine ⟨0, ?_, .inl rfl⟩
   rw [he] at c28
   simp only [hN,hE] at c14 c28 ⊢
   rw [leq F10]
   obtain ⟨hlen, ha⟩ := enter_at (f := f10) (args := [.im (.agg [.str op, .int .i64 i, .str txt, .int .i64 tk, .sl tys (encTs targs), .sl s (encNs kids)]), .im (.agg [.int .i64 k, .sl es (encTs ea), .sl ss (sides.map encT)])]) (Nat.le_of_ble_eq_true rfl)
   have h0 := ha 0 _ rfl
   have h1 := ha 1 _ rfl
   generalize enterA f10 [.im (.agg [.str op, .int .i64 i, .str txt, .int .i64 tk, .sl tys (encTs targs), .sl s (encNs kids)]), .im (.agg [.int .i64 k, .sl es (encTs ea), .sl ss (sides.map encT)])] = tm at *
   change tm.length = 48 at hlen
   have hlv : ∀ M : Heap, leave H false (.tup [.agg [.im (.int .i64 0), .nils], .nils, .im (.int .i64 20)]) (H ++ M) = (.tup [.im (.agg [.int .i64 0, .sl 0 []]), .im (.sl 0 []), .im (.int .i64 20)], H) := fun M => leave_three rfl rfl rfl
   simp only [f10,B0,B1,B2,List.replicate,reduceCtorEq,lenA,seval,B5,pairK,B4,stays,loadOf,endK,resA,tupA,hlen,h0,h1,z0,c14,c28,hlv,zeroE]
   rfl
  | true =>
   rw [if_pos rfl]
   have hvo := envOk hv he
   obtain ⟨hgd, htd⟩ := hg hs
   have hlt : (H ++ [NOs op i txt (.mk tk tys targs) s kids, .obj none [[.im (.int .i64 k), .im (.sl es (encTs ea)), .im (.sl ss (sides.map encT))]], ZO, lookO ⟨.mk k es ea, ss, sides⟩ .nils .nils .nils 0])[H.length + 3]? = some (lookO ⟨.mk k es ea, ss, sides⟩ .nils .nils .nils 0) := by rw [hget 3]; rfl
   have hA : LkAt (H ++ [NOs op i txt (.mk tk tys targs) s kids, .obj none [[.im (.int .i64 k), .im (.sl es (encTs ea)), .im (.sl ss (sides.map encT))]], ZO, lookO ⟨.mk k es ea, ss, sides⟩ .nils .nils .nils 0]) (H.length + 3) ⟨.mk k es ea, ss, sides⟩ [] [] none .nils .nils :=
    ⟨⟨.nils, 0, hlt, rfl, rfl⟩, .inl ⟨rfl, rfl⟩, .inl ⟨rfl, rfl⟩, by simp [refA], by simp [refA], by simp [refA]⟩
   obtain ⟨B, vn1, vp1, t', c29, kB, fB, ht, hwt⟩ := s29 _ hvo 24 _ hgd htd [] (by simp) (by simp) [] (by simp) _ _ _ _ hA
   have hrt := fun u hu => look_rt _ hvo _ [] u htd (by simp) hu
   obtain ⟨X, rfl⟩ := fr_app fB (by omega)
   have old : ∀ j, j < 3 → X[j]? = ([NOs op i txt (.mk tk tys targs) s kids, .obj none [[.im (.int .i64 k), .im (.sl es (encTs ea)), .im (.sl ss (sides.map encT))]], ZO, lookO ⟨.mk k es ea, ss, sides⟩ .nils .nils .nils 0] : Heap)[j]? := fun j hj => by
    have := fB.old (H.length + j) (by simp; omega) (by omega) (by simp [refA]) (by simp [refA])
    rwa [hget j, hget j] at this
   have x0 := old 0 (by omega)
   have x2 := old 2 (by omega)
   simp only [List.getElem?_cons_zero,List.getElem?_cons_succ] at x0 x2
   have hXl : 4 ≤ X.length := by have := fB.len; simp at this; omega
   generalize lookX _ _ [] = r at *
   obtain ⟨va, e, ho, hfa⟩ := kB.obj
   rw [hget 3] at ho
   have hXS : ∀ o : HO, (X.set 2 o)[2]? = some o := fun o => List.getElem?_set_self (by omega)
   have ho' : ∀ o : HO, (X.set 2 o)[3]? = some _ := fun o => by rw [List.getElem?_set_ne (by decide)]; exact ho
   have lset : ∀ (a b : HO), (X.set 2 a).set 2 b = X.set 2 b := fun a b => List.set_set ..
   rw [he] at c28
   obtain ⟨tk1, ts1, ta1⟩ := t'
   cases r with
   | inr x =>
    obtain ⟨p, c⟩ := x
    obtain ⟨rfl, hc, s', rfl, hps⟩ := hfa
    have zc : (!decide (e = 0)) = true := by rw [decide_eq_false hc]; rfl
    refine ⟨s', ?_, hps⟩
    simp only [hN,hE,NOs,ZO,lookO,KT.k,KT.s,KT.args,encT] at c14 c28 c29 x0 x2 ho ho' ⊢
    rw [leq F10]
    obtain ⟨hlen, ha⟩ := enter_at (f := f10) (args := [.im (.agg [.str op, .int .i64 i, .str txt, .int .i64 tk, .sl tys (encTs targs), .sl s (encNs kids)]), .im (.agg [.int .i64 k, .sl es (encTs ea), .sl ss (sides.map encT)])]) (Nat.le_of_ble_eq_true rfl)
    have h0 := ha 0 _ rfl
    have h1 := ha 1 _ rfl
    generalize enterA f10 [.im (.agg [.str op, .int .i64 i, .str txt, .int .i64 tk, .sl tys (encTs targs), .sl s (encNs kids)]), .im (.agg [.int .i64 k, .sl es (encTs ea), .sl ss (sides.map encT)])] = tm at *
    change tm.length = 48 at hlen
    have hlv : ∀ M : Heap, leave H false (.tup [.agg [.im (.int .i64 0), .nils], .im (.sl s' (rowsP p)), .im (.int .i64 e)]) (H ++ M) = (.tup [.im (.agg [.int .i64 0, .sl 0 []]), .im (.sl s' (rowsP p)), .im (.int .i64 e)], H) := fun M => leave_three rfl rfl rfl
    simp only [f10,B0,B1,B2,List.replicate,reduceCtorEq,lenA,seval,B5,pairK,B4,stays,loadOf,endK,resA,tupA,hlen,h0,h1,z0,zc,c14,c28,c29,x0,x2,ho,ho',hXS,lset,hlv,zeroE]
   | inl u =>
    obtain ⟨rfl, rfl⟩ := hfa
    have := ht u rfl
    subst this
    refine ⟨0, ?_, .inl rfl⟩
    have hu := hrt _ rfl
    have c30 := fun H => s30 tk1 ts1 ta1 hu.1 H
    unfold checkT at c30
    rw [hu.2] at c30
    simp only [if_true] at c30
    simp only [cloneT] at c30 ⊢
    simp only [hN,hE,NOs,ZO,lookO,KT.k,KT.s,KT.args,encT] at c14 c28 c29 c30 x0 x2 ho ho' ⊢
    rw [leq F10]
    obtain ⟨hlen, ha⟩ := enter_at (f := f10) (args := [.im (.agg [.str op, .int .i64 i, .str txt, .int .i64 tk, .sl tys (encTs targs), .sl s (encNs kids)]), .im (.agg [.int .i64 k, .sl es (encTs ea), .sl ss (sides.map encT)])]) (Nat.le_of_ble_eq_true rfl)
    have h0 := ha 0 _ rfl
    have h1 := ha 1 _ rfl
    generalize enterA f10 [.im (.agg [.str op, .int .i64 i, .str txt, .int .i64 tk, .sl tys (encTs targs), .sl s (encNs kids)]), .im (.agg [.int .i64 k, .sl es (encTs ea), .sl ss (sides.map encT)])] = tm at *
    change tm.length = 48 at hlen
    have hlv : ∀ (d : List Dat) (M : Heap), leave H false (.tup [.im (.agg d), .nils, .im (.int .i64 0)]) (H ++ M) = (.tup [.im (.agg d), .im (.sl 0 []), .im (.int .i64 0)], H) := fun d M => leave_three rfl rfl rfl
    simp only [f10,B0,B1,B2,List.replicate,reduceCtorEq,lenA,seval,B5,pairK,B4,stays,loadOf,endK,resA,tupA,hlen,h0,h1,z0,c14,c28,c29,c30,x0,x2,ho,ho',hXS,lset,hlv,zeroE]
    rfl
 ·rw [if_neg hs]
  refine ⟨0, ?_, .inl rfl⟩
  have zn : (!decide ((showX (.mk op i txt (.mk tk tys targs) s kids)).2 = 0)) = true := by rw [decide_eq_false hs]; rfl
  simp only [hN,hE] at c14 c28 ⊢
  rw [leq F10]
  obtain ⟨hlen, ha⟩ := enter_at (f := f10) (args := [.im (.agg [.str op, .int .i64 i, .str txt, .int .i64 tk, .sl tys (encTs targs), .sl s (encNs kids)]), .im (.agg [.int .i64 k, .sl es (encTs ea), .sl ss (sides.map encT)])]) (Nat.le_of_ble_eq_true rfl)
  have h0 := ha 0 _ rfl
  have h1 := ha 1 _ rfl
  generalize enterA f10 [.im (.agg [.str op, .int .i64 i, .str txt, .int .i64 tk, .sl tys (encTs targs), .sl s (encNs kids)]), .im (.agg [.int .i64 k, .sl es (encTs ea), .sl ss (sides.map encT)])] = tm at *
  change tm.length = 48 at hlen
  have hlv : ∀ M : Heap, leave H false (.tup [.agg [.im (.int .i64 0), .nils], .nils, .im (.int .i64 110)]) (H ++ M) = (.tup [.im (.agg [.int .i64 0, .sl 0 []]), .im (.sl 0 []), .im (.int .i64 110)], H) := fun M => leave_three rfl rfl rfl
  simp only [f10,B0,B1,B2,List.replicate,reduceCtorEq,lenA,seval,B5,pairK,B4,stays,loadOf,endK,resA,tupA,hlen,h0,h1,zn,c14,c28,hlv,zeroE]
  rfl
end Go.Abs.Seat
end
section
set_option linter.unusedVariables false
set_option linter.unusedSimpArgs false
namespace Go.Abs.Seat
open Go.Proofs
theorem l8 (sides : List KT) (ss : Nat) (hs : sides = [] ∨ ss = 2) (hok : ∀ t ∈ sides, okT t) (hn : sides.length ≤ 9223372036854775807) (H : Heap) (a b : HO) :
  ∀ (m i : Nat), i + m = sides.length → ∀ (n : Int), 0 ≤ n → n ≤ 1000000 → ∀ (tm : List AV) (J : Heap), tm.length = 28 → tm.getD 5 undefA = .ptr (H.length + 2) 0 0 → tm.getD 18 undefA = .im (.sl ss (sides.map encT)) → tm.getD 19 undefA = .im (.int .i64 (sides.length : Int)) → tm.getD 20 undefA = .im (.int .i64 (i : Int)) →
  ∃ e tm' J', Λ c8_0 tm (H ++ a :: b :: numO n :: J) = some (e, tm', H ++ J') ∧ tm'.length = 28 ∧ ((e = .exit 0 ∧ (smallTs (sides.drop i) n 30).1 = true) ∨ (e = .ret ∧ (smallTs (sides.drop i) n 30).1 = false ∧ tm'.getD 4 undefA = .im (.bool false)))
 | 0, i, hi, n, hn0, hn1, tm, J, hlen, h5, h18, h19, h20 => by
  have e : sides.drop i = [] := by rw [List.drop_eq_nil_iff]; omega
  have hc : decide ((i : Int) < (sides.length : Int)) = false := by simp; omega
  rw [e, l8_0]
  simp only [b8_0,B0,B1,B2,List.replicate,reduceCtorEq,lenA,seval,hlen,h19,h20,hc]
  exact ⟨_, _, _, rfl, by simp only [List.length_set,hlen], .inl ⟨rfl, rfl⟩⟩
 | m + 1, i, hi, n, hn0, hn1, tm, J, hlen, h5, h18, h19, h20 => by
  have hlt : i < sides.length := by omega
  obtain ⟨w, hwi⟩ : ∃ w, sides[i]? = some w := ⟨_, List.getElem?_eq_getElem hlt⟩
  have e : sides.drop i = w :: sides.drop (i + 1) := by
   rw [List.drop_eq_getElem_cons hlt]
   congr 1
   rw [List.getElem?_eq_getElem hlt] at hwi
   exact Option.some.inj hwi
  have hss : ss = 2 := by
   rcases hs with h | h
   ·subst h; simp at hlt
   ·exact h
  subst hss
  have hc : decide ((i : Int) < (sides.length : Int)) = true := by simp; omega
  have hml : (sides.map encT).length = sides.length := List.length_map ..
  have hix := idx_nat (n := sides.length) (i := i) hlt
  have hget' : (sides.map encT)[i]? = some (encT w) := by rw [List.getElem?_map, hwi]; rfl
  have hwr := wrap_nat (i := i) (by omega)
  have hA2 : ∀ M : Heap, (H ++ a :: b :: numO n :: M)[H.length + 2]? = some (numO n) := fun M => by rw [hget 2]; rfl
  have hS2 : ∀ (M : Heap) (n' : Int), (H ++ a :: b :: numO n :: M).set (H.length + 2) (numO n') = H ++ a :: b :: numO n' :: M := fun M n' => by rw [hset 2]; rfl
  have c26 := fun M => s26 w (hok w (List.mem_of_getElem? hwi)) n 30 hn0 hn1 (by decide) (by decide) (H.length + 2) (H ++ a :: b :: numO n :: M) (hA2 M)
  have hj : (H ++ a :: b :: numO n :: J).length = H.length + 3 + J.length := by simp; omega
  have hap : ∀ o : HO, (H ++ a :: b :: numO n :: J) ++ [o] = H ++ a :: b :: numO n :: (J ++ [o]) := fun o => by simp
  have hgl : ∀ o : HO, (H ++ a :: b :: numO n :: (J ++ [o]))[H.length + 3 + J.length]? = some o := fun o => by
   rw [show H.length + 3 + J.length = H.length + (3 + J.length) by omega, hget (3 + J.length), show 3 + J.length = J.length + 3 by omega]
   simp
  have hsl : ∀ o o' : HO, (H ++ a :: b :: numO n :: (J ++ [o])).set (H.length + 3 + J.length) o' = H ++ a :: b :: numO n :: (J ++ [o']) := fun o o' => by
   rw [show H.length + 3 + J.length = H.length + (3 + J.length) by omega, hset (3 + J.length), show 3 + J.length = J.length + 3 by omega]
   simp [List.set_append_right]
  obtain ⟨wk, ws, wa⟩ := w
  have hleft := smallT_left (.mk wk ws wa) n 30 hn0
  have hst : smallTs (KT.mk wk ws wa :: sides.drop (i + 1)) n 30 = if (smallT (.mk wk ws wa) n 30).1 = true then smallTs (sides.drop (i + 1)) (smallT (.mk wk ws wa) n 30).2 30 else (false, (smallT (.mk wk ws wa) n 30).2) := rfl
  rw [e, l8_0]
  simp only [encT] at c26 hget'
  rcases Bool.eq_false_or_eq_true (smallT (.mk wk ws wa) n 30).1 with hr | hr
  rotate_left
  ·rw [if_neg (show ¬ (smallT (.mk wk ws wa) n 30).1 = true by rw [hr]; exact Bool.false_ne_true)] at hst
   rw [hst]
   simp only [hr] at c26
   simp only [b8_0,B0,B1,B2,List.replicate,reduceCtorEq,lenA,seval,hlen,h5,h18,h19,h20,hc,hml,hix,hget',hj,hap,hgl,hsl,c26,hS2]
   exact ⟨_, _, _, rfl, by simp only [List.length_set,hlen], .inr ⟨rfl, by simp only [B3,seval,hlen]⟩⟩
  ·rw [if_pos hr] at hst
   rw [hst]
   simp only [hr] at c26
   have key := l8 sides 2 hs hok hn H a b m (i + 1) (by omega) (smallT (.mk wk ws wa) n 30).2 (hleft.2.2 hr) (by omega)
   simp only [b8_0,B0,B1,B2,List.replicate,reduceCtorEq,lenA,seval,hlen,h5,h18,h19,h20,hc,hml,hix,hget',hj,hap,hgl,hsl,c26,hS2,hwr]
   refine key _ _ ?_ ?_ ?_ ?_ ?_
   all_goals simp only [B3,seval,hlen,h5,h18,h19]
def smallE (t : NT) (v : EnvT) : Bool :=
 if (fewN t 5000 60).1 = true then (if (smallT v.it (fewN t 5000 60).2 30).1 = true then (smallTs v.sides (smallT v.it (fewN t 5000 60).2 30).2 30).1 else false) else false
theorem s8 (t : NT) (v : EnvT) (hok : handN t) (hv : EnvH v) (H : Heap) : L 8 [.im (.agg (encN t)), .im (.agg (encE v))] H = some (.im (.bool (smallE t v)), H) := by
 have hX : smallE t v = if (fewN t 5000 60).1 = true then (if (smallT v.it (fewN t 5000 60).2 30).1 = true then (smallTs v.sides (smallT v.it (fewN t 5000 60).2 30).2 30).1 else false) else false := rfl
 rw [hX]
 have l1 := fewN_left t 5000 60 (by decide)
 have c25 := fun idl H => s25 t hok 5000 60 (by decide) (by decide) (by decide) (by decide) idl H
 have c26 := fun h0 h1 idl H => s26 v.it hv.it (fewN t 5000 60).2 30 h0 h1 (by decide) (by decide) idl H
 obtain ⟨op, ni, txt, ⟨tk, tys, targs⟩, s, kids⟩ := t
 obtain ⟨⟨k, es, ea⟩, ss, sides⟩ := v
 have hN : encN (.mk op ni txt (.mk tk tys targs) s kids) = [.str op, .int .i64 ni, .str txt, .int .i64 tk, .sl tys (encTs targs), .sl s (encNs kids)] := by simp only [encN]
 have hE : encE ⟨.mk k es ea, ss, sides⟩ = [.int .i64 k, .sl es (encTs ea), .sl ss (sides.map encT)] := rfl
 have hml : (sides.map encT).length = sides.length := List.length_map ..
 simp only [hN,hE,encT] at c25 c26 ⊢
 obtain ⟨a, ha⟩ : ∃ a : HO, a = .obj none [[.im (.str op), .im (.int .i64 ni), .im (.str txt), .im (.int .i64 tk), .im (.sl tys (encTs targs)), .im (.sl s (encNs kids))]] := ⟨_, rfl⟩
 obtain ⟨b, hb⟩ : ∃ b : HO, b = .obj none [[.im (.int .i64 k), .im (.sl es (encTs ea)), .im (.sl ss (sides.map encT))]] := ⟨_, rfl⟩
 have hnum : ∀ n, HO.obj none [[.im (.int .i64 n)]] = numO n := fun _ => rfl
 have c25' := c25 (H.length + 2) (H ++ [a, b, numO 5000]) (by rw [hget 2]; rfl)
 have hS : ∀ n n', (H ++ [a, b, numO n]).set (H.length + 2) (numO n') = H ++ [a, b, numO n'] := fun n n' => by rw [hset 2]; rfl
 rw [hS] at c25'
 rw [leq F8]
 obtain ⟨hlen, hx⟩ := enter_at (f := f8) (args := [.im (.agg [.str op, .int .i64 ni, .str txt, .int .i64 tk, .sl tys (encTs targs), .sl s (encNs kids)]), .im (.agg [.int .i64 k, .sl es (encTs ea), .sl ss (sides.map encT)])]) (Nat.le_of_ble_eq_true rfl)
 have h0 := hx 0 _ rfl
 have h1 := hx 1 _ rfl
 generalize enterA f8 [.im (.agg [.str op, .int .i64 ni, .str txt, .int .i64 tk, .sl tys (encTs targs), .sl s (encNs kids)]), .im (.agg [.int .i64 k, .sl es (encTs ea), .sl ss (sides.map encT)])] = tm at *
 change tm.length = 28 at hlen
 generalize fewN (.mk op ni txt (.mk tk tys targs) s kids) 5000 60 = r1 at *
 obtain ⟨b1, n1⟩ := r1
 rw [ha, hb] at c25'
 unfold numO at c25'
 cases b1 with
 | false =>
  rw [if_neg Bool.false_ne_true]
  simp only [f8,B0,B1,B2,List.replicate,reduceCtorEq,lenA,seval,B5,pairK,B4,stays,loadOf,endK,resA,tupA,hlen,h0,h1,c25',leave_app]
 | true =>
  rw [if_pos rfl]
  have c26' := c26 (l1.2.2 rfl) (by have := l1.2.1; simp at this ⊢; omega) (H.length + 2) (H ++ [a, b, numO n1]) (by rw [hget 2]; rfl)
  have l2 := smallT_left (.mk k es ea) n1 30 (l1.2.2 rfl)
  have l12 := l1.2.1
  simp only at l12
  rw [hS] at c26'
  generalize smallT (.mk k es ea) n1 30 = r2 at *
  obtain ⟨b2, n2⟩ := r2
  rw [ha, hb] at c26'
  unfold numO at c26'
  cases b2 with
  | false =>
   rw [if_neg Bool.false_ne_true]
   simp only [f8,B0,B1,B2,List.replicate,reduceCtorEq,lenA,seval,B5,pairK,B4,stays,loadOf,endK,resA,tupA,hlen,h0,h1,c25',c26',leave_app]
  | true =>
   rw [if_pos rfl]
   have key := fun tm => l8 sides ss hv.ss hv.sides hv.len H a b sides.length 0 (by omega) n2 (l2.2.2 rfl) (by have := l2.2.1; simp only at this; omega) tm []
   rw [ha, hb] at key
   unfold numO at key
   rw [List.drop_zero] at key
   have key := fun tm h1 h2 h3 h4 h5 => (show ∃ e tm' H', Λ c8_0 tm _ = some (e, tm', H') ∧ (tm'.length = 28 ∧ (∃ J', H' = H ++ J') ∧ ((e = .exit 0 ∧ (smallTs sides n2 30).1 = true) ∨ (e = .ret ∧ (smallTs sides n2 30).1 = false ∧ tm'.getD 4 undefA = .im (.bool false)))) from by
    obtain ⟨e, tm', J', x1, x2, x3⟩ := key tm h1 h2 h3 h4 h5
    exact ⟨e, tm', _, x1, x2, ⟨J', rfl⟩, x3⟩)
   simp only [f8,e8_0,B0,B1,B2,List.replicate,reduceCtorEq,lenA,seval,B5,pairK,B4,stays,loadOf,endK,resA,tupA,hlen,h0,h1,c25',c26',hml]
   generalize hr : thenL (Λ c8_0 _ _) _ = r
   refine Exists.elim (thenL_inv hr (key _ (by simp only [List.length_set,hlen]) (by simp only [B3,seval,hlen]) (by simp only [B3,seval,hlen]) (by simp only [B3,seval,hlen]) (by simp only [B3,seval,hlen]; first | done | rfl))) ?_
   clear hr key
   rintro e' ⟨tm', H', ⟨hl', ⟨J', rfl⟩, hm⟩, rfl⟩
   rcases hm with ⟨rfl, hz⟩ | ⟨rfl, hz, g4⟩
   ·rw [hz]
    simp only [B0,B1,B2,List.replicate,reduceCtorEq,lenA,seval,B5,pairK,B4,stays,loadOf,endK,resA,tupA,hl',leave_app]
   ·rw [hz]
    simp only [B0,B1,B2,List.replicate,reduceCtorEq,lenA,seval,B5,pairK,B4,stays,loadOf,endK,resA,tupA,hl',g4,leave_app]
end Go.Abs.Seat
end
