/- Part 5 of what the claim rests on. -/
import Derived.Lib.LaidTab
import Derived.Lib.AppendIntMem
import Derived.Test.YtobnhbbcegeljaaDoorProg
import Derived.Lib.Builder
import Derived.Lib.Bytealg
import Derived.Lib.UnsafeStr
import Derived.Laws.Externs
import Derived.WalkKit
import Derived.Test.YtobnhbbcegeljaaDoorBackA
import Derived.Test.YtobnhbbcegeljaaDoorBackB
import Derived.Test.YtobnhbbcegeljaaDoorBackC
import Derived.Test.YtobnhbbcegeljaaDoorBackD
section
set_option linter.unusedVariables false
set_option linter.unusedSimpArgs false
namespace Go.Proofs
open Go.RowKit
set_option maxHeartbeats 1000000 in
set_option maxRecDepth 100000 in
theorem Tryd.cc_used (b : Nat) (w : World) (h0 : w.cell? ⟨b, 0, none⟩ = some (.pointer (some ⟨b, 0, none⟩))) :
  Calls Tryd.prog 60 #[.pointer (some ⟨b, 0, none⟩)] w fun e w' => e = .returned (.tuple #[]) ∧ w' = w := by
 obtain ⟨j, hj, hjs⟩ := Option.map_eq_some_iff.1 (show (Tryd.prog.info? 64).map (·.size) = some 2 by kernel_rfl)
 go_enter Tryd.func60, Tryd.ntmps60
 go_wp2
 rw [Lib.run_neq_ptr_same w _ Tryd.underlying61 hj]
 go_wp2
 go_end0
 exact ⟨rfl, rfl⟩
set_option maxHeartbeats 1000000 in
set_option maxRecDepth 100000 in
theorem Tryd.cc_fresh (b e cells : Nat) (w : World) (hlies : liesAt Tryd.prog Tryd.prog.depth e (cells / Tryd.prog.cellsOf e) 0 64 1 = true) (hpos : 0 < cells) (h0 : w.cell? ⟨b, 0, none⟩ = some (.pointer none)) (hsh : w.shape? b = some (e, cells)) (hfz : w.frozen? ⟨b, 0, none⟩ = false) :
  Calls Tryd.prog 60 #[.pointer (some ⟨b, 0, none⟩)] w fun e w' => e = .returned (.tuple #[]) ∧ w' = w.setCell ⟨b, 0, none⟩ (.pointer (some ⟨b, 0, none⟩)) := by
 obtain ⟨j, hj, hjs⟩ := Option.map_eq_some_iff.1 (show (Tryd.prog.info? 64).map (·.size) = some 2 by kernel_rfl)
 go_enter Tryd.func60, Tryd.ntmps60
 go_wp2
 rw [Lib.run_to_unsafe w ⟨b, 0, none⟩ Tryd.underlying61 Tryd.underlying112 hj (by rw [hjs]; decide) hsh hpos]
 simp only [Result.andThen]
 rw [Oper.upon_value]
 go_wp2
 rw [run_callFunc_extern Tryd.func72 (by kernel_rfl) (by kernel_rfl) (by kernel_rfl) (e := Extern.AbiNoEscape.same) (by kernel_rfl)]
 rw [Lib.run_noEscape]
 simp only [Result.andThen]
 rw [Oper.upon_value]
 go_wp2
 rw [Lib.run_from_unsafe w ⟨b, 0, none⟩ Tryd.underlying112 Tryd.underlying61 hj hsh hlies]
 simp only [Result.andThen]
 rw [Oper.upon_value]
 go_wp2
 go_end0
 exact ⟨rfl, rfl⟩
theorem liesAt_bytes_at {P : Program} {e : TypeId} (hc : P.cellsOf e = 1) (count off n : Nat) (hn : off + n ≤ count) : liesAt P P.depth e count off e n = true := by
 have hd : P.depth = (2 * (P.types.size + Made.depth) + 1) + 1 := rfl
 rw [hd]
 simp only [liesAt,Bool.or_eq_true]
 left
 rw [hd]
 simp [rowAt, hc, hn, sameLayout, Nat.mod_one]
theorem run_text_at {P : Program} (w : World) (pt it ty e : TypeId) (hp : P.underlying pt = some (.pointer e)) (hc : P.cellsOf e = 1) (g o cells : Nat) (hsh : w.shape? g = some (e, cells)) (l : List UInt8) (h0 : l ≠ []) (hn : o + l.length ≤ cells) (h63 : l.length ≤ 9223372036854775807)
  (hcell : ∀ j x, l[j]? = some x → w.cell? ((⟨g, o, none⟩ : Addr).add j) = some (.int .u8 x.toNat)) :
  (Builtin.unsafeString_ #[pt, it] ty #[.pointer (some ⟨g, o, none⟩), .int .i64 l.length]).run P w = .ok (.string ⟨l.toArray⟩) (w.freeze ⟨g, o, none⟩ l.length) := by
 have hl : l.length ≠ 0 := by simpa using h0
 have hlb := Lib.run_loadBytes (P := P) w l ⟨g, o, none⟩ .empty hcell
 have hlies := liesAt_bytes_at (P := P) hc (cells / P.cellsOf e) o l.length (by rw [hc]; simpa using hn)
 have h63' : ¬ (9223372036854775807 : Int) < (l.length : Int) := by omega
 conv in (Builtin.unsafeString_ _ _ _) => delta Builtin.unsafeString_; whnf
 have hmax : IntKind.i64.max = 9223372036854775807 := rfl
 have hneg : ¬ (l.length : Int) < 0 := by omega
 generalize IntKind.i64.max.decLt (l.length : Int) = dc
 cases dc with
 | isTrue h => rw [hmax] at h; exact absurd h h63'
 | isFalse h =>
  simp [hl, variablesAt, hsh, elemOf, run_underlying hp, hlies, hlb]
set_option maxHeartbeats 1000000 in
set_option maxRecDepth 100000 in
theorem Tryd.text (b g o c cells : Nat) (l : List UInt8) (w : World) (hc1 : w.cell? ⟨b, 1, none⟩ = some (.slice (some ⟨g, o, none⟩) l.length c)) (h0 : l ≠ []) (hlc : l.length ≤ c) (hmax : l.length ≤ 2 ^ 62) (hsh : w.shape? g = some (5, cells)) (hfit : o + l.length ≤ cells)
  (hcell : ∀ j x, l[j]? = some x → w.cell? ⟨g, o + j, none⟩ = some (.int .u8 x.toNat)) :
  Calls Tryd.prog 26 #[.pointer (some ⟨b, 0, none⟩)] w fun e w' => e = .returned (.string ⟨l.toArray⟩) ∧ w' = w.drew.freeze ⟨g, o, none⟩ l.length := by
 have hl : l.length ≠ 0 := by simpa using h0
 have c1 : w.drew.cell? ⟨b, 1, none⟩ = some (.slice (some ⟨g, o, none⟩) l.length c) := hc1
 have hSD : (Builtin.unsafeSliceData_ #[62] 94 #[.slice (some ⟨g, o, none⟩) l.length c]).run Tryd.prog w.drew = .ok (.pointer (some ⟨g, o, none⟩)) w.drew :=
  Lib.run_unsafeSliceData_row _ _ _ _ _ _ (by omega)
 have hUS : (Builtin.unsafeString_ #[94, 3] 9 #[.pointer (some ⟨g, o, none⟩), .int .i64 l.length]).run Tryd.prog w.drew = .ok (.string ⟨l.toArray⟩) (w.drew.freeze ⟨g, o, none⟩ l.length) := by
  refine run_text_at w.drew 94 3 9 5 Tryd.underlying94 (by kernel_rfl) g o cells hsh l h0 hfit (by omega) fun j x hx => ?_
  have e : ((⟨g, o, none⟩ : Addr).add j) = ⟨g, o + j, none⟩ := by
   unfold Addr.add
   split <;> simp_all
  rw [e]
  exact hcell j x hx
 go_enter Tryd.func26, Tryd.ntmps26
 go_wp2
 go_region
 all_goals (go_wp2; go_ret; exact ⟨rfl, rfl⟩)
def Tryd.okB (ty : TypeId × Nat) : Bool := ty == (64, 2) || ty == (66, 3)
open Go.Abs in
theorem Tryd.emb : Emb Tryd.prog 60 26 Tryd.okB 5 where
 ecc := ⟨_, _, Tryd.func60, by kernel_rfl, rfl⟩
 est := ⟨_, _, Tryd.func26, by kernel_rfl, rfl⟩
 used := Tryd.cc_used
 fresh := fun b ty w hok h0 hsh hfz => by
  have h : ty = (64, 2) ∨ ty = (66, 3) := by simpa [Tryd.okB] using hok
  rcases h with rfl | rfl
  ·exact Tryd.cc_fresh b 64 2 w (by kernel_rfl) (by decide) h0 hsh hfz
  ·exact Tryd.cc_fresh b 66 3 w (by kernel_rfl) (by decide) h0 hsh hfz
 text := Tryd.text
set_option maxHeartbeats 1000000 in
set_option maxRecDepth 100000 in
theorem Tryd.idx_walk (s : ByteArray) (c : Int) (w : World) :
  Calls Tryd.prog 80 #[.string s, .int .u8 c] w fun e w' => e = .returned (.int .i64 (Lib.indexByte s.data.toList c.toNat.toUInt8)) ∧ w' = w := by
 go_enter Tryd.func80, Tryd.ntmps80
 go_wp2
 rw [run_callFunc_extern Tryd.func97 (by kernel_rfl) (by kernel_rfl) (by kernel_rfl) (e := Extern.BytealgIndexByte.indexByte) (by kernel_rfl), Lib.run_indexByteString]
 simp only [Result.andThen]
 rw [Oper.upon_value]
 go_wp2
 go_ret
 exact ⟨rfl, rfl⟩
open Go.Abs in
theorem Tryd.idxs : Idxs Tryd.prog 80 where
 enters := ⟨_, _, Tryd.func80, by kernel_rfl, rfl⟩
 idx := Tryd.idx_walk
def Tryd.tab (w : World) : Prop := Lib.TabIs Tryd.prog w "internal/strconv.uint64pow10" .u64 Lib.pow10Tab
open Go.Abs in
theorem Tryd.itoas : Itoas Tryd.prog 45 Tryd.tab where
 enters := ⟨_, _, Tryd.func45, by kernel_rfl, rfl⟩
 itoa n w h0 h1 ht := (Tryd.strconv_Itoa n h0 h1 w ht).mono fun e w' ⟨he, k, os, hw⟩ => ⟨he, by
  subst hw
  exact ⟨rfl, rfl, rfl, Lib.size_grow w k os, fun j hj => Lib.heap_grow_old w k os j hj⟩⟩
open Go.Abs in
theorem Tryd.reps : Reps Tryd.prog 67 where
 enters := ⟨_, _, Tryd.func67, by kernel_rfl, rfl⟩
 rep s c w hc hl := Tryd.strings_Repeat s c w hc hl
open Go.Abs in
theorem Tryd.known (B : Low) (hB : B.ok = Tryd.tab) : Sound Tryd.prog B (itoaO 45 (repO 67 (idxO 80 (strO 60 26 Tryd.okB 5 fun _ _ _ => none)))) :=
 itoaO_sound (fun w h => by rw [← hB]; exact h) Tryd.itoas (repO_sound Tryd.reps (idxO_sound Tryd.idxs (strO_sound Tryd.emb fun _ _ _ _ _ h => by simp at h)))
theorem Tryd.tab_keep {W : World} (h0 : Tryd.tab W) (w w' : World) (h : ∀ k, k < W.heap.size → w'.heap[k]? = w.heap[k]?) (ht : Tryd.tab w) : Tryd.tab w' := by
 unfold Tryd.tab Lib.TabIs World.var? at *
 cases hg : Tryd.prog.globalNamed "internal/strconv.uint64pow10" with
 | none => simp [hg] at h0
 | some g =>
  simp only [hg,Option.bind_some] at h0 ht ⊢
  have hlt : g < W.heap.size := by
   rcases Nat.lt_or_ge g W.heap.size with h' | h'
   ·exact h'
   ·rw [Array.getElem?_eq_none h'] at h0; simp at h0
  rw [h g hlt]
  exact ht
end Go.Proofs
end
section
set_option linter.unusedVariables false
set_option linter.unusedSimpArgs false
namespace Go.Abs
theorem B0 : (((((type_of% @List.length_cons.{0} ∧ (type_of% @List.length_nil.{0} ∧ type_of% @List.cons_append.{0})) ∧ (type_of% @List.nil_append.{0} ∧ (type_of% @List.append_nil.{0} ∧ type_of% @List.append_assoc.{0}))) ∧ ((type_of% @gs_same ∧ (type_of% @gs_ne ∧ type_of% @gq_same)) ∧ ((type_of% @gq_ne ∧ type_of% @List.length_set.{0}) ∧ (type_of% @List.map_cons.{0, 0} ∧ type_of% @List.map_nil.{0, 0})))) ∧ (((type_of% @List.all_cons.{0} ∧ (type_of% @List.all_nil.{0} ∧ type_of% @Bool.and_true)) ∧ ((type_of% @Bool.and_self ∧ type_of% @if_true.{1}) ∧ (type_of% @ite_true.{1} ∧ type_of% @ite_false.{1}))) ∧ ((type_of% @hget ∧ (type_of% @hget0 ∧ type_of% @hset)) ∧ ((type_of% @hset0 ∧ type_of% @List.getElem?_cons_zero.{0}) ∧ (type_of% @List.getElem?_cons_succ.{0} ∧ type_of% @List.set_cons_zero.{0}))))) ∧ ((((type_of% @List.set_cons_succ.{0} ∧ (type_of% @Nat.add_zero ∧ type_of% @Nat.zero_add)) ∧ (type_of% @Nat.le_refl ∧ (type_of% @and_self ∧ type_of% @and_true))) ∧ ((type_of% @true_and ∧ (type_of% @List.drop_zero.{0} ∧ type_of% @List.drop_succ_cons.{0})) ∧ ((type_of% @List.take_succ_cons.{0} ∧ type_of% @List.take_zero.{0}) ∧ (type_of% @List.length_append.{0} ∧ type_of% @Bool.false_eq_true)))) ∧ (((type_of% @if_false.{1} ∧ (type_of% @List.take_nil.{0} ∧ type_of% @Nat.zero_ne_one)) ∧ ((type_of% @Nat.one_ne_zero ∧ type_of% @not_false_eq_true) ∧ (type_of% @ne_eq.{1} ∧ type_of% @Nat.succ_ne_self))) ∧ ((type_of% @decide_true ∧ (type_of% @decide_false ∧ type_of% @beq_self_eq_true.{0})) ∧ ((type_of% @beq_true ∧ type_of% @beq_false) ∧ (type_of% @Bool.not_true ∧ type_of% @Bool.not_false)))))) :=
 ⟨⟨⟨⟨⟨@List.length_cons.{0}, ⟨@List.length_nil.{0}, @List.cons_append.{0}⟩⟩, ⟨@List.nil_append.{0}, ⟨@List.append_nil.{0}, @List.append_assoc.{0}⟩⟩⟩, ⟨⟨@gs_same, ⟨@gs_ne, @gq_same⟩⟩, ⟨⟨@gq_ne, @List.length_set.{0}⟩, ⟨@List.map_cons.{0, 0}, @List.map_nil.{0, 0}⟩⟩⟩⟩, ⟨⟨⟨@List.all_cons.{0}, ⟨@List.all_nil.{0}, @Bool.and_true⟩⟩, ⟨⟨@Bool.and_self, @if_true.{1}⟩, ⟨@ite_true.{1}, @ite_false.{1}⟩⟩⟩, ⟨⟨@hget, ⟨@hget0, @hset⟩⟩, ⟨⟨@hset0, @List.getElem?_cons_zero.{0}⟩, ⟨@List.getElem?_cons_succ.{0}, @List.set_cons_zero.{0}⟩⟩⟩⟩⟩, ⟨⟨⟨⟨@List.set_cons_succ.{0}, ⟨@Nat.add_zero, @Nat.zero_add⟩⟩, ⟨@Nat.le_refl, ⟨@and_self, @and_true⟩⟩⟩, ⟨⟨@true_and, ⟨@List.drop_zero.{0}, @List.drop_succ_cons.{0}⟩⟩, ⟨⟨@List.take_succ_cons.{0}, @List.take_zero.{0}⟩, ⟨@List.length_append.{0}, @Bool.false_eq_true⟩⟩⟩⟩, ⟨⟨⟨@if_false.{1}, ⟨@List.take_nil.{0}, @Nat.zero_ne_one⟩⟩, ⟨⟨@Nat.one_ne_zero, @not_false_eq_true⟩, ⟨@ne_eq.{1}, @Nat.succ_ne_self⟩⟩⟩, ⟨⟨@decide_true, ⟨@decide_false, @beq_self_eq_true.{0}⟩⟩, ⟨⟨@beq_true, @beq_false⟩, ⟨@Bool.not_true, @Bool.not_false⟩⟩⟩⟩⟩⟩
theorem B1 : ((((((type_of% @x_seq ∧ type_of% @x_block) ∧ (type_of% @x_skip ∧ type_of% @x_label)) ∧ ((type_of% @x_cond ∧ type_of% @x_exit) ∧ (type_of% @x_goto ∧ (type_of% @x_ret ∧ type_of% @k_normal)))) ∧ (((type_of% @k_exit ∧ type_of% @k_goto) ∧ (type_of% @k_ret ∧ (type_of% @b_normal ∧ type_of% @b_exit))) ∧ ((type_of% @b_goto ∧ type_of% @b_ret) ∧ (type_of% @b_lss ∧ (type_of% @b_gtr ∧ type_of% @b_leq))))) ∧ ((((type_of% @b_geq ∧ type_of% @b_eql) ∧ (type_of% @b_neq ∧ (type_of% @b_add ∧ type_of% @b_sub))) ∧ ((type_of% @b_mul ∧ type_of% @s_eql) ∧ (type_of% @s_neq ∧ (type_of% @y_ops ∧ type_of% @y_nil)))) ∧ (((type_of% @y_cons ∧ type_of% @y_guard) ∧ (type_of% @y_some ∧ (type_of% @y_drop ∧ type_of% @y_do))) ∧ ((type_of% @y_not ∧ type_of% @y_not0) ∧ (type_of% @c_call ∧ (type_of% @c_clo ∧ type_of% @c_move)))))) ∧ (((((type_of% @c_pick ∧ type_of% @c_alloc) ∧ (type_of% @c_box ∧ (type_of% @c_build ∧ type_of% @c_bslice))) ∧ ((type_of% @c_load ∧ type_of% @c_store) ∧ (type_of% @c_nilCheck ∧ (type_of% @c_bin ∧ type_of% @c_binB)))) ∧ (((type_of% @c_un ∧ type_of% @c_i2i) ∧ (type_of% @c_i2f ∧ (type_of% @c_f2i ∧ type_of% @c_s2b))) ∧ ((type_of% @c_b2s ∧ type_of% @c_strId) ∧ (type_of% @c_i2s ∧ (type_of% @c_rangeS ∧ type_of% @c_nextS))))) ∧ ((((type_of% @c_mkfunc ∧ type_of% @c_mkslice) ∧ (type_of% @c_slice ∧ (type_of% @c_sliceStr ∧ type_of% @c_fieldAddr))) ∧ ((type_of% @c_field ∧ type_of% @c_indexSl) ∧ (type_of% @c_indexArr ∧ (type_of% @c_elemArr ∧ type_of% @c_indexStr)))) ∧ (((type_of% @c_extract ∧ type_of% @c_lenStr) ∧ (type_of% @c_lenSl ∧ (type_of% @c_append ∧ type_of% @c_real))) ∧ ((type_of% @c_imag ∧ type_of% @c_complex) ∧ (type_of% @c_min ∧ (type_of% @c_max ∧ type_of% @c_clear))))))) :=
 ⟨⟨⟨⟨⟨⟨@x_seq, @x_block⟩, ⟨@x_skip, @x_label⟩⟩, ⟨⟨@x_cond, @x_exit⟩, ⟨@x_goto, ⟨@x_ret, @k_normal⟩⟩⟩⟩, ⟨⟨⟨@k_exit, @k_goto⟩, ⟨@k_ret, ⟨@b_normal, @b_exit⟩⟩⟩, ⟨⟨@b_goto, @b_ret⟩, ⟨@b_lss, ⟨@b_gtr, @b_leq⟩⟩⟩⟩⟩, ⟨⟨⟨⟨@b_geq, @b_eql⟩, ⟨@b_neq, ⟨@b_add, @b_sub⟩⟩⟩, ⟨⟨@b_mul, @s_eql⟩, ⟨@s_neq, ⟨@y_ops, @y_nil⟩⟩⟩⟩, ⟨⟨⟨@y_cons, @y_guard⟩, ⟨@y_some, ⟨@y_drop, @y_do⟩⟩⟩, ⟨⟨@y_not, @y_not0⟩, ⟨@c_call, ⟨@c_clo, @c_move⟩⟩⟩⟩⟩⟩, ⟨⟨⟨⟨⟨@c_pick, @c_alloc⟩, ⟨@c_box, ⟨@c_build, @c_bslice⟩⟩⟩, ⟨⟨@c_load, @c_store⟩, ⟨@c_nilCheck, ⟨@c_bin, @c_binB⟩⟩⟩⟩, ⟨⟨⟨@c_un, @c_i2i⟩, ⟨@c_i2f, ⟨@c_f2i, @c_s2b⟩⟩⟩, ⟨⟨@c_b2s, @c_strId⟩, ⟨@c_i2s, ⟨@c_rangeS, @c_nextS⟩⟩⟩⟩⟩, ⟨⟨⟨⟨@c_mkfunc, @c_mkslice⟩, ⟨@c_slice, ⟨@c_sliceStr, @c_fieldAddr⟩⟩⟩, ⟨⟨@c_field, @c_indexSl⟩, ⟨@c_indexArr, ⟨@c_elemArr, @c_indexStr⟩⟩⟩⟩, ⟨⟨⟨@c_extract, @c_lenStr⟩, ⟨@c_lenSl, ⟨@c_append, @c_real⟩⟩⟩, ⟨⟨@c_imag, @c_complex⟩, ⟨@c_min, ⟨@c_max, @c_clear⟩⟩⟩⟩⟩⟩⟩
theorem B2 : ((((((type_of% @wantedA.eq_1 ∧ type_of% @wantedA.eq_2) ∧ (type_of% @aop.eq_1 ∧ (type_of% @aop.eq_2 ∧ type_of% @aop.eq_3))) ∧ ((type_of% @aop.eq_4 ∧ (type_of% @aop.eq_5 ∧ type_of% @aop.eq_6)) ∧ (type_of% @aop.eq_7 ∧ (type_of% @aop.eq_8 ∧ type_of% @aop.eq_9)))) ∧ (((type_of% @aop.eq_10 ∧ (type_of% @aop.eq_11 ∧ type_of% @aop.eq_12)) ∧ (type_of% @aop.eq_13 ∧ (type_of% @aop.eq_14 ∧ type_of% @aop.eq_15))) ∧ ((type_of% @aop.eq_16 ∧ (type_of% @aop.eq_17 ∧ type_of% @aop.eq_18)) ∧ (type_of% @aop.eq_19 ∧ (type_of% @aop.eq_20 ∧ type_of% @aop.eq_21))))) ∧ ((((type_of% @aop.eq_22 ∧ type_of% @aop.eq_23) ∧ (type_of% @aop.eq_24 ∧ (type_of% @aop.eq_25 ∧ type_of% @aop.eq_26))) ∧ ((type_of% @aop.eq_27 ∧ (type_of% @aop.eq_28 ∧ type_of% @aop.eq_29)) ∧ (type_of% @aop.eq_30 ∧ (type_of% @aop.eq_31 ∧ type_of% @aop.eq_32)))) ∧ (((type_of% @aop.eq_33 ∧ (type_of% @aop.eq_34 ∧ type_of% @aop.eq_35)) ∧ (type_of% @aop.eq_36 ∧ (type_of% @aop.eq_37 ∧ type_of% @aop.eq_38))) ∧ ((type_of% @aop.eq_39 ∧ (type_of% @aop.eq_40 ∧ type_of% @aop.eq_41)) ∧ (type_of% @aop.eq_42 ∧ (type_of% @aop.eq_43 ∧ type_of% @aop.eq_44)))))) ∧ (((((type_of% @ev.eq_1 ∧ type_of% @ev.eq_2) ∧ (type_of% @putA.eq_1 ∧ (type_of% @putA.eq_2 ∧ type_of% @cellsOf.eq_1))) ∧ ((type_of% @cellsOf.eq_2 ∧ (type_of% @cellsOf.eq_3 ∧ type_of% @cellOk.eq_1)) ∧ (type_of% @cellOk.eq_2 ∧ (type_of% @cellOk.eq_3 ∧ type_of% @cellOk.eq_4)))) ∧ (((type_of% @cellOk.eq_5 ∧ (type_of% @boxTy.eq_1 ∧ type_of% @boxTy.eq_2)) ∧ (type_of% @loadAt.eq_1 ∧ (type_of% @loadAt.eq_2 ∧ type_of% @loadAt.eq_3))) ∧ ((type_of% @loadAt.eq_4 ∧ (type_of% @storeAt.eq_1 ∧ type_of% @storeAt.eq_2)) ∧ (type_of% @setAt.eq_1 ∧ (type_of% @setAt.eq_2 ∧ type_of% @mkAgg.eq_1))))) ∧ ((((type_of% @toIms.eq_1 ∧ type_of% @toIms.eq_2) ∧ (type_of% @toIms.eq_3 ∧ (type_of% @binBool.eq_1 ∧ type_of% @binBool.eq_2))) ∧ ((type_of% @binBool.eq_3 ∧ (type_of% @binBool.eq_4 ∧ type_of% @unA.eq_1)) ∧ (type_of% @unA.eq_2 ∧ (type_of% @unA.eq_3 ∧ type_of% @unA.eq_4)))) ∧ (((type_of% @unA.eq_5 ∧ (type_of% @unA.eq_6 ∧ type_of% @unA.eq_7)) ∧ (type_of% @unA.eq_8 ∧ (type_of% @unA.eq_9 ∧ type_of% @unA.eq_10))) ∧ ((type_of% @partA.eq_1 ∧ (type_of% @partA.eq_2 ∧ type_of% @fillA.eq_1)) ∧ (type_of% @fillA.eq_2 ∧ (type_of% @fillE.eq_1 ∧ type_of% @fillE.eq_2))))))) :=
 ⟨⟨⟨⟨⟨⟨@wantedA.eq_1, @wantedA.eq_2⟩, ⟨@aop.eq_1, ⟨@aop.eq_2, @aop.eq_3⟩⟩⟩, ⟨⟨@aop.eq_4, ⟨@aop.eq_5, @aop.eq_6⟩⟩, ⟨@aop.eq_7, ⟨@aop.eq_8, @aop.eq_9⟩⟩⟩⟩, ⟨⟨⟨@aop.eq_10, ⟨@aop.eq_11, @aop.eq_12⟩⟩, ⟨@aop.eq_13, ⟨@aop.eq_14, @aop.eq_15⟩⟩⟩, ⟨⟨@aop.eq_16, ⟨@aop.eq_17, @aop.eq_18⟩⟩, ⟨@aop.eq_19, ⟨@aop.eq_20, @aop.eq_21⟩⟩⟩⟩⟩, ⟨⟨⟨⟨@aop.eq_22, @aop.eq_23⟩, ⟨@aop.eq_24, ⟨@aop.eq_25, @aop.eq_26⟩⟩⟩, ⟨⟨@aop.eq_27, ⟨@aop.eq_28, @aop.eq_29⟩⟩, ⟨@aop.eq_30, ⟨@aop.eq_31, @aop.eq_32⟩⟩⟩⟩, ⟨⟨⟨@aop.eq_33, ⟨@aop.eq_34, @aop.eq_35⟩⟩, ⟨@aop.eq_36, ⟨@aop.eq_37, @aop.eq_38⟩⟩⟩, ⟨⟨@aop.eq_39, ⟨@aop.eq_40, @aop.eq_41⟩⟩, ⟨@aop.eq_42, ⟨@aop.eq_43, @aop.eq_44⟩⟩⟩⟩⟩⟩, ⟨⟨⟨⟨⟨@ev.eq_1, @ev.eq_2⟩, ⟨@putA.eq_1, ⟨@putA.eq_2, @cellsOf.eq_1⟩⟩⟩, ⟨⟨@cellsOf.eq_2, ⟨@cellsOf.eq_3, @cellOk.eq_1⟩⟩, ⟨@cellOk.eq_2, ⟨@cellOk.eq_3, @cellOk.eq_4⟩⟩⟩⟩, ⟨⟨⟨@cellOk.eq_5, ⟨@boxTy.eq_1, @boxTy.eq_2⟩⟩, ⟨@loadAt.eq_1, ⟨@loadAt.eq_2, @loadAt.eq_3⟩⟩⟩, ⟨⟨@loadAt.eq_4, ⟨@storeAt.eq_1, @storeAt.eq_2⟩⟩, ⟨@setAt.eq_1, ⟨@setAt.eq_2, @mkAgg.eq_1⟩⟩⟩⟩⟩, ⟨⟨⟨⟨@toIms.eq_1, @toIms.eq_2⟩, ⟨@toIms.eq_3, ⟨@binBool.eq_1, @binBool.eq_2⟩⟩⟩, ⟨⟨@binBool.eq_3, ⟨@binBool.eq_4, @unA.eq_1⟩⟩, ⟨@unA.eq_2, ⟨@unA.eq_3, @unA.eq_4⟩⟩⟩⟩, ⟨⟨⟨@unA.eq_5, ⟨@unA.eq_6, @unA.eq_7⟩⟩, ⟨@unA.eq_8, ⟨@unA.eq_9, @unA.eq_10⟩⟩⟩, ⟨⟨@partA.eq_1, ⟨@partA.eq_2, @fillA.eq_1⟩⟩, ⟨@fillA.eq_2, ⟨@fillE.eq_1, @fillE.eq_2⟩⟩⟩⟩⟩⟩⟩
theorem B3 : ((type_of% @gs_same ∧ type_of% @gs_ne) ∧ (type_of% @List.length_set.{0} ∧ type_of% @not_false_eq_true)) :=
 ⟨⟨@gs_same, @gs_ne⟩, ⟨@List.length_set.{0}, @not_false_eq_true⟩⟩
end Go.Abs
end
section
set_option linter.unusedVariables false
set_option linter.unusedSimpArgs false
namespace Go.Abs.Seat
open Go.Proofs
variable {R : Type} (Φ : Oracle) (Λ' : ACode → List AV → Heap → Option Out) (tm : List AV) (H : Heap) (K : AEx → List AV → Heap → Option R)
def no : FuncId → Bool := fun k => k == 26 || k == 60 || k == 80 || k == 45 || k == 67
def pol : FuncId → Bool × Bool := fun f => (f == 76, f == 76 || f == 107)
noncomputable def F : FuncId → Option AFunc := compF Tryd.prog no pol
abbrev bld : Oracle := itoaO 45 (repO 67 (idxO 80 (strO 60 26 Tryd.okB 5 fun _ _ _ => none)))
noncomputable def L : Oracle := Lim bld F
noncomputable def Λ : ACode → List AV → Heap → Option Out := execL bld F
theorem leq {f : FuncId} {af : AFunc} (hf : F f = some af) (args : List AV) (H : Heap) : L f args H = exec0 L Λ af.code (enterA af args) H (endK af H) := lim_eq hf args H
def f3 : AFunc := ⟨76,[(2,none)],(.seq (.ops [⟨some 2,.move (.c (.im (.bool false))),none⟩] []) (.seq (.ops [⟨some 10,.move (.t 0),none⟩,⟨some 11,.call (.c (.clo 9 [])) [(.t 10)],none⟩,⟨some 9,.move (.t 11),none⟩,⟨some 12,.extract 0 (.t 9),none⟩,⟨some 13,.extract 1 (.t 9),none⟩,⟨some 14,.extract 2 (.t 9),none⟩,⟨some 3,.alloc none [(.im (.str [])),(.im (.int .i64 0)),(.im (.str [])),(.im (.int .i64 0)),.nils,.nils],none⟩,⟨none,.store 6 (.t 3) (.t 12),none⟩,⟨some 4,.move (.t 13),none⟩,⟨some 5,.move (.t 14),none⟩] []) (.seq (.seq (.ops [⟨some 15,.move (.t 0),none⟩,⟨some 16,.lenStr (.t 15),none⟩,⟨some 17,.bin .gtr (.t 16) (.c (.im (.int .i64 4096))),none⟩] []) (.cond (.t 17) (.seq (.ops [⟨some 18,.move (.t 5),none⟩,⟨some 19,.bin .eql (.t 18) (.c (.im (.int .i64 42))),none⟩,⟨some 20,.move (.t 19),none⟩,⟨some 21,.move (.t 4),some (20,true)⟩,⟨some 22,.bin .eql (.t 21) (.c (.im (.int .i64 0))),some (20,true)⟩,⟨some 23,.pick (.t 20) (.t 22) (.c (.im (.bool false))),none⟩,⟨some 24,.move (.t 23),none⟩,⟨some 25,.fieldAddr 0 (.t 3),some (24,true)⟩,⟨some 26,.load none (.t 25),some (24,true)⟩,⟨some 27,.bin .eql (.t 26) (.c (.im (.str []))),some (24,true)⟩,⟨some 28,.pick (.t 24) (.t 27) (.c (.im (.bool false))),none⟩,⟨some 29,.move (.t 28),none⟩,⟨some 30,.call (.c (.clo 10 [])) [],some (29,true)⟩,⟨some 31,.pick (.t 29) (.t 30) (.c (.im (.bool false))),none⟩,⟨some 2,.move (.t 31),none⟩] []) .ret) .skip)) (.seq (.ops [⟨some 33,.move (.t 0),none⟩,⟨some 34,.call (.c (.clo 11 [])) [(.t 33)],none⟩,⟨some 32,.move (.t 34),none⟩,⟨some 35,.extract 0 (.t 32),none⟩,⟨some 36,.extract 1 (.t 32),none⟩,⟨some 37,.extract 2 (.t 32),none⟩,⟨some 6,.alloc none [(.im (.str [])),(.im (.int .i64 0)),(.im (.str [])),(.im (.int .i64 0)),.nils,.nils],none⟩,⟨none,.store 6 (.t 6) (.t 35),none⟩,⟨some 7,.move (.t 36),none⟩,⟨some 8,.move (.t 37),none⟩] []) (.seq (.seq (.ops [⟨some 38,.move (.t 8),none⟩,⟨some 39,.un .not (.t 38),none⟩] []) (.cond (.t 39) (.seq (.ops [⟨some 40,.move (.t 5),none⟩,⟨some 41,.bin .eql (.t 40) (.c (.im (.int .i64 40))),none⟩,⟨some 42,.move (.t 41),none⟩,⟨some 43,.move (.t 4),some (42,true)⟩,⟨some 44,.move (.t 7),some (42,true)⟩,⟨some 45,.bin .eql (.t 43) (.t 44),some (42,true)⟩,⟨some 46,.pick (.t 42) (.t 45) (.c (.im (.bool false))),none⟩,⟨some 47,.move (.t 46),none⟩,⟨some 48,.fieldAddr 0 (.t 3),some (47,true)⟩,⟨some 49,.load none (.t 48),some (47,true)⟩,⟨some 50,.bin .eql (.t 49) (.c (.im (.str []))),some (47,true)⟩,⟨some 51,.pick (.t 47) (.t 50) (.c (.im (.bool false))),none⟩,⟨some 52,.move (.t 51),none⟩,⟨some 53,.fieldAddr 5 (.t 3),some (52,true)⟩,⟨some 54,.load none (.t 53),some (52,true)⟩,⟨some 55,.lenSl (.t 54),some (52,true)⟩,⟨some 56,.bin .eql (.t 55) (.c (.im (.int .i64 0))),some (52,true)⟩,⟨some 57,.pick (.t 52) (.t 56) (.c (.im (.bool false))),none⟩,⟨some 58,.move (.t 57),none⟩,⟨some 59,.call (.c (.clo 10 [])) [],some (58,true)⟩,⟨some 60,.pick (.t 58) (.t 59) (.c (.im (.bool false))),none⟩,⟨some 2,.move (.t 60),none⟩] []) .ret) .skip)) (.seq (.ops [⟨some 61,.move (.t 5),none⟩,⟨some 62,.bin .eql (.t 61) (.c (.im (.int .i64 0))),none⟩,⟨some 63,.move (.t 62),none⟩,⟨some 64,.move (.t 4),some (63,true)⟩,⟨some 65,.bin .eql (.t 64) (.c (.im (.int .i64 0))),some (63,true)⟩,⟨some 66,.pick (.t 63) (.t 65) (.c (.im (.bool false))),none⟩,⟨some 67,.move (.t 66),none⟩,⟨some 68,.load (some 6) (.t 3),some (67,true)⟩,⟨some 69,.call (.c (.clo 13 [])) [(.t 68)],some (67,true)⟩,⟨some 70,.load (some 6) (.t 6),some (67,true)⟩,⟨some 71,.call (.c (.clo 12 [])) [(.t 69),(.t 70)],some (67,true)⟩,⟨some 72,.pick (.t 67) (.t 71) (.c (.im (.bool false))),none⟩,⟨some 73,.move (.t 72),none⟩,⟨some 74,.call (.c (.clo 10 [])) [],some (73,true)⟩,⟨some 75,.pick (.t 73) (.t 74) (.c (.im (.bool false))),none⟩,⟨some 2,.move (.t 75),none⟩] [(9,8)]) .ret)))))),false⟩
def f4 : AFunc := ⟨134,[(4,none)],(.seq (.ops [⟨some 4,.move (.c (.im (.bool false))),none⟩] []) (.seq (.seq (.ops [⟨some 21,.move (.t 0),none⟩,⟨some 22,.lenStr (.t 21),none⟩,⟨some 23,.bin .gtr (.t 22) (.c (.im (.int .i64 4000))),none⟩] []) (.cond (.t 23) (.seq (.ops [⟨some 24,.call (.c (.clo 10 [])) [],none⟩,⟨some 4,.move (.t 24),none⟩] []) .ret) .skip)) (.seq (.ops [⟨some 26,.move (.t 0),none⟩,⟨some 27,.call (.c (.clo 9 [])) [(.t 26)],none⟩,⟨some 25,.move (.t 27),none⟩,⟨some 28,.extract 0 (.t 25),none⟩,⟨some 29,.extract 1 (.t 25),none⟩,⟨some 30,.extract 2 (.t 25),none⟩,⟨some 5,.alloc none [(.im (.str [])),(.im (.int .i64 0)),(.im (.str [])),(.im (.int .i64 0)),.nils,.nils],none⟩,⟨none,.store 6 (.t 5) (.t 28),none⟩,⟨some 6,.move (.t 29),none⟩,⟨some 7,.move (.t 30),none⟩] []) (.seq (.seq (.ops [⟨some 31,.move (.t 7),none⟩,⟨some 32,.bin .neq (.t 31) (.c (.im (.int .i64 0))),none⟩] []) (.cond (.t 32) (.seq (.ops [⟨some 33,.call (.c (.clo 10 [])) [],none⟩,⟨some 4,.move (.t 33),none⟩] []) .ret) .skip)) (.seq (.ops [⟨some 35,.load (some 6) (.t 5),none⟩,⟨some 36,.call (.c (.clo 14 [])) [(.t 35)],none⟩,⟨some 34,.move (.t 36),none⟩,⟨some 37,.extract 0 (.t 34),none⟩,⟨some 38,.extract 1 (.t 34),none⟩,⟨some 8,.move (.t 37),none⟩,⟨some 9,.move (.t 38),none⟩] []) (.seq (.ops [⟨some 40,.move (.t 8),none⟩,⟨some 41,.call (.c (.clo 9 [])) [(.t 40)],none⟩,⟨some 39,.move (.t 41),none⟩,⟨some 42,.extract 0 (.t 39),none⟩,⟨some 43,.extract 1 (.t 39),none⟩,⟨some 44,.extract 2 (.t 39),none⟩,⟨some 10,.alloc none [(.im (.str [])),(.im (.int .i64 0)),(.im (.str [])),(.im (.int .i64 0)),.nils,.nils],none⟩,⟨none,.store 6 (.t 10) (.t 42),none⟩,⟨some 11,.move (.t 43),none⟩,⟨some 12,.move (.t 44),none⟩] []) (.seq (.seq (.ops [⟨some 45,.move (.t 9),none⟩,⟨some 46,.bin .neq (.t 45) (.c (.im (.int .i64 0))),none⟩,⟨some 47,.move (.t 46),none⟩,⟨some 48,.move (.t 12),some (47,false)⟩,⟨some 49,.bin .neq (.t 48) (.c (.im (.int .i64 0))),some (47,false)⟩,⟨some 50,.pick (.t 47) (.c (.im (.bool true))) (.t 49),none⟩,⟨some 51,.move (.t 50),none⟩,⟨some 52,.load (some 6) (.t 5),some (51,false)⟩,⟨some 53,.call (.c (.clo 13 [])) [(.t 52)],some (51,false)⟩,⟨some 54,.load (some 6) (.t 10),some (51,false)⟩,⟨some 55,.call (.c (.clo 13 [])) [(.t 54)],some (51,false)⟩,⟨some 56,.call (.c (.clo 12 [])) [(.t 53),(.t 55)],some (51,false)⟩,⟨some 57,.un .not (.t 56),some (51,false)⟩,⟨some 58,.pick (.t 51) (.c (.im (.bool true))) (.t 57),none⟩] [(9,8)]) (.cond (.t 58) (.seq (.ops [⟨some 4,.move (.c (.im (.bool false))),none⟩] []) .ret) .skip)) (.seq (.ops [⟨some 60,.load (some 6) (.t 10),none⟩,⟨some 61,.call (.c (.clo 14 [])) [(.t 60)],none⟩,⟨some 59,.move (.t 61),none⟩,⟨some 62,.extract 0 (.t 59),none⟩,⟨some 63,.extract 1 (.t 59),none⟩,⟨some 13,.move (.t 62),none⟩,⟨some 14,.move (.t 63),none⟩] []) (.seq (.seq (.ops [⟨some 64,.move (.t 14),none⟩,⟨some 65,.bin .neq (.t 64) (.c (.im (.int .i64 0))),none⟩,⟨some 66,.move (.t 65),none⟩,⟨some 67,.move (.t 13),some (66,false)⟩,⟨some 68,.move (.t 8),some (66,false)⟩,⟨some 69,.bin .neq (.t 67) (.t 68),some (66,false)⟩,⟨some 70,.pick (.t 66) (.c (.im (.bool true))) (.t 69),none⟩] []) (.cond (.t 70) (.seq (.ops [⟨some 4,.move (.c (.im (.bool false))),none⟩] []) .ret) .skip)) (.seq (.seq (.ops [⟨some 71,.move (.t 1),none⟩,⟨some 72,.bin .geq (.t 71) (.c (.im (.int .i64 0))),none⟩,⟨some 73,.move (.t 72),none⟩,⟨some 74,.move (.t 1),some (73,true)⟩,⟨some 75,.move (.t 8),some (73,true)⟩,⟨some 76,.lenStr (.t 75),some (73,true)⟩,⟨some 77,.bin .lss (.t 74) (.t 76),some (73,true)⟩,⟨some 78,.pick (.t 73) (.t 77) (.c (.im (.bool false))),none⟩,⟨some 79,.move (.t 78),none⟩,⟨some 80,.move (.t 8),some (79,true)⟩,⟨some 81,.move (.t 1),some (79,true)⟩,⟨some 82,.indexStr (.t 80) (.t 81),some (79,true)⟩,⟨some 83,.bin .eql (.t 82) (.c (.im (.int .u8 44))),some (79,true)⟩,⟨some 84,.move (.t 83),some (79,true)⟩,⟨some 85,.move (.t 8),some (84,false)⟩,⟨some 86,.move (.t 1),some (84,false)⟩,⟨some 87,.indexStr (.t 85) (.t 86),some (84,false)⟩,⟨some 88,.bin .eql (.t 87) (.c (.im (.int .u8 41))),some (84,false)⟩,⟨some 89,.pick (.t 84) (.c (.im (.bool true))) (.t 88),some (79,true)⟩,⟨some 90,.pick (.t 79) (.t 89) (.c (.im (.bool false))),none⟩,⟨some 91,.move (.t 90),none⟩,⟨some 92,.fieldAddr 3 (.t 5),some (91,true)⟩,⟨some 93,.fieldAddr 0 (.t 92),some (91,true)⟩,⟨some 94,.load none (.t 93),some (91,true)⟩,⟨some 95,.bin .eql (.t 94) (.c (.im (.int .i64 0))),some (91,true)⟩,⟨some 96,.pick (.t 91) (.t 95) (.c (.im (.bool false))),none⟩] []) (.cond (.t 96) (.seq (.ops [⟨some 98,.move (.t 8),none⟩,⟨some 99,.move (.t 1),none⟩,⟨some 100,.sliceStr (.t 98) none (some (.t 99)),none⟩,⟨some 101,.bin .add (.t 100) (.c (.im (.str [32,32]))),none⟩,⟨some 102,.move (.t 8),none⟩,⟨some 103,.move (.t 1),none⟩,⟨some 104,.sliceStr (.t 102) (some (.t 103)) none,none⟩,⟨some 105,.bin .add (.t 101) (.t 104),none⟩,⟨some 106,.call (.c (.clo 9 [])) [(.t 105)],none⟩,⟨some 97,.move (.t 106),none⟩,⟨some 107,.extract 0 (.t 97),none⟩,⟨some 108,.extract 1 (.t 97),none⟩,⟨some 109,.extract 2 (.t 97),none⟩,⟨some 15,.alloc none [(.im (.str [])),(.im (.int .i64 0)),(.im (.str [])),(.im (.int .i64 0)),.nils,.nils],none⟩,⟨none,.store 6 (.t 15) (.t 107),none⟩,⟨some 16,.move (.t 108),none⟩,⟨some 17,.move (.t 109),none⟩] []) (.seq (.ops [⟨some 110,.move (.t 17),none⟩,⟨some 111,.bin .eql (.t 110) (.c (.im (.int .i64 0))),none⟩] []) (.cond (.t 111) (.seq (.ops [⟨some 113,.load (some 6) (.t 15),none⟩,⟨some 114,.call (.c (.clo 14 [])) [(.t 113)],none⟩,⟨some 112,.move (.t 114),none⟩,⟨some 115,.extract 0 (.t 112),none⟩,⟨some 116,.extract 1 (.t 112),none⟩,⟨some 18,.move (.t 115),none⟩,⟨some 19,.move (.t 116),none⟩] []) (.seq (.ops [⟨some 117,.move (.t 18),none⟩,⟨some 118,.move (.t 8),none⟩,⟨some 119,.bin .neq (.t 117) (.t 118),none⟩,⟨some 20,.move (.t 119),none⟩] []) (.seq (.ops [⟨some 120,.move (.t 20),none⟩,⟨some 121,.un .not (.t 120),none⟩,⟨some 122,.move (.t 121),none⟩,⟨some 123,.move (.t 18),some (122,false)⟩,⟨some 124,.lenStr (.t 123),some (122,false)⟩,⟨some 125,.move (.t 8),some (122,false)⟩,⟨some 126,.lenStr (.t 125),some (122,false)⟩,⟨some 127,.bin .add (.t 126) (.c (.im (.int .i64 2))),some (122,false)⟩,⟨some 128,.bin .eql (.t 124) (.t 127),some (122,false)⟩,⟨some 129,.pick (.t 122) (.c (.im (.bool true))) (.t 128),none⟩,⟨some 130,.move (.t 129),none⟩,⟨some 131,.call (.c (.clo 10 [])) [],some (130,true)⟩,⟨some 132,.pick (.t 130) (.t 131) (.c (.im (.bool false))),none⟩,⟨some 4,.move (.t 132),none⟩] []) .ret))) .skip))) .skip)) (.seq (.ops [⟨some 133,.call (.c (.clo 10 [])) [],none⟩,⟨some 4,.move (.t 133),none⟩] []) .ret))))))))))),false⟩
theorem F4 : F 4 = some f4 := by kernel_rfl
def f9 : AFunc := ⟨41,[(2,(some (some 6))),(3,none),(4,none)],(.seq (.ops [⟨some 2,.alloc none [(.im (.str [])),(.im (.int .i64 0)),(.im (.str [])),(.im (.int .i64 0)),.nils,.nils],none⟩,⟨some 3,.move (.c (.im (.int .i64 0))),none⟩,⟨some 4,.move (.c (.im (.int .i64 0))),none⟩] []) (.seq (.seq (.ops [⟨some 6,.move (.t 0),none⟩,⟨some 7,.lenStr (.t 6),none⟩,⟨some 8,.bin .gtr (.t 7) (.c (.im (.int .i64 4096))),none⟩] []) (.cond (.t 8) (.seq (.ops [⟨some 9,.build [(.im (.str [])),(.im (.int .i64 0)),(.im (.str [])),(.im (.int .i64 0)),.nils,.nils] [],none⟩,⟨none,.store 6 (.t 2) (.t 9),none⟩,⟨some 3,.move (.c (.im (.int .i64 0))),none⟩,⟨some 4,.move (.c (.im (.int .i64 42))),none⟩] []) .ret) .skip)) (.seq (.ops [⟨some 10,.move (.t 0),none⟩,⟨some 11,.build [(.im (.str [])),(.im (.int .i64 0)),(.im (.bool false))] [(0,(1,(.t 10)))],none⟩,⟨some 12,.box none (.t 11),none⟩,⟨some 5,.move (.t 12),none⟩] []) (.seq (.ops [⟨some 13,.move (.t 5),none⟩,⟨some 14,.call (.c (.clo 18 [])) [(.t 13),(.c (.im (.int .i64 24)))],none⟩,⟨none,.store 6 (.t 2) (.t 14),none⟩] []) (.seq (.seq (.ops [⟨some 15,.move (.t 5),none⟩,⟨some 16,.nilCheck (.t 15),none⟩,⟨some 17,.fieldAddr 2 (.t 16),none⟩,⟨some 18,.load none (.t 17),none⟩,⟨some 19,.un .not (.t 18),none⟩] []) (.cond (.t 19) (.ops [⟨some 20,.move (.t 5),none⟩,⟨some 21,.call (.c (.clo 19 [])) [(.t 20)],none⟩] []) .skip)) (.seq (.seq (.ops [⟨some 22,.move (.t 5),none⟩,⟨some 23,.nilCheck (.t 22),none⟩,⟨some 24,.fieldAddr 2 (.t 23),none⟩,⟨some 25,.load none (.t 24),none⟩,⟨some 26,.move (.t 25),none⟩,⟨some 27,.move (.t 5),some (26,false)⟩,⟨some 28,.nilCheck (.t 27),some (26,false)⟩,⟨some 29,.fieldAddr 1 (.t 28),some (26,false)⟩,⟨some 30,.load none (.t 29),some (26,false)⟩,⟨some 31,.move (.t 0),some (26,false)⟩,⟨some 32,.lenStr (.t 31),some (26,false)⟩,⟨some 33,.bin .lss (.t 30) (.t 32),some (26,false)⟩,⟨some 34,.pick (.t 26) (.c (.im (.bool true))) (.t 33),none⟩] []) (.cond (.t 34) (.seq (.ops [⟨some 35,.build [(.im (.str [])),(.im (.int .i64 0)),(.im (.str [])),(.im (.int .i64 0)),.nils,.nils] [],none⟩,⟨some 36,.move (.t 5),none⟩,⟨some 37,.nilCheck (.t 36),none⟩,⟨some 38,.fieldAddr 1 (.t 37),none⟩,⟨some 39,.load none (.t 38),none⟩,⟨none,.store 6 (.t 2) (.t 35),none⟩,⟨some 3,.move (.t 39),none⟩,⟨some 4,.move (.c (.im (.int .i64 40))),none⟩] [(4,5)]) .ret) .skip)) (.seq (.ops [⟨some 40,.load (some 6) (.t 2),none⟩,⟨none,.store 6 (.t 2) (.t 40),none⟩,⟨some 3,.move (.c (.im (.int .i64 0))),none⟩,⟨some 4,.move (.c (.im (.int .i64 0))),none⟩] []) .ret))))))),false⟩
theorem F9 : F 9 = some f9 := by kernel_rfl
def f10 : AFunc := ⟨46,[(0,none)],(.seq (.ops [⟨some 0,.move (.c (.im (.bool false))),none⟩] []) (.seq (.ops [⟨some 10,.call (.c (.clo 9 [])) [(.c (.im (.str [97,100,100,40,32,105,116,44,32,49,41])))],none⟩,⟨some 9,.move (.t 10),none⟩,⟨some 11,.extract 0 (.t 9),none⟩,⟨some 12,.extract 1 (.t 9),none⟩,⟨some 13,.extract 2 (.t 9),none⟩,⟨some 1,.alloc none [(.im (.str [])),(.im (.int .i64 0)),(.im (.str [])),(.im (.int .i64 0)),.nils,.nils],none⟩,⟨none,.store 6 (.t 1) (.t 11),none⟩,⟨some 2,.move (.t 12),none⟩,⟨some 3,.move (.t 13),none⟩] []) (.seq (.ops [⟨some 15,.load (some 6) (.t 1),none⟩,⟨some 16,.call (.c (.clo 14 [])) [(.t 15)],none⟩,⟨some 14,.move (.t 16),none⟩,⟨some 17,.extract 0 (.t 14),none⟩,⟨some 18,.extract 1 (.t 14),none⟩,⟨some 4,.move (.t 17),none⟩,⟨some 5,.move (.t 18),none⟩] []) (.seq (.ops [⟨some 20,.call (.c (.clo 9 [])) [(.c (.im (.str [97,100,100,40,49,41])))],none⟩,⟨some 19,.move (.t 20),none⟩,⟨some 21,.extract 0 (.t 19),none⟩,⟨some 22,.extract 1 (.t 19),none⟩,⟨some 23,.extract 2 (.t 19),none⟩,⟨some 6,.alloc none [(.im (.str [])),(.im (.int .i64 0)),(.im (.str [])),(.im (.int .i64 0)),.nils,.nils],none⟩,⟨none,.store 6 (.t 6) (.t 21),none⟩,⟨some 7,.move (.t 22),none⟩,⟨some 8,.move (.t 23),none⟩] []) (.seq (.ops [⟨some 24,.move (.t 3),none⟩,⟨some 25,.bin .eql (.t 24) (.c (.im (.int .i64 0))),none⟩,⟨some 26,.move (.t 25),none⟩,⟨some 27,.move (.t 5),some (26,true)⟩,⟨some 28,.bin .eql (.t 27) (.c (.im (.int .i64 0))),some (26,true)⟩,⟨some 29,.pick (.t 26) (.t 28) (.c (.im (.bool false))),none⟩,⟨some 30,.move (.t 29),none⟩,⟨some 31,.move (.t 2),some (30,true)⟩,⟨some 32,.bin .eql (.t 31) (.c (.im (.int .i64 0))),some (30,true)⟩,⟨some 33,.pick (.t 30) (.t 32) (.c (.im (.bool false))),none⟩,⟨some 34,.move (.t 33),none⟩,⟨some 35,.move (.t 4),some (34,true)⟩,⟨some 36,.bin .eql (.t 35) (.c (.im (.str [97,100,100,40,105,116,44,49,41]))),some (34,true)⟩,⟨some 37,.pick (.t 34) (.t 36) (.c (.im (.bool false))),none⟩,⟨some 38,.move (.t 37),none⟩,⟨some 39,.move (.t 7),some (38,true)⟩,⟨some 40,.bin .eql (.t 39) (.c (.im (.int .i64 5))),some (38,true)⟩,⟨some 41,.pick (.t 38) (.t 40) (.c (.im (.bool false))),none⟩,⟨some 42,.move (.t 41),none⟩,⟨some 43,.move (.t 8),some (42,true)⟩,⟨some 44,.bin .eql (.t 43) (.c (.im (.int .i64 40))),some (42,true)⟩,⟨some 45,.pick (.t 42) (.t 44) (.c (.im (.bool false))),none⟩,⟨some 0,.move (.t 45),none⟩] []) .ret))))),false⟩
theorem F10 : F 10 = some f10 := by kernel_rfl
def b12_0 : ACode := (.seq (.seq (.ops [⟨some 42,.move (.t 5),none⟩,⟨some 43,.fieldAddr 5 (.t 2),none⟩,⟨some 44,.load none (.t 43),none⟩,⟨some 45,.lenSl (.t 44),none⟩,⟨some 46,.bin .lss (.t 42) (.t 45),none⟩] []) (.cond (.t 46) .skip (.exit 0))) (.seq (.block 1 (.seq (.ops [⟨some 49,.fieldAddr 5 (.t 2),none⟩,⟨some 50,.load none (.t 49),none⟩,⟨some 51,.move (.t 5),none⟩,⟨some 52,.indexSl 6 (.t 50) (.t 51),none⟩,⟨some 53,.load (some 6) (.t 52),none⟩,⟨some 54,.fieldAddr 5 (.t 3),none⟩,⟨some 55,.load none (.t 54),none⟩,⟨some 56,.move (.t 5),none⟩,⟨some 57,.indexSl 6 (.t 55) (.t 56),none⟩,⟨some 58,.load (some 6) (.t 57),none⟩,⟨some 59,.call (.c (.clo 12 [])) [(.t 53),(.t 58)],none⟩,⟨some 60,.un .not (.t 59),none⟩] []) (.cond (.t 60) (.seq (.ops [⟨some 4,.move (.c (.im (.bool false))),none⟩] []) .ret) .skip))) (.ops [⟨some 47,.move (.t 5),none⟩,⟨some 48,.bin .add (.t 47) (.c (.im (.int .i64 1))),none⟩,⟨some 5,.move (.t 48),none⟩] [])))
def c12_0 : ACode := .loop b12_0
theorem e12_0 : exec0 Φ Λ' c12_0 tm H K = thenL (Λ' c12_0 tm H) K := rfl
theorem l12_0 : Λ c12_0 tm H = exec0 L Λ b12_0 tm H fun e tm H => match e with
  | .normal => Λ c12_0 tm H
  | .exit i => some (.exit i, tm, H)
  | .goto l => some (.goto l, tm, H)
  | .ret => some (.ret, tm, H) := loop_eq
def f12 : AFunc := ⟨61,[(4,none)],(.seq (.ops [⟨some 2,.box none (.t 0),none⟩,⟨some 3,.box none (.t 1),none⟩,⟨some 4,.move (.c (.im (.bool false))),none⟩] []) (.seq (.seq (.ops [⟨some 6,.fieldAddr 0 (.t 2),none⟩,⟨some 7,.load none (.t 6),none⟩,⟨some 8,.fieldAddr 0 (.t 3),none⟩,⟨some 9,.load none (.t 8),none⟩,⟨some 10,.bin .neq (.t 7) (.t 9),none⟩,⟨some 11,.move (.t 10),none⟩,⟨some 12,.fieldAddr 1 (.t 2),some (11,false)⟩,⟨some 13,.load none (.t 12),some (11,false)⟩,⟨some 14,.fieldAddr 1 (.t 3),some (11,false)⟩,⟨some 15,.load none (.t 14),some (11,false)⟩,⟨some 16,.bin .neq (.t 13) (.t 15),some (11,false)⟩,⟨some 17,.pick (.t 11) (.c (.im (.bool true))) (.t 16),none⟩,⟨some 18,.move (.t 17),none⟩,⟨some 19,.fieldAddr 2 (.t 2),some (18,false)⟩,⟨some 20,.load none (.t 19),some (18,false)⟩,⟨some 21,.fieldAddr 2 (.t 3),some (18,false)⟩,⟨some 22,.load none (.t 21),some (18,false)⟩,⟨some 23,.bin .neq (.t 20) (.t 22),some (18,false)⟩,⟨some 24,.pick (.t 18) (.c (.im (.bool true))) (.t 23),none⟩,⟨some 25,.move (.t 24),none⟩,⟨some 26,.fieldAddr 3 (.t 2),some (25,false)⟩,⟨some 27,.load (some 2) (.t 26),some (25,false)⟩,⟨some 28,.fieldAddr 3 (.t 3),some (25,false)⟩,⟨some 29,.load (some 2) (.t 28),some (25,false)⟩,⟨some 30,.call (.c (.clo 22 [])) [(.t 27),(.t 29)],some (25,false)⟩,⟨some 31,.un .not (.t 30),some (25,false)⟩,⟨some 32,.pick (.t 25) (.c (.im (.bool true))) (.t 31),none⟩,⟨some 33,.move (.t 32),none⟩,⟨some 34,.fieldAddr 5 (.t 2),some (33,false)⟩,⟨some 35,.load none (.t 34),some (33,false)⟩,⟨some 36,.lenSl (.t 35),some (33,false)⟩,⟨some 37,.fieldAddr 5 (.t 3),some (33,false)⟩,⟨some 38,.load none (.t 37),some (33,false)⟩,⟨some 39,.lenSl (.t 38),some (33,false)⟩,⟨some 40,.bin .neq (.t 36) (.t 39),some (33,false)⟩,⟨some 41,.pick (.t 33) (.c (.im (.bool true))) (.t 40),none⟩] []) (.cond (.t 41) (.seq (.ops [⟨some 4,.move (.c (.im (.bool false))),none⟩] []) .ret) .skip)) (.seq (.seq (.ops [⟨some 5,.move (.c (.im (.int .i64 0))),none⟩] []) (.block 0 c12_0)) (.seq (.ops [⟨some 4,.move (.c (.im (.bool true))),none⟩] []) .ret)))),false⟩
theorem F12 : F 12 = some f12 := by kernel_rfl
def b13_0 : ACode := (.seq (.ops [⟨some 10,.bin .lss (.t 9) (.t 8),none⟩] []) (.seq (.cond (.t 10) .skip (.exit 0)) (.seq (.block 1 (.seq (.ops [⟨some 11,.indexSl 6 (.t 7) (.t 9),none⟩,⟨some 12,.load (some 6) (.t 11),none⟩,⟨some 5,.alloc none [(.im (.str [])),(.im (.int .i64 0)),(.im (.str [])),(.im (.int .i64 0)),.nils,.nils],none⟩,⟨none,.store 6 (.t 5) (.t 12),none⟩] []) (.ops [⟨some 13,.move (.t 3),none⟩,⟨some 14,.load (some 6) (.t 5),none⟩,⟨some 15,.call (.c (.clo 13 [])) [(.t 14)],none⟩,⟨some 16,.bslice false 6 1 [(.im (.str [])),(.im (.int .i64 0)),(.im (.str [])),(.im (.int .i64 0)),.nils,.nils] [(0,(.t 15))],none⟩,⟨some 17,.append 37 96 6 (.t 13) (.t 16),none⟩,⟨some 3,.move (.t 17),none⟩] []))) (.ops [⟨some 18,.bin .add (.t 9) (.c (.im (.int .i64 1))),none⟩,⟨some 9,.move (.t 18),none⟩] []))))
def c13_0 : ACode := .loop b13_0
theorem e13_0 : exec0 Φ Λ' c13_0 tm H K = thenL (Λ' c13_0 tm H) K := rfl
theorem l13_0 : Λ c13_0 tm H = exec0 L Λ b13_0 tm H fun e tm H => match e with
  | .normal => Λ c13_0 tm H
  | .exit i => some (.exit i, tm, H)
  | .goto l => some (.goto l, tm, H)
  | .ret => some (.ret, tm, H) := loop_eq
def f13 : AFunc := ⟨30,[(2,(some (some 6)))],(.seq (.ops [⟨some 1,.box none (.t 0),none⟩,⟨some 2,.alloc none [(.im (.str [])),(.im (.int .i64 0)),(.im (.str [])),(.im (.int .i64 0)),.nils,.nils],none⟩] []) (.seq (.ops [⟨some 3,.move (.c .nils),none⟩] []) (.seq (.seq (.ops [⟨some 6,.fieldAddr 5 (.t 1),none⟩,⟨some 7,.load none (.t 6),none⟩,⟨some 8,.lenSl (.t 7),none⟩,⟨some 9,.move (.c (.im (.int .i64 0))),none⟩] []) (.block 0 c13_0)) (.seq (.ops [⟨some 19,.fieldAddr 0 (.t 1),none⟩,⟨some 20,.load none (.t 19),none⟩,⟨some 21,.fieldAddr 1 (.t 1),none⟩,⟨some 22,.load none (.t 21),none⟩,⟨some 23,.fieldAddr 2 (.t 1),none⟩,⟨some 24,.load none (.t 23),none⟩,⟨some 25,.fieldAddr 3 (.t 1),none⟩,⟨some 26,.load (some 2) (.t 25),none⟩,⟨some 27,.call (.c (.clo 23 [])) [(.t 26)],none⟩,⟨some 28,.move (.t 3),none⟩,⟨some 29,.build [(.im (.str [])),(.im (.int .i64 0)),(.im (.str [])),(.im (.int .i64 0)),.nils,.nils] [(0,(1,(.t 20))),(1,(1,(.t 22))),(2,(1,(.t 24))),(3,(2,(.t 27))),(5,(1,(.t 28)))],none⟩,⟨none,.store 6 (.t 2) (.t 29),none⟩] [(1,8),(3,8),(5,8)]) .ret)))),false⟩
theorem F13 : F 13 = some f13 := by kernel_rfl
def f14 : AFunc := ⟨25,[(2,none),(3,none)],(.seq (.ops [⟨some 1,.box none (.t 0),none⟩,⟨some 2,.move (.c (.im (.str []))),none⟩,⟨some 3,.move (.c (.im (.int .i64 0))),none⟩] []) (.seq (.ops [⟨some 5,.build [(.im .nilp),.nils,(.im (.bool false))] [],none⟩,⟨some 6,.box (some 66) (.t 5),none⟩,⟨some 4,.move (.t 6),none⟩] []) (.seq (.ops [⟨some 7,.move (.t 4),none⟩,⟨some 8,.load (some 6) (.t 1),none⟩,⟨some 9,.call (.c (.clo 24 [])) [(.t 7),(.t 8),(.c (.im (.int .i64 24)))],none⟩] []) (.seq (.seq (.ops [⟨some 10,.move (.t 4),none⟩,⟨some 11,.nilCheck (.t 10),none⟩,⟨some 12,.fieldAddr 2 (.t 11),none⟩,⟨some 13,.load none (.t 12),none⟩,⟨some 14,.move (.t 13),none⟩,⟨some 15,.move (.t 4),some (14,false)⟩,⟨some 16,.nilCheck (.t 15),some (14,false)⟩,⟨some 17,.fieldAddr 0 (.t 16),some (14,false)⟩,⟨some 18,.call (.c (.clo 25 [])) [(.t 17)],some (14,false)⟩,⟨some 19,.bin .gtr (.t 18) (.c (.im (.int .i64 4096))),some (14,false)⟩,⟨some 20,.pick (.t 14) (.c (.im (.bool true))) (.t 19),none⟩] []) (.cond (.t 20) (.seq (.ops [⟨some 2,.move (.c (.im (.str []))),none⟩,⟨some 3,.move (.c (.im (.int .i64 110))),none⟩] []) .ret) .skip)) (.seq (.ops [⟨some 21,.move (.t 4),none⟩,⟨some 22,.nilCheck (.t 21),none⟩,⟨some 23,.fieldAddr 0 (.t 22),none⟩,⟨some 24,.call (.c (.clo 26 [])) [(.t 23)],none⟩,⟨some 2,.move (.t 24),none⟩,⟨some 3,.move (.c (.im (.int .i64 0))),none⟩] []) .ret))))),false⟩
theorem F14 : F 14 = some f14 := by kernel_rfl
def f18 : AFunc := ⟨104,[(4,(some (some 6)))],(.seq (.ops [⟨some 4,.alloc none [(.im (.str [])),(.im (.int .i64 0)),(.im (.str [])),(.im (.int .i64 0)),.nils,.nils],none⟩] []) (.seq (.ops [⟨some 9,.move (.t 0),none⟩,⟨some 10,.call (.c (.clo 19 [])) [(.t 9)],none⟩] []) (.seq (.seq (.ops [⟨some 11,.move (.t 0),none⟩,⟨some 12,.call (.c (.clo 29 [])) [(.t 11)],none⟩,⟨some 5,.move (.t 12),none⟩] []) (.block 0 (.seq (.ops [⟨some 14,.move (.t 0),none⟩,⟨some 15,.nilCheck (.t 14),none⟩,⟨some 16,.fieldAddr 2 (.t 15),none⟩,⟨some 17,.load none (.t 16),none⟩,⟨some 13,.move (.t 17),none⟩] []) (.cond (.t 13) (.seq (.ops [⟨some 18,.build [(.im (.str [])),(.im (.int .i64 0)),(.im (.str [])),(.im (.int .i64 0)),.nils,.nils] [],none⟩,⟨none,.store 6 (.t 4) (.t 18),none⟩] []) .ret) (.seq (.ops [⟨some 20,.move (.t 5),none⟩,⟨some 21,.bin .eql (.t 20) (.c (.im (.int .u8 34))),none⟩,⟨some 19,.move (.t 21),none⟩] []) (.cond (.t 19) (.seq (.ops [⟨some 22,.move (.t 0),none⟩,⟨some 23,.nilCheck (.t 22),none⟩,⟨some 24,.fieldAddr 1 (.t 23),none⟩,⟨some 25,.load none (.t 24),none⟩,⟨some 26,.bin .add (.t 25) (.c (.im (.int .i64 1))),none⟩,⟨some 27,.nilCheck (.t 22),none⟩,⟨some 28,.fieldAddr 1 (.t 27),none⟩,⟨none,.store 1 (.t 28) (.t 26),none⟩] []) (.seq (.ops [⟨some 29,.move (.t 0),none⟩,⟨some 30,.call (.c (.clo 30 [])) [(.t 29)],none⟩,⟨none,.store 6 (.t 4) (.t 30),none⟩] []) .ret)) (.seq (.ops [⟨some 32,.move (.t 5),none⟩,⟨some 33,.bin .eql (.t 32) (.c (.im (.int .u8 45))),none⟩,⟨some 34,.move (.t 33),none⟩,⟨some 35,.move (.t 5),some (34,false)⟩,⟨some 36,.bin .geq (.t 35) (.c (.im (.int .u8 48))),some (34,false)⟩,⟨some 37,.move (.t 36),some (34,false)⟩,⟨some 38,.move (.t 5),some (37,true)⟩,⟨some 39,.bin .leq (.t 38) (.c (.im (.int .u8 57))),some (37,true)⟩,⟨some 40,.pick (.t 37) (.t 39) (.c (.im (.bool false))),some (34,false)⟩,⟨some 41,.pick (.t 34) (.c (.im (.bool true))) (.t 40),none⟩,⟨some 31,.move (.t 41),none⟩] []) (.cond (.t 31) (.seq (.ops [⟨some 42,.move (.t 0),none⟩,⟨some 43,.call (.c (.clo 31 [])) [(.t 42)],none⟩,⟨none,.store 6 (.t 4) (.t 43),none⟩] []) .ret) (.seq (.ops [⟨some 45,.move (.t 5),none⟩,⟨some 46,.bin .lss (.t 45) (.c (.im (.int .u8 97))),none⟩,⟨some 47,.move (.t 46),none⟩,⟨some 48,.move (.t 5),some (47,false)⟩,⟨some 49,.bin .gtr (.t 48) (.c (.im (.int .u8 122))),some (47,false)⟩,⟨some 50,.pick (.t 47) (.c (.im (.bool true))) (.t 49),none⟩,⟨some 44,.move (.t 50),none⟩] []) (.cond (.t 44) (.seq (.ops [⟨some 51,.move (.t 0),none⟩,⟨some 52,.nilCheck (.t 51),none⟩,⟨some 53,.fieldAddr 2 (.t 52),none⟩,⟨none,.store 1 (.t 53) (.c (.im (.bool true))),none⟩] []) (.seq (.ops [⟨some 54,.build [(.im (.str [])),(.im (.int .i64 0)),(.im (.str [])),(.im (.int .i64 0)),.nils,.nils] [],none⟩,⟨none,.store 6 (.t 4) (.t 54),none⟩] []) .ret)) .skip)))))))))) (.seq (.ops [⟨some 55,.move (.t 0),none⟩,⟨some 56,.call (.c (.clo 32 [])) [(.t 55)],none⟩,⟨some 6,.move (.t 56),none⟩] []) (.seq (.ops [⟨some 58,.move (.t 6),none⟩,⟨some 59,.call (.c (.clo 33 [])) [(.t 58)],none⟩,⟨some 57,.move (.t 59),none⟩,⟨some 60,.extract 0 (.t 57),none⟩,⟨some 61,.extract 1 (.t 57),none⟩,⟨some 7,.move (.t 60),none⟩,⟨some 8,.move (.t 61),none⟩] []) (.seq (.seq (.ops [⟨some 62,.move (.t 6),none⟩,⟨some 63,.lenStr (.t 62),none⟩,⟨some 64,.bin .eql (.t 63) (.c (.im (.int .i64 16))),none⟩,⟨some 65,.move (.t 64),none⟩,⟨some 66,.move (.t 0),some (65,true)⟩,⟨some 67,.call (.c (.clo 29 [])) [(.t 66)],some (65,true)⟩,⟨some 68,.call (.c (.clo 34 [])) [(.t 67)],some (65,true)⟩,⟨some 69,.pick (.t 65) (.t 68) (.c (.im (.bool false))),none⟩] []) (.cond (.t 69) (.seq (.ops [⟨some 70,.move (.t 0),none⟩,⟨some 71,.nilCheck (.t 70),none⟩,⟨some 72,.fieldAddr 2 (.t 71),none⟩,⟨none,.store 1 (.t 72) (.c (.im (.bool true))),none⟩] []) (.seq (.ops [⟨some 73,.build [(.im (.str [])),(.im (.int .i64 0)),(.im (.str [])),(.im (.int .i64 0)),.nils,.nils] [],none⟩,⟨none,.store 6 (.t 4) (.t 73),none⟩] []) .ret)) .skip)) (.seq (.block 1 (.seq (.ops [⟨some 75,.move (.t 8),none⟩,⟨some 76,.un .not (.t 75),none⟩,⟨some 74,.move (.t 76),none⟩] []) (.cond (.t 74) (.seq (.ops [⟨some 77,.move (.t 6),none⟩,⟨some 78,.build [(.im (.str [])),(.im (.int .i64 0)),(.im (.str [])),(.im (.int .i64 0)),.nils,.nils] [(0,(1,(.c (.im (.str [110,97,109,101]))))),(2,(1,(.t 77)))],none⟩,⟨none,.store 6 (.t 4) (.t 78),none⟩] []) .ret) (.seq (.ops [⟨some 80,.move (.t 7),none⟩,⟨some 81,.bin .eql (.t 80) (.c (.im (.str []))),none⟩,⟨some 79,.move (.t 81),none⟩] []) (.cond (.t 79) (.seq (.ops [⟨some 82,.move (.t 6),none⟩,⟨some 83,.build [(.im (.str [])),(.im (.int .i64 0)),(.im (.str [])),(.im (.int .i64 0)),.nils,.nils] [(0,(1,(.t 82)))],none⟩,⟨none,.store 6 (.t 4) (.t 83),none⟩] []) .ret) (.seq (.ops [⟨some 85,.move (.t 1),none⟩,⟨some 86,.bin .eql (.t 85) (.c (.im (.int .i64 1))),none⟩,⟨some 87,.move (.t 86),none⟩,⟨some 88,.move (.t 7),some (87,true)⟩,⟨some 89,.bin .neq (.t 88) (.c (.im (.str [100]))),some (87,true)⟩,⟨some 90,.pick (.t 87) (.t 89) (.c (.im (.bool false))),none⟩,⟨some 91,.move (.t 90),none⟩,⟨some 92,.move (.t 7),some (91,true)⟩,⟨some 93,.bin .neq (.t 92) (.c (.im (.str [116]))),some (91,true)⟩,⟨some 94,.pick (.t 91) (.t 93) (.c (.im (.bool false))),none⟩,⟨some 84,.move (.t 94),none⟩] []) (.cond (.t 84) (.seq (.ops [⟨some 95,.move (.t 0),none⟩,⟨some 96,.nilCheck (.t 95),none⟩,⟨some 97,.fieldAddr 2 (.t 96),none⟩,⟨none,.store 1 (.t 97) (.c (.im (.bool true))),none⟩] []) (.seq (.ops [⟨some 98,.build [(.im (.str [])),(.im (.int .i64 0)),(.im (.str [])),(.im (.int .i64 0)),.nils,.nils] [],none⟩,⟨none,.store 6 (.t 4) (.t 98),none⟩] []) .ret)) .skip))))))) (.seq (.ops [⟨some 99,.move (.t 0),none⟩,⟨some 100,.move (.t 6),none⟩,⟨some 101,.move (.t 7),none⟩,⟨some 102,.move (.t 1),none⟩,⟨some 103,.call (.c (.clo 35 [])) [(.t 99),(.t 100),(.t 101),(.t 102)],none⟩,⟨none,.store 6 (.t 4) (.t 103),none⟩] []) .ret)))))))),false⟩
theorem F18 : F 18 = some f18 := by kernel_rfl
def b19_0 : ACode := (.seq (.seq (.ops [⟨some 2,.move (.t 0),none⟩,⟨some 3,.nilCheck (.t 2),none⟩,⟨some 4,.fieldAddr 1 (.t 3),none⟩,⟨some 5,.load none (.t 4),none⟩,⟨some 6,.move (.t 0),none⟩,⟨some 7,.nilCheck (.t 6),none⟩,⟨some 8,.fieldAddr 0 (.t 7),none⟩,⟨some 9,.load none (.t 8),none⟩,⟨some 10,.lenStr (.t 9),none⟩,⟨some 11,.bin .lss (.t 5) (.t 10),none⟩,⟨some 12,.move (.t 11),none⟩,⟨some 13,.move (.t 0),some (12,true)⟩,⟨some 14,.nilCheck (.t 13),some (12,true)⟩,⟨some 15,.fieldAddr 0 (.t 14),some (12,true)⟩,⟨some 16,.load none (.t 15),some (12,true)⟩,⟨some 17,.move (.t 0),some (12,true)⟩,⟨some 18,.nilCheck (.t 17),some (12,true)⟩,⟨some 19,.fieldAddr 1 (.t 18),some (12,true)⟩,⟨some 20,.load none (.t 19),some (12,true)⟩,⟨some 21,.indexStr (.t 16) (.t 20),some (12,true)⟩,⟨some 22,.bin .eql (.t 21) (.c (.im (.int .u8 32))),some (12,true)⟩,⟨some 23,.pick (.t 12) (.t 22) (.c (.im (.bool false))),none⟩] []) (.cond (.t 23) .skip (.exit 0))) (.block 1 (.ops [⟨some 24,.move (.t 0),none⟩,⟨some 25,.nilCheck (.t 24),none⟩,⟨some 26,.fieldAddr 1 (.t 25),none⟩,⟨some 27,.load none (.t 26),none⟩,⟨some 28,.bin .add (.t 27) (.c (.im (.int .i64 1))),none⟩,⟨some 29,.nilCheck (.t 24),none⟩,⟨some 30,.fieldAddr 1 (.t 29),none⟩,⟨none,.store 1 (.t 30) (.t 28),none⟩] [])))
def c19_0 : ACode := .loop b19_0
theorem e19_0 : exec0 Φ Λ' c19_0 tm H K = thenL (Λ' c19_0 tm H) K := rfl
theorem l19_0 : Λ c19_0 tm H = exec0 L Λ b19_0 tm H fun e tm H => match e with
  | .normal => Λ c19_0 tm H
  | .exit i => some (.exit i, tm, H)
  | .goto l => some (.goto l, tm, H)
  | .ret => some (.ret, tm, H) := loop_eq
def f19 : AFunc := ⟨31, [], (.block 0 c19_0), false⟩
theorem F19 : F 19 = some f19 := by kernel_rfl
def b22_0 : ACode := (.seq (.seq (.ops [⟨some 20,.move (.t 5),none⟩,⟨some 21,.fieldAddr 1 (.t 2),none⟩,⟨some 22,.load none (.t 21),none⟩,⟨some 23,.lenSl (.t 22),none⟩,⟨some 24,.bin .lss (.t 20) (.t 23),none⟩] []) (.cond (.t 24) .skip (.exit 0))) (.seq (.block 1 (.seq (.ops [⟨some 27,.fieldAddr 1 (.t 2),none⟩,⟨some 28,.load none (.t 27),none⟩,⟨some 29,.move (.t 5),none⟩,⟨some 30,.indexSl 2 (.t 28) (.t 29),none⟩,⟨some 31,.load (some 2) (.t 30),none⟩,⟨some 32,.fieldAddr 1 (.t 3),none⟩,⟨some 33,.load none (.t 32),none⟩,⟨some 34,.move (.t 5),none⟩,⟨some 35,.indexSl 2 (.t 33) (.t 34),none⟩,⟨some 36,.load (some 2) (.t 35),none⟩,⟨some 37,.call (.c (.clo 22 [])) [(.t 31),(.t 36)],none⟩,⟨some 38,.un .not (.t 37),none⟩] []) (.cond (.t 38) (.seq (.ops [⟨some 4,.move (.c (.im (.bool false))),none⟩] []) .ret) .skip))) (.ops [⟨some 25,.move (.t 5),none⟩,⟨some 26,.bin .add (.t 25) (.c (.im (.int .i64 1))),none⟩,⟨some 5,.move (.t 26),none⟩] [])))
def c22_0 : ACode := .loop b22_0
theorem e22_0 : exec0 Φ Λ' c22_0 tm H K = thenL (Λ' c22_0 tm H) K := rfl
theorem l22_0 : Λ c22_0 tm H = exec0 L Λ b22_0 tm H fun e tm H => match e with
  | .normal => Λ c22_0 tm H
  | .exit i => some (.exit i, tm, H)
  | .goto l => some (.goto l, tm, H)
  | .ret => some (.ret, tm, H) := loop_eq
def f22 : AFunc := ⟨39,[(4,none)],(.seq (.ops [⟨some 2,.box none (.t 0),none⟩,⟨some 3,.box none (.t 1),none⟩,⟨some 4,.move (.c (.im (.bool false))),none⟩] []) (.seq (.seq (.ops [⟨some 6,.fieldAddr 0 (.t 2),none⟩,⟨some 7,.load none (.t 6),none⟩,⟨some 8,.fieldAddr 0 (.t 3),none⟩,⟨some 9,.load none (.t 8),none⟩,⟨some 10,.bin .neq (.t 7) (.t 9),none⟩,⟨some 11,.move (.t 10),none⟩,⟨some 12,.fieldAddr 1 (.t 2),some (11,false)⟩,⟨some 13,.load none (.t 12),some (11,false)⟩,⟨some 14,.lenSl (.t 13),some (11,false)⟩,⟨some 15,.fieldAddr 1 (.t 3),some (11,false)⟩,⟨some 16,.load none (.t 15),some (11,false)⟩,⟨some 17,.lenSl (.t 16),some (11,false)⟩,⟨some 18,.bin .neq (.t 14) (.t 17),some (11,false)⟩,⟨some 19,.pick (.t 11) (.c (.im (.bool true))) (.t 18),none⟩] []) (.cond (.t 19) (.seq (.ops [⟨some 4,.move (.c (.im (.bool false))),none⟩] []) .ret) .skip)) (.seq (.seq (.ops [⟨some 5,.move (.c (.im (.int .i64 0))),none⟩] []) (.block 0 c22_0)) (.seq (.ops [⟨some 4,.move (.c (.im (.bool true))),none⟩] []) .ret)))),false⟩
theorem F22 : F 22 = some f22 := by kernel_rfl
def b23_0 : ACode := (.seq (.ops [⟨some 10,.bin .lss (.t 9) (.t 8),none⟩] []) (.seq (.cond (.t 10) .skip (.exit 0)) (.seq (.block 1 (.seq (.ops [⟨some 11,.indexSl 2 (.t 7) (.t 9),none⟩,⟨some 12,.load (some 2) (.t 11),none⟩,⟨some 5,.alloc none [(.im (.int .i64 0)),.nils],none⟩,⟨none,.store 2 (.t 5) (.t 12),none⟩] []) (.ops [⟨some 13,.move (.t 3),none⟩,⟨some 14,.load (some 2) (.t 5),none⟩,⟨some 15,.call (.c (.clo 23 [])) [(.t 14)],none⟩,⟨some 16,.bslice false 2 1 [(.im (.int .i64 0)),.nils] [(0,(.t 15))],none⟩,⟨some 17,.append 34 32 2 (.t 13) (.t 16),none⟩,⟨some 3,.move (.t 17),none⟩] []))) (.ops [⟨some 18,.bin .add (.t 9) (.c (.im (.int .i64 1))),none⟩,⟨some 9,.move (.t 18),none⟩] []))))
def c23_0 : ACode := .loop b23_0
theorem e23_0 : exec0 Φ Λ' c23_0 tm H K = thenL (Λ' c23_0 tm H) K := rfl
theorem l23_0 : Λ c23_0 tm H = exec0 L Λ b23_0 tm H fun e tm H => match e with
  | .normal => Λ c23_0 tm H
  | .exit i => some (.exit i, tm, H)
  | .goto l => some (.goto l, tm, H)
  | .ret => some (.ret, tm, H) := loop_eq
def f23 : AFunc := ⟨23,[(2,(some (some 2)))],(.seq (.ops [⟨some 1,.box none (.t 0),none⟩,⟨some 2,.alloc none [(.im (.int .i64 0)),.nils],none⟩] []) (.seq (.ops [⟨some 3,.move (.c .nils),none⟩] []) (.seq (.seq (.ops [⟨some 6,.fieldAddr 1 (.t 1),none⟩,⟨some 7,.load none (.t 6),none⟩,⟨some 8,.lenSl (.t 7),none⟩,⟨some 9,.move (.c (.im (.int .i64 0))),none⟩] []) (.block 0 c23_0)) (.seq (.ops [⟨some 19,.fieldAddr 0 (.t 1),none⟩,⟨some 20,.load none (.t 19),none⟩,⟨some 21,.move (.t 3),none⟩,⟨some 22,.build [(.im (.int .i64 0)),.nils] [(0,(1,(.t 20))),(1,(1,(.t 21)))],none⟩,⟨none,.store 2 (.t 2) (.t 22),none⟩] []) .ret)))),false⟩
theorem F23 : F 23 = some f23 := by kernel_rfl
def f24 : AFunc := ⟨167,[],(.seq (.ops [⟨some 4,.box none (.t 1),none⟩] []) (.seq (.ops [⟨some 11,.fieldAddr 0 (.t 4),none⟩,⟨some 12,.load none (.t 11),none⟩,⟨some 13,.call (.c (.clo 33 [])) [(.t 12)],none⟩,⟨some 10,.move (.t 13),none⟩,⟨some 14,.extract 0 (.t 10),none⟩,⟨some 15,.extract 1 (.t 10),none⟩,⟨some 6,.move (.t 14),none⟩,⟨some 7,.move (.t 15),none⟩] []) (.block 0 (.seq (.ops [⟨some 22,.move (.t 0),none⟩,⟨some 23,.nilCheck (.t 22),none⟩,⟨some 24,.fieldAddr 2 (.t 23),none⟩,⟨some 25,.load none (.t 24),none⟩,⟨some 26,.move (.t 25),none⟩,⟨some 27,.move (.t 2),some (26,false)⟩,⟨some 28,.bin .eql (.t 27) (.c (.im (.int .i64 0))),some (26,false)⟩,⟨some 29,.pick (.t 26) (.c (.im (.bool true))) (.t 28),none⟩,⟨some 30,.move (.t 29),none⟩,⟨some 31,.move (.t 0),some (30,false)⟩,⟨some 32,.nilCheck (.t 31),some (30,false)⟩,⟨some 33,.fieldAddr 0 (.t 32),some (30,false)⟩,⟨some 34,.call (.c (.clo 25 [])) [(.t 33)],some (30,false)⟩,⟨some 35,.bin .gtr (.t 34) (.c (.im (.int .i64 4096))),some (30,false)⟩,⟨some 36,.pick (.t 30) (.c (.im (.bool true))) (.t 35),none⟩,⟨some 21,.move (.t 36),none⟩] []) (.cond (.t 21) (.ops [⟨some 37,.move (.t 0),none⟩,⟨some 38,.nilCheck (.t 37),none⟩,⟨some 39,.fieldAddr 2 (.t 38),none⟩,⟨none,.store 1 (.t 39) (.c (.im (.bool true))),none⟩] []) (.seq (.ops [⟨some 41,.fieldAddr 0 (.t 4),none⟩,⟨some 42,.load none (.t 41),none⟩,⟨some 43,.bin .eql (.t 42) (.c (.im (.str [105,110,116]))),none⟩,⟨some 40,.move (.t 43),none⟩] []) (.cond (.t 40) (.seq (.ops [⟨some 44,.move (.t 0),none⟩,⟨some 45,.load (some 6) (.t 4),none⟩,⟨some 46,.call (.c (.clo 43 [])) [(.t 45),(.c (.im (.bool true))),(.c (.im (.bool false))),(.c (.im (.bool false))),(.c (.im (.bool false)))],none⟩,⟨some 47,.un .not (.t 46),none⟩,⟨some 48,.nilCheck (.t 44),none⟩,⟨some 49,.fieldAddr 2 (.t 48),none⟩,⟨none,.store 1 (.t 49) (.t 47),none⟩] []) (.ops [⟨some 50,.move (.t 0),none⟩,⟨some 51,.nilCheck (.t 50),none⟩,⟨some 52,.fieldAddr 0 (.t 51),none⟩,⟨some 53,.fieldAddr 1 (.t 4),none⟩,⟨some 54,.load none (.t 53),none⟩,⟨some 55,.call (.c (.clo 45 [])) [(.t 54)],none⟩,⟨some 56,.call (.c (.clo 44 [])) [(.t 52),(.t 55)],none⟩] [])) (.seq (.ops [⟨some 58,.fieldAddr 0 (.t 4),none⟩,⟨some 59,.load none (.t 58),none⟩,⟨some 60,.bin .eql (.t 59) (.c (.im (.str [116,101,120,116,95,111,102]))),none⟩,⟨some 57,.move (.t 60),none⟩] []) (.cond (.t 57) (.seq (.ops [⟨some 61,.move (.t 0),none⟩,⟨some 62,.load (some 6) (.t 4),none⟩,⟨some 63,.call (.c (.clo 43 [])) [(.t 62),(.c (.im (.bool false))),(.c (.im (.bool true))),(.c (.im (.bool false))),(.c (.im (.bool false)))],none⟩,⟨some 64,.un .not (.t 63),none⟩,⟨some 65,.move (.t 64),none⟩,⟨some 66,.fieldAddr 2 (.t 4),some (65,false)⟩,⟨some 67,.load none (.t 66),some (65,false)⟩,⟨some 68,.lenStr (.t 67),some (65,false)⟩,⟨some 69,.bin .gtr (.t 68) (.c (.im (.int .i64 256))),some (65,false)⟩,⟨some 70,.pick (.t 65) (.c (.im (.bool true))) (.t 69),none⟩,⟨some 71,.nilCheck (.t 61),none⟩,⟨some 72,.fieldAddr 2 (.t 71),none⟩,⟨none,.store 1 (.t 72) (.t 70),none⟩] []) (.seq (.ops [⟨some 73,.move (.t 0),none⟩,⟨some 74,.nilCheck (.t 73),none⟩,⟨some 75,.fieldAddr 2 (.t 74),none⟩,⟨some 76,.load none (.t 75),none⟩,⟨some 77,.un .not (.t 76),none⟩] []) (.cond (.t 77) (.ops [⟨some 78,.move (.t 0),none⟩,⟨some 79,.fieldAddr 2 (.t 4),none⟩,⟨some 80,.load none (.t 79),none⟩,⟨some 81,.call (.c (.clo 46 [])) [(.t 78),(.t 80)],none⟩] []) .skip))) (.seq (.ops [⟨some 83,.fieldAddr 0 (.t 4),none⟩,⟨some 84,.load none (.t 83),none⟩,⟨some 85,.bin .eql (.t 84) (.c (.im (.str [110,97,109,101]))),none⟩,⟨some 82,.move (.t 85),none⟩] []) (.cond (.t 82) (.seq (.ops [⟨some 86,.move (.t 0),none⟩,⟨some 87,.load (some 6) (.t 4),none⟩,⟨some 88,.call (.c (.clo 43 [])) [(.t 87),(.c (.im (.bool false))),(.c (.im (.bool true))),(.c (.im (.bool false))),(.c (.im (.bool false)))],none⟩,⟨some 89,.un .not (.t 88),none⟩,⟨some 90,.move (.t 89),none⟩,⟨some 91,.fieldAddr 2 (.t 4),some (90,false)⟩,⟨some 92,.load none (.t 91),some (90,false)⟩,⟨some 93,.call (.c (.clo 47 [])) [(.t 92)],some (90,false)⟩,⟨some 94,.un .not (.t 93),some (90,false)⟩,⟨some 95,.pick (.t 90) (.c (.im (.bool true))) (.t 94),none⟩,⟨some 96,.nilCheck (.t 86),none⟩,⟨some 97,.fieldAddr 2 (.t 96),none⟩,⟨none,.store 1 (.t 97) (.t 95),none⟩] []) (.ops [⟨some 98,.move (.t 0),none⟩,⟨some 99,.nilCheck (.t 98),none⟩,⟨some 100,.fieldAddr 0 (.t 99),none⟩,⟨some 101,.fieldAddr 2 (.t 4),none⟩,⟨some 102,.load none (.t 101),none⟩,⟨some 103,.call (.c (.clo 44 [])) [(.t 100),(.t 102)],none⟩] [])) (.seq (.ops [⟨some 105,.move (.t 7),none⟩,⟨some 106,.un .not (.t 105),none⟩,⟨some 104,.move (.t 106),none⟩] []) (.cond (.t 104) (.ops [⟨some 107,.move (.t 0),none⟩,⟨some 108,.nilCheck (.t 107),none⟩,⟨some 109,.fieldAddr 2 (.t 108),none⟩,⟨none,.store 1 (.t 109) (.c (.im (.bool true))),none⟩] []) (.seq (.ops [⟨some 111,.move (.t 6),none⟩,⟨some 112,.bin .eql (.t 111) (.c (.im (.str [100]))),none⟩,⟨some 110,.move (.t 112),none⟩] []) (.cond (.t 110) (.seq (.ops [⟨some 113,.move (.t 0),none⟩,⟨some 114,.load (some 6) (.t 4),none⟩,⟨some 115,.call (.c (.clo 43 [])) [(.t 114),(.c (.im (.bool true))),(.c (.im (.bool false))),(.c (.im (.bool false))),(.c (.im (.bool false)))],none⟩,⟨some 116,.un .not (.t 115),none⟩,⟨some 117,.move (.t 116),none⟩,⟨some 118,.fieldAddr 1 (.t 4),some (117,false)⟩,⟨some 119,.load none (.t 118),some (117,false)⟩,⟨some 120,.bin .lss (.t 119) (.c (.im (.int .i64 0))),some (117,false)⟩,⟨some 121,.pick (.t 117) (.c (.im (.bool true))) (.t 120),none⟩,⟨some 122,.move (.t 121),none⟩,⟨some 123,.fieldAddr 1 (.t 4),some (122,false)⟩,⟨some 124,.load none (.t 123),some (122,false)⟩,⟨some 125,.bin .gtr (.t 124) (.c (.im (.int .i64 9))),some (122,false)⟩,⟨some 126,.pick (.t 122) (.c (.im (.bool true))) (.t 125),none⟩,⟨some 127,.nilCheck (.t 113),none⟩,⟨some 128,.fieldAddr 2 (.t 127),none⟩,⟨none,.store 1 (.t 128) (.t 126),none⟩] []) (.ops [⟨some 129,.move (.t 0),none⟩,⟨some 130,.nilCheck (.t 129),none⟩,⟨some 131,.fieldAddr 0 (.t 130),none⟩,⟨some 132,.fieldAddr 1 (.t 4),none⟩,⟨some 133,.load none (.t 132),none⟩,⟨some 134,.call (.c (.clo 45 [])) [(.t 133)],none⟩,⟨some 135,.bin .add (.c (.im (.str [115,105,100,101,40]))) (.t 134),none⟩,⟨some 136,.bin .add (.t 135) (.c (.im (.str [41]))),none⟩,⟨some 137,.call (.c (.clo 44 [])) [(.t 131),(.t 136)],none⟩] [])) (.seq (.ops [⟨some 139,.move (.t 6),none⟩,⟨some 140,.bin .eql (.t 139) (.c (.im (.str [116]))),none⟩,⟨some 138,.move (.t 140),none⟩] []) (.cond (.t 138) (.seq (.ops [⟨some 142,.fieldAddr 3 (.t 4),none⟩,⟨some 143,.load (some 2) (.t 142),none⟩,⟨some 144,.call (.c (.clo 48 [])) [(.t 143)],none⟩,⟨some 141,.move (.t 144),none⟩,⟨some 145,.extract 0 (.t 141),none⟩,⟨some 146,.extract 1 (.t 141),none⟩,⟨some 8,.move (.t 145),none⟩,⟨some 9,.move (.t 146),none⟩] []) (.seq (.ops [⟨some 147,.move (.t 0),none⟩,⟨some 148,.load (some 6) (.t 4),none⟩,⟨some 149,.call (.c (.clo 43 [])) [(.t 148),(.c (.im (.bool false))),(.c (.im (.bool false))),(.c (.im (.bool true))),(.c (.im (.bool false)))],none⟩,⟨some 150,.un .not (.t 149),none⟩,⟨some 151,.move (.t 150),none⟩,⟨some 152,.move (.t 9),some (151,false)⟩,⟨some 153,.bin .neq (.t 152) (.c (.im (.int .i64 0))),some (151,false)⟩,⟨some 154,.pick (.t 151) (.c (.im (.bool true))) (.t 153),none⟩,⟨some 155,.nilCheck (.t 147),none⟩,⟨some 156,.fieldAddr 2 (.t 155),none⟩,⟨none,.store 1 (.t 156) (.t 154),none⟩] []) (.ops [⟨some 157,.move (.t 0),none⟩,⟨some 158,.nilCheck (.t 157),none⟩,⟨some 159,.fieldAddr 0 (.t 158),none⟩,⟨some 160,.fieldAddr 0 (.t 4),none⟩,⟨some 161,.load none (.t 160),none⟩,⟨some 162,.bin .add (.t 161) (.c (.im (.str [40]))),none⟩,⟨some 163,.move (.t 8),none⟩,⟨some 164,.bin .add (.t 162) (.t 163),none⟩,⟨some 165,.bin .add (.t 164) (.c (.im (.str [41]))),none⟩,⟨some 166,.call (.c (.clo 44 [])) [(.t 159),(.t 165)],none⟩] []))) (.ops [⟨some 16,.move (.t 0),none⟩,⟨some 17,.load (some 6) (.t 4),none⟩,⟨some 18,.move (.t 6),none⟩,⟨some 19,.move (.t 2),none⟩,⟨some 20,.call (.c (.clo 49 [])) [(.t 16),(.t 17),(.t 18),(.t 19)],none⟩] [])))))))))))))))))),false⟩
theorem F24 : F 24 = some f24 := by kernel_rfl
def f25 : AFunc := ⟨8,[(2,none)],(.seq (.ops [⟨some 2,.move (.c (.im (.int .i64 0))),none⟩] []) (.seq (.ops [⟨some 3,.move (.t 0),none⟩,⟨some 4,.nilCheck (.t 3),none⟩,⟨some 5,.fieldAddr 1 (.t 4),none⟩,⟨some 6,.load none (.t 5),none⟩,⟨some 7,.lenSl (.t 6),none⟩,⟨some 2,.move (.t 7),none⟩] []) .ret)),false⟩
theorem F25 : F 25 = some f25 := by kernel_rfl
def f29 : AFunc := ⟨22,[(2,none)],(.seq (.ops [⟨some 2,.move (.c (.im (.int .u8 0))),none⟩] []) (.seq (.seq (.ops [⟨some 3,.move (.t 0),none⟩,⟨some 4,.nilCheck (.t 3),none⟩,⟨some 5,.fieldAddr 1 (.t 4),none⟩,⟨some 6,.load none (.t 5),none⟩,⟨some 7,.move (.t 0),none⟩,⟨some 8,.nilCheck (.t 7),none⟩,⟨some 9,.fieldAddr 0 (.t 8),none⟩,⟨some 10,.load none (.t 9),none⟩,⟨some 11,.lenStr (.t 10),none⟩,⟨some 12,.bin .lss (.t 6) (.t 11),none⟩] []) (.cond (.t 12) (.seq (.ops [⟨some 13,.move (.t 0),none⟩,⟨some 14,.nilCheck (.t 13),none⟩,⟨some 15,.fieldAddr 0 (.t 14),none⟩,⟨some 16,.load none (.t 15),none⟩,⟨some 17,.move (.t 0),none⟩,⟨some 18,.nilCheck (.t 17),none⟩,⟨some 19,.fieldAddr 1 (.t 18),none⟩,⟨some 20,.load none (.t 19),none⟩,⟨some 21,.indexStr (.t 16) (.t 20),none⟩,⟨some 2,.move (.t 21),none⟩] []) .ret) .skip)) (.seq (.ops [⟨some 2,.move (.c (.im (.int .u8 0))),none⟩] []) .ret))),false⟩
theorem F29 : F 29 = some f29 := by kernel_rfl
def c30_0 : ACode := (.scope (.seq (.ops [⟨some 3,.move (.c .nils),none⟩] []) (.seq (.label 0) (.seq (.ops [⟨some 5,.move (.t 0),none⟩,⟨some 6,.call (.c (.clo 29 [])) [(.t 5)],none⟩,⟨some 4,.move (.t 6),none⟩] []) (.seq (.block 0 (.seq (.ops [⟨some 8,.move (.t 4),none⟩,⟨some 9,.bin .eql (.t 8) (.c (.im (.int .u8 34))),none⟩,⟨some 7,.move (.t 9),none⟩] []) (.cond (.t 7) (.seq (.ops [⟨some 10,.move (.t 0),none⟩,⟨some 11,.nilCheck (.t 10),none⟩,⟨some 12,.fieldAddr 1 (.t 11),none⟩,⟨some 13,.load none (.t 12),none⟩,⟨some 14,.bin .add (.t 13) (.c (.im (.int .i64 1))),none⟩,⟨some 15,.nilCheck (.t 10),none⟩,⟨some 16,.fieldAddr 1 (.t 15),none⟩,⟨none,.store 1 (.t 16) (.t 14),none⟩] []) (.seq (.ops [⟨some 17,.move (.t 3),none⟩,⟨some 18,.b2s (.t 17),none⟩,⟨some 19,.build [(.im (.str [])),(.im (.int .i64 0)),(.im (.str [])),(.im (.int .i64 0)),.nils,.nils] [(0,(1,(.c (.im (.str [116,101,120,116,95,111,102]))))),(2,(1,(.t 18)))],none⟩,⟨none,.store 6 (.t 2) (.t 19),none⟩] []) .ret)) (.seq (.ops [⟨some 21,.move (.t 3),none⟩,⟨some 22,.lenSl (.t 21),none⟩,⟨some 23,.bin .eql (.t 22) (.c (.im (.int .i64 256))),none⟩,⟨some 24,.move (.t 23),none⟩,⟨some 25,.move (.t 4),some (24,false)⟩,⟨some 26,.call (.c (.clo 51 [])) [(.t 25)],some (24,false)⟩,⟨some 27,.un .not (.t 26),some (24,false)⟩,⟨some 28,.move (.t 27),some (24,false)⟩,⟨some 29,.move (.t 4),some (28,true)⟩,⟨some 30,.bin .neq (.t 29) (.c (.im (.int .u8 92))),some (28,true)⟩,⟨some 31,.pick (.t 28) (.t 30) (.c (.im (.bool false))),some (24,false)⟩,⟨some 32,.pick (.t 24) (.c (.im (.bool true))) (.t 31),none⟩,⟨some 20,.move (.t 32),none⟩] []) (.cond (.t 20) (.seq (.ops [⟨some 33,.move (.t 0),none⟩,⟨some 34,.nilCheck (.t 33),none⟩,⟨some 35,.fieldAddr 2 (.t 34),none⟩,⟨none,.store 1 (.t 35) (.c (.im (.bool true))),none⟩] []) (.seq (.ops [⟨some 36,.build [(.im (.str [])),(.im (.int .i64 0)),(.im (.str [])),(.im (.int .i64 0)),.nils,.nils] [],none⟩,⟨none,.store 6 (.t 2) (.t 36),none⟩] []) .ret)) .skip))))) (.seq (.ops [⟨some 37,.move (.t 0),none⟩,⟨some 38,.nilCheck (.t 37),none⟩,⟨some 39,.fieldAddr 1 (.t 38),none⟩,⟨some 40,.load none (.t 39),none⟩,⟨some 41,.bin .add (.t 40) (.c (.im (.int .i64 1))),none⟩,⟨some 42,.nilCheck (.t 37),none⟩,⟨some 43,.fieldAddr 1 (.t 42),none⟩,⟨none,.store 1 (.t 43) (.t 41),none⟩] []) (.seq (.seq (.ops [⟨some 44,.move (.t 4),none⟩,⟨some 45,.bin .eql (.t 44) (.c (.im (.int .u8 92))),none⟩] []) (.cond (.t 45) (.ops [⟨some 46,.move (.t 0),none⟩,⟨some 47,.call (.c (.clo 52 [])) [(.t 46)],none⟩,⟨some 4,.move (.t 47),none⟩] []) .skip)) (.seq (.ops [⟨some 48,.move (.t 3),none⟩,⟨some 49,.move (.t 4),none⟩,⟨some 50,.bslice false 1 1 [(.im (.int .u8 0))] [(0,(.t 49))],none⟩,⟨some 51,.append 5 1 1 (.t 48) (.t 50),none⟩,⟨some 3,.move (.t 51),none⟩] []) (.seq (.seq (.ops [⟨some 52,.move (.t 0),none⟩,⟨some 53,.nilCheck (.t 52),none⟩,⟨some 54,.fieldAddr 2 (.t 53),none⟩,⟨some 55,.load none (.t 54),none⟩,⟨some 56,.un .not (.t 55),none⟩] []) (.cond (.t 56) (.goto 0) .skip)) (.seq (.ops [⟨some 57,.build [(.im (.str [])),(.im (.int .i64 0)),(.im (.str [])),(.im (.int .i64 0)),.nils,.nils] [],none⟩,⟨none,.store 6 (.t 2) (.t 57),none⟩] []) .ret))))))))) (.seq (.ops [⟨some 3,.move (.c .nils),none⟩] []) (.seq (.label 0) (.seq (.ops [⟨some 5,.move (.t 0),none⟩,⟨some 6,.call (.c (.clo 29 [])) [(.t 5)],none⟩,⟨some 4,.move (.t 6),none⟩] []) (.seq (.block 0 (.seq (.ops [⟨some 8,.move (.t 4),none⟩,⟨some 9,.bin .eql (.t 8) (.c (.im (.int .u8 34))),none⟩,⟨some 7,.move (.t 9),none⟩] []) (.cond (.t 7) (.seq (.ops [⟨some 10,.move (.t 0),none⟩,⟨some 11,.nilCheck (.t 10),none⟩,⟨some 12,.fieldAddr 1 (.t 11),none⟩,⟨some 13,.load none (.t 12),none⟩,⟨some 14,.bin .add (.t 13) (.c (.im (.int .i64 1))),none⟩,⟨some 15,.nilCheck (.t 10),none⟩,⟨some 16,.fieldAddr 1 (.t 15),none⟩,⟨none,.store 1 (.t 16) (.t 14),none⟩] []) (.seq (.ops [⟨some 17,.move (.t 3),none⟩,⟨some 18,.b2s (.t 17),none⟩,⟨some 19,.build [(.im (.str [])),(.im (.int .i64 0)),(.im (.str [])),(.im (.int .i64 0)),.nils,.nils] [(0,(1,(.c (.im (.str [116,101,120,116,95,111,102]))))),(2,(1,(.t 18)))],none⟩,⟨none,.store 6 (.t 2) (.t 19),none⟩] []) .ret)) (.seq (.ops [⟨some 21,.move (.t 3),none⟩,⟨some 22,.lenSl (.t 21),none⟩,⟨some 23,.bin .eql (.t 22) (.c (.im (.int .i64 256))),none⟩,⟨some 24,.move (.t 23),none⟩,⟨some 25,.move (.t 4),some (24,false)⟩,⟨some 26,.call (.c (.clo 51 [])) [(.t 25)],some (24,false)⟩,⟨some 27,.un .not (.t 26),some (24,false)⟩,⟨some 28,.move (.t 27),some (24,false)⟩,⟨some 29,.move (.t 4),some (28,true)⟩,⟨some 30,.bin .neq (.t 29) (.c (.im (.int .u8 92))),some (28,true)⟩,⟨some 31,.pick (.t 28) (.t 30) (.c (.im (.bool false))),some (24,false)⟩,⟨some 32,.pick (.t 24) (.c (.im (.bool true))) (.t 31),none⟩,⟨some 20,.move (.t 32),none⟩] []) (.cond (.t 20) (.seq (.ops [⟨some 33,.move (.t 0),none⟩,⟨some 34,.nilCheck (.t 33),none⟩,⟨some 35,.fieldAddr 2 (.t 34),none⟩,⟨none,.store 1 (.t 35) (.c (.im (.bool true))),none⟩] []) (.seq (.ops [⟨some 36,.build [(.im (.str [])),(.im (.int .i64 0)),(.im (.str [])),(.im (.int .i64 0)),.nils,.nils] [],none⟩,⟨none,.store 6 (.t 2) (.t 36),none⟩] []) .ret)) .skip))))) (.seq (.ops [⟨some 37,.move (.t 0),none⟩,⟨some 38,.nilCheck (.t 37),none⟩,⟨some 39,.fieldAddr 1 (.t 38),none⟩,⟨some 40,.load none (.t 39),none⟩,⟨some 41,.bin .add (.t 40) (.c (.im (.int .i64 1))),none⟩,⟨some 42,.nilCheck (.t 37),none⟩,⟨some 43,.fieldAddr 1 (.t 42),none⟩,⟨none,.store 1 (.t 43) (.t 41),none⟩] []) (.seq (.seq (.ops [⟨some 44,.move (.t 4),none⟩,⟨some 45,.bin .eql (.t 44) (.c (.im (.int .u8 92))),none⟩] []) (.cond (.t 45) (.ops [⟨some 46,.move (.t 0),none⟩,⟨some 47,.call (.c (.clo 52 [])) [(.t 46)],none⟩,⟨some 4,.move (.t 47),none⟩] []) .skip)) (.seq (.ops [⟨some 48,.move (.t 3),none⟩,⟨some 49,.move (.t 4),none⟩,⟨some 50,.bslice false 1 1 [(.im (.int .u8 0))] [(0,(.t 49))],none⟩,⟨some 51,.append 5 1 1 (.t 48) (.t 50),none⟩,⟨some 3,.move (.t 51),none⟩] []) (.seq (.seq (.ops [⟨some 52,.move (.t 0),none⟩,⟨some 53,.nilCheck (.t 52),none⟩,⟨some 54,.fieldAddr 2 (.t 53),none⟩,⟨some 55,.load none (.t 54),none⟩,⟨some 56,.un .not (.t 55),none⟩] []) (.cond (.t 56) (.goto 0) .skip)) (.seq (.ops [⟨some 57,.build [(.im (.str [])),(.im (.int .i64 0)),(.im (.str [])),(.im (.int .i64 0)),.nils,.nils] [],none⟩,⟨none,.store 6 (.t 2) (.t 57),none⟩] []) .ret))))))))))
theorem e30_0 : exec0 Φ Λ' c30_0 tm H K = thenL (Λ' c30_0 tm H) K := rfl
def f30 : AFunc := ⟨58,[(2,(some (some 6)))],(.seq (.ops [⟨some 2,.alloc none [(.im (.str [])),(.im (.int .i64 0)),(.im (.str [])),(.im (.int .i64 0)),.nils,.nils],none⟩] []) c30_0),false⟩
theorem F30 : F 30 = some f30 := by kernel_rfl
def c31_0 : ACode := (.scope (.seq (.ops [⟨some 3,.move (.c (.im (.int .i64 1))),none⟩,⟨some 4,.move (.c (.im (.int .u64 9223372036854775807))),none⟩] []) (.seq (.seq (.ops [⟨some 9,.move (.t 0),none⟩,⟨some 10,.call (.c (.clo 29 [])) [(.t 9)],none⟩,⟨some 11,.bin .eql (.t 10) (.c (.im (.int .u8 45))),none⟩] []) (.cond (.t 11) (.seq (.ops [⟨some 12,.move (.t 0),none⟩,⟨some 13,.nilCheck (.t 12),none⟩,⟨some 14,.fieldAddr 1 (.t 13),none⟩,⟨some 15,.load none (.t 14),none⟩,⟨some 16,.bin .add (.t 15) (.c (.im (.int .i64 1))),none⟩,⟨some 17,.nilCheck (.t 12),none⟩,⟨some 18,.fieldAddr 1 (.t 17),none⟩,⟨none,.store 1 (.t 18) (.t 16),none⟩] []) (.ops [⟨some 3,.move (.c (.im (.int .i64 (-1)))),none⟩,⟨some 4,.move (.c (.im (.int .u64 9223372036854775808))),none⟩] [])) .skip)) (.seq (.seq (.ops [⟨some 19,.move (.t 0),none⟩,⟨some 20,.call (.c (.clo 29 [])) [(.t 19)],none⟩,⟨some 5,.move (.t 20),none⟩] []) (.seq (.ops [⟨some 21,.move (.t 5),none⟩,⟨some 22,.bin .lss (.t 21) (.c (.im (.int .u8 48))),none⟩,⟨some 23,.move (.t 22),none⟩,⟨some 24,.move (.t 5),some (23,false)⟩,⟨some 25,.bin .gtr (.t 24) (.c (.im (.int .u8 57))),some (23,false)⟩,⟨some 26,.pick (.t 23) (.c (.im (.bool true))) (.t 25),none⟩,⟨some 27,.move (.t 26),none⟩,⟨some 28,.move (.t 5),some (27,false)⟩,⟨some 29,.bin .eql (.t 28) (.c (.im (.int .u8 48))),some (27,false)⟩,⟨some 30,.move (.t 29),some (27,false)⟩,⟨some 31,.move (.t 3),some (30,true)⟩,⟨some 32,.bin .lss (.t 31) (.c (.im (.int .i64 0))),some (30,true)⟩,⟨some 33,.pick (.t 30) (.t 32) (.c (.im (.bool false))),some (27,false)⟩,⟨some 34,.pick (.t 27) (.c (.im (.bool true))) (.t 33),none⟩] []) (.cond (.t 34) (.seq (.ops [⟨some 35,.move (.t 0),none⟩,⟨some 36,.nilCheck (.t 35),none⟩,⟨some 37,.fieldAddr 2 (.t 36),none⟩,⟨none,.store 1 (.t 37) (.c (.im (.bool true))),none⟩] []) (.seq (.ops [⟨some 38,.build [(.im (.str [])),(.im (.int .i64 0)),(.im (.str [])),(.im (.int .i64 0)),.nils,.nils] [],none⟩,⟨none,.store 6 (.t 2) (.t 38),none⟩] []) .ret)) .skip))) (.seq (.ops [⟨some 39,.move (.t 0),none⟩,⟨some 40,.call (.c (.clo 29 [])) [(.t 39)],none⟩,⟨some 41,.bin .sub (.t 40) (.c (.im (.int .u8 48))),none⟩,⟨some 42,.i2i .u64 (.t 41),none⟩,⟨some 6,.move (.t 42),none⟩] []) (.seq (.ops [⟨some 43,.move (.t 0),none⟩,⟨some 44,.nilCheck (.t 43),none⟩,⟨some 45,.fieldAddr 1 (.t 44),none⟩,⟨some 46,.load none (.t 45),none⟩,⟨some 47,.bin .add (.t 46) (.c (.im (.int .i64 1))),none⟩,⟨some 48,.nilCheck (.t 43),none⟩,⟨some 49,.fieldAddr 1 (.t 48),none⟩,⟨none,.store 1 (.t 49) (.t 47),none⟩] []) (.seq (.label 0) (.seq (.ops [⟨some 50,.move (.t 0),none⟩,⟨some 51,.call (.c (.clo 29 [])) [(.t 50)],none⟩,⟨some 7,.move (.t 51),none⟩] []) (.seq (.seq (.ops [⟨some 52,.move (.t 7),none⟩,⟨some 53,.bin .lss (.t 52) (.c (.im (.int .u8 48))),none⟩,⟨some 54,.move (.t 53),none⟩,⟨some 55,.move (.t 7),some (54,false)⟩,⟨some 56,.bin .gtr (.t 55) (.c (.im (.int .u8 57))),some (54,false)⟩,⟨some 57,.pick (.t 54) (.c (.im (.bool true))) (.t 56),none⟩] []) (.cond (.t 57) (.seq (.ops [⟨some 58,.move (.t 3),none⟩,⟨some 59,.move (.t 6),none⟩,⟨some 60,.i2i .i64 (.t 59),none⟩,⟨some 61,.bin .mul (.t 58) (.t 60),none⟩,⟨some 62,.build [(.im (.str [])),(.im (.int .i64 0)),(.im (.str [])),(.im (.int .i64 0)),.nils,.nils] [(0,(1,(.c (.im (.str [105,110,116]))))),(1,(1,(.t 61)))],none⟩,⟨none,.store 6 (.t 2) (.t 62),none⟩] []) .ret) .skip)) (.seq (.seq (.ops [⟨some 63,.move (.t 7),none⟩,⟨some 64,.bin .sub (.t 63) (.c (.im (.int .u8 48))),none⟩,⟨some 65,.i2i .u64 (.t 64),none⟩,⟨some 8,.move (.t 65),none⟩] []) (.seq (.ops [⟨some 66,.move (.t 6),none⟩,⟨some 67,.bin .gtr (.t 66) (.c (.im (.int .u64 0))),none⟩,⟨some 68,.move (.t 67),none⟩,⟨some 69,.move (.t 6),some (68,true)⟩,⟨some 70,.move (.t 4),some (68,true)⟩,⟨some 71,.move (.t 8),some (68,true)⟩,⟨some 72,.bin .sub (.t 70) (.t 71),some (68,true)⟩,⟨some 73,.bin .quo (.t 72) (.c (.im (.int .u64 10))),some (68,true)⟩,⟨some 74,.bin .leq (.t 69) (.t 73),some (68,true)⟩,⟨some 75,.pick (.t 68) (.t 74) (.c (.im (.bool false))),none⟩] []) (.cond (.t 75) (.seq (.ops [⟨some 76,.move (.t 6),none⟩,⟨some 77,.bin .mul (.c (.im (.int .u64 10))) (.t 76),none⟩,⟨some 78,.move (.t 8),none⟩,⟨some 79,.bin .add (.t 77) (.t 78),none⟩,⟨some 6,.move (.t 79),none⟩] []) (.seq (.ops [⟨some 80,.move (.t 0),none⟩,⟨some 81,.nilCheck (.t 80),none⟩,⟨some 82,.fieldAddr 1 (.t 81),none⟩,⟨some 83,.load none (.t 82),none⟩,⟨some 84,.bin .add (.t 83) (.c (.im (.int .i64 1))),none⟩,⟨some 85,.nilCheck (.t 80),none⟩,⟨some 86,.fieldAddr 1 (.t 85),none⟩,⟨none,.store 1 (.t 86) (.t 84),none⟩] []) (.goto 0))) .skip))) (.seq (.ops [⟨some 87,.move (.t 0),none⟩,⟨some 88,.nilCheck (.t 87),none⟩,⟨some 89,.fieldAddr 2 (.t 88),none⟩,⟨none,.store 1 (.t 89) (.c (.im (.bool true))),none⟩] []) (.seq (.ops [⟨some 90,.build [(.im (.str [])),(.im (.int .i64 0)),(.im (.str [])),(.im (.int .i64 0)),.nils,.nils] [],none⟩,⟨none,.store 6 (.t 2) (.t 90),none⟩] []) .ret))))))))))) (.seq (.ops [⟨some 3,.move (.c (.im (.int .i64 1))),none⟩,⟨some 4,.move (.c (.im (.int .u64 9223372036854775807))),none⟩] []) (.seq (.seq (.ops [⟨some 9,.move (.t 0),none⟩,⟨some 10,.call (.c (.clo 29 [])) [(.t 9)],none⟩,⟨some 11,.bin .eql (.t 10) (.c (.im (.int .u8 45))),none⟩] []) (.cond (.t 11) (.seq (.ops [⟨some 12,.move (.t 0),none⟩,⟨some 13,.nilCheck (.t 12),none⟩,⟨some 14,.fieldAddr 1 (.t 13),none⟩,⟨some 15,.load none (.t 14),none⟩,⟨some 16,.bin .add (.t 15) (.c (.im (.int .i64 1))),none⟩,⟨some 17,.nilCheck (.t 12),none⟩,⟨some 18,.fieldAddr 1 (.t 17),none⟩,⟨none,.store 1 (.t 18) (.t 16),none⟩] []) (.ops [⟨some 3,.move (.c (.im (.int .i64 (-1)))),none⟩,⟨some 4,.move (.c (.im (.int .u64 9223372036854775808))),none⟩] [])) .skip)) (.seq (.seq (.ops [⟨some 19,.move (.t 0),none⟩,⟨some 20,.call (.c (.clo 29 [])) [(.t 19)],none⟩,⟨some 5,.move (.t 20),none⟩] []) (.seq (.ops [⟨some 21,.move (.t 5),none⟩,⟨some 22,.bin .lss (.t 21) (.c (.im (.int .u8 48))),none⟩,⟨some 23,.move (.t 22),none⟩,⟨some 24,.move (.t 5),some (23,false)⟩,⟨some 25,.bin .gtr (.t 24) (.c (.im (.int .u8 57))),some (23,false)⟩,⟨some 26,.pick (.t 23) (.c (.im (.bool true))) (.t 25),none⟩,⟨some 27,.move (.t 26),none⟩,⟨some 28,.move (.t 5),some (27,false)⟩,⟨some 29,.bin .eql (.t 28) (.c (.im (.int .u8 48))),some (27,false)⟩,⟨some 30,.move (.t 29),some (27,false)⟩,⟨some 31,.move (.t 3),some (30,true)⟩,⟨some 32,.bin .lss (.t 31) (.c (.im (.int .i64 0))),some (30,true)⟩,⟨some 33,.pick (.t 30) (.t 32) (.c (.im (.bool false))),some (27,false)⟩,⟨some 34,.pick (.t 27) (.c (.im (.bool true))) (.t 33),none⟩] []) (.cond (.t 34) (.seq (.ops [⟨some 35,.move (.t 0),none⟩,⟨some 36,.nilCheck (.t 35),none⟩,⟨some 37,.fieldAddr 2 (.t 36),none⟩,⟨none,.store 1 (.t 37) (.c (.im (.bool true))),none⟩] []) (.seq (.ops [⟨some 38,.build [(.im (.str [])),(.im (.int .i64 0)),(.im (.str [])),(.im (.int .i64 0)),.nils,.nils] [],none⟩,⟨none,.store 6 (.t 2) (.t 38),none⟩] []) .ret)) .skip))) (.seq (.ops [⟨some 39,.move (.t 0),none⟩,⟨some 40,.call (.c (.clo 29 [])) [(.t 39)],none⟩,⟨some 41,.bin .sub (.t 40) (.c (.im (.int .u8 48))),none⟩,⟨some 42,.i2i .u64 (.t 41),none⟩,⟨some 6,.move (.t 42),none⟩] []) (.seq (.ops [⟨some 43,.move (.t 0),none⟩,⟨some 44,.nilCheck (.t 43),none⟩,⟨some 45,.fieldAddr 1 (.t 44),none⟩,⟨some 46,.load none (.t 45),none⟩,⟨some 47,.bin .add (.t 46) (.c (.im (.int .i64 1))),none⟩,⟨some 48,.nilCheck (.t 43),none⟩,⟨some 49,.fieldAddr 1 (.t 48),none⟩,⟨none,.store 1 (.t 49) (.t 47),none⟩] []) (.seq (.label 0) (.seq (.ops [⟨some 50,.move (.t 0),none⟩,⟨some 51,.call (.c (.clo 29 [])) [(.t 50)],none⟩,⟨some 7,.move (.t 51),none⟩] []) (.seq (.seq (.ops [⟨some 52,.move (.t 7),none⟩,⟨some 53,.bin .lss (.t 52) (.c (.im (.int .u8 48))),none⟩,⟨some 54,.move (.t 53),none⟩,⟨some 55,.move (.t 7),some (54,false)⟩,⟨some 56,.bin .gtr (.t 55) (.c (.im (.int .u8 57))),some (54,false)⟩,⟨some 57,.pick (.t 54) (.c (.im (.bool true))) (.t 56),none⟩] []) (.cond (.t 57) (.seq (.ops [⟨some 58,.move (.t 3),none⟩,⟨some 59,.move (.t 6),none⟩,⟨some 60,.i2i .i64 (.t 59),none⟩,⟨some 61,.bin .mul (.t 58) (.t 60),none⟩,⟨some 62,.build [(.im (.str [])),(.im (.int .i64 0)),(.im (.str [])),(.im (.int .i64 0)),.nils,.nils] [(0,(1,(.c (.im (.str [105,110,116]))))),(1,(1,(.t 61)))],none⟩,⟨none,.store 6 (.t 2) (.t 62),none⟩] []) .ret) .skip)) (.seq (.seq (.ops [⟨some 63,.move (.t 7),none⟩,⟨some 64,.bin .sub (.t 63) (.c (.im (.int .u8 48))),none⟩,⟨some 65,.i2i .u64 (.t 64),none⟩,⟨some 8,.move (.t 65),none⟩] []) (.seq (.ops [⟨some 66,.move (.t 6),none⟩,⟨some 67,.bin .gtr (.t 66) (.c (.im (.int .u64 0))),none⟩,⟨some 68,.move (.t 67),none⟩,⟨some 69,.move (.t 6),some (68,true)⟩,⟨some 70,.move (.t 4),some (68,true)⟩,⟨some 71,.move (.t 8),some (68,true)⟩,⟨some 72,.bin .sub (.t 70) (.t 71),some (68,true)⟩,⟨some 73,.bin .quo (.t 72) (.c (.im (.int .u64 10))),some (68,true)⟩,⟨some 74,.bin .leq (.t 69) (.t 73),some (68,true)⟩,⟨some 75,.pick (.t 68) (.t 74) (.c (.im (.bool false))),none⟩] []) (.cond (.t 75) (.seq (.ops [⟨some 76,.move (.t 6),none⟩,⟨some 77,.bin .mul (.c (.im (.int .u64 10))) (.t 76),none⟩,⟨some 78,.move (.t 8),none⟩,⟨some 79,.bin .add (.t 77) (.t 78),none⟩,⟨some 6,.move (.t 79),none⟩] []) (.seq (.ops [⟨some 80,.move (.t 0),none⟩,⟨some 81,.nilCheck (.t 80),none⟩,⟨some 82,.fieldAddr 1 (.t 81),none⟩,⟨some 83,.load none (.t 82),none⟩,⟨some 84,.bin .add (.t 83) (.c (.im (.int .i64 1))),none⟩,⟨some 85,.nilCheck (.t 80),none⟩,⟨some 86,.fieldAddr 1 (.t 85),none⟩,⟨none,.store 1 (.t 86) (.t 84),none⟩] []) (.goto 0))) .skip))) (.seq (.ops [⟨some 87,.move (.t 0),none⟩,⟨some 88,.nilCheck (.t 87),none⟩,⟨some 89,.fieldAddr 2 (.t 88),none⟩,⟨none,.store 1 (.t 89) (.c (.im (.bool true))),none⟩] []) (.seq (.ops [⟨some 90,.build [(.im (.str [])),(.im (.int .i64 0)),(.im (.str [])),(.im (.int .i64 0)),.nils,.nils] [],none⟩,⟨none,.store 6 (.t 2) (.t 90),none⟩] []) .ret))))))))))))
theorem e31_0 : exec0 Φ Λ' c31_0 tm H K = thenL (Λ' c31_0 tm H) K := rfl
def f31 : AFunc := ⟨91,[(2,(some (some 6)))],(.seq (.ops [⟨some 2,.alloc none [(.im (.str [])),(.im (.int .i64 0)),(.im (.str [])),(.im (.int .i64 0)),.nils,.nils],none⟩] []) c31_0),false⟩
theorem F31 : F 31 = some f31 := by kernel_rfl
def b32_0 : ACode := (.seq (.seq (.ops [⟨some 8,.move (.t 0),none⟩,⟨some 9,.nilCheck (.t 8),none⟩,⟨some 10,.fieldAddr 1 (.t 9),none⟩,⟨some 11,.load none (.t 10),none⟩,⟨some 12,.move (.t 3),none⟩,⟨some 13,.bin .sub (.t 11) (.t 12),none⟩,⟨some 14,.bin .lss (.t 13) (.c (.im (.int .i64 16))),none⟩,⟨some 15,.move (.t 14),none⟩,⟨some 16,.move (.t 0),some (15,true)⟩,⟨some 17,.call (.c (.clo 29 [])) [(.t 16)],some (15,true)⟩,⟨some 18,.call (.c (.clo 34 [])) [(.t 17)],some (15,true)⟩,⟨some 19,.pick (.t 15) (.t 18) (.c (.im (.bool false))),none⟩,⟨some 20,.move (.t 19),none⟩,⟨some 21,.move (.t 0),some (20,true)⟩,⟨some 22,.nilCheck (.t 21),some (20,true)⟩,⟨some 23,.fieldAddr 1 (.t 22),some (20,true)⟩,⟨some 24,.load none (.t 23),some (20,true)⟩,⟨some 25,.move (.t 3),some (20,true)⟩,⟨some 26,.bin .gtr (.t 24) (.t 25),some (20,true)⟩,⟨some 27,.move (.t 26),some (20,true)⟩,⟨some 28,.move (.t 0),some (27,false)⟩,⟨some 29,.call (.c (.clo 29 [])) [(.t 28)],some (27,false)⟩,⟨some 30,.bin .geq (.t 29) (.c (.im (.int .u8 97))),some (27,false)⟩,⟨some 31,.pick (.t 27) (.c (.im (.bool true))) (.t 30),some (20,true)⟩,⟨some 32,.pick (.t 20) (.t 31) (.c (.im (.bool false))),none⟩] []) (.cond (.t 32) .skip (.exit 0))) (.block 1 (.ops [⟨some 33,.move (.t 0),none⟩,⟨some 34,.nilCheck (.t 33),none⟩,⟨some 35,.fieldAddr 1 (.t 34),none⟩,⟨some 36,.load none (.t 35),none⟩,⟨some 37,.bin .add (.t 36) (.c (.im (.int .i64 1))),none⟩,⟨some 38,.nilCheck (.t 33),none⟩,⟨some 39,.fieldAddr 1 (.t 38),none⟩,⟨none,.store 1 (.t 39) (.t 37),none⟩] [])))
def c32_0 : ACode := .loop b32_0
theorem e32_0 : exec0 Φ Λ' c32_0 tm H K = thenL (Λ' c32_0 tm H) K := rfl
theorem l32_0 : Λ c32_0 tm H = exec0 L Λ b32_0 tm H fun e tm H => match e with
  | .normal => Λ c32_0 tm H
  | .exit i => some (.exit i, tm, H)
  | .goto l => some (.goto l, tm, H)
  | .ret => some (.ret, tm, H) := loop_eq
def f32 : AFunc := ⟨50,[(2,none)],(.seq (.ops [⟨some 2,.move (.c (.im (.str []))),none⟩] []) (.seq (.ops [⟨some 4,.move (.t 0),none⟩,⟨some 5,.nilCheck (.t 4),none⟩,⟨some 6,.fieldAddr 1 (.t 5),none⟩,⟨some 7,.load none (.t 6),none⟩,⟨some 3,.move (.t 7),none⟩] []) (.seq (.block 0 c32_0) (.seq (.ops [⟨some 40,.move (.t 0),none⟩,⟨some 41,.nilCheck (.t 40),none⟩,⟨some 42,.fieldAddr 0 (.t 41),none⟩,⟨some 43,.load none (.t 42),none⟩,⟨some 44,.move (.t 3),none⟩,⟨some 45,.move (.t 0),none⟩,⟨some 46,.nilCheck (.t 45),none⟩,⟨some 47,.fieldAddr 1 (.t 46),none⟩,⟨some 48,.load none (.t 47),none⟩,⟨some 49,.sliceStr (.t 43) (some (.t 44)) (some (.t 48)),none⟩,⟨some 2,.move (.t 49),none⟩] []) .ret)))),false⟩
theorem F32 : F 32 = some f32 := by kernel_rfl
def f33 : AFunc := ⟨60,[(2,none),(3,none)],(.seq (.ops [⟨some 2,.move (.c (.im (.str []))),none⟩,⟨some 3,.move (.c (.im (.bool false))),none⟩] []) (.seq (.seq (.ops [⟨some 4,.move (.t 0),none⟩] []) (.block 0 (.seq (.seq (.ops [⟨some 6,.bin .eql (.t 4) (.c (.im (.str [116,114,117,101]))),none⟩,⟨some 5,.move (.t 6),none⟩] []) (.cond (.t 5) .skip (.seq (.ops [⟨some 7,.bin .eql (.t 4) (.c (.im (.str [102,97,108,115,101]))),none⟩,⟨some 5,.move (.t 7),none⟩] []) (.cond (.t 5) .skip (.ops [⟨some 8,.bin .eql (.t 4) (.c (.im (.str [105,116]))),none⟩,⟨some 5,.move (.t 8),none⟩] []))))) (.cond (.t 5) (.seq (.ops [⟨some 2,.move (.c (.im (.str []))),none⟩,⟨some 3,.move (.c (.im (.bool true))),none⟩] []) .ret) (.seq (.seq (.ops [⟨some 10,.bin .eql (.t 4) (.c (.im (.str [110,101,103]))),none⟩,⟨some 9,.move (.t 10),none⟩] []) (.cond (.t 9) .skip (.seq (.ops [⟨some 11,.bin .eql (.t 4) (.c (.im (.str [110,111,116]))),none⟩,⟨some 9,.move (.t 11),none⟩] []) (.cond (.t 9) .skip (.seq (.ops [⟨some 12,.bin .eql (.t 4) (.c (.im (.str [102,105,114,115,116]))),none⟩,⟨some 9,.move (.t 12),none⟩] []) (.cond (.t 9) .skip (.seq (.ops [⟨some 13,.bin .eql (.t 4) (.c (.im (.str [115,101,99,111,110,100]))),none⟩,⟨some 9,.move (.t 13),none⟩] []) (.cond (.t 9) .skip (.seq (.ops [⟨some 14,.bin .eql (.t 4) (.c (.im (.str [108,101,110]))),none⟩,⟨some 9,.move (.t 14),none⟩] []) (.cond (.t 9) .skip (.seq (.ops [⟨some 15,.bin .eql (.t 4) (.c (.im (.str [115,111,114,116]))),none⟩,⟨some 9,.move (.t 15),none⟩] []) (.cond (.t 9) .skip (.seq (.ops [⟨some 16,.bin .eql (.t 4) (.c (.im (.str [115,111,109,101]))),none⟩,⟨some 9,.move (.t 16),none⟩] []) (.cond (.t 9) .skip (.seq (.ops [⟨some 17,.bin .eql (.t 4) (.c (.im (.str [105,115,95,115,111,109,101]))),none⟩,⟨some 9,.move (.t 17),none⟩] []) (.cond (.t 9) .skip (.seq (.ops [⟨some 18,.bin .eql (.t 4) (.c (.im (.str [115,105,122,101]))),none⟩,⟨some 9,.move (.t 18),none⟩] []) (.cond (.t 9) .skip (.seq (.ops [⟨some 19,.bin .eql (.t 4) (.c (.im (.str [98,121,116,101,115]))),none⟩,⟨some 9,.move (.t 19),none⟩] []) (.cond (.t 9) .skip (.seq (.ops [⟨some 20,.bin .eql (.t 4) (.c (.im (.str [116,101,120,116]))),none⟩,⟨some 9,.move (.t 20),none⟩] []) (.cond (.t 9) .skip (.seq (.ops [⟨some 21,.bin .eql (.t 4) (.c (.im (.str [115,104,111,119]))),none⟩,⟨some 9,.move (.t 21),none⟩] []) (.cond (.t 9) .skip (.seq (.ops [⟨some 22,.bin .eql (.t 4) (.c (.im (.str [114,101]))),none⟩,⟨some 9,.move (.t 22),none⟩] []) (.cond (.t 9) .skip (.seq (.ops [⟨some 23,.bin .eql (.t 4) (.c (.im (.str [105,109]))),none⟩,⟨some 9,.move (.t 23),none⟩] []) (.cond (.t 9) .skip (.seq (.ops [⟨some 24,.bin .eql (.t 4) (.c (.im (.str [99,111,110,106]))),none⟩,⟨some 9,.move (.t 24),none⟩] []) (.cond (.t 9) .skip (.ops [⟨some 25,.bin .eql (.t 4) (.c (.im (.str [114,97,110,103,101]))),none⟩,⟨some 9,.move (.t 25),none⟩] []))))))))))))))))))))))))))))))) (.cond (.t 9) (.seq (.ops [⟨some 2,.move (.c (.im (.str [101]))),none⟩,⟨some 3,.move (.c (.im (.bool true))),none⟩] []) .ret) (.seq (.seq (.ops [⟨some 27,.bin .eql (.t 4) (.c (.im (.str [97,100,100]))),none⟩,⟨some 26,.move (.t 27),none⟩] []) (.cond (.t 26) .skip (.seq (.ops [⟨some 28,.bin .eql (.t 4) (.c (.im (.str [115,117,98]))),none⟩,⟨some 26,.move (.t 28),none⟩] []) (.cond (.t 26) .skip (.seq (.ops [⟨some 29,.bin .eql (.t 4) (.c (.im (.str [109,117,108]))),none⟩,⟨some 26,.move (.t 29),none⟩] []) (.cond (.t 26) .skip (.seq (.ops [⟨some 30,.bin .eql (.t 4) (.c (.im (.str [100,105,118]))),none⟩,⟨some 26,.move (.t 30),none⟩] []) (.cond (.t 26) .skip (.seq (.ops [⟨some 31,.bin .eql (.t 4) (.c (.im (.str [109,111,100]))),none⟩,⟨some 26,.move (.t 31),none⟩] []) (.cond (.t 26) .skip (.seq (.ops [⟨some 32,.bin .eql (.t 4) (.c (.im (.str [101,113]))),none⟩,⟨some 26,.move (.t 32),none⟩] []) (.cond (.t 26) .skip (.seq (.ops [⟨some 33,.bin .eql (.t 4) (.c (.im (.str [108,116]))),none⟩,⟨some 26,.move (.t 33),none⟩] []) (.cond (.t 26) .skip (.seq (.ops [⟨some 34,.bin .eql (.t 4) (.c (.im (.str [97,110,100]))),none⟩,⟨some 26,.move (.t 34),none⟩] []) (.cond (.t 26) .skip (.seq (.ops [⟨some 35,.bin .eql (.t 4) (.c (.im (.str [111,114]))),none⟩,⟨some 26,.move (.t 35),none⟩] []) (.cond (.t 26) .skip (.seq (.ops [⟨some 36,.bin .eql (.t 4) (.c (.im (.str [112,97,105,114]))),none⟩,⟨some 26,.move (.t 36),none⟩] []) (.cond (.t 26) .skip (.seq (.ops [⟨some 37,.bin .eql (.t 4) (.c (.im (.str [99,111,110,115]))),none⟩,⟨some 26,.move (.t 37),none⟩] []) (.cond (.t 26) .skip (.seq (.ops [⟨some 38,.bin .eql (.t 4) (.c (.im (.str [99,111,110,99,97,116]))),none⟩,⟨some 26,.move (.t 38),none⟩] []) (.cond (.t 26) .skip (.seq (.ops [⟨some 39,.bin .eql (.t 4) (.c (.im (.str [97,116]))),none⟩,⟨some 26,.move (.t 39),none⟩] []) (.cond (.t 26) .skip (.seq (.ops [⟨some 40,.bin .eql (.t 4) (.c (.im (.str [111,114,95,101,108,115,101]))),none⟩,⟨some 26,.move (.t 40),none⟩] []) (.cond (.t 26) .skip (.seq (.ops [⟨some 41,.bin .eql (.t 4) (.c (.im (.str [106,111,105,110]))),none⟩,⟨some 26,.move (.t 41),none⟩] []) (.cond (.t 26) .skip (.ops [⟨some 42,.bin .eql (.t 4) (.c (.im (.str [112,111,105,110,116]))),none⟩,⟨some 26,.move (.t 42),none⟩] []))))))))))))))))))))))))))))))) (.cond (.t 26) (.seq (.ops [⟨some 2,.move (.c (.im (.str [101,101]))),none⟩,⟨some 3,.move (.c (.im (.bool true))),none⟩] []) .ret) (.seq (.seq (.ops [⟨some 44,.bin .eql (.t 4) (.c (.im (.str [105,102]))),none⟩,⟨some 43,.move (.t 44),none⟩] []) (.cond (.t 43) .skip (.ops [⟨some 45,.bin .eql (.t 4) (.c (.im (.str [99,117,116]))),none⟩,⟨some 43,.move (.t 45),none⟩] []))) (.cond (.t 43) (.seq (.ops [⟨some 2,.move (.c (.im (.str [101,101,101]))),none⟩,⟨some 3,.move (.c (.im (.bool true))),none⟩] []) .ret) (.seq (.ops [⟨some 47,.bin .eql (.t 4) (.c (.im (.str [108,105,115,116]))),none⟩,⟨some 46,.move (.t 47),none⟩] []) (.cond (.t 46) (.seq (.ops [⟨some 2,.move (.c (.im (.str [43]))),none⟩,⟨some 3,.move (.c (.im (.bool true))),none⟩] []) .ret) (.seq (.ops [⟨some 49,.bin .eql (.t 4) (.c (.im (.str [115,105,100,101]))),none⟩,⟨some 48,.move (.t 49),none⟩] []) (.cond (.t 48) (.seq (.ops [⟨some 2,.move (.c (.im (.str [100]))),none⟩,⟨some 3,.move (.c (.im (.bool true))),none⟩] []) .ret) (.seq (.seq (.ops [⟨some 51,.bin .eql (.t 4) (.c (.im (.str [110,105,108]))),none⟩,⟨some 50,.move (.t 51),none⟩] []) (.cond (.t 50) .skip (.ops [⟨some 52,.bin .eql (.t 4) (.c (.im (.str [110,111,110,101]))),none⟩,⟨some 50,.move (.t 52),none⟩] []))) (.cond (.t 50) (.seq (.ops [⟨some 2,.move (.c (.im (.str [116]))),none⟩,⟨some 3,.move (.c (.im (.bool true))),none⟩] []) .ret) (.seq (.ops [⟨some 54,.bin .eql (.t 4) (.c (.im (.str [108,101,116]))),none⟩,⟨some 53,.move (.t 54),none⟩] []) (.cond (.t 53) (.seq (.ops [⟨some 2,.move (.c (.im (.str [110,101,101]))),none⟩,⟨some 3,.move (.c (.im (.bool true))),none⟩] []) .ret) (.seq (.seq (.ops [⟨some 56,.bin .eql (.t 4) (.c (.im (.str [109,97,112]))),none⟩,⟨some 55,.move (.t 56),none⟩] []) (.cond (.t 55) .skip (.ops [⟨some 57,.bin .eql (.t 4) (.c (.im (.str [102,105,108,116,101,114]))),none⟩,⟨some 55,.move (.t 57),none⟩] []))) (.cond (.t 55) (.seq (.ops [⟨some 2,.move (.c (.im (.str [101,110,101]))),none⟩,⟨some 3,.move (.c (.im (.bool true))),none⟩] []) .ret) (.seq (.ops [⟨some 59,.bin .eql (.t 4) (.c (.im (.str [102,111,108,100]))),none⟩,⟨some 58,.move (.t 59),none⟩] []) (.cond (.t 58) (.seq (.ops [⟨some 2,.move (.c (.im (.str [101,101,110,110,101]))),none⟩,⟨some 3,.move (.c (.im (.bool true))),none⟩] []) .ret) .skip)))))))))))))))))))))) (.seq (.ops [⟨some 2,.move (.c (.im (.str []))),none⟩,⟨some 3,.move (.c (.im (.bool false))),none⟩] []) .ret))),false⟩
theorem F33 : F 33 = some f33 := by kernel_rfl
def f34 : AFunc := ⟨21,[(2,none)],(.seq (.ops [⟨some 2,.move (.c (.im (.bool false))),none⟩] []) (.seq (.ops [⟨some 3,.move (.t 0),none⟩,⟨some 4,.bin .geq (.t 3) (.c (.im (.int .u8 97))),none⟩,⟨some 5,.move (.t 4),none⟩,⟨some 6,.move (.t 0),some (5,true)⟩,⟨some 7,.bin .leq (.t 6) (.c (.im (.int .u8 122))),some (5,true)⟩,⟨some 8,.pick (.t 5) (.t 7) (.c (.im (.bool false))),none⟩,⟨some 9,.move (.t 8),none⟩,⟨some 10,.move (.t 0),some (9,false)⟩,⟨some 11,.bin .geq (.t 10) (.c (.im (.int .u8 48))),some (9,false)⟩,⟨some 12,.move (.t 11),some (9,false)⟩,⟨some 13,.move (.t 0),some (12,true)⟩,⟨some 14,.bin .leq (.t 13) (.c (.im (.int .u8 57))),some (12,true)⟩,⟨some 15,.pick (.t 12) (.t 14) (.c (.im (.bool false))),some (9,false)⟩,⟨some 16,.pick (.t 9) (.c (.im (.bool true))) (.t 15),none⟩,⟨some 17,.move (.t 16),none⟩,⟨some 18,.move (.t 0),some (17,false)⟩,⟨some 19,.bin .eql (.t 18) (.c (.im (.int .u8 95))),some (17,false)⟩,⟨some 20,.pick (.t 17) (.c (.im (.bool true))) (.t 19),none⟩,⟨some 2,.move (.t 20),none⟩] []) .ret)),false⟩
theorem F34 : F 34 = some f34 := by kernel_rfl
def b35_0 : ACode := (.seq (.seq (.ops [⟨some 14,.move (.t 11),none⟩,⟨some 15,.move (.t 2),none⟩,⟨some 16,.lenStr (.t 15),none⟩,⟨some 17,.bin .lss (.t 14) (.t 16),none⟩,⟨some 18,.move (.t 17),none⟩,⟨some 19,.move (.t 0),some (18,true)⟩,⟨some 20,.nilCheck (.t 19),some (18,true)⟩,⟨some 21,.fieldAddr 2 (.t 20),some (18,true)⟩,⟨some 22,.load none (.t 21),some (18,true)⟩,⟨some 23,.un .not (.t 22),some (18,true)⟩,⟨some 24,.pick (.t 18) (.t 23) (.c (.im (.bool false))),none⟩] []) (.cond (.t 24) .skip (.exit 0))) (.seq (.block 1 (.seq (.ops [⟨some 27,.move (.t 0),none⟩,⟨some 28,.move (.t 10),none⟩,⟨some 29,.call (.c (.clo 53 [])) [(.t 27),(.t 28)],none⟩] []) (.seq (.ops [⟨some 10,.move (.c (.im (.int .u8 44))),none⟩] []) (.seq (.seq (.ops [⟨some 30,.move (.t 0),none⟩,⟨some 31,.nilCheck (.t 30),none⟩,⟨some 32,.fieldAddr 2 (.t 31),none⟩,⟨some 33,.load none (.t 32),none⟩] []) (.cond (.t 33) (.exit 0) .skip)) (.seq (.seq (.ops [⟨some 34,.move (.t 2),none⟩,⟨some 35,.move (.t 11),none⟩,⟨some 36,.indexStr (.t 34) (.t 35),none⟩] []) (.block 2 (.seq (.ops [⟨some 47,.bin .eql (.t 36) (.c (.im (.int .u8 100))),none⟩,⟨some 46,.move (.t 47),none⟩] []) (.cond (.t 46) (.seq (.ops [⟨some 48,.move (.t 0),none⟩,⟨some 49,.call (.c (.clo 19 [])) [(.t 48)],none⟩] []) (.seq (.seq (.ops [⟨some 50,.move (.t 0),none⟩,⟨some 51,.call (.c (.clo 29 [])) [(.t 50)],none⟩,⟨some 52,.i2i .i64 (.t 51),none⟩,⟨some 53,.bin .sub (.t 52) (.c (.im (.int .i64 48))),none⟩,⟨some 54,.fieldAddr 1 (.t 9),none⟩,⟨none,.store 1 (.t 54) (.t 53),none⟩] []) (.seq (.ops [⟨some 55,.fieldAddr 1 (.t 9),none⟩,⟨some 56,.load none (.t 55),none⟩,⟨some 57,.bin .lss (.t 56) (.c (.im (.int .i64 0))),none⟩,⟨some 58,.move (.t 57),none⟩,⟨some 59,.fieldAddr 1 (.t 9),some (58,false)⟩,⟨some 60,.load none (.t 59),some (58,false)⟩,⟨some 61,.bin .gtr (.t 60) (.c (.im (.int .i64 9))),some (58,false)⟩,⟨some 62,.pick (.t 58) (.c (.im (.bool true))) (.t 61),none⟩] []) (.cond (.t 62) (.seq (.ops [⟨some 63,.move (.t 0),none⟩,⟨some 64,.nilCheck (.t 63),none⟩,⟨some 65,.fieldAddr 2 (.t 64),none⟩,⟨none,.store 1 (.t 65) (.c (.im (.bool true))),none⟩] []) (.exit 2)) .skip))) (.ops [⟨some 66,.move (.t 0),none⟩,⟨some 67,.nilCheck (.t 66),none⟩,⟨some 68,.fieldAddr 1 (.t 67),none⟩,⟨some 69,.load none (.t 68),none⟩,⟨some 70,.bin .add (.t 69) (.c (.im (.int .i64 1))),none⟩,⟨some 71,.nilCheck (.t 66),none⟩,⟨some 72,.fieldAddr 1 (.t 71),none⟩,⟨none,.store 1 (.t 72) (.t 70),none⟩] []))) (.seq (.ops [⟨some 74,.bin .eql (.t 36) (.c (.im (.int .u8 116))),none⟩,⟨some 73,.move (.t 74),none⟩] []) (.cond (.t 73) (.ops [⟨some 75,.move (.t 0),none⟩,⟨some 76,.call (.c (.clo 54 [])) [(.t 75)],none⟩,⟨some 77,.fieldAddr 3 (.t 9),none⟩,⟨none,.store 2 (.t 77) (.t 76),none⟩] []) (.seq (.ops [⟨some 79,.bin .eql (.t 36) (.c (.im (.int .u8 110))),none⟩,⟨some 78,.move (.t 79),none⟩] []) (.cond (.t 78) (.ops [⟨some 80,.fieldAddr 5 (.t 9),none⟩,⟨some 81,.load none (.t 80),none⟩,⟨some 82,.move (.t 0),none⟩,⟨some 83,.call (.c (.clo 55 [])) [(.t 82)],none⟩,⟨some 84,.bslice false 6 1 [(.im (.str [])),(.im (.int .i64 0)),(.im (.str [])),(.im (.int .i64 0)),.nils,.nils] [(0,(.t 83))],none⟩,⟨some 85,.append 27 96 6 (.t 81) (.t 84),none⟩,⟨some 86,.fieldAddr 5 (.t 9),none⟩,⟨none,.store 1 (.t 86) (.t 85),none⟩] [(1,3)]) (.ops [⟨some 37,.fieldAddr 5 (.t 9),none⟩,⟨some 38,.load none (.t 37),none⟩,⟨some 39,.move (.t 0),none⟩,⟨some 40,.move (.t 3),none⟩,⟨some 41,.bin .sub (.t 40) (.c (.im (.int .i64 1))),none⟩,⟨some 42,.call (.c (.clo 18 [])) [(.t 39),(.t 41)],none⟩,⟨some 43,.bslice false 6 1 [(.im (.str [])),(.im (.int .i64 0)),(.im (.str [])),(.im (.int .i64 0)),.nils,.nils] [(0,(.t 42))],none⟩,⟨some 44,.append 27 96 6 (.t 38) (.t 43),none⟩,⟨some 45,.fieldAddr 5 (.t 9),none⟩,⟨none,.store 1 (.t 45) (.t 44),none⟩] [(1,5)]))))))))) (.seq (.ops [⟨some 87,.move (.t 2),none⟩,⟨some 88,.bin .eql (.t 87) (.c (.im (.str [43]))),none⟩,⟨some 89,.move (.t 88),none⟩,⟨some 90,.move (.t 0),some (89,true)⟩,⟨some 91,.nilCheck (.t 90),some (89,true)⟩,⟨some 92,.fieldAddr 2 (.t 91),some (89,true)⟩,⟨some 93,.load none (.t 92),some (89,true)⟩,⟨some 94,.un .not (.t 93),some (89,true)⟩,⟨some 95,.pick (.t 89) (.t 94) (.c (.im (.bool false))),none⟩,⟨some 96,.move (.t 95),none⟩,⟨some 97,.fieldAddr 5 (.t 9),some (96,true)⟩,⟨some 98,.load none (.t 97),some (96,true)⟩,⟨some 99,.lenSl (.t 98),some (96,true)⟩,⟨some 100,.bin .lss (.t 99) (.c (.im (.int .i64 64))),some (96,true)⟩,⟨some 101,.pick (.t 96) (.t 100) (.c (.im (.bool false))),none⟩] []) (.cond (.t 101) (.seq (.ops [⟨some 102,.move (.t 0),none⟩,⟨some 103,.call (.c (.clo 19 [])) [(.t 102)],none⟩] []) (.seq (.ops [⟨some 104,.move (.t 0),none⟩,⟨some 105,.call (.c (.clo 29 [])) [(.t 104)],none⟩,⟨some 106,.bin .eql (.t 105) (.c (.im (.int .u8 44))),none⟩] []) (.cond (.t 106) (.ops [⟨some 107,.move (.t 11),none⟩,⟨some 108,.bin .sub (.t 107) (.c (.im (.int .i64 1))),none⟩,⟨some 11,.move (.t 108),none⟩] []) .skip))) .skip))))))) (.ops [⟨some 25,.move (.t 11),none⟩,⟨some 26,.bin .add (.t 25) (.c (.im (.int .i64 1))),none⟩,⟨some 11,.move (.t 26),none⟩] [])))
def c35_0 : ACode := .loop b35_0
theorem e35_0 : exec0 Φ Λ' c35_0 tm H K = thenL (Λ' c35_0 tm H) K := rfl
theorem l35_0 : Λ c35_0 tm H = exec0 L Λ b35_0 tm H fun e tm H => match e with
  | .normal => Λ c35_0 tm H
  | .exit i => some (.exit i, tm, H)
  | .goto l => some (.goto l, tm, H)
  | .ret => some (.ret, tm, H) := loop_eq
def f35 : AFunc := ⟨112,[(8,(some (some 6)))],(.seq (.ops [⟨some 8,.alloc none [(.im (.str [])),(.im (.int .i64 0)),(.im (.str [])),(.im (.int .i64 0)),.nils,.nils],none⟩] []) (.seq (.ops [⟨some 12,.move (.t 1),none⟩,⟨some 13,.build [(.im (.str [])),(.im (.int .i64 0)),(.im (.str [])),(.im (.int .i64 0)),.nils,.nils] [(0,(1,(.t 12)))],none⟩,⟨some 9,.alloc none [(.im (.str [])),(.im (.int .i64 0)),(.im (.str [])),(.im (.int .i64 0)),.nils,.nils],none⟩,⟨none,.store 6 (.t 9) (.t 13),none⟩] []) (.seq (.ops [⟨some 10,.move (.c (.im (.int .u8 40))),none⟩] []) (.seq (.seq (.ops [⟨some 11,.move (.c (.im (.int .i64 0))),none⟩] []) (.block 0 c35_0)) (.seq (.ops [⟨some 109,.move (.t 0),none⟩,⟨some 110,.call (.c (.clo 53 [])) [(.t 109),(.c (.im (.int .u8 41)))],none⟩] []) (.seq (.ops [⟨some 111,.load (some 6) (.t 9),none⟩,⟨none,.store 6 (.t 8) (.t 111),none⟩] []) .ret)))))),false⟩
theorem F35 : F 35 = some f35 := by kernel_rfl
def k40_1 : List UInt8 := [97, 100, 100, 32, 115, 117, 98, 32, 109, 117, 108, 32, 100, 105, 118, 32, 109, 111, 100, 32, 101, 113, 32, 108, 116, 32, 97, 110, 100, 32, 111, 114, 32, 112, 97, 105, 114, 32, 99, 111, 110, 115, 32, 99, 111, 110, 99, 97, 116, 32, 97, 116, 32, 111, 114, 95, 101, 108, 115, 101, 32, 106, 111, 105, 110, 32, 112, 111, 105, 110, 116]
def f43 : AFunc := ⟨50,[(10,none)],(.seq (.ops [⟨some 5,.box none (.t 0),none⟩,⟨some 10,.move (.c (.im (.bool false))),none⟩] []) (.seq (.ops [⟨some 11,.move (.t 1),none⟩,⟨some 12,.move (.t 11),none⟩,⟨some 13,.fieldAddr 1 (.t 5),some (12,false)⟩,⟨some 14,.load none (.t 13),some (12,false)⟩,⟨some 15,.bin .eql (.t 14) (.c (.im (.int .i64 0))),some (12,false)⟩,⟨some 16,.pick (.t 12) (.c (.im (.bool true))) (.t 15),none⟩,⟨some 17,.move (.t 16),none⟩,⟨some 18,.move (.t 2),some (17,true)⟩,⟨some 19,.move (.t 18),some (17,true)⟩,⟨some 20,.fieldAddr 2 (.t 5),some (19,false)⟩,⟨some 21,.load none (.t 20),some (19,false)⟩,⟨some 22,.bin .eql (.t 21) (.c (.im (.str []))),some (19,false)⟩,⟨some 23,.pick (.t 19) (.c (.im (.bool true))) (.t 22),some (17,true)⟩,⟨some 24,.pick (.t 17) (.t 23) (.c (.im (.bool false))),none⟩,⟨some 25,.move (.t 24),none⟩,⟨some 26,.move (.t 3),some (25,true)⟩,⟨some 27,.move (.t 26),some (25,true)⟩,⟨some 28,.fieldAddr 3 (.t 5),some (27,false)⟩,⟨some 29,.fieldAddr 0 (.t 28),some (27,false)⟩,⟨some 30,.load none (.t 29),some (27,false)⟩,⟨some 31,.bin .eql (.t 30) (.c (.im (.int .i64 0))),some (27,false)⟩,⟨some 32,.move (.t 31),some (27,false)⟩,⟨some 33,.fieldAddr 3 (.t 5),some (32,true)⟩,⟨some 34,.fieldAddr 1 (.t 33),some (32,true)⟩,⟨some 35,.load none (.t 34),some (32,true)⟩,⟨some 36,.lenSl (.t 35),some (32,true)⟩,⟨some 37,.bin .eql (.t 36) (.c (.im (.int .i64 0))),some (32,true)⟩,⟨some 38,.pick (.t 32) (.t 37) (.c (.im (.bool false))),some (27,false)⟩,⟨some 39,.pick (.t 27) (.c (.im (.bool true))) (.t 38),some (25,true)⟩,⟨some 40,.pick (.t 25) (.t 39) (.c (.im (.bool false))),none⟩,⟨some 41,.move (.t 40),none⟩,⟨some 42,.move (.t 4),some (41,true)⟩,⟨some 43,.move (.t 42),some (41,true)⟩,⟨some 44,.fieldAddr 5 (.t 5),some (43,false)⟩,⟨some 45,.load none (.t 44),some (43,false)⟩,⟨some 46,.lenSl (.t 45),some (43,false)⟩,⟨some 47,.bin .eql (.t 46) (.c (.im (.int .i64 0))),some (43,false)⟩,⟨some 48,.pick (.t 43) (.c (.im (.bool true))) (.t 47),some (41,true)⟩,⟨some 49,.pick (.t 41) (.t 48) (.c (.im (.bool false))),none⟩,⟨some 10,.move (.t 49),none⟩] []) .ret)),false⟩
theorem F43 : F 43 = some f43 := by kernel_rfl
def f44 : AFunc := ⟨19,[(4,none),(5,none)],(.seq (.ops [⟨some 4,.move (.c (.im (.int .i64 0))),none⟩,⟨some 5,.move (.c (.im .nili)),none⟩] []) (.seq (.ops [⟨some 6,.move (.t 0),none⟩,⟨some 7,.call (.c (.clo 60 [])) [(.t 6)],none⟩] []) (.seq (.ops [⟨some 8,.move (.t 0),none⟩,⟨some 9,.move (.t 0),none⟩,⟨some 10,.nilCheck (.t 9),none⟩,⟨some 11,.fieldAddr 1 (.t 10),none⟩,⟨some 12,.load none (.t 11),none⟩,⟨some 13,.move (.t 1),none⟩,⟨some 14,.append 5 1 1 (.t 12) (.t 13),none⟩,⟨some 15,.nilCheck (.t 8),none⟩,⟨some 16,.fieldAddr 1 (.t 15),none⟩,⟨none,.store 1 (.t 16) (.t 14),none⟩] []) (.seq (.ops [⟨some 17,.move (.t 1),none⟩,⟨some 18,.lenStr (.t 17),none⟩,⟨some 4,.move (.t 18),none⟩,⟨some 5,.move (.c (.im .nili)),none⟩] []) .ret)))),false⟩
theorem F44 : F 44 = some f44 := by kernel_rfl
def b46_0 : ACode := (.seq (.ops [⟨some 14,.bin .lss (.t 13) (.t 12),none⟩] []) (.seq (.cond (.t 14) .skip (.exit 0)) (.seq (.block 1 (.seq (.ops [⟨some 15,.indexSl 1 (.t 11) (.t 13),none⟩,⟨some 16,.load none (.t 15),none⟩,⟨some 5,.move (.t 16),none⟩] []) (.seq (.ops [⟨some 17,.move (.t 5),none⟩,⟨some 18,.call (.c (.clo 51 [])) [(.t 17)],none⟩] []) (.cond (.t 18) (.ops [⟨some 19,.move (.t 0),none⟩,⟨some 20,.nilCheck (.t 19),none⟩,⟨some 21,.fieldAddr 0 (.t 20),none⟩,⟨some 22,.move (.t 5),none⟩,⟨some 23,.call (.c (.clo 62 [])) [(.t 21),(.t 22)],none⟩] []) (.ops [⟨some 24,.move (.t 0),none⟩,⟨some 25,.nilCheck (.t 24),none⟩,⟨some 26,.fieldAddr 0 (.t 25),none⟩,⟨some 27,.move (.t 5),none⟩,⟨some 28,.bin .shr (.t 27) (.c (.im (.int .u64 4))),none⟩,⟨some 29,.indexStr (.c (.im (.str [48,49,50,51,52,53,54,55,56,57,97,98,99,100,101,102]))) (.t 28),none⟩,⟨some 30,.i2s (.t 29),none⟩,⟨some 31,.bin .add (.c (.im (.str [92]))) (.t 30),none⟩,⟨some 32,.move (.t 5),none⟩,⟨some 33,.bin .and (.t 32) (.c (.im (.int .u8 15))),none⟩,⟨some 34,.indexStr (.c (.im (.str [48,49,50,51,52,53,54,55,56,57,97,98,99,100,101,102]))) (.t 33),none⟩,⟨some 35,.i2s (.t 34),none⟩,⟨some 36,.bin .add (.t 31) (.t 35),none⟩,⟨some 37,.call (.c (.clo 44 [])) [(.t 26),(.t 36)],none⟩] []))))) (.ops [⟨some 38,.bin .add (.t 13) (.c (.im (.int .i64 1))),none⟩,⟨some 13,.move (.t 38),none⟩] []))))
def c46_0 : ACode := .loop b46_0
theorem e46_0 : exec0 Φ Λ' c46_0 tm H K = thenL (Λ' c46_0 tm H) K := rfl
theorem l46_0 : Λ c46_0 tm H = exec0 L Λ b46_0 tm H fun e tm H => match e with
  | .normal => Λ c46_0 tm H
  | .exit i => some (.exit i, tm, H)
  | .goto l => some (.goto l, tm, H)
  | .ret => some (.ret, tm, H) := loop_eq
def f46 : AFunc := ⟨43,[],(.seq (.ops [⟨some 6,.move (.t 0),none⟩,⟨some 7,.nilCheck (.t 6),none⟩,⟨some 8,.fieldAddr 0 (.t 7),none⟩,⟨some 9,.call (.c (.clo 62 [])) [(.t 8),(.c (.im (.int .u8 34)))],none⟩] []) (.seq (.seq (.ops [⟨some 10,.move (.t 1),none⟩,⟨some 11,.s2b (.t 10),none⟩,⟨some 12,.lenSl (.t 11),none⟩,⟨some 13,.move (.c (.im (.int .i64 0))),none⟩] []) (.block 0 c46_0)) (.ops [⟨some 39,.move (.t 0),none⟩,⟨some 40,.nilCheck (.t 39),none⟩,⟨some 41,.fieldAddr 0 (.t 40),none⟩,⟨some 42,.call (.c (.clo 62 [])) [(.t 41),(.c (.im (.int .u8 34)))],none⟩] []))),false⟩
theorem F46 : F 46 = some f46 := by kernel_rfl
def f47 : AFunc := ⟨35,[(2,none)],(.seq (.ops [⟨some 2,.move (.c (.im (.bool false))),none⟩] []) (.seq (.seq (.ops [⟨some 5,.move (.t 0),none⟩,⟨some 6,.bin .eql (.t 5) (.c (.im (.str []))),none⟩,⟨some 7,.move (.t 6),none⟩,⟨some 8,.move (.t 0),some (7,false)⟩,⟨some 9,.lenStr (.t 8),some (7,false)⟩,⟨some 10,.bin .gtr (.t 9) (.c (.im (.int .i64 16))),some (7,false)⟩,⟨some 11,.pick (.t 7) (.c (.im (.bool true))) (.t 10),none⟩,⟨some 12,.move (.t 11),none⟩,⟨some 13,.move (.t 0),some (12,false)⟩,⟨some 14,.indexStr (.t 13) (.c (.im (.int .i64 0))),some (12,false)⟩,⟨some 15,.bin .lss (.t 14) (.c (.im (.int .u8 97))),some (12,false)⟩,⟨some 16,.pick (.t 12) (.c (.im (.bool true))) (.t 15),none⟩,⟨some 17,.move (.t 16),none⟩,⟨some 18,.move (.t 0),some (17,false)⟩,⟨some 19,.indexStr (.t 18) (.c (.im (.int .i64 0))),some (17,false)⟩,⟨some 20,.bin .gtr (.t 19) (.c (.im (.int .u8 122))),some (17,false)⟩,⟨some 21,.pick (.t 17) (.c (.im (.bool true))) (.t 20),none⟩] []) (.cond (.t 21) (.seq (.ops [⟨some 2,.move (.c (.im (.bool false))),none⟩] []) .ret) .skip)) (.seq (.ops [⟨some 23,.move (.t 0),none⟩,⟨some 24,.call (.c (.clo 33 [])) [(.t 23)],none⟩,⟨some 22,.move (.t 24),none⟩,⟨some 25,.extract 0 (.t 22),none⟩,⟨some 26,.extract 1 (.t 22),none⟩,⟨some 3,.move (.t 25),none⟩,⟨some 4,.move (.t 26),none⟩] []) (.seq (.ops [⟨some 27,.move (.t 4),none⟩,⟨some 28,.un .not (.t 27),none⟩,⟨some 29,.move (.t 28),none⟩,⟨some 30,.move (.t 0),some (29,true)⟩,⟨some 31,.s2b (.t 30),some (29,true)⟩,⟨some 32,.call (.c (.clo 63 [])) [(.t 31),(.c (.clo 64 []))],some (29,true)⟩,⟨some 33,.un .not (.t 32),some (29,true)⟩,⟨some 34,.pick (.t 29) (.t 33) (.c (.im (.bool false))),none⟩,⟨some 2,.move (.t 34),none⟩] []) .ret)))),false⟩
theorem F47 : F 47 = some f47 := by kernel_rfl
def f48 : AFunc := ⟨18,[(2,none),(3,none)],(.seq (.ops [⟨some 1,.box none (.t 0),none⟩,⟨some 2,.move (.c (.im (.str []))),none⟩,⟨some 3,.move (.c (.im (.int .i64 0))),none⟩] []) (.seq (.seq (.ops [⟨some 6,.load (some 2) (.t 1),none⟩,⟨some 7,.call (.c (.clo 65 [])) [(.t 6)],none⟩,⟨some 4,.move (.t 7),none⟩] []) (.seq (.ops [⟨some 8,.move (.t 4),none⟩,⟨some 9,.bin .neq (.t 8) (.c (.im (.int .i64 0))),none⟩] []) (.cond (.t 9) (.seq (.ops [⟨some 10,.move (.t 4),none⟩,⟨some 2,.move (.c (.im (.str []))),none⟩,⟨some 3,.move (.t 10),none⟩] []) .ret) .skip))) (.seq (.ops [⟨some 11,.build [(.im .nilp),.nils] [],none⟩,⟨some 12,.box (some 64) (.t 11),none⟩,⟨some 5,.move (.t 12),none⟩] []) (.seq (.ops [⟨some 13,.move (.t 5),none⟩,⟨some 14,.load (some 2) (.t 1),none⟩,⟨some 15,.call (.c (.clo 66 [])) [(.t 13),(.t 14)],none⟩] []) (.seq (.ops [⟨some 16,.move (.t 5),none⟩,⟨some 17,.call (.c (.clo 26 [])) [(.t 16)],none⟩,⟨some 2,.move (.t 17),none⟩,⟨some 3,.move (.c (.im (.int .i64 0))),none⟩] []) .ret))))),false⟩
theorem F48 : F 48 = some f48 := by kernel_rfl
def b49_0 : ACode := (.seq (.ops [⟨some 42,.bin .lss (.t 41) (.t 40),none⟩] []) (.seq (.cond (.t 42) .skip (.exit 0)) (.seq (.block 1 (.seq (.ops [⟨some 43,.move (.t 41),none⟩,⟨some 44,.indexSl 6 (.t 39) (.t 41),none⟩,⟨some 45,.load (some 6) (.t 44),none⟩,⟨some 9,.alloc none [(.im (.str [])),(.im (.int .i64 0)),(.im (.str [])),(.im (.int .i64 0)),.nils,.nils],none⟩,⟨some 8,.move (.t 43),none⟩,⟨none,.store 6 (.t 9) (.t 45),none⟩] []) (.seq (.ops [⟨some 46,.move (.t 0),none⟩,⟨some 47,.nilCheck (.t 46),none⟩,⟨some 48,.fieldAddr 0 (.t 47),none⟩,⟨some 49,.move (.t 8),none⟩,⟨some 50,.min (.t 49) (.c (.im (.int .i64 1))),none⟩,⟨some 51,.indexStr (.c (.im (.str [40,44]))) (.t 50),none⟩,⟨some 52,.call (.c (.clo 62 [])) [(.t 48),(.t 51)],none⟩] []) (.seq (.seq (.ops [⟨some 53,.move (.t 2),none⟩,⟨some 54,.move (.t 8),none⟩,⟨some 55,.indexStr (.t 53) (.t 54),none⟩,⟨some 56,.bin .eql (.t 55) (.c (.im (.int .u8 110))),none⟩,⟨some 57,.move (.t 56),none⟩,⟨some 58,.fieldAddr 0 (.t 9),some (57,true)⟩,⟨some 59,.load none (.t 58),some (57,true)⟩,⟨some 60,.bin .neq (.t 59) (.c (.im (.str [110,97,109,101]))),some (57,true)⟩,⟨some 61,.pick (.t 57) (.t 60) (.c (.im (.bool false))),none⟩] []) (.cond (.t 61) (.ops [⟨some 62,.move (.t 0),none⟩,⟨some 63,.nilCheck (.t 62),none⟩,⟨some 64,.fieldAddr 2 (.t 63),none⟩,⟨none,.store 1 (.t 64) (.c (.im (.bool true))),none⟩] []) .skip)) (.ops [⟨some 65,.move (.t 0),none⟩,⟨some 66,.load (some 6) (.t 9),none⟩,⟨some 67,.move (.t 3),none⟩,⟨some 68,.bin .sub (.t 67) (.c (.im (.int .i64 1))),none⟩,⟨some 69,.call (.c (.clo 24 [])) [(.t 65),(.t 66),(.t 68)],none⟩] []))))) (.ops [⟨some 70,.bin .add (.t 41) (.c (.im (.int .i64 1))),none⟩,⟨some 41,.move (.t 70),none⟩] []))))
def c49_0 : ACode := .loop b49_0
theorem e49_0 : exec0 Φ Λ' c49_0 tm H K = thenL (Λ' c49_0 tm H) K := rfl
theorem l49_0 : Λ c49_0 tm H = exec0 L Λ b49_0 tm H fun e tm H => match e with
  | .normal => Λ c49_0 tm H
  | .exit i => some (.exit i, tm, H)
  | .goto l => some (.goto l, tm, H)
  | .ret => some (.ret, tm, H) := loop_eq
def f49 : AFunc := ⟨79,[],(.seq (.ops [⟨some 5,.box none (.t 1),none⟩] []) (.seq (.seq (.ops [⟨some 10,.move (.t 2),none⟩,⟨some 11,.bin .eql (.t 10) (.c (.im (.str [43]))),none⟩] []) (.cond (.t 11) (.ops [⟨some 12,.fieldAddr 5 (.t 5),none⟩,⟨some 13,.load none (.t 12),none⟩,⟨some 14,.lenSl (.t 13),none⟩,⟨some 15,.max (.c (.im (.int .i64 1))) (.t 14),none⟩,⟨some 16,.min (.t 15) (.c (.im (.int .i64 64))),none⟩,⟨some 17,.call (.c (.clo 67 [])) [(.c (.im (.str [101]))),(.t 16)],none⟩,⟨some 2,.move (.t 17),none⟩] []) .skip)) (.seq (.seq (.ops [⟨some 18,.fieldAddr 5 (.t 5),none⟩,⟨some 19,.load none (.t 18),none⟩,⟨some 20,.lenSl (.t 19),none⟩,⟨some 21,.move (.t 2),none⟩,⟨some 22,.lenStr (.t 21),none⟩,⟨some 23,.bin .neq (.t 20) (.t 22),none⟩,⟨some 24,.move (.t 23),none⟩,⟨some 25,.load (some 6) (.t 5),some (24,false)⟩,⟨some 26,.call (.c (.clo 43 [])) [(.t 25),(.c (.im (.bool false))),(.c (.im (.bool false))),(.c (.im (.bool false))),(.c (.im (.bool true)))],some (24,false)⟩,⟨some 27,.un .not (.t 26),some (24,false)⟩,⟨some 28,.pick (.t 24) (.c (.im (.bool true))) (.t 27),none⟩] []) (.cond (.t 28) (.seq (.ops [⟨some 29,.move (.t 0),none⟩,⟨some 30,.nilCheck (.t 29),none⟩,⟨some 31,.fieldAddr 2 (.t 30),none⟩,⟨none,.store 1 (.t 31) (.c (.im (.bool true))),none⟩] []) .ret) .skip)) (.seq (.ops [⟨some 32,.move (.t 0),none⟩,⟨some 33,.nilCheck (.t 32),none⟩,⟨some 34,.fieldAddr 0 (.t 33),none⟩,⟨some 35,.fieldAddr 0 (.t 5),none⟩,⟨some 36,.load none (.t 35),none⟩,⟨some 37,.call (.c (.clo 44 [])) [(.t 34),(.t 36)],none⟩] []) (.seq (.seq (.ops [⟨some 38,.fieldAddr 5 (.t 5),none⟩,⟨some 39,.load none (.t 38),none⟩,⟨some 40,.lenSl (.t 39),none⟩,⟨some 41,.move (.c (.im (.int .i64 0))),none⟩] []) (.block 0 c49_0)) (.seq (.ops [⟨some 71,.fieldAddr 5 (.t 5),none⟩,⟨some 72,.load none (.t 71),none⟩,⟨some 73,.lenSl (.t 72),none⟩,⟨some 74,.bin .gtr (.t 73) (.c (.im (.int .i64 0))),none⟩] []) (.cond (.t 74) (.ops [⟨some 75,.move (.t 0),none⟩,⟨some 76,.nilCheck (.t 75),none⟩,⟨some 77,.fieldAddr 0 (.t 76),none⟩,⟨some 78,.call (.c (.clo 62 [])) [(.t 77),(.c (.im (.int .u8 41)))],none⟩] []) .skip))))))),false⟩
theorem F49 : F 49 = some f49 := by kernel_rfl
def f51 : AFunc := ⟨17,[(2,none)],(.seq (.ops [⟨some 2,.move (.c (.im (.bool false))),none⟩] []) (.seq (.ops [⟨some 3,.move (.t 0),none⟩,⟨some 4,.bin .geq (.t 3) (.c (.im (.int .u8 32))),none⟩,⟨some 5,.move (.t 4),none⟩,⟨some 6,.move (.t 0),some (5,true)⟩,⟨some 7,.bin .leq (.t 6) (.c (.im (.int .u8 126))),some (5,true)⟩,⟨some 8,.pick (.t 5) (.t 7) (.c (.im (.bool false))),none⟩,⟨some 9,.move (.t 8),none⟩,⟨some 10,.move (.t 0),some (9,true)⟩,⟨some 11,.bin .neq (.t 10) (.c (.im (.int .u8 34))),some (9,true)⟩,⟨some 12,.pick (.t 9) (.t 11) (.c (.im (.bool false))),none⟩,⟨some 13,.move (.t 12),none⟩,⟨some 14,.move (.t 0),some (13,true)⟩,⟨some 15,.bin .neq (.t 14) (.c (.im (.int .u8 92))),some (13,true)⟩,⟨some 16,.pick (.t 13) (.t 15) (.c (.im (.bool false))),none⟩,⟨some 2,.move (.t 16),none⟩] []) .ret)),false⟩
theorem F51 : F 51 = some f51 := by kernel_rfl
def f52 : AFunc := ⟨69,[(2,none)],(.seq (.ops [⟨some 2,.move (.c (.im (.int .u8 0))),none⟩] []) (.seq (.ops [⟨some 6,.move (.t 0),none⟩,⟨some 7,.call (.c (.clo 29 [])) [(.t 6)],none⟩,⟨some 8,.call (.c (.clo 68 [])) [(.t 7)],none⟩,⟨some 3,.move (.t 8),none⟩] []) (.seq (.seq (.ops [⟨some 9,.move (.t 0),none⟩,⟨some 10,.call (.c (.clo 29 [])) [(.t 9)],none⟩,⟨some 11,.bin .eql (.t 10) (.c (.im (.int .u8 0))),none⟩,⟨some 12,.move (.t 11),none⟩,⟨some 13,.move (.t 3),some (12,false)⟩,⟨some 14,.bin .lss (.t 13) (.c (.im (.int .i64 0))),some (12,false)⟩,⟨some 15,.pick (.t 12) (.c (.im (.bool true))) (.t 14),none⟩,⟨some 16,.move (.t 15),none⟩,⟨some 17,.move (.t 3),some (16,false)⟩,⟨some 18,.bin .eql (.t 17) (.c (.im (.int .i64 3))),some (16,false)⟩,⟨some 19,.pick (.t 16) (.c (.im (.bool true))) (.t 18),none⟩,⟨some 20,.move (.t 19),none⟩,⟨some 21,.move (.t 3),some (20,false)⟩,⟨some 22,.bin .eql (.t 21) (.c (.im (.int .i64 4))),some (20,false)⟩,⟨some 23,.pick (.t 20) (.c (.im (.bool true))) (.t 22),none⟩,⟨some 24,.move (.t 23),none⟩,⟨some 25,.move (.t 3),some (24,false)⟩,⟨some 26,.bin .eql (.t 25) (.c (.im (.int .i64 6))),some (24,false)⟩,⟨some 27,.pick (.t 24) (.c (.im (.bool true))) (.t 26),none⟩] []) (.cond (.t 27) (.seq (.ops [⟨some 28,.move (.t 0),none⟩,⟨some 29,.nilCheck (.t 28),none⟩,⟨some 30,.fieldAddr 2 (.t 29),none⟩,⟨none,.store 1 (.t 30) (.c (.im (.bool true))),none⟩] []) (.seq (.ops [⟨some 2,.move (.c (.im (.int .u8 0))),none⟩] []) .ret)) .skip)) (.seq (.ops [⟨some 31,.move (.t 0),none⟩,⟨some 32,.nilCheck (.t 31),none⟩,⟨some 33,.fieldAddr 1 (.t 32),none⟩,⟨some 34,.load none (.t 33),none⟩,⟨some 35,.bin .add (.t 34) (.c (.im (.int .i64 1))),none⟩,⟨some 36,.nilCheck (.t 31),none⟩,⟨some 37,.fieldAddr 1 (.t 36),none⟩,⟨none,.store 1 (.t 37) (.t 35),none⟩] []) (.seq (.ops [⟨some 38,.move (.t 0),none⟩,⟨some 39,.call (.c (.clo 29 [])) [(.t 38)],none⟩,⟨some 40,.call (.c (.clo 68 [])) [(.t 39)],none⟩,⟨some 4,.move (.t 40),none⟩] []) (.seq (.ops [⟨some 41,.move (.t 3),none⟩,⟨some 42,.bin .shl (.t 41) (.c (.im (.int .u64 4))),none⟩,⟨some 43,.move (.t 4),none⟩,⟨some 44,.bin .and (.t 43) (.c (.im (.int .i64 15))),none⟩,⟨some 45,.bin .or (.t 42) (.t 44),none⟩,⟨some 46,.i2i .u8 (.t 45),none⟩,⟨some 5,.move (.t 46),none⟩] []) (.seq (.seq (.ops [⟨some 47,.move (.t 0),none⟩,⟨some 48,.call (.c (.clo 29 [])) [(.t 47)],none⟩,⟨some 49,.bin .eql (.t 48) (.c (.im (.int .u8 0))),none⟩,⟨some 50,.move (.t 49),none⟩,⟨some 51,.move (.t 4),some (50,false)⟩,⟨some 52,.bin .lss (.t 51) (.c (.im (.int .i64 0))),some (50,false)⟩,⟨some 53,.pick (.t 50) (.c (.im (.bool true))) (.t 52),none⟩,⟨some 54,.move (.t 53),none⟩,⟨some 55,.move (.t 5),some (54,false)⟩,⟨some 56,.call (.c (.clo 51 [])) [(.t 55)],some (54,false)⟩,⟨some 57,.pick (.t 54) (.c (.im (.bool true))) (.t 56),none⟩] []) (.cond (.t 57) (.seq (.ops [⟨some 58,.move (.t 0),none⟩,⟨some 59,.nilCheck (.t 58),none⟩,⟨some 60,.fieldAddr 2 (.t 59),none⟩,⟨none,.store 1 (.t 60) (.c (.im (.bool true))),none⟩] []) (.seq (.ops [⟨some 2,.move (.c (.im (.int .u8 0))),none⟩] []) .ret)) .skip)) (.seq (.ops [⟨some 61,.move (.t 0),none⟩,⟨some 62,.nilCheck (.t 61),none⟩,⟨some 63,.fieldAddr 1 (.t 62),none⟩,⟨some 64,.load none (.t 63),none⟩,⟨some 65,.bin .add (.t 64) (.c (.im (.int .i64 1))),none⟩,⟨some 66,.nilCheck (.t 61),none⟩,⟨some 67,.fieldAddr 1 (.t 66),none⟩,⟨none,.store 1 (.t 67) (.t 65),none⟩] []) (.seq (.ops [⟨some 68,.move (.t 5),none⟩,⟨some 2,.move (.t 68),none⟩] []) .ret))))))))),false⟩
theorem F52 : F 52 = some f52 := by kernel_rfl
def f53 : AFunc := ⟨24,[],(.seq (.seq (.ops [⟨some 4,.move (.t 0),none⟩,⟨some 5,.nilCheck (.t 4),none⟩,⟨some 6,.fieldAddr 2 (.t 5),none⟩,⟨some 7,.load none (.t 6),none⟩] []) (.cond (.t 7) .ret .skip)) (.seq (.seq (.ops [⟨some 8,.move (.t 0),none⟩,⟨some 9,.call (.c (.clo 19 [])) [(.t 8)],none⟩] []) (.seq (.ops [⟨some 10,.move (.t 0),none⟩,⟨some 11,.call (.c (.clo 29 [])) [(.t 10)],none⟩,⟨some 12,.move (.t 1),none⟩,⟨some 13,.bin .neq (.t 11) (.t 12),none⟩] []) (.cond (.t 13) (.seq (.ops [⟨some 14,.move (.t 0),none⟩,⟨some 15,.nilCheck (.t 14),none⟩,⟨some 16,.fieldAddr 2 (.t 15),none⟩,⟨none,.store 1 (.t 16) (.c (.im (.bool true))),none⟩] []) .ret) .skip))) (.ops [⟨some 17,.move (.t 0),none⟩,⟨some 18,.nilCheck (.t 17),none⟩,⟨some 19,.fieldAddr 1 (.t 18),none⟩,⟨some 20,.load none (.t 19),none⟩,⟨some 21,.bin .add (.t 20) (.c (.im (.int .i64 1))),none⟩,⟨some 22,.nilCheck (.t 17),none⟩,⟨some 23,.fieldAddr 1 (.t 22),none⟩,⟨none,.store 1 (.t 23) (.t 21),none⟩] []))),false⟩
theorem F53 : F 53 = some f53 := by kernel_rfl
def b54_0 : ACode := (.seq (.seq (.ops [⟨some 13,.move (.t 3),none⟩,⟨some 14,.move (.t 0),none⟩,⟨some 15,.nilCheck (.t 14),none⟩,⟨some 16,.fieldAddr 0 (.t 15),none⟩,⟨some 17,.load none (.t 16),none⟩,⟨some 18,.lenStr (.t 17),none⟩,⟨some 19,.bin .lss (.t 13) (.t 18),none⟩,⟨some 20,.move (.t 19),none⟩,⟨some 21,.move (.t 0),some (20,true)⟩,⟨some 22,.nilCheck (.t 21),some (20,true)⟩,⟨some 23,.fieldAddr 0 (.t 22),some (20,true)⟩,⟨some 24,.load none (.t 23),some (20,true)⟩,⟨some 25,.move (.t 3),some (20,true)⟩,⟨some 26,.indexStr (.t 24) (.t 25),some (20,true)⟩,⟨some 27,.bin .geq (.t 26) (.c (.im (.int .u8 97))),some (20,true)⟩,⟨some 28,.move (.t 27),some (20,true)⟩,⟨some 29,.move (.t 0),some (28,true)⟩,⟨some 30,.nilCheck (.t 29),some (28,true)⟩,⟨some 31,.fieldAddr 0 (.t 30),some (28,true)⟩,⟨some 32,.load none (.t 31),some (28,true)⟩,⟨some 33,.move (.t 3),some (28,true)⟩,⟨some 34,.indexStr (.t 32) (.t 33),some (28,true)⟩,⟨some 35,.bin .leq (.t 34) (.c (.im (.int .u8 122))),some (28,true)⟩,⟨some 36,.pick (.t 28) (.t 35) (.c (.im (.bool false))),some (20,true)⟩,⟨some 37,.move (.t 36),some (20,true)⟩,⟨some 38,.move (.t 0),some (37,false)⟩,⟨some 39,.nilCheck (.t 38),some (37,false)⟩,⟨some 40,.fieldAddr 0 (.t 39),some (37,false)⟩,⟨some 41,.load none (.t 40),some (37,false)⟩,⟨some 42,.move (.t 3),some (37,false)⟩,⟨some 43,.indexStr (.t 41) (.t 42),some (37,false)⟩,⟨some 44,.call (.c (.clo 69 [])) [(.c (.im (.str [40,41,44]))),(.t 43)],some (37,false)⟩,⟨some 45,.bin .geq (.t 44) (.c (.im (.int .i64 0))),some (37,false)⟩,⟨some 46,.pick (.t 37) (.c (.im (.bool true))) (.t 45),some (20,true)⟩,⟨some 47,.pick (.t 20) (.t 46) (.c (.im (.bool false))),none⟩] []) (.cond (.t 47) .skip (.exit 0))) (.block 1 (.ops [⟨some 48,.move (.t 3),none⟩,⟨some 49,.bin .add (.t 48) (.c (.im (.int .i64 1))),none⟩,⟨some 3,.move (.t 49),none⟩] [])))
def c54_0 : ACode := .loop b54_0
theorem e54_0 : exec0 Φ Λ' c54_0 tm H K = thenL (Λ' c54_0 tm H) K := rfl
theorem l54_0 : Λ c54_0 tm H = exec0 L Λ b54_0 tm H fun e tm H => match e with
  | .normal => Λ c54_0 tm H
  | .exit i => some (.exit i, tm, H)
  | .goto l => some (.goto l, tm, H)
  | .ret => some (.ret, tm, H) := loop_eq
def f54 : AFunc := ⟨106,[(2,(some (some 2)))],(.seq (.ops [⟨some 2,.alloc none [(.im (.int .i64 0)),.nils],none⟩] []) (.seq (.ops [⟨some 7,.move (.t 0),none⟩,⟨some 8,.call (.c (.clo 19 [])) [(.t 7)],none⟩] []) (.seq (.ops [⟨some 9,.move (.t 0),none⟩,⟨some 10,.nilCheck (.t 9),none⟩,⟨some 11,.fieldAddr 1 (.t 10),none⟩,⟨some 12,.load none (.t 11),none⟩,⟨some 3,.move (.t 12),none⟩] []) (.seq (.block 0 c54_0) (.seq (.ops [⟨some 51,.move (.t 0),none⟩,⟨some 52,.nilCheck (.t 51),none⟩,⟨some 53,.fieldAddr 0 (.t 52),none⟩,⟨some 54,.load none (.t 53),none⟩,⟨some 55,.move (.t 0),none⟩,⟨some 56,.nilCheck (.t 55),none⟩,⟨some 57,.fieldAddr 1 (.t 56),none⟩,⟨some 58,.load none (.t 57),none⟩,⟨some 59,.move (.t 3),none⟩,⟨some 60,.sliceStr (.t 54) (some (.t 58)) (some (.t 59)),none⟩,⟨some 61,.call (.c (.clo 70 [])) [(.t 60)],none⟩,⟨some 50,.move (.t 61),none⟩,⟨some 62,.extract 0 (.t 50),none⟩,⟨some 63,.extract 1 (.t 50),none⟩,⟨some 64,.extract 2 (.t 50),none⟩,⟨some 4,.alloc none [(.im (.int .i64 0)),.nils],none⟩,⟨none,.store 2 (.t 4) (.t 62),none⟩,⟨some 5,.move (.t 63),none⟩,⟨some 6,.move (.t 64),none⟩] [(3,15),(7,15)]) (.seq (.seq (.ops [⟨some 65,.move (.t 6),none⟩,⟨some 66,.bin .eql (.t 65) (.c (.im (.int .i64 0))),none⟩] []) (.cond (.t 66) (.seq (.ops [⟨some 67,.move (.t 0),none⟩,⟨some 68,.move (.t 3),none⟩,⟨some 69,.nilCheck (.t 67),none⟩,⟨some 70,.fieldAddr 1 (.t 69),none⟩,⟨none,.store 1 (.t 70) (.t 68),none⟩] []) (.seq (.ops [⟨some 71,.load (some 2) (.t 4),none⟩,⟨none,.store 2 (.t 2) (.t 71),none⟩] []) .ret)) .skip)) (.seq (.seq (.ops [⟨some 73,.move (.t 0),none⟩,⟨some 74,.nilCheck (.t 73),none⟩,⟨some 75,.fieldAddr 0 (.t 74),none⟩,⟨some 76,.load none (.t 75),none⟩,⟨some 77,.move (.t 0),none⟩,⟨some 78,.nilCheck (.t 77),none⟩,⟨some 79,.fieldAddr 1 (.t 78),none⟩,⟨some 80,.load none (.t 79),none⟩,⟨some 81,.move (.t 0),none⟩,⟨some 82,.nilCheck (.t 81),none⟩,⟨some 83,.fieldAddr 1 (.t 82),none⟩,⟨some 84,.load none (.t 83),none⟩,⟨some 85,.move (.t 5),none⟩,⟨some 86,.bin .add (.t 84) (.t 85),none⟩,⟨some 87,.sliceStr (.t 76) (some (.t 80)) (some (.t 86)),none⟩,⟨some 88,.call (.c (.clo 70 [])) [(.t 87)],none⟩,⟨some 72,.move (.t 88),none⟩,⟨some 89,.extract 0 (.t 72),none⟩,⟨some 90,.extract 1 (.t 72),none⟩,⟨some 91,.extract 2 (.t 72),none⟩,⟨none,.store 2 (.t 4) (.t 89),none⟩,⟨some 6,.move (.t 91),none⟩] []) (.seq (.ops [⟨some 92,.move (.t 6),none⟩,⟨some 93,.bin .neq (.t 92) (.c (.im (.int .i64 0))),none⟩] []) (.cond (.t 93) (.ops [⟨some 94,.move (.t 0),none⟩,⟨some 95,.nilCheck (.t 94),none⟩,⟨some 96,.fieldAddr 2 (.t 95),none⟩,⟨none,.store 1 (.t 96) (.c (.im (.bool true))),none⟩] []) .skip))) (.seq (.ops [⟨some 97,.move (.t 0),none⟩,⟨some 98,.nilCheck (.t 97),none⟩,⟨some 99,.fieldAddr 1 (.t 98),none⟩,⟨some 100,.load none (.t 99),none⟩,⟨some 101,.move (.t 5),none⟩,⟨some 102,.bin .add (.t 100) (.t 101),none⟩,⟨some 103,.nilCheck (.t 97),none⟩,⟨some 104,.fieldAddr 1 (.t 103),none⟩,⟨none,.store 1 (.t 104) (.t 102),none⟩] []) (.seq (.ops [⟨some 105,.load (some 2) (.t 4),none⟩,⟨none,.store 2 (.t 2) (.t 105),none⟩] []) .ret))))))))),false⟩
theorem F54 : F 54 = some f54 := by kernel_rfl
def f55 : AFunc := ⟨42,[(2,(some (some 6)))],(.seq (.ops [⟨some 2,.alloc none [(.im (.str [])),(.im (.int .i64 0)),(.im (.str [])),(.im (.int .i64 0)),.nils,.nils],none⟩] []) (.seq (.ops [⟨some 5,.move (.t 0),none⟩,⟨some 6,.call (.c (.clo 19 [])) [(.t 5)],none⟩] []) (.seq (.ops [⟨some 7,.move (.t 0),none⟩,⟨some 8,.nilCheck (.t 7),none⟩,⟨some 9,.fieldAddr 1 (.t 8),none⟩,⟨some 10,.load none (.t 9),none⟩,⟨some 3,.move (.t 10),none⟩] []) (.seq (.ops [⟨some 11,.move (.t 0),none⟩,⟨some 12,.call (.c (.clo 32 [])) [(.t 11)],none⟩,⟨some 4,.move (.t 12),none⟩] []) (.seq (.seq (.ops [⟨some 13,.move (.t 0),none⟩,⟨some 14,.nilCheck (.t 13),none⟩,⟨some 15,.fieldAddr 1 (.t 14),none⟩,⟨some 16,.load none (.t 15),none⟩,⟨some 17,.move (.t 3),none⟩,⟨some 18,.bin .sub (.t 16) (.t 17),none⟩,⟨some 19,.bin .eql (.t 18) (.c (.im (.int .i64 16))),none⟩,⟨some 20,.move (.t 19),none⟩,⟨some 21,.move (.t 0),some (20,true)⟩,⟨some 22,.call (.c (.clo 29 [])) [(.t 21)],some (20,true)⟩,⟨some 23,.call (.c (.clo 34 [])) [(.t 22)],some (20,true)⟩,⟨some 24,.pick (.t 20) (.t 23) (.c (.im (.bool false))),none⟩,⟨some 25,.move (.t 24),none⟩,⟨some 26,.move (.t 4),some (25,false)⟩,⟨some 27,.bin .eql (.t 26) (.c (.im (.str []))),some (25,false)⟩,⟨some 28,.pick (.t 25) (.c (.im (.bool true))) (.t 27),none⟩] []) (.cond (.t 28) (.seq (.ops [⟨some 29,.move (.t 0),none⟩,⟨some 30,.nilCheck (.t 29),none⟩,⟨some 31,.fieldAddr 2 (.t 30),none⟩,⟨none,.store 1 (.t 31) (.c (.im (.bool true))),none⟩] []) (.seq (.ops [⟨some 32,.build [(.im (.str [])),(.im (.int .i64 0)),(.im (.str [])),(.im (.int .i64 0)),.nils,.nils] [],none⟩,⟨none,.store 6 (.t 2) (.t 32),none⟩] []) .ret)) .skip)) (.seq (.seq (.ops [⟨some 33,.move (.t 4),none⟩,⟨some 34,.call (.c (.clo 47 [])) [(.t 33)],none⟩,⟨some 35,.un .not (.t 34),none⟩] []) (.cond (.t 35) (.seq (.ops [⟨some 36,.move (.t 0),none⟩,⟨some 37,.nilCheck (.t 36),none⟩,⟨some 38,.fieldAddr 2 (.t 37),none⟩,⟨none,.store 1 (.t 38) (.c (.im (.bool true))),none⟩] []) (.seq (.ops [⟨some 39,.build [(.im (.str [])),(.im (.int .i64 0)),(.im (.str [])),(.im (.int .i64 0)),.nils,.nils] [],none⟩,⟨none,.store 6 (.t 2) (.t 39),none⟩] []) .ret)) .skip)) (.seq (.ops [⟨some 40,.move (.t 4),none⟩,⟨some 41,.build [(.im (.str [])),(.im (.int .i64 0)),(.im (.str [])),(.im (.int .i64 0)),.nils,.nils] [(0,(1,(.c (.im (.str [110,97,109,101]))))),(2,(1,(.t 40)))],none⟩,⟨none,.store 6 (.t 2) (.t 41),none⟩] []) .ret))))))),false⟩
theorem F55 : F 55 = some f55 := by kernel_rfl
def f62 : AFunc := ⟨17,[(4,none)],(.seq (.ops [⟨some 4,.move (.c (.im .nili)),none⟩] []) (.seq (.ops [⟨some 5,.move (.t 0),none⟩,⟨some 6,.call (.c (.clo 60 [])) [(.t 5)],none⟩] []) (.seq (.ops [⟨some 7,.move (.t 0),none⟩,⟨some 8,.move (.t 0),none⟩,⟨some 9,.nilCheck (.t 8),none⟩,⟨some 10,.fieldAddr 1 (.t 9),none⟩,⟨some 11,.load none (.t 10),none⟩,⟨some 12,.move (.t 1),none⟩,⟨some 13,.bslice false 1 1 [(.im (.int .u8 0))] [(0,(.t 12))],none⟩,⟨some 14,.append 5 1 1 (.t 11) (.t 13),none⟩,⟨some 15,.nilCheck (.t 7),none⟩,⟨some 16,.fieldAddr 1 (.t 15),none⟩,⟨none,.store 1 (.t 16) (.t 14),none⟩] []) (.seq (.ops [⟨some 4,.move (.c (.im .nili)),none⟩] []) .ret)))),false⟩
theorem F62 : F 62 = some f62 := by kernel_rfl
def f63 : AFunc := ⟨9,[(4,none)],(.seq (.ops [⟨some 4,.move (.c (.im (.bool false))),none⟩] []) (.seq (.ops [⟨some 5,.move (.t 0),none⟩,⟨some 6,.move (.t 1),none⟩,⟨some 7,.call (.c (.clo 74 [])) [(.t 5),(.t 6)],none⟩,⟨some 8,.bin .geq (.t 7) (.c (.im (.int .i64 0))),none⟩,⟨some 4,.move (.t 8),none⟩] []) .ret)),false⟩
theorem F63 : F 63 = some f63 := by kernel_rfl
def f64 : AFunc := ⟨6,[(2,none)],(.seq (.ops [⟨some 2,.move (.c (.im (.bool false))),none⟩] []) (.seq (.ops [⟨some 3,.move (.t 0),none⟩,⟨some 4,.call (.c (.clo 34 [])) [(.t 3)],none⟩,⟨some 5,.un .not (.t 4),none⟩,⟨some 2,.move (.t 5),none⟩] []) .ret)),false⟩
theorem F64 : F 64 = some f64 := by kernel_rfl
def f65 : AFunc := ⟨6,[(2,none)],(.seq (.ops [⟨some 1,.box none (.t 0),none⟩,⟨some 2,.move (.c (.im (.int .i64 0))),none⟩] []) (.seq (.seq (.ops [⟨some 3,.load (some 2) (.t 1),none⟩,⟨some 4,.call (.c (.clo 75 [])) [(.t 3),(.c (.im (.int .i64 6)))],none⟩,⟨some 5,.un .not (.t 4),none⟩] []) (.cond (.t 5) (.seq (.ops [⟨some 2,.move (.c (.im (.int .i64 20))),none⟩] []) .ret) .skip)) (.seq (.ops [⟨some 2,.move (.c (.im (.int .i64 0))),none⟩] []) .ret))),false⟩
theorem F65 : F 65 = some f65 := by kernel_rfl
def b66_0 : ACode := (.seq (.ops [⟨some 28,.bin .lss (.t 27) (.t 26),none⟩] []) (.seq (.cond (.t 28) .skip (.exit 2)) (.seq (.block 3 (.seq (.ops [⟨some 29,.move (.t 27),none⟩,⟨some 30,.indexSl 2 (.t 25) (.t 27),none⟩,⟨some 31,.load (some 2) (.t 30),none⟩,⟨some 7,.alloc none [(.im (.int .i64 0)),.nils],none⟩,⟨some 6,.move (.t 29),none⟩,⟨none,.store 2 (.t 7) (.t 31),none⟩] []) (.seq (.ops [⟨some 32,.move (.t 0),none⟩,⟨some 33,.move (.t 6),none⟩,⟨some 34,.indexStr (.c (.im (.str [40,44]))) (.t 33),none⟩,⟨some 35,.call (.c (.clo 62 [])) [(.t 32),(.t 34)],none⟩] []) (.ops [⟨some 36,.move (.t 0),none⟩,⟨some 37,.load (some 2) (.t 7),none⟩,⟨some 38,.call (.c (.clo 66 [])) [(.t 36),(.t 37)],none⟩] [])))) (.ops [⟨some 39,.bin .add (.t 27) (.c (.im (.int .i64 1))),none⟩,⟨some 27,.move (.t 39),none⟩] []))))
def c66_0 : ACode := .loop b66_0
theorem e66_0 : exec0 Φ Λ' c66_0 tm H K = thenL (Λ' c66_0 tm H) K := rfl
theorem l66_0 : Λ c66_0 tm H = exec0 L Λ b66_0 tm H fun e tm H => match e with
  | .normal => Λ c66_0 tm H
  | .exit i => some (.exit i, tm, H)
  | .goto l => some (.goto l, tm, H)
  | .ret => some (.ret, tm, H) := loop_eq
def b66_1 : ACode := (.seq (.ops [⟨some 11,.bin .lss (.t 10) (.t 9),none⟩] []) (.seq (.cond (.t 11) .skip (.exit 0)) (.seq (.block 1 (.seq (.ops [⟨some 12,.indexSl 3 (.t 8) (.t 10),none⟩,⟨some 13,.load (some 3) (.t 12),none⟩,⟨some 5,.alloc none [(.im (.int .i64 0)),(.im (.str [])),(.im (.int .i64 0))],none⟩,⟨none,.store 3 (.t 5) (.t 13),none⟩] []) (.seq (.ops [⟨some 14,.fieldAddr 0 (.t 5),none⟩,⟨some 15,.load none (.t 14),none⟩,⟨some 16,.fieldAddr 0 (.t 3),none⟩,⟨some 17,.load none (.t 16),none⟩,⟨some 18,.bin .eql (.t 15) (.t 17),none⟩] []) (.cond (.t 18) (.ops [⟨some 19,.move (.t 0),none⟩,⟨some 20,.fieldAddr 1 (.t 5),none⟩,⟨some 21,.load none (.t 20),none⟩,⟨some 22,.call (.c (.clo 44 [])) [(.t 19),(.t 21)],none⟩] []) .skip)))) (.ops [⟨some 23,.bin .add (.t 10) (.c (.im (.int .i64 1))),none⟩,⟨some 10,.move (.t 23),none⟩] []))))
def c66_1 : ACode := .loop b66_1
theorem e66_1 : exec0 Φ Λ' c66_1 tm H K = thenL (Λ' c66_1 tm H) K := rfl
theorem l66_1 : Λ c66_1 tm H = exec0 L Λ b66_1 tm H fun e tm H => match e with
  | .normal => Λ c66_1 tm H
  | .exit i => some (.exit i, tm, H)
  | .goto l => some (.goto l, tm, H)
  | .ret => some (.ret, tm, H) := loop_eq
def f66 : AFunc := ⟨46,[],(.seq (.ops [⟨some 3,.box none (.t 1),none⟩] []) (.seq (.seq (.ops [⟨some 8,.call (.c (.clo 76 [])) [],none⟩,⟨some 9,.lenSl (.t 8),none⟩,⟨some 10,.move (.c (.im (.int .i64 0))),none⟩] []) (.block 0 c66_1)) (.seq (.seq (.ops [⟨some 24,.fieldAddr 1 (.t 3),none⟩,⟨some 25,.load none (.t 24),none⟩,⟨some 26,.lenSl (.t 25),none⟩,⟨some 27,.move (.c (.im (.int .i64 0))),none⟩] []) (.block 2 c66_0)) (.seq (.ops [⟨some 40,.fieldAddr 1 (.t 3),none⟩,⟨some 41,.load none (.t 40),none⟩,⟨some 42,.lenSl (.t 41),none⟩,⟨some 43,.bin .gtr (.t 42) (.c (.im (.int .i64 0))),none⟩] []) (.cond (.t 43) (.ops [⟨some 44,.move (.t 0),none⟩,⟨some 45,.call (.c (.clo 62 [])) [(.t 44),(.c (.im (.int .u8 41)))],none⟩] []) .skip))))),false⟩
theorem F66 : F 66 = some f66 := by kernel_rfl
def f68 : AFunc := ⟨5,[(2,none)],(.seq (.ops [⟨some 2,.move (.c (.im (.int .i64 0))),none⟩] []) (.seq (.ops [⟨some 3,.move (.t 0),none⟩,⟨some 4,.call (.c (.clo 69 [])) [(.c (.im (.str [48,49,50,51,52,53,54,55,56,57,97,98,99,100,101,102]))),(.t 3)],none⟩,⟨some 2,.move (.t 4),none⟩] []) .ret)),false⟩
theorem F68 : F 68 = some f68 := by kernel_rfl
def f69 : AFunc := ⟨8,[(4,none)],(.seq (.ops [⟨some 4,.move (.c (.im (.int .i64 0))),none⟩] []) (.seq (.ops [⟨some 5,.move (.t 0),none⟩,⟨some 6,.move (.t 1),none⟩,⟨some 7,.call (.c (.clo 80 [])) [(.t 5),(.t 6)],none⟩,⟨some 4,.move (.t 7),none⟩] []) .ret)),false⟩
theorem F69 : F 69 = some f69 := by kernel_rfl
def f70 : AFunc := ⟨32,[(2,(some (some 2))),(3,none),(4,none)],(.seq (.ops [⟨some 2,.alloc none [(.im (.int .i64 0)),.nils],none⟩,⟨some 3,.move (.c (.im (.int .i64 0))),none⟩,⟨some 4,.move (.c (.im (.int .i64 0))),none⟩] []) (.seq (.ops [⟨some 7,.move (.t 0),none⟩,⟨some 8,.build [(.im (.str [])),(.im (.int .i64 0))] [(0,(1,(.t 7)))],none⟩,⟨some 9,.box none (.t 8),none⟩,⟨some 5,.move (.t 9),none⟩] []) (.seq (.ops [⟨some 11,.move (.t 5),none⟩,⟨some 12,.call (.c (.clo 81 [])) [(.t 11),(.c (.im (.int .i64 6)))],none⟩,⟨some 10,.move (.t 12),none⟩,⟨some 13,.extract 0 (.t 10),none⟩,⟨some 14,.extract 1 (.t 10),none⟩,⟨none,.store 2 (.t 2) (.t 13),none⟩,⟨some 6,.move (.t 14),none⟩] []) (.seq (.seq (.ops [⟨some 15,.move (.t 6),none⟩,⟨some 16,.un .not (.t 15),none⟩,⟨some 17,.move (.t 16),none⟩,⟨some 18,.move (.t 5),some (17,false)⟩,⟨some 19,.nilCheck (.t 18),some (17,false)⟩,⟨some 20,.fieldAddr 1 (.t 19),some (17,false)⟩,⟨some 21,.load none (.t 20),some (17,false)⟩,⟨some 22,.move (.t 0),some (17,false)⟩,⟨some 23,.lenStr (.t 22),some (17,false)⟩,⟨some 24,.bin .lss (.t 21) (.t 23),some (17,false)⟩,⟨some 25,.pick (.t 17) (.c (.im (.bool true))) (.t 24),none⟩] []) (.cond (.t 25) (.seq (.ops [⟨some 26,.build [(.im (.int .i64 0)),.nils] [],none⟩,⟨some 27,.move (.t 5),none⟩,⟨some 28,.nilCheck (.t 27),none⟩,⟨some 29,.fieldAddr 1 (.t 28),none⟩,⟨some 30,.load none (.t 29),none⟩,⟨none,.store 2 (.t 2) (.t 26),none⟩,⟨some 3,.move (.t 30),none⟩,⟨some 4,.move (.c (.im (.int .i64 40))),none⟩] [(4,5)]) .ret) .skip)) (.seq (.ops [⟨some 31,.load (some 2) (.t 2),none⟩,⟨none,.store 2 (.t 2) (.t 31),none⟩,⟨some 3,.move (.c (.im (.int .i64 0))),none⟩,⟨some 4,.move (.c (.im (.int .i64 0))),none⟩] []) .ret))))),false⟩
theorem F70 : F 70 = some f70 := by kernel_rfl
def b74_0 : ACode := (.seq (.ops [⟨some 9,.bin .lss (.t 8) (.t 7),none⟩] []) (.seq (.cond (.t 9) .skip (.exit 0)) (.seq (.block 1 (.seq (.ops [⟨some 10,.move (.t 8),none⟩,⟨some 5,.move (.t 10),none⟩] []) (.seq (.ops [⟨some 11,.move (.t 1),none⟩,⟨some 12,.move (.t 0),none⟩,⟨some 13,.move (.t 5),none⟩,⟨some 14,.indexSl 1 (.t 12) (.t 13),none⟩,⟨some 15,.load none (.t 14),none⟩,⟨some 16,.call (.t 11) [(.t 15)],none⟩] []) (.cond (.t 16) (.seq (.ops [⟨some 17,.move (.t 5),none⟩,⟨some 4,.move (.t 17),none⟩] []) .ret) .skip)))) (.ops [⟨some 18,.bin .add (.t 8) (.c (.im (.int .i64 1))),none⟩,⟨some 8,.move (.t 18),none⟩] []))))
def c74_0 : ACode := .loop b74_0
theorem e74_0 : exec0 Φ Λ' c74_0 tm H K = thenL (Λ' c74_0 tm H) K := rfl
theorem l74_0 : Λ c74_0 tm H = exec0 L Λ b74_0 tm H fun e tm H => match e with
  | .normal => Λ c74_0 tm H
  | .exit i => some (.exit i, tm, H)
  | .goto l => some (.goto l, tm, H)
  | .ret => some (.ret, tm, H) := loop_eq
def f74 : AFunc := ⟨19,[(4,none)],(.seq (.ops [⟨some 4,.move (.c (.im (.int .i64 0))),none⟩] []) (.seq (.seq (.ops [⟨some 6,.move (.t 0),none⟩,⟨some 7,.lenSl (.t 6),none⟩,⟨some 8,.move (.c (.im (.int .i64 0))),none⟩] []) (.block 0 c74_0)) (.seq (.ops [⟨some 4,.move (.c (.im (.int .i64 (-1)))),none⟩] []) .ret))),false⟩
theorem F74 : F 74 = some f74 := by kernel_rfl
def f75 : AFunc := ⟨31,[(4,none)],(.seq (.ops [⟨some 2,.box none (.t 0),none⟩,⟨some 3,.box none (.t 1),none⟩,⟨some 4,.move (.c (.im (.bool false))),none⟩] []) (.seq (.ops [⟨some 6,.call (.c (.clo 76 [])) [],none⟩,⟨some 7,.mkfunc 90 [(.t 2)],none⟩,⟨some 8,.call (.c (.clo 89 [])) [(.t 6),(.t 7)],none⟩,⟨some 5,.move (.t 8),none⟩] []) (.seq (.seq (.ops [⟨some 9,.move (.t 5),none⟩,⟨some 10,.bin .lss (.t 9) (.c (.im (.int .i64 0))),none⟩,⟨some 11,.move (.t 10),none⟩,⟨some 12,.load none (.t 3),some (11,false)⟩,⟨some 13,.bin .lss (.t 12) (.c (.im (.int .i64 1))),some (11,false)⟩,⟨some 14,.pick (.t 11) (.c (.im (.bool true))) (.t 13),none⟩,⟨some 15,.move (.t 14),none⟩,⟨some 16,.fieldAddr 1 (.t 2),some (15,false)⟩,⟨some 17,.load none (.t 16),some (15,false)⟩,⟨some 18,.lenSl (.t 17),some (15,false)⟩,⟨some 19,.call (.c (.clo 76 [])) [],some (15,false)⟩,⟨some 20,.move (.t 5),some (15,false)⟩,⟨some 21,.indexSl 3 (.t 19) (.t 20),some (15,false)⟩,⟨some 22,.fieldAddr 2 (.t 21),some (15,false)⟩,⟨some 23,.load none (.t 22),some (15,false)⟩,⟨some 24,.bin .neq (.t 18) (.t 23),some (15,false)⟩,⟨some 25,.pick (.t 15) (.c (.im (.bool true))) (.t 24),none⟩] [(8,10)]) (.cond (.t 25) (.seq (.ops [⟨some 4,.move (.c (.im (.bool false))),none⟩] []) .ret) .skip)) (.seq (.ops [⟨some 26,.fieldAddr 1 (.t 2),none⟩,⟨some 27,.load none (.t 26),none⟩,⟨some 28,.mkfunc 92 [(.t 3)],none⟩,⟨some 29,.call (.c (.clo 91 [])) [(.t 27),(.t 28)],none⟩,⟨some 30,.un .not (.t 29),none⟩,⟨some 4,.move (.t 30),none⟩] []) .ret)))),false⟩
theorem F75 : F 75 = some f75 := by kernel_rfl
def f76 : AFunc := ⟨10,[(0,none)],(.seq (.ops [⟨some 0,.move (.c .nils),none⟩] []) (.seq (.ops [⟨some 1,.build [(.im (.int .i64 0)),(.im (.str [])),(.im (.int .i64 0))] [(0,(1,(.c (.im (.int .i64 1))))),(1,(1,(.c (.im (.str [98,111,111,108]))))),(2,(1,(.c (.im (.int .i64 0)))))],none⟩,⟨some 2,.build [(.im (.int .i64 0)),(.im (.str [])),(.im (.int .i64 0))] [(0,(1,(.c (.im (.int .i64 2))))),(1,(1,(.c (.im (.str [105,110,116]))))),(2,(1,(.c (.im (.int .i64 0)))))],none⟩,⟨some 3,.build [(.im (.int .i64 0)),(.im (.str [])),(.im (.int .i64 0))] [(0,(1,(.c (.im (.int .i64 3))))),(1,(1,(.c (.im (.str [116,101,120,116]))))),(2,(1,(.c (.im (.int .i64 0)))))],none⟩,⟨some 4,.build [(.im (.int .i64 0)),(.im (.str [])),(.im (.int .i64 0))] [(0,(1,(.c (.im (.int .i64 4))))),(1,(1,(.c (.im (.str [98,121,116,101,115]))))),(2,(1,(.c (.im (.int .i64 0)))))],none⟩,⟨some 5,.build [(.im (.int .i64 0)),(.im (.str [])),(.im (.int .i64 0))] [(0,(1,(.c (.im (.int .i64 5))))),(1,(1,(.c (.im (.str [112,111,105,110,116]))))),(2,(1,(.c (.im (.int .i64 0)))))],none⟩,⟨some 6,.build [(.im (.int .i64 0)),(.im (.str [])),(.im (.int .i64 0))] [(0,(1,(.c (.im (.int .i64 6))))),(1,(1,(.c (.im (.str [112,97,105,114]))))),(2,(1,(.c (.im (.int .i64 2)))))],none⟩,⟨some 7,.build [(.im (.int .i64 0)),(.im (.str [])),(.im (.int .i64 0))] [(0,(1,(.c (.im (.int .i64 7))))),(1,(1,(.c (.im (.str [108,105,115,116]))))),(2,(1,(.c (.im (.int .i64 1)))))],none⟩,⟨some 8,.build [(.im (.int .i64 0)),(.im (.str [])),(.im (.int .i64 0))] [(0,(1,(.c (.im (.int .i64 9))))),(1,(1,(.c (.im (.str [111,112,116,105,111,110]))))),(2,(1,(.c (.im (.int .i64 1)))))],none⟩,⟨some 9,.bslice true 3 8 [(.im (.int .i64 0)),(.im (.str [])),(.im (.int .i64 0))] [(0,(.t 1)),(1,(.t 2)),(2,(.t 3)),(3,(.t 4)),(4,(.t 5)),(5,(.t 6)),(6,(.t 7)),(7,(.t 8))],none⟩,⟨some 0,.move (.t 9),none⟩] []) .ret)),true⟩
theorem F76 : F 76 = some f76 := by kernel_rfl
def b81_0 : ACode := (.seq (.ops [⟨some 27,.bin .lss (.t 26) (.t 25),none⟩] []) (.seq (.cond (.t 27) .skip (.exit 0)) (.seq (.block 1 (.seq (.ops [⟨some 28,.move (.t 26),none⟩,⟨some 9,.move (.t 28),none⟩] []) (.seq (.seq (.ops [⟨some 29,.move (.t 0),none⟩,⟨some 30,.move (.t 9),none⟩,⟨some 31,.indexStr (.c (.im (.str [40,44]))) (.t 30),none⟩,⟨some 32,.call (.c (.clo 99 [])) [(.t 29),(.t 31)],none⟩,⟨some 33,.un .not (.t 32),none⟩] []) (.cond (.t 33) (.seq (.ops [⟨some 34,.build [(.im (.int .i64 0)),.nils] [],none⟩,⟨none,.store 2 (.t 4) (.t 34),none⟩,⟨some 5,.move (.c (.im (.bool false))),none⟩] []) .ret) .skip)) (.seq (.ops [⟨some 36,.move (.t 0),none⟩,⟨some 37,.move (.t 1),none⟩,⟨some 38,.bin .sub (.t 37) (.c (.im (.int .i64 1))),none⟩,⟨some 39,.call (.c (.clo 81 [])) [(.t 36),(.t 38)],none⟩,⟨some 35,.move (.t 39),none⟩,⟨some 40,.extract 0 (.t 35),none⟩,⟨some 41,.extract 1 (.t 35),none⟩,⟨some 10,.alloc none [(.im (.int .i64 0)),.nils],none⟩,⟨none,.store 2 (.t 10) (.t 40),none⟩,⟨some 11,.move (.t 41),none⟩] []) (.seq (.seq (.ops [⟨some 42,.move (.t 11),none⟩,⟨some 43,.un .not (.t 42),none⟩] []) (.cond (.t 43) (.seq (.ops [⟨some 44,.build [(.im (.int .i64 0)),.nils] [],none⟩,⟨none,.store 2 (.t 4) (.t 44),none⟩,⟨some 5,.move (.c (.im (.bool false))),none⟩] []) .ret) .skip)) (.ops [⟨some 45,.fieldAddr 1 (.t 8),none⟩,⟨some 46,.load none (.t 45),none⟩,⟨some 47,.load (some 2) (.t 10),none⟩,⟨some 48,.bslice false 2 1 [(.im (.int .i64 0)),.nils] [(0,(.t 47))],none⟩,⟨some 49,.append 24 32 2 (.t 46) (.t 48),none⟩,⟨some 50,.fieldAddr 1 (.t 8),none⟩,⟨none,.store 1 (.t 50) (.t 49),none⟩] [])))))) (.ops [⟨some 51,.bin .add (.t 26) (.c (.im (.int .i64 1))),none⟩,⟨some 26,.move (.t 51),none⟩] []))))
def c81_0 : ACode := .loop b81_0
theorem e81_0 : exec0 Φ Λ' c81_0 tm H K = thenL (Λ' c81_0 tm H) K := rfl
theorem l81_0 : Λ c81_0 tm H = exec0 L Λ b81_0 tm H fun e tm H => match e with
  | .normal => Λ c81_0 tm H
  | .exit i => some (.exit i, tm, H)
  | .goto l => some (.goto l, tm, H)
  | .ret => some (.ret, tm, H) := loop_eq
def f81 : AFunc := ⟨60,[(4,(some (some 2))),(5,none)],(.seq (.ops [⟨some 4,.alloc none [(.im (.int .i64 0)),.nils],none⟩,⟨some 5,.move (.c (.im (.bool false))),none⟩] []) (.seq (.ops [⟨some 13,.move (.t 0),none⟩,⟨some 14,.move (.t 1),none⟩,⟨some 15,.call (.c (.clo 98 [])) [(.t 13),(.t 14)],none⟩,⟨some 12,.move (.t 15),none⟩,⟨some 16,.extract 0 (.t 12),none⟩,⟨some 17,.extract 1 (.t 12),none⟩,⟨some 6,.alloc none [(.im (.int .i64 0)),(.im (.str [])),(.im (.int .i64 0))],none⟩,⟨none,.store 3 (.t 6) (.t 16),none⟩,⟨some 7,.move (.t 17),none⟩] []) (.seq (.seq (.ops [⟨some 18,.move (.t 7),none⟩,⟨some 19,.un .not (.t 18),none⟩] []) (.cond (.t 19) (.seq (.ops [⟨some 20,.build [(.im (.int .i64 0)),.nils] [],none⟩,⟨none,.store 2 (.t 4) (.t 20),none⟩,⟨some 5,.move (.c (.im (.bool false))),none⟩] []) .ret) .skip)) (.seq (.ops [⟨some 21,.fieldAddr 0 (.t 6),none⟩,⟨some 22,.load none (.t 21),none⟩,⟨some 23,.build [(.im (.int .i64 0)),.nils] [(0,(1,(.t 22)))],none⟩,⟨some 8,.alloc none [(.im (.int .i64 0)),.nils],none⟩,⟨none,.store 2 (.t 8) (.t 23),none⟩] []) (.seq (.seq (.ops [⟨some 24,.fieldAddr 2 (.t 6),none⟩,⟨some 25,.load none (.t 24),none⟩,⟨some 26,.move (.c (.im (.int .i64 0))),none⟩] []) (.block 0 c81_0)) (.seq (.ops [⟨some 52,.load (some 2) (.t 8),none⟩,⟨some 53,.fieldAddr 2 (.t 6),none⟩,⟨some 54,.load none (.t 53),none⟩,⟨some 55,.bin .eql (.t 54) (.c (.im (.int .i64 0))),none⟩,⟨some 56,.move (.t 55),none⟩,⟨some 57,.move (.t 0),some (56,false)⟩,⟨some 58,.call (.c (.clo 99 [])) [(.t 57),(.c (.im (.int .u8 41)))],some (56,false)⟩,⟨some 59,.pick (.t 56) (.c (.im (.bool true))) (.t 58),none⟩,⟨none,.store 2 (.t 4) (.t 52),none⟩,⟨some 5,.move (.t 59),none⟩] [(0,6)]) .ret)))))),false⟩
theorem F81 : F 81 = some f81 := by kernel_rfl
def b89_0 : ACode := (.seq (.ops [⟨some 9,.bin .lss (.t 8) (.t 7),none⟩] []) (.seq (.cond (.t 9) .skip (.exit 0)) (.seq (.block 1 (.seq (.ops [⟨some 10,.move (.t 8),none⟩,⟨some 5,.move (.t 10),none⟩] []) (.seq (.ops [⟨some 11,.move (.t 1),none⟩,⟨some 12,.move (.t 0),none⟩,⟨some 13,.move (.t 5),none⟩,⟨some 14,.indexSl 3 (.t 12) (.t 13),none⟩,⟨some 15,.load (some 3) (.t 14),none⟩,⟨some 16,.call (.t 11) [(.t 15)],none⟩] []) (.cond (.t 16) (.seq (.ops [⟨some 17,.move (.t 5),none⟩,⟨some 4,.move (.t 17),none⟩] []) .ret) .skip)))) (.ops [⟨some 18,.bin .add (.t 8) (.c (.im (.int .i64 1))),none⟩,⟨some 8,.move (.t 18),none⟩] []))))
def c89_0 : ACode := .loop b89_0
theorem e89_0 : exec0 Φ Λ' c89_0 tm H K = thenL (Λ' c89_0 tm H) K := rfl
theorem l89_0 : Λ c89_0 tm H = exec0 L Λ b89_0 tm H fun e tm H => match e with
  | .normal => Λ c89_0 tm H
  | .exit i => some (.exit i, tm, H)
  | .goto l => some (.goto l, tm, H)
  | .ret => some (.ret, tm, H) := loop_eq
def f89 : AFunc := ⟨19,[(4,none)],(.seq (.ops [⟨some 4,.move (.c (.im (.int .i64 0))),none⟩] []) (.seq (.seq (.ops [⟨some 6,.move (.t 0),none⟩,⟨some 7,.lenSl (.t 6),none⟩,⟨some 8,.move (.c (.im (.int .i64 0))),none⟩] []) (.block 0 c89_0)) (.seq (.ops [⟨some 4,.move (.c (.im (.int .i64 (-1)))),none⟩] []) .ret))),false⟩
theorem F89 : F 89 = some f89 := by kernel_rfl
def f90 : AFunc := ⟨9,[(3,none)],(.seq (.ops [⟨some 2,.box none (.t 0),none⟩,⟨some 3,.move (.c (.im (.bool false))),none⟩] []) (.seq (.ops [⟨some 4,.fieldAddr 0 (.t 2),none⟩,⟨some 5,.load none (.t 4),none⟩,⟨some 6,.fieldAddr 0 (.t 1),none⟩,⟨some 7,.load none (.t 6),none⟩,⟨some 8,.bin .eql (.t 5) (.t 7),none⟩,⟨some 3,.move (.t 8),none⟩] []) .ret)),false⟩
theorem F90 : F 90 = some f90 := by kernel_rfl
def f91 : AFunc := ⟨9,[(4,none)],(.seq (.ops [⟨some 4,.move (.c (.im (.bool false))),none⟩] []) (.seq (.ops [⟨some 5,.move (.t 0),none⟩,⟨some 6,.move (.t 1),none⟩,⟨some 7,.call (.c (.clo 105 [])) [(.t 5),(.t 6)],none⟩,⟨some 8,.bin .geq (.t 7) (.c (.im (.int .i64 0))),none⟩,⟨some 4,.move (.t 8),none⟩] []) .ret)),false⟩
theorem F91 : F 91 = some f91 := by kernel_rfl
def f92 : AFunc := ⟨9,[(3,none)],(.seq (.ops [⟨some 2,.box none (.t 0),none⟩,⟨some 3,.move (.c (.im (.bool false))),none⟩] []) (.seq (.ops [⟨some 4,.load (some 2) (.t 2),none⟩,⟨some 5,.load none (.t 1),none⟩,⟨some 6,.bin .sub (.t 5) (.c (.im (.int .i64 1))),none⟩,⟨some 7,.call (.c (.clo 75 [])) [(.t 4),(.t 6)],none⟩,⟨some 8,.un .not (.t 7),none⟩,⟨some 3,.move (.t 8),none⟩] []) .ret)),false⟩
theorem F92 : F 92 = some f92 := by kernel_rfl
def b98_0 : ACode := (.seq (.ops [⟨some 16,.bin .lss (.t 15) (.t 14),none⟩] []) (.seq (.cond (.t 16) .skip (.exit 0)) (.seq (.block 1 (.seq (.ops [⟨some 17,.indexSl 3 (.t 13) (.t 15),none⟩,⟨some 18,.load (some 3) (.t 17),none⟩,⟨some 9,.alloc none [(.im (.int .i64 0)),(.im (.str [])),(.im (.int .i64 0))],none⟩,⟨none,.store 3 (.t 9) (.t 18),none⟩] []) (.seq (.ops [⟨some 19,.fieldAddr 1 (.t 9),none⟩,⟨some 20,.load none (.t 19),none⟩,⟨some 21,.lenStr (.t 20),none⟩,⟨some 22,.load none (.t 7),none⟩,⟨some 23,.bin .eql (.t 21) (.t 22),none⟩] []) (.cond (.t 23) (.seq (.ops [⟨some 24,.load (some 3) (.t 9),none⟩,⟨none,.store 3 (.t 4) (.t 24),none⟩,⟨some 5,.move (.c (.im (.bool true))),none⟩] []) .ret) .skip)))) (.ops [⟨some 25,.bin .add (.t 15) (.c (.im (.int .i64 1))),none⟩,⟨some 15,.move (.t 25),none⟩] []))))
def c98_0 : ACode := .loop b98_0
theorem e98_0 : exec0 Φ Λ' c98_0 tm H K = thenL (Λ' c98_0 tm H) K := rfl
theorem l98_0 : Λ c98_0 tm H = exec0 L Λ b98_0 tm H fun e tm H => match e with
  | .normal => Λ c98_0 tm H
  | .exit i => some (.exit i, tm, H)
  | .goto l => some (.goto l, tm, H)
  | .ret => some (.ret, tm, H) := loop_eq
def c98_1 : ACode := (.scope (.seq (.ops [⟨some 10,.call (.c (.clo 76 [])) [],none⟩,⟨some 11,.mkfunc 108 [(.t 3)],none⟩,⟨some 12,.call (.c (.clo 107 [])) [(.t 10),(.t 11)],none⟩,⟨some 6,.move (.t 12),none⟩] []) (.seq (.ops [⟨some 7,.alloc none [(.im (.int .i64 0))],none⟩,⟨none,.store 1 (.t 7) (.c (.im (.int .i64 0))),none⟩] []) (.seq (.label 0) (.seq (.seq (.ops [⟨some 13,.move (.t 6),none⟩,⟨some 14,.lenSl (.t 13),none⟩,⟨some 15,.move (.c (.im (.int .i64 0))),none⟩] []) (.block 0 c98_0)) (.seq (.seq (.ops [⟨some 26,.load none (.t 2),none⟩,⟨some 27,.nilCheck (.t 26),none⟩,⟨some 28,.fieldAddr 1 (.t 27),none⟩,⟨some 29,.load none (.t 28),none⟩,⟨some 30,.load none (.t 2),none⟩,⟨some 31,.nilCheck (.t 30),none⟩,⟨some 32,.fieldAddr 0 (.t 31),none⟩,⟨some 33,.load none (.t 32),none⟩,⟨some 34,.lenStr (.t 33),none⟩,⟨some 35,.bin .lss (.t 29) (.t 34),none⟩] []) (.cond (.t 35) (.seq (.ops [⟨some 36,.move (.t 6),none⟩,⟨some 37,.mkfunc 109 [(.t 7),(.t 2)],none⟩,⟨some 38,.call (.c (.clo 107 [])) [(.t 36),(.t 37)],none⟩,⟨some 6,.move (.t 38),none⟩] []) (.seq (.ops [⟨some 39,.move (.t 6),none⟩,⟨some 40,.lenSl (.t 39),none⟩,⟨some 41,.bin .gtr (.t 40) (.c (.im (.int .i64 0))),none⟩] []) (.cond (.t 41) (.seq (.ops [⟨some 42,.load none (.t 2),none⟩,⟨some 43,.nilCheck (.t 42),none⟩,⟨some 44,.fieldAddr 1 (.t 43),none⟩,⟨some 45,.load none (.t 44),none⟩,⟨some 46,.bin .add (.t 45) (.c (.im (.int .i64 1))),none⟩,⟨some 47,.nilCheck (.t 42),none⟩,⟨some 48,.fieldAddr 1 (.t 47),none⟩,⟨none,.store 1 (.t 48) (.t 46),none⟩] []) (.seq (.ops [⟨some 49,.load none (.t 7),none⟩,⟨some 50,.bin .add (.t 49) (.c (.im (.int .i64 1))),none⟩,⟨none,.store 1 (.t 7) (.t 50),none⟩] []) (.goto 0))) .skip))) .skip)) (.seq (.ops [⟨some 51,.build [(.im (.int .i64 0)),(.im (.str [])),(.im (.int .i64 0))] [],none⟩,⟨none,.store 3 (.t 4) (.t 51),none⟩,⟨some 5,.move (.c (.im (.bool false))),none⟩] []) .ret)))))) (.seq (.ops [⟨some 10,.call (.c (.clo 76 [])) [],none⟩,⟨some 11,.mkfunc 108 [(.t 3)],none⟩,⟨some 12,.call (.c (.clo 107 [])) [(.t 10),(.t 11)],none⟩,⟨some 6,.move (.t 12),none⟩] []) (.seq (.ops [⟨some 7,.alloc none [(.im (.int .i64 0))],none⟩,⟨none,.store 1 (.t 7) (.c (.im (.int .i64 0))),none⟩] []) (.seq (.label 0) (.seq (.seq (.ops [⟨some 13,.move (.t 6),none⟩,⟨some 14,.lenSl (.t 13),none⟩,⟨some 15,.move (.c (.im (.int .i64 0))),none⟩] []) (.block 0 c98_0)) (.seq (.seq (.ops [⟨some 26,.load none (.t 2),none⟩,⟨some 27,.nilCheck (.t 26),none⟩,⟨some 28,.fieldAddr 1 (.t 27),none⟩,⟨some 29,.load none (.t 28),none⟩,⟨some 30,.load none (.t 2),none⟩,⟨some 31,.nilCheck (.t 30),none⟩,⟨some 32,.fieldAddr 0 (.t 31),none⟩,⟨some 33,.load none (.t 32),none⟩,⟨some 34,.lenStr (.t 33),none⟩,⟨some 35,.bin .lss (.t 29) (.t 34),none⟩] []) (.cond (.t 35) (.seq (.ops [⟨some 36,.move (.t 6),none⟩,⟨some 37,.mkfunc 109 [(.t 7),(.t 2)],none⟩,⟨some 38,.call (.c (.clo 107 [])) [(.t 36),(.t 37)],none⟩,⟨some 6,.move (.t 38),none⟩] []) (.seq (.ops [⟨some 39,.move (.t 6),none⟩,⟨some 40,.lenSl (.t 39),none⟩,⟨some 41,.bin .gtr (.t 40) (.c (.im (.int .i64 0))),none⟩] []) (.cond (.t 41) (.seq (.ops [⟨some 42,.load none (.t 2),none⟩,⟨some 43,.nilCheck (.t 42),none⟩,⟨some 44,.fieldAddr 1 (.t 43),none⟩,⟨some 45,.load none (.t 44),none⟩,⟨some 46,.bin .add (.t 45) (.c (.im (.int .i64 1))),none⟩,⟨some 47,.nilCheck (.t 42),none⟩,⟨some 48,.fieldAddr 1 (.t 47),none⟩,⟨none,.store 1 (.t 48) (.t 46),none⟩] []) (.seq (.ops [⟨some 49,.load none (.t 7),none⟩,⟨some 50,.bin .add (.t 49) (.c (.im (.int .i64 1))),none⟩,⟨none,.store 1 (.t 7) (.t 50),none⟩] []) (.goto 0))) .skip))) .skip)) (.seq (.ops [⟨some 51,.build [(.im (.int .i64 0)),(.im (.str [])),(.im (.int .i64 0))] [],none⟩,⟨none,.store 3 (.t 4) (.t 51),none⟩,⟨some 5,.move (.c (.im (.bool false))),none⟩] []) .ret)))))))
theorem e98_1 : exec0 Φ Λ' c98_1 tm H K = thenL (Λ' c98_1 tm H) K := rfl
def f98 : AFunc := ⟨52,[(4,(some (some 3))),(5,none)],(.seq (.ops [⟨some 2,.box none (.t 0),none⟩,⟨some 3,.box none (.t 1),none⟩,⟨some 4,.alloc none [(.im (.int .i64 0)),(.im (.str [])),(.im (.int .i64 0))],none⟩,⟨some 5,.move (.c (.im (.bool false))),none⟩] []) c98_1),false⟩
theorem F98 : F 98 = some f98 := by kernel_rfl
def f99 : AFunc := ⟨35,[(4,none)],(.seq (.ops [⟨some 4,.move (.c (.im (.bool false))),none⟩] []) (.seq (.seq (.ops [⟨some 5,.move (.t 0),none⟩,⟨some 6,.nilCheck (.t 5),none⟩,⟨some 7,.fieldAddr 1 (.t 6),none⟩,⟨some 8,.load none (.t 7),none⟩,⟨some 9,.move (.t 0),none⟩,⟨some 10,.nilCheck (.t 9),none⟩,⟨some 11,.fieldAddr 0 (.t 10),none⟩,⟨some 12,.load none (.t 11),none⟩,⟨some 13,.lenStr (.t 12),none⟩,⟨some 14,.bin .lss (.t 8) (.t 13),none⟩,⟨some 15,.move (.t 14),none⟩,⟨some 16,.move (.t 0),some (15,true)⟩,⟨some 17,.nilCheck (.t 16),some (15,true)⟩,⟨some 18,.fieldAddr 0 (.t 17),some (15,true)⟩,⟨some 19,.load none (.t 18),some (15,true)⟩,⟨some 20,.move (.t 0),some (15,true)⟩,⟨some 21,.nilCheck (.t 20),some (15,true)⟩,⟨some 22,.fieldAddr 1 (.t 21),some (15,true)⟩,⟨some 23,.load none (.t 22),some (15,true)⟩,⟨some 24,.indexStr (.t 19) (.t 23),some (15,true)⟩,⟨some 25,.move (.t 1),some (15,true)⟩,⟨some 26,.bin .eql (.t 24) (.t 25),some (15,true)⟩,⟨some 27,.pick (.t 15) (.t 26) (.c (.im (.bool false))),none⟩] []) (.cond (.t 27) (.seq (.ops [⟨some 28,.move (.t 0),none⟩,⟨some 29,.nilCheck (.t 28),none⟩,⟨some 30,.fieldAddr 1 (.t 29),none⟩,⟨some 31,.load none (.t 30),none⟩,⟨some 32,.bin .add (.t 31) (.c (.im (.int .i64 1))),none⟩,⟨some 33,.nilCheck (.t 28),none⟩,⟨some 34,.fieldAddr 1 (.t 33),none⟩,⟨none,.store 1 (.t 34) (.t 32),none⟩] []) (.seq (.ops [⟨some 4,.move (.c (.im (.bool true))),none⟩] []) .ret)) .skip)) (.seq (.ops [⟨some 4,.move (.c (.im (.bool false))),none⟩] []) .ret))),false⟩
theorem F99 : F 99 = some f99 := by kernel_rfl
def b105_0 : ACode := (.seq (.ops [⟨some 9,.bin .lss (.t 8) (.t 7),none⟩] []) (.seq (.cond (.t 9) .skip (.exit 0)) (.seq (.block 1 (.seq (.ops [⟨some 10,.move (.t 8),none⟩,⟨some 5,.move (.t 10),none⟩] []) (.seq (.ops [⟨some 11,.move (.t 1),none⟩,⟨some 12,.move (.t 0),none⟩,⟨some 13,.move (.t 5),none⟩,⟨some 14,.indexSl 2 (.t 12) (.t 13),none⟩,⟨some 15,.load (some 2) (.t 14),none⟩,⟨some 16,.call (.t 11) [(.t 15)],none⟩] []) (.cond (.t 16) (.seq (.ops [⟨some 17,.move (.t 5),none⟩,⟨some 4,.move (.t 17),none⟩] []) .ret) .skip)))) (.ops [⟨some 18,.bin .add (.t 8) (.c (.im (.int .i64 1))),none⟩,⟨some 8,.move (.t 18),none⟩] []))))
def c105_0 : ACode := .loop b105_0
theorem e105_0 : exec0 Φ Λ' c105_0 tm H K = thenL (Λ' c105_0 tm H) K := rfl
theorem l105_0 : Λ c105_0 tm H = exec0 L Λ b105_0 tm H fun e tm H => match e with
  | .normal => Λ c105_0 tm H
  | .exit i => some (.exit i, tm, H)
  | .goto l => some (.goto l, tm, H)
  | .ret => some (.ret, tm, H) := loop_eq
def f105 : AFunc := ⟨19,[(4,none)],(.seq (.ops [⟨some 4,.move (.c (.im (.int .i64 0))),none⟩] []) (.seq (.seq (.ops [⟨some 6,.move (.t 0),none⟩,⟨some 7,.lenSl (.t 6),none⟩,⟨some 8,.move (.c (.im (.int .i64 0))),none⟩] []) (.block 0 c105_0)) (.seq (.ops [⟨some 4,.move (.c (.im (.int .i64 (-1)))),none⟩] []) .ret))),false⟩
theorem F105 : F 105 = some f105 := by kernel_rfl
def b107_0 : ACode := (.seq (.seq (.ops [⟨some 16,.move (.t 6),none⟩,⟨some 17,.move (.t 0),none⟩,⟨some 18,.lenSl (.t 17),none⟩,⟨some 19,.bin .lss (.t 16) (.t 18),none⟩] []) (.cond (.t 19) .skip (.exit 0))) (.seq (.block 1 (.seq (.ops [⟨some 22,.move (.t 0),none⟩,⟨some 23,.move (.t 6),none⟩,⟨some 24,.indexSl 3 (.t 22) (.t 23),none⟩,⟨some 25,.load (some 3) (.t 24),none⟩,⟨some 7,.alloc none [(.im (.int .i64 0)),(.im (.str [])),(.im (.int .i64 0))],none⟩,⟨none,.store 3 (.t 7) (.t 25),none⟩] []) (.seq (.ops [⟨some 26,.move (.t 1),none⟩,⟨some 27,.load (some 3) (.t 7),none⟩,⟨some 28,.call (.t 26) [(.t 27)],none⟩,⟨some 29,.un .not (.t 28),none⟩] []) (.cond (.t 29) (.seq (.ops [⟨some 30,.move (.t 0),none⟩,⟨some 31,.move (.t 5),none⟩,⟨some 32,.load (some 3) (.t 7),none⟩,⟨some 33,.indexSl 3 (.t 30) (.t 31),none⟩,⟨none,.store 3 (.t 33) (.t 32),none⟩] []) (.ops [⟨some 34,.move (.t 5),none⟩,⟨some 35,.bin .add (.t 34) (.c (.im (.int .i64 1))),none⟩,⟨some 5,.move (.t 35),none⟩] [])) .skip)))) (.ops [⟨some 20,.move (.t 6),none⟩,⟨some 21,.bin .add (.t 20) (.c (.im (.int .i64 1))),none⟩,⟨some 6,.move (.t 21),none⟩] [])))
def c107_0 : ACode := .loop b107_0
theorem e107_0 : exec0 Φ Λ' c107_0 tm H K = thenL (Λ' c107_0 tm H) K := rfl
theorem l107_0 : Λ c107_0 tm H = exec0 L Λ b107_0 tm H fun e tm H => match e with
  | .normal => Λ c107_0 tm H
  | .exit i => some (.exit i, tm, H)
  | .goto l => some (.goto l, tm, H)
  | .ret => some (.ret, tm, H) := loop_eq
def f107 : AFunc := ⟨42,[(4,none)],(.seq (.ops [⟨some 4,.move (.c .nils),none⟩] []) (.seq (.ops [⟨some 8,.move (.t 0),none⟩,⟨some 9,.move (.t 1),none⟩,⟨some 10,.call (.c (.clo 89 [])) [(.t 8),(.t 9)],none⟩,⟨some 5,.move (.t 10),none⟩] []) (.seq (.seq (.ops [⟨some 11,.move (.t 5),none⟩,⟨some 12,.bin .eql (.t 11) (.c (.im (.int .i64 (-1)))),none⟩] []) (.cond (.t 12) (.seq (.ops [⟨some 13,.move (.t 0),none⟩,⟨some 4,.move (.t 13),none⟩] []) .ret) .skip)) (.seq (.seq (.ops [⟨some 14,.move (.t 5),none⟩,⟨some 15,.bin .add (.t 14) (.c (.im (.int .i64 1))),none⟩,⟨some 6,.move (.t 15),none⟩] []) (.block 0 c107_0)) (.seq (.ops [⟨some 36,.move (.t 0),none⟩,⟨some 37,.move (.t 5),none⟩,⟨some 38,.slice 3 (.t 36) (some (.t 37)) none none,none⟩,⟨none,.clear 3 [(.im (.int .i64 0)),(.im (.str [])),(.im (.int .i64 0))] (.t 38),none⟩] []) (.seq (.ops [⟨some 39,.move (.t 0),none⟩,⟨some 40,.move (.t 5),none⟩,⟨some 41,.slice 3 (.t 39) none (some (.t 40)) none,none⟩,⟨some 4,.move (.t 41),none⟩] []) .ret)))))),true⟩
theorem F107 : F 107 = some f107 := by kernel_rfl
def f108 : AFunc := ⟨11,[(3,none)],(.seq (.ops [⟨some 2,.box none (.t 0),none⟩,⟨some 3,.move (.c (.im (.bool false))),none⟩] []) (.seq (.ops [⟨some 4,.fieldAddr 2 (.t 2),none⟩,⟨some 5,.load none (.t 4),none⟩,⟨some 6,.bin .gtr (.t 5) (.c (.im (.int .i64 0))),none⟩,⟨some 7,.move (.t 6),none⟩,⟨some 8,.load none (.t 1),some (7,true)⟩,⟨some 9,.bin .eql (.t 8) (.c (.im (.int .i64 1))),some (7,true)⟩,⟨some 10,.pick (.t 7) (.t 9) (.c (.im (.bool false))),none⟩,⟨some 3,.move (.t 10),none⟩] []) .ret)),false⟩
theorem F108 : F 108 = some f108 := by kernel_rfl
def f109 : AFunc := ⟨19,[(4,none)],(.seq (.ops [⟨some 3,.box none (.t 0),none⟩,⟨some 4,.move (.c (.im (.bool false))),none⟩] []) (.seq (.ops [⟨some 5,.fieldAddr 1 (.t 3),none⟩,⟨some 6,.load none (.t 5),none⟩,⟨some 7,.load none (.t 1),none⟩,⟨some 8,.indexStr (.t 6) (.t 7),none⟩,⟨some 9,.load none (.t 2),none⟩,⟨some 10,.nilCheck (.t 9),none⟩,⟨some 11,.fieldAddr 0 (.t 10),none⟩,⟨some 12,.load none (.t 11),none⟩,⟨some 13,.load none (.t 2),none⟩,⟨some 14,.nilCheck (.t 13),none⟩,⟨some 15,.fieldAddr 1 (.t 14),none⟩,⟨some 16,.load none (.t 15),none⟩,⟨some 17,.indexStr (.t 12) (.t 16),none⟩,⟨some 18,.bin .neq (.t 8) (.t 17),none⟩,⟨some 4,.move (.t 18),none⟩] []) .ret)),false⟩
theorem F109 : F 109 = some f109 := by kernel_rfl
def T : FuncId → Option AFunc := fun n =>
 if n = 9 then some f9 else
 if n = 10 then some f10 else
 if n = 14 then some f14 else
 if n = 18 then some f18 else
 if n = 19 then some f19 else
 if n = 24 then some f24 else
 if n = 25 then some f25 else
 if n = 29 then some f29 else
 if n = 30 then some f30 else
 if n = 31 then some f31 else
 if n = 32 then some f32 else
 if n = 33 then some f33 else
 if n = 34 then some f34 else
 if n = 35 then some f35 else
 if n = 43 then some f43 else
 if n = 44 then some f44 else
 if n = 46 then some f46 else
 if n = 47 then some f47 else
 if n = 48 then some f48 else
 if n = 49 then some f49 else
 if n = 51 then some f51 else
 if n = 52 then some f52 else
 if n = 53 then some f53 else
 if n = 54 then some f54 else
 if n = 55 then some f55 else
 if n = 62 then some f62 else
 if n = 63 then some f63 else
 if n = 64 then some f64 else
 if n = 65 then some f65 else
 if n = 66 then some f66 else
 if n = 68 then some f68 else
 if n = 69 then some f69 else
 if n = 70 then some f70 else
 if n = 74 then some f74 else
 if n = 75 then some f75 else
 if n = 76 then some f76 else
 if n = 81 then some f81 else
 if n = 89 then some f89 else
 if n = 90 then some f90 else
 if n = 91 then some f91 else
 if n = 92 then some f92 else
 if n = 98 then some f98 else
 if n = 99 then some f99 else
 if n = 105 then some f105 else
 if n = 107 then some f107 else
 if n = 108 then some f108 else
 if n = 109 then some f109 else
 none
end Go.Abs.Seat
end
section
set_option linter.unusedVariables false
set_option linter.unusedSimpArgs false
namespace Go.Abs.Seat
open Go.Proofs
set_option maxRecDepth 10000 in
theorem Tok (f : FuncId) (af : AFunc) (h : T f = some af) : F f = some af ∧ closedC af.code = true := by
 unfold T at h
 by_cases h9 : f = 9
 ·subst h9; rw [if_pos rfl] at h; injection h with h; subst h; exact ⟨F9, by kernel_rfl⟩
 rw [if_neg h9] at h
 by_cases h10 : f = 10
 ·subst h10; rw [if_pos rfl] at h; injection h with h; subst h; exact ⟨F10, by kernel_rfl⟩
 rw [if_neg h10] at h
 by_cases h14 : f = 14
 ·subst h14; rw [if_pos rfl] at h; injection h with h; subst h; exact ⟨F14, by kernel_rfl⟩
 rw [if_neg h14] at h
 by_cases h18 : f = 18
 ·subst h18; rw [if_pos rfl] at h; injection h with h; subst h; exact ⟨F18, by kernel_rfl⟩
 rw [if_neg h18] at h
 by_cases h19 : f = 19
 ·subst h19; rw [if_pos rfl] at h; injection h with h; subst h; exact ⟨F19, by kernel_rfl⟩
 rw [if_neg h19] at h
 by_cases h24 : f = 24
 ·subst h24; rw [if_pos rfl] at h; injection h with h; subst h; exact ⟨F24, by kernel_rfl⟩
 rw [if_neg h24] at h
 by_cases h25 : f = 25
 ·subst h25; rw [if_pos rfl] at h; injection h with h; subst h; exact ⟨F25, by kernel_rfl⟩
 rw [if_neg h25] at h
 by_cases h29 : f = 29
 ·subst h29; rw [if_pos rfl] at h; injection h with h; subst h; exact ⟨F29, by kernel_rfl⟩
 rw [if_neg h29] at h
 by_cases h30 : f = 30
 ·subst h30; rw [if_pos rfl] at h; injection h with h; subst h; exact ⟨F30, by kernel_rfl⟩
 rw [if_neg h30] at h
 by_cases h31 : f = 31
 ·subst h31; rw [if_pos rfl] at h; injection h with h; subst h; exact ⟨F31, by kernel_rfl⟩
 rw [if_neg h31] at h
 by_cases h32 : f = 32
 ·subst h32; rw [if_pos rfl] at h; injection h with h; subst h; exact ⟨F32, by kernel_rfl⟩
 rw [if_neg h32] at h
 by_cases h33 : f = 33
 ·subst h33; rw [if_pos rfl] at h; injection h with h; subst h; exact ⟨F33, by kernel_rfl⟩
 rw [if_neg h33] at h
 by_cases h34 : f = 34
 ·subst h34; rw [if_pos rfl] at h; injection h with h; subst h; exact ⟨F34, by kernel_rfl⟩
 rw [if_neg h34] at h
 by_cases h35 : f = 35
 ·subst h35; rw [if_pos rfl] at h; injection h with h; subst h; exact ⟨F35, by kernel_rfl⟩
 rw [if_neg h35] at h
 by_cases h43 : f = 43
 ·subst h43; rw [if_pos rfl] at h; injection h with h; subst h; exact ⟨F43, by kernel_rfl⟩
 rw [if_neg h43] at h
 by_cases h44 : f = 44
 ·subst h44; rw [if_pos rfl] at h; injection h with h; subst h; exact ⟨F44, by kernel_rfl⟩
 rw [if_neg h44] at h
 by_cases h46 : f = 46
 ·subst h46; rw [if_pos rfl] at h; injection h with h; subst h; exact ⟨F46, by kernel_rfl⟩
 rw [if_neg h46] at h
 by_cases h47 : f = 47
 ·subst h47; rw [if_pos rfl] at h; injection h with h; subst h; exact ⟨F47, by kernel_rfl⟩
 rw [if_neg h47] at h
 by_cases h48 : f = 48
 ·subst h48; rw [if_pos rfl] at h; injection h with h; subst h; exact ⟨F48, by kernel_rfl⟩
 rw [if_neg h48] at h
 by_cases h49 : f = 49
 ·subst h49; rw [if_pos rfl] at h; injection h with h; subst h; exact ⟨F49, by kernel_rfl⟩
 rw [if_neg h49] at h
 by_cases h51 : f = 51
 ·subst h51; rw [if_pos rfl] at h; injection h with h; subst h; exact ⟨F51, by kernel_rfl⟩
 rw [if_neg h51] at h
 by_cases h52 : f = 52
 ·subst h52; rw [if_pos rfl] at h; injection h with h; subst h; exact ⟨F52, by kernel_rfl⟩
 rw [if_neg h52] at h
 by_cases h53 : f = 53
 ·subst h53; rw [if_pos rfl] at h; injection h with h; subst h; exact ⟨F53, by kernel_rfl⟩
 rw [if_neg h53] at h
 by_cases h54 : f = 54
 ·subst h54; rw [if_pos rfl] at h; injection h with h; subst h; exact ⟨F54, by kernel_rfl⟩
 rw [if_neg h54] at h
 by_cases h55 : f = 55
 ·subst h55; rw [if_pos rfl] at h; injection h with h; subst h; exact ⟨F55, by kernel_rfl⟩
 rw [if_neg h55] at h
 by_cases h62 : f = 62
 ·subst h62; rw [if_pos rfl] at h; injection h with h; subst h; exact ⟨F62, by kernel_rfl⟩
 rw [if_neg h62] at h
 by_cases h63 : f = 63
 ·subst h63; rw [if_pos rfl] at h; injection h with h; subst h; exact ⟨F63, by kernel_rfl⟩
 rw [if_neg h63] at h
 by_cases h64 : f = 64
 ·subst h64; rw [if_pos rfl] at h; injection h with h; subst h; exact ⟨F64, by kernel_rfl⟩
 rw [if_neg h64] at h
 by_cases h65 : f = 65
 ·subst h65; rw [if_pos rfl] at h; injection h with h; subst h; exact ⟨F65, by kernel_rfl⟩
 rw [if_neg h65] at h
 by_cases h66 : f = 66
 ·subst h66; rw [if_pos rfl] at h; injection h with h; subst h; exact ⟨F66, by kernel_rfl⟩
 rw [if_neg h66] at h
 by_cases h68 : f = 68
 ·subst h68; rw [if_pos rfl] at h; injection h with h; subst h; exact ⟨F68, by kernel_rfl⟩
 rw [if_neg h68] at h
 by_cases h69 : f = 69
 ·subst h69; rw [if_pos rfl] at h; injection h with h; subst h; exact ⟨F69, by kernel_rfl⟩
 rw [if_neg h69] at h
 by_cases h70 : f = 70
 ·subst h70; rw [if_pos rfl] at h; injection h with h; subst h; exact ⟨F70, by kernel_rfl⟩
 rw [if_neg h70] at h
 by_cases h74 : f = 74
 ·subst h74; rw [if_pos rfl] at h; injection h with h; subst h; exact ⟨F74, by kernel_rfl⟩
 rw [if_neg h74] at h
 by_cases h75 : f = 75
 ·subst h75; rw [if_pos rfl] at h; injection h with h; subst h; exact ⟨F75, by kernel_rfl⟩
 rw [if_neg h75] at h
 by_cases h76 : f = 76
 ·subst h76; rw [if_pos rfl] at h; injection h with h; subst h; exact ⟨F76, by kernel_rfl⟩
 rw [if_neg h76] at h
 by_cases h81 : f = 81
 ·subst h81; rw [if_pos rfl] at h; injection h with h; subst h; exact ⟨F81, by kernel_rfl⟩
 rw [if_neg h81] at h
 by_cases h89 : f = 89
 ·subst h89; rw [if_pos rfl] at h; injection h with h; subst h; exact ⟨F89, by kernel_rfl⟩
 rw [if_neg h89] at h
 by_cases h90 : f = 90
 ·subst h90; rw [if_pos rfl] at h; injection h with h; subst h; exact ⟨F90, by kernel_rfl⟩
 rw [if_neg h90] at h
 by_cases h91 : f = 91
 ·subst h91; rw [if_pos rfl] at h; injection h with h; subst h; exact ⟨F91, by kernel_rfl⟩
 rw [if_neg h91] at h
 by_cases h92 : f = 92
 ·subst h92; rw [if_pos rfl] at h; injection h with h; subst h; exact ⟨F92, by kernel_rfl⟩
 rw [if_neg h92] at h
 by_cases h98 : f = 98
 ·subst h98; rw [if_pos rfl] at h; injection h with h; subst h; exact ⟨F98, by kernel_rfl⟩
 rw [if_neg h98] at h
 by_cases h99 : f = 99
 ·subst h99; rw [if_pos rfl] at h; injection h with h; subst h; exact ⟨F99, by kernel_rfl⟩
 rw [if_neg h99] at h
 by_cases h105 : f = 105
 ·subst h105; rw [if_pos rfl] at h; injection h with h; subst h; exact ⟨F105, by kernel_rfl⟩
 rw [if_neg h105] at h
 by_cases h107 : f = 107
 ·subst h107; rw [if_pos rfl] at h; injection h with h; subst h; exact ⟨F107, by kernel_rfl⟩
 rw [if_neg h107] at h
 by_cases h108 : f = 108
 ·subst h108; rw [if_pos rfl] at h; injection h with h; subst h; exact ⟨F108, by kernel_rfl⟩
 rw [if_neg h108] at h
 by_cases h109 : f = 109
 ·subst h109; rw [if_pos rfl] at h; injection h with h; subst h; exact ⟨F109, by kernel_rfl⟩
 rw [if_neg h109] at h
 simp at h
theorem bsh : ∀ n H0, n = H0.length → ShO n H0 bld bld := fun _ _ h => itoaO_sh (repO_sh (idxO_sh (strO_sh h none_sh)))
theorem Tno (f : FuncId) (_ : T f = none) : F f = none ∨ ∀ args H, bld f args H = none := by
 by_cases h1 : f = 60
 ·subst h1; left; kernel_rfl
 by_cases h2 : f = 26
 ·subst h2; left; kernel_rfl
 by_cases h3 : f = 80
 ·subst h3; left; kernel_rfl
 by_cases h4 : f = 45
 ·subst h4; left; kernel_rfl
 by_cases h5 : f = 67
 ·subst h5; left; kernel_rfl
 right
 intro args H
 simp only [bld,itoaO,repO,idxO,strO,h1,h2,h3,h4,h5,if_false]
end Go.Abs.Seat
end
section
set_option linter.unusedVariables false
set_option linter.unusedSimpArgs false
namespace Go.Abs
def HoldE (ty : TypeId × Nat) (tb : TypeId) (n : Nat) (H : Heap) (id : Nat) (rest : List AV) (txt : List UInt8) : Prop :=
 ∃ a0 v, H[id]? = some (.obj (some ty) [a0 :: v :: rest]) ∧ (a0 = .im .nilp ∨ a0 = .ptr id 0 0) ∧ Gath tb 1 n v H (txt.map fun b => [byteDat b]) ∧ n ≤ H.length
theorem HoldE.more {ty : TypeId × Nat} {tb : TypeId} {n : Nat} {H : Heap} {id : Nat} {rest : List AV} {txt : List UInt8} (h : HoldE ty tb n H id rest txt) (M : Heap) : HoldE ty tb n (H ++ M) id rest txt := by
 obtain ⟨a0, v, h1, h2, h3, h4⟩ := h
 exact ⟨a0, v, by rw [List.getElem?_append_left (List.getElem?_eq_some_iff.1 h1).1]; exact h1, h2, h3.more M, by simp; omega⟩
theorem leave_holdE {ty : TypeId × Nat} {tb : TypeId} {n : Nat} {H0 H : Heap} {id : Nat} {rest0 rest : List AV} {txt0 txt : List UInt8} {r r' : AV} (hd : degrade r = r') (h0 : HoldE ty tb n H0 id rest0 txt0) (h : HoldE ty tb n H id rest txt) (hk : Keeps n id H0 H) :
  ∃ H', leave H0 false r H = (r', H') ∧ HoldE ty tb n H' id rest txt ∧ Keeps n id H0 H' := by
 unfold leave
 have e : (if (false : Bool) = true then r else degrade r) = r' := by simp [hd]
 rw [e]
 by_cases hc : refsLt H0.length r' = true ∧ heldIn H0 H
 ·rw [if_pos hc]
  refine ⟨_, rfl, ?_, by simp only [List.length_take]; have := hk.1; omega, fun i ty es hi hA => ?_, fun i hn hl hi => by rw [List.getElem?_take, if_pos hl]; exact hk.2.2 i hn hl hi⟩
  ·obtain ⟨a0, v, h1, h2, h3, h4⟩ := h
   obtain ⟨b0, u, g1, g2, g3, g4⟩ := h0
   have hlt := (List.getElem?_eq_some_iff.1 g1).1
   refine ⟨a0, v, by rw [List.getElem?_take, if_pos hlt]; exact h1, h2, ?_, by simp only [List.length_take]; have := hk.1; omega⟩
   rcases h3 with h3 | ⟨hne, tok, hn, hv, htok⟩
   ·exact .inl h3
   ·have ht : tok < H0.length := by
     rcases hc.2 id hlt with hs | ⟨o, ho, hro⟩
     ·rw [h1, g1] at hs
      injection hs with hs
      injection hs with _ hs
      injection hs with hs _
      injection hs with _ hs
      injection hs with hs _
      subst hs
      rcases g3 with ⟨_, hu⟩ | ⟨_, tok', _, hu, htok'⟩
      ·rw [hv] at hu; simp at hu
      ·rw [hv] at hu
       injection hu with _ _ hu
       subst hu
       exact (List.getElem?_eq_some_iff.1 htok').1
     ·rw [h1] at ho
      injection ho with ho
      subst ho
      simp only [refsO,List.all_cons,List.all_nil,refsLts,hv,refsLt,Bool.and_true,Bool.and_eq_true,decide_eq_true_eq] at hro
      exact hro.2.1
    exact .inr ⟨hne, tok, hn, hv, by rw [List.getElem?_take, if_pos ht]; exact htok⟩
  ·have hlt := (List.getElem?_eq_some_iff.1 hA).1
   rw [List.getElem?_take, if_pos hlt]
   exact hk.2.1 i ty es hi hA
 ·rw [if_neg hc]
  exact ⟨H, rfl, h, hk⟩
theorem cc_holdE {ok : TypeId × Nat → Bool} {ty : TypeId × Nat} (hok : ok ty = true) {tb : TypeId} {n : Nat} {H : Heap} {id : Nat} {rest : List AV} {txt : List UInt8} (h : HoldE ty tb n H id rest txt) :
  ∃ v H1, ccE ok [.ptr id 0 0] H = some (.tup [], H1) ∧ H1[id]? = some (.obj (some ty) [.ptr id 0 0 :: v :: rest]) ∧ Gath tb 1 n v H1 (txt.map fun b => [byteDat b]) ∧ Keeps n id H H1 ∧ n ≤ H1.length := by
 obtain ⟨a0, v, h1, h2, h3, h4⟩ := h
 have hlt := (List.getElem?_eq_some_iff.1 h1).1
 rcases h2 with rfl | rfl
 ·refine ⟨v, H.set id (.obj (some ty) [.ptr id 0 0 :: v :: rest]), by simp only [ccE,h1,hok,if_true], by rw [List.getElem?_set_self hlt], h3.set_obj h1 _, (Keeps.refl n id H).set _, by simpa using h4⟩
 ·exact ⟨v, H, by simp only [ccE,h1,hok,if_true], h1, h3, Keeps.refl n id H, h4⟩
theorem HoldE.put {ty : TypeId × Nat} {tb : TypeId} {n : Nat} {H : Heap} {id : Nat} {rest : List AV} {txt : List UInt8} (h : HoldE ty tb n H id rest txt) (rest' : List AV) :
  ∃ a0 v, H[id]? = some (.obj (some ty) [a0 :: v :: rest]) ∧ HoldE ty tb n (H.set id (.obj (some ty) [a0 :: v :: rest'])) id rest' txt := by
 obtain ⟨a0, v, h1, h2, h3, h4⟩ := h
 have hlt := (List.getElem?_eq_some_iff.1 h1).1
 exact ⟨a0, v, h1, a0, v, by rw [List.getElem?_set_self hlt], h2, h3.set_obj h1 _, by simpa using h4⟩
theorem HoldE.len {ty : TypeId × Nat} {tb : TypeId} {n : Nat} {H : Heap} {id : Nat} {rest : List AV} {txt : List UInt8} (h : HoldE ty tb n H id rest txt) :
  ∃ a0 v, H[id]? = some (.obj (some ty) [a0 :: v :: rest]) ∧ lenA v = some txt.length := by
 obtain ⟨a0, v, h1, _, h3, _⟩ := h
 refine ⟨a0, v, h1, ?_⟩
 rcases h3 with ⟨he, rfl⟩ | ⟨_, tok, _, rfl, _⟩
 ·have : txt = [] := by simpa using he
  subst this; rfl
 ·simp [lenA]
end Go.Abs
end
section
set_option linter.unusedVariables false
set_option linter.unusedSimpArgs false
namespace Go.Abs.Seat
open Go.Proofs
abbrev Word := Int × List UInt8 × Int
def encW (w : Word) : List AV := [.im (.int .i64 w.1), .im (.str w.2.1), .im (.int .i64 w.2.2)]
def words : List Word := [(1, [98, 111, 111, 108], 0), (2, [105, 110, 116], 0), (3, [116, 101, 120, 116], 0), (4, [98, 121, 116, 101, 115], 0), (5, [112, 111, 105, 110, 116], 0), (6, [112, 97, 105, 114], 2), (7, [108, 105, 115, 116], 1), (9, [111, 112, 116, 105, 111, 110], 1)]
set_option maxRecDepth 10000 in
theorem s76 (H : Heap) : L 76 [] H = some (.ms 3 H.length 0 8, H ++ [.obj none (words.map encW)]) := by
 rw [leq F76]
 have e : leave H true (.ms 3 H.length 0 8) (H ++ [.obj none (words.map encW)]) = (.ms 3 H.length 0 8, H ++ [.obj none (words.map encW)]) := by
  unfold leave
  rw [if_neg (by simp [refsLt])]
  rfl
 obtain ⟨hlen, -⟩ := enter_at (f := f76) (args := []) (by decide)
 generalize enterA f76 [] = tm at *
 change tm.length = 10 at hlen
 simp only [f76,exec0,xreg,xops,wantedA,aopc,aop,ev,putA,endK,resA,tupA,List.length_cons,List.length_nil,List.replicate,List.cons_append,List.nil_append,List.append_nil,List.append_assoc,gs_same,gs_ne,gq_same,gq_ne,List.length_set,List.map_cons,List.map_nil,cellsOf,List.all_cons,List.all_nil,cellOk,boxTy,Bool.and_true,Bool.and_self,if_true,ite_true,ite_false,loadAt,storeAt,setAt,hget,hget0,hset,hset0,List.getElem?_cons_zero,List.getElem?_cons_succ,List.set_cons_zero,List.set_cons_succ,Nat.add_zero,Nat.zero_add,Nat.reduceAdd,Nat.reduceSub,Nat.reduceLeDiff,Nat.reduceLT,Nat.reduceEqDiff,Nat.le_refl,and_self,and_true,true_and,mkAgg,toIms,List.drop_zero,List.drop_succ_cons,List.take_succ_cons,List.take_zero,List.length_append,binA,isShift,binInt,binBool,unA,Bool.false_eq_true,if_false,partA,fillA,fillE,List.take_nil,Nat.zero_ne_one,Nat.one_ne_zero,not_false_eq_true,ne_eq,Nat.succ_ne_self,reduceCtorEq,Int.reduceEq,Int.reduceLT,Int.reduceLE,decide_true,decide_false,lenA,beq_self_eq_true,beq_true,beq_false,Bool.not_true,Bool.not_false,hlen]
 rw [← e]
 rfl
theorem s90 (H : Heap) (w : Word) (k' : Int) (id : Nat) (x : AV) (hid : H[id]? = some (.obj none [[.im (.int .i64 k'), x]])) :
  L 90 [.im (.agg [.int .i64 w.1, .str w.2.1, .int .i64 w.2.2]), .ptr id 0 0] H = some (.im (.bool (decide (w.1 = k'))), H) := by
 have hlt := (List.getElem?_eq_some_iff.1 hid).1
 have h2 : ∀ o, (H ++ [o])[id]? = some (.obj none [[.im (.int .i64 k'), x]]) := fun o => by rw [List.getElem?_append_left hlt]; exact hid
 rw [leq F90]
 obtain ⟨hlen, ha⟩ := enter_at (f := f90) (args := [.im (.agg [.int .i64 w.1, .str w.2.1, .int .i64 w.2.2]), .ptr id 0 0]) (Nat.le_of_ble_eq_true rfl)
 have h0 := ha 0 _ rfl
 have h1 := ha 1 _ rfl
 generalize enterA f90 [.im (.agg [.int .i64 w.1, .str w.2.1, .int .i64 w.2.2]), .ptr id 0 0] = tm at *
 change tm.length = 9 at hlen
 simp only [f90,exec0,xreg,xops,wantedA,aopc,aop,ev,putA,endK,resA,tupA,List.length_cons,List.length_nil,List.replicate,List.cons_append,List.nil_append,List.append_nil,List.append_assoc,gs_same,gs_ne,gq_same,gq_ne,List.length_set,List.map_cons,List.map_nil,cellsOf,List.all_cons,List.all_nil,cellOk,boxTy,Bool.and_true,Bool.and_self,if_true,ite_true,ite_false,loadAt,storeAt,setAt,hget,hget0,hset,hset0,List.getElem?_cons_zero,List.getElem?_cons_succ,List.set_cons_zero,List.set_cons_succ,Nat.add_zero,Nat.zero_add,Nat.reduceAdd,Nat.reduceSub,Nat.reduceLeDiff,Nat.reduceLT,Nat.reduceEqDiff,Nat.le_refl,and_self,and_true,true_and,mkAgg,toIms,List.drop_zero,List.drop_succ_cons,List.take_succ_cons,List.take_zero,List.length_append,binA,isShift,binInt,binBool,unA,Bool.false_eq_true,if_false,partA,fillA,fillE,List.take_nil,Nat.zero_ne_one,Nat.one_ne_zero,not_false_eq_true,ne_eq,Nat.succ_ne_self,reduceCtorEq,Int.reduceEq,Int.reduceLT,Int.reduceLE,decide_true,decide_false,lenA,beq_self_eq_true,beq_true,beq_false,Bool.not_true,Bool.not_false,hlen,h0,h1,h2,leave_app]
theorem l89 (rows : List Word) (idw idt : Nat) (k' : Int) (x : AV) (H : Heap) (hw : H[idw]? = some (.obj none (rows.map encW))) (hid : H[idt]? = some (.obj none [[.im (.int .i64 k'), x]])) (hn : rows.length ≤ 9223372036854775807) :
  ∀ (m i : Nat), i + m = rows.length → ∀ tm : List AV, tm.length = 19 → tm.getD 0 undefA = .ms 3 idw 0 rows.length → tm.getD 1 undefA = .clo 90 [.ptr idt 0 0] → tm.getD 6 undefA = .ms 3 idw 0 rows.length → tm.getD 7 undefA = .im (.int .i64 rows.length) → tm.getD 8 undefA = .im (.int .i64 i) →
  ∃ e tm' H', Λ c89_0 tm H = some (e, tm', H') ∧ tm'.length = 19 ∧ H' = H ∧ match (rows.drop i).findIdx? (fun w => decide (w.1 = k')) with
   | some j => e = .ret ∧ tm'.getD 4 undefA = .im (.int .i64 ((i + j : Nat) : Int))
   | none => e = .exit 0
 | 0, i, hi, tm, hlen, h0, h1, h6, h7, h8 => by
  have e : rows.drop i = [] := by rw [List.drop_eq_nil_iff]; omega
  have hc : decide ((i : Int) < (rows.length : Int)) = false := by simp; omega
  rw [e, l89_0]
  simp only [b89_0,exec0,xreg,xops,wantedA,aopc,aop,ev,putA,endK,resA,tupA,List.length_cons,List.length_nil,List.replicate,List.cons_append,List.nil_append,List.append_nil,List.append_assoc,gs_same,gs_ne,gq_same,gq_ne,List.length_set,List.map_cons,List.map_nil,cellsOf,List.all_cons,List.all_nil,cellOk,boxTy,Bool.and_true,Bool.and_self,if_true,ite_true,ite_false,loadAt,storeAt,setAt,hget,hget0,hset,hset0,List.getElem?_cons_zero,List.getElem?_cons_succ,List.set_cons_zero,List.set_cons_succ,Nat.add_zero,Nat.zero_add,Nat.reduceAdd,Nat.reduceSub,Nat.reduceLeDiff,Nat.reduceLT,Nat.reduceEqDiff,Nat.le_refl,and_self,and_true,true_and,mkAgg,toIms,List.drop_zero,List.drop_succ_cons,List.take_succ_cons,List.take_zero,List.length_append,binA,isShift,binInt,binBool,unA,Bool.false_eq_true,if_false,partA,fillA,fillE,List.take_nil,Nat.zero_ne_one,Nat.one_ne_zero,not_false_eq_true,ne_eq,Nat.succ_ne_self,reduceCtorEq,Int.reduceEq,Int.reduceLT,Int.reduceLE,decide_true,decide_false,lenA,beq_self_eq_true,beq_true,beq_false,Bool.not_true,Bool.not_false,hlen,h0,h1,h6,h7,h8,hc,List.findIdx?_nil]
  exact ⟨_, _, _, rfl, by simp only [List.length_set,hlen], rfl, rfl⟩
 | m + 1, i, hi, tm, hlen, h0, h1, h6, h7, h8 => by
  have hlt : i < rows.length := by omega
  obtain ⟨w, hwi⟩ : ∃ w, rows[i]? = some w := ⟨_, List.getElem?_eq_getElem hlt⟩
  have e : rows.drop i = w :: rows.drop (i + 1) := by
   rw [List.drop_eq_getElem_cons hlt]
   congr 1
   rw [List.getElem?_eq_getElem hlt] at hwi
   exact Option.some.inj hwi
  have hc : decide ((i : Int) < (rows.length : Int)) = true := by simp; omega
  have hix := idx_nat hlt
  have hget : (rows.map encW)[i]? = some (encW w) := by rw [List.getElem?_map, hwi]; rfl
  have hcall := s90 H w k' idt x hid
  rw [e, List.findIdx?_cons, l89_0]
  by_cases hk : w.1 = k'
  ·have hd : decide (w.1 = k') = true := decide_eq_true hk
   simp only [b89_0,exec0,xreg,xops,wantedA,aopc,aop,ev,putA,endK,resA,tupA,List.length_cons,List.length_nil,List.replicate,List.cons_append,List.nil_append,List.append_nil,List.append_assoc,gs_same,gs_ne,gq_same,gq_ne,List.length_set,List.map_cons,List.map_nil,cellsOf,List.all_cons,List.all_nil,cellOk,boxTy,Bool.and_true,Bool.and_self,if_true,ite_true,ite_false,loadAt,storeAt,setAt,hget,hget0,hset,hset0,List.getElem?_cons_zero,List.getElem?_cons_succ,List.set_cons_zero,List.set_cons_succ,Nat.add_zero,Nat.zero_add,Nat.reduceAdd,Nat.reduceSub,Nat.reduceLeDiff,Nat.reduceLT,Nat.reduceEqDiff,Nat.le_refl,and_self,and_true,true_and,mkAgg,toIms,List.drop_zero,List.drop_succ_cons,List.take_succ_cons,List.take_zero,List.length_append,binA,isShift,binInt,binBool,unA,Bool.false_eq_true,if_false,partA,fillA,fillE,List.take_nil,Nat.zero_ne_one,Nat.one_ne_zero,not_false_eq_true,ne_eq,Nat.succ_ne_self,reduceCtorEq,Int.reduceEq,Int.reduceLT,Int.reduceLE,decide_true,decide_false,lenA,beq_self_eq_true,beq_true,beq_false,Bool.not_true,Bool.not_false,hlen,h0,h1,h6,h7,h8,hc,hix,hw,hget,encW,hcall,hd]
   exact ⟨_, _, _, rfl, by simp only [List.length_set,hlen], rfl, rfl, by simp only [B3,Nat.reduceLT,Nat.reduceEqDiff,hlen]⟩
  ·have hd : decide (w.1 = k') = false := decide_eq_false hk
   have hwr := wrap_nat (i := i) (by omega)
   have key := l89 rows idw idt k' x H hw hid hn m (i + 1) (by omega)
   simp only [b89_0,exec0,xreg,xops,wantedA,aopc,aop,ev,putA,endK,resA,tupA,List.length_cons,List.length_nil,List.replicate,List.cons_append,List.nil_append,List.append_nil,List.append_assoc,gs_same,gs_ne,gq_same,gq_ne,List.length_set,List.map_cons,List.map_nil,cellsOf,List.all_cons,List.all_nil,cellOk,boxTy,Bool.and_true,Bool.and_self,if_true,ite_true,ite_false,loadAt,storeAt,setAt,hget,hget0,hset,hset0,List.getElem?_cons_zero,List.getElem?_cons_succ,List.set_cons_zero,List.set_cons_succ,Nat.add_zero,Nat.zero_add,Nat.reduceAdd,Nat.reduceSub,Nat.reduceLeDiff,Nat.reduceLT,Nat.reduceEqDiff,Nat.le_refl,and_self,and_true,true_and,mkAgg,toIms,List.drop_zero,List.drop_succ_cons,List.take_succ_cons,List.take_zero,List.length_append,binA,isShift,binInt,binBool,unA,Bool.false_eq_true,if_false,partA,fillA,fillE,List.take_nil,Nat.zero_ne_one,Nat.one_ne_zero,not_false_eq_true,ne_eq,Nat.succ_ne_self,reduceCtorEq,Int.reduceEq,Int.reduceLT,Int.reduceLE,decide_true,decide_false,lenA,beq_self_eq_true,beq_true,beq_false,Bool.not_true,Bool.not_false,hlen,h0,h1,h6,h7,h8,hc,hix,hw,hget,encW,hcall,hd,hwr]
   cases hf : (rows.drop (i + 1)).findIdx? (fun w => decide (w.1 = k')) with
   | none =>
    simp only [hf] at key
    simp only [Option.map_none]
    apply key
    all_goals simp only [B3,Nat.reduceLT,Nat.reduceEqDiff,hlen,h0,h1,h6,h7]
   | some j =>
    simp only [hf] at key
    simp only [Option.map_some]
    rw [show i + (j + 1) = i + 1 + j by omega]
    apply key
    all_goals simp only [B3,Nat.reduceLT,Nat.reduceEqDiff,hlen,h0,h1,h6,h7]
end Go.Abs.Seat
end
section
set_option linter.unusedVariables false
set_option linter.unusedSimpArgs false
namespace Go.Abs.Seat
open Go.Proofs
theorem s89 (rows : List Word) (idw idt : Nat) (k' : Int) (x : AV) (H : Heap) (hw : H[idw]? = some (.obj none (rows.map encW))) (hid : H[idt]? = some (.obj none [[.im (.int .i64 k'), x]])) (hn : rows.length ≤ 9223372036854775807) :
  L 89 [.ms 3 idw 0 rows.length, .clo 90 [.ptr idt 0 0]] H = some (.im (.int .i64 (match rows.findIdx? (fun w => decide (w.1 = k')) with | some j => ((j : Nat) : Int) | none => -1)), H) := by
 rw [leq F89]
 obtain ⟨hlen, ha⟩ := enter_at (f := f89) (args := [.ms 3 idw 0 rows.length, .clo 90 [.ptr idt 0 0]]) (Nat.le_of_ble_eq_true rfl)
 have h0 := ha 0 _ rfl
 have h1 := ha 1 _ rfl
 generalize enterA f89 [.ms 3 idw 0 rows.length, .clo 90 [.ptr idt 0 0]] = tm at *
 change tm.length = 19 at hlen
 have key := l89 rows idw idt k' x H hw hid hn rows.length 0 (by omega)
 have z : ((0 : Nat) : Int) = 0 := rfl
 simp only [List.drop_zero,Nat.zero_add,z] at key
 simp only [f89,e89_0,exec0,xreg,xops,wantedA,aopc,aop,ev,putA,endK,resA,tupA,List.length_cons,List.length_nil,List.replicate,List.cons_append,List.nil_append,List.append_nil,List.append_assoc,gs_same,gs_ne,gq_same,gq_ne,List.length_set,List.map_cons,List.map_nil,cellsOf,List.all_cons,List.all_nil,cellOk,boxTy,Bool.and_true,Bool.and_self,if_true,ite_true,ite_false,loadAt,storeAt,setAt,hget,hget0,hset,hset0,List.getElem?_cons_zero,List.getElem?_cons_succ,List.set_cons_zero,List.set_cons_succ,Nat.add_zero,Nat.zero_add,Nat.reduceAdd,Nat.reduceSub,Nat.reduceLeDiff,Nat.reduceLT,Nat.reduceEqDiff,Nat.le_refl,and_self,and_true,true_and,mkAgg,toIms,List.drop_zero,List.drop_succ_cons,List.take_succ_cons,List.take_zero,List.length_append,binA,isShift,binInt,binBool,unA,Bool.false_eq_true,if_false,partA,fillA,fillE,List.take_nil,Nat.zero_ne_one,Nat.one_ne_zero,not_false_eq_true,ne_eq,Nat.succ_ne_self,reduceCtorEq,Int.reduceEq,Int.reduceLT,Int.reduceLE,decide_true,decide_false,lenA,beq_self_eq_true,beq_true,beq_false,Bool.not_true,Bool.not_false,hlen,h0,h1]
 refine thenL_of (key _ ?_ ?_ ?_ ?_ ?_ ?_) ?_
 iterate 6 simp only [B3,Nat.reduceLT,Nat.reduceEqDiff,hlen,h0,h1]
 rintro e tm' H' ⟨hl', rfl, hm⟩
 cases hf : rows.findIdx? (fun w => decide (w.1 = k')) with
 | none =>
  simp only [hf] at hm
  subst hm
  simp only [exec0,xreg,xops,wantedA,aopc,aop,ev,putA,endK,resA,tupA,List.length_cons,List.length_nil,List.replicate,List.cons_append,List.nil_append,List.append_nil,List.append_assoc,gs_same,gs_ne,gq_same,gq_ne,List.length_set,List.map_cons,List.map_nil,cellsOf,List.all_cons,List.all_nil,cellOk,boxTy,Bool.and_true,Bool.and_self,if_true,ite_true,ite_false,loadAt,storeAt,setAt,hget,hget0,hset,hset0,List.getElem?_cons_zero,List.getElem?_cons_succ,List.set_cons_zero,List.set_cons_succ,Nat.add_zero,Nat.zero_add,Nat.reduceAdd,Nat.reduceSub,Nat.reduceLeDiff,Nat.reduceLT,Nat.reduceEqDiff,Nat.le_refl,and_self,and_true,true_and,mkAgg,toIms,List.drop_zero,List.drop_succ_cons,List.take_succ_cons,List.take_zero,List.length_append,binA,isShift,binInt,binBool,unA,Bool.false_eq_true,if_false,partA,fillA,fillE,List.take_nil,Nat.zero_ne_one,Nat.one_ne_zero,not_false_eq_true,ne_eq,Nat.succ_ne_self,reduceCtorEq,Int.reduceEq,Int.reduceLT,Int.reduceLE,decide_true,decide_false,lenA,beq_self_eq_true,beq_true,beq_false,Bool.not_true,Bool.not_false,hl',leave_same]
 | some j =>
  simp only [hf] at hm
  obtain ⟨rfl, h4⟩ := hm
  simp only [exec0,xreg,xops,wantedA,aopc,aop,ev,putA,endK,resA,tupA,List.length_cons,List.length_nil,List.replicate,List.cons_append,List.nil_append,List.append_nil,List.append_assoc,gs_same,gs_ne,gq_same,gq_ne,List.length_set,List.map_cons,List.map_nil,cellsOf,List.all_cons,List.all_nil,cellOk,boxTy,Bool.and_true,Bool.and_self,if_true,ite_true,ite_false,loadAt,storeAt,setAt,hget,hget0,hset,hset0,List.getElem?_cons_zero,List.getElem?_cons_succ,List.set_cons_zero,List.set_cons_succ,Nat.add_zero,Nat.zero_add,Nat.reduceAdd,Nat.reduceSub,Nat.reduceLeDiff,Nat.reduceLT,Nat.reduceEqDiff,Nat.le_refl,and_self,and_true,true_and,mkAgg,toIms,List.drop_zero,List.drop_succ_cons,List.take_succ_cons,List.take_zero,List.length_append,binA,isShift,binInt,binBool,unA,Bool.false_eq_true,if_false,partA,fillA,fillE,List.take_nil,Nat.zero_ne_one,Nat.one_ne_zero,not_false_eq_true,ne_eq,Nat.succ_ne_self,reduceCtorEq,Int.reduceEq,Int.reduceLT,Int.reduceLE,decide_true,decide_false,lenA,beq_self_eq_true,beq_true,beq_false,Bool.not_true,Bool.not_false,hl',leave_same,h4]
inductive KT where
 | mk (k : Int) (s : Nat) (args : List KT)
def KT.k : KT → Int
 | .mk k _ _ => k
def KT.s : KT → Nat
 | .mk _ s _ => s
def KT.args : KT → List KT
 | .mk _ _ args => args
mutual
def encT : KT → List Dat
 | .mk k s args => [.int .i64 k, .sl s (encTs args)]
def encTs : List KT → List (List Dat)
 | [] => []
 | a :: l => encT a :: encTs l
end
theorem encTs_map : ∀ l : List KT, encTs l = l.map encT
 | [] => rfl
 | a :: l => by simp only [encTs,List.map_cons,encTs_map l]
mutual
def okT : KT → Prop
 | .mk _ s args => (args = [] ∨ s = 2) ∧ args.length ≤ 9223372036854775807 ∧ okTs args
def okTs : List KT → Prop
 | [] => True
 | a :: l => okT a ∧ okTs l
end
theorem okTs_mem : ∀ {l : List KT}, okTs l → ∀ a ∈ l, okT a
 | [], _, a, h => by simp at h
 | b :: l, h, a, hm => by
  simp only [okTs] at h
  rcases List.mem_cons.1 hm with rfl | hm
  ·exact h.1
  ·exact okTs_mem h.2 a hm
theorem l105 (args : List KT) (s : Nat) (hs : args = [] ∨ s = 2) (hn : args.length ≤ 9223372036854775807) (p : KT → Bool) (g : FuncId) (cap : List AV) (H : Heap)
  (hc : ∀ a ∈ args, L g ([.im (.agg (encT a))] ++ cap) H = some (.im (.bool (p a)), H)) :
  ∀ (m i : Nat), i + m = args.length → ∀ tm : List AV, tm.length = 19 → tm.getD 0 undefA = .im (.sl s (args.map encT)) → tm.getD 1 undefA = .clo g cap → tm.getD 6 undefA = .im (.sl s (args.map encT)) → tm.getD 7 undefA = .im (.int .i64 args.length) → tm.getD 8 undefA = .im (.int .i64 i) →
  ∃ e tm' H', Λ c105_0 tm H = some (e, tm', H') ∧ tm'.length = 19 ∧ H' = H ∧ match (args.drop i).findIdx? p with
   | some j => e = .ret ∧ tm'.getD 4 undefA = .im (.int .i64 ((i + j : Nat) : Int))
   | none => e = .exit 0
 | 0, i, hi, tm, hlen, h0, h1, h6, h7, h8 => by
  have e : args.drop i = [] := by rw [List.drop_eq_nil_iff]; omega
  have hc : decide ((i : Int) < (args.length : Int)) = false := by simp; omega
  rw [e, l105_0]
  simp only [b105_0,exec0,xreg,xops,wantedA,aopc,aop,ev,putA,endK,resA,tupA,List.length_cons,List.length_nil,List.replicate,List.cons_append,List.nil_append,List.append_nil,List.append_assoc,gs_same,gs_ne,gq_same,gq_ne,List.length_set,List.map_cons,List.map_nil,cellsOf,List.all_cons,List.all_nil,cellOk,boxTy,Bool.and_true,Bool.and_self,if_true,ite_true,ite_false,loadAt,storeAt,setAt,hget,hget0,hset,hset0,List.getElem?_cons_zero,List.getElem?_cons_succ,List.set_cons_zero,List.set_cons_succ,Nat.add_zero,Nat.zero_add,Nat.reduceAdd,Nat.reduceSub,Nat.reduceLeDiff,Nat.reduceLT,Nat.reduceEqDiff,Nat.le_refl,and_self,and_true,true_and,mkAgg,toIms,List.drop_zero,List.drop_succ_cons,List.take_succ_cons,List.take_zero,List.length_append,binA,isShift,binInt,binBool,unA,Bool.false_eq_true,if_false,partA,fillA,fillE,List.take_nil,Nat.zero_ne_one,Nat.one_ne_zero,not_false_eq_true,ne_eq,Nat.succ_ne_self,reduceCtorEq,Int.reduceEq,Int.reduceLT,Int.reduceLE,decide_true,decide_false,lenA,beq_self_eq_true,beq_true,beq_false,Bool.not_true,Bool.not_false,hlen,h0,h1,h6,h7,h8,hc,List.findIdx?_nil]
  exact ⟨_, _, _, rfl, by simp only [List.length_set,hlen], rfl, rfl⟩
 | m + 1, i, hi, tm, hlen, h0, h1, h6, h7, h8 => by
  have hlt : i < args.length := by omega
  obtain ⟨w, hwi⟩ : ∃ w, args[i]? = some w := ⟨_, List.getElem?_eq_getElem hlt⟩
  have e : args.drop i = w :: args.drop (i + 1) := by
   rw [List.drop_eq_getElem_cons hlt]
   congr 1
   rw [List.getElem?_eq_getElem hlt] at hwi
   exact Option.some.inj hwi
  have hs2 : s = 2 := by
   rcases hs with hs | hs
   ·subst hs; simp at hlt
   ·exact hs
  subst hs2
  have hc' : decide ((i : Int) < (args.length : Int)) = true := by simp; omega
  have hix := idx_nat (n := (args.map encT).length) (i := i) (by simpa using hlt)
  have hget : (args.map encT)[i]? = some (encT w) := by rw [List.getElem?_map, hwi]; rfl
  have hcall := hc w (List.mem_of_getElem? hwi)
  obtain ⟨k, s', ts⟩ := w
  have hwr := wrap_nat (i := i) (by omega)
  have key := l105 args 2 hs hn p g cap H hc m (i + 1) (by omega)
  rw [e, List.findIdx?_cons, l105_0]
  simp only [encT,List.cons_append,List.nil_append] at hcall hget
  cases hp : p (.mk k s' ts) with
  | true =>
   simp only [hp] at hcall
   simp only [b105_0,exec0,xreg,xops,wantedA,aopc,aop,ev,putA,endK,resA,tupA,List.length_cons,List.length_nil,List.replicate,List.cons_append,List.nil_append,List.append_nil,List.append_assoc,gs_same,gs_ne,gq_same,gq_ne,List.length_set,List.map_cons,List.map_nil,cellsOf,List.all_cons,List.all_nil,cellOk,boxTy,Bool.and_true,Bool.and_self,if_true,ite_true,ite_false,loadAt,storeAt,setAt,hget,hget0,hset,hset0,List.getElem?_cons_zero,List.getElem?_cons_succ,List.set_cons_zero,List.set_cons_succ,Nat.add_zero,Nat.zero_add,Nat.reduceAdd,Nat.reduceSub,Nat.reduceLeDiff,Nat.reduceLT,Nat.reduceEqDiff,Nat.le_refl,and_self,and_true,true_and,mkAgg,toIms,List.drop_zero,List.drop_succ_cons,List.take_succ_cons,List.take_zero,List.length_append,binA,isShift,binInt,binBool,unA,Bool.false_eq_true,if_false,partA,fillA,fillE,List.take_nil,Nat.zero_ne_one,Nat.one_ne_zero,not_false_eq_true,ne_eq,Nat.succ_ne_self,reduceCtorEq,Int.reduceEq,Int.reduceLT,Int.reduceLE,decide_true,decide_false,lenA,beq_self_eq_true,beq_true,beq_false,Bool.not_true,Bool.not_false,hlen,h0,h1,h6,h7,h8,hc',hix,hget,hcall]
   exact ⟨_, _, _, rfl, by simp only [List.length_set,hlen], rfl, rfl, by simp only [B3,Nat.reduceLT,Nat.reduceEqDiff,hlen]⟩
  | false =>
   simp only [hp] at hcall
   simp only [b105_0,exec0,xreg,xops,wantedA,aopc,aop,ev,putA,endK,resA,tupA,List.length_cons,List.length_nil,List.replicate,List.cons_append,List.nil_append,List.append_nil,List.append_assoc,gs_same,gs_ne,gq_same,gq_ne,List.length_set,List.map_cons,List.map_nil,cellsOf,List.all_cons,List.all_nil,cellOk,boxTy,Bool.and_true,Bool.and_self,if_true,ite_true,ite_false,loadAt,storeAt,setAt,hget,hget0,hset,hset0,List.getElem?_cons_zero,List.getElem?_cons_succ,List.set_cons_zero,List.set_cons_succ,Nat.add_zero,Nat.zero_add,Nat.reduceAdd,Nat.reduceSub,Nat.reduceLeDiff,Nat.reduceLT,Nat.reduceEqDiff,Nat.le_refl,and_self,and_true,true_and,mkAgg,toIms,List.drop_zero,List.drop_succ_cons,List.take_succ_cons,List.take_zero,List.length_append,binA,isShift,binInt,binBool,unA,Bool.false_eq_true,if_false,partA,fillA,fillE,List.take_nil,Nat.zero_ne_one,Nat.one_ne_zero,not_false_eq_true,ne_eq,Nat.succ_ne_self,reduceCtorEq,Int.reduceEq,Int.reduceLT,Int.reduceLE,decide_true,decide_false,lenA,beq_self_eq_true,beq_true,beq_false,Bool.not_true,Bool.not_false,hlen,h0,h1,h6,h7,h8,hc',hix,hget,hcall,hwr]
   cases hf : (args.drop (i + 1)).findIdx? p with
   | none =>
    simp only [hf] at key
    simp only [Option.map_none]
    apply key
    all_goals simp only [B3,Nat.reduceLT,Nat.reduceEqDiff,hlen,h0,h1,h6,h7]
   | some j =>
    simp only [hf] at key
    simp only [Option.map_some]
    rw [show i + (j + 1) = i + 1 + j by omega]
    apply key
    all_goals simp only [B3,Nat.reduceLT,Nat.reduceEqDiff,hlen,h0,h1,h6,h7]
theorem s105 (args : List KT) (s : Nat) (hs : args = [] ∨ s = 2) (hn : args.length ≤ 9223372036854775807) (p : KT → Bool) (g : FuncId) (cap : List AV) (H : Heap)
  (hc : ∀ a ∈ args, L g ([.im (.agg (encT a))] ++ cap) H = some (.im (.bool (p a)), H)) :
  L 105 [.im (.sl s (args.map encT)), .clo g cap] H = some (.im (.int .i64 (match args.findIdx? p with | some j => ((j : Nat) : Int) | none => -1)), H) := by
 rw [leq F105]
 obtain ⟨hlen, ha⟩ := enter_at (f := f105) (args := [.im (.sl s (args.map encT)), .clo g cap]) (Nat.le_of_ble_eq_true rfl)
 have h0 := ha 0 _ rfl
 have h1 := ha 1 _ rfl
 generalize enterA f105 [.im (.sl s (args.map encT)), .clo g cap] = tm at *
 change tm.length = 19 at hlen
 have key := l105 args s hs hn p g cap H hc args.length 0 (by omega)
 have z : ((0 : Nat) : Int) = 0 := rfl
 simp only [List.drop_zero,Nat.zero_add,z] at key
 simp only [f105,e105_0,exec0,xreg,xops,wantedA,aopc,aop,ev,putA,endK,resA,tupA,List.length_cons,List.length_nil,List.replicate,List.cons_append,List.nil_append,List.append_nil,List.append_assoc,gs_same,gs_ne,gq_same,gq_ne,List.length_set,List.map_cons,List.map_nil,cellsOf,List.all_cons,List.all_nil,cellOk,boxTy,Bool.and_true,Bool.and_self,if_true,ite_true,ite_false,loadAt,storeAt,setAt,hget,hget0,hset,hset0,List.getElem?_cons_zero,List.getElem?_cons_succ,List.set_cons_zero,List.set_cons_succ,Nat.add_zero,Nat.zero_add,Nat.reduceAdd,Nat.reduceSub,Nat.reduceLeDiff,Nat.reduceLT,Nat.reduceEqDiff,Nat.le_refl,and_self,and_true,true_and,mkAgg,toIms,List.drop_zero,List.drop_succ_cons,List.take_succ_cons,List.take_zero,List.length_append,binA,isShift,binInt,binBool,unA,Bool.false_eq_true,if_false,partA,fillA,fillE,List.take_nil,Nat.zero_ne_one,Nat.one_ne_zero,not_false_eq_true,ne_eq,Nat.succ_ne_self,reduceCtorEq,Int.reduceEq,Int.reduceLT,Int.reduceLE,decide_true,decide_false,lenA,beq_self_eq_true,beq_true,beq_false,Bool.not_true,Bool.not_false,hlen,h0,h1]
 refine thenL_of (key _ ?_ ?_ ?_ ?_ ?_ ?_) ?_
 iterate 6 simp only [B3,Nat.reduceLT,Nat.reduceEqDiff,hlen,h0,h1,List.length_map]
 rintro e tm' H' ⟨hl', rfl, hm⟩
 cases hf : args.findIdx? p with
 | none =>
  simp only [hf] at hm
  subst hm
  simp only [exec0,xreg,xops,wantedA,aopc,aop,ev,putA,endK,resA,tupA,List.length_cons,List.length_nil,List.replicate,List.cons_append,List.nil_append,List.append_nil,List.append_assoc,gs_same,gs_ne,gq_same,gq_ne,List.length_set,List.map_cons,List.map_nil,cellsOf,List.all_cons,List.all_nil,cellOk,boxTy,Bool.and_true,Bool.and_self,if_true,ite_true,ite_false,loadAt,storeAt,setAt,hget,hget0,hset,hset0,List.getElem?_cons_zero,List.getElem?_cons_succ,List.set_cons_zero,List.set_cons_succ,Nat.add_zero,Nat.zero_add,Nat.reduceAdd,Nat.reduceSub,Nat.reduceLeDiff,Nat.reduceLT,Nat.reduceEqDiff,Nat.le_refl,and_self,and_true,true_and,mkAgg,toIms,List.drop_zero,List.drop_succ_cons,List.take_succ_cons,List.take_zero,List.length_append,binA,isShift,binInt,binBool,unA,Bool.false_eq_true,if_false,partA,fillA,fillE,List.take_nil,Nat.zero_ne_one,Nat.one_ne_zero,not_false_eq_true,ne_eq,Nat.succ_ne_self,reduceCtorEq,Int.reduceEq,Int.reduceLT,Int.reduceLE,decide_true,decide_false,lenA,beq_self_eq_true,beq_true,beq_false,Bool.not_true,Bool.not_false,hl',leave_same]
 | some j =>
  simp only [hf] at hm
  obtain ⟨rfl, h4⟩ := hm
  simp only [exec0,xreg,xops,wantedA,aopc,aop,ev,putA,endK,resA,tupA,List.length_cons,List.length_nil,List.replicate,List.cons_append,List.nil_append,List.append_nil,List.append_assoc,gs_same,gs_ne,gq_same,gq_ne,List.length_set,List.map_cons,List.map_nil,cellsOf,List.all_cons,List.all_nil,cellOk,boxTy,Bool.and_true,Bool.and_self,if_true,ite_true,ite_false,loadAt,storeAt,setAt,hget,hget0,hset,hset0,List.getElem?_cons_zero,List.getElem?_cons_succ,List.set_cons_zero,List.set_cons_succ,Nat.add_zero,Nat.zero_add,Nat.reduceAdd,Nat.reduceSub,Nat.reduceLeDiff,Nat.reduceLT,Nat.reduceEqDiff,Nat.le_refl,and_self,and_true,true_and,mkAgg,toIms,List.drop_zero,List.drop_succ_cons,List.take_succ_cons,List.take_zero,List.length_append,binA,isShift,binInt,binBool,unA,Bool.false_eq_true,if_false,partA,fillA,fillE,List.take_nil,Nat.zero_ne_one,Nat.one_ne_zero,not_false_eq_true,ne_eq,Nat.succ_ne_self,reduceCtorEq,Int.reduceEq,Int.reduceLT,Int.reduceLE,decide_true,decide_false,lenA,beq_self_eq_true,beq_true,beq_false,Bool.not_true,Bool.not_false,hl',leave_same,h4]
theorem s91 (args : List KT) (s : Nat) (hs : args = [] ∨ s = 2) (hn : args.length ≤ 9223372036854775807) (p : KT → Bool) (g : FuncId) (cap : List AV) (H : Heap)
  (hc : ∀ a ∈ args, L g ([.im (.agg (encT a))] ++ cap) H = some (.im (.bool (p a)), H)) :
  L 91 [.im (.sl s (args.map encT)), .clo g cap] H = some (.im (.bool (args.any p)), H) := by
 have h102 := s105 args s hs hn p g cap H hc
 rw [leq F91]
 obtain ⟨hlen, ha⟩ := enter_at (f := f91) (args := [.im (.sl s (args.map encT)), .clo g cap]) (Nat.le_of_ble_eq_true rfl)
 have h0 := ha 0 _ rfl
 have h1 := ha 1 _ rfl
 generalize enterA f91 [.im (.sl s (args.map encT)), .clo g cap] = tm at *
 change tm.length = 9 at hlen
 simp only [f91,exec0,xreg,xops,wantedA,aopc,aop,ev,putA,endK,resA,tupA,List.length_cons,List.length_nil,List.replicate,List.cons_append,List.nil_append,List.append_nil,List.append_assoc,gs_same,gs_ne,gq_same,gq_ne,List.length_set,List.map_cons,List.map_nil,cellsOf,List.all_cons,List.all_nil,cellOk,boxTy,Bool.and_true,Bool.and_self,if_true,ite_true,ite_false,loadAt,storeAt,setAt,hget,hget0,hset,hset0,List.getElem?_cons_zero,List.getElem?_cons_succ,List.set_cons_zero,List.set_cons_succ,Nat.add_zero,Nat.zero_add,Nat.reduceAdd,Nat.reduceSub,Nat.reduceLeDiff,Nat.reduceLT,Nat.reduceEqDiff,Nat.le_refl,and_self,and_true,true_and,mkAgg,toIms,List.drop_zero,List.drop_succ_cons,List.take_succ_cons,List.take_zero,List.length_append,binA,isShift,binInt,binBool,unA,Bool.false_eq_true,if_false,partA,fillA,fillE,List.take_nil,Nat.zero_ne_one,Nat.one_ne_zero,not_false_eq_true,ne_eq,Nat.succ_ne_self,reduceCtorEq,Int.reduceEq,Int.reduceLT,Int.reduceLE,decide_true,decide_false,lenA,beq_self_eq_true,beq_true,beq_false,Bool.not_true,Bool.not_false,hlen,h0,h1,h102,leave_same]
 congr 4
 cases hf : args.findIdx? p with
 | none =>
  rw [List.findIdx?_eq_none_iff] at hf
  have : args.any p = false := by simpa using hf
  rw [this]; rfl
 | some j =>
  have : args.any p = true := by
   rw [List.any_eq_true]
   obtain ⟨h1, h2, _⟩ := List.findIdx?_eq_some_iff_getElem.1 hf
   exact ⟨_, List.getElem_mem h1, h2⟩
  rw [this]
  simp
end Go.Abs.Seat
end
section
set_option linter.unusedVariables false
set_option linter.unusedSimpArgs false
namespace Go.Abs.Seat
open Go.Proofs
def datW (w : Word) : List Dat := [.int .i64 w.1, .str w.2.1, .int .i64 w.2.2]
def zeroW : Word := (0, [], 0)
def Asks (p : Word → Bool) (g : FuncId) (cap : List AV) (n idw : Nat) (H : Heap) (rows : List Word) : Prop :=
 ∀ w ∈ rows, ∀ H' : Heap, (∀ i, i < n → i ≠ idw → H'[i]? = H[i]?) → n ≤ H'.length → L g ([.im (.agg (datW w))] ++ cap) H' = some (.im (.bool (p w)), H')
theorem drop_cons {α : Type} {l : List α} {i : Nat} (h : i < l.length) : ∃ w, l[i]? = some w ∧ l.drop i = w :: l.drop (i + 1) := by
 refine ⟨_, List.getElem?_eq_getElem h, ?_⟩
 rw [List.drop_eq_getElem_cons h]
theorem l89g (rows : List Word) (rest : List Word) (idw : Nat) (H : Heap) (hw : H[idw]? = some (.obj none ((rows ++ rest).map encW))) (p : Word → Bool) (g : FuncId) (cap : List AV) (hp : Asks p g cap H.length idw H rows) (hn : rows.length ≤ 9223372036854775807) :
  ∀ (m i : Nat), i + m = rows.length → ∀ tm : List AV, tm.length = 19 → tm.getD 0 undefA = .ms 3 idw 0 rows.length → tm.getD 1 undefA = .clo g cap → tm.getD 6 undefA = .ms 3 idw 0 rows.length → tm.getD 7 undefA = .im (.int .i64 rows.length) → tm.getD 8 undefA = .im (.int .i64 i) →
  ∃ e tm' H', Λ c89_0 tm H = some (e, tm', H') ∧ tm'.length = 19 ∧ H' = H ∧ match (rows.drop i).findIdx? p with
   | some j => e = .ret ∧ tm'.getD 4 undefA = .im (.int .i64 ((i + j : Nat) : Int))
   | none => e = .exit 0
 | 0, i, hi, tm, hlen, h0, h1, h6, h7, h8 => by
  have e : rows.drop i = [] := by rw [List.drop_eq_nil_iff]; omega
  have hc : decide ((i : Int) < (rows.length : Int)) = false := decide_eq_false (by omega)
  rw [e, l89_0]
  simp only [b89_0,B0,B1,B2,List.replicate,Nat.reduceAdd,Nat.reduceSub,Nat.reduceLeDiff,Nat.reduceLT,Nat.reduceEqDiff,reduceCtorEq,Int.reduceEq,Int.reduceLT,Int.reduceLE,lenA,hlen,h0,h1,h6,h7,h8,hc,List.findIdx?_nil]
  exact ⟨_, _, _, rfl, by simp only [List.length_set,hlen], rfl, rfl⟩
 | m + 1, i, hi, tm, hlen, h0, h1, h6, h7, h8 => by
  have hlt : i < rows.length := by omega
  obtain ⟨w, hwi, e⟩ := drop_cons hlt
  have hc : decide ((i : Int) < (rows.length : Int)) = true := decide_eq_true (by omega)
  have hix := idx_nat hlt
  have hget : ((rows ++ rest).map encW)[i]? = some (encW w) := by rw [List.getElem?_map, List.getElem?_append_left hlt, hwi]; rfl
  have hcall := hp w (List.mem_of_getElem? hwi) H (fun _ _ _ => rfl) (Nat.le_refl _)
  have hwr := wrap_nat (i := i) (by omega)
  have key := l89g rows rest idw H hw p g cap hp hn m (i + 1) (by omega)
  rw [e, List.findIdx?_cons, l89_0]
  simp only [datW,List.cons_append,List.nil_append] at hcall
  cases hk : p w with
  | true =>
   rw [hk] at hcall
   simp only [b89_0,B0,B1,B2,List.replicate,Nat.reduceAdd,Nat.reduceSub,Nat.reduceLeDiff,Nat.reduceLT,Nat.reduceEqDiff,reduceCtorEq,Int.reduceEq,Int.reduceLT,Int.reduceLE,lenA,hlen,h0,h1,h6,h7,h8,hc,hix,hw,hget,encW,hcall]
   exact ⟨_, _, _, rfl, by simp only [List.length_set,hlen], rfl, rfl, by simp only [B3,Nat.reduceLT,Nat.reduceEqDiff,hlen]⟩
  | false =>
   rw [hk] at hcall
   simp only [b89_0,B0,B1,B2,List.replicate,Nat.reduceAdd,Nat.reduceSub,Nat.reduceLeDiff,Nat.reduceLT,Nat.reduceEqDiff,reduceCtorEq,Int.reduceEq,Int.reduceLT,Int.reduceLE,lenA,hlen,h0,h1,h6,h7,h8,hc,hix,hw,hget,encW,hcall,hwr]
   cases hf : (rows.drop (i + 1)).findIdx? p with
   | none =>
    simp only [hf] at key
    simp only [Option.map_none]
    apply key
    all_goals simp only [B3,Nat.reduceLT,Nat.reduceEqDiff,hlen,h0,h1,h6,h7]
   | some j =>
    simp only [hf] at key
    simp only [Option.map_some]
    rw [show i + (j + 1) = i + 1 + j by omega]
    apply key
    all_goals simp only [B3,Nat.reduceLT,Nat.reduceEqDiff,hlen,h0,h1,h6,h7]
theorem s89g (rows : List Word) (rest : List Word) (idw : Nat) (H : Heap) (hw : H[idw]? = some (.obj none ((rows ++ rest).map encW))) (p : Word → Bool) (g : FuncId) (cap : List AV) (hp : Asks p g cap H.length idw H rows) (hn : rows.length ≤ 9223372036854775807) :
  L 89 [.ms 3 idw 0 rows.length, .clo g cap] H = some (.im (.int .i64 (match rows.findIdx? p with | some j => ((j : Nat) : Int) | none => -1)), H) := by
 rw [leq F89]
 obtain ⟨hlen, ha⟩ := enter_at (f := f89) (args := [.ms 3 idw 0 rows.length, .clo g cap]) (Nat.le_of_ble_eq_true rfl)
 have h0 := ha 0 _ rfl
 have h1 := ha 1 _ rfl
 generalize enterA f89 [.ms 3 idw 0 rows.length, .clo g cap] = tm at *
 change tm.length = 19 at hlen
 have key := l89g rows rest idw H hw p g cap hp hn rows.length 0 (by omega)
 have z : ((0 : Nat) : Int) = 0 := rfl
 simp only [List.drop_zero,Nat.zero_add,z] at key
 simp only [f89,e89_0,B0,B1,B2,List.replicate,Nat.reduceAdd,Nat.reduceSub,Nat.reduceLeDiff,Nat.reduceLT,Nat.reduceEqDiff,reduceCtorEq,Int.reduceEq,Int.reduceLT,Int.reduceLE,lenA,hlen,h0,h1]
 refine thenL_of (key _ ?_ ?_ ?_ ?_ ?_ ?_) ?_
 iterate 6 simp only [B3,Nat.reduceLT,Nat.reduceEqDiff,hlen,h0,h1]
 rintro e tm' H' ⟨hl', rfl, hm⟩
 cases hf : rows.findIdx? p with
 | none =>
  simp only [hf] at hm
  subst hm
  simp only [B0,B1,B2,List.replicate,Nat.reduceAdd,Nat.reduceSub,Nat.reduceLeDiff,Nat.reduceLT,Nat.reduceEqDiff,reduceCtorEq,Int.reduceEq,Int.reduceLT,Int.reduceLE,lenA,endK,resA,tupA,hl',leave_same]
 | some j =>
  simp only [hf] at hm
  obtain ⟨rfl, h4⟩ := hm
  simp only [B0,B1,B2,List.replicate,Nat.reduceAdd,Nat.reduceSub,Nat.reduceLeDiff,Nat.reduceLT,Nat.reduceEqDiff,reduceCtorEq,Int.reduceEq,Int.reduceLT,Int.reduceLE,lenA,endK,resA,tupA,hl',leave_same,h4]
theorem l107 (rows rest : List Word) (idw n : Nat) (H0 : Heap) (hnn : n ≤ H0.length) (hidw : idw < n) (p : Word → Bool) (g : FuncId) (cap : List AV) (hp : Asks p g cap n idw H0 rows) (hn : rows.length ≤ 9223372036854775806) :
  ∀ (m j : Nat), j + m = rows.length → ∀ (tm : List AV) (H : Heap) (fl cw : List Word), But n idw H0 H → (rows.take j).filter (fun w => !p w) = fl → fl.length ≤ j → cw.take fl.length = fl → cw.drop j = rows.drop j ++ rest → cw.length = rows.length + rest.length → H[idw]? = some (.obj none (cw.map encW)) →
  tm.length = 42 → tm.getD 0 undefA = .ms 3 idw 0 rows.length → tm.getD 1 undefA = .clo g cap → tm.getD 5 undefA = .im (.int .i64 (fl.length : Int)) → tm.getD 6 undefA = .im (.int .i64 j) →
  ∃ e tm' H', Λ c107_0 tm H = some (e, tm', H') ∧ tm'.length = 42 ∧ e = .exit 0 ∧ But n idw H0 H' ∧ tm'.getD 0 undefA = .ms 3 idw 0 rows.length ∧ ∃ fl' cw' : List Word, rows.filter (fun w => !p w) = fl' ∧ tm'.getD 5 undefA = .im (.int .i64 (fl'.length : Int)) ∧
   fl'.length ≤ rows.length ∧ cw'.take fl'.length = fl' ∧ cw'.drop rows.length = rest ∧ cw'.length = rows.length + rest.length ∧ H'[idw]? = some (.obj none (cw'.map encW))
 | 0, j, hj, tm, H, fl, cw, hb, hfl, hle, htake, hdrop, hcw, ho, hlen, h0, h1, h5, h6 => by
  have hj' : j = rows.length := by omega
  subst hj'
  have hc : decide ((rows.length : Int) < (rows.length : Int)) = false := decide_eq_false (by omega)
  rw [List.take_length] at hfl
  rw [List.drop_length, List.nil_append] at hdrop
  rw [l107_0]
  simp only [b107_0,B0,B1,B2,List.replicate,Nat.reduceAdd,Nat.reduceSub,Nat.reduceLeDiff,Nat.reduceLT,Nat.reduceEqDiff,reduceCtorEq,Int.reduceEq,Int.reduceLT,Int.reduceLE,lenA,hlen,h0,h1,h5,h6,hc]
  exact ⟨_, _, _, rfl, by simp only [List.length_set,hlen], rfl, hb, by simp only [B3,Nat.reduceLT,Nat.reduceEqDiff,hlen,h0], fl, cw, hfl, by simp only [B3,Nat.reduceLT,Nat.reduceEqDiff,hlen,h5], hle, htake, hdrop, hcw, ho⟩
 | m + 1, j, hj, tm, H, fl, cw, hb, hfl, hle, htake, hdrop, hcw, ho, hlen, h0, h1, h5, h6 => by
  have hlt : j < rows.length := by omega
  obtain ⟨w, hwi, e⟩ := drop_cons hlt
  have hc : decide ((j : Int) < (rows.length : Int)) = true := decide_eq_true (by omega)
  have hix := idx_nat hlt
  have htk : rows.take (j + 1) = rows.take j ++ [w] := by rw [List.take_add_one, hwi]; rfl
  have hcj : cw[j]? = some w := by
   have : (cw.drop j)[0]? = some w := by rw [hdrop, e]; rfl
   rwa [List.getElem?_drop, Nat.add_zero] at this
  have hcl : j < cw.length := (List.getElem?_eq_some_iff.1 hcj).1
  have hget : (cw.map encW)[j]? = some (encW w) := by rw [List.getElem?_map, hcj]; rfl
  have hlt2 : idw < H.length := by have := hb.1; omega
  have hb1 := hb.app hnn [.obj none [encW w]]
  have hcall := hp w (List.mem_of_getElem? hwi) (H ++ [.obj none [encW w]]) (fun i hi hne => hb1.2 i hi hne) (by have := hb1.1; omega)
  have hwr := wrap_nat (i := j) (by omega)
  have key := l107 rows rest idw n H0 hnn hidw p g cap hp hn m (j + 1) (by omega)
  rw [htk, List.filter_append, hfl] at key
  have hoa : ∀ M : Heap, (H ++ M)[idw]? = some (.obj none (cw.map encW)) := fun M => by rw [List.getElem?_append_left hlt2]; exact ho
  have hd1 : cw.drop (j + 1) = rows.drop (j + 1) ++ rest := by
   have := congrArg (List.drop 1) hdrop
   rw [List.drop_drop, e] at this
   simpa using this
  rw [l107_0]
  simp only [datW,encW,List.cons_append,List.nil_append] at hcall hget hb1
  cases hk : p w with
  | true =>
   rw [hk] at hcall
   have hf : ([w].filter fun w => !p w) = [] := by simp [hk]
   rw [hf, List.append_nil] at key
   simp only [b107_0,B0,B1,B2,List.replicate,Nat.reduceAdd,Nat.reduceSub,Nat.reduceLeDiff,Nat.reduceLT,Nat.reduceEqDiff,reduceCtorEq,Int.reduceEq,Int.reduceLT,Int.reduceLE,lenA,hlen,h0,h1,h5,h6,hc,hix,ho,hget,hcall,hwr]
   refine ex_imp (key _ _ fl cw hb1 rfl (by omega) htake hd1 hcw (hoa _) ?_ ?_ ?_ ?_ ?_) fun _ _ _ h => h
   all_goals simp only [B3,Nat.reduceLT,Nat.reduceEqDiff,hlen,h0,h1,h5]
  | false =>
   rw [hk] at hcall
   have hf : ([w].filter fun w => !p w) = [w] := by simp [hk]
   rw [hf] at key
   have hix5 := idx_nat (i := fl.length) (n := rows.length) (by omega)
   have hwr5 := wrap_nat (i := fl.length) (by omega)
   have hg5 : (cw.map encW)[fl.length]? = some (encW (cw[fl.length]'(by omega))) := by
    rw [List.getElem?_map, List.getElem?_eq_getElem (by omega)]; rfl
   have hset : (cw.map encW).set fl.length (encW w) = (cw.set fl.length w).map encW := by rw [List.map_set]
   generalize cw[fl.length]'(by omega) = u at hg5
   have hb2 := hb1.set (.obj none ((cw.map encW).set fl.length (encW w)))
   rw [hset] at hb2
   simp only [encW] at hset hg5
   simp only [b107_0,B0,B1,B2,List.replicate,Nat.reduceAdd,Nat.reduceSub,Nat.reduceLeDiff,Nat.reduceLT,Nat.reduceEqDiff,reduceCtorEq,Int.reduceEq,Int.reduceLT,Int.reduceLE,lenA,hlen,h0,h1,h5,h6,hc,hix,ho,hget,hcall,hwr,hix5,hwr5,hoa,hg5,hset]
   refine ex_imp (key _ _ (fl ++ [w]) (cw.set fl.length w) hb2 rfl (by simp; omega) ?_ ?_ (by simpa using hcw) ?_ ?_ ?_ ?_ ?_ ?_) fun _ _ _ h => h
   ·rw [List.length_append, List.length_singleton, List.take_add_one, List.take_set_of_le (Nat.le_refl _), htake, List.getElem?_set_self (by omega)]
    rfl
   ·rw [List.drop_set_of_lt (by omega)]; exact hd1
   ·rw [List.getElem?_set_self (by simp; omega)]
   ·simp only [B3,Nat.reduceLT,Nat.reduceEqDiff,hlen]
   ·simp only [B3,Nat.reduceLT,Nat.reduceEqDiff,hlen,h0]
   ·simp only [B3,Nat.reduceLT,Nat.reduceEqDiff,hlen,h1]
   ·simp only [B3,Nat.reduceLT,Nat.reduceEqDiff,hlen,List.length_append,List.length_cons,List.length_nil,Nat.zero_add]
   ·simp only [B3,Nat.reduceLT,Nat.reduceEqDiff,hlen]
def msOf (idw k : Nat) : AV := if 0 < k then .ms 3 idw 0 k else .im (.sl 3 [])
theorem refs_words (n : Nat) (cw : List Word) : refsO n (.obj none (cw.map encW)) = true := by
 simp only [refsO,List.all_eq_true,List.mem_map]
 rintro e ⟨w, _, rfl⟩
 rfl
theorem s107 (rows rest : List Word) (idw : Nat) (H : Heap) (hw : H[idw]? = some (.obj none ((rows ++ rest).map encW))) (p : Word → Bool) (g : FuncId) (cap : List AV) (hp : Asks p g cap H.length idw H rows) (hn : rows.length ≤ 9223372036854775806) (hne : rows ≠ []) :
  ∃ rest' : List Word, L 107 [.ms 3 idw 0 rows.length, .clo g cap] H = some (msOf idw (rows.filter fun w => !p w).length, H.set idw (.obj none (((rows.filter fun w => !p w) ++ rest').map encW))) := by
 have hidw := (List.getElem?_eq_some_iff.1 hw).1
 have h76 := s89g rows rest idw H hw p g cap hp (by omega)
 rw [leq F107]
 have hK : ∀ (tm : List AV) (H' : Heap) (v : AV) (o : HO), tm.length = 42 → tm.getD 4 undefA = v → But H.length idw H H' → H'[idw]? = some o → refsO H.length o = true → refsLt H.length v = true → endK f107 H .ret tm H' = some (v, H.set idw o) := fun tm H' v o hl h hb ho hro hr => by
  have := leave_but (keep := true) (r := v) hb ho hro (by simpa using hr) hidw
  simp only [endK,f107,resA,h,tupA,this,if_true]
 have hcode : f107.code = f107.code := rfl
 conv at hcode => rhs; simp only [f107]
 rw [hcode]
 clear hcode
 generalize endK f107 H = K at *
 obtain ⟨hlen, ha⟩ := enter_at (f := f107) (args := [.ms 3 idw 0 rows.length, .clo g cap]) (Nat.le_of_ble_eq_true rfl)
 have h0 := ha 0 _ rfl
 have h1 := ha 1 _ rfl
 generalize enterA f107 [.ms 3 idw 0 rows.length, .clo g cap] = tm at *
 change tm.length = 42 at hlen
 cases hf : rows.findIdx? p with
 | none =>
  rw [hf] at h76
  have hall : rows.filter (fun w => !p w) = rows := by
   rw [List.findIdx?_eq_none_iff] at hf
   rw [List.filter_eq_self]
   intro a ha
   simp [hf a ha]
  rw [hall]
  refine ⟨rest, ?_⟩
  have hpos : 0 < rows.length := List.length_pos_iff.2 hne
  simp only [B0,B1,B2,List.replicate,Nat.reduceAdd,Nat.reduceSub,Nat.reduceLeDiff,Nat.reduceLT,Nat.reduceEqDiff,reduceCtorEq,Int.reduceEq,Int.reduceLT,Int.reduceLE,lenA,hlen,h0,h1,h76]
  refine hK _ _ _ _ (by simp only [List.length_set,hlen]) (by simp only [B3,Nat.reduceLT,Nat.reduceEqDiff,hlen,msOf,if_pos hpos]) But.refl hw (refs_words _ _) ?_
  simp only [msOf,if_pos hpos,refsLt,hidw,decide_true]
 | some j =>
  rw [hf] at h76
  obtain ⟨hjl, hpj, hbefore⟩ := List.findIdx?_eq_some_iff_getElem.1 hf
  have hfl : (rows.take (j + 1)).filter (fun w => !p w) = rows.take j := by
   rw [List.take_add_one, List.getElem?_eq_getElem hjl, List.filter_append]
   simp only [Option.toList_some,List.filter_cons,hpj,Bool.not_true,Bool.false_eq_true,if_false,List.filter_nil,List.append_nil]
   rw [List.filter_eq_self]
   intro a ha
   obtain ⟨i, hi, rfl⟩ := List.getElem_of_mem ha
   simp only [List.length_take] at hi
   rw [List.getElem_take]
   have := hbefore i (by omega)
   simpa using this
  have htl : (rows.take j).length = j := by simp; omega
  have hne1 : decide (((j : Nat) : Int) = -1) = false := decide_eq_false (by omega)
  have hwr := wrap_nat (i := j) (by omega)
  have key := l107 rows rest idw H.length H (Nat.le_refl _) hidw p g cap hp hn (rows.length - (j + 1)) (j + 1) (by omega)
  simp only [e107_0,B0,B1,B2,List.replicate,Nat.reduceAdd,Nat.reduceSub,Nat.reduceLeDiff,Nat.reduceLT,Nat.reduceEqDiff,reduceCtorEq,Int.reduceEq,Int.reduceLT,Int.reduceLE,lenA,hlen,h0,h1,h76,hne1,hwr]
  refine thenL_ex (fun r => ∃ rest' : List Word, r = some (msOf idw (rows.filter fun w => !p w).length, H.set idw (.obj none (((rows.filter fun w => !p w) ++ rest').map encW)))) (key _ _ (rows.take j) (rows ++ rest) But.refl hfl (by omega) ?_ ?_ (by simp) hw ?_ ?_ ?_ ?_ ?_) ?_
  ·rw [htl, List.take_append_of_le_length (by omega)]
  ·rw [List.drop_append_of_le_length (by omega)]
  ·simp only [B3,Nat.reduceLT,Nat.reduceEqDiff,hlen]
  ·simp only [B3,Nat.reduceLT,Nat.reduceEqDiff,hlen,h0]
  ·simp only [B3,Nat.reduceLT,Nat.reduceEqDiff,hlen,h1]
  ·simp only [B3,Nat.reduceLT,Nat.reduceEqDiff,hlen,htl]
  ·simp only [B3,Nat.reduceLT,Nat.reduceEqDiff,hlen]
  rintro e tm1 H1 ⟨hl1, rfl, hb, a0, fl, cw, hfl', a5, hle, htk, hdr, hcw, ho⟩
  rw [hfl']
  have hlt : fl.length < rows.length := by
   have h1 : fl.length < rows.length := by
    rw [← hfl']
    have := List.length_filter_lt_length_iff_exists (p := fun w => !p w) (l := rows)
    rw [this]
    exact ⟨rows[j], List.getElem_mem hjl, by simp [hpj]⟩
   exact h1
  have hcl : rows.length ≤ cw.length := by omega
  have hnn : (0 : Int) ≤ (fl.length : Int) := Int.natCast_nonneg _
  have hc1 : fl.length + (rows.length - fl.length) ≤ cw.length := by omega
  have hmap : List.take fl.length (cw.map encW) ++ (List.replicate (rows.length - fl.length) [.im (.int .i64 0), .im (.str []), .im (.int .i64 0)] ++ List.drop (fl.length + (rows.length - fl.length)) (cw.map encW)) = (fl ++ (List.replicate (rows.length - fl.length) zeroW ++ rest)).map encW := by
   rw [← List.map_take, htk, ← List.map_drop, show fl.length + (rows.length - fl.length) = rows.length by omega, hdr, List.map_append, List.map_append, List.map_replicate]
   rfl
  have hsl1 : sliceA 3 (.ms 3 idw 0 rows.length) fl.length (fun n => some n) none = some (.ms 3 idw fl.length (rows.length - fl.length)) := by
   simp only [sliceA]
   rw [if_pos ⟨by omega, by omega, trivial⟩, if_pos hlt, Nat.zero_add]
  have hsl2 : sliceA 3 (.ms 3 idw 0 rows.length) 0 (fun n => some fl.length) none = some (msOf idw fl.length) := by
   simp only [sliceA]
   rw [if_pos ⟨by omega, by omega, trivial⟩, Nat.zero_add, Nat.sub_zero]
   rfl
  simp only [B0,B1,B2,List.replicate,Nat.reduceAdd,Nat.reduceSub,Nat.reduceLeDiff,Nat.reduceLT,Nat.reduceEqDiff,reduceCtorEq,Int.reduceEq,Int.reduceLT,Int.reduceLE,lenA,boundA,intOfA,hl1,a0,a5,hnn,Int.toNat_natCast,hsl1,hsl2,ho,List.length_map,hc1,hmap]
  refine ⟨List.replicate (rows.length - fl.length) zeroW ++ rest, ?_⟩
  have hlt1 : idw < H1.length := by have := hb.1; omega
  refine hK _ _ _ _ ?_ ?_ (hb.set _) (List.getElem?_set_self hlt1) (refs_words _ _) ?_
  ·simp only [List.length_set,hl1]
  ·simp only [B3,Nat.reduceLT,Nat.reduceEqDiff,hl1]
  ·simp only [msOf]
   split <;> simp [refsLt, hidw]
end Go.Abs.Seat
end
section
set_option linter.unusedVariables false
set_option linter.unusedSimpArgs false
namespace Go.Abs.Seat
open Go.Proofs
def kidx (k : Int) : Option Nat := words.findIdx? (fun w => decide (w.1 = k))
def kcnt (i : Nat) : Int := match words[i]? with
 | some w => w.2.2
 | none => 0
mutual
def rightT : KT → Int → Bool
 | .mk k _ args, d => match kidx k with
  | some i => if d < 1 then false else if (args.length : Int) = kcnt i then !rightNot args (d - 1) else false
  | none => false
def rightNot : List KT → Int → Bool
 | [], _ => false
 | a :: l, d => !rightT a d || rightNot l d
end
theorem rightNot_any : ∀ (l : List KT) (d : Int), rightNot l d = l.any fun a => !rightT a d
 | [], d => rfl
 | a :: l, d => by simp only [rightNot,List.any_cons,rightNot_any l d]
theorem kidx_lt {k : Int} {i : Nat} (h : kidx k = some i) : i < 8 ∧ ∃ w, words[i]? = some w ∧ kcnt i = w.2.2 := by
 obtain ⟨h1, _, _⟩ := List.findIdx?_eq_some_iff_getElem.1 h
 refine ⟨h1, words[i], List.getElem?_eq_getElem h1, ?_⟩
 unfold kcnt
 rw [List.getElem?_eq_getElem h1]
theorem wrap_small (z : Int) (h : -9223372036854775808 ≤ z ∧ z < 9223372036854775808) : IntKind.i64.wrap z = z := by
 simp [IntKind.wrap, IntKind.bits, IntKind.signed]
 omega
theorem s92 (a : KT) (d : Int) (hd : 1 ≤ d ∧ d ≤ 1000) (idd : Nat) (H : Heap) (hid : H[idd]? = some (.obj none [[.im (.int .i64 d)]])) (b : Bool) (h51 : ∀ H, L 75 [.im (.agg (encT a)), .im (.int .i64 (d - 1))] H = some (.im (.bool b), H)) :
  L 92 [.im (.agg (encT a)), .ptr idd 0 0] H = some (.im (.bool (!b)), H) := by
 have hlt := (List.getElem?_eq_some_iff.1 hid).1
 have h2 : ∀ o, (H ++ [o])[idd]? = some (.obj none [[.im (.int .i64 d)]]) := fun o => by rw [List.getElem?_append_left hlt]; exact hid
 have hwr := wrap_small (d - 1) (by omega)
 obtain ⟨k, s, ts⟩ := a
 simp only [encT] at h51 ⊢
 rw [leq F92]
 obtain ⟨hlen, ha⟩ := enter_at (f := f92) (args := [.im (.agg [.int .i64 k, .sl s (encTs ts)]), .ptr idd 0 0]) (Nat.le_of_ble_eq_true rfl)
 have h0 := ha 0 _ rfl
 have h1 := ha 1 _ rfl
 generalize enterA f92 [.im (.agg [.int .i64 k, .sl s (encTs ts)]), .ptr idd 0 0] = tm at *
 change tm.length = 9 at hlen
 simp only [f92,exec0,xreg,xops,wantedA,aopc,aop,ev,putA,endK,resA,tupA,List.length_cons,List.length_nil,List.replicate,List.cons_append,List.nil_append,List.append_nil,List.append_assoc,gs_same,gs_ne,gq_same,gq_ne,List.length_set,List.map_cons,List.map_nil,cellsOf,List.all_cons,List.all_nil,cellOk,boxTy,Bool.and_true,Bool.and_self,if_true,ite_true,ite_false,loadAt,storeAt,setAt,hget,hget0,hset,hset0,List.getElem?_cons_zero,List.getElem?_cons_succ,List.set_cons_zero,List.set_cons_succ,Nat.add_zero,Nat.zero_add,Nat.reduceAdd,Nat.reduceSub,Nat.reduceLeDiff,Nat.reduceLT,Nat.reduceEqDiff,Nat.le_refl,and_self,and_true,true_and,mkAgg,toIms,List.drop_zero,List.drop_succ_cons,List.take_succ_cons,List.take_zero,List.length_append,binA,isShift,binInt,binBool,unA,Bool.false_eq_true,if_false,partA,fillA,fillE,List.take_nil,Nat.zero_ne_one,Nat.one_ne_zero,not_false_eq_true,ne_eq,Nat.succ_ne_self,reduceCtorEq,Int.reduceEq,Int.reduceLT,Int.reduceLE,decide_true,decide_false,lenA,beq_self_eq_true,beq_true,beq_false,Bool.not_true,Bool.not_false,hlen,h0,h1,h2,hwr,h51,leave_app]
theorem s75 : ∀ (t : KT), okT t → ∀ (d : Int), 0 ≤ d → d ≤ 1000 → ∀ H, L 75 [.im (.agg (encT t)), .im (.int .i64 d)] H = some (.im (.bool (rightT t d)), H)
 | .mk k s args, hok, d, hd0, hd1, H => by
  simp only [okT] at hok
  obtain ⟨hs, hn, hoks⟩ := hok
  have h76 := fun H' id (hid : H'[id]? = some (.obj none [[.im (.int .i64 k), .im (.sl s (encTs args))]])) (idw : Nat) (hw : H'[idw]? = some (.obj none (words.map encW))) => s89 words idw id k (.im (.sl s (encTs args))) H' hw hid (by decide)
  simp only [encT]
  rw [leq F75]
  obtain ⟨hlen, ha⟩ := enter_at (f := f75) (args := [.im (.agg [.int .i64 k, .sl s (encTs args)]), .im (.int .i64 d)]) (Nat.le_of_ble_eq_true rfl)
  have h0 := ha 0 _ rfl
  have h1 := ha 1 _ rfl
  generalize enterA f75 [.im (.agg [.int .i64 k, .sl s (encTs args)]), .im (.int .i64 d)] = tm at *
  change tm.length = 31 at hlen
  have h76' := h76 (H ++ [.obj none [[.im (.int .i64 k), .im (.sl s (encTs args))]], .obj none [[.im (.int .i64 d)]], .obj none (words.map encW)]) H.length (by rw [hget0]; rfl) (H.length + 2) (by rw [hget]; rfl)
  simp only [show words.length = 8 from rfl] at h76'
  cases hk : kidx k with
  | none =>
   unfold kidx at hk
   simp only [hk] at h76'
   have e1 : decide ((-1 : Int) < 0) = true := rfl
   simp only [f75,exec0,xreg,xops,wantedA,aopc,aop,ev,putA,endK,resA,tupA,List.length_cons,List.length_nil,List.replicate,List.cons_append,List.nil_append,List.append_nil,List.append_assoc,gs_same,gs_ne,gq_same,gq_ne,List.length_set,List.map_cons,List.map_nil,cellsOf,List.all_cons,List.all_nil,cellOk,boxTy,Bool.and_true,Bool.and_self,if_true,ite_true,ite_false,loadAt,storeAt,setAt,hget,hget0,hset,hset0,List.getElem?_cons_zero,List.getElem?_cons_succ,List.set_cons_zero,List.set_cons_succ,Nat.add_zero,Nat.zero_add,Nat.reduceAdd,Nat.reduceSub,Nat.reduceLeDiff,Nat.reduceLT,Nat.reduceEqDiff,Nat.le_refl,and_self,and_true,true_and,mkAgg,toIms,List.drop_zero,List.drop_succ_cons,List.take_succ_cons,List.take_zero,List.length_append,binA,isShift,binInt,binBool,unA,Bool.false_eq_true,if_false,partA,fillA,fillE,List.take_nil,Nat.zero_ne_one,Nat.one_ne_zero,not_false_eq_true,ne_eq,Nat.succ_ne_self,reduceCtorEq,Int.reduceEq,Int.reduceLT,Int.reduceLE,decide_true,decide_false,lenA,beq_self_eq_true,beq_true,beq_false,Bool.not_true,Bool.not_false,forall_eq_or_imp,stays,loadOf,List.reverse_cons,List.reverse_nil,List.mem_cons,List.not_mem_nil,or_false,forall_eq,true_or,or_true,Bool.true_and,hlen,h0,h1,s76,h76',e1,leave_app]
   have e2 : rightT (.mk k s args) d = false := by
    unfold rightT kidx
    rw [hk]
   rw [e2]
  | some i =>
   obtain ⟨hi8, w, hw, hcw⟩ := kidx_lt hk
   have hk' := hk
   unfold kidx at hk
   simp only [hk] at h76'
   have e1 : decide ((i : Int) < 0) = false := decide_eq_false (by omega)
   by_cases hd : d < 1
   ·have e3 : decide (d < 1) = true := decide_eq_true hd
    have e2 : rightT (.mk k s args) d = false := by
     simp only [rightT,hk',hd,if_true]
    simp only [f75,exec0,xreg,xops,wantedA,aopc,aop,ev,putA,endK,resA,tupA,List.length_cons,List.length_nil,List.replicate,List.cons_append,List.nil_append,List.append_nil,List.append_assoc,gs_same,gs_ne,gq_same,gq_ne,List.length_set,List.map_cons,List.map_nil,cellsOf,List.all_cons,List.all_nil,cellOk,boxTy,Bool.and_true,Bool.and_self,if_true,ite_true,ite_false,loadAt,storeAt,setAt,hget,hget0,hset,hset0,List.getElem?_cons_zero,List.getElem?_cons_succ,List.set_cons_zero,List.set_cons_succ,Nat.add_zero,Nat.zero_add,Nat.reduceAdd,Nat.reduceSub,Nat.reduceLeDiff,Nat.reduceLT,Nat.reduceEqDiff,Nat.le_refl,and_self,and_true,true_and,mkAgg,toIms,List.drop_zero,List.drop_succ_cons,List.take_succ_cons,List.take_zero,List.length_append,binA,isShift,binInt,binBool,unA,Bool.false_eq_true,if_false,partA,fillA,fillE,List.take_nil,Nat.zero_ne_one,Nat.one_ne_zero,not_false_eq_true,ne_eq,Nat.succ_ne_self,reduceCtorEq,Int.reduceEq,Int.reduceLT,Int.reduceLE,decide_true,decide_false,lenA,beq_self_eq_true,beq_true,beq_false,Bool.not_true,Bool.not_false,forall_eq_or_imp,stays,loadOf,List.reverse_cons,List.reverse_nil,List.mem_cons,List.not_mem_nil,or_false,forall_eq,true_or,or_true,Bool.true_and,hlen,h0,h1,s76,h76',e1,e3,leave_app]
    rw [e2]
   ·have e3 : decide (d < 1) = false := decide_eq_false hd
    have hix := idx_nat (n := 8) (i := i) hi8
    have hgw : (words.map encW)[i]? = some (encW w) := by rw [List.getElem?_map, hw]; rfl
    have hel : (encTs args).length = args.length := by rw [encTs_map]; simp
    by_cases hc : (args.length : Int) = w.2.2
    ·have e4 : decide ((args.length : Int) = w.2.2) = true := decide_eq_true hc
     have e2 : rightT (.mk k s args) d = !(args.any fun a => !rightT a (d - 1)) := by
      simp only [rightT,rightNot_any,hk',hd,if_false,hcw,hc,if_true]
     have h78 := s91 args s hs hn (fun a => !rightT a (d - 1)) 92 [.ptr (H.length + 1) 0 0] (H ++ [.obj none [[.im (.int .i64 k), .im (.sl s (encTs args))]], .obj none [[.im (.int .i64 d)]], .obj none (words.map encW), .obj none (words.map encW)])
      (fun a ha => s92 a d ⟨by omega, hd1⟩ (H.length + 1) _ (by rw [hget]; rfl) (rightT a (d - 1)) (fun H' => s75 a (okTs_mem hoks a ha) (d - 1) (by omega) (by omega) H'))
     rw [← encTs_map] at h78
     rw [e2]
     simp only [f75,exec0,xreg,xops,wantedA,aopc,aop,ev,putA,endK,resA,tupA,List.length_cons,List.length_nil,List.replicate,List.cons_append,List.nil_append,List.append_nil,List.append_assoc,gs_same,gs_ne,gq_same,gq_ne,List.length_set,List.map_cons,List.map_nil,cellsOf,List.all_cons,List.all_nil,cellOk,boxTy,Bool.and_true,Bool.and_self,if_true,ite_true,ite_false,loadAt,storeAt,setAt,hget,hget0,hset,hset0,List.getElem?_cons_zero,List.getElem?_cons_succ,List.set_cons_zero,List.set_cons_succ,Nat.add_zero,Nat.zero_add,Nat.reduceAdd,Nat.reduceSub,Nat.reduceLeDiff,Nat.reduceLT,Nat.reduceEqDiff,Nat.le_refl,and_self,and_true,true_and,mkAgg,toIms,List.drop_zero,List.drop_succ_cons,List.take_succ_cons,List.take_zero,List.length_append,binA,isShift,binInt,binBool,unA,Bool.false_eq_true,if_false,partA,fillA,fillE,List.take_nil,Nat.zero_ne_one,Nat.one_ne_zero,not_false_eq_true,ne_eq,Nat.succ_ne_self,reduceCtorEq,Int.reduceEq,Int.reduceLT,Int.reduceLE,decide_true,decide_false,lenA,beq_self_eq_true,beq_true,beq_false,Bool.not_true,Bool.not_false,forall_eq_or_imp,stays,loadOf,List.reverse_cons,List.reverse_nil,List.mem_cons,List.not_mem_nil,or_false,forall_eq,true_or,or_true,Bool.true_and,hlen,h0,h1,s76,h76',e1,e3,hix,hgw,encW,hel,e4,h78,leave_app]
    ·have e4 : decide ((args.length : Int) = w.2.2) = false := decide_eq_false hc
     have e2 : rightT (.mk k s args) d = false := by
      simp only [rightT,hk',hd,if_false,hcw,hc]
     simp only [f75,exec0,xreg,xops,wantedA,aopc,aop,ev,putA,endK,resA,tupA,List.length_cons,List.length_nil,List.replicate,List.cons_append,List.nil_append,List.append_nil,List.append_assoc,gs_same,gs_ne,gq_same,gq_ne,List.length_set,List.map_cons,List.map_nil,cellsOf,List.all_cons,List.all_nil,cellOk,boxTy,Bool.and_true,Bool.and_self,if_true,ite_true,ite_false,loadAt,storeAt,setAt,hget,hget0,hset,hset0,List.getElem?_cons_zero,List.getElem?_cons_succ,List.set_cons_zero,List.set_cons_succ,Nat.add_zero,Nat.zero_add,Nat.reduceAdd,Nat.reduceSub,Nat.reduceLeDiff,Nat.reduceLT,Nat.reduceEqDiff,Nat.le_refl,and_self,and_true,true_and,mkAgg,toIms,List.drop_zero,List.drop_succ_cons,List.take_succ_cons,List.take_zero,List.length_append,binA,isShift,binInt,binBool,unA,Bool.false_eq_true,if_false,partA,fillA,fillE,List.take_nil,Nat.zero_ne_one,Nat.one_ne_zero,not_false_eq_true,ne_eq,Nat.succ_ne_self,reduceCtorEq,Int.reduceEq,Int.reduceLT,Int.reduceLE,decide_true,decide_false,lenA,beq_self_eq_true,beq_true,beq_false,Bool.not_true,Bool.not_false,forall_eq_or_imp,stays,loadOf,List.reverse_cons,List.reverse_nil,List.mem_cons,List.not_mem_nil,or_false,forall_eq,true_or,or_true,Bool.true_and,hlen,h0,h1,s76,h76',e1,e3,hix,hgw,encW,hel,e4,leave_app]
     rw [e2]
termination_by t => SizeOf.sizeOf t
decreasing_by
 have := List.sizeOf_lt_of_mem ha
 simp only [KT.mk.sizeOf_spec]
 omega
end Go.Abs.Seat
end
section
set_option linter.unusedVariables false
set_option linter.unusedSimpArgs false
namespace Go.Abs.Seat
open Go.Proofs
def wordK (k : Int) : List UInt8 := match kidx k with
 | some i => match words[i]? with
  | some w => w.2.1
  | none => []
 | none => []
def cntK (k : Int) : Int := match kidx k with
 | some i => kcnt i
 | none => 0
mutual
def narrow : KT → Prop
 | .mk _ _ args => args.length ≤ 2 ∧ narrows args
def narrows : List KT → Prop
 | [] => True
 | a :: l => narrow a ∧ narrows l
end
theorem narrows_mem : ∀ {l : List KT}, narrows l → ∀ a ∈ l, narrow a
 | [], _, a, h => by simp at h
 | b :: l, h, a, hm => by
  simp only [narrows] at h
  rcases List.mem_cons.1 hm with rfl | hm
  ·exact h.1
  ·exact narrows_mem h.2 a hm
mutual
def cloneT : KT → KT
 | .mk k _ args => .mk k (if args.length = 0 then 0 else 2) (cloneTs args)
def cloneTs : List KT → List KT
 | [] => []
 | a :: l => cloneT a :: cloneTs l
end
theorem cloneTs_map : ∀ l : List KT, cloneTs l = l.map cloneT
 | [] => rfl
 | a :: l => by simp only [cloneTs,List.map_cons,cloneTs_map l]
end Go.Abs.Seat
end
section
set_option linter.unusedVariables false
set_option linter.unusedSimpArgs false
namespace Go.Abs.Seat
open Go.Proofs
mutual
theorem clone_ok : ∀ (t : KT), okT t → okT (cloneT t)
 | .mk k s args, h => by
  have hl : (cloneTs args).length = args.length := by rw [cloneTs_map]; simp
  simp only [okT] at h
  simp only [cloneT,okT]
  refine ⟨?_, by omega, clone_oks args h.2.2⟩
  by_cases h0 : args.length = 0
  ·left
   have : (cloneTs args).length = 0 := by omega
   exact List.length_eq_zero_iff.1 this
  ·right; rw [if_neg h0]
theorem clone_oks : ∀ (l : List KT), okTs l → okTs (cloneTs l)
 | [], h => by simp only [cloneTs,okTs]
 | a :: l, h => by
  simp only [okTs] at h
  simp only [cloneTs,okTs]
  exact ⟨clone_ok a h.1, clone_oks l h.2⟩
end
theorem word_len : ∀ w ∈ words, w.2.1.length ≤ 8 := by decide
def sepB (i : Nat) : UInt8 := if i = 0 then 40 else 44
end Go.Abs.Seat
end
section
set_option linter.unusedVariables false
set_option linter.unusedSimpArgs false
namespace Go.Abs.Seat
open Go.Proofs
def w98_0 : ACode := (.seq (.seq (.ops [⟨some 13,.move (.t 6),none⟩,⟨some 14,.lenSl (.t 13),none⟩,⟨some 15,.move (.c (.im (.int .i64 0))),none⟩] []) (.block 0 c98_0)) (.seq (.seq (.ops [⟨some 26,.load none (.t 2),none⟩,⟨some 27,.nilCheck (.t 26),none⟩,⟨some 28,.fieldAddr 1 (.t 27),none⟩,⟨some 29,.load none (.t 28),none⟩,⟨some 30,.load none (.t 2),none⟩,⟨some 31,.nilCheck (.t 30),none⟩,⟨some 32,.fieldAddr 0 (.t 31),none⟩,⟨some 33,.load none (.t 32),none⟩,⟨some 34,.lenStr (.t 33),none⟩,⟨some 35,.bin .lss (.t 29) (.t 34),none⟩] []) (.cond (.t 35) (.seq (.ops [⟨some 36,.move (.t 6),none⟩,⟨some 37,.mkfunc 109 [(.t 7),(.t 2)],none⟩,⟨some 38,.call (.c (.clo 107 [])) [(.t 36),(.t 37)],none⟩,⟨some 6,.move (.t 38),none⟩] []) (.seq (.ops [⟨some 39,.move (.t 6),none⟩,⟨some 40,.lenSl (.t 39),none⟩,⟨some 41,.bin .gtr (.t 40) (.c (.im (.int .i64 0))),none⟩] []) (.cond (.t 41) (.seq (.ops [⟨some 42,.load none (.t 2),none⟩,⟨some 43,.nilCheck (.t 42),none⟩,⟨some 44,.fieldAddr 1 (.t 43),none⟩,⟨some 45,.load none (.t 44),none⟩,⟨some 46,.bin .add (.t 45) (.c (.im (.int .i64 1))),none⟩,⟨some 47,.nilCheck (.t 42),none⟩,⟨some 48,.fieldAddr 1 (.t 47),none⟩,⟨none,.store 1 (.t 48) (.t 46),none⟩] []) (.seq (.ops [⟨some 49,.load none (.t 7),none⟩,⟨some 50,.bin .add (.t 49) (.c (.im (.int .i64 1))),none⟩,⟨none,.store 1 (.t 7) (.t 50),none⟩] []) (.goto 0))) .skip))) .skip)) (.seq (.ops [⟨some 51,.build [(.im (.int .i64 0)),(.im (.str [])),(.im (.int .i64 0))] [],none⟩,⟨none,.store 3 (.t 4) (.t 51),none⟩,⟨some 5,.move (.c (.im (.bool false))),none⟩] []) .ret)))
def s98b : ACode := (.seq (.ops [⟨some 10,.call (.c (.clo 76 [])) [],none⟩,⟨some 11,.mkfunc 108 [(.t 3)],none⟩,⟨some 12,.call (.c (.clo 107 [])) [(.t 10),(.t 11)],none⟩,⟨some 6,.move (.t 12),none⟩] []) (.seq (.ops [⟨some 7,.alloc none [(.im (.int .i64 0))],none⟩,⟨none,.store 1 (.t 7) (.c (.im (.int .i64 0))),none⟩] []) (.seq (.label 0) w98_0)))
theorem s98b_eq : c98_1 = .scope s98b s98b := rfl
noncomputable def K98 (e : AEx) (tm : List AV) (H : Heap) : Option Out := match e with
  | .goto l => match findA s98b l with
   | some rest => Λ (.scope s98b rest) tm H
   | none => none
  | .normal => some (.normal, tm, H)
  | .exit i => some (.exit i, tm, H)
  | .ret => some (.ret, tm, H)
theorem K98_ret (tm : List AV) (H : Heap) : K98 .ret tm H = some (.ret, tm, H) := _root_.id rfl
theorem c98_1_eq (tm : List AV) (H : Heap) : Λ c98_1 tm H = exec0 L Λ s98b tm H K98 := by
 rw [s98b_eq]; exact scope_eq
def g98_0 : ACode := .scope s98b (.seq .skip w98_0)
theorem K98_goto0 (tm : List AV) (H : Heap) : K98 (.goto 0) tm H = Λ g98_0 tm H := by
 have h : findA s98b 0 = some (.seq .skip w98_0) := rfl
 simp only [K98,h,g98_0]
theorem g98_0_eq (tm : List AV) (H : Heap) : Λ g98_0 tm H = exec0 L Λ w98_0 tm H K98 := by
 rw [g98_0]; exact scope_eq
def w31_0 : ACode := (.seq (.ops [⟨some 50,.move (.t 0),none⟩,⟨some 51,.call (.c (.clo 29 [])) [(.t 50)],none⟩,⟨some 7,.move (.t 51),none⟩] []) (.seq (.seq (.ops [⟨some 52,.move (.t 7),none⟩,⟨some 53,.bin .lss (.t 52) (.c (.im (.int .u8 48))),none⟩,⟨some 54,.move (.t 53),none⟩,⟨some 55,.move (.t 7),some (54,false)⟩,⟨some 56,.bin .gtr (.t 55) (.c (.im (.int .u8 57))),some (54,false)⟩,⟨some 57,.pick (.t 54) (.c (.im (.bool true))) (.t 56),none⟩] []) (.cond (.t 57) (.seq (.ops [⟨some 58,.move (.t 3),none⟩,⟨some 59,.move (.t 6),none⟩,⟨some 60,.i2i .i64 (.t 59),none⟩,⟨some 61,.bin .mul (.t 58) (.t 60),none⟩,⟨some 62,.build [(.im (.str [])),(.im (.int .i64 0)),(.im (.str [])),(.im (.int .i64 0)),.nils,.nils] [(0,(1,(.c (.im (.str [105,110,116]))))),(1,(1,(.t 61)))],none⟩,⟨none,.store 6 (.t 2) (.t 62),none⟩] []) .ret) .skip)) (.seq (.seq (.ops [⟨some 63,.move (.t 7),none⟩,⟨some 64,.bin .sub (.t 63) (.c (.im (.int .u8 48))),none⟩,⟨some 65,.i2i .u64 (.t 64),none⟩,⟨some 8,.move (.t 65),none⟩] []) (.seq (.ops [⟨some 66,.move (.t 6),none⟩,⟨some 67,.bin .gtr (.t 66) (.c (.im (.int .u64 0))),none⟩,⟨some 68,.move (.t 67),none⟩,⟨some 69,.move (.t 6),some (68,true)⟩,⟨some 70,.move (.t 4),some (68,true)⟩,⟨some 71,.move (.t 8),some (68,true)⟩,⟨some 72,.bin .sub (.t 70) (.t 71),some (68,true)⟩,⟨some 73,.bin .quo (.t 72) (.c (.im (.int .u64 10))),some (68,true)⟩,⟨some 74,.bin .leq (.t 69) (.t 73),some (68,true)⟩,⟨some 75,.pick (.t 68) (.t 74) (.c (.im (.bool false))),none⟩] []) (.cond (.t 75) (.seq (.ops [⟨some 76,.move (.t 6),none⟩,⟨some 77,.bin .mul (.c (.im (.int .u64 10))) (.t 76),none⟩,⟨some 78,.move (.t 8),none⟩,⟨some 79,.bin .add (.t 77) (.t 78),none⟩,⟨some 6,.move (.t 79),none⟩] []) (.seq (.ops [⟨some 80,.move (.t 0),none⟩,⟨some 81,.nilCheck (.t 80),none⟩,⟨some 82,.fieldAddr 1 (.t 81),none⟩,⟨some 83,.load none (.t 82),none⟩,⟨some 84,.bin .add (.t 83) (.c (.im (.int .i64 1))),none⟩,⟨some 85,.nilCheck (.t 80),none⟩,⟨some 86,.fieldAddr 1 (.t 85),none⟩,⟨none,.store 1 (.t 86) (.t 84),none⟩] []) (.goto 0))) .skip))) (.seq (.ops [⟨some 87,.move (.t 0),none⟩,⟨some 88,.nilCheck (.t 87),none⟩,⟨some 89,.fieldAddr 2 (.t 88),none⟩,⟨none,.store 1 (.t 89) (.c (.im (.bool true))),none⟩] []) (.seq (.ops [⟨some 90,.build [(.im (.str [])),(.im (.int .i64 0)),(.im (.str [])),(.im (.int .i64 0)),.nils,.nils] [],none⟩,⟨none,.store 6 (.t 2) (.t 90),none⟩] []) .ret)))))
def s31b : ACode := (.seq (.ops [⟨some 3,.move (.c (.im (.int .i64 1))),none⟩,⟨some 4,.move (.c (.im (.int .u64 9223372036854775807))),none⟩] []) (.seq (.seq (.ops [⟨some 9,.move (.t 0),none⟩,⟨some 10,.call (.c (.clo 29 [])) [(.t 9)],none⟩,⟨some 11,.bin .eql (.t 10) (.c (.im (.int .u8 45))),none⟩] []) (.cond (.t 11) (.seq (.ops [⟨some 12,.move (.t 0),none⟩,⟨some 13,.nilCheck (.t 12),none⟩,⟨some 14,.fieldAddr 1 (.t 13),none⟩,⟨some 15,.load none (.t 14),none⟩,⟨some 16,.bin .add (.t 15) (.c (.im (.int .i64 1))),none⟩,⟨some 17,.nilCheck (.t 12),none⟩,⟨some 18,.fieldAddr 1 (.t 17),none⟩,⟨none,.store 1 (.t 18) (.t 16),none⟩] []) (.ops [⟨some 3,.move (.c (.im (.int .i64 (-1)))),none⟩,⟨some 4,.move (.c (.im (.int .u64 9223372036854775808))),none⟩] [])) .skip)) (.seq (.seq (.ops [⟨some 19,.move (.t 0),none⟩,⟨some 20,.call (.c (.clo 29 [])) [(.t 19)],none⟩,⟨some 5,.move (.t 20),none⟩] []) (.seq (.ops [⟨some 21,.move (.t 5),none⟩,⟨some 22,.bin .lss (.t 21) (.c (.im (.int .u8 48))),none⟩,⟨some 23,.move (.t 22),none⟩,⟨some 24,.move (.t 5),some (23,false)⟩,⟨some 25,.bin .gtr (.t 24) (.c (.im (.int .u8 57))),some (23,false)⟩,⟨some 26,.pick (.t 23) (.c (.im (.bool true))) (.t 25),none⟩,⟨some 27,.move (.t 26),none⟩,⟨some 28,.move (.t 5),some (27,false)⟩,⟨some 29,.bin .eql (.t 28) (.c (.im (.int .u8 48))),some (27,false)⟩,⟨some 30,.move (.t 29),some (27,false)⟩,⟨some 31,.move (.t 3),some (30,true)⟩,⟨some 32,.bin .lss (.t 31) (.c (.im (.int .i64 0))),some (30,true)⟩,⟨some 33,.pick (.t 30) (.t 32) (.c (.im (.bool false))),some (27,false)⟩,⟨some 34,.pick (.t 27) (.c (.im (.bool true))) (.t 33),none⟩] []) (.cond (.t 34) (.seq (.ops [⟨some 35,.move (.t 0),none⟩,⟨some 36,.nilCheck (.t 35),none⟩,⟨some 37,.fieldAddr 2 (.t 36),none⟩,⟨none,.store 1 (.t 37) (.c (.im (.bool true))),none⟩] []) (.seq (.ops [⟨some 38,.build [(.im (.str [])),(.im (.int .i64 0)),(.im (.str [])),(.im (.int .i64 0)),.nils,.nils] [],none⟩,⟨none,.store 6 (.t 2) (.t 38),none⟩] []) .ret)) .skip))) (.seq (.ops [⟨some 39,.move (.t 0),none⟩,⟨some 40,.call (.c (.clo 29 [])) [(.t 39)],none⟩,⟨some 41,.bin .sub (.t 40) (.c (.im (.int .u8 48))),none⟩,⟨some 42,.i2i .u64 (.t 41),none⟩,⟨some 6,.move (.t 42),none⟩] []) (.seq (.ops [⟨some 43,.move (.t 0),none⟩,⟨some 44,.nilCheck (.t 43),none⟩,⟨some 45,.fieldAddr 1 (.t 44),none⟩,⟨some 46,.load none (.t 45),none⟩,⟨some 47,.bin .add (.t 46) (.c (.im (.int .i64 1))),none⟩,⟨some 48,.nilCheck (.t 43),none⟩,⟨some 49,.fieldAddr 1 (.t 48),none⟩,⟨none,.store 1 (.t 49) (.t 47),none⟩] []) (.seq (.label 0) w31_0))))))
theorem s31b_eq : c31_0 = .scope s31b s31b := rfl
noncomputable def K31 (e : AEx) (tm : List AV) (H : Heap) : Option Out := match e with
  | .goto l => match findA s31b l with
   | some rest => Λ (.scope s31b rest) tm H
   | none => none
  | .normal => some (.normal, tm, H)
  | .exit i => some (.exit i, tm, H)
  | .ret => some (.ret, tm, H)
theorem K31_ret (tm : List AV) (H : Heap) : K31 .ret tm H = some (.ret, tm, H) := _root_.id rfl
theorem c31_0_eq (tm : List AV) (H : Heap) : Λ c31_0 tm H = exec0 L Λ s31b tm H K31 := by
 rw [s31b_eq]; exact scope_eq
def g31_0 : ACode := .scope s31b (.seq .skip w31_0)
theorem K31_goto0 (tm : List AV) (H : Heap) : K31 (.goto 0) tm H = Λ g31_0 tm H := by
 have h : findA s31b 0 = some (.seq .skip w31_0) := rfl
 simp only [K31,h,g31_0]
theorem g31_0_eq (tm : List AV) (H : Heap) : Λ g31_0 tm H = exec0 L Λ w31_0 tm H K31 := by
 rw [g31_0]; exact scope_eq
def w30_0 : ACode := (.seq (.ops [⟨some 5,.move (.t 0),none⟩,⟨some 6,.call (.c (.clo 29 [])) [(.t 5)],none⟩,⟨some 4,.move (.t 6),none⟩] []) (.seq (.block 0 (.seq (.ops [⟨some 8,.move (.t 4),none⟩,⟨some 9,.bin .eql (.t 8) (.c (.im (.int .u8 34))),none⟩,⟨some 7,.move (.t 9),none⟩] []) (.cond (.t 7) (.seq (.ops [⟨some 10,.move (.t 0),none⟩,⟨some 11,.nilCheck (.t 10),none⟩,⟨some 12,.fieldAddr 1 (.t 11),none⟩,⟨some 13,.load none (.t 12),none⟩,⟨some 14,.bin .add (.t 13) (.c (.im (.int .i64 1))),none⟩,⟨some 15,.nilCheck (.t 10),none⟩,⟨some 16,.fieldAddr 1 (.t 15),none⟩,⟨none,.store 1 (.t 16) (.t 14),none⟩] []) (.seq (.ops [⟨some 17,.move (.t 3),none⟩,⟨some 18,.b2s (.t 17),none⟩,⟨some 19,.build [(.im (.str [])),(.im (.int .i64 0)),(.im (.str [])),(.im (.int .i64 0)),.nils,.nils] [(0,(1,(.c (.im (.str [116,101,120,116,95,111,102]))))),(2,(1,(.t 18)))],none⟩,⟨none,.store 6 (.t 2) (.t 19),none⟩] []) .ret)) (.seq (.ops [⟨some 21,.move (.t 3),none⟩,⟨some 22,.lenSl (.t 21),none⟩,⟨some 23,.bin .eql (.t 22) (.c (.im (.int .i64 256))),none⟩,⟨some 24,.move (.t 23),none⟩,⟨some 25,.move (.t 4),some (24,false)⟩,⟨some 26,.call (.c (.clo 51 [])) [(.t 25)],some (24,false)⟩,⟨some 27,.un .not (.t 26),some (24,false)⟩,⟨some 28,.move (.t 27),some (24,false)⟩,⟨some 29,.move (.t 4),some (28,true)⟩,⟨some 30,.bin .neq (.t 29) (.c (.im (.int .u8 92))),some (28,true)⟩,⟨some 31,.pick (.t 28) (.t 30) (.c (.im (.bool false))),some (24,false)⟩,⟨some 32,.pick (.t 24) (.c (.im (.bool true))) (.t 31),none⟩,⟨some 20,.move (.t 32),none⟩] []) (.cond (.t 20) (.seq (.ops [⟨some 33,.move (.t 0),none⟩,⟨some 34,.nilCheck (.t 33),none⟩,⟨some 35,.fieldAddr 2 (.t 34),none⟩,⟨none,.store 1 (.t 35) (.c (.im (.bool true))),none⟩] []) (.seq (.ops [⟨some 36,.build [(.im (.str [])),(.im (.int .i64 0)),(.im (.str [])),(.im (.int .i64 0)),.nils,.nils] [],none⟩,⟨none,.store 6 (.t 2) (.t 36),none⟩] []) .ret)) .skip))))) (.seq (.ops [⟨some 37,.move (.t 0),none⟩,⟨some 38,.nilCheck (.t 37),none⟩,⟨some 39,.fieldAddr 1 (.t 38),none⟩,⟨some 40,.load none (.t 39),none⟩,⟨some 41,.bin .add (.t 40) (.c (.im (.int .i64 1))),none⟩,⟨some 42,.nilCheck (.t 37),none⟩,⟨some 43,.fieldAddr 1 (.t 42),none⟩,⟨none,.store 1 (.t 43) (.t 41),none⟩] []) (.seq (.seq (.ops [⟨some 44,.move (.t 4),none⟩,⟨some 45,.bin .eql (.t 44) (.c (.im (.int .u8 92))),none⟩] []) (.cond (.t 45) (.ops [⟨some 46,.move (.t 0),none⟩,⟨some 47,.call (.c (.clo 52 [])) [(.t 46)],none⟩,⟨some 4,.move (.t 47),none⟩] []) .skip)) (.seq (.ops [⟨some 48,.move (.t 3),none⟩,⟨some 49,.move (.t 4),none⟩,⟨some 50,.bslice false 1 1 [(.im (.int .u8 0))] [(0,(.t 49))],none⟩,⟨some 51,.append 5 1 1 (.t 48) (.t 50),none⟩,⟨some 3,.move (.t 51),none⟩] []) (.seq (.seq (.ops [⟨some 52,.move (.t 0),none⟩,⟨some 53,.nilCheck (.t 52),none⟩,⟨some 54,.fieldAddr 2 (.t 53),none⟩,⟨some 55,.load none (.t 54),none⟩,⟨some 56,.un .not (.t 55),none⟩] []) (.cond (.t 56) (.goto 0) .skip)) (.seq (.ops [⟨some 57,.build [(.im (.str [])),(.im (.int .i64 0)),(.im (.str [])),(.im (.int .i64 0)),.nils,.nils] [],none⟩,⟨none,.store 6 (.t 2) (.t 57),none⟩] []) .ret)))))))
def s30b : ACode := (.seq (.ops [⟨some 3,.move (.c .nils),none⟩] []) (.seq (.label 0) w30_0))
theorem s30b_eq : c30_0 = .scope s30b s30b := rfl
noncomputable def K30 (e : AEx) (tm : List AV) (H : Heap) : Option Out := match e with
  | .goto l => match findA s30b l with
   | some rest => Λ (.scope s30b rest) tm H
   | none => none
  | .normal => some (.normal, tm, H)
  | .exit i => some (.exit i, tm, H)
  | .ret => some (.ret, tm, H)
theorem K30_ret (tm : List AV) (H : Heap) : K30 .ret tm H = some (.ret, tm, H) := _root_.id rfl
theorem c30_0_eq (tm : List AV) (H : Heap) : Λ c30_0 tm H = exec0 L Λ s30b tm H K30 := by
 rw [s30b_eq]; exact scope_eq
def g30_0 : ACode := .scope s30b (.seq .skip w30_0)
theorem K30_goto0 (tm : List AV) (H : Heap) : K30 (.goto 0) tm H = Λ g30_0 tm H := by
 have h : findA s30b 0 = some (.seq .skip w30_0) := rfl
 simp only [K30,h,g30_0]
theorem g30_0_eq (tm : List AV) (H : Heap) : Λ g30_0 tm H = exec0 L Λ w30_0 tm H K30 := by
 rw [g30_0]; exact scope_eq
end Go.Abs.Seat
end
section
set_option linter.unusedVariables false
set_option linter.unusedSimpArgs false
namespace Go.Abs.Seat
open Go.Proofs
def outW (d : Int) (w : Word) : Bool := decide (0 < w.2.2) && decide (d = 1)
theorem s108 (w : Word) (idd : Nat) (d : Int) (H : Heap) (hd : H[idd]? = some (.obj none [[.im (.int .i64 d)]])) : L 108 [.im (.agg (datW w)), .ptr idd 0 0] H = some (.im (.bool (outW d w)), H) := by
 have hda : ∀ M : Heap, (H ++ M)[idd]? = some (.obj none [[.im (.int .i64 d)]]) := fun M => by rw [get_app (List.getElem?_eq_some_iff.1 hd).1]; exact hd
 simp only [datW]
 rw [leq F108]
 obtain ⟨hlen, ha⟩ := enter_at (f := f108) (args := [.im (.agg [.int .i64 w.1, .str w.2.1, .int .i64 w.2.2]), .ptr idd 0 0]) (Nat.le_of_ble_eq_true rfl)
 have h0 := ha 0 _ rfl
 have h1 := ha 1 _ rfl
 generalize enterA f108 [.im (.agg [.int .i64 w.1, .str w.2.1, .int .i64 w.2.2]), .ptr idd 0 0] = tm at *
 change tm.length = 11 at hlen
 unfold outW
 rcases Bool.eq_false_or_eq_true (decide (0 < w.2.2)) with hb | hb
 ·simp only [f108,B0,B1,B2,List.replicate,Nat.reduceAdd,Nat.reduceSub,Nat.reduceLeDiff,Nat.reduceLT,Nat.reduceEqDiff,reduceCtorEq,Int.reduceEq,Int.reduceLT,Int.reduceLE,lenA,endK,resA,tupA,hlen,h0,h1,hda,hb,leave_app,Bool.true_and]
 ·simp only [f108,B0,B1,B2,List.replicate,Nat.reduceAdd,Nat.reduceSub,Nat.reduceLeDiff,Nat.reduceLT,Nat.reduceEqDiff,reduceCtorEq,Int.reduceEq,Int.reduceLT,Int.reduceLE,lenA,endK,resA,tupA,hlen,h0,h1,hda,hb,leave_app,Bool.false_and]
theorem byte_eq (a c : UInt8) : decide (((a.toNat : Nat) : Int) = ((c.toNat : Nat) : Int)) = decide (a = c) := by
 congr 1
 simp only [Int.ofNat_inj,UInt8.toNat_inj]
theorem s109 (w : Word) (idn ia ir n : Nat) (s : List UInt8) (k : Nat) (a c : UInt8) (H : Heap) (hn : H[idn]? = some (.obj none [[.im (.int .i64 (n : Int))]])) (hia : H[ia]? = some (.obj none [[.ptr ir 0 0]])) (hir : H[ir]? = some (.obj none [[.im (.str s), .im (.int .i64 (k : Int))]]))
  (ha : w.2.1[n]? = some a) (hc : s[k]? = some c) : L 109 [.im (.agg (datW w)), .ptr idn 0 0, .ptr ia 0 0] H = some (.im (.bool (!decide (a = c))), H) := by
 have hna : ∀ M : Heap, (H ++ M)[idn]? = some (.obj none [[.im (.int .i64 (n : Int))]]) := fun M => by rw [get_app (List.getElem?_eq_some_iff.1 hn).1]; exact hn
 have hia' : ∀ M : Heap, (H ++ M)[ia]? = some (.obj none [[.ptr ir 0 0]]) := fun M => by rw [get_app (List.getElem?_eq_some_iff.1 hia).1]; exact hia
 have hir' : ∀ M : Heap, (H ++ M)[ir]? = some (.obj none [[.im (.str s), .im (.int .i64 (k : Int))]]) := fun M => by rw [get_app (List.getElem?_eq_some_iff.1 hir).1]; exact hir
 have p1 : (0 : Int) ≤ (n : Int) := Int.natCast_nonneg n
 have p2 : (0 : Int) ≤ (k : Int) := Int.natCast_nonneg k
 simp only [datW]
 rw [leq F109]
 obtain ⟨hlen, hg⟩ := enter_at (f := f109) (args := [.im (.agg [.int .i64 w.1, .str w.2.1, .int .i64 w.2.2]), .ptr idn 0 0, .ptr ia 0 0]) (Nat.le_of_ble_eq_true rfl)
 have h0 := hg 0 _ rfl
 have h1 := hg 1 _ rfl
 have h2 := hg 2 _ rfl
 generalize enterA f109 [.im (.agg [.int .i64 w.1, .str w.2.1, .int .i64 w.2.2]), .ptr idn 0 0, .ptr ia 0 0] = tm at *
 change tm.length = 19 at hlen
 simp only [f109,B0,B1,B2,List.replicate,Nat.reduceAdd,Nat.reduceSub,Nat.reduceLeDiff,Nat.reduceLT,Nat.reduceEqDiff,reduceCtorEq,Int.reduceEq,Int.reduceLT,Int.reduceLE,lenA,endK,resA,tupA,intOfA,byteDat,Int.toNat_natCast,hlen,h0,h1,h2,hna,hia',hir',p1,p2,ha,hc,byte_eq,leave_app]
def wordGo (r : List UInt8) : Nat → List Word → Nat → Nat × Option Word
 | 0, may, n => (n, may.find? fun w => decide (w.2.1.length = n))
 | k + 1, may, n => match may.find? (fun w => decide (w.2.1.length = n)) with
  | some w => (n, some w)
  | none => match r[n]? with
   | none => (n, none)
   | some c => if may.filter (fun w => decide (w.2.1[n]? = some c)) = [] then (n, none) else wordGo r k (may.filter fun w => decide (w.2.1[n]? = some c)) (n + 1)
theorem l98 (may rest : List Word) (idw idn b : Nat) (n : Nat) (hlt : may.length ≤ 9223372036854775806) (hbw : b ≠ idw) (hbn : b ≠ idn) (H : Heap) (x y z : AV) (hw : H[idw]? = some (.obj none ((may ++ rest).map encW))) (hn : H[idn]? = some (.obj none [[.im (.int .i64 (n : Int))]])) (hb : H[b]? = some (.obj none [[x, y, z]])) :
  ∀ (m i : Nat), i + m = may.length → ∀ (tm : List AV) (M : Heap), tm.length = 52 → tm.getD 4 undefA = .ptr b 0 0 → tm.getD 7 undefA = .ptr idn 0 0 → tm.getD 13 undefA = .ms 3 idw 0 may.length → tm.getD 14 undefA = .im (.int .i64 may.length) → tm.getD 15 undefA = .im (.int .i64 i) →
  ∃ e tm' H', Λ c98_0 tm (H ++ M) = some (e, tm', H') ∧ tm'.length = 52 ∧ (∀ j, j = 2 ∨ j = 4 ∨ j = 6 ∨ j = 7 → tm'.getD j undefA = tm.getD j undefA) ∧ match (may.drop i).find? (fun w => decide (w.2.1.length = n)) with
   | some w => e = .ret ∧ tm'.getD 5 undefA = .im (.bool true) ∧ ∃ M', H' = H.set b (.obj none [encW w]) ++ M'
   | none => e = .exit 0 ∧ ∃ M', H' = H ++ M'
 | 0, i, hi, tm, M, hlen, h4, h7, h13, h14, h15 => by
  have e : may.drop i = [] := by rw [List.drop_eq_nil_iff]; omega
  have hc : decide ((i : Int) < (may.length : Int)) = false := decide_eq_false (by omega)
  rw [e, l98_0]
  simp only [b98_0,B0,B1,B2,List.replicate,Nat.reduceAdd,Nat.reduceSub,Nat.reduceLeDiff,Nat.reduceLT,Nat.reduceEqDiff,reduceCtorEq,Int.reduceEq,Int.reduceLT,Int.reduceLE,lenA,hlen,h4,h7,h13,h14,h15,hc,List.find?_nil]
  exact ⟨_, _, _, rfl, by simp only [List.length_set,hlen], by rintro j (rfl | rfl | rfl | rfl) <;> simp only [B3,Nat.reduceLT,Nat.reduceEqDiff,hlen], rfl, _, rfl⟩
 | m + 1, i, hi, tm, M, hlen, h4, h7, h13, h14, h15 => by
  have hil : i < may.length := by omega
  obtain ⟨w, hwi, e⟩ := drop_cons hil
  have hc : decide ((i : Int) < (may.length : Int)) = true := decide_eq_true (by omega)
  have hix := idx_nat hil
  have hget : ((may ++ rest).map encW)[i]? = some (encW w) := by rw [List.getElem?_map, List.getElem?_append_left hil, hwi]; rfl
  have hwr := wrap_nat (i := i) (by omega)
  have key := l98 may rest idw idn b n hlt hbw hbn H x y z hw hn hb m (i + 1) (by omega)
  have hbl := (List.getElem?_eq_some_iff.1 hb).1
  have ga : ∀ (j : Nat) (o : HO), H[j]? = some o → ∀ M : Heap, (H ++ M)[j]? = some o := fun j o h M => by rw [get_app (List.getElem?_eq_some_iff.1 h).1]; exact h
  have hset : ∀ (M : Heap) (o : HO), (H ++ M).set b o = H.set b o ++ M := fun M o => set_app hbl
  have hwM := ga _ _ hw
  have hnM := ga _ _ hn
  have hbM := ga _ _ hb
  have hdl : decide (((w.2.1.length : Nat) : Int) = (n : Int)) = decide (w.2.1.length = n) := by congr 1; simp only [Int.ofNat_inj]
  have hap : ∀ o : HO, H ++ M ++ [o] = H ++ (M ++ [o]) := fun o => List.append_assoc ..
  have hgg : ∀ o : HO, (H ++ (M ++ [o]))[(H ++ M).length]? = some o := fun o => by rw [← hap, Go.Abs.hget0]; rfl
  have hss : ∀ o o' : HO, (H ++ (M ++ [o])).set (H ++ M).length o' = H ++ (M ++ [o']) := fun o o' => by rw [← hap, hset0, List.set_cons_zero, hap]
  rw [e, List.find?_cons, l98_0]
  generalize hhl : (H ++ M).length = hl at *
  simp only [encW] at hget
  cases hk : decide (w.2.1.length = n) with
  | true =>
   rw [hk] at hdl
   simp only [b98_0,B0,B1,B2,List.replicate,Nat.reduceAdd,Nat.reduceSub,Nat.reduceLeDiff,Nat.reduceLT,Nat.reduceEqDiff,reduceCtorEq,Int.reduceEq,Int.reduceLT,Int.reduceLE,lenA,hlen,h4,h7,h13,h14,h15,hc,hix,hwM,hget,hnM,hhl,hap,hgg,hss,hbM,hdl,hset]
   exact ⟨_, _, _, rfl, by simp only [List.length_set,hlen], by rintro j (rfl | rfl | rfl | rfl) <;> simp only [B3,Nat.reduceLT,Nat.reduceEqDiff,hlen], rfl, by simp only [B3,Nat.reduceLT,Nat.reduceEqDiff,hlen], _, rfl⟩
  | false =>
   rw [hk] at hdl
   simp only [b98_0,B0,B1,B2,List.replicate,Nat.reduceAdd,Nat.reduceSub,Nat.reduceLeDiff,Nat.reduceLT,Nat.reduceEqDiff,reduceCtorEq,Int.reduceEq,Int.reduceLT,Int.reduceLE,lenA,hlen,h4,h7,h13,h14,h15,hc,hix,hwM,hget,hnM,hhl,hap,hgg,hss,hbM,hdl,hset,hwr]
   refine ex_imp (key _ _ ?_ ?_ ?_ ?_ ?_ ?_) ?_
   iterate 6 simp only [B3,Nat.reduceLT,Nat.reduceEqDiff,hlen,h4,h7,h13,h14]
   rintro e tm' H' ⟨hl', g, hm⟩
   refine ⟨hl', ?_, hm⟩
   rintro j (rfl | rfl | rfl | rfl)
   all_goals (rw [g _ (by simp)]; simp only [B3,Nat.reduceLT,Nat.reduceEqDiff,hlen])
def wordRes (o : Option Word) : Word := match o with
 | some w => w
 | none => zeroW
theorem g98 (s : List UInt8) (at0 ir N : Nat) (H0 : Heap) (hN : N = H0.length) (hir : ir < N) (hs : s.length ≤ 9223372036854775807) (hat : at0 ≤ s.length) :
  ∀ (k : Nat) (may rest : List Word) (n : Nat), may ≠ [] → may.length ≤ 8 → (∀ w ∈ may, n ≤ w.2.1.length ∧ w.2.1.length ≤ n + k) → at0 + n ≤ s.length →
  ∀ (tm : List AV) (H : Heap) (x y z : AV), tm.length = 52 → tm.getD 2 undefA = .ptr N 0 0 → tm.getD 4 undefA = .ptr (N + 2) 0 0 → tm.getD 6 undefA = .ms 3 (N + 3) 0 may.length → tm.getD 7 undefA = .ptr (N + 4) 0 0 →
  H[N]? = some (.obj none [[.ptr ir 0 0]]) → H[N + 2]? = some (.obj none [[x, y, z]]) → H[N + 3]? = some (.obj none ((may ++ rest).map encW)) → H[N + 4]? = some (.obj none [[.im (.int .i64 (n : Int))]]) → H[ir]? = some (.obj none [[.im (.str s), .im (.int .i64 ((at0 + n : Nat) : Int))]]) → But N ir H0 H →
  ∃ tm' H', Λ g98_0 tm H = some (.ret, tm', H') ∧ tm'.length = 52 ∧ tm'.getD 4 undefA = .ptr (N + 2) 0 0 ∧ tm'.getD 5 undefA = .im (.bool (wordGo (s.drop at0) k may n).2.isSome) ∧ H'[N + 2]? = some (.obj none [encW (wordRes (wordGo (s.drop at0) k may n).2)]) ∧
   H'[ir]? = some (.obj none [[.im (.str s), .im (.int .i64 ((at0 + (wordGo (s.drop at0) k may n).1 : Nat) : Int))]]) ∧ But N ir H0 H' := by
 intro k
 induction k with
 | zero =>
  intro may rest n hne hm8 hlens han tm H x y z hlen h2 h4 h6 h7 oN o2 o3 o4 oir hbut
  have key := l98 may rest (N + 3) (N + 4) (N + 2) n (by omega) (by omega) (by omega) H x y z o3 o4 o2 may.length 0 (by omega)
  have zz : ((0 : Nat) : Int) = 0 := rfl
  simp only [List.drop_zero,zz] at key
  have key0 := fun tm => key tm []
  simp only [List.append_nil] at key0
  have hHl : N + 4 < H.length := (List.getElem?_eq_some_iff.1 o4).1
  rw [g98_0_eq]
  simp only [w98_0,e98_0,B0,B1,B2,List.replicate,Nat.reduceAdd,Nat.reduceSub,Nat.reduceLeDiff,Nat.reduceLT,Nat.reduceEqDiff,reduceCtorEq,Int.reduceEq,Int.reduceLT,Int.reduceLE,lenA,hlen,h2,h4,h6,h7]
  generalize hr : thenL _ _ = r
  refine Exists.elim (thenL_inv hr (key0 _ ?_ ?_ ?_ ?_ ?_ ?_)) ?_
  iterate 6 simp only [B3,Nat.reduceLT,Nat.reduceEqDiff,hlen,h4,h6,h7]
  clear hr
  rintro e ⟨tm1, H1, ⟨hl1, g, hm⟩, rfl⟩
  have g4 := g 4 (by simp)
  simp only [B3,Nat.reduceLT,Nat.reduceEqDiff,hlen,h4] at g4
  clear g
  simp only [wordGo]
  cases hf : may.find? (fun w => decide (w.2.1.length = n)) with
  | some w =>
   rw [hf] at hm
   obtain ⟨rfl, g5, M', rfl⟩ := hm
   simp only [B0,B1,B2,List.replicate,Nat.reduceAdd,Nat.reduceSub,Nat.reduceLeDiff,Nat.reduceLT,Nat.reduceEqDiff,reduceCtorEq,Int.reduceEq,Int.reduceLT,Int.reduceLE,lenA,K98_ret]
   have hlt : ∀ i, i ≤ N + 4 → ∀ o : HO, (H.set (N + 2) o ++ M')[i]? = (H.set (N + 2) o)[i]? := fun i hi o => get_app (by simp; omega)
   refine ⟨_, _, rfl, hl1, g4, g5, ?_, ?_, ?_⟩
   ·rw [hlt _ (by omega), List.getElem?_set_self (by omega)]; rfl
   ·rw [hlt _ (by omega), List.getElem?_set_ne (by omega)]; exact oir
   ·refine ⟨by have := hbut.1; simp; omega, fun i hi hne => ?_⟩
    rw [hlt _ (by omega), List.getElem?_set_ne (by omega)]; exact hbut.2 i hi hne
  | none =>
   obtain ⟨w, hw⟩ := List.exists_mem_of_ne_nil _ hne
   have := List.find?_eq_none.1 hf w hw
   have h2 := hlens w hw
   simp at this
   omega
 | succ k ih =>
  intro may rest n hne hm8 hlens han tm H x y z hlen h2 h4 h6 h7 oN o2 o3 o4 oir hbut
  have key := l98 may rest (N + 3) (N + 4) (N + 2) n (by omega) (by omega) (by omega) H x y z o3 o4 o2 may.length 0 (by omega)
  have zz : ((0 : Nat) : Int) = 0 := rfl
  simp only [List.drop_zero,zz] at key
  have key0 := fun tm => key tm []
  simp only [List.append_nil] at key0
  have hHl : N + 4 < H.length := (List.getElem?_eq_some_iff.1 o4).1
  rw [g98_0_eq]
  simp only [w98_0,e98_0,B0,B1,B2,List.replicate,Nat.reduceAdd,Nat.reduceSub,Nat.reduceLeDiff,Nat.reduceLT,Nat.reduceEqDiff,reduceCtorEq,Int.reduceEq,Int.reduceLT,Int.reduceLE,lenA,hlen,h2,h4,h6,h7]
  generalize hr : thenL _ _ = r
  refine Exists.elim (thenL_inv hr (key0 _ ?_ ?_ ?_ ?_ ?_ ?_)) ?_
  iterate 6 simp only [B3,Nat.reduceLT,Nat.reduceEqDiff,hlen,h4,h6,h7]
  clear hr
  rintro e ⟨tm1, H1, ⟨hl1, g, hm⟩, rfl⟩
  have g2 := g 2 (by simp)
  have g4 := g 4 (by simp)
  have g6 := g 6 (by simp)
  have g7 := g 7 (by simp)
  simp only [B3,Nat.reduceLT,Nat.reduceEqDiff,hlen,h2,h4,h6,h7] at g2 g4 g6 g7
  clear g key key0
  simp only [wordGo]
  cases hf : may.find? (fun w => decide (w.2.1.length = n)) with
  | some w =>
   rw [hf] at hm
   obtain ⟨rfl, g5, M', rfl⟩ := hm
   simp only [B0,B1,B2,List.replicate,Nat.reduceAdd,Nat.reduceSub,Nat.reduceLeDiff,Nat.reduceLT,Nat.reduceEqDiff,reduceCtorEq,Int.reduceEq,Int.reduceLT,Int.reduceLE,lenA,K98_ret]
   have hlt : ∀ i, i ≤ N + 4 → ∀ o : HO, (H.set (N + 2) o ++ M')[i]? = (H.set (N + 2) o)[i]? := fun i hi o => get_app (by simp; omega)
   refine ⟨_, _, rfl, hl1, g4, g5, ?_, ?_, ?_⟩
   ·rw [hlt _ (by omega), List.getElem?_set_self (by omega)]; rfl
   ·rw [hlt _ (by omega), List.getElem?_set_ne (by omega)]; exact oir
   ·refine ⟨by have := hbut.1; simp; omega, fun i hi hne => ?_⟩
    rw [hlt _ (by omega), List.getElem?_set_ne (by omega)]; exact hbut.2 i hi hne
  | none =>
   rw [hf] at hm
   obtain ⟨rfl, M', rfl⟩ := hm
   have ga : ∀ (j : Nat) (o : HO), H[j]? = some o → (H ++ M')[j]? = some o := fun j o h => by rw [get_app (List.getElem?_eq_some_iff.1 h).1]; exact h
   replace oN := ga _ _ oN
   replace o2 := ga _ _ o2
   replace o3 := ga _ _ o3
   replace o4 := ga _ _ o4
   replace oir := ga _ _ oir
   replace hbut := hbut.app (by omega) M'
   have hHl : N + 4 < (H ++ M').length := by simp; omega
   clear ga
   generalize H ++ M' = Hc at *
   have hdr : (s.drop at0)[n]? = s[at0 + n]? := List.getElem?_drop
   rw [hdr]
   have fin : ∀ (tm2 : List AV) (H2 : Heap) (n2 : Nat), n2 = n → tm2.length = 52 → tm2.getD 4 undefA = .ptr (N + 2) 0 0 → tm2.getD 5 undefA = .im (.bool false) → H2[N + 2]? = some (.obj none [encW zeroW]) → H2[ir]? = some (.obj none [[.im (.str s), .im (.int .i64 ((at0 + n : Nat) : Int))]]) → But N ir H0 H2 →
     ∃ tm' H', some (AEx.ret, tm2, H2) = some (AEx.ret, tm', H') ∧ tm'.length = 52 ∧ tm'.getD 4 undefA = .ptr (N + 2) 0 0 ∧ tm'.getD 5 undefA = .im (.bool (Option.isSome (none : Option Word))) ∧ H'[N + 2]? = some (.obj none [encW (wordRes none)]) ∧ H'[ir]? = some (.obj none [[.im (.str s), .im (.int .i64 ((at0 + n2 : Nat) : Int))]]) ∧ But N ir H0 H' :=
    fun tm2 H2 n2 hn2 a b c d e f => ⟨tm2, H2, rfl, a, b, c, d, by rw [hn2]; exact e, f⟩
   by_cases hat' : at0 + n < s.length
   ·have hc : decide ((((at0 + n : Nat) : Nat) : Int) < (s.length : Int)) = true := decide_eq_true (by omega)
    have hsc : s[at0 + n]? = some s[at0 + n] := List.getElem?_eq_getElem hat'
    generalize s[at0 + n] = c at hsc
    rw [hsc]
    simp only
    have hasks : Asks (fun w => !decide (w.2.1[n]? = some c)) 109 [.ptr (N + 4) 0 0, .ptr N 0 0] Hc.length (N + 3) Hc may := by
     intro w hw H' hH' hl'
     have h1 := hlens w hw
     have h2 := List.find?_eq_none.1 hf w hw
     simp at h2
     have hwa : w.2.1[n]? = some (w.2.1[n]'(by omega)) := List.getElem?_eq_getElem (by omega)
     generalize w.2.1[n]'(by omega) = a at hwa
     have := s109 w (N + 4) N ir n s (at0 + n) a c H' (by rw [hH' _ (by omega) (by omega)]; exact o4) (by rw [hH' _ (by omega) (by omega)]; exact oN) (by rw [hH' _ (by omega) (by omega)]; exact oir) hwa hsc
     simp only [List.cons_append,List.nil_append]
     rw [this, hwa]
     simp only [Option.some.injEq]
    obtain ⟨rest', h98⟩ := s107 may rest (N + 3) Hc o3 _ 109 _ hasks (by omega) hne
    simp only [Bool.not_not] at h98
    have hmem : ∀ w ∈ may.filter (fun w => decide (w.2.1[n]? = some c)), w ∈ may ∧ w.2.1[n]? = some c := fun w hw => by simpa using hw
    have hfl : (may.filter fun w => decide (w.2.1[n]? = some c)).length ≤ may.length := List.length_filter_le _ _
    generalize may.filter (fun w => decide (w.2.1[n]? = some c)) = may' at *
    have oN' : ∀ o, (Hc.set (N + 3) o)[N]? = some (.obj none [[.ptr ir 0 0]]) := fun o => by rw [List.getElem?_set_ne (by omega)]; exact oN
    have o2' : ∀ o, (Hc.set (N + 3) o)[N + 2]? = some (.obj none [[x, y, z]]) := fun o => by rw [List.getElem?_set_ne (by omega)]; exact o2
    have oir' : ∀ o, (Hc.set (N + 3) o)[ir]? = some (.obj none [[.im (.str s), .im (.int .i64 ((at0 + n : Nat) : Int))]]) := fun o => by rw [List.getElem?_set_ne (by omega)]; exact oir
    have o4' : ∀ o, (Hc.set (N + 3) o)[N + 4]? = some (.obj none [[.im (.int .i64 (n : Int))]]) := fun o => by rw [List.getElem?_set_ne (by omega)]; exact o4
    by_cases hm0 : may' = []
    ·subst hm0
     simp only [if_true]
     simp only [List.length_nil,msOf,Nat.lt_irrefl,if_false,List.nil_append] at h98
     have z0 : (((0 : Nat) : Nat) : Int) = 0 := rfl
     simp only [B0,B1,B2,List.replicate,Nat.reduceAdd,Nat.reduceSub,Nat.reduceLeDiff,Nat.reduceLT,Nat.reduceEqDiff,reduceCtorEq,Int.reduceEq,Int.reduceLT,Int.reduceLE,lenA,hl1,g2,g4,g6,g7,oN,oir,hc,h98,lenA,z0,o2',Int.reduceLT,K98_ret,decide_false]
     refine fin _ _ n rfl ?_ ?_ ?_ ?_ ?_ ?_
     ·simp only [List.length_set,hl1]
     ·simp only [B3,Nat.reduceLT,Nat.reduceEqDiff,hl1,g4]
     ·simp only [B3,Nat.reduceLT,Nat.reduceEqDiff,hl1]
     ·rw [List.getElem?_set_self (by simp; omega)]; rfl
     ·rw [List.getElem?_set_ne (by omega)]; exact oir' _
     ·refine ⟨by have := hbut.1; simp; omega, fun i hi hne => ?_⟩
      rw [List.getElem?_set_ne (by omega), List.getElem?_set_ne (by omega)]; exact hbut.2 i hi hne
    ·simp only [if_neg hm0]
     have hpos : 0 < may'.length := List.length_pos_iff.2 hm0
     have hpos' : decide ((0 : Int) < (may'.length : Int)) = true := decide_eq_true (by omega)
     simp only [msOf,if_pos hpos] at h98
     have hwr := wrap_nat (i := at0 + n) (by omega)
     have hwrn := wrap_nat (i := n) (by omega)
     have hno : N + 4 ≠ ir := by omega
     have o4'' : ∀ o o', ((Hc.set (N + 3) o).set ir o')[N + 4]? = some (.obj none [[.im (.int .i64 (n : Int))]]) := fun o o' => by rw [List.getElem?_set_ne (by omega)]; exact o4' o
     simp only [B0,B1,B2,List.replicate,Nat.reduceAdd,Nat.reduceSub,Nat.reduceLeDiff,Nat.reduceLT,Nat.reduceEqDiff,reduceCtorEq,Int.reduceEq,Int.reduceLT,Int.reduceLE,lenA,hl1,g2,g4,g6,g7,oN,oN',oir,oir',o4',o4'',hc,h98,lenA,hpos',hwr,hwrn,K98_goto0]
     refine ih may' rest' (n + 1) hm0 (by omega) ?_ (by omega) _ _ x y z ?_ ?_ ?_ ?_ ?_ ?_ ?_ ?_ ?_ ?_ ?_
     ·intro w hw
      obtain ⟨h1, h2⟩ := hmem w hw
      have := hlens w h1
      have := (List.getElem?_eq_some_iff.1 h2).1
      omega
     ·simp only [List.length_set,hl1]
     ·simp only [B3,Nat.reduceLT,Nat.reduceEqDiff,hl1,g2]
     ·simp only [B3,Nat.reduceLT,Nat.reduceEqDiff,hl1,g4]
     ·simp only [B3,Nat.reduceLT,Nat.reduceEqDiff,hl1]
     ·simp only [B3,Nat.reduceLT,Nat.reduceEqDiff,hl1,g7]
     ·rw [List.getElem?_set_ne (by omega), List.getElem?_set_ne (by omega)]; exact oN' _
     ·rw [List.getElem?_set_ne (by omega), List.getElem?_set_ne (by omega)]; exact o2' _
     ·rw [List.getElem?_set_ne (by omega), List.getElem?_set_ne (by omega), List.getElem?_set_self (by omega)]
     ·rw [List.getElem?_set_self (by simp; omega)]
     ·rw [List.getElem?_set_ne (by omega), List.getElem?_set_self (by simp; omega)]; rfl
     ·refine ⟨by have := hbut.1; simp; omega, fun i hi hne => ?_⟩
      rw [List.getElem?_set_ne (by omega), List.getElem?_set_ne (by omega), List.getElem?_set_ne (by omega)]; exact hbut.2 i hi hne
   ·have hc : decide ((((at0 + n : Nat) : Nat) : Int) < (s.length : Int)) = false := decide_eq_false (by omega)
    have hsc : s[at0 + n]? = none := List.getElem?_eq_none (by omega)
    rw [hsc]
    simp only [B0,B1,B2,List.replicate,Nat.reduceAdd,Nat.reduceSub,Nat.reduceLeDiff,Nat.reduceLT,Nat.reduceEqDiff,reduceCtorEq,Int.reduceEq,Int.reduceLT,Int.reduceLE,lenA,hl1,g2,g4,g6,g7,oN,oir,hc,o2,K98_ret]
    refine fin _ _ n rfl ?_ ?_ ?_ ?_ ?_ ?_
    ·simp only [List.length_set,hl1]
    ·simp only [B3,Nat.reduceLT,Nat.reduceEqDiff,hl1,g4]
    ·simp only [B3,Nat.reduceLT,Nat.reduceEqDiff,hl1]
    ·rw [List.getElem?_set_self (by omega)]; rfl
    ·rw [List.getElem?_set_ne (by omega)]; exact oir
    ·refine ⟨by have := hbut.1; simp; omega, fun i hi hne => ?_⟩
     rw [List.getElem?_set_ne (by omega)]; exact hbut.2 i hi hne
def mayW (d : Int) : List Word := words.filter fun w => !outW d w
def word69 (s : List UInt8) (at0 : Nat) (d : Int) : Nat × Option Word := wordGo (s.drop at0) 8 (mayW d) 0
theorem mayW_ne (d : Int) : mayW d ≠ [] := by
 have : ((1 : Int), ([98, 111, 111, 108] : List UInt8), (0 : Int)) ∈ mayW d := by
  simp only [mayW,List.mem_filter]
  exact ⟨by decide, by simp [outW]⟩
 exact List.ne_nil_of_mem this
theorem mayW_len (d : Int) : (mayW d).length ≤ 8 := List.length_filter_le _ _
theorem s98 (s : List UInt8) (at0 ir : Nat) (d : Int) (H : Heap) (hir : H[ir]? = some (.obj none [[.im (.str s), .im (.int .i64 (at0 : Int))]])) (hs : s.length ≤ 9223372036854775807) (hat : at0 ≤ s.length) :
  L 98 [.ptr ir 0 0, .im (.int .i64 d)] H = some (.tup [.im (.agg (datW (wordRes (word69 s at0 d).2))), .im (.bool (word69 s at0 d).2.isSome)], H.set ir (.obj none [[.im (.str s), .im (.int .i64 ((at0 + (word69 s at0 d).1 : Nat) : Int))]])) := by
 have hirl := (List.getElem?_eq_some_iff.1 hir).1
 rw [leq F98]
 have hK : ∀ (tm : List AV) (H' : Heap) (w : Word) (b : Bool) (o : HO), tm.length = 52 → tm.getD 4 undefA = .ptr (H.length + 2) 0 0 → tm.getD 5 undefA = .im (.bool b) → H'[H.length + 2]? = some (.obj none [encW w]) → But H.length ir H H' → H'[ir]? = some o → refsO H.length o = true →
   endK f98 H .ret tm H' = some (.tup [.im (.agg (datW w)), .im (.bool b)], H.set ir o) := fun tm H' w b o hl h4 h5 h2 hb ho hro => by
  have := leave_but (keep := false) (r := .tup [.im (.agg (datW w)), .im (.bool b)]) hb ho hro (by simp [degrade, degrade1, toDat, refsLt, refsLts]) hirl
  simp only [Bool.false_eq_true,if_false] at this
  have hd : degrade (.tup [.im (.agg (datW w)), .im (.bool b)]) = .tup [.im (.agg (datW w)), .im (.bool b)] := by simp [degrade, degrade1, toDat]
  rw [hd] at this
  simp only [encW] at h2
  simp only [datW] at this
  simp only [endK,f98,B0,B1,B2,List.replicate,Nat.reduceAdd,Nat.reduceSub,Nat.reduceLeDiff,Nat.reduceLT,Nat.reduceEqDiff,reduceCtorEq,Int.reduceEq,Int.reduceLT,Int.reduceLE,lenA,resA,tupA,h4,h5,h2,this,datW]
 have hcode : f98.code = f98.code := rfl
 conv at hcode => rhs; simp only [f98]
 rw [hcode]
 clear hcode
 generalize endK f98 H = K at *
 obtain ⟨hlen, ha⟩ := enter_at (f := f98) (args := [.ptr ir 0 0, .im (.int .i64 d)]) (Nat.le_of_ble_eq_true rfl)
 have h0 := ha 0 _ rfl
 have h1 := ha 1 _ rfl
 generalize enterA f98 [.ptr ir 0 0, .im (.int .i64 d)] = tm at *
 change tm.length = 52 at hlen
 have hN : H.length = H.length := rfl
 have hda : ∀ M : Heap, (H ++ M)[ir]? = some (.obj none [[.im (.str s), .im (.int .i64 (at0 : Int))]]) := fun M => by rw [get_app hirl]; exact hir
 have hx : (H ++ [.obj none [[.ptr ir 0 0]], .obj none [[.im (.int .i64 d)]], .obj none [[.im (.int .i64 0), .im (.str []), .im (.int .i64 0)]], HO.obj none ((words ++ []).map encW)]).length = H.length + 4 := by simp
 obtain ⟨rest', h98⟩ := s107 words [] (H.length + 3) (H ++ [.obj none [[.ptr ir 0 0]], .obj none [[.im (.int .i64 d)]], .obj none [[.im (.int .i64 0), .im (.str []), .im (.int .i64 0)]], HO.obj none ((words ++ []).map encW)])
  (by rw [hget]; rfl) (outW d) 108 [.ptr (H.length + 1) 0 0] (by
   intro w hw H' hH' hl'
   rw [hx] at hH'
   exact s108 w (H.length + 1) d H' (by rw [hH' _ (by omega) (by omega), hget]; rfl)) (by decide) (by decide)
 have hfm : words.filter (fun w => !outW d w) = mayW d := rfl
 have hw8 : words.length = 8 := rfl
 have hpos : 0 < (mayW d).length := List.length_pos_iff.2 (mayW_ne d)
 rw [hfm, hw8] at h98
 simp only [msOf,if_pos hpos,List.append_nil] at h98
 have hmem : ∀ w ∈ mayW d, w ∈ words := fun w hw => (List.mem_filter.1 hw).1
 have hml := mayW_len d
 simp only [e98_1,c98_1_eq,s98b,B0,B1,B2,List.replicate,Nat.reduceAdd,Nat.reduceSub,Nat.reduceLeDiff,Nat.reduceLT,Nat.reduceEqDiff,reduceCtorEq,Int.reduceEq,Int.reduceLT,Int.reduceLE,lenA,hlen,h0,h1,s76,h98]
 rw [← g98_0_eq]
 generalize hr : thenL _ _ = r
 have key := g98 s at0 ir H.length H rfl hirl hs hat 8 (mayW d) rest' 0 (mayW_ne d) hml (fun w hw => by have := word_len w (hmem w hw); omega) (by omega)
 refine Exists.elim (thenL_inv hr (ret_ex (key _ _ (.im (.int .i64 0)) (.im (.str [])) (.im (.int .i64 0)) ?_ ?_ ?_ ?_ ?_ ?_ ?_ ?_ ?_ ?_ ?_))) ?_
 ·simp only [List.length_set,hlen]
 iterate 4 simp only [B3,Nat.reduceLT,Nat.reduceEqDiff,hlen]
 ·rw [hget0]; rfl
 ·rw [hget]; rfl
 ·rw [hget]; rfl
 ·rw [hget]; rfl
 ·exact hda _
 ·exact But.refl.app (Nat.le_refl _) _
 ·rintro e ⟨tm1, H1, ⟨rfl, hl1, g4, g5, g2, gir, hb⟩, rfl⟩
  exact hK _ _ _ _ _ hl1 g4 g5 g2 hb gir rfl
end Go.Abs.Seat
end
section
set_option linter.unusedVariables false
set_option linter.unusedSimpArgs false
namespace Go.Abs.Seat
open Go.Proofs
def signB (s : List UInt8) (k : Nat) (c : UInt8) : Bool := decide (s[k]? = some c)
def objR (s : List UInt8) (k : Nat) : HO := .obj none [[.im (.str s), .im (.int .i64 (k : Int))]]
theorem s99 (s : List UInt8) (k ir : Nat) (c : UInt8) (H : Heap) (hir : H[ir]? = some (objR s k)) (hs : s.length ≤ 9223372036854775807) :
  L 99 [.ptr ir 0 0, .im (byteDat c)] H = some (.im (.bool (signB s k c)), H.set ir (objR s (if signB s k c = true then k + 1 else k))) := by
 have hirl := (List.getElem?_eq_some_iff.1 hir).1
 have p2 : (0 : Int) ≤ (k : Int) := Int.natCast_nonneg k
 have hl0 : leave H false (.im (.bool false)) H = (.im (.bool false), H) := leave_same
 have hl1 : ∀ o : HO, refsO H.length o = true → leave H false (.im (.bool true)) (H.set ir o) = (.im (.bool true), H.set ir o) := fun o ho => by
  have := leave_but (keep := false) (r := .im (.bool true)) (But.refl.set o) (List.getElem?_set_self hirl) ho rfl hirl
  simpa [degrade, toDat] using this
 have hl1' := hl1 (objR s (k + 1)) rfl
 simp only [objR,byteDat] at hir hl1' ⊢
 rw [leq F99]
 obtain ⟨hlen, ha⟩ := enter_at (f := f99) (args := [.ptr ir 0 0, .im (.int .u8 (c.toNat : Int))]) (Nat.le_of_ble_eq_true rfl)
 have h0 := ha 0 _ rfl
 have h1 := ha 1 _ rfl
 generalize enterA f99 [.ptr ir 0 0, .im (.int .u8 (c.toNat : Int))] = tm at *
 change tm.length = 35 at hlen
 by_cases hk : k < s.length
 ·have hc : decide ((k : Int) < (s.length : Int)) = true := decide_eq_true (by omega)
  have hsk : s[k]? = some s[k] := List.getElem?_eq_getElem hk
  generalize s[k] = a at hsk
  have hwr := wrap_nat (i := k) (by omega)
  unfold signB
  rw [hsk]
  by_cases hac : a = c
  ·have hd : decide (((a.toNat : Nat) : Int) = ((c.toNat : Nat) : Int)) = true := by rw [byte_eq]; exact decide_eq_true hac
   have hd2 : decide (some a = some c) = true := decide_eq_true (by rw [hac])
   rw [hd2]
   simp only [f99,B0,B1,B2,List.replicate,Nat.reduceAdd,Nat.reduceSub,Nat.reduceLeDiff,Nat.reduceLT,Nat.reduceEqDiff,reduceCtorEq,Int.reduceEq,Int.reduceLT,Int.reduceLE,lenA,endK,resA,tupA,intOfA,byteDat,Int.toNat_natCast,hlen,h0,h1,hir,hc,p2,hsk,hd,hwr,hl1']
  ·have hd : decide (((a.toNat : Nat) : Int) = ((c.toNat : Nat) : Int)) = false := by rw [byte_eq]; exact decide_eq_false hac
   have hd2 : decide (some a = some c) = false := decide_eq_false (by simpa using hac)
   rw [hd2]
   rw [show (if false = true then k + 1 else k) = k from rfl, set_same hir]
   simp only [f99,B0,B1,B2,List.replicate,Nat.reduceAdd,Nat.reduceSub,Nat.reduceLeDiff,Nat.reduceLT,Nat.reduceEqDiff,reduceCtorEq,Int.reduceEq,Int.reduceLT,Int.reduceLE,lenA,endK,resA,tupA,intOfA,byteDat,Int.toNat_natCast,hlen,h0,h1,hir,hc,p2,hsk,hd,hwr,hl0]
 ·have hc : decide ((k : Int) < (s.length : Int)) = false := decide_eq_false (by omega)
  have hsk : s[k]? = none := List.getElem?_eq_none (by omega)
  unfold signB
  rw [hsk]
  have hd2 : decide (none = some c) = false := decide_eq_false (by simp)
  rw [hd2]
  rw [show (if false = true then k + 1 else k) = k from rfl, set_same hir]
  simp only [f99,B0,B1,B2,List.replicate,Nat.reduceAdd,Nat.reduceSub,Nat.reduceLeDiff,Nat.reduceLT,Nat.reduceEqDiff,reduceCtorEq,Int.reduceEq,Int.reduceLT,Int.reduceLE,lenA,endK,resA,tupA,hlen,h0,h1,hir,hc,hl0]
def mkT (k : Int) (args : List KT) : KT := .mk k (if args.length = 0 then 0 else 2) args
def zeroT : KT := mkT 0 []
def readL (rd : Nat → Nat × KT × Bool) (s : List UInt8) : Nat → Nat → Nat → List KT → Nat × Option (List KT)
 | 0, i, k, acc => (k, some acc)
 | m + 1, i, k, acc => if signB s k (sepB i) = true then (if (rd (k + 1)).2.2 = true then readL rd s m (i + 1) (rd (k + 1)).1 (acc ++ [(rd (k + 1)).2.1]) else ((rd (k + 1)).1, none)) else (k, none)
def readP (s : List UInt8) : Nat → Nat → Nat × KT × Bool
 | 0, k => (k, zeroT, false)
 | d + 1, k => match word69 s k ((d : Int) + 1) with
  |(n, none) => (k + n, zeroT, false)
  |(n, some w) => match readL (readP s d) s w.2.2.toNat 0 (k + n) [] with
   |(k', none) => (k', zeroT, false)
   |(k', some l) => if w.2.2 = 0 then (k', mkT w.1 l, true) else (if signB s k' 41 = true then (k' + 1, mkT w.1 l, true) else (k', mkT w.1 l, false))
theorem sign_lt {s : List UInt8} {k : Nat} {c : UInt8} (h : signB s k c = true) : k < s.length := by
 have := of_decide_eq_true h
 exact (List.getElem?_eq_some_iff.1 this).1
end Go.Abs.Seat
end
