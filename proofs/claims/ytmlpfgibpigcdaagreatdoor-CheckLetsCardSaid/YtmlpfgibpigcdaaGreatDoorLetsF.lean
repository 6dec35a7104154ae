/- Part 6 of what the claim rests on. -/
import Derived.Lib.LaidTab
import Derived.Lib.AppendIntMem
import Derived.Test.YtmlpfgibpigcdaaGreatDoorProg
import Derived.Lib.Builder
import Derived.Lib.Bytealg
import Derived.Lib.UnsafeStr
import Derived.Laws.Externs
import Derived.WalkKit
import Derived.Test.YtmlpfgibpigcdaaGreatDoorLetsA
import Derived.Test.YtmlpfgibpigcdaaGreatDoorLetsB
import Derived.Test.YtmlpfgibpigcdaaGreatDoorLetsC
import Derived.Test.YtmlpfgibpigcdaaGreatDoorLetsD
import Derived.Test.YtmlpfgibpigcdaaGreatDoorLetsE
section
set_option linter.unusedVariables false
set_option linter.unusedSimpArgs false
namespace Go.Proofs
open Go.RowKit
set_option maxHeartbeats 1000000 in
set_option maxRecDepth 100000 in
theorem Tryz.cc_used (b : Nat) (w : World) (h0 : w.cell? ⟨b, 0, none⟩ = some (.pointer (some ⟨b, 0, none⟩))) :
  Calls Tryz.prog 111 #[.pointer (some ⟨b, 0, none⟩)] w fun e w' => e = .returned (.tuple #[]) ∧ w' = w := by
 obtain ⟨j, hj, hjs⟩ := Option.map_eq_some_iff.1 (show (Tryz.prog.info? 111).map (·.size) = some 2 by kernel_rfl)
 go_enter Tryz.func111, Tryz.ntmps111
 go_wp2
 rw [Lib.run_neq_ptr_same w _ Tryz.underlying108 hj]
 go_wp2
 go_end0
 exact ⟨rfl, rfl⟩
set_option maxHeartbeats 1000000 in
set_option maxRecDepth 100000 in
theorem Tryz.cc_fresh (b e cells : Nat) (w : World) (hlies : liesAt Tryz.prog Tryz.prog.depth e (cells / Tryz.prog.cellsOf e) 0 111 1 = true) (hpos : 0 < cells) (h0 : w.cell? ⟨b, 0, none⟩ = some (.pointer none)) (hsh : w.shape? b = some (e, cells)) (hfz : w.frozen? ⟨b, 0, none⟩ = false) :
  Calls Tryz.prog 111 #[.pointer (some ⟨b, 0, none⟩)] w fun e w' => e = .returned (.tuple #[]) ∧ w' = w.setCell ⟨b, 0, none⟩ (.pointer (some ⟨b, 0, none⟩)) := by
 obtain ⟨j, hj, hjs⟩ := Option.map_eq_some_iff.1 (show (Tryz.prog.info? 111).map (·.size) = some 2 by kernel_rfl)
 go_enter Tryz.func111, Tryz.ntmps111
 go_wp2
 rw [Lib.run_to_unsafe w ⟨b, 0, none⟩ Tryz.underlying108 Tryz.underlying180 hj (by rw [hjs]; decide) hsh hpos]
 simp only [Result.andThen]
 rw [Oper.upon_value]
 go_wp2
 rw [run_callFunc_extern Tryz.func124 (by kernel_rfl) (by kernel_rfl) (by kernel_rfl) (e := Extern.AbiNoEscape.same) (by kernel_rfl)]
 rw [Lib.run_noEscape]
 simp only [Result.andThen]
 rw [Oper.upon_value]
 go_wp2
 rw [Lib.run_from_unsafe w ⟨b, 0, none⟩ Tryz.underlying180 Tryz.underlying108 hj hsh hlies]
 simp only [Result.andThen]
 rw [Oper.upon_value]
 go_wp2
 go_end0
 exact ⟨rfl, rfl⟩
theorem liesAt_bytes_at {P : Program} {e : TypeId} (hc : P.cellsOf e = 1) (count off n : Nat) (hn : off + n ≤ count) : liesAt P P.depth e count off e n = true := by
 have hd : P.depth = (2 * (P.types.size + Made.depth) + 1) + 1 := rfl
 rw [hd]
 simp only [liesAt,Bool.or_eq_true]
 left
 rw [hd]
 simp [rowAt, hc, hn, sameLayout, Nat.mod_one]
theorem run_text_at {P : Program} (w : World) (pt it ty e : TypeId) (hp : P.underlying pt = some (.pointer e)) (hc : P.cellsOf e = 1) (g o cells : Nat) (hsh : w.shape? g = some (e, cells)) (l : List UInt8) (h0 : l ≠ []) (hn : o + l.length ≤ cells) (h63 : l.length ≤ 9223372036854775807)
  (hcell : ∀ j x, l[j]? = some x → w.cell? ((⟨g, o, none⟩ : Addr).add j) = some (.int .u8 x.toNat)) :
  (Builtin.unsafeString_ #[pt, it] ty #[.pointer (some ⟨g, o, none⟩), .int .i64 l.length]).run P w = .ok (.string ⟨l.toArray⟩) (w.freeze ⟨g, o, none⟩ l.length) := by
 have hl : l.length ≠ 0 := by simpa using h0
 have hlb := Lib.run_loadBytes (P := P) w l ⟨g, o, none⟩ .empty hcell
 have hlies := liesAt_bytes_at (P := P) hc (cells / P.cellsOf e) o l.length (by rw [hc]; simpa using hn)
 have h63' : ¬ (9223372036854775807 : Int) < (l.length : Int) := by omega
 conv in (Builtin.unsafeString_ _ _ _) => delta Builtin.unsafeString_; whnf
 have hmax : IntKind.i64.max = 9223372036854775807 := rfl
 have hneg : ¬ (l.length : Int) < 0 := by omega
 generalize IntKind.i64.max.decLt (l.length : Int) = dc
 cases dc with
 | isTrue h => rw [hmax] at h; exact absurd h h63'
 | isFalse h =>
  simp [hl, variablesAt, hsh, elemOf, run_underlying hp, hlies, hlb]
set_option maxHeartbeats 1000000 in
set_option maxRecDepth 100000 in
theorem Tryz.text (b g o c cells : Nat) (l : List UInt8) (w : World) (hc1 : w.cell? ⟨b, 1, none⟩ = some (.slice (some ⟨g, o, none⟩) l.length c)) (h0 : l ≠ []) (hlc : l.length ≤ c) (hmax : l.length ≤ 2 ^ 62) (hsh : w.shape? g = some (5, cells)) (hfit : o + l.length ≤ cells)
  (hcell : ∀ j x, l[j]? = some x → w.cell? ⟨g, o + j, none⟩ = some (.int .u8 x.toNat)) :
  Calls Tryz.prog 59 #[.pointer (some ⟨b, 0, none⟩)] w fun e w' => e = .returned (.string ⟨l.toArray⟩) ∧ w' = w.drew.freeze ⟨g, o, none⟩ l.length := by
 have hl : l.length ≠ 0 := by simpa using h0
 have c1 : w.drew.cell? ⟨b, 1, none⟩ = some (.slice (some ⟨g, o, none⟩) l.length c) := hc1
 have hSD : (Builtin.unsafeSliceData_ #[109] 152 #[.slice (some ⟨g, o, none⟩) l.length c]).run Tryz.prog w.drew = .ok (.pointer (some ⟨g, o, none⟩)) w.drew :=
  Lib.run_unsafeSliceData_row _ _ _ _ _ _ (by omega)
 have hUS : (Builtin.unsafeString_ #[152, 3] 9 #[.pointer (some ⟨g, o, none⟩), .int .i64 l.length]).run Tryz.prog w.drew = .ok (.string ⟨l.toArray⟩) (w.drew.freeze ⟨g, o, none⟩ l.length) := by
  refine run_text_at w.drew 152 3 9 5 Tryz.underlying152 (by kernel_rfl) g o cells hsh l h0 hfit (by omega) fun j x hx => ?_
  have e : ((⟨g, o, none⟩ : Addr).add j) = ⟨g, o + j, none⟩ := by
   unfold Addr.add
   split <;> simp_all
  rw [e]
  exact hcell j x hx
 go_enter Tryz.func59, Tryz.ntmps59
 go_wp2
 go_region
 all_goals (go_wp2; go_ret; exact ⟨rfl, rfl⟩)
def Tryz.okB (ty : TypeId × Nat) : Bool := ty == (111, 2) || ty == (113, 3)
open Go.Abs in
theorem Tryz.emb : Emb Tryz.prog 111 59 Tryz.okB 5 where
 ecc := ⟨_, _, Tryz.func111, by kernel_rfl, rfl⟩
 est := ⟨_, _, Tryz.func59, by kernel_rfl, rfl⟩
 used := Tryz.cc_used
 fresh := fun b ty w hok h0 hsh hfz => by
  have h : ty = (111, 2) ∨ ty = (113, 3) := by simpa [Tryz.okB] using hok
  rcases h with rfl | rfl
  ·exact Tryz.cc_fresh b 111 2 w (by kernel_rfl) (by decide) h0 hsh hfz
  ·exact Tryz.cc_fresh b 113 3 w (by kernel_rfl) (by decide) h0 hsh hfz
 text := Tryz.text
set_option maxHeartbeats 1000000 in
set_option maxRecDepth 100000 in
theorem Tryz.idx_walk (s : ByteArray) (c : Int) (w : World) :
  Calls Tryz.prog 131 #[.string s, .int .u8 c] w fun e w' => e = .returned (.int .i64 (Lib.indexByte s.data.toList c.toNat.toUInt8)) ∧ w' = w := by
 go_enter Tryz.func131, Tryz.ntmps131
 go_wp2
 rw [run_callFunc_extern Tryz.func141 (by kernel_rfl) (by kernel_rfl) (by kernel_rfl) (e := Extern.BytealgIndexByte.indexByte) (by kernel_rfl), Lib.run_indexByteString]
 simp only [Result.andThen]
 rw [Oper.upon_value]
 go_wp2
 go_ret
 exact ⟨rfl, rfl⟩
open Go.Abs in
theorem Tryz.idxs : Idxs Tryz.prog 131 where
 enters := ⟨_, _, Tryz.func131, by kernel_rfl, rfl⟩
 idx := Tryz.idx_walk
def Tryz.tab (w : World) : Prop := Lib.TabIs Tryz.prog w "internal/strconv.uint64pow10" .u64 Lib.pow10Tab
open Go.Abs in
theorem Tryz.itoas : Itoas Tryz.prog 87 Tryz.tab where
 enters := ⟨_, _, Tryz.func87, by kernel_rfl, rfl⟩
 itoa n w h0 h1 ht := (Tryz.strconv_Itoa n h0 h1 w ht).mono fun e w' ⟨he, k, os, hw⟩ => ⟨he, by
  subst hw
  exact ⟨rfl, rfl, rfl, Lib.size_grow w k os, fun j hj => Lib.heap_grow_old w k os j hj⟩⟩
open Go.Abs in
theorem Tryz.reps : Reps Tryz.prog 117 where
 enters := ⟨_, _, Tryz.func117, by kernel_rfl, rfl⟩
 rep s c w hc hl := Tryz.strings_Repeat s c w hc hl
open Go.Abs in
theorem Tryz.known (B : Low) (hB : B.ok = Tryz.tab) : Sound Tryz.prog B (itoaO 87 (repO 117 (idxO 131 (strO 111 59 Tryz.okB 5 fun _ _ _ => none)))) :=
 itoaO_sound (fun w h => by rw [← hB]; exact h) Tryz.itoas (repO_sound Tryz.reps (idxO_sound Tryz.idxs (strO_sound Tryz.emb fun _ _ _ _ _ h => by simp at h)))
theorem Tryz.tab_keep {W : World} (h0 : Tryz.tab W) (w w' : World) (h : ∀ k, k < W.heap.size → w'.heap[k]? = w.heap[k]?) (ht : Tryz.tab w) : Tryz.tab w' := by
 unfold Tryz.tab Lib.TabIs World.var? at *
 cases hg : Tryz.prog.globalNamed "internal/strconv.uint64pow10" with
 | none => simp [hg] at h0
 | some g =>
  simp only [hg,Option.bind_some] at h0 ht ⊢
  have hlt : g < W.heap.size := by
   rcases Nat.lt_or_ge g W.heap.size with h' | h'
   ·exact h'
   ·rw [Array.getElem?_eq_none h'] at h0; simp at h0
  rw [h g hlt]
  exact ht
end Go.Proofs
end
section
set_option linter.unusedVariables false
set_option linter.unusedSimpArgs false
namespace Go.Abs
theorem B0 : (((((type_of% @dgA_no ∧ (type_of% @List.length_cons.{0} ∧ type_of% @List.length_nil.{0})) ∧ (type_of% @List.cons_append.{0} ∧ (type_of% @List.nil_append.{0} ∧ type_of% @List.append_nil.{0}))) ∧ ((type_of% @List.append_assoc.{0} ∧ (type_of% @gs_same ∧ type_of% @gs_ne)) ∧ ((type_of% @gq_same ∧ type_of% @gq_ne) ∧ (type_of% @List.length_set.{0} ∧ type_of% @List.map_cons.{0, 0})))) ∧ (((type_of% @List.map_nil.{0, 0} ∧ (type_of% @List.all_cons.{0} ∧ type_of% @List.all_nil.{0})) ∧ ((type_of% @Bool.and_true ∧ type_of% @Bool.and_self) ∧ (type_of% @if_true.{1} ∧ type_of% @ite_true.{1}))) ∧ ((type_of% @ite_false.{1} ∧ (type_of% @hget ∧ type_of% @hget0)) ∧ ((type_of% @hset ∧ type_of% @hset0) ∧ (type_of% @List.getElem?_cons_zero.{0} ∧ type_of% @List.getElem?_cons_succ.{0}))))) ∧ ((((type_of% @List.set_cons_zero.{0} ∧ (type_of% @List.set_cons_succ.{0} ∧ type_of% @Nat.add_zero)) ∧ ((type_of% @Nat.zero_add ∧ type_of% @Nat.le_refl) ∧ (type_of% @and_self ∧ type_of% @and_true))) ∧ ((type_of% @true_and ∧ (type_of% @List.drop_zero.{0} ∧ type_of% @List.drop_succ_cons.{0})) ∧ ((type_of% @List.take_succ_cons.{0} ∧ type_of% @List.take_zero.{0}) ∧ (type_of% @List.length_append.{0} ∧ type_of% @Bool.false_eq_true)))) ∧ (((type_of% @if_false.{1} ∧ (type_of% @List.take_nil.{0} ∧ type_of% @Nat.zero_ne_one)) ∧ ((type_of% @Nat.one_ne_zero ∧ type_of% @not_false_eq_true) ∧ (type_of% @ne_eq.{1} ∧ type_of% @Nat.succ_ne_self))) ∧ ((type_of% @decide_true ∧ (type_of% @decide_false ∧ type_of% @beq_self_eq_true.{0})) ∧ ((type_of% @beq_true ∧ type_of% @beq_false) ∧ (type_of% @Bool.not_true ∧ type_of% @Bool.not_false)))))) :=
 ⟨⟨⟨⟨⟨@dgA_no, ⟨@List.length_cons.{0}, @List.length_nil.{0}⟩⟩, ⟨@List.cons_append.{0}, ⟨@List.nil_append.{0}, @List.append_nil.{0}⟩⟩⟩, ⟨⟨@List.append_assoc.{0}, ⟨@gs_same, @gs_ne⟩⟩, ⟨⟨@gq_same, @gq_ne⟩, ⟨@List.length_set.{0}, @List.map_cons.{0, 0}⟩⟩⟩⟩, ⟨⟨⟨@List.map_nil.{0, 0}, ⟨@List.all_cons.{0}, @List.all_nil.{0}⟩⟩, ⟨⟨@Bool.and_true, @Bool.and_self⟩, ⟨@if_true.{1}, @ite_true.{1}⟩⟩⟩, ⟨⟨@ite_false.{1}, ⟨@hget, @hget0⟩⟩, ⟨⟨@hset, @hset0⟩, ⟨@List.getElem?_cons_zero.{0}, @List.getElem?_cons_succ.{0}⟩⟩⟩⟩⟩, ⟨⟨⟨⟨@List.set_cons_zero.{0}, ⟨@List.set_cons_succ.{0}, @Nat.add_zero⟩⟩, ⟨⟨@Nat.zero_add, @Nat.le_refl⟩, ⟨@and_self, @and_true⟩⟩⟩, ⟨⟨@true_and, ⟨@List.drop_zero.{0}, @List.drop_succ_cons.{0}⟩⟩, ⟨⟨@List.take_succ_cons.{0}, @List.take_zero.{0}⟩, ⟨@List.length_append.{0}, @Bool.false_eq_true⟩⟩⟩⟩, ⟨⟨⟨@if_false.{1}, ⟨@List.take_nil.{0}, @Nat.zero_ne_one⟩⟩, ⟨⟨@Nat.one_ne_zero, @not_false_eq_true⟩, ⟨@ne_eq.{1}, @Nat.succ_ne_self⟩⟩⟩, ⟨⟨@decide_true, ⟨@decide_false, @beq_self_eq_true.{0}⟩⟩, ⟨⟨@beq_true, @beq_false⟩, ⟨@Bool.not_true, @Bool.not_false⟩⟩⟩⟩⟩⟩
theorem B1 : ((((((type_of% @x_seq ∧ type_of% @x_block) ∧ (type_of% @x_skip ∧ (type_of% @x_label ∧ type_of% @x_cond))) ∧ ((type_of% @x_exit ∧ type_of% @x_goto) ∧ (type_of% @x_ret ∧ (type_of% @k_normal ∧ type_of% @k_exit)))) ∧ (((type_of% @k_goto ∧ type_of% @k_ret) ∧ (type_of% @b_normal ∧ (type_of% @b_exit ∧ type_of% @b_goto))) ∧ ((type_of% @b_ret ∧ type_of% @b_lss) ∧ (type_of% @b_gtr ∧ (type_of% @b_leq ∧ type_of% @b_geq))))) ∧ ((((type_of% @b_eql ∧ type_of% @b_neq) ∧ (type_of% @b_add ∧ (type_of% @b_sub ∧ type_of% @b_mul))) ∧ ((type_of% @s_eql ∧ type_of% @s_neq) ∧ (type_of% @y_ops ∧ (type_of% @y_nil ∧ type_of% @y_cons)))) ∧ (((type_of% @y_guard ∧ type_of% @y_some) ∧ (type_of% @y_drop ∧ (type_of% @y_do ∧ type_of% @y_not))) ∧ ((type_of% @y_not0 ∧ (type_of% @c_call ∧ type_of% @c_callD)) ∧ (type_of% @c_clo ∧ (type_of% @c_move ∧ type_of% @c_pick)))))) ∧ (((((type_of% @c_alloc ∧ type_of% @c_box) ∧ (type_of% @c_build ∧ (type_of% @c_bslice ∧ type_of% @c_bsliceA))) ∧ ((type_of% @c_load ∧ type_of% @c_store) ∧ (type_of% @c_nilCheck ∧ (type_of% @c_bin ∧ type_of% @c_binB)))) ∧ (((type_of% @c_binN ∧ type_of% @c_un) ∧ (type_of% @c_i2i ∧ (type_of% @c_i2f ∧ type_of% @c_f2i))) ∧ ((type_of% @c_s2b ∧ (type_of% @c_b2s ∧ type_of% @c_strId)) ∧ (type_of% @c_i2s ∧ (type_of% @c_rangeS ∧ type_of% @c_nextS))))) ∧ ((((type_of% @c_mkfunc ∧ type_of% @c_mkslice) ∧ (type_of% @c_slice ∧ (type_of% @c_sliceStr ∧ type_of% @c_fieldAddr))) ∧ ((type_of% @c_field ∧ type_of% @c_indexSl) ∧ (type_of% @c_indexArr ∧ (type_of% @c_elemArr ∧ type_of% @c_indexStr)))) ∧ (((type_of% @c_extract ∧ type_of% @c_lenStr) ∧ (type_of% @c_lenSl ∧ (type_of% @c_append ∧ type_of% @c_appendM))) ∧ ((type_of% @c_real ∧ (type_of% @c_imag ∧ type_of% @c_complex)) ∧ (type_of% @c_min ∧ (type_of% @c_max ∧ type_of% @c_clear))))))) :=
 ⟨⟨⟨⟨⟨⟨@x_seq, @x_block⟩, ⟨@x_skip, ⟨@x_label, @x_cond⟩⟩⟩, ⟨⟨@x_exit, @x_goto⟩, ⟨@x_ret, ⟨@k_normal, @k_exit⟩⟩⟩⟩, ⟨⟨⟨@k_goto, @k_ret⟩, ⟨@b_normal, ⟨@b_exit, @b_goto⟩⟩⟩, ⟨⟨@b_ret, @b_lss⟩, ⟨@b_gtr, ⟨@b_leq, @b_geq⟩⟩⟩⟩⟩, ⟨⟨⟨⟨@b_eql, @b_neq⟩, ⟨@b_add, ⟨@b_sub, @b_mul⟩⟩⟩, ⟨⟨@s_eql, @s_neq⟩, ⟨@y_ops, ⟨@y_nil, @y_cons⟩⟩⟩⟩, ⟨⟨⟨@y_guard, @y_some⟩, ⟨@y_drop, ⟨@y_do, @y_not⟩⟩⟩, ⟨⟨@y_not0, ⟨@c_call, @c_callD⟩⟩, ⟨@c_clo, ⟨@c_move, @c_pick⟩⟩⟩⟩⟩⟩, ⟨⟨⟨⟨⟨@c_alloc, @c_box⟩, ⟨@c_build, ⟨@c_bslice, @c_bsliceA⟩⟩⟩, ⟨⟨@c_load, @c_store⟩, ⟨@c_nilCheck, ⟨@c_bin, @c_binB⟩⟩⟩⟩, ⟨⟨⟨@c_binN, @c_un⟩, ⟨@c_i2i, ⟨@c_i2f, @c_f2i⟩⟩⟩, ⟨⟨@c_s2b, ⟨@c_b2s, @c_strId⟩⟩, ⟨@c_i2s, ⟨@c_rangeS, @c_nextS⟩⟩⟩⟩⟩, ⟨⟨⟨⟨@c_mkfunc, @c_mkslice⟩, ⟨@c_slice, ⟨@c_sliceStr, @c_fieldAddr⟩⟩⟩, ⟨⟨@c_field, @c_indexSl⟩, ⟨@c_indexArr, ⟨@c_elemArr, @c_indexStr⟩⟩⟩⟩, ⟨⟨⟨@c_extract, @c_lenStr⟩, ⟨@c_lenSl, ⟨@c_append, @c_appendM⟩⟩⟩, ⟨⟨@c_real, ⟨@c_imag, @c_complex⟩⟩, ⟨@c_min, ⟨@c_max, @c_clear⟩⟩⟩⟩⟩⟩⟩
theorem B2 : ((((((type_of% @wantedA.eq_1 ∧ type_of% @wantedA.eq_2) ∧ (type_of% @aop.eq_1 ∧ (type_of% @aop.eq_2 ∧ type_of% @aop.eq_3))) ∧ ((type_of% @aop.eq_4 ∧ (type_of% @aop.eq_5 ∧ type_of% @aop.eq_6)) ∧ (type_of% @aop.eq_7 ∧ (type_of% @aop.eq_8 ∧ type_of% @aop.eq_9)))) ∧ (((type_of% @aop.eq_10 ∧ (type_of% @aop.eq_11 ∧ type_of% @aop.eq_12)) ∧ (type_of% @aop.eq_13 ∧ (type_of% @aop.eq_14 ∧ type_of% @aop.eq_15))) ∧ ((type_of% @aop.eq_16 ∧ (type_of% @aop.eq_17 ∧ type_of% @aop.eq_18)) ∧ (type_of% @aop.eq_19 ∧ (type_of% @aop.eq_20 ∧ type_of% @aop.eq_21))))) ∧ ((((type_of% @aop.eq_22 ∧ (type_of% @aop.eq_23 ∧ type_of% @aop.eq_24)) ∧ (type_of% @aop.eq_25 ∧ (type_of% @aop.eq_26 ∧ type_of% @aop.eq_27))) ∧ ((type_of% @aop.eq_28 ∧ (type_of% @aop.eq_29 ∧ type_of% @aop.eq_30)) ∧ (type_of% @aop.eq_31 ∧ (type_of% @aop.eq_32 ∧ type_of% @aop.eq_33)))) ∧ (((type_of% @aop.eq_34 ∧ (type_of% @aop.eq_35 ∧ type_of% @aop.eq_36)) ∧ (type_of% @aop.eq_37 ∧ (type_of% @aop.eq_38 ∧ type_of% @aop.eq_39))) ∧ ((type_of% @aop.eq_40 ∧ (type_of% @aop.eq_41 ∧ type_of% @aop.eq_42)) ∧ (type_of% @aop.eq_43 ∧ (type_of% @aop.eq_44 ∧ type_of% @aop.eq_45)))))) ∧ (((((type_of% @aop.eq_46 ∧ (type_of% @aop.eq_47 ∧ type_of% @ev.eq_1)) ∧ (type_of% @ev.eq_2 ∧ (type_of% @putA.eq_1 ∧ type_of% @putA.eq_2))) ∧ ((type_of% @cellsOf.eq_1 ∧ (type_of% @cellsOf.eq_2 ∧ type_of% @cellsOf.eq_3)) ∧ (type_of% @cellOk.eq_1 ∧ (type_of% @cellOk.eq_2 ∧ type_of% @cellOk.eq_3)))) ∧ (((type_of% @cellOk.eq_4 ∧ (type_of% @cellOk.eq_5 ∧ type_of% @boxTy.eq_1)) ∧ (type_of% @boxTy.eq_2 ∧ (type_of% @loadAt.eq_1 ∧ type_of% @loadAt.eq_2))) ∧ ((type_of% @loadAt.eq_3 ∧ (type_of% @loadAt.eq_4 ∧ type_of% @storeAt.eq_1)) ∧ (type_of% @storeAt.eq_2 ∧ (type_of% @setAt.eq_1 ∧ type_of% @setAt.eq_2))))) ∧ ((((type_of% @mkAgg.eq_1 ∧ (type_of% @toIms.eq_1 ∧ type_of% @toIms.eq_2)) ∧ (type_of% @toIms.eq_3 ∧ (type_of% @binBool.eq_1 ∧ type_of% @binBool.eq_2))) ∧ ((type_of% @binBool.eq_3 ∧ (type_of% @binBool.eq_4 ∧ type_of% @unA.eq_1)) ∧ (type_of% @unA.eq_2 ∧ (type_of% @unA.eq_3 ∧ type_of% @unA.eq_4)))) ∧ (((type_of% @unA.eq_5 ∧ (type_of% @unA.eq_6 ∧ type_of% @unA.eq_7)) ∧ (type_of% @unA.eq_8 ∧ (type_of% @unA.eq_9 ∧ type_of% @unA.eq_10))) ∧ ((type_of% @partA.eq_1 ∧ (type_of% @partA.eq_2 ∧ type_of% @fillA.eq_1)) ∧ (type_of% @fillA.eq_2 ∧ (type_of% @fillE.eq_1 ∧ type_of% @fillE.eq_2))))))) :=
 ⟨⟨⟨⟨⟨⟨@wantedA.eq_1, @wantedA.eq_2⟩, ⟨@aop.eq_1, ⟨@aop.eq_2, @aop.eq_3⟩⟩⟩, ⟨⟨@aop.eq_4, ⟨@aop.eq_5, @aop.eq_6⟩⟩, ⟨@aop.eq_7, ⟨@aop.eq_8, @aop.eq_9⟩⟩⟩⟩, ⟨⟨⟨@aop.eq_10, ⟨@aop.eq_11, @aop.eq_12⟩⟩, ⟨@aop.eq_13, ⟨@aop.eq_14, @aop.eq_15⟩⟩⟩, ⟨⟨@aop.eq_16, ⟨@aop.eq_17, @aop.eq_18⟩⟩, ⟨@aop.eq_19, ⟨@aop.eq_20, @aop.eq_21⟩⟩⟩⟩⟩, ⟨⟨⟨⟨@aop.eq_22, ⟨@aop.eq_23, @aop.eq_24⟩⟩, ⟨@aop.eq_25, ⟨@aop.eq_26, @aop.eq_27⟩⟩⟩, ⟨⟨@aop.eq_28, ⟨@aop.eq_29, @aop.eq_30⟩⟩, ⟨@aop.eq_31, ⟨@aop.eq_32, @aop.eq_33⟩⟩⟩⟩, ⟨⟨⟨@aop.eq_34, ⟨@aop.eq_35, @aop.eq_36⟩⟩, ⟨@aop.eq_37, ⟨@aop.eq_38, @aop.eq_39⟩⟩⟩, ⟨⟨@aop.eq_40, ⟨@aop.eq_41, @aop.eq_42⟩⟩, ⟨@aop.eq_43, ⟨@aop.eq_44, @aop.eq_45⟩⟩⟩⟩⟩⟩, ⟨⟨⟨⟨⟨@aop.eq_46, ⟨@aop.eq_47, @ev.eq_1⟩⟩, ⟨@ev.eq_2, ⟨@putA.eq_1, @putA.eq_2⟩⟩⟩, ⟨⟨@cellsOf.eq_1, ⟨@cellsOf.eq_2, @cellsOf.eq_3⟩⟩, ⟨@cellOk.eq_1, ⟨@cellOk.eq_2, @cellOk.eq_3⟩⟩⟩⟩, ⟨⟨⟨@cellOk.eq_4, ⟨@cellOk.eq_5, @boxTy.eq_1⟩⟩, ⟨@boxTy.eq_2, ⟨@loadAt.eq_1, @loadAt.eq_2⟩⟩⟩, ⟨⟨@loadAt.eq_3, ⟨@loadAt.eq_4, @storeAt.eq_1⟩⟩, ⟨@storeAt.eq_2, ⟨@setAt.eq_1, @setAt.eq_2⟩⟩⟩⟩⟩, ⟨⟨⟨⟨@mkAgg.eq_1, ⟨@toIms.eq_1, @toIms.eq_2⟩⟩, ⟨@toIms.eq_3, ⟨@binBool.eq_1, @binBool.eq_2⟩⟩⟩, ⟨⟨@binBool.eq_3, ⟨@binBool.eq_4, @unA.eq_1⟩⟩, ⟨@unA.eq_2, ⟨@unA.eq_3, @unA.eq_4⟩⟩⟩⟩, ⟨⟨⟨@unA.eq_5, ⟨@unA.eq_6, @unA.eq_7⟩⟩, ⟨@unA.eq_8, ⟨@unA.eq_9, @unA.eq_10⟩⟩⟩, ⟨⟨@partA.eq_1, ⟨@partA.eq_2, @fillA.eq_1⟩⟩, ⟨@fillA.eq_2, ⟨@fillE.eq_1, @fillE.eq_2⟩⟩⟩⟩⟩⟩⟩
theorem B3 : ((type_of% @gs_same ∧ type_of% @gs_ne) ∧ (type_of% @List.length_set.{0} ∧ type_of% @not_false_eq_true)) :=
 ⟨⟨@gs_same, @gs_ne⟩, ⟨@List.length_set.{0}, @not_false_eq_true⟩⟩
theorem B4 : (((type_of% @forall_eq_or_imp.{1} ∧ type_of% @List.reverse_cons.{0}) ∧ (type_of% @List.reverse_nil.{0} ∧ (type_of% @List.mem_cons.{0} ∧ type_of% @List.not_mem_nil.{0}))) ∧ ((type_of% @or_false ∧ type_of% @forall_eq.{1}) ∧ (type_of% @true_or ∧ (type_of% @or_true ∧ type_of% @Bool.true_and)))) :=
 ⟨⟨⟨@forall_eq_or_imp.{1}, @List.reverse_cons.{0}⟩, ⟨@List.reverse_nil.{0}, ⟨@List.mem_cons.{0}, @List.not_mem_nil.{0}⟩⟩⟩, ⟨⟨@or_false, @forall_eq.{1}⟩, ⟨@true_or, ⟨@or_true, @Bool.true_and⟩⟩⟩⟩
theorem B5 : (((type_of% @z_ops ∧ type_of% @z_nil) ∧ (type_of% @z_cons ∧ type_of% @z_guard)) ∧ ((type_of% @z_some ∧ type_of% @z_drop) ∧ (type_of% @z_do ∧ (type_of% @z_not ∧ type_of% @z_not0)))) :=
 ⟨⟨⟨@z_ops, @z_nil⟩, ⟨@z_cons, @z_guard⟩⟩, ⟨⟨@z_some, @z_drop⟩, ⟨@z_do, ⟨@z_not, @z_not0⟩⟩⟩⟩
end Go.Abs
end
section
set_option linter.unusedVariables false
set_option linter.unusedSimpArgs false
namespace Go.Abs.Seat
open Go.Proofs
variable {R : Type} (Φ : Oracle) (Λ' : ACode → List AV → Heap → Option Out) (tm : List AV) (H : Heap) (K : AEx → List AV → Heap → Option R)
abbrev oo (d : Nat) (x : AOp) : AOper := ⟨some d,x,none⟩
abbrev og (d : Nat) (x : AOp) (t : Nat) (b : Bool) : AOper := ⟨some d,x,some (t,b)⟩
abbrev mv (d t : Nat) : AOper := ⟨some d,.move (.t t),none⟩
abbrev sq (l : List AOper) (c : ACode) : ACode := .seq (.ops l []) c
abbrev ci (z : Int) : AOpd := .c (.im (.int .i64 z))
abbrev cb (b : Bool) : AOpd := .c (.im (.bool b))
abbrev cs (l : List UInt8) : AOpd := .c (.im (.str l))
abbrev cl (n : Nat) : AOpd := .c (.clo n [])
abbrev fa (d i t : Nat) : AOper := ⟨some d,.fieldAddr i (.t t),none⟩
abbrev ld (d n t : Nat) : AOper := ⟨some d,.load (some n) (.t t),none⟩
abbrev l0 (d t : Nat) : AOper := ⟨some d,.load none (.t t),none⟩
abbrev nc (d t : Nat) : AOper := ⟨some d,.nilCheck (.t t),none⟩
abbrev ex (d i t : Nat) : AOper := ⟨some d,.extract i (.t t),none⟩
abbrev pa (d a b : Nat) : AOper := ⟨some d,.pick (.t a) (.t b) (.c (.im (.bool false))),none⟩
abbrev po (d a b : Nat) : AOper := ⟨some d,.pick (.t a) (.c (.im (.bool true))) (.t b),none⟩
abbrev st (n a b : Nat) : AOper := ⟨none,.store n (.t a) (.t b),none⟩
abbrev mc (d : Nat) (x : AOpd) : AOper := ⟨some d,.move x,none⟩
abbrev bi (d : Nat) (p : BinOp) (a : Nat) (x : AOpd) : AOper := ⟨some d,.bin p (.t a) x,none⟩
def no : FuncId → Bool := fun k => k == 59 || k == 111 || k == 131 || k == 87 || k == 117
def pol : FuncId → Lit × Bool := fun f => (⟨f == 93 || f == 54, f == 3 || f == 4 || f == 5 || f == 6 || f == 7⟩, f == 93 || f == 150 || f == 12)
noncomputable def F : FuncId → Option AFunc := compF Tryz.prog no pol
abbrev bld : Oracle := itoaO 87 (repO 117 (idxO 131 (strO 111 59 Tryz.okB 5 fun _ _ _ => none)))
noncomputable def L : Oracle := Lim bld F
noncomputable def Λ : ACode → List AV → Heap → Option Out := execL bld F
theorem leq {f : FuncId} {af : AFunc} (hf : F f = some af) (args : List AV) (H : Heap) : L f args H = exec0 L Λ af.code (enterA af args) H (endK af H) := lim_eq hf args H
def f3 : AFunc := ⟨109,[(6,none)],.seq (.ops [oo 3 (.box none (.t 0)),oo 4 (.box none (.t 1)),oo 5 (.box none (.t 2)),mc 6 (cb false)] []) (.seq (sq [ld 18 6 3,ld 19 3 5,oo 20 (.call true (cl 8) [.t 18,.t 19]),oo 21 (.un .not (.t 20)),mv 22 21,og 23 (.load (some 6) (.t 4)) 22 false,og 24 (.load (some 3) (.t 5)) 22 false,og 25 (.call true (cl 8) [.t 23,.t 24]) 22 false,og 26 (.un .not (.t 25)) 22 false,po 27 22 26,mv 28 27,og 29 (.fieldAddr 2 (.t 5)) 28 false,og 30 (.load none (.t 29)) 28 false,og 31 (.lenSl (.t 30)) 28 false,og 32 (.bin .gtr (.t 31) (ci 8)) 28 false,po 33 28 32] (.cond (.t 33) (sq [oo 34 (.call true (cl 9) []),mv 6 34] .ret) .skip)) (.seq (.ops [ld 36 6 3,oo 37 (.call true (cl 11) [.t 36]),ld 38 3 5,oo 39 (.call true (cl 12) [.t 38]),oo 40 (.call true (cl 10) [.t 37,.t 39]),mv 35 40,ex 41 0 35,ex 42 1 35,ex 43 2 35,oo 7 (.alloc none [.im (.int .i64 0),.nils]),st 2 7 41,mv 8 42,mv 9 43] [(0,9),(2,1),(2,9)]) (.seq (sq [mv 44 9,bi 45 .neq 44 (ci 0)] (.cond (.t 45) (sq [oo 46 (.call true (cl 9) []),mv 6 46] .ret) .skip)) (.seq (.ops [oo 47 (.build [.im (.str []),.im (.int .i64 0),.im (.str []),.im (.int .i64 0),.nils,.nils] [(0,(1,cs [110,97,109,101])),(2,(1,cs [119]))]),ld 48 6 3,oo 49 (.call true (cl 11) [.t 48]),ld 50 6 4,ld 51 3 5,oo 52 (.call true (cl 13) [.t 50,.t 51]),oo 53 (.call true (cl 11) [.t 52]),oo 54 (.bslice false 6 3 [.im (.str []),.im (.int .i64 0),.im (.str []),.im (.int .i64 0),.nils,.nils] [(0,.t 47),(1,.t 49),(2,.t 53)]),oo 55 (.build [.im (.str []),.im (.int .i64 0),.im (.str []),.im (.int .i64 0),.nils,.nils] [(0,(1,cs [108,101,116])),(5,(1,.t 54))]),oo 10 (.alloc none [.im (.str []),.im (.int .i64 0),.im (.str []),.im (.int .i64 0),.nils,.nils]),st 6 10 55] [(1,9),(3,2),(3,9),(4,2),(4,9)]) (sq [ld 56 3 5,oo 57 (.call true (cl 12) [.t 56]),oo 11 (.alloc none [.im (.int .i64 0),.nils,.nils]),st 3 11 57] (.seq (.ops [fa 58 2 11,l0 59 58,ld 60 2 7,oo 61 (.bslice false 2 1 [.im (.int .i64 0),.nils] [(0,.t 60)]),oo 62 (.append 34 32 2 (.t 59) (.t 61)),fa 63 2 11,st 1 63 62] []) (.seq (.ops [ld 65 6 10,ld 66 3 5,oo 67 (.call true (cl 12) [.t 66]),oo 68 (.call true (cl 10) [.t 65,.t 67]),mv 64 68,ex 69 0 64,ex 70 1 64,ex 71 2 64,oo 12 (.alloc none [.im (.int .i64 0),.nils]),st 2 12 69,mv 13 70,mv 14 71] [(0,2),(0,8),(1,8)]) (.seq (.ops [ld 73 6 4,oo 74 (.call true (cl 11) [.t 73]),ld 75 3 11,oo 76 (.call true (cl 10) [.t 74,.t 75]),mv 72 76,ex 77 0 72,ex 78 1 72,ex 79 2 72,oo 15 (.alloc none [.im (.int .i64 0),.nils]),st 2 15 77,mv 16 78,mv 17 79] [(0,8),(2,1),(2,8)]) (.seq (sq [ld 80 6 10,oo 81 (.call true (cl 14) [.t 80]),bi 82 .neq 81 (ci 0),mv 83 82,og 84 (.load (some 6) (.t 4)) 83 false,og 85 (.call true (cl 11) [.t 84]) 83 false,og 86 (.call true (cl 14) [.t 85]) 83 false,og 87 (.bin .neq (.t 86) (ci 0)) 83 false,po 88 83 87,mv 89 88,og 90 (.load (some 6) (.t 4)) 89 false,og 91 (.call true (cl 15) [.t 90]) 89 false,po 92 89 91] (.cond (.t 92) (sq [oo 93 (.call true (cl 9) []),mv 6 93] .ret) .skip)) (sq [mv 94 14,mv 95 17,bi 96 .eql 94 (.t 95),mv 97 96,og 98 (.move (.t 14)) 97 true,og 99 (.bin .neq (.t 98) (ci 0)) 97 true,og 100 (.move (.t 99)) 97 true,og 101 (.load (some 2) (.t 12)) 100 false,og 102 (.load (some 2) (.t 15)) 100 false,og 103 (.call true (cl 16) [.t 101,.t 102]) 100 false,og 104 (.pick (.t 100) (cb true) (.t 103)) 97 true,pa 105 97 104,mv 106 105,og 107 (.call true (cl 9) []) 106 true,pa 108 106 107,mv 6 108] .ret)))))))))),false⟩
theorem F3 : F 3 = some f3 := by kernel_rfl
def b8_0 : ACode := sq [bi 21 .lss 20 (.t 19)] (.seq (.cond (.t 21) .skip (.exit 0)) (.seq (.block 1 (sq [oo 22 (.indexSl 2 (.t 18) (.t 20)),ld 23 2 22,oo 7 (.alloc none [.im (.int .i64 0),.nils]),st 2 7 23] (.seq (.ops [ld 24 2 7,oo 25 (.call false (cl 26) [.t 24,.t 5,ci 30]),oo 26 (.un .not (.t 25))] []) (.cond (.t 26) (sq [mc 4 (cb false)] .ret) .skip)))) (.ops [bi 27 .add 20 (ci 1),mv 20 27] [])))
def c8_0 : ACode := .loop b8_0
theorem e8_0 : exec0 Φ Λ' c8_0 tm H K = thenL (Λ' c8_0 tm H) K := rfl
theorem l8_0 : Λ c8_0 tm H = exec0 L Λ b8_0 tm H fun e tm H => match e with
  | .normal => Λ c8_0 tm H
  | .exit i => some (.exit i, tm, H)
  | .goto l => some (.goto l, tm, H)
  | .ret => some (.ret, tm, H) := loop_eq
def f8 : AFunc := ⟨28,[(4,none)],.seq (.ops [oo 2 (.box none (.t 0)),oo 3 (.box none (.t 1)),mc 4 (cb false)] []) (sq [oo 5 (.alloc none [.im (.int .i64 0)]),⟨none,.store 1 (.t 5) (ci 5000),none⟩] (.seq (sq [ld 8 6 2,oo 9 (.call false (cl 25) [.t 8,.t 5,ci 60]),oo 10 (.un .not (.t 9)),mv 11 10,og 12 (.fieldAddr 0 (.t 3)) 11 false,og 13 (.load (some 2) (.t 12)) 11 false,og 14 (.call false (cl 26) [.t 13,.t 5,ci 30]) 11 false,og 15 (.un .not (.t 14)) 11 false,po 16 11 15] (.cond (.t 16) (sq [mc 4 (cb false)] .ret) .skip)) (.seq (sq [fa 17 2 3,l0 18 17,oo 19 (.lenSl (.t 18)),mc 20 (ci 0)] (.block 0 c8_0)) (sq [mc 4 (cb true)] .ret)))),false⟩
theorem F8 : F 8 = some f8 := by kernel_rfl
def f9 : AFunc := ⟨43,[(0,none)],.seq (.ops [mc 0 (cb false)] []) (sq [oo 8 (.call false (cl 27) [cs [108,105,115,116,40,49,44,97,100,100,40,120,44,50,41,41]]),mv 7 8,ex 9 0 7,ex 10 1 7,ex 11 2 7,oo 1 (.alloc none [.im (.str []),.im (.int .i64 0),.im (.str []),.im (.int .i64 0),.nils,.nils]),st 6 1 9,mv 2 10,mv 3 11] (.seq (.ops [ld 13 6 1,oo 14 (.build [.im (.int .i64 0),.nils] [(0,(1,ci 2))]),oo 15 (.build [.im (.int .i64 0),.nils,.nils] [(0,(2,.t 14))]),oo 16 (.call false (cl 10) [.t 13,.t 15]),mv 12 16,ex 17 0 12,ex 18 1 12,ex 19 2 12,oo 4 (.alloc none [.im (.int .i64 0),.nils]),st 2 4 17,mv 5 18,mv 6 19] []) (sq [mv 20 3,bi 21 .eql 20 (ci 0),mv 22 21,og 23 (.move (.t 6)) 22 true,og 24 (.bin .eql (.t 23) (ci 51)) 22 true,pa 25 22 24,mv 26 25,og 27 (.move (.t 5)) 26 true,og 28 (.lenSl (.t 27)) 26 true,og 29 (.bin .eql (.t 28) (ci 2)) 26 true,pa 30 26 29,mv 31 30,og 32 (.move (.t 5)) 31 true,og 33 (.indexSl 1 (.t 32) (ci 0)) 31 true,og 34 (.load none (.t 33)) 31 true,og 35 (.bin .eql (.t 34) (ci 1)) 31 true,pa 36 31 35,mv 37 36,og 38 (.move (.t 5)) 37 true,og 39 (.indexSl 1 (.t 38) (ci 1)) 37 true,og 40 (.load none (.t 39)) 37 true,og 41 (.bin .eql (.t 40) (ci 0)) 37 true,pa 42 37 41,mv 0 42] .ret))),false⟩
theorem F9 : F 9 = some f9 := by kernel_rfl
def f10 : AFunc := ⟨48,[(4,some (some 2)),(5,none),(6,none)],.seq (.ops [oo 2 (.box none (.t 0)),oo 3 (.box none (.t 1)),oo 4 (.alloc none [.im (.int .i64 0),.nils]),oo 5 (.move (.c .nils)),mc 6 (ci 0)] []) (.seq (.block 0 (sq [ld 9 6 2,oo 10 (.call false (cl 14) [.t 9]),bi 11 .neq 10 (ci 0),mv 8 11] (.cond (.t 8) (sq [oo 12 (.build [.im (.int .i64 0),.nils] []),st 2 4 12,oo 5 (.move (.c .nils)),mc 6 (ci 110)] .ret) (sq [ld 14 3 3,oo 15 (.call false (cl 28) [.t 14]),oo 16 (.un .not (.t 15)),mv 13 16] (.cond (.t 13) (sq [oo 17 (.build [.im (.int .i64 0),.nils] []),st 2 4 17,oo 5 (.move (.c .nils)),mc 6 (ci 20)] .ret) .skip))))) (sq [ld 18 3 3,oo 19 (.build [.im (.int .i64 0),.nils,.nils,.nils,.nils,.nils,.im (.int .i64 0)] [(0,(3,.t 18))]),oo 20 (.box none (.t 19)),mv 7 20] (.seq (.ops [mv 21 7,ld 22 6 2,oo 23 (.call false (cl 29) [.t 21,.t 22]),st 2 4 23] []) (.seq (sq [mv 24 7,nc 25 24,fa 26 6 25,l0 27 26,bi 28 .neq 27 (ci 0)] (.cond (.t 28) (.seq (.ops [oo 29 (.build [.im (.int .i64 0),.nils] []),mv 30 7,nc 31 30,fa 32 5 31,l0 33 32,mv 34 7,nc 35 34,fa 36 6 35,l0 37 36,st 2 4 29,mv 5 33,mv 6 37] [(4,9),(8,9)]) .ret) .skip)) (sq [fa 39 0 4,l0 40 39,fa 41 1 4,l0 42 41,oo 43 (.call false (cl 30) [.t 40,.t 42]),mv 38 43,ex 44 0 38,ex 45 1 38,st 2 4 44,mv 6 45] (.seq (.ops [ld 46 2 4,mv 47 6,st 2 4 46,oo 5 (.move (.c .nils)),mv 6 47] []) .ret)))))),false⟩
theorem F10 : F 10 = some f10 := by kernel_rfl
def b11_0 : ACode := sq [bi 10 .lss 9 (.t 8)] (.seq (.cond (.t 10) .skip (.exit 0)) (.seq (.block 1 (sq [oo 11 (.indexSl 6 (.t 7) (.t 9)),ld 12 6 11,oo 5 (.alloc none [.im (.str []),.im (.int .i64 0),.im (.str []),.im (.int .i64 0),.nils,.nils]),st 6 5 12] (.ops [mv 13 3,ld 14 6 5,oo 15 (.call false (cl 11) [.t 14]),oo 16 (.bslice false 6 1 [.im (.str []),.im (.int .i64 0),.im (.str []),.im (.int .i64 0),.nils,.nils] [(0,.t 15)]),oo 17 (.append 41 96 6 (.t 13) (.t 16)),mv 3 17] []))) (.ops [bi 18 .add 9 (ci 1),mv 9 18] [])))
def c11_0 : ACode := .loop b11_0
theorem e11_0 : exec0 Φ Λ' c11_0 tm H K = thenL (Λ' c11_0 tm H) K := rfl
theorem l11_0 : Λ c11_0 tm H = exec0 L Λ b11_0 tm H fun e tm H => match e with
  | .normal => Λ c11_0 tm H
  | .exit i => some (.exit i, tm, H)
  | .goto l => some (.goto l, tm, H)
  | .ret => some (.ret, tm, H) := loop_eq
def f11 : AFunc := ⟨30,[(2,some (some 6))],.seq (.ops [oo 1 (.box none (.t 0)),oo 2 (.alloc none [.im (.str []),.im (.int .i64 0),.im (.str []),.im (.int .i64 0),.nils,.nils])] []) (sq [oo 3 (.move (.c .nils))] (.seq (sq [fa 6 5 1,l0 7 6,oo 8 (.lenSl (.t 7)),mc 9 (ci 0)] (.block 0 c11_0)) (.seq (.ops [fa 19 0 1,l0 20 19,fa 21 1 1,l0 22 21,fa 23 2 1,l0 24 23,fa 25 3 1,ld 26 2 25,oo 27 (.call false (cl 31) [.t 26]),mv 28 3,oo 29 (.build [.im (.str []),.im (.int .i64 0),.im (.str []),.im (.int .i64 0),.nils,.nils] [(0,(1,.t 20)),(1,(1,.t 22)),(2,(1,.t 24)),(3,(2,.t 27)),(5,(1,.t 28))]),st 6 2 29] [(1,8),(3,8),(5,8)]) .ret))),false⟩
theorem F11 : F 11 = some f11 := by kernel_rfl
def b12_0 : ACode := sq [bi 14 .lss 13 (.t 12)] (.seq (.cond (.t 14) .skip (.exit 0)) (.seq (.block 1 (sq [oo 15 (.indexSl 2 (.t 11) (.t 13)),ld 16 2 15,oo 5 (.alloc none [.im (.int .i64 0),.nils]),st 2 5 16] (.ops [fa 17 2 3,l0 18 17,ld 19 2 5,oo 20 (.call false (cl 31) [.t 19]),oo 21 (.bslice false 2 1 [.im (.int .i64 0),.nils] [(0,.t 20)]),oo 22 (.append 34 32 2 (.t 18) (.t 21)),fa 23 2 3,st 1 23 22] [(1,3)]))) (.ops [bi 24 .add 13 (ci 1),mv 13 24] [])))
def c12_0 : ACode := .loop b12_0
theorem e12_0 : exec0 Φ Λ' c12_0 tm H K = thenL (Λ' c12_0 tm H) K := rfl
theorem l12_0 : Λ c12_0 tm H = exec0 L Λ b12_0 tm H fun e tm H => match e with
  | .normal => Λ c12_0 tm H
  | .exit i => some (.exit i, tm, H)
  | .goto l => some (.goto l, tm, H)
  | .ret => some (.ret, tm, H) := loop_eq
def f12 : AFunc := ⟨26,[(2,some (some 3))],.seq (.ops [oo 1 (.box none (.t 0)),oo 2 (.alloc none [.im (.int .i64 0),.nils,.nils])] []) (sq [fa 6 0 1,ld 7 2 6,oo 8 (.call false (cl 31) [.t 7]),oo 9 (.build [.im (.int .i64 0),.nils,.nils] [(0,(2,.t 8))]),oo 3 (.alloc none [.im (.int .i64 0),.nils,.nils]),st 3 3 9] (.seq (sq [fa 10 2 1,l0 11 10,oo 12 (.lenSl (.t 11)),mc 13 (ci 0)] (.block 0 c12_0)) (sq [ld 25 3 3,st 3 2 25] .ret))),true⟩
theorem F12 : F 12 = some f12 := by kernel_rfl
def b13_0 : ACode := sq [bi 26 .lss 25 (.t 24)] (.seq (.cond (.t 26) .skip (.exit 0)) (.seq (.block 1 (sq [oo 27 (.indexSl 6 (.t 23) (.t 25)),ld 28 6 27,oo 7 (.alloc none [.im (.str []),.im (.int .i64 0),.im (.str []),.im (.int .i64 0),.nils,.nils]),st 6 7 28] (.ops [fa 29 5 5,l0 30 29,ld 31 6 7,ld 32 3 3,oo 33 (.call false (cl 13) [.t 31,.t 32]),oo 34 (.bslice false 6 1 [.im (.str []),.im (.int .i64 0),.im (.str []),.im (.int .i64 0),.nils,.nils] [(0,.t 33)]),oo 35 (.append 27 96 6 (.t 30) (.t 34)),fa 36 5 5,st 1 36 35] [(1,4)]))) (.ops [bi 37 .add 25 (ci 1),mv 25 37] [])))
def c13_0 : ACode := .loop b13_0
theorem e13_0 : exec0 Φ Λ' c13_0 tm H K = thenL (Λ' c13_0 tm H) K := rfl
theorem l13_0 : Λ c13_0 tm H = exec0 L Λ b13_0 tm H fun e tm H => match e with
  | .normal => Λ c13_0 tm H
  | .exit i => some (.exit i, tm, H)
  | .goto l => some (.goto l, tm, H)
  | .ret => some (.ret, tm, H) := loop_eq
def f13 : AFunc := ⟨39,[(4,some (some 6))],.seq (.ops [oo 2 (.box none (.t 0)),oo 3 (.box none (.t 1)),oo 4 (.alloc none [.im (.str []),.im (.int .i64 0),.im (.str []),.im (.int .i64 0),.nils,.nils])] []) (.seq (sq [fa 8 0 2,l0 9 8,bi 10 .eql 9 (cs [115,105,100,101]),mv 11 10,og 12 (.fieldAddr 1 (.t 2)) 11 true,og 13 (.load none (.t 12)) 11 true,og 14 (.fieldAddr 2 (.t 3)) 11 true,og 15 (.load none (.t 14)) 11 true,og 16 (.lenSl (.t 15)) 11 true,og 17 (.bin .eql (.t 13) (.t 16)) 11 true,pa 18 11 17] (.cond (.t 18) (sq [oo 19 (.build [.im (.str []),.im (.int .i64 0),.im (.str []),.im (.int .i64 0),.nils,.nils] [(0,(1,cs [110,97,109,101])),(2,(1,cs [119]))]),st 6 4 19] .ret) .skip)) (sq [ld 20 6 2,oo 5 (.alloc none [.im (.str []),.im (.int .i64 0),.im (.str []),.im (.int .i64 0),.nils,.nils]),st 6 5 20] (.seq (.ops [fa 21 5 5,⟨none,.store 1 (.t 21) (.c .nils),none⟩] []) (.seq (sq [fa 22 5 2,l0 23 22,oo 24 (.lenSl (.t 23)),mc 25 (ci 0)] (.block 0 c13_0)) (sq [ld 38 6 5,st 6 4 38] .ret))))),false⟩
theorem F13 : F 13 = some f13 := by kernel_rfl
def f14 : AFunc := ⟨11,[(2,none)],.seq (.ops [oo 1 (.box none (.t 0)),mc 2 (ci 0)] []) (sq [ld 6 6 1,oo 7 (.call false (cl 32) [.t 6]),mv 5 7,ex 8 0 5,ex 9 1 5,mv 3 8,mv 4 9] (.seq (.ops [mv 10 4,mv 2 10] []) .ret)),false⟩
theorem F14 : F 14 = some f14 := by kernel_rfl
def b15_0 : ACode := sq [bi 9 .lss 8 (.t 7)] (.seq (.cond (.t 9) .skip (.exit 0)) (.seq (.block 1 (sq [oo 10 (.indexSl 6 (.t 6) (.t 8)),ld 11 6 10,oo 4 (.alloc none [.im (.str []),.im (.int .i64 0),.im (.str []),.im (.int .i64 0),.nils,.nils]),st 6 4 11] (.seq (.ops [ld 12 6 4,oo 13 (.call false (cl 15) [.t 12])] []) (.cond (.t 13) (sq [mc 2 (cb true)] .ret) .skip)))) (.ops [bi 14 .add 8 (ci 1),mv 8 14] [])))
def c15_0 : ACode := .loop b15_0
theorem e15_0 : exec0 Φ Λ' c15_0 tm H K = thenL (Λ' c15_0 tm H) K := rfl
theorem l15_0 : Λ c15_0 tm H = exec0 L Λ b15_0 tm H fun e tm H => match e with
  | .normal => Λ c15_0 tm H
  | .exit i => some (.exit i, tm, H)
  | .goto l => some (.goto l, tm, H)
  | .ret => some (.ret, tm, H) := loop_eq
def f15 : AFunc := ⟨23,[(2,none)],.seq (.ops [oo 1 (.box none (.t 0)),mc 2 (cb false)] []) (.seq (sq [fa 5 5 1,l0 6 5,oo 7 (.lenSl (.t 6)),mc 8 (ci 0)] (.block 0 c15_0)) (sq [fa 15 0 1,l0 16 15,bi 17 .eql 16 (cs [110,97,109,101]),mv 18 17,og 19 (.fieldAddr 2 (.t 1)) 18 true,og 20 (.load none (.t 19)) 18 true,og 21 (.bin .eql (.t 20) (cs [119])) 18 true,pa 22 18 21,mv 2 22] .ret)),false⟩
theorem F15 : F 15 = some f15 := by kernel_rfl
def f16 : AFunc := ⟨18,[(4,none)],.seq (.ops [oo 2 (.box none (.t 0)),oo 3 (.box none (.t 1)),mc 4 (cb false)] []) (sq [ld 5 2 2,oo 6 (.call false (cl 33) [.t 5]),bi 7 .eql 6 (ci 0),mv 8 7,og 9 (.load (some 2) (.t 3)) 8 true,og 10 (.call false (cl 33) [.t 9]) 8 true,og 11 (.bin .eql (.t 10) (ci 0)) 8 true,pa 12 8 11,mv 13 12,og 14 (.load (some 2) (.t 2)) 13 true,og 15 (.load (some 2) (.t 3)) 13 true,og 16 (.call false (cl 34) [.t 14,.t 15]) 13 true,pa 17 13 16,mv 4 17] .ret),false⟩
theorem F16 : F 16 = some f16 := by kernel_rfl
def b25_0 : ACode := sq [bi 45 .lss 44 (.t 43)] (.seq (.cond (.t 45) .skip (.exit 0)) (.seq (.block 1 (sq [oo 46 (.indexSl 6 (.t 42) (.t 44)),ld 47 6 46,oo 8 (.alloc none [.im (.str []),.im (.int .i64 0),.im (.str []),.im (.int .i64 0),.nils,.nils]),st 6 8 47] (.seq (.ops [ld 48 6 8,mv 49 1,mv 50 2,bi 51 .sub 50 (ci 1),oo 52 (.call false (cl 25) [.t 48,.t 49,.t 51]),oo 53 (.un .not (.t 52))] []) (.cond (.t 53) (sq [mc 6 (cb false)] .ret) .skip)))) (.ops [bi 54 .add 44 (ci 1),mv 44 54] [])))
def c25_0 : ACode := .loop b25_0
theorem e25_0 : exec0 Φ Λ' c25_0 tm H K = thenL (Λ' c25_0 tm H) K := rfl
theorem l25_0 : Λ c25_0 tm H = exec0 L Λ b25_0 tm H fun e tm H => match e with
  | .normal => Λ c25_0 tm H
  | .exit i => some (.exit i, tm, H)
  | .goto l => some (.goto l, tm, H)
  | .ret => some (.ret, tm, H) := loop_eq
def f25 : AFunc := ⟨55,[(6,none)],.seq (.ops [oo 3 (.box none (.t 0)),mc 6 (cb false)] []) (sq [mv 9 1,nc 10 9,l0 11 10,bi 12 .sub 11 (ci 1),nc 13 9,st 1 13 12] (.seq (sq [mv 14 1,nc 15 14,l0 16 15,bi 17 .lss 16 (ci 0),mv 18 17,og 19 (.move (.t 2)) 18 false,og 20 (.bin .eql (.t 19) (ci 0)) 18 false,po 21 18 20,mv 22 21,og 23 (.fieldAddr 2 (.t 3)) 22 false,og 24 (.load none (.t 23)) 22 false,og 25 (.lenStr (.t 24)) 22 false,og 26 (.bin .gtr (.t 25) (ci 10000)) 22 false,po 27 22 26,mv 28 27,og 29 (.fieldAddr 0 (.t 3)) 28 false,og 30 (.load none (.t 29)) 28 false,og 31 (.lenStr (.t 30)) 28 false,og 32 (.bin .gtr (.t 31) (ci 100)) 28 false,po 33 28 32,mv 34 33,og 35 (.fieldAddr 3 (.t 3)) 34 false,og 36 (.load (some 2) (.t 35)) 34 false,og 37 (.move (.t 1)) 34 false,og 38 (.call false (cl 26) [.t 36,.t 37,ci 30]) 34 false,og 39 (.un .not (.t 38)) 34 false,po 40 34 39] (.cond (.t 40) (sq [mc 6 (cb false)] .ret) .skip)) (.seq (sq [fa 41 5 3,l0 42 41,oo 43 (.lenSl (.t 42)),mc 44 (ci 0)] (.block 0 c25_0)) (sq [mc 6 (cb true)] .ret)))),false⟩
theorem F25 : F 25 = some f25 := by kernel_rfl
def b26_0 : ACode := sq [bi 26 .lss 25 (.t 24)] (.seq (.cond (.t 26) .skip (.exit 0)) (.seq (.block 1 (sq [oo 27 (.indexSl 2 (.t 23) (.t 25)),ld 28 2 27,oo 8 (.alloc none [.im (.int .i64 0),.nils]),st 2 8 28] (.seq (.ops [ld 29 2 8,mv 30 1,mv 31 2,bi 32 .sub 31 (ci 1),oo 33 (.call false (cl 26) [.t 29,.t 30,.t 32]),oo 34 (.un .not (.t 33))] []) (.cond (.t 34) (sq [mc 6 (cb false)] .ret) .skip)))) (.ops [bi 35 .add 25 (ci 1),mv 25 35] [])))
def c26_0 : ACode := .loop b26_0
theorem e26_0 : exec0 Φ Λ' c26_0 tm H K = thenL (Λ' c26_0 tm H) K := rfl
theorem l26_0 : Λ c26_0 tm H = exec0 L Λ b26_0 tm H fun e tm H => match e with
  | .normal => Λ c26_0 tm H
  | .exit i => some (.exit i, tm, H)
  | .goto l => some (.goto l, tm, H)
  | .ret => some (.ret, tm, H) := loop_eq
def f26 : AFunc := ⟨36,[(6,none)],.seq (.ops [oo 3 (.box none (.t 0)),mc 6 (cb false)] []) (sq [mv 9 1,nc 10 9,l0 11 10,bi 12 .sub 11 (ci 1),nc 13 9,st 1 13 12] (.seq (sq [mv 14 1,nc 15 14,l0 16 15,bi 17 .lss 16 (ci 0),mv 18 17,og 19 (.move (.t 2)) 18 false,og 20 (.bin .eql (.t 19) (ci 0)) 18 false,po 21 18 20] (.cond (.t 21) (sq [mc 6 (cb false)] .ret) .skip)) (.seq (sq [fa 22 1 3,l0 23 22,oo 24 (.lenSl (.t 23)),mc 25 (ci 0)] (.block 0 c26_0)) (sq [mc 6 (cb true)] .ret)))),false⟩
theorem F26 : F 26 = some f26 := by kernel_rfl
def f27 : AFunc := ⟨41,[(2,some (some 6)),(3,none),(4,none)],.seq (.ops [oo 2 (.alloc none [.im (.str []),.im (.int .i64 0),.im (.str []),.im (.int .i64 0),.nils,.nils]),mc 3 (ci 0),mc 4 (ci 0)] []) (.seq (sq [mv 6 0,oo 7 (.lenStr (.t 6)),bi 8 .gtr 7 (ci 4096)] (.cond (.t 8) (sq [oo 9 (.build [.im (.str []),.im (.int .i64 0),.im (.str []),.im (.int .i64 0),.nils,.nils] []),st 6 2 9,mc 3 (ci 0),mc 4 (ci 42)] .ret) .skip)) (sq [mv 10 0,oo 11 (.build [.im (.str []),.im (.int .i64 0),.im (.bool false)] [(0,(1,.t 10))]),oo 12 (.box none (.t 11)),mv 5 12] (.seq (.ops [mv 13 5,oo 14 (.call false (cl 45) [.t 13,ci 24]),st 6 2 14] []) (.seq (sq [mv 15 5,nc 16 15,fa 17 2 16,l0 18 17,oo 19 (.un .not (.t 18))] (.cond (.t 19) (.ops [mv 20 5,oo 21 (.call false (cl 46) [.t 20])] []) .skip)) (.seq (sq [mv 22 5,nc 23 22,fa 24 2 23,l0 25 24,mv 26 25,og 27 (.move (.t 5)) 26 false,og 28 (.nilCheck (.t 27)) 26 false,og 29 (.fieldAddr 1 (.t 28)) 26 false,og 30 (.load none (.t 29)) 26 false,og 31 (.move (.t 0)) 26 false,og 32 (.lenStr (.t 31)) 26 false,og 33 (.bin .lss (.t 30) (.t 32)) 26 false,po 34 26 33] (.cond (.t 34) (.seq (.ops [oo 35 (.build [.im (.str []),.im (.int .i64 0),.im (.str []),.im (.int .i64 0),.nils,.nils] []),mv 36 5,nc 37 36,fa 38 1 37,l0 39 38,st 6 2 35,mv 3 39,mc 4 (ci 40)] [(4,5)]) .ret) .skip)) (sq [ld 40 6 2,st 6 2 40,mc 3 (ci 0),mc 4 (ci 0)] .ret)))))),false⟩
theorem F27 : F 27 = some f27 := by kernel_rfl
def f28 : AFunc := ⟨22,[(2,none)],.seq (.ops [oo 1 (.box none (.t 0)),mc 2 (cb false)] []) (sq [mc 3 (cl 47)] (.seq (.ops [mv 4 3,fa 5 0 1,ld 6 2 5,oo 7 (.call false (.t 4) [.t 6]),oo 8 (.un .not (.t 7)),mv 9 8,og 10 (.fieldAddr 2 (.t 1)) 9 true,og 11 (.load none (.t 10)) 9 true,og 12 (.lenSl (.t 11)) 9 true,og 13 (.bin .leq (.t 12) (ci 10)) 9 true,pa 14 9 13,mv 15 14,og 16 (.fieldAddr 2 (.t 1)) 15 true,og 17 (.load none (.t 16)) 15 true,og 18 (.move (.t 3)) 15 true,og 19 (.call false (cl 48) [.t 17,.t 18]) 15 true,og 20 (.un .not (.t 19)) 15 true,pa 21 15 20,mv 2 21] []) .ret)),false⟩
theorem F28 : F 28 = some f28 := by kernel_rfl
def b29_0 : ACode := sq [bi 81 .lss 80 (.t 79)] (.seq (.cond (.t 81) .skip (.exit 1)) (.seq (.block 2 (sq [mv 82 80,mv 6 82] (.seq (.ops [mv 83 5,mv 84 0,ld 85 6 3,mv 86 6,oo 87 (.call false (cl 54) [.t 84,.t 85,.t 86,.c .nils]),oo 88 (.bslice false 2 1 [.im (.int .i64 0),.nils] [(0,.t 87)]),oo 89 (.append 34 32 2 (.t 83) (.t 88)),mv 5 89] []) (sq [mv 90 0,nc 91 90,fa 92 6 91,l0 93 92,bi 94 .neq 93 (ci 0)] (.cond (.t 94) (sq [oo 95 (.build [.im (.int .i64 0),.nils] []),st 2 4 95] .ret) .skip))))) (.ops [bi 96 .add 80 (ci 1),mv 80 96] [])))
def c29_0 : ACode := .loop b29_0
theorem e29_0 : exec0 Φ Λ' c29_0 tm H K = thenL (Λ' c29_0 tm H) K := rfl
theorem l29_0 : Λ c29_0 tm H = exec0 L Λ b29_0 tm H fun e tm H => match e with
  | .normal => Λ c29_0 tm H
  | .exit i => some (.exit i, tm, H)
  | .goto l => some (.goto l, tm, H)
  | .ret => some (.ret, tm, H) := loop_eq
def f29 : AFunc := ⟨114,[(4,some (some 2))],.seq (.ops [oo 3 (.box none (.t 1)),oo 4 (.alloc none [.im (.int .i64 0),.nils])] []) (.seq (sq [fa 9 0 3,l0 10 9] (.block 0 (sq [bi 12 .eql 10 (cs [105,110,116]),mv 11 12] (.cond (.t 11) (sq [oo 13 (.call false (cl 49) [ci 2]),st 2 4 13] .ret) (sq [bi 15 .eql 10 (cs [116,101,120,116,95,111,102]),mv 14 15] (.cond (.t 14) (sq [oo 16 (.call false (cl 49) [ci 3]),st 2 4 16] .ret) (.seq (sq [bi 18 .eql 10 (cs [116,114,117,101]),mv 17 18] (.cond (.t 17) .skip (.ops [bi 19 .eql 10 (cs [102,97,108,115,101]),mv 17 19] []))) (.cond (.t 17) (sq [oo 20 (.call false (cl 49) [ci 1]),st 2 4 20] .ret) (sq [bi 22 .eql 10 (cs [105,116]),mv 21 22] (.cond (.t 21) (sq [mv 23 0,nc 24 23,fa 25 0 24,fa 26 0 25,ld 27 2 26,st 2 4 27] .ret) (sq [bi 29 .eql 10 (cs [110,97,109,101]),mv 28 29] (.cond (.t 28) (sq [mv 30 0,ld 31 6 3,oo 32 (.call false (cl 50) [.t 30,.t 31]),st 2 4 32] .ret) (sq [bi 34 .eql 10 (cs [110,105,108]),mv 33 34] (.cond (.t 33) (sq [mv 35 0,fa 36 3 3,ld 37 2 36,oo 38 (.bslice false 2 1 [.im (.int .i64 0),.nils] [(0,.t 37)]),oo 39 (.call false (cl 51) [.t 35,ci 7,.t 38]),st 2 4 39] .ret) (sq [bi 41 .eql 10 (cs [110,111,110,101]),mv 40 41] (.cond (.t 40) (sq [mv 42 0,fa 43 3 3,ld 44 2 43,oo 45 (.bslice false 2 1 [.im (.int .i64 0),.nils] [(0,.t 44)]),oo 46 (.call false (cl 51) [.t 42,ci 9,.t 45]),st 2 4 46] .ret) (sq [bi 48 .eql 10 (cs [115,105,100,101]),mv 47 48] (.cond (.t 47) (.seq (sq [fa 49 1 3,l0 50 49,mv 51 0,nc 52 51,fa 53 0 52,fa 54 2 53,l0 55 54,oo 56 (.lenSl (.t 55)),bi 57 .geq 50 (.t 56)] (.cond (.t 57) (sq [mv 58 0,oo 59 (.call false (cl 52) [.t 58,ci 53]),st 2 4 59] .ret) .skip)) (sq [mv 60 0,nc 61 60,fa 62 0 61,fa 63 2 62,l0 64 63,fa 65 1 3,l0 66 65,oo 67 (.indexSl 2 (.t 64) (.t 66)),ld 68 2 67,st 2 4 68] .ret)) (.seq (sq [bi 70 .eql 10 (cs [108,101,116]),mv 69 70] (.cond (.t 69) .skip (sq [bi 71 .eql 10 (cs [109,97,112]),mv 69 71] (.cond (.t 69) .skip (sq [bi 72 .eql 10 (cs [102,105,108,116,101,114]),mv 69 72] (.cond (.t 69) .skip (.ops [bi 73 .eql 10 (cs [102,111,108,100]),mv 69 73] []))))))) (.cond (.t 69) (sq [mv 74 0,ld 75 6 3,oo 76 (.call false (cl 53) [.t 74,.t 75]),st 2 4 76] .ret) .skip)))))))))))))))))))) (sq [oo 5 (.move (.c .nils))] (.seq (sq [fa 77 5 3,l0 78 77,oo 79 (.lenSl (.t 78)),mc 80 (ci 0)] (.block 1 c29_0)) (sq [fa 98 0 3,l0 99 98,mv 100 5,oo 101 (.call false (cl 55) [.t 99,.t 100]),mv 97 101,ex 102 0 97,ex 103 1 97,oo 7 (.alloc none [.im (.int .i64 0),.nils]),st 2 7 102,mv 8 103] (.seq (sq [mv 104 8,oo 105 (.un .not (.t 104)),mv 106 105,og 107 (.load (some 2) (.t 7)) 106 false,og 108 (.call false (cl 33) [.t 107]) 106 false,og 109 (.bin .neq (.t 108) (ci 0)) 106 false,po 110 106 109] (.cond (.t 110) (sq [mv 111 0,oo 112 (.call false (cl 52) [.t 111,ci 50]),st 2 4 112] .ret) .skip)) (sq [ld 113 2 7,st 2 4 113] .ret)))))),false⟩
theorem F29 : F 29 = some f29 := by kernel_rfl
def f30 : AFunc := ⟨19,[(4,some (some 2)),(5,none)],.seq (.ops [oo 4 (.alloc none [.im (.int .i64 0),.nils]),mc 5 (ci 0)] []) (sq [mv 8 0,mv 9 1,oo 10 (.build [.im (.int .i64 0),.nils] [(0,(1,.t 8)),(1,(1,.t 9))]),oo 6 (.alloc none [.im (.int .i64 0),.nils]),st 2 6 10] (.seq (sq [ld 11 2 6,oo 12 (.call false (cl 33) [.t 11]),mv 7 12] (.seq (.ops [mv 13 7,bi 14 .neq 13 (ci 0)] []) (.cond (.t 14) (sq [oo 15 (.build [.im (.int .i64 0),.nils] []),mv 16 7,st 2 4 15,mv 5 16] .ret) .skip))) (sq [ld 17 2 6,oo 18 (.call false (cl 56) [.t 17]),st 2 4 18,mc 5 (ci 0)] .ret))),false⟩
theorem F30 : F 30 = some f30 := by kernel_rfl
def b31_0 : ACode := sq [bi 10 .lss 9 (.t 8)] (.seq (.cond (.t 10) .skip (.exit 0)) (.seq (.block 1 (sq [oo 11 (.indexSl 2 (.t 7) (.t 9)),ld 12 2 11,oo 5 (.alloc none [.im (.int .i64 0),.nils]),st 2 5 12] (.ops [mv 13 3,ld 14 2 5,oo 15 (.call false (cl 31) [.t 14]),oo 16 (.bslice false 2 1 [.im (.int .i64 0),.nils] [(0,.t 15)]),oo 17 (.append 34 32 2 (.t 13) (.t 16)),mv 3 17] []))) (.ops [bi 18 .add 9 (ci 1),mv 9 18] [])))
def c31_0 : ACode := .loop b31_0
theorem e31_0 : exec0 Φ Λ' c31_0 tm H K = thenL (Λ' c31_0 tm H) K := rfl
theorem l31_0 : Λ c31_0 tm H = exec0 L Λ b31_0 tm H fun e tm H => match e with
  | .normal => Λ c31_0 tm H
  | .exit i => some (.exit i, tm, H)
  | .goto l => some (.goto l, tm, H)
  | .ret => some (.ret, tm, H) := loop_eq
def f31 : AFunc := ⟨23,[(2,some (some 2))],.seq (.ops [oo 1 (.box none (.t 0)),oo 2 (.alloc none [.im (.int .i64 0),.nils])] []) (sq [oo 3 (.move (.c .nils))] (.seq (sq [fa 6 1 1,l0 7 6,oo 8 (.lenSl (.t 7)),mc 9 (ci 0)] (.block 0 c31_0)) (sq [fa 19 0 1,l0 20 19,mv 21 3,oo 22 (.build [.im (.int .i64 0),.nils] [(0,(1,.t 20)),(1,(1,.t 21))]),st 2 2 22] .ret))),false⟩
theorem F31 : F 31 = some f31 := by kernel_rfl
def f32 : AFunc := ⟨25,[(2,none),(3,none)],.seq (.ops [oo 1 (.box none (.t 0)),mc 2 (cs []),mc 3 (ci 0)] []) (sq [oo 5 (.build [.im .nilp,.nils,.im (.bool false)] []),oo 6 (.box (some 113) (.t 5)),mv 4 6] (.seq (.ops [mv 7 4,ld 8 6 1,oo 9 (.call false (cl 57) [.t 7,.t 8,ci 24])] []) (.seq (sq [mv 10 4,nc 11 10,fa 12 2 11,l0 13 12,mv 14 13,og 15 (.move (.t 4)) 14 false,og 16 (.nilCheck (.t 15)) 14 false,og 17 (.fieldAddr 0 (.t 16)) 14 false,og 18 (.call false (cl 58) [.t 17]) 14 false,og 19 (.bin .gtr (.t 18) (ci 4096)) 14 false,po 20 14 19] (.cond (.t 20) (sq [mc 2 (cs []),mc 3 (ci 110)] .ret) .skip)) (sq [mv 21 4,nc 22 21,fa 23 0 22,oo 24 (.call false (cl 59) [.t 23]),mv 2 24,mc 3 (ci 0)] .ret)))),false⟩
theorem F32 : F 32 = some f32 := by kernel_rfl
def f33 : AFunc := ⟨6,[(2,none)],.seq (.ops [oo 1 (.box none (.t 0)),mc 2 (ci 0)] []) (.seq (sq [ld 3 2 1,oo 4 (.call false (cl 60) [.t 3,ci 6]),oo 5 (.un .not (.t 4))] (.cond (.t 5) (sq [mc 2 (ci 20)] .ret) .skip)) (sq [mc 2 (ci 0)] .ret)),false⟩
theorem F33 : F 33 = some f33 := by kernel_rfl
def f34 : AFunc := ⟨17,[(4,none)],.seq (.ops [oo 2 (.box none (.t 0)),oo 3 (.box none (.t 1)),mc 4 (cb false)] []) (sq [fa 5 0 2,l0 6 5,fa 7 0 3,l0 8 7,bi 9 .eql 6 (.t 8),mv 10 9,og 11 (.fieldAddr 1 (.t 2)) 10 true,og 12 (.load none (.t 11)) 10 true,og 13 (.fieldAddr 1 (.t 3)) 10 true,og 14 (.load none (.t 13)) 10 true,og 15 (.call false (cl 61) [.t 12,.t 14,cl 34]) 10 true,pa 16 10 15,mv 4 16] .ret),false⟩
theorem F34 : F 34 = some f34 := by kernel_rfl
def f36 : AFunc := ⟨18,[(6,some (some 2)),(7,none)],.seq (.ops [oo 3 (.box none (.t 0)),oo 6 (.alloc none [.im (.int .i64 0),.nils]),mc 7 (cb false)] []) (.seq (sq [fa 8 0 3,l0 9 8,mv 10 1,bi 11 .neq 9 (.t 10)] (.cond (.t 11) (sq [oo 12 (.build [.im (.int .i64 0),.nils] []),st 2 6 12,mc 7 (cb false)] .ret) .skip)) (sq [fa 13 1 3,l0 14 13,mv 15 2,oo 16 (.indexSl 2 (.t 14) (.t 15)),ld 17 2 16,st 2 6 17,mc 7 (cb true)] .ret)),false⟩
theorem F36 : F 36 = some f36 := by kernel_rfl
def f45 : AFunc := ⟨104,[(4,some (some 6))],.seq (.ops [oo 4 (.alloc none [.im (.str []),.im (.int .i64 0),.im (.str []),.im (.int .i64 0),.nils,.nils])] []) (sq [mv 9 0,oo 10 (.call false (cl 46) [.t 9])] (.seq (sq [mv 11 0,oo 12 (.call false (cl 73) [.t 11]),mv 5 12] (.block 0 (sq [mv 14 0,nc 15 14,fa 16 2 15,l0 17 16,mv 13 17] (.cond (.t 13) (sq [oo 18 (.build [.im (.str []),.im (.int .i64 0),.im (.str []),.im (.int .i64 0),.nils,.nils] []),st 6 4 18] .ret) (sq [mv 20 5,oo 21 (.bin .eql (.t 20) (.c (.im (.int .u8 34)))),mv 19 21] (.cond (.t 19) (sq [mv 22 0,nc 23 22,fa 24 1 23,l0 25 24,bi 26 .add 25 (ci 1),nc 27 22,fa 28 1 27,st 1 28 26] (.seq (.ops [mv 29 0,oo 30 (.call false (cl 74) [.t 29]),st 6 4 30] []) .ret)) (sq [mv 32 5,oo 33 (.bin .eql (.t 32) (.c (.im (.int .u8 45)))),mv 34 33,og 35 (.move (.t 5)) 34 false,og 36 (.bin .geq (.t 35) (.c (.im (.int .u8 48)))) 34 false,og 37 (.move (.t 36)) 34 false,og 38 (.move (.t 5)) 37 true,og 39 (.bin .leq (.t 38) (.c (.im (.int .u8 57)))) 37 true,og 40 (.pick (.t 37) (.t 39) (cb false)) 34 false,po 41 34 40,mv 31 41] (.cond (.t 31) (sq [mv 42 0,oo 43 (.call false (cl 75) [.t 42]),st 6 4 43] .ret) (sq [mv 45 5,oo 46 (.bin .lss (.t 45) (.c (.im (.int .u8 97)))),mv 47 46,og 48 (.move (.t 5)) 47 false,og 49 (.bin .gtr (.t 48) (.c (.im (.int .u8 122)))) 47 false,po 50 47 49,mv 44 50] (.cond (.t 44) (sq [mv 51 0,nc 52 51,fa 53 2 52,⟨none,.store 1 (.t 53) (cb true),none⟩] (.seq (.ops [oo 54 (.build [.im (.str []),.im (.int .i64 0),.im (.str []),.im (.int .i64 0),.nils,.nils] []),st 6 4 54] []) .ret)) .skip)))))))))) (sq [mv 55 0,oo 56 (.call false (cl 76) [.t 55]),mv 6 56] (.seq (.ops [mv 58 6,oo 59 (.call false (cl 77) [.t 58]),mv 57 59,ex 60 0 57,ex 61 1 57,mv 7 60,mv 8 61] []) (.seq (sq [mv 62 6,oo 63 (.lenStr (.t 62)),bi 64 .eql 63 (ci 16),mv 65 64,og 66 (.move (.t 0)) 65 true,og 67 (.call false (cl 73) [.t 66]) 65 true,og 68 (.call false (cl 78) [.t 67]) 65 true,pa 69 65 68] (.cond (.t 69) (sq [mv 70 0,nc 71 70,fa 72 2 71,⟨none,.store 1 (.t 72) (cb true),none⟩] (.seq (.ops [oo 73 (.build [.im (.str []),.im (.int .i64 0),.im (.str []),.im (.int .i64 0),.nils,.nils] []),st 6 4 73] []) .ret)) .skip)) (.seq (.block 1 (sq [mv 75 8,oo 76 (.un .not (.t 75)),mv 74 76] (.cond (.t 74) (sq [mv 77 6,oo 78 (.build [.im (.str []),.im (.int .i64 0),.im (.str []),.im (.int .i64 0),.nils,.nils] [(0,(1,cs [110,97,109,101])),(2,(1,.t 77))]),st 6 4 78] .ret) (sq [mv 80 7,bi 81 .eql 80 (cs []),mv 79 81] (.cond (.t 79) (sq [mv 82 6,oo 83 (.build [.im (.str []),.im (.int .i64 0),.im (.str []),.im (.int .i64 0),.nils,.nils] [(0,(1,.t 82))]),st 6 4 83] .ret) (sq [mv 85 1,bi 86 .eql 85 (ci 1),mv 87 86,og 88 (.move (.t 7)) 87 true,og 89 (.bin .neq (.t 88) (cs [100])) 87 true,pa 90 87 89,mv 91 90,og 92 (.move (.t 7)) 91 true,og 93 (.bin .neq (.t 92) (cs [116])) 91 true,pa 94 91 93,mv 84 94] (.cond (.t 84) (sq [mv 95 0,nc 96 95,fa 97 2 96,⟨none,.store 1 (.t 97) (cb true),none⟩] (.seq (.ops [oo 98 (.build [.im (.str []),.im (.int .i64 0),.im (.str []),.im (.int .i64 0),.nils,.nils] []),st 6 4 98] []) .ret)) .skip))))))) (sq [mv 99 0,mv 100 6,mv 101 7,mv 102 1,oo 103 (.call false (cl 79) [.t 99,.t 100,.t 101,.t 102]),st 6 4 103] .ret))))))),false⟩
theorem F45 : F 45 = some f45 := by kernel_rfl
def b46_0 : ACode := .seq (sq [mv 2 0,nc 3 2,fa 4 1 3,l0 5 4,mv 6 0,nc 7 6,fa 8 0 7,l0 9 8,oo 10 (.lenStr (.t 9)),bi 11 .lss 5 (.t 10),mv 12 11,og 13 (.move (.t 0)) 12 true,og 14 (.nilCheck (.t 13)) 12 true,og 15 (.fieldAddr 0 (.t 14)) 12 true,og 16 (.load none (.t 15)) 12 true,og 17 (.move (.t 0)) 12 true,og 18 (.nilCheck (.t 17)) 12 true,og 19 (.fieldAddr 1 (.t 18)) 12 true,og 20 (.load none (.t 19)) 12 true,og 21 (.indexStr (.t 16) (.t 20)) 12 true,og 22 (.bin .eql (.t 21) (.c (.im (.int .u8 32)))) 12 true,pa 23 12 22] (.cond (.t 23) .skip (.exit 0))) (.block 1 (.ops [mv 24 0,nc 25 24,fa 26 1 25,l0 27 26,bi 28 .add 27 (ci 1),nc 29 24,fa 30 1 29,st 1 30 28] []))
def c46_0 : ACode := .loop b46_0
def f46 : AFunc := ⟨31,[],.block 0 c46_0,false⟩
theorem F46 : F 46 = some f46 := by kernel_rfl
def f47 : AFunc := ⟨6,[(2,none)],.seq (.ops [oo 1 (.box none (.t 0)),mc 2 (cb false)] []) (sq [ld 3 2 1,oo 4 (.call false (cl 33) [.t 3]),bi 5 .neq 4 (ci 0),mv 2 5] .ret),false⟩
theorem F47 : F 47 = some f47 := by kernel_rfl
def f48 : AFunc := ⟨9,[(4,none)],.seq (.ops [mc 4 (cb false)] []) (sq [mv 5 0,mv 6 1,oo 7 (.call false (cl 80) [.t 5,.t 6]),bi 8 .geq 7 (ci 0),mv 4 8] .ret),false⟩
theorem F48 : F 48 = some f48 := by kernel_rfl
def f49 : AFunc := ⟨5,[(2,some (some 2))],.seq (.ops [oo 2 (.alloc none [.im (.int .i64 0),.nils])] []) (sq [mv 3 0,oo 4 (.build [.im (.int .i64 0),.nils] [(0,(1,.t 3))]),st 2 2 4] .ret),false⟩
theorem F49 : F 49 = some f49 := by kernel_rfl
def b50_0 : ACode := .seq (sq [mv 12 5,bi 13 .geq 12 (ci 0)] (.cond (.t 13) .skip (.exit 0))) (.seq (.block 1 (sq [mv 16 0,nc 17 16,fa 18 3 17,l0 19 18,mv 20 5,oo 21 (.indexSl 3 (.t 19) (.t 20)),fa 22 0 21,l0 23 22,fa 24 2 3,l0 25 24,bi 26 .eql 23 (.t 25)] (.cond (.t 26) (sq [mv 27 0,nc 28 27,fa 29 3 28,l0 30 29,mv 31 5,oo 32 (.indexSl 3 (.t 30) (.t 31)),fa 33 1 32,ld 34 2 33,st 2 4 34] .ret) .skip))) (.ops [mv 14 5,bi 15 .sub 14 (ci 1),mv 5 15] []))
def c50_0 : ACode := .loop b50_0
theorem e50_0 : exec0 Φ Λ' c50_0 tm H K = thenL (Λ' c50_0 tm H) K := rfl
theorem l50_0 : Λ c50_0 tm H = exec0 L Λ b50_0 tm H fun e tm H => match e with
  | .normal => Λ c50_0 tm H
  | .exit i => some (.exit i, tm, H)
  | .goto l => some (.goto l, tm, H)
  | .ret => some (.ret, tm, H) := loop_eq
def f50 : AFunc := ⟨37,[(4,some (some 2))],.seq (.ops [oo 3 (.box none (.t 1)),oo 4 (.alloc none [.im (.int .i64 0),.nils])] []) (.seq (sq [mv 6 0,nc 7 6,fa 8 3 7,l0 9 8,oo 10 (.lenSl (.t 9)),bi 11 .sub 10 (ci 1),mv 5 11] (.block 0 c50_0)) (sq [mv 35 0,oo 36 (.call false (cl 52) [.t 35,ci 51]),st 2 4 36] .ret)),false⟩
theorem F50 : F 50 = some f50 := by kernel_rfl
def f51 : AFunc := ⟨26,[(6,some (some 2))],.seq (.ops [oo 6 (.alloc none [.im (.int .i64 0),.nils])] []) (.seq (sq [mv 9 0,nc 10 9,fa 11 6 10,l0 12 11,bi 13 .neq 12 (ci 0)] (.cond (.t 13) (sq [oo 14 (.build [.im (.int .i64 0),.nils] []),st 2 6 14] .ret) .skip)) (sq [mv 16 1,mv 17 2,oo 18 (.call false (cl 30) [.t 16,.t 17]),mv 15 18,ex 19 0 15,ex 20 1 15,oo 7 (.alloc none [.im (.int .i64 0),.nils]),st 2 7 19,mv 8 20] (.seq (sq [mv 21 8,bi 22 .neq 21 (ci 0)] (.cond (.t 22) (sq [mv 23 0,oo 24 (.call false (cl 52) [.t 23,ci 50]),st 2 6 24] .ret) .skip)) (sq [ld 25 2 7,st 2 6 25] .ret)))),false⟩
theorem F51 : F 51 = some f51 := by kernel_rfl
def f52 : AFunc := ⟨23,[(4,some (some 2))],.seq (.ops [oo 4 (.alloc none [.im (.int .i64 0),.nils])] []) (.seq (sq [mv 5 0,nc 6 5,fa 7 6 6,l0 8 7,bi 9 .eql 8 (ci 0)] (.cond (.t 9) (.ops [mv 10 0,mv 11 0,mv 12 1,mv 13 0,nc 14 13,fa 15 4 14,l0 16 15,oo 17 (.call false (cl 81) [.t 16]),nc 18 10,fa 19 6 18,st 1 19 12,nc 20 11,fa 21 5 20,st 1 21 17] []) .skip)) (sq [oo 22 (.build [.im (.int .i64 0),.nils] []),st 2 4 22] .ret)),false⟩
theorem F52 : F 52 = some f52 := by kernel_rfl
def f53 : AFunc := ⟨137,[(4,some (some 2))],.seq (.ops [oo 3 (.box none (.t 1)),oo 4 (.alloc none [.im (.int .i64 0),.nils])] []) (.seq (sq [fa 12 0 3,l0 13 12,bi 14 .eql 13 (cs [108,101,116])] (.cond (.t 14) (sq [mv 15 0,ld 16 6 3,oo 17 (.call false (cl 54) [.t 15,.t 16,ci 1,.c .nils]),oo 5 (.alloc none [.im (.int .i64 0),.nils]),st 2 5 17] (.seq (sq [mv 18 0,nc 19 18,fa 20 6 19,l0 21 20,bi 22 .neq 21 (ci 0)] (.cond (.t 22) (sq [ld 23 2 5,st 2 4 23] .ret) .skip)) (sq [mv 24 0,ld 25 6 3,fa 26 5 3,l0 27 26,oo 28 (.indexSl 6 (.t 27) (ci 0)),fa 29 2 28,l0 30 29,ld 31 2 5,oo 32 (.build [.im (.str []),.im (.int .i64 0),.nils] [(0,(1,.t 30)),(1,(2,.t 31))]),oo 33 (.bslice false 3 1 [.im (.str []),.im (.int .i64 0),.nils] [(0,.t 32)]),oo 34 (.call false (cl 54) [.t 24,.t 25,ci 2,.t 33]),st 2 4 34] .ret))) .skip)) (sq [mv 35 0,ld 36 6 3,oo 37 (.call false (cl 54) [.t 35,.t 36,ci 0,.c .nils]),oo 6 (.alloc none [.im (.int .i64 0),.nils]),st 2 6 37] (.seq (.ops [oo 7 (.alloc none [.im (.int .i64 0),.nils])] []) (.seq (sq [fa 38 0 3,l0 39 38,bi 40 .eql 39 (cs [102,111,108,100]),mv 41 40,og 42 (.move (.t 0)) 41 true,og 43 (.nilCheck (.t 42)) 41 true,og 44 (.fieldAddr 6 (.t 43)) 41 true,og 45 (.load none (.t 44)) 41 true,og 46 (.bin .eql (.t 45) (ci 0)) 41 true,pa 47 41 46] (.cond (.t 47) (.ops [mv 48 0,ld 49 6 3,oo 50 (.call false (cl 54) [.t 48,.t 49,ci 1,.c .nils]),st 2 7 50] []) .skip)) (sq [ld 52 2 6,oo 53 (.call false (cl 36) [.t 52,ci 7,ci 0]),mv 51 53,ex 54 0 51,ex 55 1 51,oo 8 (.alloc none [.im (.int .i64 0),.nils]),st 2 8 54,mv 9 55] (.seq (.block 0 (sq [mv 57 0,nc 58 57,fa 59 6 58,l0 60 59,bi 61 .neq 60 (ci 0),mv 56 61] (.cond (.t 56) (sq [oo 62 (.build [.im (.int .i64 0),.nils] []),st 2 4 62] .ret) (sq [mv 64 9,oo 65 (.un .not (.t 64)),mv 63 65] (.cond (.t 63) (sq [mv 66 0,oo 67 (.call false (cl 52) [.t 66,ci 50]),st 2 4 67] .ret) (sq [fa 69 0 3,l0 70 69,bi 71 .eql 70 (cs [102,111,108,100]),mv 68 71] (.cond (.t 68) (.seq (.seq (.ops [mv 72 0,ld 73 6 3,fa 74 5 3,l0 75 74,oo 76 (.indexSl 6 (.t 75) (ci 2)),fa 77 2 76,l0 78 77,ld 79 2 7,oo 80 (.build [.im (.str []),.im (.int .i64 0),.nils] [(0,(1,.t 78)),(1,(2,.t 79))]),fa 81 5 3,l0 82 81,oo 83 (.indexSl 6 (.t 82) (ci 3)),fa 84 2 83,l0 85 84,ld 86 2 8,oo 87 (.build [.im (.str []),.im (.int .i64 0),.nils] [(0,(1,.t 85)),(1,(2,.t 86))]),oo 88 (.bslice false 3 2 [.im (.str []),.im (.int .i64 0),.nils] [(0,.t 80),(1,.t 87)]),oo 89 (.call false (cl 54) [.t 72,.t 73,ci 4,.t 88]),oo 10 (.alloc none [.im (.int .i64 0),.nils]),st 2 10 89] [(1,18),(3,18),(6,18),(7,18),(10,18),(13,18),(14,18)]) (sq [mv 90 0,nc 91 90,fa 92 6 91,l0 93 92,bi 94 .eql 93 (ci 0),mv 95 94,og 96 (.load (some 2) (.t 10)) 95 true,og 97 (.load (some 2) (.t 7)) 95 true,og 98 (.call false (cl 16) [.t 96,.t 97]) 95 true,og 99 (.un .not (.t 98)) 95 true,pa 100 95 99] (.cond (.t 100) (sq [mv 101 0,oo 102 (.call false (cl 52) [.t 101,ci 50]),st 2 4 102] .ret) .skip))) (sq [ld 103 2 7,st 2 4 103] .ret)) .skip))))))) (.seq (.ops [mv 104 0,ld 105 6 3,fa 106 5 3,l0 107 106,oo 108 (.indexSl 6 (.t 107) (ci 1)),fa 109 2 108,l0 110 109,ld 111 2 8,oo 112 (.build [.im (.str []),.im (.int .i64 0),.nils] [(0,(1,.t 110)),(1,(2,.t 111))]),oo 113 (.bslice false 3 1 [.im (.str []),.im (.int .i64 0),.nils] [(0,.t 112)]),oo 114 (.call false (cl 54) [.t 104,.t 105,ci 2,.t 113]),oo 11 (.alloc none [.im (.int .i64 0),.nils]),st 2 11 114] [(1,11),(3,11),(6,11),(7,11)]) (.seq (.block 1 (sq [fa 116 0 3,l0 117 116,bi 118 .eql 117 (cs [109,97,112]),mv 115 118] (.cond (.t 115) (sq [mv 119 0,ld 120 2 11,oo 121 (.bslice false 2 1 [.im (.int .i64 0),.nils] [(0,.t 120)]),oo 122 (.call false (cl 51) [.t 119,ci 7,.t 121]),st 2 4 122] .ret) (sq [mv 124 0,nc 125 124,fa 126 6 125,l0 127 126,bi 128 .eql 127 (ci 0),mv 129 128,og 130 (.fieldAddr 0 (.t 11)) 129 true,og 131 (.load none (.t 130)) 129 true,og 132 (.bin .neq (.t 131) (ci 1)) 129 true,pa 133 129 132,mv 123 133] (.cond (.t 123) (sq [mv 134 0,oo 135 (.call false (cl 52) [.t 134,ci 50]),st 2 4 135] .ret) .skip))))) (sq [ld 136 2 6,st 2 4 136] .ret))))))))),false⟩
theorem F53 : F 53 = some f53 := by kernel_rfl
def f54 : AFunc := ⟨67,[(8,some (some 2))],.seq (.ops [oo 5 (.box none (.t 1)),oo 8 (.alloc none [.im (.int .i64 0),.nils])] []) (sq [mv 10 0,mv 11 0,nc 12 11,fa 13 4 12,l0 14 13,mv 15 2,oo 16 (.bslice true 1 1 [.im (.int .i64 0)] [(0,.t 15)]),oo 17 (.appendM 8 1 (.t 14) (.t 16)),nc 18 10,fa 19 4 18,st 1 19 17] (.seq (.ops [mv 20 0,mv 21 0,nc 22 21,fa 23 3 22,l0 24 23,mv 25 3,oo 26 (.appendM 48 3 (.t 24) (.t 25)),nc 27 20,fa 28 3 27,st 1 28 26] []) (sq [mv 29 0,fa 30 5 5,l0 31 30,mv 32 2,oo 33 (.indexSl 6 (.t 31) (.t 32)),ld 34 6 33,oo 35 (.call false (cl 29) [.t 29,.t 34]),oo 9 (.alloc none [.im (.int .i64 0),.nils]),st 2 9 35] (.seq (.ops [mv 36 0,mv 37 0,nc 38 37,fa 39 3 38,l0 40 39,mv 41 0,nc 42 41,fa 43 3 42,l0 44 43,oo 45 (.lenSl (.t 44)),mv 46 3,oo 47 (.lenSl (.t 46)),bi 48 .sub 45 (.t 47),oo 49 (.slice 3 (.t 40) none (some (.t 48)) none),nc 50 36,fa 51 3 50,st 1 51 49] []) (sq [mv 52 0,mv 53 0,nc 54 53,fa 55 4 54,l0 56 55,mv 57 0,nc 58 57,fa 59 4 58,l0 60 59,oo 61 (.lenSl (.t 60)),bi 62 .sub 61 (ci 1),oo 63 (.slice 1 (.t 56) none (some (.t 62)) none),nc 64 52,fa 65 4 64,st 1 65 63] (.seq (.ops [ld 66 2 9,st 2 8 66] []) .ret)))))),false⟩
theorem F54 : F 54 = some f54 := by kernel_rfl
def f55 : AFunc := ⟨165,[(4,some (some 2)),(5,none)],.seq (.ops [oo 4 (.alloc none [.im (.int .i64 0),.nils]),mc 5 (cb false)] []) (sq [mv 13 1,oo 14 (.indexSl 2 (.t 13) (ci 0)),ld 15 2 14,oo 6 (.alloc none [.im (.int .i64 0),.nils]),st 2 6 15] (.seq (.ops [mv 16 1,mv 17 1,oo 18 (.lenSl (.t 17)),bi 19 .sub 18 (ci 1),oo 20 (.indexSl 2 (.t 16) (.t 19)),ld 21 2 20,oo 7 (.alloc none [.im (.int .i64 0),.nils]),st 2 7 21] []) (sq [ld 22 2 6,ld 23 2 7,oo 24 (.call false (cl 16) [.t 22,.t 23]),mv 8 24] (.seq (.ops [ld 26 2 6,oo 27 (.call false (cl 36) [.t 26,ci 7,ci 0]),mv 25 27,ex 28 0 25,ex 29 1 25,oo 9 (.alloc none [.im (.int .i64 0),.nils]),st 2 9 28,mv 10 29] []) (.seq (sq [mv 30 0] (.block 0 (.seq (sq [bi 32 .eql 30 (cs [97,100,100]),mv 31 32] (.cond (.t 31) .skip (sq [bi 33 .eql 30 (cs [115,117,98]),mv 31 33] (.cond (.t 31) .skip (.ops [bi 34 .eql 30 (cs [109,117,108]),mv 31 34] []))))) (.cond (.t 31) (.seq (.ops [ld 35 2 6,mv 36 8,mv 37 36,og 38 (.fieldAddr 0 (.t 6)) 37 true,og 39 (.load none (.t 38)) 37 true,og 40 (.bin .eql (.t 39) (ci 2)) 37 true,og 41 (.move (.t 40)) 37 true,og 42 (.fieldAddr 0 (.t 6)) 41 false,og 43 (.load none (.t 42)) 41 false,og 44 (.bin .eql (.t 43) (ci 5)) 41 false,og 45 (.pick (.t 41) (cb true) (.t 44)) 37 true,pa 46 37 45,st 2 4 35,mv 5 46] [(8,12)]) .ret) (sq [bi 48 .eql 30 (cs [110,101,103]),mv 47 48] (.cond (.t 47) (.seq (.ops [ld 49 2 6,fa 50 0 6,l0 51 50,bi 52 .eql 51 (ci 2),mv 53 52,og 54 (.fieldAddr 0 (.t 6)) 53 false,og 55 (.load none (.t 54)) 53 false,og 56 (.bin .eql (.t 55) (ci 5)) 53 false,po 57 53 56,st 2 4 49,mv 5 57] [(6,9)]) .ret) (.seq (sq [bi 59 .eql 30 (cs [100,105,118]),mv 58 59] (.cond (.t 58) .skip (.ops [bi 60 .eql 30 (cs [109,111,100]),mv 58 60] []))) (.cond (.t 58) (.seq (.ops [ld 61 2 6,mv 62 1,oo 63 (.bslice false 1 2 [.im (.int .i64 0)] [(0,ci 2),(1,ci 2)]),oo 64 (.call false (cl 82) [.t 62,.t 63]),st 2 4 61,mv 5 64] [(0,3)]) .ret) (.seq (sq [bi 66 .eql 30 (cs [101,113]),mv 65 66] (.cond (.t 65) .skip (.ops [bi 67 .eql 30 (cs [108,116]),mv 65 67] []))) (.cond (.t 65) (sq [oo 68 (.call false (cl 49) [ci 1]),mv 69 8,st 2 4 68,mv 5 69] .ret) (.seq (sq [bi 71 .eql 30 (cs [97,110,100]),mv 70 71] (.cond (.t 70) .skip (.ops [bi 72 .eql 30 (cs [111,114]),mv 70 72] []))) (.cond (.t 70) (.seq (.ops [ld 73 2 6,mv 74 1,oo 75 (.bslice false 1 2 [.im (.int .i64 0)] [(0,ci 1),(1,ci 1)]),oo 76 (.call false (cl 82) [.t 74,.t 75]),st 2 4 73,mv 5 76] [(0,3)]) .ret) (sq [bi 78 .eql 30 (cs [110,111,116]),mv 77 78] (.cond (.t 77) (.seq (.ops [ld 79 2 6,fa 80 0 6,l0 81 80,bi 82 .eql 81 (ci 1),st 2 4 79,mv 5 82] [(2,4)]) .ret) (sq [bi 84 .eql 30 (cs [105,102]),mv 83 84] (.cond (.t 83) (.seq (.ops [ld 85 2 7,fa 86 0 6,l0 87 86,bi 88 .eql 87 (ci 1),mv 89 88,og 90 (.move (.t 1)) 89 true,og 91 (.indexSl 2 (.t 90) (ci 1)) 89 true,og 92 (.load (some 2) (.t 91)) 89 true,og 93 (.load (some 2) (.t 7)) 89 true,og 94 (.call false (cl 16) [.t 92,.t 93]) 89 true,pa 95 89 94,st 2 4 85,mv 5 95] [(0,9)]) .ret) (sq [bi 97 .eql 30 (cs [112,97,105,114]),mv 96 97] (.cond (.t 96) (sq [mv 98 1,oo 99 (.build [.im (.int .i64 0),.nils] [(0,(1,ci 6)),(1,(1,.t 98))]),st 2 4 99,mc 5 (cb true)] .ret) (sq [bi 101 .eql 30 (cs [108,105,115,116]),mv 100 101] (.cond (.t 100) (sq [mv 102 1,oo 103 (.slice 2 (.t 102) none (some (ci 1)) none),oo 104 (.build [.im (.int .i64 0),.nils] [(0,(1,ci 7)),(1,(1,.t 103))]),mv 105 1,oo 106 (.mkfunc 83 [.t 6]),oo 107 (.call false (cl 48) [.t 105,.t 106]),oo 108 (.un .not (.t 107)),st 2 4 104,mv 5 108] .ret) (sq [bi 110 .eql 30 (cs [99,111,110,115]),mv 109 110] (.cond (.t 109) (sq [ld 112 2 7,oo 113 (.call false (cl 36) [.t 112,ci 7,ci 0]),mv 111 113,ex 114 0 111,ex 115 1 111,oo 11 (.alloc none [.im (.int .i64 0),.nils]),st 2 11 114,mv 12 115] (.seq (.ops [ld 116 2 7,mv 117 12,mv 118 117,og 119 (.load (some 2) (.t 6)) 118 true,og 120 (.load (some 2) (.t 11)) 118 true,og 121 (.call false (cl 16) [.t 119,.t 120]) 118 true,pa 122 118 121,st 2 4 116,mv 5 122] [(0,5)]) .ret)) (sq [bi 124 .eql 30 (cs [99,111,110,99,97,116]),mv 123 124] (.cond (.t 123) (sq [ld 125 2 6,mv 126 10,mv 127 126,og 128 (.move (.t 8)) 127 true,pa 129 127 128,st 2 4 125,mv 5 129] .ret) (sq [bi 131 .eql 30 (cs [115,111,114,116]),mv 130 131] (.cond (.t 130) (sq [ld 132 2 6,mv 133 10,st 2 4 132,mv 5 133] .ret) (sq [bi 135 .eql 30 (cs [108,101,110]),mv 134 135] (.cond (.t 134) (sq [oo 136 (.call false (cl 49) [ci 2]),mv 137 10,st 2 4 136,mv 5 137] .ret) (sq [bi 139 .eql 30 (cs [97,116]),mv 138 139] (.cond (.t 138) (.seq (.ops [ld 140 2 9,oo 141 (.bslice false 2 1 [.im (.int .i64 0),.nils] [(0,.t 140)]),oo 142 (.build [.im (.int .i64 0),.nils] [(0,(1,ci 9)),(1,(1,.t 141))]),mv 143 10,mv 144 143,og 145 (.fieldAddr 0 (.t 7)) 144 true,og 146 (.load none (.t 145)) 144 true,og 147 (.bin .eql (.t 146) (ci 2)) 144 true,pa 148 144 147,st 2 4 142,mv 5 148] [(6,9)]) .ret) (sq [bi 150 .eql 30 (cs [114,97,110,103,101]),mv 149 150] (.cond (.t 149) (.seq (.ops [mv 151 1,oo 152 (.build [.im (.int .i64 0),.nils] [(0,(1,ci 7)),(1,(1,.t 151))]),fa 153 0 6,l0 154 153,bi 155 .eql 154 (ci 2),st 2 4 152,mv 5 155] [(3,5)]) .ret) (sq [bi 157 .eql 30 (cs [115,111,109,101]),mv 156 157] (.cond (.t 156) (sq [mv 158 1,oo 159 (.build [.im (.int .i64 0),.nils] [(0,(1,ci 9)),(1,(1,.t 158))]),st 2 4 159,mc 5 (cb true)] .ret) .skip)))))))))))))))))))))))))))))))))) (sq [mv 160 0,mv 161 1,oo 162 (.call false (cl 84) [.t 160,.t 161]),ex 163 0 162,ex 164 1 162,st 2 4 163,mv 5 164] .ret)))))),false⟩
theorem F55 : F 55 = some f55 := by kernel_rfl
def b56_0 : ACode := sq [bi 10 .lss 9 (.t 8)] (.seq (.cond (.t 10) .skip (.exit 0)) (.seq (.block 1 (sq [oo 11 (.indexSl 2 (.t 7) (.t 9)),ld 12 2 11,oo 5 (.alloc none [.im (.int .i64 0),.nils]),st 2 5 12] (.ops [mv 13 3,ld 14 2 5,oo 15 (.call false (cl 56) [.t 14]),oo 16 (.bslice false 2 1 [.im (.int .i64 0),.nils] [(0,.t 15)]),oo 17 (.append 34 32 2 (.t 13) (.t 16)),mv 3 17] []))) (.ops [bi 18 .add 9 (ci 1),mv 9 18] [])))
def c56_0 : ACode := .loop b56_0
theorem e56_0 : exec0 Φ Λ' c56_0 tm H K = thenL (Λ' c56_0 tm H) K := rfl
theorem l56_0 : Λ c56_0 tm H = exec0 L Λ b56_0 tm H fun e tm H => match e with
  | .normal => Λ c56_0 tm H
  | .exit i => some (.exit i, tm, H)
  | .goto l => some (.goto l, tm, H)
  | .ret => some (.ret, tm, H) := loop_eq
def f56 : AFunc := ⟨23,[(2,some (some 2))],.seq (.ops [oo 1 (.box none (.t 0)),oo 2 (.alloc none [.im (.int .i64 0),.nils])] []) (sq [oo 3 (.move (.c .nils))] (.seq (sq [fa 6 1 1,l0 7 6,oo 8 (.lenSl (.t 7)),mc 9 (ci 0)] (.block 0 c56_0)) (sq [fa 19 0 1,l0 20 19,mv 21 3,oo 22 (.build [.im (.int .i64 0),.nils] [(0,(1,.t 20)),(1,(1,.t 21))]),st 2 2 22] .ret))),false⟩
theorem F56 : F 56 = some f56 := by kernel_rfl
def f57 : AFunc := ⟨167,[],.seq (.ops [oo 4 (.box none (.t 1))] []) (sq [fa 11 0 4,l0 12 11,oo 13 (.call false (cl 77) [.t 12]),mv 10 13,ex 14 0 10,ex 15 1 10,mv 6 14,mv 7 15] (.block 0 (sq [mv 22 0,nc 23 22,fa 24 2 23,l0 25 24,mv 26 25,og 27 (.move (.t 2)) 26 false,og 28 (.bin .eql (.t 27) (ci 0)) 26 false,po 29 26 28,mv 30 29,og 31 (.move (.t 0)) 30 false,og 32 (.nilCheck (.t 31)) 30 false,og 33 (.fieldAddr 0 (.t 32)) 30 false,og 34 (.call false (cl 58) [.t 33]) 30 false,og 35 (.bin .gtr (.t 34) (ci 4096)) 30 false,po 36 30 35,mv 21 36] (.cond (.t 21) (.ops [mv 37 0,nc 38 37,fa 39 2 38,⟨none,.store 1 (.t 39) (cb true),none⟩] []) (sq [fa 41 0 4,l0 42 41,bi 43 .eql 42 (cs [105,110,116]),mv 40 43] (.cond (.t 40) (sq [mv 44 0,ld 45 6 4,oo 46 (.call false (cl 85) [.t 45,cb true,cb false,cb false,cb false]),oo 47 (.un .not (.t 46)),nc 48 44,fa 49 2 48,st 1 49 47] (.ops [mv 50 0,nc 51 50,fa 52 0 51,fa 53 1 4,l0 54 53,oo 55 (.call false (cl 87) [.t 54]),oo 56 (.call false (cl 86) [.t 52,.t 55])] [])) (sq [fa 58 0 4,l0 59 58,bi 60 .eql 59 (cs [116,101,120,116,95,111,102]),mv 57 60] (.cond (.t 57) (sq [mv 61 0,ld 62 6 4,oo 63 (.call false (cl 85) [.t 62,cb false,cb true,cb false,cb false]),oo 64 (.un .not (.t 63)),mv 65 64,og 66 (.fieldAddr 2 (.t 4)) 65 false,og 67 (.load none (.t 66)) 65 false,og 68 (.lenStr (.t 67)) 65 false,og 69 (.bin .gtr (.t 68) (ci 256)) 65 false,po 70 65 69,nc 71 61,fa 72 2 71,st 1 72 70] (.seq (.ops [mv 73 0,nc 74 73,fa 75 2 74,l0 76 75,oo 77 (.un .not (.t 76))] []) (.cond (.t 77) (.ops [mv 78 0,fa 79 2 4,l0 80 79,oo 81 (.call false (cl 88) [.t 78,.t 80])] []) .skip))) (sq [fa 83 0 4,l0 84 83,bi 85 .eql 84 (cs [110,97,109,101]),mv 82 85] (.cond (.t 82) (sq [mv 86 0,ld 87 6 4,oo 88 (.call false (cl 85) [.t 87,cb false,cb true,cb false,cb false]),oo 89 (.un .not (.t 88)),mv 90 89,og 91 (.fieldAddr 2 (.t 4)) 90 false,og 92 (.load none (.t 91)) 90 false,og 93 (.call false (cl 89) [.t 92]) 90 false,og 94 (.un .not (.t 93)) 90 false,po 95 90 94,nc 96 86,fa 97 2 96,st 1 97 95] (.ops [mv 98 0,nc 99 98,fa 100 0 99,fa 101 2 4,l0 102 101,oo 103 (.call false (cl 86) [.t 100,.t 102])] [])) (sq [mv 105 7,oo 106 (.un .not (.t 105)),mv 104 106] (.cond (.t 104) (.ops [mv 107 0,nc 108 107,fa 109 2 108,⟨none,.store 1 (.t 109) (cb true),none⟩] []) (sq [mv 111 6,bi 112 .eql 111 (cs [100]),mv 110 112] (.cond (.t 110) (sq [mv 113 0,ld 114 6 4,oo 115 (.call false (cl 85) [.t 114,cb true,cb false,cb false,cb false]),oo 116 (.un .not (.t 115)),mv 117 116,og 118 (.fieldAddr 1 (.t 4)) 117 false,og 119 (.load none (.t 118)) 117 false,og 120 (.bin .lss (.t 119) (ci 0)) 117 false,po 121 117 120,mv 122 121,og 123 (.fieldAddr 1 (.t 4)) 122 false,og 124 (.load none (.t 123)) 122 false,og 125 (.bin .gtr (.t 124) (ci 9)) 122 false,po 126 122 125,nc 127 113,fa 128 2 127,st 1 128 126] (.ops [mv 129 0,nc 130 129,fa 131 0 130,fa 132 1 4,l0 133 132,oo 134 (.call false (cl 87) [.t 133]),oo 135 (.bin .add (cs [115,105,100,101,40]) (.t 134)),bi 136 .add 135 (cs [41]),oo 137 (.call false (cl 86) [.t 131,.t 136])] [])) (sq [mv 139 6,bi 140 .eql 139 (cs [116]),mv 138 140] (.cond (.t 138) (sq [fa 142 3 4,ld 143 2 142,oo 144 (.call false (cl 90) [.t 143]),mv 141 144,ex 145 0 141,ex 146 1 141,mv 8 145,mv 9 146] (.seq (.ops [mv 147 0,ld 148 6 4,oo 149 (.call false (cl 85) [.t 148,cb false,cb false,cb true,cb false]),oo 150 (.un .not (.t 149)),mv 151 150,og 152 (.move (.t 9)) 151 false,og 153 (.bin .neq (.t 152) (ci 0)) 151 false,po 154 151 153,nc 155 147,fa 156 2 155,st 1 156 154] []) (.ops [mv 157 0,nc 158 157,fa 159 0 158,fa 160 0 4,l0 161 160,bi 162 .add 161 (cs [40]),mv 163 8,bi 164 .add 162 (.t 163),bi 165 .add 164 (cs [41]),oo 166 (.call false (cl 86) [.t 159,.t 165])] []))) (.ops [mv 16 0,ld 17 6 4,mv 18 6,mv 19 2,oo 20 (.call false (cl 91) [.t 16,.t 17,.t 18,.t 19])] []))))))))))))))))),false⟩
theorem F57 : F 57 = some f57 := by kernel_rfl
def f58 : AFunc := ⟨8,[(2,none)],.seq (.ops [mc 2 (ci 0)] []) (sq [mv 3 0,nc 4 3,fa 5 1 4,l0 6 5,oo 7 (.lenSl (.t 6)),mv 2 7] .ret),false⟩
theorem F58 : F 58 = some f58 := by kernel_rfl
def f60 : AFunc := ⟨31,[(4,none)],.seq (.ops [oo 2 (.box none (.t 0)),oo 3 (.box none (.t 1)),mc 4 (cb false)] []) (sq [oo 6 (.call false (cl 93) []),oo 7 (.mkfunc 94 [.t 2]),oo 8 (.call false (cl 92) [.t 6,.t 7]),mv 5 8] (.seq (.seq (.ops [mv 9 5,bi 10 .lss 9 (ci 0),mv 11 10,og 12 (.load none (.t 3)) 11 false,og 13 (.bin .lss (.t 12) (ci 1)) 11 false,po 14 11 13,mv 15 14,og 16 (.fieldAddr 1 (.t 2)) 15 false,og 17 (.load none (.t 16)) 15 false,og 18 (.lenSl (.t 17)) 15 false,og 19 (.call false (cl 93) []) 15 false,og 20 (.move (.t 5)) 15 false,og 21 (.indexSl 3 (.t 19) (.t 20)) 15 false,og 22 (.fieldAddr 2 (.t 21)) 15 false,og 23 (.load none (.t 22)) 15 false,og 24 (.bin .neq (.t 18) (.t 23)) 15 false,po 25 15 24] [(8,10)]) (.cond (.t 25) (sq [mc 4 (cb false)] .ret) .skip)) (sq [fa 26 1 2,l0 27 26,oo 28 (.mkfunc 95 [.t 3]),oo 29 (.call false (cl 48) [.t 27,.t 28]),oo 30 (.un .not (.t 29)),mv 4 30] .ret))),false⟩
theorem F60 : F 60 = some f60 := by kernel_rfl
def b61_0 : ACode := sq [bi 18 .lss 17 (.t 16)] (.seq (.cond (.t 18) .skip (.exit 0)) (.seq (.block 1 (sq [mv 19 17,oo 20 (.indexSl 2 (.t 15) (.t 17)),ld 21 2 20,oo 8 (.alloc none [.im (.int .i64 0),.nils]),mv 7 19,st 2 8 21] (.seq (.ops [mv 22 1,mv 23 7,oo 24 (.indexSl 2 (.t 22) (.t 23)),ld 25 2 24,oo 9 (.alloc none [.im (.int .i64 0),.nils]),st 2 9 25] []) (sq [mv 26 2,ld 27 2 8,ld 28 2 9,oo 29 (.call false (.t 26) [.t 27,.t 28]),oo 30 (.un .not (.t 29))] (.cond (.t 30) (sq [mc 6 (cb false)] .ret) .skip))))) (.ops [bi 31 .add 17 (ci 1),mv 17 31] [])))
def c61_0 : ACode := .loop b61_0
theorem e61_0 : exec0 Φ Λ' c61_0 tm H K = thenL (Λ' c61_0 tm H) K := rfl
theorem l61_0 : Λ c61_0 tm H = exec0 L Λ b61_0 tm H fun e tm H => match e with
  | .normal => Λ c61_0 tm H
  | .exit i => some (.exit i, tm, H)
  | .goto l => some (.goto l, tm, H)
  | .ret => some (.ret, tm, H) := loop_eq
def f61 : AFunc := ⟨32,[(6,none)],.seq (.ops [mc 6 (cb false)] []) (.seq (sq [mv 10 0,oo 11 (.lenSl (.t 10)),mv 12 1,oo 13 (.lenSl (.t 12)),bi 14 .neq 11 (.t 13)] (.cond (.t 14) (sq [mc 6 (cb false)] .ret) .skip)) (.seq (sq [mv 15 0,oo 16 (.lenSl (.t 15)),mc 17 (ci 0)] (.block 0 c61_0)) (sq [mc 6 (cb true)] .ret))),false⟩
theorem F61 : F 61 = some f61 := by kernel_rfl
def f64 : AFunc := ⟨38,[(2,none)],.seq (.ops [mc 2 (cs [])] []) (.seq (sq [mv 4 0,oo 5 (.bin .gtr (.t 4) (ci (-10))),mv 6 5,og 7 (.move (.t 0)) 6 true,og 8 (.bin .lss (.t 7) (ci 10)) 6 true,pa 9 6 8] (.cond (.t 9) (.seq (sq [mv 10 0,bi 11 .lss 10 (ci 0)] (.cond (.t 11) (sq [mv 12 0,oo 13 (.bin .sub (ci 48) (.t 12)),oo 14 (.i2i .u8 (.t 13)),oo 15 (.bslice false 1 1 [.im (.int .u8 0)] [(0,.t 14)]),oo 16 (.b2s (.t 15)),oo 17 (.bin .add (cs [45]) (.t 16)),mv 2 17] .ret) .skip)) (sq [mv 18 0,oo 19 (.bin .add (ci 48) (.t 18)),oo 20 (.i2i .u8 (.t 19)),oo 21 (.bslice false 1 1 [.im (.int .u8 0)] [(0,.t 20)]),oo 22 (.b2s (.t 21)),mv 2 22] .ret)) .skip)) (sq [mv 23 0,bi 24 .rem 23 (ci 10),mv 3 24] (.seq (sq [mv 25 3,bi 26 .lss 25 (ci 0)] (.cond (.t 26) (.ops [mv 27 3,oo 28 (.un .neg (.t 27)),mv 3 28] []) .skip)) (sq [mv 29 0,bi 30 .quo 29 (ci 10),oo 31 (.call false (cl 64) [.t 30]),mv 32 3,oo 33 (.bin .add (ci 48) (.t 32)),oo 34 (.i2i .u8 (.t 33)),oo 35 (.bslice false 1 1 [.im (.int .u8 0)] [(0,.t 34)]),oo 36 (.b2s (.t 35)),bi 37 .add 31 (.t 36),mv 2 37] .ret)))),false⟩
def f73 : AFunc := ⟨22,[(2,none)],.seq (.ops [oo 2 (.move (.c (.im (.int .u8 0))))] []) (.seq (sq [mv 3 0,nc 4 3,fa 5 1 4,l0 6 5,mv 7 0,nc 8 7,fa 9 0 8,l0 10 9,oo 11 (.lenStr (.t 10)),bi 12 .lss 6 (.t 11)] (.cond (.t 12) (sq [mv 13 0,nc 14 13,fa 15 0 14,l0 16 15,mv 17 0,nc 18 17,fa 19 1 18,l0 20 19,oo 21 (.indexStr (.t 16) (.t 20)),mv 2 21] .ret) .skip)) (sq [oo 2 (.move (.c (.im (.int .u8 0))))] .ret)),false⟩
theorem F73 : F 73 = some f73 := by kernel_rfl
def c74_0 : ACode := .scope (sq [oo 3 (.move (.c .nils))] (.seq (.label 0) (sq [mv 5 0,oo 6 (.call false (cl 73) [.t 5]),mv 4 6] (.seq (.block 0 (sq [mv 8 4,oo 9 (.bin .eql (.t 8) (.c (.im (.int .u8 34)))),mv 7 9] (.cond (.t 7) (sq [mv 10 0,nc 11 10,fa 12 1 11,l0 13 12,bi 14 .add 13 (ci 1),nc 15 10,fa 16 1 15,st 1 16 14] (.seq (.ops [mv 17 3,oo 18 (.b2s (.t 17)),oo 19 (.build [.im (.str []),.im (.int .i64 0),.im (.str []),.im (.int .i64 0),.nils,.nils] [(0,(1,cs [116,101,120,116,95,111,102])),(2,(1,.t 18))]),st 6 2 19] []) .ret)) (sq [mv 21 3,oo 22 (.lenSl (.t 21)),bi 23 .eql 22 (ci 256),mv 24 23,og 25 (.move (.t 4)) 24 false,og 26 (.call false (cl 104) [.t 25]) 24 false,og 27 (.un .not (.t 26)) 24 false,og 28 (.move (.t 27)) 24 false,og 29 (.move (.t 4)) 28 true,og 30 (.bin .neq (.t 29) (.c (.im (.int .u8 92)))) 28 true,og 31 (.pick (.t 28) (.t 30) (cb false)) 24 false,po 32 24 31,mv 20 32] (.cond (.t 20) (sq [mv 33 0,nc 34 33,fa 35 2 34,⟨none,.store 1 (.t 35) (cb true),none⟩] (.seq (.ops [oo 36 (.build [.im (.str []),.im (.int .i64 0),.im (.str []),.im (.int .i64 0),.nils,.nils] []),st 6 2 36] []) .ret)) .skip))))) (sq [mv 37 0,nc 38 37,fa 39 1 38,l0 40 39,bi 41 .add 40 (ci 1),nc 42 37,fa 43 1 42,st 1 43 41] (.seq (sq [mv 44 4,oo 45 (.bin .eql (.t 44) (.c (.im (.int .u8 92))))] (.cond (.t 45) (.ops [mv 46 0,oo 47 (.call false (cl 105) [.t 46]),mv 4 47] []) .skip)) (sq [mv 48 3,mv 49 4,oo 50 (.bslice false 1 1 [.im (.int .u8 0)] [(0,.t 49)]),oo 51 (.append 5 1 1 (.t 48) (.t 50)),mv 3 51] (.seq (sq [mv 52 0,nc 53 52,fa 54 2 53,l0 55 54,oo 56 (.un .not (.t 55))] (.cond (.t 56) (.goto 0) .skip)) (sq [oo 57 (.build [.im (.str []),.im (.int .i64 0),.im (.str []),.im (.int .i64 0),.nils,.nils] []),st 6 2 57] .ret))))))))) (sq [oo 3 (.move (.c .nils))] (.seq (.label 0) (sq [mv 5 0,oo 6 (.call false (cl 73) [.t 5]),mv 4 6] (.seq (.block 0 (sq [mv 8 4,oo 9 (.bin .eql (.t 8) (.c (.im (.int .u8 34)))),mv 7 9] (.cond (.t 7) (sq [mv 10 0,nc 11 10,fa 12 1 11,l0 13 12,bi 14 .add 13 (ci 1),nc 15 10,fa 16 1 15,st 1 16 14] (.seq (.ops [mv 17 3,oo 18 (.b2s (.t 17)),oo 19 (.build [.im (.str []),.im (.int .i64 0),.im (.str []),.im (.int .i64 0),.nils,.nils] [(0,(1,cs [116,101,120,116,95,111,102])),(2,(1,.t 18))]),st 6 2 19] []) .ret)) (sq [mv 21 3,oo 22 (.lenSl (.t 21)),bi 23 .eql 22 (ci 256),mv 24 23,og 25 (.move (.t 4)) 24 false,og 26 (.call false (cl 104) [.t 25]) 24 false,og 27 (.un .not (.t 26)) 24 false,og 28 (.move (.t 27)) 24 false,og 29 (.move (.t 4)) 28 true,og 30 (.bin .neq (.t 29) (.c (.im (.int .u8 92)))) 28 true,og 31 (.pick (.t 28) (.t 30) (cb false)) 24 false,po 32 24 31,mv 20 32] (.cond (.t 20) (sq [mv 33 0,nc 34 33,fa 35 2 34,⟨none,.store 1 (.t 35) (cb true),none⟩] (.seq (.ops [oo 36 (.build [.im (.str []),.im (.int .i64 0),.im (.str []),.im (.int .i64 0),.nils,.nils] []),st 6 2 36] []) .ret)) .skip))))) (sq [mv 37 0,nc 38 37,fa 39 1 38,l0 40 39,bi 41 .add 40 (ci 1),nc 42 37,fa 43 1 42,st 1 43 41] (.seq (sq [mv 44 4,oo 45 (.bin .eql (.t 44) (.c (.im (.int .u8 92))))] (.cond (.t 45) (.ops [mv 46 0,oo 47 (.call false (cl 105) [.t 46]),mv 4 47] []) .skip)) (sq [mv 48 3,mv 49 4,oo 50 (.bslice false 1 1 [.im (.int .u8 0)] [(0,.t 49)]),oo 51 (.append 5 1 1 (.t 48) (.t 50)),mv 3 51] (.seq (sq [mv 52 0,nc 53 52,fa 54 2 53,l0 55 54,oo 56 (.un .not (.t 55))] (.cond (.t 56) (.goto 0) .skip)) (sq [oo 57 (.build [.im (.str []),.im (.int .i64 0),.im (.str []),.im (.int .i64 0),.nils,.nils] []),st 6 2 57] .ret)))))))))
def f74 : AFunc := ⟨58,[(2,some (some 6))],.seq (.ops [oo 2 (.alloc none [.im (.str []),.im (.int .i64 0),.im (.str []),.im (.int .i64 0),.nils,.nils])] []) c74_0,false⟩
theorem F74 : F 74 = some f74 := by kernel_rfl
def c75_0 : ACode := .scope (sq [mc 3 (ci 1),oo 4 (.move (.c (.im (.int .u64 9223372036854775807))))] (.seq (sq [mv 9 0,oo 10 (.call false (cl 73) [.t 9]),oo 11 (.bin .eql (.t 10) (.c (.im (.int .u8 45))))] (.cond (.t 11) (sq [mv 12 0,nc 13 12,fa 14 1 13,l0 15 14,bi 16 .add 15 (ci 1),nc 17 12,fa 18 1 17,st 1 18 16] (.ops [oo 3 (.move (ci (-1))),oo 4 (.move (.c (.im (.int .u64 9223372036854775808))))] [])) .skip)) (.seq (sq [mv 19 0,oo 20 (.call false (cl 73) [.t 19]),mv 5 20] (.seq (.ops [mv 21 5,oo 22 (.bin .lss (.t 21) (.c (.im (.int .u8 48)))),mv 23 22,og 24 (.move (.t 5)) 23 false,og 25 (.bin .gtr (.t 24) (.c (.im (.int .u8 57)))) 23 false,po 26 23 25,mv 27 26,og 28 (.move (.t 5)) 27 false,og 29 (.bin .eql (.t 28) (.c (.im (.int .u8 48)))) 27 false,og 30 (.move (.t 29)) 27 false,og 31 (.move (.t 3)) 30 true,og 32 (.bin .lss (.t 31) (ci 0)) 30 true,og 33 (.pick (.t 30) (.t 32) (cb false)) 27 false,po 34 27 33] []) (.cond (.t 34) (sq [mv 35 0,nc 36 35,fa 37 2 36,⟨none,.store 1 (.t 37) (cb true),none⟩] (.seq (.ops [oo 38 (.build [.im (.str []),.im (.int .i64 0),.im (.str []),.im (.int .i64 0),.nils,.nils] []),st 6 2 38] []) .ret)) .skip))) (sq [mv 39 0,oo 40 (.call false (cl 73) [.t 39]),oo 41 (.bin .sub (.t 40) (.c (.im (.int .u8 48)))),oo 42 (.i2i .u64 (.t 41)),mv 6 42] (.seq (.ops [mv 43 0,nc 44 43,fa 45 1 44,l0 46 45,bi 47 .add 46 (ci 1),nc 48 43,fa 49 1 48,st 1 49 47] []) (.seq (.label 0) (sq [mv 50 0,oo 51 (.call false (cl 73) [.t 50]),mv 7 51] (.seq (sq [mv 52 7,oo 53 (.bin .lss (.t 52) (.c (.im (.int .u8 48)))),mv 54 53,og 55 (.move (.t 7)) 54 false,og 56 (.bin .gtr (.t 55) (.c (.im (.int .u8 57)))) 54 false,po 57 54 56] (.cond (.t 57) (sq [mv 58 3,mv 59 6,oo 60 (.i2i .i64 (.t 59)),bi 61 .mul 58 (.t 60),oo 62 (.build [.im (.str []),.im (.int .i64 0),.im (.str []),.im (.int .i64 0),.nils,.nils] [(0,(1,cs [105,110,116])),(1,(1,.t 61))]),st 6 2 62] .ret) .skip)) (.seq (sq [mv 63 7,oo 64 (.bin .sub (.t 63) (.c (.im (.int .u8 48)))),oo 65 (.i2i .u64 (.t 64)),mv 8 65] (.seq (.ops [mv 66 6,oo 67 (.bin .gtr (.t 66) (.c (.im (.int .u64 0)))),mv 68 67,og 69 (.move (.t 6)) 68 true,og 70 (.move (.t 4)) 68 true,og 71 (.move (.t 8)) 68 true,og 72 (.bin .sub (.t 70) (.t 71)) 68 true,og 73 (.bin .quo (.t 72) (.c (.im (.int .u64 10)))) 68 true,og 74 (.bin .leq (.t 69) (.t 73)) 68 true,pa 75 68 74] []) (.cond (.t 75) (sq [mv 76 6,oo 77 (.bin .mul (.c (.im (.int .u64 10))) (.t 76)),mv 78 8,bi 79 .add 77 (.t 78),mv 6 79] (.seq (.ops [mv 80 0,nc 81 80,fa 82 1 81,l0 83 82,bi 84 .add 83 (ci 1),nc 85 80,fa 86 1 85,st 1 86 84] []) (.goto 0))) .skip))) (sq [mv 87 0,nc 88 87,fa 89 2 88,⟨none,.store 1 (.t 89) (cb true),none⟩] (.seq (.ops [oo 90 (.build [.im (.str []),.im (.int .i64 0),.im (.str []),.im (.int .i64 0),.nils,.nils] []),st 6 2 90] []) .ret))))))))))) (sq [mc 3 (ci 1),oo 4 (.move (.c (.im (.int .u64 9223372036854775807))))] (.seq (sq [mv 9 0,oo 10 (.call false (cl 73) [.t 9]),oo 11 (.bin .eql (.t 10) (.c (.im (.int .u8 45))))] (.cond (.t 11) (sq [mv 12 0,nc 13 12,fa 14 1 13,l0 15 14,bi 16 .add 15 (ci 1),nc 17 12,fa 18 1 17,st 1 18 16] (.ops [oo 3 (.move (ci (-1))),oo 4 (.move (.c (.im (.int .u64 9223372036854775808))))] [])) .skip)) (.seq (sq [mv 19 0,oo 20 (.call false (cl 73) [.t 19]),mv 5 20] (.seq (.ops [mv 21 5,oo 22 (.bin .lss (.t 21) (.c (.im (.int .u8 48)))),mv 23 22,og 24 (.move (.t 5)) 23 false,og 25 (.bin .gtr (.t 24) (.c (.im (.int .u8 57)))) 23 false,po 26 23 25,mv 27 26,og 28 (.move (.t 5)) 27 false,og 29 (.bin .eql (.t 28) (.c (.im (.int .u8 48)))) 27 false,og 30 (.move (.t 29)) 27 false,og 31 (.move (.t 3)) 30 true,og 32 (.bin .lss (.t 31) (ci 0)) 30 true,og 33 (.pick (.t 30) (.t 32) (cb false)) 27 false,po 34 27 33] []) (.cond (.t 34) (sq [mv 35 0,nc 36 35,fa 37 2 36,⟨none,.store 1 (.t 37) (cb true),none⟩] (.seq (.ops [oo 38 (.build [.im (.str []),.im (.int .i64 0),.im (.str []),.im (.int .i64 0),.nils,.nils] []),st 6 2 38] []) .ret)) .skip))) (sq [mv 39 0,oo 40 (.call false (cl 73) [.t 39]),oo 41 (.bin .sub (.t 40) (.c (.im (.int .u8 48)))),oo 42 (.i2i .u64 (.t 41)),mv 6 42] (.seq (.ops [mv 43 0,nc 44 43,fa 45 1 44,l0 46 45,bi 47 .add 46 (ci 1),nc 48 43,fa 49 1 48,st 1 49 47] []) (.seq (.label 0) (sq [mv 50 0,oo 51 (.call false (cl 73) [.t 50]),mv 7 51] (.seq (sq [mv 52 7,oo 53 (.bin .lss (.t 52) (.c (.im (.int .u8 48)))),mv 54 53,og 55 (.move (.t 7)) 54 false,og 56 (.bin .gtr (.t 55) (.c (.im (.int .u8 57)))) 54 false,po 57 54 56] (.cond (.t 57) (sq [mv 58 3,mv 59 6,oo 60 (.i2i .i64 (.t 59)),bi 61 .mul 58 (.t 60),oo 62 (.build [.im (.str []),.im (.int .i64 0),.im (.str []),.im (.int .i64 0),.nils,.nils] [(0,(1,cs [105,110,116])),(1,(1,.t 61))]),st 6 2 62] .ret) .skip)) (.seq (sq [mv 63 7,oo 64 (.bin .sub (.t 63) (.c (.im (.int .u8 48)))),oo 65 (.i2i .u64 (.t 64)),mv 8 65] (.seq (.ops [mv 66 6,oo 67 (.bin .gtr (.t 66) (.c (.im (.int .u64 0)))),mv 68 67,og 69 (.move (.t 6)) 68 true,og 70 (.move (.t 4)) 68 true,og 71 (.move (.t 8)) 68 true,og 72 (.bin .sub (.t 70) (.t 71)) 68 true,og 73 (.bin .quo (.t 72) (.c (.im (.int .u64 10)))) 68 true,og 74 (.bin .leq (.t 69) (.t 73)) 68 true,pa 75 68 74] []) (.cond (.t 75) (sq [mv 76 6,oo 77 (.bin .mul (.c (.im (.int .u64 10))) (.t 76)),mv 78 8,bi 79 .add 77 (.t 78),mv 6 79] (.seq (.ops [mv 80 0,nc 81 80,fa 82 1 81,l0 83 82,bi 84 .add 83 (ci 1),nc 85 80,fa 86 1 85,st 1 86 84] []) (.goto 0))) .skip))) (sq [mv 87 0,nc 88 87,fa 89 2 88,⟨none,.store 1 (.t 89) (cb true),none⟩] (.seq (.ops [oo 90 (.build [.im (.str []),.im (.int .i64 0),.im (.str []),.im (.int .i64 0),.nils,.nils] []),st 6 2 90] []) .ret)))))))))))
def f75 : AFunc := ⟨91,[(2,some (some 6))],.seq (.ops [oo 2 (.alloc none [.im (.str []),.im (.int .i64 0),.im (.str []),.im (.int .i64 0),.nils,.nils])] []) c75_0,false⟩
theorem F75 : F 75 = some f75 := by kernel_rfl
def b76_0 : ACode := .seq (sq [mv 8 0,nc 9 8,fa 10 1 9,l0 11 10,mv 12 3,bi 13 .sub 11 (.t 12),bi 14 .lss 13 (ci 16),mv 15 14,og 16 (.move (.t 0)) 15 true,og 17 (.call false (cl 73) [.t 16]) 15 true,og 18 (.call false (cl 78) [.t 17]) 15 true,pa 19 15 18,mv 20 19,og 21 (.move (.t 0)) 20 true,og 22 (.nilCheck (.t 21)) 20 true,og 23 (.fieldAddr 1 (.t 22)) 20 true,og 24 (.load none (.t 23)) 20 true,og 25 (.move (.t 3)) 20 true,og 26 (.bin .gtr (.t 24) (.t 25)) 20 true,og 27 (.move (.t 26)) 20 true,og 28 (.move (.t 0)) 27 false,og 29 (.call false (cl 73) [.t 28]) 27 false,og 30 (.bin .geq (.t 29) (.c (.im (.int .u8 97)))) 27 false,og 31 (.pick (.t 27) (cb true) (.t 30)) 20 true,pa 32 20 31] (.cond (.t 32) .skip (.exit 0))) (.block 1 (.ops [mv 33 0,nc 34 33,fa 35 1 34,l0 36 35,bi 37 .add 36 (ci 1),nc 38 33,fa 39 1 38,st 1 39 37] []))
def c76_0 : ACode := .loop b76_0
def f76 : AFunc := ⟨50,[(2,none)],.seq (.ops [mc 2 (cs [])] []) (sq [mv 4 0,nc 5 4,fa 6 1 5,l0 7 6,mv 3 7] (.seq (.block 0 c76_0) (sq [mv 40 0,nc 41 40,fa 42 0 41,l0 43 42,mv 44 3,mv 45 0,nc 46 45,fa 47 1 46,l0 48 47,oo 49 (.sliceStr (.t 43) (some (.t 44)) (some (.t 48))),mv 2 49] .ret))),false⟩
theorem F76 : F 76 = some f76 := by kernel_rfl
def f77 : AFunc := ⟨60,[(2,none),(3,none)],.seq (.ops [mc 2 (cs []),mc 3 (cb false)] []) (.seq (sq [mv 4 0] (.block 0 (.seq (sq [bi 6 .eql 4 (cs [116,114,117,101]),mv 5 6] (.cond (.t 5) .skip (sq [bi 7 .eql 4 (cs [102,97,108,115,101]),mv 5 7] (.cond (.t 5) .skip (.ops [bi 8 .eql 4 (cs [105,116]),mv 5 8] []))))) (.cond (.t 5) (sq [mc 2 (cs []),mc 3 (cb true)] .ret) (.seq (sq [bi 10 .eql 4 (cs [110,101,103]),mv 9 10] (.cond (.t 9) .skip (sq [bi 11 .eql 4 (cs [110,111,116]),mv 9 11] (.cond (.t 9) .skip (sq [bi 12 .eql 4 (cs [102,105,114,115,116]),mv 9 12] (.cond (.t 9) .skip (sq [bi 13 .eql 4 (cs [115,101,99,111,110,100]),mv 9 13] (.cond (.t 9) .skip (sq [bi 14 .eql 4 (cs [108,101,110]),mv 9 14] (.cond (.t 9) .skip (sq [bi 15 .eql 4 (cs [115,111,114,116]),mv 9 15] (.cond (.t 9) .skip (sq [bi 16 .eql 4 (cs [115,111,109,101]),mv 9 16] (.cond (.t 9) .skip (sq [bi 17 .eql 4 (cs [105,115,95,115,111,109,101]),mv 9 17] (.cond (.t 9) .skip (sq [bi 18 .eql 4 (cs [115,105,122,101]),mv 9 18] (.cond (.t 9) .skip (sq [bi 19 .eql 4 (cs [98,121,116,101,115]),mv 9 19] (.cond (.t 9) .skip (sq [bi 20 .eql 4 (cs [116,101,120,116]),mv 9 20] (.cond (.t 9) .skip (sq [bi 21 .eql 4 (cs [115,104,111,119]),mv 9 21] (.cond (.t 9) .skip (sq [bi 22 .eql 4 (cs [114,101]),mv 9 22] (.cond (.t 9) .skip (sq [bi 23 .eql 4 (cs [105,109]),mv 9 23] (.cond (.t 9) .skip (sq [bi 24 .eql 4 (cs [99,111,110,106]),mv 9 24] (.cond (.t 9) .skip (.ops [bi 25 .eql 4 (cs [114,97,110,103,101]),mv 9 25] []))))))))))))))))))))))))))))))) (.cond (.t 9) (sq [mc 2 (cs [101]),mc 3 (cb true)] .ret) (.seq (sq [bi 27 .eql 4 (cs [97,100,100]),mv 26 27] (.cond (.t 26) .skip (sq [bi 28 .eql 4 (cs [115,117,98]),mv 26 28] (.cond (.t 26) .skip (sq [bi 29 .eql 4 (cs [109,117,108]),mv 26 29] (.cond (.t 26) .skip (sq [bi 30 .eql 4 (cs [100,105,118]),mv 26 30] (.cond (.t 26) .skip (sq [bi 31 .eql 4 (cs [109,111,100]),mv 26 31] (.cond (.t 26) .skip (sq [bi 32 .eql 4 (cs [101,113]),mv 26 32] (.cond (.t 26) .skip (sq [bi 33 .eql 4 (cs [108,116]),mv 26 33] (.cond (.t 26) .skip (sq [bi 34 .eql 4 (cs [97,110,100]),mv 26 34] (.cond (.t 26) .skip (sq [bi 35 .eql 4 (cs [111,114]),mv 26 35] (.cond (.t 26) .skip (sq [bi 36 .eql 4 (cs [112,97,105,114]),mv 26 36] (.cond (.t 26) .skip (sq [bi 37 .eql 4 (cs [99,111,110,115]),mv 26 37] (.cond (.t 26) .skip (sq [bi 38 .eql 4 (cs [99,111,110,99,97,116]),mv 26 38] (.cond (.t 26) .skip (sq [bi 39 .eql 4 (cs [97,116]),mv 26 39] (.cond (.t 26) .skip (sq [bi 40 .eql 4 (cs [111,114,95,101,108,115,101]),mv 26 40] (.cond (.t 26) .skip (sq [bi 41 .eql 4 (cs [106,111,105,110]),mv 26 41] (.cond (.t 26) .skip (.ops [bi 42 .eql 4 (cs [112,111,105,110,116]),mv 26 42] []))))))))))))))))))))))))))))))) (.cond (.t 26) (sq [mc 2 (cs [101,101]),mc 3 (cb true)] .ret) (.seq (sq [bi 44 .eql 4 (cs [105,102]),mv 43 44] (.cond (.t 43) .skip (.ops [bi 45 .eql 4 (cs [99,117,116]),mv 43 45] []))) (.cond (.t 43) (sq [mc 2 (cs [101,101,101]),mc 3 (cb true)] .ret) (sq [bi 47 .eql 4 (cs [108,105,115,116]),mv 46 47] (.cond (.t 46) (sq [mc 2 (cs [43]),mc 3 (cb true)] .ret) (sq [bi 49 .eql 4 (cs [115,105,100,101]),mv 48 49] (.cond (.t 48) (sq [mc 2 (cs [100]),mc 3 (cb true)] .ret) (.seq (sq [bi 51 .eql 4 (cs [110,105,108]),mv 50 51] (.cond (.t 50) .skip (.ops [bi 52 .eql 4 (cs [110,111,110,101]),mv 50 52] []))) (.cond (.t 50) (sq [mc 2 (cs [116]),mc 3 (cb true)] .ret) (sq [bi 54 .eql 4 (cs [108,101,116]),mv 53 54] (.cond (.t 53) (sq [mc 2 (cs [110,101,101]),mc 3 (cb true)] .ret) (.seq (sq [bi 56 .eql 4 (cs [109,97,112]),mv 55 56] (.cond (.t 55) .skip (.ops [bi 57 .eql 4 (cs [102,105,108,116,101,114]),mv 55 57] []))) (.cond (.t 55) (sq [mc 2 (cs [101,110,101]),mc 3 (cb true)] .ret) (sq [bi 59 .eql 4 (cs [102,111,108,100]),mv 58 59] (.cond (.t 58) (sq [mc 2 (cs [101,101,110,110,101]),mc 3 (cb true)] .ret) .skip)))))))))))))))))))))) (sq [mc 2 (cs []),mc 3 (cb false)] .ret)),false⟩
theorem F77 : F 77 = some f77 := by kernel_rfl
def f78 : AFunc := ⟨21,[(2,none)],.seq (.ops [mc 2 (cb false)] []) (sq [mv 3 0,oo 4 (.bin .geq (.t 3) (.c (.im (.int .u8 97)))),mv 5 4,og 6 (.move (.t 0)) 5 true,og 7 (.bin .leq (.t 6) (.c (.im (.int .u8 122)))) 5 true,pa 8 5 7,mv 9 8,og 10 (.move (.t 0)) 9 false,og 11 (.bin .geq (.t 10) (.c (.im (.int .u8 48)))) 9 false,og 12 (.move (.t 11)) 9 false,og 13 (.move (.t 0)) 12 true,og 14 (.bin .leq (.t 13) (.c (.im (.int .u8 57)))) 12 true,og 15 (.pick (.t 12) (.t 14) (cb false)) 9 false,po 16 9 15,mv 17 16,og 18 (.move (.t 0)) 17 false,og 19 (.bin .eql (.t 18) (.c (.im (.int .u8 95)))) 17 false,po 20 17 19,mv 2 20] .ret),false⟩
theorem F78 : F 78 = some f78 := by kernel_rfl
def b79_0 : ACode := .seq (sq [mv 14 11,mv 15 2,oo 16 (.lenStr (.t 15)),bi 17 .lss 14 (.t 16),mv 18 17,og 19 (.move (.t 0)) 18 true,og 20 (.nilCheck (.t 19)) 18 true,og 21 (.fieldAddr 2 (.t 20)) 18 true,og 22 (.load none (.t 21)) 18 true,og 23 (.un .not (.t 22)) 18 true,pa 24 18 23] (.cond (.t 24) .skip (.exit 0))) (.seq (.block 1 (sq [mv 27 0,mv 28 10,oo 29 (.call false (cl 106) [.t 27,.t 28])] (.seq (.ops [oo 10 (.move (.c (.im (.int .u8 44))))] []) (.seq (sq [mv 30 0,nc 31 30,fa 32 2 31,l0 33 32] (.cond (.t 33) (.exit 0) .skip)) (.seq (sq [mv 34 2,mv 35 11,oo 36 (.indexStr (.t 34) (.t 35))] (.block 2 (sq [oo 47 (.bin .eql (.t 36) (.c (.im (.int .u8 100)))),mv 46 47] (.cond (.t 46) (sq [mv 48 0,oo 49 (.call false (cl 46) [.t 48])] (.seq (sq [mv 50 0,oo 51 (.call false (cl 73) [.t 50]),oo 52 (.i2i .i64 (.t 51)),bi 53 .sub 52 (ci 48),fa 54 1 9,st 1 54 53] (.seq (.ops [fa 55 1 9,l0 56 55,bi 57 .lss 56 (ci 0),mv 58 57,og 59 (.fieldAddr 1 (.t 9)) 58 false,og 60 (.load none (.t 59)) 58 false,og 61 (.bin .gtr (.t 60) (ci 9)) 58 false,po 62 58 61] []) (.cond (.t 62) (sq [mv 63 0,nc 64 63,fa 65 2 64,⟨none,.store 1 (.t 65) (cb true),none⟩] (.exit 2)) .skip))) (.ops [mv 66 0,nc 67 66,fa 68 1 67,l0 69 68,bi 70 .add 69 (ci 1),nc 71 66,fa 72 1 71,st 1 72 70] []))) (sq [oo 74 (.bin .eql (.t 36) (.c (.im (.int .u8 116)))),mv 73 74] (.cond (.t 73) (.ops [mv 75 0,oo 76 (.call false (cl 107) [.t 75]),fa 77 3 9,st 2 77 76] []) (sq [oo 79 (.bin .eql (.t 36) (.c (.im (.int .u8 110)))),mv 78 79] (.cond (.t 78) (.ops [fa 80 5 9,l0 81 80,mv 82 0,oo 83 (.call false (cl 108) [.t 82]),oo 84 (.bslice false 6 1 [.im (.str []),.im (.int .i64 0),.im (.str []),.im (.int .i64 0),.nils,.nils] [(0,.t 83)]),oo 85 (.append 41 96 6 (.t 81) (.t 84)),fa 86 5 9,st 1 86 85] [(1,3)]) (.ops [fa 37 5 9,l0 38 37,mv 39 0,mv 40 3,bi 41 .sub 40 (ci 1),oo 42 (.call false (cl 45) [.t 39,.t 41]),oo 43 (.bslice false 6 1 [.im (.str []),.im (.int .i64 0),.im (.str []),.im (.int .i64 0),.nils,.nils] [(0,.t 42)]),oo 44 (.append 41 96 6 (.t 38) (.t 43)),fa 45 5 9,st 1 45 44] [(1,5)]))))))))) (sq [mv 87 2,bi 88 .eql 87 (cs [43]),mv 89 88,og 90 (.move (.t 0)) 89 true,og 91 (.nilCheck (.t 90)) 89 true,og 92 (.fieldAddr 2 (.t 91)) 89 true,og 93 (.load none (.t 92)) 89 true,og 94 (.un .not (.t 93)) 89 true,pa 95 89 94,mv 96 95,og 97 (.fieldAddr 5 (.t 9)) 96 true,og 98 (.load none (.t 97)) 96 true,og 99 (.lenSl (.t 98)) 96 true,og 100 (.bin .lss (.t 99) (ci 64)) 96 true,pa 101 96 100] (.cond (.t 101) (sq [mv 102 0,oo 103 (.call false (cl 46) [.t 102])] (.seq (.ops [mv 104 0,oo 105 (.call false (cl 73) [.t 104]),oo 106 (.bin .eql (.t 105) (.c (.im (.int .u8 44))))] []) (.cond (.t 106) (.ops [mv 107 11,bi 108 .sub 107 (ci 1),mv 11 108] []) .skip))) .skip))))))) (.ops [mv 25 11,bi 26 .add 25 (ci 1),mv 11 26] []))
def c79_0 : ACode := .loop b79_0
def f79 : AFunc := ⟨112,[(8,some (some 6))],.seq (.ops [oo 8 (.alloc none [.im (.str []),.im (.int .i64 0),.im (.str []),.im (.int .i64 0),.nils,.nils])] []) (sq [mv 12 1,oo 13 (.build [.im (.str []),.im (.int .i64 0),.im (.str []),.im (.int .i64 0),.nils,.nils] [(0,(1,.t 12))]),oo 9 (.alloc none [.im (.str []),.im (.int .i64 0),.im (.str []),.im (.int .i64 0),.nils,.nils]),st 6 9 13] (.seq (.ops [oo 10 (.move (.c (.im (.int .u8 40))))] []) (.seq (sq [mc 11 (ci 0)] (.block 0 c79_0)) (sq [mv 109 0,oo 110 (.call false (cl 106) [.t 109,.c (.im (.int .u8 41))])] (.seq (.ops [ld 111 6 9,st 6 8 111] []) .ret))))),false⟩
theorem F79 : F 79 = some f79 := by kernel_rfl
def b80_0 : ACode := sq [bi 9 .lss 8 (.t 7)] (.seq (.cond (.t 9) .skip (.exit 0)) (.seq (.block 1 (sq [mv 10 8,mv 5 10] (.seq (.ops [mv 11 1,mv 12 0,mv 13 5,oo 14 (.indexSl 2 (.t 12) (.t 13)),ld 15 2 14,oo 16 (.call false (.t 11) [.t 15])] []) (.cond (.t 16) (sq [mv 17 5,mv 4 17] .ret) .skip)))) (.ops [bi 18 .add 8 (ci 1),mv 8 18] [])))
def c80_0 : ACode := .loop b80_0
theorem e80_0 : exec0 Φ Λ' c80_0 tm H K = thenL (Λ' c80_0 tm H) K := rfl
theorem l80_0 : Λ c80_0 tm H = exec0 L Λ b80_0 tm H fun e tm H => match e with
  | .normal => Λ c80_0 tm H
  | .exit i => some (.exit i, tm, H)
  | .goto l => some (.goto l, tm, H)
  | .ret => some (.ret, tm, H) := loop_eq
def f80 : AFunc := ⟨19,[(4,none)],.seq (.ops [mc 4 (ci 0)] []) (.seq (sq [mv 6 0,oo 7 (.lenSl (.t 6)),mc 8 (ci 0)] (.block 0 c80_0)) (sq [oo 4 (.move (ci (-1)))] .ret)),false⟩
theorem F80 : F 80 = some f80 := by kernel_rfl
def f81 : AFunc := ⟨8,[(2,none)],.seq (.ops [oo 2 (.move (.c .nils))] []) (.seq (sq [mv 3 0,oo 4 (.binN .eql (.t 3) (.c .nils))] (.cond (.t 4) (sq [oo 2 (.move (.c .nils))] .ret) .skip)) (sq [oo 5 (.bslice false 1 0 [.im (.int .i64 0)] []),mv 6 0,oo 7 (.append 3 8 1 (.t 5) (.t 6)),mv 2 7] .ret)),false⟩
theorem F81 : F 81 = some f81 := by kernel_rfl
def f82 : AFunc := ⟨8,[(4,none)],.seq (.ops [mc 4 (cb false)] []) (sq [mv 5 0,mv 6 1,oo 7 (.call false (cl 109) [.t 5,.t 6,cl 110]),mv 4 7] .ret),false⟩
theorem F82 : F 82 = some f82 := by kernel_rfl
def f83 : AFunc := ⟨8,[(3,none)],.seq (.ops [oo 2 (.box none (.t 0)),mc 3 (cb false)] []) (sq [ld 4 2 2,ld 5 2 1,oo 6 (.call false (cl 16) [.t 4,.t 5]),oo 7 (.un .not (.t 6)),mv 3 7] .ret),false⟩
theorem F83 : F 83 = some f83 := by kernel_rfl
def f84 : AFunc := ⟨113,[(4,some (some 2)),(5,none)],.seq (.ops [oo 4 (.alloc none [.im (.int .i64 0),.nils]),mc 5 (cb false)] []) (sq [mv 11 1,oo 12 (.indexSl 2 (.t 11) (ci 0)),ld 13 2 12,oo 6 (.alloc none [.im (.int .i64 0),.nils]),st 2 6 13] (.seq (.ops [fa 14 0 6,l0 15 14,bi 16 .eql 15 (ci 3),mv 17 16,og 18 (.fieldAddr 0 (.t 6)) 17 false,og 19 (.load none (.t 18)) 17 false,og 20 (.bin .eql (.t 19) (ci 4)) 17 false,po 21 17 20,mv 7 21] []) (.seq (sq [mv 22 0] (.block 0 (.seq (sq [bi 24 .eql 22 (cs [102,105,114,115,116]),mv 23 24] (.cond (.t 23) .skip (.ops [bi 25 .eql 22 (cs [115,101,99,111,110,100]),mv 23 25] []))) (.cond (.t 23) (sq [mc 8 (ci 0)] (.seq (sq [mv 26 0,bi 27 .eql 26 (cs [115,101,99,111,110,100])] (.cond (.t 27) (.ops [mc 8 (ci 1)] []) .skip)) (sq [ld 28 2 6,mv 29 8,oo 30 (.call false (cl 36) [.t 28,ci 6,.t 29]),ex 31 0 30,ex 32 1 30,st 2 4 31,mv 5 32] .ret))) (sq [bi 34 .eql 22 (cs [105,115,95,115,111,109,101]),mv 33 34] (.cond (.t 33) (.seq (.ops [oo 35 (.call false (cl 49) [ci 1]),fa 36 0 6,l0 37 36,bi 38 .eql 37 (ci 9),st 2 4 35,mv 5 38] [(2,0),(2,4)]) .ret) (sq [bi 40 .eql 22 (cs [111,114,95,101,108,115,101]),mv 39 40] (.cond (.t 39) (sq [ld 42 2 6,oo 43 (.call false (cl 36) [.t 42,ci 9,ci 0]),mv 41 43,ex 44 0 41,ex 45 1 41,oo 9 (.alloc none [.im (.int .i64 0),.nils]),st 2 9 44,mv 10 45] (.seq (.ops [ld 46 2 9,mv 47 10,mv 48 47,og 49 (.load (some 2) (.t 9)) 48 true,og 50 (.move (.t 1)) 48 true,og 51 (.indexSl 2 (.t 50) (ci 1)) 48 true,og 52 (.load (some 2) (.t 51)) 48 true,og 53 (.call false (cl 16) [.t 49,.t 52]) 48 true,pa 54 48 53,st 2 4 46,mv 5 54] [(0,7)]) .ret)) (sq [bi 56 .eql 22 (cs [106,111,105,110]),mv 55 56] (.cond (.t 55) (.seq (.ops [ld 57 2 6,mv 58 1,oo 59 (.bslice false 1 2 [.im (.int .i64 0)] [(0,ci 3),(1,ci 3)]),oo 60 (.call false (cl 82) [.t 58,.t 59]),st 2 4 57,mv 5 60] [(0,3)]) .ret) (sq [bi 62 .eql 22 (cs [115,105,122,101]),mv 61 62] (.cond (.t 61) (sq [oo 63 (.call false (cl 49) [ci 2]),mv 64 7,st 2 4 63,mv 5 64] .ret) (sq [bi 66 .eql 22 (cs [99,117,116]),mv 65 66] (.cond (.t 65) (.seq (.ops [ld 67 2 6,mv 68 7,mv 69 68,og 70 (.move (.t 1)) 69 true,og 71 (.slice 2 (.t 70) (some (ci 1)) none none) 69 true,og 72 (.bslice false 1 2 [.im (.int .i64 0)] [(0,ci 2),(1,ci 2)]) 69 true,og 73 (.call false (cl 82) [.t 71,.t 72]) 69 true,pa 74 69 73,st 2 4 67,mv 5 74] [(0,6)]) .ret) (sq [bi 76 .eql 22 (cs [98,121,116,101,115]),mv 75 76] (.cond (.t 75) (.seq (.ops [oo 77 (.call false (cl 49) [ci 4]),fa 78 0 6,l0 79 78,bi 80 .eql 79 (ci 3),st 2 4 77,mv 5 80] [(2,0),(2,4)]) .ret) (sq [bi 82 .eql 22 (cs [116,101,120,116]),mv 81 82] (.cond (.t 81) (.seq (.ops [oo 83 (.call false (cl 49) [ci 3]),fa 84 0 6,l0 85 84,bi 86 .eql 85 (ci 4),st 2 4 83,mv 5 86] [(2,0),(2,4)]) .ret) (sq [bi 88 .eql 22 (cs [115,104,111,119]),mv 87 88] (.cond (.t 87) (.seq (.ops [oo 89 (.call false (cl 49) [ci 3]),fa 90 0 6,l0 91 90,bi 92 .eql 91 (ci 2),st 2 4 89,mv 5 92] [(2,0),(2,4)]) .ret) (sq [bi 94 .eql 22 (cs [112,111,105,110,116]),mv 93 94] (.cond (.t 93) (sq [oo 95 (.call false (cl 49) [ci 5]),mv 96 1,oo 97 (.bslice false 1 2 [.im (.int .i64 0)] [(0,ci 2),(1,ci 2)]),oo 98 (.call false (cl 82) [.t 96,.t 97]),st 2 4 95,mv 5 98] .ret) (.seq (sq [bi 100 .eql 22 (cs [114,101]),mv 99 100] (.cond (.t 99) .skip (.ops [bi 101 .eql 22 (cs [105,109]),mv 99 101] []))) (.cond (.t 99) (.seq (.ops [oo 102 (.call false (cl 49) [ci 2]),fa 103 0 6,l0 104 103,bi 105 .eql 104 (ci 5),st 2 4 102,mv 5 105] [(2,0),(2,4)]) .ret) (sq [bi 107 .eql 22 (cs [99,111,110,106]),mv 106 107] (.cond (.t 106) (.seq (.ops [ld 108 2 6,fa 109 0 6,l0 110 109,bi 111 .eql 110 (ci 5),st 2 4 108,mv 5 111] [(2,4)]) .ret) .skip)))))))))))))))))))))))))) (sq [oo 112 (.build [.im (.int .i64 0),.nils] []),st 2 4 112,mc 5 (cb false)] .ret)))),false⟩
theorem F84 : F 84 = some f84 := by kernel_rfl
def f85 : AFunc := ⟨50,[(10,none)],.seq (.ops [oo 5 (.box none (.t 0)),mc 10 (cb false)] []) (sq [mv 11 1,mv 12 11,og 13 (.fieldAddr 1 (.t 5)) 12 false,og 14 (.load none (.t 13)) 12 false,og 15 (.bin .eql (.t 14) (ci 0)) 12 false,po 16 12 15,mv 17 16,og 18 (.move (.t 2)) 17 true,og 19 (.move (.t 18)) 17 true,og 20 (.fieldAddr 2 (.t 5)) 19 false,og 21 (.load none (.t 20)) 19 false,og 22 (.bin .eql (.t 21) (cs [])) 19 false,og 23 (.pick (.t 19) (cb true) (.t 22)) 17 true,pa 24 17 23,mv 25 24,og 26 (.move (.t 3)) 25 true,og 27 (.move (.t 26)) 25 true,og 28 (.fieldAddr 3 (.t 5)) 27 false,og 29 (.fieldAddr 0 (.t 28)) 27 false,og 30 (.load none (.t 29)) 27 false,og 31 (.bin .eql (.t 30) (ci 0)) 27 false,og 32 (.move (.t 31)) 27 false,og 33 (.fieldAddr 3 (.t 5)) 32 true,og 34 (.fieldAddr 1 (.t 33)) 32 true,og 35 (.load none (.t 34)) 32 true,og 36 (.lenSl (.t 35)) 32 true,og 37 (.bin .eql (.t 36) (ci 0)) 32 true,og 38 (.pick (.t 32) (.t 37) (cb false)) 27 false,og 39 (.pick (.t 27) (cb true) (.t 38)) 25 true,pa 40 25 39,mv 41 40,og 42 (.move (.t 4)) 41 true,og 43 (.move (.t 42)) 41 true,og 44 (.fieldAddr 5 (.t 5)) 43 false,og 45 (.load none (.t 44)) 43 false,og 46 (.lenSl (.t 45)) 43 false,og 47 (.bin .eql (.t 46) (ci 0)) 43 false,og 48 (.pick (.t 43) (cb true) (.t 47)) 41 true,pa 49 41 48,mv 10 49] .ret),false⟩
theorem F85 : F 85 = some f85 := by kernel_rfl
def f86 : AFunc := ⟨19,[(4,none),(5,none)],.seq (.ops [mc 4 (ci 0),oo 5 (.move (.c (.im .nili)))] []) (sq [mv 6 0,oo 7 (.call false (cl 111) [.t 6])] (.seq (.ops [mv 8 0,mv 9 0,nc 10 9,fa 11 1 10,l0 12 11,mv 13 1,oo 14 (.append 5 1 1 (.t 12) (.t 13)),nc 15 8,fa 16 1 15,st 1 16 14] []) (sq [mv 17 1,oo 18 (.lenStr (.t 17)),mv 4 18,oo 5 (.move (.c (.im .nili)))] .ret))),false⟩
theorem F86 : F 86 = some f86 := by kernel_rfl
def b88_0 : ACode := sq [bi 14 .lss 13 (.t 12)] (.seq (.cond (.t 14) .skip (.exit 0)) (.seq (.block 1 (sq [oo 15 (.indexSl 1 (.t 11) (.t 13)),l0 16 15,mv 5 16] (.seq (.ops [mv 17 5,oo 18 (.call false (cl 104) [.t 17])] []) (.cond (.t 18) (.ops [mv 19 0,nc 20 19,fa 21 0 20,mv 22 5,oo 23 (.call false (cl 113) [.t 21,.t 22])] []) (.ops [mv 24 0,nc 25 24,fa 26 0 25,mv 27 5,oo 28 (.bin .shr (.t 27) (.c (.im (.int .u64 4)))),oo 29 (.indexStr (cs [48,49,50,51,52,53,54,55,56,57,97,98,99,100,101,102]) (.t 28)),oo 30 (.i2s (.t 29)),oo 31 (.bin .add (cs [92]) (.t 30)),mv 32 5,oo 33 (.bin .and (.t 32) (.c (.im (.int .u8 15)))),oo 34 (.indexStr (cs [48,49,50,51,52,53,54,55,56,57,97,98,99,100,101,102]) (.t 33)),oo 35 (.i2s (.t 34)),bi 36 .add 31 (.t 35),oo 37 (.call false (cl 86) [.t 26,.t 36])] []))))) (.ops [bi 38 .add 13 (ci 1),mv 13 38] [])))
def c88_0 : ACode := .loop b88_0
theorem e88_0 : exec0 Φ Λ' c88_0 tm H K = thenL (Λ' c88_0 tm H) K := rfl
theorem l88_0 : Λ c88_0 tm H = exec0 L Λ b88_0 tm H fun e tm H => match e with
  | .normal => Λ c88_0 tm H
  | .exit i => some (.exit i, tm, H)
  | .goto l => some (.goto l, tm, H)
  | .ret => some (.ret, tm, H) := loop_eq
def f88 : AFunc := ⟨43,[],.seq (.ops [mv 6 0,nc 7 6,fa 8 0 7,oo 9 (.call false (cl 113) [.t 8,.c (.im (.int .u8 34))])] []) (.seq (sq [mv 10 1,oo 11 (.s2b (.t 10)),oo 12 (.lenSl (.t 11)),mc 13 (ci 0)] (.block 0 c88_0)) (.ops [mv 39 0,nc 40 39,fa 41 0 40,oo 42 (.call false (cl 113) [.t 41,.c (.im (.int .u8 34))])] [])),false⟩
theorem F88 : F 88 = some f88 := by kernel_rfl
def f89 : AFunc := ⟨35,[(2,none)],.seq (.ops [mc 2 (cb false)] []) (.seq (sq [mv 5 0,bi 6 .eql 5 (cs []),mv 7 6,og 8 (.move (.t 0)) 7 false,og 9 (.lenStr (.t 8)) 7 false,og 10 (.bin .gtr (.t 9) (ci 16)) 7 false,po 11 7 10,mv 12 11,og 13 (.move (.t 0)) 12 false,og 14 (.indexStr (.t 13) (ci 0)) 12 false,og 15 (.bin .lss (.t 14) (.c (.im (.int .u8 97)))) 12 false,po 16 12 15,mv 17 16,og 18 (.move (.t 0)) 17 false,og 19 (.indexStr (.t 18) (ci 0)) 17 false,og 20 (.bin .gtr (.t 19) (.c (.im (.int .u8 122)))) 17 false,po 21 17 20] (.cond (.t 21) (sq [mc 2 (cb false)] .ret) .skip)) (sq [mv 23 0,oo 24 (.call false (cl 77) [.t 23]),mv 22 24,ex 25 0 22,ex 26 1 22,mv 3 25,mv 4 26] (.seq (.ops [mv 27 4,oo 28 (.un .not (.t 27)),mv 29 28,og 30 (.move (.t 0)) 29 true,og 31 (.s2b (.t 30)) 29 true,og 32 (.call false (cl 114) [.t 31,cl 115]) 29 true,og 33 (.un .not (.t 32)) 29 true,pa 34 29 33,mv 2 34] []) .ret))),false⟩
theorem F89 : F 89 = some f89 := by kernel_rfl
def f90 : AFunc := ⟨18,[(2,none),(3,none)],.seq (.ops [oo 1 (.box none (.t 0)),mc 2 (cs []),mc 3 (ci 0)] []) (.seq (sq [ld 6 2 1,oo 7 (.call false (cl 33) [.t 6]),mv 4 7] (.seq (.ops [mv 8 4,bi 9 .neq 8 (ci 0)] []) (.cond (.t 9) (sq [mv 10 4,mc 2 (cs []),mv 3 10] .ret) .skip))) (sq [oo 11 (.build [.im .nilp,.nils] []),oo 12 (.box (some 111) (.t 11)),mv 5 12] (.seq (.ops [mv 13 5,ld 14 2 1,oo 15 (.call false (cl 116) [.t 13,.t 14])] []) (sq [mv 16 5,oo 17 (.call false (cl 59) [.t 16]),mv 2 17,mc 3 (ci 0)] .ret)))),false⟩
theorem F90 : F 90 = some f90 := by kernel_rfl
def b91_0 : ACode := sq [bi 42 .lss 41 (.t 40)] (.seq (.cond (.t 42) .skip (.exit 0)) (.seq (.block 1 (sq [mv 43 41,oo 44 (.indexSl 6 (.t 39) (.t 41)),ld 45 6 44,oo 9 (.alloc none [.im (.str []),.im (.int .i64 0),.im (.str []),.im (.int .i64 0),.nils,.nils]),mv 8 43,st 6 9 45] (.seq (.ops [mv 46 0,nc 47 46,fa 48 0 47,mv 49 8,oo 50 (.min (.t 49) (ci 1)),oo 51 (.indexStr (cs [40,44]) (.t 50)),oo 52 (.call false (cl 113) [.t 48,.t 51])] []) (.seq (sq [mv 53 2,mv 54 8,oo 55 (.indexStr (.t 53) (.t 54)),oo 56 (.bin .eql (.t 55) (.c (.im (.int .u8 110)))),mv 57 56,og 58 (.fieldAddr 0 (.t 9)) 57 true,og 59 (.load none (.t 58)) 57 true,og 60 (.bin .neq (.t 59) (cs [110,97,109,101])) 57 true,pa 61 57 60] (.cond (.t 61) (.ops [mv 62 0,nc 63 62,fa 64 2 63,⟨none,.store 1 (.t 64) (cb true),none⟩] []) .skip)) (.ops [mv 65 0,ld 66 6 9,mv 67 3,bi 68 .sub 67 (ci 1),oo 69 (.call false (cl 57) [.t 65,.t 66,.t 68])] []))))) (.ops [bi 70 .add 41 (ci 1),mv 41 70] [])))
def c91_0 : ACode := .loop b91_0
theorem e91_0 : exec0 Φ Λ' c91_0 tm H K = thenL (Λ' c91_0 tm H) K := rfl
theorem l91_0 : Λ c91_0 tm H = exec0 L Λ b91_0 tm H fun e tm H => match e with
  | .normal => Λ c91_0 tm H
  | .exit i => some (.exit i, tm, H)
  | .goto l => some (.goto l, tm, H)
  | .ret => some (.ret, tm, H) := loop_eq
def f91 : AFunc := ⟨79,[],.seq (.ops [oo 5 (.box none (.t 1))] []) (.seq (sq [mv 10 2,bi 11 .eql 10 (cs [43])] (.cond (.t 11) (.ops [fa 12 5 5,l0 13 12,oo 14 (.lenSl (.t 13)),oo 15 (.max (ci 1) (.t 14)),oo 16 (.min (.t 15) (ci 64)),oo 17 (.call false (cl 117) [cs [101],.t 16]),mv 2 17] []) .skip)) (.seq (sq [fa 18 5 5,l0 19 18,oo 20 (.lenSl (.t 19)),mv 21 2,oo 22 (.lenStr (.t 21)),bi 23 .neq 20 (.t 22),mv 24 23,og 25 (.load (some 6) (.t 5)) 24 false,og 26 (.call false (cl 85) [.t 25,cb false,cb false,cb false,cb true]) 24 false,og 27 (.un .not (.t 26)) 24 false,po 28 24 27] (.cond (.t 28) (sq [mv 29 0,nc 30 29,fa 31 2 30,⟨none,.store 1 (.t 31) (cb true),none⟩] .ret) .skip)) (sq [mv 32 0,nc 33 32,fa 34 0 33,fa 35 0 5,l0 36 35,oo 37 (.call false (cl 86) [.t 34,.t 36])] (.seq (sq [fa 38 5 5,l0 39 38,oo 40 (.lenSl (.t 39)),mc 41 (ci 0)] (.block 0 c91_0)) (sq [fa 71 5 5,l0 72 71,oo 73 (.lenSl (.t 72)),bi 74 .gtr 73 (ci 0)] (.cond (.t 74) (.ops [mv 75 0,nc 76 75,fa 77 0 76,oo 78 (.call false (cl 113) [.t 77,.c (.im (.int .u8 41))])] []) .skip)))))),false⟩
theorem F91 : F 91 = some f91 := by kernel_rfl
def b92_0 : ACode := sq [bi 9 .lss 8 (.t 7)] (.seq (.cond (.t 9) .skip (.exit 0)) (.seq (.block 1 (sq [mv 10 8,mv 5 10] (.seq (.ops [mv 11 1,mv 12 0,mv 13 5,oo 14 (.indexSl 3 (.t 12) (.t 13)),ld 15 3 14,oo 16 (.call false (.t 11) [.t 15])] []) (.cond (.t 16) (sq [mv 17 5,mv 4 17] .ret) .skip)))) (.ops [bi 18 .add 8 (ci 1),mv 8 18] [])))
def c92_0 : ACode := .loop b92_0
theorem e92_0 : exec0 Φ Λ' c92_0 tm H K = thenL (Λ' c92_0 tm H) K := rfl
theorem l92_0 : Λ c92_0 tm H = exec0 L Λ b92_0 tm H fun e tm H => match e with
  | .normal => Λ c92_0 tm H
  | .exit i => some (.exit i, tm, H)
  | .goto l => some (.goto l, tm, H)
  | .ret => some (.ret, tm, H) := loop_eq
def f92 : AFunc := ⟨19,[(4,none)],.seq (.ops [mc 4 (ci 0)] []) (.seq (sq [mv 6 0,oo 7 (.lenSl (.t 6)),mc 8 (ci 0)] (.block 0 c92_0)) (sq [oo 4 (.move (ci (-1)))] .ret)),false⟩
theorem F92 : F 92 = some f92 := by kernel_rfl
def f93 : AFunc := ⟨10,[(0,none)],.seq (.ops [oo 0 (.move (.c .nils))] []) (sq [oo 1 (.build [.im (.int .i64 0),.im (.str []),.im (.int .i64 0)] [(0,(1,ci 1)),(1,(1,cs [98,111,111,108])),(2,(1,ci 0))]),oo 2 (.build [.im (.int .i64 0),.im (.str []),.im (.int .i64 0)] [(0,(1,ci 2)),(1,(1,cs [105,110,116])),(2,(1,ci 0))]),oo 3 (.build [.im (.int .i64 0),.im (.str []),.im (.int .i64 0)] [(0,(1,ci 3)),(1,(1,cs [116,101,120,116])),(2,(1,ci 0))]),oo 4 (.build [.im (.int .i64 0),.im (.str []),.im (.int .i64 0)] [(0,(1,ci 4)),(1,(1,cs [98,121,116,101,115])),(2,(1,ci 0))]),oo 5 (.build [.im (.int .i64 0),.im (.str []),.im (.int .i64 0)] [(0,(1,ci 5)),(1,(1,cs [112,111,105,110,116])),(2,(1,ci 0))]),oo 6 (.build [.im (.int .i64 0),.im (.str []),.im (.int .i64 0)] [(0,(1,ci 6)),(1,(1,cs [112,97,105,114])),(2,(1,ci 2))]),oo 7 (.build [.im (.int .i64 0),.im (.str []),.im (.int .i64 0)] [(0,(1,ci 7)),(1,(1,cs [108,105,115,116])),(2,(1,ci 1))]),oo 8 (.build [.im (.int .i64 0),.im (.str []),.im (.int .i64 0)] [(0,(1,ci 9)),(1,(1,cs [111,112,116,105,111,110])),(2,(1,ci 1))]),oo 9 (.bslice true 3 8 [.im (.int .i64 0),.im (.str []),.im (.int .i64 0)] [(0,.t 1),(1,.t 2),(2,.t 3),(3,.t 4),(4,.t 5),(5,.t 6),(6,.t 7),(7,.t 8)]),mv 0 9] .ret),true⟩
theorem F93 : F 93 = some f93 := by kernel_rfl
def f94 : AFunc := ⟨9,[(3,none)],.seq (.ops [oo 2 (.box none (.t 0)),mc 3 (cb false)] []) (sq [fa 4 0 2,l0 5 4,fa 6 0 1,l0 7 6,bi 8 .eql 5 (.t 7),mv 3 8] .ret),false⟩
theorem F94 : F 94 = some f94 := by kernel_rfl
def f95 : AFunc := ⟨9,[(3,none)],.seq (.ops [oo 2 (.box none (.t 0)),mc 3 (cb false)] []) (sq [ld 4 2 2,l0 5 1,bi 6 .sub 5 (ci 1),oo 7 (.call false (cl 60) [.t 4,.t 6]),oo 8 (.un .not (.t 7)),mv 3 8] .ret),false⟩
theorem F95 : F 95 = some f95 := by kernel_rfl
def b99_0 : ACode := .seq (sq [mv 21 7,mv 22 0,oo 23 (.lenStr (.t 22)),bi 24 .lss 21 (.t 23),mv 25 24,og 26 (.move (.t 0)) 25 true,og 27 (.move (.t 7)) 25 true,og 28 (.indexStr (.t 26) (.t 27)) 25 true,og 29 (.call false (cl 119) [.t 28]) 25 true,og 30 (.move (.t 29)) 25 true,og 31 (.move (.t 0)) 30 false,og 32 (.move (.t 7)) 30 false,og 33 (.indexStr (.t 31) (.t 32)) 30 false,og 34 (.call false (cl 97) [.t 33]) 30 false,og 35 (.pick (.t 30) (cb true) (.t 34)) 25 true,og 36 (.move (.t 35)) 25 true,og 37 (.move (.t 0)) 36 false,og 38 (.move (.t 7)) 36 false,og 39 (.indexStr (.t 37) (.t 38)) 36 false,og 40 (.bin .eql (.t 39) (.c (.im (.int .u8 95)))) 36 false,og 41 (.pick (.t 36) (cb true) (.t 40)) 25 true,pa 42 25 41] (.cond (.t 42) .skip (.exit 0))) (.block 1 (.seq (sq [mv 43 7,mv 44 1,bi 45 .sub 43 (.t 44),bi 46 .eql 45 (ci 16)] (.cond (.t 46) (sq [mv 47 7,mc 4 (cs []),mv 5 47,mc 6 (cb false)] .ret) .skip)) (.ops [mv 48 7,bi 49 .add 48 (ci 1),mv 7 49] [])))
def c99_0 : ACode := .loop b99_0
def f99 : AFunc := ⟨55,[(4,none),(5,none),(6,none)],.seq (.ops [mc 4 (cs []),mc 5 (ci 0),mc 6 (cb false)] []) (.seq (sq [mv 8 1,mv 9 0,oo 10 (.lenStr (.t 9)),bi 11 .geq 8 (.t 10),mv 12 11,og 13 (.move (.t 0)) 12 false,og 14 (.move (.t 1)) 12 false,og 15 (.indexStr (.t 13) (.t 14)) 12 false,og 16 (.call false (cl 119) [.t 15]) 12 false,og 17 (.un .not (.t 16)) 12 false,po 18 12 17] (.cond (.t 18) (sq [mv 19 1,mc 4 (cs []),mv 5 19,mc 6 (cb false)] .ret) .skip)) (sq [mv 20 1,mv 7 20] (.seq (.block 0 c99_0) (sq [mv 50 0,mv 51 1,mv 52 7,oo 53 (.sliceStr (.t 50) (some (.t 51)) (some (.t 52))),mv 54 7,mv 4 53,mv 5 54,mc 6 (cb true)] .ret)))),false⟩
def f104 : AFunc := ⟨17,[(2,none)],.seq (.ops [mc 2 (cb false)] []) (sq [mv 3 0,oo 4 (.bin .geq (.t 3) (.c (.im (.int .u8 32)))),mv 5 4,og 6 (.move (.t 0)) 5 true,og 7 (.bin .leq (.t 6) (.c (.im (.int .u8 126)))) 5 true,pa 8 5 7,mv 9 8,og 10 (.move (.t 0)) 9 true,og 11 (.bin .neq (.t 10) (.c (.im (.int .u8 34)))) 9 true,pa 12 9 11,mv 13 12,og 14 (.move (.t 0)) 13 true,og 15 (.bin .neq (.t 14) (.c (.im (.int .u8 92)))) 13 true,pa 16 13 15,mv 2 16] .ret),false⟩
theorem F104 : F 104 = some f104 := by kernel_rfl
def f105 : AFunc := ⟨69,[(2,none)],.seq (.ops [oo 2 (.move (.c (.im (.int .u8 0))))] []) (sq [mv 6 0,oo 7 (.call false (cl 73) [.t 6]),oo 8 (.call false (cl 121) [.t 7]),mv 3 8] (.seq (sq [mv 9 0,oo 10 (.call false (cl 73) [.t 9]),oo 11 (.bin .eql (.t 10) (.c (.im (.int .u8 0)))),mv 12 11,og 13 (.move (.t 3)) 12 false,og 14 (.bin .lss (.t 13) (ci 0)) 12 false,po 15 12 14,mv 16 15,og 17 (.move (.t 3)) 16 false,og 18 (.bin .eql (.t 17) (ci 3)) 16 false,po 19 16 18,mv 20 19,og 21 (.move (.t 3)) 20 false,og 22 (.bin .eql (.t 21) (ci 4)) 20 false,po 23 20 22,mv 24 23,og 25 (.move (.t 3)) 24 false,og 26 (.bin .eql (.t 25) (ci 6)) 24 false,po 27 24 26] (.cond (.t 27) (sq [mv 28 0,nc 29 28,fa 30 2 29,⟨none,.store 1 (.t 30) (cb true),none⟩] (.seq (.ops [oo 2 (.move (.c (.im (.int .u8 0))))] []) .ret)) .skip)) (sq [mv 31 0,nc 32 31,fa 33 1 32,l0 34 33,bi 35 .add 34 (ci 1),nc 36 31,fa 37 1 36,st 1 37 35] (.seq (.ops [mv 38 0,oo 39 (.call false (cl 73) [.t 38]),oo 40 (.call false (cl 121) [.t 39]),mv 4 40] []) (sq [mv 41 3,oo 42 (.bin .shl (.t 41) (.c (.im (.int .u64 4)))),mv 43 4,bi 44 .and 43 (ci 15),bi 45 .or 42 (.t 44),oo 46 (.i2i .u8 (.t 45)),mv 5 46] (.seq (sq [mv 47 0,oo 48 (.call false (cl 73) [.t 47]),oo 49 (.bin .eql (.t 48) (.c (.im (.int .u8 0)))),mv 50 49,og 51 (.move (.t 4)) 50 false,og 52 (.bin .lss (.t 51) (ci 0)) 50 false,po 53 50 52,mv 54 53,og 55 (.move (.t 5)) 54 false,og 56 (.call false (cl 104) [.t 55]) 54 false,po 57 54 56] (.cond (.t 57) (sq [mv 58 0,nc 59 58,fa 60 2 59,⟨none,.store 1 (.t 60) (cb true),none⟩] (.seq (.ops [oo 2 (.move (.c (.im (.int .u8 0))))] []) .ret)) .skip)) (sq [mv 61 0,nc 62 61,fa 63 1 62,l0 64 63,bi 65 .add 64 (ci 1),nc 66 61,fa 67 1 66,st 1 67 65] (.seq (.ops [mv 68 5,mv 2 68] []) .ret)))))))),false⟩
theorem F105 : F 105 = some f105 := by kernel_rfl
def f106 : AFunc := ⟨24,[],.seq (sq [mv 4 0,nc 5 4,fa 6 2 5,l0 7 6] (.cond (.t 7) .ret .skip)) (.seq (sq [mv 8 0,oo 9 (.call false (cl 46) [.t 8])] (.seq (.ops [mv 10 0,oo 11 (.call false (cl 73) [.t 10]),mv 12 1,bi 13 .neq 11 (.t 12)] []) (.cond (.t 13) (sq [mv 14 0,nc 15 14,fa 16 2 15,⟨none,.store 1 (.t 16) (cb true),none⟩] .ret) .skip))) (.ops [mv 17 0,nc 18 17,fa 19 1 18,l0 20 19,bi 21 .add 20 (ci 1),nc 22 17,fa 23 1 22,st 1 23 21] [])),false⟩
theorem F106 : F 106 = some f106 := by kernel_rfl
def b107_0 : ACode := .seq (sq [mv 13 3,mv 14 0,nc 15 14,fa 16 0 15,l0 17 16,oo 18 (.lenStr (.t 17)),bi 19 .lss 13 (.t 18),mv 20 19,og 21 (.move (.t 0)) 20 true,og 22 (.nilCheck (.t 21)) 20 true,og 23 (.fieldAddr 0 (.t 22)) 20 true,og 24 (.load none (.t 23)) 20 true,og 25 (.move (.t 3)) 20 true,og 26 (.indexStr (.t 24) (.t 25)) 20 true,og 27 (.bin .geq (.t 26) (.c (.im (.int .u8 97)))) 20 true,og 28 (.move (.t 27)) 20 true,og 29 (.move (.t 0)) 28 true,og 30 (.nilCheck (.t 29)) 28 true,og 31 (.fieldAddr 0 (.t 30)) 28 true,og 32 (.load none (.t 31)) 28 true,og 33 (.move (.t 3)) 28 true,og 34 (.indexStr (.t 32) (.t 33)) 28 true,og 35 (.bin .leq (.t 34) (.c (.im (.int .u8 122)))) 28 true,og 36 (.pick (.t 28) (.t 35) (cb false)) 20 true,og 37 (.move (.t 36)) 20 true,og 38 (.move (.t 0)) 37 false,og 39 (.nilCheck (.t 38)) 37 false,og 40 (.fieldAddr 0 (.t 39)) 37 false,og 41 (.load none (.t 40)) 37 false,og 42 (.move (.t 3)) 37 false,og 43 (.indexStr (.t 41) (.t 42)) 37 false,og 44 (.call false (cl 122) [cs [40,41,44],.t 43]) 37 false,og 45 (.bin .geq (.t 44) (ci 0)) 37 false,og 46 (.pick (.t 37) (cb true) (.t 45)) 20 true,pa 47 20 46] (.cond (.t 47) .skip (.exit 0))) (.block 1 (.ops [mv 48 3,bi 49 .add 48 (ci 1),mv 3 49] []))
def c107_0 : ACode := .loop b107_0
def f107 : AFunc := ⟨106,[(2,some (some 2))],.seq (.ops [oo 2 (.alloc none [.im (.int .i64 0),.nils])] []) (sq [mv 7 0,oo 8 (.call false (cl 46) [.t 7])] (.seq (.ops [mv 9 0,nc 10 9,fa 11 1 10,l0 12 11,mv 3 12] []) (.seq (.block 0 c107_0) (.seq (.ops [mv 51 0,nc 52 51,fa 53 0 52,l0 54 53,mv 55 0,nc 56 55,fa 57 1 56,l0 58 57,mv 59 3,oo 60 (.sliceStr (.t 54) (some (.t 58)) (some (.t 59))),oo 61 (.call false (cl 123) [.t 60]),mv 50 61,ex 62 0 50,ex 63 1 50,ex 64 2 50,oo 4 (.alloc none [.im (.int .i64 0),.nils]),st 2 4 62,mv 5 63,mv 6 64] [(3,15),(7,15)]) (.seq (sq [mv 65 6,bi 66 .eql 65 (ci 0)] (.cond (.t 66) (sq [mv 67 0,mv 68 3,nc 69 67,fa 70 1 69,st 1 70 68] (.seq (.ops [ld 71 2 4,st 2 2 71] []) .ret)) .skip)) (.seq (sq [mv 73 0,nc 74 73,fa 75 0 74,l0 76 75,mv 77 0,nc 78 77,fa 79 1 78,l0 80 79,mv 81 0,nc 82 81,fa 83 1 82,l0 84 83,mv 85 5,bi 86 .add 84 (.t 85),oo 87 (.sliceStr (.t 76) (some (.t 80)) (some (.t 86))),oo 88 (.call false (cl 123) [.t 87]),mv 72 88,ex 89 0 72,ex 90 1 72,ex 91 2 72,st 2 4 89,mv 6 91] (.seq (.ops [mv 92 6,bi 93 .neq 92 (ci 0)] []) (.cond (.t 93) (.ops [mv 94 0,nc 95 94,fa 96 2 95,⟨none,.store 1 (.t 96) (cb true),none⟩] []) .skip))) (sq [mv 97 0,nc 98 97,fa 99 1 98,l0 100 99,mv 101 5,bi 102 .add 100 (.t 101),nc 103 97,fa 104 1 103,st 1 104 102] (.seq (.ops [ld 105 2 4,st 2 2 105] []) .ret)))))))),false⟩
theorem F107 : F 107 = some f107 := by kernel_rfl
def f108 : AFunc := ⟨42,[(2,some (some 6))],.seq (.ops [oo 2 (.alloc none [.im (.str []),.im (.int .i64 0),.im (.str []),.im (.int .i64 0),.nils,.nils])] []) (sq [mv 5 0,oo 6 (.call false (cl 46) [.t 5])] (.seq (.ops [mv 7 0,nc 8 7,fa 9 1 8,l0 10 9,mv 3 10] []) (sq [mv 11 0,oo 12 (.call false (cl 76) [.t 11]),mv 4 12] (.seq (sq [mv 13 0,nc 14 13,fa 15 1 14,l0 16 15,mv 17 3,bi 18 .sub 16 (.t 17),bi 19 .eql 18 (ci 16),mv 20 19,og 21 (.move (.t 0)) 20 true,og 22 (.call false (cl 73) [.t 21]) 20 true,og 23 (.call false (cl 78) [.t 22]) 20 true,pa 24 20 23,mv 25 24,og 26 (.move (.t 4)) 25 false,og 27 (.bin .eql (.t 26) (cs [])) 25 false,po 28 25 27] (.cond (.t 28) (sq [mv 29 0,nc 30 29,fa 31 2 30,⟨none,.store 1 (.t 31) (cb true),none⟩] (.seq (.ops [oo 32 (.build [.im (.str []),.im (.int .i64 0),.im (.str []),.im (.int .i64 0),.nils,.nils] []),st 6 2 32] []) .ret)) .skip)) (.seq (sq [mv 33 4,oo 34 (.call false (cl 89) [.t 33]),oo 35 (.un .not (.t 34))] (.cond (.t 35) (sq [mv 36 0,nc 37 36,fa 38 2 37,⟨none,.store 1 (.t 38) (cb true),none⟩] (.seq (.ops [oo 39 (.build [.im (.str []),.im (.int .i64 0),.im (.str []),.im (.int .i64 0),.nils,.nils] []),st 6 2 39] []) .ret)) .skip)) (sq [mv 40 4,oo 41 (.build [.im (.str []),.im (.int .i64 0),.im (.str []),.im (.int .i64 0),.nils,.nils] [(0,(1,cs [110,97,109,101])),(2,(1,.t 40))]),st 6 2 41] .ret)))))),false⟩
theorem F108 : F 108 = some f108 := by kernel_rfl
def b109_0 : ACode := sq [bi 18 .lss 17 (.t 16)] (.seq (.cond (.t 18) .skip (.exit 0)) (.seq (.block 1 (sq [mv 19 17,oo 20 (.indexSl 2 (.t 15) (.t 17)),ld 21 2 20,oo 8 (.alloc none [.im (.int .i64 0),.nils]),mv 7 19,st 2 8 21] (.seq (.ops [mv 22 1,mv 23 7,oo 24 (.indexSl 1 (.t 22) (.t 23)),l0 25 24,mv 9 25] []) (sq [mv 26 2,ld 27 2 8,mv 28 9,oo 29 (.call false (.t 26) [.t 27,.t 28]),oo 30 (.un .not (.t 29))] (.cond (.t 30) (sq [mc 6 (cb false)] .ret) .skip))))) (.ops [bi 31 .add 17 (ci 1),mv 17 31] [])))
def c109_0 : ACode := .loop b109_0
theorem e109_0 : exec0 Φ Λ' c109_0 tm H K = thenL (Λ' c109_0 tm H) K := rfl
theorem l109_0 : Λ c109_0 tm H = exec0 L Λ b109_0 tm H fun e tm H => match e with
  | .normal => Λ c109_0 tm H
  | .exit i => some (.exit i, tm, H)
  | .goto l => some (.goto l, tm, H)
  | .ret => some (.ret, tm, H) := loop_eq
def f109 : AFunc := ⟨32,[(6,none)],.seq (.ops [mc 6 (cb false)] []) (.seq (sq [mv 10 0,oo 11 (.lenSl (.t 10)),mv 12 1,oo 13 (.lenSl (.t 12)),bi 14 .neq 11 (.t 13)] (.cond (.t 14) (sq [mc 6 (cb false)] .ret) .skip)) (.seq (sq [mv 15 0,oo 16 (.lenSl (.t 15)),mc 17 (ci 0)] (.block 0 c109_0)) (sq [mc 6 (cb true)] .ret))),false⟩
theorem F109 : F 109 = some f109 := by kernel_rfl
def f110 : AFunc := ⟨9,[(4,none)],.seq (.ops [oo 2 (.box none (.t 0)),mc 4 (cb false)] []) (sq [fa 5 0 2,l0 6 5,mv 7 1,bi 8 .eql 6 (.t 7),mv 4 8] .ret),false⟩
theorem F110 : F 110 = some f110 := by kernel_rfl
def f113 : AFunc := ⟨17,[(4,none)],.seq (.ops [oo 4 (.move (.c (.im .nili)))] []) (sq [mv 5 0,oo 6 (.call false (cl 111) [.t 5])] (.seq (.ops [mv 7 0,mv 8 0,nc 9 8,fa 10 1 9,l0 11 10,mv 12 1,oo 13 (.bslice false 1 1 [.im (.int .u8 0)] [(0,.t 12)]),oo 14 (.append 5 1 1 (.t 11) (.t 13)),nc 15 7,fa 16 1 15,st 1 16 14] []) (sq [oo 4 (.move (.c (.im .nili)))] .ret))),false⟩
theorem F113 : F 113 = some f113 := by kernel_rfl
def f114 : AFunc := ⟨9,[(4,none)],.seq (.ops [mc 4 (cb false)] []) (sq [mv 5 0,mv 6 1,oo 7 (.call false (cl 126) [.t 5,.t 6]),bi 8 .geq 7 (ci 0),mv 4 8] .ret),false⟩
theorem F114 : F 114 = some f114 := by kernel_rfl
def f115 : AFunc := ⟨6,[(2,none)],.seq (.ops [mc 2 (cb false)] []) (sq [mv 3 0,oo 4 (.call false (cl 78) [.t 3]),oo 5 (.un .not (.t 4)),mv 2 5] .ret),false⟩
theorem F115 : F 115 = some f115 := by kernel_rfl
def b116_0 : ACode := sq [bi 28 .lss 27 (.t 26)] (.seq (.cond (.t 28) .skip (.exit 2)) (.seq (.block 3 (sq [mv 29 27,oo 30 (.indexSl 2 (.t 25) (.t 27)),ld 31 2 30,oo 7 (.alloc none [.im (.int .i64 0),.nils]),mv 6 29,st 2 7 31] (.seq (.ops [mv 32 0,mv 33 6,oo 34 (.indexStr (cs [40,44]) (.t 33)),oo 35 (.call false (cl 113) [.t 32,.t 34])] []) (.ops [mv 36 0,ld 37 2 7,oo 38 (.call false (cl 116) [.t 36,.t 37])] [])))) (.ops [bi 39 .add 27 (ci 1),mv 27 39] [])))
def c116_0 : ACode := .loop b116_0
theorem e116_0 : exec0 Φ Λ' c116_0 tm H K = thenL (Λ' c116_0 tm H) K := rfl
theorem l116_0 : Λ c116_0 tm H = exec0 L Λ b116_0 tm H fun e tm H => match e with
  | .normal => Λ c116_0 tm H
  | .exit i => some (.exit i, tm, H)
  | .goto l => some (.goto l, tm, H)
  | .ret => some (.ret, tm, H) := loop_eq
def b116_1 : ACode := sq [bi 11 .lss 10 (.t 9)] (.seq (.cond (.t 11) .skip (.exit 0)) (.seq (.block 1 (sq [oo 12 (.indexSl 3 (.t 8) (.t 10)),ld 13 3 12,oo 5 (.alloc none [.im (.int .i64 0),.im (.str []),.im (.int .i64 0)]),st 3 5 13] (.seq (.ops [fa 14 0 5,l0 15 14,fa 16 0 3,l0 17 16,bi 18 .eql 15 (.t 17)] []) (.cond (.t 18) (.ops [mv 19 0,fa 20 1 5,l0 21 20,oo 22 (.call false (cl 86) [.t 19,.t 21])] []) .skip)))) (.ops [bi 23 .add 10 (ci 1),mv 10 23] [])))
def c116_1 : ACode := .loop b116_1
theorem e116_1 : exec0 Φ Λ' c116_1 tm H K = thenL (Λ' c116_1 tm H) K := rfl
theorem l116_1 : Λ c116_1 tm H = exec0 L Λ b116_1 tm H fun e tm H => match e with
  | .normal => Λ c116_1 tm H
  | .exit i => some (.exit i, tm, H)
  | .goto l => some (.goto l, tm, H)
  | .ret => some (.ret, tm, H) := loop_eq
def f116 : AFunc := ⟨46,[],.seq (.ops [oo 3 (.box none (.t 1))] []) (.seq (sq [oo 8 (.call false (cl 93) []),oo 9 (.lenSl (.t 8)),mc 10 (ci 0)] (.block 0 c116_1)) (.seq (sq [fa 24 1 3,l0 25 24,oo 26 (.lenSl (.t 25)),mc 27 (ci 0)] (.block 2 c116_0)) (sq [fa 40 1 3,l0 41 40,oo 42 (.lenSl (.t 41)),bi 43 .gtr 42 (ci 0)] (.cond (.t 43) (.ops [mv 44 0,oo 45 (.call false (cl 113) [.t 44,.c (.im (.int .u8 41))])] []) .skip)))),false⟩
theorem F116 : F 116 = some f116 := by kernel_rfl
def f121 : AFunc := ⟨5,[(2,none)],.seq (.ops [mc 2 (ci 0)] []) (sq [mv 3 0,oo 4 (.call false (cl 122) [cs [48,49,50,51,52,53,54,55,56,57,97,98,99,100,101,102],.t 3]),mv 2 4] .ret),false⟩
theorem F121 : F 121 = some f121 := by kernel_rfl
def f122 : AFunc := ⟨8,[(4,none)],.seq (.ops [mc 4 (ci 0)] []) (sq [mv 5 0,mv 6 1,oo 7 (.call false (cl 131) [.t 5,.t 6]),mv 4 7] .ret),false⟩
theorem F122 : F 122 = some f122 := by kernel_rfl
def f123 : AFunc := ⟨32,[(2,some (some 2)),(3,none),(4,none)],.seq (.ops [oo 2 (.alloc none [.im (.int .i64 0),.nils]),mc 3 (ci 0),mc 4 (ci 0)] []) (sq [mv 7 0,oo 8 (.build [.im (.str []),.im (.int .i64 0)] [(0,(1,.t 7))]),oo 9 (.box none (.t 8)),mv 5 9] (.seq (.ops [mv 11 5,oo 12 (.call false (cl 132) [.t 11,ci 6]),mv 10 12,ex 13 0 10,ex 14 1 10,st 2 2 13,mv 6 14] []) (.seq (sq [mv 15 6,oo 16 (.un .not (.t 15)),mv 17 16,og 18 (.move (.t 5)) 17 false,og 19 (.nilCheck (.t 18)) 17 false,og 20 (.fieldAddr 1 (.t 19)) 17 false,og 21 (.load none (.t 20)) 17 false,og 22 (.move (.t 0)) 17 false,og 23 (.lenStr (.t 22)) 17 false,og 24 (.bin .lss (.t 21) (.t 23)) 17 false,po 25 17 24] (.cond (.t 25) (.seq (.ops [oo 26 (.build [.im (.int .i64 0),.nils] []),mv 27 5,nc 28 27,fa 29 1 28,l0 30 29,st 2 2 26,mv 3 30,mc 4 (ci 40)] [(4,5)]) .ret) .skip)) (sq [ld 31 2 2,st 2 2 31,mc 3 (ci 0),mc 4 (ci 0)] .ret)))),false⟩
theorem F123 : F 123 = some f123 := by kernel_rfl
def b126_0 : ACode := sq [bi 9 .lss 8 (.t 7)] (.seq (.cond (.t 9) .skip (.exit 0)) (.seq (.block 1 (sq [mv 10 8,mv 5 10] (.seq (.ops [mv 11 1,mv 12 0,mv 13 5,oo 14 (.indexSl 1 (.t 12) (.t 13)),l0 15 14,oo 16 (.call false (.t 11) [.t 15])] []) (.cond (.t 16) (sq [mv 17 5,mv 4 17] .ret) .skip)))) (.ops [bi 18 .add 8 (ci 1),mv 8 18] [])))
def c126_0 : ACode := .loop b126_0
theorem e126_0 : exec0 Φ Λ' c126_0 tm H K = thenL (Λ' c126_0 tm H) K := rfl
theorem l126_0 : Λ c126_0 tm H = exec0 L Λ b126_0 tm H fun e tm H => match e with
  | .normal => Λ c126_0 tm H
  | .exit i => some (.exit i, tm, H)
  | .goto l => some (.goto l, tm, H)
  | .ret => some (.ret, tm, H) := loop_eq
def f126 : AFunc := ⟨19,[(4,none)],.seq (.ops [mc 4 (ci 0)] []) (.seq (sq [mv 6 0,oo 7 (.lenSl (.t 6)),mc 8 (ci 0)] (.block 0 c126_0)) (sq [oo 4 (.move (ci (-1)))] .ret)),false⟩
theorem F126 : F 126 = some f126 := by kernel_rfl
def b132_0 : ACode := sq [bi 27 .lss 26 (.t 25)] (.seq (.cond (.t 27) .skip (.exit 0)) (.seq (.block 1 (sq [mv 28 26,mv 9 28] (.seq (sq [mv 29 0,mv 30 9,oo 31 (.indexStr (cs [40,44]) (.t 30)),oo 32 (.call false (cl 143) [.t 29,.t 31]),oo 33 (.un .not (.t 32))] (.cond (.t 33) (sq [oo 34 (.build [.im (.int .i64 0),.nils] []),st 2 4 34,mc 5 (cb false)] .ret) .skip)) (sq [mv 36 0,mv 37 1,bi 38 .sub 37 (ci 1),oo 39 (.call false (cl 132) [.t 36,.t 38]),mv 35 39,ex 40 0 35,ex 41 1 35,oo 10 (.alloc none [.im (.int .i64 0),.nils]),st 2 10 40,mv 11 41] (.seq (sq [mv 42 11,oo 43 (.un .not (.t 42))] (.cond (.t 43) (sq [oo 44 (.build [.im (.int .i64 0),.nils] []),st 2 4 44,mc 5 (cb false)] .ret) .skip)) (.ops [fa 45 1 8,l0 46 45,ld 47 2 10,oo 48 (.bslice false 2 1 [.im (.int .i64 0),.nils] [(0,.t 47)]),oo 49 (.append 34 32 2 (.t 46) (.t 48)),fa 50 1 8,st 1 50 49] [])))))) (.ops [bi 51 .add 26 (ci 1),mv 26 51] [])))
def c132_0 : ACode := .loop b132_0
def f132 : AFunc := ⟨60,[(4,some (some 2)),(5,none)],.seq (.ops [oo 4 (.alloc none [.im (.int .i64 0),.nils]),mc 5 (cb false)] []) (sq [mv 13 0,mv 14 1,oo 15 (.call false (cl 142) [.t 13,.t 14]),mv 12 15,ex 16 0 12,ex 17 1 12,oo 6 (.alloc none [.im (.int .i64 0),.im (.str []),.im (.int .i64 0)]),st 3 6 16,mv 7 17] (.seq (sq [mv 18 7,oo 19 (.un .not (.t 18))] (.cond (.t 19) (sq [oo 20 (.build [.im (.int .i64 0),.nils] []),st 2 4 20,mc 5 (cb false)] .ret) .skip)) (sq [fa 21 0 6,l0 22 21,oo 23 (.build [.im (.int .i64 0),.nils] [(0,(1,.t 22))]),oo 8 (.alloc none [.im (.int .i64 0),.nils]),st 2 8 23] (.seq (sq [fa 24 2 6,l0 25 24,mc 26 (ci 0)] (.block 0 c132_0)) (.seq (.ops [ld 52 2 8,fa 53 2 6,l0 54 53,bi 55 .eql 54 (ci 0),mv 56 55,og 57 (.move (.t 0)) 56 false,og 58 (.call false (cl 143) [.t 57,.c (.im (.int .u8 41))]) 56 false,po 59 56 58,st 2 4 52,mv 5 59] [(0,6)]) .ret))))),false⟩
theorem F132 : F 132 = some f132 := by kernel_rfl
def b142_0 : ACode := sq [bi 16 .lss 15 (.t 14)] (.seq (.cond (.t 16) .skip (.exit 0)) (.seq (.block 1 (sq [oo 17 (.indexSl 3 (.t 13) (.t 15)),ld 18 3 17,oo 9 (.alloc none [.im (.int .i64 0),.im (.str []),.im (.int .i64 0)]),st 3 9 18] (.seq (.ops [fa 19 1 9,l0 20 19,oo 21 (.lenStr (.t 20)),l0 22 7,bi 23 .eql 21 (.t 22)] []) (.cond (.t 23) (sq [ld 24 3 9,st 3 4 24,mc 5 (cb true)] .ret) .skip)))) (.ops [bi 25 .add 15 (ci 1),mv 15 25] [])))
def c142_0 : ACode := .loop b142_0
def c142_1 : ACode := .scope (sq [oo 10 (.call false (cl 93) []),oo 11 (.mkfunc 151 [.t 3]),oo 12 (.call false (cl 150) [.t 10,.t 11]),mv 6 12] (.seq (.ops [oo 7 (.alloc none [.im (.int .i64 0)]),⟨none,.store 1 (.t 7) (ci 0),none⟩] []) (.seq (.label 0) (.seq (sq [mv 13 6,oo 14 (.lenSl (.t 13)),mc 15 (ci 0)] (.block 0 c142_0)) (.seq (sq [l0 26 2,nc 27 26,fa 28 1 27,l0 29 28,l0 30 2,nc 31 30,fa 32 0 31,l0 33 32,oo 34 (.lenStr (.t 33)),bi 35 .lss 29 (.t 34)] (.cond (.t 35) (sq [mv 36 6,oo 37 (.mkfunc 152 [.t 7,.t 2]),oo 38 (.call false (cl 150) [.t 36,.t 37]),mv 6 38] (.seq (.ops [mv 39 6,oo 40 (.lenSl (.t 39)),bi 41 .gtr 40 (ci 0)] []) (.cond (.t 41) (sq [l0 42 2,nc 43 42,fa 44 1 43,l0 45 44,bi 46 .add 45 (ci 1),nc 47 42,fa 48 1 47,st 1 48 46] (.seq (.ops [l0 49 7,bi 50 .add 49 (ci 1),st 1 7 50] []) (.goto 0))) .skip))) .skip)) (sq [oo 51 (.build [.im (.int .i64 0),.im (.str []),.im (.int .i64 0)] []),st 3 4 51,mc 5 (cb false)] .ret)))))) (sq [oo 10 (.call false (cl 93) []),oo 11 (.mkfunc 151 [.t 3]),oo 12 (.call false (cl 150) [.t 10,.t 11]),mv 6 12] (.seq (.ops [oo 7 (.alloc none [.im (.int .i64 0)]),⟨none,.store 1 (.t 7) (ci 0),none⟩] []) (.seq (.label 0) (.seq (sq [mv 13 6,oo 14 (.lenSl (.t 13)),mc 15 (ci 0)] (.block 0 c142_0)) (.seq (sq [l0 26 2,nc 27 26,fa 28 1 27,l0 29 28,l0 30 2,nc 31 30,fa 32 0 31,l0 33 32,oo 34 (.lenStr (.t 33)),bi 35 .lss 29 (.t 34)] (.cond (.t 35) (sq [mv 36 6,oo 37 (.mkfunc 152 [.t 7,.t 2]),oo 38 (.call false (cl 150) [.t 36,.t 37]),mv 6 38] (.seq (.ops [mv 39 6,oo 40 (.lenSl (.t 39)),bi 41 .gtr 40 (ci 0)] []) (.cond (.t 41) (sq [l0 42 2,nc 43 42,fa 44 1 43,l0 45 44,bi 46 .add 45 (ci 1),nc 47 42,fa 48 1 47,st 1 48 46] (.seq (.ops [l0 49 7,bi 50 .add 49 (ci 1),st 1 7 50] []) (.goto 0))) .skip))) .skip)) (sq [oo 51 (.build [.im (.int .i64 0),.im (.str []),.im (.int .i64 0)] []),st 3 4 51,mc 5 (cb false)] .ret))))))
def f142 : AFunc := ⟨52,[(4,some (some 3)),(5,none)],.seq (.ops [oo 2 (.box none (.t 0)),oo 3 (.box none (.t 1)),oo 4 (.alloc none [.im (.int .i64 0),.im (.str []),.im (.int .i64 0)]),mc 5 (cb false)] []) c142_1,false⟩
theorem F142 : F 142 = some f142 := by kernel_rfl
def f143 : AFunc := ⟨35,[(4,none)],.seq (.ops [mc 4 (cb false)] []) (.seq (sq [mv 5 0,nc 6 5,fa 7 1 6,l0 8 7,mv 9 0,nc 10 9,fa 11 0 10,l0 12 11,oo 13 (.lenStr (.t 12)),bi 14 .lss 8 (.t 13),mv 15 14,og 16 (.move (.t 0)) 15 true,og 17 (.nilCheck (.t 16)) 15 true,og 18 (.fieldAddr 0 (.t 17)) 15 true,og 19 (.load none (.t 18)) 15 true,og 20 (.move (.t 0)) 15 true,og 21 (.nilCheck (.t 20)) 15 true,og 22 (.fieldAddr 1 (.t 21)) 15 true,og 23 (.load none (.t 22)) 15 true,og 24 (.indexStr (.t 19) (.t 23)) 15 true,og 25 (.move (.t 1)) 15 true,og 26 (.bin .eql (.t 24) (.t 25)) 15 true,pa 27 15 26] (.cond (.t 27) (sq [mv 28 0,nc 29 28,fa 30 1 29,l0 31 30,bi 32 .add 31 (ci 1),nc 33 28,fa 34 1 33,st 1 34 32] (.seq (.ops [mc 4 (cb true)] []) .ret)) .skip)) (sq [mc 4 (cb false)] .ret)),false⟩
theorem F143 : F 143 = some f143 := by kernel_rfl
def b150_0 : ACode := .seq (sq [mv 16 6,mv 17 0,oo 18 (.lenSl (.t 17)),bi 19 .lss 16 (.t 18)] (.cond (.t 19) .skip (.exit 0))) (.seq (.block 1 (sq [mv 22 0,mv 23 6,oo 24 (.indexSl 3 (.t 22) (.t 23)),ld 25 3 24,oo 7 (.alloc none [.im (.int .i64 0),.im (.str []),.im (.int .i64 0)]),st 3 7 25] (.seq (.ops [mv 26 1,ld 27 3 7,oo 28 (.call false (.t 26) [.t 27]),oo 29 (.un .not (.t 28))] []) (.cond (.t 29) (sq [mv 30 0,mv 31 5,ld 32 3 7,oo 33 (.indexSl 3 (.t 30) (.t 31)),st 3 33 32] (.ops [mv 34 5,bi 35 .add 34 (ci 1),mv 5 35] [])) .skip)))) (.ops [mv 20 6,bi 21 .add 20 (ci 1),mv 6 21] []))
def c150_0 : ACode := .loop b150_0
def f150 : AFunc := ⟨42,[(4,none)],.seq (.ops [oo 4 (.move (.c .nils))] []) (sq [mv 8 0,mv 9 1,oo 10 (.call false (cl 92) [.t 8,.t 9]),mv 5 10] (.seq (sq [mv 11 5,oo 12 (.bin .eql (.t 11) (ci (-1)))] (.cond (.t 12) (sq [mv 13 0,mv 4 13] .ret) .skip)) (.seq (sq [mv 14 5,bi 15 .add 14 (ci 1),mv 6 15] (.block 0 c150_0)) (sq [mv 36 0,mv 37 5,oo 38 (.slice 3 (.t 36) (some (.t 37)) none none),⟨none,.clear 3 [.im (.int .i64 0),.im (.str []),.im (.int .i64 0)] (.t 38),none⟩] (.seq (.ops [mv 39 0,mv 40 5,oo 41 (.slice 3 (.t 39) none (some (.t 40)) none),mv 4 41] []) .ret))))),true⟩
theorem F150 : F 150 = some f150 := by kernel_rfl
def f151 : AFunc := ⟨11,[(3,none)],.seq (.ops [oo 2 (.box none (.t 0)),mc 3 (cb false)] []) (sq [fa 4 2 2,l0 5 4,bi 6 .gtr 5 (ci 0),mv 7 6,og 8 (.load none (.t 1)) 7 true,og 9 (.bin .eql (.t 8) (ci 1)) 7 true,pa 10 7 9,mv 3 10] .ret),false⟩
theorem F151 : F 151 = some f151 := by kernel_rfl
def f152 : AFunc := ⟨19,[(4,none)],.seq (.ops [oo 3 (.box none (.t 0)),mc 4 (cb false)] []) (sq [fa 5 1 3,l0 6 5,l0 7 1,oo 8 (.indexStr (.t 6) (.t 7)),l0 9 2,nc 10 9,fa 11 0 10,l0 12 11,l0 13 2,nc 14 13,fa 15 1 14,l0 16 15,oo 17 (.indexStr (.t 12) (.t 16)),bi 18 .neq 8 (.t 17),mv 4 18] .ret),false⟩
theorem F152 : F 152 = some f152 := by kernel_rfl
def T : FuncId → Option AFunc := fun n =>
 if n = 9 then some f9 else
 if n = 10 then some f10 else
 if n = 14 then some f14 else
 if n = 16 then some f16 else
 if n = 27 then some f27 else
 if n = 28 then some f28 else
 if n = 29 then some f29 else
 if n = 30 then some f30 else
 if n = 32 then some f32 else
 if n = 33 then some f33 else
 if n = 34 then some f34 else
 if n = 36 then some f36 else
 if n = 45 then some f45 else
 if n = 46 then some f46 else
 if n = 47 then some f47 else
 if n = 48 then some f48 else
 if n = 49 then some f49 else
 if n = 50 then some f50 else
 if n = 51 then some f51 else
 if n = 52 then some f52 else
 if n = 53 then some f53 else
 if n = 54 then some f54 else
 if n = 55 then some f55 else
 if n = 56 then some f56 else
 if n = 57 then some f57 else
 if n = 58 then some f58 else
 if n = 60 then some f60 else
 if n = 61 then some f61 else
 if n = 73 then some f73 else
 if n = 74 then some f74 else
 if n = 75 then some f75 else
 if n = 76 then some f76 else
 if n = 77 then some f77 else
 if n = 78 then some f78 else
 if n = 79 then some f79 else
 if n = 80 then some f80 else
 if n = 81 then some f81 else
 if n = 82 then some f82 else
 if n = 83 then some f83 else
 if n = 84 then some f84 else
 if n = 85 then some f85 else
 if n = 86 then some f86 else
 if n = 88 then some f88 else
 if n = 89 then some f89 else
 if n = 90 then some f90 else
 if n = 91 then some f91 else
 if n = 92 then some f92 else
 if n = 93 then some f93 else
 if n = 94 then some f94 else
 if n = 95 then some f95 else
 if n = 104 then some f104 else
 if n = 105 then some f105 else
 if n = 106 then some f106 else
 if n = 107 then some f107 else
 if n = 108 then some f108 else
 if n = 109 then some f109 else
 if n = 110 then some f110 else
 if n = 113 then some f113 else
 if n = 114 then some f114 else
 if n = 115 then some f115 else
 if n = 116 then some f116 else
 if n = 121 then some f121 else
 if n = 122 then some f122 else
 if n = 123 then some f123 else
 if n = 126 then some f126 else
 if n = 132 then some f132 else
 if n = 142 then some f142 else
 if n = 143 then some f143 else
 if n = 150 then some f150 else
 if n = 151 then some f151 else
 if n = 152 then some f152 else
 none
end Go.Abs.Seat
end
section
set_option linter.unusedVariables false
set_option linter.unusedSimpArgs false
namespace Go.Abs.Seat
open Go.Proofs
abbrev Word := Int × List UInt8 × Int
def encW (w : Word) : List AV := [.im (.int .i64 w.1), .im (.str w.2.1), .im (.int .i64 w.2.2)]
def words : List Word := [(1, [98, 111, 111, 108], 0), (2, [105, 110, 116], 0), (3, [116, 101, 120, 116], 0), (4, [98, 121, 116, 101, 115], 0), (5, [112, 111, 105, 110, 116], 0), (6, [112, 97, 105, 114], 2), (7, [108, 105, 115, 116], 1), (9, [111, 112, 116, 105, 111, 110], 1)]
set_option maxRecDepth 10000 in
theorem s93 (H : Heap) : L 93 [] H = some (.ms 3 H.length 0 8, H ++ [.obj none (words.map encW)]) := by
 rw [leq F93]
 have e : leave H true (.ms 3 H.length 0 8) (H ++ [.obj none (words.map encW)]) = (.ms 3 H.length 0 8, H ++ [.obj none (words.map encW)]) := by
  unfold leave
  rw [if_neg (by simp [refsLt])]
  rfl
 obtain ⟨hlen, -⟩ := enter_at (f := f93) (args := []) (by decide)
 generalize enterA f93 [] = tm at *
 change tm.length = 10 at hlen
 simp only [f93,B0,B2,exec0,xreg,xops,aopc,endK,resA,tupA,List.replicate,binA,isShift,binInt,reduceCtorEq,lenA,seval,hlen]
 rw [← e]
 rfl
theorem s94 (H : Heap) (w : Word) (k' : Int) (id : Nat) (x : AV) (hid : H[id]? = some (.obj none [[.im (.int .i64 k'), x]])) :
  L 94 [.im (.agg [.int .i64 w.1, .str w.2.1, .int .i64 w.2.2]), .ptr id 0 0] H = some (.im (.bool (decide (w.1 = k'))), H) := by
 have hlt := (List.getElem?_eq_some_iff.1 hid).1
 have h2 : ∀ o, (H ++ [o])[id]? = some (.obj none [[.im (.int .i64 k'), x]]) := fun o => by rw [List.getElem?_append_left hlt]; exact hid
 rw [leq F94]
 obtain ⟨hlen, ha⟩ := enter_at (f := f94) (args := [.im (.agg [.int .i64 w.1, .str w.2.1, .int .i64 w.2.2]), .ptr id 0 0]) (Nat.le_of_ble_eq_true rfl)
 have h0 := ha 0 _ rfl
 have h1 := ha 1 _ rfl
 generalize enterA f94 [.im (.agg [.int .i64 w.1, .str w.2.1, .int .i64 w.2.2]), .ptr id 0 0] = tm at *
 change tm.length = 9 at hlen
 simp only [f94,B0,B2,exec0,xreg,xops,aopc,endK,resA,tupA,List.replicate,binA,isShift,binInt,reduceCtorEq,lenA,seval,hlen,h0,h1,h2,leave_app]
theorem l92 (rows : List Word) (idw idt : Nat) (k' : Int) (x : AV) (H : Heap) (hw : H[idw]? = some (.obj none (rows.map encW))) (hid : H[idt]? = some (.obj none [[.im (.int .i64 k'), x]])) (hn : rows.length ≤ 9223372036854775807) :
  ∀ (m i : Nat), i + m = rows.length → ∀ tm : List AV, tm.length = 19 → tm.getD 0 undefA = .ms 3 idw 0 rows.length → tm.getD 1 undefA = .clo 94 [.ptr idt 0 0] → tm.getD 6 undefA = .ms 3 idw 0 rows.length → tm.getD 7 undefA = .im (.int .i64 rows.length) → tm.getD 8 undefA = .im (.int .i64 i) →
  ∃ e tm' H', Λ c92_0 tm H = some (e, tm', H') ∧ tm'.length = 19 ∧ H' = H ∧ match (rows.drop i).findIdx? (fun w => decide (w.1 = k')) with
   | some j => e = .ret ∧ tm'.getD 4 undefA = .im (.int .i64 ((i + j : Nat) : Int))
   | none => e = .exit 0
 | 0, i, hi, tm, hlen, h0, h1, h6, h7, h8 => by
  have e : rows.drop i = [] := by rw [List.drop_eq_nil_iff]; omega
  have hc : decide ((i : Int) < (rows.length : Int)) = false := by simp; omega
  rw [e, l92_0]
  simp only [b92_0,B0,B2,exec0,xreg,xops,aopc,endK,resA,tupA,List.replicate,binA,isShift,binInt,reduceCtorEq,lenA,seval,hlen,h0,h1,h6,h7,h8,hc,List.findIdx?_nil]
  exact ⟨_, _, _, rfl, by simp only [List.length_set,hlen], rfl, rfl⟩
 | m + 1, i, hi, tm, hlen, h0, h1, h6, h7, h8 => by
  have hlt : i < rows.length := by omega
  obtain ⟨w, hwi⟩ : ∃ w, rows[i]? = some w := ⟨_, List.getElem?_eq_getElem hlt⟩
  have e : rows.drop i = w :: rows.drop (i + 1) := by
   rw [List.drop_eq_getElem_cons hlt]
   congr 1
   rw [List.getElem?_eq_getElem hlt] at hwi
   exact Option.some.inj hwi
  have hc : decide ((i : Int) < (rows.length : Int)) = true := by simp; omega
  have hix := idx_nat hlt
  have hget : (rows.map encW)[i]? = some (encW w) := by rw [List.getElem?_map, hwi]; rfl
  have hcall := s94 H w k' idt x hid
  rw [e, List.findIdx?_cons, l92_0]
  by_cases hk : w.1 = k'
  ·have hd : decide (w.1 = k') = true := decide_eq_true hk
   simp only [b92_0,B0,B2,exec0,xreg,xops,aopc,endK,resA,tupA,List.replicate,binA,isShift,binInt,reduceCtorEq,lenA,seval,hlen,h0,h1,h6,h7,h8,hc,hix,hw,hget,encW,hcall,hd]
   exact ⟨_, _, _, rfl, by simp only [List.length_set,hlen], rfl, rfl, by simp only [B3,seval,hlen]⟩
  ·have hd : decide (w.1 = k') = false := decide_eq_false hk
   have hwr := wrap_nat (i := i) (by omega)
   have key := l92 rows idw idt k' x H hw hid hn m (i + 1) (by omega)
   simp only [b92_0,B0,B2,exec0,xreg,xops,aopc,endK,resA,tupA,List.replicate,binA,isShift,binInt,reduceCtorEq,lenA,seval,hlen,h0,h1,h6,h7,h8,hc,hix,hw,hget,encW,hcall,hd,hwr]
   cases hf : (rows.drop (i + 1)).findIdx? (fun w => decide (w.1 = k')) with
   | none =>
    simp only [hf] at key
    simp only [Option.map_none]
    apply key
    all_goals simp only [B3,seval,hlen,h0,h1,h6,h7]
   | some j =>
    simp only [hf] at key
    simp only [Option.map_some]
    rw [show i + (j + 1) = i + 1 + j by omega]
    apply key
    all_goals simp only [B3,seval,hlen,h0,h1,h6,h7]
end Go.Abs.Seat
end
section
set_option linter.unusedVariables false
set_option linter.unusedSimpArgs false
namespace Go.Abs.Seat
open Go.Proofs
theorem s92 (rows : List Word) (idw idt : Nat) (k' : Int) (x : AV) (H : Heap) (hw : H[idw]? = some (.obj none (rows.map encW))) (hid : H[idt]? = some (.obj none [[.im (.int .i64 k'), x]])) (hn : rows.length ≤ 9223372036854775807) :
  L 92 [.ms 3 idw 0 rows.length, .clo 94 [.ptr idt 0 0]] H = some (.im (.int .i64 (match rows.findIdx? (fun w => decide (w.1 = k')) with | some j => ((j : Nat) : Int) | none => -1)), H) := by
 rw [leq F92]
 obtain ⟨hlen, ha⟩ := enter_at (f := f92) (args := [.ms 3 idw 0 rows.length, .clo 94 [.ptr idt 0 0]]) (Nat.le_of_ble_eq_true rfl)
 have h0 := ha 0 _ rfl
 have h1 := ha 1 _ rfl
 generalize enterA f92 [.ms 3 idw 0 rows.length, .clo 94 [.ptr idt 0 0]] = tm at *
 change tm.length = 19 at hlen
 have key := l92 rows idw idt k' x H hw hid hn rows.length 0 (by omega)
 have z : ((0 : Nat) : Int) = 0 := rfl
 simp only [List.drop_zero,Nat.zero_add,z] at key
 simp only [f92,e92_0,B0,B2,exec0,xreg,xops,aopc,endK,resA,tupA,List.replicate,binA,isShift,binInt,reduceCtorEq,lenA,seval,hlen,h0,h1]
 refine thenL_of (key _ ?_ ?_ ?_ ?_ ?_ ?_) ?_
 iterate 6 simp only [B3,seval,hlen,h0,h1]
 rintro e tm' H' ⟨hl', rfl, hm⟩
 cases hf : rows.findIdx? (fun w => decide (w.1 = k')) with
 | none =>
  simp only [hf] at hm
  subst hm
  simp only [B0,B2,exec0,xreg,xops,aopc,endK,resA,tupA,List.replicate,binA,isShift,binInt,reduceCtorEq,lenA,seval,hl',leave_same]
 | some j =>
  simp only [hf] at hm
  obtain ⟨rfl, h4⟩ := hm
  simp only [B0,B2,exec0,xreg,xops,aopc,endK,resA,tupA,List.replicate,binA,isShift,binInt,reduceCtorEq,lenA,seval,hl',leave_same,h4]
inductive KT where
 | mk (k : Int) (s : Nat) (args : List KT)
def KT.k : KT → Int
 | .mk k _ _ => k
def KT.s : KT → Nat
 | .mk _ s _ => s
def KT.args : KT → List KT
 | .mk _ _ args => args
mutual
def encT : KT → List Dat
 | .mk k s args => [.int .i64 k, .sl s (encTs args)]
def encTs : List KT → List (List Dat)
 | [] => []
 | a :: l => encT a :: encTs l
end
theorem encTs_map : ∀ l : List KT, encTs l = l.map encT
 | [] => rfl
 | a :: l => by simp only [encTs,List.map_cons,encTs_map l]
mutual
def okT : KT → Prop
 | .mk _ s args => (args = [] ∨ s = 2) ∧ args.length ≤ 9223372036854775807 ∧ okTs args
def okTs : List KT → Prop
 | [] => True
 | a :: l => okT a ∧ okTs l
end
theorem okTs_mem : ∀ {l : List KT}, okTs l → ∀ a ∈ l, okT a
 | [], _, a, h => by simp at h
 | b :: l, h, a, hm => by
  simp only [okTs] at h
  rcases List.mem_cons.1 hm with rfl | hm
  ·exact h.1
  ·exact okTs_mem h.2 a hm
theorem l80 (args : List KT) (s : Nat) (hs : args = [] ∨ s = 2) (hn : args.length ≤ 9223372036854775807) (p : KT → Bool) (g : FuncId) (cap : List AV) (H : Heap)
  (hc : ∀ a ∈ args, L g ([.im (.agg (encT a))] ++ cap) H = some (.im (.bool (p a)), H)) :
  ∀ (m i : Nat), i + m = args.length → ∀ tm : List AV, tm.length = 19 → tm.getD 0 undefA = .im (.sl s (args.map encT)) → tm.getD 1 undefA = .clo g cap → tm.getD 6 undefA = .im (.sl s (args.map encT)) → tm.getD 7 undefA = .im (.int .i64 args.length) → tm.getD 8 undefA = .im (.int .i64 i) →
  ∃ e tm' H', Λ c80_0 tm H = some (e, tm', H') ∧ tm'.length = 19 ∧ H' = H ∧ match (args.drop i).findIdx? p with
   | some j => e = .ret ∧ tm'.getD 4 undefA = .im (.int .i64 ((i + j : Nat) : Int))
   | none => e = .exit 0
 | 0, i, hi, tm, hlen, h0, h1, h6, h7, h8 => by
  have e : args.drop i = [] := by rw [List.drop_eq_nil_iff]; omega
  have hc : decide ((i : Int) < (args.length : Int)) = false := by simp; omega
  rw [e, l80_0]
  simp only [b80_0,B0,B2,exec0,xreg,xops,aopc,endK,resA,tupA,List.replicate,binA,isShift,binInt,reduceCtorEq,lenA,seval,hlen,h0,h1,h6,h7,h8,hc,List.findIdx?_nil]
  exact ⟨_, _, _, rfl, by simp only [List.length_set,hlen], rfl, rfl⟩
 | m + 1, i, hi, tm, hlen, h0, h1, h6, h7, h8 => by
  have hlt : i < args.length := by omega
  obtain ⟨w, hwi⟩ : ∃ w, args[i]? = some w := ⟨_, List.getElem?_eq_getElem hlt⟩
  have e : args.drop i = w :: args.drop (i + 1) := by
   rw [List.drop_eq_getElem_cons hlt]
   congr 1
   rw [List.getElem?_eq_getElem hlt] at hwi
   exact Option.some.inj hwi
  have hs2 : s = 2 := by
   rcases hs with hs | hs
   ·subst hs; simp at hlt
   ·exact hs
  subst hs2
  have hc' : decide ((i : Int) < (args.length : Int)) = true := by simp; omega
  have hix := idx_nat (n := (args.map encT).length) (i := i) (by simpa using hlt)
  have hget : (args.map encT)[i]? = some (encT w) := by rw [List.getElem?_map, hwi]; rfl
  have hcall := hc w (List.mem_of_getElem? hwi)
  obtain ⟨k, s', ts⟩ := w
  have hwr := wrap_nat (i := i) (by omega)
  have key := l80 args 2 hs hn p g cap H hc m (i + 1) (by omega)
  rw [e, List.findIdx?_cons, l80_0]
  simp only [encT,List.cons_append,List.nil_append] at hcall hget
  cases hp : p (.mk k s' ts) with
  | true =>
   simp only [hp] at hcall
   simp only [b80_0,B0,B2,exec0,xreg,xops,aopc,endK,resA,tupA,List.replicate,binA,isShift,binInt,reduceCtorEq,lenA,seval,hlen,h0,h1,h6,h7,h8,hc',hix,hget,hcall]
   exact ⟨_, _, _, rfl, by simp only [List.length_set,hlen], rfl, rfl, by simp only [B3,seval,hlen]⟩
  | false =>
   simp only [hp] at hcall
   simp only [b80_0,B0,B2,exec0,xreg,xops,aopc,endK,resA,tupA,List.replicate,binA,isShift,binInt,reduceCtorEq,lenA,seval,hlen,h0,h1,h6,h7,h8,hc',hix,hget,hcall,hwr]
   cases hf : (args.drop (i + 1)).findIdx? p with
   | none =>
    simp only [hf] at key
    simp only [Option.map_none]
    apply key
    all_goals simp only [B3,seval,hlen,h0,h1,h6,h7]
   | some j =>
    simp only [hf] at key
    simp only [Option.map_some]
    rw [show i + (j + 1) = i + 1 + j by omega]
    apply key
    all_goals simp only [B3,seval,hlen,h0,h1,h6,h7]
theorem s80 (args : List KT) (s : Nat) (hs : args = [] ∨ s = 2) (hn : args.length ≤ 9223372036854775807) (p : KT → Bool) (g : FuncId) (cap : List AV) (H : Heap)
  (hc : ∀ a ∈ args, L g ([.im (.agg (encT a))] ++ cap) H = some (.im (.bool (p a)), H)) :
  L 80 [.im (.sl s (args.map encT)), .clo g cap] H = some (.im (.int .i64 (match args.findIdx? p with | some j => ((j : Nat) : Int) | none => -1)), H) := by
 rw [leq F80]
 obtain ⟨hlen, ha⟩ := enter_at (f := f80) (args := [.im (.sl s (args.map encT)), .clo g cap]) (Nat.le_of_ble_eq_true rfl)
 have h0 := ha 0 _ rfl
 have h1 := ha 1 _ rfl
 generalize enterA f80 [.im (.sl s (args.map encT)), .clo g cap] = tm at *
 change tm.length = 19 at hlen
 have key := l80 args s hs hn p g cap H hc args.length 0 (by omega)
 have z : ((0 : Nat) : Int) = 0 := rfl
 simp only [List.drop_zero,Nat.zero_add,z] at key
 simp only [f80,e80_0,B0,B2,exec0,xreg,xops,aopc,endK,resA,tupA,List.replicate,binA,isShift,binInt,reduceCtorEq,lenA,seval,hlen,h0,h1]
 refine thenL_of (key _ ?_ ?_ ?_ ?_ ?_ ?_) ?_
 iterate 6 simp only [B3,seval,hlen,h0,h1,List.length_map]
 rintro e tm' H' ⟨hl', rfl, hm⟩
 cases hf : args.findIdx? p with
 | none =>
  simp only [hf] at hm
  subst hm
  simp only [B0,B2,exec0,xreg,xops,aopc,endK,resA,tupA,List.replicate,binA,isShift,binInt,reduceCtorEq,lenA,seval,hl',leave_same]
 | some j =>
  simp only [hf] at hm
  obtain ⟨rfl, h4⟩ := hm
  simp only [B0,B2,exec0,xreg,xops,aopc,endK,resA,tupA,List.replicate,binA,isShift,binInt,reduceCtorEq,lenA,seval,hl',leave_same,h4]
theorem s48 (args : List KT) (s : Nat) (hs : args = [] ∨ s = 2) (hn : args.length ≤ 9223372036854775807) (p : KT → Bool) (g : FuncId) (cap : List AV) (H : Heap)
  (hc : ∀ a ∈ args, L g ([.im (.agg (encT a))] ++ cap) H = some (.im (.bool (p a)), H)) :
  L 48 [.im (.sl s (args.map encT)), .clo g cap] H = some (.im (.bool (args.any p)), H) := by
 have h102 := s80 args s hs hn p g cap H hc
 rw [leq F48]
 obtain ⟨hlen, ha⟩ := enter_at (f := f48) (args := [.im (.sl s (args.map encT)), .clo g cap]) (Nat.le_of_ble_eq_true rfl)
 have h0 := ha 0 _ rfl
 have h1 := ha 1 _ rfl
 generalize enterA f48 [.im (.sl s (args.map encT)), .clo g cap] = tm at *
 change tm.length = 9 at hlen
 simp only [f48,B0,B2,exec0,xreg,xops,aopc,endK,resA,tupA,List.replicate,binA,isShift,binInt,reduceCtorEq,lenA,seval,hlen,h0,h1,h102,leave_same]
 congr 4
 cases hf : args.findIdx? p with
 | none =>
  rw [List.findIdx?_eq_none_iff] at hf
  have : args.any p = false := by simpa using hf
  rw [this]; rfl
 | some j =>
  have : args.any p = true := by
   rw [List.any_eq_true]
   obtain ⟨h1, h2, _⟩ := List.findIdx?_eq_some_iff_getElem.1 hf
   exact ⟨_, List.getElem_mem h1, h2⟩
  rw [this]
  simp
end Go.Abs.Seat
end
section
set_option linter.unusedVariables false
set_option linter.unusedSimpArgs false
namespace Go.Abs.Seat
open Go.Proofs
def kidx (k : Int) : Option Nat := words.findIdx? (fun w => decide (w.1 = k))
def kcnt (i : Nat) : Int := match words[i]? with
 | some w => w.2.2
 | none => 0
mutual
def rightT : KT → Int → Bool
 | .mk k _ args, d => match kidx k with
  | some i => if d < 1 then false else if (args.length : Int) = kcnt i then !rightNot args (d - 1) else false
  | none => false
def rightNot : List KT → Int → Bool
 | [], _ => false
 | a :: l, d => !rightT a d || rightNot l d
end
theorem rightNot_any : ∀ (l : List KT) (d : Int), rightNot l d = l.any fun a => !rightT a d
 | [], d => rfl
 | a :: l, d => by simp only [rightNot,List.any_cons,rightNot_any l d]
theorem kidx_lt {k : Int} {i : Nat} (h : kidx k = some i) : i < 8 ∧ ∃ w, words[i]? = some w ∧ kcnt i = w.2.2 := by
 obtain ⟨h1, _, _⟩ := List.findIdx?_eq_some_iff_getElem.1 h
 refine ⟨h1, words[i], List.getElem?_eq_getElem h1, ?_⟩
 unfold kcnt
 rw [List.getElem?_eq_getElem h1]
theorem wrap_small (z : Int) (h : -9223372036854775808 ≤ z ∧ z < 9223372036854775808) : IntKind.i64.wrap z = z := by
 simp [IntKind.wrap, IntKind.bits, IntKind.signed]
 omega
theorem s95 (a : KT) (d : Int) (hd : 1 ≤ d ∧ d ≤ 1000) (idd : Nat) (H : Heap) (hid : H[idd]? = some (.obj none [[.im (.int .i64 d)]])) (b : Bool) (h51 : ∀ H, L 60 [.im (.agg (encT a)), .im (.int .i64 (d - 1))] H = some (.im (.bool b), H)) :
  L 95 [.im (.agg (encT a)), .ptr idd 0 0] H = some (.im (.bool (!b)), H) := by
 have hlt := (List.getElem?_eq_some_iff.1 hid).1
 have h2 : ∀ o, (H ++ [o])[idd]? = some (.obj none [[.im (.int .i64 d)]]) := fun o => by rw [List.getElem?_append_left hlt]; exact hid
 have hwr := wrap_small (d - 1) (by omega)
 obtain ⟨k, s, ts⟩ := a
 simp only [encT] at h51 ⊢
 rw [leq F95]
 obtain ⟨hlen, ha⟩ := enter_at (f := f95) (args := [.im (.agg [.int .i64 k, .sl s (encTs ts)]), .ptr idd 0 0]) (Nat.le_of_ble_eq_true rfl)
 have h0 := ha 0 _ rfl
 have h1 := ha 1 _ rfl
 generalize enterA f95 [.im (.agg [.int .i64 k, .sl s (encTs ts)]), .ptr idd 0 0] = tm at *
 change tm.length = 9 at hlen
 simp only [f95,B0,B2,exec0,xreg,xops,aopc,endK,resA,tupA,List.replicate,binA,isShift,binInt,reduceCtorEq,lenA,seval,hlen,h0,h1,h2,hwr,h51,leave_app]
theorem s60 : ∀ (t : KT), okT t → ∀ (d : Int), 0 ≤ d → d ≤ 1000 → ∀ H, L 60 [.im (.agg (encT t)), .im (.int .i64 d)] H = some (.im (.bool (rightT t d)), H)
 | .mk k s args, hok, d, hd0, hd1, H => by
  simp only [okT] at hok
  obtain ⟨hs, hn, hoks⟩ := hok
  have h76 := fun H' id (hid : H'[id]? = some (.obj none [[.im (.int .i64 k), .im (.sl s (encTs args))]])) (idw : Nat) (hw : H'[idw]? = some (.obj none (words.map encW))) => s92 words idw id k (.im (.sl s (encTs args))) H' hw hid (by decide)
  simp only [encT]
  rw [leq F60]
  obtain ⟨hlen, ha⟩ := enter_at (f := f60) (args := [.im (.agg [.int .i64 k, .sl s (encTs args)]), .im (.int .i64 d)]) (Nat.le_of_ble_eq_true rfl)
  have h0 := ha 0 _ rfl
  have h1 := ha 1 _ rfl
  generalize enterA f60 [.im (.agg [.int .i64 k, .sl s (encTs args)]), .im (.int .i64 d)] = tm at *
  change tm.length = 31 at hlen
  have h76' := h76 (H ++ [.obj none [[.im (.int .i64 k), .im (.sl s (encTs args))]], .obj none [[.im (.int .i64 d)]], .obj none (words.map encW)]) H.length (by rw [hget0]; rfl) (H.length + 2) (by rw [hget]; rfl)
  simp only [show words.length = 8 from rfl] at h76'
  cases hk : kidx k with
  | none =>
   unfold kidx at hk
   simp only [hk] at h76'
   have e1 : decide ((-1 : Int) < 0) = true := rfl
   simp only [f60,B0,B2,exec0,xreg,xops,aopc,endK,resA,tupA,List.replicate,binA,isShift,binInt,reduceCtorEq,lenA,seval,B4,stays,loadOf,hlen,h0,h1,s93,h76',e1,leave_app]
   have e2 : rightT (.mk k s args) d = false := by
    unfold rightT kidx
    rw [hk]
   rw [e2]
  | some i =>
   obtain ⟨hi8, w, hw, hcw⟩ := kidx_lt hk
   have hk' := hk
   unfold kidx at hk
   simp only [hk] at h76'
   have e1 : decide ((i : Int) < 0) = false := decide_eq_false (by omega)
   by_cases hd : d < 1
   ·have e3 : decide (d < 1) = true := decide_eq_true hd
    have e2 : rightT (.mk k s args) d = false := by
     simp only [rightT,hk',hd,if_true]
    simp only [f60,B0,B2,exec0,xreg,xops,aopc,endK,resA,tupA,List.replicate,binA,isShift,binInt,reduceCtorEq,lenA,seval,B4,stays,loadOf,hlen,h0,h1,s93,h76',e1,e3,leave_app]
    rw [e2]
   ·have e3 : decide (d < 1) = false := decide_eq_false hd
    have hix := idx_nat (n := 8) (i := i) hi8
    have hgw : (words.map encW)[i]? = some (encW w) := by rw [List.getElem?_map, hw]; rfl
    have hel : (encTs args).length = args.length := by rw [encTs_map]; simp
    by_cases hc : (args.length : Int) = w.2.2
    ·have e4 : decide ((args.length : Int) = w.2.2) = true := decide_eq_true hc
     have e2 : rightT (.mk k s args) d = !(args.any fun a => !rightT a (d - 1)) := by
      simp only [rightT,rightNot_any,hk',hd,if_false,hcw,hc,if_true]
     have h78 := s48 args s hs hn (fun a => !rightT a (d - 1)) 95 [.ptr (H.length + 1) 0 0] (H ++ [.obj none [[.im (.int .i64 k), .im (.sl s (encTs args))]], .obj none [[.im (.int .i64 d)]], .obj none (words.map encW), .obj none (words.map encW)])
      (fun a ha => s95 a d ⟨by omega, hd1⟩ (H.length + 1) _ (by rw [hget]; rfl) (rightT a (d - 1)) (fun H' => s60 a (okTs_mem hoks a ha) (d - 1) (by omega) (by omega) H'))
     rw [← encTs_map] at h78
     rw [e2]
     simp only [f60,B0,B2,exec0,xreg,xops,aopc,endK,resA,tupA,List.replicate,binA,isShift,binInt,reduceCtorEq,lenA,seval,B4,stays,loadOf,hlen,h0,h1,s93,h76',e1,e3,hix,hgw,encW,hel,e4,h78,leave_app]
    ·have e4 : decide ((args.length : Int) = w.2.2) = false := decide_eq_false hc
     have e2 : rightT (.mk k s args) d = false := by
      simp only [rightT,hk',hd,if_false,hcw,hc]
     simp only [f60,B0,B2,exec0,xreg,xops,aopc,endK,resA,tupA,List.replicate,binA,isShift,binInt,reduceCtorEq,lenA,seval,B4,stays,loadOf,hlen,h0,h1,s93,h76',e1,e3,hix,hgw,encW,hel,e4,leave_app]
     rw [e2]
termination_by t => SizeOf.sizeOf t
decreasing_by
 have := List.sizeOf_lt_of_mem ha
 simp only [KT.mk.sizeOf_spec]
 omega
end Go.Abs.Seat
end
section
set_option linter.unusedVariables false
set_option linter.unusedSimpArgs false
namespace Go.Abs.Seat
open Go.Proofs
mutual
def narrow : KT → Prop
 | .mk _ _ args => args.length ≤ 2 ∧ narrows args
def narrows : List KT → Prop
 | [] => True
 | a :: l => narrow a ∧ narrows l
end
theorem narrows_mem : ∀ {l : List KT}, narrows l → ∀ a ∈ l, narrow a
 | [], _, a, h => by simp at h
 | b :: l, h, a, hm => by
  simp only [narrows] at h
  rcases List.mem_cons.1 hm with rfl | hm
  ·exact h.1
  ·exact narrows_mem h.2 a hm
end Go.Abs.Seat
end
section
set_option linter.unusedVariables false
set_option linter.unusedSimpArgs false
namespace Go.Abs.Seat
open Go.Proofs
theorem word_len : ∀ w ∈ words, w.2.1.length ≤ 8 := by decide
def sepB (i : Nat) : UInt8 := if i = 0 then 40 else 44
end Go.Abs.Seat
end
section
set_option linter.unusedVariables false
set_option linter.unusedSimpArgs false
namespace Go.Abs.Seat
open Go.Proofs
def mkT (k : Int) (args : List KT) : KT := .mk k (if args.length = 0 then 0 else 2) args
def zeroT : KT := mkT 0 []
end Go.Abs.Seat
end
section
set_option linter.unusedVariables false
set_option linter.unusedSimpArgs false
namespace Go.Abs.Seat
open Go.Proofs
def letZ (n : Int) : Bool := decide (97 ≤ n) && decide (n ≤ 122)
def digZ (n : Int) : Bool := decide (48 ≤ n) && decide (n ≤ 57)
def namZ (n : Int) : Bool := (letZ n || digZ n) || decide (n = 95)
def plnZ (n : Int) : Bool := ((decide (32 ≤ n) && decide (n ≤ 126)) && !decide (n = 34)) && !decide (n = 92)
theorem s78 (n : Int) (H : Heap) : L 78 [.im (.int .u8 n)] H = some (.im (.bool (namZ n)), H) := by
 rw [leq F78]
 obtain ⟨hlen, ha⟩ := enter_at (f := f78) (args := [.im (.int .u8 n)]) (Nat.le_of_ble_eq_true rfl)
 have h0 := ha 0 _ rfl
 generalize enterA f78 [.im (.int .u8 n)] = tm at *
 change tm.length = 21 at hlen
 unfold namZ letZ digZ
 rcases Bool.eq_false_or_eq_true (decide (97 ≤ n)) with h1 | h1 <;> rcases Bool.eq_false_or_eq_true (decide (n ≤ 122)) with h2 | h2 <;> rcases Bool.eq_false_or_eq_true (decide (48 ≤ n)) with h3 | h3 <;> rcases Bool.eq_false_or_eq_true (decide (n ≤ 57)) with h4 | h4 <;>
  (rw [h1, h2, h3, h4]; simp only [f78,B0,B1,B2,List.replicate,reduceCtorEq,lenA,seval,endK,resA,tupA,hlen,h0,h1,h2,h3,h4,leave_same,Bool.true_and,Bool.false_and,Bool.true_or,Bool.false_or,Bool.or_true,Bool.or_false])
theorem s104 (n : Int) (H : Heap) : L 104 [.im (.int .u8 n)] H = some (.im (.bool (plnZ n)), H) := by
 rw [leq F104]
 obtain ⟨hlen, ha⟩ := enter_at (f := f104) (args := [.im (.int .u8 n)]) (Nat.le_of_ble_eq_true rfl)
 have h0 := ha 0 _ rfl
 generalize enterA f104 [.im (.int .u8 n)] = tm at *
 change tm.length = 17 at hlen
 unfold plnZ
 rcases Bool.eq_false_or_eq_true (decide (32 ≤ n)) with h1 | h1 <;> rcases Bool.eq_false_or_eq_true (decide (n ≤ 126)) with h2 | h2 <;> rcases Bool.eq_false_or_eq_true (decide (n = 34)) with h3 | h3 <;>
  (rw [h1, h2, h3]; simp only [f104,B0,B1,B2,List.replicate,reduceCtorEq,lenA,seval,endK,resA,tupA,hlen,h0,h1,h2,h3,leave_same,Bool.true_and,Bool.false_and,Bool.not_true,Bool.not_false,Bool.and_false,Bool.and_true])
def peekB (b : List UInt8) (p : Nat) : UInt8 := (b[p]?).getD 0
end Go.Abs.Seat
end
section
set_option linter.unusedVariables false
set_option linter.unusedSimpArgs false
namespace Go.Abs.Seat
open Go.Proofs
set_option maxRecDepth 10000 in
theorem Tok (f : FuncId) (af : AFunc) (h : T f = some af) : F f = some af ∧ closedC af.code = true := by
 unfold T at h
 by_cases h9 : f = 9
 ·subst h9; rw [if_pos rfl] at h; injection h with h; subst h; exact ⟨F9, by kernel_rfl⟩
 rw [if_neg h9] at h
 by_cases h10 : f = 10
 ·subst h10; rw [if_pos rfl] at h; injection h with h; subst h; exact ⟨F10, by kernel_rfl⟩
 rw [if_neg h10] at h
 by_cases h14 : f = 14
 ·subst h14; rw [if_pos rfl] at h; injection h with h; subst h; exact ⟨F14, by kernel_rfl⟩
 rw [if_neg h14] at h
 by_cases h16 : f = 16
 ·subst h16; rw [if_pos rfl] at h; injection h with h; subst h; exact ⟨F16, by kernel_rfl⟩
 rw [if_neg h16] at h
 by_cases h27 : f = 27
 ·subst h27; rw [if_pos rfl] at h; injection h with h; subst h; exact ⟨F27, by kernel_rfl⟩
 rw [if_neg h27] at h
 by_cases h28 : f = 28
 ·subst h28; rw [if_pos rfl] at h; injection h with h; subst h; exact ⟨F28, by kernel_rfl⟩
 rw [if_neg h28] at h
 by_cases h29 : f = 29
 ·subst h29; rw [if_pos rfl] at h; injection h with h; subst h; exact ⟨F29, by kernel_rfl⟩
 rw [if_neg h29] at h
 by_cases h30 : f = 30
 ·subst h30; rw [if_pos rfl] at h; injection h with h; subst h; exact ⟨F30, by kernel_rfl⟩
 rw [if_neg h30] at h
 by_cases h32 : f = 32
 ·subst h32; rw [if_pos rfl] at h; injection h with h; subst h; exact ⟨F32, by kernel_rfl⟩
 rw [if_neg h32] at h
 by_cases h33 : f = 33
 ·subst h33; rw [if_pos rfl] at h; injection h with h; subst h; exact ⟨F33, by kernel_rfl⟩
 rw [if_neg h33] at h
 by_cases h34 : f = 34
 ·subst h34; rw [if_pos rfl] at h; injection h with h; subst h; exact ⟨F34, by kernel_rfl⟩
 rw [if_neg h34] at h
 by_cases h36 : f = 36
 ·subst h36; rw [if_pos rfl] at h; injection h with h; subst h; exact ⟨F36, by kernel_rfl⟩
 rw [if_neg h36] at h
 by_cases h45 : f = 45
 ·subst h45; rw [if_pos rfl] at h; injection h with h; subst h; exact ⟨F45, by kernel_rfl⟩
 rw [if_neg h45] at h
 by_cases h46 : f = 46
 ·subst h46; rw [if_pos rfl] at h; injection h with h; subst h; exact ⟨F46, by kernel_rfl⟩
 rw [if_neg h46] at h
 by_cases h47 : f = 47
 ·subst h47; rw [if_pos rfl] at h; injection h with h; subst h; exact ⟨F47, by kernel_rfl⟩
 rw [if_neg h47] at h
 by_cases h48 : f = 48
 ·subst h48; rw [if_pos rfl] at h; injection h with h; subst h; exact ⟨F48, by kernel_rfl⟩
 rw [if_neg h48] at h
 by_cases h49 : f = 49
 ·subst h49; rw [if_pos rfl] at h; injection h with h; subst h; exact ⟨F49, by kernel_rfl⟩
 rw [if_neg h49] at h
 by_cases h50 : f = 50
 ·subst h50; rw [if_pos rfl] at h; injection h with h; subst h; exact ⟨F50, by kernel_rfl⟩
 rw [if_neg h50] at h
 by_cases h51 : f = 51
 ·subst h51; rw [if_pos rfl] at h; injection h with h; subst h; exact ⟨F51, by kernel_rfl⟩
 rw [if_neg h51] at h
 by_cases h52 : f = 52
 ·subst h52; rw [if_pos rfl] at h; injection h with h; subst h; exact ⟨F52, by kernel_rfl⟩
 rw [if_neg h52] at h
 by_cases h53 : f = 53
 ·subst h53; rw [if_pos rfl] at h; injection h with h; subst h; exact ⟨F53, by kernel_rfl⟩
 rw [if_neg h53] at h
 by_cases h54 : f = 54
 ·subst h54; rw [if_pos rfl] at h; injection h with h; subst h; exact ⟨F54, by kernel_rfl⟩
 rw [if_neg h54] at h
 by_cases h55 : f = 55
 ·subst h55; rw [if_pos rfl] at h; injection h with h; subst h; exact ⟨F55, by kernel_rfl⟩
 rw [if_neg h55] at h
 by_cases h56 : f = 56
 ·subst h56; rw [if_pos rfl] at h; injection h with h; subst h; exact ⟨F56, by kernel_rfl⟩
 rw [if_neg h56] at h
 by_cases h57 : f = 57
 ·subst h57; rw [if_pos rfl] at h; injection h with h; subst h; exact ⟨F57, by kernel_rfl⟩
 rw [if_neg h57] at h
 by_cases h58 : f = 58
 ·subst h58; rw [if_pos rfl] at h; injection h with h; subst h; exact ⟨F58, by kernel_rfl⟩
 rw [if_neg h58] at h
 by_cases h60 : f = 60
 ·subst h60; rw [if_pos rfl] at h; injection h with h; subst h; exact ⟨F60, by kernel_rfl⟩
 rw [if_neg h60] at h
 by_cases h61 : f = 61
 ·subst h61; rw [if_pos rfl] at h; injection h with h; subst h; exact ⟨F61, by kernel_rfl⟩
 rw [if_neg h61] at h
 by_cases h73 : f = 73
 ·subst h73; rw [if_pos rfl] at h; injection h with h; subst h; exact ⟨F73, by kernel_rfl⟩
 rw [if_neg h73] at h
 by_cases h74 : f = 74
 ·subst h74; rw [if_pos rfl] at h; injection h with h; subst h; exact ⟨F74, by kernel_rfl⟩
 rw [if_neg h74] at h
 by_cases h75 : f = 75
 ·subst h75; rw [if_pos rfl] at h; injection h with h; subst h; exact ⟨F75, by kernel_rfl⟩
 rw [if_neg h75] at h
 by_cases h76 : f = 76
 ·subst h76; rw [if_pos rfl] at h; injection h with h; subst h; exact ⟨F76, by kernel_rfl⟩
 rw [if_neg h76] at h
 by_cases h77 : f = 77
 ·subst h77; rw [if_pos rfl] at h; injection h with h; subst h; exact ⟨F77, by kernel_rfl⟩
 rw [if_neg h77] at h
 by_cases h78 : f = 78
 ·subst h78; rw [if_pos rfl] at h; injection h with h; subst h; exact ⟨F78, by kernel_rfl⟩
 rw [if_neg h78] at h
 by_cases h79 : f = 79
 ·subst h79; rw [if_pos rfl] at h; injection h with h; subst h; exact ⟨F79, by kernel_rfl⟩
 rw [if_neg h79] at h
 by_cases h80 : f = 80
 ·subst h80; rw [if_pos rfl] at h; injection h with h; subst h; exact ⟨F80, by kernel_rfl⟩
 rw [if_neg h80] at h
 by_cases h81 : f = 81
 ·subst h81; rw [if_pos rfl] at h; injection h with h; subst h; exact ⟨F81, by kernel_rfl⟩
 rw [if_neg h81] at h
 by_cases h82 : f = 82
 ·subst h82; rw [if_pos rfl] at h; injection h with h; subst h; exact ⟨F82, by kernel_rfl⟩
 rw [if_neg h82] at h
 by_cases h83 : f = 83
 ·subst h83; rw [if_pos rfl] at h; injection h with h; subst h; exact ⟨F83, by kernel_rfl⟩
 rw [if_neg h83] at h
 by_cases h84 : f = 84
 ·subst h84; rw [if_pos rfl] at h; injection h with h; subst h; exact ⟨F84, by kernel_rfl⟩
 rw [if_neg h84] at h
 by_cases h85 : f = 85
 ·subst h85; rw [if_pos rfl] at h; injection h with h; subst h; exact ⟨F85, by kernel_rfl⟩
 rw [if_neg h85] at h
 by_cases h86 : f = 86
 ·subst h86; rw [if_pos rfl] at h; injection h with h; subst h; exact ⟨F86, by kernel_rfl⟩
 rw [if_neg h86] at h
 by_cases h88 : f = 88
 ·subst h88; rw [if_pos rfl] at h; injection h with h; subst h; exact ⟨F88, by kernel_rfl⟩
 rw [if_neg h88] at h
 by_cases h89 : f = 89
 ·subst h89; rw [if_pos rfl] at h; injection h with h; subst h; exact ⟨F89, by kernel_rfl⟩
 rw [if_neg h89] at h
 by_cases h90 : f = 90
 ·subst h90; rw [if_pos rfl] at h; injection h with h; subst h; exact ⟨F90, by kernel_rfl⟩
 rw [if_neg h90] at h
 by_cases h91 : f = 91
 ·subst h91; rw [if_pos rfl] at h; injection h with h; subst h; exact ⟨F91, by kernel_rfl⟩
 rw [if_neg h91] at h
 by_cases h92 : f = 92
 ·subst h92; rw [if_pos rfl] at h; injection h with h; subst h; exact ⟨F92, by kernel_rfl⟩
 rw [if_neg h92] at h
 by_cases h93 : f = 93
 ·subst h93; rw [if_pos rfl] at h; injection h with h; subst h; exact ⟨F93, by kernel_rfl⟩
 rw [if_neg h93] at h
 by_cases h94 : f = 94
 ·subst h94; rw [if_pos rfl] at h; injection h with h; subst h; exact ⟨F94, by kernel_rfl⟩
 rw [if_neg h94] at h
 by_cases h95 : f = 95
 ·subst h95; rw [if_pos rfl] at h; injection h with h; subst h; exact ⟨F95, by kernel_rfl⟩
 rw [if_neg h95] at h
 by_cases h104 : f = 104
 ·subst h104; rw [if_pos rfl] at h; injection h with h; subst h; exact ⟨F104, by kernel_rfl⟩
 rw [if_neg h104] at h
 by_cases h105 : f = 105
 ·subst h105; rw [if_pos rfl] at h; injection h with h; subst h; exact ⟨F105, by kernel_rfl⟩
 rw [if_neg h105] at h
 by_cases h106 : f = 106
 ·subst h106; rw [if_pos rfl] at h; injection h with h; subst h; exact ⟨F106, by kernel_rfl⟩
 rw [if_neg h106] at h
 by_cases h107 : f = 107
 ·subst h107; rw [if_pos rfl] at h; injection h with h; subst h; exact ⟨F107, by kernel_rfl⟩
 rw [if_neg h107] at h
 by_cases h108 : f = 108
 ·subst h108; rw [if_pos rfl] at h; injection h with h; subst h; exact ⟨F108, by kernel_rfl⟩
 rw [if_neg h108] at h
 by_cases h109 : f = 109
 ·subst h109; rw [if_pos rfl] at h; injection h with h; subst h; exact ⟨F109, by kernel_rfl⟩
 rw [if_neg h109] at h
 by_cases h110 : f = 110
 ·subst h110; rw [if_pos rfl] at h; injection h with h; subst h; exact ⟨F110, by kernel_rfl⟩
 rw [if_neg h110] at h
 by_cases h113 : f = 113
 ·subst h113; rw [if_pos rfl] at h; injection h with h; subst h; exact ⟨F113, by kernel_rfl⟩
 rw [if_neg h113] at h
 by_cases h114 : f = 114
 ·subst h114; rw [if_pos rfl] at h; injection h with h; subst h; exact ⟨F114, by kernel_rfl⟩
 rw [if_neg h114] at h
 by_cases h115 : f = 115
 ·subst h115; rw [if_pos rfl] at h; injection h with h; subst h; exact ⟨F115, by kernel_rfl⟩
 rw [if_neg h115] at h
 by_cases h116 : f = 116
 ·subst h116; rw [if_pos rfl] at h; injection h with h; subst h; exact ⟨F116, by kernel_rfl⟩
 rw [if_neg h116] at h
 by_cases h121 : f = 121
 ·subst h121; rw [if_pos rfl] at h; injection h with h; subst h; exact ⟨F121, by kernel_rfl⟩
 rw [if_neg h121] at h
 by_cases h122 : f = 122
 ·subst h122; rw [if_pos rfl] at h; injection h with h; subst h; exact ⟨F122, by kernel_rfl⟩
 rw [if_neg h122] at h
 by_cases h123 : f = 123
 ·subst h123; rw [if_pos rfl] at h; injection h with h; subst h; exact ⟨F123, by kernel_rfl⟩
 rw [if_neg h123] at h
 by_cases h126 : f = 126
 ·subst h126; rw [if_pos rfl] at h; injection h with h; subst h; exact ⟨F126, by kernel_rfl⟩
 rw [if_neg h126] at h
 by_cases h132 : f = 132
 ·subst h132; rw [if_pos rfl] at h; injection h with h; subst h; exact ⟨F132, by kernel_rfl⟩
 rw [if_neg h132] at h
 by_cases h142 : f = 142
 ·subst h142; rw [if_pos rfl] at h; injection h with h; subst h; exact ⟨F142, by kernel_rfl⟩
 rw [if_neg h142] at h
 by_cases h143 : f = 143
 ·subst h143; rw [if_pos rfl] at h; injection h with h; subst h; exact ⟨F143, by kernel_rfl⟩
 rw [if_neg h143] at h
 by_cases h150 : f = 150
 ·subst h150; rw [if_pos rfl] at h; injection h with h; subst h; exact ⟨F150, by kernel_rfl⟩
 rw [if_neg h150] at h
 by_cases h151 : f = 151
 ·subst h151; rw [if_pos rfl] at h; injection h with h; subst h; exact ⟨F151, by kernel_rfl⟩
 rw [if_neg h151] at h
 by_cases h152 : f = 152
 ·subst h152; rw [if_pos rfl] at h; injection h with h; subst h; exact ⟨F152, by kernel_rfl⟩
 rw [if_neg h152] at h
 simp at h
theorem bsh : ∀ n H0, n = H0.length → ShO n H0 bld bld := fun _ _ h => itoaO_sh (repO_sh (idxO_sh (strO_sh h none_sh)))
theorem Tno (f : FuncId) (_ : T f = none) : F f = none ∨ ∀ args H, bld f args H = none := by
 by_cases h1 : f = 111
 ·subst h1; left; kernel_rfl
 by_cases h2 : f = 59
 ·subst h2; left; kernel_rfl
 by_cases h3 : f = 131
 ·subst h3; left; kernel_rfl
 by_cases h4 : f = 87
 ·subst h4; left; kernel_rfl
 by_cases h5 : f = 117
 ·subst h5; left; kernel_rfl
 right
 intro args H
 simp only [bld,itoaO,repO,idxO,strO,h1,h2,h3,h4,h5,if_false]
end Go.Abs.Seat
end
section
set_option linter.unusedVariables false
set_option linter.unusedSimpArgs false
namespace Go.Abs.Seat
open Go.Proofs
def shapes : List (List UInt8 × List UInt8) := [([116, 114, 117, 101], []),
 ([102, 97, 108, 115, 101], []),
 ([105, 116], []),
 ([110, 101, 103], [101]),
 ([110, 111, 116], [101]),
 ([102, 105, 114, 115, 116], [101]),
 ([115, 101, 99, 111, 110, 100], [101]),
 ([108, 101, 110], [101]),
 ([115, 111, 114, 116], [101]),
 ([115, 111, 109, 101], [101]),
 ([105, 115, 95, 115, 111, 109, 101], [101]),
 ([115, 105, 122, 101], [101]),
 ([98, 121, 116, 101, 115], [101]),
 ([116, 101, 120, 116], [101]),
 ([115, 104, 111, 119], [101]),
 ([114, 101], [101]),
 ([105, 109], [101]),
 ([99, 111, 110, 106], [101]),
 ([114, 97, 110, 103, 101], [101]),
 ([97, 100, 100], [101, 101]),
 ([115, 117, 98], [101, 101]),
 ([109, 117, 108], [101, 101]),
 ([100, 105, 118], [101, 101]),
 ([109, 111, 100], [101, 101]),
 ([101, 113], [101, 101]),
 ([108, 116], [101, 101]),
 ([97, 110, 100], [101, 101]),
 ([111, 114], [101, 101]),
 ([112, 97, 105, 114], [101, 101]),
 ([99, 111, 110, 115], [101, 101]),
 ([99, 111, 110, 99, 97, 116], [101, 101]),
 ([97, 116], [101, 101]),
 ([111, 114, 95, 101, 108, 115, 101], [101, 101]),
 ([106, 111, 105, 110], [101, 101]),
 ([112, 111, 105, 110, 116], [101, 101]),
 ([105, 102], [101, 101, 101]),
 ([99, 117, 116], [101, 101, 101]),
 ([108, 105, 115, 116], [43]),
 ([115, 105, 100, 101], [100]),
 ([110, 105, 108], [116]),
 ([110, 111, 110, 101], [116]),
 ([108, 101, 116], [110, 101, 101]),
 ([109, 97, 112], [101, 110, 101]),
 ([102, 105, 108, 116, 101, 114], [101, 110, 101]),
 ([102, 111, 108, 100], [101, 101, 110, 110, 101])]
def shapeT (w : List UInt8) : Option (List UInt8) := shapes.lookup w
set_option maxRecDepth 100000 in
theorem shape_run : ∀ e ∈ shapes, runC bld T 400 77 [.im (.str e.1)] [] = some (.tup [.im (.str e.2), .im (.bool true)], []) := by
 intro e he
 simp only [shapes,List.mem_cons,List.not_mem_nil,or_false] at he
 rcases he with rfl | rfl | rfl | rfl | rfl | rfl | rfl | rfl | rfl | rfl | rfl | rfl | rfl | rfl | rfl | rfl | rfl | rfl | rfl | rfl | rfl | rfl | rfl | rfl | rfl | rfl | rfl | rfl | rfl | rfl | rfl | rfl | rfl | rfl | rfl | rfl | rfl | rfl | rfl | rfl | rfl | rfl | rfl | rfl | rfl <;> kernel_rfl
theorem lookup_mem {α β : Type} [BEq α] [LawfulBEq α] : ∀ {l : List (α × β)} {a : α} {b : β}, l.lookup a = some b → (a, b) ∈ l
 |(x, y) :: l, a, b, h => by
  simp only [List.lookup] at h
  split at h
  ·rename_i he
   have : a = x := by simpa using he
   subst this
   injection h with h
   subst h
   simp
  ·exact List.mem_cons_of_mem _ (lookup_mem h)
theorem lookup_none {α β : Type} [BEq α] [LawfulBEq α] : ∀ {l : List (α × β)} {a : α}, l.lookup a = none → ∀ e ∈ l, a ≠ e.1
 |(x, y) :: l, a, h, e, he => by
  simp only [List.lookup] at h
  split at h
  ·simp at h
  ·rename_i hne
   rcases List.mem_cons.1 he with rfl | he
   ·simpa using hne
   ·exact lookup_none h e he
theorem s77_some {w p : List UInt8} (h : shapeT w = some p) (H : Heap) : L 77 [.im (.str w)] H = some (.tup [.im (.str p), .im (.bool true)], H) :=
 lim_args bsh Tok Tno (shape_run (w, p) (lookup_mem h)) (fun _ => rfl) (fun _ => rfl) H
structure NoW (w : List UInt8) : Prop where
 h0 : decide (w = [116, 114, 117, 101]) = false
 h1 : decide (w = [102, 97, 108, 115, 101]) = false
 h2 : decide (w = [105, 116]) = false
 h3 : decide (w = [110, 101, 103]) = false
 h4 : decide (w = [110, 111, 116]) = false
 h5 : decide (w = [102, 105, 114, 115, 116]) = false
 h6 : decide (w = [115, 101, 99, 111, 110, 100]) = false
 h7 : decide (w = [108, 101, 110]) = false
 h8 : decide (w = [115, 111, 114, 116]) = false
 h9 : decide (w = [115, 111, 109, 101]) = false
 h10 : decide (w = [105, 115, 95, 115, 111, 109, 101]) = false
 h11 : decide (w = [115, 105, 122, 101]) = false
 h12 : decide (w = [98, 121, 116, 101, 115]) = false
 h13 : decide (w = [116, 101, 120, 116]) = false
 h14 : decide (w = [115, 104, 111, 119]) = false
 h15 : decide (w = [114, 101]) = false
 h16 : decide (w = [105, 109]) = false
 h17 : decide (w = [99, 111, 110, 106]) = false
 h18 : decide (w = [114, 97, 110, 103, 101]) = false
 h19 : decide (w = [97, 100, 100]) = false
 h20 : decide (w = [115, 117, 98]) = false
 h21 : decide (w = [109, 117, 108]) = false
 h22 : decide (w = [100, 105, 118]) = false
 h23 : decide (w = [109, 111, 100]) = false
 h24 : decide (w = [101, 113]) = false
 h25 : decide (w = [108, 116]) = false
 h26 : decide (w = [97, 110, 100]) = false
 h27 : decide (w = [111, 114]) = false
 h28 : decide (w = [112, 97, 105, 114]) = false
 h29 : decide (w = [99, 111, 110, 115]) = false
 h30 : decide (w = [99, 111, 110, 99, 97, 116]) = false
 h31 : decide (w = [97, 116]) = false
 h32 : decide (w = [111, 114, 95, 101, 108, 115, 101]) = false
 h33 : decide (w = [106, 111, 105, 110]) = false
 h34 : decide (w = [112, 111, 105, 110, 116]) = false
 h35 : decide (w = [105, 102]) = false
 h36 : decide (w = [99, 117, 116]) = false
 h37 : decide (w = [108, 105, 115, 116]) = false
 h38 : decide (w = [115, 105, 100, 101]) = false
 h39 : decide (w = [110, 105, 108]) = false
 h40 : decide (w = [110, 111, 110, 101]) = false
 h41 : decide (w = [108, 101, 116]) = false
 h42 : decide (w = [109, 97, 112]) = false
 h43 : decide (w = [102, 105, 108, 116, 101, 114]) = false
 h44 : decide (w = [102, 111, 108, 100]) = false
theorem now_of {w : List UInt8} (h : shapeT w = none) : NoW w := by
 have hn := lookup_none h
 simp only [shapes,List.forall_mem_cons,ne_eq] at hn
 obtain ⟨n0, n1, n2, n3, n4, n5, n6, n7, n8, n9, n10, n11, n12, n13, n14, n15, n16, n17, n18, n19, n20, n21, n22, n23, n24, n25, n26, n27, n28, n29, n30, n31, n32, n33, n34, n35, n36, n37, n38, n39, n40, n41, n42, n43, n44, _⟩ := hn
 exact ⟨decide_eq_false n0, decide_eq_false n1, decide_eq_false n2, decide_eq_false n3, decide_eq_false n4, decide_eq_false n5, decide_eq_false n6, decide_eq_false n7, decide_eq_false n8, decide_eq_false n9, decide_eq_false n10, decide_eq_false n11, decide_eq_false n12, decide_eq_false n13, decide_eq_false n14, decide_eq_false n15, decide_eq_false n16, decide_eq_false n17, decide_eq_false n18, decide_eq_false n19, decide_eq_false n20, decide_eq_false n21, decide_eq_false n22, decide_eq_false n23, decide_eq_false n24, decide_eq_false n25, decide_eq_false n26, decide_eq_false n27, decide_eq_false n28, decide_eq_false n29, decide_eq_false n30, decide_eq_false n31, decide_eq_false n32, decide_eq_false n33, decide_eq_false n34, decide_eq_false n35, decide_eq_false n36, decide_eq_false n37, decide_eq_false n38, decide_eq_false n39, decide_eq_false n40, decide_eq_false n41, decide_eq_false n42, decide_eq_false n43, decide_eq_false n44⟩
def Passes (w : List UInt8) (code : ACode) (post : List AV → Prop) : Prop := ∀ (tm : List AV) (H : Heap) (K : AEx → List AV → Heap → Option (AV × Heap)), tm.length = 60 → tm.getD 4 undefA = .im (.str w) →
 ∃ tm', tm'.length = 60 ∧ tm'.getD 4 undefA = .im (.str w) ∧ post tm' ∧ exec0 L Λ code tm H K = K .normal tm' H
theorem pass_skip {w : List UInt8} : Passes w .skip (fun _ => True) := fun tm H K hl h4 => ⟨tm, hl, h4, trivial, x_skip⟩
theorem pass_eq {w lit : List UInt8} {a c : Nat} (ha : a < 60 ∧ c < 60 ∧ a ≠ 4 ∧ c ≠ 4) (h : decide (w = lit) = false) :
  Passes w (.ops [⟨some a, .bin .eql (.t 4) (.c (.im (.str lit))), none⟩, ⟨some c, .move (.t a), none⟩] []) (fun tm => tm.getD c undefA = .im (.bool false)) := fun tm H K hl h4 => by
 obtain ⟨h1, h2, h3, h5⟩ := ha
 refine ⟨(tm.set a (.im (.bool false))).set c (.im (.bool false)), by simp only [List.length_set,hl], ?_, ?_, ?_⟩
 ·rw [gs_ne h5, gs_ne h3, h4]
 ·exact gs_same (by simp only [List.length_set,hl]; exact h2)
 ·have e : (tm.set a (.im (.bool false))).getD a undefA = .im (.bool false) := gs_same (by rw [hl]; exact h1)
  simp only [B0,B1,B2,List.replicate,reduceCtorEq,lenA,seval,h4,h,e]
theorem pass_grp {w lit : List UInt8} {a c : Nat} {G : ACode} (ha : a < 60 ∧ c < 60 ∧ a ≠ 4 ∧ c ≠ 4) (h : decide (w = lit) = false) (hG : Passes w G (fun tm => tm.getD c undefA = .im (.bool false))) :
  Passes w (.seq (.ops [⟨some a, .bin .eql (.t 4) (.c (.im (.str lit))), none⟩, ⟨some c, .move (.t a), none⟩] []) (.cond (.t c) .skip G)) (fun tm => tm.getD c undefA = .im (.bool false)) := fun tm H K hl h4 => by
 obtain ⟨tm1, a1, a2, a3, a4⟩ := pass_eq ha h tm H (seqK L Λ (.cond (.t c) .skip G) K) hl h4
 obtain ⟨tm2, b1, b2, b3, b4⟩ := hG tm1 H K a1 a2
 refine ⟨tm2, b1, b2, b3, ?_⟩
 rw [x_seq, a4, k_normal]
 simp only [x_cond,ev,a3,Bool.false_eq_true,if_false]
 exact b4
theorem pass_case {w : List UInt8} {c : Nat} {G A X : ACode} (hG : Passes w G (fun tm => tm.getD c undefA = .im (.bool false))) (hX : Passes w X (fun _ => True)) :
  Passes w (.seq G (.cond (.t c) A X)) (fun _ => True) := fun tm H K hl h4 => by
 obtain ⟨tm1, a1, a2, a3, a4⟩ := hG tm H (seqK L Λ (.cond (.t c) A X) K) hl h4
 obtain ⟨tm2, b1, b2, b3, b4⟩ := hX tm1 H K a1 a2
 refine ⟨tm2, b1, b2, trivial, ?_⟩
 rw [x_seq, a4, k_normal]
 simp only [x_cond,ev,a3,Bool.false_eq_true,if_false]
 exact b4
def d33 : ACode := (.seq (.seq (.ops [⟨some 6,.bin .eql (.t 4) (.c (.im (.str [116,114,117,101]))),none⟩,⟨some 5,.move (.t 6),none⟩] []) (.cond (.t 5) .skip (.seq (.ops [⟨some 7,.bin .eql (.t 4) (.c (.im (.str [102,97,108,115,101]))),none⟩,⟨some 5,.move (.t 7),none⟩] []) (.cond (.t 5) .skip (.ops [⟨some 8,.bin .eql (.t 4) (.c (.im (.str [105,116]))),none⟩,⟨some 5,.move (.t 8),none⟩] []))))) (.cond (.t 5) (.seq (.ops [⟨some 2,.move (.c (.im (.str []))),none⟩,⟨some 3,.move (.c (.im (.bool true))),none⟩] []) .ret) (.seq (.seq (.ops [⟨some 10,.bin .eql (.t 4) (.c (.im (.str [110,101,103]))),none⟩,⟨some 9,.move (.t 10),none⟩] []) (.cond (.t 9) .skip (.seq (.ops [⟨some 11,.bin .eql (.t 4) (.c (.im (.str [110,111,116]))),none⟩,⟨some 9,.move (.t 11),none⟩] []) (.cond (.t 9) .skip (.seq (.ops [⟨some 12,.bin .eql (.t 4) (.c (.im (.str [102,105,114,115,116]))),none⟩,⟨some 9,.move (.t 12),none⟩] []) (.cond (.t 9) .skip (.seq (.ops [⟨some 13,.bin .eql (.t 4) (.c (.im (.str [115,101,99,111,110,100]))),none⟩,⟨some 9,.move (.t 13),none⟩] []) (.cond (.t 9) .skip (.seq (.ops [⟨some 14,.bin .eql (.t 4) (.c (.im (.str [108,101,110]))),none⟩,⟨some 9,.move (.t 14),none⟩] []) (.cond (.t 9) .skip (.seq (.ops [⟨some 15,.bin .eql (.t 4) (.c (.im (.str [115,111,114,116]))),none⟩,⟨some 9,.move (.t 15),none⟩] []) (.cond (.t 9) .skip (.seq (.ops [⟨some 16,.bin .eql (.t 4) (.c (.im (.str [115,111,109,101]))),none⟩,⟨some 9,.move (.t 16),none⟩] []) (.cond (.t 9) .skip (.seq (.ops [⟨some 17,.bin .eql (.t 4) (.c (.im (.str [105,115,95,115,111,109,101]))),none⟩,⟨some 9,.move (.t 17),none⟩] []) (.cond (.t 9) .skip (.seq (.ops [⟨some 18,.bin .eql (.t 4) (.c (.im (.str [115,105,122,101]))),none⟩,⟨some 9,.move (.t 18),none⟩] []) (.cond (.t 9) .skip (.seq (.ops [⟨some 19,.bin .eql (.t 4) (.c (.im (.str [98,121,116,101,115]))),none⟩,⟨some 9,.move (.t 19),none⟩] []) (.cond (.t 9) .skip (.seq (.ops [⟨some 20,.bin .eql (.t 4) (.c (.im (.str [116,101,120,116]))),none⟩,⟨some 9,.move (.t 20),none⟩] []) (.cond (.t 9) .skip (.seq (.ops [⟨some 21,.bin .eql (.t 4) (.c (.im (.str [115,104,111,119]))),none⟩,⟨some 9,.move (.t 21),none⟩] []) (.cond (.t 9) .skip (.seq (.ops [⟨some 22,.bin .eql (.t 4) (.c (.im (.str [114,101]))),none⟩,⟨some 9,.move (.t 22),none⟩] []) (.cond (.t 9) .skip (.seq (.ops [⟨some 23,.bin .eql (.t 4) (.c (.im (.str [105,109]))),none⟩,⟨some 9,.move (.t 23),none⟩] []) (.cond (.t 9) .skip (.seq (.ops [⟨some 24,.bin .eql (.t 4) (.c (.im (.str [99,111,110,106]))),none⟩,⟨some 9,.move (.t 24),none⟩] []) (.cond (.t 9) .skip (.ops [⟨some 25,.bin .eql (.t 4) (.c (.im (.str [114,97,110,103,101]))),none⟩,⟨some 9,.move (.t 25),none⟩] []))))))))))))))))))))))))))))))) (.cond (.t 9) (.seq (.ops [⟨some 2,.move (.c (.im (.str [101]))),none⟩,⟨some 3,.move (.c (.im (.bool true))),none⟩] []) .ret) (.seq (.seq (.ops [⟨some 27,.bin .eql (.t 4) (.c (.im (.str [97,100,100]))),none⟩,⟨some 26,.move (.t 27),none⟩] []) (.cond (.t 26) .skip (.seq (.ops [⟨some 28,.bin .eql (.t 4) (.c (.im (.str [115,117,98]))),none⟩,⟨some 26,.move (.t 28),none⟩] []) (.cond (.t 26) .skip (.seq (.ops [⟨some 29,.bin .eql (.t 4) (.c (.im (.str [109,117,108]))),none⟩,⟨some 26,.move (.t 29),none⟩] []) (.cond (.t 26) .skip (.seq (.ops [⟨some 30,.bin .eql (.t 4) (.c (.im (.str [100,105,118]))),none⟩,⟨some 26,.move (.t 30),none⟩] []) (.cond (.t 26) .skip (.seq (.ops [⟨some 31,.bin .eql (.t 4) (.c (.im (.str [109,111,100]))),none⟩,⟨some 26,.move (.t 31),none⟩] []) (.cond (.t 26) .skip (.seq (.ops [⟨some 32,.bin .eql (.t 4) (.c (.im (.str [101,113]))),none⟩,⟨some 26,.move (.t 32),none⟩] []) (.cond (.t 26) .skip (.seq (.ops [⟨some 33,.bin .eql (.t 4) (.c (.im (.str [108,116]))),none⟩,⟨some 26,.move (.t 33),none⟩] []) (.cond (.t 26) .skip (.seq (.ops [⟨some 34,.bin .eql (.t 4) (.c (.im (.str [97,110,100]))),none⟩,⟨some 26,.move (.t 34),none⟩] []) (.cond (.t 26) .skip (.seq (.ops [⟨some 35,.bin .eql (.t 4) (.c (.im (.str [111,114]))),none⟩,⟨some 26,.move (.t 35),none⟩] []) (.cond (.t 26) .skip (.seq (.ops [⟨some 36,.bin .eql (.t 4) (.c (.im (.str [112,97,105,114]))),none⟩,⟨some 26,.move (.t 36),none⟩] []) (.cond (.t 26) .skip (.seq (.ops [⟨some 37,.bin .eql (.t 4) (.c (.im (.str [99,111,110,115]))),none⟩,⟨some 26,.move (.t 37),none⟩] []) (.cond (.t 26) .skip (.seq (.ops [⟨some 38,.bin .eql (.t 4) (.c (.im (.str [99,111,110,99,97,116]))),none⟩,⟨some 26,.move (.t 38),none⟩] []) (.cond (.t 26) .skip (.seq (.ops [⟨some 39,.bin .eql (.t 4) (.c (.im (.str [97,116]))),none⟩,⟨some 26,.move (.t 39),none⟩] []) (.cond (.t 26) .skip (.seq (.ops [⟨some 40,.bin .eql (.t 4) (.c (.im (.str [111,114,95,101,108,115,101]))),none⟩,⟨some 26,.move (.t 40),none⟩] []) (.cond (.t 26) .skip (.seq (.ops [⟨some 41,.bin .eql (.t 4) (.c (.im (.str [106,111,105,110]))),none⟩,⟨some 26,.move (.t 41),none⟩] []) (.cond (.t 26) .skip (.ops [⟨some 42,.bin .eql (.t 4) (.c (.im (.str [112,111,105,110,116]))),none⟩,⟨some 26,.move (.t 42),none⟩] []))))))))))))))))))))))))))))))) (.cond (.t 26) (.seq (.ops [⟨some 2,.move (.c (.im (.str [101,101]))),none⟩,⟨some 3,.move (.c (.im (.bool true))),none⟩] []) .ret) (.seq (.seq (.ops [⟨some 44,.bin .eql (.t 4) (.c (.im (.str [105,102]))),none⟩,⟨some 43,.move (.t 44),none⟩] []) (.cond (.t 43) .skip (.ops [⟨some 45,.bin .eql (.t 4) (.c (.im (.str [99,117,116]))),none⟩,⟨some 43,.move (.t 45),none⟩] []))) (.cond (.t 43) (.seq (.ops [⟨some 2,.move (.c (.im (.str [101,101,101]))),none⟩,⟨some 3,.move (.c (.im (.bool true))),none⟩] []) .ret) (.seq (.ops [⟨some 47,.bin .eql (.t 4) (.c (.im (.str [108,105,115,116]))),none⟩,⟨some 46,.move (.t 47),none⟩] []) (.cond (.t 46) (.seq (.ops [⟨some 2,.move (.c (.im (.str [43]))),none⟩,⟨some 3,.move (.c (.im (.bool true))),none⟩] []) .ret) (.seq (.ops [⟨some 49,.bin .eql (.t 4) (.c (.im (.str [115,105,100,101]))),none⟩,⟨some 48,.move (.t 49),none⟩] []) (.cond (.t 48) (.seq (.ops [⟨some 2,.move (.c (.im (.str [100]))),none⟩,⟨some 3,.move (.c (.im (.bool true))),none⟩] []) .ret) (.seq (.seq (.ops [⟨some 51,.bin .eql (.t 4) (.c (.im (.str [110,105,108]))),none⟩,⟨some 50,.move (.t 51),none⟩] []) (.cond (.t 50) .skip (.ops [⟨some 52,.bin .eql (.t 4) (.c (.im (.str [110,111,110,101]))),none⟩,⟨some 50,.move (.t 52),none⟩] []))) (.cond (.t 50) (.seq (.ops [⟨some 2,.move (.c (.im (.str [116]))),none⟩,⟨some 3,.move (.c (.im (.bool true))),none⟩] []) .ret) (.seq (.ops [⟨some 54,.bin .eql (.t 4) (.c (.im (.str [108,101,116]))),none⟩,⟨some 53,.move (.t 54),none⟩] []) (.cond (.t 53) (.seq (.ops [⟨some 2,.move (.c (.im (.str [110,101,101]))),none⟩,⟨some 3,.move (.c (.im (.bool true))),none⟩] []) .ret) (.seq (.seq (.ops [⟨some 56,.bin .eql (.t 4) (.c (.im (.str [109,97,112]))),none⟩,⟨some 55,.move (.t 56),none⟩] []) (.cond (.t 55) .skip (.ops [⟨some 57,.bin .eql (.t 4) (.c (.im (.str [102,105,108,116,101,114]))),none⟩,⟨some 55,.move (.t 57),none⟩] []))) (.cond (.t 55) (.seq (.ops [⟨some 2,.move (.c (.im (.str [101,110,101]))),none⟩,⟨some 3,.move (.c (.im (.bool true))),none⟩] []) .ret) (.seq (.ops [⟨some 59,.bin .eql (.t 4) (.c (.im (.str [102,111,108,100]))),none⟩,⟨some 58,.move (.t 59),none⟩] []) (.cond (.t 58) (.seq (.ops [⟨some 2,.move (.c (.im (.str [101,101,110,110,101]))),none⟩,⟨some 3,.move (.c (.im (.bool true))),none⟩] []) .ret) .skip))))))))))))))))))))
theorem pass33 {w : List UInt8} (h : NoW w) : Passes w d33 (fun _ => True) := by
 obtain ⟨n0, n1, n2, n3, n4, n5, n6, n7, n8, n9, n10, n11, n12, n13, n14, n15, n16, n17, n18, n19, n20, n21, n22, n23, n24, n25, n26, n27, n28, n29, n30, n31, n32, n33, n34, n35, n36, n37, n38, n39, n40, n41, n42, n43, n44⟩ := h
 unfold d33
 repeat' first
  | exact pass_skip
  | exact pass_eq (by decide) (by assumption)
  | refine pass_grp (by decide) (by assumption) ?_
  | refine pass_case ?_ ?_
theorem s77_none {w : List UInt8} (h : shapeT w = none) (H : Heap) : L 77 [.im (.str w)] H = some (.tup [.im (.str []), .im (.bool false)], H) := by
 have hp := pass33 (now_of h)
 have hlv : leave H false (.tup [.im (.str []), .im (.bool false)]) H = (.tup [.im (.str []), .im (.bool false)], H) := by
  have := leave_deg (H := H) (M := []) (r := .tup [.im (.str []), .im (.bool false)]) rfl rfl
  rwa [List.append_nil] at this
 have hf : f77 = ⟨60, [(2, none), (3, none)], (.seq (.ops [⟨(some 2), (.move (.c (.im (.str [])))), none⟩, ⟨(some 3), (.move (.c (.im (.bool false)))), none⟩] []) (.seq (.seq (.ops [⟨(some 4), (.move (.t 0)), none⟩] []) (.block 0 d33)) (.seq (.ops [⟨(some 2), (.move (.c (.im (.str [])))), none⟩, ⟨(some 3), (.move (.c (.im (.bool false)))), none⟩] []) .ret))), false⟩ := rfl
 rw [leq F77]
 obtain ⟨hlen, ha⟩ := enter_at (f := f77) (args := [.im (.str w)]) (Nat.le_of_ble_eq_true rfl)
 have h0 := ha 0 _ rfl
 generalize enterA f77 [.im (.str w)] = tm at *
 change tm.length = 60 at hlen
 rw [hf]
 have hp' := fun H K => hp (((tm.set 2 (.im (.str []))).set 3 (.im (.bool false))).set 4 (.im (.str w))) H K (by simp only [List.length_set,hlen]) (by simp only [B3,seval,hlen])
 simp only [B0,B1,B2,List.replicate,reduceCtorEq,lenA,seval,hlen,h0]
 obtain ⟨tm1, a1, a2, _, a4⟩ := hp' H _
 rw [a4]
 simp only [B0,B1,B2,List.replicate,reduceCtorEq,lenA,seval,endK,resA,tupA,a1,hlv]
end Go.Abs.Seat
end
section
set_option linter.unusedVariables false
set_option linter.unusedSimpArgs false
namespace Go.Abs.Seat
open Go.Proofs
theorem zc0 : ((0 : Nat) : Int) = 0 := _root_.id rfl
end Go.Abs.Seat
end
section
set_option linter.unusedVariables false
set_option linter.unusedSimpArgs false
namespace Go.Abs.Seat
open Go.Proofs
structure Nm (s : List UInt8) : Prop where
 ne : s ≠ []
 len : s.length ≤ 16
 hd : ∀ a, s[0]? = some a → letZ (a.toNat : Int) = true
 all : ∀ (i : Nat) a, s[i]? = some a → namZ (a.toNat : Int) = true
theorem s115 (n : Int) (H : Heap) : L 115 [.im (.int .u8 n)] H = some (.im (.bool (!namZ n)), H) := by
 have c1 := fun H => s78 n H
 rw [leq F115]
 obtain ⟨hlen, ha⟩ := enter_at (f := f115) (args := [.im (.int .u8 n)]) (Nat.le_of_ble_eq_true rfl)
 have h0 := ha 0 _ rfl
 generalize enterA f115 [.im (.int .u8 n)] = tm at *
 change tm.length = 6 at hlen
 simp only [f115,B0,B1,B2,List.replicate,reduceCtorEq,lenA,seval,endK,resA,tupA,hlen,h0,c1,leave_same]
theorem s77 (w : List UInt8) (H : Heap) : L 77 [.im (.str w)] H = some (.tup [.im (.str ((shapeT w).getD [])), .im (.bool (shapeT w).isSome)], H) := by
 cases hs : shapeT w with
 | none => exact s77_none hs H
 | some p => exact s77_some hs H
end Go.Abs.Seat
end
section
set_option linter.unusedVariables false
set_option linter.unusedSimpArgs false
namespace Go.Abs.Seat
open Go.Proofs
inductive NT where
 | mk (op : List UInt8) (i : Int) (txt : List UInt8) (ty : KT) (s : Nat) (kids : List NT)
mutual
def encN : NT → List Dat
 | .mk op i txt (.mk k st args) s kids => [.str op, .int .i64 i, .str txt, .int .i64 k, .sl st (encTs args), .sl s (encNs kids)]
def encNs : List NT → List (List Dat)
 | [] => []
 | a :: l => encN a :: encNs l
end
theorem encNs_map : ∀ l : List NT, encNs l = l.map encN
 | [] => rfl
 | a :: l => by simp only [encNs,List.map_cons,encNs_map l]
def nameW : List UInt8 := [110, 97, 109, 101]
end Go.Abs.Seat
end
section
set_option linter.unusedVariables false
set_option linter.unusedSimpArgs false
namespace Go.Abs.Seat
open Go.Proofs
def intW : List UInt8 := [105, 110, 116]
section
variable {H : Heap} {ir : Nat} {b : List UInt8}
end
end Go.Abs.Seat
end
section
set_option linter.unusedVariables false
set_option linter.unusedSimpArgs false
namespace Go.Abs.Seat
open Go.Proofs
def hexW : List UInt8 := [48, 49, 50, 51, 52, 53, 54, 55, 56, 57, 97, 98, 99, 100, 101, 102]
end Go.Abs.Seat
end
section
set_option linter.unusedVariables false
set_option linter.unusedSimpArgs false
namespace Go.Abs.Seat
open Go.Proofs
def textW : List UInt8 := [116, 101, 120, 116, 95, 111, 102]
end Go.Abs.Seat
end
section
set_option linter.unusedVariables false
set_option linter.unusedSimpArgs false
namespace Go.Abs.Seat
open Go.Proofs
abbrev St := Int × KT × List NT
end Go.Abs.Seat
end
section
set_option linter.unusedVariables false
set_option linter.unusedSimpArgs false
namespace Go.Abs.Seat
open Go.Proofs
def TyA (ty : KT) (k : Int) (y : AV) : Prop := (ty = zeroT ∧ k = 0 ∧ y = .nils) ∨ ∃ s args, ty = .mk k s args ∧ y = .im (.sl s (encTs args))
def NodeAt (tid : TypeId) (n id : Nat) (w : List UInt8) (st : St) (H : Heap) : Prop :=
 ∃ (k : Int) (y v : AV), H[id]? = some (.obj none [[.im (.str w), .im (.int .i64 st.1), .im (.str []), .im (.int .i64 k), y, v]]) ∧ TyA st.2.1 k y ∧ Gath tid 6 n v H (st.2.2.map encN)
theorem NodeAt.set {tid : TypeId} {n id ir : Nat} {w : List UInt8} {st : St} {H : Heap} {t : Option (TypeId × Nat)} {xs : List (List AV)} (h : NodeAt tid n id w st H) (hne : ir ≠ id) (ho : H[ir]? = some (.obj t xs)) (x : HO) : NodeAt tid n id w st (H.set ir x) := by
 obtain ⟨k, y, v, h1, h2, h3⟩ := h
 exact ⟨k, y, v, by rw [List.getElem?_set_ne hne]; exact h1, h2, h3.set_obj ho x⟩
theorem NodeAt.more {tid : TypeId} {n id : Nat} {w : List UInt8} {st : St} {H : Heap} (h : NodeAt tid n id w st H) (M : Heap) : NodeAt tid n id w st (H ++ M) := by
 obtain ⟨k, y, v, h1, h2, h3⟩ := h
 exact ⟨k, y, v, by rw [get_app (List.getElem?_eq_some_iff.1 h1).1]; exact h1, h2, h3.more M⟩
def Regs (l : List Nat) (tm tm' : List AV) : Prop := ∀ j ∈ l, tm'.getD j undefA = tm.getD j undefA
def But2 (n ir id : Nat) (H H' : Heap) : Prop := H.length ≤ H'.length ∧ ∀ i, i < n → i ≠ ir → i ≠ id → H'[i]? = H[i]?
end Go.Abs.Seat
end
section
set_option linter.unusedVariables false
set_option linter.unusedSimpArgs false
namespace Go.Abs.Seat
open Go.Proofs
theorem But2.refl {n ir id : Nat} {H : Heap} : But2 n ir id H H := ⟨Nat.le_refl _, fun _ _ _ _ => rfl⟩
theorem But2.trans {n ir id : Nat} {A B C : Heap} (h : But2 n ir id A B) (h2 : But2 n ir id B C) : But2 n ir id A C :=
 ⟨Nat.le_trans h.1 h2.1, fun i a b c => (h2.2 i a b c).trans (h.2 i a b c)⟩
theorem But2.set {n ir id : Nat} {A : Heap} (o : HO) : But2 n ir id A (A.set ir o) := ⟨by simp, fun i _ h _ => List.getElem?_set_ne (fun e => h e.symm)⟩
theorem Regs.trans {l : List Nat} {a b c : List AV} (h : Regs l a b) (h2 : Regs l b c) : Regs l a c := fun j hj => (h2 j hj).trans (h j hj)
end Go.Abs.Seat
end
section
set_option linter.unusedVariables false
set_option linter.unusedSimpArgs false
namespace Go.Abs.Seat
open Go.Proofs
def Low (n : Nat) (H H' : Heap) : Prop := H.length ≤ H'.length ∧ ∀ i, i < n → H'[i]? = H[i]?
theorem Low.refl {n : Nat} {H : Heap} : Low n H H := ⟨Nat.le_refl _, fun _ _ => rfl⟩
theorem Low.trans {n : Nat} {A B C : Heap} (h : Low n A B) (h2 : Low n B C) : Low n A C := ⟨Nat.le_trans h.1 h2.1, fun i a => (h2.2 i a).trans (h.2 i a)⟩
end Go.Abs.Seat
end
section
set_option linter.unusedVariables false
set_option linter.unusedSimpArgs false
namespace Go.Abs.Seat
open Go.Proofs
set_option maxRecDepth 100000 in
theorem awakeK : runC bld T 400 9 [] [] = some (.im (.bool true), []) := by kernel_rfl
theorem s9 (H : Heap) : L 9 [] H = some (.im (.bool true), H) := lim_at bsh Tok Tno awakeK H
end Go.Abs.Seat
end
section
set_option linter.unusedVariables false
set_option linter.unusedSimpArgs false
namespace Go.Abs
def HoldE (ty : TypeId × Nat) (tb : TypeId) (n : Nat) (H : Heap) (id : Nat) (rest : List AV) (txt : List UInt8) : Prop :=
 ∃ a0 v, H[id]? = some (.obj (some ty) [a0 :: v :: rest]) ∧ (a0 = .im .nilp ∨ a0 = .ptr id 0 0) ∧ Gath tb 1 n v H (txt.map fun b => [byteDat b]) ∧ n ≤ H.length
theorem HoldE.more {ty : TypeId × Nat} {tb : TypeId} {n : Nat} {H : Heap} {id : Nat} {rest : List AV} {txt : List UInt8} (h : HoldE ty tb n H id rest txt) (M : Heap) : HoldE ty tb n (H ++ M) id rest txt := by
 obtain ⟨a0, v, h1, h2, h3, h4⟩ := h
 exact ⟨a0, v, by rw [List.getElem?_append_left (List.getElem?_eq_some_iff.1 h1).1]; exact h1, h2, h3.more M, by simp; omega⟩
theorem leave_holdE {ty : TypeId × Nat} {tb : TypeId} {n : Nat} {H0 H : Heap} {id : Nat} {rest0 rest : List AV} {txt0 txt : List UInt8} {r r' : AV} (hd : degrade r = r') (h0 : HoldE ty tb n H0 id rest0 txt0) (h : HoldE ty tb n H id rest txt) (hk : Keeps n id H0 H) :
  ∃ H', leave H0 false r H = (r', H') ∧ HoldE ty tb n H' id rest txt ∧ Keeps n id H0 H' := by
 unfold leave
 have e : (if (false : Bool) = true then r else degrade r) = r' := by simp [hd]
 rw [e]
 by_cases hc : refsLt H0.length r' = true ∧ heldIn H0 H
 ·rw [if_pos hc]
  refine ⟨_, rfl, ?_, by simp only [List.length_take]; have := hk.1; omega, fun i ty es hi hA => ?_, fun i hn hl hi => by rw [List.getElem?_take, if_pos hl]; exact hk.2.2 i hn hl hi⟩
  ·obtain ⟨a0, v, h1, h2, h3, h4⟩ := h
   obtain ⟨b0, u, g1, g2, g3, g4⟩ := h0
   have hlt := (List.getElem?_eq_some_iff.1 g1).1
   refine ⟨a0, v, by rw [List.getElem?_take, if_pos hlt]; exact h1, h2, ?_, by simp only [List.length_take]; have := hk.1; omega⟩
   rcases h3 with h3 | ⟨hne, tok, hn, hv, htok⟩
   ·exact .inl h3
   ·have ht : tok < H0.length := by
     rcases hc.2 id hlt with hs | ⟨o, ho, hro⟩
     ·rw [h1, g1] at hs
      injection hs with hs
      injection hs with _ hs
      injection hs with hs _
      injection hs with _ hs
      injection hs with hs _
      subst hs
      rcases g3 with ⟨_, hu⟩ | ⟨_, tok', _, hu, htok'⟩
      ·rw [hv] at hu; simp at hu
      ·rw [hv] at hu
       injection hu with _ _ hu
       subst hu
       exact (List.getElem?_eq_some_iff.1 htok').1
     ·rw [h1] at ho
      injection ho with ho
      subst ho
      simp only [refsO,List.all_cons,List.all_nil,refsLts,hv,refsLt,Bool.and_true,Bool.and_eq_true,decide_eq_true_eq] at hro
      exact hro.2.1
    exact .inr ⟨hne, tok, hn, hv, by rw [List.getElem?_take, if_pos ht]; exact htok⟩
  ·have hlt := (List.getElem?_eq_some_iff.1 hA).1
   rw [List.getElem?_take, if_pos hlt]
   exact hk.2.1 i ty es hi hA
 ·rw [if_neg hc]
  exact ⟨H, rfl, h, hk⟩
theorem cc_holdE {ok : TypeId × Nat → Bool} {ty : TypeId × Nat} (hok : ok ty = true) {tb : TypeId} {n : Nat} {H : Heap} {id : Nat} {rest : List AV} {txt : List UInt8} (h : HoldE ty tb n H id rest txt) :
  ∃ v H1, ccE ok [.ptr id 0 0] H = some (.tup [], H1) ∧ H1[id]? = some (.obj (some ty) [.ptr id 0 0 :: v :: rest]) ∧ Gath tb 1 n v H1 (txt.map fun b => [byteDat b]) ∧ Keeps n id H H1 ∧ n ≤ H1.length := by
 obtain ⟨a0, v, h1, h2, h3, h4⟩ := h
 have hlt := (List.getElem?_eq_some_iff.1 h1).1
 rcases h2 with rfl | rfl
 ·refine ⟨v, H.set id (.obj (some ty) [.ptr id 0 0 :: v :: rest]), by simp only [ccE,h1,hok,if_true], by rw [List.getElem?_set_self hlt], h3.set_obj h1 _, (Keeps.refl n id H).set _, by simpa using h4⟩
 ·exact ⟨v, H, by simp only [ccE,h1,hok,if_true], h1, h3, Keeps.refl n id H, h4⟩
theorem HoldE.put {ty : TypeId × Nat} {tb : TypeId} {n : Nat} {H : Heap} {id : Nat} {rest : List AV} {txt : List UInt8} (h : HoldE ty tb n H id rest txt) (rest' : List AV) :
  ∃ a0 v, H[id]? = some (.obj (some ty) [a0 :: v :: rest]) ∧ HoldE ty tb n (H.set id (.obj (some ty) [a0 :: v :: rest'])) id rest' txt := by
 obtain ⟨a0, v, h1, h2, h3, h4⟩ := h
 have hlt := (List.getElem?_eq_some_iff.1 h1).1
 exact ⟨a0, v, h1, a0, v, by rw [List.getElem?_set_self hlt], h2, h3.set_obj h1 _, by simpa using h4⟩
theorem HoldE.len {ty : TypeId × Nat} {tb : TypeId} {n : Nat} {H : Heap} {id : Nat} {rest : List AV} {txt : List UInt8} (h : HoldE ty tb n H id rest txt) :
  ∃ a0 v, H[id]? = some (.obj (some ty) [a0 :: v :: rest]) ∧ lenA v = some txt.length := by
 obtain ⟨a0, v, h1, _, h3, _⟩ := h
 refine ⟨a0, v, h1, ?_⟩
 rcases h3 with ⟨he, rfl⟩ | ⟨_, tok, _, rfl, _⟩
 ·have : txt = [] := by simpa using he
  subst this; rfl
 ·simp [lenA]
end Go.Abs
end
section
set_option linter.unusedVariables false
set_option linter.unusedSimpArgs false
namespace Go.Abs.Seat
open Go.Proofs
variable {n : Nat} {ty : TypeId × Nat} {rest : List AV} {txt : List UInt8} {H : Heap} {id : Nat}
theorem L60 (args : List AV) (H : Heap) : L 111 args H = ccE Tryz.okB args H := by
 have h : F 111 = none := by kernel_rfl
 exact lim_none h args H
theorem L26 (args : List AV) (H : Heap) : L 59 args H = stE Tryz.okB 5 args H := by
 have h : F 59 = none := by kernel_rfl
 exact lim_none h args H
theorem s86 (hok : Tryz.okB ty = true) (h : HoldE ty 5 n H id rest txt) (s : List UInt8) (hb : txt.length + s.length ≤ 2 ^ 46) :
  ∃ H', L 86 [.ptr id 0 0, .im (.str s)] H = some (.tup [.im (.int .i64 s.length), .im .nili], H') ∧ HoldE ty 5 n H' id rest (txt ++ s) ∧ Keeps n id H H' := by
 obtain ⟨v, H1, hcc, hid, hG, hK, hn1⟩ := cc_holdE hok h
 obtain ⟨v', H2, hap, hG2, hcs, hco, hl2, hk2⟩ := gath_bytes hn1 hG s hb
 have hid2 := (hk2 _ _ _).1 hid
 have hH3 : HoldE ty 5 n (H2.set id (.obj (some ty) [.ptr id 0 0 :: v' :: rest])) id rest (txt ++ s) :=
  ⟨_, v', by rw [List.getElem?_set_self (List.getElem?_eq_some_iff.1 hid2).1], .inr rfl, hG2.set_obj hid2 _, by simp; omega⟩
 have hK3 : Keeps n id H (H2.set id (.obj (some ty) [.ptr id 0 0 :: v' :: rest])) :=
  (hK.trans ⟨hl2, fun i ty es _ hi => (hk2 i ty es).1 hi, fun i hi _ _ => (hk2 i none []).2 hi⟩).set _
 obtain ⟨H', hlv, hH', hK'⟩ := leave_holdE (r := .tup [.im (.int .i64 s.length), .im .nili]) (r' := .tup [.im (.int .i64 s.length), .im .nili]) rfl h hH3 hK3
 refine ⟨H', ?_, hH', hK'⟩
 rw [leq F86]
 obtain ⟨hlen, ha⟩ := enter_at (f := f86) (args := [.ptr id 0 0, .im (.str s)]) (Nat.le_of_ble_eq_true rfl)
 have h0 := ha 0 _ rfl
 have h1 := ha 1 _ rfl
 generalize enterA f86 [.ptr id 0 0, .im (.str s)] = tm at *
 change tm.length = 19 at hlen
 have hel : elems H1 1 (.im (.str s)) = some (s.map fun b => [byteDat b]) := by simp [elems]
 simp only [exec0,xreg,xops,wantedA,aopc,dgA_no,aop,ev,putA,gs_same,gs_ne,List.length_set,hlen,Nat.reduceLT,Nat.reduceEqDiff,not_false_eq_true,if_true,h0,h1,List.map_cons,List.map_nil,List.append_nil,f86,L60,hcc,loadAt,hid,List.getElem?_cons_zero,List.getElem?_cons_succ,Nat.zero_add,Nat.reduceAdd,hel,hap,storeAt,hid2,hcs,List.length_cons,List.length_nil,Nat.reduceLeDiff,Nat.le_refl,List.all_cons,List.all_nil,hco,Bool.and_true,and_self,setAt,List.set_cons_zero,List.set_cons_succ,endK,resA,tupA,hlv]
theorem s113 (hok : Tryz.okB ty = true) (h : HoldE ty 5 n H id rest txt) (b : UInt8) (hb : txt.length + 1 ≤ 2 ^ 46) :
  ∃ H', L 113 [.ptr id 0 0, .im (byteDat b)] H = some (.im .nili, H') ∧ HoldE ty 5 n H' id rest (txt ++ [b]) ∧ Keeps n id H H' := by
 obtain ⟨v, H1, hcc, hid, hG, hK, hn1⟩ := cc_holdE hok h
 obtain ⟨v', H2, hap, hG2, hcs, hco, hl2, hk2⟩ := gath_bytes hn1 hG [b] hb
 have hid2 := (hk2 _ _ _).1 hid
 have hH3 : HoldE ty 5 n (H2.set id (.obj (some ty) [.ptr id 0 0 :: v' :: rest])) id rest (txt ++ [b]) :=
  ⟨_, v', by rw [List.getElem?_set_self (List.getElem?_eq_some_iff.1 hid2).1], .inr rfl, hG2.set_obj hid2 _, by simp; omega⟩
 have hK3 : Keeps n id H (H2.set id (.obj (some ty) [.ptr id 0 0 :: v' :: rest])) :=
  (hK.trans ⟨hl2, fun i ty es _ hi => (hk2 i ty es).1 hi, fun i hi _ _ => (hk2 i none []).2 hi⟩).set _
 obtain ⟨H', hlv, hH', hK'⟩ := leave_holdE (r := .im .nili) (r' := .im .nili) rfl h hH3 hK3
 refine ⟨H', ?_, hH', hK'⟩
 rw [leq F113]
 obtain ⟨hlen, ha⟩ := enter_at (f := f113) (args := [.ptr id 0 0, .im (byteDat b)]) (Nat.le_of_ble_eq_true rfl)
 have h0 := ha 0 _ rfl
 have h1 := ha 1 _ rfl
 generalize enterA f113 [.ptr id 0 0, .im (byteDat b)] = tm at *
 change tm.length = 17 at hlen
 simp only [List.map_cons,List.map_nil,byteDat] at hap
 have hck : ∀ (k : IntKind) (n : Int), cellOk (.im (.int k n)) = true := fun _ _ => rfl
 have hci : ∀ (k : IntKind) (n : Int), cellsOf (.im (.int k n)) = [.im (.int k n)] := fun _ _ => rfl
 simp only [exec0,xreg,xops,wantedA,aopc,dgA_no,aop,ev,putA,gs_same,gs_ne,List.length_set,hlen,Nat.reduceLT,Nat.reduceEqDiff,not_false_eq_true,if_true,h0,h1,List.map_cons,List.map_nil,List.append_nil,f113,L60,hcc,loadAt,hid,List.getElem?_cons_zero,List.getElem?_cons_succ,Nat.zero_add,Nat.reduceAdd,elems,byteDat,hcs,hci,List.replicate,fillE,toDatss,toDats,toDat,hck,Bool.false_eq_true,if_false,hap,storeAt,hid2,List.length_cons,List.length_nil,Nat.reduceLeDiff,Nat.le_refl,List.all_cons,List.all_nil,hco,Bool.and_true,and_self,setAt,List.set_cons_zero,List.set_cons_succ,endK,resA,tupA,hlv]
theorem s58 (h : HoldE ty 5 n H id rest txt) : L 58 [.ptr id 0 0] H = some (.im (.int .i64 txt.length), H) := by
 obtain ⟨a0, v, h1, h2⟩ := h.len
 rw [leq F58]
 obtain ⟨hlen, ha⟩ := enter_at (f := f58) (args := [.ptr id 0 0]) (Nat.le_of_ble_eq_true rfl)
 have h0 := ha 0 _ rfl
 generalize enterA f58 [.ptr id 0 0] = tm at *
 change tm.length = 8 at hlen
 simp only [f58,B0,B1,B2,List.replicate,reduceCtorEq,seval,endK,resA,tupA,hlen,h0,h1,h2,leave_same]
end Go.Abs.Seat
end
section
set_option linter.unusedVariables false
set_option linter.unusedSimpArgs false
namespace Go.Abs.Seat
open Go.Proofs
variable {n : Nat} {ty : TypeId × Nat} {rest : List AV}
def kgath (k : Int) : List Word → List UInt8
 | [] => []
 | w :: l => (if w.1 = k then w.2.1 else []) ++ kgath k l
theorem kgath_len (k : Int) : ∀ l : List Word, (∀ w ∈ l, w.2.1.length ≤ 8) → (kgath k l).length ≤ 8 * l.length
 | [], _ => by simp [kgath]
 | w :: l, h => by
  have h1 := kgath_len k l fun x hx => h x (by simp [hx])
  have h2 := h w (by simp)
  simp only [kgath,List.length_append,List.length_cons]
  split <;> simp <;> omega
section
variable (hty : Tryz.okB ty = true)
include hty
theorem l116w (k : Int) (x : AV) (id idt idw : Nat) (hne : idt ≠ id) (hnw : idw ≠ id) (rows : List Word) (hr : ∀ w ∈ rows, w.2.1.length ≤ 8) (hrn : rows.length ≤ 1000) :
  ∀ (m i : Nat), i + m = rows.length → ∀ (tm : List AV) (Hc : Heap) (txt : List UInt8), txt.length + 8 * m ≤ 2 ^ 46 → HoldE ty 5 n Hc id rest txt → Hc[idt]? = some (.obj none [[.im (.int .i64 k), x]]) → Hc[idw]? = some (.obj none (rows.map encW)) →
  tm.length = 46 → tm.getD 0 undefA = .ptr id 0 0 → tm.getD 3 undefA = .ptr idt 0 0 → tm.getD 8 undefA = .ms 3 idw 0 rows.length → tm.getD 9 undefA = .im (.int .i64 rows.length) → tm.getD 10 undefA = .im (.int .i64 i) →
  ∃ e tm' H', Λ c116_1 tm Hc = some (e, tm', H') ∧ tm'.length = 46 ∧ e = .exit 0 ∧ tm'.getD 0 undefA = .ptr id 0 0 ∧ tm'.getD 3 undefA = .ptr idt 0 0 ∧ HoldE ty 5 n H' id rest (txt ++ kgath k (rows.drop i)) ∧ Keeps n id Hc H'
 | 0, i, hi, tm, Hc, txt, hb, hH, ht, hw, hlen, h0, h3, h8, h9, h10 => by
  have e : rows.drop i = [] := by rw [List.drop_eq_nil_iff]; omega
  have hc : decide ((i : Int) < (rows.length : Int)) = false := decide_eq_false (by omega)
  rw [l116_1, e]
  simp only [b116_1,B0,B2,exec0,xreg,xops,aopc,endK,resA,tupA,List.replicate,binA,isShift,binInt,reduceCtorEq,lenA,seval,hlen,h0,h3,h8,h9,h10,hc]
  exact ⟨_, _, _, rfl, by simp only [List.length_set,hlen], rfl, by simp only [B3,seval,hlen,h0], by simp only [B3,seval,hlen,h3], by simpa only [kgath, List.append_nil] using hH, Keeps.refl _ _ _⟩
 | m + 1, i, hi, tm, Hc, txt, hb, hH, ht, hw, hlen, h0, h3, h8, h9, h10 => by
  have hlt : i < rows.length := by omega
  obtain ⟨w, hwi⟩ : ∃ w, rows[i]? = some w := ⟨_, List.getElem?_eq_getElem hlt⟩
  have e : rows.drop i = w :: rows.drop (i + 1) := by
   rw [List.drop_eq_getElem_cons hlt]
   congr 1
   rw [List.getElem?_eq_getElem hlt] at hwi
   exact Option.some.inj hwi
  have hc : decide ((i : Int) < (rows.length : Int)) = true := decide_eq_true (by omega)
  have hix := idx_nat hlt
  have hgw : (rows.map encW)[i]? = some (encW w) := by rw [List.getElem?_map, hwi]; rfl
  have hwl := hr w (List.mem_of_getElem? hwi)
  have hwr := wrap_nat (i := i) (by omega)
  have hta : ∀ M : Heap, (Hc ++ M)[idt]? = some (.obj none [[.im (.int .i64 k), x]]) := fun M => by rw [get_app (List.getElem?_eq_some_iff.1 ht).1]; exact ht
  have key := l116w k x id idt idw hne hnw rows hr hrn m (i + 1) (by omega)
  have hH1 := hH.more [.obj none [encW w]]
  simp only [encW] at hH1 hgw
  rw [l116_1, e]
  by_cases hk : w.1 = k
  ·have hd : decide (w.1 = k) = true := decide_eq_true hk
   obtain ⟨H2, hcall, hH2, hK2⟩ := s86 hty hH1 w.2.1 (by omega)
   have hK := hK2.down
   simp only [b116_1,B0,B2,exec0,xreg,xops,aopc,endK,resA,tupA,List.replicate,binA,isShift,binInt,reduceCtorEq,lenA,seval,hlen,h0,h3,h8,h9,h10,hc,hix,hw,hgw,hta,hd,hcall,hwr]
   refine ex_imp (key _ H2 (txt ++ w.2.1) (by simp; omega) hH2 (hK.2.1 _ _ _ hne ht) (hK.2.1 _ _ _ hnw hw) ?_ ?_ ?_ ?_ ?_ ?_) ?_
   iterate 6 simp only [B3,seval,hlen,h0,h3,h8,h9]
   rintro e tm' H' ⟨hl', he, g0, g3, gH, gK⟩
   refine ⟨hl', he, g0, g3, ?_, hK.trans gK⟩
   simp only [kgath,hk,if_true]
   rwa [List.append_assoc] at gH
  ·have hd : decide (w.1 = k) = false := decide_eq_false hk
   have hK := (Keeps.refl n id Hc).app [.obj none [[.im (.int .i64 w.1), .im (.str w.2.1), .im (.int .i64 w.2.2)]]]
   simp only [b116_1,B0,B2,exec0,xreg,xops,aopc,endK,resA,tupA,List.replicate,binA,isShift,binInt,reduceCtorEq,lenA,seval,hlen,h0,h3,h8,h9,h10,hc,hix,hw,hgw,hta,hd,hwr]
   refine ex_imp (key _ _ txt (by omega) hH1 (hK.2.1 _ _ _ hne ht) (hK.2.1 _ _ _ hnw hw) ?_ ?_ ?_ ?_ ?_ ?_) ?_
   iterate 6 simp only [B3,seval,hlen,h0,h3,h8,h9]
   rintro e tm' H' ⟨hl', he, g0, g3, gH, gK⟩
   refine ⟨hl', he, g0, g3, ?_, hK.trans gK⟩
   simp only [kgath,hk,if_false,List.nil_append]
   exact gH
end
mutual
def showT : KT → List UInt8
 | .mk k _ args => kgath k words ++ (showTs args 40 ++ if args.length = 0 then [] else [41])
def showTs : List KT → UInt8 → List UInt8
 | [], _ => []
 | a :: l, c => c :: (showT a ++ showTs l 44)
end
section
variable (hty : Tryz.okB ty = true)
include hty
theorem l116a (args : List KT) (s : Nat) (hs : args = [] ∨ s = 2) (hn : args.length ≤ 2) (id : Nat)
  (hc : ∀ a ∈ args, ∀ (H : Heap) (txt : List UInt8), txt.length + (showT a).length + 100 ≤ 2 ^ 46 → HoldE ty 5 n H id rest txt → ∃ H', L 116 [.ptr id 0 0, .im (.agg (encT a))] H = some (.tup [], H') ∧ HoldE ty 5 n H' id rest (txt ++ showT a) ∧ Keeps n id H H') :
  ∀ (m i : Nat), i + m = args.length → ∀ (tm : List AV) (Hc : Heap) (txt : List UInt8), txt.length + (showTs (args.drop i) (sepB i)).length + 100 ≤ 2 ^ 46 → HoldE ty 5 n Hc id rest txt →
  tm.length = 46 → tm.getD 0 undefA = .ptr id 0 0 → tm.getD 25 undefA = .im (.sl s (args.map encT)) → tm.getD 26 undefA = .im (.int .i64 args.length) → tm.getD 27 undefA = .im (.int .i64 i) →
  ∃ e tm' H', Λ c116_0 tm Hc = some (e, tm', H') ∧ tm'.length = 46 ∧ e = .exit 2 ∧ tm'.getD 0 undefA = .ptr id 0 0 ∧ tm'.getD 3 undefA = tm.getD 3 undefA ∧ HoldE ty 5 n H' id rest (txt ++ showTs (args.drop i) (sepB i)) ∧ Keeps n id Hc H'
 | 0, i, hi, tm, Hc, txt, hb, hH, hlen, h0, h25, h26, h27 => by
  have e : args.drop i = [] := by rw [List.drop_eq_nil_iff]; omega
  have hc : decide ((i : Int) < (args.length : Int)) = false := decide_eq_false (by omega)
  rw [l116_0, e]
  simp only [b116_0,B0,B2,exec0,xreg,xops,aopc,endK,resA,tupA,List.replicate,binA,isShift,binInt,reduceCtorEq,lenA,seval,hlen,h0,h25,h26,h27,hc]
  exact ⟨_, _, _, rfl, by simp only [List.length_set,hlen], rfl, by simp only [B3,seval,hlen,h0], by simp only [B3,seval,hlen], by simpa only [showTs, List.append_nil] using hH, Keeps.refl _ _ _⟩
 | m + 1, i, hi, tm, Hc, txt, hb, hH, hlen, h0, h25, h26, h27 => by
  have hlt : i < args.length := by omega
  obtain ⟨w, hwi⟩ : ∃ w, args[i]? = some w := ⟨_, List.getElem?_eq_getElem hlt⟩
  have e : args.drop i = w :: args.drop (i + 1) := by
   rw [List.drop_eq_getElem_cons hlt]
   congr 1
   rw [List.getElem?_eq_getElem hlt] at hwi
   exact Option.some.inj hwi
  have hs2 : s = 2 := by
   rcases hs with hs | hs
   ·subst hs; simp at hlt
   ·exact hs
  subst hs2
  have hc' : decide ((i : Int) < (args.length : Int)) = true := decide_eq_true (by omega)
  have hix := idx_nat (n := (args.map encT).length) (i := i) (by simpa using hlt)
  have hix2 := idx_nat (n := 2) (i := i) (by omega)
  have hgw : (args.map encT)[i]? = some (encT w) := by rw [List.getElem?_map, hwi]; rfl
  have hwr := wrap_nat (i := i) (by omega)
  have key := l116a args 2 hs hn id hc m (i + 1) (by omega)
  rw [e] at hb
  simp only [showTs,List.length_cons,List.length_append] at hb
  have hsb : sepB (i + 1) = 44 := by simp [sepB]
  have hsep : ([40, 44] : List UInt8)[i]? = some (sepB i) := by
   have : i = 0 ∨ i = 1 := by omega
   rcases this with rfl | rfl <;> rfl
  have hH1 := hH.more [.obj none [(encT w).map .im]]
  obtain ⟨H2, hcall2, hH2, hK2⟩ := s113 hty hH1 (sepB i) (by omega)
  obtain ⟨H3, hcall3, hH3, hK3⟩ := hc w (List.mem_of_getElem? hwi) H2 (txt ++ [sepB i]) (by simp; omega) hH2
  have hloc := hK2.2.1 Hc.length none [(encT w).map .im]
  have hidlt : id < Hc.length := by obtain ⟨_, _, h, _⟩ := hH; exact (List.getElem?_eq_some_iff.1 h).1
  have hloc := hloc (by omega) (by rw [Go.Abs.hget0]; rfl)
  have hK := hK2.down.trans hK3
  rw [l116_0, e]
  generalize hsw : showT w = sw at *
  generalize hsbi : sepB i = c at *
  obtain ⟨k, s', ts⟩ := w
  simp only [encT,List.map_cons,List.map_nil,byteDat] at hcall2 hcall3 hgw hloc
  have hnn : (0 : Int) ≤ (i : Int) := Int.natCast_nonneg i
  simp only [b116_0,B0,B2,exec0,xreg,xops,aopc,endK,resA,tupA,List.replicate,binA,isShift,binInt,reduceCtorEq,lenA,seval,intOfA,hnn,Int.toNat_natCast,hlen,h0,h25,h26,h27,hc',hix,hix2,hgw,hwr,hsep,hcall2,hloc,hcall3,byteDat]
  refine ex_imp (key _ H3 (txt ++ [c] ++ sw) (by rw [hsb]; simp; omega) hH3 ?_ ?_ ?_ ?_ ?_) ?_
  iterate 5 simp only [B3,seval,hlen,h0,h25,h26]
  rintro e tm' H' ⟨hl', he, g0, g3, gH, gK⟩
  refine ⟨hl', he, g0, ?_, ?_, hK.trans gK⟩
  ·rw [g3]; simp only [B3,seval,hlen]
  ·rw [hsb] at gH
   simp only [showTs,hsw]
   simpa only [List.append_assoc, List.cons_append, List.nil_append] using gH
theorem s116 : ∀ (t : KT), okT t → narrow t → ∀ (id : Nat) (H : Heap) (txt : List UInt8), txt.length + (showT t).length + 100 ≤ 2 ^ 46 → HoldE ty 5 n H id rest txt →
  ∃ H', L 116 [.ptr id 0 0, .im (.agg (encT t))] H = some (.tup [], H') ∧ HoldE ty 5 n H' id rest (txt ++ showT t) ∧ Keeps n id H H'
 | .mk k s args, hok, hnw, id, H, txt, hb, hH => by
  simp only [okT] at hok
  obtain ⟨hs, _, hoks⟩ := hok
  simp only [narrow] at hnw
  obtain ⟨hn, hnws⟩ := hnw
  have hc : ∀ a ∈ args, ∀ (H : Heap) (txt : List UInt8), txt.length + (showT a).length + 100 ≤ 2 ^ 46 → HoldE ty 5 n H id rest txt → ∃ H', L 116 [.ptr id 0 0, .im (.agg (encT a))] H = some (.tup [], H') ∧ HoldE ty 5 n H' id rest (txt ++ showT a) ∧ Keeps n id H H' :=
   fun a ha H txt hb hH => s116 a (okTs_mem hoks a ha) (narrows_mem hnws a ha) id H txt hb hH
  have hidlt : id < H.length := by obtain ⟨_, _, h, _⟩ := hH; exact (List.getElem?_eq_some_iff.1 h).1
  simp only [showT,List.length_append] at hb
  have hgl := kgath_len k words word_len
  have hw8 : words.length = 8 := rfl
  have hH1 := hH.more [.obj none [[.im (.int .i64 k), .im (.sl s (encTs args))]], .obj none (words.map encW)]
  have keyw := l116w (n := n) (rest := rest) hty k (.im (.sl s (encTs args))) id H.length (H.length + 1) (by omega) (by omega) words word_len (by decide) 8 0 (by decide)
  have z : ((0 : Nat) : Int) = 0 := rfl
  have z8 : ((8 : Nat) : Int) = 8 := rfl
  simp only [z,hw8,List.drop_zero,z8] at keyw
  have hel : (encTs args).length = args.length := by rw [encTs_map]; simp
  have keya := l116a hty args s hs hn id hc args.length 0 (by omega)
  simp only [z,List.drop_zero] at keya
  have hsep0 : sepB 0 = 40 := rfl
  rw [hsep0] at keya
  simp only [encT]
  have fin : ∀ (H2 : Heap), HoldE ty 5 n H2 id rest (txt ++ showT (.mk k s args)) → Keeps n id H H2 → ∃ H', leave H false (.tup []) H2 = (.tup [], H') ∧ HoldE ty 5 n H' id rest (txt ++ showT (.mk k s args)) ∧ Keeps n id H H' :=
   fun H2 h1 h2 => leave_holdE rfl hH h1 h2
  suffices hsuf : ∃ H2, HoldE ty 5 n H2 id rest (txt ++ showT (.mk k s args)) ∧ Keeps n id H H2 ∧ L 116 [.ptr id 0 0, .im (.agg [.int .i64 k, .sl s (encTs args)])] H = some (leave H false (.tup []) H2) by
   obtain ⟨H2, h1, h2, h3⟩ := hsuf
   obtain ⟨H', e1, e2, e3⟩ := fin H2 h1 h2
   exact ⟨H', by rw [h3, e1], e2, e3⟩
  rw [leq F116]
  obtain ⟨hlen, ha⟩ := enter_at (f := f116) (args := [.ptr id 0 0, .im (.agg [.int .i64 k, .sl s (encTs args)])]) (Nat.le_of_ble_eq_true rfl)
  have h0 := ha 0 _ rfl
  have h1 := ha 1 _ rfl
  generalize enterA f116 [.ptr id 0 0, .im (.agg [.int .i64 k, .sl s (encTs args)])] = tm at *
  change tm.length = 46 at hlen
  simp only [f116,e116_0,e116_1,B0,B2,exec0,xreg,xops,aopc,endK,resA,tupA,List.replicate,binA,isShift,binInt,reduceCtorEq,lenA,seval,hlen,h0,h1,s93]
  refine thenL_ex (fun r => ∃ H2, HoldE ty 5 n H2 id rest (txt ++ showT (.mk k s args)) ∧ Keeps n id H H2 ∧ r = some (leave H false (.tup []) H2)) (keyw _ _ txt (by omega) hH1 (by rw [Go.Abs.hget0]; rfl) (by rw [Go.Abs.hget]; rfl) ?_ ?_ ?_ ?_ ?_ ?_) ?_
  iterate 6 simp only [B3,seval,hlen,h0,z8]
  rintro e tm1 H1 ⟨hl1, rfl, a0, a3, aH, aK⟩
  have hob1 : H1[H.length]? = some (.obj none [[.im (.int .i64 k), .im (.sl s (encTs args))]]) := aK.2.1 _ _ _ (by omega) (by rw [Go.Abs.hget0]; rfl)
  simp only [B0,B2,exec0,xreg,xops,aopc,endK,resA,tupA,List.replicate,binA,isShift,binInt,reduceCtorEq,lenA,seval,hl1,a0,a3,hob1,hel]
  refine thenL_ex (fun r => ∃ H2, HoldE ty 5 n H2 id rest (txt ++ showT (.mk k s args)) ∧ Keeps n id H H2 ∧ r = some (leave H false (.tup []) H2)) (keya _ _ (txt ++ kgath k words) (by simp; omega) aH ?_ ?_ ?_ ?_ ?_) ?_
  iterate 5 simp only [B3,seval,hl1,a0,encTs_map]
  rintro e tm2 H2 ⟨hl2, rfl, b0, b3, bH, bK⟩
  have hob2 : H2[H.length]? = some (.obj none [[.im (.int .i64 k), .im (.sl s (encTs args))]]) := bK.2.1 _ _ _ (by omega) hob1
  have b3' : tm2.getD 3 undefA = .ptr H.length 0 0 := by rw [b3]; simp only [B3,seval,hl1,a3]
  have hK2 : Keeps n id H H2 := aK.down.trans bK
  by_cases h0 : args.length = 0
  ·have hd : decide ((0 : Int) < (args.length : Int)) = false := decide_eq_false (by omega)
   simp only [B0,B2,exec0,xreg,xops,aopc,endK,resA,tupA,List.replicate,binA,isShift,binInt,reduceCtorEq,lenA,seval,hl2,b0,b3',hob2,hel,hd]
   refine ⟨H2, ?_, hK2, rfl⟩
   simp only [showT,if_pos h0,List.append_nil]
   rwa [List.append_assoc] at bH
  ·have hd : decide ((0 : Int) < (args.length : Int)) = true := decide_eq_true (by omega)
   obtain ⟨H3, hc3, cH, cK⟩ := s113 hty bH 41 (by simp only [List.length_append]; rw [if_neg h0] at hb; simp at hb; omega)
   simp only [byteDat,show (((41 : UInt8).toNat : Nat) : Int) = 41 from rfl] at hc3
   simp only [B0,B2,exec0,xreg,xops,aopc,endK,resA,tupA,List.replicate,binA,isShift,binInt,reduceCtorEq,lenA,seval,hl2,b0,b3',hob2,hel,hd,hc3]
   refine ⟨H3, ?_, hK2.trans cK, rfl⟩
   simp only [showT,if_neg h0]
   simpa only [List.append_assoc] using cH
termination_by t => SizeOf.sizeOf t
decreasing_by
 have := List.sizeOf_lt_of_mem ha
 simp only [KT.mk.sizeOf_spec]
 omega
end
end Go.Abs.Seat
end
section
set_option linter.unusedVariables false
set_option linter.unusedSimpArgs false
namespace Go.Abs.Seat
open Go.Proofs
theorem kcnt_le : ∀ i, i < 8 → kcnt i ≤ 2 := by decide
mutual
theorem right_narrow : ∀ (t : KT) (d : Int), rightT t d = true → narrow t
 | .mk k s args, d, h => by
  simp only [rightT] at h
  split at h
  ·rename_i i hi
   split at h
   ·simp at h
   ·split at h
    ·rename_i hl
     have := kcnt_le i (kidx_lt hi).1
     simp only [narrow]
     exact ⟨by omega, right_narrows args (d - 1) (by simpa using h)⟩
    ·simp at h
  ·simp at h
theorem right_narrows : ∀ (l : List KT) (d : Int), rightNot l d = false → narrows l
 | [], d, h => by simp only [narrows]
 | a :: l, d, h => by
  simp only [rightNot,Bool.or_eq_false_iff,Bool.not_eq_false'] at h
  simp only [narrows]
  exact ⟨right_narrow a d h.1, right_narrows l d h.2⟩
end
theorem bytesE_of : ∀ l : List UInt8, bytesE (l.map fun b => [byteDat b]) = some l
 | [] => rfl
 | b :: l => by
  have h := bytesE_of l
  simp only [List.map_cons,byteDat,bytesE]
  simp only [byteDat] at h
  rw [h]
  have hb := b.toNat_lt
  simp only
  rw [if_pos ⟨by omega, by omega⟩]
  simp
mutual
theorem show_len : ∀ (t : KT) (d : Nat), rightT t d = true → (showT t).length ≤ 100 * 4 ^ d
 | .mk k s args, d, h => by
  have hg := kgath_len k words word_len
  have hw8 : words.length = 8 := rfl
  simp only [rightT] at h
  split at h
  ·rename_i i hi
   split at h
   ·simp at h
   ·rename_i hd
    obtain ⟨d, rfl⟩ : ∃ d', d = d' + 1 := ⟨d - 1, by omega⟩
    split at h
    ·rename_i hl
     have h2 := kcnt_le i (kidx_lt hi).1
     have := show_lens args d 40 (by simpa using h)
     have hp : 0 < 4 ^ d := Nat.pos_of_ne_zero (by simp)
     have hm : args.length * (1 + 100 * 4 ^ d) ≤ 2 * (1 + 100 * 4 ^ d) := Nat.mul_le_mul_right _ (by omega)
     have he : 4 ^ (d + 1) = 4 * 4 ^ d := by rw [Nat.pow_succ]; omega
     simp only [showT,List.length_append]
     split <;> simp <;> omega
    ·simp at h
  ·simp at h
theorem show_lens : ∀ (l : List KT) (d : Nat) (c : UInt8), rightNot l d = false → (showTs l c).length ≤ l.length * (1 + 100 * 4 ^ d)
 | [], d, c, h => by simp [showTs]
 | a :: l, d, c, h => by
  simp only [rightNot,Bool.or_eq_false_iff,Bool.not_eq_false'] at h
  have h1 := show_len a d h.1
  have h2 := show_lens l d 44 h.2
  simp only [showTs,List.length_cons,List.length_append,Nat.add_mul]
  omega
end
theorem show_ne : ∀ (t : KT) (d : Int), rightT t d = true → showT t ≠ []
 | .mk k s args, d, h => by
  simp only [rightT] at h
  split at h
  ·rename_i i hi
   simp only [showT]
   intro e
   have e2 := (List.append_eq_nil_iff.1 e).1
   have hi' := hi
   unfold kidx at hi'
   obtain ⟨h1, h2, _⟩ := List.findIdx?_eq_some_iff_getElem.1 hi'
   have key : ∀ w ∈ words, kgath w.1 words ≠ [] := by decide
   have := key words[i] (List.getElem_mem h1)
   rw [of_decide_eq_true h2] at this
   exact this e2
  ·simp at h
def checkT (t : KT) : Int := if rightT t 6 = true then 0 else 20
theorem s33 (t : KT) (hok : okT t) (H : Heap) : L 33 [.im (.agg (encT t))] H = some (.im (.int .i64 (checkT t)), H) := by
 have h51 := fun H => s60 t hok 6 (by decide) (by decide) H
 obtain ⟨k, s, ts⟩ := t
 simp only [encT] at h51 ⊢
 rw [leq F33]
 obtain ⟨hlen, ha⟩ := enter_at (f := f33) (args := [.im (.agg [.int .i64 k, .sl s (encTs ts)])]) (Nat.le_of_ble_eq_true rfl)
 have h0 := ha 0 _ rfl
 generalize enterA f33 [.im (.agg [.int .i64 k, .sl s (encTs ts)])] = tm at *
 change tm.length = 6 at hlen
 unfold checkT
 cases hr : rightT (.mk k s ts) 6 with
 | true =>
  simp only [hr] at h51
  simp only [f33,B0,B2,exec0,xreg,xops,aopc,endK,resA,tupA,List.replicate,binA,isShift,binInt,reduceCtorEq,lenA,seval,hlen,h0,h51,leave_app]
 | false =>
  simp only [hr] at h51
  simp only [f33,B0,B2,exec0,xreg,xops,aopc,endK,resA,tupA,List.replicate,binA,isShift,binInt,reduceCtorEq,lenA,seval,hlen,h0,h51,leave_app]
theorem s90 (t : KT) (hok : okT t) (H : Heap) : L 90 [.im (.agg (encT t))] H = some (.tup [.im (.str (if rightT t 6 = true then showT t else [])), .im (.int .i64 (checkT t))], H) := by
 have h19 := fun H => s33 t hok H
 unfold checkT at h19 ⊢
 rcases Bool.eq_false_or_eq_true (rightT t 6) with hr | hr
 ·simp only [hr,if_true] at h19 ⊢
  have hlen := show_len t 6 hr
  have hne := show_ne t 6 hr
  have h48 := s116 (n := H.length + 2) (ty := (111, 2)) (rest := []) (by decide) t hok (right_narrow t 6 hr) (H.length + 1) (H ++ [.obj none [(encT t).map .im], .obj (some (111, 2)) [[.im .nilp, .nils]]]) []
   (by simp; omega) ⟨.im .nilp, .nils, by rw [Go.Abs.hget]; rfl, .inl rfl, .inl ⟨rfl, rfl⟩, by simp⟩
  obtain ⟨H2, hc, ⟨a0, v, hid, _, hG, _⟩, hK⟩ := h48
  rw [List.nil_append] at hG
  rcases hG with ⟨hes, _⟩ | ⟨_, tok, htok, rfl, hhw⟩
  ·exact absurd (by simpa using hes) hne
  ·have h49 : L 59 [.ptr (H.length + 1) 0 0] H2 = some (.im (.str (showT t)), H2.set tok (.hw 5 ((showT t).length + 1))) := by
    rw [L26]
    simp only [stE,hid,hhw,bytesE_of]
    rw [if_pos ⟨by decide, trivial, by simp, trivial, List.length_pos_iff.2 hne, by omega⟩]
    simp
   have hheld : heldIn H (H2.set tok (.hw 5 ((showT t).length + 1))) := fun i hi => by
    left
    rw [List.getElem?_set_ne (by omega), hK.2.2 i (by omega) (by simp; omega) (by omega), List.getElem?_append_left hi]
   have htake : (H2.set tok (.hw 5 ((showT t).length + 1))).take H.length = H := by
    apply List.ext_getElem?
    intro i
    rw [List.getElem?_take]
    split
    ·rename_i hi
     rcases hheld i hi with h | ⟨o, h, _⟩
     ·exact h
     ·rw [List.getElem?_set_ne (by omega), hK.2.2 i (by omega) (by simp; omega) (by omega), List.getElem?_append_left hi]
    ·rename_i hi
     rw [List.getElem?_eq_none (by omega)]
   have hlv : leave H false (.tup [.im (.str (showT t)), .im (.int .i64 0)]) (H2.set tok (.hw 5 ((showT t).length + 1))) = (.tup [.im (.str (showT t)), .im (.int .i64 0)], H) := by
    unfold leave
    have e : (if (false : Bool) = true then AV.tup [.im (.str (showT t)), .im (.int .i64 0)] else degrade (.tup [.im (.str (showT t)), .im (.int .i64 0)])) = .tup [.im (.str (showT t)), .im (.int .i64 0)] := by simp [degrade, degrade1, toDat]
    rw [e, if_pos ⟨by simp only [refsLt,refsLts,Bool.and_self], hheld⟩, htake]
   generalize showT t = txt at *
   obtain ⟨k, s, ts⟩ := t
   simp only [encT,List.map_cons,List.map_nil] at h19 hc ⊢
   rw [leq F90]
   obtain ⟨hln, ha⟩ := enter_at (f := f90) (args := [.im (.agg [.int .i64 k, .sl s (encTs ts)])]) (Nat.le_of_ble_eq_true rfl)
   have h0 := ha 0 _ rfl
   generalize enterA f90 [.im (.agg [.int .i64 k, .sl s (encTs ts)])] = tm at *
   change tm.length = 18 at hln
   simp only [f90,B0,B2,exec0,xreg,xops,aopc,endK,resA,tupA,List.replicate,binA,isShift,binInt,reduceCtorEq,lenA,seval,hln,h0,h19,hc,h49,hlv]
 ·simp only [hr,Bool.false_eq_true,if_false] at h19 ⊢
  obtain ⟨k, s, ts⟩ := t
  simp only [encT] at h19 ⊢
  rw [leq F90]
  obtain ⟨hln, ha⟩ := enter_at (f := f90) (args := [.im (.agg [.int .i64 k, .sl s (encTs ts)])]) (Nat.le_of_ble_eq_true rfl)
  have h0 := ha 0 _ rfl
  generalize enterA f90 [.im (.agg [.int .i64 k, .sl s (encTs ts)])] = tm at *
  change tm.length = 18 at hln
  simp only [f90,B0,B2,exec0,xreg,xops,aopc,endK,resA,tupA,List.replicate,binA,isShift,binInt,reduceCtorEq,lenA,seval,hln,h0,h19,leave_tup2]
end Go.Abs.Seat
end
section
set_option linter.unusedVariables false
set_option linter.unusedSimpArgs false
namespace Go.Abs.Seat
open Go.Proofs
def bareN : NT → Bool → Bool → Bool → Bool → Bool
 | .mk _ i txt (.mk k _ args) _ kids, a, b, c, d => (((a || decide (i = 0)) && (b || decide (txt = []))) && (c || (decide (k = 0) && decide ((args.length : Int) = 0)))) && (d || decide ((kids.length : Int) = 0))
section
variable (op txt : List UInt8) (i k : Int) (sa s : Nat) (args : List KT) (kids : List NT) (H : Heap)
theorem s85 (a b c d : Bool) (hp : (a, b, c, d) = (true, false, false, false) ∨ (a, b, c, d) = (false, true, false, false) ∨ (a, b, c, d) = (false, false, true, false) ∨ (a, b, c, d) = (false, false, false, true)) : L 85 [.im (.agg (encN (.mk op i txt (.mk k sa args) s kids))), .im (.bool a), .im (.bool b), .im (.bool c), .im (.bool d)] H = some (.im (.bool (bareN (.mk op i txt (.mk k sa args) s kids) a b c d)), H) := by
 have hl1 : (encTs args).length = args.length := by rw [encTs_map]; simp
 have hl2 : (encNs kids).length = kids.length := by rw [encNs_map]; simp
 simp only [encN,bareN]
 rw [leq F85]
 obtain ⟨hlen, ha⟩ := enter_at (f := f85) (args := [.im (.agg [.str op, .int .i64 i, .str txt, .int .i64 k, .sl sa (encTs args), .sl s (encNs kids)]), .im (.bool a), .im (.bool b), .im (.bool c), .im (.bool d)]) (Nat.le_of_ble_eq_true rfl)
 have h0 := ha 0 _ rfl
 have h1 := ha 1 _ rfl
 have h2 := ha 2 _ rfl
 have h3 := ha 3 _ rfl
 have h4 := ha 4 _ rfl
 generalize enterA f85 [.im (.agg [.str op, .int .i64 i, .str txt, .int .i64 k, .sl sa (encTs args), .sl s (encNs kids)]), .im (.bool a), .im (.bool b), .im (.bool c), .im (.bool d)] = tm at *
 change tm.length = 50 at hlen
 clear ha
 have kl : ((encTs args).length : Int) = (args.length : Int) := by rw [hl1]
 have kl2 : ((encNs kids).length : Int) = (kids.length : Int) := by rw [hl2]
 have go : ∀ (p1 p2 p3 p4 p5 : Bool), decide (i = 0) = p1 → decide (txt = []) = p2 → decide (k = 0) = p3 → decide ((args.length : Int) = 0) = p4 → decide ((kids.length : Int) = 0) = p5 →
   exec0 L Λ f85.code tm H (endK f85 H) = some (.im (.bool ((((a || p1) && (b || p2)) && (c || (p3 && p4))) && (d || p5))), H) := fun p1 p2 p3 p4 p5 e1 e2 e3 e4 e5 => by
  have hp := hp
  rcases hp with hp | hp | hp | hp
  ·simp only [Prod.mk.injEq] at hp
   obtain ⟨rfl, rfl, rfl, rfl⟩ := hp
   cases p2
   ·simp only [f85,B0,B1,B2,List.replicate,reduceCtorEq,lenA,seval,B5,pairK,B4,stays,loadOf,endK,resA,tupA,hlen,h0,h1,h2,h3,h4,e1,e2,e3,e4,e5,hl1,hl2,leave_app,Bool.false_or,Bool.true_or,Bool.false_and,Bool.true_and]
   cases p3
   ·simp only [f85,B0,B1,B2,List.replicate,reduceCtorEq,lenA,seval,B5,pairK,B4,stays,loadOf,endK,resA,tupA,hlen,h0,h1,h2,h3,h4,e1,e2,e3,e4,e5,hl1,hl2,leave_app,Bool.false_or,Bool.true_or,Bool.false_and,Bool.true_and]
   cases p4
   ·simp only [f85,B0,B1,B2,List.replicate,reduceCtorEq,lenA,seval,B5,pairK,B4,stays,loadOf,endK,resA,tupA,hlen,h0,h1,h2,h3,h4,e1,e2,e3,e4,e5,hl1,hl2,leave_app,Bool.false_or,Bool.true_or,Bool.false_and,Bool.true_and]
   cases p5
   ·simp only [f85,B0,B1,B2,List.replicate,reduceCtorEq,lenA,seval,B5,pairK,B4,stays,loadOf,endK,resA,tupA,hlen,h0,h1,h2,h3,h4,e1,e2,e3,e4,e5,hl1,hl2,leave_app,Bool.false_or,Bool.true_or,Bool.false_and,Bool.true_and]
   simp only [f85,B0,B1,B2,List.replicate,reduceCtorEq,lenA,seval,B5,pairK,B4,stays,loadOf,endK,resA,tupA,hlen,h0,h1,h2,h3,h4,e1,e2,e3,e4,e5,hl1,hl2,leave_app,Bool.false_or,Bool.true_or,Bool.false_and,Bool.true_and]
  ·simp only [Prod.mk.injEq] at hp
   obtain ⟨rfl, rfl, rfl, rfl⟩ := hp
   cases p1
   ·simp only [f85,B0,B1,B2,List.replicate,reduceCtorEq,lenA,seval,B5,pairK,B4,stays,loadOf,endK,resA,tupA,hlen,h0,h1,h2,h3,h4,e1,e2,e3,e4,e5,hl1,hl2,leave_app,Bool.false_or,Bool.true_or,Bool.false_and,Bool.true_and]
   cases p3
   ·simp only [f85,B0,B1,B2,List.replicate,reduceCtorEq,lenA,seval,B5,pairK,B4,stays,loadOf,endK,resA,tupA,hlen,h0,h1,h2,h3,h4,e1,e2,e3,e4,e5,hl1,hl2,leave_app,Bool.false_or,Bool.true_or,Bool.false_and,Bool.true_and]
   cases p4
   ·simp only [f85,B0,B1,B2,List.replicate,reduceCtorEq,lenA,seval,B5,pairK,B4,stays,loadOf,endK,resA,tupA,hlen,h0,h1,h2,h3,h4,e1,e2,e3,e4,e5,hl1,hl2,leave_app,Bool.false_or,Bool.true_or,Bool.false_and,Bool.true_and]
   cases p5
   ·simp only [f85,B0,B1,B2,List.replicate,reduceCtorEq,lenA,seval,B5,pairK,B4,stays,loadOf,endK,resA,tupA,hlen,h0,h1,h2,h3,h4,e1,e2,e3,e4,e5,hl1,hl2,leave_app,Bool.false_or,Bool.true_or,Bool.false_and,Bool.true_and]
   simp only [f85,B0,B1,B2,List.replicate,reduceCtorEq,lenA,seval,B5,pairK,B4,stays,loadOf,endK,resA,tupA,hlen,h0,h1,h2,h3,h4,e1,e2,e3,e4,e5,hl1,hl2,leave_app,Bool.false_or,Bool.true_or,Bool.false_and,Bool.true_and]
  ·simp only [Prod.mk.injEq] at hp
   obtain ⟨rfl, rfl, rfl, rfl⟩ := hp
   cases p1
   ·simp only [f85,B0,B1,B2,List.replicate,reduceCtorEq,lenA,seval,B5,pairK,B4,stays,loadOf,endK,resA,tupA,hlen,h0,h1,h2,h3,h4,e1,e2,e3,e4,e5,hl1,hl2,leave_app,Bool.false_or,Bool.true_or,Bool.false_and,Bool.true_and]
   cases p2
   ·simp only [f85,B0,B1,B2,List.replicate,reduceCtorEq,lenA,seval,B5,pairK,B4,stays,loadOf,endK,resA,tupA,hlen,h0,h1,h2,h3,h4,e1,e2,e3,e4,e5,hl1,hl2,leave_app,Bool.false_or,Bool.true_or,Bool.false_and,Bool.true_and]
   cases p5
   ·simp only [f85,B0,B1,B2,List.replicate,reduceCtorEq,lenA,seval,B5,pairK,B4,stays,loadOf,endK,resA,tupA,hlen,h0,h1,h2,h3,h4,e1,e2,e3,e4,e5,hl1,hl2,leave_app,Bool.false_or,Bool.true_or,Bool.false_and,Bool.true_and]
   simp only [f85,B0,B1,B2,List.replicate,reduceCtorEq,lenA,seval,B5,pairK,B4,stays,loadOf,endK,resA,tupA,hlen,h0,h1,h2,h3,h4,e1,e2,e3,e4,e5,hl1,hl2,leave_app,Bool.false_or,Bool.true_or,Bool.false_and,Bool.true_and]
  ·simp only [Prod.mk.injEq] at hp
   obtain ⟨rfl, rfl, rfl, rfl⟩ := hp
   cases p1
   ·simp only [f85,B0,B1,B2,List.replicate,reduceCtorEq,lenA,seval,B5,pairK,B4,stays,loadOf,endK,resA,tupA,hlen,h0,h1,h2,h3,h4,e1,e2,e3,e4,e5,hl1,hl2,leave_app,Bool.false_or,Bool.true_or,Bool.false_and,Bool.true_and]
   cases p2
   ·simp only [f85,B0,B1,B2,List.replicate,reduceCtorEq,lenA,seval,B5,pairK,B4,stays,loadOf,endK,resA,tupA,hlen,h0,h1,h2,h3,h4,e1,e2,e3,e4,e5,hl1,hl2,leave_app,Bool.false_or,Bool.true_or,Bool.false_and,Bool.true_and]
   cases p3
   ·simp only [f85,B0,B1,B2,List.replicate,reduceCtorEq,lenA,seval,B5,pairK,B4,stays,loadOf,endK,resA,tupA,hlen,h0,h1,h2,h3,h4,e1,e2,e3,e4,e5,hl1,hl2,leave_app,Bool.false_or,Bool.true_or,Bool.false_and,Bool.true_and]
   cases p4
   ·simp only [f85,B0,B1,B2,List.replicate,reduceCtorEq,lenA,seval,B5,pairK,B4,stays,loadOf,endK,resA,tupA,hlen,h0,h1,h2,h3,h4,e1,e2,e3,e4,e5,hl1,hl2,leave_app,Bool.false_or,Bool.true_or,Bool.false_and,Bool.true_and]
   simp only [f85,B0,B1,B2,List.replicate,reduceCtorEq,lenA,seval,B5,pairK,B4,stays,loadOf,endK,resA,tupA,hlen,h0,h1,h2,h3,h4,e1,e2,e3,e4,e5,hl1,hl2,leave_app,Bool.false_or,Bool.true_or,Bool.false_and,Bool.true_and]
 exact go _ _ _ _ _ rfl rfl rfl rfl rfl
end
end Go.Abs.Seat
end
section
set_option linter.unusedVariables false
set_option linter.unusedSimpArgs false
namespace Go.Abs.Seat
open Go.Proofs
def hexD (n : Nat) : UInt8 := (hexW[n]?).getD 0
def quoteC (c : UInt8) : List UInt8 := if plnZ (c.toNat : Int) = true then [c] else [92, hexD (c.toNat / 16), hexD (c.toNat % 16)]
def quoteL : List UInt8 → List UInt8
 | [] => []
 | c :: s => quoteC c ++ quoteL s
def quoteB (s : List UInt8) : List UInt8 := 34 :: (quoteL s ++ [34])
theorem quoteC_len (c : UInt8) : (quoteC c).length ≤ 3 := by unfold quoteC; split <;> simp
theorem quoteL_len : ∀ s : List UInt8, (quoteL s).length ≤ 3 * s.length
 | [] => Nat.le_refl _
 | c :: s => by
  have h1 := quoteC_len c
  have h2 := quoteL_len s
  simp only [quoteL,List.length_append,List.length_cons]
  omega
theorem hexD_at (n : Nat) (h : n < 16) : hexW[n]? = some (hexD n) := by
 unfold hexD
 rw [List.getElem?_eq_getElem (show n < hexW.length from h)]
 rfl
theorem enc_hex : ∀ n : Fin 16, (Utf8.encode ((hexD n.val).toNat : Int)).data.toList = [hexD n.val] := by decide +kernel
theorem byte_hi : ∀ x : Fin 256, ((x.val : Int)).fdiv (2 ^ (Min.min (4 : Int).toNat IntKind.u8.bits)) = ((x.val / 16 : Nat) : Int) := by decide +kernel
theorem byte_lo : ∀ x : Fin 256, IntKind.u8.wrap (((BitVec.ofInt IntKind.u8.bits (x.val : Int)) &&& (BitVec.ofInt IntKind.u8.bits 15)).toNat : Int) = ((x.val % 16 : Nat) : Int) := by decide +kernel
theorem b_hi (c : UInt8) : binA .shr (.im (.int .u8 (c.toNat : Int))) (.im (.int .u64 4)) = some (.im (.int .u8 ((c.toNat / 16 : Nat) : Int))) := by
 have := byte_hi ⟨c.toNat, c.toNat_lt⟩
 simp only [binA,isShift,if_true,binShift]
 rw [if_neg (by decide), this]
theorem b_lo (c : UInt8) : binA .and (.im (.int .u8 (c.toNat : Int))) (.im (.int .u8 15)) = some (.im (.int .u8 ((c.toNat % 16 : Nat) : Int))) := by
 have := byte_lo ⟨c.toNat, c.toNat_lt⟩
 simp only [binA,isShift,Bool.false_eq_true,if_false,if_true,binInt]
 rw [this]
variable {n : Nat} {ty : TypeId × Nat} {rest : List AV}
theorem l88 (hty : Tryz.okB ty = true) (id : Nat) (s : List UInt8) (hs : s.length ≤ 4611686018427387904) :
  ∀ (m i : Nat) (tm : List AV) (H : Heap) (txt : List UInt8), i + m = s.length → txt.length + 3 * m ≤ 2 ^ 46 → HoldE ty 5 n H id rest txt → tm.length = 43 → tm.getD 0 undefA = .ptr id 0 0 →
   tm.getD 11 undefA = .im (.sl 1 (s.map fun c => [byteDat c])) → tm.getD 12 undefA = .im (.int .i64 (s.length : Int)) → tm.getD 13 undefA = .im (.int .i64 (i : Int)) →
  ∃ e tm' H', Λ c88_0 tm H = some (e, tm', H') ∧ (e = .exit 0 ∧ tm'.length = 43 ∧ tm'.getD 0 undefA = .ptr id 0 0 ∧ HoldE ty 5 n H' id rest (txt ++ quoteL (s.drop i)) ∧ Keeps n id H H')
 | 0, i, tm, H, txt, hi, hb, hH, hlen, h0, h11, h12, h13 => by
  have e : s.drop i = [] := by rw [List.drop_eq_nil_iff]; omega
  have hc : decide ((i : Int) < (s.length : Int)) = false := decide_eq_false (by omega)
  rw [l88_0, e]
  simp only [b88_0,B0,B1,B2,List.replicate,reduceCtorEq,lenA,seval,hlen,h0,h11,h12,h13,hc]
  exact ⟨_, _, _, rfl, rfl, by simp only [List.length_set,hlen], by simp only [B3,seval,hlen,h0], by simpa only [quoteL, List.append_nil] using hH, Keeps.refl _ _ _⟩
 | m + 1, i, tm, H, txt, hi, hb, hH, hlen, h0, h11, h12, h13 => by
  have hlt : i < s.length := by omega
  have e : s.drop i = s[i] :: s.drop (i + 1) := List.drop_eq_getElem_cons hlt
  have hsi : s[i]? = some s[i] := List.getElem?_eq_getElem hlt
  generalize s[i] = c at e hsi
  have hc : decide ((i : Int) < (s.length : Int)) = true := decide_eq_true (by omega)
  have hix := idx_nat (i := i) (n := (s.map fun c => [byteDat c]).length) (by simpa using hlt)
  have hget : (s.map fun c => [byteDat c])[i]? = some [byteDat c] := by rw [List.getElem?_map, hsi]; rfl
  have hwr := wrap_nat (i := i) (by omega)
  have c51 := fun H => s104 (c.toNat : Int) H
  rw [l88_0, e]
  rcases Bool.eq_false_or_eq_true (plnZ (c.toNat : Int)) with hp | hp
  ·obtain ⟨H2, hcall, hH2, hK2⟩ := s113 hty hH c (by omega)
   have key := fun tm1 => l88 hty id s hs m (i + 1) tm1 H2 (txt ++ [c]) (by omega) (by simp; omega) hH2
   simp only [byteDat] at hcall hget c51 hix
   simp only [hp] at c51
   simp only [b88_0,B0,B1,B2,List.replicate,reduceCtorEq,lenA,seval,byteDat,hlen,h0,h11,h12,h13,hc,hix,hget,c51,hcall,hwr]
   refine ex_imp (key _ ?_ ?_ ?_ ?_ ?_) ?_
   iterate 5 simp only [B3,seval,hlen,h0,h11,h12,byteDat]
   rintro e tm' H' ⟨he, hl, g0, gH, gK⟩
   refine ⟨he, hl, g0, ?_, hK2.trans gK⟩
   simpa only [quoteL, quoteC, hp, if_true, List.append_assoc] using gH
  ·have hq : quoteC c = [92, hexD (c.toNat / 16), hexD (c.toNat % 16)] := by unfold quoteC; rw [if_neg (by rw [hp]; simp)]
   have hhi : c.toNat / 16 < 16 := by have := c.toNat_lt; omega
   have hlo : c.toNat % 16 < 16 := by omega
   have e1 := enc_hex ⟨c.toNat / 16, hhi⟩
   have e2 := enc_hex ⟨c.toNat % 16, hlo⟩
   have g1 := hexD_at _ hhi
   have g2 := hexD_at _ hlo
   have q1 := b_hi c
   have q2 := b_lo c
   obtain ⟨H2, hcall, hH2, hK2⟩ := s86 hty hH [92, hexD (c.toNat / 16), hexD (c.toNat % 16)] (by simp only [List.length_cons,List.length_nil]; omega)
   have key := fun tm1 => l88 hty id s hs m (i + 1) tm1 H2 (txt ++ [92, hexD (c.toNat / 16), hexD (c.toNat % 16)]) (by omega) (by simp; omega) hH2
   have p1 : (0 : Int) ≤ ((c.toNat / 16 : Nat) : Int) := Int.natCast_nonneg _
   have p2 : (0 : Int) ≤ ((c.toNat % 16 : Nat) : Int) := Int.natCast_nonneg _
   simp only [byteDat] at hcall hget c51 hix
   simp only [hp] at c51
   simp only [hexW] at g1 g2
   generalize c.toNat / 16 = u1 at *
   generalize c.toNat % 16 = u2 at *
   generalize hexD u1 = x1 at *
   generalize hexD u2 = x2 at *
   have a1 : ∀ a b : List UInt8, a.length + b.length ≤ 100 → binA .add (.im (.str a)) (.im (.str b)) = some (.im (.str (a ++ b))) := fun a b h => s_add (by omega)
   have a2 := a1 [92] [x1] (by simp)
   have a3 := a1 [92, x1] [x2] (by simp)
   simp only [List.cons_append,List.nil_append] at a2 a3
   clear a1
   simp only [b88_0,B0,B1,B2,List.replicate,reduceCtorEq,lenA,seval,byteDat,intOfA,Int.toNat_natCast,hlen,h0,h11,h12,h13,hc,hix,hget,c51,q1,q2,p1,p2,g1,g2,e1,e2,a2,a3,hcall,hwr]
   refine ex_imp (key _ ?_ ?_ ?_ ?_ ?_) ?_
   iterate 5 simp only [B3,seval,hlen,h0,h11,h12,byteDat]
   rintro e tm' H' ⟨he, hl, g0, gH, gK⟩
   refine ⟨he, hl, g0, ?_, hK2.trans gK⟩
   simpa only [quoteL, hq, List.append_assoc] using gH
theorem s88 (hty : Tryz.okB ty = true) {H : Heap} {id : Nat} {txt : List UInt8} (h : HoldE ty 5 n H id rest txt) (s : List UInt8) (hs : s.length ≤ 1000000) (hb : txt.length ≤ 1000000000) :
  ∃ H', L 88 [.ptr id 0 0, .im (.str s)] H = some (.tup [], H') ∧ HoldE ty 5 n H' id rest (txt ++ quoteB s) ∧ Keeps n id H H' := by
 obtain ⟨H1, hc1, hH1, hK1⟩ := s113 hty h 34 (by omega)
 have key := fun tm1 => l88 (n := n) hty id s (by omega) s.length 0 tm1 H1 (txt ++ [34]) (by omega) (by simp; omega) hH1
 suffices hsuf : ∃ H2, HoldE ty 5 n H2 id rest (txt ++ quoteB s) ∧ Keeps n id H H2 ∧ L 88 [.ptr id 0 0, .im (.str s)] H = some (leave H false (.tup []) H2) by
  obtain ⟨H2, h1, h2, h3⟩ := hsuf
  obtain ⟨H', e1, e2, e3⟩ := leave_holdE (r := .tup []) (r' := .tup []) rfl h h1 h2
  exact ⟨H', by rw [h3, e1], e2, e3⟩
 rw [leq F88]
 obtain ⟨hlen, ha⟩ := enter_at (f := f88) (args := [.ptr id 0 0, .im (.str s)]) (Nat.le_of_ble_eq_true rfl)
 have h0 := ha 0 _ rfl
 have h1 := ha 1 _ rfl
 generalize enterA f88 [.ptr id 0 0, .im (.str s)] = tm at *
 change tm.length = 43 at hlen
 have z : ((0 : Nat) : Int) = 0 := rfl
 have b34 : (((34 : UInt8).toNat : Nat) : Int) = 34 := rfl
 simp only [byteDat,b34] at hc1
 have hml : (s.map fun c => [byteDat c]).length = s.length := by simp
 simp only [byteDat] at hml
 simp only [z,List.drop_zero,byteDat] at key
 simp only [f88,e88_0,B0,B1,B2,List.replicate,reduceCtorEq,lenA,seval,byteDat,hlen,h0,h1,hc1,hml]
 refine thenL_ex (fun r => ∃ H2, HoldE ty 5 n H2 id rest (txt ++ quoteB s) ∧ Keeps n id H H2 ∧ r = some (leave H false (.tup []) H2)) (key _ ?_ ?_ ?_ ?_ ?_) ?_
 iterate 5 simp only [B3,seval,hlen,h0,h1,hml]
 rintro e tm1 H2 ⟨rfl, hl1, a0, aH, aK⟩
 obtain ⟨H3, hc3, hH3, hK3⟩ := s113 hty aH 34 (by
  have := quoteL_len s
  simp only [List.length_append,List.length_cons,List.length_nil]
  omega)
 simp only [byteDat,b34] at hc3
 simp only [B0,B1,B2,List.replicate,reduceCtorEq,lenA,seval,hl1,a0,hc3,endK,f88,resA,tupA]
 refine ⟨H3, ?_, (hK1.trans aK).trans hK3, rfl⟩
 simpa only [quoteB, List.append_assoc, List.cons_append, List.nil_append] using hH3
end Go.Abs.Seat
end
section
set_option linter.unusedVariables false
set_option linter.unusedSimpArgs false
namespace Go.Abs.Seat
open Go.Proofs
def oddB (a : UInt8) : Bool := !namZ (a.toNat : Int)
theorem l126g (s : List UInt8) (hn : s.length ≤ 4611686018427387904) (H : Heap) :
  ∀ (m i : Nat) (tm : List AV), i + m = s.length → tm.length = 19 → tm.getD 0 undefA = .im (.sl 1 (s.map fun c => [byteDat c])) → tm.getD 1 undefA = .clo 115 [] → tm.getD 7 undefA = .im (.int .i64 (s.length : Int)) → tm.getD 8 undefA = .im (.int .i64 (i : Int)) →
  ∃ e tm' H', Λ c126_0 tm H = some (e, tm', H') ∧ tm'.length = 19 ∧ H' = H ∧ ((e = .exit 0 ∧ (s.drop i).any oddB = false) ∨ (e = .ret ∧ (s.drop i).any oddB = true ∧ ∃ j : Nat, tm'.getD 4 undefA = .im (.int .i64 (j : Int))))
 | 0, i, tm, hi, hlen, h0, h1, h7, h8 => by
  have e : s.drop i = [] := by rw [List.drop_eq_nil_iff]; omega
  have hc : decide ((i : Int) < (s.length : Int)) = false := decide_eq_false (by omega)
  rw [l126_0, e]
  simp only [b126_0,B0,B1,B2,List.replicate,reduceCtorEq,lenA,seval,hlen,h7,h8,hc]
  exact ⟨_, _, _, rfl, by simp only [List.length_set,hlen], rfl, .inl ⟨rfl, rfl⟩⟩
 | m + 1, i, tm, hi, hlen, h0, h1, h7, h8 => by
  have hlt : i < s.length := by omega
  have e : s.drop i = s[i] :: s.drop (i + 1) := List.drop_eq_getElem_cons hlt
  have hai : s[i]? = some s[i] := List.getElem?_eq_getElem hlt
  generalize s[i] = a at e hai
  have hc : decide ((i : Int) < (s.length : Int)) = true := decide_eq_true (by omega)
  have hg : (s.map fun c => [byteDat c])[i]? = some [.int .u8 (a.toNat : Int)] := by rw [List.getElem?_map, hai]; rfl
  have hix := idx_nat (n := s.length) (i := i) hlt
  have hwr := wrap_nat (i := i) (by omega)
  have c1 := fun H => s115 (a.toNat : Int) H
  have key := fun tm1 => l126g s hn H m (i + 1) tm1 (by omega)
  rw [l126_0, e]
  rcases Bool.eq_false_or_eq_true (oddB a) with ho | ho
  ·have ho' := ho
   unfold oddB at ho'
   rw [ho'] at c1
   simp only [b126_0,B0,B1,B2,List.replicate,reduceCtorEq,lenA,seval,hlen,h0,h1,h7,h8,hc,hix,hg,List.length_map,c1]
   exact ⟨_, _, _, rfl, by simp only [List.length_set,hlen], rfl, .inr ⟨rfl, by simp [ho], i, by simp only [B3,seval,hlen]⟩⟩
  ·have ho' := ho
   unfold oddB at ho'
   rw [ho'] at c1
   simp only [b126_0,B0,B1,B2,List.replicate,reduceCtorEq,lenA,seval,hlen,h0,h1,h7,h8,hc,hix,hg,List.length_map,c1,hwr]
   refine ex_imp (key _ ?_ ?_ ?_ ?_ ?_) fun _ _ _ h => ?_
   iterate 5 simp only [B3,seval,hlen,h0,h1,h7]
   simpa only [List.any_cons, ho, Bool.false_or] using h
theorem s126g (s : List UInt8) (hn : s.length ≤ 4611686018427387904) (H : Heap) : ∃ r : Int, L 126 [.im (.sl 1 (s.map fun c => [byteDat c])), .clo 115 []] H = some (.im (.int .i64 r), H) ∧ decide (0 ≤ r) = s.any oddB := by
 have key := fun tm1 => l126g s hn H s.length 0 tm1 (by omega)
 simp only [zc0,List.drop_zero] at key
 have hlA : lenA (.im (.sl 1 (s.map fun c => [byteDat c]))) = some s.length := by simp [lenA]
 rw [leq F126]
 obtain ⟨hlen, ha⟩ := enter_at (f := f126) (args := [.im (.sl 1 (s.map fun c => [byteDat c])), .clo 115 []]) (Nat.le_of_ble_eq_true rfl)
 have h0 := ha 0 _ rfl
 have h1 := ha 1 _ rfl
 generalize enterA f126 [.im (.sl 1 (s.map fun c => [byteDat c])), .clo 115 []] = tm at *
 change tm.length = 19 at hlen
 simp only [f126,e126_0,B0,B1,B2,List.replicate,reduceCtorEq,seval,hlen,h0,h1,hlA]
 generalize hr : thenL (Λ c126_0 _ _) _ = r
 refine Exists.elim (thenL_inv hr (key _ ?_ ?_ ?_ ?_ ?_)) ?_
 iterate 5 simp only [B3,seval,hlen,h0,h1]
 clear hr key
 rintro e ⟨tm1, H1, ⟨g1, rfl, hm⟩, rfl⟩
 rcases hm with ⟨rfl, hm⟩ | ⟨rfl, hm, j, hj⟩
 ·simp only [B0,B1,B2,List.replicate,reduceCtorEq,lenA,seval,endK,resA,tupA,g1,leave_same]
  exact ⟨-1, rfl, by rw [hm]; rfl⟩
 ·simp only [B0,B1,B2,List.replicate,reduceCtorEq,lenA,seval,endK,resA,tupA,g1,hj,leave_same]
  exact ⟨_, rfl, by rw [hm]; exact decide_eq_true (Int.natCast_nonneg j)⟩
theorem s114g (s : List UInt8) (hn : s.length ≤ 4611686018427387904) (H : Heap) : L 114 [.im (.sl 1 (s.map fun c => [byteDat c])), .clo 115 []] H = some (.im (.bool (s.any oddB)), H) := by
 obtain ⟨r, c1, hr⟩ := s126g s hn H
 rw [leq F114]
 obtain ⟨hlen, ha⟩ := enter_at (f := f114) (args := [.im (.sl 1 (s.map fun c => [byteDat c])), .clo 115 []]) (Nat.le_of_ble_eq_true rfl)
 have h0 := ha 0 _ rfl
 have h1 := ha 1 _ rfl
 generalize enterA f114 [.im (.sl 1 (s.map fun c => [byteDat c])), .clo 115 []] = tm at *
 change tm.length = 9 at hlen
 simp only [f114,B0,B1,B2,List.replicate,reduceCtorEq,lenA,seval,endK,resA,tupA,hlen,h0,h1,c1,hr,leave_same]
def nameOk (s : List UInt8) : Bool := !((decide (s = []) || decide (16 < (s.length : Int))) || !letZ ((peekB s 0).toNat : Int)) && ((shapeT s).isNone && !s.any oddB)
theorem s89g (s : List UInt8) (hn : s.length ≤ 4611686018427387904) (H : Heap) : L 89 [.im (.str s)] H = some (.im (.bool (nameOk s)), H) := by
 have c1 := fun H => s77 s H
 have c2 := fun H => s114g s hn H
 have t0 : (0 : Int).toNat = 0 := rfl
 have z0 : (0 : Int) ≤ 0 := Int.le_refl 0
 unfold nameOk
 rw [leq F89]
 obtain ⟨hlen, hg⟩ := enter_at (f := f89) (args := [.im (.str s)]) (Nat.le_of_ble_eq_true rfl)
 have h0 := hg 0 _ rfl
 generalize enterA f89 [.im (.str s)] = tm at *
 change tm.length = 35 at hlen
 rcases Bool.eq_false_or_eq_true (decide (s = [])) with d0 | d0
 ·rw [d0]
  simp only [Bool.true_or,Bool.not_true,Bool.false_and]
  simp only [f89,B0,B1,B2,List.replicate,reduceCtorEq,lenA,seval,intOfA,endK,resA,tupA,hlen,h0,d0,leave_same]
 rcases Bool.eq_false_or_eq_true (decide (16 < (s.length : Int))) with d1 | d1
 ·rw [d0, d1]
  simp only [Bool.or_true,Bool.true_or,Bool.not_true,Bool.false_and]
  simp only [f89,B0,B1,B2,List.replicate,reduceCtorEq,lenA,seval,intOfA,endK,resA,tupA,hlen,h0,d0,d1,leave_same]
 obtain ⟨a, r, hs⟩ : ∃ a r, s = a :: r := by
  cases s with
  | nil => simp at d0
  | cons a r => exact ⟨a, r, rfl⟩
 have ha0 : s[0]? = some a := by rw [hs]; rfl
 have hpk : peekB s 0 = a := by unfold peekB; rw [ha0]; rfl
 have hbd : byteDat a = .int .u8 (a.toNat : Int) := rfl
 rw [hpk, d0, d1]
 clear hs hpk
 unfold letZ
 rcases Bool.eq_false_or_eq_true (decide ((a.toNat : Int) < 97)) with d2 | d2
 ·have e : decide ((97 : Int) ≤ (a.toNat : Int)) = false := by rw [decide_eq_true_eq] at d2; exact decide_eq_false (by omega)
  rw [e]
  simp only [Bool.false_and,Bool.not_false,Bool.or_true,Bool.not_true]
  simp only [f89,B0,B1,B2,List.replicate,reduceCtorEq,lenA,seval,intOfA,hbd,endK,resA,tupA,hlen,h0,d0,d1,d2,ha0,t0,z0,leave_same]
 rcases Bool.eq_false_or_eq_true (decide (122 < (a.toNat : Int))) with d3 | d3
 ·have e : decide ((a.toNat : Int) ≤ 122) = false := by rw [decide_eq_true_eq] at d3; exact decide_eq_false (by omega)
  rw [e]
  simp only [Bool.and_false,Bool.not_false,Bool.or_true,Bool.not_true,Bool.false_and]
  simp only [f89,B0,B1,B2,List.replicate,reduceCtorEq,lenA,seval,intOfA,hbd,endK,resA,tupA,hlen,h0,d0,d1,d2,d3,ha0,t0,z0,leave_same]
 have e1 : decide ((97 : Int) ≤ (a.toNat : Int)) = true := by rw [decide_eq_false_iff_not] at d2; exact decide_eq_true (by omega)
 have e2 : decide ((a.toNat : Int) ≤ 122) = true := by rw [decide_eq_false_iff_not] at d3; exact decide_eq_true (by omega)
 rw [e1, e2]
 simp only [Bool.and_self,Bool.not_true,Bool.or_self,Bool.not_false,Bool.true_and]
 cases hsh : shapeT s with
 | none =>
  rw [hsh] at c1
  simp only [Option.getD_none,Option.isSome_none] at c1
  simp only [Option.isNone_none,Bool.true_and]
  simp only [f89,B0,B1,B2,List.replicate,reduceCtorEq,lenA,seval,intOfA,hbd,endK,resA,tupA,hlen,h0,d0,d1,d2,d3,ha0,t0,z0,c1,c2,leave_same]
 | some p =>
  rw [hsh] at c1
  simp only [Option.getD_some,Option.isSome_some] at c1
  simp only [Option.isNone_some,Bool.false_and]
  simp only [f89,B0,B1,B2,List.replicate,reduceCtorEq,lenA,seval,intOfA,hbd,endK,resA,tupA,hlen,h0,d0,d1,d2,d3,ha0,t0,z0,c1,c2,leave_same]
end Go.Abs.Seat
end
