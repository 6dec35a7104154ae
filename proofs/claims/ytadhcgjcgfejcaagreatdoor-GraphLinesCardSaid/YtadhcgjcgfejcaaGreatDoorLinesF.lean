/- Part 6 of what the claim rests on. -/
import Derived.Lib.AtoiErrMem
import Derived.Lib.Walk
import Derived.Lib.SliceRun
import Derived.Lib.LaidTab
import Derived.Lib.AppendIntMem
import Derived.Test.YtadhcgjcgfejcaaGreatDoorProg
import Derived.Lib.Builder
import Derived.Lib.Bytealg
import Derived.Lib.UnsafeStr
import Derived.Laws.Externs
import Derived.WalkKit
import Derived.Test.YtadhcgjcgfejcaaGreatDoorLinesA
import Derived.Test.YtadhcgjcgfejcaaGreatDoorLinesB
import Derived.Test.YtadhcgjcgfejcaaGreatDoorLinesC
import Derived.Test.YtadhcgjcgfejcaaGreatDoorLinesD
import Derived.Test.YtadhcgjcgfejcaaGreatDoorLinesE
section
set_option linter.unusedVariables false
set_option linter.unusedSimpArgs false
namespace Go.Proofs
open Go.RowKit
set_option maxHeartbeats 1000000 in
set_option maxRecDepth 100000 in
theorem Tryz.cc_used (b : Nat) (w : World) (h0 : w.cell? ⟨b, 0, none⟩ = some (.pointer (some ⟨b, 0, none⟩))) :
  Calls Tryz.prog 73 #[.pointer (some ⟨b, 0, none⟩)] w fun e w' => e = .returned (.tuple #[]) ∧ w' = w := by
 obtain ⟨j, hj, hjs⟩ := Option.map_eq_some_iff.1 (show (Tryz.prog.info? 92).map (·.size) = some 2 by kernel_rfl)
 go_enter Tryz.func73, Tryz.ntmps73
 go_wp2
 rw [Lib.run_neq_ptr_same w _ Tryz.underlying89 hj]
 go_wp2
 go_end0
 exact ⟨rfl, rfl⟩
set_option maxHeartbeats 1000000 in
set_option maxRecDepth 100000 in
theorem Tryz.cc_fresh (b e cells : Nat) (w : World) (hlies : liesAt Tryz.prog Tryz.prog.depth e (cells / Tryz.prog.cellsOf e) 0 92 1 = true) (hpos : 0 < cells) (h0 : w.cell? ⟨b, 0, none⟩ = some (.pointer none)) (hsh : w.shape? b = some (e, cells)) (hfz : w.frozen? ⟨b, 0, none⟩ = false) :
  Calls Tryz.prog 73 #[.pointer (some ⟨b, 0, none⟩)] w fun e w' => e = .returned (.tuple #[]) ∧ w' = w.setCell ⟨b, 0, none⟩ (.pointer (some ⟨b, 0, none⟩)) := by
 obtain ⟨j, hj, hjs⟩ := Option.map_eq_some_iff.1 (show (Tryz.prog.info? 92).map (·.size) = some 2 by kernel_rfl)
 go_enter Tryz.func73, Tryz.ntmps73
 go_wp2
 rw [Lib.run_to_unsafe w ⟨b, 0, none⟩ Tryz.underlying89 Tryz.underlying152 hj (by rw [hjs]; decide) hsh hpos]
 simp only [Result.andThen]
 rw [Oper.upon_value]
 go_wp2
 rw [run_callFunc_extern Tryz.func98 (by kernel_rfl) (by kernel_rfl) (by kernel_rfl) (e := Extern.AbiNoEscape.same) (by kernel_rfl)]
 rw [Lib.run_noEscape]
 simp only [Result.andThen]
 rw [Oper.upon_value]
 go_wp2
 rw [Lib.run_from_unsafe w ⟨b, 0, none⟩ Tryz.underlying152 Tryz.underlying89 hj hsh hlies]
 simp only [Result.andThen]
 rw [Oper.upon_value]
 go_wp2
 go_end0
 exact ⟨rfl, rfl⟩
theorem liesAt_bytes_at {P : Program} {e : TypeId} (hc : P.cellsOf e = 1) (count off n : Nat) (hn : off + n ≤ count) : liesAt P P.depth e count off e n = true := by
 have hd : P.depth = (2 * (P.types.size + Made.depth) + 1) + 1 := rfl
 rw [hd]
 simp only [liesAt,Bool.or_eq_true]
 left
 rw [hd]
 simp [rowAt, hc, hn, sameLayout, Nat.mod_one]
theorem run_text_at {P : Program} (w : World) (pt it ty e : TypeId) (hp : P.underlying pt = some (.pointer e)) (hc : P.cellsOf e = 1) (g o cells : Nat) (hsh : w.shape? g = some (e, cells)) (l : List UInt8) (h0 : l ≠ []) (hn : o + l.length ≤ cells) (h63 : l.length ≤ 9223372036854775807)
  (hcell : ∀ j x, l[j]? = some x → w.cell? ((⟨g, o, none⟩ : Addr).add j) = some (.int .u8 x.toNat)) :
  (Builtin.unsafeString_ #[pt, it] ty #[.pointer (some ⟨g, o, none⟩), .int .i64 l.length]).run P w = .ok (.string ⟨l.toArray⟩) (w.freeze ⟨g, o, none⟩ l.length) := by
 have hl : l.length ≠ 0 := by simpa using h0
 have hlb := Lib.run_loadBytes (P := P) w l ⟨g, o, none⟩ .empty hcell
 have hlies := liesAt_bytes_at (P := P) hc (cells / P.cellsOf e) o l.length (by rw [hc]; simpa using hn)
 have h63' : ¬ (9223372036854775807 : Int) < (l.length : Int) := by omega
 conv in (Builtin.unsafeString_ _ _ _) => delta Builtin.unsafeString_; whnf
 have hmax : IntKind.i64.max = 9223372036854775807 := rfl
 have hneg : ¬ (l.length : Int) < 0 := by omega
 generalize IntKind.i64.max.decLt (l.length : Int) = dc
 cases dc with
 | isTrue h => rw [hmax] at h; exact absurd h h63'
 | isFalse h =>
  simp [hl, variablesAt, hsh, elemOf, run_underlying hp, hlies, hlb]
set_option maxHeartbeats 1000000 in
set_option maxRecDepth 100000 in
theorem Tryz.text (b g o c cells : Nat) (l : List UInt8) (w : World) (hc1 : w.cell? ⟨b, 1, none⟩ = some (.slice (some ⟨g, o, none⟩) l.length c)) (h0 : l ≠ []) (hlc : l.length ≤ c) (hmax : l.length ≤ 2 ^ 62) (hsh : w.shape? g = some (5, cells)) (hfit : o + l.length ≤ cells)
  (hcell : ∀ j x, l[j]? = some x → w.cell? ⟨g, o + j, none⟩ = some (.int .u8 x.toNat)) :
  Calls Tryz.prog 47 #[.pointer (some ⟨b, 0, none⟩)] w fun e w' => e = .returned (.string ⟨l.toArray⟩) ∧ w' = w.drew.freeze ⟨g, o, none⟩ l.length := by
 have hl : l.length ≠ 0 := by simpa using h0
 have c1 : w.drew.cell? ⟨b, 1, none⟩ = some (.slice (some ⟨g, o, none⟩) l.length c) := hc1
 have hSD : (Builtin.unsafeSliceData_ #[90] 134 #[.slice (some ⟨g, o, none⟩) l.length c]).run Tryz.prog w.drew = .ok (.pointer (some ⟨g, o, none⟩)) w.drew :=
  Lib.run_unsafeSliceData_row _ _ _ _ _ _ (by omega)
 have hUS : (Builtin.unsafeString_ #[134, 3] 9 #[.pointer (some ⟨g, o, none⟩), .int .i64 l.length]).run Tryz.prog w.drew = .ok (.string ⟨l.toArray⟩) (w.drew.freeze ⟨g, o, none⟩ l.length) := by
  refine run_text_at w.drew 134 3 9 5 Tryz.underlying134 (by kernel_rfl) g o cells hsh l h0 hfit (by omega) fun j x hx => ?_
  have e : ((⟨g, o, none⟩ : Addr).add j) = ⟨g, o + j, none⟩ := by
   unfold Addr.add
   split <;> simp_all
  rw [e]
  exact hcell j x hx
 go_enter Tryz.func47, Tryz.ntmps47
 go_wp2
 go_region
 all_goals (go_wp2; go_ret; exact ⟨rfl, rfl⟩)
def Tryz.okB (ty : TypeId × Nat) : Bool := ty == (92, 2)
open Go.Abs in
theorem Tryz.emb : Emb Tryz.prog 73 47 Tryz.okB 5 where
 ecc := ⟨_, _, Tryz.func73, by kernel_rfl, rfl⟩
 est := ⟨_, _, Tryz.func47, by kernel_rfl, rfl⟩
 used := Tryz.cc_used
 fresh := fun b ty w hok h0 hsh hfz => by
  have h : ty = (92, 2) := by simpa [Tryz.okB] using hok
  subst h
  exact Tryz.cc_fresh b 92 2 w (by kernel_rfl) (by decide) h0 hsh hfz
 text := Tryz.text
def Tryz.tab1 (w : World) : Prop := Lib.TabIs Tryz.prog w "internal/strconv.uint64pow10" .u64 Lib.pow10Tab
def Tryz.tab (w : World) : Prop := Tryz.tab1 w ∧ (∃ t p, w.cell? ⟨2, 0, none⟩ = some (.iface t p)) ∧ ∃ t p, w.cell? ⟨3, 0, none⟩ = some (.iface t p)
open Go.Abs in
theorem Tryz.itoas : Itoas Tryz.prog 76 Tryz.tab1 where
 enters := ⟨_, _, Tryz.func76, by kernel_rfl, rfl⟩
 itoa n w h0 h1 ht := (Tryz.strconv_Itoa n h0 h1 w ht).mono fun e w' ⟨he, k, os, hw⟩ => ⟨he, by
  subst hw
  exact ⟨rfl, rfl, rfl, Lib.size_grow w k os, fun j hj => Lib.heap_grow_old w k os j hj⟩⟩
open Go.Abs in
theorem Tryz.atois : Atois Tryz.prog 119 Tryz.tab where
 enters := ⟨_, _, Tryz.func119, by kernel_rfl, rfl⟩
 good s v w hs h := (Tryz.strconv_Atoi_ok s (by omega) v h w).mono fun e w' ⟨he, hw⟩ => ⟨he, by
  rcases hw with rfl | ⟨t, rfl⟩
  ·exact Below.refl _ _
  ·exact Lib.bytesWorld_below _ _ _⟩
 syn s w hs h ht := by
  obtain ⟨_, ⟨t, p, hc⟩, _⟩ := ht
  exact (Tryz.strconv_Atoi_syntax s (by omega) h _ w hc (.inr ⟨t, p, rfl⟩)).mono fun e w' ⟨N, he, _, _, hw⟩ => ⟨⟨_, _, he⟩, hw⟩
 rng s w hs h ht := by
  obtain ⟨_, _, ⟨t, p, hc⟩⟩ := ht
  exact (Tryz.strconv_Atoi_range s (by omega) h _ w hc (.inr ⟨t, p, rfl⟩)).mono fun e w' ⟨N, he, _, _, hw⟩ => ⟨⟨_, _, he⟩, hw⟩
open Go.Abs in
theorem Tryz.counts : Counts Tryz.prog 138 where
 enters := ⟨_, _, Tryz.func138, by kernel_rfl, rfl⟩
 count := Tryz.strings_Count_one
open Go.Abs in
theorem Tryz.joins : Joins Tryz.prog 77 where
 enters := ⟨_, _, Tryz.func77, by kernel_rfl, rfl⟩
 empty := Tryz.strings_Join_none
 many := Tryz.strings_Join
open Go.Abs in
theorem Tryz.ones : Ones Tryz.prog 94 where
 enters := ⟨_, _, Tryz.func94, by kernel_rfl, rfl⟩
 idx := Tryz.stringslite_Index_one
set_option maxHeartbeats 1000000 in
set_option maxRecDepth 100000 in
theorem Tryz.clone_nil (n c : Nat) (w : World) : Calls Tryz.prog 61 #[.slice none n c] w fun e w' => (∃ b, e = .returned (.slice b 0 0)) ∧ Below w.heap.size w w' := by
 have q : ∀ (w : World) (a : Option Addr) (n c n' c' : Nat), (binOp .eql 43 (.slice a n c) (.slice none n' c')).run Tryz.prog w = .ok (.bool a.isNone) w := fun w a n c n' c' => Lib.run_eql_slice_nil w _ _ a n c n' c' Tryz.underlying43
 go_enter Tryz.func61, Tryz.ntmps61
 go_wp2
 go_ret
 exact ⟨⟨_, rfl⟩, Below.refl _ w⟩
set_option maxHeartbeats 1000000 in
set_option maxRecDepth 100000 in
theorem Tryz.clone_zero (a : Addr) (c : Nat) (w : World) : Calls Tryz.prog 61 #[.slice (some a) 0 c] w fun e w' => (∃ b, e = .returned (.slice b 0 0)) ∧ Below w.heap.size w w' := by
 have q : ∀ (w : World) (a : Option Addr) (n c n' c' : Nat), (binOp .eql 43 (.slice a n c) (.slice none n' c')).run Tryz.prog w = .ok (.bool a.isNone) w := fun w a n c n' c' => Lib.run_eql_slice_nil w _ _ a n c n' c' Tryz.underlying43
 go_enter Tryz.func61, Tryz.ntmps61
 go_wp2
 go_ret
 exact ⟨⟨_, rfl⟩, (Below.refl _ w).alloc (Nat.le_refl _) _⟩
open Go.Abs in
theorem Tryz.clones : Clones Tryz.prog 61 where
 enters := ⟨_, _, Tryz.func61, by kernel_rfl, rfl⟩
 none := Tryz.clone_nil
 zero := Tryz.clone_zero
theorem Tryz.tab1_keep {W : World} (h0 : Tryz.tab1 W) (w w' : World) (h : ∀ k, k < W.heap.size → w'.heap[k]? = w.heap[k]?) (ht : Tryz.tab1 w) : Tryz.tab1 w' := by
 unfold Tryz.tab1 Lib.TabIs World.var? at *
 cases hg : Tryz.prog.globalNamed "internal/strconv.uint64pow10" with
 | none => simp [hg] at h0
 | some g =>
  simp only [hg,Option.bind_some] at h0 ht ⊢
  have hlt : g < W.heap.size := by
   rcases Nat.lt_or_ge g W.heap.size with h' | h'
   ·exact h'
   ·rw [Array.getElem?_eq_none h'] at h0; simp at h0
  rw [h g hlt]
  exact ht
theorem Tryz.cell_keep {W : World} {g : Nat} {v0 v : Value} (h0 : W.cell? ⟨g, 0, none⟩ = some v0) (w w' : World) (h : ∀ k, k < W.heap.size → w'.heap[k]? = w.heap[k]?) (ht : w.cell? ⟨g, 0, none⟩ = some v) : w'.cell? ⟨g, 0, none⟩ = some v := by
 have hlt : g < W.heap.size := by
  rcases Nat.lt_or_ge g W.heap.size with h' | h'
  ·exact h'
  ·simp [World.cell?, Array.getElem?_eq_none h'] at h0
 simp only [World.cell?,h g hlt] at ht ⊢
 exact ht
theorem Tryz.tab_keep {W : World} (h0 : Tryz.tab W) (w w' : World) (h : ∀ k, k < W.heap.size → w'.heap[k]? = w.heap[k]?) (ht : Tryz.tab w) : Tryz.tab w' := by
 obtain ⟨a0, ⟨t0, p0, b0⟩, ⟨u0, q0, c0⟩⟩ := h0
 obtain ⟨a, ⟨t, p, b⟩, ⟨u, q, c⟩⟩ := ht
 exact ⟨Tryz.tab1_keep a0 w w' h a, ⟨t, p, Tryz.cell_keep b0 w w' h b⟩, ⟨u, q, Tryz.cell_keep c0 w w' h c⟩⟩
end Go.Proofs
end
section
set_option linter.unusedVariables false
set_option linter.unusedSimpArgs false
namespace Go.Abs
theorem B0 : (((((type_of% @dgA_no ∧ (type_of% @List.length_cons.{0} ∧ type_of% @List.length_nil.{0})) ∧ (type_of% @List.cons_append.{0} ∧ (type_of% @List.nil_append.{0} ∧ type_of% @List.append_nil.{0}))) ∧ ((type_of% @List.append_assoc.{0} ∧ (type_of% @gs_same ∧ type_of% @gs_ne)) ∧ ((type_of% @gq_same ∧ type_of% @gq_ne) ∧ (type_of% @List.length_set.{0} ∧ type_of% @List.map_cons.{0, 0})))) ∧ (((type_of% @List.map_nil.{0, 0} ∧ (type_of% @List.all_cons.{0} ∧ type_of% @List.all_nil.{0})) ∧ ((type_of% @Bool.and_true ∧ type_of% @Bool.and_self) ∧ (type_of% @if_true.{1} ∧ type_of% @ite_true.{1}))) ∧ ((type_of% @ite_false.{1} ∧ (type_of% @hget ∧ type_of% @hget0)) ∧ ((type_of% @hset ∧ type_of% @hset0) ∧ (type_of% @List.getElem?_cons_zero.{0} ∧ type_of% @List.getElem?_cons_succ.{0}))))) ∧ ((((type_of% @List.set_cons_zero.{0} ∧ (type_of% @List.set_cons_succ.{0} ∧ type_of% @Nat.add_zero)) ∧ ((type_of% @Nat.zero_add ∧ type_of% @Nat.le_refl) ∧ (type_of% @and_self ∧ type_of% @and_true))) ∧ ((type_of% @true_and ∧ (type_of% @List.drop_zero.{0} ∧ type_of% @List.drop_succ_cons.{0})) ∧ ((type_of% @List.take_succ_cons.{0} ∧ type_of% @List.take_zero.{0}) ∧ (type_of% @List.length_append.{0} ∧ type_of% @Bool.false_eq_true)))) ∧ (((type_of% @if_false.{1} ∧ (type_of% @List.take_nil.{0} ∧ type_of% @Nat.zero_ne_one)) ∧ ((type_of% @Nat.one_ne_zero ∧ type_of% @not_false_eq_true) ∧ (type_of% @ne_eq.{1} ∧ type_of% @Nat.succ_ne_self))) ∧ ((type_of% @decide_true ∧ (type_of% @decide_false ∧ type_of% @beq_self_eq_true.{0})) ∧ ((type_of% @beq_true ∧ type_of% @beq_false) ∧ (type_of% @Bool.not_true ∧ type_of% @Bool.not_false)))))) :=
 ⟨⟨⟨⟨⟨@dgA_no, ⟨@List.length_cons.{0}, @List.length_nil.{0}⟩⟩, ⟨@List.cons_append.{0}, ⟨@List.nil_append.{0}, @List.append_nil.{0}⟩⟩⟩, ⟨⟨@List.append_assoc.{0}, ⟨@gs_same, @gs_ne⟩⟩, ⟨⟨@gq_same, @gq_ne⟩, ⟨@List.length_set.{0}, @List.map_cons.{0, 0}⟩⟩⟩⟩, ⟨⟨⟨@List.map_nil.{0, 0}, ⟨@List.all_cons.{0}, @List.all_nil.{0}⟩⟩, ⟨⟨@Bool.and_true, @Bool.and_self⟩, ⟨@if_true.{1}, @ite_true.{1}⟩⟩⟩, ⟨⟨@ite_false.{1}, ⟨@hget, @hget0⟩⟩, ⟨⟨@hset, @hset0⟩, ⟨@List.getElem?_cons_zero.{0}, @List.getElem?_cons_succ.{0}⟩⟩⟩⟩⟩, ⟨⟨⟨⟨@List.set_cons_zero.{0}, ⟨@List.set_cons_succ.{0}, @Nat.add_zero⟩⟩, ⟨⟨@Nat.zero_add, @Nat.le_refl⟩, ⟨@and_self, @and_true⟩⟩⟩, ⟨⟨@true_and, ⟨@List.drop_zero.{0}, @List.drop_succ_cons.{0}⟩⟩, ⟨⟨@List.take_succ_cons.{0}, @List.take_zero.{0}⟩, ⟨@List.length_append.{0}, @Bool.false_eq_true⟩⟩⟩⟩, ⟨⟨⟨@if_false.{1}, ⟨@List.take_nil.{0}, @Nat.zero_ne_one⟩⟩, ⟨⟨@Nat.one_ne_zero, @not_false_eq_true⟩, ⟨@ne_eq.{1}, @Nat.succ_ne_self⟩⟩⟩, ⟨⟨@decide_true, ⟨@decide_false, @beq_self_eq_true.{0}⟩⟩, ⟨⟨@beq_true, @beq_false⟩, ⟨@Bool.not_true, @Bool.not_false⟩⟩⟩⟩⟩⟩
theorem B1 : ((((((type_of% @x_seq ∧ type_of% @x_block) ∧ (type_of% @x_skip ∧ (type_of% @x_label ∧ type_of% @x_cond))) ∧ ((type_of% @x_exit ∧ type_of% @x_goto) ∧ (type_of% @x_ret ∧ (type_of% @k_normal ∧ type_of% @k_exit)))) ∧ (((type_of% @k_goto ∧ type_of% @k_ret) ∧ (type_of% @b_normal ∧ (type_of% @b_exit ∧ type_of% @b_goto))) ∧ ((type_of% @b_ret ∧ (type_of% @b_lss ∧ type_of% @b_gtr)) ∧ (type_of% @b_leq ∧ (type_of% @b_geq ∧ type_of% @b_eql))))) ∧ ((((type_of% @b_neq ∧ type_of% @b_add) ∧ (type_of% @b_sub ∧ (type_of% @b_mul ∧ type_of% @s_eql))) ∧ ((type_of% @s_neq ∧ type_of% @y_ops) ∧ (type_of% @y_nil ∧ (type_of% @y_cons ∧ type_of% @y_guard)))) ∧ (((type_of% @y_some ∧ type_of% @y_drop) ∧ (type_of% @y_do ∧ (type_of% @y_not ∧ type_of% @y_not0))) ∧ ((type_of% @c_call ∧ (type_of% @c_callD ∧ type_of% @c_clo)) ∧ (type_of% @c_move ∧ (type_of% @c_pick ∧ type_of% @c_alloc)))))) ∧ (((((type_of% @c_box ∧ type_of% @c_build) ∧ (type_of% @c_bslice ∧ (type_of% @c_bsliceA ∧ type_of% @c_load))) ∧ ((type_of% @c_store ∧ type_of% @c_nilCheck) ∧ (type_of% @c_bin ∧ (type_of% @c_binB ∧ type_of% @c_binN)))) ∧ (((type_of% @c_binS ∧ type_of% @c_binZ) ∧ (type_of% @c_un ∧ (type_of% @c_i2i ∧ type_of% @c_i2f))) ∧ ((type_of% @c_f2i ∧ (type_of% @c_s2b ∧ type_of% @c_b2s)) ∧ (type_of% @c_strId ∧ (type_of% @c_i2s ∧ type_of% @c_rangeS))))) ∧ ((((type_of% @c_nextS ∧ type_of% @c_mkfunc) ∧ (type_of% @c_mkslice ∧ (type_of% @c_slice ∧ type_of% @c_sliceStr))) ∧ ((type_of% @c_fieldAddr ∧ (type_of% @c_field ∧ type_of% @c_indexSl)) ∧ (type_of% @c_indexArr ∧ (type_of% @c_elemArr ∧ type_of% @c_indexStr)))) ∧ (((type_of% @c_extract ∧ type_of% @c_lenStr) ∧ (type_of% @c_lenSl ∧ (type_of% @c_append ∧ type_of% @c_appendM))) ∧ ((type_of% @c_real ∧ (type_of% @c_imag ∧ type_of% @c_complex)) ∧ (type_of% @c_min ∧ (type_of% @c_max ∧ type_of% @c_clear))))))) :=
 ⟨⟨⟨⟨⟨⟨@x_seq, @x_block⟩, ⟨@x_skip, ⟨@x_label, @x_cond⟩⟩⟩, ⟨⟨@x_exit, @x_goto⟩, ⟨@x_ret, ⟨@k_normal, @k_exit⟩⟩⟩⟩, ⟨⟨⟨@k_goto, @k_ret⟩, ⟨@b_normal, ⟨@b_exit, @b_goto⟩⟩⟩, ⟨⟨@b_ret, ⟨@b_lss, @b_gtr⟩⟩, ⟨@b_leq, ⟨@b_geq, @b_eql⟩⟩⟩⟩⟩, ⟨⟨⟨⟨@b_neq, @b_add⟩, ⟨@b_sub, ⟨@b_mul, @s_eql⟩⟩⟩, ⟨⟨@s_neq, @y_ops⟩, ⟨@y_nil, ⟨@y_cons, @y_guard⟩⟩⟩⟩, ⟨⟨⟨@y_some, @y_drop⟩, ⟨@y_do, ⟨@y_not, @y_not0⟩⟩⟩, ⟨⟨@c_call, ⟨@c_callD, @c_clo⟩⟩, ⟨@c_move, ⟨@c_pick, @c_alloc⟩⟩⟩⟩⟩⟩, ⟨⟨⟨⟨⟨@c_box, @c_build⟩, ⟨@c_bslice, ⟨@c_bsliceA, @c_load⟩⟩⟩, ⟨⟨@c_store, @c_nilCheck⟩, ⟨@c_bin, ⟨@c_binB, @c_binN⟩⟩⟩⟩, ⟨⟨⟨@c_binS, @c_binZ⟩, ⟨@c_un, ⟨@c_i2i, @c_i2f⟩⟩⟩, ⟨⟨@c_f2i, ⟨@c_s2b, @c_b2s⟩⟩, ⟨@c_strId, ⟨@c_i2s, @c_rangeS⟩⟩⟩⟩⟩, ⟨⟨⟨⟨@c_nextS, @c_mkfunc⟩, ⟨@c_mkslice, ⟨@c_slice, @c_sliceStr⟩⟩⟩, ⟨⟨@c_fieldAddr, ⟨@c_field, @c_indexSl⟩⟩, ⟨@c_indexArr, ⟨@c_elemArr, @c_indexStr⟩⟩⟩⟩, ⟨⟨⟨@c_extract, @c_lenStr⟩, ⟨@c_lenSl, ⟨@c_append, @c_appendM⟩⟩⟩, ⟨⟨@c_real, ⟨@c_imag, @c_complex⟩⟩, ⟨@c_min, ⟨@c_max, @c_clear⟩⟩⟩⟩⟩⟩⟩
theorem B2 : ((((((type_of% @wantedA.eq_1 ∧ (type_of% @wantedA.eq_2 ∧ type_of% @aop.eq_1)) ∧ (type_of% @aop.eq_2 ∧ (type_of% @aop.eq_3 ∧ type_of% @aop.eq_4))) ∧ ((type_of% @aop.eq_5 ∧ (type_of% @aop.eq_6 ∧ type_of% @aop.eq_7)) ∧ (type_of% @aop.eq_8 ∧ (type_of% @aop.eq_9 ∧ type_of% @aop.eq_10)))) ∧ (((type_of% @aop.eq_11 ∧ (type_of% @aop.eq_12 ∧ type_of% @aop.eq_13)) ∧ (type_of% @aop.eq_14 ∧ (type_of% @aop.eq_15 ∧ type_of% @aop.eq_16))) ∧ ((type_of% @aop.eq_17 ∧ (type_of% @aop.eq_18 ∧ type_of% @aop.eq_19)) ∧ (type_of% @aop.eq_20 ∧ (type_of% @aop.eq_21 ∧ type_of% @aop.eq_22))))) ∧ ((((type_of% @aop.eq_23 ∧ (type_of% @aop.eq_24 ∧ type_of% @aop.eq_25)) ∧ (type_of% @aop.eq_26 ∧ (type_of% @aop.eq_27 ∧ type_of% @aop.eq_28))) ∧ ((type_of% @aop.eq_29 ∧ (type_of% @aop.eq_30 ∧ type_of% @aop.eq_31)) ∧ (type_of% @aop.eq_32 ∧ (type_of% @aop.eq_33 ∧ type_of% @aop.eq_34)))) ∧ (((type_of% @aop.eq_35 ∧ (type_of% @aop.eq_36 ∧ type_of% @aop.eq_37)) ∧ (type_of% @aop.eq_38 ∧ (type_of% @aop.eq_39 ∧ type_of% @aop.eq_40))) ∧ ((type_of% @aop.eq_41 ∧ (type_of% @aop.eq_42 ∧ type_of% @aop.eq_43)) ∧ (type_of% @aop.eq_44 ∧ (type_of% @aop.eq_45 ∧ type_of% @aop.eq_46)))))) ∧ (((((type_of% @aop.eq_47 ∧ (type_of% @aop.eq_48 ∧ type_of% @aop.eq_49)) ∧ (type_of% @ev.eq_1 ∧ (type_of% @ev.eq_2 ∧ type_of% @putA.eq_1))) ∧ ((type_of% @putA.eq_2 ∧ (type_of% @cellsOf.eq_1 ∧ type_of% @cellsOf.eq_2)) ∧ (type_of% @cellsOf.eq_3 ∧ (type_of% @cellOk.eq_1 ∧ type_of% @cellOk.eq_2)))) ∧ (((type_of% @cellOk.eq_3 ∧ (type_of% @cellOk.eq_4 ∧ type_of% @cellOk.eq_5)) ∧ (type_of% @boxTy.eq_1 ∧ (type_of% @boxTy.eq_2 ∧ type_of% @loadAt.eq_1))) ∧ ((type_of% @loadAt.eq_2 ∧ (type_of% @loadAt.eq_3 ∧ type_of% @loadAt.eq_4)) ∧ (type_of% @storeAt.eq_1 ∧ (type_of% @storeAt.eq_2 ∧ type_of% @setAt.eq_1))))) ∧ ((((type_of% @setAt.eq_2 ∧ (type_of% @mkAgg.eq_1 ∧ type_of% @toIms.eq_1)) ∧ (type_of% @toIms.eq_2 ∧ (type_of% @toIms.eq_3 ∧ type_of% @binBool.eq_1))) ∧ ((type_of% @binBool.eq_2 ∧ (type_of% @binBool.eq_3 ∧ type_of% @binBool.eq_4)) ∧ (type_of% @unA.eq_1 ∧ (type_of% @unA.eq_2 ∧ type_of% @unA.eq_3)))) ∧ (((type_of% @unA.eq_4 ∧ (type_of% @unA.eq_5 ∧ type_of% @unA.eq_6)) ∧ (type_of% @unA.eq_7 ∧ (type_of% @unA.eq_8 ∧ type_of% @unA.eq_9))) ∧ ((type_of% @unA.eq_10 ∧ (type_of% @partA.eq_1 ∧ type_of% @partA.eq_2)) ∧ ((type_of% @fillA.eq_1 ∧ type_of% @fillA.eq_2) ∧ (type_of% @fillE.eq_1 ∧ type_of% @fillE.eq_2))))))) :=
 ⟨⟨⟨⟨⟨⟨@wantedA.eq_1, ⟨@wantedA.eq_2, @aop.eq_1⟩⟩, ⟨@aop.eq_2, ⟨@aop.eq_3, @aop.eq_4⟩⟩⟩, ⟨⟨@aop.eq_5, ⟨@aop.eq_6, @aop.eq_7⟩⟩, ⟨@aop.eq_8, ⟨@aop.eq_9, @aop.eq_10⟩⟩⟩⟩, ⟨⟨⟨@aop.eq_11, ⟨@aop.eq_12, @aop.eq_13⟩⟩, ⟨@aop.eq_14, ⟨@aop.eq_15, @aop.eq_16⟩⟩⟩, ⟨⟨@aop.eq_17, ⟨@aop.eq_18, @aop.eq_19⟩⟩, ⟨@aop.eq_20, ⟨@aop.eq_21, @aop.eq_22⟩⟩⟩⟩⟩, ⟨⟨⟨⟨@aop.eq_23, ⟨@aop.eq_24, @aop.eq_25⟩⟩, ⟨@aop.eq_26, ⟨@aop.eq_27, @aop.eq_28⟩⟩⟩, ⟨⟨@aop.eq_29, ⟨@aop.eq_30, @aop.eq_31⟩⟩, ⟨@aop.eq_32, ⟨@aop.eq_33, @aop.eq_34⟩⟩⟩⟩, ⟨⟨⟨@aop.eq_35, ⟨@aop.eq_36, @aop.eq_37⟩⟩, ⟨@aop.eq_38, ⟨@aop.eq_39, @aop.eq_40⟩⟩⟩, ⟨⟨@aop.eq_41, ⟨@aop.eq_42, @aop.eq_43⟩⟩, ⟨@aop.eq_44, ⟨@aop.eq_45, @aop.eq_46⟩⟩⟩⟩⟩⟩, ⟨⟨⟨⟨⟨@aop.eq_47, ⟨@aop.eq_48, @aop.eq_49⟩⟩, ⟨@ev.eq_1, ⟨@ev.eq_2, @putA.eq_1⟩⟩⟩, ⟨⟨@putA.eq_2, ⟨@cellsOf.eq_1, @cellsOf.eq_2⟩⟩, ⟨@cellsOf.eq_3, ⟨@cellOk.eq_1, @cellOk.eq_2⟩⟩⟩⟩, ⟨⟨⟨@cellOk.eq_3, ⟨@cellOk.eq_4, @cellOk.eq_5⟩⟩, ⟨@boxTy.eq_1, ⟨@boxTy.eq_2, @loadAt.eq_1⟩⟩⟩, ⟨⟨@loadAt.eq_2, ⟨@loadAt.eq_3, @loadAt.eq_4⟩⟩, ⟨@storeAt.eq_1, ⟨@storeAt.eq_2, @setAt.eq_1⟩⟩⟩⟩⟩, ⟨⟨⟨⟨@setAt.eq_2, ⟨@mkAgg.eq_1, @toIms.eq_1⟩⟩, ⟨@toIms.eq_2, ⟨@toIms.eq_3, @binBool.eq_1⟩⟩⟩, ⟨⟨@binBool.eq_2, ⟨@binBool.eq_3, @binBool.eq_4⟩⟩, ⟨@unA.eq_1, ⟨@unA.eq_2, @unA.eq_3⟩⟩⟩⟩, ⟨⟨⟨@unA.eq_4, ⟨@unA.eq_5, @unA.eq_6⟩⟩, ⟨@unA.eq_7, ⟨@unA.eq_8, @unA.eq_9⟩⟩⟩, ⟨⟨@unA.eq_10, ⟨@partA.eq_1, @partA.eq_2⟩⟩, ⟨⟨@fillA.eq_1, @fillA.eq_2⟩, ⟨@fillE.eq_1, @fillE.eq_2⟩⟩⟩⟩⟩⟩⟩
theorem B3 : ((type_of% @gs_same ∧ type_of% @gs_ne) ∧ (type_of% @List.length_set.{0} ∧ type_of% @not_false_eq_true)) :=
 ⟨⟨@gs_same, @gs_ne⟩, ⟨@List.length_set.{0}, @not_false_eq_true⟩⟩
theorem B4 : (((type_of% @forall_eq_or_imp.{1} ∧ type_of% @List.reverse_cons.{0}) ∧ (type_of% @List.reverse_nil.{0} ∧ (type_of% @List.mem_cons.{0} ∧ type_of% @List.not_mem_nil.{0}))) ∧ ((type_of% @or_false ∧ type_of% @forall_eq.{1}) ∧ (type_of% @true_or ∧ (type_of% @or_true ∧ type_of% @Bool.true_and)))) :=
 ⟨⟨⟨@forall_eq_or_imp.{1}, @List.reverse_cons.{0}⟩, ⟨@List.reverse_nil.{0}, ⟨@List.mem_cons.{0}, @List.not_mem_nil.{0}⟩⟩⟩, ⟨⟨@or_false, @forall_eq.{1}⟩, ⟨@true_or, ⟨@or_true, @Bool.true_and⟩⟩⟩⟩
theorem B5 : (((type_of% @z_ops ∧ type_of% @z_nil) ∧ (type_of% @z_cons ∧ type_of% @z_guard)) ∧ ((type_of% @z_some ∧ type_of% @z_drop) ∧ (type_of% @z_do ∧ (type_of% @z_not ∧ type_of% @z_not0)))) :=
 ⟨⟨⟨@z_ops, @z_nil⟩, ⟨@z_cons, @z_guard⟩⟩, ⟨⟨@z_some, @z_drop⟩, ⟨@z_do, ⟨@z_not, @z_not0⟩⟩⟩⟩
end Go.Abs
end
section
set_option linter.unusedVariables false
set_option linter.unusedSimpArgs false
namespace Go.Proofs
open Go.Abs
def Tryz.f61a : AFunc := ⟨8,[(2,none)],(.seq (.ops [⟨some 2,.move (.c .nils),none⟩] []) (.seq (.seq (.ops [⟨some 3,.move (.t 0),none⟩,⟨some 4,.binN .eql (.t 3) (.c .nils),none⟩] []) (.cond (.t 4) (.seq (.ops [⟨some 2,.move (.c .nils),none⟩] []) .ret) .skip)) (.seq (.ops [⟨some 5,.bslice false 1 0 [(.im (.int .i64 0))] [],none⟩,⟨some 6,.move (.t 0),none⟩,⟨some 7,.append 3 8 1 (.t 5) (.t 6),none⟩,⟨some 2,.move (.t 7),none⟩] []) .ret))),true⟩
theorem Tryz.F61a : compF Tryz.prog (fun _ => false) (fun _ => (⟨false, false⟩, true)) 61 = some Tryz.f61a := by kernel_rfl
theorem Tryz.clone_many (e : List Dat) (es : List (List Dat)) (H : Heap) (hb : (es.length + 1) * 8 ≤ 2 ^ 46) :
  Lim (fun _ _ _ => none) (compF Tryz.prog (fun _ => false) (fun _ => (⟨false, false⟩, true))) 61 [.im (.sl 1 (e :: es))] H = some (.asl 1 (e :: es) H.length, H ++ [.hw 3 (es.length + 1)]) := by
 have hl : leave H true (.asl 1 (e :: es) H.length) (H ++ [.hw 3 (es.length + 1)]) = (.asl 1 (e :: es) H.length, H ++ [.hw 3 (es.length + 1)]) := by
  unfold leave
  rw [if_neg (by simp [refsLt])]
  rfl
 have hb' : (es.length + 1) * 8 ≤ 70368744177664 := hb
 rw [lim_eq Tryz.F61a]
 obtain ⟨hlen, ha⟩ := enter_at (f := Tryz.f61a) (args := [.im (.sl 1 (e :: es))]) (Nat.le_of_ble_eq_true rfl)
 have h0 := ha 0 _ rfl
 generalize enterA Tryz.f61a [.im (.sl 1 (e :: es))] = tm at *
 change tm.length = 8 at hlen
 simp only [Tryz.f61a,B0,B1,B2,List.replicate,reduceCtorEq,lenA,seval,B5,pairK,B4,stays,loadOf,endK,resA,tupA,hlen,h0,binNil,nilA,elems,appendA,hb',hl]
theorem Tryz.known (B : Low) (hB : B.ok = Tryz.tab) : Sound Tryz.prog B (atoiO 119 (countO 138 (itoaO 76 (joinO 77 (one1O 94 (cloneO 61 3 (strO 73 47 Tryz.okB 5 fun _ _ _ => none))))))) :=
 atoiO_sound (fun w h => by rw [← hB]; exact h) Tryz.atois (countO_sound Tryz.counts (itoaO_sound (fun w h => by rw [hB] at h; exact h.1) Tryz.itoas (joinO_sound Tryz.joins (one1O_sound Tryz.ones (cloneO_sound Tryz.clones (lim_sound (by kernel_rfl) (fun _ _ _ _ _ _ _ h => by simp at h) _ _) (fun e es H hb => Tryz.clone_many e es H hb) (strO_sound Tryz.emb fun _ _ _ _ _ h => by simp at h))))))
end Go.Proofs
end
section
set_option linter.unusedVariables false
set_option linter.unusedSimpArgs false
namespace Go.Abs.Seat
open Go.Proofs
variable {R : Type} (Φ : Oracle) (Λ' : ACode → List AV → Heap → Option Out) (tm : List AV) (H : Heap) (K : AEx → List AV → Heap → Option R)
abbrev oo (d : Nat) (x : AOp) : AOper := ⟨some d,x,none⟩
abbrev og (d : Nat) (x : AOp) (t : Nat) (b : Bool) : AOper := ⟨some d,x,some (t,b)⟩
abbrev mv (d t : Nat) : AOper := ⟨some d,.move (.t t),none⟩
abbrev sq (l : List AOper) (c : ACode) : ACode := .seq (.ops l []) c
abbrev ci (z : Int) : AOpd := .c (.im (.int .i64 z))
abbrev cb (b : Bool) : AOpd := .c (.im (.bool b))
abbrev cs (l : List UInt8) : AOpd := .c (.im (.str l))
abbrev cl (n : Nat) : AOpd := .c (.clo n [])
abbrev fa (d i t : Nat) : AOper := ⟨some d,.fieldAddr i (.t t),none⟩
abbrev ld (d n t : Nat) : AOper := ⟨some d,.load (some n) (.t t),none⟩
abbrev l0 (d t : Nat) : AOper := ⟨some d,.load none (.t t),none⟩
abbrev nc (d t : Nat) : AOper := ⟨some d,.nilCheck (.t t),none⟩
abbrev ex (d i t : Nat) : AOper := ⟨some d,.extract i (.t t),none⟩
abbrev pa (d a b : Nat) : AOper := ⟨some d,.pick (.t a) (.t b) (.c (.im (.bool false))),none⟩
abbrev po (d a b : Nat) : AOper := ⟨some d,.pick (.t a) (.c (.im (.bool true))) (.t b),none⟩
abbrev st (n a b : Nat) : AOper := ⟨none,.store n (.t a) (.t b),none⟩
abbrev mc (d : Nat) (x : AOpd) : AOper := ⟨some d,.move x,none⟩
abbrev bi (d : Nat) (p : BinOp) (a : Nat) (x : AOpd) : AOper := ⟨some d,.bin p (.t a) x,none⟩
def no : FuncId → Bool := fun k => k == 73 || k == 47 || k == 76 || k == 77 || k == 94 || k == 61 || k == 119 || k == 138
def pol : FuncId → Lit × Bool := fun f => (⟨f == 121 || f == 132, ((3 ≤ f && f ≤ 9) || f == 11 || f == 12)⟩, f == 121 || f == 132 || f == 61)
noncomputable def F : FuncId → Option AFunc := compF Tryz.prog no pol
abbrev bld : Oracle := atoiO 119 (countO 138 (itoaO 76 (joinO 77 (one1O 94 (cloneO 61 3 (strO 73 47 Tryz.okB 5 fun _ _ _ => none))))))
noncomputable def L : Oracle := Lim bld F
noncomputable def Λ : ACode → List AV → Heap → Option Out := execL bld F
theorem leq {f : FuncId} {af : AFunc} (hf : F f = some af) (args : List AV) (H : Heap) : L f args H = exec0 L Λ af.code (enterA af args) H (endK af H) := lim_eq hf args H
def f3 : AFunc := ⟨42,[(2,none)],.seq (.ops [mc 2 (cb false)] []) (.seq (sq [mv 9 0,oo 10 (.lenStr (.t 9)),bi 11 .gtr 10 (ci 20000)] (.cond (.t 11) (sq [oo 12 (.call true (cl 10) []),mv 2 12] .ret) .skip)) (sq [mv 14 0,oo 15 (.call true (cl 11) [.t 14]),mv 13 15,ex 16 0 13,ex 17 1 13,ex 18 2 13,oo 3 (.alloc none [.nils]),st 1 3 16,mv 4 17,mv 5 18] (.seq (.ops [mv 20 0,oo 21 (.call true (cl 12) [.t 20]),mv 19 21,ex 22 0 19,ex 23 1 19,ex 24 2 19,mv 6 22,mv 7 23,mv 8 24] []) (sq [mv 25 5,mv 26 8,bi 27 .eql 25 (.t 26),mv 28 27,og 29 (.move (.t 4)) 28 true,og 30 (.move (.t 7)) 28 true,og 31 (.bin .eql (.t 29) (.t 30)) 28 true,pa 32 28 31,mv 33 32,og 34 (.load (some 1) (.t 3)) 33 true,og 35 (.call true (cl 14) [.t 34]) 33 true,og 36 (.move (.t 6)) 33 true,og 37 (.call true (cl 13) [.t 35,.t 36]) 33 true,pa 38 33 37,mv 39 38,og 40 (.call true (cl 10) []) 39 true,pa 41 39 40,mv 2 41] .ret)))),false⟩
def f4 : AFunc := ⟨57,[(2,none)],.seq (.ops [mc 2 (cb false)] []) (.seq (sq [mv 10 0,oo 11 (.lenStr (.t 10)),bi 12 .gtr 11 (ci 20000)] (.cond (.t 12) (sq [oo 13 (.call true (cl 10) []),mv 2 13] .ret) .skip)) (sq [mv 15 0,oo 16 (.call true (cl 11) [.t 15]),mv 14 16,ex 17 0 14,ex 18 1 14,ex 19 2 14,oo 3 (.alloc none [.nils]),st 1 3 17,mv 4 18,mv 5 19] (.seq (sq [mv 20 5,bi 21 .neq 20 (ci 0)] (.cond (.t 21) (sq [fa 22 0 3,l0 23 22,oo 24 (.lenSl (.t 23)),bi 25 .eql 24 (ci 0),mv 26 25,og 27 (.call true (cl 10) []) 26 true,pa 28 26 27,mv 2 28] .ret) .skip)) (sq [ld 30 1 3,oo 31 (.call true (cl 15) [.t 30]),mv 29 31,ex 32 0 29,ex 33 1 29,mv 6 32,mv 7 33] (.seq (.ops [ld 35 1 3,oo 36 (.call true (cl 16) [.t 35]),mv 34 36,ex 37 0 34,ex 38 1 34,mv 8 37,mv 9 38] []) (sq [mv 39 7,bi 40 .eql 39 (ci 0),mv 41 40,og 42 (.move (.t 9)) 41 true,og 43 (.bin .eql (.t 42) (ci 0)) 41 true,pa 44 41 43,mv 45 44,og 46 (.move (.t 8)) 45 true,og 47 (.bin .eql (.t 46) (ci 0)) 45 true,pa 48 45 47,mv 49 48,og 50 (.move (.t 6)) 49 true,og 51 (.move (.t 0)) 49 true,og 52 (.bin .eql (.t 50) (.t 51)) 49 true,pa 53 49 52,mv 54 53,og 55 (.call true (cl 10) []) 54 true,pa 56 54 55,mv 2 56] .ret)))))),false⟩
def b5_0 : ACode := sq [oo 32 (.nextS (.t 31)),ex 33 0 32] (.seq (.cond (.t 33) .skip (.exit 0)) (.block 1 (sq [ex 34 1 32,mv 7 34] (.seq (.ops [mv 35 1,mv 36 7,oo 37 (.indexStr (.t 35) (.t 36)),oo 38 (.bin .eql (.t 37) (.c (.im (.int .u8 10))))] []) (.cond (.t 38) (sq [oo 39 (.call true (cl 10) []),mv 4 39] .ret) .skip)))))
def c5_0 : ACode := .loop b5_0
def f5 : AFunc := ⟨73,[(4,none)],.seq (.ops [mc 4 (cb false)] []) (.seq (sq [mv 13 0,oo 14 (.call true (cl 17) [.t 13]),oo 15 (.un .not (.t 14)),mv 16 15,og 17 (.move (.t 1)) 16 false,og 18 (.lenStr (.t 17)) 16 false,og 19 (.bin .gtr (.t 18) (ci 3000)) 16 false,po 20 16 19] (.cond (.t 20) (sq [oo 21 (.call true (cl 10) []),mv 4 21] .ret) .skip)) (.seq (sq [mv 23 0,oo 24 (.call true (cl 18) [.t 23]),mv 22 24,ex 25 0 22,ex 26 1 22,mv 5 25,mv 6 26] (.seq (.ops [mv 27 6,bi 28 .neq 27 (ci 0)] []) (.cond (.t 28) (sq [oo 29 (.call true (cl 10) []),mv 4 29] .ret) .skip))) (.seq (sq [mv 30 1,oo 31 (.rangeS (.t 30))] (.block 0 c5_0)) (sq [mv 41 0,oo 42 (.call true (cl 19) [.t 41]),mv 43 1,bi 44 .add 42 (.t 43),bi 45 .add 44 (cs [10]),oo 46 (.call true (cl 11) [.t 45]),mv 40 46,ex 47 0 40,ex 48 1 40,ex 49 2 40,oo 8 (.alloc none [.nils]),st 1 8 47,mv 9 48,mv 10 49] (.seq (sq [mv 51 1,oo 52 (.call true (cl 20) [.t 51]),mv 50 52,ex 53 0 50,ex 54 1 50,oo 11 (.alloc none [.im (.int .i64 0),.nils,.nils,.im (.str []),.im (.int .i64 0),.nils,.im (.int .i64 0),.im (.int .i64 0),.im (.int .i64 0),.im (.int .i64 0),.im (.int .i64 0),.im (.int .i64 0),.im (.int .i64 0),.im (.bool false)]),st 14 11 53,mv 12 54] (.seq (.ops [mv 55 12,oo 56 (.un .not (.t 55))] []) (.cond (.t 56) (sq [mv 57 10,bi 58 .eql 57 (ci 40),mv 59 58,og 60 (.move (.t 9)) 59 true,og 61 (.move (.t 0)) 59 true,og 62 (.lenSl (.t 61)) 59 true,og 63 (.bin .eql (.t 60) (.t 62)) 59 true,pa 64 59 63,mv 65 64,og 66 (.call true (cl 10) []) 65 true,pa 67 65 66,mv 4 67] .ret) .skip))) (sq [mv 68 10,bi 69 .neq 68 (ci 40),mv 70 69,og 71 (.call true (cl 10) []) 70 true,pa 72 70 71,mv 4 72] .ret)))))),false⟩
def b6_0 : ACode := sq [oo 51 (.nextS (.t 50)),ex 52 0 51] (.seq (.cond (.t 52) .skip (.exit 0)) (.block 1 (sq [ex 53 1 51,mv 10 53] (.seq (.ops [mv 54 5,mv 55 10,oo 56 (.indexStr (.t 54) (.t 55)),oo 57 (.bin .eql (.t 56) (.c (.im (.int .u8 10))))] []) (.cond (.t 57) (.ops [mv 58 9,bi 59 .add 58 (ci 1),mv 9 59] []) .skip)))))
def c6_0 : ACode := .loop b6_0
theorem e6_0 : exec0 Φ Λ' c6_0 tm H K = thenL (Λ' c6_0 tm H) K := rfl
theorem l6_0 : Λ c6_0 tm H = exec0 L Λ b6_0 tm H fun e tm H => match e with
  | .normal => Λ c6_0 tm H
  | .exit i => some (.exit i, tm, H)
  | .goto l => some (.goto l, tm, H)
  | .ret => some (.ret, tm, H) := loop_eq
def f6 : AFunc := ⟨107,[(4,none)],.seq (.ops [mc 4 (cb false)] []) (.seq (sq [mv 14 0,oo 15 (.call true (cl 17) [.t 14]),oo 16 (.un .not (.t 15)),mv 17 16,og 18 (.move (.t 1)) 17 false,og 19 (.bin .lss (.t 18) (ci 1)) 17 false,po 20 17 19,mv 21 20,og 22 (.move (.t 1)) 21 false,og 23 (.move (.t 0)) 21 false,og 24 (.lenSl (.t 23)) 21 false,og 25 (.bin .gtr (.t 22) (.t 24)) 21 false,po 26 21 25] (.cond (.t 26) (sq [oo 27 (.call true (cl 10) []),mv 4 27] .ret) .skip)) (sq [mv 29 0,oo 30 (.call true (cl 21) [.t 29]),oo 31 (.call true (cl 15) [.t 30]),mv 28 31,ex 32 0 28,ex 33 1 28,mv 5 32,mv 6 33] (.seq (sq [mv 34 6,bi 35 .neq 34 (ci 0)] (.cond (.t 35) (sq [mv 36 5,bi 37 .eql 36 (cs []),mv 38 37,og 39 (.call true (cl 10) []) 38 true,pa 40 38 39,mv 4 40] .ret) .skip)) (sq [mv 42 0,mv 43 1,oo 44 (.slice 14 (.t 42) none (some (.t 43)) none),oo 45 (.call true (cl 21) [.t 44]),oo 46 (.call true (cl 15) [.t 45]),mv 41 46,ex 47 0 41,ex 48 1 41,mv 7 47,mv 8 48] (.seq (.ops [mc 9 (ci 0)] []) (.seq (sq [mv 49 5,oo 50 (.rangeS (.t 49))] (.block 0 c6_0)) (sq [mv 61 7,oo 62 (.call true (cl 11) [.t 61]),mv 60 62,ex 63 0 60,ex 64 1 60,ex 65 2 60,oo 11 (.alloc none [.nils]),st 1 11 63,mv 12 64,mv 13 65] (.seq (.ops [mv 66 8,bi 67 .eql 66 (ci 0),mv 68 67,og 69 (.move (.t 13)) 68 true,og 70 (.bin .eql (.t 69) (ci 0)) 68 true,pa 71 68 70,mv 72 71,og 73 (.move (.t 12)) 72 true,og 74 (.bin .eql (.t 73) (ci 0)) 72 true,pa 75 72 74,mv 76 75,og 77 (.move (.t 9)) 76 true,og 78 (.move (.t 0)) 76 true,og 79 (.lenSl (.t 78)) 76 true,og 80 (.bin .eql (.t 77) (.t 79)) 76 true,pa 81 76 80,mv 82 81,og 83 (.move (.t 7)) 82 true,og 84 (.lenStr (.t 83)) 82 true,og 85 (.move (.t 5)) 82 true,og 86 (.lenStr (.t 85)) 82 true,og 87 (.bin .leq (.t 84) (.t 86)) 82 true,pa 88 82 87,mv 89 88,og 90 (.move (.t 5)) 89 true,og 91 (.move (.t 7)) 89 true,og 92 (.lenStr (.t 91)) 89 true,og 93 (.sliceStr (.t 90) none (some (.t 92))) 89 true,og 94 (.move (.t 7)) 89 true,og 95 (.bin .eql (.t 93) (.t 94)) 89 true,pa 96 89 95,mv 97 96,og 98 (.fieldAddr 0 (.t 11)) 97 true,og 99 (.load none (.t 98)) 97 true,og 100 (.lenSl (.t 99)) 97 true,og 101 (.move (.t 1)) 97 true,og 102 (.bin .eql (.t 100) (.t 101)) 97 true,pa 103 97 102,mv 104 103,og 105 (.call true (cl 10) []) 104 true,pa 106 104 105,mv 4 106] []) .ret)))))))),false⟩
theorem F6 : F 6 = some f6 := by kernel_rfl
def b8_0 : ACode := sq [bi 115 .lss 114 (.t 113)] (.seq (.cond (.t 115) .skip (.exit 2)) (.seq (.block 3 (sq [mv 116 114,mv 20 116] (.ops [mv 117 19,mv 118 117,og 119 (.move (.t 0)) 118 false,og 120 (.move (.t 20)) 118 false,og 121 (.indexSl 14 (.t 119) (.t 120)) 118 false,og 122 (.fieldAddr 0 (.t 121)) 118 false,og 123 (.load none (.t 122)) 118 false,og 124 (.bin .eql (.t 123) (ci 6)) 118 false,og 125 (.move (.t 124)) 118 false,og 126 (.move (.t 0)) 125 true,og 127 (.move (.t 18)) 125 true,og 128 (.move (.t 20)) 125 true,og 129 (.call true (cl 32) [.t 126,.t 127,.t 128]) 125 true,og 130 (.pick (.t 125) (.t 129) (cb false)) 118 false,po 131 118 130,mv 19 131] []))) (.ops [bi 132 .add 114 (ci 1),mv 114 132] [])))
def c8_0 : ACode := .loop b8_0
def b8_1 : ACode := sq [bi 86 .lss 85 (.t 84)] (.seq (.cond (.t 86) .skip (.exit 0)) (.seq (.block 1 (sq [mv 87 85,mv 18 87] (.seq (sq [mv 88 0,mv 89 18,oo 90 (.indexSl 14 (.t 88) (.t 89)),ld 91 14 90,mv 92 1,oo 93 (.call true (cl 31) [.t 91,.t 92])] (.cond (.t 93) (.ops [mv 94 15,mv 95 18,oo 96 (.bsliceA 3 1 1 [.im (.int .i64 0)] [(0,.t 95)]),oo 97 (.append 3 8 1 (.t 94) (.t 96)),mv 15 97] []) .skip)) (.seq (sq [mv 98 0,mv 99 18,mv 100 1,oo 101 (.call true (cl 32) [.t 98,.t 99,.t 100])] (.cond (.t 101) (.ops [mv 102 16,mv 103 18,oo 104 (.bsliceA 3 1 1 [.im (.int .i64 0)] [(0,.t 103)]),oo 105 (.append 3 8 1 (.t 102) (.t 104)),mv 16 105] []) .skip)) (sq [mv 106 0,mv 107 18,oo 108 (.indexSl 14 (.t 106) (.t 107)),fa 109 0 108,l0 110 109,bi 111 .eql 110 (ci 6),mv 19 111] (.seq (sq [mv 112 0,oo 113 (.lenSl (.t 112)),mc 114 (ci 0)] (.block 2 c8_0)) (sq [mv 133 19] (.cond (.t 133) (.ops [mv 134 17,mv 135 18,oo 136 (.bsliceA 3 1 1 [.im (.int .i64 0)] [(0,.t 135)]),oo 137 (.append 3 8 1 (.t 134) (.t 136)),mv 17 137] []) .skip)))))))) (.ops [bi 138 .add 85 (ci 1),mv 85 138] [])))
def c8_1 : ACode := .loop b8_1
def f8 : AFunc := ⟨166,[(4,none)],.seq (.ops [mc 4 (cb false)] []) (.seq (sq [mv 21 0,oo 22 (.call true (cl 17) [.t 21]),oo 23 (.un .not (.t 22))] (.cond (.t 23) (sq [oo 24 (.call true (cl 10) []),mv 4 24] .ret) .skip)) (sq [mv 25 0,oo 26 (.call true (cl 21) [.t 25]),oo 5 (.alloc none [.nils]),st 1 5 26] (.seq (.ops [ld 28 1 5,oo 29 (.call true (cl 16) [.t 28]),mv 27 29,ex 30 0 27,ex 31 1 27,mv 6 30,mv 7 31] []) (sq [mv 33 0,oo 34 (.call true (cl 18) [.t 33]),mv 32 34,ex 35 0 32,ex 36 1 32,mv 8 35,mv 9 36] (.seq (.ops [ld 38 1 5,oo 39 (.call true (cl 15) [.t 38]),mv 37 39,ex 40 0 37,ex 41 1 37,mv 10 40,mv 11 41] []) (.seq (sq [mv 42 6,mv 43 8,bi 44 .neq 42 (.t 43),mv 45 44,og 46 (.move (.t 7)) 45 false,og 47 (.move (.t 9)) 45 false,og 48 (.bin .neq (.t 46) (.t 47)) 45 false,po 49 45 48,mv 50 49,og 51 (.move (.t 11)) 50 false,og 52 (.move (.t 7)) 50 false,og 53 (.bin .neq (.t 51) (.t 52)) 50 false,po 54 50 53] (.cond (.t 54) (sq [mc 4 (cb false)] .ret) .skip)) (.seq (sq [mv 55 9,bi 56 .neq 55 (ci 0)] (.cond (.t 56) (sq [mv 57 10,bi 58 .eql 57 (cs []),mv 59 58,og 60 (.call true (cl 10) []) 59 true,pa 61 59 60,mv 4 61] .ret) .skip)) (sq [mv 63 10,oo 64 (.call true (cl 11) [.t 63]),mv 62 64,ex 65 0 62,ex 66 1 62,ex 67 2 62,oo 12 (.alloc none [.nils]),st 1 12 65,mv 13 66,mv 14 67] (.seq (sq [mv 68 10,mv 69 0,oo 70 (.call true (cl 19) [.t 69]),bi 71 .neq 68 (.t 70),mv 72 71,og 73 (.move (.t 14)) 72 false,og 74 (.bin .neq (.t 73) (ci 0)) 72 false,po 75 72 74,mv 76 75,og 77 (.load (some 1) (.t 12)) 76 false,og 78 (.call true (cl 14) [.t 77]) 76 false,og 79 (.move (.t 0)) 76 false,og 80 (.call true (cl 13) [.t 78,.t 79]) 76 false,og 81 (.un .not (.t 80)) 76 false,po 82 76 81] (.cond (.t 82) (sq [mc 4 (cb false)] .ret) .skip)) (sq [oo 15 (.move (.c .nils)),oo 16 (.move (.c .nils)),oo 17 (.move (.c .nils))] (.seq (sq [mv 83 0,oo 84 (.lenSl (.t 83)),mc 85 (ci 0)] (.block 0 c8_1)) (sq [ld 139 1 5,mv 140 1,oo 141 (.call true (cl 34) [.t 139,.t 140]),mv 142 15,oo 143 (.call true (cl 33) [.t 141,.t 142]),mv 144 143,og 145 (.load (some 1) (.t 5)) 144 true,og 146 (.move (.t 1)) 144 true,og 147 (.call true (cl 35) [.t 145,.t 146]) 144 true,og 148 (.move (.t 16)) 144 true,og 149 (.call true (cl 33) [.t 147,.t 148]) 144 true,pa 150 144 149,mv 151 150,og 152 (.load (some 1) (.t 5)) 151 true,og 153 (.call true (cl 36) [.t 152]) 151 true,og 154 (.move (.t 17)) 151 true,og 155 (.call true (cl 33) [.t 153,.t 154]) 151 true,pa 156 151 155,mv 157 156,og 158 (.load (some 1) (.t 5)) 157 true,og 159 (.call true (cl 14) [.t 158]) 157 true,og 160 (.move (.t 0)) 157 true,og 161 (.call true (cl 13) [.t 159,.t 160]) 157 true,pa 162 157 161,mv 163 162,og 164 (.call true (cl 10) []) 163 true,pa 165 163 164,mv 4 165] .ret)))))))))))),false⟩
def b9_0 : ACode := sq [bi 103 .lss 102 (.t 101)] (.seq (.cond (.t 103) .skip (.exit 8)) (.seq (.block 9 (sq [oo 104 (.indexSl 1 (.t 100) (.t 102)),l0 105 104,mv 16 105] (.seq (.ops [mv 106 0,mv 107 16,oo 108 (.indexSl 14 (.t 106) (.t 107)),fa 109 0 108,l0 110 109,bi 111 .neq 110 (ci 6),mv 112 111,og 113 (.load (some 1) (.t 3)) 112 true,og 114 (.move (.t 14)) 112 true,og 115 (.move (.t 16)) 112 true,og 116 (.call true (cl 38) [.t 113,.t 114,.t 115]) 112 true,og 117 (.un .not (.t 116)) 112 true,pa 118 112 117] []) (.cond (.t 118) (sq [mc 2 (cb false)] .ret) .skip)))) (.ops [bi 119 .add 102 (ci 1),mv 102 119] [])))
def c9_0 : ACode := .loop b9_0
def b9_1 : ACode := sq [bi 81 .lss 80 (.t 79)] (.seq (.cond (.t 81) .skip (.exit 6)) (.seq (.block 7 (sq [oo 82 (.indexSl 1 (.t 78) (.t 80)),l0 83 82,mv 13 83] (.seq (.ops [mv 84 7,mv 85 13,oo 86 (.call true (cl 37) [.t 84,.t 85]),oo 87 (.un .not (.t 86)),mv 88 87,og 89 (.load (some 1) (.t 3)) 88 false,og 90 (.move (.t 13)) 88 false,og 91 (.call true (cl 34) [.t 89,.t 90]) 88 false,og 92 (.move (.t 6)) 88 false,og 93 (.call true (cl 37) [.t 91,.t 92]) 88 false,og 94 (.un .not (.t 93)) 88 false,po 95 88 94] []) (.cond (.t 95) (sq [mc 2 (cb false)] .ret) .skip)))) (.ops [bi 96 .add 80 (ci 1),mv 80 96] [])))
def c9_1 : ACode := .loop b9_1
def b9_2 : ACode := sq [bi 57 .lss 56 (.t 55)] (.seq (.cond (.t 57) .skip (.exit 4)) (.seq (.block 5 (sq [oo 58 (.indexSl 1 (.t 54) (.t 56)),l0 59 58,mv 11 59] (.seq (.ops [mv 60 7,mv 61 11,oo 62 (.call true (cl 37) [.t 60,.t 61]),oo 63 (.un .not (.t 62))] []) (.cond (.t 63) (sq [mc 2 (cb false)] .ret) .skip)))) (.ops [bi 64 .add 56 (ci 1),mv 56 64] [])))
def c9_2 : ACode := .loop b9_2
def b9_3 : ACode := sq [bi 42 .lss 41 (.t 40)] (.seq (.cond (.t 42) .skip (.exit 2)) (.seq (.block 3 (sq [oo 43 (.indexSl 1 (.t 39) (.t 41)),l0 44 43,mv 9 44] (.seq (sq [mv 45 9,mv 46 6,bi 47 .geq 45 (.t 46),mv 48 47,og 49 (.move (.t 9)) 48 false,og 50 (.bin .lss (.t 49) (ci 0)) 48 false,po 51 48 50] (.cond (.t 51) (sq [mc 2 (cb false)] .ret) .skip)) (sq [ld 52 1 3,mv 53 9,oo 54 (.call true (cl 35) [.t 52,.t 53]),oo 55 (.lenSl (.t 54)),mc 56 (ci 0)] (.block 4 c9_2))))) (.ops [bi 65 .add 41 (ci 1),mv 41 65] [])))
def c9_3 : ACode := .loop b9_3
def b9_4 : ACode := sq [bi 34 .lss 33 (.t 32)] (.seq (.cond (.t 34) .skip (.exit 0)) (.seq (.block 1 (sq [mv 35 33,mv 6 35] (.seq (.ops [ld 36 1 3,mv 37 6,oo 38 (.call true (cl 35) [.t 36,.t 37]),mv 7 38] []) (.seq (sq [mv 39 7,oo 40 (.lenSl (.t 39)),mc 41 (ci 0)] (.block 2 c9_3)) (.seq (.ops [oo 66 (.bslice false 1 0 [.im (.int .i64 0)] []),mv 67 0,mv 68 6,oo 69 (.indexSl 14 (.t 67) (.t 68)),fa 70 1 69,l0 71 70,oo 72 (.append 3 8 1 (.t 66) (.t 71)),mv 73 0,mv 74 6,oo 75 (.indexSl 14 (.t 73) (.t 74)),fa 76 2 75,l0 77 76,oo 78 (.append 3 8 1 (.t 72) (.t 77)),oo 79 (.lenSl (.t 78)),mc 80 (ci 0)] [(11,6)]) (.block 6 c9_1)))))) (.ops [bi 97 .add 33 (ci 1),mv 33 97] [])))
def c9_4 : ACode := .loop b9_4
def f9 : AFunc := ⟨135,[(2,none)],.seq (.ops [mc 2 (cb false)] []) (.seq (sq [mv 17 0,oo 18 (.call true (cl 17) [.t 17]),oo 19 (.un .not (.t 18))] (.cond (.t 19) (sq [oo 20 (.call true (cl 10) []),mv 2 20] .ret) .skip)) (sq [mv 21 0,oo 22 (.call true (cl 21) [.t 21]),oo 3 (.alloc none [.nils]),st 1 3 22] (.seq (sq [ld 24 1 3,oo 25 (.call true (cl 16) [.t 24]),mv 23 25,ex 26 0 23,ex 27 1 23,mv 4 26,mv 5 27] (.seq (.ops [mv 28 5,bi 29 .neq 28 (ci 0)] []) (.cond (.t 29) (sq [oo 30 (.call true (cl 10) []),mv 2 30] .ret) .skip))) (.seq (sq [mv 31 0,oo 32 (.lenSl (.t 31)),mc 33 (ci 0)] (.block 0 c9_4)) (sq [ld 98 1 3,oo 99 (.call true (cl 36) [.t 98]),mv 14 99] (.seq (sq [mv 100 14,oo 101 (.lenSl (.t 100)),mc 102 (ci 0)] (.block 8 c9_0)) (sq [ld 120 1 3,oo 121 (.call true (cl 34) [.t 120,ci (-1)]),oo 122 (.lenSl (.t 121)),bi 123 .eql 122 (ci 0),mv 124 123,og 125 (.load (some 1) (.t 3)) 124 true,og 126 (.move (.t 0)) 124 true,og 127 (.lenSl (.t 126)) 124 true,og 128 (.call true (cl 35) [.t 125,.t 127]) 124 true,og 129 (.lenSl (.t 128)) 124 true,og 130 (.bin .eql (.t 129) (ci 0)) 124 true,pa 131 124 130,mv 132 131,og 133 (.call true (cl 10) []) 132 true,pa 134 132 133,mv 2 134] .ret))))))),false⟩
def f10 : AFunc := ⟨36,[(0,none)],.seq (.ops [mc 0 (cb false)] []) (sq [oo 7 (.call false (cl 11) [cs [115,111,117,114,99,101,32,105,110,116,10,115,105,110,107,32,48,10]]),mv 6 7,ex 8 0 6,ex 9 1 6,ex 10 2 6,oo 1 (.alloc none [.nils]),st 1 1 8,mv 2 9,mv 3 10] (.seq (.ops [ld 12 1 1,oo 13 (.call false (cl 15) [.t 12]),mv 11 13,ex 14 0 11,ex 15 1 11,mv 4 14,mv 5 15] []) (sq [mv 16 3,bi 17 .eql 16 (ci 0),mv 18 17,og 19 (.move (.t 5)) 18 true,og 20 (.bin .eql (.t 19) (ci 0)) 18 true,pa 21 18 20,mv 22 21,og 23 (.move (.t 2)) 22 true,og 24 (.bin .eql (.t 23) (ci 0)) 22 true,pa 25 22 24,mv 26 25,og 27 (.move (.t 4)) 26 true,og 28 (.bin .eql (.t 27) (cs [115,111,117,114,99,101,32,105,110,116,10,115,105,110,107,32,48,10])) 26 true,pa 29 26 28,mv 30 29,og 31 (.load (some 1) (.t 1)) 30 true,og 32 (.call false (cl 34) [.t 31,ci 0]) 30 true,og 33 (.lenSl (.t 32)) 30 true,og 34 (.bin .eql (.t 33) (ci 1)) 30 true,pa 35 30 34,mv 0 35] .ret))),false⟩
theorem F10 : F 10 = some f10 := by kernel_rfl
def b11_0 : ACode := .seq (sq [mv 11 0,bi 12 .neq 11 (cs [])] (.cond (.t 12) .skip (.exit 0))) (.seq (.block 1 (sq [mv 16 0,oo 17 (.call true (cl 39) [.t 16,cs [10]]),mv 15 17,ex 18 0 15,ex 19 1 15,ex 20 2 15,mv 6 18,mv 7 19,mv 8 20] (.seq (.ops [mv 22 6,oo 23 (.call true (cl 40) [.t 22]),mv 21 23,ex 24 0 21,ex 25 1 21,oo 9 (.alloc none [.im (.int .i64 0),.nils,.nils,.im (.str []),.im (.int .i64 0),.nils,.im (.int .i64 0),.im (.int .i64 0),.im (.int .i64 0),.im (.int .i64 0),.im (.int .i64 0),.im (.int .i64 0),.im (.int .i64 0),.im (.bool false)]),st 14 9 24,mv 10 25] []) (.seq (sq [mv 26 8,oo 27 (.un .not (.t 26)),mv 28 27,og 29 (.move (.t 10)) 28 false,og 30 (.un .not (.t 29)) 28 false,po 31 28 30] (.cond (.t 31) (sq [oo 32 (.build [.nils] []),mv 33 5,st 1 2 32,mv 3 33,mc 4 (ci 40)] .ret) .skip)) (sq [fa 34 0 2,l0 35 34,ld 36 14 9,oo 37 (.bslice false 14 1 [.im (.int .i64 0),.nils,.nils,.im (.str []),.im (.int .i64 0),.nils,.im (.int .i64 0),.im (.int .i64 0),.im (.int .i64 0),.im (.int .i64 0),.im (.int .i64 0),.im (.int .i64 0),.im (.int .i64 0),.im (.bool false)] [(0,.t 36)]),oo 38 (.append 83 168 14 (.t 35) (.t 37)),fa 39 0 2,st 1 39 38] (.ops [mv 40 7,mv 0 40] [])))))) (.ops [mv 13 5,bi 14 .add 13 (ci 1),mv 5 14] []))
def c11_0 : ACode := .loop b11_0
theorem e11_0 : exec0 Φ Λ' c11_0 tm H K = thenL (Λ' c11_0 tm H) K := rfl
theorem l11_0 : Λ c11_0 tm H = exec0 L Λ b11_0 tm H fun e tm H => match e with
  | .normal => Λ c11_0 tm H
  | .exit i => some (.exit i, tm, H)
  | .goto l => some (.goto l, tm, H)
  | .ret => some (.ret, tm, H) := loop_eq
def f11 : AFunc := ⟨52,[(2,some (some 1)),(3,none),(4,none)],.seq (.ops [oo 2 (.alloc none [.nils]),mc 3 (ci 0),mc 4 (ci 0)] []) (.seq (sq [mc 5 (ci 0)] (.block 0 c11_0)) (.seq (sq [ld 42 1 2,oo 43 (.call true (cl 16) [.t 42]),mv 41 43,ex 44 0 41,ex 45 1 41,mv 3 44,mv 4 45] (.seq (.ops [mv 46 4,bi 47 .neq 46 (ci 0)] []) (.cond (.t 47) (sq [oo 48 (.build [.nils] []),mv 49 3,mv 50 4,st 1 2 48,mv 3 49,mv 4 50] .ret) .skip))) (sq [ld 51 1 2,st 1 2 51,mc 3 (ci 0),mc 4 (ci 0)] .ret))),false⟩
theorem F11 : F 11 = some f11 := by kernel_rfl
def b15_0 : ACode := sq [bi 21 .lss 20 (.t 19)] (.seq (.cond (.t 21) .skip (.exit 0)) (.seq (.block 1 (sq [oo 22 (.indexSl 14 (.t 18) (.t 20)),ld 23 14 22,oo 8 (.alloc none [.im (.int .i64 0),.nils,.nils,.im (.str []),.im (.int .i64 0),.nils,.im (.int .i64 0),.im (.int .i64 0),.im (.int .i64 0),.im (.int .i64 0),.im (.int .i64 0),.im (.int .i64 0),.im (.int .i64 0),.im (.bool false)]),st 14 8 23] (.ops [ld 24 14 8,oo 25 (.call false (cl 46) [.t 24]),oo 26 (.call false (cl 45) [.t 6,.t 25])] []))) (.ops [bi 27 .add 20 (ci 1),mv 20 27] [])))
def c15_0 : ACode := .loop b15_0
theorem e15_0 : exec0 Φ Λ' c15_0 tm H K = thenL (Λ' c15_0 tm H) K := rfl
theorem l15_0 : Λ c15_0 tm H = exec0 L Λ b15_0 tm H fun e tm H => match e with
  | .normal => Λ c15_0 tm H
  | .exit i => some (.exit i, tm, H)
  | .goto l => some (.goto l, tm, H)
  | .ret => some (.ret, tm, H) := loop_eq
def f15 : AFunc := ⟨29,[(2,none),(3,none)],.seq (.ops [oo 1 (.box none (.t 0)),mc 2 (cs []),mc 3 (ci 0)] []) (.seq (sq [ld 10 1 1,oo 11 (.call false (cl 16) [.t 10]),mv 9 11,ex 12 0 9,ex 13 1 9,mv 4 12,mv 5 13] (.seq (.ops [mv 14 5,bi 15 .neq 14 (ci 0)] []) (.cond (.t 15) (sq [mv 16 5,mc 2 (cs []),mv 3 16] .ret) .skip))) (sq [oo 6 (.alloc (some (92,2)) [.im .nilp,.nils])] (.seq (sq [fa 17 0 1,l0 18 17,oo 19 (.lenSl (.t 18)),mc 20 (ci 0)] (.block 0 c15_0)) (sq [oo 28 (.call false (cl 47) [.t 6]),mv 2 28,mc 3 (ci 0)] .ret)))),false⟩
theorem F15 : F 15 = some f15 := by kernel_rfl
def b16_0 : ACode := sq [bi 20 .lss 19 (.t 18)] (.seq (.cond (.t 20) .skip (.exit 0)) (.seq (.block 1 (sq [mv 21 19,oo 22 (.indexSl 14 (.t 17) (.t 19)),ld 23 14 22,oo 5 (.alloc none [.im (.int .i64 0),.nils,.nils,.im (.str []),.im (.int .i64 0),.nils,.im (.int .i64 0),.im (.int .i64 0),.im (.int .i64 0),.im (.int .i64 0),.im (.int .i64 0),.im (.int .i64 0),.im (.int .i64 0),.im (.bool false)]),mv 4 21,st 14 5 23] (.block 2 (sq [fa 25 0 5,l0 26 25,bi 27 .lss 26 (ci 1),mv 28 27,og 29 (.fieldAddr 0 (.t 5)) 28 false,og 30 (.load none (.t 29)) 28 false,og 31 (.bin .gtr (.t 30) (ci 6)) 28 false,po 32 28 31,mv 24 32] (.cond (.t 24) (sq [mv 33 4,mv 2 33,mc 3 (ci 110)] .ret) (sq [ld 35 1 1,mv 36 4,oo 37 (.call false (cl 48) [.t 35,.t 36]),oo 38 (.un .not (.t 37)),mv 34 38] (.cond (.t 34) (sq [mv 39 4,mv 2 39,mc 3 (ci 111)] .ret) (sq [ld 41 14 5,oo 42 (.call false (cl 49) [.t 41]),oo 43 (.un .not (.t 42)),mv 40 43] (.cond (.t 40) (sq [mv 44 4,mv 2 44,mc 3 (ci 112)] .ret) .skip))))))))) (.ops [bi 45 .add 19 (ci 1),mv 19 45] [])))
def c16_0 : ACode := .loop b16_0
theorem e16_0 : exec0 Φ Λ' c16_0 tm H K = thenL (Λ' c16_0 tm H) K := rfl
theorem l16_0 : Λ c16_0 tm H = exec0 L Λ b16_0 tm H fun e tm H => match e with
  | .normal => Λ c16_0 tm H
  | .exit i => some (.exit i, tm, H)
  | .goto l => some (.goto l, tm, H)
  | .ret => some (.ret, tm, H) := loop_eq
def f16 : AFunc := ⟨46,[(2,none),(3,none)],.seq (.ops [oo 1 (.box none (.t 0)),mc 2 (ci 0),mc 3 (ci 0)] []) (.seq (sq [fa 6 0 1,l0 7 6,oo 8 (.lenSl (.t 7)),bi 9 .lss 8 (ci 1),mv 10 9,og 11 (.fieldAddr 0 (.t 1)) 10 false,og 12 (.load none (.t 11)) 10 false,og 13 (.lenSl (.t 12)) 10 false,og 14 (.bin .gtr (.t 13) (ci 32)) 10 false,po 15 10 14] (.cond (.t 15) (sq [mc 2 (ci 0),mc 3 (ci 112)] .ret) .skip)) (.seq (sq [fa 16 0 1,l0 17 16,oo 18 (.lenSl (.t 17)),mc 19 (ci 0)] (.block 0 c16_0)) (sq [mc 2 (ci 0),mc 3 (ci 0)] .ret))),false⟩
theorem F16 : F 16 = some f16 := by kernel_rfl
def b17_0 : ACode := sq [bi 12 .lss 11 (.t 10)] (.seq (.cond (.t 12) .skip (.exit 0)) (.seq (.block 1 (sq [oo 13 (.indexSl 14 (.t 9) (.t 11)),ld 14 14 13,oo 5 (.alloc none [.im (.int .i64 0),.nils,.nils,.im (.str []),.im (.int .i64 0),.nils,.im (.int .i64 0),.im (.int .i64 0),.im (.int .i64 0),.im (.int .i64 0),.im (.int .i64 0),.im (.int .i64 0),.im (.int .i64 0),.im (.bool false)]),st 14 5 14] (.seq (.ops [fa 15 1 5,l0 16 15,oo 17 (.lenSl (.t 16)),bi 18 .gtr 17 (ci 100),mv 19 18,og 20 (.fieldAddr 2 (.t 5)) 19 false,og 21 (.load none (.t 20)) 19 false,og 22 (.lenSl (.t 21)) 19 false,og 23 (.bin .gtr (.t 22) (ci 100)) 19 false,po 24 19 23,mv 25 24,og 26 (.fieldAddr 3 (.t 5)) 25 false,og 27 (.load none (.t 26)) 25 false,og 28 (.lenStr (.t 27)) 25 false,og 29 (.bin .gtr (.t 28) (ci 5000)) 25 false,po 30 25 29,mv 31 30,og 32 (.fieldAddr 4 (.t 5)) 31 false,og 33 (.load (some 2) (.t 32)) 31 false,og 34 (.call false (cl 50) [.t 33,.t 3,ci 30]) 31 false,og 35 (.un .not (.t 34)) 31 false,po 36 31 35] []) (.cond (.t 36) (sq [mc 2 (cb false)] .ret) .skip)))) (.ops [bi 37 .add 11 (ci 1),mv 11 37] [])))
def c17_0 : ACode := .loop b17_0
theorem e17_0 : exec0 Φ Λ' c17_0 tm H K = thenL (Λ' c17_0 tm H) K := rfl
theorem l17_0 : Λ c17_0 tm H = exec0 L Λ b17_0 tm H fun e tm H => match e with
  | .normal => Λ c17_0 tm H
  | .exit i => some (.exit i, tm, H)
  | .goto l => some (.goto l, tm, H)
  | .ret => some (.ret, tm, H) := loop_eq
def f17 : AFunc := ⟨38,[(2,none)],.seq (.ops [mc 2 (cb false)] []) (sq [oo 3 (.alloc none [.im (.int .i64 0)]),⟨none,.store 1 (.t 3) (ci 5000),none⟩] (.seq (sq [mv 6 0,oo 7 (.lenSl (.t 6)),bi 8 .gtr 7 (ci 100)] (.cond (.t 8) (sq [mc 2 (cb false)] .ret) .skip)) (.seq (sq [mv 9 0,oo 10 (.lenSl (.t 9)),mc 11 (ci 0)] (.block 0 c17_0)) (sq [mc 2 (cb true)] .ret)))),false⟩
theorem F17 : F 17 = some f17 := by kernel_rfl
def b21_0 : ACode := sq [bi 9 .lss 8 (.t 7)] (.seq (.cond (.t 9) .skip (.exit 0)) (.seq (.block 1 (sq [oo 10 (.indexSl 14 (.t 6) (.t 8)),ld 11 14 10,oo 5 (.alloc none [.im (.int .i64 0),.nils,.nils,.im (.str []),.im (.int .i64 0),.nils,.im (.int .i64 0),.im (.int .i64 0),.im (.int .i64 0),.im (.int .i64 0),.im (.int .i64 0),.im (.int .i64 0),.im (.int .i64 0),.im (.bool false)]),st 14 5 11] (.ops [fa 12 0 3,l0 13 12,fa 14 0 5,l0 15 14,oo 16 (.bslice false 1 0 [.im (.int .i64 0)] []),fa 17 1 5,l0 18 17,oo 19 (.append 3 8 1 (.t 16) (.t 18)),oo 20 (.bslice false 1 0 [.im (.int .i64 0)] []),fa 21 2 5,l0 22 21,oo 23 (.append 3 8 1 (.t 20) (.t 22)),fa 24 3 5,l0 25 24,fa 26 4 5,ld 27 2 26,oo 28 (.call false (cl 23) [.t 27]),fa 29 6 5,ld 30 4 29,fa 31 10 5,ld 32 4 31,oo 33 (.build [.im (.int .i64 0),.nils,.nils,.im (.str []),.im (.int .i64 0),.nils,.im (.int .i64 0),.im (.int .i64 0),.im (.int .i64 0),.im (.int .i64 0),.im (.int .i64 0),.im (.int .i64 0),.im (.int .i64 0),.im (.bool false)] [(0,(1,.t 15)),(1,(1,.t 19)),(2,(1,.t 23)),(3,(1,.t 25)),(4,(2,.t 28)),(6,(4,.t 30)),(10,(4,.t 32))]),oo 34 (.bslice false 14 1 [.im (.int .i64 0),.nils,.nils,.im (.str []),.im (.int .i64 0),.nils,.im (.int .i64 0),.im (.int .i64 0),.im (.int .i64 0),.im (.int .i64 0),.im (.int .i64 0),.im (.int .i64 0),.im (.int .i64 0),.im (.bool false)] [(0,.t 33)]),oo 35 (.append 83 168 14 (.t 13) (.t 34)),fa 36 0 3,st 1 36 35] [(1,7),(1,11),(1,16),(3,7),(3,11),(3,16),(10,7),(13,7),(13,11),(13,16),(15,7),(15,11),(18,7),(18,11),(18,16),(20,7),(20,11),(20,16)]))) (.ops [bi 37 .add 8 (ci 1),mv 8 37] [])))
def c21_0 : ACode := .loop b21_0
theorem e21_0 : exec0 Φ Λ' c21_0 tm H K = thenL (Λ' c21_0 tm H) K := rfl
theorem l21_0 : Λ c21_0 tm H = exec0 L Λ b21_0 tm H fun e tm H => match e with
  | .normal => Λ c21_0 tm H
  | .exit i => some (.exit i, tm, H)
  | .goto l => some (.goto l, tm, H)
  | .ret => some (.ret, tm, H) := loop_eq
def f21 : AFunc := ⟨39,[(2,some (some 1))],.seq (.ops [oo 2 (.alloc none [.nils])] []) (sq [oo 3 (.alloc none [.nils])] (.seq (sq [mv 6 0,oo 7 (.lenSl (.t 6)),mc 8 (ci 0)] (.block 0 c21_0)) (sq [ld 38 1 3,st 1 2 38] .ret))),false⟩
theorem F21 : F 21 = some f21 := by kernel_rfl
def b23_0 : ACode := sq [bi 10 .lss 9 (.t 8)] (.seq (.cond (.t 10) .skip (.exit 0)) (.seq (.block 1 (sq [oo 11 (.indexSl 2 (.t 7) (.t 9)),ld 12 2 11,oo 5 (.alloc none [.im (.int .i64 0),.nils]),st 2 5 12] (.ops [mv 13 3,ld 14 2 5,oo 15 (.call false (cl 23) [.t 14]),oo 16 (.bslice false 2 1 [.im (.int .i64 0),.nils] [(0,.t 15)]),oo 17 (.append 62 32 2 (.t 13) (.t 16)),mv 3 17] []))) (.ops [bi 18 .add 9 (ci 1),mv 9 18] [])))
def c23_0 : ACode := .loop b23_0
theorem e23_0 : exec0 Φ Λ' c23_0 tm H K = thenL (Λ' c23_0 tm H) K := rfl
theorem l23_0 : Λ c23_0 tm H = exec0 L Λ b23_0 tm H fun e tm H => match e with
  | .normal => Λ c23_0 tm H
  | .exit i => some (.exit i, tm, H)
  | .goto l => some (.goto l, tm, H)
  | .ret => some (.ret, tm, H) := loop_eq
def f23 : AFunc := ⟨23,[(2,some (some 2))],.seq (.ops [oo 1 (.box none (.t 0)),oo 2 (.alloc none [.im (.int .i64 0),.nils])] []) (sq [oo 3 (.move (.c .nils))] (.seq (sq [fa 6 1 1,l0 7 6,oo 8 (.lenSl (.t 7)),mc 9 (ci 0)] (.block 0 c23_0)) (sq [fa 19 0 1,l0 20 19,mv 21 3,oo 22 (.build [.im (.int .i64 0),.nils] [(0,(1,.t 20)),(1,(1,.t 21))]),st 2 2 22] .ret))),false⟩
theorem F23 : F 23 = some f23 := by kernel_rfl
def b34_0 : ACode := sq [bi 21 .lss 20 (.t 19)] (.seq (.cond (.t 21) .skip (.exit 0)) (.seq (.block 1 (sq [mv 22 20,oo 23 (.indexSl 14 (.t 18) (.t 20)),ld 24 14 23,oo 9 (.alloc none [.im (.int .i64 0),.nils,.nils,.im (.str []),.im (.int .i64 0),.nils,.im (.int .i64 0),.im (.int .i64 0),.im (.int .i64 0),.im (.int .i64 0),.im (.int .i64 0),.im (.int .i64 0),.im (.int .i64 0),.im (.bool false)]),mv 8 22,st 14 9 24] (.seq (.ops [ld 25 14 9,mv 26 1,oo 27 (.call false (cl 63) [.t 25,.t 26])] []) (.cond (.t 27) (.ops [mv 28 7,mv 29 8,oo 30 (.bslice false 1 1 [.im (.int .i64 0)] [(0,.t 29)]),oo 31 (.append 3 8 1 (.t 28) (.t 30)),mv 7 31] []) .skip)))) (.ops [bi 32 .add 20 (ci 1),mv 20 32] [])))
def c34_0 : ACode := .loop b34_0
def f34 : AFunc := ⟨34,[(4,none)],.seq (.ops [oo 2 (.box none (.t 0)),oo 4 (.move (.c .nils))] []) (.seq (sq [ld 11 1 2,oo 12 (.call false (cl 16) [.t 11]),mv 10 12,ex 13 0 10,ex 14 1 10,mv 5 13,mv 6 14] (.seq (.ops [mv 15 6,bi 16 .neq 15 (ci 0)] []) (.cond (.t 16) (sq [oo 4 (.move (.c .nils))] .ret) .skip))) (sq [oo 7 (.move (.c .nils))] (.seq (sq [fa 17 0 2,l0 18 17,oo 19 (.lenSl (.t 18)),mc 20 (ci 0)] (.block 0 c34_0)) (sq [mv 33 7,mv 4 33] .ret)))),false⟩
theorem F34 : F 34 = some f34 := by kernel_rfl
def f39 : AFunc := ⟨13,[(4,none),(5,none),(6,none)],.seq (.ops [mc 4 (cs []),mc 5 (cs []),mc 6 (cb false)] []) (sq [mv 7 0,mv 8 1,oo 9 (.call false (cl 66) [.t 7,.t 8]),ex 10 0 9,ex 11 1 9,ex 12 2 9,mv 4 10,mv 5 11,mv 6 12] .ret),false⟩
theorem F39 : F 39 = some f39 := by kernel_rfl
def f40 : AFunc := ⟨124,[(2,some (some 14)),(3,none)],.seq (.ops [oo 2 (.alloc none [.im (.int .i64 0),.nils,.nils,.im (.str []),.im (.int .i64 0),.nils,.im (.int .i64 0),.im (.int .i64 0),.im (.int .i64 0),.im (.int .i64 0),.im (.int .i64 0),.im (.int .i64 0),.im (.int .i64 0),.im (.bool false)]),mc 3 (cb false)] []) (sq [mv 14 0,oo 15 (.call false (cl 39) [.t 14,cs [32]]),mv 13 15,ex 16 0 13,ex 17 1 13,ex 18 2 13,mv 4 16,mv 5 17,mv 6 18] (.seq (.ops [mv 19 5,mv 20 6,oo 21 (.un .not (.t 20)),oo 22 (.build [.im (.str []),.im (.bool false)] [(0,(1,.t 19)),(1,(1,.t 21))]),oo 23 (.box none (.t 22)),mv 7 23] []) (sq [oo 8 (.alloc none [.im (.int .i64 0),.nils,.nils,.im (.str []),.im (.int .i64 0),.nils,.im (.int .i64 0),.im (.int .i64 0),.im (.int .i64 0),.im (.int .i64 0),.im (.int .i64 0),.im (.int .i64 0),.im (.int .i64 0),.im (.bool false)])] (.seq (sq [mv 24 4] (.block 0 (sq [bi 29 .eql 24 (cs [115,111,117,114,99,101]),mv 28 29] (.cond (.t 28) (sq [mv 31 5,oo 32 (.call false (cl 67) [.t 31]),mv 30 32,ex 33 0 30,ex 34 1 30,ex 35 2 30,oo 9 (.alloc none [.im (.int .i64 0),.nils]),st 2 9 33,mv 10 34,mv 11 35] (.seq (.ops [mv 36 7,mv 37 7,nc 38 37,fa 39 1 38,l0 40 39,mv 41 40,og 42 (.move (.t 11)) 41 false,og 43 (.bin .neq (.t 42) (ci 0)) 41 false,po 44 41 43,nc 45 36,fa 46 1 45,st 1 46 44] []) (.ops [ld 47 2 9,oo 48 (.build [.im (.int .i64 0),.nils,.nils,.im (.str []),.im (.int .i64 0),.nils,.im (.int .i64 0),.im (.int .i64 0),.im (.int .i64 0),.im (.int .i64 0),.im (.int .i64 0),.im (.int .i64 0),.im (.int .i64 0),.im (.bool false)] [(0,(1,ci 1)),(4,(2,.t 47))]),st 14 8 48] []))) (sq [bi 50 .eql 24 (cs [101,97,99,104]),mv 49 50] (.cond (.t 49) (.ops [mv 51 7,oo 52 (.call false (cl 68) [.t 51,cb false]),mv 53 7,oo 54 (.call false (cl 69) [.t 53,cb false,cb true]),mv 55 7,oo 56 (.call false (cl 70) [.t 55]),oo 57 (.build [.im (.int .i64 0),.nils,.nils,.im (.str []),.im (.int .i64 0),.nils,.im (.int .i64 0),.im (.int .i64 0),.im (.int .i64 0),.im (.int .i64 0),.im (.int .i64 0),.im (.int .i64 0),.im (.int .i64 0),.im (.bool false)] [(0,(1,ci 2)),(1,(1,.t 52)),(2,(1,.t 54)),(3,(1,.t 56))]),st 14 8 57] []) (sq [bi 59 .eql 24 (cs [119,105,110,100,111,119]),mv 58 59] (.cond (.t 58) (.ops [mv 60 7,oo 61 (.call false (cl 68) [.t 60,cb false]),mv 62 7,oo 63 (.call false (cl 71) [.t 62,cb false]),mv 64 7,oo 65 (.call false (cl 71) [.t 64,cb false]),mv 66 7,oo 67 (.call false (cl 71) [.t 66,cb false]),mv 68 7,oo 69 (.call false (cl 71) [.t 68,cb true]),oo 70 (.build [.im (.int .i64 0),.im (.int .i64 0),.im (.int .i64 0),.im (.int .i64 0)] [(0,(1,.t 63)),(1,(1,.t 65)),(2,(1,.t 67)),(3,(1,.t 69))]),oo 71 (.build [.im (.int .i64 0),.nils,.nils,.im (.str []),.im (.int .i64 0),.nils,.im (.int .i64 0),.im (.int .i64 0),.im (.int .i64 0),.im (.int .i64 0),.im (.int .i64 0),.im (.int .i64 0),.im (.int .i64 0),.im (.bool false)] [(0,(1,ci 3)),(1,(1,.t 61)),(6,(4,.t 70))]),st 14 8 71] []) (sq [bi 73 .eql 24 (cs [103,114,111,117,112]),mv 72 73] (.cond (.t 72) (sq [mv 74 7,oo 75 (.call false (cl 68) [.t 74,cb false]),mv 76 7,oo 77 (.call false (cl 71) [.t 76,cb false]),mv 78 7,oo 79 (.call false (cl 71) [.t 78,cb false]),mv 80 7,oo 81 (.call false (cl 71) [.t 80,cb false]),oo 82 (.build [.im (.int .i64 0),.im (.int .i64 0),.im (.int .i64 0),.im (.bool false)] [(0,(1,.t 77)),(1,(1,.t 79)),(2,(1,.t 81))]),oo 83 (.build [.im (.int .i64 0),.nils,.nils,.im (.str []),.im (.int .i64 0),.nils,.im (.int .i64 0),.im (.int .i64 0),.im (.int .i64 0),.im (.int .i64 0),.im (.int .i64 0),.im (.int .i64 0),.im (.int .i64 0),.im (.bool false)] [(0,(1,ci 4)),(1,(1,.t 75)),(10,(4,.t 82))]),st 14 8 83] (.seq (.ops [mv 84 7,oo 85 (.call false (cl 72) [.t 84,cb false]),mv 12 85] []) (sq [mv 86 12,bi 87 .eql 86 (cs [97,99,99]),fa 88 10 8,fa 89 3 88,st 1 89 87] (.seq (.ops [mv 90 7,mv 91 7,nc 92 91,fa 93 1 92,l0 94 93,mv 95 94,og 96 (.move (.t 12)) 95 false,og 97 (.bin .neq (.t 96) (cs [97,99,99])) 95 false,og 98 (.move (.t 97)) 95 false,og 99 (.move (.t 12)) 98 true,og 100 (.bin .neq (.t 99) (cs [100,105,115])) 98 true,og 101 (.pick (.t 98) (.t 100) (cb false)) 95 false,po 102 95 101,nc 103 90,fa 104 1 103,st 1 104 102] []) (.ops [mv 105 7,oo 106 (.call false (cl 70) [.t 105]),fa 107 3 8,st 1 107 106] []))))) (sq [bi 109 .eql 24 (cs [102,108,97,116,116,101,110]),mv 108 109] (.cond (.t 108) (.ops [mv 110 7,oo 111 (.call false (cl 69) [.t 110,cb true,cb false]),oo 112 (.build [.im (.int .i64 0),.nils,.nils,.im (.str []),.im (.int .i64 0),.nils,.im (.int .i64 0),.im (.int .i64 0),.im (.int .i64 0),.im (.int .i64 0),.im (.int .i64 0),.im (.int .i64 0),.im (.int .i64 0),.im (.bool false)] [(0,(1,ci 5)),(1,(1,.t 111))]),st 14 8 112] []) (sq [bi 114 .eql 24 (cs [115,105,110,107]),mv 113 114] (.cond (.t 113) (.ops [mv 115 7,oo 116 (.call false (cl 68) [.t 115,cb true]),oo 117 (.build [.im (.int .i64 0),.nils,.nils,.im (.str []),.im (.int .i64 0),.nils,.im (.int .i64 0),.im (.int .i64 0),.im (.int .i64 0),.im (.int .i64 0),.im (.int .i64 0),.im (.int .i64 0),.im (.int .i64 0),.im (.bool false)] [(0,(1,ci 6)),(1,(1,.t 116))]),st 14 8 117] []) (.ops [mv 25 7,nc 26 25,fa 27 1 26,⟨none,.store 1 (.t 27) (cb true),none⟩] []))))))))))))))) (.seq (.ops [ld 118 14 8,mv 119 7,nc 120 119,fa 121 1 120,l0 122 121,oo 123 (.un .not (.t 122)),st 14 2 118,mv 3 123] [(4,6)]) .ret))))),false⟩
theorem F40 : F 40 = some f40 := by kernel_rfl
def f45 : AFunc := ⟨19,[(4,none),(5,none)],.seq (.ops [mc 4 (ci 0),oo 5 (.move (.c (.im .nili)))] []) (sq [mv 6 0,oo 7 (.call false (cl 73) [.t 6])] (.seq (.ops [mv 8 0,mv 9 0,nc 10 9,fa 11 1 10,l0 12 11,mv 13 1,oo 14 (.append 5 1 1 (.t 12) (.t 13)),nc 15 8,fa 16 1 15,st 1 16 14] []) (sq [mv 17 1,oo 18 (.lenStr (.t 17)),mv 4 18,oo 5 (.move (.c (.im .nili)))] .ret))),false⟩
theorem F45 : F 45 = some f45 := by kernel_rfl
def f46 : AFunc := ⟨85,[(2,none)],.seq (.ops [oo 1 (.box none (.t 0)),mc 2 (cs [])] []) (sq [fa 8 1 1,l0 9 8,oo 10 (.call false (cl 74) [.t 9]),mv 3 10] (.seq (.ops [oo 4 (.move (.c .nils))] []) (.seq (sq [fa 11 0 1,l0 12 11] (.block 0 (sq [bi 14 .eql 12 (ci 1),mv 13 14] (.cond (.t 13) (sq [fa 16 4 1,ld 17 2 16,oo 18 (.call false (cl 75) [.t 17]),mv 15 18,ex 19 0 15,ex 20 1 15,mv 5 19,mv 6 20] (.ops [mv 21 5,oo 22 (.bslice false 1 2 [.im (.str [])] [(0,cs [115,111,117,114,99,101]),(1,.t 21)]),mv 4 22] [])) (sq [bi 24 .eql 12 (ci 2),mv 23 24] (.cond (.t 23) (.ops [mv 25 3,fa 26 2 1,l0 27 26,oo 28 (.call false (cl 74) [.t 27]),fa 29 3 1,l0 30 29,oo 31 (.bslice false 1 4 [.im (.str [])] [(0,cs [101,97,99,104]),(1,.t 25),(2,.t 28),(3,.t 30)]),mv 4 31] [(5,3)]) (sq [bi 33 .eql 12 (ci 3),mv 32 33] (.cond (.t 32) (.ops [mv 34 3,fa 35 6 1,fa 36 0 35,l0 37 36,oo 38 (.call false (cl 76) [.t 37]),fa 39 6 1,fa 40 1 39,l0 41 40,oo 42 (.call false (cl 76) [.t 41]),fa 43 6 1,fa 44 2 43,l0 45 44,oo 46 (.call false (cl 76) [.t 45]),fa 47 6 1,fa 48 3 47,l0 49 48,oo 50 (.call false (cl 76) [.t 49]),oo 51 (.bslice false 1 6 [.im (.str [])] [(0,cs [119,105,110,100,111,119]),(1,.t 34),(2,.t 38),(3,.t 42),(4,.t 46),(5,.t 50)]),mv 4 51] [(7,4),(11,4),(11,8),(15,4),(15,8),(15,12)]) (sq [bi 53 .eql 12 (ci 4),mv 52 53] (.cond (.t 52) (sq [mc 7 (cs [100,105,115])] (.seq (sq [fa 54 10 1,fa 55 3 54,l0 56 55] (.cond (.t 56) (.ops [mc 7 (cs [97,99,99])] []) .skip)) (.ops [mv 57 3,fa 58 10 1,fa 59 0 58,l0 60 59,oo 61 (.call false (cl 76) [.t 60]),fa 62 10 1,fa 63 1 62,l0 64 63,oo 65 (.call false (cl 76) [.t 64]),fa 66 10 1,fa 67 2 66,l0 68 67,oo 69 (.call false (cl 76) [.t 68]),mv 70 7,fa 71 3 1,l0 72 71,oo 73 (.bslice false 1 7 [.im (.str [])] [(0,cs [103,114,111,117,112]),(1,.t 57),(2,.t 61),(3,.t 65),(4,.t 69),(5,.t 70),(6,.t 72)]),mv 4 73] [(7,4),(11,4),(11,8),(15,4),(15,8),(15,12)]))) (sq [bi 75 .eql 12 (ci 5),mv 74 75] (.cond (.t 74) (.ops [mv 76 3,oo 77 (.bslice false 1 2 [.im (.str [])] [(0,cs [102,108,97,116,116,101,110]),(1,.t 76)]),mv 4 77] []) (sq [bi 79 .eql 12 (ci 6),mv 78 79] (.cond (.t 78) (.ops [mv 80 3,oo 81 (.bslice false 1 2 [.im (.str [])] [(0,cs [115,105,110,107]),(1,.t 80)]),mv 4 81] []) .skip)))))))))))))) (sq [mv 82 4,oo 83 (.call false (cl 77) [.t 82,cs [32]]),bi 84 .add 83 (cs [10]),mv 2 84] .ret)))),false⟩
theorem F46 : F 46 = some f46 := by kernel_rfl
def f48 : AFunc := ⟨49,[(4,none)],.seq (.ops [oo 2 (.box none (.t 0)),oo 3 (.box none (.t 1)),mc 4 (cb false)] []) (sq [fa 10 0 2,l0 11 10,l0 12 3,oo 13 (.indexSl 14 (.t 11) (.t 12)),ld 14 14 13,oo 5 (.alloc none [.im (.int .i64 0),.nils,.nils,.im (.str []),.im (.int .i64 0),.nils,.im (.int .i64 0),.im (.int .i64 0),.im (.int .i64 0),.im (.int .i64 0),.im (.int .i64 0),.im (.int .i64 0),.im (.int .i64 0),.im (.bool false)]),st 14 5 14] (.seq (.ops [mc 6 (ci 1),mc 7 (ci 1),mc 8 (ci 0)] []) (.seq (sq [fa 15 0 5,l0 16 15] (.block 0 (sq [bi 18 .eql 16 (ci 1),mv 17 18] (.cond (.t 17) (.ops [mc 6 (ci 0),mc 7 (ci 0)] []) (sq [bi 20 .eql 16 (ci 5),mv 19 20] (.cond (.t 19) (.ops [mc 7 (ci 4)] []) (sq [bi 22 .eql 16 (ci 2),mv 21 22] (.cond (.t 21) (.ops [mc 8 (ci 4)] []) .skip)))))))) (sq [oo 23 (.mkfunc 78 [.t 3,.t 2]),mv 9 23] (.seq (.ops [fa 24 1 5,l0 25 24,mv 26 6,mv 27 7,oo 28 (.call false (cl 79) [.t 25,.t 26,.t 27]),mv 29 28,og 30 (.fieldAddr 2 (.t 5)) 29 true,og 31 (.load none (.t 30)) 29 true,og 32 (.move (.t 8)) 29 true,og 33 (.call false (cl 79) [.t 31,ci 0,.t 32]) 29 true,pa 34 29 33,mv 35 34,og 36 (.fieldAddr 1 (.t 5)) 35 true,og 37 (.load none (.t 36)) 35 true,og 38 (.move (.t 9)) 35 true,og 39 (.call false (cl 80) [.t 37,.t 38]) 35 true,og 40 (.un .not (.t 39)) 35 true,pa 41 35 40,mv 42 41,og 43 (.fieldAddr 2 (.t 5)) 42 true,og 44 (.load none (.t 43)) 42 true,og 45 (.move (.t 9)) 42 true,og 46 (.call false (cl 80) [.t 44,.t 45]) 42 true,og 47 (.un .not (.t 46)) 42 true,pa 48 42 47,mv 4 48] []) .ret))))),false⟩
theorem F48 : F 48 = some f48 := by kernel_rfl
def f49 : AFunc := ⟨67,[(2,none)],.seq (.ops [oo 1 (.box none (.t 0)),mc 2 (cb false)] []) (sq [fa 7 3 1,l0 8 7,bi 9 .eql 8 (cs []),fa 10 4 1,fa 11 0 10,l0 12 11,bi 13 .eql 12 (ci 0),mv 14 13,og 15 (.fieldAddr 4 (.t 1)) 14 true,og 16 (.fieldAddr 1 (.t 15)) 14 true,og 17 (.load none (.t 16)) 14 true,og 18 (.lenSl (.t 17)) 14 true,og 19 (.bin .eql (.t 18) (ci 0)) 14 true,pa 20 14 19,fa 21 6 1,ld 22 4 21,oo 23 (.build [.im (.int .i64 0),.im (.int .i64 0),.im (.int .i64 0),.im (.int .i64 0)] []),oo 24 (.binS .eql [1,1,1,1] (.t 22) (.t 23)),fa 25 10 1,ld 26 4 25,oo 27 (.build [.im (.int .i64 0),.im (.int .i64 0),.im (.int .i64 0),.im (.bool false)] []),oo 28 (.binS .eql [1,1,1,0] (.t 26) (.t 27)),mv 3 9,mv 4 20,mv 5 24,mv 6 28] (.seq (sq [fa 29 0 1,l0 30 29] (.block 0 (sq [bi 32 .eql 30 (ci 1),mv 31 32] (.cond (.t 31) (.ops [fa 33 4 1,ld 34 2 33,oo 35 (.call false (cl 81) [.t 34]),bi 36 .eql 35 (ci 0),mv 4 36] []) (sq [bi 38 .eql 30 (ci 2),mv 37 38] (.cond (.t 37) (.ops [fa 39 3 1,l0 40 39,oo 41 (.call false (cl 82) [.t 40]),mv 3 41] []) (sq [bi 43 .eql 30 (ci 3),mv 42 43] (.cond (.t 42) (.ops [fa 44 6 1,ld 45 4 44,oo 46 (.call false (cl 83) [.t 45]),bi 47 .eql 46 (ci 0),mv 5 47] []) (sq [bi 49 .eql 30 (ci 4),mv 48 49] (.cond (.t 48) (sq [fa 50 3 1,l0 51 50,oo 52 (.call false (cl 82) [.t 51]),mv 3 52] (.ops [fa 53 10 1,ld 54 4 53,oo 55 (.call false (cl 84) [.t 54]),bi 56 .eql 55 (ci 0),mv 6 56] [])) .skip)))))))))) (sq [mv 57 3,mv 58 57,og 59 (.move (.t 4)) 58 true,pa 60 58 59,mv 61 60,og 62 (.move (.t 5)) 61 true,pa 63 61 62,mv 64 63,og 65 (.move (.t 6)) 64 true,pa 66 64 65,mv 2 66] .ret))),false⟩
theorem F49 : F 49 = some f49 := by kernel_rfl
def b50_0 : ACode := sq [bi 26 .lss 25 (.t 24)] (.seq (.cond (.t 26) .skip (.exit 0)) (.seq (.block 1 (sq [oo 27 (.indexSl 2 (.t 23) (.t 25)),ld 28 2 27,oo 8 (.alloc none [.im (.int .i64 0),.nils]),st 2 8 28] (.seq (.ops [ld 29 2 8,mv 30 1,mv 31 2,bi 32 .sub 31 (ci 1),oo 33 (.call false (cl 50) [.t 29,.t 30,.t 32]),oo 34 (.un .not (.t 33))] []) (.cond (.t 34) (sq [mc 6 (cb false)] .ret) .skip)))) (.ops [bi 35 .add 25 (ci 1),mv 25 35] [])))
def c50_0 : ACode := .loop b50_0
theorem e50_0 : exec0 Φ Λ' c50_0 tm H K = thenL (Λ' c50_0 tm H) K := rfl
theorem l50_0 : Λ c50_0 tm H = exec0 L Λ b50_0 tm H fun e tm H => match e with
  | .normal => Λ c50_0 tm H
  | .exit i => some (.exit i, tm, H)
  | .goto l => some (.goto l, tm, H)
  | .ret => some (.ret, tm, H) := loop_eq
def f50 : AFunc := ⟨36,[(6,none)],.seq (.ops [oo 3 (.box none (.t 0)),mc 6 (cb false)] []) (sq [mv 9 1,nc 10 9,l0 11 10,bi 12 .sub 11 (ci 1),nc 13 9,st 1 13 12] (.seq (sq [mv 14 1,nc 15 14,l0 16 15,bi 17 .lss 16 (ci 0),mv 18 17,og 19 (.move (.t 2)) 18 false,og 20 (.bin .eql (.t 19) (ci 0)) 18 false,po 21 18 20] (.cond (.t 21) (sq [mc 6 (cb false)] .ret) .skip)) (.seq (sq [fa 22 1 3,l0 23 22,oo 24 (.lenSl (.t 23)),mc 25 (ci 0)] (.block 0 c50_0)) (sq [mc 6 (cb true)] .ret)))),false⟩
theorem F50 : F 50 = some f50 := by kernel_rfl
def f63 : AFunc := ⟨15,[(4,none)],.seq (.ops [oo 2 (.box none (.t 0)),mc 4 (cb false)] []) (sq [fa 5 1 2,l0 6 5,mv 7 1,oo 8 (.call false (cl 93) [.t 6,.t 7]),mv 9 8,og 10 (.fieldAddr 2 (.t 2)) 9 false,og 11 (.load none (.t 10)) 9 false,og 12 (.move (.t 1)) 9 false,og 13 (.call false (cl 93) [.t 11,.t 12]) 9 false,po 14 9 13,mv 4 14] .ret),false⟩
theorem F63 : F 63 = some f63 := by kernel_rfl
def b64_0 : ACode := sq [bi 11 .lss 10 (.t 9)] (.seq (.cond (.t 11) .skip (.exit 0)) (.seq (.block 1 (sq [mv 12 10,oo 13 (.indexSl 1 (.t 8) (.t 10)),l0 14 13,mv 6 12,mv 7 14] (.seq (.ops [mv 15 7,mv 16 15,og 17 (.move (.t 6)) 16 true,og 18 (.move (.t 1)) 16 true,og 19 (.bin .neq (.t 17) (.t 18)) 16 true,pa 20 16 19] []) (.cond (.t 20) (.ops [mv 21 5,mv 22 6,oo 23 (.bslice false 1 1 [.im (.int .i64 0)] [(0,.t 22)]),oo 24 (.append 3 8 1 (.t 21) (.t 23)),mv 5 24] []) .skip)))) (.ops [bi 25 .add 10 (ci 1),mv 10 25] [])))
def c64_0 : ACode := .loop b64_0
def f64 : AFunc := ⟨27,[(4,none)],.seq (.ops [oo 4 (.move (.c .nils))] []) (sq [oo 5 (.move (.c .nils))] (.seq (sq [mv 8 0,oo 9 (.lenSl (.t 8)),mc 10 (ci 0)] (.block 0 c64_0)) (sq [mv 26 5,mv 4 26] .ret))),false⟩
def f66 : AFunc := ⟨23,[(4,none),(5,none),(6,none)],.seq (.ops [mc 4 (cs []),mc 5 (cs []),mc 6 (cb false)] []) (.seq (sq [mv 8 0,mv 9 1,oo 10 (.call false (cl 94) [.t 8,.t 9]),mv 7 10] (.seq (.ops [mv 11 7,bi 12 .geq 11 (ci 0)] []) (.cond (.t 12) (sq [mv 13 0,mv 14 7,oo 15 (.sliceStr (.t 13) none (some (.t 14))),mv 16 0,mv 17 7,mv 18 1,oo 19 (.lenStr (.t 18)),bi 20 .add 17 (.t 19),oo 21 (.sliceStr (.t 16) (some (.t 20)) none),mv 4 15,mv 5 21,mc 6 (cb true)] .ret) .skip))) (sq [mv 22 0,mv 4 22,mc 5 (cs []),mc 6 (cb false)] .ret)),false⟩
theorem F66 : F 66 = some f66 := by kernel_rfl
def f67 : AFunc := ⟨32,[(2,some (some 2)),(3,none),(4,none)],.seq (.ops [oo 2 (.alloc none [.im (.int .i64 0),.nils]),mc 3 (ci 0),mc 4 (ci 0)] []) (sq [mv 7 0,oo 8 (.build [.im (.str []),.im (.int .i64 0)] [(0,(1,.t 7))]),oo 9 (.box none (.t 8)),mv 5 9] (.seq (.ops [mv 11 5,oo 12 (.call false (cl 95) [.t 11,ci 6]),mv 10 12,ex 13 0 10,ex 14 1 10,st 2 2 13,mv 6 14] []) (.seq (sq [mv 15 6,oo 16 (.un .not (.t 15)),mv 17 16,og 18 (.move (.t 5)) 17 false,og 19 (.nilCheck (.t 18)) 17 false,og 20 (.fieldAddr 1 (.t 19)) 17 false,og 21 (.load none (.t 20)) 17 false,og 22 (.move (.t 0)) 17 false,og 23 (.lenStr (.t 22)) 17 false,og 24 (.bin .lss (.t 21) (.t 23)) 17 false,po 25 17 24] (.cond (.t 25) (.seq (.ops [oo 26 (.build [.im (.int .i64 0),.nils] []),mv 27 5,nc 28 27,fa 29 1 28,l0 30 29,st 2 2 26,mv 3 30,mc 4 (ci 40)] [(4,5)]) .ret) .skip)) (sq [ld 31 2 2,st 2 2 31,mc 3 (ci 0),mc 4 (ci 0)] .ret)))),false⟩
theorem F67 : F 67 = some f67 := by kernel_rfl
def f68 : AFunc := ⟨11,[(4,none)],.seq (.ops [oo 4 (.move (.c .nils))] []) (sq [mv 5 0,mv 6 0,mv 7 1,oo 8 (.call false (cl 72) [.t 6,.t 7]),oo 9 (.call false (cl 96) [.t 5,.t 8,ci 3]),oo 10 (.bslice false 1 1 [.im (.int .i64 0)] [(0,.t 9)]),mv 4 10] .ret),false⟩
theorem F68 : F 68 = some f68 := by kernel_rfl
def b69_0 : ACode := sq [bi 23 .lss 22 (.t 21)] (.seq (.cond (.t 23) .skip (.exit 0)) (.seq (.block 1 (sq [oo 24 (.indexSl 1 (.t 20) (.t 22)),l0 25 24,mv 10 25] (.ops [mv 26 8,mv 27 0,mv 28 10,oo 29 (.call false (cl 96) [.t 27,.t 28,ci 3]),oo 30 (.bslice false 1 1 [.im (.int .i64 0)] [(0,.t 29)]),oo 31 (.append 3 8 1 (.t 26) (.t 30)),mv 8 31] []))) (.ops [bi 32 .add 22 (ci 1),mv 22 32] [])))
def c69_0 : ACode := .loop b69_0
theorem e69_0 : exec0 Φ Λ' c69_0 tm H K = thenL (Λ' c69_0 tm H) K := rfl
theorem l69_0 : Λ c69_0 tm H = exec0 L Λ b69_0 tm H fun e tm H => match e with
  | .normal => Λ c69_0 tm H
  | .exit i => some (.exit i, tm, H)
  | .goto l => some (.goto l, tm, H)
  | .ret => some (.ret, tm, H) := loop_eq
def f69 : AFunc := ⟨46,[(6,none)],.seq (.ops [oo 6 (.move (.c .nils))] []) (sq [mv 11 0,mv 12 1,oo 13 (.call false (cl 72) [.t 11,.t 12]),mv 7 13] (.seq (sq [mv 14 2,mv 15 14,og 16 (.move (.t 7)) 15 true,og 17 (.bin .eql (.t 16) (cs [45])) 15 true,pa 18 15 17] (.cond (.t 18) (sq [oo 6 (.move (.c .nils))] .ret) .skip)) (sq [oo 8 (.move (.c .nils))] (.seq (sq [mv 19 7,oo 20 (.call false (cl 97) [.t 19,cs [44]]),oo 21 (.lenSl (.t 20)),mc 22 (ci 0)] (.block 0 c69_0)) (sq [mv 33 0,mv 34 0,nc 35 34,fa 36 1 35,l0 37 36,mv 38 37,og 39 (.move (.t 8)) 38 false,og 40 (.call false (cl 79) [.t 39,ci 1,ci 4]) 38 false,og 41 (.un .not (.t 40)) 38 false,po 42 38 41,nc 43 33,fa 44 1 43,st 1 44 42] (.seq (.ops [mv 45 8,mv 6 45] []) .ret)))))),false⟩
theorem F69 : F 69 = some f69 := by kernel_rfl
def f70 : AFunc := ⟨19,[(2,none)],.seq (.ops [mc 2 (cs [])] []) (sq [mv 4 0,oo 5 (.call false (cl 72) [.t 4,cb true]),mv 3 5] (.seq (.ops [mv 6 0,mv 7 0,nc 8 7,fa 9 1 8,l0 10 9,mv 11 10,og 12 (.move (.t 3)) 11 false,og 13 (.call false (cl 82) [.t 12]) 11 false,og 14 (.un .not (.t 13)) 11 false,po 15 11 14,nc 16 6,fa 17 1 16,st 1 17 15] []) (sq [mv 18 3,mv 2 18] .ret))),false⟩
theorem F70 : F 70 = some f70 := by kernel_rfl
def f71 : AFunc := ⟨10,[(4,none)],.seq (.ops [mc 4 (ci 0)] []) (sq [mv 5 0,mv 6 0,mv 7 1,oo 8 (.call false (cl 72) [.t 6,.t 7]),oo 9 (.call false (cl 96) [.t 5,.t 8,ci 7]),mv 4 9] .ret),false⟩
theorem F71 : F 71 = some f71 := by kernel_rfl
def f72 : AFunc := ⟨38,[(4,none)],.seq (.ops [mc 4 (cs [])] []) (.seq (sq [mv 8 1] (.cond (.t 8) (sq [mv 9 0,nc 10 9,fa 11 0 10,l0 12 11,mv 4 12] .ret) .skip)) (sq [mv 14 0,nc 15 14,fa 16 0 15,l0 17 16,oo 18 (.call false (cl 39) [.t 17,cs [32]]),mv 13 18,ex 19 0 13,ex 20 1 13,ex 21 2 13,mv 5 19,mv 6 20,mv 7 21] (.seq (.ops [mv 22 0,mv 23 0,mv 24 6,mv 25 0,nc 26 25,fa 27 1 26,l0 28 27,mv 29 28,og 30 (.move (.t 7)) 29 false,og 31 (.un .not (.t 30)) 29 false,po 32 29 31,nc 33 22,fa 34 0 33,st 1 34 24,nc 35 23,fa 36 1 35,st 1 36 32] []) (sq [mv 37 5,mv 4 37] .ret)))),false⟩
theorem F72 : F 72 = some f72 := by kernel_rfl
def b74_0 : ACode := sq [bi 12 .lss 11 (.t 10)] (.seq (.cond (.t 12) .skip (.exit 0)) (.seq (.block 1 (sq [oo 13 (.indexSl 1 (.t 9) (.t 11)),l0 14 13,mv 5 14] (.ops [mv 15 3,mv 16 5,oo 17 (.call false (cl 76) [.t 16]),oo 18 (.bslice false 1 1 [.im (.str [])] [(0,.t 17)]),oo 19 (.append 9 16 1 (.t 15) (.t 18)),mv 3 19] []))) (.ops [bi 20 .add 11 (ci 1),mv 11 20] [])))
def c74_0 : ACode := .loop b74_0
theorem e74_0 : exec0 Φ Λ' c74_0 tm H K = thenL (Λ' c74_0 tm H) K := rfl
theorem l74_0 : Λ c74_0 tm H = exec0 L Λ b74_0 tm H fun e tm H => match e with
  | .normal => Λ c74_0 tm H
  | .exit i => some (.exit i, tm, H)
  | .goto l => some (.goto l, tm, H)
  | .ret => some (.ret, tm, H) := loop_eq
def f74 : AFunc := ⟨23,[(2,none)],.seq (.ops [mc 2 (cs [])] []) (.seq (sq [mv 6 0,oo 7 (.lenSl (.t 6)),bi 8 .eql 7 (ci 0)] (.cond (.t 8) (sq [mc 2 (cs [45])] .ret) .skip)) (sq [oo 3 (.move (.c .nils))] (.seq (sq [mv 9 0,oo 10 (.lenSl (.t 9)),mc 11 (ci 0)] (.block 0 c74_0)) (sq [mv 21 3,oo 22 (.call false (cl 77) [.t 21,cs [44]]),mv 2 22] .ret)))),false⟩
theorem F74 : F 74 = some f74 := by kernel_rfl
def f75 : AFunc := ⟨18,[(2,none),(3,none)],.seq (.ops [oo 1 (.box none (.t 0)),mc 2 (cs []),mc 3 (ci 0)] []) (.seq (sq [ld 6 2 1,oo 7 (.call false (cl 81) [.t 6]),mv 4 7] (.seq (.ops [mv 8 4,bi 9 .neq 8 (ci 0)] []) (.cond (.t 9) (sq [mv 10 4,mc 2 (cs []),mv 3 10] .ret) .skip))) (sq [oo 11 (.build [.im .nilp,.nils] []),oo 12 (.box (some 92) (.t 11)),mv 5 12] (.seq (.ops [mv 13 5,ld 14 2 1,oo 15 (.call false (cl 99) [.t 13,.t 14])] []) (sq [mv 16 5,oo 17 (.call false (cl 47) [.t 16]),mv 2 17,mc 3 (ci 0)] .ret)))),false⟩
theorem F75 : F 75 = some f75 := by kernel_rfl
def f78 : AFunc := ⟨21,[(4,none)],.seq (.ops [mc 4 (cb false)] []) (sq [mv 5 0,bi 6 .lss 5 (ci 0),mv 7 6,og 8 (.move (.t 0)) 7 false,og 9 (.load none (.t 1)) 7 false,og 10 (.bin .geq (.t 8) (.t 9)) 7 false,po 11 7 10,mv 12 11,og 13 (.fieldAddr 0 (.t 2)) 12 false,og 14 (.load none (.t 13)) 12 false,og 15 (.move (.t 0)) 12 false,og 16 (.indexSl 14 (.t 14) (.t 15)) 12 false,og 17 (.fieldAddr 0 (.t 16)) 12 false,og 18 (.load none (.t 17)) 12 false,og 19 (.bin .eql (.t 18) (ci 6)) 12 false,po 20 12 19,mv 4 20] .ret),false⟩
theorem F78 : F 78 = some f78 := by kernel_rfl
def b79_0 : ACode := .seq (sq [mv 8 7,mv 9 0,oo 10 (.lenSl (.t 9)),bi 11 .lss 8 (.t 10)] (.cond (.t 11) .skip (.exit 0))) (.seq (.block 1 (sq [mv 14 0,mv 15 7,oo 16 (.indexSl 1 (.t 14) (.t 15)),l0 17 16,mv 18 0,mv 19 7,bi 20 .sub 19 (ci 1),oo 21 (.indexSl 1 (.t 18) (.t 20)),l0 22 21,bi 23 .leq 17 (.t 22)] (.cond (.t 23) (sq [mc 6 (cb false)] .ret) .skip))) (.ops [mv 12 7,bi 13 .add 12 (ci 1),mv 7 13] []))
def c79_0 : ACode := .loop b79_0
theorem e79_0 : exec0 Φ Λ' c79_0 tm H K = thenL (Λ' c79_0 tm H) K := rfl
theorem l79_0 : Λ c79_0 tm H = exec0 L Λ b79_0 tm H fun e tm H => match e with
  | .normal => Λ c79_0 tm H
  | .exit i => some (.exit i, tm, H)
  | .goto l => some (.goto l, tm, H)
  | .ret => some (.ret, tm, H) := loop_eq
def f79 : AFunc := ⟨34,[(6,none)],.seq (.ops [mc 6 (cb false)] []) (.seq (sq [mc 7 (ci 1)] (.block 0 c79_0)) (sq [mv 24 0,oo 25 (.lenSl (.t 24)),mv 26 1,bi 27 .geq 25 (.t 26),mv 28 27,og 29 (.move (.t 0)) 28 true,og 30 (.lenSl (.t 29)) 28 true,og 31 (.move (.t 2)) 28 true,og 32 (.bin .leq (.t 30) (.t 31)) 28 true,pa 33 28 32,mv 6 33] .ret)),false⟩
theorem F79 : F 79 = some f79 := by kernel_rfl
def f80 : AFunc := ⟨9,[(4,none)],.seq (.ops [mc 4 (cb false)] []) (sq [mv 5 0,mv 6 1,oo 7 (.call false (cl 102) [.t 5,.t 6]),bi 8 .geq 7 (ci 0),mv 4 8] .ret),false⟩
theorem F80 : F 80 = some f80 := by kernel_rfl
def f81 : AFunc := ⟨6,[(2,none)],.seq (.ops [oo 1 (.box none (.t 0)),mc 2 (ci 0)] []) (.seq (sq [ld 3 2 1,oo 4 (.call false (cl 103) [.t 3,ci 6]),oo 5 (.un .not (.t 4))] (.cond (.t 5) (sq [mc 2 (ci 20)] .ret) .skip)) (sq [mc 2 (ci 0)] .ret)),false⟩
theorem F81 : F 81 = some f81 := by kernel_rfl
def f82 : AFunc := ⟨16,[(2,none)],.seq (.ops [mc 2 (cb false)] []) (sq [mv 3 0,oo 4 (.lenStr (.t 3)),bi 5 .geq 4 (ci 1),mv 6 5,og 7 (.move (.t 0)) 6 true,og 8 (.lenStr (.t 7)) 6 true,og 9 (.bin .leq (.t 8) (ci 1000)) 6 true,pa 10 6 9,mv 11 10,og 12 (.move (.t 0)) 11 true,og 13 (.call false (cl 104) [.t 12,cl 105]) 11 true,og 14 (.un .not (.t 13)) 11 true,pa 15 11 14,mv 2 15] .ret),false⟩
theorem F82 : F 82 = some f82 := by kernel_rfl
def f83 : AFunc := ⟨70,[(2,none)],.seq (.ops [oo 1 (.box none (.t 0)),mc 2 (ci 0)] []) (sq [mc 3 (cb false)] (.seq (sq [fa 4 0 1,l0 5 4] (.block 0 (sq [bi 7 .eql 5 (ci 0),mv 6 7] (.cond (.t 6) (.ops [ld 8 4 1,oo 9 (.build [.im (.int .i64 0),.im (.int .i64 0),.im (.int .i64 0),.im (.int .i64 0)] []),oo 10 (.binS .eql [1,1,1,1] (.t 8) (.t 9)),mv 3 10] []) (sq [bi 12 .eql 5 (ci 1),mv 11 12] (.cond (.t 11) (.ops [fa 13 1 1,l0 14 13,oo 15 (.call false (cl 106) [.t 14,ci 1,ci 1048576]),mv 16 15,og 17 (.fieldAddr 2 (.t 1)) 16 true,og 18 (.load none (.t 17)) 16 true,og 19 (.bin .eql (.t 18) (ci 0)) 16 true,pa 20 16 19,mv 21 20,og 22 (.fieldAddr 3 (.t 1)) 21 true,og 23 (.load none (.t 22)) 21 true,og 24 (.fieldAddr 1 (.t 1)) 21 true,og 25 (.load none (.t 24)) 21 true,og 26 (.bin .sub (.t 25) (ci 1)) 21 true,og 27 (.call false (cl 106) [.t 23,ci 0,.t 26]) 21 true,pa 28 21 27,mv 3 28] []) (sq [bi 30 .eql 5 (ci 2),mv 29 30] (.cond (.t 29) (.ops [fa 31 2 1,l0 32 31,oo 33 (.call false (cl 106) [.t 32,ci 1,ci 1048576]),mv 34 33,og 35 (.fieldAddr 1 (.t 1)) 34 true,og 36 (.load none (.t 35)) 34 true,og 37 (.fieldAddr 2 (.t 1)) 34 true,og 38 (.load none (.t 37)) 34 true,og 39 (.fieldAddr 2 (.t 1)) 34 true,og 40 (.load none (.t 39)) 34 true,og 41 (.bin .mul (ci 16) (.t 40)) 34 true,og 42 (.min (ci 1048576) (.t 41)) 34 true,og 43 (.call false (cl 106) [.t 36,.t 38,.t 42]) 34 true,pa 44 34 43,mv 45 44,og 46 (.fieldAddr 3 (.t 1)) 45 true,og 47 (.load none (.t 46)) 45 true,og 48 (.fieldAddr 2 (.t 1)) 45 true,og 49 (.load none (.t 48)) 45 true,og 50 (.bin .sub (.t 49) (ci 1)) 45 true,og 51 (.call false (cl 106) [.t 47,ci 0,.t 50]) 45 true,pa 52 45 51,mv 3 52] []) (sq [bi 54 .eql 5 (ci 3),mv 53 54] (.cond (.t 53) (.ops [fa 55 1 1,l0 56 55,oo 57 (.call false (cl 106) [.t 56,ci 1,ci 1048576]),mv 58 57,og 59 (.fieldAddr 2 (.t 1)) 58 true,og 60 (.load none (.t 59)) 58 true,og 61 (.bin .eql (.t 60) (ci 0)) 58 true,pa 62 58 61,mv 63 62,og 64 (.fieldAddr 3 (.t 1)) 63 true,og 65 (.load none (.t 64)) 63 true,og 66 (.bin .eql (.t 65) (ci 0)) 63 true,pa 67 63 66,mv 3 67] []) .skip)))))))))) (.seq (sq [mv 68 3,oo 69 (.un .not (.t 68))] (.cond (.t 69) (sq [mc 2 (ci 70)] .ret) .skip)) (sq [mc 2 (ci 0)] .ret)))),false⟩
theorem F83 : F 83 = some f83 := by kernel_rfl
def f84 : AFunc := ⟨29,[(2,none)],.seq (.ops [oo 1 (.box none (.t 0)),mc 2 (ci 0)] []) (.seq (sq [fa 3 0 1,l0 4 3,oo 5 (.call false (cl 107) [.t 4,ci 0,ci 1000]),oo 6 (.un .not (.t 5)),mv 7 6,og 8 (.fieldAddr 1 (.t 1)) 7 false,og 9 (.load none (.t 8)) 7 false,og 10 (.call false (cl 107) [.t 9,ci 0,ci 1000]) 7 false,og 11 (.un .not (.t 10)) 7 false,po 12 7 11,mv 13 12,og 14 (.fieldAddr 2 (.t 1)) 13 false,og 15 (.load none (.t 14)) 13 false,og 16 (.call false (cl 107) [.t 15,ci 0,ci 1048576]) 13 false,og 17 (.un .not (.t 16)) 13 false,po 18 13 17,mv 19 18,og 20 (.fieldAddr 2 (.t 1)) 19 false,og 21 (.load none (.t 20)) 19 false,og 22 (.bin .eql (.t 21) (ci 0)) 19 false,og 23 (.move (.t 22)) 19 false,og 24 (.fieldAddr 1 (.t 1)) 23 true,og 25 (.load none (.t 24)) 23 true,og 26 (.bin .gtr (.t 25) (ci 0)) 23 true,og 27 (.pick (.t 23) (.t 26) (cb false)) 19 false,po 28 19 27] (.cond (.t 28) (sq [mc 2 (ci 100)] .ret) .skip)) (sq [mc 2 (ci 0)] .ret)),false⟩
theorem F84 : F 84 = some f84 := by kernel_rfl
def f93 : AFunc := ⟨9,[(4,none)],.seq (.ops [mc 4 (cb false)] []) (sq [mv 5 0,mv 6 1,oo 7 (.call false (cl 112) [.t 5,.t 6]),bi 8 .geq 7 (ci 0),mv 4 8] .ret),false⟩
theorem F93 : F 93 = some f93 := by kernel_rfl
def b95_0 : ACode := sq [bi 27 .lss 26 (.t 25)] (.seq (.cond (.t 27) .skip (.exit 0)) (.seq (.block 1 (sq [mv 28 26,mv 9 28] (.seq (sq [mv 29 0,mv 30 9,oo 31 (.indexStr (cs [40,44]) (.t 30)),oo 32 (.call false (cl 118) [.t 29,.t 31]),oo 33 (.un .not (.t 32))] (.cond (.t 33) (sq [oo 34 (.build [.im (.int .i64 0),.nils] []),st 2 4 34,mc 5 (cb false)] .ret) .skip)) (sq [mv 36 0,mv 37 1,bi 38 .sub 37 (ci 1),oo 39 (.call false (cl 95) [.t 36,.t 38]),mv 35 39,ex 40 0 35,ex 41 1 35,oo 10 (.alloc none [.im (.int .i64 0),.nils]),st 2 10 40,mv 11 41] (.seq (sq [mv 42 11,oo 43 (.un .not (.t 42))] (.cond (.t 43) (sq [oo 44 (.build [.im (.int .i64 0),.nils] []),st 2 4 44,mc 5 (cb false)] .ret) .skip)) (.ops [fa 45 1 8,l0 46 45,ld 47 2 10,oo 48 (.bslice false 2 1 [.im (.int .i64 0),.nils] [(0,.t 47)]),oo 49 (.append 62 32 2 (.t 46) (.t 48)),fa 50 1 8,st 1 50 49] [])))))) (.ops [bi 51 .add 26 (ci 1),mv 26 51] [])))
def c95_0 : ACode := .loop b95_0
theorem e95_0 : exec0 Φ Λ' c95_0 tm H K = thenL (Λ' c95_0 tm H) K := rfl
theorem l95_0 : Λ c95_0 tm H = exec0 L Λ b95_0 tm H fun e tm H => match e with
  | .normal => Λ c95_0 tm H
  | .exit i => some (.exit i, tm, H)
  | .goto l => some (.goto l, tm, H)
  | .ret => some (.ret, tm, H) := loop_eq
def f95 : AFunc := ⟨60,[(4,some (some 2)),(5,none)],.seq (.ops [oo 4 (.alloc none [.im (.int .i64 0),.nils]),mc 5 (cb false)] []) (sq [mv 13 0,mv 14 1,oo 15 (.call false (cl 117) [.t 13,.t 14]),mv 12 15,ex 16 0 12,ex 17 1 12,oo 6 (.alloc none [.im (.int .i64 0),.im (.str []),.im (.int .i64 0)]),st 3 6 16,mv 7 17] (.seq (sq [mv 18 7,oo 19 (.un .not (.t 18))] (.cond (.t 19) (sq [oo 20 (.build [.im (.int .i64 0),.nils] []),st 2 4 20,mc 5 (cb false)] .ret) .skip)) (sq [fa 21 0 6,l0 22 21,oo 23 (.build [.im (.int .i64 0),.nils] [(0,(1,.t 22))]),oo 8 (.alloc none [.im (.int .i64 0),.nils]),st 2 8 23] (.seq (sq [fa 24 2 6,l0 25 24,mc 26 (ci 0)] (.block 0 c95_0)) (.seq (.ops [ld 52 2 8,fa 53 2 6,l0 54 53,bi 55 .eql 54 (ci 0),mv 56 55,og 57 (.move (.t 0)) 56 false,og 58 (.call false (cl 118) [.t 57,.c (.im (.int .u8 41))]) 56 false,po 59 56 58,st 2 4 52,mv 5 59] [(0,6)]) .ret))))),false⟩
theorem F95 : F 95 = some f95 := by kernel_rfl
def f96 : AFunc := ⟨36,[(6,none)],.seq (.ops [mc 6 (ci 0)] []) (sq [mv 10 1,oo 11 (.call false (cl 119) [.t 10]),mv 9 11,ex 12 0 9,ex 13 1 9,mv 7 12,mv 8 13] (.seq (sq [mv 14 8,oo 15 (.binZ true .neq (.t 14) (.c (.im .nili))),mv 16 15,og 17 (.move (.t 7)) 16 false,og 18 (.bin .lss (.t 17) (ci 0)) 16 false,po 19 16 18,mv 20 19,og 21 (.move (.t 1)) 20 false,og 22 (.lenStr (.t 21)) 20 false,og 23 (.move (.t 2)) 20 false,og 24 (.bin .gtr (.t 22) (.t 23)) 20 false,po 25 20 24,mv 26 25,og 27 (.move (.t 7)) 26 false,og 28 (.call false (cl 76) [.t 27]) 26 false,og 29 (.move (.t 1)) 26 false,og 30 (.bin .neq (.t 28) (.t 29)) 26 false,po 31 26 30] (.cond (.t 31) (sq [mv 32 0,nc 33 32,fa 34 1 33,⟨none,.store 1 (.t 34) (cb true),none⟩] (.seq (.ops [mc 6 (ci 0)] []) .ret)) .skip)) (sq [mv 35 7,mv 6 35] .ret))),false⟩
theorem F96 : F 96 = some f96 := by kernel_rfl
def f97 : AFunc := ⟨8,[(4,none)],.seq (.ops [oo 4 (.move (.c .nils))] []) (sq [mv 5 0,mv 6 1,oo 7 (.call false (cl 120) [.t 5,.t 6,ci 0,ci (-1)]),mv 4 7] .ret),false⟩
theorem F97 : F 97 = some f97 := by kernel_rfl
def b99_0 : ACode := sq [bi 28 .lss 27 (.t 26)] (.seq (.cond (.t 28) .skip (.exit 2)) (.seq (.block 3 (sq [mv 29 27,oo 30 (.indexSl 2 (.t 25) (.t 27)),ld 31 2 30,oo 7 (.alloc none [.im (.int .i64 0),.nils]),mv 6 29,st 2 7 31] (.seq (.ops [mv 32 0,mv 33 6,oo 34 (.indexStr (cs [40,44]) (.t 33)),oo 35 (.call false (cl 122) [.t 32,.t 34])] []) (.ops [mv 36 0,ld 37 2 7,oo 38 (.call false (cl 99) [.t 36,.t 37])] [])))) (.ops [bi 39 .add 27 (ci 1),mv 27 39] [])))
def c99_0 : ACode := .loop b99_0
theorem e99_0 : exec0 Φ Λ' c99_0 tm H K = thenL (Λ' c99_0 tm H) K := rfl
theorem l99_0 : Λ c99_0 tm H = exec0 L Λ b99_0 tm H fun e tm H => match e with
  | .normal => Λ c99_0 tm H
  | .exit i => some (.exit i, tm, H)
  | .goto l => some (.goto l, tm, H)
  | .ret => some (.ret, tm, H) := loop_eq
def b99_1 : ACode := sq [bi 11 .lss 10 (.t 9)] (.seq (.cond (.t 11) .skip (.exit 0)) (.seq (.block 1 (sq [oo 12 (.indexSl 3 (.t 8) (.t 10)),ld 13 3 12,oo 5 (.alloc none [.im (.int .i64 0),.im (.str []),.im (.int .i64 0)]),st 3 5 13] (.seq (.ops [fa 14 0 5,l0 15 14,fa 16 0 3,l0 17 16,bi 18 .eql 15 (.t 17)] []) (.cond (.t 18) (.ops [mv 19 0,fa 20 1 5,l0 21 20,oo 22 (.call false (cl 45) [.t 19,.t 21])] []) .skip)))) (.ops [bi 23 .add 10 (ci 1),mv 10 23] [])))
def c99_1 : ACode := .loop b99_1
theorem e99_1 : exec0 Φ Λ' c99_1 tm H K = thenL (Λ' c99_1 tm H) K := rfl
theorem l99_1 : Λ c99_1 tm H = exec0 L Λ b99_1 tm H fun e tm H => match e with
  | .normal => Λ c99_1 tm H
  | .exit i => some (.exit i, tm, H)
  | .goto l => some (.goto l, tm, H)
  | .ret => some (.ret, tm, H) := loop_eq
def f99 : AFunc := ⟨46,[],.seq (.ops [oo 3 (.box none (.t 1))] []) (.seq (sq [oo 8 (.call false (cl 121) []),oo 9 (.lenSl (.t 8)),mc 10 (ci 0)] (.block 0 c99_1)) (.seq (sq [fa 24 1 3,l0 25 24,oo 26 (.lenSl (.t 25)),mc 27 (ci 0)] (.block 2 c99_0)) (sq [fa 40 1 3,l0 41 40,oo 42 (.lenSl (.t 41)),bi 43 .gtr 42 (ci 0)] (.cond (.t 43) (.ops [mv 44 0,oo 45 (.call false (cl 122) [.t 44,.c (.im (.int .u8 41))])] []) .skip)))),false⟩
theorem F99 : F 99 = some f99 := by kernel_rfl
def b102_0 : ACode := sq [bi 9 .lss 8 (.t 7)] (.seq (.cond (.t 9) .skip (.exit 0)) (.seq (.block 1 (sq [mv 10 8,mv 5 10] (.seq (.ops [mv 11 1,mv 12 0,mv 13 5,oo 14 (.indexSl 1 (.t 12) (.t 13)),l0 15 14,oo 16 (.call false (.t 11) [.t 15])] []) (.cond (.t 16) (sq [mv 17 5,mv 4 17] .ret) .skip)))) (.ops [bi 18 .add 8 (ci 1),mv 8 18] [])))
def c102_0 : ACode := .loop b102_0
theorem e102_0 : exec0 Φ Λ' c102_0 tm H K = thenL (Λ' c102_0 tm H) K := rfl
theorem l102_0 : Λ c102_0 tm H = exec0 L Λ b102_0 tm H fun e tm H => match e with
  | .normal => Λ c102_0 tm H
  | .exit i => some (.exit i, tm, H)
  | .goto l => some (.goto l, tm, H)
  | .ret => some (.ret, tm, H) := loop_eq
def f102 : AFunc := ⟨19,[(4,none)],.seq (.ops [mc 4 (ci 0)] []) (.seq (sq [mv 6 0,oo 7 (.lenSl (.t 6)),mc 8 (ci 0)] (.block 0 c102_0)) (sq [oo 4 (.move (ci (-1)))] .ret)),false⟩
theorem F102 : F 102 = some f102 := by kernel_rfl
def f103 : AFunc := ⟨31,[(4,none)],.seq (.ops [oo 2 (.box none (.t 0)),oo 3 (.box none (.t 1)),mc 4 (cb false)] []) (sq [oo 6 (.call false (cl 121) []),oo 7 (.mkfunc 126 [.t 2]),oo 8 (.call false (cl 125) [.t 6,.t 7]),mv 5 8] (.seq (.seq (.ops [mv 9 5,bi 10 .lss 9 (ci 0),mv 11 10,og 12 (.load none (.t 3)) 11 false,og 13 (.bin .lss (.t 12) (ci 1)) 11 false,po 14 11 13,mv 15 14,og 16 (.fieldAddr 1 (.t 2)) 15 false,og 17 (.load none (.t 16)) 15 false,og 18 (.lenSl (.t 17)) 15 false,og 19 (.call false (cl 121) []) 15 false,og 20 (.move (.t 5)) 15 false,og 21 (.indexSl 3 (.t 19) (.t 20)) 15 false,og 22 (.fieldAddr 2 (.t 21)) 15 false,og 23 (.load none (.t 22)) 15 false,og 24 (.bin .neq (.t 18) (.t 23)) 15 false,po 25 15 24] [(8,10)]) (.cond (.t 25) (sq [mc 4 (cb false)] .ret) .skip)) (sq [fa 26 1 2,l0 27 26,oo 28 (.mkfunc 128 [.t 3]),oo 29 (.call false (cl 127) [.t 27,.t 28]),oo 30 (.un .not (.t 29)),mv 4 30] .ret))),false⟩
theorem F103 : F 103 = some f103 := by kernel_rfl
def f104 : AFunc := ⟨9,[(4,none)],.seq (.ops [mc 4 (cb false)] []) (sq [mv 5 0,mv 6 1,oo 7 (.call false (cl 129) [.t 5,.t 6]),bi 8 .geq 7 (ci 0),mv 4 8] .ret),false⟩
theorem F104 : F 104 = some f104 := by kernel_rfl
def f105 : AFunc := ⟨9,[(2,none)],.seq (.ops [mc 2 (cb false)] []) (sq [mv 3 0,oo 4 (.bin .lss (.t 3) (.c (.im (.int .i32 32)))),mv 5 4,og 6 (.move (.t 0)) 5 false,og 7 (.bin .gtr (.t 6) (.c (.im (.int .i32 126)))) 5 false,po 8 5 7,mv 2 8] .ret),false⟩
theorem F105 : F 105 = some f105 := by kernel_rfl
def f106 : AFunc := ⟨15,[(6,none)],.seq (.ops [mc 6 (cb false)] []) (sq [mv 7 0,mv 8 1,bi 9 .geq 7 (.t 8),mv 10 9,og 11 (.move (.t 0)) 10 true,og 12 (.move (.t 2)) 10 true,og 13 (.bin .leq (.t 11) (.t 12)) 10 true,pa 14 10 13,mv 6 14] .ret),false⟩
theorem F106 : F 106 = some f106 := by kernel_rfl
def f107 : AFunc := ⟨15,[(6,none)],.seq (.ops [mc 6 (cb false)] []) (sq [mv 7 0,mv 8 1,bi 9 .geq 7 (.t 8),mv 10 9,og 11 (.move (.t 0)) 10 true,og 12 (.move (.t 2)) 10 true,og 13 (.bin .leq (.t 11) (.t 12)) 10 true,pa 14 10 13,mv 6 14] .ret),false⟩
theorem F107 : F 107 = some f107 := by kernel_rfl
def b112_0 : ACode := sq [bi 9 .lss 8 (.t 7)] (.seq (.cond (.t 9) .skip (.exit 0)) (.seq (.block 1 (sq [mv 10 8,mv 5 10] (.seq (.ops [mv 11 1,mv 12 0,mv 13 5,oo 14 (.indexSl 1 (.t 12) (.t 13)),l0 15 14,bi 16 .eql 11 (.t 15)] []) (.cond (.t 16) (sq [mv 17 5,mv 4 17] .ret) .skip)))) (.ops [bi 18 .add 8 (ci 1),mv 8 18] [])))
def c112_0 : ACode := .loop b112_0
def f112 : AFunc := ⟨19,[(4,none)],.seq (.ops [mc 4 (ci 0)] []) (.seq (sq [mv 6 0,oo 7 (.lenSl (.t 6)),mc 8 (ci 0)] (.block 0 c112_0)) (sq [oo 4 (.move (ci (-1)))] .ret)),false⟩
theorem F112 : F 112 = some f112 := by kernel_rfl
def b117_0 : ACode := sq [bi 16 .lss 15 (.t 14)] (.seq (.cond (.t 16) .skip (.exit 0)) (.seq (.block 1 (sq [oo 17 (.indexSl 3 (.t 13) (.t 15)),ld 18 3 17,oo 9 (.alloc none [.im (.int .i64 0),.im (.str []),.im (.int .i64 0)]),st 3 9 18] (.seq (.ops [fa 19 1 9,l0 20 19,oo 21 (.lenStr (.t 20)),l0 22 7,bi 23 .eql 21 (.t 22)] []) (.cond (.t 23) (sq [ld 24 3 9,st 3 4 24,mc 5 (cb true)] .ret) .skip)))) (.ops [bi 25 .add 15 (ci 1),mv 15 25] [])))
def c117_0 : ACode := .loop b117_0
theorem e117_0 : exec0 Φ Λ' c117_0 tm H K = thenL (Λ' c117_0 tm H) K := rfl
theorem l117_0 : Λ c117_0 tm H = exec0 L Λ b117_0 tm H fun e tm H => match e with
  | .normal => Λ c117_0 tm H
  | .exit i => some (.exit i, tm, H)
  | .goto l => some (.goto l, tm, H)
  | .ret => some (.ret, tm, H) := loop_eq
def c117_1 : ACode := .scope (sq [oo 10 (.call false (cl 121) []),oo 11 (.mkfunc 133 [.t 3]),oo 12 (.call false (cl 132) [.t 10,.t 11]),mv 6 12] (.seq (.ops [oo 7 (.alloc none [.im (.int .i64 0)]),⟨none,.store 1 (.t 7) (ci 0),none⟩] []) (.seq (.label 0) (.seq (sq [mv 13 6,oo 14 (.lenSl (.t 13)),mc 15 (ci 0)] (.block 0 c117_0)) (.seq (sq [l0 26 2,nc 27 26,fa 28 1 27,l0 29 28,l0 30 2,nc 31 30,fa 32 0 31,l0 33 32,oo 34 (.lenStr (.t 33)),bi 35 .lss 29 (.t 34)] (.cond (.t 35) (sq [mv 36 6,oo 37 (.mkfunc 134 [.t 7,.t 2]),oo 38 (.call false (cl 132) [.t 36,.t 37]),mv 6 38] (.seq (.ops [mv 39 6,oo 40 (.lenSl (.t 39)),bi 41 .gtr 40 (ci 0)] []) (.cond (.t 41) (sq [l0 42 2,nc 43 42,fa 44 1 43,l0 45 44,bi 46 .add 45 (ci 1),nc 47 42,fa 48 1 47,st 1 48 46] (.seq (.ops [l0 49 7,bi 50 .add 49 (ci 1),st 1 7 50] []) (.goto 0))) .skip))) .skip)) (sq [oo 51 (.build [.im (.int .i64 0),.im (.str []),.im (.int .i64 0)] []),st 3 4 51,mc 5 (cb false)] .ret)))))) (sq [oo 10 (.call false (cl 121) []),oo 11 (.mkfunc 133 [.t 3]),oo 12 (.call false (cl 132) [.t 10,.t 11]),mv 6 12] (.seq (.ops [oo 7 (.alloc none [.im (.int .i64 0)]),⟨none,.store 1 (.t 7) (ci 0),none⟩] []) (.seq (.label 0) (.seq (sq [mv 13 6,oo 14 (.lenSl (.t 13)),mc 15 (ci 0)] (.block 0 c117_0)) (.seq (sq [l0 26 2,nc 27 26,fa 28 1 27,l0 29 28,l0 30 2,nc 31 30,fa 32 0 31,l0 33 32,oo 34 (.lenStr (.t 33)),bi 35 .lss 29 (.t 34)] (.cond (.t 35) (sq [mv 36 6,oo 37 (.mkfunc 134 [.t 7,.t 2]),oo 38 (.call false (cl 132) [.t 36,.t 37]),mv 6 38] (.seq (.ops [mv 39 6,oo 40 (.lenSl (.t 39)),bi 41 .gtr 40 (ci 0)] []) (.cond (.t 41) (sq [l0 42 2,nc 43 42,fa 44 1 43,l0 45 44,bi 46 .add 45 (ci 1),nc 47 42,fa 48 1 47,st 1 48 46] (.seq (.ops [l0 49 7,bi 50 .add 49 (ci 1),st 1 7 50] []) (.goto 0))) .skip))) .skip)) (sq [oo 51 (.build [.im (.int .i64 0),.im (.str []),.im (.int .i64 0)] []),st 3 4 51,mc 5 (cb false)] .ret))))))
theorem e117_1 : exec0 Φ Λ' c117_1 tm H K = thenL (Λ' c117_1 tm H) K := rfl
def f117 : AFunc := ⟨52,[(4,some (some 3)),(5,none)],.seq (.ops [oo 2 (.box none (.t 0)),oo 3 (.box none (.t 1)),oo 4 (.alloc none [.im (.int .i64 0),.im (.str []),.im (.int .i64 0)]),mc 5 (cb false)] []) c117_1,false⟩
theorem F117 : F 117 = some f117 := by kernel_rfl
def f118 : AFunc := ⟨35,[(4,none)],.seq (.ops [mc 4 (cb false)] []) (.seq (sq [mv 5 0,nc 6 5,fa 7 1 6,l0 8 7,mv 9 0,nc 10 9,fa 11 0 10,l0 12 11,oo 13 (.lenStr (.t 12)),bi 14 .lss 8 (.t 13),mv 15 14,og 16 (.move (.t 0)) 15 true,og 17 (.nilCheck (.t 16)) 15 true,og 18 (.fieldAddr 0 (.t 17)) 15 true,og 19 (.load none (.t 18)) 15 true,og 20 (.move (.t 0)) 15 true,og 21 (.nilCheck (.t 20)) 15 true,og 22 (.fieldAddr 1 (.t 21)) 15 true,og 23 (.load none (.t 22)) 15 true,og 24 (.indexStr (.t 19) (.t 23)) 15 true,og 25 (.move (.t 1)) 15 true,og 26 (.bin .eql (.t 24) (.t 25)) 15 true,pa 27 15 26] (.cond (.t 27) (sq [mv 28 0,nc 29 28,fa 30 1 29,l0 31 30,bi 32 .add 31 (ci 1),nc 33 28,fa 34 1 33,st 1 34 32] (.seq (.ops [mc 4 (cb true)] []) .ret)) .skip)) (sq [mc 4 (cb false)] .ret)),false⟩
theorem F118 : F 118 = some f118 := by kernel_rfl
def b120_0 : ACode := .seq (sq [mv 34 10,mv 35 3,bi 36 .lss 34 (.t 35)] (.cond (.t 36) .skip (.exit 0))) (.block 1 (sq [mv 37 0,mv 38 1,oo 39 (.call false (cl 139) [.t 37,.t 38]),mv 11 39] (.seq (sq [mv 40 11,bi 41 .lss 40 (ci 0)] (.cond (.t 41) (.exit 0) .skip)) (sq [mv 42 9,mv 43 10,mv 44 0,mv 45 11,mv 46 2,bi 47 .add 45 (.t 46),oo 48 (.sliceStr (.t 44) none (some (.t 47))),oo 49 (.indexSl 1 (.t 42) (.t 43)),st 1 49 48] (.seq (.ops [mv 50 0,mv 51 11,mv 52 1,oo 53 (.lenStr (.t 52)),bi 54 .add 51 (.t 53),oo 55 (.sliceStr (.t 50) (some (.t 54)) none),mv 0 55] []) (.ops [mv 56 10,bi 57 .add 56 (ci 1),mv 10 57] []))))))
def c120_0 : ACode := .loop b120_0
theorem e120_0 : exec0 Φ Λ' c120_0 tm H K = thenL (Λ' c120_0 tm H) K := rfl
theorem l120_0 : Λ c120_0 tm H = exec0 L Λ b120_0 tm H fun e tm H => match e with
  | .normal => Λ c120_0 tm H
  | .exit i => some (.exit i, tm, H)
  | .goto l => some (.goto l, tm, H)
  | .ret => some (.ret, tm, H) := loop_eq
def f120 : AFunc := ⟨66,[(8,none)],.seq (.ops [oo 8 (.move (.c .nils))] []) (.seq (sq [mv 12 3,bi 13 .eql 12 (ci 0)] (.cond (.t 13) (sq [oo 8 (.move (.c .nils))] .ret) .skip)) (.seq (sq [mv 14 1,bi 15 .eql 14 (cs [])] (.cond (.t 15) (sq [mv 16 0,mv 17 3,oo 18 (.call false (cl 137) [.t 16,.t 17]),mv 8 18] .ret) .skip)) (.seq (sq [mv 19 3,bi 20 .lss 19 (ci 0)] (.cond (.t 20) (.ops [mv 21 0,mv 22 1,oo 23 (.call false (cl 138) [.t 21,.t 22]),bi 24 .add 23 (ci 1),mv 3 24] []) .skip)) (sq [mv 25 3,mv 26 0,oo 27 (.lenStr (.t 26)),bi 28 .add 27 (ci 1),oo 29 (.min (.t 25) (.t 28)),mv 3 29] (.seq (.ops [mv 30 3,oo 31 (.mkslice 16 1 [.im (.str [])] (.t 30) (.t 30)),mv 9 31] []) (sq [mv 32 3,bi 33 .sub 32 (ci 1),mv 3 33] (.seq (.ops [mc 10 (ci 0)] []) (.seq (.block 0 c120_0) (sq [mv 58 9,mv 59 10,mv 60 0,oo 61 (.indexSl 1 (.t 58) (.t 59)),st 1 61 60] (.seq (.ops [mv 62 9,mv 63 10,bi 64 .add 63 (ci 1),oo 65 (.slice 1 (.t 62) none (some (.t 64)) none),mv 8 65] []) .ret)))))))))),false⟩
theorem F120 : F 120 = some f120 := by kernel_rfl
def f121 : AFunc := ⟨10,[(0,none)],.seq (.ops [oo 0 (.move (.c .nils))] []) (sq [oo 1 (.build [.im (.int .i64 0),.im (.str []),.im (.int .i64 0)] [(0,(1,ci 1)),(1,(1,cs [98,111,111,108])),(2,(1,ci 0))]),oo 2 (.build [.im (.int .i64 0),.im (.str []),.im (.int .i64 0)] [(0,(1,ci 2)),(1,(1,cs [105,110,116])),(2,(1,ci 0))]),oo 3 (.build [.im (.int .i64 0),.im (.str []),.im (.int .i64 0)] [(0,(1,ci 3)),(1,(1,cs [116,101,120,116])),(2,(1,ci 0))]),oo 4 (.build [.im (.int .i64 0),.im (.str []),.im (.int .i64 0)] [(0,(1,ci 4)),(1,(1,cs [98,121,116,101,115])),(2,(1,ci 0))]),oo 5 (.build [.im (.int .i64 0),.im (.str []),.im (.int .i64 0)] [(0,(1,ci 5)),(1,(1,cs [112,111,105,110,116])),(2,(1,ci 0))]),oo 6 (.build [.im (.int .i64 0),.im (.str []),.im (.int .i64 0)] [(0,(1,ci 6)),(1,(1,cs [112,97,105,114])),(2,(1,ci 2))]),oo 7 (.build [.im (.int .i64 0),.im (.str []),.im (.int .i64 0)] [(0,(1,ci 7)),(1,(1,cs [108,105,115,116])),(2,(1,ci 1))]),oo 8 (.build [.im (.int .i64 0),.im (.str []),.im (.int .i64 0)] [(0,(1,ci 9)),(1,(1,cs [111,112,116,105,111,110])),(2,(1,ci 1))]),oo 9 (.bslice true 3 8 [.im (.int .i64 0),.im (.str []),.im (.int .i64 0)] [(0,.t 1),(1,.t 2),(2,.t 3),(3,.t 4),(4,.t 5),(5,.t 6),(6,.t 7),(7,.t 8)]),mv 0 9] .ret),true⟩
theorem F121 : F 121 = some f121 := by kernel_rfl
def f122 : AFunc := ⟨17,[(4,none)],.seq (.ops [oo 4 (.move (.c (.im .nili)))] []) (sq [mv 5 0,oo 6 (.call false (cl 73) [.t 5])] (.seq (.ops [mv 7 0,mv 8 0,nc 9 8,fa 10 1 9,l0 11 10,mv 12 1,oo 13 (.bslice false 1 1 [.im (.int .u8 0)] [(0,.t 12)]),oo 14 (.append 5 1 1 (.t 11) (.t 13)),nc 15 7,fa 16 1 15,st 1 16 14] []) (sq [oo 4 (.move (.c (.im .nili)))] .ret))),false⟩
theorem F122 : F 122 = some f122 := by kernel_rfl
def b125_0 : ACode := sq [bi 9 .lss 8 (.t 7)] (.seq (.cond (.t 9) .skip (.exit 0)) (.seq (.block 1 (sq [mv 10 8,mv 5 10] (.seq (.ops [mv 11 1,mv 12 0,mv 13 5,oo 14 (.indexSl 3 (.t 12) (.t 13)),ld 15 3 14,oo 16 (.call false (.t 11) [.t 15])] []) (.cond (.t 16) (sq [mv 17 5,mv 4 17] .ret) .skip)))) (.ops [bi 18 .add 8 (ci 1),mv 8 18] [])))
def c125_0 : ACode := .loop b125_0
theorem e125_0 : exec0 Φ Λ' c125_0 tm H K = thenL (Λ' c125_0 tm H) K := rfl
theorem l125_0 : Λ c125_0 tm H = exec0 L Λ b125_0 tm H fun e tm H => match e with
  | .normal => Λ c125_0 tm H
  | .exit i => some (.exit i, tm, H)
  | .goto l => some (.goto l, tm, H)
  | .ret => some (.ret, tm, H) := loop_eq
def f125 : AFunc := ⟨19,[(4,none)],.seq (.ops [mc 4 (ci 0)] []) (.seq (sq [mv 6 0,oo 7 (.lenSl (.t 6)),mc 8 (ci 0)] (.block 0 c125_0)) (sq [oo 4 (.move (ci (-1)))] .ret)),false⟩
theorem F125 : F 125 = some f125 := by kernel_rfl
def f126 : AFunc := ⟨9,[(3,none)],.seq (.ops [oo 2 (.box none (.t 0)),mc 3 (cb false)] []) (sq [fa 4 0 2,l0 5 4,fa 6 0 1,l0 7 6,bi 8 .eql 5 (.t 7),mv 3 8] .ret),false⟩
theorem F126 : F 126 = some f126 := by kernel_rfl
def f127 : AFunc := ⟨9,[(4,none)],.seq (.ops [mc 4 (cb false)] []) (sq [mv 5 0,mv 6 1,oo 7 (.call false (cl 145) [.t 5,.t 6]),bi 8 .geq 7 (ci 0),mv 4 8] .ret),false⟩
theorem F127 : F 127 = some f127 := by kernel_rfl
def f128 : AFunc := ⟨9,[(3,none)],.seq (.ops [oo 2 (.box none (.t 0)),mc 3 (cb false)] []) (sq [ld 4 2 2,l0 5 1,bi 6 .sub 5 (ci 1),oo 7 (.call false (cl 103) [.t 4,.t 6]),oo 8 (.un .not (.t 7)),mv 3 8] .ret),false⟩
theorem F128 : F 128 = some f128 := by kernel_rfl
def f129 : AFunc := ⟨8,[(4,none)],.seq (.ops [mc 4 (ci 0)] []) (sq [mv 5 0,mv 6 1,oo 7 (.call false (cl 146) [.t 5,.t 6,cb true]),mv 4 7] .ret),false⟩
theorem F129 : F 129 = some f129 := by kernel_rfl
def b132_0 : ACode := .seq (sq [mv 16 6,mv 17 0,oo 18 (.lenSl (.t 17)),bi 19 .lss 16 (.t 18)] (.cond (.t 19) .skip (.exit 0))) (.seq (.block 1 (sq [mv 22 0,mv 23 6,oo 24 (.indexSl 3 (.t 22) (.t 23)),ld 25 3 24,oo 7 (.alloc none [.im (.int .i64 0),.im (.str []),.im (.int .i64 0)]),st 3 7 25] (.seq (.ops [mv 26 1,ld 27 3 7,oo 28 (.call false (.t 26) [.t 27]),oo 29 (.un .not (.t 28))] []) (.cond (.t 29) (sq [mv 30 0,mv 31 5,ld 32 3 7,oo 33 (.indexSl 3 (.t 30) (.t 31)),st 3 33 32] (.ops [mv 34 5,bi 35 .add 34 (ci 1),mv 5 35] [])) .skip)))) (.ops [mv 20 6,bi 21 .add 20 (ci 1),mv 6 21] []))
def c132_0 : ACode := .loop b132_0
theorem e132_0 : exec0 Φ Λ' c132_0 tm H K = thenL (Λ' c132_0 tm H) K := rfl
theorem l132_0 : Λ c132_0 tm H = exec0 L Λ b132_0 tm H fun e tm H => match e with
  | .normal => Λ c132_0 tm H
  | .exit i => some (.exit i, tm, H)
  | .goto l => some (.goto l, tm, H)
  | .ret => some (.ret, tm, H) := loop_eq
def f132 : AFunc := ⟨42,[(4,none)],.seq (.ops [oo 4 (.move (.c .nils))] []) (sq [mv 8 0,mv 9 1,oo 10 (.call false (cl 125) [.t 8,.t 9]),mv 5 10] (.seq (sq [mv 11 5,oo 12 (.bin .eql (.t 11) (ci (-1)))] (.cond (.t 12) (sq [mv 13 0,mv 4 13] .ret) .skip)) (.seq (sq [mv 14 5,bi 15 .add 14 (ci 1),mv 6 15] (.block 0 c132_0)) (sq [mv 36 0,mv 37 5,oo 38 (.slice 3 (.t 36) (some (.t 37)) none none),⟨none,.clear 3 [.im (.int .i64 0),.im (.str []),.im (.int .i64 0)] (.t 38),none⟩] (.seq (.ops [mv 39 0,mv 40 5,oo 41 (.slice 3 (.t 39) none (some (.t 40)) none),mv 4 41] []) .ret))))),true⟩
theorem F132 : F 132 = some f132 := by kernel_rfl
def f133 : AFunc := ⟨11,[(3,none)],.seq (.ops [oo 2 (.box none (.t 0)),mc 3 (cb false)] []) (sq [fa 4 2 2,l0 5 4,bi 6 .gtr 5 (ci 0),mv 7 6,og 8 (.load none (.t 1)) 7 true,og 9 (.bin .eql (.t 8) (ci 1)) 7 true,pa 10 7 9,mv 3 10] .ret),false⟩
theorem F133 : F 133 = some f133 := by kernel_rfl
def f134 : AFunc := ⟨19,[(4,none)],.seq (.ops [oo 3 (.box none (.t 0)),mc 4 (cb false)] []) (sq [fa 5 1 3,l0 6 5,l0 7 1,oo 8 (.indexStr (.t 6) (.t 7)),l0 9 2,nc 10 9,fa 11 0 10,l0 12 11,l0 13 2,nc 14 13,fa 15 1 14,l0 16 15,oo 17 (.indexStr (.t 12) (.t 16)),bi 18 .neq 8 (.t 17),mv 4 18] .ret),false⟩
theorem F134 : F 134 = some f134 := by kernel_rfl
def b137_0 : ACode := .seq (sq [mv 22 7,mv 23 1,bi 24 .sub 23 (ci 1),bi 25 .lss 22 (.t 24)] (.cond (.t 25) .skip (.exit 0))) (.seq (.block 1 (sq [mv 29 0,oo 30 (.call false (cl 153) [.t 29]),mv 28 30,ex 31 0 28,ex 32 1 28,mv 8 31,mv 9 32] (.seq (.ops [mv 33 6,mv 34 7,mv 35 0,mv 36 9,oo 37 (.sliceStr (.t 35) none (some (.t 36))),oo 38 (.indexSl 1 (.t 33) (.t 34)),st 1 38 37] []) (.ops [mv 39 0,mv 40 9,oo 41 (.sliceStr (.t 39) (some (.t 40)) none),mv 0 41] [])))) (.ops [mv 26 7,bi 27 .add 26 (ci 1),mv 7 27] []))
def c137_0 : ACode := .loop b137_0
def f137 : AFunc := ⟨50,[(4,none)],.seq (.ops [oo 4 (.move (.c .nils))] []) (sq [mv 10 0,oo 11 (.call false (cl 152) [.t 10]),mv 5 11] (.seq (sq [mv 12 1,bi 13 .lss 12 (ci 0),mv 14 13,og 15 (.move (.t 1)) 14 false,og 16 (.move (.t 5)) 14 false,og 17 (.bin .gtr (.t 15) (.t 16)) 14 false,po 18 14 17] (.cond (.t 18) (.ops [mv 19 5,mv 1 19] []) .skip)) (sq [mv 20 1,oo 21 (.mkslice 16 1 [.im (.str [])] (.t 20) (.t 20)),mv 6 21] (.seq (sq [mc 7 (ci 0)] (.block 0 c137_0)) (.seq (sq [mv 42 1,bi 43 .gtr 42 (ci 0)] (.cond (.t 43) (.ops [mv 44 6,mv 45 1,bi 46 .sub 45 (ci 1),mv 47 0,oo 48 (.indexSl 1 (.t 44) (.t 46)),st 1 48 47] []) .skip)) (sq [mv 49 6,mv 4 49] .ret)))))),false⟩
theorem F137 : F 137 = some f137 := by kernel_rfl
def f139 : AFunc := ⟨8,[(4,none)],.seq (.ops [mc 4 (ci 0)] []) (sq [mv 5 0,mv 6 1,oo 7 (.call false (cl 94) [.t 5,.t 6]),mv 4 7] .ret),false⟩
theorem F139 : F 139 = some f139 := by kernel_rfl
def b145_0 : ACode := sq [bi 9 .lss 8 (.t 7)] (.seq (.cond (.t 9) .skip (.exit 0)) (.seq (.block 1 (sq [mv 10 8,mv 5 10] (.seq (.ops [mv 11 1,mv 12 0,mv 13 5,oo 14 (.indexSl 2 (.t 12) (.t 13)),ld 15 2 14,oo 16 (.call false (.t 11) [.t 15])] []) (.cond (.t 16) (sq [mv 17 5,mv 4 17] .ret) .skip)))) (.ops [bi 18 .add 8 (ci 1),mv 8 18] [])))
def c145_0 : ACode := .loop b145_0
theorem e145_0 : exec0 Φ Λ' c145_0 tm H K = thenL (Λ' c145_0 tm H) K := rfl
theorem l145_0 : Λ c145_0 tm H = exec0 L Λ b145_0 tm H fun e tm H => match e with
  | .normal => Λ c145_0 tm H
  | .exit i => some (.exit i, tm, H)
  | .goto l => some (.goto l, tm, H)
  | .ret => some (.ret, tm, H) := loop_eq
def f145 : AFunc := ⟨19,[(4,none)],.seq (.ops [mc 4 (ci 0)] []) (.seq (sq [mv 6 0,oo 7 (.lenSl (.t 6)),mc 8 (ci 0)] (.block 0 c145_0)) (sq [oo 4 (.move (ci (-1)))] .ret)),false⟩
theorem F145 : F 145 = some f145 := by kernel_rfl
def b146_0 : ACode := sq [oo 11 (.nextS (.t 10)),ex 12 0 11] (.seq (.cond (.t 12) .skip (.exit 0)) (.block 1 (sq [ex 13 1 11,ex 14 2 11,mv 7 13,mv 8 14] (.seq (.ops [mv 15 1,mv 16 8,oo 17 (.call false (.t 15) [.t 16]),mv 18 2,oo 19 (.binB .eql (.t 17) (.t 18))] []) (.cond (.t 19) (sq [mv 20 7,mv 6 20] .ret) .skip)))))
def c146_0 : ACode := .loop b146_0
theorem e146_0 : exec0 Φ Λ' c146_0 tm H K = thenL (Λ' c146_0 tm H) K := rfl
theorem l146_0 : Λ c146_0 tm H = exec0 L Λ b146_0 tm H fun e tm H => match e with
  | .normal => Λ c146_0 tm H
  | .exit i => some (.exit i, tm, H)
  | .goto l => some (.goto l, tm, H)
  | .ret => some (.ret, tm, H) := loop_eq
def f146 : AFunc := ⟨21,[(6,none)],.seq (.ops [mc 6 (ci 0)] []) (.seq (sq [mv 9 0,oo 10 (.rangeS (.t 9))] (.block 0 c146_0)) (sq [oo 6 (.move (ci (-1)))] .ret)),false⟩
theorem F146 : F 146 = some f146 := by kernel_rfl
def b152_0 : ACode := sq [oo 5 (.nextS (.t 4)),ex 6 0 5] (.seq (.cond (.t 6) .skip (.exit 0)) (.block 1 (.ops [mv 7 2,bi 8 .add 7 (ci 1),mv 2 8] [])))
def c152_0 : ACode := .loop b152_0
def f152 : AFunc := ⟨10,[(2,none)],.seq (.ops [mc 2 (ci 0)] []) (.seq (sq [mv 3 0,oo 4 (.rangeS (.t 3))] (.block 0 c152_0)) (sq [mv 9 2,mv 2 9] .ret)),false⟩
theorem F152 : F 152 = some f152 := by kernel_rfl
def f153 : AFunc := ⟨19,[(2,none),(3,none)],.seq (.ops [oo 2 (.move (.c (.im (.int .i32 0)))),mc 3 (ci 0)] []) (.seq (sq [mv 4 0,bi 5 .neq 4 (cs []),mv 6 5,og 7 (.move (.t 0)) 6 true,og 8 (.indexStr (.t 7) (ci 0)) 6 true,og 9 (.bin .lss (.t 8) (.c (.im (.int .u8 128)))) 6 true,pa 10 6 9] (.cond (.t 10) (sq [mv 11 0,oo 12 (.indexStr (.t 11) (ci 0)),oo 13 (.i2i .i32 (.t 12)),mv 2 13,mc 3 (ci 1)] .ret) (.ops [mv 15 0,oo 16 (.call false (cl 163) [.t 15]),mv 14 16,ex 17 0 14,ex 18 1 14,mv 2 17,mv 3 18] []))) .ret),false⟩
theorem F153 : F 153 = some f153 := by kernel_rfl
def f163 : AFunc := ⟨117,[(2,none),(3,none)],.seq (.ops [oo 2 (.move (.c (.im (.int .i32 0)))),mc 3 (ci 0)] []) (sq [mv 13 0,oo 14 (.lenStr (.t 13)),mv 4 14] (.seq (sq [mv 15 4,bi 16 .lss 15 (ci 1)] (.cond (.t 16) (sq [oo 2 (.move (.c (.im (.int .i32 65533)))),mc 3 (ci 0)] .ret) .skip)) (sq [mv 17 0,oo 18 (.indexStr (.t 17) (ci 0)),mv 5 18] (.seq (.ops [mv 19 5,oo 20 (.indexArr 256 1 (.c .any) (.t 19)),l0 21 20,mv 6 21] []) (.seq (sq [mv 22 6,oo 23 (.bin .geq (.t 22) (.c (.im (.int .u8 240))))] (.cond (.t 23) (sq [mv 24 6,oo 25 (.i2i .i32 (.t 24)),oo 26 (.bin .shl (.t 25) (.c (.im (.int .u64 31)))),oo 27 (.bin .shr (.t 26) (.c (.im (.int .u64 31)))),mv 7 27] (.seq (.ops [mv 28 0,oo 29 (.indexStr (.t 28) (ci 0)),oo 30 (.i2i .i32 (.t 29)),mv 31 7,bi 32 .andNot 30 (.t 31),mv 33 7,oo 34 (.bin .and (.c (.im (.int .i32 65533))) (.t 33)),bi 35 .or 32 (.t 34),mv 2 35,mc 3 (ci 1)] []) .ret)) .skip)) (sq [mv 36 6,oo 37 (.bin .and (.t 36) (.c (.im (.int .u8 7)))),oo 38 (.i2i .i64 (.t 37)),mv 8 38] (.seq (.ops [mv 39 6,oo 40 (.bin .shr (.t 39) (.c (.im (.int .u64 4)))),oo 41 (.indexArr 16 2 (.c .any) (.t 40)),ld 42 2 41,oo 9 (.alloc none [.im (.int .u8 0),.im (.int .u8 0)]),st 2 9 42] []) (.seq (sq [mv 43 4,mv 44 8,bi 45 .lss 43 (.t 44)] (.cond (.t 45) (sq [oo 2 (.move (.c (.im (.int .i32 65533)))),mc 3 (ci 1)] .ret) .skip)) (sq [mv 46 0,oo 47 (.indexStr (.t 46) (ci 1)),mv 10 47] (.seq (sq [mv 48 10,fa 49 0 9,l0 50 49,bi 51 .lss 48 (.t 50),mv 52 51,og 53 (.fieldAddr 1 (.t 9)) 52 false,og 54 (.load none (.t 53)) 52 false,og 55 (.move (.t 10)) 52 false,og 56 (.bin .lss (.t 54) (.t 55)) 52 false,po 57 52 56] (.cond (.t 57) (sq [oo 2 (.move (.c (.im (.int .i32 65533)))),mc 3 (ci 1)] .ret) .skip)) (.seq (sq [mv 58 8,bi 59 .leq 58 (ci 2)] (.cond (.t 59) (sq [mv 60 5,oo 61 (.bin .and (.t 60) (.c (.im (.int .u8 31)))),oo 62 (.i2i .i32 (.t 61)),oo 63 (.bin .shl (.t 62) (.c (.im (.int .u64 6)))),mv 64 10,oo 65 (.bin .and (.t 64) (.c (.im (.int .u8 63)))),oo 66 (.i2i .i32 (.t 65)),bi 67 .or 63 (.t 66),mv 2 67,mc 3 (ci 2)] .ret) .skip)) (sq [mv 68 0,oo 69 (.indexStr (.t 68) (ci 2)),mv 11 69] (.seq (sq [mv 70 11,oo 71 (.bin .lss (.t 70) (.c (.im (.int .u8 128)))),mv 72 71,og 73 (.move (.t 11)) 72 false,og 74 (.bin .lss (.c (.im (.int .u8 191))) (.t 73)) 72 false,po 75 72 74] (.cond (.t 75) (sq [oo 2 (.move (.c (.im (.int .i32 65533)))),mc 3 (ci 1)] .ret) .skip)) (.seq (sq [mv 76 8,bi 77 .leq 76 (ci 3)] (.cond (.t 77) (sq [mv 78 5,oo 79 (.bin .and (.t 78) (.c (.im (.int .u8 15)))),oo 80 (.i2i .i32 (.t 79)),oo 81 (.bin .shl (.t 80) (.c (.im (.int .u64 12)))),mv 82 10,oo 83 (.bin .and (.t 82) (.c (.im (.int .u8 63)))),oo 84 (.i2i .i32 (.t 83)),oo 85 (.bin .shl (.t 84) (.c (.im (.int .u64 6)))),bi 86 .or 81 (.t 85),mv 87 11,oo 88 (.bin .and (.t 87) (.c (.im (.int .u8 63)))),oo 89 (.i2i .i32 (.t 88)),bi 90 .or 86 (.t 89),mv 2 90,mc 3 (ci 3)] .ret) .skip)) (sq [mv 91 0,oo 92 (.indexStr (.t 91) (ci 3)),mv 12 92] (.seq (sq [mv 93 12,oo 94 (.bin .lss (.t 93) (.c (.im (.int .u8 128)))),mv 95 94,og 96 (.move (.t 12)) 95 false,og 97 (.bin .lss (.c (.im (.int .u8 191))) (.t 96)) 95 false,po 98 95 97] (.cond (.t 98) (sq [oo 2 (.move (.c (.im (.int .i32 65533)))),mc 3 (ci 1)] .ret) .skip)) (sq [mv 99 5,oo 100 (.bin .and (.t 99) (.c (.im (.int .u8 7)))),oo 101 (.i2i .i32 (.t 100)),oo 102 (.bin .shl (.t 101) (.c (.im (.int .u64 18)))),mv 103 10,oo 104 (.bin .and (.t 103) (.c (.im (.int .u8 63)))),oo 105 (.i2i .i32 (.t 104)),oo 106 (.bin .shl (.t 105) (.c (.im (.int .u64 12)))),bi 107 .or 102 (.t 106),mv 108 11,oo 109 (.bin .and (.t 108) (.c (.im (.int .u8 63)))),oo 110 (.i2i .i32 (.t 109)),oo 111 (.bin .shl (.t 110) (.c (.im (.int .u64 6)))),bi 112 .or 107 (.t 111),mv 113 12,oo 114 (.bin .and (.t 113) (.c (.im (.int .u8 63)))),oo 115 (.i2i .i32 (.t 114)),bi 116 .or 112 (.t 115),mv 2 116,mc 3 (ci 4)] .ret))))))))))))))))),false⟩
theorem F163 : F 163 = some f163 := by kernel_rfl
def T : FuncId → Option AFunc := fun n =>
 if n = 10 then some f10 else
 if n = 11 then some f11 else
 if n = 15 then some f15 else
 if n = 16 then some f16 else
 if n = 34 then some f34 else
 if n = 39 then some f39 else
 if n = 40 then some f40 else
 if n = 45 then some f45 else
 if n = 46 then some f46 else
 if n = 48 then some f48 else
 if n = 49 then some f49 else
 if n = 63 then some f63 else
 if n = 66 then some f66 else
 if n = 67 then some f67 else
 if n = 68 then some f68 else
 if n = 69 then some f69 else
 if n = 70 then some f70 else
 if n = 71 then some f71 else
 if n = 72 then some f72 else
 if n = 74 then some f74 else
 if n = 75 then some f75 else
 if n = 78 then some f78 else
 if n = 79 then some f79 else
 if n = 80 then some f80 else
 if n = 81 then some f81 else
 if n = 82 then some f82 else
 if n = 83 then some f83 else
 if n = 84 then some f84 else
 if n = 93 then some f93 else
 if n = 95 then some f95 else
 if n = 96 then some f96 else
 if n = 97 then some f97 else
 if n = 99 then some f99 else
 if n = 102 then some f102 else
 if n = 103 then some f103 else
 if n = 104 then some f104 else
 if n = 105 then some f105 else
 if n = 106 then some f106 else
 if n = 107 then some f107 else
 if n = 112 then some f112 else
 if n = 117 then some f117 else
 if n = 118 then some f118 else
 if n = 120 then some f120 else
 if n = 121 then some f121 else
 if n = 122 then some f122 else
 if n = 125 then some f125 else
 if n = 126 then some f126 else
 if n = 127 then some f127 else
 if n = 128 then some f128 else
 if n = 129 then some f129 else
 if n = 132 then some f132 else
 if n = 133 then some f133 else
 if n = 134 then some f134 else
 if n = 137 then some f137 else
 if n = 139 then some f139 else
 if n = 145 then some f145 else
 if n = 146 then some f146 else
 if n = 152 then some f152 else
 if n = 153 then some f153 else
 if n = 163 then some f163 else
 none
end Go.Abs.Seat
end
section
set_option linter.unusedVariables false
set_option linter.unusedSimpArgs false
namespace Go.Abs.Seat
open Go.Proofs
abbrev Word := Int × List UInt8 × Int
def encW (w : Word) : List AV := [.im (.int .i64 w.1), .im (.str w.2.1), .im (.int .i64 w.2.2)]
def words : List Word := [(1, [98, 111, 111, 108], 0), (2, [105, 110, 116], 0), (3, [116, 101, 120, 116], 0), (4, [98, 121, 116, 101, 115], 0), (5, [112, 111, 105, 110, 116], 0), (6, [112, 97, 105, 114], 2), (7, [108, 105, 115, 116], 1), (9, [111, 112, 116, 105, 111, 110], 1)]
set_option maxRecDepth 10000 in
theorem s121 (H : Heap) : L 121 [] H = some (.ms 3 H.length 0 8, H ++ [.obj none (words.map encW)]) := by
 rw [leq F121]
 have e : leave H true (.ms 3 H.length 0 8) (H ++ [.obj none (words.map encW)]) = (.ms 3 H.length 0 8, H ++ [.obj none (words.map encW)]) := by
  unfold leave
  rw [if_neg (by simp [refsLt])]
  rfl
 obtain ⟨hlen, -⟩ := enter_at (f := f121) (args := []) (by decide)
 generalize enterA f121 [] = tm at *
 change tm.length = 10 at hlen
 simp only [f121,B0,B2,exec0,xreg,xops,aopc,endK,resA,tupA,List.replicate,binA,isShift,binInt,reduceCtorEq,lenA,seval,hlen]
 rw [← e]
 rfl
theorem s126 (H : Heap) (w : Word) (k' : Int) (id : Nat) (x : AV) (hid : H[id]? = some (.obj none [[.im (.int .i64 k'), x]])) :
  L 126 [.im (.agg [.int .i64 w.1, .str w.2.1, .int .i64 w.2.2]), .ptr id 0 0] H = some (.im (.bool (decide (w.1 = k'))), H) := by
 have hlt := (List.getElem?_eq_some_iff.1 hid).1
 have h2 : ∀ o, (H ++ [o])[id]? = some (.obj none [[.im (.int .i64 k'), x]]) := fun o => by rw [List.getElem?_append_left hlt]; exact hid
 rw [leq F126]
 obtain ⟨hlen, ha⟩ := enter_at (f := f126) (args := [.im (.agg [.int .i64 w.1, .str w.2.1, .int .i64 w.2.2]), .ptr id 0 0]) (Nat.le_of_ble_eq_true rfl)
 have h0 := ha 0 _ rfl
 have h1 := ha 1 _ rfl
 generalize enterA f126 [.im (.agg [.int .i64 w.1, .str w.2.1, .int .i64 w.2.2]), .ptr id 0 0] = tm at *
 change tm.length = 9 at hlen
 simp only [f126,B0,B2,exec0,xreg,xops,aopc,endK,resA,tupA,List.replicate,binA,isShift,binInt,reduceCtorEq,lenA,seval,hlen,h0,h1,h2,leave_app]
theorem l125 (rows : List Word) (idw idt : Nat) (k' : Int) (x : AV) (H : Heap) (hw : H[idw]? = some (.obj none (rows.map encW))) (hid : H[idt]? = some (.obj none [[.im (.int .i64 k'), x]])) (hn : rows.length ≤ 9223372036854775807) :
  ∀ (m i : Nat), i + m = rows.length → ∀ tm : List AV, tm.length = 19 → tm.getD 0 undefA = .ms 3 idw 0 rows.length → tm.getD 1 undefA = .clo 126 [.ptr idt 0 0] → tm.getD 6 undefA = .ms 3 idw 0 rows.length → tm.getD 7 undefA = .im (.int .i64 rows.length) → tm.getD 8 undefA = .im (.int .i64 i) →
  ∃ e tm' H', Λ c125_0 tm H = some (e, tm', H') ∧ tm'.length = 19 ∧ H' = H ∧ match (rows.drop i).findIdx? (fun w => decide (w.1 = k')) with
   | some j => e = .ret ∧ tm'.getD 4 undefA = .im (.int .i64 ((i + j : Nat) : Int))
   | none => e = .exit 0
 | 0, i, hi, tm, hlen, h0, h1, h6, h7, h8 => by
  have e : rows.drop i = [] := by rw [List.drop_eq_nil_iff]; omega
  have hc : decide ((i : Int) < (rows.length : Int)) = false := by simp; omega
  rw [e, l125_0]
  simp only [b125_0,B0,B2,exec0,xreg,xops,aopc,endK,resA,tupA,List.replicate,binA,isShift,binInt,reduceCtorEq,lenA,seval,hlen,h0,h1,h6,h7,h8,hc,List.findIdx?_nil]
  exact ⟨_, _, _, rfl, by simp only [List.length_set,hlen], rfl, rfl⟩
 | m + 1, i, hi, tm, hlen, h0, h1, h6, h7, h8 => by
  have hlt : i < rows.length := by omega
  obtain ⟨w, hwi⟩ : ∃ w, rows[i]? = some w := ⟨_, List.getElem?_eq_getElem hlt⟩
  have e : rows.drop i = w :: rows.drop (i + 1) := by
   rw [List.drop_eq_getElem_cons hlt]
   congr 1
   rw [List.getElem?_eq_getElem hlt] at hwi
   exact Option.some.inj hwi
  have hc : decide ((i : Int) < (rows.length : Int)) = true := by simp; omega
  have hix := idx_nat hlt
  have hget : (rows.map encW)[i]? = some (encW w) := by rw [List.getElem?_map, hwi]; rfl
  have hcall := s126 H w k' idt x hid
  rw [e, List.findIdx?_cons, l125_0]
  by_cases hk : w.1 = k'
  ·have hd : decide (w.1 = k') = true := decide_eq_true hk
   simp only [b125_0,B0,B2,exec0,xreg,xops,aopc,endK,resA,tupA,List.replicate,binA,isShift,binInt,reduceCtorEq,lenA,seval,hlen,h0,h1,h6,h7,h8,hc,hix,hw,hget,encW,hcall,hd]
   exact ⟨_, _, _, rfl, by simp only [List.length_set,hlen], rfl, rfl, by simp only [B3,seval,hlen]⟩
  ·have hd : decide (w.1 = k') = false := decide_eq_false hk
   have hwr := wrap_nat (i := i) (by omega)
   have key := l125 rows idw idt k' x H hw hid hn m (i + 1) (by omega)
   simp only [b125_0,B0,B2,exec0,xreg,xops,aopc,endK,resA,tupA,List.replicate,binA,isShift,binInt,reduceCtorEq,lenA,seval,hlen,h0,h1,h6,h7,h8,hc,hix,hw,hget,encW,hcall,hd,hwr]
   cases hf : (rows.drop (i + 1)).findIdx? (fun w => decide (w.1 = k')) with
   | none =>
    simp only [hf] at key
    simp only [Option.map_none]
    apply key
    all_goals simp only [B3,seval,hlen,h0,h1,h6,h7]
   | some j =>
    simp only [hf] at key
    simp only [Option.map_some]
    rw [show i + (j + 1) = i + 1 + j by omega]
    apply key
    all_goals simp only [B3,seval,hlen,h0,h1,h6,h7]
end Go.Abs.Seat
end
section
set_option linter.unusedVariables false
set_option linter.unusedSimpArgs false
namespace Go.Abs.Seat
open Go.Proofs
theorem s125 (rows : List Word) (idw idt : Nat) (k' : Int) (x : AV) (H : Heap) (hw : H[idw]? = some (.obj none (rows.map encW))) (hid : H[idt]? = some (.obj none [[.im (.int .i64 k'), x]])) (hn : rows.length ≤ 9223372036854775807) :
  L 125 [.ms 3 idw 0 rows.length, .clo 126 [.ptr idt 0 0]] H = some (.im (.int .i64 (match rows.findIdx? (fun w => decide (w.1 = k')) with | some j => ((j : Nat) : Int) | none => -1)), H) := by
 rw [leq F125]
 obtain ⟨hlen, ha⟩ := enter_at (f := f125) (args := [.ms 3 idw 0 rows.length, .clo 126 [.ptr idt 0 0]]) (Nat.le_of_ble_eq_true rfl)
 have h0 := ha 0 _ rfl
 have h1 := ha 1 _ rfl
 generalize enterA f125 [.ms 3 idw 0 rows.length, .clo 126 [.ptr idt 0 0]] = tm at *
 change tm.length = 19 at hlen
 have key := l125 rows idw idt k' x H hw hid hn rows.length 0 (by omega)
 have z : ((0 : Nat) : Int) = 0 := rfl
 simp only [List.drop_zero,Nat.zero_add,z] at key
 simp only [f125,e125_0,B0,B2,exec0,xreg,xops,aopc,endK,resA,tupA,List.replicate,binA,isShift,binInt,reduceCtorEq,lenA,seval,hlen,h0,h1]
 refine thenL_of (key _ ?_ ?_ ?_ ?_ ?_ ?_) ?_
 iterate 6 simp only [B3,seval,hlen,h0,h1]
 rintro e tm' H' ⟨hl', rfl, hm⟩
 cases hf : rows.findIdx? (fun w => decide (w.1 = k')) with
 | none =>
  simp only [hf] at hm
  subst hm
  simp only [B0,B2,exec0,xreg,xops,aopc,endK,resA,tupA,List.replicate,binA,isShift,binInt,reduceCtorEq,lenA,seval,hl',leave_same]
 | some j =>
  simp only [hf] at hm
  obtain ⟨rfl, h4⟩ := hm
  simp only [B0,B2,exec0,xreg,xops,aopc,endK,resA,tupA,List.replicate,binA,isShift,binInt,reduceCtorEq,lenA,seval,hl',leave_same,h4]
inductive KT where
 | mk (k : Int) (s : Nat) (args : List KT)
def KT.k : KT → Int
 | .mk k _ _ => k
def KT.s : KT → Nat
 | .mk _ s _ => s
def KT.args : KT → List KT
 | .mk _ _ args => args
mutual
def encT : KT → List Dat
 | .mk k s args => [.int .i64 k, .sl s (encTs args)]
def encTs : List KT → List (List Dat)
 | [] => []
 | a :: l => encT a :: encTs l
end
theorem encTs_map : ∀ l : List KT, encTs l = l.map encT
 | [] => rfl
 | a :: l => by simp only [encTs,List.map_cons,encTs_map l]
mutual
def okT : KT → Prop
 | .mk _ s args => (args = [] ∨ s = 2) ∧ args.length ≤ 9223372036854775807 ∧ okTs args
def okTs : List KT → Prop
 | [] => True
 | a :: l => okT a ∧ okTs l
end
theorem okTs_mem : ∀ {l : List KT}, okTs l → ∀ a ∈ l, okT a
 | [], _, a, h => by simp at h
 | b :: l, h, a, hm => by
  simp only [okTs] at h
  rcases List.mem_cons.1 hm with rfl | hm
  ·exact h.1
  ·exact okTs_mem h.2 a hm
theorem l145 (args : List KT) (s : Nat) (hs : args = [] ∨ s = 2) (hn : args.length ≤ 9223372036854775807) (p : KT → Bool) (g : FuncId) (cap : List AV) (H : Heap)
  (hc : ∀ a ∈ args, L g ([.im (.agg (encT a))] ++ cap) H = some (.im (.bool (p a)), H)) :
  ∀ (m i : Nat), i + m = args.length → ∀ tm : List AV, tm.length = 19 → tm.getD 0 undefA = .im (.sl s (args.map encT)) → tm.getD 1 undefA = .clo g cap → tm.getD 6 undefA = .im (.sl s (args.map encT)) → tm.getD 7 undefA = .im (.int .i64 args.length) → tm.getD 8 undefA = .im (.int .i64 i) →
  ∃ e tm' H', Λ c145_0 tm H = some (e, tm', H') ∧ tm'.length = 19 ∧ H' = H ∧ match (args.drop i).findIdx? p with
   | some j => e = .ret ∧ tm'.getD 4 undefA = .im (.int .i64 ((i + j : Nat) : Int))
   | none => e = .exit 0
 | 0, i, hi, tm, hlen, h0, h1, h6, h7, h8 => by
  have e : args.drop i = [] := by rw [List.drop_eq_nil_iff]; omega
  have hc : decide ((i : Int) < (args.length : Int)) = false := by simp; omega
  rw [e, l145_0]
  simp only [b145_0,B0,B2,exec0,xreg,xops,aopc,endK,resA,tupA,List.replicate,binA,isShift,binInt,reduceCtorEq,lenA,seval,hlen,h0,h1,h6,h7,h8,hc,List.findIdx?_nil]
  exact ⟨_, _, _, rfl, by simp only [List.length_set,hlen], rfl, rfl⟩
 | m + 1, i, hi, tm, hlen, h0, h1, h6, h7, h8 => by
  have hlt : i < args.length := by omega
  obtain ⟨w, hwi⟩ : ∃ w, args[i]? = some w := ⟨_, List.getElem?_eq_getElem hlt⟩
  have e : args.drop i = w :: args.drop (i + 1) := by
   rw [List.drop_eq_getElem_cons hlt]
   congr 1
   rw [List.getElem?_eq_getElem hlt] at hwi
   exact Option.some.inj hwi
  have hs2 : s = 2 := by
   rcases hs with hs | hs
   ·subst hs; simp at hlt
   ·exact hs
  subst hs2
  have hc' : decide ((i : Int) < (args.length : Int)) = true := by simp; omega
  have hix := idx_nat (n := (args.map encT).length) (i := i) (by simpa using hlt)
  have hget : (args.map encT)[i]? = some (encT w) := by rw [List.getElem?_map, hwi]; rfl
  have hcall := hc w (List.mem_of_getElem? hwi)
  obtain ⟨k, s', ts⟩ := w
  have hwr := wrap_nat (i := i) (by omega)
  have key := l145 args 2 hs hn p g cap H hc m (i + 1) (by omega)
  rw [e, List.findIdx?_cons, l145_0]
  simp only [encT,List.cons_append,List.nil_append] at hcall hget
  cases hp : p (.mk k s' ts) with
  | true =>
   simp only [hp] at hcall
   simp only [b145_0,B0,B2,exec0,xreg,xops,aopc,endK,resA,tupA,List.replicate,binA,isShift,binInt,reduceCtorEq,lenA,seval,hlen,h0,h1,h6,h7,h8,hc',hix,hget,hcall]
   exact ⟨_, _, _, rfl, by simp only [List.length_set,hlen], rfl, rfl, by simp only [B3,seval,hlen]⟩
  | false =>
   simp only [hp] at hcall
   simp only [b145_0,B0,B2,exec0,xreg,xops,aopc,endK,resA,tupA,List.replicate,binA,isShift,binInt,reduceCtorEq,lenA,seval,hlen,h0,h1,h6,h7,h8,hc',hix,hget,hcall,hwr]
   cases hf : (args.drop (i + 1)).findIdx? p with
   | none =>
    simp only [hf] at key
    simp only [Option.map_none]
    apply key
    all_goals simp only [B3,seval,hlen,h0,h1,h6,h7]
   | some j =>
    simp only [hf] at key
    simp only [Option.map_some]
    rw [show i + (j + 1) = i + 1 + j by omega]
    apply key
    all_goals simp only [B3,seval,hlen,h0,h1,h6,h7]
theorem s145 (args : List KT) (s : Nat) (hs : args = [] ∨ s = 2) (hn : args.length ≤ 9223372036854775807) (p : KT → Bool) (g : FuncId) (cap : List AV) (H : Heap)
  (hc : ∀ a ∈ args, L g ([.im (.agg (encT a))] ++ cap) H = some (.im (.bool (p a)), H)) :
  L 145 [.im (.sl s (args.map encT)), .clo g cap] H = some (.im (.int .i64 (match args.findIdx? p with | some j => ((j : Nat) : Int) | none => -1)), H) := by
 rw [leq F145]
 obtain ⟨hlen, ha⟩ := enter_at (f := f145) (args := [.im (.sl s (args.map encT)), .clo g cap]) (Nat.le_of_ble_eq_true rfl)
 have h0 := ha 0 _ rfl
 have h1 := ha 1 _ rfl
 generalize enterA f145 [.im (.sl s (args.map encT)), .clo g cap] = tm at *
 change tm.length = 19 at hlen
 have key := l145 args s hs hn p g cap H hc args.length 0 (by omega)
 have z : ((0 : Nat) : Int) = 0 := rfl
 simp only [List.drop_zero,Nat.zero_add,z] at key
 simp only [f145,e145_0,B0,B2,exec0,xreg,xops,aopc,endK,resA,tupA,List.replicate,binA,isShift,binInt,reduceCtorEq,lenA,seval,hlen,h0,h1]
 refine thenL_of (key _ ?_ ?_ ?_ ?_ ?_ ?_) ?_
 iterate 6 simp only [B3,seval,hlen,h0,h1,List.length_map]
 rintro e tm' H' ⟨hl', rfl, hm⟩
 cases hf : args.findIdx? p with
 | none =>
  simp only [hf] at hm
  subst hm
  simp only [B0,B2,exec0,xreg,xops,aopc,endK,resA,tupA,List.replicate,binA,isShift,binInt,reduceCtorEq,lenA,seval,hl',leave_same]
 | some j =>
  simp only [hf] at hm
  obtain ⟨rfl, h4⟩ := hm
  simp only [B0,B2,exec0,xreg,xops,aopc,endK,resA,tupA,List.replicate,binA,isShift,binInt,reduceCtorEq,lenA,seval,hl',leave_same,h4]
theorem s127 (args : List KT) (s : Nat) (hs : args = [] ∨ s = 2) (hn : args.length ≤ 9223372036854775807) (p : KT → Bool) (g : FuncId) (cap : List AV) (H : Heap)
  (hc : ∀ a ∈ args, L g ([.im (.agg (encT a))] ++ cap) H = some (.im (.bool (p a)), H)) :
  L 127 [.im (.sl s (args.map encT)), .clo g cap] H = some (.im (.bool (args.any p)), H) := by
 have h102 := s145 args s hs hn p g cap H hc
 rw [leq F127]
 obtain ⟨hlen, ha⟩ := enter_at (f := f127) (args := [.im (.sl s (args.map encT)), .clo g cap]) (Nat.le_of_ble_eq_true rfl)
 have h0 := ha 0 _ rfl
 have h1 := ha 1 _ rfl
 generalize enterA f127 [.im (.sl s (args.map encT)), .clo g cap] = tm at *
 change tm.length = 9 at hlen
 simp only [f127,B0,B2,exec0,xreg,xops,aopc,endK,resA,tupA,List.replicate,binA,isShift,binInt,reduceCtorEq,lenA,seval,hlen,h0,h1,h102,leave_same]
 congr 4
 cases hf : args.findIdx? p with
 | none =>
  rw [List.findIdx?_eq_none_iff] at hf
  have : args.any p = false := by simpa using hf
  rw [this]; rfl
 | some j =>
  have : args.any p = true := by
   rw [List.any_eq_true]
   obtain ⟨h1, h2, _⟩ := List.findIdx?_eq_some_iff_getElem.1 hf
   exact ⟨_, List.getElem_mem h1, h2⟩
  rw [this]
  simp
end Go.Abs.Seat
end
section
set_option linter.unusedVariables false
set_option linter.unusedSimpArgs false
namespace Go.Abs.Seat
open Go.Proofs
def kidx (k : Int) : Option Nat := words.findIdx? (fun w => decide (w.1 = k))
def kcnt (i : Nat) : Int := match words[i]? with
 | some w => w.2.2
 | none => 0
mutual
def rightT : KT → Int → Bool
 | .mk k _ args, d => match kidx k with
  | some i => if d < 1 then false else if (args.length : Int) = kcnt i then !rightNot args (d - 1) else false
  | none => false
def rightNot : List KT → Int → Bool
 | [], _ => false
 | a :: l, d => !rightT a d || rightNot l d
end
theorem rightNot_any : ∀ (l : List KT) (d : Int), rightNot l d = l.any fun a => !rightT a d
 | [], d => rfl
 | a :: l, d => by simp only [rightNot,List.any_cons,rightNot_any l d]
theorem kidx_lt {k : Int} {i : Nat} (h : kidx k = some i) : i < 8 ∧ ∃ w, words[i]? = some w ∧ kcnt i = w.2.2 := by
 obtain ⟨h1, _, _⟩ := List.findIdx?_eq_some_iff_getElem.1 h
 refine ⟨h1, words[i], List.getElem?_eq_getElem h1, ?_⟩
 unfold kcnt
 rw [List.getElem?_eq_getElem h1]
theorem wrap_small (z : Int) (h : -9223372036854775808 ≤ z ∧ z < 9223372036854775808) : IntKind.i64.wrap z = z := by
 simp [IntKind.wrap, IntKind.bits, IntKind.signed]
 omega
theorem s128 (a : KT) (d : Int) (hd : 1 ≤ d ∧ d ≤ 1000) (idd : Nat) (H : Heap) (hid : H[idd]? = some (.obj none [[.im (.int .i64 d)]])) (b : Bool) (h51 : ∀ H, L 103 [.im (.agg (encT a)), .im (.int .i64 (d - 1))] H = some (.im (.bool b), H)) :
  L 128 [.im (.agg (encT a)), .ptr idd 0 0] H = some (.im (.bool (!b)), H) := by
 have hlt := (List.getElem?_eq_some_iff.1 hid).1
 have h2 : ∀ o, (H ++ [o])[idd]? = some (.obj none [[.im (.int .i64 d)]]) := fun o => by rw [List.getElem?_append_left hlt]; exact hid
 have hwr := wrap_small (d - 1) (by omega)
 obtain ⟨k, s, ts⟩ := a
 simp only [encT] at h51 ⊢
 rw [leq F128]
 obtain ⟨hlen, ha⟩ := enter_at (f := f128) (args := [.im (.agg [.int .i64 k, .sl s (encTs ts)]), .ptr idd 0 0]) (Nat.le_of_ble_eq_true rfl)
 have h0 := ha 0 _ rfl
 have h1 := ha 1 _ rfl
 generalize enterA f128 [.im (.agg [.int .i64 k, .sl s (encTs ts)]), .ptr idd 0 0] = tm at *
 change tm.length = 9 at hlen
 simp only [f128,B0,B2,exec0,xreg,xops,aopc,endK,resA,tupA,List.replicate,binA,isShift,binInt,reduceCtorEq,lenA,seval,hlen,h0,h1,h2,hwr,h51,leave_app]
theorem s103 : ∀ (t : KT), okT t → ∀ (d : Int), 0 ≤ d → d ≤ 1000 → ∀ H, L 103 [.im (.agg (encT t)), .im (.int .i64 d)] H = some (.im (.bool (rightT t d)), H)
 | .mk k s args, hok, d, hd0, hd1, H => by
  simp only [okT] at hok
  obtain ⟨hs, hn, hoks⟩ := hok
  have h76 := fun H' id (hid : H'[id]? = some (.obj none [[.im (.int .i64 k), .im (.sl s (encTs args))]])) (idw : Nat) (hw : H'[idw]? = some (.obj none (words.map encW))) => s125 words idw id k (.im (.sl s (encTs args))) H' hw hid (by decide)
  simp only [encT]
  rw [leq F103]
  obtain ⟨hlen, ha⟩ := enter_at (f := f103) (args := [.im (.agg [.int .i64 k, .sl s (encTs args)]), .im (.int .i64 d)]) (Nat.le_of_ble_eq_true rfl)
  have h0 := ha 0 _ rfl
  have h1 := ha 1 _ rfl
  generalize enterA f103 [.im (.agg [.int .i64 k, .sl s (encTs args)]), .im (.int .i64 d)] = tm at *
  change tm.length = 31 at hlen
  have h76' := h76 (H ++ [.obj none [[.im (.int .i64 k), .im (.sl s (encTs args))]], .obj none [[.im (.int .i64 d)]], .obj none (words.map encW)]) H.length (by rw [hget0]; rfl) (H.length + 2) (by rw [hget]; rfl)
  simp only [show words.length = 8 from rfl] at h76'
  cases hk : kidx k with
  | none =>
   unfold kidx at hk
   simp only [hk] at h76'
   have e1 : decide ((-1 : Int) < 0) = true := rfl
   simp only [f103,B0,B2,exec0,xreg,xops,aopc,endK,resA,tupA,List.replicate,binA,isShift,binInt,reduceCtorEq,lenA,seval,B4,stays,loadOf,hlen,h0,h1,s121,h76',e1,leave_app]
   have e2 : rightT (.mk k s args) d = false := by
    unfold rightT kidx
    rw [hk]
   rw [e2]
  | some i =>
   obtain ⟨hi8, w, hw, hcw⟩ := kidx_lt hk
   have hk' := hk
   unfold kidx at hk
   simp only [hk] at h76'
   have e1 : decide ((i : Int) < 0) = false := decide_eq_false (by omega)
   by_cases hd : d < 1
   ·have e3 : decide (d < 1) = true := decide_eq_true hd
    have e2 : rightT (.mk k s args) d = false := by
     simp only [rightT,hk',hd,if_true]
    simp only [f103,B0,B2,exec0,xreg,xops,aopc,endK,resA,tupA,List.replicate,binA,isShift,binInt,reduceCtorEq,lenA,seval,B4,stays,loadOf,hlen,h0,h1,s121,h76',e1,e3,leave_app]
    rw [e2]
   ·have e3 : decide (d < 1) = false := decide_eq_false hd
    have hix := idx_nat (n := 8) (i := i) hi8
    have hgw : (words.map encW)[i]? = some (encW w) := by rw [List.getElem?_map, hw]; rfl
    have hel : (encTs args).length = args.length := by rw [encTs_map]; simp
    by_cases hc : (args.length : Int) = w.2.2
    ·have e4 : decide ((args.length : Int) = w.2.2) = true := decide_eq_true hc
     have e2 : rightT (.mk k s args) d = !(args.any fun a => !rightT a (d - 1)) := by
      simp only [rightT,rightNot_any,hk',hd,if_false,hcw,hc,if_true]
     have h78 := s127 args s hs hn (fun a => !rightT a (d - 1)) 128 [.ptr (H.length + 1) 0 0] (H ++ [.obj none [[.im (.int .i64 k), .im (.sl s (encTs args))]], .obj none [[.im (.int .i64 d)]], .obj none (words.map encW), .obj none (words.map encW)])
      (fun a ha => s128 a d ⟨by omega, hd1⟩ (H.length + 1) _ (by rw [hget]; rfl) (rightT a (d - 1)) (fun H' => s103 a (okTs_mem hoks a ha) (d - 1) (by omega) (by omega) H'))
     rw [← encTs_map] at h78
     rw [e2]
     simp only [f103,B0,B2,exec0,xreg,xops,aopc,endK,resA,tupA,List.replicate,binA,isShift,binInt,reduceCtorEq,lenA,seval,B4,stays,loadOf,hlen,h0,h1,s121,h76',e1,e3,hix,hgw,encW,hel,e4,h78,leave_app]
    ·have e4 : decide ((args.length : Int) = w.2.2) = false := decide_eq_false hc
     have e2 : rightT (.mk k s args) d = false := by
      simp only [rightT,hk',hd,if_false,hcw,hc]
     simp only [f103,B0,B2,exec0,xreg,xops,aopc,endK,resA,tupA,List.replicate,binA,isShift,binInt,reduceCtorEq,lenA,seval,B4,stays,loadOf,hlen,h0,h1,s121,h76',e1,e3,hix,hgw,encW,hel,e4,leave_app]
     rw [e2]
termination_by t => SizeOf.sizeOf t
decreasing_by
 have := List.sizeOf_lt_of_mem ha
 simp only [KT.mk.sizeOf_spec]
 omega
end Go.Abs.Seat
end
section
set_option linter.unusedVariables false
set_option linter.unusedSimpArgs false
namespace Go.Abs.Seat
open Go.Proofs
def checkT (t : KT) : Int := if rightT t 6 = true then 0 else 20
theorem s81 (t : KT) (hok : okT t) (H : Heap) : L 81 [.im (.agg (encT t))] H = some (.im (.int .i64 (checkT t)), H) := by
 have h51 := fun H => s103 t hok 6 (by decide) (by decide) H
 obtain ⟨k, s, ts⟩ := t
 simp only [encT] at h51 ⊢
 rw [leq F81]
 obtain ⟨hlen, ha⟩ := enter_at (f := f81) (args := [.im (.agg [.int .i64 k, .sl s (encTs ts)])]) (Nat.le_of_ble_eq_true rfl)
 have h0 := ha 0 _ rfl
 generalize enterA f81 [.im (.agg [.int .i64 k, .sl s (encTs ts)])] = tm at *
 change tm.length = 6 at hlen
 unfold checkT
 cases hr : rightT (.mk k s ts) 6 with
 | true =>
  simp only [hr] at h51
  simp only [f81,B0,B2,exec0,xreg,xops,aopc,endK,resA,tupA,List.replicate,binA,isShift,binInt,reduceCtorEq,lenA,seval,hlen,h0,h51,leave_app]
 | false =>
  simp only [hr] at h51
  simp only [f81,B0,B2,exec0,xreg,xops,aopc,endK,resA,tupA,List.replicate,binA,isShift,binInt,reduceCtorEq,lenA,seval,hlen,h0,h51,leave_app]
mutual
def cloneT : KT → KT
 | .mk k _ args => .mk k (if args.length = 0 then 0 else 2) (cloneTs args)
def cloneTs : List KT → List KT
 | [] => []
 | a :: l => cloneT a :: cloneTs l
end
theorem cloneTs_map : ∀ l : List KT, cloneTs l = l.map cloneT
 | [] => rfl
 | a :: l => by simp only [cloneTs,List.map_cons,cloneTs_map l]
mutual
theorem clone_ok : ∀ (t : KT), okT t → okT (cloneT t)
 | .mk k s args, h => by
  have hl : (cloneTs args).length = args.length := by rw [cloneTs_map]; simp
  simp only [okT] at h
  simp only [cloneT,okT]
  refine ⟨?_, by omega, clone_oks args h.2.2⟩
  by_cases h0 : args.length = 0
  ·left
   have : (cloneTs args).length = 0 := by omega
   exact List.length_eq_zero_iff.1 this
  ·right; rw [if_neg h0]
theorem clone_oks : ∀ (l : List KT), okTs l → okTs (cloneTs l)
 | [], h => by simp only [cloneTs,okTs]
 | a :: l, h => by
  simp only [okTs] at h
  simp only [cloneTs,okTs]
  exact ⟨clone_ok a h.1, clone_oks l h.2⟩
end
mutual
def slim : KT → Prop
 | .mk _ _ args => args.length ≤ 1000000 ∧ slims args
def slims : List KT → Prop
 | [] => True
 | a :: l => slim a ∧ slims l
end
theorem slims_mem : ∀ {l : List KT}, slims l → ∀ a ∈ l, slim a
 | [], _, a, h => by simp at h
 | b :: l, h, a, hm => by
  simp only [slims] at h
  rcases List.mem_cons.1 hm with rfl | hm
  ·exact h.1
  ·exact slims_mem h.2 a hm
theorem l23 (args : List KT) (s : Nat) (hs : args = [] ∨ s = 2) (hn : args.length ≤ 1000000) (H0 : Heap)
  (hc : ∀ a ∈ args, ∀ H, L 23 [.im (.agg (encT a))] H = some (.im (.agg (encT (cloneT a))), H)) :
  ∀ (m i : Nat), i + m = args.length → ∀ (tm : List AV) (M : Heap) (v : AV), Gath 62 2 H0.length v (H0 ++ M) ((args.take i).map fun a => encT (cloneT a)) → tm.length = 23 → tm.getD 3 undefA = v → tm.getD 7 undefA = .im (.sl s (args.map encT)) → tm.getD 8 undefA = .im (.int .i64 args.length) → tm.getD 9 undefA = .im (.int .i64 i) →
  ∃ e tm' H', Λ c23_0 tm (H0 ++ M) = some (e, tm', H') ∧ tm'.length = 23 ∧ e = .exit 0 ∧ tm'.getD 1 undefA = tm.getD 1 undefA ∧ tm'.getD 2 undefA = tm.getD 2 undefA ∧ ∃ M', H' = H0 ++ M' ∧ Gath 62 2 H0.length (tm'.getD 3 undefA) (H0 ++ M') (args.map fun a => encT (cloneT a))
 | 0, i, hi, tm, M, v, hG, hlen, h3, h7, h8, h9 => by
  have hc : decide ((i : Int) < (args.length : Int)) = false := decide_eq_false (by omega)
  rw [l23_0]
  simp only [b23_0,B0,B2,exec0,xreg,xops,aopc,endK,resA,tupA,List.replicate,binA,isShift,binInt,reduceCtorEq,lenA,seval,hlen,h3,h7,h8,h9,hc]
  have e : args.take i = args := List.take_of_length_le (by omega)
  rw [e] at hG
  exact ⟨_, _, _, rfl, by simp only [List.length_set,hlen], rfl, by simp only [B3,seval,hlen], by simp only [B3,seval,hlen], M, rfl, by simp only [B3,seval,hlen,h3]; exact hG⟩
 | m + 1, i, hi, tm, M, v, hG, hlen, h3, h7, h8, h9 => by
  have hlt : i < args.length := by omega
  obtain ⟨w, hwi⟩ : ∃ w, args[i]? = some w := ⟨_, List.getElem?_eq_getElem hlt⟩
  have hs2 : s = 2 := by
   rcases hs with hs | hs
   ·subst hs; simp at hlt
   ·exact hs
  subst hs2
  have hc' : decide ((i : Int) < (args.length : Int)) = true := decide_eq_true (by omega)
  have hix := idx_nat (n := (args.map encT).length) (i := i) (by simpa using hlt)
  have hgw : (args.map encT)[i]? = some (encT w) := by rw [List.getElem?_map, hwi]; rfl
  have hcall := hc w (List.mem_of_getElem? hwi)
  have hwr := wrap_nat (i := i) (by omega)
  have key := l23 args 2 hs hn H0 hc m (i + 1) (by omega)
  have hG2 := hG.more [.obj none [(encT w).map .im]]
  rw [List.append_assoc] at hG2
  obtain ⟨v', M', hap, hG', hok, _⟩ := hG2.push (bytes := 32) (encT (cloneT w)) (by simp; omega) (by decide)
  have htk : (args.take (i + 1)).map (fun a => encT (cloneT a)) = (args.take i).map (fun a => encT (cloneT a)) ++ [encT (cloneT w)] := by
   rw [List.take_add_one, hwi]; simp
  rw [← htk] at hG'
  have hset0 : ∀ o o' : HO, (H0 ++ (M ++ [o])).set (H0.length + M.length) o' = H0 ++ (M ++ [o']) := fun o o' => by
   rw [← List.append_assoc, ← List.append_assoc, ← List.length_append, Go.Abs.hset0]; rfl
  have hgetA : ∀ o, (H0 ++ (M ++ [o]))[H0.length + M.length]? = some o := fun o => by
   rw [← List.append_assoc, ← List.length_append, Go.Abs.hget0]; rfl
  rw [l23_0]
  generalize hcw : cloneT w = cw at *
  obtain ⟨k, s', ts⟩ := w
  obtain ⟨k2, s2, ts2⟩ := cw
  simp only [encT,List.map_cons,List.map_nil] at hcall hgw hap
  simp only [b23_0,B0,B2,exec0,xreg,xops,aopc,endK,resA,tupA,List.replicate,binA,isShift,binInt,reduceCtorEq,lenA,seval,hlen,h3,h7,h8,h9,hc',hix,hgw,hcall,hwr,hgetA,hset0,toDatss,toDats,toDat,elems,hap]
  refine ex_imp (key _ M' v' hG' ?_ ?_ ?_ ?_ ?_) ?_
  iterate 5 simp only [B3,seval,hlen,h3,h7,h8,h9]
  rintro e tm' H' ⟨hl', he, g1, g2, hM⟩
  refine ⟨hl', he, ?_, ?_, hM⟩
  ·rw [g1]; simp only [B3,seval,hlen]
  ·rw [g2]; simp only [B3,seval,hlen]
theorem s23 : ∀ (t : KT), okT t → slim t → ∀ H, L 23 [.im (.agg (encT t))] H = some (.im (.agg (encT (cloneT t))), H)
 | .mk k s args, hok, hnw, H => by
  simp only [okT] at hok
  obtain ⟨hs, _, hoks⟩ := hok
  simp only [slim] at hnw
  obtain ⟨hn, hnws⟩ := hnw
  have hc : ∀ a ∈ args, ∀ H, L 23 [.im (.agg (encT a))] H = some (.im (.agg (encT (cloneT a))), H) := fun a ha H => s23 a (okTs_mem hoks a ha) (slims_mem hnws a ha) H
  have key := l23 args s hs (by omega) (H ++ [.obj none [[.im (.int .i64 k), .im (.sl s (encTs args))]], .obj none [[.im (.int .i64 0), .nils]]]) hc args.length 0 (by omega)
  have z : ((0 : Nat) : Int) = 0 := rfl
  simp only [z] at key
  have hel : (encTs args).length = args.length := by rw [encTs_map]; simp
  simp only [encT]
  rw [leq F23]
  obtain ⟨hlen, ha⟩ := enter_at (f := f23) (args := [.im (.agg [.int .i64 k, .sl s (encTs args)])]) (Nat.le_of_ble_eq_true rfl)
  have h0 := ha 0 _ rfl
  generalize enterA f23 [.im (.agg [.int .i64 k, .sl s (encTs args)])] = tm at *
  change tm.length = 23 at hlen
  simp only [f23,e23_0,B0,B2,exec0,xreg,xops,aopc,endK,resA,tupA,List.replicate,binA,isShift,binInt,reduceCtorEq,lenA,seval,hlen,h0,hel]
  have key := fun tm => key tm [] .nils (.inl ⟨rfl, rfl⟩)
  simp only [List.append_nil] at key
  refine thenL_of (key _ ?_ ?_ ?_ ?_ ?_) ?_
  iterate 5 simp only [B3,seval,hlen,h0,encTs_map]
  rintro e tm' H' ⟨hl', rfl, g1, g2, M, rfl, hG⟩
  simp only [B3,seval,hlen] at g1 g2
  have hm : encTs (cloneTs args) = args.map fun a => encT (cloneT a) := by rw [encTs_map, cloneTs_map, List.map_map]; rfl
  rcases hG with ⟨hes, hv⟩ | ⟨hes, tok, _, hv, _⟩
  ·have ha0 : args = [] := by simpa using hes
   have e1 : toDat (.agg [.im (.int .i64 k), .nils]) = some (.agg (encT (cloneT (.mk k s args)))) := by
    simp [toDat, toDats, cloneT, encT, ha0, encTs, cloneTs]
   have hlv := fun L' => leave_one (H := H) (M := L') e1
   simp only [cloneT,encT] at hlv ⊢
   simp only [B0,B2,exec0,xreg,xops,aopc,endK,resA,tupA,List.replicate,binA,isShift,binInt,reduceCtorEq,lenA,seval,hl',g1,g2,hv,toDatss,toDats,toDat,hlv]
  ·have ha0 : args.length ≠ 0 := by simpa using hes
   have e1 : toDat (.agg [.im (.int .i64 k), .asl 2 (args.map fun a => encT (cloneT a)) tok]) = some (.agg (encT (cloneT (.mk k s args)))) := by
    simp only [toDat,toDats,cloneT,encT,if_neg ha0,hm]
   have hlv := fun L' => leave_one (H := H) (M := L') e1
   simp only [cloneT,encT] at hlv ⊢
   simp only [B0,B2,exec0,xreg,xops,aopc,endK,resA,tupA,List.replicate,binA,isShift,binInt,reduceCtorEq,lenA,seval,hl',g1,g2,hv,toDatss,toDats,toDat,hlv]
termination_by t => SizeOf.sizeOf t
decreasing_by
 have := List.sizeOf_lt_of_mem ha
 simp only [KT.mk.sizeOf_spec]
 omega
mutual
def smallT : KT → Int → Int → Bool × Int
 | .mk _ _ args, left, d => if left - 1 < 0 ∨ d = 0 then (false, left - 1) else smallTs args (left - 1) (d - 1)
def smallTs : List KT → Int → Int → Bool × Int
 | [], left, _ => (true, left)
 | a :: l, left, d => if (smallT a left d).1 = true then smallTs l (smallT a left d).2 d else (false, (smallT a left d).2)
end
mutual
theorem smallT_left : ∀ (t : KT) (left d : Int), 0 ≤ left → -1 ≤ (smallT t left d).2 ∧ (smallT t left d).2 ≤ left ∧ ((smallT t left d).1 = true → 0 ≤ (smallT t left d).2)
 | .mk _ _ args, left, d, h => by
  simp only [smallT]
  split
  ·refine ⟨by simp only; omega, by simp only; omega, by simp⟩
  ·have := smallTs_left args (left - 1) (d - 1) (by omega)
   exact ⟨this.1, by omega, this.2.2⟩
theorem smallTs_left : ∀ (l : List KT) (left d : Int), 0 ≤ left → -1 ≤ (smallTs l left d).2 ∧ (smallTs l left d).2 ≤ left ∧ ((smallTs l left d).1 = true → 0 ≤ (smallTs l left d).2)
 | [], left, d, h => by
  simp only [smallTs]
  exact ⟨by omega, by omega, fun _ => h⟩
 | a :: l, left, d, h => by
  have h1 := smallT_left a left d h
  simp only [smallTs]
  split
  ·rename_i hb
   have h2 := smallTs_left l (smallT a left d).2 d (h1.2.2 hb)
   exact ⟨h2.1, by omega, h2.2.2⟩
  ·exact ⟨h1.1, h1.2.1, by simp⟩
end
def numO (n : Int) : HO := .obj none [[.im (.int .i64 n)]]
theorem l50 (args : List KT) (s : Nat) (hs : args = [] ∨ s = 2) (hn : args.length ≤ 9223372036854775807) (d : Int) (hd : 1 ≤ d ∧ d ≤ 1000) (idl : Nat) (H0 : Heap) (hid : idl < H0.length)
  (hc : ∀ a ∈ args, ∀ (n : Int), 0 ≤ n → n ≤ 1000000 → ∀ (H : Heap), H[idl]? = some (numO n) → L 50 [.im (.agg (encT a)), .ptr idl 0 0, .im (.int .i64 (d - 1))] H = some (.im (.bool (smallT a n (d - 1)).1), H.set idl (numO (smallT a n (d - 1)).2))) :
  ∀ (m i : Nat), i + m = args.length → ∀ (tm : List AV) (M : Heap) (n : Int), 0 ≤ n → n ≤ 1000000 → tm.length = 36 → tm.getD 1 undefA = .ptr idl 0 0 → tm.getD 2 undefA = .im (.int .i64 d) → tm.getD 23 undefA = .im (.sl s (args.map encT)) → tm.getD 24 undefA = .im (.int .i64 args.length) → tm.getD 25 undefA = .im (.int .i64 i) →
  ∃ e tm' H', Λ c50_0 tm (H0.set idl (numO n) ++ M) = some (e, tm', H') ∧ tm'.length = 36 ∧ (∃ M', H' = H0.set idl (numO (smallTs (args.drop i) n (d - 1)).2) ++ M') ∧
   if (smallTs (args.drop i) n (d - 1)).1 = true then e = .exit 0 else e = .ret ∧ tm'.getD 6 undefA = .im (.bool false)
 | 0, i, hi, tm, M, n, hn0, hn1, hlen, h1, h2, h23, h24, h25 => by
  have e : args.drop i = [] := by rw [List.drop_eq_nil_iff]; omega
  have hc : decide ((i : Int) < (args.length : Int)) = false := decide_eq_false (by omega)
  rw [l50_0, e]
  simp only [smallTs,if_true]
  simp only [b50_0,B0,B2,exec0,xreg,xops,aopc,endK,resA,tupA,List.replicate,binA,isShift,binInt,reduceCtorEq,lenA,seval,hlen,h1,h2,h23,h24,h25,hc]
  exact ⟨_, _, _, rfl, by simp only [List.length_set,hlen], ⟨_, rfl⟩, rfl⟩
 | m + 1, i, hi, tm, M, n, hn0, hn1, hlen, h1, h2, h23, h24, h25 => by
  have hlt : i < args.length := by omega
  obtain ⟨w, hwi⟩ : ∃ w, args[i]? = some w := ⟨_, List.getElem?_eq_getElem hlt⟩
  have e : args.drop i = w :: args.drop (i + 1) := by
   rw [List.drop_eq_getElem_cons hlt]
   congr 1
   rw [List.getElem?_eq_getElem hlt] at hwi
   exact Option.some.inj hwi
  have hs2 : s = 2 := by
   rcases hs with hs | hs
   ·subst hs; simp at hlt
   ·exact hs
  subst hs2
  have hc' : decide ((i : Int) < (args.length : Int)) = true := decide_eq_true (by omega)
  have hix := idx_nat (n := (args.map encT).length) (i := i) (by simpa using hlt)
  have hgw : (args.map encT)[i]? = some (encT w) := by rw [List.getElem?_map, hwi]; rfl
  have hcall := hc w (List.mem_of_getElem? hwi) n hn0 hn1 (H0.set idl (numO n) ++ (M ++ [.obj none [(encT w).map .im]])) (by rw [get_app (by simpa using hid), List.getElem?_set_self hid])
  rw [set_app (by simpa using hid), List.set_set] at hcall
  have hsl := smallT_left w n (d - 1) hn0
  have hwr := wrap_nat (i := i) (by omega)
  have hwd := wrap_small (d - 1) (by omega)
  have key := l50 args 2 hs hn d hd idl H0 hid hc m (i + 1) (by omega)
  rw [l50_0, e]
  simp only [smallTs]
  have hset0 : ∀ o o' : HO, (H0.set idl (numO n) ++ (M ++ [o])).set ((H0.set idl (numO n)).length + M.length) o' = H0.set idl (numO n) ++ (M ++ [o']) := fun o o' => by
   rw [← List.append_assoc, ← List.append_assoc, ← List.length_append, Go.Abs.hset0]; rfl
  have hgetA : ∀ o, (H0.set idl (numO n) ++ (M ++ [o]))[(H0.set idl (numO n)).length + M.length]? = some o := fun o => by
   rw [← List.append_assoc, ← List.length_append, Go.Abs.hget0]; rfl
  rw [List.length_set] at hset0 hgetA
  rcases Bool.eq_false_or_eq_true (smallT w n (d - 1)).1 with hb | hb
  ·simp only [hb,if_true] at hcall hsl ⊢
   generalize (smallT w n (d - 1)).2 = n' at *
   obtain ⟨k, s', ts⟩ := w
   simp only [encT,List.map_cons,List.map_nil] at hcall hgw
   simp only [b50_0,B0,B2,exec0,xreg,xops,aopc,endK,resA,tupA,List.replicate,binA,isShift,binInt,reduceCtorEq,lenA,seval,hlen,h1,h2,h23,h24,h25,hc',hix,hgw,hcall,hwr,hwd,hgetA,hset0]
   refine ex_imp (key _ _ n' (by have := hsl.2.2 trivial; omega) (by omega) ?_ ?_ ?_ ?_ ?_ ?_) ?_
   iterate 6 simp only [B3,seval,hlen,h1,h2,h23,h24,h25]
   exact fun e tm' H' h => h
  ·simp only [hb,Bool.false_eq_true,if_false] at hcall hsl ⊢
   generalize (smallT w n (d - 1)).2 = n' at *
   obtain ⟨k, s', ts⟩ := w
   simp only [encT,List.map_cons,List.map_nil] at hcall hgw
   simp only [b50_0,B0,B2,exec0,xreg,xops,aopc,endK,resA,tupA,List.replicate,binA,isShift,binInt,reduceCtorEq,lenA,seval,hlen,h1,h2,h23,h24,h25,hc',hix,hgw,hcall,hwr,hwd,hgetA,hset0]
   exact ⟨_, _, _, rfl, by simp only [List.length_set,hlen], ⟨_, rfl⟩, rfl, by simp only [B3,seval,hlen]⟩
theorem s50 : ∀ (t : KT), okT t → ∀ (n d : Int), 0 ≤ n → n ≤ 1000000 → 0 ≤ d → d ≤ 1000 → ∀ (idl : Nat) (H : Heap), H[idl]? = some (numO n) →
  L 50 [.im (.agg (encT t)), .ptr idl 0 0, .im (.int .i64 d)] H = some (.im (.bool (smallT t n d).1), H.set idl (numO (smallT t n d).2))
 | .mk k s args, hok, n, d, hn0, hn1, hd0, hd1, idl, H, hid => by
  simp only [okT] at hok
  obtain ⟨hs, hn, hoks⟩ := hok
  have hlt := (List.getElem?_eq_some_iff.1 hid).1
  have hgl : ∀ M : Heap, (H ++ M)[idl]? = some (numO n) := fun M => by rw [get_app hlt]; exact hid
  have hsl : ∀ (M : Heap) o, (H ++ M).set idl o = H.set idl o ++ M := fun M o => set_app hlt
  have hgs : ∀ (M : Heap) o, (H.set idl o ++ M)[idl]? = some o := fun M o => by rw [get_app (by simpa using hlt), List.getElem?_set_self hlt]
  have hgt : ∀ (o x : HO), (H.set idl o ++ [x])[H.length]? = some x := fun o x => by
   have := Go.Abs.hget0 (H := H.set idl o) (l := [x])
   rwa [List.length_set] at this
  have hel : (encTs args).length = args.length := by rw [encTs_map]; simp
  have hwn := wrap_small (n - 1) (by omega)
  have key := fun (hd : 1 ≤ d) => l50 args s hs hn d ⟨hd, hd1⟩ idl H hlt (fun a ha n hn0 hn1 H' hH' => s50 a (okTs_mem hoks a ha) n (d - 1) hn0 hn1 (by omega) (by omega) idl H' hH') args.length 0 (by omega)
  have z : ((0 : Nat) : Int) = 0 := rfl
  simp only [List.drop_zero,z] at key
  simp only [encT]
  rw [leq F50]
  obtain ⟨hlen, ha⟩ := enter_at (f := f50) (args := [.im (.agg [.int .i64 k, .sl s (encTs args)]), .ptr idl 0 0, .im (.int .i64 d)]) (Nat.le_of_ble_eq_true rfl)
  have h0 := ha 0 _ rfl
  have h1 := ha 1 _ rfl
  have h2 := ha 2 _ rfl
  generalize enterA f50 [.im (.agg [.int .i64 k, .sl s (encTs args)]), .ptr idl 0 0, .im (.int .i64 d)] = tm at *
  change tm.length = 36 at hlen
  have hlv : ∀ (b : Bool) (M : Heap) (v : Int), leave H false (.im (.bool b)) (H.set idl (.obj none [[.im (.int .i64 v)]]) ++ M) = (.im (.bool b), H.set idl (.obj none [[.im (.int .i64 v)]])) := fun b M v => leave_set
  simp only [numO] at hgl hlv hgs
  by_cases hn2 : n - 1 < 0
  ·have e1 : decide (n - 1 < 0) = true := decide_eq_true hn2
   simp only [smallT,hn2,true_or,if_true]
   simp only [f50,e50_0,B0,B2,exec0,xreg,xops,aopc,endK,resA,tupA,List.replicate,binA,isShift,binInt,reduceCtorEq,lenA,seval,hlen,h0,h1,h2,hel,hgl,hsl,hgs,hwn,e1,hlv,numO]
  ·have e1 : decide (n - 1 < 0) = false := decide_eq_false hn2
   by_cases hd2 : d = 0
   ·have e2 : decide (d = 0) = true := decide_eq_true hd2
    simp only [smallT,hn2,hd2,or_true,if_true]
    subst hd2
    simp only [f50,e50_0,B0,B2,exec0,xreg,xops,aopc,endK,resA,tupA,List.replicate,binA,isShift,binInt,reduceCtorEq,lenA,seval,hlen,h0,h1,h2,hel,hgl,hsl,hgs,hwn,e1,hlv,numO]
   ·have e2 : decide (d = 0) = false := decide_eq_false hd2
    simp only [smallT,hn2,hd2,or_self,if_false]
    simp only [f50,e50_0,B0,B2,exec0,xreg,xops,aopc,endK,resA,tupA,List.replicate,binA,isShift,binInt,reduceCtorEq,lenA,seval,hlen,h0,h1,h2,hel,hgl,hsl,hgs,hgt,hwn,e1,e2]
    have key := key (by omega)
    simp only [numO] at key
    refine thenL_of (key _ _ (n - 1) (by omega) (by omega) ?_ ?_ ?_ ?_ ?_ ?_) ?_
    iterate 6 simp only [B3,seval,hlen,h0,h1,h2,encTs_map]
    rintro e tm' H' ⟨hl', ⟨M, rfl⟩, hb⟩
    rcases Bool.eq_false_or_eq_true (smallTs args (n - 1) (d - 1)).1 with hq | hq
    ·simp only [hq,if_true] at hb
     subst hb
     simp only [B0,B2,exec0,xreg,xops,aopc,endK,resA,tupA,List.replicate,binA,isShift,binInt,reduceCtorEq,lenA,seval,hl',hlv,numO,hq]
    ·simp only [hq,Bool.false_eq_true,if_false] at hb
     obtain ⟨rfl, h6⟩ := hb
     simp only [B0,B2,exec0,xreg,xops,aopc,endK,resA,tupA,List.replicate,binA,isShift,binInt,reduceCtorEq,lenA,seval,hl',h6,hlv,numO,hq]
termination_by t => SizeOf.sizeOf t
decreasing_by
 have := List.sizeOf_lt_of_mem ha
 simp only [KT.mk.sizeOf_spec]
 omega
mutual
theorem small_slim : ∀ (t : KT) (left d : Int), 0 ≤ left → left ≤ 1000000 → (smallT t left d).1 = true → (smallT t left d).2 + 1 ≤ left ∧ slim t
 | .mk k s args, left, d, h0, h1, h => by
  simp only [smallT] at h ⊢
  split at h
  ·cases h
  ·rename_i hc
   rw [if_neg hc]
   have := small_slims args (left - 1) (d - 1) (by omega) (by omega) h
   refine ⟨by have := this.1; omega, ?_⟩
   simp only [slim]
   have h2 := smallTs_left args (left - 1) (d - 1) (by omega)
   have h3 := h2.2.2 h
   have h4 := this.1
   exact ⟨by omega, this.2⟩
theorem small_slims : ∀ (l : List KT) (left d : Int), 0 ≤ left → left ≤ 1000000 → (smallTs l left d).1 = true → (smallTs l left d).2 + (l.length : Int) ≤ left ∧ slims l
 | [], left, d, h0, h1, h => by simp only [smallTs,List.length_nil,slims]; exact ⟨by omega, trivial⟩
 | a :: l, left, d, h0, h1, h => by
  have hst : smallTs (a :: l) left d = if (smallT a left d).1 = true then smallTs l (smallT a left d).2 d else (false, (smallT a left d).2) := rfl
  rw [hst] at h ⊢
  split at h
  ·rename_i ha
   rw [if_pos ha]
   have q1 := small_slim a left d h0 h1 ha
   have q2 := smallT_left a left d h0
   have q3 := small_slims l _ d (q2.2.2 ha) (by omega) h
   simp only [List.length_cons,slims]
   exact ⟨by have := q1.1; have := q3.1; omega, q1.2, q3.2⟩
  ·cases h
end
end Go.Abs.Seat
end
section
set_option linter.unusedVariables false
set_option linter.unusedSimpArgs false
namespace Go.Abs.Seat
open Go.Proofs
def rowsI (l : List Int) : List (List Dat) := l.map fun x => [.int .i64 x]
theorem rowsI_len (l : List Int) : (rowsI l).length = l.length := List.length_map ..
structure GN where
 op : Int
 ins : List Int
 si : Nat
 side : List Int
 ss : Nat
 txt : List UInt8
 ty : KT
 fk : Int
 fs : Int
 fp : Int
 fo : Int
 te : Int
 tl : Int
 tt : Int
 acc : Bool
def encG (g : GN) : List Dat := [.int .i64 g.op, .sl g.si (rowsI g.ins), .sl g.ss (rowsI g.side), .str g.txt, .int .i64 g.ty.k, .sl g.ty.s (encTs g.ty.args), .int .i64 g.fk, .int .i64 g.fs, .int .i64 g.fp, .int .i64 g.fo, .int .i64 g.te, .int .i64 g.tl, .int .i64 g.tt, .bool g.acc]
structure GOk (g : GN) : Prop where
 ty : okT g.ty
 si : g.ins = [] ∨ g.si = 1
 ss : g.side = [] ∨ g.ss = 1
 il : g.ins.length ≤ 9223372036854775807
 sl : g.side.length ≤ 9223372036854775807
 xl : g.txt.length ≤ 9223372036854775807
theorem encT_eq (t : KT) : encT t = [.int .i64 t.k, .sl t.s (encTs t.args)] := by
 obtain ⟨k, s, a⟩ := t
 simp only [encT,KT.k,KT.s,KT.args]
def bigG (g : GN) : Bool := (decide (100 < (g.ins.length : Int)) || decide (100 < (g.side.length : Int))) || decide (5000 < (g.txt.length : Int))
def smallG : List GN → Int → Bool
 | [], _ => true
 | g :: l, left => if bigG g = true then false else if (smallT g.ty left 30).1 = true then smallG l (smallT g.ty left 30).2 else false
theorem l17 (l : List GN) (s : Nat) (hs : l = [] ∨ s = 14) (hok : ∀ g ∈ l, GOk g) (hn : l.length ≤ 1000) (H : Heap) :
  ∀ (m i : Nat), i + m = l.length → ∀ (n : Int), 0 ≤ n → n ≤ 1000000 → ∀ (tm : List AV) (J : Heap), tm.length = 38 → tm.getD 3 undefA = .ptr H.length 0 0 → tm.getD 9 undefA = .im (.sl s (l.map encG)) → tm.getD 10 undefA = .im (.int .i64 (l.length : Int)) → tm.getD 11 undefA = .im (.int .i64 (i : Int)) →
  ∃ e tm' H', Λ c17_0 tm (H ++ numO n :: J) = some (e, tm', H') ∧ (tm'.length = 38 ∧ (∃ J', H' = H ++ J') ∧ ((e = .exit 0 ∧ smallG (l.drop i) n = true) ∨ (e = .ret ∧ smallG (l.drop i) n = false ∧ tm'.getD 2 undefA = .im (.bool false))))
 | 0, i, hi, n, hn0, hn1, tm, J, hlen, h3, h9, h10, h11 => by
  have e : l.drop i = [] := by rw [List.drop_eq_nil_iff]; omega
  have hc : decide ((i : Int) < (l.length : Int)) = false := decide_eq_false (by omega)
  rw [e, l17_0]
  simp only [b17_0,B0,B1,B2,List.replicate,reduceCtorEq,lenA,seval,hlen,h10,h11,hc]
  exact ⟨_, _, _, rfl, by simp only [List.length_set,hlen], ⟨_, rfl⟩, .inl ⟨rfl, rfl⟩⟩
 | m + 1, i, hi, n, hn0, hn1, tm, J, hlen, h3, h9, h10, h11 => by
  have hlt : i < l.length := by omega
  obtain ⟨w, hwi⟩ : ∃ w, l[i]? = some w := ⟨_, List.getElem?_eq_getElem hlt⟩
  have e : l.drop i = w :: l.drop (i + 1) := by
   rw [List.drop_eq_getElem_cons hlt]
   congr 1
   rw [List.getElem?_eq_getElem hlt] at hwi
   exact Option.some.inj hwi
  have hs2 : s = 14 := by
   rcases hs with hs | hs
   ·subst hs; simp at hlt
   ·exact hs
  subst hs2
  have hw := hok w (List.mem_of_getElem? hwi)
  have hml : (l.map encG).length = l.length := List.length_map ..
  have hc' : decide ((i : Int) < (l.length : Int)) = true := decide_eq_true (by omega)
  have hix := idx_nat (n := l.length) (i := i) hlt
  have hgw : (l.map encG)[i]? = some (encG w) := by rw [List.getElem?_map, hwi]; rfl
  have hwr := wrap_nat (i := i) (by omega)
  have hil := rowsI_len w.ins
  have hsl := rowsI_len w.side
  have hst := smallT_left w.ty n 30 hn0
  have c50 := fun (o : HO) => s50 w.ty hw.ty n 30 hn0 hn1 (by decide) (by decide) H.length (H ++ numO n :: (J ++ [o])) (by rw [hget0]; rfl)
  have key := l17 l 14 hs hok hn H m (i + 1) (by omega)
  have hj : (H ++ numO n :: J).length = H.length + 1 + J.length := by simp; omega
  have hap' : ∀ o : HO, (H ++ numO n :: J) ++ [o] = H ++ numO n :: (J ++ [o]) := fun o => by simp
  have hgl : ∀ (x : HO) (o : HO), (H ++ x :: (J ++ [o]))[H.length + 1 + J.length]? = some o := fun x o => by
   rw [show H.length + 1 + J.length = H.length + (1 + J.length) by omega, hget (1 + J.length), show 1 + J.length = J.length + 1 by omega]
   simp
  have hsl2 : ∀ (x o o' : HO), (H ++ x :: (J ++ [o])).set (H.length + 1 + J.length) o' = H ++ x :: (J ++ [o']) := fun x o o' => by
   rw [show H.length + 1 + J.length = H.length + (1 + J.length) by omega, hset (1 + J.length), show 1 + J.length = J.length + 1 by omega]
   simp [List.set_append_right]
  have hs0 : ∀ (x y : HO) (K : Heap), (H ++ x :: K).set H.length y = H ++ y :: K := fun x y K => by rw [hset0]; rfl
  simp only [hs0,encT_eq] at c50
  generalize hno : numO n = no at *
  rw [l17_0, e]
  generalize hz : smallG (w :: l.drop (i + 1)) n = z
  simp only [smallG,bigG] at hz
  have hE : encG w = [.int .i64 w.op, .sl w.si (rowsI w.ins), .sl w.ss (rowsI w.side), .str w.txt, .int .i64 w.ty.k, .sl w.ty.s (encTs w.ty.args), .int .i64 w.fk, .int .i64 w.fs, .int .i64 w.fp, .int .i64 w.fo, .int .i64 w.te, .int .i64 w.tl, .int .i64 w.tt, .bool w.acc] := rfl
  rw [hE] at hgw
  cases b1 : decide (100 < (w.ins.length : Int)) with
  | true =>
   simp only [b17_0,B0,B1,B2,List.replicate,reduceCtorEq,lenA,seval,B5,pairK,B4,stays,loadOf,hlen,h3,h9,h10,h11,hc',hml,hix,hgw,hwr,hj,hap',hgl,hsl2,hil,hsl,b1]
   refine ⟨_, _, _, rfl, by simp only [List.length_set,hlen], ⟨_, rfl⟩, .inr ⟨rfl, ?_, by simp only [B3,seval,hlen]⟩⟩
   rw [← hz]; simp [b1]
  | false =>
  cases b2 : decide (100 < (w.side.length : Int)) with
  | true =>
   simp only [b17_0,B0,B1,B2,List.replicate,reduceCtorEq,lenA,seval,B5,pairK,B4,stays,loadOf,hlen,h3,h9,h10,h11,hc',hml,hix,hgw,hwr,hj,hap',hgl,hsl2,hil,hsl,b1,b2]
   refine ⟨_, _, _, rfl, by simp only [List.length_set,hlen], ⟨_, rfl⟩, .inr ⟨rfl, ?_, by simp only [B3,seval,hlen]⟩⟩
   rw [← hz]; simp [b2]
  | false =>
  cases b3 : decide (5000 < (w.txt.length : Int)) with
  | true =>
   simp only [b17_0,B0,B1,B2,List.replicate,reduceCtorEq,lenA,seval,B5,pairK,B4,stays,loadOf,hlen,h3,h9,h10,h11,hc',hml,hix,hgw,hwr,hj,hap',hgl,hsl2,hil,hsl,b1,b2,b3]
   refine ⟨_, _, _, rfl, by simp only [List.length_set,hlen], ⟨_, rfl⟩, .inr ⟨rfl, ?_, by simp only [B3,seval,hlen]⟩⟩
   rw [← hz]; simp [b3]
  | false =>
   have key' := fun (x : Int) (h0 : 0 ≤ x) (h1 : x ≤ 1000000) tm J => key x h0 h1 tm J
   cases b4 : (smallT w.ty n 30).1 with
   | false =>
    rw [b4] at c50
    simp only [b17_0,B0,B1,B2,List.replicate,reduceCtorEq,lenA,seval,B5,pairK,B4,stays,loadOf,hlen,h3,h9,h10,h11,hc',hml,hix,hgw,hwr,hj,hap',hgl,hsl2,hil,hsl,b1,b2,b3,c50]
    refine ⟨_, _, _, rfl, by simp only [List.length_set,hlen], ⟨_, rfl⟩, .inr ⟨rfl, ?_, by simp only [B3,seval,hlen]⟩⟩
    rw [← hz]; simp [b4]
   | true =>
    rw [b4] at c50
    have hk := key' (smallT w.ty n 30).2 (hst.2.2 b4) (by have := hst.2.1; omega)
    simp only [b17_0,B0,B1,B2,List.replicate,reduceCtorEq,lenA,seval,B5,pairK,B4,stays,loadOf,hlen,h3,h9,h10,h11,hc',hml,hix,hgw,hwr,hj,hap',hgl,hsl2,hil,hsl,b1,b2,b3,c50]
    refine ex_imp (hk _ _ ?_ ?_ ?_ ?_ ?_) ?_
    iterate 5 simp only [B3,seval,hlen,h3,h9,h10,h11]
    all_goals (try rfl)
    have hzz : smallG (l.drop (i + 1)) (smallT w.ty n 30).2 = z := by
     rw [← hz]; simp [b1, b2, b3, b4]
    rw [hzz]
    exact fun e tm' H' h => h
def smallsB (l : List GN) : Bool := if 100 < (l.length : Int) then false else smallG l 5000
theorem s17 (l : List GN) (s : Nat) (hs : l = [] ∨ s = 14) (hok : ∀ g ∈ l, GOk g) (hn : l.length ≤ 9223372036854775807) (H : Heap) : L 17 [.im (.sl s (l.map encG))] H = some (.im (.bool (smallsB l)), H) := by
 have hml : (l.map encG).length = l.length := List.length_map ..
 unfold smallsB
 rw [leq F17]
 obtain ⟨hlen, ha⟩ := enter_at (f := f17) (args := [.im (.sl s (l.map encG))]) (Nat.le_of_ble_eq_true rfl)
 have h0 := ha 0 _ rfl
 generalize enterA f17 [.im (.sl s (l.map encG))] = tm at *
 change tm.length = 38 at hlen
 by_cases h1 : 100 < (l.length : Int)
 ·rw [if_pos h1]
  have d1 : decide (100 < (l.length : Int)) = true := decide_eq_true h1
  simp only [f17,e17_0,B0,B1,B2,List.replicate,reduceCtorEq,lenA,seval,B5,pairK,B4,stays,loadOf,endK,resA,tupA,hlen,h0,hml,d1,leave_app]
 ·rw [if_neg h1]
  have d1 : decide (100 < (l.length : Int)) = false := decide_eq_false h1
  have key := fun tm => l17 l s hs hok (by omega) H l.length 0 (by omega) 5000 (by decide) (by decide) tm []
  unfold numO at key
  rw [List.drop_zero] at key
  simp only [f17,e17_0,B0,B1,B2,List.replicate,reduceCtorEq,lenA,seval,B5,pairK,B4,stays,loadOf,hlen,h0,hml,d1]
  generalize hr : thenL (Λ c17_0 _ _) _ = r
  refine Exists.elim (thenL_inv hr (key _ ?_ ?_ ?_ ?_ ?_)) ?_
  ·simp only [List.length_set,hlen]
  iterate 3 simp only [B3,seval,hlen]
  ·simp only [B3,seval,hlen]; first | done | rfl
  clear hr key
  rintro e ⟨tm', H', ⟨hl', ⟨J', rfl⟩, hm⟩, rfl⟩
  rcases hm with ⟨rfl, hz⟩ | ⟨rfl, hz, g2⟩
  ·rw [hz]
   simp only [B0,B1,B2,List.replicate,reduceCtorEq,lenA,seval,B5,pairK,B4,stays,loadOf,endK,resA,tupA,hl',leave_app]
  ·rw [hz]
   simp only [B0,B1,B2,List.replicate,reduceCtorEq,lenA,seval,B5,pairK,B4,stays,loadOf,endK,resA,tupA,hl',g2,leave_app]
end Go.Abs.Seat
end
section
set_option linter.unusedVariables false
set_option linter.unusedSimpArgs false
namespace Go.Abs.Seat
open Go.Proofs
theorem l102 (args : List Int) (s : Nat) (hs : args = [] ∨ s = 1) (hn : args.length ≤ 9223372036854775807) (p : Int → Bool) (g : FuncId) (cap : List AV) (H : Heap)
  (hc : ∀ a ∈ args, L g ([.im (.int .i64 a)] ++ cap) H = some (.im (.bool (p a)), H)) :
  ∀ (m i : Nat), i + m = args.length → ∀ tm : List AV, tm.length = 19 → tm.getD 0 undefA = .im (.sl s (rowsI args)) → tm.getD 1 undefA = .clo g cap → tm.getD 6 undefA = .im (.sl s (rowsI args)) → tm.getD 7 undefA = .im (.int .i64 args.length) → tm.getD 8 undefA = .im (.int .i64 i) →
  ∃ e tm' H', Λ c102_0 tm H = some (e, tm', H') ∧ tm'.length = 19 ∧ H' = H ∧ match (args.drop i).findIdx? p with
   | some j => e = .ret ∧ tm'.getD 4 undefA = .im (.int .i64 ((i + j : Nat) : Int))
   | none => e = .exit 0
 | 0, i, hi, tm, hlen, h0, h1, h6, h7, h8 => by
  have e : args.drop i = [] := by rw [List.drop_eq_nil_iff]; omega
  have hc : decide ((i : Int) < (args.length : Int)) = false := by simp; omega
  rw [e, l102_0]
  simp only [b102_0,B0,B2,exec0,xreg,xops,aopc,endK,resA,tupA,List.replicate,binA,isShift,binInt,reduceCtorEq,lenA,seval,hlen,h0,h1,h6,h7,h8,hc,List.findIdx?_nil]
  exact ⟨_, _, _, rfl, by simp only [List.length_set,hlen], rfl, rfl⟩
 | m + 1, i, hi, tm, hlen, h0, h1, h6, h7, h8 => by
  have hlt : i < args.length := by omega
  obtain ⟨w, hwi⟩ : ∃ w, args[i]? = some w := ⟨_, List.getElem?_eq_getElem hlt⟩
  have e : args.drop i = w :: args.drop (i + 1) := by
   rw [List.drop_eq_getElem_cons hlt]
   congr 1
   rw [List.getElem?_eq_getElem hlt] at hwi
   exact Option.some.inj hwi
  have hs2 : s = 1 := by
   rcases hs with hs | hs
   ·subst hs; simp at hlt
   ·exact hs
  subst hs2
  have hc' : decide ((i : Int) < (args.length : Int)) = true := by simp; omega
  have hix := idx_nat (n := (rowsI args).length) (i := i) (by rw [rowsI_len]; exact hlt)
  have hget : (rowsI args)[i]? = some [.int .i64 w] := by unfold rowsI; rw [List.getElem?_map, hwi]; rfl
  have hcall := hc w (List.mem_of_getElem? hwi)
  have hwr := wrap_nat (i := i) (by omega)
  have key := l102 args 1 hs hn p g cap H hc m (i + 1) (by omega)
  rw [e, List.findIdx?_cons, l102_0]
  simp only [List.cons_append,List.nil_append] at hcall
  cases hp : p w with
  | true =>
   simp only [hp] at hcall
   simp only [b102_0,B0,B2,exec0,xreg,xops,aopc,endK,resA,tupA,List.replicate,binA,isShift,binInt,reduceCtorEq,lenA,seval,hlen,h0,h1,h6,h7,h8,hc',hix,hget,hcall]
   exact ⟨_, _, _, rfl, by simp only [List.length_set,hlen], rfl, rfl, by simp only [B3,seval,hlen]⟩
  | false =>
   simp only [hp] at hcall
   simp only [b102_0,B0,B2,exec0,xreg,xops,aopc,endK,resA,tupA,List.replicate,binA,isShift,binInt,reduceCtorEq,lenA,seval,hlen,h0,h1,h6,h7,h8,hc',hix,hget,hcall,hwr]
   cases hf : (args.drop (i + 1)).findIdx? p with
   | none =>
    simp only [hf] at key
    simp only [Option.map_none]
    apply key
    all_goals simp only [B3,seval,hlen,h0,h1,h6,h7]
   | some j =>
    simp only [hf] at key
    simp only [Option.map_some]
    rw [show i + (j + 1) = i + 1 + j by omega]
    apply key
    all_goals simp only [B3,seval,hlen,h0,h1,h6,h7]
theorem s102 (args : List Int) (s : Nat) (hs : args = [] ∨ s = 1) (hn : args.length ≤ 9223372036854775807) (p : Int → Bool) (g : FuncId) (cap : List AV) (H : Heap)
  (hc : ∀ a ∈ args, L g ([.im (.int .i64 a)] ++ cap) H = some (.im (.bool (p a)), H)) :
  L 102 [.im (.sl s (rowsI args)), .clo g cap] H = some (.im (.int .i64 (match args.findIdx? p with | some j => ((j : Nat) : Int) | none => -1)), H) := by
 rw [leq F102]
 obtain ⟨hlen, ha⟩ := enter_at (f := f102) (args := [.im (.sl s (rowsI args)), .clo g cap]) (Nat.le_of_ble_eq_true rfl)
 have h0 := ha 0 _ rfl
 have h1 := ha 1 _ rfl
 generalize enterA f102 [.im (.sl s (rowsI args)), .clo g cap] = tm at *
 change tm.length = 19 at hlen
 have key := l102 args s hs hn p g cap H hc args.length 0 (by omega)
 have z : ((0 : Nat) : Int) = 0 := rfl
 simp only [List.drop_zero,Nat.zero_add,z] at key
 simp only [f102,e102_0,B0,B2,exec0,xreg,xops,aopc,endK,resA,tupA,List.replicate,binA,isShift,binInt,reduceCtorEq,lenA,seval,hlen,h0,h1]
 refine thenL_of (key _ ?_ ?_ ?_ ?_ ?_ ?_) ?_
 iterate 6 simp only [B3,seval,hlen,h0,h1,rowsI_len]
 rintro e tm' H' ⟨hl', rfl, hm⟩
 cases hf : args.findIdx? p with
 | none =>
  simp only [hf] at hm
  subst hm
  simp only [B0,B2,exec0,xreg,xops,aopc,endK,resA,tupA,List.replicate,binA,isShift,binInt,reduceCtorEq,lenA,seval,hl',leave_same]
 | some j =>
  simp only [hf] at hm
  obtain ⟨rfl, h4⟩ := hm
  simp only [B0,B2,exec0,xreg,xops,aopc,endK,resA,tupA,List.replicate,binA,isShift,binInt,reduceCtorEq,lenA,seval,hl',leave_same,h4]
theorem s80 (args : List Int) (s : Nat) (hs : args = [] ∨ s = 1) (hn : args.length ≤ 9223372036854775807) (p : Int → Bool) (g : FuncId) (cap : List AV) (H : Heap)
  (hc : ∀ a ∈ args, L g ([.im (.int .i64 a)] ++ cap) H = some (.im (.bool (p a)), H)) :
  L 80 [.im (.sl s (rowsI args)), .clo g cap] H = some (.im (.bool (args.any p)), H) := by
 have hIF := s102 args s hs hn p g cap H hc
 rw [leq F80]
 obtain ⟨hlen, ha⟩ := enter_at (f := f80) (args := [.im (.sl s (rowsI args)), .clo g cap]) (Nat.le_of_ble_eq_true rfl)
 have h0 := ha 0 _ rfl
 have h1 := ha 1 _ rfl
 generalize enterA f80 [.im (.sl s (rowsI args)), .clo g cap] = tm at *
 change tm.length = 9 at hlen
 simp only [f80,B0,B2,exec0,xreg,xops,aopc,endK,resA,tupA,List.replicate,binA,isShift,binInt,reduceCtorEq,lenA,seval,hlen,h0,h1,hIF,leave_same]
 congr 4
 cases hf : args.findIdx? p with
 | none =>
  rw [List.findIdx?_eq_none_iff] at hf
  have : args.any p = false := by simpa using hf
  rw [this]; rfl
 | some j =>
  have : args.any p = true := by
   rw [List.any_eq_true]
   obtain ⟨h1, h2, _⟩ := List.findIdx?_eq_some_iff_getElem.1 hf
   exact ⟨_, List.getElem_mem h1, h2⟩
  rw [this]
  simp
end Go.Abs.Seat
end
section
set_option linter.unusedVariables false
set_option linter.unusedSimpArgs false
namespace Go.Abs.Seat
open Go.Proofs
def risesF (l : List Int) : Nat → Nat → Bool
 | 0, _ => true
 | m + 1, i => if decide (l.getD i 0 ≤ l.getD (i - 1) 0) = true then false else risesF l m (i + 1)
theorem l79 (l : List Int) (s : Nat) (hs : l = [] ∨ s = 1) (hn : l.length ≤ 1000000) (x y : Int) (H : Heap) :
  ∀ (m i : Nat), 1 ≤ i → m = l.length - i → ∀ (tm : List AV), tm.length = 34 → tm.getD 0 undefA = .im (.sl s (rowsI l)) → tm.getD 1 undefA = .im (.int .i64 x) → tm.getD 2 undefA = .im (.int .i64 y) → tm.getD 7 undefA = .im (.int .i64 (i : Int)) →
  ∃ e tm' H', Λ c79_0 tm H = some (e, tm', H') ∧ (tm'.length = 34 ∧ H' = H ∧ ((e = .exit 0 ∧ risesF l m i = true ∧ tm'.getD 0 undefA = .im (.sl s (rowsI l)) ∧ tm'.getD 1 undefA = .im (.int .i64 x) ∧ tm'.getD 2 undefA = .im (.int .i64 y)) ∨ (e = .ret ∧ risesF l m i = false ∧ tm'.getD 6 undefA = .im (.bool false))))
 | 0, i, h1i, hi, tm, hlen, h0, h1, h2, h7 => by
  have hml := rowsI_len l
  have hc : decide ((i : Int) < (l.length : Int)) = false := decide_eq_false (by omega)
  rw [l79_0]
  simp only [b79_0,B0,B1,B2,List.replicate,reduceCtorEq,lenA,seval,hlen,h0,h1,h2,h7,hml,hc]
  exact ⟨_, _, _, rfl, by simp only [List.length_set,hlen], rfl, .inl ⟨rfl, rfl, by simp only [B3,seval,hlen,h0], by simp only [B3,seval,hlen,h1], by simp only [B3,seval,hlen,h2]⟩⟩
 | m + 1, i, h1i, hi, tm, hlen, h0, h1, h2, h7 => by
  have hlt : i < l.length := by omega
  have hs2 : s = 1 := by
   rcases hs with hs | hs
   ·subst hs; simp at hlt
   ·exact hs
  subst hs2
  have hml := rowsI_len l
  have hc' : decide ((i : Int) < (l.length : Int)) = true := decide_eq_true (by omega)
  have hix := idx_nat (n := l.length) (i := i) hlt
  have hix2 := idx_nat (n := l.length) (i := i - 1) (by omega)
  have hg : ∀ j, j < l.length → (rowsI l)[j]? = some [.int .i64 (l.getD j 0)] := fun j hj => by
   unfold rowsI
   rw [List.getElem?_map, List.getElem?_eq_getElem hj, List.getD_eq_getElem?_getD, List.getElem?_eq_getElem hj]
   rfl
  have hgw := hg i hlt
  have hgv := hg (i - 1) (by omega)
  have hwr := wrap_nat (i := i) (by omega)
  have hws : IntKind.i64.wrap ((i : Int) - 1) = ((i - 1 : Nat) : Int) := by
   rw [wrap_small _ (by omega)]; omega
  have key := l79 l 1 hs hn x y H m (i + 1) (by omega) (by omega)
  rw [l79_0]
  simp only [risesF]
  cases b : decide (l.getD i 0 ≤ l.getD (i - 1) 0) with
  | true =>
   generalize hz : (if true = true then false else risesF l m (i + 1)) = z
   rw [if_pos rfl] at hz
   simp only [b79_0,B0,B1,B2,List.replicate,reduceCtorEq,lenA,seval,B5,pairK,B4,stays,loadOf,hlen,h0,h1,h2,h7,hc',hml,hix,hix2,hgw,hgv,hwr,hws,b]
   exact ⟨_, _, _, rfl, by simp only [List.length_set,hlen], rfl, .inr ⟨rfl, hz.symm, by simp only [B3,seval,hlen]⟩⟩
  | false =>
   rw [if_neg Bool.false_ne_true]
   simp only [b79_0,B0,B1,B2,List.replicate,reduceCtorEq,lenA,seval,B5,pairK,B4,stays,loadOf,hlen,h0,h1,h2,h7,hc',hml,hix,hix2,hgw,hgv,hwr,hws,b]
   refine key _ ?_ ?_ ?_ ?_ ?_
   all_goals simp only [B3,seval,hlen,h0,h1,h2,h7]
   all_goals rfl
def risesB (l : List Int) (x y : Int) : Bool := risesF l (l.length - 1) 1 && (decide (x ≤ (l.length : Int)) && decide ((l.length : Int) ≤ y))
theorem s79 (l : List Int) (s : Nat) (hs : l = [] ∨ s = 1) (hn : l.length ≤ 1000000) (x y : Int) (H : Heap) : L 79 [.im (.sl s (rowsI l)), .im (.int .i64 x), .im (.int .i64 y)] H = some (.im (.bool (risesB l x y)), H) := by
 have hml := rowsI_len l
 have key := l79 l s hs hn x y H (l.length - 1) 1 (by decide) rfl
 unfold risesB
 rw [leq F79]
 obtain ⟨hlen, ha⟩ := enter_at (f := f79) (args := [.im (.sl s (rowsI l)), .im (.int .i64 x), .im (.int .i64 y)]) (Nat.le_of_ble_eq_true rfl)
 have h0 := ha 0 _ rfl
 have h1 := ha 1 _ rfl
 have h2 := ha 2 _ rfl
 generalize enterA f79 [.im (.sl s (rowsI l)), .im (.int .i64 x), .im (.int .i64 y)] = tm at *
 change tm.length = 34 at hlen
 simp only [f79,e79_0,B0,B1,B2,List.replicate,reduceCtorEq,lenA,seval,B5,pairK,B4,stays,loadOf,hlen,h0,h1,h2]
 generalize hr : thenL (Λ c79_0 _ _) _ = r
 refine Exists.elim (thenL_inv hr (key _ ?_ ?_ ?_ ?_ ?_)) ?_
 ·simp only [List.length_set,hlen]
 iterate 3 simp only [B3,seval,hlen,h0,h1,h2]
 ·simp only [B3,seval,hlen]; first | done | rfl
 clear hr key
 rintro e ⟨tm', H', ⟨hl', rfl, hm⟩, rfl⟩
 rcases hm with ⟨rfl, hz, g0, g1, g2⟩ | ⟨rfl, hz, g6⟩
 ·rw [hz]
  cases q1 : decide (x ≤ (l.length : Int)) <;> cases q2 : decide ((l.length : Int) ≤ y) <;>
   simp only [B0,B1,B2,List.replicate,reduceCtorEq,lenA,seval,B5,pairK,B4,stays,loadOf,endK,resA,tupA,hl',g0,g1,g2,hml,q1,q2,leave_same,Bool.and_self,Bool.and_false,Bool.false_and]
 ·rw [hz]
  simp only [B0,B1,B2,List.replicate,reduceCtorEq,lenA,seval,B5,pairK,B4,stays,loadOf,endK,resA,tupA,hl',g6,leave_same,Bool.false_and]
end Go.Abs.Seat
end
section
set_option linter.unusedVariables false
set_option linter.unusedSimpArgs false
namespace Go.Abs.Seat
open Go.Proofs
def opAt (p : List GN) (k : Nat) : Int := match p[k]? with
 | some g => g.op
 | none => 0
def badB (p : List GN) (i : Int) (k : Int) : Bool := if k < 0 then true else if i ≤ k then true else decide (opAt p k.toNat = 6)
theorem s78 (p : List GN) (s : Nat) (hs : p = [] ∨ s = 14) (hn : p.length ≤ 9223372036854775807) (i : Int) (hi : i ≤ (p.length : Int)) (k : Int) (a b : Nat) (H : Heap) (ha : H[a]? = some (.obj none [[.im (.int .i64 i)]])) (hb : H[b]? = some (.obj none [[.im (.sl s (p.map encG))]])) :
  L 78 [.im (.int .i64 k), .ptr a 0 0, .ptr b 0 0] H = some (.im (.bool (badB p i k)), H) := by
 have hml : (p.map encG).length = p.length := List.length_map ..
 unfold badB
 rw [leq F78]
 obtain ⟨hlen, hx⟩ := enter_at (f := f78) (args := [.im (.int .i64 k), .ptr a 0 0, .ptr b 0 0]) (Nat.le_of_ble_eq_true rfl)
 have h0 := hx 0 _ rfl
 have h1 := hx 1 _ rfl
 have h2 := hx 2 _ rfl
 generalize enterA f78 [.im (.int .i64 k), .ptr a 0 0, .ptr b 0 0] = tm at *
 change tm.length = 21 at hlen
 by_cases c1 : k < 0
 ·rw [if_pos c1]
  have d1 : decide (k < 0) = true := decide_eq_true c1
  simp only [f78,B0,B1,B2,List.replicate,reduceCtorEq,lenA,seval,B5,pairK,B4,stays,loadOf,endK,resA,tupA,hlen,h0,h1,h2,ha,hb,d1,leave_same]
 rw [if_neg c1]
 have d1 : decide (k < 0) = false := decide_eq_false c1
 by_cases c2 : i ≤ k
 ·rw [if_pos c2]
  have d2 : decide (i ≤ k) = true := decide_eq_true c2
  simp only [f78,B0,B1,B2,List.replicate,reduceCtorEq,lenA,seval,B5,pairK,B4,stays,loadOf,endK,resA,tupA,hlen,h0,h1,h2,ha,hb,d1,d2,leave_same]
 rw [if_neg c2]
 have d2 : decide (i ≤ k) = false := decide_eq_false c2
 obtain ⟨n, rfl⟩ : ∃ n : Nat, k = (n : Int) := ⟨k.toNat, by omega⟩
 have hlt : n < p.length := by omega
 have hss : s = 14 := by
  rcases hs with h | h
  ·subst h; simp at hlt
  ·exact h
 subst hss
 obtain ⟨g, hg⟩ : ∃ g, p[n]? = some g := ⟨_, List.getElem?_eq_getElem hlt⟩
 have hix := idx_nat (n := p.length) (i := n) hlt
 have hgw : (p.map encG)[n]? = some (encG g) := by rw [List.getElem?_map, hg]; rfl
 have hE : encG g = [.int .i64 g.op, .sl g.si (rowsI g.ins), .sl g.ss (rowsI g.side), .str g.txt, .int .i64 g.ty.k, .sl g.ty.s (encTs g.ty.args), .int .i64 g.fk, .int .i64 g.fs, .int .i64 g.fp, .int .i64 g.fo, .int .i64 g.te, .int .i64 g.tl, .int .i64 g.tt, .bool g.acc] := rfl
 rw [hE] at hgw
 have ho : opAt p ((n : Int)).toNat = g.op := by
  unfold opAt
  rw [Int.toNat_natCast, hg]
 rw [ho]
 simp only [f78,B0,B1,B2,List.replicate,reduceCtorEq,lenA,seval,B5,pairK,B4,stays,loadOf,endK,resA,tupA,hlen,h0,h1,h2,ha,hb,d1,d2,hml,hix,hgw,leave_same]
def inputsB (p : List GN) (i : Nat) (g : GN) : Bool :=
 (((if g.op = 1 then risesB g.ins 0 0 else if g.op = 5 then risesB g.ins 1 4 else risesB g.ins 1 1) && risesB g.side 0 (if g.op = 2 then 4 else 0)) && !g.ins.any (badB p i)) && !g.side.any (badB p i)
set_option maxHeartbeats 1000000 in
theorem s48 (p : List GN) (s : Nat) (hs : p = [] ∨ s = 14) (hn : p.length ≤ 1000000) (i : Nat) (g : GN) (hg : p[i]? = some g) (hok : GOk g) (hil : g.ins.length ≤ 1000000) (hsl : g.side.length ≤ 1000000) (H : Heap) :
  L 48 [.im (.agg [.sl s (p.map encG)]), .im (.int .i64 (i : Int))] H = some (.im (.bool (inputsB p i g)), H) := by
 have hml : (p.map encG).length = p.length := List.length_map ..
 have hlt := (List.getElem?_eq_some_iff.1 hg).1
 have hss : s = 14 := by
  rcases hs with h | h
  ·subst h; simp at hlt
  ·exact h
 subst hss
 have hix := idx_nat (n := p.length) (i := i) hlt
 have hgw : (p.map encG)[i]? = some (encG g) := by rw [List.getElem?_map, hg]; rfl
 have hE : encG g = [.int .i64 g.op, .sl g.si (rowsI g.ins), .sl g.ss (rowsI g.side), .str g.txt, .int .i64 g.ty.k, .sl g.ty.s (encTs g.ty.args), .int .i64 g.fk, .int .i64 g.fs, .int .i64 g.fp, .int .i64 g.fo, .int .i64 g.te, .int .i64 g.tl, .int .i64 g.tt, .bool g.acc] := rfl
 rw [hE] at hgw
 have c79a := fun x y H => s79 g.ins g.si hok.si hil x y H
 have c79b := fun x y H => s79 g.side g.ss hok.ss hsl x y H
 have cb := fun (A : Heap) (h1 : A[H.length + 1]? = some (.obj none [[.im (.int .i64 (i : Int))]])) (h0 : A[H.length]? = some (.obj none [[.im (.sl 14 (p.map encG))]])) k => s78 p 14 hs (by omega) i (by omega) k (H.length + 1) H.length A h1 h0
 have c80a := fun (A : Heap) h1 h0 => s80 g.ins g.si hok.si (by omega) (badB p i) 78 [.ptr (H.length + 1) 0 0, .ptr H.length 0 0] A (fun k _ => cb A h1 h0 k)
 have c80b := fun (A : Heap) h1 h0 => s80 g.side g.ss hok.ss (by omega) (badB p i) 78 [.ptr (H.length + 1) 0 0, .ptr H.length 0 0] A (fun k _ => cb A h1 h0 k)
 unfold inputsB
 generalize g.ins.any (badB p i) = za at *
 generalize g.side.any (badB p i) = zb at *
 rw [leq F48]
 obtain ⟨hlen, hx⟩ := enter_at (f := f48) (args := [.im (.agg [.sl 14 (p.map encG)]), .im (.int .i64 (i : Int))]) (Nat.le_of_ble_eq_true rfl)
 have h0 := hx 0 _ rfl
 have h1 := hx 1 _ rfl
 generalize enterA f48 [.im (.agg [.sl 14 (p.map encG)]), .im (.int .i64 (i : Int))] = tm at *
 change tm.length = 49 at hlen
 have go : ∀ (x y z : Int), (∀ r : Bool, r = (((risesB g.ins x y && risesB g.side 0 z) && !za) && !zb) → ∀ (X : Prop), (X → X)) := fun _ _ _ _ _ _ h => h
 by_cases o1 : g.op = 1
 ·have d1 : decide (g.op = 1) = true := decide_eq_true o1
  have d2 : ¬ g.op = 2 := by omega
  rw [if_pos o1, if_neg d2]
  cases r1 : risesB g.ins 0 0 <;> cases r2 : risesB g.side 0 0 <;> cases za <;> cases zb <;>
   simp only [f48,B0,B1,B2,List.replicate,reduceCtorEq,lenA,seval,B5,pairK,B4,stays,loadOf,endK,resA,tupA,hlen,h0,h1,hml,hix,hgw,d1,c79a,c79b,c80a,c80b,r1,r2,leave_app,Bool.and_self,Bool.and_false,Bool.false_and,Bool.not_true,Bool.not_false]
 ·have d1 : decide (g.op = 1) = false := decide_eq_false o1
  rw [if_neg o1]
  by_cases o5 : g.op = 5
  ·have d5 : decide (g.op = 5) = true := decide_eq_true o5
   have d2 : ¬ g.op = 2 := by omega
   rw [if_pos o5, if_neg d2]
   cases r1 : risesB g.ins 1 4 <;> cases r2 : risesB g.side 0 0 <;> cases za <;> cases zb <;>
    simp only [f48,B0,B1,B2,List.replicate,reduceCtorEq,lenA,seval,B5,pairK,B4,stays,loadOf,endK,resA,tupA,hlen,h0,h1,hml,hix,hgw,d1,d5,c79a,c79b,c80a,c80b,r1,r2,leave_app,Bool.and_self,Bool.and_false,Bool.false_and,Bool.not_true,Bool.not_false]
  ·have d5 : decide (g.op = 5) = false := decide_eq_false o5
   rw [if_neg o5]
   by_cases o2 : g.op = 2
   ·have d2 : decide (g.op = 2) = true := decide_eq_true o2
    rw [if_pos o2]
    cases r1 : risesB g.ins 1 1 <;> cases r2 : risesB g.side 0 4 <;> cases za <;> cases zb <;>
     simp only [f48,B0,B1,B2,List.replicate,reduceCtorEq,lenA,seval,B5,pairK,B4,stays,loadOf,endK,resA,tupA,hlen,h0,h1,hml,hix,hgw,d1,d5,d2,c79a,c79b,c80a,c80b,r1,r2,leave_app,Bool.and_self,Bool.and_false,Bool.false_and,Bool.not_true,Bool.not_false]
   ·have d2 : decide (g.op = 2) = false := decide_eq_false o2
    rw [if_neg o2]
    cases r1 : risesB g.ins 1 1 <;> cases r2 : risesB g.side 0 0 <;> cases za <;> cases zb <;>
     simp only [f48,B0,B1,B2,List.replicate,reduceCtorEq,lenA,seval,B5,pairK,B4,stays,loadOf,endK,resA,tupA,hlen,h0,h1,hml,hix,hgw,d1,d5,d2,c79a,c79b,c80a,c80b,r1,r2,leave_app,Bool.and_self,Bool.and_false,Bool.false_and,Bool.not_true,Bool.not_false]
end Go.Abs.Seat
end
section
set_option linter.unusedVariables false
set_option linter.unusedSimpArgs false
namespace Go.Abs.Seat
open Go.Proofs
def btw (n lo hi : Int) : Bool := decide (lo ≤ n) && decide (n ≤ hi)
theorem s106 (n lo hi : Int) (H : Heap) : L 106 [.im (.int .i64 n), .im (.int .i64 lo), .im (.int .i64 hi)] H = some (.im (.bool (btw n lo hi)), H) := by
 unfold btw
 rw [leq F106]
 obtain ⟨hlen, hx⟩ := enter_at (f := f106) (args := [.im (.int .i64 n), .im (.int .i64 lo), .im (.int .i64 hi)]) (Nat.le_of_ble_eq_true rfl)
 have h0 := hx 0 _ rfl
 have h1 := hx 1 _ rfl
 have h2 := hx 2 _ rfl
 generalize enterA f106 [.im (.int .i64 n), .im (.int .i64 lo), .im (.int .i64 hi)] = tm at *
 change tm.length = 15 at hlen
 cases d1 : decide (lo ≤ n) <;> cases d2 : decide (n ≤ hi) <;>
  simp only [f106,B0,B1,B2,List.replicate,reduceCtorEq,lenA,seval,B5,pairK,B4,stays,loadOf,endK,resA,tupA,hlen,h0,h1,h2,d1,d2,leave_same,Bool.and_self,Bool.and_false,Bool.false_and]
theorem s107 (n lo hi : Int) (H : Heap) : L 107 [.im (.int .i64 n), .im (.int .i64 lo), .im (.int .i64 hi)] H = some (.im (.bool (btw n lo hi)), H) := by
 unfold btw
 rw [leq F107]
 obtain ⟨hlen, hx⟩ := enter_at (f := f107) (args := [.im (.int .i64 n), .im (.int .i64 lo), .im (.int .i64 hi)]) (Nat.le_of_ble_eq_true rfl)
 have h0 := hx 0 _ rfl
 have h1 := hx 1 _ rfl
 have h2 := hx 2 _ rfl
 generalize enterA f107 [.im (.int .i64 n), .im (.int .i64 lo), .im (.int .i64 hi)] = tm at *
 change tm.length = 15 at hlen
 cases d1 : decide (lo ≤ n) <;> cases d2 : decide (n ≤ hi) <;>
  simp only [f107,B0,B1,B2,List.replicate,reduceCtorEq,lenA,seval,B5,pairK,B4,stays,loadOf,endK,resA,tupA,hlen,h0,h1,h2,d1,d2,leave_same,Bool.and_self,Bool.and_false,Bool.false_and]
def trigB (e l t : Int) : Bool := ((btw e 0 1000 && btw l 0 1000) && btw t 0 1048576) && !(decide (t = 0) && decide (0 < l))
theorem s84 (e l t : Int) (b : Bool) (H : Heap) : L 84 [.im (.agg [.int .i64 e, .int .i64 l, .int .i64 t, .bool b])] H = some (.im (.int .i64 (if trigB e l t = true then 0 else 100)), H) := by
 have c107 := fun n lo hi H => s107 n lo hi H
 unfold trigB
 rw [leq F84]
 obtain ⟨hlen, hx⟩ := enter_at (f := f84) (args := [.im (.agg [.int .i64 e, .int .i64 l, .int .i64 t, .bool b])]) (Nat.le_of_ble_eq_true rfl)
 have h0 := hx 0 _ rfl
 generalize enterA f84 [.im (.agg [.int .i64 e, .int .i64 l, .int .i64 t, .bool b])] = tm at *
 change tm.length = 29 at hlen
 cases d1 : btw e 0 1000 with
 | false =>
  generalize hz : (if (((false && btw l 0 1000) && btw t 0 1048576) && !(decide (t = 0) && decide (0 < l))) = true then (0 : Int) else 100) = z
  rw [show (((false && btw l 0 1000) && btw t 0 1048576) && !(decide (t = 0) && decide (0 < l))) = false from rfl, if_neg Bool.false_ne_true] at hz
  subst hz
  simp only [f84,B0,B1,B2,List.replicate,reduceCtorEq,lenA,seval,B5,pairK,B4,stays,loadOf,endK,resA,tupA,hlen,h0,c107,d1,leave_app]
 | true =>
 cases d2 : btw l 0 1000 with
 | false =>
  rw [show (((true && false) && btw t 0 1048576) && !(decide (t = 0) && decide (0 < l))) = false from rfl, if_neg Bool.false_ne_true]
  simp only [f84,B0,B1,B2,List.replicate,reduceCtorEq,lenA,seval,B5,pairK,B4,stays,loadOf,endK,resA,tupA,hlen,h0,c107,d1,d2,leave_app]
 | true =>
 cases d3 : btw t 0 1048576 with
 | false =>
  rw [show (((true && true) && false) && !(decide (t = 0) && decide (0 < l))) = false from rfl, if_neg Bool.false_ne_true]
  simp only [f84,B0,B1,B2,List.replicate,reduceCtorEq,lenA,seval,B5,pairK,B4,stays,loadOf,endK,resA,tupA,hlen,h0,c107,d1,d2,d3,leave_app]
 | true =>
 cases d4 : decide (t = 0) <;> cases d5 : decide (0 < l) <;>
  (simp only [Bool.and_self,Bool.and_false,Bool.false_and,Bool.not_true,Bool.not_false,Bool.false_eq_true,if_true,if_false]
   simp only [f84,B0,B1,B2,List.replicate,reduceCtorEq,lenA,seval,B5,pairK,B4,stays,loadOf,endK,resA,tupA,hlen,h0,c107,d1,d2,d3,d4,d5,leave_app])
def fnB (k s p o : Int) : Bool :=
 if k = 0 then decide (s = 0) && (decide (p = 0) && decide (o = 0))
 else if k = 1 then (btw s 1 1048576 && decide (p = 0)) && btw o 0 (s - 1)
 else if k = 2 then (btw p 1 1048576 && btw s p (min 1048576 (16 * p))) && btw o 0 (p - 1)
 else if k = 3 then (btw s 1 1048576 && decide (p = 0)) && decide (o = 0)
 else false
theorem s83 (k s p o : Int) (H : Heap) : L 83 [.im (.agg [.int .i64 k, .int .i64 s, .int .i64 p, .int .i64 o])] H = some (.im (.int .i64 (if fnB k s p o = true then 0 else 70)), H) := by
 have c106 := fun n lo hi H => s106 n lo hi H
 unfold fnB
 rw [leq F83]
 obtain ⟨hlen, hx⟩ := enter_at (f := f83) (args := [.im (.agg [.int .i64 k, .int .i64 s, .int .i64 p, .int .i64 o])]) (Nat.le_of_ble_eq_true rfl)
 have h0 := hx 0 _ rfl
 generalize enterA f83 [.im (.agg [.int .i64 k, .int .i64 s, .int .i64 p, .int .i64 o])] = tm at *
 change tm.length = 70 at hlen
 have bz : ∀ z : Int, (z == 0) = decide (z = 0) := fun z => by
  rw [Bool.eq_iff_iff, beq_iff_eq, decide_eq_true_eq]
 have be : ∀ x y z u : Int, binStru .eql [1, 1, 1, 1] (.im (.agg [.int .i64 x, .int .i64 y, .int .i64 z, .int .i64 u])) (.im (.agg [.int .i64 0, .int .i64 0, .int .i64 0, .int .i64 0])) = some (.im (.bool ((x == 0) && ((y == 0) && ((z == 0) && ((u == 0) && true)))))) := fun _ _ _ _ => rfl
 by_cases k0 : k = 0
 ·rw [if_pos k0]
  have dk : decide (k = 0) = true := decide_eq_true k0
  cases d1 : decide (s = 0) <;> cases d2 : decide (p = 0) <;> cases d3 : decide (o = 0) <;>
   (simp only [Bool.and_self,Bool.and_false,Bool.false_and,Bool.false_eq_true,if_true,if_false]
    simp only [f83,B0,B1,B2,List.replicate,reduceCtorEq,lenA,seval,B5,pairK,B4,stays,loadOf,endK,resA,tupA,hlen,h0,be,bz,dk,d1,d2,d3,leave_app,Bool.and_self,Bool.and_false,Bool.false_and])
 rw [if_neg k0]
 have dk0 : decide (k = 0) = false := decide_eq_false k0
 by_cases k1 : k = 1
 ·rw [if_pos k1]
  have dk1 : decide (k = 1) = true := decide_eq_true k1
  cases d1 : btw s 1 1048576 with
  | false =>
   simp only [Bool.and_self,Bool.and_false,Bool.false_and,Bool.false_eq_true,if_true,if_false]
   simp only [f83,B0,B1,B2,List.replicate,reduceCtorEq,lenA,seval,B5,pairK,B4,stays,loadOf,endK,resA,tupA,hlen,h0,c106,dk0,dk1,d1,leave_app]
  | true =>
   have hw : IntKind.i64.wrap (s - 1) = s - 1 := wrap_small _ (by unfold btw at d1; simp only [Bool.and_eq_true,decide_eq_true_eq] at d1; omega)
   cases d2 : decide (p = 0) <;> cases d3 : btw o 0 (s - 1) <;>
    (simp only [Bool.and_self,Bool.and_false,Bool.false_and,Bool.true_and,Bool.false_eq_true,if_true,if_false]
     simp only [f83,B0,B1,B2,List.replicate,reduceCtorEq,lenA,seval,B5,pairK,B4,stays,loadOf,endK,resA,tupA,hlen,h0,c106,dk0,dk1,d1,d2,d3,hw,leave_app])
 rw [if_neg k1]
 have dk1 : decide (k = 1) = false := decide_eq_false k1
 by_cases k2 : k = 2
 ·rw [if_pos k2]
  have dk2 : decide (k = 2) = true := decide_eq_true k2
  cases d1 : btw p 1 1048576 with
  | false =>
   simp only [Bool.and_self,Bool.and_false,Bool.false_and,Bool.false_eq_true,if_true,if_false]
   simp only [f83,B0,B1,B2,List.replicate,reduceCtorEq,lenA,seval,B5,pairK,B4,stays,loadOf,endK,resA,tupA,hlen,h0,c106,dk0,dk1,dk2,d1,leave_app]
  | true =>
   have hb : 1 ≤ p ∧ p ≤ 1048576 := by unfold btw at d1; simpa only [Bool.and_eq_true, decide_eq_true_eq] using d1
   have hw : IntKind.i64.wrap (p - 1) = p - 1 := wrap_small _ (by omega)
   have hw2 : IntKind.i64.wrap (16 * p) = 16 * p := wrap_small _ (by omega)
   have hmi : minA (.im (.int .i64 1048576)) (.im (.int .i64 (16 * p))) = some (.im (.int .i64 (min 1048576 (16 * p)))) := by
    unfold minA
    simp only [if_true]
    congr 3
    split <;> omega
   generalize min 1048576 (16 * p) = mm at *
   cases d2 : btw s p mm <;> cases d3 : btw o 0 (p - 1) <;>
    (simp only [Bool.and_self,Bool.and_false,Bool.false_and,Bool.true_and,Bool.false_eq_true,if_true,if_false]
     simp only [f83,B0,B1,B2,List.replicate,reduceCtorEq,lenA,seval,B5,pairK,B4,stays,loadOf,endK,resA,tupA,hlen,h0,c106,dk0,dk1,dk2,d1,d2,d3,hw,hw2,hmi,leave_app])
 rw [if_neg k2]
 have dk2 : decide (k = 2) = false := decide_eq_false k2
 by_cases k3 : k = 3
 ·rw [if_pos k3]
  have dk3 : decide (k = 3) = true := decide_eq_true k3
  cases d1 : btw s 1 1048576 <;> cases d2 : decide (p = 0) <;> cases d3 : decide (o = 0) <;>
   (simp only [Bool.and_self,Bool.and_false,Bool.false_and,Bool.false_eq_true,if_true,if_false]
    simp only [f83,B0,B1,B2,List.replicate,reduceCtorEq,lenA,seval,B5,pairK,B4,stays,loadOf,endK,resA,tupA,hlen,h0,c106,dk0,dk1,dk2,dk3,d1,d2,d3,leave_app])
 ·rw [if_neg k3]
  have dk3 : decide (k = 3) = false := decide_eq_false k3
  simp only [Bool.false_eq_true,if_false]
  simp only [f83,B0,B1,B2,List.replicate,reduceCtorEq,lenA,seval,B5,pairK,B4,stays,loadOf,endK,resA,tupA,hlen,h0,c106,dk0,dk1,dk2,dk3,leave_app]
end Go.Abs.Seat
end
section
set_option linter.unusedVariables false
set_option linter.unusedSimpArgs false
namespace Go.Abs.Seat
open Go.Proofs
theorem dec_get {s : List UInt8} {j : Nat} {c : UInt8} (h : s[j]? = some c) : (ByteArray.mk s.toArray).get! (j + 0) = c := by
 have hj : j < s.length := (List.getElem?_eq_some_iff.1 h).1
 show s.toArray[j + 0]! = c
 simp only [Nat.add_zero]
 rw [getElem!_pos _ _ (by simpa using hj)]
 have := List.getElem?_eq_getElem hj
 rw [h] at this
 simpa using (Option.some.inj this).symm
theorem dec_low {s : List UInt8} {j : Nat} {c : UInt8} (h : s[j]? = some c) (hc : c.toNat < 128) : Utf8.decode ⟨s.toArray⟩ j = (c.toNat, 1) := by
 simp only [Utf8.decode,dec_get h]
 rw [if_pos hc]
theorem dec_high {s : List UInt8} {j : Nat} {c : UInt8} (h : s[j]? = some c) (hc : ¬ c.toNat < 128) : 126 < (Utf8.decode ⟨s.toArray⟩ j).1 := by
 simp only [Utf8.decode,dec_get h]
 rw [if_neg hc]
 have hr : 126 < Utf8.runeError := by decide
 split
 ·split
  ·rename_i h2; simp only at h2 ⊢; omega
  ·exact hr
 split
 ·split
  ·rename_i h2; simp only [Bool.and_eq_true,decide_eq_true_eq] at h2 ⊢; omega
  ·exact hr
 split
 ·split
  ·rename_i h2; simp only [Bool.and_eq_true,decide_eq_true_eq] at h2 ⊢; omega
  ·exact hr
 ·exact hr
theorem s105 (r : Int) (H : Heap) : L 105 [.im (.int .i32 r)] H = some (.im (.bool (decide (r < 32) || decide (126 < r))), H) := by
 rw [leq F105]
 obtain ⟨hlen, hx⟩ := enter_at (f := f105) (args := [.im (.int .i32 r)]) (Nat.le_of_ble_eq_true rfl)
 have h0 := hx 0 _ rfl
 generalize enterA f105 [.im (.int .i32 r)] = tm at *
 change tm.length = 9 at hlen
 cases d1 : decide (r < 32) <;> cases d2 : decide (126 < r) <;>
  simp only [f105,B0,B1,B2,List.replicate,reduceCtorEq,lenA,seval,B5,pairK,B4,stays,loadOf,endK,resA,tupA,hlen,h0,d1,d2,leave_same,Bool.or_self,Bool.or_true,Bool.true_or]
def oddC (c : UInt8) : Bool := decide (c.toNat < 32) || decide (126 < c.toNat)
theorem l146 (s : List UInt8) (hs : s.length ≤ 9223372036854775807) (H : Heap) :
  ∀ (m p : Nat), p + m = s.length → ∀ (tm : List AV), tm.length = 21 → tm.getD 1 undefA = .clo 105 [] → tm.getD 2 undefA = .im (.bool true) → tm.getD 10 undefA = .ptr H.length 0 0 →
  ∃ e tm' H', Λ c146_0 tm (H ++ [.it s p]) = some (e, tm', H') ∧ (tm'.length = 21 ∧ (∃ M, H' = H ++ M) ∧ ((e = .exit 0 ∧ (s.drop p).any oddC = false) ∨ (e = .ret ∧ (s.drop p).any oddC = true ∧ ∃ q : Nat, tm'.getD 6 undefA = .im (.int .i64 (q : Int)))))
 | 0, p, hp, tm, hlen, h1, h2, h10 => by
  have e : s.drop p = [] := by rw [List.drop_eq_nil_iff]; omega
  have hlt : (p < s.length) = False := eq_false (by omega)
  rw [e, l146_0]
  simp only [b146_0,B0,B1,B2,List.replicate,reduceCtorEq,lenA,seval,B5,pairK,B4,stays,loadOf,hlen,h1,h2,h10,hlt]
  exact ⟨_, _, _, rfl, by simp only [List.length_set,hlen], ⟨_, rfl⟩, .inl ⟨rfl, rfl⟩⟩
 | m + 1, p, hp, tm, hlen, h1, h2, h10 => by
  have hlt' : p < s.length := by omega
  have hlt : (p < s.length) = True := eq_true hlt'
  obtain ⟨c, hc⟩ : ∃ c, s[p]? = some c := ⟨_, List.getElem?_eq_getElem hlt'⟩
  have e : s.drop p = c :: s.drop (p + 1) := by
   rw [List.drop_eq_getElem_cons hlt']
   congr 1
   rw [List.getElem?_eq_getElem hlt'] at hc
   exact Option.some.inj hc
  have c105 := fun r H => s105 r H
  rw [e, l146_0]
  generalize hz : (c :: s.drop (p + 1)).any oddC = z
  rw [List.any_cons] at hz
  cases ho : oddC c with
  | true =>
   rw [ho, Bool.true_or] at hz
   generalize hd : Utf8.decode ⟨s.toArray⟩ p = d at *
   have hr : (decide (((d.1 : Nat) : Int) < 32) || decide ((126 : Int) < ((d.1 : Nat) : Int))) = true := by
    unfold oddC at ho
    by_cases h128 : c.toNat < 128
    ·rw [dec_low hc h128] at hd
     subst hd
     simp only [Bool.or_eq_true,decide_eq_true_eq] at ho ⊢
     omega
    ·have := dec_high hc h128
     rw [hd] at this
     simp only [Bool.or_eq_true,decide_eq_true_eq]
     omega
   have bt : (true == true) = true := rfl
   simp only [b146_0,B0,B1,B2,List.replicate,reduceCtorEq,lenA,seval,B5,pairK,B4,stays,loadOf,hlen,h1,h2,h10,hlt,hd,c105,hr,bt]
   exact ⟨_, _, _, rfl, by simp only [List.length_set,hlen], ⟨_, rfl⟩, .inr ⟨rfl, hz.symm, p, by simp only [B3,seval,hlen]⟩⟩
  | false =>
   rw [ho, Bool.false_or] at hz
   have h128 : c.toNat < 128 := by unfold oddC at ho; simp only [Bool.or_eq_false_iff,decide_eq_false_iff_not] at ho; omega
   have hd := dec_low hc h128
   have hr : (decide (((c.toNat : Nat) : Int) < 32) || decide ((126 : Int) < ((c.toNat : Nat) : Int))) = false := by
    unfold oddC at ho
    simp only [Bool.or_eq_false_iff,decide_eq_false_iff_not] at ho ⊢
    omega
   have bt : (false == true) = false := rfl
   have key := l146 s hs H m (p + 1) (by omega)
   rw [hz] at key
   simp only [b146_0,B0,B1,B2,List.replicate,reduceCtorEq,lenA,seval,B5,pairK,B4,stays,loadOf,hlen,h1,h2,h10,hlt,hd,c105,hr,bt]
   refine key _ ?_ ?_ ?_ ?_
   all_goals simp only [B3,seval,hlen,h1,h2,h10]
theorem s146 (s : List UInt8) (hs : s.length ≤ 9223372036854775807) (H : Heap) : ∃ z : Int, decide (0 ≤ z) = s.any oddC ∧ L 146 [.im (.str s), .clo 105 [], .im (.bool true)] H = some (.im (.int .i64 z), H) := by
 have key := fun tm => l146 s hs H s.length 0 (by omega) tm
 rw [List.drop_zero] at key
 rw [leq F146]
 obtain ⟨hlen, hx⟩ := enter_at (f := f146) (args := [.im (.str s), .clo 105 [], .im (.bool true)]) (Nat.le_of_ble_eq_true rfl)
 have h0 := hx 0 _ rfl
 have h1 := hx 1 _ rfl
 have h2 := hx 2 _ rfl
 generalize enterA f146 [.im (.str s), .clo 105 [], .im (.bool true)] = tm at *
 change tm.length = 21 at hlen
 simp only [f146,e146_0,B0,B1,B2,List.replicate,reduceCtorEq,lenA,seval,B5,pairK,B4,stays,loadOf,hlen,h0,h1,h2]
 refine Exists.elim (key (((tm.set 6 (.im (.int .i64 0))).set 9 (.im (.str s))).set 10 (.ptr H.length 0 0)) ?_ ?_ ?_ ?_) ?_
 ·simp only [List.length_set,hlen]
 iterate 3 simp only [B3,seval,hlen,h1,h2]
 rintro e ⟨tm', H', hk, hl', ⟨M, rfl⟩, hm⟩
 rw [hk]
 rcases hm with ⟨rfl, hz⟩ | ⟨rfl, hz, q, g6⟩
 ·refine ⟨-1, by rw [hz]; rfl, ?_⟩
  simp only [thenL,B0,B1,B2,List.replicate,reduceCtorEq,lenA,seval,B5,pairK,B4,stays,loadOf,endK,resA,tupA,hl',leave_app]
 ·refine ⟨q, by rw [hz]; exact decide_eq_true (by omega), ?_⟩
  simp only [thenL,B0,B1,B2,List.replicate,reduceCtorEq,lenA,seval,B5,pairK,B4,stays,loadOf,endK,resA,tupA,hl',g6,leave_app]
theorem s104 (s : List UInt8) (hs : s.length ≤ 9223372036854775807) (H : Heap) : L 104 [.im (.str s), .clo 105 []] H = some (.im (.bool (s.any oddC)), H) := by
 obtain ⟨z, hz, c146⟩ := s146 s hs H
 have c129 : L 129 [.im (.str s), .clo 105 []] H = some (.im (.int .i64 z), H) := by
  rw [leq F129]
  obtain ⟨hlen, hx⟩ := enter_at (f := f129) (args := [.im (.str s), .clo 105 []]) (Nat.le_of_ble_eq_true rfl)
  have h0 := hx 0 _ rfl
  have h1 := hx 1 _ rfl
  generalize enterA f129 [.im (.str s), .clo 105 []] = tm at *
  change tm.length = 8 at hlen
  simp only [f129,B0,B1,B2,List.replicate,reduceCtorEq,lenA,seval,B5,pairK,B4,stays,loadOf,endK,resA,tupA,hlen,h0,h1,c146,leave_same]
 rw [leq F104]
 obtain ⟨hlen, hx⟩ := enter_at (f := f104) (args := [.im (.str s), .clo 105 []]) (Nat.le_of_ble_eq_true rfl)
 have h0 := hx 0 _ rfl
 have h1 := hx 1 _ rfl
 generalize enterA f104 [.im (.str s), .clo 105 []] = tm at *
 change tm.length = 9 at hlen
 simp only [f104,B0,B1,B2,List.replicate,reduceCtorEq,lenA,seval,B5,pairK,B4,stays,loadOf,endK,resA,tupA,hlen,h0,h1,c129,hz,leave_same]
def textB (s : List UInt8) : Bool := (decide (1 ≤ (s.length : Int)) && decide ((s.length : Int) ≤ 1000)) && !s.any oddC
theorem s82 (s : List UInt8) (hs : s.length ≤ 9223372036854775807) (H : Heap) : L 82 [.im (.str s)] H = some (.im (.bool (textB s)), H) := by
 have c104 := fun H => s104 s hs H
 unfold textB
 generalize s.any oddC = a at *
 rw [leq F82]
 obtain ⟨hlen, hx⟩ := enter_at (f := f82) (args := [.im (.str s)]) (Nat.le_of_ble_eq_true rfl)
 have h0 := hx 0 _ rfl
 generalize enterA f82 [.im (.str s)] = tm at *
 change tm.length = 16 at hlen
 cases d1 : decide (1 ≤ (s.length : Int)) <;> cases d2 : decide ((s.length : Int) ≤ 1000) <;> cases a <;>
  simp only [f82,B0,B1,B2,List.replicate,reduceCtorEq,lenA,seval,B5,pairK,B4,stays,loadOf,endK,resA,tupA,hlen,h0,c104,d1,d2,leave_same,Bool.and_self,Bool.and_false,Bool.false_and,Bool.not_true,Bool.not_false]
end Go.Abs.Seat
end
section
set_option linter.unusedVariables false
set_option linter.unusedSimpArgs false
namespace Go.Abs.Seat
open Go.Proofs
def fnZ (g : GN) : Bool := (g.fk == 0) && ((g.fs == 0) && ((g.fp == 0) && ((g.fo == 0) && true)))
def trZ (g : GN) : Bool := (g.te == 0) && ((g.tl == 0) && ((g.tt == 0) && ((g.acc == false) && true)))
def tyZ (g : GN) : Bool := decide (g.ty.k = 0) && decide ((g.ty.args.length : Int) = 0)
def formB (g : GN) : Bool :=
 if g.op = 1 then ((decide (g.txt = []) && decide (checkT g.ty = 0)) && fnZ g) && trZ g
 else if g.op = 2 then ((textB g.txt && tyZ g) && fnZ g) && trZ g
 else if g.op = 3 then ((decide (g.txt = []) && tyZ g) && fnB g.fk g.fs g.fp g.fo) && trZ g
 else if g.op = 4 then ((textB g.txt && tyZ g) && fnZ g) && trigB g.te g.tl g.tt
 else ((decide (g.txt = []) && tyZ g) && fnZ g) && trZ g
set_option maxHeartbeats 4000000 in
theorem s49 (g : GN) (hok : GOk g) (H : Heap) : L 49 [.im (.agg (encG g))] H = some (.im (.bool (formB g)), H) := by
 have c81 := fun H => s81 g.ty hok.ty H
 rw [encT_eq] at c81
 have c82 := fun H => s82 g.txt hok.xl H
 have c83 := fun H => s83 g.fk g.fs g.fp g.fo H
 have c84 := fun H => s84 g.te g.tl g.tt g.acc H
 have hal : (encTs g.ty.args).length = g.ty.args.length := by rw [encTs_map]; simp
 have be : binStru .eql [1, 1, 1, 1] (.im (.agg [.int .i64 g.fk, .int .i64 g.fs, .int .i64 g.fp, .int .i64 g.fo])) (.im (.agg [.int .i64 0, .int .i64 0, .int .i64 0, .int .i64 0])) = some (.im (.bool (fnZ g))) := rfl
 have bt : binStru .eql [1, 1, 1, 0] (.im (.agg [.int .i64 g.te, .int .i64 g.tl, .int .i64 g.tt, .bool g.acc])) (.im (.agg [.int .i64 0, .int .i64 0, .int .i64 0, .bool false])) = some (.im (.bool (trZ g))) := rfl
 have z70 : decide ((if true = true then (0 : Int) else 70) = 0) = true := rfl
 have z71 : decide ((if false = true then (0 : Int) else 70) = 0) = false := rfl
 have z100 : decide ((if true = true then (0 : Int) else 100) = 0) = true := rfl
 have z101 : decide ((if false = true then (0 : Int) else 100) = 0) = false := rfl
 have y0 : decide ((0 : Int) = 0) = true := rfl
 have y7 : decide ((70 : Int) = 0) = false := rfl
 have y1 : decide ((100 : Int) = 0) = false := rfl
 unfold formB
 rw [leq F49]
 obtain ⟨hlen, hx⟩ := enter_at (f := f49) (args := [.im (.agg (encG g))]) (Nat.le_of_ble_eq_true rfl)
 have h0 := hx 0 _ rfl
 generalize enterA f49 [.im (.agg (encG g))] = tm at *
 change tm.length = 67 at hlen
 have hE : encG g = [.int .i64 g.op, .sl g.si (rowsI g.ins), .sl g.ss (rowsI g.side), .str g.txt, .int .i64 g.ty.k, .sl g.ty.s (encTs g.ty.args), .int .i64 g.fk, .int .i64 g.fs, .int .i64 g.fp, .int .i64 g.fo, .int .i64 g.te, .int .i64 g.tl, .int .i64 g.tt, .bool g.acc] := rfl
 rw [hE] at h0
 generalize fnZ g = fz at *
 generalize trZ g = tz at *
 generalize textB g.txt = xt at *
 generalize fnB g.fk g.fs g.fp g.fo = fb at *
 generalize trigB g.te g.tl g.tt = tb at *
 generalize checkT g.ty = ck at *
 unfold tyZ
 by_cases o1 : g.op = 1
 ·have d1 : decide (g.op = 1) = true := decide_eq_true o1
  rw [if_pos o1]
  cases dk : decide (g.ty.k = 0) <;> cases da : decide ((g.ty.args.length : Int) = 0) <;> cases dx : decide (g.txt = []) <;> cases dy : decide (ck = 0) <;> cases fz <;> cases tz <;>
   simp only [f49,B0,B1,B2,List.replicate,reduceCtorEq,lenA,seval,B5,pairK,B4,stays,loadOf,endK,resA,tupA,hlen,h0,be,bt,c81,c82,c83,c84,hal,y0,y7,y1,d1,dk,da,dx,dy,leave_app,if_true,if_false,Bool.false_eq_true,Bool.and_self,Bool.and_false,Bool.false_and,Bool.and_true,Bool.true_and]
 rw [if_neg o1]
 have d1 : decide (g.op = 1) = false := decide_eq_false o1
 by_cases o2 : g.op = 2
 ·have d2 : decide (g.op = 2) = true := decide_eq_true o2
  rw [if_pos o2]
  cases dx0 : decide (g.txt = []) <;>
  cases dk : decide (g.ty.k = 0) <;> cases da : decide ((g.ty.args.length : Int) = 0) <;> cases xt <;> skip <;> cases fz <;> cases tz <;>
   simp only [f49,B0,B1,B2,List.replicate,reduceCtorEq,lenA,seval,B5,pairK,B4,stays,loadOf,endK,resA,tupA,hlen,h0,be,bt,c81,c82,c83,c84,hal,y0,y7,y1,d1,d2,dx0,dk,da,leave_app,if_true,if_false,Bool.false_eq_true,Bool.and_self,Bool.and_false,Bool.false_and,Bool.and_true,Bool.true_and]
 rw [if_neg o2]
 have d2 : decide (g.op = 2) = false := decide_eq_false o2
 by_cases o3 : g.op = 3
 ·have d3 : decide (g.op = 3) = true := decide_eq_true o3
  rw [if_pos o3]
  cases dk : decide (g.ty.k = 0) <;> cases da : decide ((g.ty.args.length : Int) = 0) <;> cases dx : decide (g.txt = []) <;> skip <;> cases fb <;> cases tz <;>
   simp only [f49,B0,B1,B2,List.replicate,reduceCtorEq,lenA,seval,B5,pairK,B4,stays,loadOf,endK,resA,tupA,hlen,h0,be,bt,c81,c82,c83,c84,hal,y0,y7,y1,d1,d2,d3,dk,da,dx,leave_app,if_true,if_false,Bool.false_eq_true,Bool.and_self,Bool.and_false,Bool.false_and,Bool.and_true,Bool.true_and]
 rw [if_neg o3]
 have d3 : decide (g.op = 3) = false := decide_eq_false o3
 by_cases o4 : g.op = 4
 ·have d4 : decide (g.op = 4) = true := decide_eq_true o4
  rw [if_pos o4]
  cases dx0 : decide (g.txt = []) <;>
  cases dk : decide (g.ty.k = 0) <;> cases da : decide ((g.ty.args.length : Int) = 0) <;> cases xt <;> skip <;> cases fz <;> cases tb <;>
   simp only [f49,B0,B1,B2,List.replicate,reduceCtorEq,lenA,seval,B5,pairK,B4,stays,loadOf,endK,resA,tupA,hlen,h0,be,bt,c81,c82,c83,c84,hal,y0,y7,y1,d1,d2,d3,d4,dx0,dk,da,leave_app,if_true,if_false,Bool.false_eq_true,Bool.and_self,Bool.and_false,Bool.false_and,Bool.and_true,Bool.true_and]
 rw [if_neg o4]
 have d4 : decide (g.op = 4) = false := decide_eq_false o4
 cases dk : decide (g.ty.k = 0) <;> cases da : decide ((g.ty.args.length : Int) = 0) <;> cases dx : decide (g.txt = []) <;> skip <;> cases fz <;> cases tz <;>
  simp only [f49,B0,B1,B2,List.replicate,reduceCtorEq,lenA,seval,B5,pairK,B4,stays,loadOf,endK,resA,tupA,hlen,h0,be,bt,c81,c82,c83,c84,hal,y0,y7,y1,d1,d2,d3,d4,dk,da,dx,leave_app,if_true,if_false,Bool.false_eq_true,Bool.and_self,Bool.and_false,Bool.false_and,Bool.and_true,Bool.true_and]
end Go.Abs.Seat
end
section
set_option linter.unusedVariables false
set_option linter.unusedSimpArgs false
namespace Go.Abs.Seat
open Go.Proofs
def checkF (p : List GN) : List GN → Nat → Int × Int
 | [], _ => (0, 0)
 | g :: l, i => if g.op < 1 ∨ 6 < g.op then ((i : Int), 110) else if inputsB p i g = true then (if formB g = true then checkF p l (i + 1) else ((i : Int), 112)) else ((i : Int), 111)
def boxG (s : Nat) (p : List GN) : HO := .obj none [[.im (.sl s (p.map encG))]]
theorem l16 (p : List GN) (s : Nat) (hs : p = [] ∨ s = 14) (hn : p.length ≤ 1000000) (hok : ∀ g ∈ p, GOk g ∧ g.ins.length ≤ 1000000 ∧ g.side.length ≤ 1000000) (H : Heap) :
  ∀ (m i : Nat), i + m = p.length → ∀ (tm : List AV) (J : Heap), tm.length = 46 → tm.getD 1 undefA = .ptr H.length 0 0 → tm.getD 17 undefA = .im (.sl s (p.map encG)) → tm.getD 18 undefA = .im (.int .i64 (p.length : Int)) → tm.getD 19 undefA = .im (.int .i64 (i : Int)) →
  ∃ e tm' H', Λ c16_0 tm (H ++ boxG s p :: J) = some (e, tm', H') ∧ (tm'.length = 46 ∧ (∃ J', H' = H ++ J') ∧ ((e = .exit 0 ∧ checkF p (p.drop i) i = (0, 0)) ∨ (e = .ret ∧ ∃ a f, checkF p (p.drop i) i = (a, f) ∧ tm'.getD 2 undefA = .im (.int .i64 a) ∧ tm'.getD 3 undefA = .im (.int .i64 f))))
 | 0, i, hi, tm, J, hlen, h1, h17, h18, h19 => by
  have e : p.drop i = [] := by rw [List.drop_eq_nil_iff]; omega
  have hc : decide ((i : Int) < (p.length : Int)) = false := decide_eq_false (by omega)
  rw [e, l16_0]
  simp only [b16_0,B0,B1,B2,List.replicate,reduceCtorEq,lenA,seval,hlen,h18,h19,hc]
  exact ⟨_, _, _, rfl, by simp only [List.length_set,hlen], ⟨_, rfl⟩, .inl ⟨rfl, rfl⟩⟩
 | m + 1, i, hi, tm, J, hlen, h1, h17, h18, h19 => by
  have hlt : i < p.length := by omega
  obtain ⟨w, hwi⟩ : ∃ w, p[i]? = some w := ⟨_, List.getElem?_eq_getElem hlt⟩
  have e : p.drop i = w :: p.drop (i + 1) := by
   rw [List.drop_eq_getElem_cons hlt]
   congr 1
   rw [List.getElem?_eq_getElem hlt] at hwi
   exact Option.some.inj hwi
  have hs2 : s = 14 := by
   rcases hs with hs | hs
   ·subst hs; simp at hlt
   ·exact hs
  subst hs2
  have hw := hok w (List.mem_of_getElem? hwi)
  have hml : (p.map encG).length = p.length := List.length_map ..
  have hc' : decide ((i : Int) < (p.length : Int)) = true := decide_eq_true (by omega)
  have hix := idx_nat (n := p.length) (i := i) hlt
  have hgw : (p.map encG)[i]? = some (encG w) := by rw [List.getElem?_map, hwi]; rfl
  have hwr := wrap_nat (i := i) (by omega)
  have c48 := fun H => s48 p 14 hs hn i w hwi hw.1 hw.2.1 hw.2.2 H
  have c49 := fun H => s49 w hw.1 H
  have key := l16 p 14 hs hn hok H m (i + 1) (by omega)
  have hE : encG w = [.int .i64 w.op, .sl w.si (rowsI w.ins), .sl w.ss (rowsI w.side), .str w.txt, .int .i64 w.ty.k, .sl w.ty.s (encTs w.ty.args), .int .i64 w.fk, .int .i64 w.fs, .int .i64 w.fp, .int .i64 w.fo, .int .i64 w.te, .int .i64 w.tl, .int .i64 w.tt, .bool w.acc] := rfl
  rw [hE] at hgw c49
  have hj : ∀ x : HO, (H ++ x :: J).length = H.length + 1 + J.length := fun x => by simp; omega
  have hap' : ∀ x o : HO, (H ++ x :: J) ++ [o] = H ++ x :: (J ++ [o]) := fun x o => by simp
  have hgl : ∀ (x o : HO), (H ++ x :: (J ++ [o]))[H.length + 1 + J.length]? = some o := fun x o => by
   rw [show H.length + 1 + J.length = H.length + (1 + J.length) by omega, hget (1 + J.length), show 1 + J.length = J.length + 1 by omega]
   simp
  have hsl2 : ∀ (x o o' : HO), (H ++ x :: (J ++ [o])).set (H.length + 1 + J.length) o' = H ++ x :: (J ++ [o']) := fun x o o' => by
   rw [show H.length + 1 + J.length = H.length + (1 + J.length) by omega, hset (1 + J.length), show 1 + J.length = J.length + 1 by omega]
   simp [List.set_append_right]
  have hb0 : ∀ (x : HO) (K : Heap), (H ++ x :: K)[H.length]? = some x := fun x K => by rw [hget0]; rfl
  rw [l16_0, e]
  generalize hz : checkF p (w :: p.drop (i + 1)) i = z
  simp only [checkF] at hz
  unfold boxG at *
  by_cases o1 : w.op < 1
  ·rw [if_pos (.inl o1)] at hz
   have d1 : decide (w.op < 1) = true := decide_eq_true o1
   simp only [b16_0,B0,B1,B2,List.replicate,reduceCtorEq,lenA,seval,B5,pairK,B4,stays,loadOf,hlen,h1,h17,h18,h19,hc',hml,hix,hgw,hwr,hj,hap',hgl,hsl2,hb0,d1]
   exact ⟨_, _, _, rfl, by simp only [List.length_set,hlen], ⟨_, rfl⟩, .inr ⟨rfl, _, _, hz.symm, by simp only [B3,seval,hlen], by simp only [B3,seval,hlen]⟩⟩
  have d1 : decide (w.op < 1) = false := decide_eq_false o1
  by_cases o6 : 6 < w.op
  ·rw [if_pos (.inr o6)] at hz
   have d6 : decide (6 < w.op) = true := decide_eq_true o6
   simp only [b16_0,B0,B1,B2,List.replicate,reduceCtorEq,lenA,seval,B5,pairK,B4,stays,loadOf,hlen,h1,h17,h18,h19,hc',hml,hix,hgw,hwr,hj,hap',hgl,hsl2,hb0,d1,d6]
   exact ⟨_, _, _, rfl, by simp only [List.length_set,hlen], ⟨_, rfl⟩, .inr ⟨rfl, _, _, hz.symm, by simp only [B3,seval,hlen], by simp only [B3,seval,hlen]⟩⟩
  have d6 : decide (6 < w.op) = false := decide_eq_false o6
  rw [if_neg (by omega)] at hz
  cases bi : inputsB p i w with
  | false =>
   rw [bi, if_neg Bool.false_ne_true] at hz
   rw [bi] at c48
   simp only [b16_0,B0,B1,B2,List.replicate,reduceCtorEq,lenA,seval,B5,pairK,B4,stays,loadOf,hlen,h1,h17,h18,h19,hc',hml,hix,hgw,hwr,hj,hap',hgl,hsl2,hb0,d1,d6,c48]
   exact ⟨_, _, _, rfl, by simp only [List.length_set,hlen], ⟨_, rfl⟩, .inr ⟨rfl, _, _, hz.symm, by simp only [B3,seval,hlen], by simp only [B3,seval,hlen]⟩⟩
  | true =>
  rw [bi, if_pos rfl] at hz
  rw [bi] at c48
  cases bf : formB w with
  | false =>
   rw [bf, if_neg Bool.false_ne_true] at hz
   rw [bf] at c49
   simp only [b16_0,B0,B1,B2,List.replicate,reduceCtorEq,lenA,seval,B5,pairK,B4,stays,loadOf,hlen,h1,h17,h18,h19,hc',hml,hix,hgw,hwr,hj,hap',hgl,hsl2,hb0,d1,d6,c48,c49]
   exact ⟨_, _, _, rfl, by simp only [List.length_set,hlen], ⟨_, rfl⟩, .inr ⟨rfl, _, _, hz.symm, by simp only [B3,seval,hlen], by simp only [B3,seval,hlen]⟩⟩
  | true =>
   rw [bf, if_pos rfl] at hz
   rw [bf] at c49
   rw [hz] at key
   simp only [b16_0,B0,B1,B2,List.replicate,reduceCtorEq,lenA,seval,B5,pairK,B4,stays,loadOf,hlen,h1,h17,h18,h19,hc',hml,hix,hgw,hwr,hj,hap',hgl,hsl2,hb0,d1,d6,c48,c49]
   refine key _ _ ?_ ?_ ?_ ?_ ?_
   all_goals simp only [B3,seval,hlen,h1,h17,h18,h19]
   all_goals rfl
def checkB (p : List GN) : Int × Int := if (p.length : Int) < 1 ∨ 32 < (p.length : Int) then (0, 112) else checkF p p 0
theorem s16 (p : List GN) (s : Nat) (hs : p = [] ∨ s = 14) (hn : p.length ≤ 1000000) (hok : ∀ g ∈ p, GOk g ∧ g.ins.length ≤ 1000000 ∧ g.side.length ≤ 1000000) (H : Heap) : L 16 [.im (.agg [.sl s (p.map encG)])] H = some (.tup [.im (.int .i64 (checkB p).1), .im (.int .i64 (checkB p).2)], H) := by
 have hml : (p.map encG).length = p.length := List.length_map ..
 have key := fun tm => l16 p s hs hn hok H p.length 0 (by omega) tm []
 rw [List.drop_zero] at key
 unfold boxG at key
 have hlv : ∀ (a f : Int) (M : Heap), leave H false (.tup [.im (.int .i64 a), .im (.int .i64 f)]) (H ++ M) = (.tup [.im (.int .i64 a), .im (.int .i64 f)], H) := fun a f M => leave_two rfl rfl
 unfold checkB
 rw [leq F16]
 obtain ⟨hlen, hx⟩ := enter_at (f := f16) (args := [.im (.agg [.sl s (p.map encG)])]) (Nat.le_of_ble_eq_true rfl)
 have h0 := hx 0 _ rfl
 generalize enterA f16 [.im (.agg [.sl s (p.map encG)])] = tm at *
 change tm.length = 46 at hlen
 by_cases o1 : (p.length : Int) < 1
 ·rw [if_pos (.inl o1)]
  have d1 : decide ((p.length : Int) < 1) = true := decide_eq_true o1
  simp only [f16,e16_0,B0,B1,B2,List.replicate,reduceCtorEq,lenA,seval,B5,pairK,B4,stays,loadOf,endK,resA,tupA,hlen,h0,hml,d1,hlv]
 have d1 : decide ((p.length : Int) < 1) = false := decide_eq_false o1
 by_cases o2 : 32 < (p.length : Int)
 ·rw [if_pos (.inr o2)]
  have d2 : decide (32 < (p.length : Int)) = true := decide_eq_true o2
  simp only [f16,e16_0,B0,B1,B2,List.replicate,reduceCtorEq,lenA,seval,B5,pairK,B4,stays,loadOf,endK,resA,tupA,hlen,h0,hml,d1,d2,hlv]
 have d2 : decide (32 < (p.length : Int)) = false := decide_eq_false o2
 rw [if_neg (by omega)]
 simp only [f16,e16_0,B0,B1,B2,List.replicate,reduceCtorEq,lenA,seval,B5,pairK,B4,stays,loadOf,hlen,h0,hml,d1,d2]
 generalize hr : thenL (Λ c16_0 _ _) _ = r
 refine Exists.elim (thenL_inv hr (key _ ?_ ?_ ?_ ?_ ?_)) ?_
 ·simp only [List.length_set,hlen]
 iterate 3 simp only [B3,seval,hlen]
 ·simp only [B3,seval,hlen]; first | done | rfl
 clear hr key
 rintro e ⟨tm', H', ⟨hl', ⟨J', rfl⟩, hm⟩, rfl⟩
 rcases hm with ⟨rfl, hz⟩ | ⟨rfl, a, f, hz, g2, g3⟩
 ·rw [hz]
  simp only [B0,B1,B2,List.replicate,reduceCtorEq,lenA,seval,B5,pairK,B4,stays,loadOf,endK,resA,tupA,hl',hlv]
 ·rw [hz]
  simp only [B0,B1,B2,List.replicate,reduceCtorEq,lenA,seval,B5,pairK,B4,stays,loadOf,endK,resA,tupA,hl',g2,g3,hlv]
end Go.Abs.Seat
end
section
set_option linter.unusedVariables false
set_option linter.unusedSimpArgs false
namespace Go.Abs.Seat
open Go.Proofs
def ksG (g : GN) : List Int := g.ins ++ g.side
def ksAt (p : List GN) (i : Nat) : List Int := match p[i]? with
 | some g => ksG g
 | none => []
def fine (p : List GN) : Prop := (checkB p).2 = 0
def down (p : List GN) : Prop := ∀ i k, k ∈ ksAt p i → 0 ≤ k ∧ k < (i : Int)
inductive Rch (p : List GN) (m : List Bool) (n : Nat) : Nat → Prop
 | base {k : Nat} (h : m.getD k false = true) : Rch p m n k
 | step {j k : Nat} (h : Rch p m n j) (hn : n ≤ j) (hk : (k : Int) ∈ ksAt p j) : Rch p m n k
theorem Rch.less {p : List GN} {m : List Bool} {n n' k : Nat} (hn : n' ≤ n) (h : Rch p m n k) : Rch p m n' k := by
 induction h with
 | base h => exact .base h
 | step _ hj hk ih => exact .step ih (Nat.le_trans hn hj) hk
theorem Rch.split {p : List GN} {m : List Bool} {n : Nat} (hd : down p) {k : Nat} (h : Rch p m n k) : Rch p m (n + 1) k ∨ ((k : Int) ∈ ksAt p n ∧ Rch p m (n + 1) n) := by
 induction h with
 | base h => exact .inl (.base h)
 | @step j k _ hn hk ih =>
  have ih' : Rch p m (n + 1) j := by
   rcases ih with h | ⟨h, _⟩
   ·exact h
   ·have := (hd n j h).2
    omega
  by_cases e : j = n
  ·subst e
   exact .inr ⟨hk, ih'⟩
  ·exact .inl (.step ih' (by omega) hk)
section
variable {p : List GN} (hd : down p)
include hd
end
theorem inputs_down {p : List GN} {i : Nat} {g : GN} (h : inputsB p i g = true) : ∀ k ∈ ksG g, 0 ≤ k ∧ k < (i : Int) := by
 have hb : ∀ l : List Int, l.any (badB p (i : Int)) = false → ∀ k ∈ l, 0 ≤ k ∧ k < (i : Int) := fun l hl k hk => by
  have := List.any_eq_false.1 hl k hk
  unfold badB at this
  split at this
  ·simp at this
  ·split at this
   ·simp at this
   ·omega
 unfold inputsB at h
 intro k hk
 unfold ksG at hk
 simp only [Bool.and_eq_true,Bool.not_eq_true'] at h
 rcases List.mem_append.1 hk with hk | hk
 ·exact hb _ (by simp_all) k hk
 ·exact hb _ (by simp_all) k hk
end Go.Abs.Seat
end
section
set_option linter.unusedVariables false
set_option linter.unusedSimpArgs false
namespace Go.Abs.Seat
open Go.Proofs
def slI (l : List Int) : Dat := .sl (if rowsI l = [] then 0 else 1) (rowsI l)
theorem slI_s (l : List Int) : l = [] ∨ (if rowsI l = [] then 0 else 1) = 1 := by
 cases l with
 | nil => exact .inl rfl
 | cons x l => right; rw [if_neg (by simp [rowsI])]
end Go.Abs.Seat
end
section
set_option linter.unusedVariables false
set_option linter.unusedSimpArgs false
namespace Go.Abs.Seat
open Go.Proofs
def pOk (p : List GN) : Prop := ∀ g ∈ p, GOk g ∧ g.ins.length ≤ 1000000 ∧ g.side.length ≤ 1000000
end Go.Abs.Seat
end
section
set_option linter.unusedVariables false
set_option linter.unusedSimpArgs false
namespace Go.Abs.Seat
open Go.Proofs
def Ks (v : AV) (ks : List Int) : Prop := (ks = [] ∧ v = .em) ∨ ∃ tok, v = .asl 1 (rowsI ks) tok
theorem Ks.len {v : AV} {ks : List Int} (h : Ks v ks) : lenA v = some ks.length := by
 rcases h with ⟨rfl, rfl⟩ | ⟨tok, rfl⟩
 ·rfl
 ·simp only [lenA,rowsI_len]
end Go.Abs.Seat
end
section
set_option linter.unusedVariables false
set_option linter.unusedSimpArgs false
namespace Go.Abs.Seat
open Go.Proofs
def pipeG (g : GN) : GN := { g with si := if rowsI g.ins = [] then 0 else 1, ss := if rowsI g.side = [] then 0 else 1, ty := cloneT g.ty }
def slimG (g : GN) : Prop := GOk g ∧ slim g.ty ∧ g.ins.length ≤ 1000000 ∧ g.side.length ≤ 1000000
theorem gath_swap {ty : TypeId} {s n : Nat} {v : AV} {A A' M : Heap} {es : List (List Dat)} (hA : A.length = n) (hA' : A'.length = n) (h : Gath ty s n v (A ++ M) es) : Gath ty s n v (A' ++ M) es := by
 rcases h with h | ⟨h1, tok, h2, h3, h4⟩
 ·exact .inl h
 ·refine .inr ⟨h1, tok, h2, h3, ?_⟩
  rw [List.getElem?_append_right (by omega)] at h4 ⊢
  rw [hA', ← hA]
  exact h4
theorem append_em (a : List Int) (ha : a.length ≤ 1000000) (A : Heap) : ∃ v K, appendA A 3 8 1 .em (rowsI a) = some (v, A ++ K) ∧ ((a = [] ∧ v = .em) ∨ (a ≠ [] ∧ ∃ tok, v = .asl 1 (rowsI a) tok)) := by
 cases a with
 | nil => exact ⟨.em, [], by simp [appendA, rowsI], .inl ⟨rfl, rfl⟩⟩
 | cons y l =>
  have h2 := rowsI_len l
  simp only [List.length_cons] at ha
  refine ⟨.asl 1 (rowsI (y :: l)) A.length, [.hw 3 (l.length + 1)], ?_, .inr ⟨by simp, _, rfl⟩⟩
  have h1 : ((rowsI l).length + 1) * 8 ≤ 70368744177664 := by rw [h2]; omega
  unfold rowsI at *
  simp only [List.map_cons,appendA]
  rw [if_pos ⟨h1, by decide⟩, h2]
theorem m21 (l : List GN) (s : Nat) (hs : l = [] ∨ s = 14) (hn : l.length ≤ 1000000) (hok : ∀ g ∈ l, slimG g) (N : Nat) :
  ∀ (k i : Nat), i + k = l.length → ∀ (A M : Heap) (tm : List AV) (v : AV), N < A.length → A[N]? = some (.obj none [[v]]) → Gath 83 14 A.length v (A ++ M) ((l.take i).map fun g => encG (pipeG g)) → tm.length = 39 → tm.getD 3 undefA = .ptr N 0 0 → tm.getD 6 undefA = .im (.sl s (l.map encG)) → tm.getD 7 undefA = .im (.int .i64 (l.length : Int)) → tm.getD 8 undefA = .im (.int .i64 (i : Int)) →
  ∃ e tm' H', Λ c21_0 tm (A ++ M) = some (e, tm', H') ∧ tm'.length = 39 ∧ e = .exit 0 ∧ tm'.getD 2 undefA = tm.getD 2 undefA ∧ tm'.getD 3 undefA = .ptr N 0 0 ∧ ∃ v' M', H' = A.set N (.obj none [[v']]) ++ M' ∧ Gath 83 14 A.length v' (A ++ M') (l.map fun g => encG (pipeG g))
 | 0, i, hi, A, M, tm, v, hN, hv, hG, hlen, h3, h6, h7, h8 => by
  have hc : decide ((i : Int) < (l.length : Int)) = false := decide_eq_false (by omega)
  rw [l21_0]
  simp only [b21_0,B0,B1,B2,List.replicate,reduceCtorEq,lenA,seval,hlen,h3,h6,h7,h8,hc]
  rw [List.take_of_length_le (by omega)] at hG
  refine ⟨_, _, _, rfl, by simp only [List.length_set,hlen], rfl, by simp only [B3,seval,hlen], by simp only [B3,seval,hlen,h3], v, M, ?_, hG⟩
  obtain ⟨hl, he⟩ := (List.getElem?_eq_some_iff.1 hv)
  rw [← he, List.set_getElem_self]
 | k + 1, i, hi, A, M, tm, v, hN, hv, hG, hlen, h3, h6, h7, h8 => by
  have hlt : i < l.length := by omega
  obtain ⟨w, hwi⟩ : ∃ w, l[i]? = some w := ⟨_, List.getElem?_eq_getElem hlt⟩
  have hs2 : s = 14 := by
   rcases hs with hs | hs
   ·subst hs; simp at hlt
   ·exact hs
  subst hs2
  have hw := hok w (List.mem_of_getElem? hwi)
  have hml : (l.map encG).length = l.length := List.length_map ..
  have hc' : decide ((i : Int) < (l.length : Int)) = true := decide_eq_true (by omega)
  have hix := idx_nat (n := l.length) (i := i) hlt
  have hgw : (l.map encG)[i]? = some (encG w) := by rw [List.getElem?_map, hwi]; rfl
  have hwr := wrap_nat (i := i) (by omega)
  have hE : encG w = [.int .i64 w.op, .sl w.si (rowsI w.ins), .sl w.ss (rowsI w.side), .str w.txt, .int .i64 w.ty.k, .sl w.ty.s (encTs w.ty.args), .int .i64 w.fk, .int .i64 w.fs, .int .i64 w.fp, .int .i64 w.fo, .int .i64 w.te, .int .i64 w.tl, .int .i64 w.tt, .bool w.acc] := rfl
  rw [hE] at hgw
  have c23 := fun H => s23 w.ty hw.1.ty hw.2.1 H
  simp only [encT_eq] at c23
  obtain ⟨ob, hob⟩ : ∃ ob, HO.obj none [[.im (.int .i64 w.op), .im (.sl w.si (rowsI w.ins)), .im (.sl w.ss (rowsI w.side)), .im (.str w.txt), .im (.int .i64 w.ty.k), .im (.sl w.ty.s (encTs w.ty.args)), .im (.int .i64 w.fk), .im (.int .i64 w.fs), .im (.int .i64 w.fp), .im (.int .i64 w.fo), .im (.int .i64 w.te), .im (.int .i64 w.tl), .im (.int .i64 w.tt), .im (.bool w.acc)]] = ob := ⟨_, rfl⟩
  obtain ⟨v1, K1, hap1, hv1⟩ := append_em w.ins hw.2.2.1 (A ++ (M ++ [ob]))
  obtain ⟨v2, K2, hap2, hv2⟩ := append_em w.side hw.2.2.2 (A ++ (M ++ [ob]) ++ K1)
  have hG1 := (hG.more [ob]).more (K1 ++ K2)
  have hel1 : ∀ J, elems J 1 (.im (.sl w.si (rowsI w.ins))) = some (rowsI w.ins) := fun J => by
   rcases hw.1.si with h | h
   ·rw [h]; rfl
   ·rw [h]; unfold rowsI; cases w.ins <;> simp [elems]
  have hel2 : ∀ J, elems J 1 (.im (.sl w.ss (rowsI w.side))) = some (rowsI w.side) := fun J => by
   rcases hw.1.ss with h | h
   ·rw [h]; rfl
   ·rw [h]; unfold rowsI; cases w.side <;> simp [elems]
  simp only [List.append_assoc,List.cons_append,List.nil_append] at hap1 hap2 hG1
  obtain ⟨v', M', hap, hG', hokv, _⟩ := hG1.push (bytes := 168) (encG (pipeG w)) (by simp; omega) (by decide)
  have htk : (l.take (i + 1)).map (fun g => encG (pipeG g)) = (l.take i).map (fun g => encG (pipeG g)) ++ [encG (pipeG w)] := by
   rw [List.take_add_one, hwi]; simp
  rw [← htk] at hG'
  have hgid : ∀ K, (A ++ K)[N]? = some (.obj none [[v]]) := fun K => by rw [get_app hN]; exact hv
  have hsid : ∀ K x, (A ++ K).set N x = A.set N x ++ K := fun K x => set_app hN
  have hset0 : ∀ o o' : HO, (A ++ (M ++ [o])).set (A.length + M.length) o' = A ++ (M ++ [o']) := fun o o' => by
   rw [← List.append_assoc, ← List.append_assoc, ← List.length_append, Go.Abs.hset0]; rfl
  have hgetA : ∀ o K, (A ++ (M ++ o :: K))[A.length + M.length]? = some o := fun o K => by
   rw [← List.append_assoc, ← List.length_append, Go.Abs.hget0]; rfl
  have hcv : cellsOf v' = [v'] := by
   rcases hG' with ⟨_, rfl⟩ | ⟨_, _, _, rfl, _⟩ <;> rfl
  have key := fun tm => m21 l 14 hs hn hok N k (i + 1) (by omega) (A.set N (.obj none [[v']])) M' tm v' (by rw [List.length_set]; exact hN) (List.getElem?_set_self hN)
  simp only [List.set_set,List.length_set] at key
  have key := fun tm => key tm (gath_swap rfl (List.length_set ..) hG')
  have hfin : ∀ v'' M'', Gath 83 14 A.length v'' (A.set N (.obj none [[v']]) ++ M'') (l.map fun g => encG (pipeG g)) → Gath 83 14 A.length v'' (A ++ M'') (l.map fun g => encG (pipeG g)) := fun v'' M'' h => gath_swap (List.length_set ..) rfl h
  have hE2 : encG (pipeG w) = [.int .i64 w.op, .sl (if rowsI w.ins = [] then 0 else 1) (rowsI w.ins), .sl (if rowsI w.side = [] then 0 else 1) (rowsI w.side), .str w.txt, .int .i64 (cloneT w.ty).k, .sl (cloneT w.ty).s (encTs (cloneT w.ty).args), .int .i64 w.fk, .int .i64 w.fs, .int .i64 w.fp, .int .i64 w.fo, .int .i64 w.te, .int .i64 w.tl, .int .i64 w.tt, .bool w.acc] := rfl
  rw [hE2] at hap
  rw [← hob] at hap1 hap2 hap
  have helR : ∀ (J : Heap) r, elems J 14 (.im (.sl 14 [r])) = some [r] := fun _ _ => rfl
  rcases hv1 with ⟨he1, rfl⟩ | ⟨he1, tk1, rfl⟩ <;> rcases hv2 with ⟨he2, rfl⟩ | ⟨he2, tk2, rfl⟩
  ·have d1 : Dat.sl (if rowsI w.ins = [] then 0 else 1) (rowsI w.ins) = .sl 0 [] := by rw [he1]; rfl
   have d2 : Dat.sl (if rowsI w.side = [] then 0 else 1) (rowsI w.side) = .sl 0 [] := by rw [he2]; rfl
   rw [d1, d2] at hap
   rw [l21_0]
   simp only [b21_0,B0,B1,B2,List.replicate,reduceCtorEq,lenA,seval,B5,pairK,B4,stays,loadOf,hlen,h3,h6,h7,h8,hc',hml,hix,hgw,hwr,hgid,hsid,hset0,hgetA,hel1,hel2,helR,hap1,hap2,c23,toDatss,toDats,toDat,hap,hcv,hokv]
   refine ex_imp (key _ ?_ ?_ ?_ ?_ ?_) ?_
   ·simp only [List.length_set,hlen]
   iterate 4 simp only [B3,seval,hlen,h3,h6,h7]
   rintro e tm' H' ⟨hl', he, g2, g3, v'', M'', hH, hG''⟩
   refine ⟨hl', he, ?_, g3, v'', M'', hH, hfin _ _ hG''⟩
   rw [g2]; simp only [B3,seval,hlen]
  ·have d1 : Dat.sl (if rowsI w.ins = [] then 0 else 1) (rowsI w.ins) = .sl 0 [] := by rw [he1]; rfl
   have d2 : Dat.sl (if rowsI w.side = [] then 0 else 1) (rowsI w.side) = .sl 1 (rowsI w.side) := by rw [if_neg (by simpa [rowsI] using he2)]
   rw [d1, d2] at hap
   rw [l21_0]
   simp only [b21_0,B0,B1,B2,List.replicate,reduceCtorEq,lenA,seval,B5,pairK,B4,stays,loadOf,hlen,h3,h6,h7,h8,hc',hml,hix,hgw,hwr,hgid,hsid,hset0,hgetA,hel1,hel2,helR,hap1,hap2,c23,toDatss,toDats,toDat,hap,hcv,hokv]
   refine ex_imp (key _ ?_ ?_ ?_ ?_ ?_) ?_
   ·simp only [List.length_set,hlen]
   iterate 4 simp only [B3,seval,hlen,h3,h6,h7]
   rintro e tm' H' ⟨hl', he, g2, g3, v'', M'', hH, hG''⟩
   refine ⟨hl', he, ?_, g3, v'', M'', hH, hfin _ _ hG''⟩
   rw [g2]; simp only [B3,seval,hlen]
  ·have d1 : Dat.sl (if rowsI w.ins = [] then 0 else 1) (rowsI w.ins) = .sl 1 (rowsI w.ins) := by rw [if_neg (by simpa [rowsI] using he1)]
   have d2 : Dat.sl (if rowsI w.side = [] then 0 else 1) (rowsI w.side) = .sl 0 [] := by rw [he2]; rfl
   rw [d1, d2] at hap
   rw [l21_0]
   simp only [b21_0,B0,B1,B2,List.replicate,reduceCtorEq,lenA,seval,B5,pairK,B4,stays,loadOf,hlen,h3,h6,h7,h8,hc',hml,hix,hgw,hwr,hgid,hsid,hset0,hgetA,hel1,hel2,helR,hap1,hap2,c23,toDatss,toDats,toDat,hap,hcv,hokv]
   refine ex_imp (key _ ?_ ?_ ?_ ?_ ?_) ?_
   ·simp only [List.length_set,hlen]
   iterate 4 simp only [B3,seval,hlen,h3,h6,h7]
   rintro e tm' H' ⟨hl', he, g2, g3, v'', M'', hH, hG''⟩
   refine ⟨hl', he, ?_, g3, v'', M'', hH, hfin _ _ hG''⟩
   rw [g2]; simp only [B3,seval,hlen]
  ·have d1 : Dat.sl (if rowsI w.ins = [] then 0 else 1) (rowsI w.ins) = .sl 1 (rowsI w.ins) := by rw [if_neg (by simpa [rowsI] using he1)]
   have d2 : Dat.sl (if rowsI w.side = [] then 0 else 1) (rowsI w.side) = .sl 1 (rowsI w.side) := by rw [if_neg (by simpa [rowsI] using he2)]
   rw [d1, d2] at hap
   rw [l21_0]
   simp only [b21_0,B0,B1,B2,List.replicate,reduceCtorEq,lenA,seval,B5,pairK,B4,stays,loadOf,hlen,h3,h6,h7,h8,hc',hml,hix,hgw,hwr,hgid,hsid,hset0,hgetA,hel1,hel2,helR,hap1,hap2,c23,toDatss,toDats,toDat,hap,hcv,hokv]
   refine ex_imp (key _ ?_ ?_ ?_ ?_ ?_) ?_
   ·simp only [List.length_set,hlen]
   iterate 4 simp only [B3,seval,hlen,h3,h6,h7]
   rintro e tm' H' ⟨hl', he, g2, g3, v'', M'', hH, hG''⟩
   refine ⟨hl', he, ?_, g3, v'', M'', hH, hfin _ _ hG''⟩
   rw [g2]; simp only [B3,seval,hlen]
theorem pipe_dat (l : List GN) {n : Nat} {v : AV} {J : Heap} (h : Gath 83 14 n v J (l.map fun g => encG (pipeG g))) : toDat v = some (.sl (if l = [] then 0 else 14) ((l.map pipeG).map encG)) := by
 have := h.dat
 rw [List.map_map]
 rw [this]
 have e : (l.map fun g => encG (pipeG g)) = [] ↔ l = [] := by simp
 simp only [e]
 rfl
theorem s21 (l : List GN) (s : Nat) (hs : l = [] ∨ s = 14) (hn : l.length ≤ 1000000) (hok : ∀ g ∈ l, slimG g) (H : Heap) : L 21 [.im (.sl s (l.map encG))] H = some (.im (.agg [.sl (if l = [] then 0 else 14) ((l.map pipeG).map encG)]), H) := by
 have hml : (l.map encG).length = l.length := List.length_map ..
 have key := fun tm => m21 l s hs hn hok (H.length + 1) l.length 0 (by omega) (H ++ [.obj none [[.nils]], .obj none [[.nils]]]) [] tm .nils (by simp) (by rw [hget 1]; rfl) (.inl ⟨by simp, rfl⟩)
 simp only [hset 1,List.append_nil] at key
 rw [leq F21]
 obtain ⟨hlen, hx⟩ := enter_at (f := f21) (args := [.im (.sl s (l.map encG))]) (Nat.le_of_ble_eq_true rfl)
 have h0 := hx 0 _ rfl
 generalize enterA f21 [.im (.sl s (l.map encG))] = tm at *
 change tm.length = 39 at hlen
 simp only [f21,e21_0,B0,B1,B2,List.replicate,reduceCtorEq,lenA,seval,B5,pairK,B4,stays,loadOf,hlen,h0,hml]
 generalize hr : thenL (Λ c21_0 _ _) _ = r
 refine Exists.elim (thenL_inv hr (key _ ?_ ?_ ?_ ?_ ?_)) ?_
 ·simp only [List.length_set,hlen]
 iterate 3 simp only [B3,seval,hlen]
 ·simp only [B3,seval,hlen]; first | done | rfl
 clear hr key
 rintro e ⟨tm', H', ⟨hl', rfl, g2, g3, v', M', rfl, hG⟩, rfl⟩
 simp only [B3,seval,hlen] at g2
 have hd := pipe_dat l hG
 have hd2 : toDat (.agg [v']) = some (.agg [.sl (if l = [] then 0 else 14) ((l.map pipeG).map encG)]) := by simp [toDat, toDats, hd]
 have hlv := fun M => leave_one (H := H) (M := M) hd2
 have hst : ∀ x y z : HO, (H ++ x :: y :: M').set H.length z = H ++ z :: y :: M' := fun x y z => by rw [hset0]; rfl
 have hgt : ∀ x y : HO, (H ++ x :: y :: M')[H.length]? = some x := fun x y => by rw [hget0]; rfl
 have hgt1 : ∀ x y : HO, (H ++ x :: y :: M')[H.length + 1]? = some y := fun x y => by rw [hget 1]; rfl
 rcases hG with ⟨_, rfl⟩ | ⟨_, tok, _, rfl, _⟩
 ·simp only [B0,B1,B2,List.replicate,reduceCtorEq,lenA,seval,B5,pairK,B4,stays,loadOf,endK,resA,tupA,hl',g2,g3,hst,hgt,hgt1,hlv]
 ·simp only [B0,B1,B2,List.replicate,reduceCtorEq,lenA,seval,B5,pairK,B4,stays,loadOf,endK,resA,tupA,hl',g2,g3,hst,hgt,hgt1,hlv]
end Go.Abs.Seat
end
section
set_option linter.unusedVariables false
set_option linter.unusedSimpArgs false
namespace Go.Abs.Seat
open Go.Proofs
def Kp (lo : List Nat) (tm tm' : List AV) : Prop := ∀ q ∈ lo, tm'.getD q undefA = tm.getD q undefA
theorem Kp.refl {lo : List Nat} {tm : List AV} : Kp lo tm tm := fun _ _ => rfl
theorem Kp.trans {lo : List Nat} {a b c : List AV} (h : Kp lo a b) (k : Kp lo b c) : Kp lo a c := fun q hq => (k q hq).trans (h q hq)
theorem Kp.set {lo : List Nat} {a b : List AV} {i : Nat} {v : AV} (hi : i ∉ lo) (h : Kp lo a b) : Kp lo a (b.set i v) := fun q hq => by
 rw [gs_ne (fun e => hi (by rw [e]; exact hq))]
 exact h q hq
theorem Kp.less {lo lo' : List Nat} {a b : List AV} (h : Kp lo a b) (hs : ∀ q ∈ lo', q ∈ lo) : Kp lo' a b := fun q hq => h q (hs q hq)
section
variable (up : List Int) (hul : up.length ≤ 1000000)
include hul
variable (P : List GN) (sp : Nat) (hsp : P = [] ∨ sp = 14) (hnP : P.length ≤ 1000000) (hok : pOk P) (hf : (checkB P).2 = 0)
include hsp hnP hok hf
end
end Go.Abs.Seat
end
section
set_option linter.unusedVariables false
set_option linter.unusedSimpArgs false
namespace Go.Abs.Seat
open Go.Proofs
set_option maxRecDepth 10000 in
theorem Tok (f : FuncId) (af : AFunc) (h : T f = some af) : F f = some af ∧ closedC af.code = true := by
 unfold T at h
 by_cases h10 : f = 10
 ·subst h10; rw [if_pos rfl] at h; injection h with h; subst h; exact ⟨F10, by kernel_rfl⟩
 rw [if_neg h10] at h
 by_cases h11 : f = 11
 ·subst h11; rw [if_pos rfl] at h; injection h with h; subst h; exact ⟨F11, by kernel_rfl⟩
 rw [if_neg h11] at h
 by_cases h15 : f = 15
 ·subst h15; rw [if_pos rfl] at h; injection h with h; subst h; exact ⟨F15, by kernel_rfl⟩
 rw [if_neg h15] at h
 by_cases h16 : f = 16
 ·subst h16; rw [if_pos rfl] at h; injection h with h; subst h; exact ⟨F16, by kernel_rfl⟩
 rw [if_neg h16] at h
 by_cases h34 : f = 34
 ·subst h34; rw [if_pos rfl] at h; injection h with h; subst h; exact ⟨F34, by kernel_rfl⟩
 rw [if_neg h34] at h
 by_cases h39 : f = 39
 ·subst h39; rw [if_pos rfl] at h; injection h with h; subst h; exact ⟨F39, by kernel_rfl⟩
 rw [if_neg h39] at h
 by_cases h40 : f = 40
 ·subst h40; rw [if_pos rfl] at h; injection h with h; subst h; exact ⟨F40, by kernel_rfl⟩
 rw [if_neg h40] at h
 by_cases h45 : f = 45
 ·subst h45; rw [if_pos rfl] at h; injection h with h; subst h; exact ⟨F45, by kernel_rfl⟩
 rw [if_neg h45] at h
 by_cases h46 : f = 46
 ·subst h46; rw [if_pos rfl] at h; injection h with h; subst h; exact ⟨F46, by kernel_rfl⟩
 rw [if_neg h46] at h
 by_cases h48 : f = 48
 ·subst h48; rw [if_pos rfl] at h; injection h with h; subst h; exact ⟨F48, by kernel_rfl⟩
 rw [if_neg h48] at h
 by_cases h49 : f = 49
 ·subst h49; rw [if_pos rfl] at h; injection h with h; subst h; exact ⟨F49, by kernel_rfl⟩
 rw [if_neg h49] at h
 by_cases h63 : f = 63
 ·subst h63; rw [if_pos rfl] at h; injection h with h; subst h; exact ⟨F63, by kernel_rfl⟩
 rw [if_neg h63] at h
 by_cases h66 : f = 66
 ·subst h66; rw [if_pos rfl] at h; injection h with h; subst h; exact ⟨F66, by kernel_rfl⟩
 rw [if_neg h66] at h
 by_cases h67 : f = 67
 ·subst h67; rw [if_pos rfl] at h; injection h with h; subst h; exact ⟨F67, by kernel_rfl⟩
 rw [if_neg h67] at h
 by_cases h68 : f = 68
 ·subst h68; rw [if_pos rfl] at h; injection h with h; subst h; exact ⟨F68, by kernel_rfl⟩
 rw [if_neg h68] at h
 by_cases h69 : f = 69
 ·subst h69; rw [if_pos rfl] at h; injection h with h; subst h; exact ⟨F69, by kernel_rfl⟩
 rw [if_neg h69] at h
 by_cases h70 : f = 70
 ·subst h70; rw [if_pos rfl] at h; injection h with h; subst h; exact ⟨F70, by kernel_rfl⟩
 rw [if_neg h70] at h
 by_cases h71 : f = 71
 ·subst h71; rw [if_pos rfl] at h; injection h with h; subst h; exact ⟨F71, by kernel_rfl⟩
 rw [if_neg h71] at h
 by_cases h72 : f = 72
 ·subst h72; rw [if_pos rfl] at h; injection h with h; subst h; exact ⟨F72, by kernel_rfl⟩
 rw [if_neg h72] at h
 by_cases h74 : f = 74
 ·subst h74; rw [if_pos rfl] at h; injection h with h; subst h; exact ⟨F74, by kernel_rfl⟩
 rw [if_neg h74] at h
 by_cases h75 : f = 75
 ·subst h75; rw [if_pos rfl] at h; injection h with h; subst h; exact ⟨F75, by kernel_rfl⟩
 rw [if_neg h75] at h
 by_cases h78 : f = 78
 ·subst h78; rw [if_pos rfl] at h; injection h with h; subst h; exact ⟨F78, by kernel_rfl⟩
 rw [if_neg h78] at h
 by_cases h79 : f = 79
 ·subst h79; rw [if_pos rfl] at h; injection h with h; subst h; exact ⟨F79, by kernel_rfl⟩
 rw [if_neg h79] at h
 by_cases h80 : f = 80
 ·subst h80; rw [if_pos rfl] at h; injection h with h; subst h; exact ⟨F80, by kernel_rfl⟩
 rw [if_neg h80] at h
 by_cases h81 : f = 81
 ·subst h81; rw [if_pos rfl] at h; injection h with h; subst h; exact ⟨F81, by kernel_rfl⟩
 rw [if_neg h81] at h
 by_cases h82 : f = 82
 ·subst h82; rw [if_pos rfl] at h; injection h with h; subst h; exact ⟨F82, by kernel_rfl⟩
 rw [if_neg h82] at h
 by_cases h83 : f = 83
 ·subst h83; rw [if_pos rfl] at h; injection h with h; subst h; exact ⟨F83, by kernel_rfl⟩
 rw [if_neg h83] at h
 by_cases h84 : f = 84
 ·subst h84; rw [if_pos rfl] at h; injection h with h; subst h; exact ⟨F84, by kernel_rfl⟩
 rw [if_neg h84] at h
 by_cases h93 : f = 93
 ·subst h93; rw [if_pos rfl] at h; injection h with h; subst h; exact ⟨F93, by kernel_rfl⟩
 rw [if_neg h93] at h
 by_cases h95 : f = 95
 ·subst h95; rw [if_pos rfl] at h; injection h with h; subst h; exact ⟨F95, by kernel_rfl⟩
 rw [if_neg h95] at h
 by_cases h96 : f = 96
 ·subst h96; rw [if_pos rfl] at h; injection h with h; subst h; exact ⟨F96, by kernel_rfl⟩
 rw [if_neg h96] at h
 by_cases h97 : f = 97
 ·subst h97; rw [if_pos rfl] at h; injection h with h; subst h; exact ⟨F97, by kernel_rfl⟩
 rw [if_neg h97] at h
 by_cases h99 : f = 99
 ·subst h99; rw [if_pos rfl] at h; injection h with h; subst h; exact ⟨F99, by kernel_rfl⟩
 rw [if_neg h99] at h
 by_cases h102 : f = 102
 ·subst h102; rw [if_pos rfl] at h; injection h with h; subst h; exact ⟨F102, by kernel_rfl⟩
 rw [if_neg h102] at h
 by_cases h103 : f = 103
 ·subst h103; rw [if_pos rfl] at h; injection h with h; subst h; exact ⟨F103, by kernel_rfl⟩
 rw [if_neg h103] at h
 by_cases h104 : f = 104
 ·subst h104; rw [if_pos rfl] at h; injection h with h; subst h; exact ⟨F104, by kernel_rfl⟩
 rw [if_neg h104] at h
 by_cases h105 : f = 105
 ·subst h105; rw [if_pos rfl] at h; injection h with h; subst h; exact ⟨F105, by kernel_rfl⟩
 rw [if_neg h105] at h
 by_cases h106 : f = 106
 ·subst h106; rw [if_pos rfl] at h; injection h with h; subst h; exact ⟨F106, by kernel_rfl⟩
 rw [if_neg h106] at h
 by_cases h107 : f = 107
 ·subst h107; rw [if_pos rfl] at h; injection h with h; subst h; exact ⟨F107, by kernel_rfl⟩
 rw [if_neg h107] at h
 by_cases h112 : f = 112
 ·subst h112; rw [if_pos rfl] at h; injection h with h; subst h; exact ⟨F112, by kernel_rfl⟩
 rw [if_neg h112] at h
 by_cases h117 : f = 117
 ·subst h117; rw [if_pos rfl] at h; injection h with h; subst h; exact ⟨F117, by kernel_rfl⟩
 rw [if_neg h117] at h
 by_cases h118 : f = 118
 ·subst h118; rw [if_pos rfl] at h; injection h with h; subst h; exact ⟨F118, by kernel_rfl⟩
 rw [if_neg h118] at h
 by_cases h120 : f = 120
 ·subst h120; rw [if_pos rfl] at h; injection h with h; subst h; exact ⟨F120, by kernel_rfl⟩
 rw [if_neg h120] at h
 by_cases h121 : f = 121
 ·subst h121; rw [if_pos rfl] at h; injection h with h; subst h; exact ⟨F121, by kernel_rfl⟩
 rw [if_neg h121] at h
 by_cases h122 : f = 122
 ·subst h122; rw [if_pos rfl] at h; injection h with h; subst h; exact ⟨F122, by kernel_rfl⟩
 rw [if_neg h122] at h
 by_cases h125 : f = 125
 ·subst h125; rw [if_pos rfl] at h; injection h with h; subst h; exact ⟨F125, by kernel_rfl⟩
 rw [if_neg h125] at h
 by_cases h126 : f = 126
 ·subst h126; rw [if_pos rfl] at h; injection h with h; subst h; exact ⟨F126, by kernel_rfl⟩
 rw [if_neg h126] at h
 by_cases h127 : f = 127
 ·subst h127; rw [if_pos rfl] at h; injection h with h; subst h; exact ⟨F127, by kernel_rfl⟩
 rw [if_neg h127] at h
 by_cases h128 : f = 128
 ·subst h128; rw [if_pos rfl] at h; injection h with h; subst h; exact ⟨F128, by kernel_rfl⟩
 rw [if_neg h128] at h
 by_cases h129 : f = 129
 ·subst h129; rw [if_pos rfl] at h; injection h with h; subst h; exact ⟨F129, by kernel_rfl⟩
 rw [if_neg h129] at h
 by_cases h132 : f = 132
 ·subst h132; rw [if_pos rfl] at h; injection h with h; subst h; exact ⟨F132, by kernel_rfl⟩
 rw [if_neg h132] at h
 by_cases h133 : f = 133
 ·subst h133; rw [if_pos rfl] at h; injection h with h; subst h; exact ⟨F133, by kernel_rfl⟩
 rw [if_neg h133] at h
 by_cases h134 : f = 134
 ·subst h134; rw [if_pos rfl] at h; injection h with h; subst h; exact ⟨F134, by kernel_rfl⟩
 rw [if_neg h134] at h
 by_cases h137 : f = 137
 ·subst h137; rw [if_pos rfl] at h; injection h with h; subst h; exact ⟨F137, by kernel_rfl⟩
 rw [if_neg h137] at h
 by_cases h139 : f = 139
 ·subst h139; rw [if_pos rfl] at h; injection h with h; subst h; exact ⟨F139, by kernel_rfl⟩
 rw [if_neg h139] at h
 by_cases h145 : f = 145
 ·subst h145; rw [if_pos rfl] at h; injection h with h; subst h; exact ⟨F145, by kernel_rfl⟩
 rw [if_neg h145] at h
 by_cases h146 : f = 146
 ·subst h146; rw [if_pos rfl] at h; injection h with h; subst h; exact ⟨F146, by kernel_rfl⟩
 rw [if_neg h146] at h
 by_cases h152 : f = 152
 ·subst h152; rw [if_pos rfl] at h; injection h with h; subst h; exact ⟨F152, by kernel_rfl⟩
 rw [if_neg h152] at h
 by_cases h153 : f = 153
 ·subst h153; rw [if_pos rfl] at h; injection h with h; subst h; exact ⟨F153, by kernel_rfl⟩
 rw [if_neg h153] at h
 by_cases h163 : f = 163
 ·subst h163; rw [if_pos rfl] at h; injection h with h; subst h; exact ⟨F163, by kernel_rfl⟩
 rw [if_neg h163] at h
 simp at h
theorem bsh : ∀ n H0, n = H0.length → ShO n H0 bld bld := fun _ _ h => atoiO_sh (countO_sh (itoaO_sh (joinO_sh (one1O_sh (cloneO_sh h (strO_sh h none_sh))))))
theorem Tno (f : FuncId) (_ : T f = none) : F f = none ∨ ∀ args H, bld f args H = none := by
 by_cases h1 : f = 73
 ·subst h1; left; kernel_rfl
 by_cases h2 : f = 47
 ·subst h2; left; kernel_rfl
 by_cases h3 : f = 76
 ·subst h3; left; kernel_rfl
 by_cases h4 : f = 77
 ·subst h4; left; kernel_rfl
 by_cases h5 : f = 94
 ·subst h5; left; kernel_rfl
 by_cases h6 : f = 61
 ·subst h6; left; kernel_rfl
 by_cases h7 : f = 119
 ·subst h7; left; kernel_rfl
 by_cases h8 : f = 138
 ·subst h8; left; kernel_rfl
 right
 intro args H
 simp only [bld,atoiO,countO,itoaO,joinO,one1O,cloneO,strO,h1,h2,h3,h4,h5,h6,h7,h8,if_false]
end Go.Abs.Seat
end
section
set_option linter.unusedVariables false
set_option linter.unusedSimpArgs false
namespace Go.Abs.Seat
open Go.Proofs
set_option maxRecDepth 100000 in
theorem awakeG : runC bld T 400 10 [] [] = some (.im (.bool true), []) := by kernel_rfl
theorem s10 (H : Heap) : L 10 [] H = some (.im (.bool true), H) := lim_at bsh Tok Tno awakeG H
end Go.Abs.Seat
end
section
set_option linter.unusedVariables false
set_option linter.unusedSimpArgs false
namespace Go.Abs.Seat
open Go.Proofs
theorem smallG_ok : ∀ (l : List GN) (left : Int), 0 ≤ left → left ≤ 1000000 → smallG l left = true → ∀ g ∈ l, slim g.ty ∧ g.ins.length ≤ 100 ∧ g.side.length ≤ 100 ∧ g.txt.length ≤ 5000
 | [], _, _, _, _, g, h => by cases h
 | x :: l, left, h0, h1, h, g, hg => by
  unfold smallG at h
  split at h
  ·cases h
  ·rename_i hb
   split at h
   ·rename_i hs
    have hl := smallT_left x.ty left 30 h0
    have hsl := small_slim x.ty left 30 h0 h1 hs
    rcases List.mem_cons.1 hg with rfl | hg
    ·refine ⟨hsl.2, ?_⟩
     unfold bigG at hb
     simp only [Bool.or_eq_true,decide_eq_true_eq,not_or] at hb
     omega
    ·exact smallG_ok l _ (hl.2.2 hs) (by have := hl.2.1; omega) h g hg
   ·cases h
theorem smalls_ok {l : List GN} (h : smallsB l = true) : l.length ≤ 100 ∧ ∀ g ∈ l, slim g.ty ∧ g.ins.length ≤ 100 ∧ g.side.length ≤ 100 ∧ g.txt.length ≤ 5000 := by
 unfold smallsB at h
 split at h
 ·cases h
 ·exact ⟨by omega, smallG_ok l 5000 (by decide) (by decide) h⟩
theorem pipe_ok {l : List GN} (hok : ∀ g ∈ l, GOk g) (h : ∀ g ∈ l, slim g.ty ∧ g.ins.length ≤ 100 ∧ g.side.length ≤ 100 ∧ g.txt.length ≤ 5000) : pOk (l.map pipeG) := fun g hg => by
 obtain ⟨x, hx, rfl⟩ := List.mem_map.1 hg
 have hs := h x hx
 have ho := hok x hx
 refine ⟨⟨clone_ok x.ty ho.ty, ?_, ?_, ho.il, ho.sl, ho.xl⟩, Nat.le_trans hs.2.1 (by decide), Nat.le_trans hs.2.2.1 (by decide)⟩
 ·exact slI_s x.ins
 ·exact slI_s x.side
end Go.Abs.Seat
end
section
set_option linter.unusedVariables false
set_option linter.unusedSimpArgs false
namespace Go.Abs
def HoldE (ty : TypeId × Nat) (tb : TypeId) (n : Nat) (H : Heap) (id : Nat) (rest : List AV) (txt : List UInt8) : Prop :=
 ∃ a0 v, H[id]? = some (.obj (some ty) [a0 :: v :: rest]) ∧ (a0 = .im .nilp ∨ a0 = .ptr id 0 0) ∧ Gath tb 1 n v H (txt.map fun b => [byteDat b]) ∧ n ≤ H.length
theorem HoldE.more {ty : TypeId × Nat} {tb : TypeId} {n : Nat} {H : Heap} {id : Nat} {rest : List AV} {txt : List UInt8} (h : HoldE ty tb n H id rest txt) (M : Heap) : HoldE ty tb n (H ++ M) id rest txt := by
 obtain ⟨a0, v, h1, h2, h3, h4⟩ := h
 exact ⟨a0, v, by rw [List.getElem?_append_left (List.getElem?_eq_some_iff.1 h1).1]; exact h1, h2, h3.more M, by simp; omega⟩
theorem leave_holdE {ty : TypeId × Nat} {tb : TypeId} {n : Nat} {H0 H : Heap} {id : Nat} {rest0 rest : List AV} {txt0 txt : List UInt8} {r r' : AV} (hd : degrade r = r') (h0 : HoldE ty tb n H0 id rest0 txt0) (h : HoldE ty tb n H id rest txt) (hk : Keeps n id H0 H) :
  ∃ H', leave H0 false r H = (r', H') ∧ HoldE ty tb n H' id rest txt ∧ Keeps n id H0 H' := by
 unfold leave
 have e : (if (false : Bool) = true then r else degrade r) = r' := by simp [hd]
 rw [e]
 by_cases hc : refsLt H0.length r' = true ∧ heldIn H0 H
 ·rw [if_pos hc]
  refine ⟨_, rfl, ?_, by simp only [List.length_take]; have := hk.1; omega, fun i ty es hi hA => ?_, fun i hn hl hi => by rw [List.getElem?_take, if_pos hl]; exact hk.2.2 i hn hl hi⟩
  ·obtain ⟨a0, v, h1, h2, h3, h4⟩ := h
   obtain ⟨b0, u, g1, g2, g3, g4⟩ := h0
   have hlt := (List.getElem?_eq_some_iff.1 g1).1
   refine ⟨a0, v, by rw [List.getElem?_take, if_pos hlt]; exact h1, h2, ?_, by simp only [List.length_take]; have := hk.1; omega⟩
   rcases h3 with h3 | ⟨hne, tok, hn, hv, htok⟩
   ·exact .inl h3
   ·have ht : tok < H0.length := by
     rcases hc.2 id hlt with hs | ⟨o, ho, hro⟩
     ·rw [h1, g1] at hs
      injection hs with hs
      injection hs with _ hs
      injection hs with hs _
      injection hs with _ hs
      injection hs with hs _
      subst hs
      rcases g3 with ⟨_, hu⟩ | ⟨_, tok', _, hu, htok'⟩
      ·rw [hv] at hu; simp at hu
      ·rw [hv] at hu
       injection hu with _ _ hu
       subst hu
       exact (List.getElem?_eq_some_iff.1 htok').1
     ·rw [h1] at ho
      injection ho with ho
      subst ho
      simp only [refsO,List.all_cons,List.all_nil,refsLts,hv,refsLt,Bool.and_true,Bool.and_eq_true,decide_eq_true_eq] at hro
      exact hro.2.1
    exact .inr ⟨hne, tok, hn, hv, by rw [List.getElem?_take, if_pos ht]; exact htok⟩
  ·have hlt := (List.getElem?_eq_some_iff.1 hA).1
   rw [List.getElem?_take, if_pos hlt]
   exact hk.2.1 i ty es hi hA
 ·rw [if_neg hc]
  exact ⟨H, rfl, h, hk⟩
theorem cc_holdE {ok : TypeId × Nat → Bool} {ty : TypeId × Nat} (hok : ok ty = true) {tb : TypeId} {n : Nat} {H : Heap} {id : Nat} {rest : List AV} {txt : List UInt8} (h : HoldE ty tb n H id rest txt) :
  ∃ v H1, ccE ok [.ptr id 0 0] H = some (.tup [], H1) ∧ H1[id]? = some (.obj (some ty) [.ptr id 0 0 :: v :: rest]) ∧ Gath tb 1 n v H1 (txt.map fun b => [byteDat b]) ∧ Keeps n id H H1 ∧ n ≤ H1.length := by
 obtain ⟨a0, v, h1, h2, h3, h4⟩ := h
 have hlt := (List.getElem?_eq_some_iff.1 h1).1
 rcases h2 with rfl | rfl
 ·refine ⟨v, H.set id (.obj (some ty) [.ptr id 0 0 :: v :: rest]), by simp only [ccE,h1,hok,if_true], by rw [List.getElem?_set_self hlt], h3.set_obj h1 _, (Keeps.refl n id H).set _, by simpa using h4⟩
 ·exact ⟨v, H, by simp only [ccE,h1,hok,if_true], h1, h3, Keeps.refl n id H, h4⟩
theorem HoldE.put {ty : TypeId × Nat} {tb : TypeId} {n : Nat} {H : Heap} {id : Nat} {rest : List AV} {txt : List UInt8} (h : HoldE ty tb n H id rest txt) (rest' : List AV) :
  ∃ a0 v, H[id]? = some (.obj (some ty) [a0 :: v :: rest]) ∧ HoldE ty tb n (H.set id (.obj (some ty) [a0 :: v :: rest'])) id rest' txt := by
 obtain ⟨a0, v, h1, h2, h3, h4⟩ := h
 have hlt := (List.getElem?_eq_some_iff.1 h1).1
 exact ⟨a0, v, h1, a0, v, by rw [List.getElem?_set_self hlt], h2, h3.set_obj h1 _, by simpa using h4⟩
theorem HoldE.len {ty : TypeId × Nat} {tb : TypeId} {n : Nat} {H : Heap} {id : Nat} {rest : List AV} {txt : List UInt8} (h : HoldE ty tb n H id rest txt) :
  ∃ a0 v, H[id]? = some (.obj (some ty) [a0 :: v :: rest]) ∧ lenA v = some txt.length := by
 obtain ⟨a0, v, h1, _, h3, _⟩ := h
 refine ⟨a0, v, h1, ?_⟩
 rcases h3 with ⟨he, rfl⟩ | ⟨_, tok, _, rfl, _⟩
 ·have : txt = [] := by simpa using he
  subst this; rfl
 ·simp [lenA]
end Go.Abs
end
section
set_option linter.unusedVariables false
set_option linter.unusedSimpArgs false
namespace Go.Abs.Seat
open Go.Proofs
mutual
theorem clone_right : ∀ (t : KT) (d : Int), rightT (cloneT t) d = rightT t d
 | .mk k s args, d => by
  have hl : (cloneTs args).length = args.length := by rw [cloneTs_map]; simp
  simp only [cloneT,rightT,hl,clone_rights args (d - 1)]
theorem clone_rights : ∀ (l : List KT) (d : Int), rightNot (cloneTs l) d = rightNot l d
 | [], d => rfl
 | a :: l, d => by simp only [cloneTs,rightNot,clone_right a d,clone_rights l d]
end
theorem word_len : ∀ w ∈ words, w.2.1.length ≤ 8 := by decide
def sepB (i : Nat) : UInt8 := if i = 0 then 40 else 44
end Go.Abs.Seat
end
section
set_option linter.unusedVariables false
set_option linter.unusedSimpArgs false
namespace Go.Abs.Seat
open Go.Proofs
variable {n : Nat} {ty : TypeId × Nat} {rest : List AV} {txt : List UInt8} {H : Heap} {id : Nat}
theorem L60 (args : List AV) (H : Heap) : L 73 args H = ccE Tryz.okB args H := by
 have h : F 73 = none := by kernel_rfl
 exact lim_none h args H
theorem L26 (args : List AV) (H : Heap) : L 47 args H = stE Tryz.okB 5 args H := by
 have h : F 47 = none := by kernel_rfl
 exact lim_none h args H
theorem s45 (hok : Tryz.okB ty = true) (h : HoldE ty 5 n H id rest txt) (s : List UInt8) (hb : txt.length + s.length ≤ 2 ^ 46) :
  ∃ H', L 45 [.ptr id 0 0, .im (.str s)] H = some (.tup [.im (.int .i64 s.length), .im .nili], H') ∧ HoldE ty 5 n H' id rest (txt ++ s) ∧ Keeps n id H H' := by
 obtain ⟨v, H1, hcc, hid, hG, hK, hn1⟩ := cc_holdE hok h
 obtain ⟨v', H2, hap, hG2, hcs, hco, hl2, hk2⟩ := gath_bytes hn1 hG s hb
 have hid2 := (hk2 _ _ _).1 hid
 have hH3 : HoldE ty 5 n (H2.set id (.obj (some ty) [.ptr id 0 0 :: v' :: rest])) id rest (txt ++ s) :=
  ⟨_, v', by rw [List.getElem?_set_self (List.getElem?_eq_some_iff.1 hid2).1], .inr rfl, hG2.set_obj hid2 _, by simp; omega⟩
 have hK3 : Keeps n id H (H2.set id (.obj (some ty) [.ptr id 0 0 :: v' :: rest])) :=
  (hK.trans ⟨hl2, fun i ty es _ hi => (hk2 i ty es).1 hi, fun i hi _ _ => (hk2 i none []).2 hi⟩).set _
 obtain ⟨H', hlv, hH', hK'⟩ := leave_holdE (r := .tup [.im (.int .i64 s.length), .im .nili]) (r' := .tup [.im (.int .i64 s.length), .im .nili]) rfl h hH3 hK3
 refine ⟨H', ?_, hH', hK'⟩
 rw [leq F45]
 obtain ⟨hlen, ha⟩ := enter_at (f := f45) (args := [.ptr id 0 0, .im (.str s)]) (Nat.le_of_ble_eq_true rfl)
 have h0 := ha 0 _ rfl
 have h1 := ha 1 _ rfl
 generalize enterA f45 [.ptr id 0 0, .im (.str s)] = tm at *
 change tm.length = 19 at hlen
 have hel : elems H1 1 (.im (.str s)) = some (s.map fun b => [byteDat b]) := by simp [elems]
 simp only [exec0,xreg,xops,wantedA,aopc,dgA_no,aop,ev,putA,gs_same,gs_ne,List.length_set,hlen,Nat.reduceLT,Nat.reduceEqDiff,not_false_eq_true,if_true,h0,h1,List.map_cons,List.map_nil,List.append_nil,f45,L60,hcc,loadAt,hid,List.getElem?_cons_zero,List.getElem?_cons_succ,Nat.zero_add,Nat.reduceAdd,hel,hap,storeAt,hid2,hcs,List.length_cons,List.length_nil,Nat.reduceLeDiff,Nat.le_refl,List.all_cons,List.all_nil,hco,Bool.and_true,and_self,setAt,List.set_cons_zero,List.set_cons_succ,endK,resA,tupA,hlv]
theorem s122 (hok : Tryz.okB ty = true) (h : HoldE ty 5 n H id rest txt) (b : UInt8) (hb : txt.length + 1 ≤ 2 ^ 46) :
  ∃ H', L 122 [.ptr id 0 0, .im (byteDat b)] H = some (.im .nili, H') ∧ HoldE ty 5 n H' id rest (txt ++ [b]) ∧ Keeps n id H H' := by
 obtain ⟨v, H1, hcc, hid, hG, hK, hn1⟩ := cc_holdE hok h
 obtain ⟨v', H2, hap, hG2, hcs, hco, hl2, hk2⟩ := gath_bytes hn1 hG [b] hb
 have hid2 := (hk2 _ _ _).1 hid
 have hH3 : HoldE ty 5 n (H2.set id (.obj (some ty) [.ptr id 0 0 :: v' :: rest])) id rest (txt ++ [b]) :=
  ⟨_, v', by rw [List.getElem?_set_self (List.getElem?_eq_some_iff.1 hid2).1], .inr rfl, hG2.set_obj hid2 _, by simp; omega⟩
 have hK3 : Keeps n id H (H2.set id (.obj (some ty) [.ptr id 0 0 :: v' :: rest])) :=
  (hK.trans ⟨hl2, fun i ty es _ hi => (hk2 i ty es).1 hi, fun i hi _ _ => (hk2 i none []).2 hi⟩).set _
 obtain ⟨H', hlv, hH', hK'⟩ := leave_holdE (r := .im .nili) (r' := .im .nili) rfl h hH3 hK3
 refine ⟨H', ?_, hH', hK'⟩
 rw [leq F122]
 obtain ⟨hlen, ha⟩ := enter_at (f := f122) (args := [.ptr id 0 0, .im (byteDat b)]) (Nat.le_of_ble_eq_true rfl)
 have h0 := ha 0 _ rfl
 have h1 := ha 1 _ rfl
 generalize enterA f122 [.ptr id 0 0, .im (byteDat b)] = tm at *
 change tm.length = 17 at hlen
 simp only [List.map_cons,List.map_nil,byteDat] at hap
 have hck : ∀ (k : IntKind) (n : Int), cellOk (.im (.int k n)) = true := fun _ _ => rfl
 have hci : ∀ (k : IntKind) (n : Int), cellsOf (.im (.int k n)) = [.im (.int k n)] := fun _ _ => rfl
 simp only [exec0,xreg,xops,wantedA,aopc,dgA_no,aop,ev,putA,gs_same,gs_ne,List.length_set,hlen,Nat.reduceLT,Nat.reduceEqDiff,not_false_eq_true,if_true,h0,h1,List.map_cons,List.map_nil,List.append_nil,f122,L60,hcc,loadAt,hid,List.getElem?_cons_zero,List.getElem?_cons_succ,Nat.zero_add,Nat.reduceAdd,elems,byteDat,hcs,hci,List.replicate,fillE,toDatss,toDats,toDat,hck,Bool.false_eq_true,if_false,hap,storeAt,hid2,List.length_cons,List.length_nil,Nat.reduceLeDiff,Nat.le_refl,List.all_cons,List.all_nil,hco,Bool.and_true,and_self,setAt,List.set_cons_zero,List.set_cons_succ,endK,resA,tupA,hlv]
end Go.Abs.Seat
end
section
set_option linter.unusedVariables false
set_option linter.unusedSimpArgs false
namespace Go.Abs.Seat
open Go.Proofs
variable {n : Nat} {ty : TypeId × Nat} {rest : List AV}
mutual
def narrow : KT → Prop
 | .mk _ _ args => args.length ≤ 2 ∧ narrows args
def narrows : List KT → Prop
 | [] => True
 | a :: l => narrow a ∧ narrows l
end
theorem narrows_mem : ∀ {l : List KT}, narrows l → ∀ a ∈ l, narrow a
 | [], _, a, h => by simp at h
 | b :: l, h, a, hm => by
  simp only [narrows] at h
  rcases List.mem_cons.1 hm with rfl | hm
  ·exact h.1
  ·exact narrows_mem h.2 a hm
def kgath (k : Int) : List Word → List UInt8
 | [] => []
 | w :: l => (if w.1 = k then w.2.1 else []) ++ kgath k l
theorem kgath_len (k : Int) : ∀ l : List Word, (∀ w ∈ l, w.2.1.length ≤ 8) → (kgath k l).length ≤ 8 * l.length
 | [], _ => by simp [kgath]
 | w :: l, h => by
  have h1 := kgath_len k l fun x hx => h x (by simp [hx])
  have h2 := h w (by simp)
  simp only [kgath,List.length_append,List.length_cons]
  split <;> simp <;> omega
section
variable (hty : Tryz.okB ty = true)
include hty
theorem l116w (k : Int) (x : AV) (id idt idw : Nat) (hne : idt ≠ id) (hnw : idw ≠ id) (rows : List Word) (hr : ∀ w ∈ rows, w.2.1.length ≤ 8) (hrn : rows.length ≤ 1000) :
  ∀ (m i : Nat), i + m = rows.length → ∀ (tm : List AV) (Hc : Heap) (txt : List UInt8), txt.length + 8 * m ≤ 2 ^ 46 → HoldE ty 5 n Hc id rest txt → Hc[idt]? = some (.obj none [[.im (.int .i64 k), x]]) → Hc[idw]? = some (.obj none (rows.map encW)) →
  tm.length = 46 → tm.getD 0 undefA = .ptr id 0 0 → tm.getD 3 undefA = .ptr idt 0 0 → tm.getD 8 undefA = .ms 3 idw 0 rows.length → tm.getD 9 undefA = .im (.int .i64 rows.length) → tm.getD 10 undefA = .im (.int .i64 i) →
  ∃ e tm' H', Λ c99_1 tm Hc = some (e, tm', H') ∧ tm'.length = 46 ∧ e = .exit 0 ∧ tm'.getD 0 undefA = .ptr id 0 0 ∧ tm'.getD 3 undefA = .ptr idt 0 0 ∧ HoldE ty 5 n H' id rest (txt ++ kgath k (rows.drop i)) ∧ Keeps n id Hc H'
 | 0, i, hi, tm, Hc, txt, hb, hH, ht, hw, hlen, h0, h3, h8, h9, h10 => by
  have e : rows.drop i = [] := by rw [List.drop_eq_nil_iff]; omega
  have hc : decide ((i : Int) < (rows.length : Int)) = false := decide_eq_false (by omega)
  rw [l99_1, e]
  simp only [b99_1,B0,B2,exec0,xreg,xops,aopc,endK,resA,tupA,List.replicate,binA,isShift,binInt,reduceCtorEq,lenA,seval,hlen,h0,h3,h8,h9,h10,hc]
  exact ⟨_, _, _, rfl, by simp only [List.length_set,hlen], rfl, by simp only [B3,seval,hlen,h0], by simp only [B3,seval,hlen,h3], by simpa only [kgath, List.append_nil] using hH, Keeps.refl _ _ _⟩
 | m + 1, i, hi, tm, Hc, txt, hb, hH, ht, hw, hlen, h0, h3, h8, h9, h10 => by
  have hlt : i < rows.length := by omega
  obtain ⟨w, hwi⟩ : ∃ w, rows[i]? = some w := ⟨_, List.getElem?_eq_getElem hlt⟩
  have e : rows.drop i = w :: rows.drop (i + 1) := by
   rw [List.drop_eq_getElem_cons hlt]
   congr 1
   rw [List.getElem?_eq_getElem hlt] at hwi
   exact Option.some.inj hwi
  have hc : decide ((i : Int) < (rows.length : Int)) = true := decide_eq_true (by omega)
  have hix := idx_nat hlt
  have hgw : (rows.map encW)[i]? = some (encW w) := by rw [List.getElem?_map, hwi]; rfl
  have hwl := hr w (List.mem_of_getElem? hwi)
  have hwr := wrap_nat (i := i) (by omega)
  have hta : ∀ M : Heap, (Hc ++ M)[idt]? = some (.obj none [[.im (.int .i64 k), x]]) := fun M => by rw [get_app (List.getElem?_eq_some_iff.1 ht).1]; exact ht
  have key := l116w k x id idt idw hne hnw rows hr hrn m (i + 1) (by omega)
  have hH1 := hH.more [.obj none [encW w]]
  simp only [encW] at hH1 hgw
  rw [l99_1, e]
  by_cases hk : w.1 = k
  ·have hd : decide (w.1 = k) = true := decide_eq_true hk
   obtain ⟨H2, hcall, hH2, hK2⟩ := s45 hty hH1 w.2.1 (by omega)
   have hK := hK2.down
   simp only [b99_1,B0,B2,exec0,xreg,xops,aopc,endK,resA,tupA,List.replicate,binA,isShift,binInt,reduceCtorEq,lenA,seval,hlen,h0,h3,h8,h9,h10,hc,hix,hw,hgw,hta,hd,hcall,hwr]
   refine ex_imp (key _ H2 (txt ++ w.2.1) (by simp; omega) hH2 (hK.2.1 _ _ _ hne ht) (hK.2.1 _ _ _ hnw hw) ?_ ?_ ?_ ?_ ?_ ?_) ?_
   iterate 6 simp only [B3,seval,hlen,h0,h3,h8,h9]
   rintro e tm' H' ⟨hl', he, g0, g3, gH, gK⟩
   refine ⟨hl', he, g0, g3, ?_, hK.trans gK⟩
   simp only [kgath,hk,if_true]
   rwa [List.append_assoc] at gH
  ·have hd : decide (w.1 = k) = false := decide_eq_false hk
   have hK := (Keeps.refl n id Hc).app [.obj none [[.im (.int .i64 w.1), .im (.str w.2.1), .im (.int .i64 w.2.2)]]]
   simp only [b99_1,B0,B2,exec0,xreg,xops,aopc,endK,resA,tupA,List.replicate,binA,isShift,binInt,reduceCtorEq,lenA,seval,hlen,h0,h3,h8,h9,h10,hc,hix,hw,hgw,hta,hd,hwr]
   refine ex_imp (key _ _ txt (by omega) hH1 (hK.2.1 _ _ _ hne ht) (hK.2.1 _ _ _ hnw hw) ?_ ?_ ?_ ?_ ?_ ?_) ?_
   iterate 6 simp only [B3,seval,hlen,h0,h3,h8,h9]
   rintro e tm' H' ⟨hl', he, g0, g3, gH, gK⟩
   refine ⟨hl', he, g0, g3, ?_, hK.trans gK⟩
   simp only [kgath,hk,if_false,List.nil_append]
   exact gH
end
mutual
def showT : KT → List UInt8
 | .mk k _ args => kgath k words ++ (showTs args 40 ++ if args.length = 0 then [] else [41])
def showTs : List KT → UInt8 → List UInt8
 | [], _ => []
 | a :: l, c => c :: (showT a ++ showTs l 44)
end
section
variable (hty : Tryz.okB ty = true)
include hty
theorem l116a (args : List KT) (s : Nat) (hs : args = [] ∨ s = 2) (hn : args.length ≤ 2) (id : Nat)
  (hc : ∀ a ∈ args, ∀ (H : Heap) (txt : List UInt8), txt.length + (showT a).length + 100 ≤ 2 ^ 46 → HoldE ty 5 n H id rest txt → ∃ H', L 99 [.ptr id 0 0, .im (.agg (encT a))] H = some (.tup [], H') ∧ HoldE ty 5 n H' id rest (txt ++ showT a) ∧ Keeps n id H H') :
  ∀ (m i : Nat), i + m = args.length → ∀ (tm : List AV) (Hc : Heap) (txt : List UInt8), txt.length + (showTs (args.drop i) (sepB i)).length + 100 ≤ 2 ^ 46 → HoldE ty 5 n Hc id rest txt →
  tm.length = 46 → tm.getD 0 undefA = .ptr id 0 0 → tm.getD 25 undefA = .im (.sl s (args.map encT)) → tm.getD 26 undefA = .im (.int .i64 args.length) → tm.getD 27 undefA = .im (.int .i64 i) →
  ∃ e tm' H', Λ c99_0 tm Hc = some (e, tm', H') ∧ tm'.length = 46 ∧ e = .exit 2 ∧ tm'.getD 0 undefA = .ptr id 0 0 ∧ tm'.getD 3 undefA = tm.getD 3 undefA ∧ HoldE ty 5 n H' id rest (txt ++ showTs (args.drop i) (sepB i)) ∧ Keeps n id Hc H'
 | 0, i, hi, tm, Hc, txt, hb, hH, hlen, h0, h25, h26, h27 => by
  have e : args.drop i = [] := by rw [List.drop_eq_nil_iff]; omega
  have hc : decide ((i : Int) < (args.length : Int)) = false := decide_eq_false (by omega)
  rw [l99_0, e]
  simp only [b99_0,B0,B2,exec0,xreg,xops,aopc,endK,resA,tupA,List.replicate,binA,isShift,binInt,reduceCtorEq,lenA,seval,hlen,h0,h25,h26,h27,hc]
  exact ⟨_, _, _, rfl, by simp only [List.length_set,hlen], rfl, by simp only [B3,seval,hlen,h0], by simp only [B3,seval,hlen], by simpa only [showTs, List.append_nil] using hH, Keeps.refl _ _ _⟩
 | m + 1, i, hi, tm, Hc, txt, hb, hH, hlen, h0, h25, h26, h27 => by
  have hlt : i < args.length := by omega
  obtain ⟨w, hwi⟩ : ∃ w, args[i]? = some w := ⟨_, List.getElem?_eq_getElem hlt⟩
  have e : args.drop i = w :: args.drop (i + 1) := by
   rw [List.drop_eq_getElem_cons hlt]
   congr 1
   rw [List.getElem?_eq_getElem hlt] at hwi
   exact Option.some.inj hwi
  have hs2 : s = 2 := by
   rcases hs with hs | hs
   ·subst hs; simp at hlt
   ·exact hs
  subst hs2
  have hc' : decide ((i : Int) < (args.length : Int)) = true := decide_eq_true (by omega)
  have hix := idx_nat (n := (args.map encT).length) (i := i) (by simpa using hlt)
  have hix2 := idx_nat (n := 2) (i := i) (by omega)
  have hgw : (args.map encT)[i]? = some (encT w) := by rw [List.getElem?_map, hwi]; rfl
  have hwr := wrap_nat (i := i) (by omega)
  have key := l116a args 2 hs hn id hc m (i + 1) (by omega)
  rw [e] at hb
  simp only [showTs,List.length_cons,List.length_append] at hb
  have hsb : sepB (i + 1) = 44 := by simp [sepB]
  have hsep : ([40, 44] : List UInt8)[i]? = some (sepB i) := by
   have : i = 0 ∨ i = 1 := by omega
   rcases this with rfl | rfl <;> rfl
  have hH1 := hH.more [.obj none [(encT w).map .im]]
  obtain ⟨H2, hcall2, hH2, hK2⟩ := s122 hty hH1 (sepB i) (by omega)
  obtain ⟨H3, hcall3, hH3, hK3⟩ := hc w (List.mem_of_getElem? hwi) H2 (txt ++ [sepB i]) (by simp; omega) hH2
  have hloc := hK2.2.1 Hc.length none [(encT w).map .im]
  have hidlt : id < Hc.length := by obtain ⟨_, _, h, _⟩ := hH; exact (List.getElem?_eq_some_iff.1 h).1
  have hloc := hloc (by omega) (by rw [Go.Abs.hget0]; rfl)
  have hK := hK2.down.trans hK3
  rw [l99_0, e]
  generalize hsw : showT w = sw at *
  generalize hsbi : sepB i = c at *
  obtain ⟨k, s', ts⟩ := w
  simp only [encT,List.map_cons,List.map_nil,byteDat] at hcall2 hcall3 hgw hloc
  have hnn : (0 : Int) ≤ (i : Int) := Int.natCast_nonneg i
  simp only [b99_0,B0,B2,exec0,xreg,xops,aopc,endK,resA,tupA,List.replicate,binA,isShift,binInt,reduceCtorEq,lenA,seval,intOfA,hnn,Int.toNat_natCast,hlen,h0,h25,h26,h27,hc',hix,hix2,hgw,hwr,hsep,hcall2,hloc,hcall3,byteDat]
  refine ex_imp (key _ H3 (txt ++ [c] ++ sw) (by rw [hsb]; simp; omega) hH3 ?_ ?_ ?_ ?_ ?_) ?_
  iterate 5 simp only [B3,seval,hlen,h0,h25,h26]
  rintro e tm' H' ⟨hl', he, g0, g3, gH, gK⟩
  refine ⟨hl', he, g0, ?_, ?_, hK.trans gK⟩
  ·rw [g3]; simp only [B3,seval,hlen]
  ·rw [hsb] at gH
   simp only [showTs,hsw]
   simpa only [List.append_assoc, List.cons_append, List.nil_append] using gH
theorem s99 : ∀ (t : KT), okT t → narrow t → ∀ (id : Nat) (H : Heap) (txt : List UInt8), txt.length + (showT t).length + 100 ≤ 2 ^ 46 → HoldE ty 5 n H id rest txt →
  ∃ H', L 99 [.ptr id 0 0, .im (.agg (encT t))] H = some (.tup [], H') ∧ HoldE ty 5 n H' id rest (txt ++ showT t) ∧ Keeps n id H H'
 | .mk k s args, hok, hnw, id, H, txt, hb, hH => by
  simp only [okT] at hok
  obtain ⟨hs, _, hoks⟩ := hok
  simp only [narrow] at hnw
  obtain ⟨hn, hnws⟩ := hnw
  have hc : ∀ a ∈ args, ∀ (H : Heap) (txt : List UInt8), txt.length + (showT a).length + 100 ≤ 2 ^ 46 → HoldE ty 5 n H id rest txt → ∃ H', L 99 [.ptr id 0 0, .im (.agg (encT a))] H = some (.tup [], H') ∧ HoldE ty 5 n H' id rest (txt ++ showT a) ∧ Keeps n id H H' :=
   fun a ha H txt hb hH => s99 a (okTs_mem hoks a ha) (narrows_mem hnws a ha) id H txt hb hH
  have hidlt : id < H.length := by obtain ⟨_, _, h, _⟩ := hH; exact (List.getElem?_eq_some_iff.1 h).1
  simp only [showT,List.length_append] at hb
  have hgl := kgath_len k words word_len
  have hw8 : words.length = 8 := rfl
  have hH1 := hH.more [.obj none [[.im (.int .i64 k), .im (.sl s (encTs args))]], .obj none (words.map encW)]
  have keyw := l116w (n := n) (rest := rest) hty k (.im (.sl s (encTs args))) id H.length (H.length + 1) (by omega) (by omega) words word_len (by decide) 8 0 (by decide)
  have z : ((0 : Nat) : Int) = 0 := rfl
  have z8 : ((8 : Nat) : Int) = 8 := rfl
  simp only [z,hw8,List.drop_zero,z8] at keyw
  have hel : (encTs args).length = args.length := by rw [encTs_map]; simp
  have keya := l116a hty args s hs hn id hc args.length 0 (by omega)
  simp only [z,List.drop_zero] at keya
  have hsep0 : sepB 0 = 40 := rfl
  rw [hsep0] at keya
  simp only [encT]
  have fin : ∀ (H2 : Heap), HoldE ty 5 n H2 id rest (txt ++ showT (.mk k s args)) → Keeps n id H H2 → ∃ H', leave H false (.tup []) H2 = (.tup [], H') ∧ HoldE ty 5 n H' id rest (txt ++ showT (.mk k s args)) ∧ Keeps n id H H' :=
   fun H2 h1 h2 => leave_holdE rfl hH h1 h2
  suffices hsuf : ∃ H2, HoldE ty 5 n H2 id rest (txt ++ showT (.mk k s args)) ∧ Keeps n id H H2 ∧ L 99 [.ptr id 0 0, .im (.agg [.int .i64 k, .sl s (encTs args)])] H = some (leave H false (.tup []) H2) by
   obtain ⟨H2, h1, h2, h3⟩ := hsuf
   obtain ⟨H', e1, e2, e3⟩ := fin H2 h1 h2
   exact ⟨H', by rw [h3, e1], e2, e3⟩
  rw [leq F99]
  obtain ⟨hlen, ha⟩ := enter_at (f := f99) (args := [.ptr id 0 0, .im (.agg [.int .i64 k, .sl s (encTs args)])]) (Nat.le_of_ble_eq_true rfl)
  have h0 := ha 0 _ rfl
  have h1 := ha 1 _ rfl
  generalize enterA f99 [.ptr id 0 0, .im (.agg [.int .i64 k, .sl s (encTs args)])] = tm at *
  change tm.length = 46 at hlen
  simp only [f99,e99_0,e99_1,B0,B2,exec0,xreg,xops,aopc,endK,resA,tupA,List.replicate,binA,isShift,binInt,reduceCtorEq,lenA,seval,hlen,h0,h1,s121]
  refine thenL_ex (fun r => ∃ H2, HoldE ty 5 n H2 id rest (txt ++ showT (.mk k s args)) ∧ Keeps n id H H2 ∧ r = some (leave H false (.tup []) H2)) (keyw _ _ txt (by omega) hH1 (by rw [Go.Abs.hget0]; rfl) (by rw [Go.Abs.hget]; rfl) ?_ ?_ ?_ ?_ ?_ ?_) ?_
  iterate 6 simp only [B3,seval,hlen,h0,z8]
  rintro e tm1 H1 ⟨hl1, rfl, a0, a3, aH, aK⟩
  have hob1 : H1[H.length]? = some (.obj none [[.im (.int .i64 k), .im (.sl s (encTs args))]]) := aK.2.1 _ _ _ (by omega) (by rw [Go.Abs.hget0]; rfl)
  simp only [B0,B2,exec0,xreg,xops,aopc,endK,resA,tupA,List.replicate,binA,isShift,binInt,reduceCtorEq,lenA,seval,hl1,a0,a3,hob1,hel]
  refine thenL_ex (fun r => ∃ H2, HoldE ty 5 n H2 id rest (txt ++ showT (.mk k s args)) ∧ Keeps n id H H2 ∧ r = some (leave H false (.tup []) H2)) (keya _ _ (txt ++ kgath k words) (by simp; omega) aH ?_ ?_ ?_ ?_ ?_) ?_
  iterate 5 simp only [B3,seval,hl1,a0,encTs_map]
  rintro e tm2 H2 ⟨hl2, rfl, b0, b3, bH, bK⟩
  have hob2 : H2[H.length]? = some (.obj none [[.im (.int .i64 k), .im (.sl s (encTs args))]]) := bK.2.1 _ _ _ (by omega) hob1
  have b3' : tm2.getD 3 undefA = .ptr H.length 0 0 := by rw [b3]; simp only [B3,seval,hl1,a3]
  have hK2 : Keeps n id H H2 := aK.down.trans bK
  by_cases h0 : args.length = 0
  ·have hd : decide ((0 : Int) < (args.length : Int)) = false := decide_eq_false (by omega)
   simp only [B0,B2,exec0,xreg,xops,aopc,endK,resA,tupA,List.replicate,binA,isShift,binInt,reduceCtorEq,lenA,seval,hl2,b0,b3',hob2,hel,hd]
   refine ⟨H2, ?_, hK2, rfl⟩
   simp only [showT,if_pos h0,List.append_nil]
   rwa [List.append_assoc] at bH
  ·have hd : decide ((0 : Int) < (args.length : Int)) = true := decide_eq_true (by omega)
   obtain ⟨H3, hc3, cH, cK⟩ := s122 hty bH 41 (by simp only [List.length_append]; rw [if_neg h0] at hb; simp at hb; omega)
   simp only [byteDat,show (((41 : UInt8).toNat : Nat) : Int) = 41 from rfl] at hc3
   simp only [B0,B2,exec0,xreg,xops,aopc,endK,resA,tupA,List.replicate,binA,isShift,binInt,reduceCtorEq,lenA,seval,hl2,b0,b3',hob2,hel,hd,hc3]
   refine ⟨H3, ?_, hK2.trans cK, rfl⟩
   simp only [showT,if_neg h0]
   simpa only [List.append_assoc] using cH
termination_by t => SizeOf.sizeOf t
decreasing_by
 have := List.sizeOf_lt_of_mem ha
 simp only [KT.mk.sizeOf_spec]
 omega
end
end Go.Abs.Seat
end
section
set_option linter.unusedVariables false
set_option linter.unusedSimpArgs false
namespace Go.Abs.Seat
open Go.Proofs
theorem kcnt_le : ∀ i, i < 8 → kcnt i ≤ 2 := by decide
mutual
theorem right_narrow : ∀ (t : KT) (d : Int), rightT t d = true → narrow t
 | .mk k s args, d, h => by
  simp only [rightT] at h
  split at h
  ·rename_i i hi
   split at h
   ·simp at h
   ·split at h
    ·rename_i hl
     have := kcnt_le i (kidx_lt hi).1
     simp only [narrow]
     exact ⟨by omega, right_narrows args (d - 1) (by simpa using h)⟩
    ·simp at h
  ·simp at h
theorem right_narrows : ∀ (l : List KT) (d : Int), rightNot l d = false → narrows l
 | [], d, h => by simp only [narrows]
 | a :: l, d, h => by
  simp only [rightNot,Bool.or_eq_false_iff,Bool.not_eq_false'] at h
  simp only [narrows]
  exact ⟨right_narrow a d h.1, right_narrows l d h.2⟩
end
theorem bytesE_of : ∀ l : List UInt8, bytesE (l.map fun b => [byteDat b]) = some l
 | [] => rfl
 | b :: l => by
  have h := bytesE_of l
  simp only [List.map_cons,byteDat,bytesE]
  simp only [byteDat] at h
  rw [h]
  have hb := b.toNat_lt
  simp only
  rw [if_pos ⟨by omega, by omega⟩]
  simp
mutual
theorem show_len : ∀ (t : KT) (d : Nat), rightT t d = true → (showT t).length ≤ 100 * 4 ^ d
 | .mk k s args, d, h => by
  have hg := kgath_len k words word_len
  have hw8 : words.length = 8 := rfl
  simp only [rightT] at h
  split at h
  ·rename_i i hi
   split at h
   ·simp at h
   ·rename_i hd
    obtain ⟨d, rfl⟩ : ∃ d', d = d' + 1 := ⟨d - 1, by omega⟩
    split at h
    ·rename_i hl
     have h2 := kcnt_le i (kidx_lt hi).1
     have := show_lens args d 40 (by simpa using h)
     have hp : 0 < 4 ^ d := Nat.pos_of_ne_zero (by simp)
     have hm : args.length * (1 + 100 * 4 ^ d) ≤ 2 * (1 + 100 * 4 ^ d) := Nat.mul_le_mul_right _ (by omega)
     have he : 4 ^ (d + 1) = 4 * 4 ^ d := by rw [Nat.pow_succ]; omega
     simp only [showT,List.length_append]
     split <;> simp <;> omega
    ·simp at h
  ·simp at h
theorem show_lens : ∀ (l : List KT) (d : Nat) (c : UInt8), rightNot l d = false → (showTs l c).length ≤ l.length * (1 + 100 * 4 ^ d)
 | [], d, c, h => by simp [showTs]
 | a :: l, d, c, h => by
  simp only [rightNot,Bool.or_eq_false_iff,Bool.not_eq_false'] at h
  have h1 := show_len a d h.1
  have h2 := show_lens l d 44 h.2
  simp only [showTs,List.length_cons,List.length_append,Nat.add_mul]
  omega
end
theorem show_ne : ∀ (t : KT) (d : Int), rightT t d = true → showT t ≠ []
 | .mk k s args, d, h => by
  simp only [rightT] at h
  split at h
  ·rename_i i hi
   simp only [showT]
   intro e
   have e2 := (List.append_eq_nil_iff.1 e).1
   have hi' := hi
   unfold kidx at hi'
   obtain ⟨h1, h2, _⟩ := List.findIdx?_eq_some_iff_getElem.1 hi'
   have key : ∀ w ∈ words, kgath w.1 words ≠ [] := by decide
   have := key words[i] (List.getElem_mem h1)
   rw [of_decide_eq_true h2] at this
   exact this e2
  ·simp at h
theorem s75 (t : KT) (hok : okT t) (H : Heap) : L 75 [.im (.agg (encT t))] H = some (.tup [.im (.str (if rightT t 6 = true then showT t else [])), .im (.int .i64 (checkT t))], H) := by
 have h19 := fun H => s81 t hok H
 unfold checkT at h19 ⊢
 rcases Bool.eq_false_or_eq_true (rightT t 6) with hr | hr
 ·simp only [hr,if_true] at h19 ⊢
  have hlen := show_len t 6 hr
  have hne := show_ne t 6 hr
  have h48 := s99 (n := H.length + 2) (ty := (92, 2)) (rest := []) (by decide) t hok (right_narrow t 6 hr) (H.length + 1) (H ++ [.obj none [(encT t).map .im], .obj (some (92, 2)) [[.im .nilp, .nils]]]) []
   (by simp; omega) ⟨.im .nilp, .nils, by rw [Go.Abs.hget]; rfl, .inl rfl, .inl ⟨rfl, rfl⟩, by simp⟩
  obtain ⟨H2, hc, ⟨a0, v, hid, _, hG, _⟩, hK⟩ := h48
  rw [List.nil_append] at hG
  rcases hG with ⟨hes, _⟩ | ⟨_, tok, htok, rfl, hhw⟩
  ·exact absurd (by simpa using hes) hne
  ·have h49 : L 47 [.ptr (H.length + 1) 0 0] H2 = some (.im (.str (showT t)), H2.set tok (.hw 5 ((showT t).length + 1))) := by
    rw [L26]
    simp only [stE,hid,hhw,bytesE_of]
    rw [if_pos ⟨by decide, trivial, by simp, trivial, List.length_pos_iff.2 hne, by omega⟩]
    simp
   have hheld : heldIn H (H2.set tok (.hw 5 ((showT t).length + 1))) := fun i hi => by
    left
    rw [List.getElem?_set_ne (by omega), hK.2.2 i (by omega) (by simp; omega) (by omega), List.getElem?_append_left hi]
   have htake : (H2.set tok (.hw 5 ((showT t).length + 1))).take H.length = H := by
    apply List.ext_getElem?
    intro i
    rw [List.getElem?_take]
    split
    ·rename_i hi
     rcases hheld i hi with h | ⟨o, h, _⟩
     ·exact h
     ·rw [List.getElem?_set_ne (by omega), hK.2.2 i (by omega) (by simp; omega) (by omega), List.getElem?_append_left hi]
    ·rename_i hi
     rw [List.getElem?_eq_none (by omega)]
   have hlv : leave H false (.tup [.im (.str (showT t)), .im (.int .i64 0)]) (H2.set tok (.hw 5 ((showT t).length + 1))) = (.tup [.im (.str (showT t)), .im (.int .i64 0)], H) := by
    unfold leave
    have e : (if (false : Bool) = true then AV.tup [.im (.str (showT t)), .im (.int .i64 0)] else degrade (.tup [.im (.str (showT t)), .im (.int .i64 0)])) = .tup [.im (.str (showT t)), .im (.int .i64 0)] := by simp [degrade, degrade1, toDat]
    rw [e, if_pos ⟨by simp only [refsLt,refsLts,Bool.and_self], hheld⟩, htake]
   generalize showT t = txt at *
   obtain ⟨k, s, ts⟩ := t
   simp only [encT,List.map_cons,List.map_nil] at h19 hc ⊢
   rw [leq F75]
   obtain ⟨hln, ha⟩ := enter_at (f := f75) (args := [.im (.agg [.int .i64 k, .sl s (encTs ts)])]) (Nat.le_of_ble_eq_true rfl)
   have h0 := ha 0 _ rfl
   generalize enterA f75 [.im (.agg [.int .i64 k, .sl s (encTs ts)])] = tm at *
   change tm.length = 18 at hln
   simp only [f75,B0,B2,exec0,xreg,xops,aopc,endK,resA,tupA,List.replicate,binA,isShift,binInt,reduceCtorEq,lenA,seval,hln,h0,h19,hc,h49,hlv]
 ·simp only [hr,Bool.false_eq_true,if_false] at h19 ⊢
  obtain ⟨k, s, ts⟩ := t
  simp only [encT] at h19 ⊢
  rw [leq F75]
  obtain ⟨hln, ha⟩ := enter_at (f := f75) (args := [.im (.agg [.int .i64 k, .sl s (encTs ts)])]) (Nat.le_of_ble_eq_true rfl)
  have h0 := ha 0 _ rfl
  generalize enterA f75 [.im (.agg [.int .i64 k, .sl s (encTs ts)])] = tm at *
  change tm.length = 18 at hln
  simp only [f75,B0,B2,exec0,xreg,xops,aopc,endK,resA,tupA,List.replicate,binA,isShift,binInt,reduceCtorEq,lenA,seval,hln,h0,h19,leave_tup2]
end Go.Abs.Seat
end
section
set_option linter.unusedVariables false
set_option linter.unusedSimpArgs false
namespace Go.Abs.Seat
open Go.Proofs
def rowsS (l : List (List UInt8)) : List (List Dat) := l.map fun x => [.str x]
theorem rowsS_len (l : List (List UInt8)) : (rowsS l).length = l.length := List.length_map ..
theorem strsE_rows : ∀ l : List (List UInt8), strsE (rowsS l) = some l
 | [] => rfl
 | x :: l => by
  have ih := strsE_rows l
  unfold rowsS at ih ⊢
  simp only [List.map_cons,strsE,ih]
theorem c77 (l : List (List UInt8)) (sep : List UInt8) (a : AV) (s : Nat) (ha : toDat a = some (.sl s (rowsS l))) (hl : l.length ≤ 1000000) (hj : (Lib.join l sep).length ≤ 1000000000) (H : Heap) : L 77 [a, .im (.str sep)] H = some (.im (.str (Lib.join l sep)), H) := by
 unfold L
 rw [lim_none (by kernel_rfl)]
 have h1 : l.length ≤ 140737488355328 := by omega
 have h2 : (Lib.join l sep).length ≤ 140737488355328 := by omega
 simp [bld, atoiO, countO, itoaO, joinO, strsA, ha, strsE_rows, h1, h2]
theorem c76 (n : Int) (h0 : -9223372036854775808 ≤ n) (h1 : n ≤ 9223372036854775807) (H : Heap) : L 76 [.im (.int .i64 n)] H = some (.im (.str (itoaN n)), H) := by
 unfold L
 rw [lim_none (by kernel_rfl)]
 simp [bld, atoiO, countO, itoaO, h0, h1]
theorem digN_len : ∀ f u, (digN f u).length ≤ f
 | 0, u => by simp [digN]
 | f + 1, u => by
  unfold digN
  split
  ·simp
  ·have := digN_len f (u / 10)
   simp; omega
theorem itoaN_len (n : Int) : (itoaN n).length ≤ 21 := by
 unfold itoaN
 split
 ·have := digN_len 20 n.natAbs; simp; omega
 ·have := digN_len 20 n.toNat; omega
theorem join_two (x y : List UInt8) (l : List (List UInt8)) (sep : List UInt8) : Lib.join (x :: y :: l) sep = x ++ (sep ++ Lib.join (y :: l) sep) := by
 rw [Lib.join_cons, Lib.join_cons]
 simp [Lib.joinTail]
theorem join_len (sep : UInt8) (b : Nat) : ∀ l : List (List UInt8), (∀ x ∈ l, x.length ≤ b) → (Lib.join l [sep]).length ≤ l.length * (b + 1)
 | [], _ => by simp [Lib.join_nil]
 | [x], h => by
  have := h x (.head _)
  rw [Lib.join_one]; simp; omega
 | x :: y :: l, h => by
  have h1 := h x (.head _)
  have ih := join_len sep b (y :: l) (fun z hz => h z (.tail _ hz))
  rw [join_two]
  simp only [List.length_append,List.length_cons,List.length_nil] at ih ⊢
  rw [Nat.add_mul (l.length + 1) 1]
  omega
def commasL (l : List Int) : List UInt8 := if l = [] then [45] else Lib.join (l.map itoaN) [44]
theorem commasL_len (l : List Int) : (commasL l).length ≤ l.length * 22 + 1 := by
 unfold commasL
 split
 ·simp
 ·have := join_len 44 21 (l.map itoaN) (fun x hx => by obtain ⟨n, _, rfl⟩ := List.mem_map.1 hx; exact itoaN_len n)
  simp only [List.length_map] at this
  omega
theorem m74 (l : List Int) (s : Nat) (hs : l = [] ∨ s = 1) (hn : l.length ≤ 100000) (hr : ∀ k ∈ l, -9223372036854775808 ≤ k ∧ k ≤ 9223372036854775807) (H : Heap) :
  ∀ (k i : Nat), i + k = l.length → ∀ (tm : List AV) (M : Heap) (v : AV), Gath 9 1 H.length v (H ++ M) (rowsS ((l.take i).map itoaN)) → tm.length = 23 → tm.getD 3 undefA = v → tm.getD 9 undefA = .im (.sl s (rowsI l)) → tm.getD 10 undefA = .im (.int .i64 (l.length : Int)) → tm.getD 11 undefA = .im (.int .i64 (i : Int)) →
  ∃ e tm' H', Λ c74_0 tm (H ++ M) = some (e, tm', H') ∧ tm'.length = 23 ∧ e = .exit 0 ∧ ∃ M', H' = H ++ M' ∧ Gath 9 1 H.length (tm'.getD 3 undefA) (H ++ M') (rowsS (l.map itoaN))
 | 0, i, hi, tm, M, v, hG, hlen, h3, h9, h10, h11 => by
  have hc : decide ((i : Int) < (l.length : Int)) = false := decide_eq_false (by omega)
  rw [List.take_of_length_le (by omega)] at hG
  rw [l74_0]
  simp only [b74_0,B0,B1,B2,List.replicate,reduceCtorEq,lenA,seval,hlen,h3,h9,h10,h11,hc]
  exact ⟨_, _, _, rfl, by simp only [List.length_set,hlen], rfl, M, rfl, by simp only [B3,seval,hlen,h3]; exact hG⟩
 | k + 1, i, hi, tm, M, v, hG, hlen, h3, h9, h10, h11 => by
  have hlt : i < l.length := by omega
  obtain ⟨w, hwi⟩ : ∃ w, l[i]? = some w := ⟨_, List.getElem?_eq_getElem hlt⟩
  have hs2 : s = 1 := by
   rcases hs with hs | hs
   ·subst hs; simp at hlt
   ·exact hs
  subst hs2
  have hw := hr w (List.mem_of_getElem? hwi)
  have hml := rowsI_len l
  have hc' : decide ((i : Int) < (l.length : Int)) = true := decide_eq_true (by omega)
  have hix := idx_nat (n := l.length) (i := i) hlt
  have hgw : (rowsI l)[i]? = some [.int .i64 w] := by unfold rowsI; rw [List.getElem?_map, hwi]; rfl
  have hwr := wrap_nat (i := i) (by omega)
  have c76 := fun J => c76 w hw.1 hw.2 J
  have hrl := rowsS_len ((l.take i).map itoaN)
  obtain ⟨v', M', hap, hG', hok, _⟩ := hG.push (bytes := 16) [.str (itoaN w)] (by rw [hrl]; simp; omega) (by decide)
  have htk : rowsS ((l.take (i + 1)).map itoaN) = rowsS ((l.take i).map itoaN) ++ [[.str (itoaN w)]] := by
   rw [List.take_add_one, hwi]; simp [rowsS]
  rw [← htk] at hG'
  have key := fun tm => m74 l 1 hs hn hr H k (i + 1) (by omega) tm M' v' hG'
  rw [l74_0]
  simp only [b74_0,B0,B1,B2,List.replicate,reduceCtorEq,lenA,seval,B5,pairK,B4,stays,loadOf,hlen,h3,h9,h10,h11,hc',hml,hix,hgw,hwr,c76,toDatss,toDats,toDat,elems,hap]
  refine key _ ?_ ?_ ?_ ?_ ?_
  ·simp only [List.length_set,hlen]
  iterate 4 simp only [B3,seval,hlen,h9,h10]
theorem s74 (l : List Int) (s : Nat) (hs : l = [] ∨ s = 1) (hn : l.length ≤ 100000) (hr : ∀ k ∈ l, -9223372036854775808 ≤ k ∧ k ≤ 9223372036854775807) (H : Heap) : L 74 [.im (.sl s (rowsI l))] H = some (.im (.str (commasL l)), H) := by
 have hml := rowsI_len l
 have hcl := commasL_len l
 have key := fun tm => m74 l s hs hn hr H l.length 0 (by omega) tm [] .nils (.inl ⟨by simp [rowsS], rfl⟩)
 rw [List.append_nil] at key
 rw [leq F74]
 obtain ⟨hlen, hx⟩ := enter_at (f := f74) (args := [.im (.sl s (rowsI l))]) (Nat.le_of_ble_eq_true rfl)
 have h0 := hx 0 _ rfl
 generalize enterA f74 [.im (.sl s (rowsI l))] = tm at *
 change tm.length = 23 at hlen
 unfold commasL at *
 by_cases he : l = []
 ·have d : decide ((l.length : Int) = 0) = true := decide_eq_true (by rw [he]; rfl)
  rw [if_pos he]
  simp only [f74,B0,B1,B2,List.replicate,reduceCtorEq,lenA,seval,B5,pairK,B4,stays,loadOf,endK,resA,tupA,hlen,h0,hml,d,leave_same]
 ·have hpos : 0 < l.length := List.length_pos_iff.2 he
  have d : decide ((l.length : Int) = 0) = false := decide_eq_false (by omega)
  rw [if_neg he] at hcl ⊢
  simp only [f74,e74_0,B0,B1,B2,List.replicate,reduceCtorEq,lenA,seval,B5,pairK,B4,stays,loadOf,hlen,h0,hml,d]
  generalize hr : thenL (Λ c74_0 _ _) _ = r
  refine Exists.elim (thenL_inv hr (key _ ?_ ?_ ?_ ?_ ?_)) ?_
  ·simp only [List.length_set,hlen]
  iterate 3 simp only [B3,seval,hlen,h0]
  ·simp only [B3,seval,hlen]; first | done | rfl
  clear hr key
  rintro e ⟨tm', H', ⟨hl', rfl, M', rfl, hG⟩, rfl⟩
  have hd := hG.dat
  have c77 := fun J => c77 (l.map itoaN) [44] _ _ hd (by rw [List.length_map]; omega) (by omega) J
  generalize hv : tm'.getD 3 undefA = v at *
  simp only [B0,B1,B2,List.replicate,reduceCtorEq,lenA,seval,B5,pairK,B4,stays,loadOf,endK,resA,tupA,hl',hv,c77,leave_app]
end Go.Abs.Seat
end
