/- The law ValueRing of layer 1 returns true for every input, and its arguments read afterwards as they read before. Conditions: none beyond those of the given row. -/
import Derived.Test.YthkimdejhkpdeaaRows
import Derived.WalkKit
import Derived.ProofKit
import Derived.JoinedOf
import Derived.Test.YthkimdejhkpdeaaRiA
import Derived.Test.YthkimdejhkpdeaaRiB
import Derived.Test.YthkimdejhkpdeaaRiC
import Derived.Test.YthkimdejhkpdeaaRiD
import Derived.Test.YthkimdejhkpdeaaRiE
import Derived.Test.YthkimdejhkpdeaaRiF
import Derived.Test.YthkimdejhkpdeaaRiG
section
set_option linter.unusedVariables false
set_option linter.unusedSimpArgs false
namespace Go.Proofs.Ythkimdejhkpdeaa.valueRing
open Go.ChangeShapes Go.WideShapes Go.ChangeAt Go.RowKit Go.Abs
set_option linter.unusedVariables false

theorem own : ownKnob Try.prog.godebug = none := by kernel_rfl

set_option maxRecDepth 100000 in
theorem contract (H : Type) (enc : TypeId × Value → H) (W : World) (base : Nat) (args : Array Value) (ds gs : List (DataW H)) (before : List MemPlace)
    (hval : ∀ (j : Nat) t v, Try.f8.params[j]? = some t → args[j]? = some v → Value.okWide Try.prog W .any base t v)
    (hW : DataW.Whole enc Try.prog Try.f8.params.toList Rows.valueRingSpec.vars false W args.toList ds gs before) :
    Calls Try.prog 8 args W fun e W' => ∃ v, e = .returned v ∧ Rows.valueRingSpec.post enc Try.prog Try.f8 false true false false W args v W' := by
  have hW' := hW
  obtain ⟨p, q, hA0, hV, rfl, hfz, hnd⟩ := hW
  have hA : DataW.TrodAll enc Try.prog W 0 (fun _ => true) true Try.f8.params.toList args.toList ds p := hA0
  rw [Try.params8] at hA hval
  obtain ⟨v0, v1, v2, d0, d1, d2, p0, p1, p2, rfl, rfl, rfl, h0, h1, h2⟩ := trodAll_three hA
  obtain ⟨rfl, rfl⟩ := trodVars_none hV
  obtain ⟨a0, g0, r0⟩ := arg_agg (cells_arr Try.underlying52 (hval 0 52 v0 rfl rfl)) (fun n => Seat.readsP2 n) h0
  obtain ⟨a1, g1, r1⟩ := arg_agg (cells_arr Try.underlying52 (hval 1 52 v1 rfl rfl)) (fun n => Seat.readsP2 n) h1
  obtain ⟨a2, g2, r2⟩ := arg_agg (cells_arr Try.underlying52 (hval 2 52 v2 rfl rfl)) (fun n => Seat.readsP2 n) h2
  clear hA0
  simp only [List.append_nil] at hW'
  obtain ⟨H', hrun⟩ := Seat.s8c a0 a1 a2 g0 g1 g2
  refine (start_calls (P := Try.prog) (by kernel_rfl) Try.known Seat.no Seat.pol hrun (W := W) (vs := [v0, v1, v2]) (by simp only [RelAs]; exact ⟨v0, _, rfl, r0, ⟨v1, _, rfl, r1, ⟨v2, _, rfl, r2, rfl⟩⟩⟩)).mono fun e W' ⟨he, hb⟩ => ?_
  subst he
  exact ⟨_, rfl, post_below Try.underlying4 (by kernel_rfl) rfl rfl (by kernel_rfl) (by rw [Try.params8]; decide +kernel) hW' hb⟩

set_option maxRecDepth 100000 in
theorem lifted (os : Os) (started : os.Started) (H : Type) (enc : TypeId × Value → H) :
    ReturnsInHanded {} Try.checked os 8 .any (Rows.valueRingSpec.pre6 enc Try.prog Try.f8 Rows.valueRingRow.domain false) (Rows.valueRingSpec.post enc Try.prog Try.f8 false true false false) := by
  refine returnsInHanded_of_change (C := Try.checked) own started (by kernel_rfl) Try.func8
    (ChangeSpec.witness6 (enc := enc) (C := Try.checked) false ⟨#[], #[.agg #[.int .i64 0, .int .i64 0], .agg #[.int .i64 0, .int .i64 0], .agg #[.int .i64 0, .int .i64 0]], []⟩ 8 (by kernel_rfl) (by kernel_rfl) (by kernel_rfl) (by kernel_rfl)) ?_
  intro W base args ds gs before hval hW _ _
  exact contract H enc W base args ds gs before hval hW

theorem holds : Rows.ValueRingSaid :=
  OpenClaim.holds_of_wide 8 Try.f8 rfl rfl rfl rfl rfl rfl rfl ⟨rfl, rfl, rfl, rfl, rfl⟩ rfl rfl rfl rfl rfl (by kernel_rfl) Try.func8 (by kernel_rfl)
    (of_decide_eq_true (by kernel_rfl)) (by unfold Func.isWrapper; first | (rw [if_pos (by decide +kernel)]; kernel_rfl) | (rw [if_neg (by decide +kernel)]; exact ⟨rfl, rfl⟩))
    (fun os started H enc _ => lifted os started H enc)
end Go.Proofs.Ythkimdejhkpdeaa.valueRing
end
