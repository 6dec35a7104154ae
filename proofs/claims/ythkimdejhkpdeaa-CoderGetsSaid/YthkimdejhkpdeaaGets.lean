/- The law CoderGets of layer 2 returns true for every input, and its arguments read afterwards as they read before. Conditions: none beyond those of the given row. -/
import Derived.Test.YthkimdejhkpdeaaRows
import Derived.WalkKit
import Derived.ProofKit
import Derived.JoinedOf
import Derived.Test.YthkimdejhkpdeaaGetsA
import Derived.Test.YthkimdejhkpdeaaGetsB
import Derived.Test.YthkimdejhkpdeaaGetsC
import Derived.Test.YthkimdejhkpdeaaGetsD
import Derived.Test.YthkimdejhkpdeaaGetsE
import Derived.Test.YthkimdejhkpdeaaGetsF
import Derived.Test.YthkimdejhkpdeaaGetsG
import Derived.Test.YthkimdejhkpdeaaGetsH
import Derived.Test.YthkimdejhkpdeaaGetsI
import Derived.Test.YthkimdejhkpdeaaGetsJ
section
set_option linter.unusedVariables false
set_option linter.unusedSimpArgs false
namespace Go.Proofs.Ythkimdejhkpdeaa.coderGets
open Go.ChangeShapes Go.WideShapes Go.ChangeAt Go.RowKit Go.Abs
set_option linter.unusedVariables false

theorem own : ownKnob Try.prog.godebug = none := by kernel_rfl

set_option maxRecDepth 100000 in
theorem contract (H : Type) (enc : TypeId × Value → H) (W : World) (base : Nat) (args : Array Value) (ds gs : List (DataW H)) (before : List MemPlace)
    (hval : ∀ (j : Nat) t v, Try.f10.params[j]? = some t → args[j]? = some v → Value.okWide Try.prog W .any base t v)
    (hW : DataW.Whole enc Try.prog Try.f10.params.toList Rows.coderGetsSpec.vars false W args.toList ds gs before) :
    Calls Try.prog 10 args W fun e W' => ∃ v, e = .returned v ∧ Rows.coderGetsSpec.post enc Try.prog Try.f10 false true false false W args v W' := by
  have hW' := hW
  obtain ⟨p, q, hA0, hV, rfl, hfz, hnd⟩ := hW
  have hA : DataW.TrodAll enc Try.prog W 0 (fun _ => true) true Try.f10.params.toList args.toList ds p := hA0
  rw [Try.params10] at hA hval
  obtain ⟨v0, v1, d0, d1, p0, p1, rfl, rfl, rfl, h0, h1⟩ := trodAll_two hA
  obtain ⟨rfl, rfl⟩ := trodVars_none hV
  obtain ⟨a0, g0, r0⟩ := arg_agg (cells_agg Try.underlying31 (hval 0 31 v0 rfl rfl)) (fun n => (Seat.readsRT n).1) h0
  obtain ⟨a1, g1, r1⟩ := arg_flat Try.underlying74 rfl (fun n => Seat.readsB n) (hval 1 74 v1 rfl rfl) h1
  clear hA0
  simp only [List.append_nil] at hW'
  have hrun := Seat.s10 a0 g0 a1 1 (.inr rfl) []
  refine (start_calls (P := Try.prog) (by kernel_rfl) (fun B => bld_sound Try.bld) Seat.no Seat.pol hrun (W := W) (vs := [v0, v1]) (by simp only [RelAs]; exact ⟨v0, _, rfl, r0, ⟨v1, _, rfl, r1, rfl⟩⟩)).mono fun e W' ⟨he, hb⟩ => ?_
  subst he
  exact ⟨_, rfl, post_below Try.underlying4 (by kernel_rfl) rfl rfl (by kernel_rfl) (by rw [Try.params10]; decide +kernel) hW' hb⟩

set_option maxRecDepth 100000 in
theorem lifted (os : Os) (started : os.Started) (H : Type) (enc : TypeId × Value → H) :
    ReturnsInHanded {} Try.checked os 10 .any (Rows.coderGetsSpec.pre6 enc Try.prog Try.f10 Rows.coderGetsRow.domain false) (Rows.coderGetsSpec.post enc Try.prog Try.f10 false true false false) := by
  refine returnsInHanded_of_change (C := Try.checked) own started (by kernel_rfl) Try.func10
    (ChangeSpec.witness6 (enc := enc) (C := Try.checked) false ⟨#[], #[.agg #[.int .i64 0, .slice none 0 0], .slice none 0 0], []⟩ 8 (by kernel_rfl) (by kernel_rfl) (by kernel_rfl) (by kernel_rfl)) ?_
  intro W base args ds gs before hval hW _ _
  exact contract H enc W base args ds gs before hval hW

theorem holds : Rows.CoderGetsSaid :=
  OpenClaim.holds_of_wide 10 Try.f10 rfl rfl rfl rfl rfl rfl rfl ⟨rfl, rfl, rfl, rfl, rfl⟩ rfl rfl rfl rfl rfl (by kernel_rfl) Try.func10 (by kernel_rfl)
    (of_decide_eq_true (by kernel_rfl)) (by unfold Func.isWrapper; first | (rw [if_pos (by decide +kernel)]; kernel_rfl) | (rw [if_neg (by decide +kernel)]; exact ⟨rfl, rfl⟩))
    (fun os started H enc _ => lifted os started H enc)
end Go.Proofs.Ythkimdejhkpdeaa.coderGets
end
