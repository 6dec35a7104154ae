/- The law CheckLets of layer 5 returns true for every input. Conditions: none beyond those of the given row. -/
import Derived.Test.YtmlpfgibpigcdaaGreatDoorRows
import Derived.Test.YtmlpfgibpigcdaaGreatDoorCards
import Derived.Test.YtmlpfgibpigcdaaGreatDoorTie
import Derived.WalkKit
import Derived.ProofKit
import Derived.JoinedOf
import Derived.LaidLaws
import Derived.LaidMore
import Derived.MakeChecks
import Derived.Stop.Joined
import Derived.SevenTiedAt
import Derived.Stop.LaidErr
import Derived.Lib.LaidTab
import Derived.Test.YtmlpfgibpigcdaaGreatDoorLetsA
import Derived.Test.YtmlpfgibpigcdaaGreatDoorLetsB
import Derived.Test.YtmlpfgibpigcdaaGreatDoorLetsC
import Derived.Test.YtmlpfgibpigcdaaGreatDoorLetsD
import Derived.Test.YtmlpfgibpigcdaaGreatDoorLetsE
import Derived.Test.YtmlpfgibpigcdaaGreatDoorLetsF
import Derived.Test.YtmlpfgibpigcdaaGreatDoorLetsG
import Derived.Test.YtmlpfgibpigcdaaGreatDoorLetsH
import Derived.Test.YtmlpfgibpigcdaaGreatDoorLetsI
section
set_option linter.unusedVariables false
set_option linter.unusedSimpArgs false
namespace Go.Proofs.YtmlpfgibpigcdaaGreatDoor.checkLets
open Go.ChangeShapes Go.WideShapes Go.ChangeAt Go.RowKit Go.Abs
theorem own : ownKnob Tryz.prog.godebug = none := by kernel_rfl
def laid3 : List (String × DataW Unit) := [("math/bits.deBruijn32tab", Rows.laid_math_bits_deBruijn32tab), ("math/bits.deBruijn64tab", Rows.laid_math_bits_deBruijn64tab), ("internal/strconv.uint64pow10", Rows.laid_internal_strconv_uint64pow10)]
theorem door_met (os : Os) (args : Array Value) : laidMetH Tryz.prog laid3 ((World.doorLaid Tryz.prog 400 os).forCall (fun _ _ => 0) ⟨#[], args, []⟩).memory := by
 rw [MakeChecks.laidMetH_plain _ _ _ (by kernel_rfl)]
 exact laidMet_of_run' 8 (by kernel_rfl) (by kernel_rfl)
theorem tab_of {W : World} (h : laidMetH Tryz.prog laid3 W) : Tryz.tab W := by
 rw [MakeChecks.laidMetH_plain _ _ _ (by kernel_rfl)] at h
 have h2 : laidMet Tryz.prog (("internal/strconv.uint64pow10", Lib.tabData .u64 Lib.pow10Tab) :: []) W := h.tail.tail
 exact Lib.tabIs_of_head (g := 0) (t := 205) (e := 166) (n := 20) (by kernel_rfl) (by kernel_rfl) (by kernel_rfl) (by kernel_rfl) (by kernel_rfl) (by kernel_rfl) h2
set_option maxRecDepth 100000 in
theorem contract (H : Type) (enc : TypeId × Value → H) (W : World) (base : Nat) (args : Array Value) (ds gs : List (DataW H)) (before : List MemPlace)
  (hval : ∀ (j : Nat) t v, Tryz.f3.params[j]? = some t → args[j]? = some v → Value.okWide Tryz.prog W .any base t v)
  (hW : DataW.Whole enc Tryz.prog Tryz.f3.params.toList Rows.checkLetsSpec.vars false W args.toList ds gs before) (hL : laidMetH Tryz.prog laid3 W) :
  Calls Tryz.prog 3 args W fun e W' => ∃ v, e = .returned v ∧ Rows.checkLetsSpec.post enc Tryz.prog Tryz.f3 false true false false W args v W' := by
 have hW' := hW
 obtain ⟨p, q, hA0, hV, rfl, hfz, hnd⟩ := hW
 have hA : DataW.TrodAll enc Tryz.prog W 0 (fun _ => true) true Tryz.f3.params.toList args.toList ds p := hA0
 rw [Tryz.params3] at hA hval
 obtain ⟨v0, v1, v2, d0, d1, d2, p0, p1, p2, rfl, rfl, rfl, h0, h1, h2⟩ := trodAll_three hA
 obtain ⟨rfl, rfl⟩ := trodVars_none hV
 obtain ⟨a0, g0, r0⟩ := arg_agg (cells_agg Tryz.underlying27 (hval 0 27 v0 rfl rfl)) (fun n => (Seat.readsN n).1) h0
 obtain ⟨a1, g1, r1⟩ := arg_agg (cells_agg Tryz.underlying27 (hval 1 27 v1 rfl rfl)) (fun n => (Seat.readsN n).1) h1
 obtain ⟨a2, g2, r2⟩ := arg_agg (cells_agg Tryz.underlying29 (hval 2 29 v2 rfl rfl)) (fun n => Seat.readsE n) h2
 clear hA0
 simp only [List.append_nil] at hW'
 obtain ⟨H', hrun⟩ := Seat.s3t a0 a1 a2 g0 g1 g2
 have ht := tab_of hL
 refine (start_calls (P := Tryz.prog) (by kernel_rfl) (W := W) (Tryz.tab_keep ht) ht Tryz.known Seat.no Seat.pol hrun (vs := [v0, v1, v2]) (by simp only [RelAs]; exact ⟨v0, _, rfl, r0, ⟨v1, _, rfl, r1, ⟨v2, _, rfl, r2, rfl⟩⟩⟩)).mono fun e W' ⟨he, hb⟩ => ?_
 subst he
 exact ⟨_, rfl, post_below Tryz.underlying4 (by kernel_rfl) rfl rfl (by kernel_rfl) (by rw [Tryz.params3]; decide +kernel) hW' hb⟩
set_option maxRecDepth 100000 in
theorem lifted (os : Os) (started : os.Started) (H : Type) (enc : TypeId × Value → H) :
  ReturnsInHanded {} Tryz.checked os 3 .any (fun w args => (Rows.checkLetsSpec.pre enc Tryz.prog Tryz.f3 [] false w args ∧ laidMetH Tryz.prog laid3 w) ∧ sizedMet enc Tryz.prog Tryz.f3 (OpenSpec.ofChange Rows.checkLetsSpec) false w args)
   (Rows.checkLetsSpec.post enc Tryz.prog Tryz.f3 false true false false) := by
 refine returnsInHanded_of_change_and (C := Tryz.checked) (X := fun w _ => laidMetH Tryz.prog laid3 w) (fun _ _ _ hh h => h.of_heap hh) own started (by kernel_rfl) Tryz.func3
  (ChangeSpec.witness_shaped (enc := enc) (C := Tryz.checked) (os := os) (X := fun w _ => laidMetH Tryz.prog laid3 w) false (World.doorLaid Tryz.prog 400 os) #[.agg #[.string ⟨#[]⟩, .int .i64 0, .string ⟨#[]⟩, .int .i64 0, .slice none 0 0, .slice none 0 0], .agg #[.string ⟨#[]⟩, .int .i64 0, .string ⟨#[]⟩, .int .i64 0, .slice none 0 0, .slice none 0 0], .agg #[.int .i64 0, .slice none 0 0, .slice none 0 0]] 8 rfl (World.shaped_of_RefB (by kernel_rfl) (by kernel_rfl)) (by kernel_rfl) (by kernel_rfl) (by kernel_rfl) (door_met os _)) ?_
 intro W base args ds gs before hval hW h1 h2 h3 h4
 exact contract H enc W base args ds gs before hval hW (by first | exact h1 | exact h2 | exact h3 | exact h4)
theorem row : Rows.CheckLetsSaid :=
 OpenClaim.holds_of_wide 3 Tryz.f3 rfl rfl rfl rfl rfl rfl rfl ⟨rfl, rfl, rfl, rfl, rfl⟩ rfl rfl rfl rfl rfl (by kernel_rfl) Tryz.func3 (by kernel_rfl)
  (of_decide_eq_true (by kernel_rfl)) (by unfold Func.isWrapper; first | (rw [if_pos (by decide +kernel)]; kernel_rfl) | (rw [if_neg (by decide +kernel)]; exact ⟨rfl, rfl⟩))
  (fun os started H enc _ => lifted os started H enc)
theorem holds : Rows.CheckLetsCardSaid :=
 Claim7.holds_tied_plain_at .later [] [.data, .data, .data] true (true, "801eb7c547aa31ab39be8bc3e518d1d9a41484a1eacb692131ad0137d17f27ca") false
  row (fun _ h => by cases h) (by kernel_rfl) (fun _ h => by cases h) checkLets_row_tie rfl ⟨rfl, rfl⟩ (by kernel_rfl) rfl
  (fun f fn hf hfn => by
   obtain rfl : f = 3 := Option.some.inj ((show Tryz.prog.funcNamed "watershed/watershedlaw05.CheckLets" = some 3 by kernel_rfl).symm.trans hf) |>.symm
   obtain rfl : fn = Tryz.f3 := (Option.some.inj (Tryz.func3.symm.trans hfn)).symm
   exact ⟨by kernel_rfl, fun j t ht => by
    rw [Tryz.params3] at ht
    have hm : t ∈ [27, 27, 29] := by simpa using Array.mem_of_getElem? ht
    have hall : ([27, 27, 29].all fun u => !Tryz.prog.wantsStandIn u) = true := by kernel_rfl
    exact (show Tryz.prog.wantsStandIn t = false by simpa using List.all_eq_true.1 hall t hm)⟩)
  (by kernel_rfl)
#print axioms holds
end Go.Proofs.YtmlpfgibpigcdaaGreatDoor.checkLets
end
