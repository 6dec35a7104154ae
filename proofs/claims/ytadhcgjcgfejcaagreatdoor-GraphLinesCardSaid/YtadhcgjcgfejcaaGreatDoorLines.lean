/- The law GraphLines of layer 11 returns true for every input, and its arguments read afterwards as they read before. Conditions: none beyond those of the given row. -/
import Derived.Test.YtadhcgjcgfejcaaGreatDoorRows
import Derived.Test.YtadhcgjcgfejcaaGreatDoorCards
import Derived.Test.YtadhcgjcgfejcaaGreatDoorTie
import Derived.WalkKit
import Derived.ProofKit
import Derived.JoinedOf
import Derived.LaidLaws
import Derived.LaidMore
import Derived.Lay
import Derived.MakeChecks
import Derived.Stop.Joined
import Derived.SevenTiedAt
import Derived.Stop.LaidErr
import Derived.Lib.LaidTab
import Derived.Test.YtadhcgjcgfejcaaGreatDoorLinesA
import Derived.Test.YtadhcgjcgfejcaaGreatDoorLinesB
import Derived.Test.YtadhcgjcgfejcaaGreatDoorLinesC
import Derived.Test.YtadhcgjcgfejcaaGreatDoorLinesD
import Derived.Test.YtadhcgjcgfejcaaGreatDoorLinesE
import Derived.Test.YtadhcgjcgfejcaaGreatDoorLinesF
import Derived.Test.YtadhcgjcgfejcaaGreatDoorLinesG
import Derived.Test.YtadhcgjcgfejcaaGreatDoorLinesH
section
set_option linter.unusedVariables false
set_option linter.unusedSimpArgs false
namespace Go.Proofs.YtadhcgjcgfejcaaGreatDoor.graphLines
open Go.ChangeShapes Go.WideShapes Go.ChangeAt Go.RowKit Go.Abs
theorem own : ownKnob Tryz.prog.godebug = none := by kernel_rfl
def laid3 : List (String × DataW Unit) := [("math/bits.deBruijn32tab", Rows.laid_math_bits_deBruijn32tab), ("math/bits.deBruijn64tab", Rows.laid_math_bits_deBruijn64tab), ("internal/strconv.uint64pow10", Rows.laid_internal_strconv_uint64pow10), ("unicode/utf8.acceptRanges", Rows.laid_unicode_utf8_acceptRanges), ("strconv.ErrRange", Rows.laid_strconv_ErrRange), ("strconv.ErrSyntax", Rows.laid_strconv_ErrSyntax), ("unicode/utf8.first", Rows.laid_unicode_utf8_first)]
theorem tab_of {W : World} (h : laidMetH Tryz.prog laid3 W) : Tryz.tab W := by
 rw [MakeChecks.laidMetH_plain _ _ _ (by kernel_rfl)] at h
 have h2 : laidMet Tryz.prog (("internal/strconv.uint64pow10", Lib.tabData .u64 Lib.pow10Tab) :: _) W := h.tail.tail
 refine ⟨Lib.tabIs_of_head (g := 1) (t := 204) (e := 187) (n := 20) (by kernel_rfl) (by kernel_rfl) (by kernel_rfl) (by kernel_rfl) (by kernel_rfl) (by kernel_rfl) h2, err_cell h.tail.tail.tail.tail.tail (by kernel_rfl) (by kernel_rfl) Tryz.underlying94, err_cell h.tail.tail.tail.tail (by kernel_rfl) (by kernel_rfl) Tryz.underlying94⟩
set_option maxRecDepth 100000 in
theorem contract (H : Type) (enc : TypeId × Value → H) (W : World) (base : Nat) (args : Array Value) (ds gs : List (DataW H)) (before : List MemPlace)
  (hval : ∀ (j : Nat) t v, Tryz.f6.params[j]? = some t → args[j]? = some v → Value.okWide Tryz.prog W .any base t v)
  (hW : DataW.Whole enc Tryz.prog Tryz.f6.params.toList Rows.graphLinesSpec.vars false W args.toList ds gs before) (hL : laidMetH Tryz.prog laid3 W) :
  Calls Tryz.prog 6 args W fun e W' => ∃ v, e = .returned v ∧ Rows.graphLinesSpec.post enc Tryz.prog Tryz.f6 false true false false W args v W' := by
 have hW' := hW
 obtain ⟨p, q, hA0, hV, rfl, hfz, hnd⟩ := hW
 have hA : DataW.TrodAll enc Tryz.prog W 0 (fun _ => true) true Tryz.f6.params.toList args.toList ds p := hA0
 rw [Tryz.params6] at hA hval
 obtain ⟨v0, v1, d0, d1, p0, p1, rfl, rfl, rfl, h0, h1⟩ := trodAll_two hA
 obtain ⟨rfl, rfl⟩ := trodVars_none hV
 obtain ⟨a0, g0, r0⟩ := arg_flat Tryz.underlying29 rfl (fun n => Seat.readsGs n) (hval 0 29 v0 rfl rfl) h0
 obtain ⟨a1, g1, r1⟩ := arg_flat Tryz.underlying3 rfl (fun n => reads_int (n := n) Tryz.underlying3 (by kernel_rfl)) (hval 1 3 v1 rfl rfl) h1
 clear hA0
 simp only [List.append_nil] at hW'
 have hrun := Seat.law6 a0 14 (.inr rfl) g0.1 (by simpa [maxLen] using g0.2) a1 []
 have ht := tab_of hL
 refine (start_calls (P := Tryz.prog) (by kernel_rfl) (W := W) (Tryz.tab_keep ht) ht Tryz.known Seat.no Seat.pol hrun (vs := [v0, v1]) (by simp only [RelAs]; exact ⟨v0, _, rfl, r0, ⟨v1, _, rfl, r1, rfl⟩⟩)).mono fun e W' ⟨he, hb⟩ => ?_
 subst he
 exact ⟨_, rfl, post_below Tryz.underlying4 (by kernel_rfl) rfl rfl (by kernel_rfl) (by rw [Tryz.params6]; decide +kernel) hW' hb⟩
set_option maxRecDepth 100000 in
theorem lifted (os : Os) (started : os.Started) (H : Type) (enc : TypeId × Value → H) :
  ReturnsInHanded {} Tryz.checked os 6 .any (fun w args => (Rows.graphLinesSpec.pre enc Tryz.prog Tryz.f6 [] false w args ∧ laidMetH Tryz.prog laid3 w) ∧ sizedMet enc Tryz.prog Tryz.f6 (OpenSpec.ofChange Rows.graphLinesSpec) false w args)
   (Rows.graphLinesSpec.post enc Tryz.prog Tryz.f6 false true false false) := by
 refine returnsInHanded_of_change_and (C := Tryz.checked) (X := fun w _ => laidMetH Tryz.prog laid3 w) (fun _ _ _ hh h => h.of_heap hh) own started (by kernel_rfl) Tryz.func6
  (ChangeSpec.witness_shaped (enc := enc) (C := Tryz.checked) (os := os) (X := fun w _ => laidMetH Tryz.prog laid3 w) false (World.laidAll Tryz.prog os laid3) #[.slice none 0 0, .int .i64 0] 8 (World.laidAll_os _ _ _) (World.shaped_of_ZipB (by kernel_rfl) (by kernel_rfl)) (by kernel_rfl) (by kernel_rfl) (by kernel_rfl) (by rw [MakeChecks.laidMetH_plain _ _ _ (by kernel_rfl)]; exact laidMet_laidAll _ (by kernel_rfl) (by kernel_rfl))) ?_
 intro W base args ds gs before hval hW h1 h2 h3 h4
 exact contract H enc W base args ds gs before hval hW (by first | exact h1 | exact h2 | exact h3 | exact h4)
theorem row : Rows.GraphLinesSaid :=
 OpenClaim.holds_of_wide 6 Tryz.f6 rfl rfl rfl rfl rfl rfl rfl ⟨rfl, rfl, rfl, rfl, rfl⟩ rfl rfl rfl rfl rfl (by kernel_rfl) Tryz.func6 (by kernel_rfl)
  (of_decide_eq_true (by kernel_rfl)) (by unfold Func.isWrapper; first | (rw [if_pos (by decide +kernel)]; kernel_rfl) | (rw [if_neg (by decide +kernel)]; exact ⟨rfl, rfl⟩))
  (fun os started H enc _ => lifted os started H enc)
theorem holds : Rows.GraphLinesCardSaid :=
 Claim7.holds_tied_plain_at .later [] [.data, .data, .data, .data, .sentinel, .sentinel, .pinned] true (true, "6b57b24f6516d360e411c613efc182e6ec00f9a790c15306ebd68019ac32ddd5") true
  row (fun _ h => by cases h) (by kernel_rfl) (fun _ h => by cases h) graphLines_row_tie rfl ⟨rfl, rfl⟩ (by kernel_rfl) rfl
  (fun f fn hf hfn => by
   obtain rfl : f = 6 := Option.some.inj ((show Tryz.prog.funcNamed "watershed/watershedlaw11.GraphLines" = some 6 by kernel_rfl).symm.trans hf) |>.symm
   obtain rfl : fn = Tryz.f6 := (Option.some.inj (Tryz.func6.symm.trans hfn)).symm
   exact ⟨by kernel_rfl, fun j t ht => by
    rw [Tryz.params6] at ht
    have hm : t ∈ [29, 3] := by simpa using Array.mem_of_getElem? ht
    have hall : ([29, 3].all fun u => !Tryz.prog.wantsStandIn u) = true := by kernel_rfl
    exact (show Tryz.prog.wantsStandIn t = false by simpa using List.all_eq_true.1 hall t hm)⟩)
  (by kernel_rfl)
#print axioms holds
end Go.Proofs.YtadhcgjcgfejcaaGreatDoor.graphLines
end
