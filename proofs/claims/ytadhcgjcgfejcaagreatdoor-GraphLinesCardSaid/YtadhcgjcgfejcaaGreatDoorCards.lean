/-
  DERIVED. GIVEN WITH THE SEED: THE CARDS: each row of YtadhcgjcgfejcaaGreatDoorRows.lean that lists a variable, with what it lists TIED to the program's text (the seventh form; the later family's looks); each row that meets fmt, with fmt's text TOLD by the authors' own Lean function (tested against real Go, not proved from fmt's source: count such statements apart). THE CARD IS WHAT COUNTS. Prove the row's statement (the work); the ties are given (YtadhcgjcgfejcaaGreatDoorTie.lean); close each card by the builder's one call (the guide's Derived/Test/ToyasCard.lean, 'card_holds'). Laid BY PROGRAM, IN A SANDBOX (cutbox-door.mjs). By AI agents, Wed Nov 11 2026. No macro, syntax, notation, axiom, sorry.
-/
import Derived.Test.YtadhcgjcgfejcaaGreatDoorRows
import GoSem.ClaimSeven
namespace Go.Proofs.YtadhcgjcgfejcaaGreatDoor
namespace Rows

/-- THE TIED CARD OF 'watershedlaw11.GraphParses'. -/
def graphParsesCard : Claim7 := { stood := { row := graphParsesRow, standIns := [], harness := (true, "6b57b24f6516d360e411c613efc182e6ec00f9a790c15306ebd68019ac32ddd5"), looks := true }, kinds := [], alts := [], laidByText := true, laidKinds := [.data, .data, .data, .data, .sentinel, .sentinel, .pinned], laidTests := true, laidLooks := .later }
def GraphParsesCardSaid : Prop := Claim7.holds Tryz.pinned (.plain (OpenSpec.ofChange graphParsesSpec)) graphParsesCard

/-- THE TIED CARD OF 'watershedlaw11.GraphBack'. -/
def graphBackCard : Claim7 := { stood := { row := graphBackRow, standIns := [], harness := (true, "6b57b24f6516d360e411c613efc182e6ec00f9a790c15306ebd68019ac32ddd5"), looks := true }, kinds := [], alts := [], laidByText := true, laidKinds := [.data, .data, .data, .data, .sentinel, .sentinel, .pinned], laidTests := true, laidLooks := .later }
def GraphBackCardSaid : Prop := Claim7.holds Tryz.pinned (.plain (OpenSpec.ofChange graphBackSpec)) graphBackCard

/-- THE TIED CARD OF 'watershedlaw11.GraphLine'. -/
def graphLineCard : Claim7 := { stood := { row := graphLineRow, standIns := [], harness := (true, "6b57b24f6516d360e411c613efc182e6ec00f9a790c15306ebd68019ac32ddd5"), looks := true }, kinds := [], alts := [], laidByText := true, laidKinds := [.data, .data, .data, .data, .sentinel, .sentinel, .pinned], laidTests := true, laidLooks := .later }
def GraphLineCardSaid : Prop := Claim7.holds Tryz.pinned (.plain (OpenSpec.ofChange graphLineSpec)) graphLineCard

/-- THE TIED CARD OF 'watershedlaw11.GraphLines'. -/
def graphLinesCard : Claim7 := { stood := { row := graphLinesRow, standIns := [], harness := (true, "6b57b24f6516d360e411c613efc182e6ec00f9a790c15306ebd68019ac32ddd5"), looks := true }, kinds := [], alts := [], laidByText := true, laidKinds := [.data, .data, .data, .data, .sentinel, .sentinel, .pinned], laidTests := true, laidLooks := .later }
def GraphLinesCardSaid : Prop := Claim7.holds Tryz.pinned (.plain (OpenSpec.ofChange graphLinesSpec)) graphLinesCard

/-- THE TIED CARD OF 'watershedlaw11.GraphBuilds'. -/
def graphBuildsCard : Claim7 := { stood := { row := graphBuildsRow, standIns := [], harness := (true, "6b57b24f6516d360e411c613efc182e6ec00f9a790c15306ebd68019ac32ddd5"), looks := true }, kinds := [], alts := [], laidByText := true, laidKinds := [.data, .data, .data, .data, .sentinel, .sentinel, .pinned], laidTests := true, laidLooks := .later }
def GraphBuildsCardSaid : Prop := Claim7.holds Tryz.pinned (.plain (OpenSpec.ofChange graphBuildsSpec)) graphBuildsCard

/-- THE TIED CARD OF 'watershedlaw11.GraphChecks'. -/
def graphChecksCard : Claim7 := { stood := { row := graphChecksRow, standIns := [], harness := (true, "6b57b24f6516d360e411c613efc182e6ec00f9a790c15306ebd68019ac32ddd5"), looks := true }, kinds := [], alts := [], laidByText := true, laidKinds := [.data, .data, .data, .data, .sentinel, .sentinel, .pinned], laidTests := true, laidLooks := .later }
def GraphChecksCardSaid : Prop := Claim7.holds Tryz.pinned (.plain (OpenSpec.ofChange graphChecksSpec)) graphChecksCard

/-- THE TIED CARD OF 'watershedlaw11.GraphAbove'. -/
def graphAboveCard : Claim7 := { stood := { row := graphAboveRow, standIns := [], harness := (true, "6b57b24f6516d360e411c613efc182e6ec00f9a790c15306ebd68019ac32ddd5"), looks := true }, kinds := [], alts := [], laidByText := true, laidKinds := [.data, .data, .data, .data, .sentinel, .sentinel, .pinned], laidTests := true, laidLooks := .later }
def GraphAboveCardSaid : Prop := Claim7.holds Tryz.pinned (.plain (OpenSpec.ofChange graphAboveSpec)) graphAboveCard

/-- THE SECOND FORM's CARD OF 'watershedlaw11.GraphParses'. -/
def graphParsesUptoCard : Claim7 := { stood := { row := graphParsesUptoRow, standIns := [], harness := (true, "6b57b24f6516d360e411c613efc182e6ec00f9a790c15306ebd68019ac32ddd5"), looks := true }, kinds := [], alts := [], laidByText := true, laidKinds := [.data, .data, .data, .data, .sentinel, .sentinel, .pinned], laidTests := true, laidLooks := .later }
def GraphParsesUptoCardSaid : Prop := Claim7.holds Tryz.pinned (.plain (OpenSpec.upto graphParsesSpec)) graphParsesUptoCard

/-- THE SECOND FORM's CARD OF 'watershedlaw11.GraphBack'. -/
def graphBackUptoCard : Claim7 := { stood := { row := graphBackUptoRow, standIns := [], harness := (true, "6b57b24f6516d360e411c613efc182e6ec00f9a790c15306ebd68019ac32ddd5"), looks := true }, kinds := [], alts := [], laidByText := true, laidKinds := [.data, .data, .data, .data, .sentinel, .sentinel, .pinned], laidTests := true, laidLooks := .later }
def GraphBackUptoCardSaid : Prop := Claim7.holds Tryz.pinned (.plain (OpenSpec.upto graphBackSpec)) graphBackUptoCard

/-- THE SECOND FORM's CARD OF 'watershedlaw11.GraphLine'. -/
def graphLineUptoCard : Claim7 := { stood := { row := graphLineUptoRow, standIns := [], harness := (true, "6b57b24f6516d360e411c613efc182e6ec00f9a790c15306ebd68019ac32ddd5"), looks := true }, kinds := [], alts := [], laidByText := true, laidKinds := [.data, .data, .data, .data, .sentinel, .sentinel, .pinned], laidTests := true, laidLooks := .later }
def GraphLineUptoCardSaid : Prop := Claim7.holds Tryz.pinned (.plain (OpenSpec.upto graphLineSpec)) graphLineUptoCard

/-- THE SECOND FORM's CARD OF 'watershedlaw11.GraphLines'. -/
def graphLinesUptoCard : Claim7 := { stood := { row := graphLinesUptoRow, standIns := [], harness := (true, "6b57b24f6516d360e411c613efc182e6ec00f9a790c15306ebd68019ac32ddd5"), looks := true }, kinds := [], alts := [], laidByText := true, laidKinds := [.data, .data, .data, .data, .sentinel, .sentinel, .pinned], laidTests := true, laidLooks := .later }
def GraphLinesUptoCardSaid : Prop := Claim7.holds Tryz.pinned (.plain (OpenSpec.upto graphLinesSpec)) graphLinesUptoCard

/-- THE SECOND FORM's CARD OF 'watershedlaw11.GraphBuilds'. -/
def graphBuildsUptoCard : Claim7 := { stood := { row := graphBuildsUptoRow, standIns := [], harness := (true, "6b57b24f6516d360e411c613efc182e6ec00f9a790c15306ebd68019ac32ddd5"), looks := true }, kinds := [], alts := [], laidByText := true, laidKinds := [.data, .data, .data, .data, .sentinel, .sentinel, .pinned], laidTests := true, laidLooks := .later }
def GraphBuildsUptoCardSaid : Prop := Claim7.holds Tryz.pinned (.plain (OpenSpec.upto graphBuildsSpec)) graphBuildsUptoCard

/-- THE SECOND FORM's CARD OF 'watershedlaw11.GraphChecks'. -/
def graphChecksUptoCard : Claim7 := { stood := { row := graphChecksUptoRow, standIns := [], harness := (true, "6b57b24f6516d360e411c613efc182e6ec00f9a790c15306ebd68019ac32ddd5"), looks := true }, kinds := [], alts := [], laidByText := true, laidKinds := [.data, .data, .data, .data, .sentinel, .sentinel, .pinned], laidTests := true, laidLooks := .later }
def GraphChecksUptoCardSaid : Prop := Claim7.holds Tryz.pinned (.plain (OpenSpec.upto graphChecksSpec)) graphChecksUptoCard

/-- THE SECOND FORM's CARD OF 'watershedlaw11.GraphAbove'. -/
def graphAboveUptoCard : Claim7 := { stood := { row := graphAboveUptoRow, standIns := [], harness := (true, "6b57b24f6516d360e411c613efc182e6ec00f9a790c15306ebd68019ac32ddd5"), looks := true }, kinds := [], alts := [], laidByText := true, laidKinds := [.data, .data, .data, .data, .sentinel, .sentinel, .pinned], laidTests := true, laidLooks := .later }
def GraphAboveUptoCardSaid : Prop := Claim7.holds Tryz.pinned (.plain (OpenSpec.upto graphAboveSpec)) graphAboveUptoCard
end Rows
end Go.Proofs.YtadhcgjcgfejcaaGreatDoor
