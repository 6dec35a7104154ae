/-
  DERIVED. GIVEN WITH THE SEED: THE CARDS: each row of YtobnhbbcegeljaaDoorRows.lean that lists a variable, with what it lists TIED to the program's text (the seventh form; the later family's looks); each row that meets fmt, with fmt's text TOLD by the authors' own Lean function (tested against real Go, not proved from fmt's source: count such statements apart). THE CARD IS WHAT COUNTS. Prove the row's statement (the work); the ties are given (YtobnhbbcegeljaaDoorTie.lean); close each card by the builder's one call (the guide's Derived/Test/ToyasCard.lean, 'card_holds'). Laid BY PROGRAM, IN A SANDBOX (cutbox-door.mjs). By AI agents, Wed Nov 11 2026. No macro, syntax, notation, axiom, sorry.
-/
import Derived.Test.YtobnhbbcegeljaaDoorRows
import GoSem.ClaimSeven
namespace Go.Proofs.YtobnhbbcegeljaaDoor
namespace Rows

/-- THE TIED CARD OF 'watershedlaw04.ExprParses'. -/
def exprParsesCard : Claim7 := { stood := { row := exprParsesRow, standIns := [], harness := (true, "adc00919eafdc5ece14b96076f4a62f476e200cd7c0afbc8926275fd13eebadb"), looks := false }, kinds := [], alts := [], laidByText := true, laidKinds := [.data, .data, .data], laidTests := true, laidLooks := .later }
def ExprParsesCardSaid : Prop := Claim7.holds Tryd.pinned (.plain (OpenSpec.ofChange exprParsesSpec)) exprParsesCard

/-- THE TIED CARD OF 'watershedlaw04.ExprBack'. -/
def exprBackCard : Claim7 := { stood := { row := exprBackRow, standIns := [], harness := (true, "adc00919eafdc5ece14b96076f4a62f476e200cd7c0afbc8926275fd13eebadb"), looks := false }, kinds := [], alts := [], laidByText := true, laidKinds := [.data, .data, .data], laidTests := true, laidLooks := .later }
def ExprBackCardSaid : Prop := Claim7.holds Tryd.pinned (.plain (OpenSpec.ofChange exprBackSpec)) exprBackCard

/-- THE TIED CARD OF 'watershedlaw04.ExprPrefix'. -/
def exprPrefixCard : Claim7 := { stood := { row := exprPrefixRow, standIns := [], harness := (true, "adc00919eafdc5ece14b96076f4a62f476e200cd7c0afbc8926275fd13eebadb"), looks := false }, kinds := [], alts := [], laidByText := true, laidKinds := [.data, .data, .data], laidTests := true, laidLooks := .later }
def ExprPrefixCardSaid : Prop := Claim7.holds Tryd.pinned (.plain (OpenSpec.ofChange exprPrefixSpec)) exprPrefixCard

/-- THE TIED CARD OF 'watershedlaw04.ExprNumbers'. -/
def exprNumbersCard : Claim7 := { stood := { row := exprNumbersRow, standIns := [], harness := (true, "adc00919eafdc5ece14b96076f4a62f476e200cd7c0afbc8926275fd13eebadb"), looks := false }, kinds := [], alts := [], laidByText := true, laidKinds := [.data, .data, .data], laidTests := true, laidLooks := .later }
def ExprNumbersCardSaid : Prop := Claim7.holds Tryd.pinned (.plain (OpenSpec.ofChange exprNumbersSpec)) exprNumbersCard

/-- THE TIED CARD OF 'watershedlaw04.ExprStrings'. -/
def exprStringsCard : Claim7 := { stood := { row := exprStringsRow, standIns := [], harness := (true, "adc00919eafdc5ece14b96076f4a62f476e200cd7c0afbc8926275fd13eebadb"), looks := false }, kinds := [], alts := [], laidByText := true, laidKinds := [.data, .data, .data], laidTests := true, laidLooks := .later }
def ExprStringsCardSaid : Prop := Claim7.holds Tryd.pinned (.plain (OpenSpec.ofChange exprStringsSpec)) exprStringsCard

/-- THE TIED CARD OF 'watershedlaw04.ExprSizes'. -/
def exprSizesCard : Claim7 := { stood := { row := exprSizesRow, standIns := [], harness := (true, "adc00919eafdc5ece14b96076f4a62f476e200cd7c0afbc8926275fd13eebadb"), looks := false }, kinds := [], alts := [], laidByText := true, laidKinds := [.data, .data, .data], laidTests := true, laidLooks := .later }
def ExprSizesCardSaid : Prop := Claim7.holds Tryd.pinned (.plain (OpenSpec.ofChange exprSizesSpec)) exprSizesCard

/-- THE SECOND FORM's CARD OF 'watershedlaw04.ExprParses'. -/
def exprParsesUptoCard : Claim7 := { stood := { row := exprParsesUptoRow, standIns := [], harness := (true, "adc00919eafdc5ece14b96076f4a62f476e200cd7c0afbc8926275fd13eebadb"), looks := false }, kinds := [], alts := [], laidByText := true, laidKinds := [.data, .data, .data], laidTests := true, laidLooks := .later }
def ExprParsesUptoCardSaid : Prop := Claim7.holds Tryd.pinned (.plain (OpenSpec.upto exprParsesSpec)) exprParsesUptoCard

/-- THE SECOND FORM's CARD OF 'watershedlaw04.ExprBack'. -/
def exprBackUptoCard : Claim7 := { stood := { row := exprBackUptoRow, standIns := [], harness := (true, "adc00919eafdc5ece14b96076f4a62f476e200cd7c0afbc8926275fd13eebadb"), looks := false }, kinds := [], alts := [], laidByText := true, laidKinds := [.data, .data, .data], laidTests := true, laidLooks := .later }
def ExprBackUptoCardSaid : Prop := Claim7.holds Tryd.pinned (.plain (OpenSpec.upto exprBackSpec)) exprBackUptoCard

/-- THE SECOND FORM's CARD OF 'watershedlaw04.ExprPrefix'. -/
def exprPrefixUptoCard : Claim7 := { stood := { row := exprPrefixUptoRow, standIns := [], harness := (true, "adc00919eafdc5ece14b96076f4a62f476e200cd7c0afbc8926275fd13eebadb"), looks := false }, kinds := [], alts := [], laidByText := true, laidKinds := [.data, .data, .data], laidTests := true, laidLooks := .later }
def ExprPrefixUptoCardSaid : Prop := Claim7.holds Tryd.pinned (.plain (OpenSpec.upto exprPrefixSpec)) exprPrefixUptoCard

/-- THE SECOND FORM's CARD OF 'watershedlaw04.ExprNumbers'. -/
def exprNumbersUptoCard : Claim7 := { stood := { row := exprNumbersUptoRow, standIns := [], harness := (true, "adc00919eafdc5ece14b96076f4a62f476e200cd7c0afbc8926275fd13eebadb"), looks := false }, kinds := [], alts := [], laidByText := true, laidKinds := [.data, .data, .data], laidTests := true, laidLooks := .later }
def ExprNumbersUptoCardSaid : Prop := Claim7.holds Tryd.pinned (.plain (OpenSpec.upto exprNumbersSpec)) exprNumbersUptoCard

/-- THE SECOND FORM's CARD OF 'watershedlaw04.ExprStrings'. -/
def exprStringsUptoCard : Claim7 := { stood := { row := exprStringsUptoRow, standIns := [], harness := (true, "adc00919eafdc5ece14b96076f4a62f476e200cd7c0afbc8926275fd13eebadb"), looks := false }, kinds := [], alts := [], laidByText := true, laidKinds := [.data, .data, .data], laidTests := true, laidLooks := .later }
def ExprStringsUptoCardSaid : Prop := Claim7.holds Tryd.pinned (.plain (OpenSpec.upto exprStringsSpec)) exprStringsUptoCard

/-- THE SECOND FORM's CARD OF 'watershedlaw04.ExprSizes'. -/
def exprSizesUptoCard : Claim7 := { stood := { row := exprSizesUptoRow, standIns := [], harness := (true, "adc00919eafdc5ece14b96076f4a62f476e200cd7c0afbc8926275fd13eebadb"), looks := false }, kinds := [], alts := [], laidByText := true, laidKinds := [.data, .data, .data], laidTests := true, laidLooks := .later }
def ExprSizesUptoCardSaid : Prop := Claim7.holds Tryd.pinned (.plain (OpenSpec.upto exprSizesSpec)) exprSizesUptoCard
end Rows
end Go.Proofs.YtobnhbbcegeljaaDoor
