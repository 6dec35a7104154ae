/-
  DERIVED. GIVEN WITH THE SEED: THE CARDS: each row of YtmlpfgibpigcdaaGreatDoorRows.lean that lists a variable, with what it lists TIED to the program's text (the seventh form; the later family's looks); each row that meets fmt, with fmt's text TOLD by the authors' own Lean function (tested against real Go, not proved from fmt's source: count such statements apart). THE CARD IS WHAT COUNTS. Prove the row's statement (the work); the ties are given (YtmlpfgibpigcdaaGreatDoorTie.lean); close each card by the builder's one call (the guide's Derived/Test/ToyasCard.lean, 'card_holds'). Laid BY PROGRAM, IN A SANDBOX (cutbox-door.mjs). By AI agents, Wed Nov 11 2026. No macro, syntax, notation, axiom, sorry.
-/
import Derived.Test.YtmlpfgibpigcdaaGreatDoorRows
import GoSem.ClaimSeven
namespace Go.Proofs.YtmlpfgibpigcdaaGreatDoor
namespace Rows

/-- THE TIED CARD OF 'watershedlaw05.CheckLets'. -/
def checkLetsCard : Claim7 := { stood := { row := checkLetsRow, standIns := [], harness := (true, "801eb7c547aa31ab39be8bc3e518d1d9a41484a1eacb692131ad0137d17f27ca"), looks := false }, kinds := [], alts := [], laidByText := true, laidKinds := [.data, .data, .data], laidTests := true, laidLooks := .later }
def CheckLetsCardSaid : Prop := Claim7.holds Tryz.pinned (.plain (OpenSpec.ofChange checkLetsSpec)) checkLetsCard

/-- THE TIED CARD OF 'watershedlaw05.CheckFirst'. -/
def checkFirstCard : Claim7 := { stood := { row := checkFirstRow, standIns := [], harness := (true, "801eb7c547aa31ab39be8bc3e518d1d9a41484a1eacb692131ad0137d17f27ca"), looks := false }, kinds := [], alts := [], laidByText := true, laidKinds := [.data, .data, .data], laidTests := true, laidLooks := .later }
def CheckFirstCardSaid : Prop := Claim7.holds Tryz.pinned (.plain (OpenSpec.ofChange checkFirstSpec)) checkFirstCard

/-- THE TIED CARD OF 'watershedlaw05.CheckIfs'. -/
def checkIfsCard : Claim7 := { stood := { row := checkIfsRow, standIns := [], harness := (true, "801eb7c547aa31ab39be8bc3e518d1d9a41484a1eacb692131ad0137d17f27ca"), looks := false }, kinds := [], alts := [], laidByText := true, laidKinds := [.data, .data, .data], laidTests := true, laidLooks := .later }
def CheckIfsCardSaid : Prop := Claim7.holds Tryz.pinned (.plain (OpenSpec.ofChange checkIfsSpec)) checkIfsCard

/-- THE TIED CARD OF 'watershedlaw05.CheckInfers'. -/
def checkInfersCard : Claim7 := { stood := { row := checkInfersRow, standIns := [], harness := (true, "801eb7c547aa31ab39be8bc3e518d1d9a41484a1eacb692131ad0137d17f27ca"), looks := false }, kinds := [], alts := [], laidByText := true, laidKinds := [.data, .data, .data], laidTests := true, laidLooks := .later }
def CheckInfersCardSaid : Prop := Claim7.holds Tryz.pinned (.plain (OpenSpec.ofChange checkInfersSpec)) checkInfersCard

/-- THE TIED CARD OF 'watershedlaw05.CheckLists'. -/
def checkListsCard : Claim7 := { stood := { row := checkListsRow, standIns := [], harness := (true, "801eb7c547aa31ab39be8bc3e518d1d9a41484a1eacb692131ad0137d17f27ca"), looks := false }, kinds := [], alts := [], laidByText := true, laidKinds := [.data, .data, .data], laidTests := true, laidLooks := .later }
def CheckListsCardSaid : Prop := Claim7.holds Tryz.pinned (.plain (OpenSpec.ofChange checkListsSpec)) checkListsCard

/-- THE SECOND FORM's CARD OF 'watershedlaw05.CheckLets'. -/
def checkLetsUptoCard : Claim7 := { stood := { row := checkLetsUptoRow, standIns := [], harness := (true, "801eb7c547aa31ab39be8bc3e518d1d9a41484a1eacb692131ad0137d17f27ca"), looks := false }, kinds := [], alts := [], laidByText := true, laidKinds := [.data, .data, .data], laidTests := true, laidLooks := .later }
def CheckLetsUptoCardSaid : Prop := Claim7.holds Tryz.pinned (.plain (OpenSpec.upto checkLetsSpec)) checkLetsUptoCard

/-- THE SECOND FORM's CARD OF 'watershedlaw05.CheckFirst'. -/
def checkFirstUptoCard : Claim7 := { stood := { row := checkFirstUptoRow, standIns := [], harness := (true, "801eb7c547aa31ab39be8bc3e518d1d9a41484a1eacb692131ad0137d17f27ca"), looks := false }, kinds := [], alts := [], laidByText := true, laidKinds := [.data, .data, .data], laidTests := true, laidLooks := .later }
def CheckFirstUptoCardSaid : Prop := Claim7.holds Tryz.pinned (.plain (OpenSpec.upto checkFirstSpec)) checkFirstUptoCard

/-- THE SECOND FORM's CARD OF 'watershedlaw05.CheckIfs'. -/
def checkIfsUptoCard : Claim7 := { stood := { row := checkIfsUptoRow, standIns := [], harness := (true, "801eb7c547aa31ab39be8bc3e518d1d9a41484a1eacb692131ad0137d17f27ca"), looks := false }, kinds := [], alts := [], laidByText := true, laidKinds := [.data, .data, .data], laidTests := true, laidLooks := .later }
def CheckIfsUptoCardSaid : Prop := Claim7.holds Tryz.pinned (.plain (OpenSpec.upto checkIfsSpec)) checkIfsUptoCard

/-- THE SECOND FORM's CARD OF 'watershedlaw05.CheckInfers'. -/
def checkInfersUptoCard : Claim7 := { stood := { row := checkInfersUptoRow, standIns := [], harness := (true, "801eb7c547aa31ab39be8bc3e518d1d9a41484a1eacb692131ad0137d17f27ca"), looks := false }, kinds := [], alts := [], laidByText := true, laidKinds := [.data, .data, .data], laidTests := true, laidLooks := .later }
def CheckInfersUptoCardSaid : Prop := Claim7.holds Tryz.pinned (.plain (OpenSpec.upto checkInfersSpec)) checkInfersUptoCard

/-- THE SECOND FORM's CARD OF 'watershedlaw05.CheckLists'. -/
def checkListsUptoCard : Claim7 := { stood := { row := checkListsUptoRow, standIns := [], harness := (true, "801eb7c547aa31ab39be8bc3e518d1d9a41484a1eacb692131ad0137d17f27ca"), looks := false }, kinds := [], alts := [], laidByText := true, laidKinds := [.data, .data, .data], laidTests := true, laidLooks := .later }
def CheckListsUptoCardSaid : Prop := Claim7.holds Tryz.pinned (.plain (OpenSpec.upto checkListsSpec)) checkListsUptoCard
end Rows
end Go.Proofs.YtmlpfgibpigcdaaGreatDoor
