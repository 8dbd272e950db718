/-
  DERIVED. GIVEN WITH THE SEED: THE CARDS: each row of YthepaakejpbppaaGreatDoorRows.lean that lists a variable, with what it lists TIED to the program's text (the seventh form; the later family's looks); each row that meets fmt, with fmt's text TOLD by the authors' own Lean function (tested against real Go, not proved from fmt's source: count such statements apart). THE CARD IS WHAT COUNTS. Prove the row's statement (the work); the ties are given (YthepaakejpbppaaGreatDoorTie.lean); close each card by the builder's one call (the guide's Derived/Test/ToyasCard.lean, 'card_holds'). Laid BY PROGRAM, IN A SANDBOX (cutbox-door.mjs). By AI agents, Wed Nov 11 2026. No macro, syntax, notation, axiom, sorry.
-/
import Derived.Test.YthepaakejpbppaaGreatDoorRows
import GoSem.ClaimSeven
namespace Go.Proofs.YthepaakejpbppaaGreatDoor
namespace Rows

/-- THE TIED CARD OF 'alumlaw11.ClassPlacesMatchSpec'. -/
def classPlacesMatchSpecCard : Claim7 := { stood := { row := classPlacesMatchSpecRow, standIns := [], harness := (true, "ee495869a9d923b73d57e755ab5f2ab723284ece4d27d9186336cd8d41b78de3"), looks := false }, kinds := [], alts := [], laidByText := true, laidKinds := [.data, .data, .data, .data], laidTests := true, laidLooks := .later }
def ClassPlacesMatchSpecCardSaid : Prop := Claim7.holds Tryz.pinned (.plain (OpenSpec.ofChange classPlacesMatchSpecSpec)) classPlacesMatchSpecCard

/-- THE TIED CARD OF 'alumlaw11.ClassFollowMatchesSpec'. -/
def classFollowMatchesSpecCard : Claim7 := { stood := { row := classFollowMatchesSpecRow, standIns := [], harness := (true, "ee495869a9d923b73d57e755ab5f2ab723284ece4d27d9186336cd8d41b78de3"), looks := false }, kinds := [], alts := [], laidByText := true, laidKinds := [.data, .data, .data, .data], laidTests := true, laidLooks := .later }
def ClassFollowMatchesSpecCardSaid : Prop := Claim7.holds Tryz.pinned (.plain (OpenSpec.ofChange classFollowMatchesSpecSpec)) classFollowMatchesSpecCard

/-- THE TIED CARD OF 'alumlaw11.ClassScanMatchesSpec'. -/
def classScanMatchesSpecCard : Claim7 := { stood := { row := classScanMatchesSpecRow, standIns := [], harness := (true, "ee495869a9d923b73d57e755ab5f2ab723284ece4d27d9186336cd8d41b78de3"), looks := false }, kinds := [], alts := [], laidByText := true, laidKinds := [.data, .data, .data, .data], laidTests := true, laidLooks := .later }
def ClassScanMatchesSpecCardSaid : Prop := Claim7.holds Tryz.pinned (.plain (OpenSpec.ofChange classScanMatchesSpecSpec)) classScanMatchesSpecCard

/-- THE TIED CARD OF 'alumlaw11.ClassRotIsLocal'. -/
def classRotIsLocalCard : Claim7 := { stood := { row := classRotIsLocalRow, standIns := [], harness := (true, "ee495869a9d923b73d57e755ab5f2ab723284ece4d27d9186336cd8d41b78de3"), looks := false }, kinds := [], alts := [], laidByText := true, laidKinds := [.data, .data, .data, .data], laidTests := true, laidLooks := .later }
def ClassRotIsLocalCardSaid : Prop := Claim7.holds Tryz.pinned (.plain (OpenSpec.ofChange classRotIsLocalSpec)) classRotIsLocalCard

/-- THE TIED CARD OF 'alumlaw11.ClassFillMatchesSpec'. -/
def classFillMatchesSpecCard : Claim7 := { stood := { row := classFillMatchesSpecRow, standIns := [], harness := (true, "ee495869a9d923b73d57e755ab5f2ab723284ece4d27d9186336cd8d41b78de3"), looks := false }, kinds := [], alts := [], laidByText := true, laidKinds := [.data, .data, .data, .data], laidTests := true, laidLooks := .later }
def ClassFillMatchesSpecCardSaid : Prop := Claim7.holds Tryz.pinned (.plain (OpenSpec.ofChange classFillMatchesSpecSpec)) classFillMatchesSpecCard

/-- THE TIED CARD OF 'alumlaw11.ClassFillKeeps'. -/
def classFillKeepsCard : Claim7 := { stood := { row := classFillKeepsRow, standIns := [], harness := (true, "ee495869a9d923b73d57e755ab5f2ab723284ece4d27d9186336cd8d41b78de3"), looks := false }, kinds := [], alts := [], laidByText := true, laidKinds := [.data, .data, .data, .data], laidTests := true, laidLooks := .later }
def ClassFillKeepsCardSaid : Prop := Claim7.holds Tryz.pinned (.plain (OpenSpec.ofChange classFillKeepsSpec)) classFillKeepsCard

/-- THE SECOND FORM's CARD OF 'alumlaw11.ClassPlacesMatchSpec'. -/
def classPlacesMatchSpecUptoCard : Claim7 := { stood := { row := classPlacesMatchSpecUptoRow, standIns := [], harness := (true, "ee495869a9d923b73d57e755ab5f2ab723284ece4d27d9186336cd8d41b78de3"), looks := false }, kinds := [], alts := [], laidByText := true, laidKinds := [.data, .data, .data, .data], laidTests := true, laidLooks := .later }
def ClassPlacesMatchSpecUptoCardSaid : Prop := Claim7.holds Tryz.pinned (.plain (OpenSpec.upto classPlacesMatchSpecSpec)) classPlacesMatchSpecUptoCard

/-- THE SECOND FORM's CARD OF 'alumlaw11.ClassFollowMatchesSpec'. -/
def classFollowMatchesSpecUptoCard : Claim7 := { stood := { row := classFollowMatchesSpecUptoRow, standIns := [], harness := (true, "ee495869a9d923b73d57e755ab5f2ab723284ece4d27d9186336cd8d41b78de3"), looks := false }, kinds := [], alts := [], laidByText := true, laidKinds := [.data, .data, .data, .data], laidTests := true, laidLooks := .later }
def ClassFollowMatchesSpecUptoCardSaid : Prop := Claim7.holds Tryz.pinned (.plain (OpenSpec.upto classFollowMatchesSpecSpec)) classFollowMatchesSpecUptoCard

/-- THE SECOND FORM's CARD OF 'alumlaw11.ClassScanMatchesSpec'. -/
def classScanMatchesSpecUptoCard : Claim7 := { stood := { row := classScanMatchesSpecUptoRow, standIns := [], harness := (true, "ee495869a9d923b73d57e755ab5f2ab723284ece4d27d9186336cd8d41b78de3"), looks := false }, kinds := [], alts := [], laidByText := true, laidKinds := [.data, .data, .data, .data], laidTests := true, laidLooks := .later }
def ClassScanMatchesSpecUptoCardSaid : Prop := Claim7.holds Tryz.pinned (.plain (OpenSpec.upto classScanMatchesSpecSpec)) classScanMatchesSpecUptoCard

/-- THE SECOND FORM's CARD OF 'alumlaw11.ClassRotIsLocal'. -/
def classRotIsLocalUptoCard : Claim7 := { stood := { row := classRotIsLocalUptoRow, standIns := [], harness := (true, "ee495869a9d923b73d57e755ab5f2ab723284ece4d27d9186336cd8d41b78de3"), looks := false }, kinds := [], alts := [], laidByText := true, laidKinds := [.data, .data, .data, .data], laidTests := true, laidLooks := .later }
def ClassRotIsLocalUptoCardSaid : Prop := Claim7.holds Tryz.pinned (.plain (OpenSpec.upto classRotIsLocalSpec)) classRotIsLocalUptoCard

/-- THE SECOND FORM's CARD OF 'alumlaw11.ClassFillMatchesSpec'. -/
def classFillMatchesSpecUptoCard : Claim7 := { stood := { row := classFillMatchesSpecUptoRow, standIns := [], harness := (true, "ee495869a9d923b73d57e755ab5f2ab723284ece4d27d9186336cd8d41b78de3"), looks := false }, kinds := [], alts := [], laidByText := true, laidKinds := [.data, .data, .data, .data], laidTests := true, laidLooks := .later }
def ClassFillMatchesSpecUptoCardSaid : Prop := Claim7.holds Tryz.pinned (.plain (OpenSpec.upto classFillMatchesSpecSpec)) classFillMatchesSpecUptoCard

/-- THE SECOND FORM's CARD OF 'alumlaw11.ClassFillKeeps'. -/
def classFillKeepsUptoCard : Claim7 := { stood := { row := classFillKeepsUptoRow, standIns := [], harness := (true, "ee495869a9d923b73d57e755ab5f2ab723284ece4d27d9186336cd8d41b78de3"), looks := false }, kinds := [], alts := [], laidByText := true, laidKinds := [.data, .data, .data, .data], laidTests := true, laidLooks := .later }
def ClassFillKeepsUptoCardSaid : Prop := Claim7.holds Tryz.pinned (.plain (OpenSpec.upto classFillKeepsSpec)) classFillKeepsUptoCard
end Rows
end Go.Proofs.YthepaakejpbppaaGreatDoor
