/-
  DERIVED. GIVEN WITH THE SEED: THE CARDS: each row of YtlfolinjajjgjaaDoorRows.lean that lists a variable, with what it lists TIED to the program's text (the seventh form; the later family's looks); each row that meets fmt, with fmt's text TOLD by the authors' own Lean function (tested against real Go, not proved from fmt's source: count such statements apart). THE CARD IS WHAT COUNTS. Prove the row's statement (the work); the ties are given (YtlfolinjajjgjaaDoorTie.lean); close each card by the builder's one call (the guide's Derived/Test/ToyasCard.lean, 'card_holds'). Laid BY PROGRAM, IN A SANDBOX (cutbox-door.mjs). By AI agents, Wed Nov 11 2026. No macro, syntax, notation, axiom, sorry.
-/
import Derived.Test.YtlfolinjajjgjaaDoorRows
import GoSem.ClaimSeven
namespace Go.Proofs.YtlfolinjajjgjaaDoor
namespace Rows

/-- THE TIED CARD OF 'alumlaw13.IntentMatchesSpec'. -/
def intentMatchesSpecCard : Claim7 := { stood := { row := intentMatchesSpecRow, standIns := [], harness := (true, "e2018c27084df3d6f7bb91bc92afed6e3738c25d70937eb6950d3968fef93b99"), looks := false }, kinds := [], alts := [], laidByText := true, laidKinds := [.data, .data, .data], laidTests := true, laidLooks := .later }
def IntentMatchesSpecCardSaid : Prop := Claim7.holds Tryd.pinned (.plain (OpenSpec.ofChange intentMatchesSpecSpec)) intentMatchesSpecCard

/-- THE TIED CARD OF 'alumlaw13.IntentKeeps'. -/
def intentKeepsCard : Claim7 := { stood := { row := intentKeepsRow, standIns := [], harness := (true, "e2018c27084df3d6f7bb91bc92afed6e3738c25d70937eb6950d3968fef93b99"), looks := false }, kinds := [], alts := [], laidByText := true, laidKinds := [.data, .data, .data], laidTests := true, laidLooks := .later }
def IntentKeepsCardSaid : Prop := Claim7.holds Tryd.pinned (.plain (OpenSpec.ofChange intentKeepsSpec)) intentKeepsCard

/-- THE TIED CARD OF 'alumlaw13.IntentReadsAsSpecified'. -/
def intentReadsAsSpecifiedCard : Claim7 := { stood := { row := intentReadsAsSpecifiedRow, standIns := [], harness := (true, "e2018c27084df3d6f7bb91bc92afed6e3738c25d70937eb6950d3968fef93b99"), looks := false }, kinds := [], alts := [], laidByText := true, laidKinds := [.data, .data, .data], laidTests := true, laidLooks := .later }
def IntentReadsAsSpecifiedCardSaid : Prop := Claim7.holds Tryd.pinned (.plain (OpenSpec.ofChange intentReadsAsSpecifiedSpec)) intentReadsAsSpecifiedCard

/-- THE SECOND FORM's CARD OF 'alumlaw13.IntentMatchesSpec'. -/
def intentMatchesSpecUptoCard : Claim7 := { stood := { row := intentMatchesSpecUptoRow, standIns := [], harness := (true, "e2018c27084df3d6f7bb91bc92afed6e3738c25d70937eb6950d3968fef93b99"), looks := false }, kinds := [], alts := [], laidByText := true, laidKinds := [.data, .data, .data], laidTests := true, laidLooks := .later }
def IntentMatchesSpecUptoCardSaid : Prop := Claim7.holds Tryd.pinned (.plain (OpenSpec.upto intentMatchesSpecSpec)) intentMatchesSpecUptoCard

/-- THE SECOND FORM's CARD OF 'alumlaw13.IntentKeeps'. -/
def intentKeepsUptoCard : Claim7 := { stood := { row := intentKeepsUptoRow, standIns := [], harness := (true, "e2018c27084df3d6f7bb91bc92afed6e3738c25d70937eb6950d3968fef93b99"), looks := false }, kinds := [], alts := [], laidByText := true, laidKinds := [.data, .data, .data], laidTests := true, laidLooks := .later }
def IntentKeepsUptoCardSaid : Prop := Claim7.holds Tryd.pinned (.plain (OpenSpec.upto intentKeepsSpec)) intentKeepsUptoCard

/-- THE SECOND FORM's CARD OF 'alumlaw13.IntentReadsAsSpecified'. -/
def intentReadsAsSpecifiedUptoCard : Claim7 := { stood := { row := intentReadsAsSpecifiedUptoRow, standIns := [], harness := (true, "e2018c27084df3d6f7bb91bc92afed6e3738c25d70937eb6950d3968fef93b99"), looks := false }, kinds := [], alts := [], laidByText := true, laidKinds := [.data, .data, .data], laidTests := true, laidLooks := .later }
def IntentReadsAsSpecifiedUptoCardSaid : Prop := Claim7.holds Tryd.pinned (.plain (OpenSpec.upto intentReadsAsSpecifiedSpec)) intentReadsAsSpecifiedUptoCard
end Rows
end Go.Proofs.YtlfolinjajjgjaaDoor
