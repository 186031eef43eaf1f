/-
  DERIVED. GIVEN WITH THE SEED: THE CARDS: each row of YtmiibelbmikieaaDoorRows.lean that lists a variable, with what it lists TIED to the program's text (the seventh form; the later family's looks); each row that meets fmt, with fmt's text TOLD by the authors' own Lean function (tested against real Go, not proved from fmt's source: count such statements apart). THE CARD IS WHAT COUNTS. Prove the row's statement (the work); the ties are given (YtmiibelbmikieaaDoorTie.lean); close each card by the builder's one call (the guide's Derived/Test/ToyasCard.lean, 'card_holds'). Laid BY PROGRAM, IN A SANDBOX (cutbox-door.mjs). By AI agents, Wed Nov 11 2026. No macro, syntax, notation, axiom, sorry.
-/
import Derived.Test.YtmiibelbmikieaaDoorRows
import GoSem.ClaimSeven
namespace Go.Proofs.YtmiibelbmikieaaDoor
namespace Rows

/-- THE TIED CARD OF 'fringelaw02.VecWorks'. -/
def vecWorksCard : Claim7 := { stood := { row := vecWorksRow, standIns := [], harness := (true, "3454e0f840bb70ffb8ee356cb617c2544ce5dc6c764e05ca7a4f1ef56608ce88"), looks := false }, kinds := [], alts := [], laidByText := true, laidKinds := [.data], laidTests := true, laidLooks := .later }
def VecWorksCardSaid : Prop := Claim7.holds Tryd.pinned (.plain (OpenSpec.ofChange vecWorksSpec)) vecWorksCard

/-- THE TIED CARD OF 'fringelaw02.VecCross'. -/
def vecCrossCard : Claim7 := { stood := { row := vecCrossRow, standIns := [], harness := (true, "3454e0f840bb70ffb8ee356cb617c2544ce5dc6c764e05ca7a4f1ef56608ce88"), looks := false }, kinds := [], alts := [], laidByText := true, laidKinds := [.data, .data], laidTests := true, laidLooks := .later }
def VecCrossCardSaid : Prop := Claim7.holds Tryd.pinned (.plain (OpenSpec.ofChange vecCrossSpec)) vecCrossCard

/-- THE TIED CARD OF 'fringelaw02.VecMatrices'. -/
def vecMatricesCard : Claim7 := { stood := { row := vecMatricesRow, standIns := [], harness := (true, "3454e0f840bb70ffb8ee356cb617c2544ce5dc6c764e05ca7a4f1ef56608ce88"), looks := false }, kinds := [], alts := [], laidByText := true, laidKinds := [.data, .data], laidTests := true, laidLooks := .later }
def VecMatricesCardSaid : Prop := Claim7.holds Tryd.pinned (.plain (OpenSpec.ofChange vecMatricesSpec)) vecMatricesCard

/-- THE TIED CARD OF 'fringelaw02.VecKept'. -/
def vecKeptCard : Claim7 := { stood := { row := vecKeptRow, standIns := [], harness := (true, "3454e0f840bb70ffb8ee356cb617c2544ce5dc6c764e05ca7a4f1ef56608ce88"), looks := false }, kinds := [], alts := [], laidByText := true, laidKinds := [.data, .data], laidTests := true, laidLooks := .later }
def VecKeptCardSaid : Prop := Claim7.holds Tryd.pinned (.plain (OpenSpec.ofChange vecKeptSpec)) vecKeptCard

/-- THE TIED CARD OF 'fringelaw02.VecGroup'. -/
def vecGroupCard : Claim7 := { stood := { row := vecGroupRow, standIns := [], harness := (true, "3454e0f840bb70ffb8ee356cb617c2544ce5dc6c764e05ca7a4f1ef56608ce88"), looks := false }, kinds := [], alts := [], laidByText := true, laidKinds := [.data, .data], laidTests := true, laidLooks := .later }
def VecGroupCardSaid : Prop := Claim7.holds Tryd.pinned (.plain (OpenSpec.ofChange vecGroupSpec)) vecGroupCard

/-- THE TIED CARD OF 'fringelaw02.VecNames'. -/
def vecNamesCard : Claim7 := { stood := { row := vecNamesRow, standIns := [], harness := (true, "3454e0f840bb70ffb8ee356cb617c2544ce5dc6c764e05ca7a4f1ef56608ce88"), looks := false }, kinds := [], alts := [], laidByText := true, laidKinds := [.data, .data], laidTests := true, laidLooks := .later }
def VecNamesCardSaid : Prop := Claim7.holds Tryd.pinned (.plain (OpenSpec.ofChange vecNamesSpec)) vecNamesCard

/-- THE SECOND FORM's CARD OF 'fringelaw02.VecWorks'. -/
def vecWorksUptoCard : Claim7 := { stood := { row := vecWorksUptoRow, standIns := [], harness := (true, "3454e0f840bb70ffb8ee356cb617c2544ce5dc6c764e05ca7a4f1ef56608ce88"), looks := false }, kinds := [], alts := [], laidByText := true, laidKinds := [.data], laidTests := true, laidLooks := .later }
def VecWorksUptoCardSaid : Prop := Claim7.holds Tryd.pinned (.plain (OpenSpec.upto vecWorksSpec)) vecWorksUptoCard

/-- THE SECOND FORM's CARD OF 'fringelaw02.VecCross'. -/
def vecCrossUptoCard : Claim7 := { stood := { row := vecCrossUptoRow, standIns := [], harness := (true, "3454e0f840bb70ffb8ee356cb617c2544ce5dc6c764e05ca7a4f1ef56608ce88"), looks := false }, kinds := [], alts := [], laidByText := true, laidKinds := [.data, .data], laidTests := true, laidLooks := .later }
def VecCrossUptoCardSaid : Prop := Claim7.holds Tryd.pinned (.plain (OpenSpec.upto vecCrossSpec)) vecCrossUptoCard

/-- THE SECOND FORM's CARD OF 'fringelaw02.VecMatrices'. -/
def vecMatricesUptoCard : Claim7 := { stood := { row := vecMatricesUptoRow, standIns := [], harness := (true, "3454e0f840bb70ffb8ee356cb617c2544ce5dc6c764e05ca7a4f1ef56608ce88"), looks := false }, kinds := [], alts := [], laidByText := true, laidKinds := [.data, .data], laidTests := true, laidLooks := .later }
def VecMatricesUptoCardSaid : Prop := Claim7.holds Tryd.pinned (.plain (OpenSpec.upto vecMatricesSpec)) vecMatricesUptoCard

/-- THE SECOND FORM's CARD OF 'fringelaw02.VecKept'. -/
def vecKeptUptoCard : Claim7 := { stood := { row := vecKeptUptoRow, standIns := [], harness := (true, "3454e0f840bb70ffb8ee356cb617c2544ce5dc6c764e05ca7a4f1ef56608ce88"), looks := false }, kinds := [], alts := [], laidByText := true, laidKinds := [.data, .data], laidTests := true, laidLooks := .later }
def VecKeptUptoCardSaid : Prop := Claim7.holds Tryd.pinned (.plain (OpenSpec.upto vecKeptSpec)) vecKeptUptoCard

/-- THE SECOND FORM's CARD OF 'fringelaw02.VecGroup'. -/
def vecGroupUptoCard : Claim7 := { stood := { row := vecGroupUptoRow, standIns := [], harness := (true, "3454e0f840bb70ffb8ee356cb617c2544ce5dc6c764e05ca7a4f1ef56608ce88"), looks := false }, kinds := [], alts := [], laidByText := true, laidKinds := [.data, .data], laidTests := true, laidLooks := .later }
def VecGroupUptoCardSaid : Prop := Claim7.holds Tryd.pinned (.plain (OpenSpec.upto vecGroupSpec)) vecGroupUptoCard

/-- THE SECOND FORM's CARD OF 'fringelaw02.VecNames'. -/
def vecNamesUptoCard : Claim7 := { stood := { row := vecNamesUptoRow, standIns := [], harness := (true, "3454e0f840bb70ffb8ee356cb617c2544ce5dc6c764e05ca7a4f1ef56608ce88"), looks := false }, kinds := [], alts := [], laidByText := true, laidKinds := [.data, .data], laidTests := true, laidLooks := .later }
def VecNamesUptoCardSaid : Prop := Claim7.holds Tryd.pinned (.plain (OpenSpec.upto vecNamesSpec)) vecNamesUptoCard
end Rows
end Go.Proofs.YtmiibelbmikieaaDoor
