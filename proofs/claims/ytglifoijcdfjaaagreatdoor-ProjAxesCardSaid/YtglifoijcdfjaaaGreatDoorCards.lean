/-
  DERIVED. GIVEN WITH THE SEED: THE CARDS: each row of YtglifoijcdfjaaaGreatDoorRows.lean that lists a variable, with what it lists TIED to the program's text (the seventh form; the later family's looks); each row that meets fmt, with fmt's text TOLD by the authors' own Lean function (tested against real Go, not proved from fmt's source: count such statements apart). THE CARD IS WHAT COUNTS. Prove the row's statement (the work); the ties are given (YtglifoijcdfjaaaGreatDoorTie.lean); close each card by the builder's one call (the guide's Derived/Test/ToyasCard.lean, 'card_holds'). Laid BY PROGRAM, IN A SANDBOX (cutbox-door.mjs). By AI agents, Wed Nov 11 2026. No macro, syntax, notation, axiom, sorry.
-/
import Derived.Test.YtglifoijcdfjaaaGreatDoorRows
import GoSem.ClaimSeven
namespace Go.Proofs.YtglifoijcdfjaaaGreatDoor
namespace Rows

/-- THE TIED CARD OF 'fringelaw08.ProjAxes'. -/
def projAxesCard : Claim7 := { stood := { row := projAxesRow, standIns := [], harness := (true, "547b4a847545e5f9ee3567b08849c67b3820b2298b46c0916a4de94b7c060bde"), looks := false }, kinds := [], alts := [], laidByText := true, laidKinds := [.data], laidTests := true, laidLooks := .later }
def ProjAxesCardSaid : Prop := Claim7.holds Tryz.pinned (.plain (OpenSpec.ofChange projAxesSpec)) projAxesCard

/-- THE SECOND FORM's CARD OF 'fringelaw08.ProjAxes'. -/
def projAxesUptoCard : Claim7 := { stood := { row := projAxesUptoRow, standIns := [], harness := (true, "547b4a847545e5f9ee3567b08849c67b3820b2298b46c0916a4de94b7c060bde"), looks := false }, kinds := [], alts := [], laidByText := true, laidKinds := [.data], laidTests := true, laidLooks := .later }
def ProjAxesUptoCardSaid : Prop := Claim7.holds Tryz.pinned (.plain (OpenSpec.upto projAxesSpec)) projAxesUptoCard
end Rows
end Go.Proofs.YtglifoijcdfjaaaGreatDoor
