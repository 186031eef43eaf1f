/-
  DERIVED. GIVEN WITH THE SEED: THE CARDS: each row of YtglifoijcdfjaaaDoorRows.lean that lists a variable, with what it lists TIED to the program's text (the seventh form; the later family's looks); each row that meets fmt, with fmt's text TOLD by the authors' own Lean function (tested against real Go, not proved from fmt's source: count such statements apart). THE CARD IS WHAT COUNTS. Prove the row's statement (the work); the ties are given (YtglifoijcdfjaaaDoorTie.lean); close each card by the builder's one call (the guide's Derived/Test/ToyasCard.lean, 'card_holds'). Laid BY PROGRAM, IN A SANDBOX (cutbox-door.mjs). By AI agents, Wed Nov 11 2026. No macro, syntax, notation, axiom, sorry.
-/
import Derived.Test.YtglifoijcdfjaaaDoorRows
import GoSem.ClaimSeven
namespace Go.Proofs.YtglifoijcdfjaaaDoor
namespace Rows

/-- THE TIED CARD OF 'fringelaw08.ProjKeeps'. -/
def projKeepsCard : Claim7 := { stood := { row := projKeepsRow, standIns := [], harness := (true, "467d95dfb0f265cbb9bdcb31d96a208b999d59951109631d4b4e3c479d5d0d17"), looks := false }, kinds := [], alts := [], laidByText := true, laidKinds := [.data], laidTests := true, laidLooks := .later }
def ProjKeepsCardSaid : Prop := Claim7.holds Tryd.pinned (.plain (OpenSpec.ofChange projKeepsSpec)) projKeepsCard

/-- THE TIED CARD OF 'fringelaw08.ProjNames'. -/
def projNamesCard : Claim7 := { stood := { row := projNamesRow, standIns := [], harness := (true, "467d95dfb0f265cbb9bdcb31d96a208b999d59951109631d4b4e3c479d5d0d17"), looks := false }, kinds := [], alts := [], laidByText := true, laidKinds := [.data], laidTests := true, laidLooks := .later }
def ProjNamesCardSaid : Prop := Claim7.holds Tryd.pinned (.plain (OpenSpec.ofChange projNamesSpec)) projNamesCard

/-- THE SECOND FORM's CARD OF 'fringelaw08.ProjKeeps'. -/
def projKeepsUptoCard : Claim7 := { stood := { row := projKeepsUptoRow, standIns := [], harness := (true, "467d95dfb0f265cbb9bdcb31d96a208b999d59951109631d4b4e3c479d5d0d17"), looks := false }, kinds := [], alts := [], laidByText := true, laidKinds := [.data], laidTests := true, laidLooks := .later }
def ProjKeepsUptoCardSaid : Prop := Claim7.holds Tryd.pinned (.plain (OpenSpec.upto projKeepsSpec)) projKeepsUptoCard

/-- THE SECOND FORM's CARD OF 'fringelaw08.ProjNames'. -/
def projNamesUptoCard : Claim7 := { stood := { row := projNamesUptoRow, standIns := [], harness := (true, "467d95dfb0f265cbb9bdcb31d96a208b999d59951109631d4b4e3c479d5d0d17"), looks := false }, kinds := [], alts := [], laidByText := true, laidKinds := [.data], laidTests := true, laidLooks := .later }
def ProjNamesUptoCardSaid : Prop := Claim7.holds Tryd.pinned (.plain (OpenSpec.upto projNamesSpec)) projNamesUptoCard
end Rows
end Go.Proofs.YtglifoijcdfjaaaDoor
