/-
  DERIVED. GIVEN WITH THE SEED: THE CARDS: each row of YtlmjaedhcphglaaDoorRows.lean that lists a variable, with what it lists TIED to the program's text (the seventh form; the later family's looks); each row that meets fmt, with fmt's text TOLD by the authors' own Lean function (tested against real Go, not proved from fmt's source: count such statements apart). THE CARD IS WHAT COUNTS. Prove the row's statement (the work); the ties are given (YtlmjaedhcphglaaDoorTie.lean); close each card by the builder's one call (the guide's Derived/Test/ToyasCard.lean, 'card_holds'). Laid BY PROGRAM, IN A SANDBOX (cutbox-door.mjs). By AI agents, Wed Nov 11 2026. No macro, syntax, notation, axiom, sorry.
-/
import Derived.Test.YtlmjaedhcphglaaDoorRows
import GoSem.ClaimSeven
namespace Go.Proofs.YtlmjaedhcphglaaDoor
namespace Rows

/-- THE TIED CARD OF 'fringelaw07.RiseNames'. -/
def riseNamesCard : Claim7 := { stood := { row := riseNamesRow, standIns := [], harness := (true, "5ba1ba1834118ec487b437531b73ac38785a03e3b0a50cab462dde55c1ba001f"), looks := false }, kinds := [], alts := [], laidByText := true, laidKinds := [.data], laidTests := true, laidLooks := .later }
def RiseNamesCardSaid : Prop := Claim7.holds Tryd.pinned (.plain (OpenSpec.ofChange riseNamesSpec)) riseNamesCard

/-- THE SECOND FORM's CARD OF 'fringelaw07.RiseNames'. -/
def riseNamesUptoCard : Claim7 := { stood := { row := riseNamesUptoRow, standIns := [], harness := (true, "5ba1ba1834118ec487b437531b73ac38785a03e3b0a50cab462dde55c1ba001f"), looks := false }, kinds := [], alts := [], laidByText := true, laidKinds := [.data], laidTests := true, laidLooks := .later }
def RiseNamesUptoCardSaid : Prop := Claim7.holds Tryd.pinned (.plain (OpenSpec.upto riseNamesSpec)) riseNamesUptoCard
end Rows
end Go.Proofs.YtlmjaedhcphglaaDoor
