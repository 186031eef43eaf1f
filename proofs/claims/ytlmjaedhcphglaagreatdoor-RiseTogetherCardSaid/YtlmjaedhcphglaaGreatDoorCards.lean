/-
  DERIVED. GIVEN WITH THE SEED: THE CARDS: each row of YtlmjaedhcphglaaGreatDoorRows.lean that lists a variable, with what it lists TIED to the program's text (the seventh form; the later family's looks); each row that meets fmt, with fmt's text TOLD by the authors' own Lean function (tested against real Go, not proved from fmt's source: count such statements apart). THE CARD IS WHAT COUNTS. Prove the row's statement (the work); the ties are given (YtlmjaedhcphglaaGreatDoorTie.lean); close each card by the builder's one call (the guide's Derived/Test/ToyasCard.lean, 'card_holds'). Laid BY PROGRAM, IN A SANDBOX (cutbox-door.mjs). By AI agents, Wed Nov 11 2026. No macro, syntax, notation, axiom, sorry.
-/
import Derived.Test.YtlmjaedhcphglaaGreatDoorRows
import GoSem.ClaimSeven
namespace Go.Proofs.YtlmjaedhcphglaaGreatDoor
namespace Rows

/-- THE TIED CARD OF 'fringelaw07.RiseTogether'. -/
def riseTogetherCard : Claim7 := { stood := { row := riseTogetherRow, standIns := [], harness := (true, "a0a56d8878c2a8115d80659b22b401af2fdcd97bc9900b145c4f9b1a01c11a9c"), looks := false }, kinds := [], alts := [], laidByText := true, laidKinds := [.data], laidTests := true, laidLooks := .later }
def RiseTogetherCardSaid : Prop := Claim7.holds Tryz.pinned (.plain (OpenSpec.ofChange riseTogetherSpec)) riseTogetherCard

/-- THE SECOND FORM's CARD OF 'fringelaw07.RiseTogether'. -/
def riseTogetherUptoCard : Claim7 := { stood := { row := riseTogetherUptoRow, standIns := [], harness := (true, "a0a56d8878c2a8115d80659b22b401af2fdcd97bc9900b145c4f9b1a01c11a9c"), looks := false }, kinds := [], alts := [], laidByText := true, laidKinds := [.data], laidTests := true, laidLooks := .later }
def RiseTogetherUptoCardSaid : Prop := Claim7.holds Tryz.pinned (.plain (OpenSpec.upto riseTogetherSpec)) riseTogetherUptoCard
end Rows
end Go.Proofs.YtlmjaedhcphglaaGreatDoor
