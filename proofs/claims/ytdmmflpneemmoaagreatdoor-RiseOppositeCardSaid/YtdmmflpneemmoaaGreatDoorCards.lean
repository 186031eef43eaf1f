/-
  DERIVED. GIVEN WITH THE SEED: THE CARDS: each row of YtdmmflpneemmoaaGreatDoorRows.lean that lists a variable, with what it lists TIED to the program's text (the seventh form; the later family's looks); each row that meets fmt, with fmt's text TOLD by the authors' own Lean function (tested against real Go, not proved from fmt's source: count such statements apart). THE CARD IS WHAT COUNTS. Prove the row's statement (the work); the ties are given (YtdmmflpneemmoaaGreatDoorTie.lean); close each card by the builder's one call (the guide's Derived/Test/ToyasCard.lean, 'card_holds'). Laid BY PROGRAM, IN A SANDBOX (cutbox-door.mjs). By AI agents, Wed Nov 11 2026. No macro, syntax, notation, axiom, sorry.
-/
import Derived.Test.YtdmmflpneemmoaaGreatDoorRows
import GoSem.ClaimSeven
namespace Go.Proofs.YtdmmflpneemmoaaGreatDoor
namespace Rows

/-- THE TIED CARD OF 'fringelaw07.RiseTogether'. -/
def riseTogetherCard : Claim7 := { stood := { row := riseTogetherRow, standIns := [], harness := (true, "4091a0883ffc77d3afab8be420ea733d5905c58cfec23d36155593e5371f2f9c"), looks := false }, kinds := [], alts := [], laidByText := true, laidKinds := [.data], laidTests := true, laidLooks := .later }
def RiseTogetherCardSaid : Prop := Claim7.holds Tryz.pinned (.plain (OpenSpec.ofChange riseTogetherSpec)) riseTogetherCard

/-- THE TIED CARD OF 'fringelaw07.RiseAll'. -/
def riseAllCard : Claim7 := { stood := { row := riseAllRow, standIns := [], harness := (true, "4091a0883ffc77d3afab8be420ea733d5905c58cfec23d36155593e5371f2f9c"), looks := false }, kinds := [], alts := [], laidByText := true, laidKinds := [.data], laidTests := true, laidLooks := .later }
def RiseAllCardSaid : Prop := Claim7.holds Tryz.pinned (.plain (OpenSpec.ofChange riseAllSpec)) riseAllCard

/-- THE TIED CARD OF 'fringelaw07.RiseStates'. -/
def riseStatesCard : Claim7 := { stood := { row := riseStatesRow, standIns := [], harness := (true, "4091a0883ffc77d3afab8be420ea733d5905c58cfec23d36155593e5371f2f9c"), looks := false }, kinds := [], alts := [], laidByText := true, laidKinds := [.data], laidTests := true, laidLooks := .later }
def RiseStatesCardSaid : Prop := Claim7.holds Tryz.pinned (.plain (OpenSpec.ofChange riseStatesSpec)) riseStatesCard

/-- THE TIED CARD OF 'fringelaw07.RiseSure'. -/
def riseSureCard : Claim7 := { stood := { row := riseSureRow, standIns := [], harness := (true, "4091a0883ffc77d3afab8be420ea733d5905c58cfec23d36155593e5371f2f9c"), looks := false }, kinds := [], alts := [], laidByText := true, laidKinds := [.data], laidTests := true, laidLooks := .later }
def RiseSureCardSaid : Prop := Claim7.holds Tryz.pinned (.plain (OpenSpec.ofChange riseSureSpec)) riseSureCard

/-- THE TIED CARD OF 'fringelaw07.RiseOpposite'. -/
def riseOppositeCard : Claim7 := { stood := { row := riseOppositeRow, standIns := [], harness := (true, "4091a0883ffc77d3afab8be420ea733d5905c58cfec23d36155593e5371f2f9c"), looks := false }, kinds := [], alts := [], laidByText := true, laidKinds := [.data], laidTests := true, laidLooks := .later }
def RiseOppositeCardSaid : Prop := Claim7.holds Tryz.pinned (.plain (OpenSpec.ofChange riseOppositeSpec)) riseOppositeCard

/-- THE SECOND FORM's CARD OF 'fringelaw07.RiseTogether'. -/
def riseTogetherUptoCard : Claim7 := { stood := { row := riseTogetherUptoRow, standIns := [], harness := (true, "4091a0883ffc77d3afab8be420ea733d5905c58cfec23d36155593e5371f2f9c"), looks := false }, kinds := [], alts := [], laidByText := true, laidKinds := [.data], laidTests := true, laidLooks := .later }
def RiseTogetherUptoCardSaid : Prop := Claim7.holds Tryz.pinned (.plain (OpenSpec.upto riseTogetherSpec)) riseTogetherUptoCard

/-- THE SECOND FORM's CARD OF 'fringelaw07.RiseAll'. -/
def riseAllUptoCard : Claim7 := { stood := { row := riseAllUptoRow, standIns := [], harness := (true, "4091a0883ffc77d3afab8be420ea733d5905c58cfec23d36155593e5371f2f9c"), looks := false }, kinds := [], alts := [], laidByText := true, laidKinds := [.data], laidTests := true, laidLooks := .later }
def RiseAllUptoCardSaid : Prop := Claim7.holds Tryz.pinned (.plain (OpenSpec.upto riseAllSpec)) riseAllUptoCard

/-- THE SECOND FORM's CARD OF 'fringelaw07.RiseStates'. -/
def riseStatesUptoCard : Claim7 := { stood := { row := riseStatesUptoRow, standIns := [], harness := (true, "4091a0883ffc77d3afab8be420ea733d5905c58cfec23d36155593e5371f2f9c"), looks := false }, kinds := [], alts := [], laidByText := true, laidKinds := [.data], laidTests := true, laidLooks := .later }
def RiseStatesUptoCardSaid : Prop := Claim7.holds Tryz.pinned (.plain (OpenSpec.upto riseStatesSpec)) riseStatesUptoCard

/-- THE SECOND FORM's CARD OF 'fringelaw07.RiseSure'. -/
def riseSureUptoCard : Claim7 := { stood := { row := riseSureUptoRow, standIns := [], harness := (true, "4091a0883ffc77d3afab8be420ea733d5905c58cfec23d36155593e5371f2f9c"), looks := false }, kinds := [], alts := [], laidByText := true, laidKinds := [.data], laidTests := true, laidLooks := .later }
def RiseSureUptoCardSaid : Prop := Claim7.holds Tryz.pinned (.plain (OpenSpec.upto riseSureSpec)) riseSureUptoCard

/-- THE SECOND FORM's CARD OF 'fringelaw07.RiseOpposite'. -/
def riseOppositeUptoCard : Claim7 := { stood := { row := riseOppositeUptoRow, standIns := [], harness := (true, "4091a0883ffc77d3afab8be420ea733d5905c58cfec23d36155593e5371f2f9c"), looks := false }, kinds := [], alts := [], laidByText := true, laidKinds := [.data], laidTests := true, laidLooks := .later }
def RiseOppositeUptoCardSaid : Prop := Claim7.holds Tryz.pinned (.plain (OpenSpec.upto riseOppositeSpec)) riseOppositeUptoCard
end Rows
end Go.Proofs.YtdmmflpneemmoaaGreatDoor
