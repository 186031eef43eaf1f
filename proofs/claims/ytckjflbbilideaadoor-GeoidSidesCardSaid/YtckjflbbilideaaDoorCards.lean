/-
  DERIVED. GIVEN WITH THE SEED: THE CARDS: each row of YtckjflbbilideaaDoorRows.lean that lists a variable, with what it lists TIED to the program's text (the seventh form; the later family's looks); each row that meets fmt, with fmt's text TOLD by the authors' own Lean function (tested against real Go, not proved from fmt's source: count such statements apart). THE CARD IS WHAT COUNTS. Prove the row's statement (the work); the ties are given (YtckjflbbilideaaDoorTie.lean); close each card by the builder's one call (the guide's Derived/Test/ToyasCard.lean, 'card_holds'). Laid BY PROGRAM, IN A SANDBOX (cutbox-door.mjs). By AI agents, Wed Nov 11 2026. No macro, syntax, notation, axiom, sorry.
-/
import Derived.Test.YtckjflbbilideaaDoorRows
import GoSem.ClaimSeven
namespace Go.Proofs.YtckjflbbilideaaDoor
namespace Rows

/-- THE TIED CARD OF 'fringelaw03.GeoidPlaces'. -/
def geoidPlacesCard : Claim7 := { stood := { row := geoidPlacesRow, standIns := [], harness := (true, "150e1722de202e44ad3a72fffe63e8ee57a43c5c4e0aadf76ed28e6b4b9df7a9"), looks := false }, kinds := [], alts := [], laidByText := true, laidKinds := [.data], laidTests := true, laidLooks := .later }
def GeoidPlacesCardSaid : Prop := Claim7.holds Tryd.pinned (.plain (OpenSpec.ofChange geoidPlacesSpec)) geoidPlacesCard

/-- THE TIED CARD OF 'fringelaw03.GeoidNames'. -/
def geoidNamesCard : Claim7 := { stood := { row := geoidNamesRow, standIns := [], harness := (true, "150e1722de202e44ad3a72fffe63e8ee57a43c5c4e0aadf76ed28e6b4b9df7a9"), looks := false }, kinds := [], alts := [], laidByText := true, laidKinds := [.data], laidTests := true, laidLooks := .later }
def GeoidNamesCardSaid : Prop := Claim7.holds Tryd.pinned (.plain (OpenSpec.ofChange geoidNamesSpec)) geoidNamesCard

/-- THE TIED CARD OF 'fringelaw03.GeoidSides'. -/
def geoidSidesCard : Claim7 := { stood := { row := geoidSidesRow, standIns := [], harness := (true, "150e1722de202e44ad3a72fffe63e8ee57a43c5c4e0aadf76ed28e6b4b9df7a9"), looks := false }, kinds := [], alts := [], laidByText := true, laidKinds := [.data], laidTests := true, laidLooks := .later }
def GeoidSidesCardSaid : Prop := Claim7.holds Tryd.pinned (.plain (OpenSpec.ofChange geoidSidesSpec)) geoidSidesCard

/-- THE TIED CARD OF 'fringelaw03.GeoidOn'. -/
def geoidOnCard : Claim7 := { stood := { row := geoidOnRow, standIns := [], harness := (true, "150e1722de202e44ad3a72fffe63e8ee57a43c5c4e0aadf76ed28e6b4b9df7a9"), looks := false }, kinds := [], alts := [], laidByText := true, laidKinds := [.data], laidTests := true, laidLooks := .later }
def GeoidOnCardSaid : Prop := Claim7.holds Tryd.pinned (.plain (OpenSpec.ofChange geoidOnSpec)) geoidOnCard

/-- THE TIED CARD OF 'fringelaw03.GeoidTouch'. -/
def geoidTouchCard : Claim7 := { stood := { row := geoidTouchRow, standIns := [], harness := (true, "150e1722de202e44ad3a72fffe63e8ee57a43c5c4e0aadf76ed28e6b4b9df7a9"), looks := false }, kinds := [], alts := [], laidByText := true, laidKinds := [.data], laidTests := true, laidLooks := .later }
def GeoidTouchCardSaid : Prop := Claim7.holds Tryd.pinned (.plain (OpenSpec.ofChange geoidTouchSpec)) geoidTouchCard

/-- THE TIED CARD OF 'fringelaw03.GeoidNormal'. -/
def geoidNormalCard : Claim7 := { stood := { row := geoidNormalRow, standIns := [], harness := (true, "150e1722de202e44ad3a72fffe63e8ee57a43c5c4e0aadf76ed28e6b4b9df7a9"), looks := false }, kinds := [], alts := [], laidByText := true, laidKinds := [.data], laidTests := true, laidLooks := .later }
def GeoidNormalCardSaid : Prop := Claim7.holds Tryd.pinned (.plain (OpenSpec.ofChange geoidNormalSpec)) geoidNormalCard

/-- THE TIED CARD OF 'fringelaw03.GeoidTurned'. -/
def geoidTurnedCard : Claim7 := { stood := { row := geoidTurnedRow, standIns := [], harness := (true, "150e1722de202e44ad3a72fffe63e8ee57a43c5c4e0aadf76ed28e6b4b9df7a9"), looks := false }, kinds := [], alts := [], laidByText := true, laidKinds := [.data, .data], laidTests := true, laidLooks := .later }
def GeoidTurnedCardSaid : Prop := Claim7.holds Tryd.pinned (.plain (OpenSpec.ofChange geoidTurnedSpec)) geoidTurnedCard

/-- THE SECOND FORM's CARD OF 'fringelaw03.GeoidPlaces'. -/
def geoidPlacesUptoCard : Claim7 := { stood := { row := geoidPlacesUptoRow, standIns := [], harness := (true, "150e1722de202e44ad3a72fffe63e8ee57a43c5c4e0aadf76ed28e6b4b9df7a9"), looks := false }, kinds := [], alts := [], laidByText := true, laidKinds := [.data], laidTests := true, laidLooks := .later }
def GeoidPlacesUptoCardSaid : Prop := Claim7.holds Tryd.pinned (.plain (OpenSpec.upto geoidPlacesSpec)) geoidPlacesUptoCard

/-- THE SECOND FORM's CARD OF 'fringelaw03.GeoidNames'. -/
def geoidNamesUptoCard : Claim7 := { stood := { row := geoidNamesUptoRow, standIns := [], harness := (true, "150e1722de202e44ad3a72fffe63e8ee57a43c5c4e0aadf76ed28e6b4b9df7a9"), looks := false }, kinds := [], alts := [], laidByText := true, laidKinds := [.data], laidTests := true, laidLooks := .later }
def GeoidNamesUptoCardSaid : Prop := Claim7.holds Tryd.pinned (.plain (OpenSpec.upto geoidNamesSpec)) geoidNamesUptoCard

/-- THE SECOND FORM's CARD OF 'fringelaw03.GeoidSides'. -/
def geoidSidesUptoCard : Claim7 := { stood := { row := geoidSidesUptoRow, standIns := [], harness := (true, "150e1722de202e44ad3a72fffe63e8ee57a43c5c4e0aadf76ed28e6b4b9df7a9"), looks := false }, kinds := [], alts := [], laidByText := true, laidKinds := [.data], laidTests := true, laidLooks := .later }
def GeoidSidesUptoCardSaid : Prop := Claim7.holds Tryd.pinned (.plain (OpenSpec.upto geoidSidesSpec)) geoidSidesUptoCard

/-- THE SECOND FORM's CARD OF 'fringelaw03.GeoidOn'. -/
def geoidOnUptoCard : Claim7 := { stood := { row := geoidOnUptoRow, standIns := [], harness := (true, "150e1722de202e44ad3a72fffe63e8ee57a43c5c4e0aadf76ed28e6b4b9df7a9"), looks := false }, kinds := [], alts := [], laidByText := true, laidKinds := [.data], laidTests := true, laidLooks := .later }
def GeoidOnUptoCardSaid : Prop := Claim7.holds Tryd.pinned (.plain (OpenSpec.upto geoidOnSpec)) geoidOnUptoCard

/-- THE SECOND FORM's CARD OF 'fringelaw03.GeoidTouch'. -/
def geoidTouchUptoCard : Claim7 := { stood := { row := geoidTouchUptoRow, standIns := [], harness := (true, "150e1722de202e44ad3a72fffe63e8ee57a43c5c4e0aadf76ed28e6b4b9df7a9"), looks := false }, kinds := [], alts := [], laidByText := true, laidKinds := [.data], laidTests := true, laidLooks := .later }
def GeoidTouchUptoCardSaid : Prop := Claim7.holds Tryd.pinned (.plain (OpenSpec.upto geoidTouchSpec)) geoidTouchUptoCard

/-- THE SECOND FORM's CARD OF 'fringelaw03.GeoidNormal'. -/
def geoidNormalUptoCard : Claim7 := { stood := { row := geoidNormalUptoRow, standIns := [], harness := (true, "150e1722de202e44ad3a72fffe63e8ee57a43c5c4e0aadf76ed28e6b4b9df7a9"), looks := false }, kinds := [], alts := [], laidByText := true, laidKinds := [.data], laidTests := true, laidLooks := .later }
def GeoidNormalUptoCardSaid : Prop := Claim7.holds Tryd.pinned (.plain (OpenSpec.upto geoidNormalSpec)) geoidNormalUptoCard

/-- THE SECOND FORM's CARD OF 'fringelaw03.GeoidTurned'. -/
def geoidTurnedUptoCard : Claim7 := { stood := { row := geoidTurnedUptoRow, standIns := [], harness := (true, "150e1722de202e44ad3a72fffe63e8ee57a43c5c4e0aadf76ed28e6b4b9df7a9"), looks := false }, kinds := [], alts := [], laidByText := true, laidKinds := [.data, .data], laidTests := true, laidLooks := .later }
def GeoidTurnedUptoCardSaid : Prop := Claim7.holds Tryd.pinned (.plain (OpenSpec.upto geoidTurnedSpec)) geoidTurnedUptoCard
end Rows
end Go.Proofs.YtckjflbbilideaaDoor
