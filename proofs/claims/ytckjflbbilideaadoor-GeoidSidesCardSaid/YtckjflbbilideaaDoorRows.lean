/-
  NARROWER THAN 'FOR EVERY INPUT', by the rows' own cells (each row's printed sentence says how): GeoidPlaces: laid · GeoidNames: laid · GeoidSides: laid · GeoidOn: laid · GeoidTouch: laid · GeoidNormal: laid · GeoidTurned: laid.
  DERIVED. THE GIVEN ROWS OF THIS SEAT. 7 by the template 'for every input the law returns true; each argument reads behind the call as it read before'; 0 by the template 'total and deterministic' (their statements: YtckjflbbilideaaDoorTotals.lean).
  GIVEN WITH THE SEED: the statements are not yours to turn. If you find one false, say at which input.
  Laid BY PROGRAM, IN A SANDBOX (cutbox-rows.mjs): the forced cells as the released guide's own fill.sh prints them over the translation 3359150ebd78481d… (all of the seat's roots in one cut). By AI agents, Wed Nov 11 2026. No macro, syntax, notation, axiom, sorry.
-/
import Derived.Test.YtckjflbbilideaaDoorChecked
import GoSem.Claim
import GoSem.ClaimJoined
import GoSem.ClaimMapViews
import Derived.JoinedTies
import Derived.KernelRfl
namespace Go.Proofs.YtckjflbbilideaaDoor
/- THE CELL 'sum', in the pinned program and in every row, IS THE sha256 OF THE DUMP (.gsa) THAT YtckjflbbilideaaDoorProg.lean LOADS. Nothing in Lean hashes anything: it is a label: what it is worth is what the hold of that sum in a sandbox is worth. -/
noncomputable def Tryd.pinned : Pinned := { name := "ytckjflbbilideaadoor", sum := "3359150ebd78481d3f84cf1c089fcb86f84b9c4485467593ca34a83372d42372", checked := Tryd.checked }
namespace Rows
def none {H : Type} : Left H := { results := [], args := [] }

/- WHAT THE LISTED PACKAGE-LEVEL VARIABLES READ AS WHEN THE CALL BEGINS. Each datum BY PROGRAM (the guide's laid-datum.mjs) off the statement by which the dump's own 'gosem.cut.vars' lays the variable. In a bare row this is a premise. The card (YtckjflbbilideaaDoorCards.lean) ties it to the program's text. -/
def laid_fringe_vec_zero {H : Type} : DataW H := .agg [.lit (.int .i64 0), .lit (.int .i64 1)]
def laid_fringe_vec_one {H : Type} : DataW H := .agg [.lit (.int .i64 1), .lit (.int .i64 1)]

/-- 'fringelaw03.GeoidPlaces': WHATEVER THE INPUT: true; the input reads as it did. -/
def geoidPlacesSpec : ChangeSpec := { name := "geoidPlaces", fn := fun _ => fun
  | [d1, d2, d3, d4] => { results := [.lit (.bool true)], args := [d1, d2, d3, d4] }
  | _ => none }
def geoidPlacesRow : OpenClaim := { program := "ytckjflbbilideaadoor", sum := "3359150ebd78481d3f84cf1c089fcb86f84b9c4485467593ca34a83372d42372", func := "fringe/fringelaw03.GeoidPlaces", spec := "geoidPlaces", inPlace := ["math/bits.Add64", "math/bits.Sub64"], named := ["fringe/vec.zero", "math/bits.divideError", "math/bits.overflowError"], apart := false, laid := [("fringe/vec.zero", laid_fringe_vec_zero)] }
def GeoidPlacesSaid : Prop := geoidPlacesRow.holds Tryd.pinned (OpenSpec.ofChange geoidPlacesSpec)

/-- ITS FALSE NEIGHBOUR: 'it returns false'. Refute it at one input. -/
def geoidPlacesWrong : ChangeSpec := { name := "geoidPlaces", fn := fun _ => fun
  | [d1, d2, d3, d4] => { results := [.lit (.bool false)], args := [d1, d2, d3, d4] }
  | _ => none }
def GeoidPlacesWrongFalsely : Prop := geoidPlacesRow.holds Tryd.pinned (OpenSpec.ofChange geoidPlacesWrong)

/-- 'fringelaw03.GeoidNames': WHATEVER THE INPUT: true; the input reads as it did. -/
def geoidNamesSpec : ChangeSpec := { name := "geoidNames", fn := fun _ => fun
  | [] => { results := [.lit (.bool true)], args := [] }
  | _ => none }
def geoidNamesRow : OpenClaim := { program := "ytckjflbbilideaadoor", sum := "3359150ebd78481d3f84cf1c089fcb86f84b9c4485467593ca34a83372d42372", func := "fringe/fringelaw03.GeoidNames", spec := "geoidNames", inPlace := ["math/bits.Add64", "math/bits.Sub64"], named := ["fringe/vec.zero", "math/bits.divideError", "math/bits.overflowError"], apart := false, laid := [("fringe/vec.zero", laid_fringe_vec_zero)] }
def GeoidNamesSaid : Prop := geoidNamesRow.holds Tryd.pinned (OpenSpec.ofChange geoidNamesSpec)

/-- ITS FALSE NEIGHBOUR: 'it returns false'. Refute it at one input. -/
def geoidNamesWrong : ChangeSpec := { name := "geoidNames", fn := fun _ => fun
  | [] => { results := [.lit (.bool false)], args := [] }
  | _ => none }
def GeoidNamesWrongFalsely : Prop := geoidNamesRow.holds Tryd.pinned (OpenSpec.ofChange geoidNamesWrong)

/-- 'fringelaw03.GeoidSides': WHATEVER THE INPUT: true; the input reads as it did. -/
def geoidSidesSpec : ChangeSpec := { name := "geoidSides", fn := fun _ => fun
  | [d1, d2, d3] => { results := [.lit (.bool true)], args := [d1, d2, d3] }
  | _ => none }
def geoidSidesRow : OpenClaim := { program := "ytckjflbbilideaadoor", sum := "3359150ebd78481d3f84cf1c089fcb86f84b9c4485467593ca34a83372d42372", func := "fringe/fringelaw03.GeoidSides", spec := "geoidSides", inPlace := ["math/bits.Add64", "math/bits.Sub64"], named := ["fringe/vec.zero", "math/bits.divideError", "math/bits.overflowError"], apart := false, laid := [("fringe/vec.zero", laid_fringe_vec_zero)] }
def GeoidSidesSaid : Prop := geoidSidesRow.holds Tryd.pinned (OpenSpec.ofChange geoidSidesSpec)

/-- ITS FALSE NEIGHBOUR: 'it returns false'. Refute it at one input. -/
def geoidSidesWrong : ChangeSpec := { name := "geoidSides", fn := fun _ => fun
  | [d1, d2, d3] => { results := [.lit (.bool false)], args := [d1, d2, d3] }
  | _ => none }
def GeoidSidesWrongFalsely : Prop := geoidSidesRow.holds Tryd.pinned (OpenSpec.ofChange geoidSidesWrong)

/-- 'fringelaw03.GeoidOn': WHATEVER THE INPUT: true; the input reads as it did. -/
def geoidOnSpec : ChangeSpec := { name := "geoidOn", fn := fun _ => fun
  | [d1, d2, d3] => { results := [.lit (.bool true)], args := [d1, d2, d3] }
  | _ => none }
def geoidOnRow : OpenClaim := { program := "ytckjflbbilideaadoor", sum := "3359150ebd78481d3f84cf1c089fcb86f84b9c4485467593ca34a83372d42372", func := "fringe/fringelaw03.GeoidOn", spec := "geoidOn", inPlace := ["math/bits.Add64", "math/bits.Sub64"], named := ["fringe/vec.zero", "math/bits.divideError", "math/bits.overflowError"], apart := false, laid := [("fringe/vec.zero", laid_fringe_vec_zero)] }
def GeoidOnSaid : Prop := geoidOnRow.holds Tryd.pinned (OpenSpec.ofChange geoidOnSpec)

/-- ITS FALSE NEIGHBOUR: 'it returns false'. Refute it at one input. -/
def geoidOnWrong : ChangeSpec := { name := "geoidOn", fn := fun _ => fun
  | [d1, d2, d3] => { results := [.lit (.bool false)], args := [d1, d2, d3] }
  | _ => none }
def GeoidOnWrongFalsely : Prop := geoidOnRow.holds Tryd.pinned (OpenSpec.ofChange geoidOnWrong)

/-- 'fringelaw03.GeoidTouch': WHATEVER THE INPUT: true; the input reads as it did. -/
def geoidTouchSpec : ChangeSpec := { name := "geoidTouch", fn := fun _ => fun
  | [d1, d2, d3, d4, d5, d6] => { results := [.lit (.bool true)], args := [d1, d2, d3, d4, d5, d6] }
  | _ => none }
def geoidTouchRow : OpenClaim := { program := "ytckjflbbilideaadoor", sum := "3359150ebd78481d3f84cf1c089fcb86f84b9c4485467593ca34a83372d42372", func := "fringe/fringelaw03.GeoidTouch", spec := "geoidTouch", inPlace := ["math/bits.Add64", "math/bits.Sub64"], named := ["fringe/vec.zero", "math/bits.divideError", "math/bits.overflowError"], apart := false, laid := [("fringe/vec.zero", laid_fringe_vec_zero)] }
def GeoidTouchSaid : Prop := geoidTouchRow.holds Tryd.pinned (OpenSpec.ofChange geoidTouchSpec)

/-- ITS FALSE NEIGHBOUR: 'it returns false'. Refute it at one input. -/
def geoidTouchWrong : ChangeSpec := { name := "geoidTouch", fn := fun _ => fun
  | [d1, d2, d3, d4, d5, d6] => { results := [.lit (.bool false)], args := [d1, d2, d3, d4, d5, d6] }
  | _ => none }
def GeoidTouchWrongFalsely : Prop := geoidTouchRow.holds Tryd.pinned (OpenSpec.ofChange geoidTouchWrong)

/-- 'fringelaw03.GeoidNormal': WHATEVER THE INPUT: true; the input reads as it did. -/
def geoidNormalSpec : ChangeSpec := { name := "geoidNormal", fn := fun _ => fun
  | [d1, d2, d3] => { results := [.lit (.bool true)], args := [d1, d2, d3] }
  | _ => none }
def geoidNormalRow : OpenClaim := { program := "ytckjflbbilideaadoor", sum := "3359150ebd78481d3f84cf1c089fcb86f84b9c4485467593ca34a83372d42372", func := "fringe/fringelaw03.GeoidNormal", spec := "geoidNormal", inPlace := ["math/bits.Add64", "math/bits.Sub64"], named := ["fringe/vec.zero", "math/bits.divideError", "math/bits.overflowError"], apart := false, laid := [("fringe/vec.zero", laid_fringe_vec_zero)] }
def GeoidNormalSaid : Prop := geoidNormalRow.holds Tryd.pinned (OpenSpec.ofChange geoidNormalSpec)

/-- ITS FALSE NEIGHBOUR: 'it returns false'. Refute it at one input. -/
def geoidNormalWrong : ChangeSpec := { name := "geoidNormal", fn := fun _ => fun
  | [d1, d2, d3] => { results := [.lit (.bool false)], args := [d1, d2, d3] }
  | _ => none }
def GeoidNormalWrongFalsely : Prop := geoidNormalRow.holds Tryd.pinned (OpenSpec.ofChange geoidNormalWrong)

/-- 'fringelaw03.GeoidTurned': WHATEVER THE INPUT: true; the input reads as it did. -/
def geoidTurnedSpec : ChangeSpec := { name := "geoidTurned", fn := fun _ => fun
  | [d1, d2, d3, d4, d5] => { results := [.lit (.bool true)], args := [d1, d2, d3, d4, d5] }
  | _ => none }
def geoidTurnedRow : OpenClaim := { program := "ytckjflbbilideaadoor", sum := "3359150ebd78481d3f84cf1c089fcb86f84b9c4485467593ca34a83372d42372", func := "fringe/fringelaw03.GeoidTurned", spec := "geoidTurned", inPlace := ["math/bits.Add64", "math/bits.Sub64"], unfollowed := true, recurses := true, named := ["fringe/vec.zero", "math/bits.divideError", "math/bits.overflowError", "fringe/vec.one"], apart := false, laid := [("fringe/vec.zero", laid_fringe_vec_zero), ("fringe/vec.one", laid_fringe_vec_one)] }
def GeoidTurnedSaid : Prop := geoidTurnedRow.holds Tryd.pinned (OpenSpec.ofChange geoidTurnedSpec)

/-- ITS FALSE NEIGHBOUR: 'it returns false'. Refute it at one input. -/
def geoidTurnedWrong : ChangeSpec := { name := "geoidTurned", fn := fun _ => fun
  | [d1, d2, d3, d4, d5] => { results := [.lit (.bool false)], args := [d1, d2, d3, d4, d5] }
  | _ => none }
def GeoidTurnedWrongFalsely : Prop := geoidTurnedRow.holds Tryd.pinned (OpenSpec.ofChange geoidTurnedWrong)

/- THE SECOND FORM. 'bulk': how many values and letters a reading holds, each counted each time it is reached (what is shared counts as often as it is met; a slice's spare places count too). A statement '..UptoSaid' is the law's where the arguments, and the package variables that the reading takes, are together of bulk at most 1048576: NARROWER than '..Said'. Prove '..Said' where nothing that the law and all that it calls make is longer than what came in: it says more and counts as full. Else prove '..UptoSaid'. A law counts once. -/
mutual
def uptoBulk {H : Type} : DataW H → Nat
  | .lit (.string bytes) => bytes.length + 1
  | .lit _ => 1
  | .nil => 1
  | .ptr d => uptoBulk d + 1
  | .slice elems spare => uptoBulkAll elems + uptoBulkAll spare + 1
  | .agg parts => uptoBulkAll parts + 1
  | .iface _ d => uptoBulk d + 1
  | .map entries => uptoBulkEntries entries + 1
  | .held _ => 1
def uptoBulkAll {H : Type} : List (DataW H) → Nat
  | [] => 0
  | d :: r => uptoBulk d + uptoBulkAll r
def uptoBulkEntries {H : Type} : List (Lit × DataW H) → Nat
  | [] => 0
  | x :: r => uptoBulkEntry x + uptoBulkEntries r
def uptoBulkEntry {H : Type} : Lit × DataW H → Nat
  | (.string bytes, d) => bytes.length + uptoBulk d + 1
  | (_, d) => uptoBulk d + 1
 end
def uptoSmall : (H : Type) → List (DataW H) → Bool := fun _ ds => decide (uptoBulkAll ds ≤ 1048576)
def OpenSpec.upto (s : _root_.Go.ChangeSpec) : _root_.Go.OpenSpec := { _root_.Go.OpenSpec.ofChange s with cond := some uptoSmall }

/-- 'fringelaw03.GeoidPlaces', WHERE WHAT IT READS IS OF BULK AT MOST 1048576: true; the input reads as it did. -/
def geoidPlacesUptoRow : OpenClaim := { program := "ytckjflbbilideaadoor", sum := "3359150ebd78481d3f84cf1c089fcb86f84b9c4485467593ca34a83372d42372", func := "fringe/fringelaw03.GeoidPlaces", spec := "geoidPlaces", inPlace := ["math/bits.Add64", "math/bits.Sub64"], named := ["fringe/vec.zero", "math/bits.divideError", "math/bits.overflowError"], apart := false, laid := [("fringe/vec.zero", laid_fringe_vec_zero)], narrowed := true }
def GeoidPlacesUptoSaid : Prop := geoidPlacesUptoRow.holds Tryd.pinned (OpenSpec.upto geoidPlacesSpec)

/-- 'fringelaw03.GeoidNames', WHERE WHAT IT READS IS OF BULK AT MOST 1048576: true; the input reads as it did. -/
def geoidNamesUptoRow : OpenClaim := { program := "ytckjflbbilideaadoor", sum := "3359150ebd78481d3f84cf1c089fcb86f84b9c4485467593ca34a83372d42372", func := "fringe/fringelaw03.GeoidNames", spec := "geoidNames", inPlace := ["math/bits.Add64", "math/bits.Sub64"], named := ["fringe/vec.zero", "math/bits.divideError", "math/bits.overflowError"], apart := false, laid := [("fringe/vec.zero", laid_fringe_vec_zero)], narrowed := true }
def GeoidNamesUptoSaid : Prop := geoidNamesUptoRow.holds Tryd.pinned (OpenSpec.upto geoidNamesSpec)

/-- 'fringelaw03.GeoidSides', WHERE WHAT IT READS IS OF BULK AT MOST 1048576: true; the input reads as it did. -/
def geoidSidesUptoRow : OpenClaim := { program := "ytckjflbbilideaadoor", sum := "3359150ebd78481d3f84cf1c089fcb86f84b9c4485467593ca34a83372d42372", func := "fringe/fringelaw03.GeoidSides", spec := "geoidSides", inPlace := ["math/bits.Add64", "math/bits.Sub64"], named := ["fringe/vec.zero", "math/bits.divideError", "math/bits.overflowError"], apart := false, laid := [("fringe/vec.zero", laid_fringe_vec_zero)], narrowed := true }
def GeoidSidesUptoSaid : Prop := geoidSidesUptoRow.holds Tryd.pinned (OpenSpec.upto geoidSidesSpec)

/-- 'fringelaw03.GeoidOn', WHERE WHAT IT READS IS OF BULK AT MOST 1048576: true; the input reads as it did. -/
def geoidOnUptoRow : OpenClaim := { program := "ytckjflbbilideaadoor", sum := "3359150ebd78481d3f84cf1c089fcb86f84b9c4485467593ca34a83372d42372", func := "fringe/fringelaw03.GeoidOn", spec := "geoidOn", inPlace := ["math/bits.Add64", "math/bits.Sub64"], named := ["fringe/vec.zero", "math/bits.divideError", "math/bits.overflowError"], apart := false, laid := [("fringe/vec.zero", laid_fringe_vec_zero)], narrowed := true }
def GeoidOnUptoSaid : Prop := geoidOnUptoRow.holds Tryd.pinned (OpenSpec.upto geoidOnSpec)

/-- 'fringelaw03.GeoidTouch', WHERE WHAT IT READS IS OF BULK AT MOST 1048576: true; the input reads as it did. -/
def geoidTouchUptoRow : OpenClaim := { program := "ytckjflbbilideaadoor", sum := "3359150ebd78481d3f84cf1c089fcb86f84b9c4485467593ca34a83372d42372", func := "fringe/fringelaw03.GeoidTouch", spec := "geoidTouch", inPlace := ["math/bits.Add64", "math/bits.Sub64"], named := ["fringe/vec.zero", "math/bits.divideError", "math/bits.overflowError"], apart := false, laid := [("fringe/vec.zero", laid_fringe_vec_zero)], narrowed := true }
def GeoidTouchUptoSaid : Prop := geoidTouchUptoRow.holds Tryd.pinned (OpenSpec.upto geoidTouchSpec)

/-- 'fringelaw03.GeoidNormal', WHERE WHAT IT READS IS OF BULK AT MOST 1048576: true; the input reads as it did. -/
def geoidNormalUptoRow : OpenClaim := { program := "ytckjflbbilideaadoor", sum := "3359150ebd78481d3f84cf1c089fcb86f84b9c4485467593ca34a83372d42372", func := "fringe/fringelaw03.GeoidNormal", spec := "geoidNormal", inPlace := ["math/bits.Add64", "math/bits.Sub64"], named := ["fringe/vec.zero", "math/bits.divideError", "math/bits.overflowError"], apart := false, laid := [("fringe/vec.zero", laid_fringe_vec_zero)], narrowed := true }
def GeoidNormalUptoSaid : Prop := geoidNormalUptoRow.holds Tryd.pinned (OpenSpec.upto geoidNormalSpec)

/-- 'fringelaw03.GeoidTurned', WHERE WHAT IT READS IS OF BULK AT MOST 1048576: true; the input reads as it did. -/
def geoidTurnedUptoRow : OpenClaim := { program := "ytckjflbbilideaadoor", sum := "3359150ebd78481d3f84cf1c089fcb86f84b9c4485467593ca34a83372d42372", func := "fringe/fringelaw03.GeoidTurned", spec := "geoidTurned", inPlace := ["math/bits.Add64", "math/bits.Sub64"], unfollowed := true, recurses := true, named := ["fringe/vec.zero", "math/bits.divideError", "math/bits.overflowError", "fringe/vec.one"], apart := false, laid := [("fringe/vec.zero", laid_fringe_vec_zero), ("fringe/vec.one", laid_fringe_vec_one)], narrowed := true }
def GeoidTurnedUptoSaid : Prop := geoidTurnedUptoRow.holds Tryd.pinned (OpenSpec.upto geoidTurnedSpec)

end Rows
end Go.Proofs.YtckjflbbilideaaDoor
