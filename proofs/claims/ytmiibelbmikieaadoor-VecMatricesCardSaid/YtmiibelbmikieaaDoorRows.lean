/-
  NARROWER THAN 'FOR EVERY INPUT', by the rows' own cells (each row's printed sentence says how): VecWorks: laid · VecCross: laid · VecMatrices: laid · VecKept: laid · VecGroup: laid · VecNames: laid.
  DERIVED. THE GIVEN ROWS OF THIS SEAT. 6 by the template 'for every input the law returns true; each argument reads behind the call as it read before'; 0 by the template 'total and deterministic' (their statements: YtmiibelbmikieaaDoorTotals.lean).
  GIVEN WITH THE SEED: the statements are not yours to turn. If you find one false, say at which input.
  Laid BY PROGRAM, IN A SANDBOX (cutbox-rows.mjs): the forced cells as the released guide's own fill.sh prints them over the translation 85b496e908c0a2d2… (all of the seat's roots in one cut). By AI agents, Wed Nov 11 2026. No macro, syntax, notation, axiom, sorry.
-/
import Derived.Test.YtmiibelbmikieaaDoorChecked
import GoSem.Claim
import GoSem.ClaimJoined
import GoSem.ClaimMapViews
import Derived.JoinedTies
import Derived.KernelRfl
namespace Go.Proofs.YtmiibelbmikieaaDoor
/- THE CELL 'sum', in the pinned program and in every row, IS THE sha256 OF THE DUMP (.gsa) THAT YtmiibelbmikieaaDoorProg.lean LOADS. Nothing in Lean hashes anything: it is a label: what it is worth is what the hold of that sum in a sandbox is worth. -/
noncomputable def Tryd.pinned : Pinned := { name := "ytmiibelbmikieaadoor", sum := "85b496e908c0a2d23439a5c14adacc008f63520dec478e1fcce1dd340734a24d", checked := Tryd.checked }
namespace Rows
def none {H : Type} : Left H := { results := [], args := [] }

/- WHAT THE LISTED PACKAGE-LEVEL VARIABLES READ AS WHEN THE CALL BEGINS. Each datum BY PROGRAM (the guide's laid-datum.mjs) off the statement by which the dump's own 'gosem.cut.vars' lays the variable. In a bare row this is a premise. The card (YtmiibelbmikieaaDoorCards.lean) ties it to the program's text. -/
def laid_fringe_vec_zero {H : Type} : DataW H := .agg [.lit (.int .i64 0), .lit (.int .i64 1)]
def laid_fringe_vec_one {H : Type} : DataW H := .agg [.lit (.int .i64 1), .lit (.int .i64 1)]

/-- 'fringelaw02.VecWorks': WHATEVER THE INPUT: true; the input reads as it did. -/
def vecWorksSpec : ChangeSpec := { name := "vecWorks", fn := fun _ => fun
  | [d1, d2, d3] => { results := [.lit (.bool true)], args := [d1, d2, d3] }
  | _ => none }
def vecWorksRow : OpenClaim := { program := "ytmiibelbmikieaadoor", sum := "85b496e908c0a2d23439a5c14adacc008f63520dec478e1fcce1dd340734a24d", func := "fringe/fringelaw02.VecWorks", spec := "vecWorks", inPlace := ["math/bits.Add64", "math/bits.Sub64"], unfollowed := true, recurses := true, named := ["math/bits.divideError", "math/bits.overflowError", "fringe/vec.zero"], apart := false, laid := [("fringe/vec.zero", laid_fringe_vec_zero)] }
def VecWorksSaid : Prop := vecWorksRow.holds Tryd.pinned (OpenSpec.ofChange vecWorksSpec)

/-- ITS FALSE NEIGHBOUR: 'it returns false'. Refute it at one input. -/
def vecWorksWrong : ChangeSpec := { name := "vecWorks", fn := fun _ => fun
  | [d1, d2, d3] => { results := [.lit (.bool false)], args := [d1, d2, d3] }
  | _ => none }
def VecWorksWrongFalsely : Prop := vecWorksRow.holds Tryd.pinned (OpenSpec.ofChange vecWorksWrong)

/-- 'fringelaw02.VecCross': WHATEVER THE INPUT: true; the input reads as it did. -/
def vecCrossSpec : ChangeSpec := { name := "vecCross", fn := fun _ => fun
  | [d1, d2, d3] => { results := [.lit (.bool true)], args := [d1, d2, d3] }
  | _ => none }
def vecCrossRow : OpenClaim := { program := "ytmiibelbmikieaadoor", sum := "85b496e908c0a2d23439a5c14adacc008f63520dec478e1fcce1dd340734a24d", func := "fringe/fringelaw02.VecCross", spec := "vecCross", inPlace := ["math/bits.Add64", "math/bits.Sub64"], unfollowed := true, recurses := true, named := ["fringe/vec.zero", "math/bits.divideError", "math/bits.overflowError", "fringe/vec.one"], apart := false, laid := [("fringe/vec.zero", laid_fringe_vec_zero), ("fringe/vec.one", laid_fringe_vec_one)] }
def VecCrossSaid : Prop := vecCrossRow.holds Tryd.pinned (OpenSpec.ofChange vecCrossSpec)

/-- ITS FALSE NEIGHBOUR: 'it returns false'. Refute it at one input. -/
def vecCrossWrong : ChangeSpec := { name := "vecCross", fn := fun _ => fun
  | [d1, d2, d3] => { results := [.lit (.bool false)], args := [d1, d2, d3] }
  | _ => none }
def VecCrossWrongFalsely : Prop := vecCrossRow.holds Tryd.pinned (OpenSpec.ofChange vecCrossWrong)

/-- 'fringelaw02.VecMatrices': WHATEVER THE INPUT: true; the input reads as it did. -/
def vecMatricesSpec : ChangeSpec := { name := "vecMatrices", fn := fun _ => fun
  | [d1, d2, d3, d4, d5] => { results := [.lit (.bool true)], args := [d1, d2, d3, d4, d5] }
  | _ => none }
def vecMatricesRow : OpenClaim := { program := "ytmiibelbmikieaadoor", sum := "85b496e908c0a2d23439a5c14adacc008f63520dec478e1fcce1dd340734a24d", func := "fringe/fringelaw02.VecMatrices", spec := "vecMatrices", inPlace := ["math/bits.Add64", "math/bits.Sub64"], unfollowed := true, recurses := true, named := ["fringe/vec.zero", "math/bits.divideError", "math/bits.overflowError", "fringe/vec.one"], apart := false, laid := [("fringe/vec.zero", laid_fringe_vec_zero), ("fringe/vec.one", laid_fringe_vec_one)] }
def VecMatricesSaid : Prop := vecMatricesRow.holds Tryd.pinned (OpenSpec.ofChange vecMatricesSpec)

/-- ITS FALSE NEIGHBOUR: 'it returns false'. Refute it at one input. -/
def vecMatricesWrong : ChangeSpec := { name := "vecMatrices", fn := fun _ => fun
  | [d1, d2, d3, d4, d5] => { results := [.lit (.bool false)], args := [d1, d2, d3, d4, d5] }
  | _ => none }
def VecMatricesWrongFalsely : Prop := vecMatricesRow.holds Tryd.pinned (OpenSpec.ofChange vecMatricesWrong)

/-- 'fringelaw02.VecKept': WHATEVER THE INPUT: true; the input reads as it did. -/
def vecKeptSpec : ChangeSpec := { name := "vecKept", fn := fun _ => fun
  | [d1, d2, d3, d4] => { results := [.lit (.bool true)], args := [d1, d2, d3, d4] }
  | _ => none }
def vecKeptRow : OpenClaim := { program := "ytmiibelbmikieaadoor", sum := "85b496e908c0a2d23439a5c14adacc008f63520dec478e1fcce1dd340734a24d", func := "fringe/fringelaw02.VecKept", spec := "vecKept", inPlace := ["math/bits.Add64", "math/bits.Sub64"], unfollowed := true, recurses := true, named := ["fringe/vec.zero", "math/bits.divideError", "math/bits.overflowError", "fringe/vec.one"], apart := false, laid := [("fringe/vec.zero", laid_fringe_vec_zero), ("fringe/vec.one", laid_fringe_vec_one)] }
def VecKeptSaid : Prop := vecKeptRow.holds Tryd.pinned (OpenSpec.ofChange vecKeptSpec)

/-- ITS FALSE NEIGHBOUR: 'it returns false'. Refute it at one input. -/
def vecKeptWrong : ChangeSpec := { name := "vecKept", fn := fun _ => fun
  | [d1, d2, d3, d4] => { results := [.lit (.bool false)], args := [d1, d2, d3, d4] }
  | _ => none }
def VecKeptWrongFalsely : Prop := vecKeptRow.holds Tryd.pinned (OpenSpec.ofChange vecKeptWrong)

/-- 'fringelaw02.VecGroup': WHATEVER THE INPUT: true; the input reads as it did. -/
def vecGroupSpec : ChangeSpec := { name := "vecGroup", fn := fun _ => fun
  | [d1, d2, d3, d4, d5] => { results := [.lit (.bool true)], args := [d1, d2, d3, d4, d5] }
  | _ => none }
def vecGroupRow : OpenClaim := { program := "ytmiibelbmikieaadoor", sum := "85b496e908c0a2d23439a5c14adacc008f63520dec478e1fcce1dd340734a24d", func := "fringe/fringelaw02.VecGroup", spec := "vecGroup", inPlace := ["math/bits.Add64", "math/bits.Sub64"], unfollowed := true, recurses := true, named := ["fringe/vec.zero", "math/bits.divideError", "math/bits.overflowError", "fringe/vec.one"], apart := false, laid := [("fringe/vec.zero", laid_fringe_vec_zero), ("fringe/vec.one", laid_fringe_vec_one)] }
def VecGroupSaid : Prop := vecGroupRow.holds Tryd.pinned (OpenSpec.ofChange vecGroupSpec)

/-- ITS FALSE NEIGHBOUR: 'it returns false'. Refute it at one input. -/
def vecGroupWrong : ChangeSpec := { name := "vecGroup", fn := fun _ => fun
  | [d1, d2, d3, d4, d5] => { results := [.lit (.bool false)], args := [d1, d2, d3, d4, d5] }
  | _ => none }
def VecGroupWrongFalsely : Prop := vecGroupRow.holds Tryd.pinned (OpenSpec.ofChange vecGroupWrong)

/-- 'fringelaw02.VecNames': WHATEVER THE INPUT: true; the input reads as it did. -/
def vecNamesSpec : ChangeSpec := { name := "vecNames", fn := fun _ => fun
  | [] => { results := [.lit (.bool true)], args := [] }
  | _ => none }
def vecNamesRow : OpenClaim := { program := "ytmiibelbmikieaadoor", sum := "85b496e908c0a2d23439a5c14adacc008f63520dec478e1fcce1dd340734a24d", func := "fringe/fringelaw02.VecNames", spec := "vecNames", inPlace := ["math/bits.Add64", "math/bits.Sub64"], unfollowed := true, recurses := true, named := ["fringe/vec.one", "fringe/vec.zero", "math/bits.divideError", "math/bits.overflowError"], apart := false, laid := [("fringe/vec.zero", laid_fringe_vec_zero), ("fringe/vec.one", laid_fringe_vec_one)] }
def VecNamesSaid : Prop := vecNamesRow.holds Tryd.pinned (OpenSpec.ofChange vecNamesSpec)

/-- ITS FALSE NEIGHBOUR: 'it returns false'. Refute it at one input. -/
def vecNamesWrong : ChangeSpec := { name := "vecNames", fn := fun _ => fun
  | [] => { results := [.lit (.bool false)], args := [] }
  | _ => none }
def VecNamesWrongFalsely : Prop := vecNamesRow.holds Tryd.pinned (OpenSpec.ofChange vecNamesWrong)

/- THE SECOND FORM. 'bulk': how many values and letters a reading holds, each counted each time it is reached (what is shared counts as often as it is met; a slice's spare places count too). A statement '..UptoSaid' is the law's where the arguments, and the package variables that the reading takes, are together of bulk at most 1048576: NARROWER than '..Said'. Prove '..Said' where nothing that the law and all that it calls make is longer than what came in: it says more and counts as full. Else prove '..UptoSaid'. A law counts once. -/
mutual
def uptoBulk {H : Type} : DataW H → Nat
  | .lit (.string bytes) => bytes.length + 1
  | .lit _ => 1
  | .nil => 1
  | .ptr d => uptoBulk d + 1
  | .slice elems spare => uptoBulkAll elems + uptoBulkAll spare + 1
  | .agg parts => uptoBulkAll parts + 1
  | .iface _ d => uptoBulk d + 1
  | .map entries => uptoBulkEntries entries + 1
  | .held _ => 1
def uptoBulkAll {H : Type} : List (DataW H) → Nat
  | [] => 0
  | d :: r => uptoBulk d + uptoBulkAll r
def uptoBulkEntries {H : Type} : List (Lit × DataW H) → Nat
  | [] => 0
  | x :: r => uptoBulkEntry x + uptoBulkEntries r
def uptoBulkEntry {H : Type} : Lit × DataW H → Nat
  | (.string bytes, d) => bytes.length + uptoBulk d + 1
  | (_, d) => uptoBulk d + 1
 end
def uptoSmall : (H : Type) → List (DataW H) → Bool := fun _ ds => decide (uptoBulkAll ds ≤ 1048576)
def OpenSpec.upto (s : _root_.Go.ChangeSpec) : _root_.Go.OpenSpec := { _root_.Go.OpenSpec.ofChange s with cond := some uptoSmall }

/-- 'fringelaw02.VecWorks', WHERE WHAT IT READS IS OF BULK AT MOST 1048576: true; the input reads as it did. -/
def vecWorksUptoRow : OpenClaim := { program := "ytmiibelbmikieaadoor", sum := "85b496e908c0a2d23439a5c14adacc008f63520dec478e1fcce1dd340734a24d", func := "fringe/fringelaw02.VecWorks", spec := "vecWorks", inPlace := ["math/bits.Add64", "math/bits.Sub64"], unfollowed := true, recurses := true, named := ["math/bits.divideError", "math/bits.overflowError", "fringe/vec.zero"], apart := false, laid := [("fringe/vec.zero", laid_fringe_vec_zero)], narrowed := true }
def VecWorksUptoSaid : Prop := vecWorksUptoRow.holds Tryd.pinned (OpenSpec.upto vecWorksSpec)

/-- 'fringelaw02.VecCross', WHERE WHAT IT READS IS OF BULK AT MOST 1048576: true; the input reads as it did. -/
def vecCrossUptoRow : OpenClaim := { program := "ytmiibelbmikieaadoor", sum := "85b496e908c0a2d23439a5c14adacc008f63520dec478e1fcce1dd340734a24d", func := "fringe/fringelaw02.VecCross", spec := "vecCross", inPlace := ["math/bits.Add64", "math/bits.Sub64"], unfollowed := true, recurses := true, named := ["fringe/vec.zero", "math/bits.divideError", "math/bits.overflowError", "fringe/vec.one"], apart := false, laid := [("fringe/vec.zero", laid_fringe_vec_zero), ("fringe/vec.one", laid_fringe_vec_one)], narrowed := true }
def VecCrossUptoSaid : Prop := vecCrossUptoRow.holds Tryd.pinned (OpenSpec.upto vecCrossSpec)

/-- 'fringelaw02.VecMatrices', WHERE WHAT IT READS IS OF BULK AT MOST 1048576: true; the input reads as it did. -/
def vecMatricesUptoRow : OpenClaim := { program := "ytmiibelbmikieaadoor", sum := "85b496e908c0a2d23439a5c14adacc008f63520dec478e1fcce1dd340734a24d", func := "fringe/fringelaw02.VecMatrices", spec := "vecMatrices", inPlace := ["math/bits.Add64", "math/bits.Sub64"], unfollowed := true, recurses := true, named := ["fringe/vec.zero", "math/bits.divideError", "math/bits.overflowError", "fringe/vec.one"], apart := false, laid := [("fringe/vec.zero", laid_fringe_vec_zero), ("fringe/vec.one", laid_fringe_vec_one)], narrowed := true }
def VecMatricesUptoSaid : Prop := vecMatricesUptoRow.holds Tryd.pinned (OpenSpec.upto vecMatricesSpec)

/-- 'fringelaw02.VecKept', WHERE WHAT IT READS IS OF BULK AT MOST 1048576: true; the input reads as it did. -/
def vecKeptUptoRow : OpenClaim := { program := "ytmiibelbmikieaadoor", sum := "85b496e908c0a2d23439a5c14adacc008f63520dec478e1fcce1dd340734a24d", func := "fringe/fringelaw02.VecKept", spec := "vecKept", inPlace := ["math/bits.Add64", "math/bits.Sub64"], unfollowed := true, recurses := true, named := ["fringe/vec.zero", "math/bits.divideError", "math/bits.overflowError", "fringe/vec.one"], apart := false, laid := [("fringe/vec.zero", laid_fringe_vec_zero), ("fringe/vec.one", laid_fringe_vec_one)], narrowed := true }
def VecKeptUptoSaid : Prop := vecKeptUptoRow.holds Tryd.pinned (OpenSpec.upto vecKeptSpec)

/-- 'fringelaw02.VecGroup', WHERE WHAT IT READS IS OF BULK AT MOST 1048576: true; the input reads as it did. -/
def vecGroupUptoRow : OpenClaim := { program := "ytmiibelbmikieaadoor", sum := "85b496e908c0a2d23439a5c14adacc008f63520dec478e1fcce1dd340734a24d", func := "fringe/fringelaw02.VecGroup", spec := "vecGroup", inPlace := ["math/bits.Add64", "math/bits.Sub64"], unfollowed := true, recurses := true, named := ["fringe/vec.zero", "math/bits.divideError", "math/bits.overflowError", "fringe/vec.one"], apart := false, laid := [("fringe/vec.zero", laid_fringe_vec_zero), ("fringe/vec.one", laid_fringe_vec_one)], narrowed := true }
def VecGroupUptoSaid : Prop := vecGroupUptoRow.holds Tryd.pinned (OpenSpec.upto vecGroupSpec)

/-- 'fringelaw02.VecNames', WHERE WHAT IT READS IS OF BULK AT MOST 1048576: true; the input reads as it did. -/
def vecNamesUptoRow : OpenClaim := { program := "ytmiibelbmikieaadoor", sum := "85b496e908c0a2d23439a5c14adacc008f63520dec478e1fcce1dd340734a24d", func := "fringe/fringelaw02.VecNames", spec := "vecNames", inPlace := ["math/bits.Add64", "math/bits.Sub64"], unfollowed := true, recurses := true, named := ["fringe/vec.one", "fringe/vec.zero", "math/bits.divideError", "math/bits.overflowError"], apart := false, laid := [("fringe/vec.zero", laid_fringe_vec_zero), ("fringe/vec.one", laid_fringe_vec_one)], narrowed := true }
def VecNamesUptoSaid : Prop := vecNamesUptoRow.holds Tryd.pinned (OpenSpec.upto vecNamesSpec)

end Rows
end Go.Proofs.YtmiibelbmikieaaDoor
