/-
  NARROWER THAN 'FOR EVERY INPUT', by the rows' own cells (each row's printed sentence says how): ProjKeeps: laid · ProjNames: laid.
  DERIVED. THE GIVEN ROWS OF THIS SEAT. 2 by the template 'for every input the law returns true; each argument reads behind the call as it read before'; 0 by the template 'total and deterministic' (their statements: YtglifoijcdfjaaaDoorTotals.lean).
  GIVEN WITH THE SEED: the statements are not yours to turn. If you find one false, say at which input.
  Laid BY PROGRAM, IN A SANDBOX (cutbox-rows.mjs): the forced cells as the released guide's own fill.sh prints them over the translation de7493686ab80368… (all of the seat's roots in one cut). By AI agents, Wed Nov 11 2026. No macro, syntax, notation, axiom, sorry.
-/
import Derived.Test.YtglifoijcdfjaaaDoorChecked
import GoSem.Claim
import GoSem.ClaimJoined
import GoSem.ClaimMapViews
import Derived.JoinedTies
import Derived.KernelRfl
namespace Go.Proofs.YtglifoijcdfjaaaDoor
/- THE CELL 'sum', in the pinned program and in every row, IS THE sha256 OF THE DUMP (.gsa) THAT YtglifoijcdfjaaaDoorProg.lean LOADS. Nothing in Lean hashes anything: it is a label: what it is worth is what the hold of that sum in a sandbox is worth. -/
noncomputable def Tryd.pinned : Pinned := { name := "ytglifoijcdfjaaadoor", sum := "de7493686ab80368fa48f5400e9daa841a99ba5f2f16b8e694b69ca48ba8c63a", checked := Tryd.checked }
namespace Rows
def none {H : Type} : Left H := { results := [], args := [] }

/- WHAT THE LISTED PACKAGE-LEVEL VARIABLES READ AS WHEN THE CALL BEGINS. Each datum BY PROGRAM (the guide's laid-datum.mjs) off the statement by which the dump's own 'gosem.cut.vars' lays the variable. In a bare row this is a premise. The card (YtglifoijcdfjaaaDoorCards.lean) ties it to the program's text. -/
def laid_fringe_vec_zero {H : Type} : DataW H := .agg [.lit (.int .i64 0), .lit (.int .i64 1)]

/-- 'fringelaw08.ProjKeeps': WHATEVER THE INPUT: true; the input reads as it did. -/
def projKeepsSpec : ChangeSpec := { name := "projKeeps", fn := fun _ => fun
  | [d1, d2, d3] => { results := [.lit (.bool true)], args := [d1, d2, d3] }
  | _ => none }
def projKeepsRow : OpenClaim := { program := "ytglifoijcdfjaaadoor", sum := "de7493686ab80368fa48f5400e9daa841a99ba5f2f16b8e694b69ca48ba8c63a", func := "fringe/fringelaw08.ProjKeeps", spec := "projKeeps", inPlace := ["math/bits.Add64", "math/bits.Sub64"], unfollowed := true, recurses := true, named := ["math/bits.divideError", "math/bits.overflowError", "fringe/vec.zero"], apart := false, laid := [("fringe/vec.zero", laid_fringe_vec_zero)] }
def ProjKeepsSaid : Prop := projKeepsRow.holds Tryd.pinned (OpenSpec.ofChange projKeepsSpec)

/-- ITS FALSE NEIGHBOUR: 'it returns false'. Refute it at one input. -/
def projKeepsWrong : ChangeSpec := { name := "projKeeps", fn := fun _ => fun
  | [d1, d2, d3] => { results := [.lit (.bool false)], args := [d1, d2, d3] }
  | _ => none }
def ProjKeepsWrongFalsely : Prop := projKeepsRow.holds Tryd.pinned (OpenSpec.ofChange projKeepsWrong)

/-- 'fringelaw08.ProjNames': WHATEVER THE INPUT: true; the input reads as it did. -/
def projNamesSpec : ChangeSpec := { name := "projNames", fn := fun _ => fun
  | [] => { results := [.lit (.bool true)], args := [] }
  | _ => none }
def projNamesRow : OpenClaim := { program := "ytglifoijcdfjaaadoor", sum := "de7493686ab80368fa48f5400e9daa841a99ba5f2f16b8e694b69ca48ba8c63a", func := "fringe/fringelaw08.ProjNames", spec := "projNames", inPlace := ["math/bits.Add64", "math/bits.Sub64"], unfollowed := true, recurses := true, named := ["math/bits.divideError", "math/bits.overflowError", "fringe/vec.zero"], apart := false, laid := [("fringe/vec.zero", laid_fringe_vec_zero)] }
def ProjNamesSaid : Prop := projNamesRow.holds Tryd.pinned (OpenSpec.ofChange projNamesSpec)

/-- ITS FALSE NEIGHBOUR: 'it returns false'. Refute it at one input. -/
def projNamesWrong : ChangeSpec := { name := "projNames", fn := fun _ => fun
  | [] => { results := [.lit (.bool false)], args := [] }
  | _ => none }
def ProjNamesWrongFalsely : Prop := projNamesRow.holds Tryd.pinned (OpenSpec.ofChange projNamesWrong)

/- THE SECOND FORM. 'bulk': how many values and letters a reading holds, each counted each time it is reached (what is shared counts as often as it is met; a slice's spare places count too). A statement '..UptoSaid' is the law's where the arguments, and the package variables that the reading takes, are together of bulk at most 1048576: NARROWER than '..Said'. Prove '..Said' where nothing that the law and all that it calls make is longer than what came in: it says more and counts as full. Else prove '..UptoSaid'. A law counts once. -/
mutual
def uptoBulk {H : Type} : DataW H → Nat
  | .lit (.string bytes) => bytes.length + 1
  | .lit _ => 1
  | .nil => 1
  | .ptr d => uptoBulk d + 1
  | .slice elems spare => uptoBulkAll elems + uptoBulkAll spare + 1
  | .agg parts => uptoBulkAll parts + 1
  | .iface _ d => uptoBulk d + 1
  | .map entries => uptoBulkEntries entries + 1
  | .held _ => 1
def uptoBulkAll {H : Type} : List (DataW H) → Nat
  | [] => 0
  | d :: r => uptoBulk d + uptoBulkAll r
def uptoBulkEntries {H : Type} : List (Lit × DataW H) → Nat
  | [] => 0
  | x :: r => uptoBulkEntry x + uptoBulkEntries r
def uptoBulkEntry {H : Type} : Lit × DataW H → Nat
  | (.string bytes, d) => bytes.length + uptoBulk d + 1
  | (_, d) => uptoBulk d + 1
 end
def uptoSmall : (H : Type) → List (DataW H) → Bool := fun _ ds => decide (uptoBulkAll ds ≤ 1048576)
def OpenSpec.upto (s : _root_.Go.ChangeSpec) : _root_.Go.OpenSpec := { _root_.Go.OpenSpec.ofChange s with cond := some uptoSmall }

/-- 'fringelaw08.ProjKeeps', WHERE WHAT IT READS IS OF BULK AT MOST 1048576: true; the input reads as it did. -/
def projKeepsUptoRow : OpenClaim := { program := "ytglifoijcdfjaaadoor", sum := "de7493686ab80368fa48f5400e9daa841a99ba5f2f16b8e694b69ca48ba8c63a", func := "fringe/fringelaw08.ProjKeeps", spec := "projKeeps", inPlace := ["math/bits.Add64", "math/bits.Sub64"], unfollowed := true, recurses := true, named := ["math/bits.divideError", "math/bits.overflowError", "fringe/vec.zero"], apart := false, laid := [("fringe/vec.zero", laid_fringe_vec_zero)], narrowed := true }
def ProjKeepsUptoSaid : Prop := projKeepsUptoRow.holds Tryd.pinned (OpenSpec.upto projKeepsSpec)

/-- 'fringelaw08.ProjNames', WHERE WHAT IT READS IS OF BULK AT MOST 1048576: true; the input reads as it did. -/
def projNamesUptoRow : OpenClaim := { program := "ytglifoijcdfjaaadoor", sum := "de7493686ab80368fa48f5400e9daa841a99ba5f2f16b8e694b69ca48ba8c63a", func := "fringe/fringelaw08.ProjNames", spec := "projNames", inPlace := ["math/bits.Add64", "math/bits.Sub64"], unfollowed := true, recurses := true, named := ["math/bits.divideError", "math/bits.overflowError", "fringe/vec.zero"], apart := false, laid := [("fringe/vec.zero", laid_fringe_vec_zero)], narrowed := true }
def ProjNamesUptoSaid : Prop := projNamesUptoRow.holds Tryd.pinned (OpenSpec.upto projNamesSpec)

end Rows
end Go.Proofs.YtglifoijcdfjaaaDoor
