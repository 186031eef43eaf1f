/-
  NARROWER THAN 'FOR EVERY INPUT', by the rows' own cells (each row's printed sentence says how): RiseTogether: laid · RiseAll: laid · RiseStates: laid · RiseSure: laid · RiseOpposite: laid.
  DERIVED. THE GIVEN ROWS OF THIS SEAT. 5 by the template 'for every input the law returns true; each argument reads behind the call as it read before'; 0 by the template 'total and deterministic' (their statements: YtdmmflpneemmoaaGreatDoorTotals.lean).
  GIVEN WITH THE SEED: the statements are not yours to turn. If you find one false, say at which input.
  Laid BY PROGRAM, IN A SANDBOX (cutbox-rows.mjs): the forced cells as the released guide's own fill.sh prints them over the translation 1df3950d1f456e4a… (all of the seat's roots in one cut). By AI agents, Wed Nov 11 2026. No macro, syntax, notation, axiom, sorry.
-/
import Derived.Test.YtdmmflpneemmoaaGreatDoorChecked
import GoSem.Claim
import GoSem.ClaimJoined
import GoSem.ClaimMapViews
import Derived.JoinedTies
import Derived.KernelRfl
namespace Go.Proofs.YtdmmflpneemmoaaGreatDoor
/- THE CELL 'sum', in the pinned program and in every row, IS THE sha256 OF THE DUMP (.gsa) THAT YtdmmflpneemmoaaGreatDoorProg.lean LOADS. Nothing in Lean hashes anything: it is a label: what it is worth is what the hold of that sum in a sandbox is worth. -/
noncomputable def Tryz.pinned : Pinned := { name := "ytdmmflpneemmoaagreatdoor", sum := "1df3950d1f456e4a4fbdca50569f1e10f8259d344ea654b331424bc1a1076bfa", checked := Tryz.checked }
namespace Rows
def none {H : Type} : Left H := { results := [], args := [] }

/- WHAT THE LISTED PACKAGE-LEVEL VARIABLES READ AS WHEN THE CALL BEGINS. Each datum BY PROGRAM (the guide's laid-datum.mjs) off the statement by which the dump's own 'gosem.cut.vars' lays the variable. In a bare row this is a premise. The card (YtdmmflpneemmoaaGreatDoorCards.lean) ties it to the program's text. -/
def laid_fringe_vec_zero {H : Type} : DataW H := .agg [.lit (.int .i64 0), .lit (.int .i64 1)]

/-- 'fringelaw07.RiseTogether': WHATEVER THE INPUT: true; the input reads as it did. -/
def riseTogetherSpec : ChangeSpec := { name := "riseTogether", fn := fun _ => fun
  | [d1, d2, d3, d4, d5, d6, d7] => { results := [.lit (.bool true)], args := [d1, d2, d3, d4, d5, d6, d7] }
  | _ => none }
def riseTogetherRow : OpenClaim := { program := "ytdmmflpneemmoaagreatdoor", sum := "1df3950d1f456e4a4fbdca50569f1e10f8259d344ea654b331424bc1a1076bfa", func := "fringe/fringelaw07.RiseTogether", spec := "riseTogether", inPlace := ["math/bits.Add64", "math/bits.Sub64"], unfollowed := true, recurses := true, named := ["fringe/vec.zero", "math/bits.divideError", "math/bits.overflowError"], apart := false, laid := [("fringe/vec.zero", laid_fringe_vec_zero)] }
def RiseTogetherSaid : Prop := riseTogetherRow.holds Tryz.pinned (OpenSpec.ofChange riseTogetherSpec)

/-- ITS FALSE NEIGHBOUR: 'it returns false'. Refute it at one input. -/
def riseTogetherWrong : ChangeSpec := { name := "riseTogether", fn := fun _ => fun
  | [d1, d2, d3, d4, d5, d6, d7] => { results := [.lit (.bool false)], args := [d1, d2, d3, d4, d5, d6, d7] }
  | _ => none }
def RiseTogetherWrongFalsely : Prop := riseTogetherRow.holds Tryz.pinned (OpenSpec.ofChange riseTogetherWrong)

/-- 'fringelaw07.RiseAll': WHATEVER THE INPUT: true; the input reads as it did. -/
def riseAllSpec : ChangeSpec := { name := "riseAll", fn := fun _ => fun
  | [d1, d2, d3, d4, d5, d6] => { results := [.lit (.bool true)], args := [d1, d2, d3, d4, d5, d6] }
  | _ => none }
def riseAllRow : OpenClaim := { program := "ytdmmflpneemmoaagreatdoor", sum := "1df3950d1f456e4a4fbdca50569f1e10f8259d344ea654b331424bc1a1076bfa", func := "fringe/fringelaw07.RiseAll", spec := "riseAll", inPlace := ["math/bits.Add64", "math/bits.Sub64"], unfollowed := true, recurses := true, named := ["fringe/vec.zero", "math/bits.divideError", "math/bits.overflowError"], apart := false, laid := [("fringe/vec.zero", laid_fringe_vec_zero)] }
def RiseAllSaid : Prop := riseAllRow.holds Tryz.pinned (OpenSpec.ofChange riseAllSpec)

/-- ITS FALSE NEIGHBOUR: 'it returns false'. Refute it at one input. -/
def riseAllWrong : ChangeSpec := { name := "riseAll", fn := fun _ => fun
  | [d1, d2, d3, d4, d5, d6] => { results := [.lit (.bool false)], args := [d1, d2, d3, d4, d5, d6] }
  | _ => none }
def RiseAllWrongFalsely : Prop := riseAllRow.holds Tryz.pinned (OpenSpec.ofChange riseAllWrong)

/-- 'fringelaw07.RiseStates': WHATEVER THE INPUT: true; the input reads as it did. -/
def riseStatesSpec : ChangeSpec := { name := "riseStates", fn := fun _ => fun
  | [d1, d2, d3, d4, d5, d6] => { results := [.lit (.bool true)], args := [d1, d2, d3, d4, d5, d6] }
  | _ => none }
def riseStatesRow : OpenClaim := { program := "ytdmmflpneemmoaagreatdoor", sum := "1df3950d1f456e4a4fbdca50569f1e10f8259d344ea654b331424bc1a1076bfa", func := "fringe/fringelaw07.RiseStates", spec := "riseStates", inPlace := ["math/bits.Add64", "math/bits.Sub64"], unfollowed := true, recurses := true, named := ["math/bits.divideError", "math/bits.overflowError", "fringe/vec.zero"], apart := false, laid := [("fringe/vec.zero", laid_fringe_vec_zero)] }
def RiseStatesSaid : Prop := riseStatesRow.holds Tryz.pinned (OpenSpec.ofChange riseStatesSpec)

/-- ITS FALSE NEIGHBOUR: 'it returns false'. Refute it at one input. -/
def riseStatesWrong : ChangeSpec := { name := "riseStates", fn := fun _ => fun
  | [d1, d2, d3, d4, d5, d6] => { results := [.lit (.bool false)], args := [d1, d2, d3, d4, d5, d6] }
  | _ => none }
def RiseStatesWrongFalsely : Prop := riseStatesRow.holds Tryz.pinned (OpenSpec.ofChange riseStatesWrong)

/-- 'fringelaw07.RiseSure': WHATEVER THE INPUT: true; the input reads as it did. -/
def riseSureSpec : ChangeSpec := { name := "riseSure", fn := fun _ => fun
  | [d1, d2, d3, d4, d5, d6] => { results := [.lit (.bool true)], args := [d1, d2, d3, d4, d5, d6] }
  | _ => none }
def riseSureRow : OpenClaim := { program := "ytdmmflpneemmoaagreatdoor", sum := "1df3950d1f456e4a4fbdca50569f1e10f8259d344ea654b331424bc1a1076bfa", func := "fringe/fringelaw07.RiseSure", spec := "riseSure", inPlace := ["math/bits.Add64", "math/bits.Sub64"], unfollowed := true, recurses := true, named := ["fringe/vec.zero", "math/bits.divideError", "math/bits.overflowError"], apart := false, laid := [("fringe/vec.zero", laid_fringe_vec_zero)] }
def RiseSureSaid : Prop := riseSureRow.holds Tryz.pinned (OpenSpec.ofChange riseSureSpec)

/-- ITS FALSE NEIGHBOUR: 'it returns false'. Refute it at one input. -/
def riseSureWrong : ChangeSpec := { name := "riseSure", fn := fun _ => fun
  | [d1, d2, d3, d4, d5, d6] => { results := [.lit (.bool false)], args := [d1, d2, d3, d4, d5, d6] }
  | _ => none }
def RiseSureWrongFalsely : Prop := riseSureRow.holds Tryz.pinned (OpenSpec.ofChange riseSureWrong)

/-- 'fringelaw07.RiseOpposite': WHATEVER THE INPUT: true; the input reads as it did. -/
def riseOppositeSpec : ChangeSpec := { name := "riseOpposite", fn := fun _ => fun
  | [d1, d2, d3, d4, d5, d6] => { results := [.lit (.bool true)], args := [d1, d2, d3, d4, d5, d6] }
  | _ => none }
def riseOppositeRow : OpenClaim := { program := "ytdmmflpneemmoaagreatdoor", sum := "1df3950d1f456e4a4fbdca50569f1e10f8259d344ea654b331424bc1a1076bfa", func := "fringe/fringelaw07.RiseOpposite", spec := "riseOpposite", inPlace := ["math/bits.Add64", "math/bits.Sub64"], unfollowed := true, recurses := true, named := ["fringe/vec.zero", "math/bits.divideError", "math/bits.overflowError"], apart := false, laid := [("fringe/vec.zero", laid_fringe_vec_zero)] }
def RiseOppositeSaid : Prop := riseOppositeRow.holds Tryz.pinned (OpenSpec.ofChange riseOppositeSpec)

/-- ITS FALSE NEIGHBOUR: 'it returns false'. Refute it at one input. -/
def riseOppositeWrong : ChangeSpec := { name := "riseOpposite", fn := fun _ => fun
  | [d1, d2, d3, d4, d5, d6] => { results := [.lit (.bool false)], args := [d1, d2, d3, d4, d5, d6] }
  | _ => none }
def RiseOppositeWrongFalsely : Prop := riseOppositeRow.holds Tryz.pinned (OpenSpec.ofChange riseOppositeWrong)

/- THE SECOND FORM. 'bulk': how many values and letters a reading holds, each counted each time it is reached (what is shared counts as often as it is met; a slice's spare places count too). A statement '..UptoSaid' is the law's where the arguments, and the package variables that the reading takes, are together of bulk at most 1048576: NARROWER than '..Said'. Prove '..Said' where nothing that the law and all that it calls make is longer than what came in: it says more and counts as full. Else prove '..UptoSaid'. A law counts once. -/
mutual
def uptoBulk {H : Type} : DataW H → Nat
  | .lit (.string bytes) => bytes.length + 1
  | .lit _ => 1
  | .nil => 1
  | .ptr d => uptoBulk d + 1
  | .slice elems spare => uptoBulkAll elems + uptoBulkAll spare + 1
  | .agg parts => uptoBulkAll parts + 1
  | .iface _ d => uptoBulk d + 1
  | .map entries => uptoBulkEntries entries + 1
  | .held _ => 1
def uptoBulkAll {H : Type} : List (DataW H) → Nat
  | [] => 0
  | d :: r => uptoBulk d + uptoBulkAll r
def uptoBulkEntries {H : Type} : List (Lit × DataW H) → Nat
  | [] => 0
  | x :: r => uptoBulkEntry x + uptoBulkEntries r
def uptoBulkEntry {H : Type} : Lit × DataW H → Nat
  | (.string bytes, d) => bytes.length + uptoBulk d + 1
  | (_, d) => uptoBulk d + 1
 end
def uptoSmall : (H : Type) → List (DataW H) → Bool := fun _ ds => decide (uptoBulkAll ds ≤ 1048576)
def OpenSpec.upto (s : _root_.Go.ChangeSpec) : _root_.Go.OpenSpec := { _root_.Go.OpenSpec.ofChange s with cond := some uptoSmall }

/-- 'fringelaw07.RiseTogether', WHERE WHAT IT READS IS OF BULK AT MOST 1048576: true; the input reads as it did. -/
def riseTogetherUptoRow : OpenClaim := { program := "ytdmmflpneemmoaagreatdoor", sum := "1df3950d1f456e4a4fbdca50569f1e10f8259d344ea654b331424bc1a1076bfa", func := "fringe/fringelaw07.RiseTogether", spec := "riseTogether", inPlace := ["math/bits.Add64", "math/bits.Sub64"], unfollowed := true, recurses := true, named := ["fringe/vec.zero", "math/bits.divideError", "math/bits.overflowError"], apart := false, laid := [("fringe/vec.zero", laid_fringe_vec_zero)], narrowed := true }
def RiseTogetherUptoSaid : Prop := riseTogetherUptoRow.holds Tryz.pinned (OpenSpec.upto riseTogetherSpec)

/-- 'fringelaw07.RiseAll', WHERE WHAT IT READS IS OF BULK AT MOST 1048576: true; the input reads as it did. -/
def riseAllUptoRow : OpenClaim := { program := "ytdmmflpneemmoaagreatdoor", sum := "1df3950d1f456e4a4fbdca50569f1e10f8259d344ea654b331424bc1a1076bfa", func := "fringe/fringelaw07.RiseAll", spec := "riseAll", inPlace := ["math/bits.Add64", "math/bits.Sub64"], unfollowed := true, recurses := true, named := ["fringe/vec.zero", "math/bits.divideError", "math/bits.overflowError"], apart := false, laid := [("fringe/vec.zero", laid_fringe_vec_zero)], narrowed := true }
def RiseAllUptoSaid : Prop := riseAllUptoRow.holds Tryz.pinned (OpenSpec.upto riseAllSpec)

/-- 'fringelaw07.RiseStates', WHERE WHAT IT READS IS OF BULK AT MOST 1048576: true; the input reads as it did. -/
def riseStatesUptoRow : OpenClaim := { program := "ytdmmflpneemmoaagreatdoor", sum := "1df3950d1f456e4a4fbdca50569f1e10f8259d344ea654b331424bc1a1076bfa", func := "fringe/fringelaw07.RiseStates", spec := "riseStates", inPlace := ["math/bits.Add64", "math/bits.Sub64"], unfollowed := true, recurses := true, named := ["math/bits.divideError", "math/bits.overflowError", "fringe/vec.zero"], apart := false, laid := [("fringe/vec.zero", laid_fringe_vec_zero)], narrowed := true }
def RiseStatesUptoSaid : Prop := riseStatesUptoRow.holds Tryz.pinned (OpenSpec.upto riseStatesSpec)

/-- 'fringelaw07.RiseSure', WHERE WHAT IT READS IS OF BULK AT MOST 1048576: true; the input reads as it did. -/
def riseSureUptoRow : OpenClaim := { program := "ytdmmflpneemmoaagreatdoor", sum := "1df3950d1f456e4a4fbdca50569f1e10f8259d344ea654b331424bc1a1076bfa", func := "fringe/fringelaw07.RiseSure", spec := "riseSure", inPlace := ["math/bits.Add64", "math/bits.Sub64"], unfollowed := true, recurses := true, named := ["fringe/vec.zero", "math/bits.divideError", "math/bits.overflowError"], apart := false, laid := [("fringe/vec.zero", laid_fringe_vec_zero)], narrowed := true }
def RiseSureUptoSaid : Prop := riseSureUptoRow.holds Tryz.pinned (OpenSpec.upto riseSureSpec)

/-- 'fringelaw07.RiseOpposite', WHERE WHAT IT READS IS OF BULK AT MOST 1048576: true; the input reads as it did. -/
def riseOppositeUptoRow : OpenClaim := { program := "ytdmmflpneemmoaagreatdoor", sum := "1df3950d1f456e4a4fbdca50569f1e10f8259d344ea654b331424bc1a1076bfa", func := "fringe/fringelaw07.RiseOpposite", spec := "riseOpposite", inPlace := ["math/bits.Add64", "math/bits.Sub64"], unfollowed := true, recurses := true, named := ["fringe/vec.zero", "math/bits.divideError", "math/bits.overflowError"], apart := false, laid := [("fringe/vec.zero", laid_fringe_vec_zero)], narrowed := true }
def RiseOppositeUptoSaid : Prop := riseOppositeUptoRow.holds Tryz.pinned (OpenSpec.upto riseOppositeSpec)

end Rows
end Go.Proofs.YtdmmflpneemmoaaGreatDoor
