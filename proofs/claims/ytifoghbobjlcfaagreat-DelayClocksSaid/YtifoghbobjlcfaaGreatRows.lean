/-
  No cell of these rows narrows 'for every input' (looked for: loops, veiled, ifaces, maps, wideKeys, modest, calm, conditions, laid).
  DERIVED. THE GIVEN ROWS OF THIS SEAT. 3 by the template 'for every input the law returns true; each argument reads behind the call as it read before'; 0 by the template 'total and deterministic' (their statements: YtifoghbobjlcfaaGreatTotals.lean).
  GIVEN WITH THE SEED: the statements are not yours to turn. If you find one false, say at which input.
  Laid BY PROGRAM, IN A SANDBOX (cutbox-rows.mjs): the forced cells as the released guide's own fill.sh prints them over the translation 9a073321914c6e0d… (all of the seat's roots in one cut). By AI agents, Wed Nov 11 2026. No macro, syntax, notation, axiom, sorry.
-/
import Derived.Test.YtifoghbobjlcfaaGreatChecked
import GoSem.Claim
import GoSem.ClaimJoined
import GoSem.ClaimMapViews
import Derived.JoinedTies
import Derived.KernelRfl
namespace Go.Proofs.YtifoghbobjlcfaaGreat
/- THE CELL 'sum', in the pinned program and in every row, IS THE sha256 OF THE DUMP (.gsa) THAT YtifoghbobjlcfaaGreatProg.lean LOADS. Nothing in Lean hashes anything: it is a label: what it is worth is what the hold of that sum in a sandbox is worth. -/
noncomputable def Tryz.pinned : Pinned := { name := "ytifoghbobjlcfaagreat", sum := "9a073321914c6e0de8bffe43c0a42d3eeec9b6eb4dd8b0853ef574a9105a6182", checked := Tryz.checked }
namespace Rows
def none {H : Type} : Left H := { results := [], args := [] }

/-- 'fringelaw09.DelayMakes': WHATEVER THE INPUT: true; the input reads as it did. -/
def delayMakesSpec : ChangeSpec := { name := "delayMakes", fn := fun _ => fun
  | [d1, d2, d3, d4, d5, d6, d7, d8] => { results := [.lit (.bool true)], args := [d1, d2, d3, d4, d5, d6, d7, d8] }
  | _ => none }
def delayMakesRow : OpenClaim := { program := "ytifoghbobjlcfaagreat", sum := "9a073321914c6e0de8bffe43c0a42d3eeec9b6eb4dd8b0853ef574a9105a6182", func := "fringe/fringelaw09.DelayMakes", spec := "delayMakes", inPlace := ["math/bits.Add64", "math/bits.Sub64"], unfollowed := true, recurses := true, named := ["math/bits.divideError", "math/bits.overflowError"], apart := false }
def DelayMakesSaid : Prop := delayMakesRow.holds Tryz.pinned (OpenSpec.ofChange delayMakesSpec)

/-- ITS FALSE NEIGHBOUR: 'it returns false'. Refute it at one input. -/
def delayMakesWrong : ChangeSpec := { name := "delayMakes", fn := fun _ => fun
  | [d1, d2, d3, d4, d5, d6, d7, d8] => { results := [.lit (.bool false)], args := [d1, d2, d3, d4, d5, d6, d7, d8] }
  | _ => none }
def DelayMakesWrongFalsely : Prop := delayMakesRow.holds Tryz.pinned (OpenSpec.ofChange delayMakesWrong)

/-- 'fringelaw09.DelayCloses': WHATEVER THE INPUT: true; the input reads as it did. -/
def delayClosesSpec : ChangeSpec := { name := "delayCloses", fn := fun _ => fun
  | [d1, d2, d3, d4, d5, d6, d7, d8] => { results := [.lit (.bool true)], args := [d1, d2, d3, d4, d5, d6, d7, d8] }
  | _ => none }
def delayClosesRow : OpenClaim := { program := "ytifoghbobjlcfaagreat", sum := "9a073321914c6e0de8bffe43c0a42d3eeec9b6eb4dd8b0853ef574a9105a6182", func := "fringe/fringelaw09.DelayCloses", spec := "delayCloses", inPlace := ["math/bits.Add64", "math/bits.Sub64"], unfollowed := true, recurses := true, named := ["math/bits.divideError", "math/bits.overflowError"], apart := false }
def DelayClosesSaid : Prop := delayClosesRow.holds Tryz.pinned (OpenSpec.ofChange delayClosesSpec)

/-- ITS FALSE NEIGHBOUR: 'it returns false'. Refute it at one input. -/
def delayClosesWrong : ChangeSpec := { name := "delayCloses", fn := fun _ => fun
  | [d1, d2, d3, d4, d5, d6, d7, d8] => { results := [.lit (.bool false)], args := [d1, d2, d3, d4, d5, d6, d7, d8] }
  | _ => none }
def DelayClosesWrongFalsely : Prop := delayClosesRow.holds Tryz.pinned (OpenSpec.ofChange delayClosesWrong)

/-- 'fringelaw09.DelayClocks': WHATEVER THE INPUT: true; the input reads as it did. -/
def delayClocksSpec : ChangeSpec := { name := "delayClocks", fn := fun _ => fun
  | [d1, d2, d3, d4, d5, d6, d7] => { results := [.lit (.bool true)], args := [d1, d2, d3, d4, d5, d6, d7] }
  | _ => none }
def delayClocksRow : OpenClaim := { program := "ytifoghbobjlcfaagreat", sum := "9a073321914c6e0de8bffe43c0a42d3eeec9b6eb4dd8b0853ef574a9105a6182", func := "fringe/fringelaw09.DelayClocks", spec := "delayClocks", inPlace := ["math/bits.Add64", "math/bits.Sub64"], unfollowed := true, recurses := true, named := ["math/bits.divideError", "math/bits.overflowError"], apart := false }
def DelayClocksSaid : Prop := delayClocksRow.holds Tryz.pinned (OpenSpec.ofChange delayClocksSpec)

/-- ITS FALSE NEIGHBOUR: 'it returns false'. Refute it at one input. -/
def delayClocksWrong : ChangeSpec := { name := "delayClocks", fn := fun _ => fun
  | [d1, d2, d3, d4, d5, d6, d7] => { results := [.lit (.bool false)], args := [d1, d2, d3, d4, d5, d6, d7] }
  | _ => none }
def DelayClocksWrongFalsely : Prop := delayClocksRow.holds Tryz.pinned (OpenSpec.ofChange delayClocksWrong)

/- THE SECOND FORM. 'bulk': how many values and letters a reading holds, each counted each time it is reached (what is shared counts as often as it is met; a slice's spare places count too). A statement '..UptoSaid' is the law's where the arguments, and the package variables that the reading takes, are together of bulk at most 1048576: NARROWER than '..Said'. Prove '..Said' where nothing that the law and all that it calls make is longer than what came in: it says more and counts as full. Else prove '..UptoSaid'. A law counts once. -/
mutual
def uptoBulk {H : Type} : DataW H → Nat
  | .lit (.string bytes) => bytes.length + 1
  | .lit _ => 1
  | .nil => 1
  | .ptr d => uptoBulk d + 1
  | .slice elems spare => uptoBulkAll elems + uptoBulkAll spare + 1
  | .agg parts => uptoBulkAll parts + 1
  | .iface _ d => uptoBulk d + 1
  | .map entries => uptoBulkEntries entries + 1
  | .held _ => 1
def uptoBulkAll {H : Type} : List (DataW H) → Nat
  | [] => 0
  | d :: r => uptoBulk d + uptoBulkAll r
def uptoBulkEntries {H : Type} : List (Lit × DataW H) → Nat
  | [] => 0
  | x :: r => uptoBulkEntry x + uptoBulkEntries r
def uptoBulkEntry {H : Type} : Lit × DataW H → Nat
  | (.string bytes, d) => bytes.length + uptoBulk d + 1
  | (_, d) => uptoBulk d + 1
 end
def uptoSmall : (H : Type) → List (DataW H) → Bool := fun _ ds => decide (uptoBulkAll ds ≤ 1048576)
def OpenSpec.upto (s : _root_.Go.ChangeSpec) : _root_.Go.OpenSpec := { _root_.Go.OpenSpec.ofChange s with cond := some uptoSmall }

/-- 'fringelaw09.DelayMakes', WHERE WHAT IT READS IS OF BULK AT MOST 1048576: true; the input reads as it did. -/
def delayMakesUptoRow : OpenClaim := { program := "ytifoghbobjlcfaagreat", sum := "9a073321914c6e0de8bffe43c0a42d3eeec9b6eb4dd8b0853ef574a9105a6182", func := "fringe/fringelaw09.DelayMakes", spec := "delayMakes", inPlace := ["math/bits.Add64", "math/bits.Sub64"], unfollowed := true, recurses := true, named := ["math/bits.divideError", "math/bits.overflowError"], apart := false, narrowed := true }
def DelayMakesUptoSaid : Prop := delayMakesUptoRow.holds Tryz.pinned (OpenSpec.upto delayMakesSpec)

/-- 'fringelaw09.DelayCloses', WHERE WHAT IT READS IS OF BULK AT MOST 1048576: true; the input reads as it did. -/
def delayClosesUptoRow : OpenClaim := { program := "ytifoghbobjlcfaagreat", sum := "9a073321914c6e0de8bffe43c0a42d3eeec9b6eb4dd8b0853ef574a9105a6182", func := "fringe/fringelaw09.DelayCloses", spec := "delayCloses", inPlace := ["math/bits.Add64", "math/bits.Sub64"], unfollowed := true, recurses := true, named := ["math/bits.divideError", "math/bits.overflowError"], apart := false, narrowed := true }
def DelayClosesUptoSaid : Prop := delayClosesUptoRow.holds Tryz.pinned (OpenSpec.upto delayClosesSpec)

/-- 'fringelaw09.DelayClocks', WHERE WHAT IT READS IS OF BULK AT MOST 1048576: true; the input reads as it did. -/
def delayClocksUptoRow : OpenClaim := { program := "ytifoghbobjlcfaagreat", sum := "9a073321914c6e0de8bffe43c0a42d3eeec9b6eb4dd8b0853ef574a9105a6182", func := "fringe/fringelaw09.DelayClocks", spec := "delayClocks", inPlace := ["math/bits.Add64", "math/bits.Sub64"], unfollowed := true, recurses := true, named := ["math/bits.divideError", "math/bits.overflowError"], apart := false, narrowed := true }
def DelayClocksUptoSaid : Prop := delayClocksUptoRow.holds Tryz.pinned (OpenSpec.upto delayClocksSpec)

end Rows
end Go.Proofs.YtifoghbobjlcfaaGreat
