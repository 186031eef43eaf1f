/-
  No cell of these rows narrows 'for every input' (looked for: loops, veiled, ifaces, maps, wideKeys, modest, calm, conditions, laid).
  DERIVED. THE GIVEN ROWS OF THIS SEAT. 2 by the template 'for every input the law returns true; each argument reads behind the call as it read before'; 0 by the template 'total and deterministic' (their statements: YtifoghbobjlcfaaTotals.lean).
  GIVEN WITH THE SEED: the statements are not yours to turn. If you find one false, say at which input.
  Laid BY PROGRAM, IN A SANDBOX (cutbox-rows.mjs): the forced cells as the released guide's own fill.sh prints them over the translation b0cd9932227db4f4… (all of the seat's roots in one cut). By AI agents, Wed Nov 11 2026. No macro, syntax, notation, axiom, sorry.
-/
import Derived.Test.YtifoghbobjlcfaaChecked
import GoSem.Claim
import GoSem.ClaimJoined
import GoSem.ClaimMapViews
import Derived.JoinedTies
import Derived.KernelRfl
namespace Go.Proofs.Ytifoghbobjlcfaa
/- THE CELL 'sum', in the pinned program and in every row, IS THE sha256 OF THE DUMP (.gsa) THAT YtifoghbobjlcfaaProg.lean LOADS. Nothing in Lean hashes anything: it is a label: what it is worth is what the hold of that sum in a sandbox is worth. -/
noncomputable def Try.pinned : Pinned := { name := "ytifoghbobjlcfaa", sum := "b0cd9932227db4f4385b9930a7266712d5ed365a0cdf6d48e0af7da4a7855d44", checked := Try.checked }
namespace Rows
def none {H : Type} : Left H := { results := [], args := [] }

/-- 'fringelaw09.DelayNames': WHATEVER THE INPUT: true; the input reads as it did. -/
def delayNamesSpec : ChangeSpec := { name := "delayNames", fn := fun _ => fun
  | [] => { results := [.lit (.bool true)], args := [] }
  | _ => none }
def delayNamesRow : OpenClaim := { program := "ytifoghbobjlcfaa", sum := "b0cd9932227db4f4385b9930a7266712d5ed365a0cdf6d48e0af7da4a7855d44", func := "fringe/fringelaw09.DelayNames", spec := "delayNames", inPlace := ["math/bits.Add64", "math/bits.Sub64"], unfollowed := true, recurses := true, named := ["math/bits.divideError", "math/bits.overflowError"], apart := false }
def DelayNamesSaid : Prop := delayNamesRow.holds Try.pinned (OpenSpec.ofChange delayNamesSpec)

/-- ITS FALSE NEIGHBOUR: 'it returns false'. Refute it at one input. -/
def delayNamesWrong : ChangeSpec := { name := "delayNames", fn := fun _ => fun
  | [] => { results := [.lit (.bool false)], args := [] }
  | _ => none }
def DelayNamesWrongFalsely : Prop := delayNamesRow.holds Try.pinned (OpenSpec.ofChange delayNamesWrong)

/-- 'fringelaw09.DelayParts': WHATEVER THE INPUT: true; the input reads as it did. -/
def delayPartsSpec : ChangeSpec := { name := "delayParts", fn := fun _ => fun
  | [d1, d2] => { results := [.lit (.bool true)], args := [d1, d2] }
  | _ => none }
def delayPartsRow : OpenClaim := { program := "ytifoghbobjlcfaa", sum := "b0cd9932227db4f4385b9930a7266712d5ed365a0cdf6d48e0af7da4a7855d44", func := "fringe/fringelaw09.DelayParts", spec := "delayParts", inPlace := ["math/bits.Add64", "math/bits.Sub64"], unfollowed := true, recurses := true, named := ["math/bits.divideError", "math/bits.overflowError"], apart := false }
def DelayPartsSaid : Prop := delayPartsRow.holds Try.pinned (OpenSpec.ofChange delayPartsSpec)

/-- ITS FALSE NEIGHBOUR: 'it returns false'. Refute it at one input. -/
def delayPartsWrong : ChangeSpec := { name := "delayParts", fn := fun _ => fun
  | [d1, d2] => { results := [.lit (.bool false)], args := [d1, d2] }
  | _ => none }
def DelayPartsWrongFalsely : Prop := delayPartsRow.holds Try.pinned (OpenSpec.ofChange delayPartsWrong)

/- THE SECOND FORM. 'bulk': how many values and letters a reading holds, each counted each time it is reached (what is shared counts as often as it is met; a slice's spare places count too). A statement '..UptoSaid' is the law's where the arguments, and the package variables that the reading takes, are together of bulk at most 1048576: NARROWER than '..Said'. Prove '..Said' where nothing that the law and all that it calls make is longer than what came in: it says more and counts as full. Else prove '..UptoSaid'. A law counts once. -/
mutual
def uptoBulk {H : Type} : DataW H → Nat
  | .lit (.string bytes) => bytes.length + 1
  | .lit _ => 1
  | .nil => 1
  | .ptr d => uptoBulk d + 1
  | .slice elems spare => uptoBulkAll elems + uptoBulkAll spare + 1
  | .agg parts => uptoBulkAll parts + 1
  | .iface _ d => uptoBulk d + 1
  | .map entries => uptoBulkEntries entries + 1
  | .held _ => 1
def uptoBulkAll {H : Type} : List (DataW H) → Nat
  | [] => 0
  | d :: r => uptoBulk d + uptoBulkAll r
def uptoBulkEntries {H : Type} : List (Lit × DataW H) → Nat
  | [] => 0
  | x :: r => uptoBulkEntry x + uptoBulkEntries r
def uptoBulkEntry {H : Type} : Lit × DataW H → Nat
  | (.string bytes, d) => bytes.length + uptoBulk d + 1
  | (_, d) => uptoBulk d + 1
 end
def uptoSmall : (H : Type) → List (DataW H) → Bool := fun _ ds => decide (uptoBulkAll ds ≤ 1048576)
def OpenSpec.upto (s : _root_.Go.ChangeSpec) : _root_.Go.OpenSpec := { _root_.Go.OpenSpec.ofChange s with cond := some uptoSmall }

/-- 'fringelaw09.DelayNames', WHERE WHAT IT READS IS OF BULK AT MOST 1048576: true; the input reads as it did. -/
def delayNamesUptoRow : OpenClaim := { program := "ytifoghbobjlcfaa", sum := "b0cd9932227db4f4385b9930a7266712d5ed365a0cdf6d48e0af7da4a7855d44", func := "fringe/fringelaw09.DelayNames", spec := "delayNames", inPlace := ["math/bits.Add64", "math/bits.Sub64"], unfollowed := true, recurses := true, named := ["math/bits.divideError", "math/bits.overflowError"], apart := false, narrowed := true }
def DelayNamesUptoSaid : Prop := delayNamesUptoRow.holds Try.pinned (OpenSpec.upto delayNamesSpec)

/-- 'fringelaw09.DelayParts', WHERE WHAT IT READS IS OF BULK AT MOST 1048576: true; the input reads as it did. -/
def delayPartsUptoRow : OpenClaim := { program := "ytifoghbobjlcfaa", sum := "b0cd9932227db4f4385b9930a7266712d5ed365a0cdf6d48e0af7da4a7855d44", func := "fringe/fringelaw09.DelayParts", spec := "delayParts", inPlace := ["math/bits.Add64", "math/bits.Sub64"], unfollowed := true, recurses := true, named := ["math/bits.divideError", "math/bits.overflowError"], apart := false, narrowed := true }
def DelayPartsUptoSaid : Prop := delayPartsUptoRow.holds Try.pinned (OpenSpec.upto delayPartsSpec)

end Rows
end Go.Proofs.Ytifoghbobjlcfaa
