/-
  The table of contracts begins: equality of plain structs, functions without a body. No condition.
-/
import Derived.Test.YtdmmnpgkidghnaaPlain
import Derived.Test.YtdmmnpgkidghnaaRows
import Derived.WalkKit
import Derived.Laws.Externs
namespace Go.Ev
open Go Go.Proofs

theorem eq53 : EqOK Try.prog 53 := EqOK.ofShape (d := 12) (z := [.int .i64 0, .int .i64 0]) (by kernel_rfl) (by kernel_rfl) (by omega) (by kernel_rfl) (by kernel_rfl)

def EQT : Tab := ⟨[53], fun t => bif Nat.beq t 53 then some .win else bif Nat.beq t 25 then some .delay else bif Nat.beq t 4 then some .bool else none, fun t => bif Nat.beq t 53 then some .win else none⟩

theorem hEQT : ∀ t, t ∈ EQT.eq → EqOK Try.prog t := by
  intro t ht
  simp only [EQT, List.mem_cons, List.not_mem_nil, or_false] at ht
  subst ht
  exact eq53

theorem hmT : Try.prog.follows .mixedOrders = true := by kernel_rfl

def XT : Nat → List AV → (AV → Ans) → Ans := fun _ _ _ => none

theorem hXT : ∀ f xs K r, XT f xs K = some r → ∃ v, ExtA Try.prog f xs v ∧ K v = some r := fun _ _ _ _ h => by cases h

def GT : Nat → Option (List D) := fun _ => none
def gbT : Nat := 0
def T0 : Nat → List AV → List Blk → (AV → List Blk → Ans) → Ans := fun _ _ _ _ => none
theorem g0 : GOK Try.prog GT gbT T0 XT := GOK.none hXT

end Go.Ev
