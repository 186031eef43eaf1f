/-
  The table of contracts begins: equality of plain structs, functions without a body. No condition.
-/
import Derived.Test.YtglifoijcdfjaaaProjM
import Derived.Test.YtglifoijcdfjaaaRows
import Derived.WalkKit
import Derived.Laws.Externs
namespace Go.Ev
open Go Go.Proofs

theorem eq27 : EqOK Try.prog 27 := EqOK.ofShape (d := 12) (z := [.int .i64 0, .int .i64 0]) (by kernel_rfl) (by kernel_rfl) (by omega) (by kernel_rfl) (by kernel_rfl)

theorem eq29 : EqOK Try.prog 29 := EqOK.ofShape (d := 12) (z := [.int .i64 0, .int .i64 0, .int .i64 0, .int .i64 0, .int .i64 0, .int .i64 0]) (by kernel_rfl) (by kernel_rfl) (by omega) (by kernel_rfl) (by kernel_rfl)

theorem eq31 : EqOK Try.prog 31 := EqOK.ofShape (d := 12) (z := [.int .i64 0, .int .i64 0, .int .i64 0, .int .i64 0, .int .i64 0, .int .i64 0, .int .i64 0, .int .i64 0, .int .i64 0, .int .i64 0, .int .i64 0, .int .i64 0, .int .i64 0, .int .i64 0, .int .i64 0, .int .i64 0, .int .i64 0, .int .i64 0]) (by kernel_rfl) (by kernel_rfl) (by omega) (by kernel_rfl) (by kernel_rfl)

theorem eq45 : EqOK Try.prog 45 := EqOK.ofShape (d := 12) (z := [.int .i64 0, .int .i64 0]) (by kernel_rfl) (by kernel_rfl) (by omega) (by kernel_rfl) (by kernel_rfl)

theorem eq47 : EqOK Try.prog 47 := EqOK.ofShape (d := 12) (z := [.int .i64 0, .int .i64 0, .int .i64 0, .int .i64 0, .int .i64 0, .int .i64 0]) (by kernel_rfl) (by kernel_rfl) (by omega) (by kernel_rfl) (by kernel_rfl)

theorem eq70 : EqOK Try.prog 70 := EqOK.ofShape (d := 12) (z := [.int .i64 0, .int .i64 0, .int .i64 0]) (by kernel_rfl) (by kernel_rfl) (by omega) (by kernel_rfl) (by kernel_rfl)

def EQT : List Nat := [27, 29, 31, 45, 47, 70]

theorem hEQT : ∀ t, t ∈ EQT → EqOK Try.prog t := by
  intro t ht
  simp only [EQT, List.mem_cons, List.not_mem_nil, or_false] at ht
  rcases ht with rfl | rfl | rfl | rfl | rfl | rfl
  · exact eq27
  · exact eq29
  · exact eq31
  · exact eq45
  · exact eq47
  · exact eq70

theorem hmT : Try.prog.follows .mixedOrders = true := by kernel_rfl

def XT : Nat → List AV → (AV → Ans) → Ans := fun _ _ _ => none

theorem hXT : ∀ f xs K r, XT f xs K = some r → ∃ v, ExtA Try.prog f xs v ∧ K v = some r := fun _ _ _ _ h => by cases h

def GT : Nat → Option (List D) := fun _ => none
def gbT : Nat := 0
def T0 : Nat → List AV → List Blk → (AV → List Blk → Ans) → Ans := fun _ _ _ _ => none
theorem g0 : GOK Try.prog GT gbT T0 XT := GOK.none hXT

end Go.Ev
