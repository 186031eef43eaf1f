/-
  The law SineTables as a plain function. No program here.
-/
import Derived.Test.YthnfmabjjndhhaaSinAll
namespace Go.Ev
open Go

def lawSineTables (k n : Int) : Bool :=
  bif eqAll (cosS k n).1.cells (cosR k n).1.cells then bif (cosS k n).2 == (cosR k n).2 then bif eqAll (sinS k n).1.cells (sinR k n).1.cells then (sinS k n).2 == (sinR k n).2 else false else false else false

theorem lawSineTables_ok (k n : Int) : lawSineTables k n = true := by
  unfold lawSineTables
  simp only [cosR_eq, sinR_eq, eqAll_self, beq_self_eq_true, cond_true]

end Go.Ev
