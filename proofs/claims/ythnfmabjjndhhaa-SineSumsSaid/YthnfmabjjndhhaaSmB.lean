/-
  The test of the sines of neighbouring fractions of a quarter, for some denominators.
-/
import Derived.Test.YthnfmabjjndhhaaSumNat
namespace Go.Ev
set_option maxRecDepth 100000

theorem sums4 : sumsC 361 42 = true := by decide +kernel

theorem sums5 : sumsC 403 39 = true := by decide +kernel

theorem sums6 : sumsC 442 35 = true := by decide +kernel

theorem sums7 : sumsC 477 33 = true := by decide +kernel

end Go.Ev
