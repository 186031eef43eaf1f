/-
  The test of the sines of neighbouring fractions of a quarter, for some denominators.
-/
import Derived.Test.YthnfmabjjndhhaaSumNat
namespace Go.Ev
set_option maxRecDepth 100000

theorem sums12 : sumsC 625 25 = true := by decide +kernel

theorem sums13 : sumsC 650 24 = true := by decide +kernel

theorem sums14 : sumsC 674 24 = true := by decide +kernel

theorem sums15 : sumsC 698 23 = true := by decide +kernel

end Go.Ev
