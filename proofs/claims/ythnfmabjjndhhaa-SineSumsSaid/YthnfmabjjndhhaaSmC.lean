/-
  The test of the sines of neighbouring fractions of a quarter, for some denominators.
-/
import Derived.Test.YthnfmabjjndhhaaSumNat
namespace Go.Ev
set_option maxRecDepth 100000

theorem sums8 : sumsC 510 31 = true := by decide +kernel

theorem sums9 : sumsC 541 29 = true := by decide +kernel

theorem sums10 : sumsC 570 28 = true := by decide +kernel

theorem sums11 : sumsC 598 27 = true := by decide +kernel

end Go.Ev
