/-
  The test of the sines of neighbouring fractions of a quarter, for some denominators.
-/
import Derived.Test.YthnfmabjjndhhaaSumNat
namespace Go.Ev
set_option maxRecDepth 100000

theorem sums0 : sumsC 1 180 = true := by decide +kernel

theorem sums1 : sumsC 181 75 = true := by decide +kernel

theorem sums2 : sumsC 256 57 = true := by decide +kernel

theorem sums3 : sumsC 313 48 = true := by decide +kernel

theorem pows : powsC 720 = true := by decide +kernel

end Go.Ev
