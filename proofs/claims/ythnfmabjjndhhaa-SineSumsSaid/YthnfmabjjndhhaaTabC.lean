/-
  The test of the sines of fractions of a quarter, for some denominators.
-/
import Derived.Test.YthnfmabjjndhhaaSinNat
namespace Go.Ev
set_option maxRecDepth 100000

theorem rows8 : rowsC 510 31 = true := by decide +kernel

theorem rows9 : rowsC 541 29 = true := by decide +kernel

theorem rows10 : rowsC 570 28 = true := by decide +kernel

theorem rows11 : rowsC 598 27 = true := by decide +kernel

end Go.Ev
