/-
  The test of the sines of fractions of a quarter, for some denominators.
-/
import Derived.Test.YthnfmabjjndhhaaSinNat
namespace Go.Ev
set_option maxRecDepth 100000

theorem rows12 : rowsC 625 25 = true := by decide +kernel

theorem rows13 : rowsC 650 24 = true := by decide +kernel

theorem rows14 : rowsC 674 24 = true := by decide +kernel

theorem rows15 : rowsC 698 23 = true := by decide +kernel

end Go.Ev
