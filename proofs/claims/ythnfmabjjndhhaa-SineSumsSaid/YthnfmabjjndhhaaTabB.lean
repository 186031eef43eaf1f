/-
  The test of the sines of fractions of a quarter, for some denominators.
-/
import Derived.Test.YthnfmabjjndhhaaSinNat
namespace Go.Ev
set_option maxRecDepth 100000

theorem rows4 : rowsC 361 42 = true := by decide +kernel

theorem rows5 : rowsC 403 39 = true := by decide +kernel

theorem rows6 : rowsC 442 35 = true := by decide +kernel

theorem rows7 : rowsC 477 33 = true := by decide +kernel

end Go.Ev
