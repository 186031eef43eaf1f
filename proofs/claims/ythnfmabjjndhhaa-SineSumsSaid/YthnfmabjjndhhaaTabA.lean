/-
  The test of the sines of fractions of a quarter, for some denominators.
-/
import Derived.Test.YthnfmabjjndhhaaSinNat
namespace Go.Ev
set_option maxRecDepth 100000

theorem rows0 : rowsC 4 177 = true := by decide +kernel

theorem rows1 : rowsC 181 75 = true := by decide +kernel

theorem rows2 : rowsC 256 57 = true := by decide +kernel

theorem rows3 : rowsC 313 48 = true := by decide +kernel

end Go.Ev
