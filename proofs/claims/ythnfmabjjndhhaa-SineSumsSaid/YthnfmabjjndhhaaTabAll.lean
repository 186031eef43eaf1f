/-
  The sines of all fractions of a quarter: the program's and the reference's enclosures are the same, and the squares add up to 1. No program here.
-/
import Derived.Test.YthnfmabjjndhhaaSinTab
import Derived.Test.YthnfmabjjndhhaaTabA
import Derived.Test.YthnfmabjjndhhaaTabB
import Derived.Test.YthnfmabjjndhhaaTabC
import Derived.Test.YthnfmabjjndhhaaTabD
namespace Go.Ev
open Go

theorem rows_all (n : Nat) (h : 4 ≤ n) (h2 : n ≤ 720) : rowC n (n / 2) = true := by
  by_cases c0 : n < 181
  · exact rowsC_ok _ _ rows0 n (by omega) (by omega)
  by_cases c1 : n < 256
  · exact rowsC_ok _ _ rows1 n (by omega) (by omega)
  by_cases c2 : n < 313
  · exact rowsC_ok _ _ rows2 n (by omega) (by omega)
  by_cases c3 : n < 361
  · exact rowsC_ok _ _ rows3 n (by omega) (by omega)
  by_cases c4 : n < 403
  · exact rowsC_ok _ _ rows4 n (by omega) (by omega)
  by_cases c5 : n < 442
  · exact rowsC_ok _ _ rows5 n (by omega) (by omega)
  by_cases c6 : n < 477
  · exact rowsC_ok _ _ rows6 n (by omega) (by omega)
  by_cases c7 : n < 510
  · exact rowsC_ok _ _ rows7 n (by omega) (by omega)
  by_cases c8 : n < 541
  · exact rowsC_ok _ _ rows8 n (by omega) (by omega)
  by_cases c9 : n < 570
  · exact rowsC_ok _ _ rows9 n (by omega) (by omega)
  by_cases c10 : n < 598
  · exact rowsC_ok _ _ rows10 n (by omega) (by omega)
  by_cases c11 : n < 625
  · exact rowsC_ok _ _ rows11 n (by omega) (by omega)
  by_cases c12 : n < 650
  · exact rowsC_ok _ _ rows12 n (by omega) (by omega)
  by_cases c13 : n < 674
  · exact rowsC_ok _ _ rows13 n (by omega) (by omega)
  by_cases c14 : n < 698
  · exact rowsC_ok _ _ rows14 n (by omega) (by omega)
  by_cases c15 : n < 721
  · exact rowsC_ok _ _ rows15 n (by omega) (by omega)
  omega

end Go.Ev
