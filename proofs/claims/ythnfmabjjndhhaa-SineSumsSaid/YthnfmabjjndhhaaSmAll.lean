/-
  The theorem of sums for all parts of a turn, up to small errors. No program here.
-/
import Derived.Test.YthnfmabjjndhhaaSumAll
import Derived.Test.YthnfmabjjndhhaaSmA
import Derived.Test.YthnfmabjjndhhaaSmB
import Derived.Test.YthnfmabjjndhhaaSmC
import Derived.Test.YthnfmabjjndhhaaSmD
namespace Go.Ev
open Go

theorem sums_all (n : Nat) (h : 1 ≤ n) (h2 : n ≤ 720) : sumC n = true := by
  by_cases c0 : n < 181
  · exact sumsC_ok _ _ sums0 n (by omega) (by omega)
  by_cases c1 : n < 256
  · exact sumsC_ok _ _ sums1 n (by omega) (by omega)
  by_cases c2 : n < 313
  · exact sumsC_ok _ _ sums2 n (by omega) (by omega)
  by_cases c3 : n < 361
  · exact sumsC_ok _ _ sums3 n (by omega) (by omega)
  by_cases c4 : n < 403
  · exact sumsC_ok _ _ sums4 n (by omega) (by omega)
  by_cases c5 : n < 442
  · exact sumsC_ok _ _ sums5 n (by omega) (by omega)
  by_cases c6 : n < 477
  · exact sumsC_ok _ _ sums6 n (by omega) (by omega)
  by_cases c7 : n < 510
  · exact sumsC_ok _ _ sums7 n (by omega) (by omega)
  by_cases c8 : n < 541
  · exact sumsC_ok _ _ sums8 n (by omega) (by omega)
  by_cases c9 : n < 570
  · exact sumsC_ok _ _ sums9 n (by omega) (by omega)
  by_cases c10 : n < 598
  · exact sumsC_ok _ _ sums10 n (by omega) (by omega)
  by_cases c11 : n < 625
  · exact sumsC_ok _ _ sums11 n (by omega) (by omega)
  by_cases c12 : n < 650
  · exact sumsC_ok _ _ sums12 n (by omega) (by omega)
  by_cases c13 : n < 674
  · exact sumsC_ok _ _ sums13 n (by omega) (by omega)
  by_cases c14 : n < 698
  · exact sumsC_ok _ _ sums14 n (by omega) (by omega)
  by_cases c15 : n < 721
  · exact sumsC_ok _ _ sums15 n (by omega) (by omega)
  omega

/-- The theorem of sums. -/
theorem sum_all {n : Int} (hn : 1 ≤ n ∧ n ≤ 720) (u l : Int) : Abs (errS n u l) (60000000000 * 18446744073709551616) ∧ Abs (errC n u l) (60000000000 * 18446744073709551616) := by
  obtain ⟨m, rfl⟩ := Int.eq_ofNat_of_zero_le (show 0 ≤ n by omega)
  obtain ⟨h1, h2⟩ := sumC_ok (n := m) (by omega) (sums_all m (by omega) (by omega))
  have hs : ∀ u, NextOk m u := nextOk (by omega) fun w hw hlt => by
    obtain ⟨w, rfl⟩ := Int.eq_ofNat_of_zero_le hw
    exact h2 w (by omega)
  refine sum_ok hn h1 hs ?_ u l
  have := powsC_ok 720 pows m (by omega) (by omega)
  rw [Int.toNat_natCast]
  have e : ((((m + 2) ^ (4 * m) : Nat)) : Int) ≤ ((6561 * m ^ (4 * m) : Nat) : Int) := by exact_mod_cast this
  simpa using e

end Go.Ev
