/-
  The theorem of sums for 720 parts of a turn, up to small errors. No program here.
-/
import Derived.Test.YtmidgaahaffmcaaSumAll
namespace Go.Ev
open Go

def powC (n : Nat) : Bool := Nat.ble ((n + 2) ^ (4 * n)) (6561 * n ^ (4 * n))

theorem sum_of {m : Nat} (hm : 1 ≤ m ∧ m ≤ 720) (h : sumC m = true) (hp : powC m = true) (u l : Int) : Abs (errS m u l) (60000000000 * 18446744073709551616) ∧ Abs (errC m u l) (60000000000 * 18446744073709551616) := by
  obtain ⟨h1, h2⟩ := sumC_ok hm h
  have hs : ∀ u, NextOk m u := nextOk (by omega) fun w hw hlt => by
    obtain ⟨w, rfl⟩ := Int.eq_ofNat_of_zero_le hw
    exact h2 w (by omega)
  refine sum_ok (by omega) h1 hs ?_ u l
  have := Nat.le_of_ble_eq_true hp
  rw [Int.toNat_natCast]
  have e : ((((m + 2) ^ (4 * m) : Nat)) : Int) ≤ ((6561 * m ^ (4 * m) : Nat) : Int) := by exact_mod_cast this
  simpa using e

set_option maxRecDepth 100000 in
theorem sum720C : sumC 720 = true := by decide +kernel
theorem pow720C : powC 720 = true := by decide +kernel

/-- The theorem of sums. -/
theorem sum720 (u l : Int) : Abs (errS 720 u l) (60000000000 * 18446744073709551616) ∧ Abs (errC 720 u l) (60000000000 * 18446744073709551616) :=
  sum_of (m := 720) (by omega) sum720C pow720C u l

end Go.Ev
