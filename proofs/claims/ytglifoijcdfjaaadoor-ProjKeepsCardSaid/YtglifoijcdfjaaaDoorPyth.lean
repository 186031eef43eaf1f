/-
  Sines and cosines of half degrees: their squares add up to one, nearly. A test of all of them by the kernel. No program here.
-/
import Derived.Test.YtglifoijcdfjaaaDoorT720
namespace Go.Ev
open Go

def pyOne (w : Nat) : Bool := vC w 720 fun s => vC (720 - w) 720 fun c => Nat.ble (s * s + c * c) (340282366920938463463374607431768211456 + 1208925819614629174706176) && Nat.ble 340282366920938463463374607431768211456 (s * s + c * c + 1208925819614629174706176)
def pyAll : Nat → Bool
  | 0 => pyOne 0
  | n + 1 => bif pyOne (n + 1) then pyAll n else false
theorem py720 : pyAll 720 = true := by decide +kernel

theorem pyAll_one (n : Nat) : pyAll n = true → ∀ w, w ≤ n → pyOne w = true := by
  induction n with
  | zero =>
    intro h w hw
    obtain rfl := Nat.le_zero.1 hw
    exact h
  | succ n ih =>
    intro h w hw
    rw [pyAll] at h
    cases h1 : pyOne (n + 1) with
    | false => rw [h1] at h; cases h
    | true =>
      rw [h1] at h
      rcases Nat.lt_or_ge n w with q | q
      · obtain rfl := Nat.le_antisymm hw q
        exact h1
      · exact ih h w q

theorem py_at {w : Int} (hw : 0 ≤ w ∧ w ≤ 720) : Abs (VI w 720 * VI w 720 + VI (720 - w) 720 * VI (720 - w) 720 - 340282366920938463463374607431768211456) 1208925819614629174706176 := by
  obtain ⟨m, rfl⟩ := Int.eq_ofNat_of_zero_le hw.1
  have h := pyAll_one 720 py720 m (by omega)
  unfold pyOne at h
  obtain ⟨s, hs, h⟩ := vC_ok (by omega) (by omega) h
  obtain ⟨c, hc, h⟩ := vC_ok (by omega) (by omega) h
  simp only [Bool.and_eq_true, Nat.ble_eq] at h
  have e : (((720 - m : Nat) : Int)) = 720 - (m : Int) := by omega
  rw [e] at hc
  have e7 : ((720 : Nat) : Int) = 720 := rfl
  rw [e7] at hs hc
  rw [← hs, ← hc]
  unfold Abs
  rw [← Int.natCast_mul, ← Int.natCast_mul]
  generalize s * s = S at *
  generalize c * c = C at *
  omega

theorem py_turn (u : Int) : SZ 720 (u + 720) * SZ 720 (u + 720) + CZ 720 (u + 720) * CZ 720 (u + 720) = SZ 720 u * SZ 720 u + CZ 720 u * CZ 720 u := by
  rw [CZ_quarter (by omega), show SZ 720 (u + 720) = CZ 720 u from rfl, Int.neg_mul_neg, Int.add_comm]

theorem pyth (u : Int) : Abs (SZ 720 u * SZ 720 u + CZ 720 u * CZ 720 u - 340282366920938463463374607431768211456) 1208925819614629174706176 := by
  obtain ⟨w, k, h1, h2, h⟩ := quad_cases (show (0 : Int) < 720 by omega) u
  have base : Abs (SZ 720 (w + 4 * 720 * k) * SZ 720 (w + 4 * 720 * k) + CZ 720 (w + 4 * 720 * k) * CZ 720 (w + 4 * 720 * k) - 340282366920938463463374607431768211456) 1208925819614629174706176 := by
    have e := SZ_at (n := 720) (w := w) (k := k) (by omega) (by omega)
    rw [e.1, e.2]
    exact py_at (by omega)
  rcases h with h | h | h | h
  · rw [h]; exact base
  · rw [show u = (w + 4 * 720 * k) + 720 by omega, py_turn]; exact base
  · rw [show u = (w + 4 * 720 * k) + 720 + 720 by omega, py_turn, py_turn]; exact base
  · rw [show u = (w + 4 * 720 * k) + 720 + 720 + 720 by omega, py_turn, py_turn, py_turn]; exact base

end Go.Ev
