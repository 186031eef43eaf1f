/-
  Sines and cosines of all parts of a turn: the program's enclosures are the reference's; the squares of both add up to 1. No program here.
-/
import Derived.Test.YthnfmabjjndhhaaTabAll
namespace Go.Ev
open Go

theorem angI_scale {w n c : Int} (hc : 0 < c) : angI (c * w) (c * n) = angI w n := by
  unfold angI
  rw [← Int.mul_assoc, Int.mul_comm 28976077832308491369 c, Int.mul_assoc, Int.mul_ediv_mul_of_pos _ _ hc]

theorem loI_scale {w n c : Int} (hc : 0 < c) : loI (c * w) (c * n) = loI w n := by
  have hle : ∀ x y : Int, c * x ≤ c * y ↔ x ≤ y := fun x y => ⟨fun h => Int.le_of_mul_le_mul_left h hc, fun h => Int.mul_le_mul_of_nonneg_left h (by omega)⟩
  have e1 : decide (2 * (c * w) ≤ c * n) = decide (2 * w ≤ n) := by
    apply decide_eq_decide.2
    rw [Int.mul_left_comm 2 c]
    exact hle _ _
  unfold loI
  rw [e1, ← Int.mul_sub, angI_scale hc, angI_scale hc]

theorem riseI_scale {w n c : Int} (hc : 0 < c) : riseI (c * w) (c * n) = riseI w n := by
  have heq : ∀ x y : Int, c * x = c * y ↔ x = y := fun x y => ⟨fun h => Int.eq_of_mul_eq_mul_left (by omega) h, fun h => by rw [h]⟩
  have e2 : (c * w == c * n) = (w == n) := beq_congr (heq _ _)
  have e3 : (c * w == 0) = (w == 0) := beq_congr (by have := heq w 0; simpa using this)
  have e4 : (3 * (c * w) == c * n) = (3 * w == n) := beq_congr (by rw [Int.mul_left_comm 3 c]; exact heq _ _)
  unfold riseI
  rw [e2, e3, e4, loI_scale hc]

/-- What is known of the enclosures of a sine and a cosine in the first quarter. -/
structure RiseOk (w n : Int) : Prop where
  eq : riseI w n = refI w n
  low : (riseI w n).lo * (riseI w n).lo / 1000000 + (riseI (n - w) n).lo * (riseI (n - w) n).lo / 1000000 ≤ 1000000
  high : 1000000 ≤ ((riseI w n).hi * (riseI w n).hi + 999999) / 1000000 + ((riseI (n - w) n).hi * (riseI (n - w) n).hi + 999999) / 1000000

theorem RiseOk.scale {w n c : Int} (hc : 0 < c) (h : RiseOk w n) : RiseOk (c * w) (c * n) := by
  refine ⟨?_, ?_, ?_⟩
  · rw [riseI_scale hc, refI_scale hc, h.eq]
  · rw [← Int.mul_sub, riseI_scale hc, riseI_scale hc]; exact h.low
  · rw [← Int.mul_sub, riseI_scale hc, riseI_scale hc]; exact h.high

instance (w n : Int) : Decidable (RiseOk w n) :=
  if h : riseI w n = refI w n ∧ (riseI w n).lo * (riseI w n).lo / 1000000 + (riseI (n - w) n).lo * (riseI (n - w) n).lo / 1000000 ≤ 1000000 ∧ 1000000 ≤ ((riseI w n).hi * (riseI w n).hi + 999999) / 1000000 + ((riseI (n - w) n).hi * (riseI (n - w) n).hi + 999999) / 1000000
  then isTrue ⟨h.1, h.2.1, h.2.2⟩ else isFalse fun k => h ⟨k.eq, k.low, k.high⟩

theorem riseOk_01 : RiseOk 0 1 := by decide +kernel
theorem riseOk_11 : RiseOk 1 1 := by decide +kernel
theorem riseOk_12 : RiseOk 1 2 := by decide +kernel
theorem riseOk_13 : RiseOk 1 3 := by decide +kernel
theorem riseOk_23 : RiseOk 2 3 := by decide +kernel

theorem riseOk_of_pair {w n : Int} (hw : 0 < w ∧ w < n) (h3 : 3 * w ≠ n) (h3' : 3 * (n - w) ≠ n) (h : PairOk w n) : RiseOk w n := by
  have e1 : riseI w n = ⟨loI w n, loI w n + 1⟩ := by
    unfold riseI
    rw [show (w == 0) = false by simp; omega, show (w == n) = false by simp; omega, show (3 * w == n) = false by simpa using h3]
    rfl
  have e2 : riseI (n - w) n = ⟨loI (n - w) n, loI (n - w) n + 1⟩ := by
    unfold riseI
    rw [show (n - w == 0) = false by simp; omega, show (n - w == n) = false by simp; omega, show (3 * (n - w) == n) = false by simpa using h3']
    rfl
  refine ⟨?_, ?_, ?_⟩
  · rw [e1]
    unfold refI stepS
    rw [show (n == w) = false by simp; omega, show (w == 0 || 3 * w == n) = false by simp; omega, h.sin]
    cases decide (2 * (n - w) ≤ n) <;> rfl
  · rw [e1, e2]; exact h.low
  · rw [e1, e2]; exact h.high

theorem riseOk {w n : Int} (hn : 1 ≤ n ∧ n ≤ 720) (hw : 0 ≤ w ∧ w ≤ n) : RiseOk w n := by
  obtain ⟨n', rfl⟩ := Int.eq_ofNat_of_zero_le (show 0 ≤ n by omega)
  obtain ⟨w', rfl⟩ := Int.eq_ofNat_of_zero_le hw.1
  have hpos : 0 < n' := by omega
  have hg : 0 < Nat.gcd w' n' := Nat.gcd_pos_of_pos_right _ hpos
  obtain ⟨a, ha⟩ := Nat.gcd_dvd_left w' n'
  obtain ⟨b, hb⟩ := Nat.gcd_dvd_right w' n'
  have hco : Nat.gcd a b = 1 := by
    have : Nat.gcd (w' / Nat.gcd w' n') (n' / Nat.gcd w' n') = 1 := Nat.gcd_div_gcd_div_gcd_of_pos_right hpos
    rwa [Nat.div_eq_of_eq_mul_right hg ha, Nat.div_eq_of_eq_mul_right hg hb] at this
  generalize Nat.gcd w' n' = g at *
  have hab : a ≤ b := by
    refine Nat.le_of_mul_le_mul_left ?_ hg
    omega
  have hb1 : 1 ≤ b := by
    rcases Nat.eq_zero_or_pos b with e | e
    · subst e; omega
    · exact e
  have hbn : b ≤ n' := by rw [hb]; exact Nat.le_mul_of_pos_left _ hg
  have key : RiseOk (a : Int) b := by
    by_cases h4 : 4 ≤ b
    · have ha0 : 1 ≤ a := by
        rcases Nat.eq_zero_or_pos a with e | e
        · subst e; rw [Nat.gcd_zero_left] at hco; omega
        · exact e
      have hab' : a < b := by
        rcases Nat.lt_or_eq_of_le hab with e | e
        · exact e
        · subst e; rw [Nat.gcd_self] at hco; omega
      have h3 : 3 * a ≠ b := by
        intro e
        rw [← e, Nat.gcd_eq_left (Nat.dvd_mul_left _ _)] at hco
        omega
      have h3' : 3 * (b - a) ≠ b := by
        intro e
        have e2 : Nat.gcd (b - a) b = 1 := by rw [Nat.gcd_self_sub_left (by omega)]; exact hco
        rw [Nat.gcd_eq_left ⟨3, by omega⟩] at e2
        omega
      exact riseOk_of_pair (by omega) (by omega) (by omega) (row_pair (by omega) (rows_all b h4 (by omega)) ha0 hab' hco)
    · have : (a = 0 ∧ b = 1) ∨ (a = 1 ∧ b = 1) ∨ (a = 1 ∧ b = 2) ∨ (a = 1 ∧ b = 3) ∨ (a = 2 ∧ b = 3) := by
        have hb3 : b = 1 ∨ b = 2 ∨ b = 3 := by omega
        rcases hb3 with rfl | rfl | rfl
        · omega
        · have : a ≠ 0 := by intro e; subst e; simp at hco
          have : a ≠ 2 := by intro e; subst e; simp at hco
          omega
        · have : a ≠ 0 := by intro e; subst e; simp at hco
          have : a ≠ 3 := by intro e; subst e; simp at hco
          omega
      rcases this with ⟨rfl, rfl⟩ | ⟨rfl, rfl⟩ | ⟨rfl, rfl⟩ | ⟨rfl, rfl⟩ | ⟨rfl, rfl⟩
      · exact riseOk_01
      · exact riseOk_11
      · exact riseOk_12
      · exact riseOk_13
      · exact riseOk_23
  have := key.scale (c := (g : Int)) (by omega)
  rw [← Int.natCast_mul, ← Int.natCast_mul, ← ha, ← hb] at this
  exact this

theorem quad_congr {r r' : Int → Span} {n : Int} (hn : 0 < n) (h : ∀ w, 0 ≤ w ∧ w ≤ n → r w = r' w) (u : Int) : quad r u n = quad r' u n := by
  obtain ⟨w, k, h1, h2, e | e | e | e⟩ := quad_cases hn u
  · rw [(quad_val ⟨h1, h2⟩).1 e, (quad_val ⟨h1, h2⟩).1 e, h _ (by omega)]
  · rw [(quad_val ⟨h1, h2⟩).2.1 e, (quad_val ⟨h1, h2⟩).2.1 e, h _ (by omega)]
  · rw [(quad_val ⟨h1, h2⟩).2.2.1 e, (quad_val ⟨h1, h2⟩).2.2.1 e, h _ (by omega)]
  · rw [(quad_val ⟨h1, h2⟩).2.2.2 e, (quad_val ⟨h1, h2⟩).2.2.2 e, h _ (by omega)]

theorem turnR_eq {u n : Int} (hn : 1 ≤ n ∧ n ≤ 720) : turnR u n = turnS u n := by
  rw [turnR_quad, turnS_quad]
  exact quad_congr (by omega) (fun w hw => (riseOk hn hw).eq.symm) u

theorem cosR_eq (k n : Int) : cosR k n = cosS k n := by
  unfold cosR cosS
  by_cases h1 : n < 1
  · rw [decide_eq_true h1]; rfl
  by_cases h2 : 720 < n
  · rw [decide_eq_false h1, decide_eq_true h2]; rfl
  rw [turnR_eq (by omega)]

theorem sinR_eq (k n : Int) : sinR k n = sinS k n := by
  unfold sinR sinS
  by_cases h1 : n < 1
  · rw [decide_eq_true h1]; rfl
  by_cases h2 : 720 < n
  · rw [decide_eq_false h1, decide_eq_true h2]; rfl
  rw [turnR_eq (by omega)]

end Go.Ev
