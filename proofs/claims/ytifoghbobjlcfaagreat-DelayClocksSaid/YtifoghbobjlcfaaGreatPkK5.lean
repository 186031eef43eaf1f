/-
  Sines and cosines of parts of a turn, one by one. No program here.
  A test of the sines of neighbouring fractions of a quarter, in natural numbers. Definitions only.
  Sines and cosines of sums of angles, up to small errors: by neighbouring fractions of a quarter. No program here.
  The theorem of sums, up to small errors: by induction on the parts. No program here.
  The theorem of sums for 720 parts of a turn, up to small errors. No program here.
  Enclosures of numbers of absolute value at most 1: sines, cosines, their products. No program here.
  Sines and cosines of half degrees: the program's enclosures are the reference's. No program here.
  Contracts of loops by any function of the state. No condition.
  Names: a letter, then letters, digits and hyphens. No program here.
  Directions of sources: what the functions come to. No program here.
  Products of enclosures: opposites, and how wide they are. Directions at other ticks. No program here.
  Sines and cosines of half degrees: their squares add up to one, nearly. A test of all of them by the kernel. No program here.
  Fractions: sums, differences, products and quotients in lowest terms, as the program and the reference find them. No program here.
  Fractions: what the program's functions come to. No program here.
  Fractions: what the reference's functions come to. No program here.
  Vectors of fractions: checks, sums, products. No program here.
  Dot products of directions and vectors. No program here.
  Vectors of fractions: differences, products, cross products, as the program and the reference find them. No program here.
  Matrices of fractions and turns, as the program and the reference find them. No program here.
  Fractions by their values (rational numbers): sums, products, quotients; size; vectors, matrices and turns. No program here.
-/
import Derived.Test.YtifoghbobjlcfaaGreatPkK4
set_option maxRecDepth 100000
namespace Go.Ev
open Go
theorem angI_scale {w n c : Int} (hc : 0 < c) : angI (c * w) (c * n) = angI w n := by
  unfold angI
  rw [← Int.mul_assoc, Int.mul_comm 28976077832308491369 c, Int.mul_assoc, Int.mul_ediv_mul_of_pos _ _ hc]
theorem loI_scale {w n c : Int} (hc : 0 < c) : loI (c * w) (c * n) = loI w n := by
  have hle : ∀ x y : Int, c * x ≤ c * y ↔ x ≤ y := fun x y => ⟨fun h => Int.le_of_mul_le_mul_left h hc, fun h => Int.mul_le_mul_of_nonneg_left h (by omega)⟩
  have e1 : decide (2 * (c * w) ≤ c * n) = decide (2 * w ≤ n) := by
    apply decide_eq_decide.2
    rw [Int.mul_left_comm 2 c]
    exact hle _ _
  unfold loI
  rw [e1, ← Int.mul_sub, angI_scale hc, angI_scale hc]
theorem riseI_scale {w n c : Int} (hc : 0 < c) : riseI (c * w) (c * n) = riseI w n := by
  have heq : ∀ x y : Int, c * x = c * y ↔ x = y := fun x y => ⟨fun h => Int.eq_of_mul_eq_mul_left (by omega) h, fun h => by rw [h]⟩
  have e2 : (c * w == c * n) = (w == n) := beq_congr (heq _ _)
  have e3 : (c * w == 0) = (w == 0) := beq_congr (by have := heq w 0; simpa using this)
  have e4 : (3 * (c * w) == c * n) = (3 * w == n) := beq_congr (by rw [Int.mul_left_comm 3 c]; exact heq _ _)
  unfold riseI
  rw [e2, e3, e4, loI_scale hc]
structure RiseOk (w n : Int) : Prop where
  eq : riseI w n = refI w n
  low : (riseI w n).lo * (riseI w n).lo / 1000000 + (riseI (n - w) n).lo * (riseI (n - w) n).lo / 1000000 ≤ 1000000
  high : 1000000 ≤ ((riseI w n).hi * (riseI w n).hi + 999999) / 1000000 + ((riseI (n - w) n).hi * (riseI (n - w) n).hi + 999999) / 1000000
theorem RiseOk.scale {w n c : Int} (hc : 0 < c) (h : RiseOk w n) : RiseOk (c * w) (c * n) := by
  refine ⟨?_, ?_, ?_⟩
  · rw [riseI_scale hc, refI_scale hc, h.eq]
  · rw [← Int.mul_sub, riseI_scale hc, riseI_scale hc]; exact h.low
  · rw [← Int.mul_sub, riseI_scale hc, riseI_scale hc]; exact h.high
instance (w n : Int) : Decidable (RiseOk w n) :=
  if h : riseI w n = refI w n ∧ (riseI w n).lo * (riseI w n).lo / 1000000 + (riseI (n - w) n).lo * (riseI (n - w) n).lo / 1000000 ≤ 1000000 ∧ 1000000 ≤ ((riseI w n).hi * (riseI w n).hi + 999999) / 1000000 + ((riseI (n - w) n).hi * (riseI (n - w) n).hi + 999999) / 1000000
  then isTrue ⟨h.1, h.2.1, h.2.2⟩ else isFalse fun k => h ⟨k.eq, k.low, k.high⟩
theorem riseOk_01 : RiseOk 0 1 := by decide +kernel
theorem riseOk_11 : RiseOk 1 1 := by decide +kernel
theorem riseOk_13 : RiseOk 1 3 := by decide +kernel
theorem riseOk_23 : RiseOk 2 3 := by decide +kernel
theorem riseOk_of_pair {w n : Int} (hw : 0 < w ∧ w < n) (h3 : 3 * w ≠ n) (h3' : 3 * (n - w) ≠ n) (h : PairOk w n) : RiseOk w n := by
  have e1 : riseI w n = ⟨loI w n, loI w n + 1⟩ := by
    unfold riseI
    rw [show (w == 0) = false by simp; omega, show (w == n) = false by simp; omega, show (3 * w == n) = false by simpa using h3]
    rfl
  have e2 : riseI (n - w) n = ⟨loI (n - w) n, loI (n - w) n + 1⟩ := by
    unfold riseI
    rw [show (n - w == 0) = false by simp; omega, show (n - w == n) = false by simp; omega, show (3 * (n - w) == n) = false by simpa using h3']
    rfl
  refine ⟨?_, ?_, ?_⟩
  · rw [e1]
    unfold refI stepS
    rw [show (n == w) = false by simp; omega, show (w == 0 || 3 * w == n) = false by simp; omega, h.sin]
    cases decide (2 * (n - w) ≤ n) <;> rfl
  · rw [e1, e2]; exact h.low
  · rw [e1, e2]; exact h.high
theorem quad_congr {r r' : Int → Span} {n : Int} (hn : 0 < n) (h : ∀ w, 0 ≤ w ∧ w ≤ n → r w = r' w) (u : Int) : quad r u n = quad r' u n := by
  obtain ⟨w, k, h1, h2, e | e | e | e⟩ := quad_cases hn u
  · rw [(quad_val ⟨h1, h2⟩).1 e, (quad_val ⟨h1, h2⟩).1 e, h _ (by omega)]
  · rw [(quad_val ⟨h1, h2⟩).2.1 e, (quad_val ⟨h1, h2⟩).2.1 e, h _ (by omega)]
  · rw [(quad_val ⟨h1, h2⟩).2.2.1 e, (quad_val ⟨h1, h2⟩).2.2.1 e, h _ (by omega)]
  · rw [(quad_val ⟨h1, h2⟩).2.2.2 e, (quad_val ⟨h1, h2⟩).2.2.2 e, h _ (by omega)]
end Go.Ev

namespace Go.Ev
end Go.Ev

namespace Go.Ev
open Go
def VI (w n : Int) : Int := bif w == n then 18446744073709551616 else bif 3 * w == n then 9223372036854775808 else bif decide (2 * w ≤ n) then sineI (angI w n) else cosiI (angI (n - w) n)
structure StepOk (n w : Int) : Prop where
  s1 : 18446744073709551616 * VI (w + 1) n - (VI w n * VI (n - 1) n + VI (n - w) n * VI 1 n) ≤ 18446744073709551616000
  s2 : -18446744073709551616000 ≤ 18446744073709551616 * VI (w + 1) n - (VI w n * VI (n - 1) n + VI (n - w) n * VI 1 n)
  c1 : 18446744073709551616 * VI (n - w - 1) n - (VI (n - w) n * VI (n - 1) n - VI w n * VI 1 n) ≤ 18446744073709551616000
  c2 : -18446744073709551616000 ≤ 18446744073709551616 * VI (n - w - 1) n - (VI (n - w) n * VI (n - 1) n - VI w n * VI 1 n)
def VS (n w : Int) : Span := ⟨VI w n, VI w n⟩
def SZ (n u : Int) : Int := (quad (VS n) u n).lo
def CZ (n u : Int) : Int := SZ n (u + n)
section
variable {n : Int}
theorem SZ_half (hn : 1 ≤ n) (u : Int) : SZ n (u + 2 * n) = -SZ n u := by
  unfold SZ
  rw [quad_half (by omega)]
  obtain ⟨w, k, h1, h2, h | h | h | h⟩ := quad_cases (show 0 < n by omega) u
  · rw [(quad_val ⟨h1, h2⟩).1 h]; rfl
  · rw [(quad_val ⟨h1, h2⟩).2.1 h]; rfl
  · rw [(quad_val ⟨h1, h2⟩).2.2.1 h]; simp [negS, VS]
  · rw [(quad_val ⟨h1, h2⟩).2.2.2 h]; simp [negS, VS]
theorem CZ_quarter (hn : 1 ≤ n) (u : Int) : CZ n (u + n) = -SZ n u := by
  unfold CZ
  rw [show u + n + n = u + 2 * n by omega, SZ_half hn]
structure NextOk (n u : Int) : Prop where
  s1 : 18446744073709551616 * SZ n (u + 1) - (SZ n u * CZ n 1 + CZ n u * SZ n 1) ≤ 18446744073709551616000
  s2 : -18446744073709551616000 ≤ 18446744073709551616 * SZ n (u + 1) - (SZ n u * CZ n 1 + CZ n u * SZ n 1)
  c1 : 18446744073709551616 * CZ n (u + 1) - (CZ n u * CZ n 1 - SZ n u * SZ n 1) ≤ 18446744073709551616000
  c2 : -18446744073709551616000 ≤ 18446744073709551616 * CZ n (u + 1) - (CZ n u * CZ n 1 - SZ n u * SZ n 1)
theorem NextOk.quarter (hn : 1 ≤ n) {u : Int} (h : NextOk n u) : NextOk n (u + n) := by
  have e1 : SZ n (u + n) = CZ n u := rfl
  have e2 : CZ n (u + n) = -SZ n u := CZ_quarter hn u
  have e3 : SZ n (u + n + 1) = CZ n (u + 1) := by unfold CZ; congr 1; omega
  have e4 : CZ n (u + n + 1) = -SZ n (u + 1) := by rw [show u + n + 1 = u + 1 + n by omega]; exact CZ_quarter hn (u + 1)
  obtain ⟨h1, h2, h3, h4⟩ := h
  constructor
  · rw [e1, e2, e3, Int.neg_mul]; omega
  · rw [e1, e2, e3, Int.neg_mul]; omega
  · rw [e1, e2, e4, Int.neg_mul, Int.mul_neg]; omega
  · rw [e1, e2, e4, Int.neg_mul, Int.mul_neg]; omega
end
end Go.Ev

namespace Go.Ev
open Go
def Abs (x b : Int) : Prop := -b ≤ x ∧ x ≤ b
theorem Abs.add {x y a b : Int} (h : Abs x a) (k : Abs y b) : Abs (x + y) (a + b) := by unfold Abs at *; omega
theorem Abs.sub {x y a b : Int} (h : Abs x a) (k : Abs y b) : Abs (x - y) (a + b) := by unfold Abs at *; omega
theorem Abs.nonneg {x a : Int} (h : Abs x a) : 0 ≤ a := by unfold Abs at h; omega
theorem Abs.mono {x a b : Int} (h : Abs x a) (k : a ≤ b) : Abs x b := by unfold Abs at *; omega
theorem Abs.mul {x y a b : Int} (h : Abs x a) (k : Abs y b) : Abs (x * y) (a * b) := by
  have ha := h.nonneg
  have hb := k.nonneg
  have e : (x * y).natAbs ≤ (a * b).natAbs := by
    rw [Int.natAbs_mul, Int.natAbs_mul]
    exact Nat.mul_le_mul (by unfold Abs at h; omega) (by unfold Abs at k; omega)
  have : 0 ≤ a * b := Int.mul_nonneg ha hb
  unfold Abs
  omega
theorem Abs.scale {x a c : Int} (hc : 0 ≤ c) (h : Abs x a) : Abs (c * x) (c * a) := by
  unfold Abs at *
  have h1 : c * (-a) ≤ c * x := Int.mul_le_mul_of_nonneg_left h.1 hc
  have h2 : c * x ≤ c * a := Int.mul_le_mul_of_nonneg_left h.2 hc
  rw [Int.mul_neg] at h1
  exact ⟨h1, h2⟩
theorem mul_anti {a b c : Int} (hc : c ≤ 0) (h : a ≤ b) : c * b ≤ c * a := by
  have := Int.mul_le_mul_of_nonneg_left h (show 0 ≤ -c by omega)
  rw [Int.neg_mul, Int.neg_mul] at this
  omega
def Enc (a : Span) (X d : Int) : Prop := a.lo * d ≤ X ∧ X ≤ a.hi * d
theorem turnS_enc {n : Int} (hn : 1 ≤ n ∧ n ≤ 720) (u : Int) : Enc (turnS u n) (SZ n u * 1000000) 18446744073709551616 := by
  have base : ∀ w, 0 ≤ w → w ≤ n → Enc (riseI w n) (VI w n * 1000000) 18446744073709551616 := by
    intro w h1 h2
    unfold Enc riseI VI
    by_cases h0 : w = 0
    · subst h0
      rw [show ((0 : Int) == n) = false by simp; omega, show (3 * (0 : Int) == n) = false by simp; omega, decide_eq_true (by omega)]
      have e : angI 0 n = 0 := by simp [angI]
      have e2 : sineI 0 = 0 := by decide +kernel
      simp [e, e2]
    by_cases hw : w = n
    · subst hw
      rw [show (w == 0) = false by simpa using h0, show (w == w) = true by simp]
      simp
    by_cases h3 : 3 * w = n
    · rw [show (w == 0) = false by simpa using h0, show (w == n) = false by simpa using hw, show (3 * w == n) = true by simpa using h3]
      simp
    rw [show (w == 0) = false by simpa using h0, show (w == n) = false by simpa using hw, show (3 * w == n) = false by simpa using h3]
    simp only [cond_false, loI]
    generalize (bif decide (2 * w ≤ n) then sineI (angI w n) else cosiI (angI (n - w) n)) = v
    omega
  have neg : ∀ (a : Span) (x : Int), Enc a (x * 1000000) 18446744073709551616 → Enc (negS a) (-x * 1000000) 18446744073709551616 := by
    intro a x h
    unfold Enc negS at *
    simp only
    omega
  rw [turnS_quad]
  unfold SZ
  obtain ⟨w, k, h1, h2, h | h | h | h⟩ := quad_cases (show 0 < n by omega) u
  · rw [(quad_val ⟨h1, h2⟩).1 h, (quad_val ⟨h1, h2⟩).1 h]; exact base w h1 (by omega)
  · rw [(quad_val ⟨h1, h2⟩).2.1 h, (quad_val ⟨h1, h2⟩).2.1 h]; exact base _ (by omega) (by omega)
  · rw [(quad_val ⟨h1, h2⟩).2.2.1 h, (quad_val ⟨h1, h2⟩).2.2.1 h]; exact neg _ _ (base w h1 (by omega))
  · rw [(quad_val ⟨h1, h2⟩).2.2.2 h, (quad_val ⟨h1, h2⟩).2.2.2 h]; exact neg _ _ (base _ (by omega) (by omega))
theorem min4_le (p q r s : Int) : min4 p q r s ≤ p ∧ min4 p q r s ≤ q ∧ min4 p q r s ≤ r ∧ min4 p q r s ≤ s := by
  unfold min4
  repeat' split
  all_goals omega
theorem le_max4 (p q r s : Int) : p ≤ max4 p q r s ∧ q ≤ max4 p q r s ∧ r ≤ max4 p q r s ∧ s ≤ max4 p q r s := by
  unfold max4
  repeat' split
  all_goals omega
theorem prod_between {A A' B B' X Y m M : Int} (hX : A ≤ X ∧ X ≤ A') (hY : B ≤ Y ∧ Y ≤ B') (h1 : m ≤ A * B ∧ A * B ≤ M) (h2 : m ≤ A * B' ∧ A * B' ≤ M) (h3 : m ≤ A' * B ∧ A' * B ≤ M) (h4 : m ≤ A' * B' ∧ A' * B' ≤ M) : m ≤ X * Y ∧ X * Y ≤ M := by
  have side : ∀ C : Int, m ≤ C * B ∧ C * B ≤ M → m ≤ C * B' ∧ C * B' ≤ M → m ≤ C * Y ∧ C * Y ≤ M := by
    intro C k1 k2
    rcases Int.le_total 0 C with hC | hC
    · have a := Int.mul_le_mul_of_nonneg_left hY.1 hC
      have b := Int.mul_le_mul_of_nonneg_left hY.2 hC
      omega
    · have a := mul_anti hC hY.1
      have b := mul_anti hC hY.2
      omega
  have a := side A h1 h2
  have b := side A' h3 h4
  rcases Int.le_total 0 Y with hY0 | hY0
  · have c := Int.mul_le_mul_of_nonneg_right hX.1 hY0
    have d := Int.mul_le_mul_of_nonneg_right hX.2 hY0
    omega
  · have c := mul_anti hY0 hX.1
    have d := mul_anti hY0 hX.2
    rw [Int.mul_comm Y, Int.mul_comm Y] at c d
    omega
theorem Enc.mul {a b p : Span} {X Y d e : Int} (hd : 0 < d) (he : 0 < e) (ha : Enc a X d) (hb : Enc b Y e) (h : mulS a b = (p, 0)) : Enc p (X * Y) (d * e * 1000000) := by
  unfold mulS at h
  cases hv : spanValid a && spanValid b with
  | false => rw [hv] at h; simp only [cond_false, Prod.mk.injEq] at h; omega
  | true =>
    rw [hv, cond_true] at h
    unfold rangedS at h
    cases hr : spanValid ⟨min4 (a.lo * b.lo) (a.lo * b.hi) (a.hi * b.lo) (a.hi * b.hi) / 1000000, -(-(max4 (a.lo * b.lo) (a.lo * b.hi) (a.hi * b.lo) (a.hi * b.hi)) / 1000000)⟩ with
    | false => rw [hr] at h; simp at h
    | true =>
      rw [hr] at h
      simp only [Bool.not_true, cond_false, Prod.mk.injEq, and_true] at h
      subst h
      have hmin := min4_le (a.lo * b.lo) (a.lo * b.hi) (a.hi * b.lo) (a.hi * b.hi)
      have hmax := le_max4 (a.lo * b.lo) (a.lo * b.hi) (a.hi * b.lo) (a.hi * b.hi)
      generalize min4 (a.lo * b.lo) (a.lo * b.hi) (a.hi * b.lo) (a.hi * b.hi) = m at *
      generalize max4 (a.lo * b.lo) (a.lo * b.hi) (a.hi * b.lo) (a.hi * b.hi) = M at *
      have hde : 0 < d * e := Int.mul_pos hd he
      have sc : ∀ x y : Int, m ≤ x * y ∧ x * y ≤ M → m * (d * e) ≤ (x * d) * (y * e) ∧ (x * d) * (y * e) ≤ M * (d * e) := by
        intro x y k
        have eq : (x * d) * (y * e) = (x * y) * (d * e) := by grind
        rw [eq]
        exact ⟨Int.mul_le_mul_of_nonneg_right k.1 (by omega), Int.mul_le_mul_of_nonneg_right k.2 (by omega)⟩
      have key := prod_between ha hb (sc _ _ ⟨hmin.1, hmax.1⟩) (sc _ _ ⟨hmin.2.1, hmax.2.1⟩) (sc _ _ ⟨hmin.2.2.1, hmax.2.2.1⟩) (sc _ _ ⟨hmin.2.2.2, hmax.2.2.2⟩)
      have f1 : m / 1000000 * 1000000 ≤ m := by omega
      have f2 : M ≤ -(-M / 1000000) * 1000000 := by omega
      have g1 := Int.mul_le_mul_of_nonneg_right f1 (Int.le_of_lt hde)
      have g2 := Int.mul_le_mul_of_nonneg_right f2 (Int.le_of_lt hde)
      unfold Enc
      simp only
      have k1 : m / 1000000 * (d * e * 1000000) = m / 1000000 * 1000000 * (d * e) := by grind
      have k2 : -(-M / 1000000) * (d * e * 1000000) = -(-M / 1000000) * 1000000 * (d * e) := by grind
      rw [k1, k2]
      omega
theorem rangedS_ok {a b : Span} (h : rangedS a = (b, 0)) : b = a := by
  unfold rangedS at h
  cases hv : spanValid a with
  | false => rw [hv] at h; simp at h
  | true => rw [hv] at h; simp only [Bool.not_true, cond_false, Prod.mk.injEq, and_true] at h; exact h.symm
theorem Enc.add {a b p : Span} {X Y d : Int} (ha : Enc a X d) (hb : Enc b Y d) (h : addS a b = (p, 0)) : Enc p (X + Y) d := by
  unfold addS at h
  cases hv : spanValid a && spanValid b with
  | false => rw [hv] at h; simp at h
  | true =>
    rw [hv, cond_true] at h
    cases rangedS_ok h
    unfold Enc at *
    simp only [Int.add_mul]
    omega
theorem Enc.sub {a b p : Span} {X Y d : Int} (ha : Enc a X d) (hb : Enc b Y d) (h : subS a b = (p, 0)) : Enc p (X - Y) d := by
  unfold subS at h
  cases hv : spanValid a && spanValid b with
  | false => rw [hv] at h; simp at h
  | true =>
    rw [hv, cond_true] at h
    cases rangedS_ok h
    unfold Enc at *
    simp only [Int.sub_mul]
    omega
theorem Enc.scale {a : Span} {X d c : Int} (hc : 0 ≤ c) (h : Enc a X d) : Enc a (X * c) (d * c) := by
  unfold Enc at *
  rw [← Int.mul_assoc, ← Int.mul_assoc]
  exact ⟨Int.mul_le_mul_of_nonneg_right h.1 hc, Int.mul_le_mul_of_nonneg_right h.2 hc⟩
theorem Enc.common {a b : Span} {X Y d : Int} (hd : 0 < d) (ha : Enc a X d) (hb : Enc b Y d) (h : Abs (X - Y) (d - 1)) : a.lo ≤ b.hi ∧ b.lo ≤ a.hi := by
  unfold Enc Abs at *
  constructor
  · have : a.lo * d < (b.hi + 1) * d := by rw [Int.add_mul]; omega
    have := Int.lt_of_mul_lt_mul_right this (by omega)
    omega
  · have : b.lo * d < (a.hi + 1) * d := by rw [Int.add_mul]; omega
    have := Int.lt_of_mul_lt_mul_right this (by omega)
    omega
end Go.Ev

namespace Go.Ev
open Go
end Go.Ev

namespace Go.Ev
open Go
structure Near (a r : Span) : Prop where
  is : a = r ∨ a = negS r
theorem Near.range {a r : Span} (h : Near a r) (hr : 0 ≤ r.lo ∧ r.lo ≤ r.hi ∧ r.hi ≤ 1000000 ∧ r.hi ≤ r.lo + 1) : -1000000 ≤ a.lo ∧ a.lo ≤ a.hi ∧ a.hi ≤ 1000000 ∧ a.hi ≤ a.lo + 1 := by
  rcases h.is with rfl | rfl
  · omega
  · simp only [negS]; omega
theorem riseI_neg0 (n : Int) : negS (riseI 0 n) = riseI 0 n := rfl
theorem turn_pair {n : Int} (hn : 0 < n) (u : Int) : ∃ w m, 0 ≤ w ∧ w < n ∧ u = w + n * m ∧ ((Near (turnS u n) (riseI w n) ∧ Near (turnS (u + n) n) (riseI (n - w) n)) ∨ (Near (turnS u n) (riseI (n - w) n) ∧ Near (turnS (u + n) n) (riseI w n))) := by
  have h0 := riseI_neg0 n
  rw [turnS_quad, turnS_quad]
  obtain ⟨w, k, h1, h2, h | h | h | h⟩ := quad_cases hn u
  · refine ⟨w, 4 * k, h1, h2, by rw [h, Int.mul_assoc, Int.mul_left_comm n 4 k], .inl ⟨⟨.inl ((quad_val ⟨h1, h2⟩).1 h)⟩, ⟨.inl ((quad_val (k := k) ⟨h1, h2⟩).2.1 (by omega))⟩⟩⟩
  · refine ⟨w, 1 + 4 * k, h1, h2, by rw [h, Int.mul_add, Int.mul_assoc, Int.mul_left_comm n 4 k]; omega, .inr ⟨⟨.inl ((quad_val ⟨h1, h2⟩).2.1 h)⟩, ⟨.inr ((quad_val (k := k) ⟨h1, h2⟩).2.2.1 (by omega))⟩⟩⟩
  · refine ⟨w, 2 + 4 * k, h1, h2, by rw [h, Int.mul_add, Int.mul_assoc, Int.mul_left_comm n 4 k]; omega, .inl ⟨⟨.inr ((quad_val ⟨h1, h2⟩).2.2.1 h)⟩, ⟨.inr ((quad_val (k := k) ⟨h1, h2⟩).2.2.2 (by omega))⟩⟩⟩
  · refine ⟨w, 3 + 4 * k, h1, h2, by rw [h, Int.mul_add, Int.mul_assoc, Int.mul_left_comm n 4 k]; omega, .inr ⟨⟨.inr ((quad_val ⟨h1, h2⟩).2.2.2 h)⟩, ⟨.inl ((quad_val (k := k + 1) ⟨h1, h2⟩).1 (by rw [Int.mul_add]; omega))⟩⟩⟩
def commonB (a b : Span) : Bool := bif decide (a.lo ≤ b.hi) then decide (b.lo ≤ a.hi) else false
theorem commonB_iff {a b : Span} : commonB a b = true ↔ a.lo ≤ b.hi ∧ b.lo ≤ a.hi := by
  unfold commonB
  by_cases h : a.lo ≤ b.hi
  · rw [decide_eq_true h]; simp [h]
  · rw [decide_eq_false h]; simp [h]
def Unit1 (a : Span) : Prop := -1000000 ≤ a.lo ∧ a.lo ≤ a.hi ∧ a.hi ≤ 1000000
theorem turnS_unit {n : Int} (hn : 1 ≤ n ∧ n ≤ 720) (u : Int) : Unit1 (turnS u n) := by
  obtain ⟨w, m, w1, w2, _, hp⟩ := turn_pair (n := n) (by omega) u
  have r1 := riseI_range (w := w) (n := n) (by simp only [riseOn, Bool.and_eq_true, decide_eq_true_eq]; omega)
  have r2 := riseI_range (w := n - w) (n := n) (by simp only [riseOn, Bool.and_eq_true, decide_eq_true_eq]; omega)
  rcases hp with ⟨h, _⟩ | ⟨h, _⟩
  · have := h.range r1; exact ⟨this.1, this.2.1, this.2.2.1⟩
  · have := h.range r2; exact ⟨this.1, this.2.1, this.2.2.1⟩
theorem min4_one {p q r s : Int} : min4 p q r s = p ∨ min4 p q r s = q ∨ min4 p q r s = r ∨ min4 p q r s = s := by
  unfold min4
  repeat' split
  all_goals simp
theorem max4_one {p q r s : Int} : max4 p q r s = p ∨ max4 p q r s = q ∨ max4 p q r s = r ∨ max4 p q r s = s := by
  unfold max4
  repeat' split
  all_goals simp
theorem unit_mul {x y : Int} (hx : -1000000 ≤ x ∧ x ≤ 1000000) (hy : -1000000 ≤ y ∧ y ≤ 1000000) : -1000000000000 ≤ x * y ∧ x * y ≤ 1000000000000 := Abs.mul (x := x) (y := y) (a := 1000000) (b := 1000000) hx hy
theorem mulS_unit {a b : Span} (ha : Unit1 a) (hb : Unit1 b) : ∃ p, mulS a b = (p, 0) ∧ Unit1 p := by
  unfold Unit1 at *
  have v1 : spanValid a = true := by rw [spanValid_iff]; omega
  have v2 : spanValid b = true := by rw [spanValid_iff]; omega
  have p1 := unit_mul (x := a.lo) (y := b.lo) (by omega) (by omega)
  have p2 := unit_mul (x := a.lo) (y := b.hi) (by omega) (by omega)
  have p3 := unit_mul (x := a.hi) (y := b.lo) (by omega) (by omega)
  have p4 := unit_mul (x := a.hi) (y := b.hi) (by omega) (by omega)
  unfold mulS
  rw [v1, v2]
  simp only [Bool.and_self, cond_true]
  have h1 := min4_le (a.lo * b.lo) (a.lo * b.hi) (a.hi * b.lo) (a.hi * b.hi)
  have h2 := le_max4 (a.lo * b.lo) (a.lo * b.hi) (a.hi * b.lo) (a.hi * b.hi)
  have h3 := min4_one (p := a.lo * b.lo) (q := a.lo * b.hi) (r := a.hi * b.lo) (s := a.hi * b.hi)
  have h4 := max4_one (p := a.lo * b.lo) (q := a.lo * b.hi) (r := a.hi * b.lo) (s := a.hi * b.hi)
  generalize min4 (a.lo * b.lo) (a.lo * b.hi) (a.hi * b.lo) (a.hi * b.hi) = m at *
  generalize max4 (a.lo * b.lo) (a.lo * b.hi) (a.hi * b.lo) (a.hi * b.hi) = M at *
  have hv : spanValid ⟨m / 1000000, -(-M / 1000000)⟩ = true := by rw [spanValid_iff]; simp only; omega
  refine ⟨⟨m / 1000000, -(-M / 1000000)⟩, ?_, ?_⟩
  · unfold rangedS
    rw [hv]
    rfl
  · simp only
    omega
def sinT (k : Int) : Span := turnS (4 * k) 720
def cosT (k : Int) : Span := turnS (4 * k + 720) 720
theorem sinT_enc (k : Int) : Enc (sinT k) (SZ 720 (4 * k) * 1000000) 18446744073709551616 := turnS_enc (by omega) _
theorem cosT_enc (k : Int) : Enc (cosT k) (CZ 720 (4 * k) * 1000000) 18446744073709551616 := turnS_enc (by omega) _
theorem sinT_unit (k : Int) : Unit1 (sinT k) := turnS_unit (by omega) _
theorem cosT_unit (k : Int) : Unit1 (cosT k) := turnS_unit (by omega) _
end Go.Ev

namespace Go.Ev
open Go
def allC : Nat → Bool
  | 0 => true
  | w + 1 => bif Nat.beq (w + 1) 240 then allC w else bif pairC (w + 1) 720 then allC w else false
theorem all720 : allC 360 = true := by decide +kernel
theorem allC_one (n : Nat) : allC n = true → ∀ w, 1 ≤ w → w ≤ n → w ≠ 240 → pairC w 720 = true := by
  induction n with
  | zero => intro _ w h1 h2; omega
  | succ n ih =>
    intro h w h1 h2 h3
    rw [allC] at h
    cases hb : Nat.beq (n + 1) 240 with
    | true =>
      rw [hb] at h
      have : n + 1 = 240 := Nat.eq_of_beq_eq_true hb
      exact ih h w h1 (by omega) h3
    | false =>
      rw [hb] at h
      simp only [cond_false] at h
      cases hp : pairC (n + 1) 720 with
      | false => rw [hp] at h; cases h
      | true =>
        rw [hp] at h
        rcases Nat.lt_or_ge n w with q | q
        · obtain rfl := Nat.le_antisymm h2 q
          exact hp
        · exact ih h w h1 q h3
theorem riseOk720 {w : Int} (hw : 0 ≤ w ∧ w ≤ 720) : RiseOk w 720 := by
  by_cases h0 : w = 0
  · subst h0; exact riseOk_01.scale (c := 720) (by omega)
  by_cases h1 : w = 720
  · subst h1; exact riseOk_11.scale (c := 720) (by omega)
  by_cases h2 : w = 240
  · subst h2; exact riseOk_13.scale (c := 240) (by omega)
  by_cases h3 : w = 480
  · subst h3; exact riseOk_23.scale (c := 240) (by omega)
  refine riseOk_of_pair (by omega) (by omega) (by omega) ?_
  obtain ⟨m, rfl⟩ := Int.eq_ofNat_of_zero_le hw.1
  by_cases h4 : m ≤ 360
  · exact pairC_ok (n := 720) (by omega) (by omega) (allC_one 360 all720 m (by omega) h4 (by omega))
  · have k := pairC_ok (w := 720 - m) (n := 720) (by omega) (by omega) (allC_one 360 all720 (720 - m) (by omega) (by omega) (by omega))
    have k' := k.swap
    have e : ((720 : Nat) : Int) - ((720 - m : Nat) : Int) = (m : Int) := by omega
    rw [e] at k'
    exact k'
theorem turnR720 (u : Int) : turnR u 720 = turnS u 720 := by
  rw [turnR_quad, turnS_quad]
  exact quad_congr (by omega) (fun w hw => (riseOk720 hw).eq.symm) u
theorem cosR720 (k : Int) : cosR k 720 = (cosT k, 0) := by
  unfold cosR cosT
  rw [turnR720]
  rfl
theorem sinR720 (k : Int) : sinR k 720 = (sinT k, 0) := by
  unfold sinR sinT
  rw [turnR720]
  rfl
end Go.Ev

namespace Go.Ev
open Go
def LamG (key n : Nat) (f : TS → List Blk → Nat → LT) : Nat → TS → List Blk → Nat → LT := fun k T M N => bif k == key && T.length == n then f T M N else .no
theorem find_of' {ks : List (Nat × AV)} {T : TS} (h : ∀ p ∈ ks, tget T p.1 = p.2 ∨ p.2 = .any) (i : Nat) : tfind .any ks i = tget T i ∨ tfind .any ks i = .any := by
  induction ks with
  | nil => exact .inr rfl
  | cons p r ih =>
    rw [tfind]
    cases hb : Nat.beq p.1 i with
    | true =>
      rw [cond_true, ← Nat.eq_of_beq_eq_true hb]
      rcases h p (by simp) with e | e
      · exact .inl e.symm
      · exact .inr e
    | false => exact ih fun q hq => h q (by simp [hq])
theorem less_of' {ks : List (Nat × AV)} {n : Nat} {T : TS} (hl : T.length = n) (h : ∀ p ∈ ks, tget T p.1 = p.2 ∨ p.2 = .any) : Less (maskT ks n) T :=
  ⟨hl.symm, fun t => find_of' h t⟩
section
variable {P : Program} {G : Nat → Option (List D)} {gb : Nat} {EQ : Tab} {Γ : Nat → List AV → List Blk → (AV → List Blk → Ans) → Ans} {X : Nat → List AV → (AV → Ans) → Ans} {Λ : Nat → TS → List Blk → Nat → LT}
theorem LOKb.lamG {b : Code} {n : Nat} {f : TS → List Blk → Nat → LT}
    (h : ∀ T M N x T' M' N', T.length = n → LReach (f T M N) x T' M' N' → x ≠ .normal ∧ ∃ k, RoundsOK P G gb b k T M N x T' M' N') : LOKb P G gb (LamG (loopKey b) n f) b := by
  intro T M N x T' M' N' hr
  unfold LamG at hr
  simp only [cond_eq_ite, Bool.and_eq_true, beq_iff_eq, beq_self_eq_true, true_and] at hr
  split at hr
  · rename_i hl
    exact h T M N x T' M' N' hl hr
  · exact hr.elim
theorem RoundsOK.stop (hΓ : GOK P G gb Γ X) (hEQ : ∀ t, t ∈ EQ.eq → EqOK P t) (hm : P.follows .mixedOrders = true) {fuel : Nat} {b : Code} {T T1 : TS} {M M1 : List Blk} {N N1 : Nat} {x : Ex} {keep : List Nat} (hL : LOK P G gb Λ (loopsIn b)) (hx : x ≠ .normal)
    (h : evCode P G EQ Γ X Λ fuel b T M N (fun x T M N => some (.st x (forget keep T) M N)) = some (.st x T1 M1 N1)) : RoundsOK P G gb b 1 T M N x T1 M1 N1 := by
  obtain ⟨x', T3, M3, N3, h1, h2, _⟩ := evCode_sound hEQ hm hΓ fuel b T M N _ _ hL h
  cases h2
  intro w0 W σ a w Q hG hT hM hN hQ
  rw [rounds_succ]
  refine h1 w0 W σ a w _ hG hT hM hN fun τ a' w' hle hT' hM' hN' => ?_
  have := hQ τ a' w' hle (hT'.less (forget_less _ _)) hM' hN'
  cases x with
  | normal => exact absurd rfl hx
  | exit id => exact this
  | ret => exact this
end
end Go.Ev

namespace Go.Ev
open Go
def nameStep {α : Type} (c : Int) (bad ok : α) : α :=
  bif decide (c < 97) then (bif decide (c < 48) then (bif c != 45 then bad else ok) else (bif decide (57 < c) then (bif c != 45 then bad else ok) else ok))
  else (bif decide (122 < c) then (bif decide (c < 48) then (bif c != 45 then bad else ok) else (bif decide (57 < c) then (bif c != 45 then bad else ok) else ok)) else ok)
def nameStepR (b : Bool) (c : Int) (bad ok : Ans) : Ans :=
  bif decide (c < 97) then (bif b then (bif decide (c < 48) then (bif b then (bif c != 45 then bad else ok) else none) else (bif b then (bif decide (57 < c) then (bif b then (bif c != 45 then bad else ok) else none) else ok) else none)) else none)
  else (bif b then (bif decide (122 < c) then (bif b then (bif decide (c < 48) then (bif b then (bif c != 45 then bad else ok) else none) else (bif b then (bif decide (57 < c) then (bif b then (bif c != 45 then bad else ok) else none) else ok) else none)) else none) else ok) else none)
theorem nameStepR_eq (b : Bool) (c : Int) (bad ok : Ans) : (bif b then nameStepR b c bad ok else none) = bif b then nameStep c bad ok else none := by
  cases b <;> rfl
def byteOk (c : Int) : Bool := nameStep c false true
theorem nameStep_eq {α : Type} (c : Int) (bad ok : α) : nameStep c bad ok = bif byteOk c then ok else bad := by
  unfold byteOk nameStep
  cases decide (c < 97) <;> cases decide (c < 48) <;> cases c != 45 <;> cases decide (57 < c) <;> cases decide (122 < c) <;> rfl
def restOk (s : ByteArray) (i : Int) : Nat → Bool
  | 0 => true
  | m + 1 => bif byteOk (byteAt s i) then restOk s (i + 1) m else false
def namedB (s : ByteArray) : Bool :=
  bif decide ((s.size : Int) < 1) then false else bif decide (40 < (s.size : Int)) then false else bif decide (byteAt s 0 < 97) then false else bif decide (122 < byteAt s 0) then false else restOk s 0 s.size
section
variable {P : Program} {G : Nat → Option (List D)} {gb : Nat} {EQ : Tab} {Γ : Nat → List AV → List Blk → (AV → List Blk → Ans) → Ans} {X : Nat → List AV → (AV → Ans) → Ans}
theorem name_rounds (hΓ : GOK P G gb Γ X) (hEQ : ∀ t, t ∈ EQ.eq → EqOK P t) (hm : P.follows .mixedOrders = true) {c : Code} {e fuel NN : Nat} {M : List Blk} {keep : List Nat} (s : ByteArray) (hs : (s.size : Int) ≤ 1000) (TT : Int → TS) (T1 T2 : TS)
    (hl1 : ∀ i, Less T1 (TT i)) (TB : Int → TS) (hl2 : ∀ i, Less T2 (TB i))
    (hb : ∀ i : Int, evCode P G EQ Γ X noL fuel c (TT i) M NN (fun x T M N => some (.st x (forget keep T) M N)) =
      bif decide (i < (s.size : Int)) then (bif decide (0 ≤ i) && decide (i < (s.size : Int)) then nameStep (byteAt s i) (some (.st .ret (TB i) M NN)) (some (.st .normal (TT (w64 (i + 1))) M NN)) else none)
      else some (.st (.exit e) (TT i) M NN)) :
    ∀ (m : Nat) (i : Int), 0 ≤ i → i + m = s.size → (restOk s i m = true → ∃ k, RoundsOK P G gb c k (TT i) M NN (.exit e) T1 M NN) ∧ (restOk s i m = false → ∃ k, RoundsOK P G gb c k (TT i) M NN .ret T2 M NN) := by
  intro m
  induction m with
  | zero =>
    intro i h0 h1
    refine ⟨fun _ => ?_, fun h => by simp [restOk] at h⟩
    have h := hb i
    rw [decide_eq_false (by omega), cond_false] at h
    exact ⟨1, (RoundsOK.fin (Λ := noL) hΓ hEQ hm (noL_ok _) h).weak (hl1 _)⟩
  | succ m ih =>
    intro i h0 h1
    have h := hb i
    rw [decide_eq_true (show i < (s.size : Int) by omega), decide_eq_true (show 0 ≤ i by omega), nameStep_eq, show w64 (i + 1) = i + 1 by simp only [w64, wr]; omega] at h
    simp only [Bool.and_self, cond_true] at h
    rw [restOk]
    cases hc : byteOk (byteAt s i) with
    | true =>
      rw [hc, cond_true] at h
      simp only [cond_true]
      obtain ⟨p, q⟩ := ih (i + 1) (by omega) (by omega)
      refine ⟨fun hh => ?_, fun hh => ?_⟩
      · obtain ⟨k, hk⟩ := p hh
        exact ⟨k + 1, RoundsOK.go (Λ := noL) hΓ hEQ hm (noL_ok _) h hk⟩
      · obtain ⟨k, hk⟩ := q hh
        exact ⟨k + 1, RoundsOK.go (Λ := noL) hΓ hEQ hm (noL_ok _) h hk⟩
    | false =>
      rw [hc, cond_false] at h
      simp only [cond_false]
      refine ⟨(fun hh => by cases hh), fun _ => ⟨1, (RoundsOK.stop (Λ := noL) hΓ hEQ hm (noL_ok _) (by simp) h).weak (hl2 _)⟩⟩
end
def nameAns (K : AV → List Blk → Ans) (s : ByteArray) : Ans :=
  bif decide ((s.size : Int) < 1) then K (rB false) [] else bif decide (40 < (s.size : Int)) then K (rB false) [] else
  bif decide ((0 : Int) ≤ 0) && decide ((0 : Int) < (s.size : Int)) then (bif decide (byteAt s 0 < 97) then K (rB false) [] else
    bif decide ((0 : Int) ≤ 0) && decide ((0 : Int) < (s.size : Int)) then (bif decide (122 < byteAt s 0) then K (rB false) [] else
      bif (s.size : Int) == (s.size : Int) && decide ((s.size : Int) ≤ 1000) then (bif restOk s 0 s.size then K (rB true) [] else K (rB false) []) else none) else none) else none
theorem nameAns_ok {K : AV → List Blk → Ans} {s : ByteArray} : nameAns K s = K (rB (namedB s)) [] := by
  unfold nameAns namedB
  by_cases h1 : (s.size : Int) < 1
  · rw [decide_eq_true h1]; rfl
  by_cases h2 : 40 < (s.size : Int)
  · rw [decide_eq_false h1, decide_eq_true h2]; rfl
  rw [decide_eq_false h1, decide_eq_false h2, decide_eq_true (show (0 : Int) < (s.size : Int) by omega), decide_eq_true (show (s.size : Int) ≤ 1000 by omega)]
  simp only [Int.le_refl, decide_true, Bool.and_self, cond_true, cond_false, beq_self_eq_true]
  cases decide (byteAt s 0 < 97) with
  | true => rfl
  | false =>
    cases decide (122 < byteAt s 0) with
    | true => rfl
    | false => cases restOk s 0 s.size <;> rfl
def nameAns' (K : AV → List Blk → Ans) (s : ByteArray) : Ans :=
  bif decide ((s.size : Int) < 1) then K (rB false) [] else bif decide (40 < (s.size : Int)) then K (rB false) [] else
  bif decide ((0 : Int) ≤ 0) && decide ((0 : Int) < (s.size : Int)) then (bif decide (byteAt s 0 < 97) then K (rB false) [] else
    bif decide ((0 : Int) ≤ 0) && decide ((0 : Int) < (s.size : Int)) then (bif decide (122 < byteAt s 0) then K (rB false) [] else
      bif decide ((s.size : Int) ≤ 1000) then (bif restOk s 0 s.size then K (rB true) [] else K (rB false) []) else none) else none) else none
theorem nameAns'_ok {K : AV → List Blk → Ans} {s : ByteArray} : nameAns' K s = K (rB (namedB s)) [] := by
  unfold nameAns' namedB
  by_cases h1 : (s.size : Int) < 1
  · rw [decide_eq_true h1]; rfl
  by_cases h2 : 40 < (s.size : Int)
  · rw [decide_eq_false h1, decide_eq_true h2]; rfl
  rw [decide_eq_false h1, decide_eq_false h2, decide_eq_true (show (0 : Int) < (s.size : Int) by omega), decide_eq_true (show (s.size : Int) ≤ 1000 by omega)]
  simp only [Int.le_refl, decide_true, Bool.and_self, cond_true, cond_false]
  cases decide (byteAt s 0 < 97) with
  | true => rfl
  | false =>
    cases decide (122 < byteAt s 0) with
    | true => rfl
    | false => cases restOk s 0 s.size <;> rfl
end Go.Ev

namespace Go.Ev
open Go
def checkSrc (s : Source) : Int := bif !(namedB s.name) then 8 else bif decide (s.ra < 0) then 8 else bif decide (720 ≤ s.ra) then 8 else bif decide (s.dec < -180) then 8 else bif decide (180 < s.dec) then 8 else 0
structure SrcOk (s : Source) : Prop where
  ra0 : 0 ≤ s.ra
  ra1 : s.ra < 720
  dec0 : -180 ≤ s.dec
  dec1 : s.dec ≤ 180
  name : namedB s.name = true
theorem checkSrc_iff {s : Source} : checkSrc s = 0 ↔ SrcOk s := by
  unfold checkSrc
  cases hn : namedB s.name with
  | false => exact ⟨fun h => by simp at h, fun h => by rw [h.name] at hn; cases hn⟩
  | true =>
    simp only [Bool.not_true, cond_eq_ite, Bool.false_eq_true, if_false, decide_eq_true_eq]
    constructor
    · intro h
      split at h
      · omega
      split at h
      · omega
      split at h
      · omega
      split at h
      · omega
      exact ⟨by omega, by omega, by omega, by omega, hn⟩
    · intro h
      rw [if_neg (by have := h.ra0; omega), if_neg (by have := h.ra1; omega), if_neg (by have := h.dec0; omega), if_neg (by have := h.dec1; omega)]
theorem checkSrc_or (s : Source) : checkSrc s = 0 ∨ checkSrc s = 8 := by
  unfold checkSrc
  cases namedB s.name <;> cases decide (s.ra < 0) <;> cases decide (720 ≤ s.ra) <;> cases decide (s.dec < -180) <;> cases decide (180 < s.dec) <;> simp
def rSpan2 (r : Span × Span) : AV := .tup [.agg r.1.cells, .agg r.2.cells]
def dirS (ra dec tick : Int) : Dir := ⟨(mulS (cosT dec) (cosT (ra - tick))).1, (mulS (cosT dec) (sinT (ra - tick))).1, sinT dec⟩
def dirOn (ra dec tick : Int) : Bool := decide (0 ≤ ra) && (decide (ra < 720) && (decide (-180 ≤ dec) && (decide (dec ≤ 180) && (decide (-1000000 ≤ tick) && decide (tick ≤ 1000000)))))
def dirAns (K : AV → List Blk → Ans) (ra dec tick : Int) : Ans :=
  bif (mulS (cosT dec) (cosT (w64 (ra - tick)))).2 != 0 then K (rDirE (dirZ, (mulS (cosT dec) (cosT (w64 (ra - tick)))).2)) [] else
  bif (mulS (cosT dec) (sinT (w64 (ra - tick)))).2 != 0 then K (rDirE (dirZ, (mulS (cosT dec) (sinT (w64 (ra - tick)))).2)) [] else
  K (rDirE (⟨(mulS (cosT dec) (cosT (w64 (ra - tick)))).1, (mulS (cosT dec) (sinT (w64 (ra - tick)))).1, sinT dec⟩, 0)) []
theorem dirAns_ok {K : AV → List Blk → Ans} {ra dec tick : Int} (h : dirOn ra dec tick = true) : dirAns K ra dec tick = K (rDirE (dirS ra dec tick, 0)) [] := by
  simp only [dirOn, Bool.and_eq_true, decide_eq_true_eq] at h
  unfold dirAns dirS
  rw [w64_id (by omega)]
  obtain ⟨p, hp, _⟩ := mulS_unit (cosT_unit dec) (cosT_unit (ra - tick))
  obtain ⟨q, hq, _⟩ := mulS_unit (cosT_unit dec) (sinT_unit (ra - tick))
  rw [hp, hq]
  rfl
def atAns (K : AV → List Blk → Ans) (s : Source) (tick : Int) : Ans :=
  bif checkSrc s != 0 then K (rDirE (dirZ, checkSrc s)) [] else bif decide (tick < -1000000) then K (rDirE (dirZ, 2)) [] else bif decide (1000000 < tick) then K (rDirE (dirZ, 2)) [] else
  bif dirOn s.ra s.dec tick then K (rDirE (dirS s.ra s.dec tick, 0)) [] else none
def atS (s : Source) (tick : Int) : Dir × Int := bif checkSrc s != 0 then (dirZ, 8) else bif decide (tick < -1000000) then (dirZ, 2) else bif decide (1000000 < tick) then (dirZ, 2) else (dirS s.ra s.dec tick, 0)
theorem atAns_ok {K : AV → List Blk → Ans} {s : Source} {tick : Int} : atAns K s tick = K (rDirE (atS s tick)) [] := by
  unfold atAns atS
  rcases checkSrc_or s with h | h
  · have ok := checkSrc_iff.1 h
    rw [h]
    by_cases h1 : tick < -1000000
    · rw [decide_eq_true h1]; rfl
    by_cases h2 : 1000000 < tick
    · rw [decide_eq_false h1, decide_eq_true h2]; rfl
    have := ok.ra0
    have := ok.ra1
    have := ok.dec0
    have := ok.dec1
    rw [decide_eq_false h1, decide_eq_false h2, show dirOn s.ra s.dec tick = true by simp only [dirOn, Bool.and_eq_true, decide_eq_true_eq]; omega]
    rfl
  · rw [h]; rfl
theorem atS_ok {s : Source} {tick : Int} (h : SrcOk s) (ht : -1000000 ≤ tick ∧ tick ≤ 1000000) : atS s tick = (dirS s.ra s.dec tick, 0) := by
  unfold atS
  rw [checkSrc_iff.2 h, decide_eq_false (by omega), decide_eq_false (by omega)]
  rfl
def validAns (bad ok : Ans) : List Span → Ans
  | [] => ok
  | a :: r => bif decide (a.hi < a.lo) then bad else bif decide (a.lo < -3000000000) then bad else bif decide (3000000000 < a.hi) then bad else validAns bad ok r
theorem validAns_ok {bad ok : Ans} : ∀ l : List Span, validAns bad ok l = bif l.all spanValid then ok else bad
  | [] => rfl
  | a :: r => by
    rw [validAns, validAns_ok r, List.all_cons]
    cases hv : spanValid a with
    | true =>
      rw [spanValid_iff] at hv
      rw [decide_eq_false (by omega), decide_eq_false (by omega), decide_eq_false (by omega)]
      rfl
    | false =>
      have hn : ¬ (a.lo ≤ a.hi ∧ -3000000000 ≤ a.lo ∧ a.hi ≤ 3000000000) := fun hh => by rw [spanValid_iff.2 hh] at hv; cases hv
      by_cases h1 : a.hi < a.lo
      · rw [decide_eq_true h1]; rfl
      by_cases h2 : a.lo < -3000000000
      · rw [decide_eq_false h1, decide_eq_true h2]; rfl
      rw [decide_eq_false h1, decide_eq_false h2, decide_eq_true (by omega)]
      rfl
def prodsAns (K : AV → List Blk → Ans) : Span → List (Span × Span) → Ans
  | sum, [] => K (rSpanE (sum, 0)) []
  | sum, p :: r => bif (mulS p.1 p.2).2 == 0 then (bif (addS sum (mulS p.1 p.2).1).2 != 0 then K (rSpanE (spanZ, (addS sum (mulS p.1 p.2).1).2)) [] else prodsAns K (addS sum (mulS p.1 p.2).1).1 r)
    else (bif (mulS p.1 p.2).2 != 0 then K (rSpanE (spanZ, (mulS p.1 p.2).2)) [] else prodsAns K sum r)
def prodsS : Span → List (Span × Span) → Span × Int
  | sum, [] => (sum, 0)
  | sum, p :: r => bif (mulS p.1 p.2).2 == 0 then (bif (addS sum (mulS p.1 p.2).1).2 == 0 then prodsS (addS sum (mulS p.1 p.2).1).1 r else (spanZ, (addS sum (mulS p.1 p.2).1).2)) else (spanZ, (mulS p.1 p.2).2)
theorem prodsAns_ok {K : AV → List Blk → Ans} : ∀ (l : List (Span × Span)) (sum : Span), prodsAns K sum l = K (rSpanE (prodsS sum l)) []
  | [], _ => rfl
  | p :: r, sum => by
    rw [prodsAns, prodsS]
    cases h : (mulS p.1 p.2).2 == 0 with
    | true =>
      simp only [cond_true]
      cases h2 : (addS sum (mulS p.1 p.2).1).2 == 0 with
      | true => simp only [bne, h2, Bool.not_true, cond_false, cond_true]; exact prodsAns_ok r _
      | false => simp only [bne, h2, Bool.not_false, cond_false, cond_true]
    | false => simp only [bne, h, Bool.not_false, cond_false, cond_true]
def dotS (a b : Dir) : Span × Int := bif [a.x, a.y, a.z, b.x, b.y, b.z].all spanValid then prodsS spanZ [(a.x, b.x), (a.y, b.y), (a.z, b.z)] else (spanZ, 8)
theorem unit_valid {a : Span} (h : Unit1 a) : spanValid a = true := by
  rw [spanValid_iff]
  unfold Unit1 at h
  omega
end Go.Ev

namespace Go.Ev
open Go
theorem spanValid_negS (b : Span) : spanValid (negS b) = spanValid b := by
  rw [Bool.eq_iff_iff, spanValid_iff, spanValid_iff]
  simp only [negS]
  omega
end Go.Ev

namespace Go.Ev
open Go
end Go.Ev

namespace Go.Ev
open Go
def fracOf (n d : Int) : Frac × Int := bif decide (absI n / gcdI n d ≤ 1000000000000000000) && decide (d / gcdI n d ≤ 1000000000000000000) then (⟨n / gcdI n d, d / gcdI n d⟩, 0) else (fracZ, 16)
def cutF (n d : Int) : Frac × Int := bif decide (absI n ≤ 1000000000000000000) && decide (d ≤ 1000000000000000000) then (⟨n, d⟩, 0) else (fracZ, 16)
theorem fracOf_red {n d c n' d' : Int} (hc : 0 < c) (hn : n = c * n') (hd : d = c * d') (hg : Int.gcd n' d' = 1) : fracOf n d = cutF n' d' := by
  have e : gcdI n d = c := by
    rw [gcdI_eq, hn, hd, Int.gcd_mul_left, hg]
    omega
  have e1 : n / c = n' := by rw [hn]; exact Int.mul_ediv_cancel_left _ (by omega)
  have e2 : d / c = d' := by rw [hd]; exact Int.mul_ediv_cancel_left _ (by omega)
  have e3 : absI n / c = absI n' := by
    simp only [absI_eq]
    rw [hn, Int.natAbs_mul, Int.natCast_mul, show ((c.natAbs : Nat) : Int) = c by omega]
    exact Int.mul_ediv_cancel_left _ (by omega)
  unfold fracOf cutF
  rw [e, e1, e2, e3]
theorem coprime_sum {an bn : Int} {a b d : Nat} (hab : Nat.Coprime a b) (h : Nat.Coprime an.natAbs (d * a)) : Nat.Coprime (an * b + bn * a).natAbs a := by
  unfold Nat.Coprime
  have hp1 : Nat.gcd (an * b + bn * a).natAbs a ∣ a := Nat.gcd_dvd_right _ _
  have hp2 : Nat.gcd (an * b + bn * a).natAbs a ∣ (an * b + bn * a).natAbs := Nat.gcd_dvd_left _ _
  generalize Nat.gcd (an * b + bn * a).natAbs a = p at *
  have h1 : (p : Int) ∣ an * b + bn * a := Int.ofNat_dvd_left.2 hp2
  have h2 : (p : Int) ∣ bn * a := Int.dvd_trans (Int.natCast_dvd_natCast.2 hp1) (Int.dvd_mul_left _ _)
  have h3 : (p : Int) ∣ an * b := (Int.dvd_add_left h2).1 h1
  have h4 : p ∣ an.natAbs * b := by
    have := Int.ofNat_dvd_left.1 h3
    rwa [Int.natAbs_mul, Int.natAbs_natCast] at this
  have h5 : Nat.Coprime p b := Nat.Coprime.coprime_dvd_left hp1 hab
  have h6 : p ∣ an.natAbs := h5.dvd_of_dvd_mul_right h4
  have h7 : p ∣ d * a := Nat.dvd_trans hp1 (Nat.dvd_mul_left _ _)
  have h8 := Nat.dvd_gcd h6 h7
  rw [h] at h8
  exact Nat.eq_one_of_dvd_one h8
theorem sum_red {a b : Frac} (ha : FracOk a) (hb : FracOk b) : ∃ d p q g t m : Int, 0 < d ∧ 0 < p ∧ 0 < q ∧ 0 < g ∧ 0 < m ∧ gcdI a.den b.den = d ∧ a.den = d * p ∧ b.den = d * q ∧ gcdI d (a.num * q + b.num * p) = g ∧ a.num * q + b.num * p = g * t ∧ b.den = g * m ∧ Int.gcd t (p * m) = 1 ∧
    fracOf (a.num * b.den + b.num * a.den) (a.den * b.den) = cutF t (p * m) := by
  obtain ⟨ad, had⟩ := Int.eq_ofNat_of_zero_le (show 0 ≤ a.den by have := ha.denlo; omega)
  obtain ⟨bd, hbd⟩ := Int.eq_ofNat_of_zero_le (show 0 ≤ b.den by have := hb.denlo; omega)
  have hapos : 0 < ad := by have := ha.denlo; omega
  have hbpos : 0 < bd := by have := hb.denlo; omega
  have hd : 0 < Nat.gcd ad bd := Nat.gcd_pos_of_pos_left _ hapos
  obtain ⟨p, hp⟩ := Nat.gcd_dvd_left ad bd
  obtain ⟨q, hq⟩ := Nat.gcd_dvd_right ad bd
  have hco : Nat.Coprime p q := by
    have := Nat.coprime_div_gcd_div_gcd hd
    rwa [Nat.div_eq_of_eq_mul_right hd hp, Nat.div_eq_of_eq_mul_right hd hq] at this
  have hgd : gcdI a.den b.den = ((Nat.gcd ad bd : Nat) : Int) := by rw [had, hbd, gcdI_nat]
  have hca : Nat.Coprime a.num.natAbs ad := by
    have := ha.gcd
    rwa [Int.gcd_eq_natAbs_gcd_natAbs, had, Int.natAbs_natCast] at this
  have hcb : Nat.Coprime b.num.natAbs bd := by
    have := hb.gcd
    rwa [Int.gcd_eq_natAbs_gcd_natAbs, hbd, Int.natAbs_natCast] at this
  generalize Nat.gcd ad bd = d at *
  have hp0 : 0 < p := by
    rcases Nat.eq_zero_or_pos p with e | e
    · subst e; omega
    · exact e
  have hq0 : 0 < q := by
    rcases Nat.eq_zero_or_pos q with e | e
    · subst e; omega
    · exact e
  have c1 : Nat.Coprime (a.num * q + b.num * p).natAbs p := coprime_sum (d := d) hco (by rw [← hp]; exact hca)
  have c2 : Nat.Coprime (a.num * q + b.num * p).natAbs q := by
    rw [Int.add_comm]
    exact coprime_sum (d := d) hco.symm (by rw [← hq]; exact hcb)
  have hg : 0 < Nat.gcd d (a.num * q + b.num * p).natAbs := Nat.gcd_pos_of_pos_left _ hd
  have hgI : gcdI d (a.num * q + b.num * p) = ((Nat.gcd d (a.num * q + b.num * p).natAbs : Nat) : Int) := by rw [gcdI_eq, Int.gcd_eq_natAbs_gcd_natAbs, Int.natAbs_natCast]
  obtain ⟨u, hu⟩ := Nat.gcd_dvd_left d (a.num * q + b.num * p).natAbs
  obtain ⟨t', ht'⟩ := Nat.gcd_dvd_right d (a.num * q + b.num * p).natAbs
  have hcu : Nat.Coprime u t' := by
    have := Nat.coprime_div_gcd_div_gcd hg
    rwa [Nat.div_eq_of_eq_mul_right hg hu, Nat.div_eq_of_eq_mul_right hg ht'] at this
  generalize hG : Nat.gcd d (a.num * q + b.num * p).natAbs = g at *
  have hdvd : (g : Int) ∣ a.num * q + b.num * p := Int.ofNat_dvd_left.2 ⟨t', ht'⟩
  obtain ⟨t, ht⟩ := hdvd
  have htt : t.natAbs = t' := by
    rw [ht, Int.natAbs_mul, Int.natAbs_natCast] at ht'
    exact Nat.eq_of_mul_eq_mul_left hg ht'
  have hu0 : 0 < u := by
    rcases Nat.eq_zero_or_pos u with e | e
    · subst e; omega
    · exact e
  have hm0 : 0 < u * q := Nat.mul_pos hu0 hq0
  have hcop : Int.gcd t ((p : Int) * ((u * q : Nat) : Int)) = 1 := by
    rw [Int.gcd_eq_natAbs_gcd_natAbs, Int.natAbs_mul, Int.natAbs_natCast, Int.natAbs_natCast, htt]
    have k1 : Nat.Coprime t' p := Nat.Coprime.coprime_dvd_left ⟨g, by rw [ht', Nat.mul_comm]⟩ c1
    have k2 : Nat.Coprime t' q := Nat.Coprime.coprime_dvd_left ⟨g, by rw [ht', Nat.mul_comm]⟩ c2
    exact Nat.Coprime.mul_right k1 (Nat.Coprime.mul_right hcu.symm k2)
  refine ⟨d, p, q, g, t, ((u * q : Nat) : Int), by omega, by omega, by omega, by omega, by omega, hgd, ?_, ?_, hgI, ht, ?_, hcop, ?_⟩
  · rw [had, hp]; simp
  · rw [hbd, hq]; simp
  · rw [hbd, hq, hu]; simp only [Int.natCast_mul]; grind
  · have hbd' : b.den = g * ((u * q : Nat) : Int) := by rw [hbd, hq, hu]; simp only [Int.natCast_mul]; grind
    have had' : a.den = d * (p : Int) := by rw [had, hp]; simp
    have hbd2 : b.den = d * (q : Int) := by rw [hbd, hq]; simp
    refine fracOf_red (c := (d : Int) * g) (Int.mul_pos (by omega) (by omega)) ?_ ?_ ?_
    · have : a.num * b.den + b.num * a.den = d * (a.num * q + b.num * p) := by rw [had', hbd2]; grind
      rw [this, ht]
      grind
    · rw [had', hbd']
      grind
    · exact hcop
theorem prod_red {a b : Frac} (ha : FracOk a) (hb : FracOk b) : ∃ g h x y u v : Int, 0 < g ∧ 0 < h ∧ 0 < u ∧ 0 < v ∧ gcdI a.num b.den = g ∧ gcdI b.num a.den = h ∧ a.num = g * x ∧ b.num = h * y ∧ a.den = h * u ∧ b.den = g * v ∧ fracOf (a.num * b.num) (a.den * b.den) = cutF (x * y) (u * v) := by
  have hbd := hb.denlo
  have had := ha.denlo
  have hg : 0 < gcdI a.num b.den := gcdI_pos (by omega)
  have hh : 0 < gcdI b.num a.den := gcdI_pos (by omega)
  obtain ⟨x, hx⟩ : gcdI a.num b.den ∣ a.num := gcdI_dvd_left ..
  obtain ⟨v, hv⟩ : gcdI a.num b.den ∣ b.den := gcdI_dvd_right ..
  obtain ⟨y, hy⟩ : gcdI b.num a.den ∣ b.num := gcdI_dvd_left ..
  obtain ⟨u, hu⟩ : gcdI b.num a.den ∣ a.den := gcdI_dvd_right ..
  generalize hG : gcdI a.num b.den = g at *
  generalize hH : gcdI b.num a.den = h at *
  have cop : ∀ k m n : Int, 0 < k → gcdI (k * m) (k * n) = k → Int.gcd m n = 1 := by
    intro k m n hk e
    rw [gcdI_eq] at e
    rw [Int.gcd_mul_left, Int.natCast_mul, show ((k.natAbs : Nat) : Int) = k by omega] at e
    have : ((Int.gcd m n : Nat) : Int) = 1 := Int.eq_of_mul_eq_mul_left (a := k) (by omega) (by omega)
    omega
  have c1 : Int.gcd x v = 1 := cop g x v hg (by rw [← hx, ← hv]; exact hG)
  have c2 : Int.gcd y u = 1 := cop h y u hh (by rw [← hy, ← hu]; exact hH)
  have hu0 : 0 < u := by
    rcases Int.lt_or_le 0 u with e | e
    · exact e
    · have := Int.mul_le_mul_of_nonneg_left e (show 0 ≤ h by omega)
      omega
  have hv0 : 0 < v := by
    rcases Int.lt_or_le 0 v with e | e
    · exact e
    · have := Int.mul_le_mul_of_nonneg_left e (show 0 ≤ g by omega)
      omega
  refine ⟨g, h, x, y, u, v, hg, hh, hu0, hv0, rfl, rfl, hx, hy, hu, hv, ?_⟩
  refine fracOf_red (c := g * h) (Int.mul_pos hg hh) ?_ ?_ ?_
  · rw [hx, hy]; grind
  · rw [hu, hv]; grind
  · have ga := ha.gcd
    have gb := hb.gcd
    rw [Int.gcd_eq_natAbs_gcd_natAbs] at ga gb c1 c2 ⊢
    rw [hx, hu, Int.natAbs_mul, Int.natAbs_mul] at ga
    rw [hy, hv, Int.natAbs_mul, Int.natAbs_mul] at gb
    rw [Int.natAbs_mul, Int.natAbs_mul]
    have k1 : Nat.Coprime x.natAbs u.natAbs := Nat.Coprime.coprime_dvd_left (Nat.dvd_mul_left _ _) (Nat.Coprime.symm (Nat.Coprime.coprime_dvd_left (Nat.dvd_mul_left _ _) (Nat.Coprime.symm ga)))
    have k2 : Nat.Coprime y.natAbs v.natAbs := Nat.Coprime.coprime_dvd_left (Nat.dvd_mul_left _ _) (Nat.Coprime.symm (Nat.Coprime.coprime_dvd_left (Nat.dvd_mul_left _ _) (Nat.Coprime.symm gb)))
    exact Nat.Coprime.mul_left (Nat.Coprime.mul_right k1 c1) (Nat.Coprime.mul_right c2 k2)
def addF (a b : Frac) : Frac × Int := bif fracOkB a && fracOkB b then fracOf (a.num * b.den + b.num * a.den) (a.den * b.den) else (fracZ, 8)
def subF (a b : Frac) : Frac × Int := bif fracOkB a && fracOkB b then fracOf (a.num * b.den - b.num * a.den) (a.den * b.den) else (fracZ, 8)
def mulF (a b : Frac) : Frac × Int := bif fracOkB a && fracOkB b then fracOf (a.num * b.num) (a.den * b.den) else (fracZ, 8)
theorem FracOk.neg {a : Frac} (h : FracOk a) : FracOk ⟨-a.num, a.den⟩ := ⟨h.denlo, h.denhi, by have := h.numhi; simp only; omega, by have := h.numlo; simp only; omega, by rw [Int.gcd_eq_natAbs_gcd_natAbs, Int.natAbs_neg, ← Int.gcd_eq_natAbs_gcd_natAbs]; exact h.gcd⟩
end Go.Ev

namespace Go.Ev
open Go
def add64 (x y c : Int) : Int × Int := ((x + y + c) % 18446744073709551616, (x + y + c) / 18446744073709551616)
def sub64 (x y c : Int) : Int × Int := ((x - y - c) % 18446744073709551616, bif decide (x < y + c) then 1 else 0)
def cmpI (x y : Int) : Int := bif decide (y < x) then 1 else bif x == y then 0 else -1
def widerTail (ah al bh bl : Int) : Int := bif ah == bh then (bif al == bl then 0 else -1) else -1
def widerRaw (ah al bh bl : Int) : Int := bif decide (bh < ah) then 1 else bif ah == bh then (bif decide (bl < al) then 1 else widerTail ah al bh bl) else widerTail ah al bh bl
theorem widerRaw_ok {ah al bh bl : Int} (h1 : 0 ≤ al ∧ al ≤ 18446744073709551615) (h2 : 0 ≤ bl ∧ bl ≤ 18446744073709551615) : widerRaw ah al bh bl = cmpI (ah * 18446744073709551616 + al) (bh * 18446744073709551616 + bl) := by
  unfold widerRaw widerTail cmpI
  by_cases a : bh < ah
  · rw [decide_eq_true a, decide_eq_true (show bh * 18446744073709551616 + bl < ah * 18446744073709551616 + al by omega)]; rfl
  rw [decide_eq_false a]
  by_cases b : ah = bh
  · subst b
    simp only [beq_self_eq_true, cond_true, cond_false]
    by_cases c : bl < al
    · rw [decide_eq_true c, decide_eq_true (show ah * 18446744073709551616 + bl < ah * 18446744073709551616 + al by omega)]; rfl
    rw [decide_eq_false c, decide_eq_false (show ¬ ah * 18446744073709551616 + bl < ah * 18446744073709551616 + al by omega)]
    simp only [cond_false]
    by_cases d : al = bl
    · subst d; simp
    · rw [show (al == bl) = false by simpa using d, show (ah * 18446744073709551616 + al == ah * 18446744073709551616 + bl) = false by simp; omega]
  · rw [show (ah == bh) = false by simpa using b, decide_eq_false (show ¬ bh * 18446744073709551616 + bl < ah * 18446744073709551616 + al by omega), show (ah * 18446744073709551616 + al == bh * 18446744073709551616 + bl) = false by simp; omega]
    rfl
def remAns (K : AV → List Blk → Ans) (hi lo y : Int) : Ans := bif y == 0 then none else bif decide (hi.tmod y < y) then K (rU ((hi.tmod y * 18446744073709551616 + lo) % y)) [] else none
theorem remAns_ok {K : AV → List Blk → Ans} {hi lo y : Int} (h1 : 0 ≤ hi) (hy : 0 < y) : remAns K hi lo y = K (rU ((hi * 18446744073709551616 + lo) % y)) [] := by
  unfold remAns
  rw [show (y == 0) = false by simp; omega, decide_eq_true (Int.tmod_lt_of_pos hi hy), Int.tmod_eq_emod_of_nonneg h1]
  have e : (hi % y * 18446744073709551616 + lo) % y = (hi * 18446744073709551616 + lo) % y := by
    have := Int.emod_add_mul_ediv hi y
    conv => rhs; rw [← this]
    rw [Int.add_mul, Int.add_right_comm, Int.mul_assoc, Int.add_mul_emod_self_left]
  rw [e]
  rfl
def buildRaw (neg : Bool) (num den : Int) : Frac × Int :=
  bif decide (1000000000000000000 < num) then (fracZ, 16) else bif decide (1000000000000000000 < den) then (fracZ, 16) else bif neg then (⟨w64 (0 - w64 num), w64 den⟩, 0) else (⟨w64 num, w64 den⟩, 0)
theorem buildRaw_ok {neg : Bool} {num den : Int} (h1 : 0 ≤ num) (h2 : 0 ≤ den) : buildRaw neg num den = lowF neg num den := by
  unfold buildRaw lowF
  by_cases a : 1000000000000000000 < num
  · rw [decide_eq_true a, decide_eq_false (show ¬ num ≤ 1000000000000000000 by omega)]; rfl
  by_cases b : 1000000000000000000 < den
  · rw [decide_eq_false a, decide_eq_true b, decide_eq_false (show ¬ den ≤ 1000000000000000000 by omega), Bool.and_false]; rfl
  rw [decide_eq_false a, decide_eq_false b, decide_eq_true (show num ≤ 1000000000000000000 by omega), decide_eq_true (show den ≤ 1000000000000000000 by omega), w64_id (n := num) (by omega), w64_id (n := den) (by omega), w64_id (by omega)]
  cases neg <;> simp
def sumTail (K : AV → List Blk → Ans) (neg : Bool) (hi lo d ad bd : Int) : Ans :=
  bif decide (0 < d) then (
    let g := gcdI d ((hi * 18446744073709551616 + lo) % d)
    bif decide (g ≤ hi) then K (rFracE (fracZ, 16)) [] else
    bif decide (hi < g) then (bif d == 0 then none else bif g == 0 then none else
      bif (mul64 (wu64 (ad.tdiv d)) (wu64 (bd.tdiv g))).1 != 0 then K (rFracE (fracZ, 16)) [] else K (rFracE (lowF neg ((hi * 18446744073709551616 + lo) / g) (mul64 (wu64 (ad.tdiv d)) (wu64 (bd.tdiv g))).2)) [])
    else none) else none
def carryAns (c : Int) (k : Ans) : Ans := bif decide (c ≤ 1) then k else none
def sumMid (K : AV → List Blk → Ans) (an bn ah al bh bl d ad bd : Int) : Ans :=
  bif decide (an < 0) == decide (bn < 0) then
    carryAns 0 (carryAns (add64 al bl 0).2 (sumTail K (decide (an < 0)) (add64 ah bh (add64 al bl 0).2).1 (add64 al bl 0).1 d ad bd))
  else bif decide (0 ≤ cmpI (ah * 18446744073709551616 + al) (bh * 18446744073709551616 + bl)) then
    carryAns 0 (carryAns (sub64 al bl 0).2 (sumTail K (decide (an < 0)) (sub64 ah bh (sub64 al bl 0).2).1 (sub64 al bl 0).1 d ad bd))
  else carryAns 0 (carryAns (sub64 bl al 0).2 (sumTail K (decide (bn < 0)) (sub64 bh ah (sub64 bl al 0).2).1 (sub64 bl al 0).1 d ad bd))
def sumAns (K : AV → List Blk → Ans) (a b : Frac) : Ans :=
  let d := gcdI (absI a.den) (absI b.den)
  bif d == 0 then none else bif d == 0 then none else
  sumMid K a.num b.num (mul64 (absI a.num) (wu64 ((absI b.den).tdiv d))).1 (mul64 (absI a.num) (wu64 ((absI b.den).tdiv d))).2 (mul64 (absI b.num) (wu64 ((absI a.den).tdiv d))).1 (mul64 (absI b.num) (wu64 ((absI a.den).tdiv d))).2 d (absI a.den) (absI b.den)
theorem lowF_cut {neg : Bool} {t p : Int} (hneg : (bif neg then -absI t else absI t) = t) : lowF neg (absI t) p = cutF t p := by
  unfold lowF cutF
  cases decide (absI t ≤ 1000000000000000000) && decide (p ≤ 1000000000000000000) with
  | false => rfl
  | true => simp only [cond_true, hneg]
theorem cutF_big {t p : Int} (h : 1000000000000000000 < absI t ∨ 1000000000000000000 < p) : cutF t p = (fracZ, 16) := by
  unfold cutF
  rcases h with h | h
  · rw [decide_eq_false (by omega)]; rfl
  · rw [decide_eq_false (show ¬ p ≤ 1000000000000000000 by omega), Bool.and_false]; rfl
theorem sumTail_ok {K : AV → List Blk → Ans} {neg : Bool} {hi lo d p q g t m T : Int} (_ : 0 ≤ hi) (hlo : 0 ≤ lo ∧ lo < 18446744073709551616) (hS : hi * 18446744073709551616 + lo = absI T) (hneg : (bif neg then -absI T else absI T) = T)
    (hd : 0 < d) (hp : 0 < p) (hg : 0 < g) (hm : 0 < m) (hG : gcdI d T = g) (ht : T = g * t) (hb1 : d * q = g * m) (ha : d * p ≤ 1000000000000000000) (hb : d * q ≤ 1000000000000000000) : sumTail K neg hi lo d (d * p) (d * q) = K (rFracE (cutF t (p * m))) [] := by
  have hr : gcdI d (absI T % d) = g := by
    rw [← hG]
    simp only [gcdI_eq, absI_eq]
    rw [Int.gcd_eq_natAbs_gcd_natAbs, Int.gcd_eq_natAbs_gcd_natAbs]
    congr 1
    obtain ⟨d', rfl⟩ := Int.eq_ofNat_of_zero_le (Int.le_of_lt hd)
    rw [← Int.natCast_emod, Int.natAbs_natCast, Int.natAbs_natCast, Nat.gcd_comm, ← Nat.gcd_rec]
  have habs : absI T = g * absI t := by
    rw [ht]
    simp only [absI_eq]
    rw [Int.natAbs_mul, Int.natCast_mul, show ((g.natAbs : Nat) : Int) = g by omega]
  have hp1 : p ≤ d * p := by
    have := Int.mul_le_mul_of_nonneg_right (show 1 ≤ d by omega) (show 0 ≤ p by omega)
    omega
  have hm1 : m ≤ g * m := by
    have := Int.mul_le_mul_of_nonneg_right (show 1 ≤ g by omega) (show 0 ≤ m by omega)
    omega
  unfold sumTail
  rw [decide_eq_true hd, cond_true, hS, hr]
  simp only
  by_cases hc : g ≤ hi
  · rw [decide_eq_true hc, cond_true, cutF_big]
    left
    have h1 : g * 18446744073709551616 ≤ g * absI t := by
      have := Int.mul_le_mul_of_nonneg_right hc (show (0 : Int) ≤ 18446744073709551616 by decide)
      omega
    have := Int.le_of_mul_le_mul_left h1 hg
    omega
  · rw [decide_eq_false hc, decide_eq_true (show hi < g by omega), show (d == 0) = false by simp; omega, show (g == 0) = false by simp; omega]
    simp only [cond_true, cond_false]
    have e1 : wu64 ((d * p).tdiv d) = p := by
      rw [Int.mul_tdiv_cancel_left _ (by omega)]
      exact wu64_id (by omega)
    have e2 : wu64 ((d * q).tdiv g) = m := by
      rw [hb1, Int.mul_tdiv_cancel_left _ (by omega)]
      exact wu64_id (by omega)
    have e3 : absI T / g = absI t := by rw [habs]; exact Int.mul_ediv_cancel_left _ (by omega)
    rw [e1, e2, e3]
    have hpm : 0 < p * m := Int.mul_pos hp hm
    unfold mul64
    simp only
    by_cases hbig : p * m / 18446744073709551616 = 0
    · rw [hbig]
      have e4 : p * m % 18446744073709551616 = p * m := by omega
      rw [e4]
      have hn : (bif neg then -absI t else absI t) = t := by
        have h2 : (bif neg then -absI t else absI t) * g = t * g := by
          have h3 := hneg
          rw [habs, ht] at h3
          cases neg
          · simp only [cond_false] at h3 ⊢
            rw [Int.mul_comm, h3, Int.mul_comm]
          · simp only [cond_true] at h3 ⊢
            rw [Int.neg_mul, Int.mul_comm, h3, Int.mul_comm]
        exact Int.eq_of_mul_eq_mul_right (by omega) h2
      rw [lowF_cut hn]
      rfl
    · rw [show (p * m / 18446744073709551616 != 0) = true by simpa using hbig, cond_true, cutF_big]
      right
      omega
theorem add_128 {X Y : Int} (hX : 0 ≤ X ∧ X ≤ 1000000000000000000 * 1000000000000000000) (hY : 0 ≤ Y ∧ Y ≤ 1000000000000000000 * 1000000000000000000) :
    (add64 (X % 18446744073709551616) (Y % 18446744073709551616) 0).2 ≤ 1 ∧ 0 ≤ (add64 (X / 18446744073709551616) (Y / 18446744073709551616) (add64 (X % 18446744073709551616) (Y % 18446744073709551616) 0).2).1 ∧
    (0 ≤ (add64 (X % 18446744073709551616) (Y % 18446744073709551616) 0).1 ∧ (add64 (X % 18446744073709551616) (Y % 18446744073709551616) 0).1 < 18446744073709551616) ∧
    (add64 (X / 18446744073709551616) (Y / 18446744073709551616) (add64 (X % 18446744073709551616) (Y % 18446744073709551616) 0).2).1 * 18446744073709551616 + (add64 (X % 18446744073709551616) (Y % 18446744073709551616) 0).1 = X + Y := by
  unfold add64
  simp only
  omega
theorem sub_128 {X Y : Int} (hX : 0 ≤ X ∧ X ≤ 1000000000000000000 * 1000000000000000000) (hY : 0 ≤ Y ∧ Y ≤ 1000000000000000000 * 1000000000000000000) (h : Y ≤ X) :
    (sub64 (X % 18446744073709551616) (Y % 18446744073709551616) 0).2 ≤ 1 ∧ 0 ≤ (sub64 (X / 18446744073709551616) (Y / 18446744073709551616) (sub64 (X % 18446744073709551616) (Y % 18446744073709551616) 0).2).1 ∧
    (0 ≤ (sub64 (X % 18446744073709551616) (Y % 18446744073709551616) 0).1 ∧ (sub64 (X % 18446744073709551616) (Y % 18446744073709551616) 0).1 < 18446744073709551616) ∧
    (sub64 (X / 18446744073709551616) (Y / 18446744073709551616) (sub64 (X % 18446744073709551616) (Y % 18446744073709551616) 0).2).1 * 18446744073709551616 + (sub64 (X % 18446744073709551616) (Y % 18446744073709551616) 0).1 = X - Y := by
  unfold sub64
  simp only
  by_cases hb : X % 18446744073709551616 < Y % 18446744073709551616 + 0
  · rw [decide_eq_true hb]
    simp only [cond_true]
    omega
  · rw [decide_eq_false hb]
    simp only [cond_false]
    omega
theorem cmp_128 (X Y : Int) : cmpI (X / 18446744073709551616 * 18446744073709551616 + X % 18446744073709551616) (Y / 18446744073709551616 * 18446744073709551616 + Y % 18446744073709551616) = cmpI X Y := by congr 1 <;> omega
theorem cmpI_nonneg (X Y : Int) : decide (0 ≤ cmpI X Y) = decide (Y ≤ X) := by
  unfold cmpI
  by_cases h1 : Y < X
  · rw [decide_eq_true h1, decide_eq_true (show Y ≤ X by omega)]; rfl
  by_cases h2 : X = Y
  · subst h2; simp
  · rw [decide_eq_false h1, show (X == Y) = false by simpa using h2, decide_eq_false (show ¬ Y ≤ X by omega)]; rfl
theorem sumAns_ok {K : AV → List Blk → Ans} {a b : Frac} (ha : FracOk a) (hb : FracOk b) : sumAns K a b = K (rFracE (fracOf (a.num * b.den + b.num * a.den) (a.den * b.den))) [] := by
  obtain ⟨d, p, q, g, t, m, hd, hp, hq, hg, hm, hgd, had, hbd, hG, ht, hbm, _, hF⟩ := sum_red ha hb
  have a1 := ha.denlo
  have a2 := ha.denhi
  have a3 := ha.numlo
  have a4 := ha.numhi
  have b1 := hb.denlo
  have b2 := hb.denhi
  have b3 := hb.numlo
  have b4 := hb.numhi
  have hq1 : q ≤ d * q := by
    have := Int.mul_le_mul_of_nonneg_right (show 1 ≤ d by omega) (show 0 ≤ q by omega)
    omega
  have hp1 : p ≤ d * p := by
    have := Int.mul_le_mul_of_nonneg_right (show 1 ≤ d by omega) (show 0 ≤ p by omega)
    omega
  rw [hF]
  unfold sumAns
  rw [absI_of_nonneg (n := a.den) (by omega), absI_of_nonneg (n := b.den) (by omega), hgd]
  simp only
  rw [show (d == 0) = false by simp; omega]
  simp only [cond_false]
  have e1 : wu64 (b.den.tdiv d) = q := by
    rw [hbd, Int.mul_tdiv_cancel_left _ (by omega)]
    exact wu64_id (by omega)
  have e2 : wu64 (a.den.tdiv d) = p := by
    rw [had, Int.mul_tdiv_cancel_left _ (by omega)]
    exact wu64_id (by omega)
  rw [e1, e2, had, hbd]
  have x0 : 0 ≤ absI a.num * q := Int.mul_nonneg (absI_nonneg _) (by omega)
  have x1 : absI a.num * q ≤ 1000000000000000000 * 1000000000000000000 := Int.mul_le_mul (by unfold absI; omega) (by omega) (by omega) (by omega)
  have y0 : 0 ≤ absI b.num * p := Int.mul_nonneg (absI_nonneg _) (by omega)
  have y1 : absI b.num * p ≤ 1000000000000000000 * 1000000000000000000 := Int.mul_le_mul (by unfold absI; omega) (by omega) (by omega) (by omega)
  have sx : a.num < 0 → a.num * q = -(absI a.num * q) := fun h => by rw [absI_of_neg h, Int.neg_mul]; omega
  have sx' : ¬ a.num < 0 → a.num * q = absI a.num * q := fun h => by rw [absI_of_nonneg (by omega)]
  have sy : b.num < 0 → b.num * p = -(absI b.num * p) := fun h => by rw [absI_of_neg h, Int.neg_mul]; omega
  have sy' : ¬ b.num < 0 → b.num * p = absI b.num * p := fun h => by rw [absI_of_nonneg (by omega)]
  have fin : ∀ (neg : Bool) (hi lo : Int), 0 ≤ hi → 0 ≤ lo ∧ lo < 18446744073709551616 → hi * 18446744073709551616 + lo = absI (a.num * q + b.num * p) → (bif neg then -absI (a.num * q + b.num * p) else absI (a.num * q + b.num * p)) = a.num * q + b.num * p →
      sumTail K neg hi lo d (d * p) (d * q) = K (rFracE (cutF t (p * m))) [] := fun neg hi lo k1 k2 k3 k4 =>
    sumTail_ok k1 k2 k3 k4 hd hp hg hm hG ht (by rw [← hbd, ← hbm]) (by rw [← had]; omega) (by rw [← hbd]; omega)
  unfold sumMid mul64 carryAns
  simp only
  rw [decide_eq_true (show (0 : Int) ≤ 1 by decide), cond_true, cond_true, cond_true]
  generalize absI a.num * q = X at *
  generalize absI b.num * p = Y at *
  have ad := add_128 (X := X) (Y := Y) (by omega) (by omega)
  rw [decide_eq_true ad.1, cond_true, cmp_128, cmpI_nonneg]
  by_cases na : a.num < 0
  · by_cases nb : b.num < 0
    · rw [decide_eq_true na, decide_eq_true nb]
      simp only [beq_self_eq_true, cond_true]
      refine fin true _ _ ad.2.1 ad.2.2.1 ?_ ?_
      · rw [ad.2.2.2, sx na, sy nb]; unfold absI; omega
      · rw [sx na, sy nb]; unfold absI; simp only [cond_true]; omega
    · rw [decide_eq_true na, decide_eq_false nb]
      simp only [show (true == false) = false from rfl, cond_false]
      by_cases hc : Y ≤ X
      · have sb := sub_128 (X := X) (Y := Y) (by omega) (by omega) hc
        rw [decide_eq_true hc, cond_true, decide_eq_true sb.1, cond_true]
        refine fin true _ _ sb.2.1 sb.2.2.1 ?_ ?_
        · rw [sb.2.2.2, sx na, sy' nb]; unfold absI; omega
        · rw [sx na, sy' nb]; unfold absI; simp only [cond_true]; omega
      · have sb := sub_128 (X := Y) (Y := X) (by omega) (by omega) (by omega)
        rw [decide_eq_false hc, cond_false, decide_eq_true sb.1, cond_true]
        refine fin false _ _ sb.2.1 sb.2.2.1 ?_ ?_
        · rw [sb.2.2.2, sx na, sy' nb]; unfold absI; omega
        · rw [sx na, sy' nb]; unfold absI; simp only [cond_false]; omega
  · by_cases nb : b.num < 0
    · rw [decide_eq_false na, decide_eq_true nb]
      simp only [show (false == true) = false from rfl, cond_false]
      by_cases hc : Y ≤ X
      · have sb := sub_128 (X := X) (Y := Y) (by omega) (by omega) hc
        rw [decide_eq_true hc, cond_true, decide_eq_true sb.1, cond_true]
        refine fin false _ _ sb.2.1 sb.2.2.1 ?_ ?_
        · rw [sb.2.2.2, sx' na, sy nb]; unfold absI; omega
        · rw [sx' na, sy nb]; unfold absI; simp only [cond_false]; omega
      · have sb := sub_128 (X := Y) (Y := X) (by omega) (by omega) (by omega)
        rw [decide_eq_false hc, cond_false, decide_eq_true sb.1, cond_true]
        refine fin true _ _ sb.2.1 sb.2.2.1 ?_ ?_
        · rw [sb.2.2.2, sx' na, sy nb]; unfold absI; omega
        · rw [sx' na, sy nb]; unfold absI; simp only [cond_true]; omega
    · rw [decide_eq_false na, decide_eq_false nb]
      simp only [beq_self_eq_true, cond_true]
      refine fin false _ _ ad.2.1 ad.2.2.1 ?_ ?_
      · rw [ad.2.2.2, sx' na, sy' nb]; unfold absI; omega
      · rw [sx' na, sy' nb]; unfold absI; simp only [cond_false]; omega
def prodAns (K : AV → List Blk → Ans) (a b : Frac) : Ans :=
  let g := gcdI (absI a.num) (absI b.den)
  let h := gcdI (absI b.num) (absI a.den)
  bif g == 0 then none else bif h == 0 then none else
  bif h == 0 then none else bif g == 0 then none else
  let n := mul64 (wu64 ((absI a.num).tdiv g)) (wu64 ((absI b.num).tdiv h))
  let d := mul64 (wu64 ((absI a.den).tdiv h)) (wu64 ((absI b.den).tdiv g))
  bif n.1 != 0 then K (rFracE (fracZ, 16)) [] else bif d.1 != 0 then K (rFracE (fracZ, 16)) [] else K (rFracE (lowF (diffSign a.num b.num) n.2 d.2)) []
theorem diff_sign {x y : Int} : (bif diffSign x y then -absI (x * y) else absI (x * y)) = x * y := by
  have e : absI (x * y) = absI x * absI y := by simp only [absI_eq]; rw [Int.natAbs_mul, Int.natCast_mul]
  unfold diffSign
  rw [e]
  by_cases hx : x < 0
  · by_cases hy : y < 0
    · rw [decide_eq_true hx, decide_eq_true hy, absI_of_neg hx, absI_of_neg hy]
      simp [Int.neg_mul_neg]
    · rw [decide_eq_true hx, decide_eq_false hy, absI_of_neg hx, absI_of_nonneg (by omega)]
      simp [Int.neg_mul]
  · by_cases hy : y < 0
    · rw [decide_eq_false hx, decide_eq_true hy, absI_of_nonneg (by omega), absI_of_neg hy]
      simp [Int.mul_neg]
    · rw [decide_eq_false hx, decide_eq_false hy, absI_of_nonneg (by omega), absI_of_nonneg (by omega)]
      simp
theorem diffSign_pos {x y c e : Int} (hc : 0 < c) (he : 0 < e) : diffSign (c * x) (e * y) = diffSign x y := by
  have h : ∀ k z : Int, 0 < k → (decide (k * z < 0) = decide (z < 0)) := by
    intro k z hk
    apply decide_eq_decide.2
    constructor
    · intro h
      rcases Int.lt_or_le z 0 with q | q
      · exact q
      · have := Int.mul_nonneg (Int.le_of_lt hk) q
        omega
    · intro h
      exact Int.mul_neg_of_pos_of_neg hk h
  unfold diffSign
  rw [h c x hc, h e y he]
theorem prodAns_ok {K : AV → List Blk → Ans} {a b : Frac} (ha : FracOk a) (hb : FracOk b) : prodAns K a b = K (rFracE (fracOf (a.num * b.num) (a.den * b.den))) [] := by
  obtain ⟨g, h, x, y, u, v, hg, hh, hu, hv, hG, hH, hx, hy, hau, hbv, hF⟩ := prod_red ha hb
  have a1 := ha.denlo
  have a2 := ha.denhi
  have a3 := ha.numlo
  have a4 := ha.numhi
  have b1 := hb.denlo
  have b2 := hb.denhi
  have b3 := hb.numlo
  have b4 := hb.numhi
  have cut : ∀ k z w : Int, 0 < k → z = k * w → absI z ≤ 1000000000000000000 → wu64 ((absI z).tdiv k) = absI w := by
    intro k z w hk hz hle
    have e : absI z = k * absI w := by
      rw [hz]; simp only [absI_eq]; rw [Int.natAbs_mul, Int.natCast_mul, show ((k.natAbs : Nat) : Int) = k by omega]
    have h1 : absI w ≤ k * absI w := by
      have := Int.mul_le_mul_of_nonneg_right (show 1 ≤ k by omega) (absI_nonneg w)
      omega
    rw [e, Int.mul_tdiv_cancel_left _ (by omega)]
    exact wu64_id ⟨absI_nonneg w, by omega⟩
  have e1 := cut g a.num x hg hx (by unfold absI; omega)
  have e2 := cut h b.num y hh hy (by unfold absI; omega)
  have e3 := cut h a.den u hh hau (by unfold absI; omega)
  have e4 := cut g b.den v hg hbv (by unfold absI; omega)
  rw [hF]
  unfold prodAns
  rw [gcdI_abs_left, gcdI_abs_right, gcdI_abs_left, gcdI_abs_right, hG, hH]
  simp only
  rw [show (g == 0) = false by simp; omega, show (h == 0) = false by simp; omega, e1, e2, e3, e4]
  simp only [cond_false]
  have ex : absI x * absI y = absI (x * y) := by simp only [absI_eq]; rw [Int.natAbs_mul, Int.natCast_mul]
  have ey : absI u * absI v = u * v := by rw [absI_of_nonneg (by omega), absI_of_nonneg (by omega)]
  have es : diffSign a.num b.num = diffSign x y := by rw [hx, hy, diffSign_pos hg hh]
  have n0 := absI_nonneg (x * y)
  have d0 : 0 < u * v := Int.mul_pos hu hv
  unfold mul64
  simp only
  rw [ex, ey, es]
  by_cases c1 : absI (x * y) / 18446744073709551616 = 0
  · by_cases c2 : u * v / 18446744073709551616 = 0
    · rw [c1, c2, show absI (x * y) % 18446744073709551616 = absI (x * y) by omega, show u * v % 18446744073709551616 = u * v by omega, lowF_cut diff_sign]
      rfl
    · rw [c1, show (u * v / 18446744073709551616 != 0) = true by simpa using c2, cutF_big (by omega)]
      rfl
  · rw [show (absI (x * y) / 18446744073709551616 != 0) = true by simpa using c1, cutF_big (by omega)]
    rfl
end Go.Ev

namespace Go.Ev
open Go
def bothE (a b : Frac) : Int := bif checkF a != 0 then checkF a else checkF b
theorem bothE_eq (a b : Frac) : bothE a b = bif fracOkB a && fracOkB b then 0 else 8 := by
  unfold bothE checkF
  cases fracOkB a <;> cases fracOkB b <;> rfl
def sumBig (x y : Big) : Big :=
  let c0 := wu64 (0 + wu64 (x.a + y.a))
  let c1 := wu64 (shrU c0 32 + wu64 (x.b + y.b))
  let c2 := wu64 (shrU c1 32 + wu64 (x.c + y.c))
  let c3 := wu64 (shrU c2 32 + wu64 (x.d + y.d))
  ⟨bandU c0 4294967295, bandU c1 4294967295, bandU c2 4294967295, bandU c3 4294967295⟩
def sumOn (x y : Big) : Bool := bigOk x && (bigOk y && decide (valOf x + valOf y < 340282366920938463463374607431768211456))
theorem band_int {x : Int} (h : 0 ≤ x ∧ x ≤ 18446744073709551615) : bandU x 4294967295 = x % 4294967296 := by
  obtain ⟨a, rfl⟩ := Int.eq_ofNat_of_zero_le h.1
  rw [band_mask a (by omega)]
  omega
theorem shr_int {x : Int} (h : 0 ≤ x) : shrU x 32 = x / 4294967296 := by
  obtain ⟨a, rfl⟩ := Int.eq_ofNat_of_zero_le h
  rw [shr_32]
  omega
theorem sumBig_ok {x y : Big} (h : sumOn x y = true) : sumBig x y = bigOf (valOf x + valOf y) := by
  simp only [sumOn, bigOk, Bool.and_eq_true, decide_eq_true_eq] at h
  obtain ⟨⟨x1, x2, x3, x4, x5, x6, x7, x8⟩, ⟨y1, y2, y3, y4, y5, y6, y7, y8⟩, hs⟩ := h
  unfold valOf at hs
  unfold sumBig bigOf valOf
  simp only
  rw [wu64_id (n := x.a + y.a) (by omega), wu64_id (n := x.b + y.b) (by omega), wu64_id (n := x.c + y.c) (by omega), wu64_id (n := x.d + y.d) (by omega), wu64_id (n := 0 + (x.a + y.a)) (by omega)]
  rw [shr_int (x := 0 + (x.a + y.a)) (by omega), wu64_id (n := (0 + (x.a + y.a)) / 4294967296 + (x.b + y.b)) (by omega)]
  rw [shr_int (x := (0 + (x.a + y.a)) / 4294967296 + (x.b + y.b)) (by omega), wu64_id (n := ((0 + (x.a + y.a)) / 4294967296 + (x.b + y.b)) / 4294967296 + (x.c + y.c)) (by omega)]
  rw [shr_int (x := ((0 + (x.a + y.a)) / 4294967296 + (x.b + y.b)) / 4294967296 + (x.c + y.c)) (by omega), wu64_id (n := (((0 + (x.a + y.a)) / 4294967296 + (x.b + y.b)) / 4294967296 + (x.c + y.c)) / 4294967296 + (x.d + y.d)) (by omega)]
  rw [band_int (x := 0 + (x.a + y.a)) (by omega), band_int (x := (0 + (x.a + y.a)) / 4294967296 + (x.b + y.b)) (by omega), band_int (x := ((0 + (x.a + y.a)) / 4294967296 + (x.b + y.b)) / 4294967296 + (x.c + y.c)) (by omega), band_int (x := (((0 + (x.a + y.a)) / 4294967296 + (x.b + y.b)) / 4294967296 + (x.c + y.c)) / 4294967296 + (x.d + y.d)) (by omega)]
  congr 1 <;> omega
def restX (p q o : Int) : Int := wu64 (wu64 (wu64 (wu64 (p + 4294967295) + 1) - q) - o)
def restBig (x y : Big) : Big :=
  let c0 := restX x.a y.a 0
  let c1 := restX x.b y.b (wu64 (1 - shrU c0 32))
  let c2 := restX x.c y.c (wu64 (1 - shrU c1 32))
  let c3 := restX x.d y.d (wu64 (1 - shrU c2 32))
  ⟨bandU c0 4294967295, bandU c1 4294967295, bandU c2 4294967295, bandU c3 4294967295⟩
def restOn (x y : Big) : Bool := bigOk x && (bigOk y && decide (valOf y ≤ valOf x))
theorem restX_ok {p q o : Int} (hp : 0 ≤ p ∧ p < 4294967296) (hq : 0 ≤ q ∧ q < 4294967296) (ho : 0 ≤ o ∧ o ≤ 1) : restX p q o = p + 4294967296 - q - o ∧ wu64 (1 - shrU (restX p q o) 32) = (if p < q + o then 1 else 0) ∧ bandU (restX p q o) 4294967295 = (p - q - o) % 4294967296 := by
  have e : restX p q o = p + 4294967296 - q - o := by
    unfold restX
    rw [wu64_id (n := p + 4294967295) (by omega), wu64_id (n := p + 4294967295 + 1) (by omega), wu64_id (n := p + 4294967295 + 1 - q) (by omega), wu64_id (by omega)]
    omega
  refine ⟨e, ?_, ?_⟩
  · rw [e, shr_int (by omega), wu64_id (by omega)]
    split <;> omega
  · rw [e, band_int (by omega)]
    omega
theorem restBig_ok {x y : Big} (h : restOn x y = true) : restBig x y = bigOf (valOf x - valOf y) := by
  simp only [restOn, bigOk, Bool.and_eq_true, decide_eq_true_eq] at h
  obtain ⟨⟨x1, x2, x3, x4, x5, x6, x7, x8⟩, ⟨y1, y2, y3, y4, y5, y6, y7, y8⟩, hs⟩ := h
  unfold valOf at hs
  unfold restBig
  simp only
  have r0 := restX_ok (p := x.a) (q := y.a) (o := 0) ⟨x1, x2⟩ ⟨y1, y2⟩ (by omega)
  rw [r0.2.1, r0.2.2]
  have o1 : 0 ≤ (if x.a < y.a + 0 then (1 : Int) else 0) ∧ (if x.a < y.a + 0 then (1 : Int) else 0) ≤ 1 := by split <;> omega
  have r1 := restX_ok (p := x.b) (q := y.b) (o := if x.a < y.a + 0 then 1 else 0) ⟨x3, x4⟩ ⟨y3, y4⟩ o1
  rw [r1.2.1, r1.2.2]
  generalize hA : (if x.a < y.a + 0 then (1 : Int) else 0) = A at *
  have o2 : 0 ≤ (if x.b < y.b + A then (1 : Int) else 0) ∧ (if x.b < y.b + A then (1 : Int) else 0) ≤ 1 := by split <;> omega
  have r2 := restX_ok (p := x.c) (q := y.c) (o := if x.b < y.b + A then 1 else 0) ⟨x5, x6⟩ ⟨y5, y6⟩ o2
  rw [r2.2.1, r2.2.2]
  generalize hB : (if x.b < y.b + A then (1 : Int) else 0) = B at *
  have o3 : 0 ≤ (if x.c < y.c + B then (1 : Int) else 0) ∧ (if x.c < y.c + B then (1 : Int) else 0) ≤ 1 := by split <;> omega
  have r3 := restX_ok (p := x.d) (q := y.d) (o := if x.c < y.c + B then 1 else 0) ⟨x7, x8⟩ ⟨y7, y8⟩ o3
  rw [r3.2.2]
  generalize hC : (if x.c < y.c + B then (1 : Int) else 0) = C at *
  have fA : (A = 1 ∧ x.a < y.a) ∨ (A = 0 ∧ y.a ≤ x.a) := by split at hA <;> omega
  have fB : (B = 1 ∧ x.b < y.b + A) ∨ (B = 0 ∧ y.b + A ≤ x.b) := by split at hB <;> omega
  have fC : (C = 1 ∧ x.c < y.c + B) ∨ (C = 0 ∧ y.c + B ≤ x.c) := by split at hC <;> omega
  clear hA hB hC r0 r1 r2 r3
  have q0 : (x.a - y.a - 0) % 4294967296 = x.a - y.a + 4294967296 * A := by omega
  have q1 : (x.b - y.b - A) % 4294967296 = x.b - y.b - A + 4294967296 * B := by omega
  have q2 : (x.c - y.c - B) % 4294967296 = x.c - y.c - B + 4294967296 * C := by omega
  have q3 : (x.d - y.d - C) % 4294967296 = x.d - y.d - C := by omega
  rw [q0, q1, q2, q3]
  unfold bigOf valOf
  congr 1 <;> omega
def addTail (K : AV → List Blk → Ans) (a b : Frac) (g : Int) (x : Big) : Ans :=
  bif overOn x g then (
    let h := gcdI (overI (valOf x) g).2 g
    bif overOn x h then (
      let q := (overI (valOf x) h).1
      bif eqAll q.cells (Big.cells ⟨0, 0, 0, 0⟩) then K (rFracE (⟨0, 1⟩, 0)) [] else
      bif g == 0 then none else bif h == 0 then none else
      K (rFracE (lowestRaw (decide (a.num < 0)) q (bigOf (wu64 ((wu64 a.den).tdiv g) * wu64 ((wu64 b.den).tdiv h))))) []) else none) else none
def addRefAns (K : AV → List Blk → Ans) (a b : Frac) : Ans :=
  bif bothE a b != 0 then K (rFracE (fracZ, bothE a b)) [] else
  let g := gcdI (wu64 a.den) (wu64 b.den)
  bif g == 0 then none else bif g == 0 then none else
  let x := bigOf (absI a.num * wu64 ((wu64 b.den).tdiv g))
  let y := bigOf (absI b.num * wu64 ((wu64 a.den).tdiv g))
  bif decide (a.num < 0) == decide (b.num < 0) then (bif sumOn x y then addTail K a b g (bigOf (valOf x + valOf y)) else none) else
  bif belowRaw x y then (bif restOn y x then addTail K b a g (bigOf (valOf y - valOf x)) else none) else (bif restOn x y then addTail K a b g (bigOf (valOf x - valOf y)) else none)
theorem bigOf_zero {n : Int} : eqAll (bigOf n).cells (Big.cells ⟨0, 0, 0, 0⟩) = decide (n = 0) := by
  rw [Bool.eq_iff_iff]
  simp only [Big.cells, bigOf, eqAll, D.eq, Bool.and_eq_true, beq_iff_eq, decide_eq_true_eq, and_true]
  omega
theorem overOn_bigOf' {v n : Int} (hv : 0 ≤ v ∧ v < 340282366920938463463374607431768211456) (hn : 0 < n ∧ n < 4611686018427387904) : overOn (bigOf v) n = true := by
  unfold overOn
  rw [bigOk_bigOf hv]
  simp [hn.1, hn.2]
theorem addTail_ok {K : AV → List Blk → Ans} {a b : Frac} {d p q g t m T S : Int} (hS : S = absI T) (hS1 : S ≤ 2000000000000000000000000000000000000) (hneg : T ≠ 0 → (bif decide (a.num < 0) then -absI T else absI T) = T)
    (hd : 0 < d) (hp : 0 < p) (hg : 0 < g) (hm : 0 < m) (hG : gcdI d T = g) (ht : T = g * t) (had : a.den = d * p) (hbd : b.den = d * q) (hbm : b.den = g * m) (ha : a.den ≤ 1000000000000000000) (hb : b.den ≤ 1000000000000000000) (hz : T = 0 → p * m = 1) :
    addTail K a b d (bigOf S) = K (rFracE (cutF t (p * m))) [] := by
  have hS0 : 0 ≤ S := by rw [hS]; exact absI_nonneg T
  have hp1 : p ≤ d * p := by
    have := Int.mul_le_mul_of_nonneg_right (show 1 ≤ d by omega) (show 0 ≤ p by omega)
    omega
  have hm1 : m ≤ g * m := by
    have := Int.mul_le_mul_of_nonneg_right (show 1 ≤ g by omega) (show 0 ≤ m by omega)
    omega
  have hd1 : d ≤ 1000000000000000000 := by
    have := Int.mul_le_mul_of_nonneg_left (show 1 ≤ p by omega) (show 0 ≤ d by omega)
    omega
  have hg1 : g ≤ 1000000000000000000 := by
    have := Int.mul_le_mul_of_nonneg_left (show 1 ≤ m by omega) (show 0 ≤ g by omega)
    omega
  have hr : gcdI (S % d) d = g := by
    rw [← hG, hS]
    simp only [gcdI_eq, absI_eq]
    rw [Int.gcd_eq_natAbs_gcd_natAbs, Int.gcd_eq_natAbs_gcd_natAbs]
    congr 1
    obtain ⟨d', rfl⟩ := Int.eq_ofNat_of_zero_le (Int.le_of_lt hd)
    rw [← Int.natCast_emod, Int.natAbs_natCast, Int.natAbs_natCast, ← Nat.gcd_rec]
  have habs : absI T = g * absI t := by
    rw [ht]
    simp only [absI_eq]
    rw [Int.natAbs_mul, Int.natCast_mul, show ((g.natAbs : Nat) : Int) = g by omega]
  have e3 : S / g = absI t := by rw [hS, habs]; exact Int.mul_ediv_cancel_left _ (by omega)
  unfold addTail
  rw [overOn_bigOf' (by omega) (by omega), valOf_bigOf]
  simp only [cond_true]
  unfold overI
  simp only
  rw [hr, overOn_bigOf' (by omega) (by omega)]
  simp only [cond_true]
  rw [bigOf_zero, e3]
  by_cases t0 : t = 0
  · have T0 : T = 0 := by rw [ht, t0]; simp
    rw [t0, hz T0]
    rfl
  · rw [decide_eq_false (show ¬ absI t = 0 by unfold absI; omega), show (d == 0) = false by simp; omega, show (g == 0) = false by simp; omega]
    simp only [cond_false]
    have e1 : wu64 ((wu64 a.den).tdiv d) = p := by
      rw [wu64_id (n := a.den) (by omega), had, Int.mul_tdiv_cancel_left _ (by omega)]
      exact wu64_id (by omega)
    have e2 : wu64 ((wu64 b.den).tdiv g) = m := by
      rw [wu64_id (n := b.den) (by omega), hbm, Int.mul_tdiv_cancel_left _ (by omega)]
      exact wu64_id (by omega)
    have hT : T ≠ 0 := by
      intro e
      rw [ht] at e
      rcases Int.mul_eq_zero.1 e with h | h
      · omega
      · exact t0 h
    have hn : (bif decide (a.num < 0) then -absI t else absI t) = t := by
      have h3 := hneg hT
      rw [habs, ht] at h3
      generalize decide (a.num < 0) = neg at h3 ⊢
      have h2 : (bif neg then -absI t else absI t) * g = t * g := by
        cases neg
        · simp only [cond_false] at h3 ⊢
          rw [Int.mul_comm, h3, Int.mul_comm]
        · simp only [cond_true] at h3 ⊢
          rw [Int.neg_mul, Int.mul_comm, h3, Int.mul_comm]
      exact Int.eq_of_mul_eq_mul_right (by omega) h2
    rw [e1, e2, lowestRaw_ok (absI_nonneg t) (Int.le_of_lt (Int.mul_pos hp hm)), lowF_cut hn]
theorem addRefAns_ok {K : AV → List Blk → Ans} {a b : Frac} : addRefAns K a b = K (rFracE (addF a b)) [] := by
  unfold addRefAns addF
  rw [bothE_eq]
  cases hok : fracOkB a && fracOkB b with
  | false => rfl
  | true =>
    simp only [Bool.and_eq_true] at hok
    have ha := fracOkB_iff.1 hok.1
    have hb := fracOkB_iff.1 hok.2
    simp only [cond_true]
    obtain ⟨d, p, q, g, t, m, hd, hp, hq, hg, hm, hgd, had, hbd, hG, ht, hbm, hcop, hF⟩ := sum_red ha hb
    obtain ⟨d', p', q', g', t', m', hd', hp', hq', hg', hm', hgd', had', hbd', hG', ht', hbm', hcop', hF'⟩ := sum_red hb ha
    have a1 := ha.denlo
    have a2 := ha.denhi
    have a3 := ha.numlo
    have a4 := ha.numhi
    have b1 := hb.denlo
    have b2 := hb.denhi
    have b3 := hb.numlo
    have b4 := hb.numhi
    have edd : d' = d := by rw [← hgd', ← hgd]; simp only [gcdI_eq]; rw [Int.gcd_comm]
    subst edd
    have epq : p' = q := Int.eq_of_mul_eq_mul_left (a := d') (by omega) (by rw [← had', ← hbd])
    have eqp : q' = p := Int.eq_of_mul_eq_mul_left (a := d') (by omega) (by rw [← hbd', ← had])
    subst epq
    subst eqp
    have hq1 : p' ≤ d' * p' := by
      have := Int.mul_le_mul_of_nonneg_right (show 1 ≤ d' by omega) (show 0 ≤ p' by omega)
      omega
    have hp1 : q' ≤ d' * q' := by
      have := Int.mul_le_mul_of_nonneg_right (show 1 ≤ d' by omega) (show 0 ≤ q' by omega)
      omega
    rw [wu64_id (n := a.den) (by omega), wu64_id (n := b.den) (by omega), hgd, show (d' == 0) = false by simp; omega]
    simp only [cond_false]
    have e1 : wu64 (b.den.tdiv d') = p' := by
      rw [had', Int.mul_tdiv_cancel_left _ (by omega)]
      exact wu64_id (by omega)
    have e2 : wu64 (a.den.tdiv d') = q' := by
      rw [hbd', Int.mul_tdiv_cancel_left _ (by omega)]
      exact wu64_id (by omega)
    rw [e1, e2]
    have x0 : 0 ≤ absI a.num * p' := Int.mul_nonneg (absI_nonneg _) (by omega)
    have x1 : absI a.num * p' ≤ 1000000000000000000 * 1000000000000000000 := Int.mul_le_mul (by unfold absI; omega) (by omega) (by omega) (by omega)
    have y0 : 0 ≤ absI b.num * q' := Int.mul_nonneg (absI_nonneg _) (by omega)
    have y1 : absI b.num * q' ≤ 1000000000000000000 * 1000000000000000000 := Int.mul_le_mul (by unfold absI; omega) (by omega) (by omega) (by omega)
    have sx : a.num < 0 → a.num * p' = -(absI a.num * p') := fun h => by rw [absI_of_neg h, Int.neg_mul]; omega
    have sx' : ¬ a.num < 0 → a.num * p' = absI a.num * p' := fun h => by rw [absI_of_nonneg (by omega)]
    have sy : b.num < 0 → b.num * q' = -(absI b.num * q') := fun h => by rw [absI_of_neg h, Int.neg_mul]; omega
    have sy' : ¬ b.num < 0 → b.num * q' = absI b.num * q' := fun h => by rw [absI_of_nonneg (by omega)]
    have fin : ∀ S : Int, S = absI (a.num * p' + b.num * q') → (a.num * p' + b.num * q' ≠ 0 → (bif decide (a.num < 0) then -absI (a.num * p' + b.num * q') else absI (a.num * p' + b.num * q')) = a.num * p' + b.num * q') →
        addTail K a b d' (bigOf S) = K (rFracE (fracOf (a.num * b.den + b.num * a.den) (a.den * b.den))) [] := by
      intro S hS hn
      rw [hF]
      refine addTail_ok hS (by rw [hS]; unfold absI; omega) hn hd hp hg hm hG ht hbd' hbd hbm a2 b2 ?_
      intro T0
      have t0 : t = 0 := by
        rw [T0] at ht
        rcases Int.mul_eq_zero.1 ht.symm with h | h
        · omega
        · exact h
      rw [t0, Int.gcd_zero_left] at hcop
      have := Int.mul_pos hp hm
      omega
    have fin' : ∀ S : Int, S = absI (b.num * q' + a.num * p') → (b.num * q' + a.num * p' ≠ 0 → (bif decide (b.num < 0) then -absI (b.num * q' + a.num * p') else absI (b.num * q' + a.num * p')) = b.num * q' + a.num * p') →
        addTail K b a d' (bigOf S) = K (rFracE (fracOf (a.num * b.den + b.num * a.den) (a.den * b.den))) [] := by
      intro S hS hn
      rw [Int.add_comm (a.num * b.den), Int.mul_comm a.den, hF']
      refine addTail_ok hS (by rw [hS]; unfold absI; omega) hn hd hp' hg' hm' hG' ht' had' hbd' hbm' b2 a2 ?_
      intro T0
      have t0 : t' = 0 := by
        rw [T0] at ht'
        rcases Int.mul_eq_zero.1 ht'.symm with h | h
        · omega
        · exact h
      rw [t0, Int.gcd_zero_left] at hcop'
      have := Int.mul_pos hp' hm'
      omega
    rw [valOf_bigOf, valOf_bigOf, belowRaw_ok]
    generalize absI a.num * p' = X at *
    generalize absI b.num * q' = Y at *
    have o1 : sumOn (bigOf X) (bigOf Y) = true := by
      simp only [sumOn, bigOk_bigOf (m := X) (by omega), bigOk_bigOf (m := Y) (by omega), valOf_bigOf, Bool.true_and, decide_eq_true_eq]
      omega
    have o2 : Y ≤ X → restOn (bigOf X) (bigOf Y) = true := fun h => by
      simp only [restOn, bigOk_bigOf (m := X) (by omega), bigOk_bigOf (m := Y) (by omega), valOf_bigOf, Bool.true_and, decide_eq_true_eq]
      exact h
    have o3 : X ≤ Y → restOn (bigOf Y) (bigOf X) = true := fun h => by
      simp only [restOn, bigOk_bigOf (m := X) (by omega), bigOk_bigOf (m := Y) (by omega), valOf_bigOf, Bool.true_and, decide_eq_true_eq]
      exact h
    rw [o1, cond_true]
    by_cases na : a.num < 0
    · by_cases nb : b.num < 0
      · rw [decide_eq_true na, decide_eq_true nb]
        simp only [beq_self_eq_true, cond_true]
        have := fin (X + Y) (by rw [sx na, sy nb]; unfold absI; omega) (fun _ => by rw [decide_eq_true na, sx na, sy nb]; unfold absI; simp only [cond_true]; omega)
        exact this
      · rw [decide_eq_true na, decide_eq_false nb]
        simp only [show (true == false) = false from rfl, cond_false]
        by_cases hc : X < Y
        · rw [decide_eq_true hc, cond_true, o3 (by omega), cond_true]
          exact fin' (Y - X) (by rw [sx na, sy' nb]; unfold absI; omega) (fun _ => by rw [decide_eq_false nb, sx na, sy' nb]; unfold absI; simp only [cond_false]; omega)
        · rw [decide_eq_false hc, cond_false, o2 (by omega), cond_true]
          exact fin (X - Y) (by rw [sx na, sy' nb]; unfold absI; omega) (fun _ => by rw [decide_eq_true na, sx na, sy' nb]; unfold absI; simp only [cond_true]; omega)
    · by_cases nb : b.num < 0
      · rw [decide_eq_false na, decide_eq_true nb]
        simp only [show (false == true) = false from rfl, cond_false]
        by_cases hc : X < Y
        · rw [decide_eq_true hc, cond_true, o3 (by omega), cond_true]
          exact fin' (Y - X) (by rw [sx' na, sy nb]; unfold absI; omega) (fun _ => by rw [decide_eq_true nb, sx' na, sy nb]; unfold absI; simp only [cond_true]; omega)
        · rw [decide_eq_false hc, cond_false, o2 (by omega), cond_true]
          exact fin (X - Y) (by rw [sx' na, sy nb]; unfold absI; omega) (fun _ => by rw [decide_eq_false na, sx' na, sy nb]; unfold absI; simp only [cond_false]; omega)
      · rw [decide_eq_false na, decide_eq_false nb]
        simp only [beq_self_eq_true, cond_true]
        exact fin (X + Y) (by rw [sx' na, sy' nb]; unfold absI; omega) (fun _ => by rw [decide_eq_false na, sx' na, sy' nb]; unfold absI; simp only [cond_false]; omega)
def mulRefAns (K : AV → List Blk → Ans) (a b : Frac) : Ans :=
  bif bothE a b != 0 then K (rFracE (fracZ, bothE a b)) [] else
  let g := gcdI (absI a.num) (wu64 b.den)
  let h := gcdI (absI b.num) (wu64 a.den)
  bif g == 0 then none else bif h == 0 then none else bif h == 0 then none else bif g == 0 then none else
  K (rFracE (lowestRaw (diffSign a.num b.num) (bigOf (wu64 ((absI a.num).tdiv g) * wu64 ((absI b.num).tdiv h))) (bigOf (wu64 ((wu64 a.den).tdiv h) * wu64 ((wu64 b.den).tdiv g))))) []
theorem mulRefAns_ok {K : AV → List Blk → Ans} {a b : Frac} : mulRefAns K a b = K (rFracE (mulF a b)) [] := by
  unfold mulRefAns mulF
  rw [bothE_eq]
  cases hok : fracOkB a && fracOkB b with
  | false => rfl
  | true =>
    simp only [Bool.and_eq_true] at hok
    have ha := fracOkB_iff.1 hok.1
    have hb := fracOkB_iff.1 hok.2
    simp only [cond_true]
    obtain ⟨g, h, x, y, u, v, hg, hh, hu, hv, hG, hH, hx, hy, hau, hbv, hF⟩ := prod_red ha hb
    have a1 := ha.denlo
    have a2 := ha.denhi
    have a3 := ha.numlo
    have a4 := ha.numhi
    have b1 := hb.denlo
    have b2 := hb.denhi
    have b3 := hb.numlo
    have b4 := hb.numhi
    have cut : ∀ k z w : Int, 0 < k → z = k * w → absI z ≤ 1000000000000000000 → wu64 ((absI z).tdiv k) = absI w := by
      intro k z w hk hz hle
      have e : absI z = k * absI w := by
        rw [hz]; simp only [absI_eq]; rw [Int.natAbs_mul, Int.natCast_mul, show ((k.natAbs : Nat) : Int) = k by omega]
      have h1 : absI w ≤ k * absI w := by
        have := Int.mul_le_mul_of_nonneg_right (show 1 ≤ k by omega) (absI_nonneg w)
        omega
      rw [e, Int.mul_tdiv_cancel_left _ (by omega)]
      exact wu64_id ⟨absI_nonneg w, by omega⟩
    have e1 := cut g a.num x hg hx (by unfold absI; omega)
    have e2 := cut h b.num y hh hy (by unfold absI; omega)
    have e3 := cut h a.den u hh hau (by unfold absI; omega)
    have e4 := cut g b.den v hg hbv (by unfold absI; omega)
    rw [absI_of_nonneg (n := a.den) (by omega), absI_of_nonneg (n := u) (by omega)] at e3
    rw [absI_of_nonneg (n := b.den) (by omega), absI_of_nonneg (n := v) (by omega)] at e4
    rw [wu64_id (n := a.den) (by omega), wu64_id (n := b.den) (by omega), gcdI_abs_left, gcdI_abs_left, hG, hH]
    rw [show (g == 0) = false by simp; omega, show (h == 0) = false by simp; omega, e1, e2, e3, e4]
    simp only [cond_false]
    have ex : absI x * absI y = absI (x * y) := by simp only [absI_eq]; rw [Int.natAbs_mul, Int.natCast_mul]
    have es : diffSign a.num b.num = diffSign x y := by rw [hx, hy, diffSign_pos hg hh]
    rw [ex, es, lowestRaw_ok (absI_nonneg _) (Int.le_of_lt (Int.mul_pos hu hv)), lowF_cut diff_sign, hF]
    rfl
def subRefAns (K : AV → List Blk → Ans) (a b : Frac) : Ans := bif bothE a b != 0 then K (rFracE (fracZ, bothE a b)) [] else K (rFracE (addF a ⟨w64 (0 - b.num), b.den⟩)) []
theorem subRefAns_ok {K : AV → List Blk → Ans} {a b : Frac} : subRefAns K a b = K (rFracE (subF a b)) [] := by
  unfold subRefAns subF
  rw [bothE_eq]
  cases hok : fracOkB a && fracOkB b with
  | false => rfl
  | true =>
    simp only [Bool.and_eq_true] at hok
    have hb := fracOkB_iff.1 hok.2
    have b3 := hb.numlo
    have b4 := hb.numhi
    have hn : fracOkB ⟨-b.num, b.den⟩ = true := fracOkB_iff.2 hb.neg
    simp only [cond_true]
    rw [w64_id (by omega), show 0 - b.num = -b.num by omega]
    unfold addF
    rw [hok.1, hn]
    simp only [Bool.and_self, cond_true, Int.neg_mul]
    rfl
end Go.Ev

namespace Go.Ev
open Go
def vecOkB (v : Vec) : Bool := fracOkB v.x && (fracOkB v.y && fracOkB v.z)
def checkV (v : Vec) : Int := bif vecOkB v then 0 else 8
def checkVRaw (v : Vec) : Int := bif checkF v.x != 0 then 8 else bif checkF v.y != 0 then 8 else bif checkF v.z != 0 then 8 else 0
def checkVRef (v : Vec) : Int := bif bothE v.x v.y != 0 then 8 else bif checkF v.z != 0 then 8 else 0
def bothV (v w : Vec) : Int := bif checkV v != 0 then 8 else checkV w
theorem checkVRaw_ok (v : Vec) : checkVRaw v = checkV v := by
  unfold checkVRaw checkV vecOkB checkF
  cases fracOkB v.x <;> cases fracOkB v.y <;> cases fracOkB v.z <;> rfl
theorem checkVRef_ok (v : Vec) : checkVRef v = checkV v := by
  unfold checkVRef checkV vecOkB bothE checkF
  cases fracOkB v.x <;> cases fracOkB v.y <;> cases fracOkB v.z <;> rfl
structure VecOk (v : Vec) : Prop where
  x : FracOk v.x
  y : FracOk v.y
  z : FracOk v.z
theorem vecOkB_iff {v : Vec} : vecOkB v = true ↔ VecOk v := by
  unfold vecOkB
  simp only [Bool.and_eq_true, fracOkB_iff]
  exact ⟨fun h => ⟨h.1, h.2.1, h.2.2⟩, fun h => ⟨h.x, h.y, h.z⟩⟩
def eachV (x y z : Frac × Int) : Vec × Int := bif x.2 != 0 then (vecZ, x.2) else bif y.2 != 0 then (vecZ, y.2) else bif z.2 != 0 then (vecZ, z.2) else (⟨x.1, y.1, z.1⟩, 0)
def eachAns (K : AV → List Blk → Ans) (x y z : Frac × Int) : Ans := bif x.2 != 0 then K (rVecE (vecZ, x.2)) [] else bif y.2 != 0 then K (rVecE (vecZ, y.2)) [] else bif z.2 != 0 then K (rVecE (vecZ, z.2)) [] else K (rVecE (⟨x.1, y.1, z.1⟩, 0)) []
theorem eachAns_ok {K : AV → List Blk → Ans} {x y z : Frac × Int} : eachAns K x y z = K (rVecE (eachV x y z)) [] := by
  unfold eachAns eachV
  cases x.2 != 0 <;> cases y.2 != 0 <;> cases z.2 != 0 <;> rfl
def addV (v w : Vec) : Vec × Int := bif vecOkB v && vecOkB w then eachV (addF v.x w.x) (addF v.y w.y) (addF v.z w.z) else (vecZ, 8)
def twiceAns (e : Int) (bad ok : Ans) (more : Ans) : Ans := bif e != 0 then (bif e != 0 then bad else ok) else more
theorem frac_val {n d : Int} (hd : 0 < d) {x : Frac} (h : fracOf n d = (x, 0)) : FracOk x ∧ x.num * d = n * x.den := by
  have hg : 0 < gcdI n d := gcdI_pos (by omega)
  obtain ⟨n', hn⟩ : gcdI n d ∣ n := gcdI_dvd_left ..
  obtain ⟨d', hd'⟩ : gcdI n d ∣ d := gcdI_dvd_right ..
  have hc : Int.gcd n' d' = 1 := by
    have e : gcdI (gcdI n d * n') (gcdI n d * d') = gcdI n d := by rw [← hn, ← hd']
    generalize gcdI n d = k at *
    rw [gcdI_eq] at e
    rw [Int.gcd_mul_left, Int.natCast_mul, show ((k.natAbs : Nat) : Int) = k by omega] at e
    have : ((Int.gcd n' d' : Nat) : Int) = 1 := Int.eq_of_mul_eq_mul_left (a := k) (by omega) (by omega)
    omega
  rw [fracOf_red hg hn hd' hc] at h
  generalize gcdI n d = k at *
  have hd0 : 0 < d' := by
    rcases Int.lt_or_le 0 d' with q | q
    · exact q
    · have := Int.mul_le_mul_of_nonneg_left q (show 0 ≤ k by omega)
      omega
  unfold cutF at h
  cases hb : decide (absI n' ≤ 1000000000000000000) && decide (d' ≤ 1000000000000000000) with
  | false => rw [hb] at h; simp at h
  | true =>
    rw [hb] at h
    simp only [cond_true, Prod.mk.injEq, and_true] at h
    subst h
    simp only [Bool.and_eq_true, decide_eq_true_eq] at hb
    unfold absI at hb
    refine ⟨⟨by simp only; omega, hb.2, by simp only; omega, by simp only; omega, hc⟩, ?_⟩
    simp only
    rw [hn, hd']
    grind
theorem fst_of {α : Type} {x : α × Int} (h : x.2 = 0) : x = (x.1, 0) := by cases x; simp only at h; rw [h]
def divF (a b : Frac) : Frac × Int := bif fracOkB a && fracOkB b then (bif b.num == 0 then (fracZ, 18) else bif decide (b.num < 0) then fracOf (a.num * -b.den) (a.den * -b.num) else fracOf (a.num * b.den) (a.den * b.num)) else (fracZ, 8)
theorem FracOk.over {a : Frac} (h : FracOk a) (h0 : 0 < a.num) : FracOk ⟨a.den, a.num⟩ :=
  ⟨by simp only; omega, h.numhi, by have := h.denlo; simp only; omega, h.denhi, by rw [Int.gcd_comm]; exact h.gcd⟩
theorem FracOk.over' {a : Frac} (h : FracOk a) (h0 : a.num < 0) : FracOk ⟨-a.den, -a.num⟩ :=
  ⟨by simp only; omega, by have := h.numlo; simp only; omega, by have := h.denhi; simp only; omega, by have := h.denlo; simp only; omega,
   by simp only; rw [Int.gcd_comm, Int.gcd_neg, Int.neg_gcd]; exact h.gcd⟩
def subAns (K : AV → List Blk → Ans) (a b : Frac) : Ans := bif bothE a b != 0 then K (rFracE (fracZ, bothE a b)) [] else bif fracOkB a && fracOkB ⟨w64 (0 - b.num), b.den⟩ then K (rFracE (fracOf (a.num * b.den + w64 (0 - b.num) * a.den) (a.den * b.den))) [] else none
theorem subAns_ok {K : AV → List Blk → Ans} {a b : Frac} : subAns K a b = K (rFracE (subF a b)) [] := by
  unfold subAns subF
  rw [bothE_eq]
  cases ha : fracOkB a with
  | false => rfl
  | true =>
    cases hb : fracOkB b with
    | false => rfl
    | true =>
      have kb := fracOkB_iff.1 hb
      have e : w64 (0 - b.num) = -b.num := by rw [w64_id (n := 0 - b.num) (by have := kb.numhi; have := kb.numlo; omega)]; omega
      rw [e, fracOkB_iff.2 kb.neg]
      simp only [Bool.and_self, cond_true, bne_self_eq_false, cond_false]
      rw [show a.num * b.den + -b.num * a.den = a.num * b.den - b.num * a.den by rw [Int.neg_mul]; omega]
def mulAns (K : AV → List Blk → Ans) (a b : Frac) : Ans := bif bothE a b != 0 then K (rFracE (fracZ, bothE a b)) [] else bif fracOkB a && fracOkB b then K (rFracE (fracOf (a.num * b.num) (a.den * b.den))) [] else none
theorem mulAns_ok {K : AV → List Blk → Ans} {a b : Frac} : mulAns K a b = K (rFracE (mulF a b)) [] := by
  unfold mulAns mulF
  rw [bothE_eq]
  cases fracOkB a && fracOkB b <;> rfl
def divRefAns (K : AV → List Blk → Ans) (a b : Frac) : Ans := bif bothE a b != 0 then K (rFracE (fracZ, bothE a b)) [] else bif b.num == 0 then K (rFracE (fracZ, 18)) [] else
  bif decide (b.num < 0) then K (rFracE (mulF a ⟨w64 (0 - b.den), w64 (0 - b.num)⟩)) [] else K (rFracE (mulF a ⟨b.den, b.num⟩)) []
theorem divRefAns_ok {K : AV → List Blk → Ans} {a b : Frac} : divRefAns K a b = K (rFracE (divF a b)) [] := by
  unfold divRefAns divF
  rw [bothE_eq]
  cases ha : fracOkB a with
  | false => rfl
  | true =>
    cases hb : fracOkB b with
    | false => rfl
    | true =>
      have kb := fracOkB_iff.1 hb
      have h1 := kb.numlo; have h2 := kb.numhi; have h3 := kb.denlo; have h4 := kb.denhi
      simp only [Bool.and_self, cond_true, bne_self_eq_false, cond_false]
      cases h0 : b.num == 0 with
      | true => rfl
      | false =>
        have h0' : b.num ≠ 0 := by simpa using h0
        simp only [cond_false]
        rw [w64_id (n := 0 - b.den) (by omega), w64_id (n := 0 - b.num) (by omega), Int.zero_sub, Int.zero_sub]
        unfold mulF
        by_cases hn : b.num < 0
        · rw [decide_eq_true hn, ha, fracOkB_iff.2 (kb.over' hn)]; rfl
        · rw [decide_eq_false hn, ha, fracOkB_iff.2 (kb.over (by omega))]; rfl
end Go.Ev

namespace Go.Ev
open Go
def alongS (d : Dir) (v : Vec) : Span × Int :=
  bif [d.x, d.y, d.z].all spanValid then (bif vecOkB v then (bif (ofS v.x).2 != 0 then (spanZ, (ofS v.x).2) else bif (ofS v.y).2 != 0 then (spanZ, (ofS v.y).2) else bif (ofS v.z).2 != 0 then (spanZ, (ofS v.z).2) else
    prodsS spanZ [(d.x, (ofS v.x).1), (d.y, (ofS v.y).1), (d.z, (ofS v.z).1)]) else (spanZ, 8)) else (spanZ, 8)
def alongAns (K : AV → List Blk → Ans) (d : Dir) (v : Vec) : Ans :=
  validAns (K (rSpanE (spanZ, 8)) []) (bif checkV v != 0 then K (rSpanE (spanZ, 8)) [] else
    bif (ofS v.x).2 != 0 then K (rSpanE (spanZ, (ofS v.x).2)) [] else bif (ofS v.y).2 != 0 then K (rSpanE (spanZ, (ofS v.y).2)) [] else bif (ofS v.z).2 != 0 then K (rSpanE (spanZ, (ofS v.z).2)) [] else
    prodsAns K spanZ [(d.x, (ofS v.x).1), (d.y, (ofS v.y).1), (d.z, (ofS v.z).1)]) [d.x, d.y, d.z]
theorem alongAns_ok {K : AV → List Blk → Ans} {d : Dir} {v : Vec} : alongAns K d v = K (rSpanE (alongS d v)) [] := by
  unfold alongAns alongS checkV
  rw [validAns_ok, prodsAns_ok]
  cases [d.x, d.y, d.z].all spanValid with
  | false => rfl
  | true =>
    cases vecOkB v with
    | false => rfl
    | true =>
      cases (ofS v.x).2 != 0 <;> cases (ofS v.y).2 != 0 <;> cases (ofS v.z).2 != 0 <;> rfl
theorem ofS_enc {f : Frac} (hf : FracOk f) (h : (ofS f).2 = 0) : Enc (ofS f).1 (f.num * 1000000) f.den := by
  have f1 := hf.denlo
  unfold ofS at h ⊢
  rw [fracOkB_iff.2 hf] at h ⊢
  simp only [cond_true] at h ⊢
  unfold rangedS at h ⊢
  cases hv : spanValid (aroundS f) with
  | false => rw [hv] at h; simp at h
  | true => exact ⟨(le_floor (by omega)).1 (Int.le_refl _), (ceil_le (by omega)).1 (Int.le_refl _)⟩
end Go.Ev

namespace Go.Ev
open Go
theorem fracOf_err (n d : Int) : (fracOf n d).2 = 0 ∨ fracOf n d = (fracZ, 16) := by
  unfold fracOf
  cases decide (absI n / gcdI n d ≤ 1000000000000000000) && decide (d / gcdI n d ≤ 1000000000000000000)
  · exact .inr rfl
  · exact .inl rfl
theorem addF_ok {a b : Frac} (ha : FracOk a) (hb : FracOk b) : addF a b = fracOf (a.num * b.den + b.num * a.den) (a.den * b.den) := by unfold addF; rw [fracOkB_iff.2 ha, fracOkB_iff.2 hb]; rfl
theorem subF_ok {a b : Frac} (ha : FracOk a) (hb : FracOk b) : subF a b = fracOf (a.num * b.den - b.num * a.den) (a.den * b.den) := by unfold subF; rw [fracOkB_iff.2 ha, fracOkB_iff.2 hb]; rfl
theorem mulF_ok {a b : Frac} (ha : FracOk a) (hb : FracOk b) : mulF a b = fracOf (a.num * b.num) (a.den * b.den) := by unfold mulF; rw [fracOkB_iff.2 ha, fracOkB_iff.2 hb]; rfl
theorem den_pos {a b : Frac} (ha : FracOk a) (hb : FracOk b) : 0 < a.den * b.den := Int.mul_pos (by have := ha.denlo; omega) (by have := hb.denlo; omega)
theorem addF_cases {a b : Frac} (ha : FracOk a) (hb : FracOk b) : (∃ c, addF a b = (c, 0) ∧ FracOk c) ∨ addF a b = (fracZ, 16) := by
  rw [addF_ok ha hb]
  rcases fracOf_err (a.num * b.den + b.num * a.den) (a.den * b.den) with h | h
  · exact .inl ⟨_, fst_of h, (frac_val (den_pos ha hb) (fst_of h)).1⟩
  · exact .inr h
theorem subF_cases {a b : Frac} (ha : FracOk a) (hb : FracOk b) : (∃ c, subF a b = (c, 0) ∧ FracOk c) ∨ subF a b = (fracZ, 16) := by
  rw [subF_ok ha hb]
  rcases fracOf_err (a.num * b.den - b.num * a.den) (a.den * b.den) with h | h
  · exact .inl ⟨_, fst_of h, (frac_val (den_pos ha hb) (fst_of h)).1⟩
  · exact .inr h
theorem mulF_cases {a b : Frac} (ha : FracOk a) (hb : FracOk b) : (∃ c, mulF a b = (c, 0) ∧ FracOk c) ∨ mulF a b = (fracZ, 16) := by
  rw [mulF_ok ha hb]
  rcases fracOf_err (a.num * b.num) (a.den * b.den) with h | h
  · exact .inl ⟨_, fst_of h, (frac_val (den_pos ha hb) (fst_of h)).1⟩
  · exact .inr h
theorem absI_neg (n : Int) : absI (-n) = absI n := by rw [absI_eq, absI_eq, Int.natAbs_neg]
theorem negN {b : Frac} (hb : FracOk b) : w64 (0 - b.num) = -b.num := by rw [w64_id (n := 0 - b.num) (by have := hb.numhi; have := hb.numlo; omega)]; omega
def negR (a : Frac) : Frac := ⟨w64 (0 - a.num), a.den⟩
def negV (v : Vec) : Vec := ⟨negR v.x, negR v.y, negR v.z⟩
theorem negR_ok {b : Frac} (hb : FracOk b) : FracOk (negR b) := by unfold negR; rw [negN hb]; exact hb.neg
theorem addF_neg {a b : Frac} (ha : FracOk a) (hb : FracOk b) : addF a (negR b) = subF a b := by
  rw [addF_ok ha (negR_ok hb), subF_ok ha hb]
  unfold negR
  rw [negN hb]
  simp only
  rw [show a.num * b.den + -b.num * a.den = a.num * b.den - b.num * a.den by rw [Int.neg_mul]; omega]
theorem addF_nought {p : Frac} (hp : FracOk p) : addF ⟨0, 1⟩ p = (p, 0) := by
  have h0 : FracOk ⟨0, 1⟩ := fracOkB_iff.1 (by decide)
  rw [addF_ok h0 hp, fracOf_red (c := 1) (n' := p.num) (d' := p.den) (by omega) (by simp) (by simp) hp.gcd]
  unfold cutF
  have := hp.numlo; have := hp.numhi; have := hp.denhi
  rw [decide_eq_true (show absI p.num ≤ 1000000000000000000 by unfold absI; omega), decide_eq_true (by omega)]
  rfl
def bothAns (bad : Int → Ans) (v w : Vec) (more : Ans) : Ans := twiceAns (checkV v) (bad (checkV v)) more (twiceAns (checkV w) (bad (checkV w)) more more)
theorem bothAns_ok {bad : Int → Ans} {v w : Vec} {more : Ans} : bothAns bad v w more = bif vecOkB v && vecOkB w then more else bad 8 := by
  unfold bothAns checkV twiceAns
  cases vecOkB v <;> cases vecOkB w <;> rfl
def subV (v w : Vec) : Vec × Int := bif vecOkB v && vecOkB w then eachV (subF v.x w.x) (subF v.y w.y) (subF v.z w.z) else (vecZ, 8)
def subVAns (K : AV → List Blk → Ans) (v w : Vec) : Ans := bothAns (fun e => K (rVecE (vecZ, e)) []) v w (eachAns K (subF v.x w.x) (subF v.y w.y) (subF v.z w.z))
theorem subVAns_ok {K : AV → List Blk → Ans} {v w : Vec} : subVAns K v w = K (rVecE (subV v w)) [] := by
  unfold subVAns subV
  rw [bothAns_ok, eachAns_ok]
  cases vecOkB v && vecOkB w <;> rfl
def andF (x : Frac × Int) (k : Frac → Frac × Int) : Frac × Int := bif x.2 == 0 then k x.1 else (fracZ, x.2)
def dotF (v w : Vec) : Frac × Int := andF (mulF v.x w.x) fun p => andF (addF ⟨0, 1⟩ p) fun s => andF (mulF v.y w.y) fun p => andF (addF s p) fun s => andF (mulF v.z w.z) fun p => andF (addF s p) fun s => (s, 0)
def dotV (v w : Vec) : Frac × Int := bif vecOkB v && vecOkB w then dotF v w else (fracZ, 8)
def crossC (a b c d : Frac) : Frac × Int := andF (mulF a b) fun p => andF (mulF c d) fun q => subF p q
def crossF (v w : Vec) : Vec × Int := eachV (crossC v.y w.z v.z w.y) (crossC v.z w.x v.x w.z) (crossC v.x w.y v.y w.x)
def firstI (a b c : Int) : Int := bif a != 0 then a else bif b != 0 then b else c
def vecR (x y z : Frac) (e : Int) : Vec × Int := bif e != 0 then (vecZ, e) else (⟨x, y, z⟩, 0)
theorem vecR_each (x y z : Frac × Int) : vecR x.1 y.1 z.1 (firstI x.2 y.2 z.2) = eachV x y z := by
  unfold vecR firstI eachV
  cases hx : x.2 != 0 <;> cases hy : y.2 != 0 <;> cases hz : z.2 != 0 <;> simp [hx, hy, hz]
theorem bothV_eq (v w : Vec) : bothV v w = bif vecOkB v && vecOkB w then 0 else 8 := by
  unfold bothV checkV
  cases vecOkB v <;> cases vecOkB w <;> rfl
def addVRef (K : AV → List Blk → Ans) (v w : Vec) : Ans := bif bothV v w != 0 then K (rVecE (vecZ, 8)) [] else K (rVecE (vecR (addF v.x w.x).1 (addF v.y w.y).1 (addF v.z w.z).1 (firstI (addF v.x w.x).2 (addF v.y w.y).2 (addF v.z w.z).2))) []
theorem addVRef_ok {K : AV → List Blk → Ans} {v w : Vec} : addVRef K v w = K (rVecE (addV v w)) [] := by
  unfold addVRef addV
  rw [bothV_eq, vecR_each]
  cases vecOkB v && vecOkB w <;> rfl
theorem negV_ok {w : Vec} (h : VecOk w) : VecOk (negV w) := ⟨negR_ok h.x, negR_ok h.y, negR_ok h.z⟩
def subVRef (K : AV → List Blk → Ans) (v w : Vec) : Ans := bif bothV v w != 0 then K (rVecE (vecZ, 8)) [] else K (rVecE (addV v (negV w))) []
theorem subVRef_ok {K : AV → List Blk → Ans} {v w : Vec} : subVRef K v w = K (rVecE (subV v w)) [] := by
  unfold subVRef subV
  rw [bothV_eq]
  cases hv : vecOkB v with
  | false => rfl
  | true =>
    cases hw : vecOkB w with
    | false => rfl
    | true =>
      have kv := vecOkB_iff.1 hv
      have kw := vecOkB_iff.1 hw
      unfold addV
      rw [hv, vecOkB_iff.2 (negV_ok kw)]
      simp only [Bool.and_self, cond_true, bne_self_eq_false, cond_false, negV]
      rw [addF_neg kv.x kw.x, addF_neg kv.y kw.y, addF_neg kv.z kw.z]
def chain (K : AV → List Blk → Ans) : List Bool → Ans
  | [] => K (rB true) []
  | [c] => K (rB c) []
  | c :: r => bif c then chain K r else K (rB false) []
end Go.Ev

namespace Go.Ev
open Go
structure Mat where
  a : Vec
  b : Vec
  c : Vec
def Mat.cells (m : Mat) : List D := [.int .i64 m.a.x.num, .int .i64 m.a.x.den, .int .i64 m.a.y.num, .int .i64 m.a.y.den, .int .i64 m.a.z.num, .int .i64 m.a.z.den,
  .int .i64 m.b.x.num, .int .i64 m.b.x.den, .int .i64 m.b.y.num, .int .i64 m.b.y.den, .int .i64 m.b.z.num, .int .i64 m.b.z.den,
  .int .i64 m.c.x.num, .int .i64 m.c.x.den, .int .i64 m.c.y.num, .int .i64 m.c.y.den, .int .i64 m.c.z.num, .int .i64 m.c.z.den]
def matZ : Mat := ⟨vecZ, vecZ, vecZ⟩
def oneF : Frac := ⟨1, 1⟩
def zeroF : Frac := ⟨0, 1⟩
def unitM : Mat := ⟨⟨oneF, zeroF, zeroF⟩, ⟨zeroF, oneF, zeroF⟩, ⟨zeroF, zeroF, oneF⟩⟩
def matOkB (m : Mat) : Bool := vecOkB m.a && (vecOkB m.b && vecOkB m.c)
def Mat.list (m : Mat) : List Frac := [m.a.x, m.a.y, m.a.z, m.b.x, m.b.y, m.b.z, m.c.x, m.c.y, m.c.z]
structure MatOk (m : Mat) : Prop where
  a : VecOk m.a
  b : VecOk m.b
  c : VecOk m.c
theorem matOkB_iff {m : Mat} : matOkB m = true ↔ MatOk m := by
  unfold matOkB
  simp only [Bool.and_eq_true, vecOkB_iff]
  exact ⟨fun h => ⟨h.1, h.2.1, h.2.2⟩, fun h => ⟨h.a, h.b, h.c⟩⟩
def andG {α β : Type} (x : α × Int) (z : β) (k : α → β × Int) : β × Int := bif x.2 == 0 then k x.1 else (z, x.2)
def applyF (m : Mat) (v : Vec) : Vec × Int := eachV (dotF m.a v) (dotF m.b v) (dotF m.c v)
theorem dotV_ok {v w : Vec} (hv : VecOk v) (hw : VecOk w) : dotV v w = dotF v w := by unfold dotV; rw [vecOkB_iff.2 hv, vecOkB_iff.2 hw]; rfl
def flipM (m : Mat) : Mat := ⟨⟨m.a.x, m.b.x, m.c.x⟩, ⟨m.a.y, m.b.y, m.c.y⟩, ⟨m.a.z, m.b.z, m.c.z⟩⟩
def rowF (v : Vec) (c : Mat) : Vec × Int := eachV (dotF v c.a) (dotF v c.b) (dotF v c.c)
def prodC (m c : Mat) : Mat × Int := andG (rowF m.a c) matZ fun x => andG (rowF m.b c) matZ fun y => andG (rowF m.c c) matZ fun z => (⟨x, y, z⟩, 0)
def prodF (m n : Mat) : Mat × Int := prodC m (flipM n)
def detF (m : Mat) : Frac × Int := andG (crossF m.b m.c) fracZ fun c => dotF m.a c
theorem crossC_cases {a b c d : Frac} (ha : FracOk a) (hb : FracOk b) (hc : FracOk c) (hd : FracOk d) : (∃ r, crossC a b c d = (r, 0) ∧ FracOk r) ∨ crossC a b c d = (fracZ, 16) := by
  unfold crossC andF
  rcases mulF_cases ha hb with ⟨p, e1, k1⟩ | e1
  · rcases mulF_cases hc hd with ⟨q, e2, k2⟩ | e2
    · rw [e1, e2]; exact subF_cases k1 k2
    · rw [e1, e2]; exact .inr rfl
  · rw [e1]; exact .inr rfl
theorem eachV_cases {x y z : Frac × Int} (hx : (∃ r, x = (r, 0) ∧ FracOk r) ∨ x = (fracZ, 16)) (hy : (∃ r, y = (r, 0) ∧ FracOk r) ∨ y = (fracZ, 16)) (hz : (∃ r, z = (r, 0) ∧ FracOk r) ∨ z = (fracZ, 16)) :
    (∃ v, eachV x y z = (v, 0) ∧ VecOk v ∧ x = (v.x, 0) ∧ y = (v.y, 0) ∧ z = (v.z, 0)) ∨ eachV x y z = (vecZ, 16) := by
  unfold eachV
  rcases hx with ⟨a, rfl, ka⟩ | rfl
  · rcases hy with ⟨b, rfl, kb⟩ | rfl
    · rcases hz with ⟨c, rfl, kc⟩ | rfl
      · exact .inl ⟨⟨a, b, c⟩, rfl, ⟨ka, kb, kc⟩, rfl, rfl, rfl⟩
      · exact .inr rfl
    · exact .inr rfl
  · exact .inr rfl
theorem crossF_cases {v w : Vec} (hv : VecOk v) (hw : VecOk w) : (∃ u, crossF v w = (u, 0) ∧ VecOk u ∧ crossC v.y w.z v.z w.y = (u.x, 0) ∧ crossC v.z w.x v.x w.z = (u.y, 0) ∧ crossC v.x w.y v.y w.x = (u.z, 0)) ∨ crossF v w = (vecZ, 16) :=
  eachV_cases (crossC_cases hv.y hw.z hv.z hw.y) (crossC_cases hv.z hw.x hv.x hw.z) (crossC_cases hv.x hw.y hv.y hw.x)
def pairZ : Frac × Frac := (fracZ, fracZ)
def pairF (t : Frac) : (Frac × Frac) × Int := andG (mulF t t) pairZ fun q => andG (subF oneF q) pairZ fun lo => andG (addF oneF q) pairZ fun hi => andG (divF lo hi) pairZ fun c => andG (addF t t) pairZ fun tw => andG (divF tw hi) pairZ fun s => ((c, s), 0)
def turnOf (axis : Int) (c s : Frac) : Mat := bif axis == 0 then ⟨⟨oneF, zeroF, zeroF⟩, ⟨zeroF, c, negR s⟩, ⟨zeroF, s, c⟩⟩ else bif axis == 1 then ⟨⟨c, zeroF, s⟩, ⟨zeroF, oneF, zeroF⟩, ⟨negR s, zeroF, c⟩⟩ else ⟨⟨c, negR s, zeroF⟩, ⟨s, c, zeroF⟩, ⟨zeroF, zeroF, oneF⟩⟩
theorem one_ok : FracOk oneF := fracOkB_iff.1 (by decide)
theorem zero_ok : FracOk zeroF := fracOkB_iff.1 (by decide)
theorem divF_cases {a b : Frac} (ha : FracOk a) (hb : FracOk b) (h : b.num ≠ 0) : (∃ c, divF a b = (c, 0) ∧ FracOk c) ∨ divF a b = (fracZ, 16) := by
  unfold divF
  rw [fracOkB_iff.2 ha, fracOkB_iff.2 hb, show (b.num == 0) = false by simpa using h]
  simp only [Bool.and_self, cond_true, cond_false]
  have h1 := ha.denlo
  by_cases hn : b.num < 0
  · rw [decide_eq_true hn]
    simp only [cond_true]
    rcases fracOf_err (a.num * -b.den) (a.den * -b.num) with e | e
    · exact .inl ⟨_, fst_of e, (frac_val (Int.mul_pos (by omega) (by omega)) (fst_of e)).1⟩
    · exact .inr e
  · rw [decide_eq_false hn]
    simp only [cond_false]
    rcases fracOf_err (a.num * b.den) (a.den * b.num) with e | e
    · exact .inl ⟨_, fst_of e, (frac_val (Int.mul_pos (by omega) (by omega)) (fst_of e)).1⟩
    · exact .inr e
theorem mulF_val {a b c : Frac} (ha : FracOk a) (hb : FracOk b) (h : mulF a b = (c, 0)) : FracOk c ∧ c.num * (a.den * b.den) = (a.num * b.num) * c.den := by
  rw [mulF_ok ha hb] at h
  exact frac_val (den_pos ha hb) h
theorem addF_vl {a b c : Frac} (ha : FracOk a) (hb : FracOk b) (h : addF a b = (c, 0)) : FracOk c ∧ c.num * (a.den * b.den) = (a.num * b.den + b.num * a.den) * c.den := by
  rw [addF_ok ha hb] at h
  exact frac_val (den_pos ha hb) h
theorem sq_nn (n : Int) : 0 ≤ n * n := by
  rcases Int.le_total 0 n with h | h
  · exact Int.mul_nonneg h h
  · exact Int.mul_nonneg_of_nonpos_of_nonpos h h
theorem hi_pos {t q hi : Frac} (ht : FracOk t) (h1 : mulF t t = (q, 0)) (h2 : addF oneF q = (hi, 0)) : 0 < hi.num := by
  obtain ⟨kq, e1⟩ := mulF_val ht ht h1
  obtain ⟨kh, e2⟩ := addF_vl one_ok kq h2
  have hq := kq.denlo; have hh := kh.denlo; have hd := ht.denlo
  have p1 : 0 ≤ q.num := by
    rcases Int.lt_or_le q.num 0 with n | n
    · have := Int.mul_neg_of_neg_of_pos n (Int.mul_pos (show 0 < t.den by omega) (show 0 < t.den by omega))
      have := Int.mul_nonneg (sq_nn t.num) (show 0 ≤ q.den by omega)
      omega
    · exact n
  simp only [oneF, Int.one_mul, Int.mul_one] at e2
  rcases Int.lt_or_le 0 hi.num with n | n
  · exact n
  · have := Int.mul_nonpos_of_nonpos_of_nonneg n (show 0 ≤ q.den by omega)
    have := Int.mul_pos (show 0 < q.den + q.num by omega) (show 0 < hi.den by omega)
    omega
def rPair (r : (Frac × Frac) × Int) : AV := .tup [.agg r.1.1.cells, .agg r.1.2.cells, .c (.d (.int .i64 r.2))]
def twoN : Frac := ⟨2, 1⟩
theorem two_ok : FracOk twoN := fracOkB_iff.1 (by decide)
def pairR (t : Frac) : (Frac × Frac) × Int :=
  bif firstI (mulF t t).2 (subF oneF (mulF t t).1).2 (addF oneF (mulF t t).1).2 != 0 then (pairZ, firstI (mulF t t).2 (subF oneF (mulF t t).1).2 (addF oneF (mulF t t).1).2) else
    (((divF (subF oneF (mulF t t).1).1 (addF oneF (mulF t t).1).1).1, (divF (mulF t twoN).1 (addF oneF (mulF t t).1).1).1),
      firstI (divF (subF oneF (mulF t t).1).1 (addF oneF (mulF t t).1).1).2 (mulF t twoN).2 (divF (mulF t twoN).1 (addF oneF (mulF t t).1).1).2)
theorem gcdI_scale {c n d : Int} (hc : 0 < c) : gcdI (c * n) (c * d) = c * gcdI n d := by
  rw [gcdI_eq, gcdI_eq, Int.gcd_mul_left, Int.natCast_mul]
  congr 1
  omega
theorem fracOf_scale {c n d : Int} (hc : 0 < c) : fracOf (c * n) (c * d) = fracOf n d := by
  have ha : absI (c * n) = c * absI n := by rw [absI_eq, absI_eq, Int.natAbs_mul, Int.natCast_mul]; congr 1; omega
  unfold fracOf
  rw [gcdI_scale hc, ha, Int.mul_ediv_mul_of_pos _ _ hc, Int.mul_ediv_mul_of_pos _ _ hc, Int.mul_ediv_mul_of_pos _ _ hc]
theorem twice_eq {t : Frac} (ht : FracOk t) : mulF t twoN = addF t t := by
  rw [mulF_ok ht two_ok, addF_ok ht ht, show t.num * t.den + t.num * t.den = t.den * (t.num * 2) by grind, fracOf_scale (by have := ht.denlo; omega), twoN, Int.mul_one]
theorem pair_eq {t : Frac} (ht : FracOk t) : ((pairF t).2 = 0 ∧ pairR t = pairF t) ∨ ((pairF t).2 ≠ 0 ∧ (pairR t).2 = 16) := by
  unfold pairR pairF andG firstI
  rw [twice_eq ht]
  rcases mulF_cases ht ht with ⟨q, e1, kq⟩ | e1
  · rw [e1]; simp only
    rcases subF_cases one_ok kq with ⟨lo, e2, klo⟩ | e2
    · rw [e2]; simp only
      rcases addF_cases one_ok kq with ⟨hi, e3, khi⟩ | e3
      · rw [e3]; simp only
        have hp := hi_pos ht e1 e3
        rcases divF_cases klo khi (by omega) with ⟨c, e4, kc⟩ | e4
        · rw [e4]; simp only
          rcases addF_cases ht ht with ⟨tw, e5, ktw⟩ | e5
          · rw [e5]; simp only
            rcases divF_cases ktw khi (by omega) with ⟨s, e6, ks⟩ | e6
            · rw [e6]; simp
            · rw [e6]; simp
          · rw [e5]; simp
        · rw [e4]; simp
      · rw [e3]; simp
    · rw [e2]; simp
  · rw [e1]; simp
def isV (m : Mat) : Bool × Int := bif matOkB m then andG (prodF m (flipM m)) false fun p => andG (detF m) false fun d => (eqAll p.cells unitM.cells && eqAll d.cells oneF.cells, 0) else (false, 8)
end Go.Ev

namespace Go.Ev
open Go
def val (a : Frac) : Rat := (a.num : Rat) / (a.den : Rat)
theorem den_ne {a : Frac} (h : FracOk a) : (a.den : Rat) ≠ 0 := by
  have := h.denlo
  exact_mod_cast (show a.den ≠ 0 by omega)
theorem val_mul {a : Frac} (h : FracOk a) : val a * (a.den : Rat) = a.num := by unfold val; exact Rat.div_mul_cancel (den_ne h)
theorem val_of {x : Frac} (hx : FracOk x) {n d : Int} (h : x.num * d = n * x.den) : val x * (d : Rat) = n := by
  have h1 := den_ne hx
  have h2 := val_mul hx
  have h3 : (x.num : Rat) * d = n * x.den := by exact_mod_cast h
  grind
theorem of_val {x : Frac} (hx : FracOk x) {n d : Int} (h : val x * (d : Rat) = n) : x.num * d = n * x.den := by
  have h1 := den_ne hx
  have h2 := val_mul hx
  have h3 : (x.num : Rat) * d = n * x.den := by grind
  exact_mod_cast h3
theorem den_dvd {x : Frac} (hx : FracOk x) {n d : Int} (h : x.num * d = n * x.den) : x.den ∣ d := by
  have hg := hx.gcd
  have h1 : x.den.natAbs ∣ x.num.natAbs * d.natAbs := by
    rw [← Int.natAbs_mul, h, Int.natAbs_mul]
    exact Nat.dvd_mul_left ..
  have h2 : x.den.natAbs ∣ d.natAbs := Nat.Coprime.dvd_of_dvd_mul_left (by rw [Nat.coprime_comm]; exact hg) h1
  exact Int.natAbs_dvd_natAbs.1 h2
theorem least {x : Frac} (hx : FracOk x) {n d : Int} (hd : 0 < d) (h : x.num * d = n * x.den) : x.den ≤ d ∧ absI x.num ≤ absI n := by
  obtain ⟨k, hk⟩ := den_dvd hx h
  have h1 := hx.denlo
  have hk0 : 0 < k := by
    rcases Int.lt_or_le 0 k with q | q
    · exact q
    · have := Int.mul_nonpos_of_nonneg_of_nonpos (show 0 ≤ x.den by omega) q
      omega
  subst hk
  have hn : n = x.num * k := by
    have : x.den * (x.num * k) = x.den * n := by grind
    exact (Int.eq_of_mul_eq_mul_left (by omega) this).symm
  refine ⟨?_, ?_⟩
  · have := Int.mul_le_mul_of_nonneg_left (show 1 ≤ k by omega) (show 0 ≤ x.den by omega)
    omega
  · rw [hn, absI_eq, absI_eq, Int.natAbs_mul, Int.natCast_mul]
    have := Int.mul_le_mul_of_nonneg_left (show 1 ≤ (k.natAbs : Int) by omega) (show 0 ≤ (x.num.natAbs : Int) by omega)
    omega
theorem val_inj {a b : Frac} (ha : FracOk a) (hb : FracOk b) (h : val a = val b) : a = b := by
  have h1 : a.num * b.den = b.num * a.den := of_val ha (by rw [h]; exact val_mul hb)
  have h2 := (least ha (by have := hb.denlo; omega) h1).1
  have h3 := (least hb (by have := ha.denlo; omega) h1.symm).1
  have h4 : a.den = b.den := by omega
  have h5 : a.num = b.num := by
    rw [h4] at h1
    exact Int.eq_of_mul_eq_mul_right (by have := hb.denlo; omega) h1
  cases a; cases b
  simp only at h4 h5
  rw [h4, h5]
theorem val_zero : val zeroF = 0 := by unfold val zeroF; decide +kernel
theorem val_one : val oneF = 1 := by unfold val oneF; decide +kernel
theorem val_neg {a : Frac} (h : FracOk a) : val (negR a) = - val a := by
  unfold negR
  rw [negN h]
  unfold val
  simp only
  rw [Rat.intCast_neg]
  grind
theorem add_val {a b c : Frac} (ha : FracOk a) (hb : FracOk b) (h : addF a b = (c, 0)) : FracOk c ∧ val c = val a + val b := by
  obtain ⟨kc, e⟩ := addF_vl ha hb h
  refine ⟨kc, ?_⟩
  have := val_of kc e
  have h1 := val_mul ha; have h2 := val_mul hb
  have h3 := den_ne ha; have h4 := den_ne hb
  rw [Rat.intCast_add, Rat.intCast_mul, Rat.intCast_mul, Rat.intCast_mul] at this
  grind
theorem mul_val {a b c : Frac} (ha : FracOk a) (hb : FracOk b) (h : mulF a b = (c, 0)) : FracOk c ∧ val c = val a * val b := by
  obtain ⟨kc, e⟩ := mulF_val ha hb h
  refine ⟨kc, ?_⟩
  have := val_of kc e
  have h1 := val_mul ha; have h2 := val_mul hb
  have h3 := den_ne ha; have h4 := den_ne hb
  rw [Rat.intCast_mul, Rat.intCast_mul] at this
  grind
theorem sub_val {a b c : Frac} (ha : FracOk a) (hb : FracOk b) (h : subF a b = (c, 0)) : FracOk c ∧ val c = val a - val b := by
  rw [← addF_neg ha hb] at h
  obtain ⟨kc, e⟩ := add_val ha (negR_ok hb) h
  rw [val_neg hb] at e
  exact ⟨kc, by grind⟩
theorem num_ne {b : Frac} (hb : FracOk b) : b.num ≠ 0 ↔ val b ≠ 0 := by
  have h1 := den_ne hb
  have h2 := val_mul hb
  constructor
  · intro h e
    rw [e] at h2
    have : (b.num : Rat) = 0 := by grind
    exact h (by exact_mod_cast this)
  · intro h e
    rw [e] at h2
    apply h
    have h2' : val b * (b.den : Rat) = 0 := by rw [h2]; rfl
    grind
theorem div_val {a b c : Frac} (ha : FracOk a) (hb : FracOk b) (h : divF a b = (c, 0)) : FracOk c ∧ val b ≠ 0 ∧ val c * val b = val a := by
  unfold divF at h
  rw [fracOkB_iff.2 ha, fracOkB_iff.2 hb] at h
  simp only [Bool.and_self, cond_true] at h
  cases h0 : b.num == 0 with
  | true => rw [h0] at h; simp at h
  | false =>
    rw [h0] at h
    have hne : b.num ≠ 0 := by simpa using h0
    have hv := (num_ne hb).1 hne
    have h1 := val_mul ha; have h2 := val_mul hb
    have h3 := den_ne ha; have h4 := den_ne hb
    have da := ha.denlo
    simp only [cond_false] at h
    by_cases hn : b.num < 0
    · rw [decide_eq_true hn] at h
      obtain ⟨kc, e⟩ := frac_val (Int.mul_pos (by omega) (by omega)) h
      refine ⟨kc, hv, ?_⟩
      have := val_of kc e
      rw [Rat.intCast_mul, Rat.intCast_mul, Rat.intCast_neg, Rat.intCast_neg] at this
      grind
    · rw [decide_eq_false hn] at h
      obtain ⟨kc, e⟩ := frac_val (Int.mul_pos (by omega) (by omega)) h
      refine ⟨kc, hv, ?_⟩
      have := val_of kc e
      rw [Rat.intCast_mul, Rat.intCast_mul] at this
      grind
theorem fracOf_small {n d : Int} (hn : absI n ≤ 1000000000000000000) (hd0 : 0 < d) (hd : d ≤ 1000000000000000000) : ∃ c, fracOf n d = (c, 0) := by
  have hg : 0 < gcdI n d := gcdI_pos (by omega)
  unfold fracOf
  have a0 : 0 ≤ absI n := by rw [absI_eq]; omega
  have h1 : absI n / gcdI n d ≤ absI n := Int.ediv_le_self _ a0
  have h2 : d / gcdI n d ≤ d := Int.ediv_le_self _ (by omega)
  rw [decide_eq_true (show absI n / gcdI n d ≤ 1000000000000000000 by omega), decide_eq_true (show d / gcdI n d ≤ 1000000000000000000 by omega)]
  exact ⟨_, rfl⟩
structure Sz (N D : Int) (x : Frac) : Prop where
  ok : FracOk x
  num : absI x.num ≤ N
  den : x.den ≤ D
theorem absI_nn (n : Int) : 0 ≤ absI n := by rw [absI_eq]; omega
theorem absI_mul (m n : Int) : absI (m * n) = absI m * absI n := by rw [absI_eq, absI_eq, absI_eq, Int.natAbs_mul, Int.natCast_mul]
theorem absI_add_le (m n : Int) : absI (m + n) ≤ absI m + absI n := by rw [absI_eq, absI_eq, absI_eq]; omega
theorem absI_sub_le (m n : Int) : absI (m - n) ≤ absI m + absI n := by rw [absI_eq, absI_eq, absI_eq]; omega
theorem absI_of_pos {n : Int} (h : 0 < n) : absI n = n := by rw [absI_eq]; omega
theorem mul_le {a b A B : Int} (ha : 0 ≤ a) (hb : 0 ≤ b) (h1 : a ≤ A) (h2 : b ≤ B) : a * b ≤ A * B := Int.mul_le_mul h1 h2 hb (by omega)
theorem Sz.mono {N D N' D' : Int} {x : Frac} (h : Sz N D x) (hn : N ≤ N') (hd : D ≤ D') : Sz N' D' x := ⟨h.ok, by have := h.num; omega, by have := h.den; omega⟩
theorem Sz.dpos {N D : Int} {x : Frac} (h : Sz N D x) : 0 < x.den := by have := h.ok.denlo; omega
theorem Sz.dabs {N D : Int} {x : Frac} (h : Sz N D x) : absI x.den ≤ D := by rw [absI_of_pos h.dpos]; exact h.den
theorem sz_of {n d N D : Int} (hd0 : 0 < d) (hn : absI n ≤ N) (hd : d ≤ D) (hN : N ≤ 1000000000000000000) (hD : D ≤ 1000000000000000000) : ∃ c, fracOf n d = (c, 0) ∧ Sz N D c := by
  obtain ⟨c, e⟩ := fracOf_small (n := n) (d := d) (by omega) hd0 (by omega)
  obtain ⟨kc, h⟩ := frac_val hd0 e
  obtain ⟨h1, h2⟩ := least kc hd0 h
  exact ⟨c, e, kc, by omega, by omega⟩
theorem Sz.mul {N D N' D' : Int} {a b : Frac} (ha : Sz N D a) (hb : Sz N' D' b) (hN : N * N' ≤ 1000000000000000000) (hD : D * D' ≤ 1000000000000000000) : ∃ c, mulF a b = (c, 0) ∧ Sz (N * N') (D * D') c := by
  rw [mulF_ok ha.ok hb.ok]
  refine sz_of (den_pos ha.ok hb.ok) ?_ ?_ hN hD
  · rw [absI_mul]; exact mul_le (absI_nn _) (absI_nn _) ha.num hb.num
  · exact mul_le (by have := ha.dpos; omega) (by have := hb.dpos; omega) ha.den hb.den
theorem Sz.add {N D N' D' : Int} {a b : Frac} (ha : Sz N D a) (hb : Sz N' D' b) (hN : N * D' + N' * D ≤ 1000000000000000000) (hD : D * D' ≤ 1000000000000000000) : ∃ c, addF a b = (c, 0) ∧ Sz (N * D' + N' * D) (D * D') c := by
  rw [addF_ok ha.ok hb.ok]
  refine sz_of (den_pos ha.ok hb.ok) ?_ ?_ hN hD
  · refine Int.le_trans (absI_add_le _ _) ?_
    rw [absI_mul, absI_mul]
    have := mul_le (absI_nn _) (absI_nn _) ha.num hb.dabs
    have := mul_le (absI_nn _) (absI_nn _) hb.num ha.dabs
    omega
  · exact mul_le (by have := ha.dpos; omega) (by have := hb.dpos; omega) ha.den hb.den
theorem Sz.sub {N D N' D' : Int} {a b : Frac} (ha : Sz N D a) (hb : Sz N' D' b) (hN : N * D' + N' * D ≤ 1000000000000000000) (hD : D * D' ≤ 1000000000000000000) : ∃ c, subF a b = (c, 0) ∧ Sz (N * D' + N' * D) (D * D') c := by
  rw [subF_ok ha.ok hb.ok]
  refine sz_of (den_pos ha.ok hb.ok) ?_ ?_ hN hD
  · refine Int.le_trans (absI_sub_le _ _) ?_
    rw [absI_mul, absI_mul]
    have := mul_le (absI_nn _) (absI_nn _) ha.num hb.dabs
    have := mul_le (absI_nn _) (absI_nn _) hb.num ha.dabs
    omega
  · exact mul_le (by have := ha.dpos; omega) (by have := hb.dpos; omega) ha.den hb.den
theorem Sz.div {N D N' D' : Int} {a b : Frac} (ha : Sz N D a) (hb : Sz N' D' b) (h0 : b.num ≠ 0) (hN : N * D' ≤ 1000000000000000000) (hD : D * N' ≤ 1000000000000000000) : ∃ c, divF a b = (c, 0) ∧ Sz (N * D') (D * N') c := by
  unfold divF
  rw [fracOkB_iff.2 ha.ok, fracOkB_iff.2 hb.ok, show (b.num == 0) = false by simpa using h0]
  simp only [Bool.and_self, cond_true, cond_false]
  have da := ha.dpos; have db := hb.dpos; have nb := hb.num
  rw [absI_eq] at nb
  by_cases hn : b.num < 0
  · rw [decide_eq_true hn]
    simp only [cond_true]
    refine sz_of (Int.mul_pos da (by omega)) ?_ ?_ hN hD
    · rw [absI_mul, absI_neg]; exact mul_le (absI_nn _) (absI_nn _) ha.num hb.dabs
    · exact mul_le (by omega) (by omega) ha.den (by omega)
  · rw [decide_eq_false hn]
    simp only [cond_false]
    refine sz_of (Int.mul_pos da (by omega)) ?_ ?_ hN hD
    · rw [absI_mul]; exact mul_le (absI_nn _) (absI_nn _) ha.num hb.dabs
    · exact mul_le (by omega) (by omega) ha.den (by omega)
theorem Sz.one : Sz 1 1 oneF := ⟨one_ok, by decide, by decide⟩
theorem Sz.zero : Sz 0 1 zeroF := ⟨zero_ok, by decide, by decide⟩
theorem Sz.neg {N D : Int} {x : Frac} (h : Sz N D x) : Sz N D (negR x) := ⟨negR_ok h.ok, by unfold negR; rw [negN h.ok, absI_neg]; exact h.num, h.den⟩
def dotQ (v w : Vec) : Rat := val v.x * val w.x + val v.y * val w.y + val v.z * val w.z
theorem dotF_cases {v w : Vec} (hv : VecOk v) (hw : VecOk w) : (∃ s, dotF v w = (s, 0) ∧ FracOk s ∧ val s = dotQ v w) ∨ dotF v w = (fracZ, 16) := by
  unfold dotF andF dotQ
  rcases mulF_cases hv.x hw.x with ⟨p, e1, k1⟩ | e1
  · rw [e1]; simp only [addF_nought k1]
    have v1 := (mul_val hv.x hw.x e1).2
    rcases mulF_cases hv.y hw.y with ⟨q, e2, k2⟩ | e2
    · rw [e2]
      have v2 := (mul_val hv.y hw.y e2).2
      simp only [beq_self_eq_true, cond_true]
      rcases addF_cases k1 k2 with ⟨s, e3, k3⟩ | e3
      · rw [e3]
        have v3 := (add_val k1 k2 e3).2
        simp only [beq_self_eq_true, cond_true]
        rcases mulF_cases hv.z hw.z with ⟨r, e4, k4⟩ | e4
        · rw [e4]
          have v4 := (mul_val hv.z hw.z e4).2
          simp only [beq_self_eq_true, cond_true]
          rcases addF_cases k3 k4 with ⟨t, e5, k5⟩ | e5
          · rw [e5]
            have v5 := (add_val k3 k4 e5).2
            exact .inl ⟨t, rfl, k5, by rw [v5, v3, v4, v1, v2]⟩
          · rw [e5]; exact .inr rfl
        · rw [e4]; exact .inr rfl
      · rw [e3]; exact .inr rfl
    · rw [e2]; exact .inr rfl
  · rw [e1]; exact .inr rfl
theorem crossC_val {a b c d r : Frac} (ha : FracOk a) (hb : FracOk b) (hc : FracOk c) (hd : FracOk d) (h : crossC a b c d = (r, 0)) : FracOk r ∧ val r = val a * val b - val c * val d := by
  unfold crossC andF at h
  rcases mulF_cases ha hb with ⟨p, e1, k1⟩ | e1
  · rcases mulF_cases hc hd with ⟨q, e2, k2⟩ | e2
    · rw [e1, e2] at h
      simp only [beq_self_eq_true, cond_true] at h
      obtain ⟨k3, e3⟩ := sub_val k1 k2 h
      exact ⟨k3, by rw [e3, (mul_val ha hb e1).2, (mul_val hc hd e2).2]⟩
    · rw [e1, e2] at h; cases h
  · rw [e1] at h; cases h
theorem vec_eq {v w : Vec} (hv : VecOk v) (hw : VecOk w) (hx : val v.x = val w.x) (hy : val v.y = val w.y) (hz : val v.z = val w.z) : v = w := by
  have h1 := val_inj hv.x hw.x hx
  have h2 := val_inj hv.y hw.y hy
  have h3 := val_inj hv.z hw.z hz
  cases v; cases w
  simp only at h1 h2 h3
  rw [h1, h2, h3]
theorem cross_val {v w u : Vec} (hv : VecOk v) (hw : VecOk w) (h : crossF v w = (u, 0)) : VecOk u ∧ val u.x = val v.y * val w.z - val v.z * val w.y ∧ val u.y = val v.z * val w.x - val v.x * val w.z ∧ val u.z = val v.x * val w.y - val v.y * val w.x := by
  rcases crossF_cases hv hw with ⟨u', e, k, e1, e2, e3⟩ | e
  · rw [h] at e
    cases e
    exact ⟨k, (crossC_val hv.y hw.z hv.z hw.y e1).2, (crossC_val hv.z hw.x hv.x hw.z e2).2, (crossC_val hv.x hw.y hv.y hw.x e3).2⟩
  · rw [h] at e; cases e
end Go.Ev

