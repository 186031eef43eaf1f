/-
  The theorem of sums, up to small errors: by induction on the parts. No program here.
-/
import Derived.Test.YtmidgaahaffmcaaSums
namespace Go.Ev
open Go

/-- The absolute value of x is at most b. -/
def Abs (x b : Int) : Prop := -b ≤ x ∧ x ≤ b

theorem Abs.add {x y a b : Int} (h : Abs x a) (k : Abs y b) : Abs (x + y) (a + b) := by unfold Abs at *; omega
theorem Abs.sub {x y a b : Int} (h : Abs x a) (k : Abs y b) : Abs (x - y) (a + b) := by unfold Abs at *; omega
theorem Abs.nonneg {x a : Int} (h : Abs x a) : 0 ≤ a := by unfold Abs at h; omega
theorem Abs.mono {x a b : Int} (h : Abs x a) (k : a ≤ b) : Abs x b := by unfold Abs at *; omega
theorem Abs.mul {x y a b : Int} (h : Abs x a) (k : Abs y b) : Abs (x * y) (a * b) := by
  have ha := h.nonneg
  have hb := k.nonneg
  have e : (x * y).natAbs ≤ (a * b).natAbs := by
    rw [Int.natAbs_mul, Int.natAbs_mul]
    exact Nat.mul_le_mul (by unfold Abs at h; omega) (by unfold Abs at k; omega)
  have : 0 ≤ a * b := Int.mul_nonneg ha hb
  unfold Abs
  omega
theorem Abs.scale {x a c : Int} (hc : 0 ≤ c) (h : Abs x a) : Abs (c * x) (c * a) := by
  unfold Abs at *
  have h1 : c * (-a) ≤ c * x := Int.mul_le_mul_of_nonneg_left h.1 hc
  have h2 : c * x ≤ c * a := Int.mul_le_mul_of_nonneg_left h.2 hc
  rw [Int.mul_neg] at h1
  exact ⟨h1, h2⟩
theorem Abs.unscale {x a c : Int} (hc : 0 < c) (h : Abs (c * x) (c * a)) : Abs x a := by
  unfold Abs at *
  rw [← Int.mul_neg] at h
  exact ⟨Int.le_of_mul_le_mul_left h.1 hc, Int.le_of_mul_le_mul_left h.2 hc⟩


theorem pow_le {a b : Int} (h0 : 0 ≤ a) (h : a ≤ b) : ∀ k : Nat, a ^ k ≤ b ^ k
  | 0 => by simp
  | k + 1 => by
    rw [Int.pow_succ, Int.pow_succ]
    exact Int.mul_le_mul (pow_le h0 h k) h h0 (Int.pow_nonneg (by omega))

theorem mul_anti {a b c : Int} (hc : c ≤ 0) (h : a ≤ b) : c * b ≤ c * a := by
  have := Int.mul_le_mul_of_nonneg_left h (show 0 ≤ -c by omega)
  rw [Int.neg_mul, Int.neg_mul] at this
  omega

/-- The errors of the theorem of sums. -/
def errS (n u l : Int) : Int := 18446744073709551616 * SZ n (u + l) - (SZ n u * CZ n l + CZ n u * SZ n l)
def errC (n u l : Int) : Int := 18446744073709551616 * CZ n (u + l) - (CZ n u * CZ n l - SZ n u * SZ n l)

theorem sum_step {n : Int} (hn : 1 ≤ n ∧ n ≤ 720) (h1 : n * VI 1 n ≤ 36893488147419103232) (hs : ∀ u, NextOk n u) {u l A F : Int} (hA : 0 ≤ A)
    (hS : Abs (A * errS n u l) F) (hC : Abs (A * errC n u l) F) : Abs (n * A * errS n u (l + 1)) (3 * 18446744073709551616000 * (n * A) + (n + 2) * F) ∧ Abs (n * A * errC n u (l + 1)) (3 * 18446744073709551616000 * (n * A) + (n + 2) * F) := by
  have hF := hS.nonneg
  have n1 : Abs (errS n (u + l) 1) 18446744073709551616000 := ⟨(hs (u + l)).s2, (hs (u + l)).s1⟩
  have n2 : Abs (errC n (u + l) 1) 18446744073709551616000 := ⟨(hs (u + l)).c2, (hs (u + l)).c1⟩
  have n3 : Abs (errS n l 1) 18446744073709551616000 := ⟨(hs l).s2, (hs l).s1⟩
  have n4 : Abs (errC n l 1) 18446744073709551616000 := ⟨(hs l).c2, (hs l).c1⟩
  have ru : Abs (SZ n u) 18446744073709551616 := SZ_range hn u
  have rc : Abs (CZ n u) 18446744073709551616 := SZ_range hn (u + n)
  have o := SZ_one (n := n) hn.1
  have v1 := VI_range hn (w := 1) (by omega)
  have v2 := VI_range hn (w := n - 1) (by omega)
  have hnA : 0 ≤ n * A := Int.mul_nonneg (by omega) hA
  have is : 18446744073709551616 * (n * A * errS n u (l + 1)) = 18446744073709551616 * (n * A) * errS n (u + l) 1 + (A * errS n u l) * (n * CZ n 1) + (A * errC n u l) * (n * SZ n 1) - (n * A) * (SZ n u * errC n l 1) - (n * A) * (CZ n u * errS n l 1) := by
    unfold errS errC
    rw [show u + (l + 1) = u + l + 1 by omega]
    grind
  have ic : 18446744073709551616 * (n * A * errC n u (l + 1)) = 18446744073709551616 * (n * A) * errC n (u + l) 1 + (A * errC n u l) * (n * CZ n 1) - (A * errS n u l) * (n * SZ n 1) - (n * A) * (CZ n u * errC n l 1) + (n * A) * (SZ n u * errS n l 1) := by
    unfold errS errC
    rw [show u + (l + 1) = u + l + 1 by omega]
    grind
  have b1 : Abs (n * CZ n 1) (n * 18446744073709551616) := by rw [o.2]; exact Abs.scale (by omega) ⟨by omega, v2.2⟩
  have b2 : Abs (n * SZ n 1) (2 * 18446744073709551616) := by
    rw [o.1]
    have : 0 ≤ n * VI 1 n := Int.mul_nonneg (by omega) v1.1
    exact ⟨by omega, by omega⟩
  have t1 := Abs.scale (c := 18446744073709551616 * (n * A)) (Int.mul_nonneg (by decide) hnA) n1
  have t1' := Abs.scale (c := 18446744073709551616 * (n * A)) (Int.mul_nonneg (by decide) hnA) n2
  have t2 := hS.mul b1
  have t2' := hC.mul b1
  have t3 := hC.mul b2
  have t3' := hS.mul b2
  have t4 := Abs.scale hnA (ru.mul n4)
  have t4' := Abs.scale hnA (rc.mul n4)
  have t5 := Abs.scale hnA (rc.mul n3)
  have t5' := Abs.scale hnA (ru.mul n3)
  have e : 18446744073709551616 * (n * A) * 18446744073709551616000 + F * (n * 18446744073709551616) + F * (2 * 18446744073709551616) + n * A * (18446744073709551616 * 18446744073709551616000) + n * A * (18446744073709551616 * 18446744073709551616000) = 18446744073709551616 * (3 * 18446744073709551616000 * (n * A) + (n + 2) * F) := by grind
  constructor
  · refine Abs.unscale (c := 18446744073709551616) (by decide) ?_
    rw [is, ← e]
    exact (((t1.add t2).add t3).sub t4).sub t5
  · refine Abs.unscale (c := 18446744073709551616) (by decide) ?_
    rw [ic, ← e]
    exact (((t1'.add t2').sub t3').sub t4').add t5'

/-- After l parts. -/
theorem sum_err {n : Int} (hn : 1 ≤ n ∧ n ≤ 720) (h1 : n * VI 1 n ≤ 36893488147419103232) (hs : ∀ u, NextOk n u) (u : Int) : ∀ l : Nat, Abs (n ^ l * errS n u l) (3 * 18446744073709551616000 * (l * (n + 2) ^ l)) ∧ Abs (n ^ l * errC n u l) (3 * 18446744073709551616000 * (l * (n + 2) ^ l))
  | 0 => by
    have z := SZ_zero (n := n) hn.1
    have e1 : errS n u (0 : Nat) = 0 := by
      unfold errS
      simp only [Int.natCast_zero, Int.add_zero, z.1, z.2, Int.mul_zero]
      omega
    have e2 : errC n u (0 : Nat) = 0 := by
      unfold errC
      simp only [Int.natCast_zero, Int.add_zero, z.1, z.2, Int.mul_zero]
      omega
    rw [e1, e2]
    simp [Abs]
  | l + 1 => by
    obtain ⟨a, b⟩ := sum_err hn h1 hs u l
    have hp : 0 ≤ n ^ l := Int.le_of_lt (Int.pow_pos (by omega))
    obtain ⟨c, d⟩ := sum_step hn h1 hs hp a b
    have hle : n ^ (l + 1) ≤ (n + 2) ^ (l + 1) := pow_le (by omega) (by omega) _
    have e0 : n * n ^ l = n ^ (l + 1) := by rw [Int.pow_succ, Int.mul_comm]
    have e1 : ((l + 1 : Nat) : Int) = (l : Int) + 1 := by omega
    have e2 : (n + 2) * (3 * 18446744073709551616000 * (l * (n + 2) ^ l)) = 3 * 18446744073709551616000 * (l * (n + 2) ^ (l + 1)) := by
      rw [Int.pow_succ]
      grind
    have hb : 3 * 18446744073709551616000 * (n * n ^ l) + (n + 2) * (3 * 18446744073709551616000 * (l * (n + 2) ^ l)) ≤ 3 * 18446744073709551616000 * (((l : Int) + 1) * (n + 2) ^ (l + 1)) := by
      rw [e0, e2, Int.add_mul, Int.one_mul, Int.mul_add]
      omega
    rw [e1, ← e0]
    exact ⟨c.mono hb, d.mono hb⟩

/-- The theorem of sums: what is wrong is small. -/
theorem sum_ok {n : Int} (hn : 1 ≤ n ∧ n ≤ 720) (h1 : n * VI 1 n ≤ 36893488147419103232) (hs : ∀ u, NextOk n u) (hp : (n + 2) ^ (4 * n.toNat) ≤ 6561 * n ^ (4 * n.toNat)) (u l : Int) : Abs (errS n u l) (60000000000 * 18446744073709551616) ∧ Abs (errC n u l) (60000000000 * 18446744073709551616) := by
  -- l may be taken within one turn
  have key : ∀ l : Nat, l ≤ 4 * n.toNat → Abs (errS n u l) (60000000000 * 18446744073709551616) ∧ Abs (errC n u l) (60000000000 * 18446744073709551616) := by
    intro l hl
    obtain ⟨a, b⟩ := sum_err hn h1 hs u l
    have hpos : 0 < n ^ l := Int.pow_pos (by omega)
    have hpos2 : 0 < n ^ (4 * n.toNat - l) := Int.pow_pos (by omega)
    have hle : n ^ (4 * n.toNat - l) ≤ (n + 2) ^ (4 * n.toNat - l) := pow_le (by omega) (by omega) _
    have h0 : 0 ≤ (n + 2) ^ l := Int.le_of_lt (Int.pow_pos (by omega))
    have hq : (n + 2) ^ l ≤ 6561 * n ^ l := by
      refine Int.le_of_mul_le_mul_left (a := n ^ (4 * n.toNat - l)) ?_ hpos2
      have e1 : (n + 2) ^ (4 * n.toNat - l) * (n + 2) ^ l = (n + 2) ^ (4 * n.toNat) := by rw [← Int.pow_add]; congr 1; omega
      have e2 : n ^ (4 * n.toNat - l) * (6561 * n ^ l) = 6561 * n ^ (4 * n.toNat) := by rw [Int.mul_left_comm, ← Int.pow_add]; congr 2; omega
      rw [e2]
      exact Int.le_trans (Int.mul_le_mul_of_nonneg_right hle h0) (by rw [e1]; exact hp)
    have hb : 3 * 18446744073709551616000 * (l * (n + 2) ^ l) ≤ n ^ l * (60000000000 * 18446744073709551616) := by
      have h3 : (l : Int) * (n + 2) ^ l ≤ 2880 * (6561 * n ^ l) := Int.mul_le_mul (by omega) hq h0 (by omega)
      rw [Int.mul_comm (n ^ l)]
      omega
    exact ⟨Abs.unscale hpos (a.mono hb), Abs.unscale hpos (b.mono hb)⟩
  have hm := Int.emod_add_mul_ediv l (4 * n)
  have hm1 := Int.emod_nonneg l (show 4 * n ≠ 0 by omega)
  have hm2 := Int.emod_lt_of_pos l (show 0 < 4 * n by omega)
  have := key (l % (4 * n)).toNat (by omega)
  rw [show (((l % (4 * n)).toNat : Nat) : Int) = l % (4 * n) by omega] at this
  have e1 : errS n u l = errS n u (l % (4 * n)) := by
    unfold errS
    rw [← SZ_whole (n := n) (u + l % (4 * n)) (l / (4 * n)), ← SZ_whole (n := n) (l % (4 * n)) (l / (4 * n)), ← CZ_whole (n := n) (l % (4 * n)) (l / (4 * n)), show u + l % (4 * n) + 4 * n * (l / (4 * n)) = u + l by omega, hm]
  have e2 : errC n u l = errC n u (l % (4 * n)) := by
    unfold errC
    rw [← CZ_whole (n := n) (u + l % (4 * n)) (l / (4 * n)), ← SZ_whole (n := n) (l % (4 * n)) (l / (4 * n)), ← CZ_whole (n := n) (l % (4 * n)) (l / (4 * n)), show u + l % (4 * n) + 4 * n * (l / (4 * n)) = u + l by omega, hm]
  rw [e1, e2]
  exact this

/-! ### Enclosures -/

/-- An enclosure has X / d millionths. -/
def Enc (a : Span) (X d : Int) : Prop := a.lo * d ≤ X ∧ X ≤ a.hi * d

theorem turnS_enc {n : Int} (hn : 1 ≤ n ∧ n ≤ 720) (u : Int) : Enc (turnS u n) (SZ n u * 1000000) 18446744073709551616 := by
  have base : ∀ w, 0 ≤ w → w ≤ n → Enc (riseI w n) (VI w n * 1000000) 18446744073709551616 := by
    intro w h1 h2
    unfold Enc riseI VI
    by_cases h0 : w = 0
    · subst h0
      rw [show ((0 : Int) == n) = false by simp; omega, show (3 * (0 : Int) == n) = false by simp; omega, decide_eq_true (by omega)]
      have e : angI 0 n = 0 := by simp [angI]
      have e2 : sineI 0 = 0 := by decide +kernel
      simp [e, e2]
    by_cases hw : w = n
    · subst hw
      rw [show (w == 0) = false by simpa using h0, show (w == w) = true by simp]
      simp
    by_cases h3 : 3 * w = n
    · rw [show (w == 0) = false by simpa using h0, show (w == n) = false by simpa using hw, show (3 * w == n) = true by simpa using h3]
      simp
    rw [show (w == 0) = false by simpa using h0, show (w == n) = false by simpa using hw, show (3 * w == n) = false by simpa using h3]
    simp only [cond_false, loI]
    generalize (bif decide (2 * w ≤ n) then sineI (angI w n) else cosiI (angI (n - w) n)) = v
    omega
  have neg : ∀ (a : Span) (x : Int), Enc a (x * 1000000) 18446744073709551616 → Enc (negS a) (-x * 1000000) 18446744073709551616 := by
    intro a x h
    unfold Enc negS at *
    simp only
    omega
  rw [turnS_quad]
  unfold SZ
  obtain ⟨w, k, h1, h2, h | h | h | h⟩ := quad_cases (show 0 < n by omega) u
  · rw [(quad_val ⟨h1, h2⟩).1 h, (quad_val ⟨h1, h2⟩).1 h]; exact base w h1 (by omega)
  · rw [(quad_val ⟨h1, h2⟩).2.1 h, (quad_val ⟨h1, h2⟩).2.1 h]; exact base _ (by omega) (by omega)
  · rw [(quad_val ⟨h1, h2⟩).2.2.1 h, (quad_val ⟨h1, h2⟩).2.2.1 h]; exact neg _ _ (base w h1 (by omega))
  · rw [(quad_val ⟨h1, h2⟩).2.2.2 h, (quad_val ⟨h1, h2⟩).2.2.2 h]; exact neg _ _ (base _ (by omega) (by omega))

theorem min4_le (p q r s : Int) : min4 p q r s ≤ p ∧ min4 p q r s ≤ q ∧ min4 p q r s ≤ r ∧ min4 p q r s ≤ s := by
  unfold min4
  repeat' split
  all_goals omega
theorem le_max4 (p q r s : Int) : p ≤ max4 p q r s ∧ q ≤ max4 p q r s ∧ r ≤ max4 p q r s ∧ s ≤ max4 p q r s := by
  unfold max4
  repeat' split
  all_goals omega

/-- A product of two numbers lies between products of the ends. -/
theorem prod_between {A A' B B' X Y m M : Int} (hX : A ≤ X ∧ X ≤ A') (hY : B ≤ Y ∧ Y ≤ B') (h1 : m ≤ A * B ∧ A * B ≤ M) (h2 : m ≤ A * B' ∧ A * B' ≤ M) (h3 : m ≤ A' * B ∧ A' * B ≤ M) (h4 : m ≤ A' * B' ∧ A' * B' ≤ M) : m ≤ X * Y ∧ X * Y ≤ M := by
  have side : ∀ C : Int, m ≤ C * B ∧ C * B ≤ M → m ≤ C * B' ∧ C * B' ≤ M → m ≤ C * Y ∧ C * Y ≤ M := by
    intro C k1 k2
    rcases Int.le_total 0 C with hC | hC
    · have a := Int.mul_le_mul_of_nonneg_left hY.1 hC
      have b := Int.mul_le_mul_of_nonneg_left hY.2 hC
      omega
    · have a := mul_anti hC hY.1
      have b := mul_anti hC hY.2
      omega
  have a := side A h1 h2
  have b := side A' h3 h4
  rcases Int.le_total 0 Y with hY0 | hY0
  · have c := Int.mul_le_mul_of_nonneg_right hX.1 hY0
    have d := Int.mul_le_mul_of_nonneg_right hX.2 hY0
    omega
  · have c := mul_anti hY0 hX.1
    have d := mul_anti hY0 hX.2
    rw [Int.mul_comm Y, Int.mul_comm Y] at c d
    omega

theorem Enc.mul {a b p : Span} {X Y d e : Int} (hd : 0 < d) (he : 0 < e) (ha : Enc a X d) (hb : Enc b Y e) (h : mulS a b = (p, 0)) : Enc p (X * Y) (d * e * 1000000) := by
  unfold mulS at h
  cases hv : spanValid a && spanValid b with
  | false => rw [hv] at h; simp only [cond_false, Prod.mk.injEq] at h; omega
  | true =>
    rw [hv, cond_true] at h
    unfold rangedS at h
    cases hr : spanValid ⟨min4 (a.lo * b.lo) (a.lo * b.hi) (a.hi * b.lo) (a.hi * b.hi) / 1000000, -(-(max4 (a.lo * b.lo) (a.lo * b.hi) (a.hi * b.lo) (a.hi * b.hi)) / 1000000)⟩ with
    | false => rw [hr] at h; simp at h
    | true =>
      rw [hr] at h
      simp only [Bool.not_true, cond_false, Prod.mk.injEq, and_true] at h
      subst h
      have hmin := min4_le (a.lo * b.lo) (a.lo * b.hi) (a.hi * b.lo) (a.hi * b.hi)
      have hmax := le_max4 (a.lo * b.lo) (a.lo * b.hi) (a.hi * b.lo) (a.hi * b.hi)
      generalize min4 (a.lo * b.lo) (a.lo * b.hi) (a.hi * b.lo) (a.hi * b.hi) = m at *
      generalize max4 (a.lo * b.lo) (a.lo * b.hi) (a.hi * b.lo) (a.hi * b.hi) = M at *
      have hde : 0 < d * e := Int.mul_pos hd he
      have sc : ∀ x y : Int, m ≤ x * y ∧ x * y ≤ M → m * (d * e) ≤ (x * d) * (y * e) ∧ (x * d) * (y * e) ≤ M * (d * e) := by
        intro x y k
        have eq : (x * d) * (y * e) = (x * y) * (d * e) := by grind
        rw [eq]
        exact ⟨Int.mul_le_mul_of_nonneg_right k.1 (by omega), Int.mul_le_mul_of_nonneg_right k.2 (by omega)⟩
      have key := prod_between ha hb (sc _ _ ⟨hmin.1, hmax.1⟩) (sc _ _ ⟨hmin.2.1, hmax.2.1⟩) (sc _ _ ⟨hmin.2.2.1, hmax.2.2.1⟩) (sc _ _ ⟨hmin.2.2.2, hmax.2.2.2⟩)
      have f1 : m / 1000000 * 1000000 ≤ m := by omega
      have f2 : M ≤ -(-M / 1000000) * 1000000 := by omega
      have g1 := Int.mul_le_mul_of_nonneg_right f1 (Int.le_of_lt hde)
      have g2 := Int.mul_le_mul_of_nonneg_right f2 (Int.le_of_lt hde)
      unfold Enc
      simp only
      have k1 : m / 1000000 * (d * e * 1000000) = m / 1000000 * 1000000 * (d * e) := by grind
      have k2 : -(-M / 1000000) * (d * e * 1000000) = -(-M / 1000000) * 1000000 * (d * e) := by grind
      rw [k1, k2]
      omega

theorem rangedS_ok {a b : Span} (h : rangedS a = (b, 0)) : b = a := by
  unfold rangedS at h
  cases hv : spanValid a with
  | false => rw [hv] at h; simp at h
  | true => rw [hv] at h; simp only [Bool.not_true, cond_false, Prod.mk.injEq, and_true] at h; exact h.symm

theorem Enc.add {a b p : Span} {X Y d : Int} (ha : Enc a X d) (hb : Enc b Y d) (h : addS a b = (p, 0)) : Enc p (X + Y) d := by
  unfold addS at h
  cases hv : spanValid a && spanValid b with
  | false => rw [hv] at h; simp at h
  | true =>
    rw [hv, cond_true] at h
    cases rangedS_ok h
    unfold Enc at *
    simp only [Int.add_mul]
    omega

theorem Enc.sub {a b p : Span} {X Y d : Int} (ha : Enc a X d) (hb : Enc b Y d) (h : subS a b = (p, 0)) : Enc p (X - Y) d := by
  unfold subS at h
  cases hv : spanValid a && spanValid b with
  | false => rw [hv] at h; simp at h
  | true =>
    rw [hv, cond_true] at h
    cases rangedS_ok h
    unfold Enc at *
    simp only [Int.sub_mul]
    omega

theorem Enc.scale {a : Span} {X d c : Int} (hc : 0 ≤ c) (h : Enc a X d) : Enc a (X * c) (d * c) := by
  unfold Enc at *
  rw [← Int.mul_assoc, ← Int.mul_assoc]
  exact ⟨Int.mul_le_mul_of_nonneg_right h.1 hc, Int.mul_le_mul_of_nonneg_right h.2 hc⟩

theorem Enc.unscale {a : Span} {X d c : Int} (hc : 0 < c) (h : Enc a (X * c) (d * c)) : Enc a X d := by
  unfold Enc at *
  rw [← Int.mul_assoc, ← Int.mul_assoc] at h
  exact ⟨Int.le_of_mul_le_mul_right h.1 hc, Int.le_of_mul_le_mul_right h.2 hc⟩

/-- Enclosures of numbers that differ by less than a millionth have a number in common. -/
theorem Enc.common {a b : Span} {X Y d : Int} (hd : 0 < d) (ha : Enc a X d) (hb : Enc b Y d) (h : Abs (X - Y) (d - 1)) : a.lo ≤ b.hi ∧ b.lo ≤ a.hi := by
  unfold Enc Abs at *
  constructor
  · have : a.lo * d < (b.hi + 1) * d := by rw [Int.add_mul]; omega
    have := Int.lt_of_mul_lt_mul_right this (by omega)
    omega
  · have : b.lo * d < (a.hi + 1) * d := by rw [Int.add_mul]; omega
    have := Int.lt_of_mul_lt_mul_right this (by omega)
    omega

end Go.Ev
