/-
  The theorem of sums, up to small errors: by induction on the parts. No program here.
  The theorem of sums for 720 parts of a turn, up to small errors. No program here.
  Enclosures of numbers of absolute value at most 1: sines, cosines, their products. No program here.
  Sines and cosines of half degrees: the program's enclosures are the reference's. No program here.
  Contracts of loops by any function of the state. No condition.
  Names: a letter, then letters, digits and hyphens. No program here.
  Directions of sources: what the functions come to. No program here.
  Products of enclosures: opposites, and how wide they are. Directions at other ticks. No program here.
  Sines and cosines of half degrees: their squares add up to one, nearly. A test of all of them by the kernel. No program here.
  Fractions: sums, differences, products and quotients in lowest terms, as the program and the reference find them. No program here.
  Fractions: what the program's functions come to. No program here.
  Fractions: what the reference's functions come to. No program here.
  Vectors of fractions: checks, sums, products. No program here.
  Dot products of directions and vectors. No program here.
  Vectors of fractions: differences, products, cross products, as the program and the reference find them. No program here.
  Matrices of fractions and turns, as the program and the reference find them. No program here.
  Fractions by their values (rational numbers): sums, products, quotients; size; vectors, matrices and turns. No program here.
  Turns by their values; the laws of cross products, of what a turn keeps and of products of turns. No program here.
  Enclosures of rational numbers: sums, products, dot products; the axes of a source. No program here.
  Projections: axes, projections, squares; the laws ProjSquare and ProjKeeps. No program here.
  Projections, the reference's way; the law ProjAxes. No program here.
  The law of what a turn keeps. No program here.
  The law of products of turns. No program here.
-/
import Derived.Test.YtglifoijcdfjaaaDoorPkProjNames2
namespace Go.Ev
open Go

def Abs (x b : Int) : Prop := -b ≤ x ∧ x ≤ b

theorem Abs.add {x y a b : Int} (h : Abs x a) (k : Abs y b) : Abs (x + y) (a + b) := by unfold Abs at *; omega
theorem Abs.sub {x y a b : Int} (h : Abs x a) (k : Abs y b) : Abs (x - y) (a + b) := by unfold Abs at *; omega
theorem Abs.nonneg {x a : Int} (h : Abs x a) : 0 ≤ a := by unfold Abs at h; omega
theorem Abs.mono {x a b : Int} (h : Abs x a) (k : a ≤ b) : Abs x b := by unfold Abs at *; omega
theorem Abs.mul {x y a b : Int} (h : Abs x a) (k : Abs y b) : Abs (x * y) (a * b) := by
  have ha := h.nonneg
  have hb := k.nonneg
  have e : (x * y).natAbs ≤ (a * b).natAbs := by
    rw [Int.natAbs_mul, Int.natAbs_mul]
    exact Nat.mul_le_mul (by unfold Abs at h; omega) (by unfold Abs at k; omega)
  have : 0 ≤ a * b := Int.mul_nonneg ha hb
  unfold Abs
  omega
theorem Abs.scale {x a c : Int} (hc : 0 ≤ c) (h : Abs x a) : Abs (c * x) (c * a) := by
  unfold Abs at *
  have h1 : c * (-a) ≤ c * x := Int.mul_le_mul_of_nonneg_left h.1 hc
  have h2 : c * x ≤ c * a := Int.mul_le_mul_of_nonneg_left h.2 hc
  rw [Int.mul_neg] at h1
  exact ⟨h1, h2⟩
theorem Abs.unscale {x a c : Int} (hc : 0 < c) (h : Abs (c * x) (c * a)) : Abs x a := by
  unfold Abs at *
  rw [← Int.mul_neg] at h
  exact ⟨Int.le_of_mul_le_mul_left h.1 hc, Int.le_of_mul_le_mul_left h.2 hc⟩


theorem pow_le {a b : Int} (h0 : 0 ≤ a) (h : a ≤ b) : ∀ k : Nat, a ^ k ≤ b ^ k
  | 0 => by simp
  | k + 1 => by
    rw [Int.pow_succ, Int.pow_succ]
    exact Int.mul_le_mul (pow_le h0 h k) h h0 (Int.pow_nonneg (by omega))

theorem mul_anti {a b c : Int} (hc : c ≤ 0) (h : a ≤ b) : c * b ≤ c * a := by
  have := Int.mul_le_mul_of_nonneg_left h (show 0 ≤ -c by omega)
  rw [Int.neg_mul, Int.neg_mul] at this
  omega

def errS (n u l : Int) : Int := 18446744073709551616 * SZ n (u + l) - (SZ n u * CZ n l + CZ n u * SZ n l)
def errC (n u l : Int) : Int := 18446744073709551616 * CZ n (u + l) - (CZ n u * CZ n l - SZ n u * SZ n l)

theorem sum_step {n : Int} (hn : 1 ≤ n ∧ n ≤ 720) (h1 : n * VI 1 n ≤ 36893488147419103232) (hs : ∀ u, NextOk n u) {u l A F : Int} (hA : 0 ≤ A)
    (hS : Abs (A * errS n u l) F) (hC : Abs (A * errC n u l) F) : Abs (n * A * errS n u (l + 1)) (3 * 18446744073709551616000 * (n * A) + (n + 2) * F) ∧ Abs (n * A * errC n u (l + 1)) (3 * 18446744073709551616000 * (n * A) + (n + 2) * F) := by
  have hF := hS.nonneg
  have n1 : Abs (errS n (u + l) 1) 18446744073709551616000 := ⟨(hs (u + l)).s2, (hs (u + l)).s1⟩
  have n2 : Abs (errC n (u + l) 1) 18446744073709551616000 := ⟨(hs (u + l)).c2, (hs (u + l)).c1⟩
  have n3 : Abs (errS n l 1) 18446744073709551616000 := ⟨(hs l).s2, (hs l).s1⟩
  have n4 : Abs (errC n l 1) 18446744073709551616000 := ⟨(hs l).c2, (hs l).c1⟩
  have ru : Abs (SZ n u) 18446744073709551616 := SZ_range hn u
  have rc : Abs (CZ n u) 18446744073709551616 := SZ_range hn (u + n)
  have o := SZ_one (n := n) hn.1
  have v1 := VI_range hn (w := 1) (by omega)
  have v2 := VI_range hn (w := n - 1) (by omega)
  have hnA : 0 ≤ n * A := Int.mul_nonneg (by omega) hA
  have is : 18446744073709551616 * (n * A * errS n u (l + 1)) = 18446744073709551616 * (n * A) * errS n (u + l) 1 + (A * errS n u l) * (n * CZ n 1) + (A * errC n u l) * (n * SZ n 1) - (n * A) * (SZ n u * errC n l 1) - (n * A) * (CZ n u * errS n l 1) := by
    unfold errS errC
    rw [show u + (l + 1) = u + l + 1 by omega]
    grind
  have ic : 18446744073709551616 * (n * A * errC n u (l + 1)) = 18446744073709551616 * (n * A) * errC n (u + l) 1 + (A * errC n u l) * (n * CZ n 1) - (A * errS n u l) * (n * SZ n 1) - (n * A) * (CZ n u * errC n l 1) + (n * A) * (SZ n u * errS n l 1) := by
    unfold errS errC
    rw [show u + (l + 1) = u + l + 1 by omega]
    grind
  have b1 : Abs (n * CZ n 1) (n * 18446744073709551616) := by rw [o.2]; exact Abs.scale (by omega) ⟨by omega, v2.2⟩
  have b2 : Abs (n * SZ n 1) (2 * 18446744073709551616) := by
    rw [o.1]
    have : 0 ≤ n * VI 1 n := Int.mul_nonneg (by omega) v1.1
    exact ⟨by omega, by omega⟩
  have t1 := Abs.scale (c := 18446744073709551616 * (n * A)) (Int.mul_nonneg (by decide) hnA) n1
  have t1' := Abs.scale (c := 18446744073709551616 * (n * A)) (Int.mul_nonneg (by decide) hnA) n2
  have t2 := hS.mul b1
  have t2' := hC.mul b1
  have t3 := hC.mul b2
  have t3' := hS.mul b2
  have t4 := Abs.scale hnA (ru.mul n4)
  have t4' := Abs.scale hnA (rc.mul n4)
  have t5 := Abs.scale hnA (rc.mul n3)
  have t5' := Abs.scale hnA (ru.mul n3)
  have e : 18446744073709551616 * (n * A) * 18446744073709551616000 + F * (n * 18446744073709551616) + F * (2 * 18446744073709551616) + n * A * (18446744073709551616 * 18446744073709551616000) + n * A * (18446744073709551616 * 18446744073709551616000) = 18446744073709551616 * (3 * 18446744073709551616000 * (n * A) + (n + 2) * F) := by grind
  constructor
  · refine Abs.unscale (c := 18446744073709551616) (by decide) ?_
    rw [is, ← e]
    exact (((t1.add t2).add t3).sub t4).sub t5
  · refine Abs.unscale (c := 18446744073709551616) (by decide) ?_
    rw [ic, ← e]
    exact (((t1'.add t2').sub t3').sub t4').add t5'

theorem sum_err {n : Int} (hn : 1 ≤ n ∧ n ≤ 720) (h1 : n * VI 1 n ≤ 36893488147419103232) (hs : ∀ u, NextOk n u) (u : Int) : ∀ l : Nat, Abs (n ^ l * errS n u l) (3 * 18446744073709551616000 * (l * (n + 2) ^ l)) ∧ Abs (n ^ l * errC n u l) (3 * 18446744073709551616000 * (l * (n + 2) ^ l))
  | 0 => by
    have z := SZ_zero (n := n) hn.1
    have e1 : errS n u (0 : Nat) = 0 := by
      unfold errS
      simp only [Int.natCast_zero, Int.add_zero, z.1, z.2, Int.mul_zero]
      omega
    have e2 : errC n u (0 : Nat) = 0 := by
      unfold errC
      simp only [Int.natCast_zero, Int.add_zero, z.1, z.2, Int.mul_zero]
      omega
    rw [e1, e2]
    simp [Abs]
  | l + 1 => by
    obtain ⟨a, b⟩ := sum_err hn h1 hs u l
    have hp : 0 ≤ n ^ l := Int.le_of_lt (Int.pow_pos (by omega))
    obtain ⟨c, d⟩ := sum_step hn h1 hs hp a b
    have hle : n ^ (l + 1) ≤ (n + 2) ^ (l + 1) := pow_le (by omega) (by omega) _
    have e0 : n * n ^ l = n ^ (l + 1) := by rw [Int.pow_succ, Int.mul_comm]
    have e1 : ((l + 1 : Nat) : Int) = (l : Int) + 1 := by omega
    have e2 : (n + 2) * (3 * 18446744073709551616000 * (l * (n + 2) ^ l)) = 3 * 18446744073709551616000 * (l * (n + 2) ^ (l + 1)) := by
      rw [Int.pow_succ]
      grind
    have hb : 3 * 18446744073709551616000 * (n * n ^ l) + (n + 2) * (3 * 18446744073709551616000 * (l * (n + 2) ^ l)) ≤ 3 * 18446744073709551616000 * (((l : Int) + 1) * (n + 2) ^ (l + 1)) := by
      rw [e0, e2, Int.add_mul, Int.one_mul, Int.mul_add]
      omega
    rw [e1, ← e0]
    exact ⟨c.mono hb, d.mono hb⟩

theorem sum_ok {n : Int} (hn : 1 ≤ n ∧ n ≤ 720) (h1 : n * VI 1 n ≤ 36893488147419103232) (hs : ∀ u, NextOk n u) (hp : (n + 2) ^ (4 * n.toNat) ≤ 6561 * n ^ (4 * n.toNat)) (u l : Int) : Abs (errS n u l) (60000000000 * 18446744073709551616) ∧ Abs (errC n u l) (60000000000 * 18446744073709551616) := by
  -- l may be taken within one turn
  have key : ∀ l : Nat, l ≤ 4 * n.toNat → Abs (errS n u l) (60000000000 * 18446744073709551616) ∧ Abs (errC n u l) (60000000000 * 18446744073709551616) := by
    intro l hl
    obtain ⟨a, b⟩ := sum_err hn h1 hs u l
    have hpos : 0 < n ^ l := Int.pow_pos (by omega)
    have hpos2 : 0 < n ^ (4 * n.toNat - l) := Int.pow_pos (by omega)
    have hle : n ^ (4 * n.toNat - l) ≤ (n + 2) ^ (4 * n.toNat - l) := pow_le (by omega) (by omega) _
    have h0 : 0 ≤ (n + 2) ^ l := Int.le_of_lt (Int.pow_pos (by omega))
    have hq : (n + 2) ^ l ≤ 6561 * n ^ l := by
      refine Int.le_of_mul_le_mul_left (a := n ^ (4 * n.toNat - l)) ?_ hpos2
      have e1 : (n + 2) ^ (4 * n.toNat - l) * (n + 2) ^ l = (n + 2) ^ (4 * n.toNat) := by rw [← Int.pow_add]; congr 1; omega
      have e2 : n ^ (4 * n.toNat - l) * (6561 * n ^ l) = 6561 * n ^ (4 * n.toNat) := by rw [Int.mul_left_comm, ← Int.pow_add]; congr 2; omega
      rw [e2]
      exact Int.le_trans (Int.mul_le_mul_of_nonneg_right hle h0) (by rw [e1]; exact hp)
    have hb : 3 * 18446744073709551616000 * (l * (n + 2) ^ l) ≤ n ^ l * (60000000000 * 18446744073709551616) := by
      have h3 : (l : Int) * (n + 2) ^ l ≤ 2880 * (6561 * n ^ l) := Int.mul_le_mul (by omega) hq h0 (by omega)
      rw [Int.mul_comm (n ^ l)]
      omega
    exact ⟨Abs.unscale hpos (a.mono hb), Abs.unscale hpos (b.mono hb)⟩
  have hm := Int.emod_add_mul_ediv l (4 * n)
  have hm1 := Int.emod_nonneg l (show 4 * n ≠ 0 by omega)
  have hm2 := Int.emod_lt_of_pos l (show 0 < 4 * n by omega)
  have := key (l % (4 * n)).toNat (by omega)
  rw [show (((l % (4 * n)).toNat : Nat) : Int) = l % (4 * n) by omega] at this
  have e1 : errS n u l = errS n u (l % (4 * n)) := by
    unfold errS
    rw [← SZ_whole (n := n) (u + l % (4 * n)) (l / (4 * n)), ← SZ_whole (n := n) (l % (4 * n)) (l / (4 * n)), ← CZ_whole (n := n) (l % (4 * n)) (l / (4 * n)), show u + l % (4 * n) + 4 * n * (l / (4 * n)) = u + l by omega, hm]
  have e2 : errC n u l = errC n u (l % (4 * n)) := by
    unfold errC
    rw [← CZ_whole (n := n) (u + l % (4 * n)) (l / (4 * n)), ← SZ_whole (n := n) (l % (4 * n)) (l / (4 * n)), ← CZ_whole (n := n) (l % (4 * n)) (l / (4 * n)), show u + l % (4 * n) + 4 * n * (l / (4 * n)) = u + l by omega, hm]
  rw [e1, e2]
  exact this

/-! ### Enclosures -/

def Enc (a : Span) (X d : Int) : Prop := a.lo * d ≤ X ∧ X ≤ a.hi * d

theorem turnS_enc {n : Int} (hn : 1 ≤ n ∧ n ≤ 720) (u : Int) : Enc (turnS u n) (SZ n u * 1000000) 18446744073709551616 := by
  have base : ∀ w, 0 ≤ w → w ≤ n → Enc (riseI w n) (VI w n * 1000000) 18446744073709551616 := by
    intro w h1 h2
    unfold Enc riseI VI
    by_cases h0 : w = 0
    · subst h0
      rw [show ((0 : Int) == n) = false by simp; omega, show (3 * (0 : Int) == n) = false by simp; omega, decide_eq_true (by omega)]
      have e : angI 0 n = 0 := by simp [angI]
      have e2 : sineI 0 = 0 := by decide +kernel
      simp [e, e2]
    by_cases hw : w = n
    · subst hw
      rw [show (w == 0) = false by simpa using h0, show (w == w) = true by simp]
      simp
    by_cases h3 : 3 * w = n
    · rw [show (w == 0) = false by simpa using h0, show (w == n) = false by simpa using hw, show (3 * w == n) = true by simpa using h3]
      simp
    rw [show (w == 0) = false by simpa using h0, show (w == n) = false by simpa using hw, show (3 * w == n) = false by simpa using h3]
    simp only [cond_false, loI]
    generalize (bif decide (2 * w ≤ n) then sineI (angI w n) else cosiI (angI (n - w) n)) = v
    omega
  have neg : ∀ (a : Span) (x : Int), Enc a (x * 1000000) 18446744073709551616 → Enc (negS a) (-x * 1000000) 18446744073709551616 := by
    intro a x h
    unfold Enc negS at *
    simp only
    omega
  rw [turnS_quad]
  unfold SZ
  obtain ⟨w, k, h1, h2, h | h | h | h⟩ := quad_cases (show 0 < n by omega) u
  · rw [(quad_val ⟨h1, h2⟩).1 h, (quad_val ⟨h1, h2⟩).1 h]; exact base w h1 (by omega)
  · rw [(quad_val ⟨h1, h2⟩).2.1 h, (quad_val ⟨h1, h2⟩).2.1 h]; exact base _ (by omega) (by omega)
  · rw [(quad_val ⟨h1, h2⟩).2.2.1 h, (quad_val ⟨h1, h2⟩).2.2.1 h]; exact neg _ _ (base w h1 (by omega))
  · rw [(quad_val ⟨h1, h2⟩).2.2.2 h, (quad_val ⟨h1, h2⟩).2.2.2 h]; exact neg _ _ (base _ (by omega) (by omega))

theorem min4_le (p q r s : Int) : min4 p q r s ≤ p ∧ min4 p q r s ≤ q ∧ min4 p q r s ≤ r ∧ min4 p q r s ≤ s := by
  unfold min4
  repeat' split
  all_goals omega
theorem le_max4 (p q r s : Int) : p ≤ max4 p q r s ∧ q ≤ max4 p q r s ∧ r ≤ max4 p q r s ∧ s ≤ max4 p q r s := by
  unfold max4
  repeat' split
  all_goals omega

theorem prod_between {A A' B B' X Y m M : Int} (hX : A ≤ X ∧ X ≤ A') (hY : B ≤ Y ∧ Y ≤ B') (h1 : m ≤ A * B ∧ A * B ≤ M) (h2 : m ≤ A * B' ∧ A * B' ≤ M) (h3 : m ≤ A' * B ∧ A' * B ≤ M) (h4 : m ≤ A' * B' ∧ A' * B' ≤ M) : m ≤ X * Y ∧ X * Y ≤ M := by
  have side : ∀ C : Int, m ≤ C * B ∧ C * B ≤ M → m ≤ C * B' ∧ C * B' ≤ M → m ≤ C * Y ∧ C * Y ≤ M := by
    intro C k1 k2
    rcases Int.le_total 0 C with hC | hC
    · have a := Int.mul_le_mul_of_nonneg_left hY.1 hC
      have b := Int.mul_le_mul_of_nonneg_left hY.2 hC
      omega
    · have a := mul_anti hC hY.1
      have b := mul_anti hC hY.2
      omega
  have a := side A h1 h2
  have b := side A' h3 h4
  rcases Int.le_total 0 Y with hY0 | hY0
  · have c := Int.mul_le_mul_of_nonneg_right hX.1 hY0
    have d := Int.mul_le_mul_of_nonneg_right hX.2 hY0
    omega
  · have c := mul_anti hY0 hX.1
    have d := mul_anti hY0 hX.2
    rw [Int.mul_comm Y, Int.mul_comm Y] at c d
    omega

theorem Enc.mul {a b p : Span} {X Y d e : Int} (hd : 0 < d) (he : 0 < e) (ha : Enc a X d) (hb : Enc b Y e) (h : mulS a b = (p, 0)) : Enc p (X * Y) (d * e * 1000000) := by
  unfold mulS at h
  cases hv : spanValid a && spanValid b with
  | false => rw [hv] at h; simp only [cond_false, Prod.mk.injEq] at h; omega
  | true =>
    rw [hv, cond_true] at h
    unfold rangedS at h
    cases hr : spanValid ⟨min4 (a.lo * b.lo) (a.lo * b.hi) (a.hi * b.lo) (a.hi * b.hi) / 1000000, -(-(max4 (a.lo * b.lo) (a.lo * b.hi) (a.hi * b.lo) (a.hi * b.hi)) / 1000000)⟩ with
    | false => rw [hr] at h; simp at h
    | true =>
      rw [hr] at h
      simp only [Bool.not_true, cond_false, Prod.mk.injEq, and_true] at h
      subst h
      have hmin := min4_le (a.lo * b.lo) (a.lo * b.hi) (a.hi * b.lo) (a.hi * b.hi)
      have hmax := le_max4 (a.lo * b.lo) (a.lo * b.hi) (a.hi * b.lo) (a.hi * b.hi)
      generalize min4 (a.lo * b.lo) (a.lo * b.hi) (a.hi * b.lo) (a.hi * b.hi) = m at *
      generalize max4 (a.lo * b.lo) (a.lo * b.hi) (a.hi * b.lo) (a.hi * b.hi) = M at *
      have hde : 0 < d * e := Int.mul_pos hd he
      have sc : ∀ x y : Int, m ≤ x * y ∧ x * y ≤ M → m * (d * e) ≤ (x * d) * (y * e) ∧ (x * d) * (y * e) ≤ M * (d * e) := by
        intro x y k
        have eq : (x * d) * (y * e) = (x * y) * (d * e) := by grind
        rw [eq]
        exact ⟨Int.mul_le_mul_of_nonneg_right k.1 (by omega), Int.mul_le_mul_of_nonneg_right k.2 (by omega)⟩
      have key := prod_between ha hb (sc _ _ ⟨hmin.1, hmax.1⟩) (sc _ _ ⟨hmin.2.1, hmax.2.1⟩) (sc _ _ ⟨hmin.2.2.1, hmax.2.2.1⟩) (sc _ _ ⟨hmin.2.2.2, hmax.2.2.2⟩)
      have f1 : m / 1000000 * 1000000 ≤ m := by omega
      have f2 : M ≤ -(-M / 1000000) * 1000000 := by omega
      have g1 := Int.mul_le_mul_of_nonneg_right f1 (Int.le_of_lt hde)
      have g2 := Int.mul_le_mul_of_nonneg_right f2 (Int.le_of_lt hde)
      unfold Enc
      simp only
      have k1 : m / 1000000 * (d * e * 1000000) = m / 1000000 * 1000000 * (d * e) := by grind
      have k2 : -(-M / 1000000) * (d * e * 1000000) = -(-M / 1000000) * 1000000 * (d * e) := by grind
      rw [k1, k2]
      omega

theorem rangedS_ok {a b : Span} (h : rangedS a = (b, 0)) : b = a := by
  unfold rangedS at h
  cases hv : spanValid a with
  | false => rw [hv] at h; simp at h
  | true => rw [hv] at h; simp only [Bool.not_true, cond_false, Prod.mk.injEq, and_true] at h; exact h.symm

theorem Enc.add {a b p : Span} {X Y d : Int} (ha : Enc a X d) (hb : Enc b Y d) (h : addS a b = (p, 0)) : Enc p (X + Y) d := by
  unfold addS at h
  cases hv : spanValid a && spanValid b with
  | false => rw [hv] at h; simp at h
  | true =>
    rw [hv, cond_true] at h
    cases rangedS_ok h
    unfold Enc at *
    simp only [Int.add_mul]
    omega

theorem Enc.sub {a b p : Span} {X Y d : Int} (ha : Enc a X d) (hb : Enc b Y d) (h : subS a b = (p, 0)) : Enc p (X - Y) d := by
  unfold subS at h
  cases hv : spanValid a && spanValid b with
  | false => rw [hv] at h; simp at h
  | true =>
    rw [hv, cond_true] at h
    cases rangedS_ok h
    unfold Enc at *
    simp only [Int.sub_mul]
    omega

theorem Enc.scale {a : Span} {X d c : Int} (hc : 0 ≤ c) (h : Enc a X d) : Enc a (X * c) (d * c) := by
  unfold Enc at *
  rw [← Int.mul_assoc, ← Int.mul_assoc]
  exact ⟨Int.mul_le_mul_of_nonneg_right h.1 hc, Int.mul_le_mul_of_nonneg_right h.2 hc⟩

theorem Enc.unscale {a : Span} {X d c : Int} (hc : 0 < c) (h : Enc a (X * c) (d * c)) : Enc a X d := by
  unfold Enc at *
  rw [← Int.mul_assoc, ← Int.mul_assoc] at h
  exact ⟨Int.le_of_mul_le_mul_right h.1 hc, Int.le_of_mul_le_mul_right h.2 hc⟩

theorem Enc.common {a b : Span} {X Y d : Int} (hd : 0 < d) (ha : Enc a X d) (hb : Enc b Y d) (h : Abs (X - Y) (d - 1)) : a.lo ≤ b.hi ∧ b.lo ≤ a.hi := by
  unfold Enc Abs at *
  constructor
  · have : a.lo * d < (b.hi + 1) * d := by rw [Int.add_mul]; omega
    have := Int.lt_of_mul_lt_mul_right this (by omega)
    omega
  · have : b.lo * d < (a.hi + 1) * d := by rw [Int.add_mul]; omega
    have := Int.lt_of_mul_lt_mul_right this (by omega)
    omega

end Go.Ev

namespace Go.Ev
open Go

def powC (n : Nat) : Bool := Nat.ble ((n + 2) ^ (4 * n)) (6561 * n ^ (4 * n))

theorem sum_of {m : Nat} (hm : 1 ≤ m ∧ m ≤ 720) (h : sumC m = true) (hp : powC m = true) (u l : Int) : Abs (errS m u l) (60000000000 * 18446744073709551616) ∧ Abs (errC m u l) (60000000000 * 18446744073709551616) := by
  obtain ⟨h1, h2⟩ := sumC_ok hm h
  have hs : ∀ u, NextOk m u := nextOk (by omega) fun w hw hlt => by
    obtain ⟨w, rfl⟩ := Int.eq_ofNat_of_zero_le hw
    exact h2 w (by omega)
  refine sum_ok (by omega) h1 hs ?_ u l
  have := Nat.le_of_ble_eq_true hp
  rw [Int.toNat_natCast]
  have e : ((((m + 2) ^ (4 * m) : Nat)) : Int) ≤ ((6561 * m ^ (4 * m) : Nat) : Int) := by exact_mod_cast this
  simpa using e

set_option maxRecDepth 100000 in
theorem sum720C : sumC 720 = true := by decide +kernel
theorem pow720C : powC 720 = true := by decide +kernel

theorem sum720 (u l : Int) : Abs (errS 720 u l) (60000000000 * 18446744073709551616) ∧ Abs (errC 720 u l) (60000000000 * 18446744073709551616) :=
  sum_of (m := 720) (by omega) sum720C pow720C u l

end Go.Ev

namespace Go.Ev
open Go

def yes (K : AV → List Blk → Ans) : Ans := K (rB true) []
def nay (K : AV → List Blk → Ans) : Ans := K (rB false) []

structure Near (a r : Span) : Prop where
  is : a = r ∨ a = negS r

theorem Near.range {a r : Span} (h : Near a r) (hr : 0 ≤ r.lo ∧ r.lo ≤ r.hi ∧ r.hi ≤ 1000000 ∧ r.hi ≤ r.lo + 1) : -1000000 ≤ a.lo ∧ a.lo ≤ a.hi ∧ a.hi ≤ 1000000 ∧ a.hi ≤ a.lo + 1 := by
  rcases h.is with rfl | rfl
  · omega
  · simp only [negS]; omega

theorem riseI_zero (n : Int) : riseI 0 n = ⟨0, 0⟩ := rfl
theorem riseI_neg0 (n : Int) : negS (riseI 0 n) = riseI 0 n := rfl

theorem turn_pair {n : Int} (hn : 0 < n) (u : Int) : ∃ w m, 0 ≤ w ∧ w < n ∧ u = w + n * m ∧ ((Near (turnS u n) (riseI w n) ∧ Near (turnS (u + n) n) (riseI (n - w) n)) ∨ (Near (turnS u n) (riseI (n - w) n) ∧ Near (turnS (u + n) n) (riseI w n))) := by
  have h0 := riseI_neg0 n
  rw [turnS_quad, turnS_quad]
  obtain ⟨w, k, h1, h2, h | h | h | h⟩ := quad_cases hn u
  · refine ⟨w, 4 * k, h1, h2, by rw [h, Int.mul_assoc, Int.mul_left_comm n 4 k], .inl ⟨⟨.inl ((quad_val ⟨h1, h2⟩).1 h)⟩, ⟨.inl ((quad_val (k := k) ⟨h1, h2⟩).2.1 (by omega))⟩⟩⟩
  · refine ⟨w, 1 + 4 * k, h1, h2, by rw [h, Int.mul_add, Int.mul_assoc, Int.mul_left_comm n 4 k]; omega, .inr ⟨⟨.inl ((quad_val ⟨h1, h2⟩).2.1 h)⟩, ⟨.inr ((quad_val (k := k) ⟨h1, h2⟩).2.2.1 (by omega))⟩⟩⟩
  · refine ⟨w, 2 + 4 * k, h1, h2, by rw [h, Int.mul_add, Int.mul_assoc, Int.mul_left_comm n 4 k]; omega, .inl ⟨⟨.inr ((quad_val ⟨h1, h2⟩).2.2.1 h)⟩, ⟨.inr ((quad_val (k := k) ⟨h1, h2⟩).2.2.2 (by omega))⟩⟩⟩
  · refine ⟨w, 3 + 4 * k, h1, h2, by rw [h, Int.mul_add, Int.mul_assoc, Int.mul_left_comm n 4 k]; omega, .inr ⟨⟨.inr ((quad_val ⟨h1, h2⟩).2.2.2 h)⟩, ⟨.inl ((quad_val (k := k + 1) ⟨h1, h2⟩).1 (by rw [Int.mul_add]; omega))⟩⟩⟩

def commonB (a b : Span) : Bool := bif decide (a.lo ≤ b.hi) then decide (b.lo ≤ a.hi) else false

theorem commonB_iff {a b : Span} : commonB a b = true ↔ a.lo ≤ b.hi ∧ b.lo ≤ a.hi := by
  unfold commonB
  by_cases h : a.lo ≤ b.hi
  · rw [decide_eq_true h]; simp [h]
  · rw [decide_eq_false h]; simp [h]

def Unit1 (a : Span) : Prop := -1000000 ≤ a.lo ∧ a.lo ≤ a.hi ∧ a.hi ≤ 1000000

theorem turnS_unit {n : Int} (hn : 1 ≤ n ∧ n ≤ 720) (u : Int) : Unit1 (turnS u n) := by
  obtain ⟨w, m, w1, w2, _, hp⟩ := turn_pair (n := n) (by omega) u
  have r1 := riseI_range (w := w) (n := n) (by simp only [riseOn, Bool.and_eq_true, decide_eq_true_eq]; omega)
  have r2 := riseI_range (w := n - w) (n := n) (by simp only [riseOn, Bool.and_eq_true, decide_eq_true_eq]; omega)
  rcases hp with ⟨h, _⟩ | ⟨h, _⟩
  · have := h.range r1; exact ⟨this.1, this.2.1, this.2.2.1⟩
  · have := h.range r2; exact ⟨this.1, this.2.1, this.2.2.1⟩

theorem min4_one {p q r s : Int} : min4 p q r s = p ∨ min4 p q r s = q ∨ min4 p q r s = r ∨ min4 p q r s = s := by
  unfold min4
  repeat' split
  all_goals simp
theorem max4_one {p q r s : Int} : max4 p q r s = p ∨ max4 p q r s = q ∨ max4 p q r s = r ∨ max4 p q r s = s := by
  unfold max4
  repeat' split
  all_goals simp

theorem unit_mul {x y : Int} (hx : -1000000 ≤ x ∧ x ≤ 1000000) (hy : -1000000 ≤ y ∧ y ≤ 1000000) : -1000000000000 ≤ x * y ∧ x * y ≤ 1000000000000 := Abs.mul (x := x) (y := y) (a := 1000000) (b := 1000000) hx hy

theorem mulS_unit {a b : Span} (ha : Unit1 a) (hb : Unit1 b) : ∃ p, mulS a b = (p, 0) ∧ Unit1 p := by
  unfold Unit1 at *
  have v1 : spanValid a = true := by rw [spanValid_iff]; omega
  have v2 : spanValid b = true := by rw [spanValid_iff]; omega
  have p1 := unit_mul (x := a.lo) (y := b.lo) (by omega) (by omega)
  have p2 := unit_mul (x := a.lo) (y := b.hi) (by omega) (by omega)
  have p3 := unit_mul (x := a.hi) (y := b.lo) (by omega) (by omega)
  have p4 := unit_mul (x := a.hi) (y := b.hi) (by omega) (by omega)
  unfold mulS
  rw [v1, v2]
  simp only [Bool.and_self, cond_true]
  have h1 := min4_le (a.lo * b.lo) (a.lo * b.hi) (a.hi * b.lo) (a.hi * b.hi)
  have h2 := le_max4 (a.lo * b.lo) (a.lo * b.hi) (a.hi * b.lo) (a.hi * b.hi)
  have h3 := min4_one (p := a.lo * b.lo) (q := a.lo * b.hi) (r := a.hi * b.lo) (s := a.hi * b.hi)
  have h4 := max4_one (p := a.lo * b.lo) (q := a.lo * b.hi) (r := a.hi * b.lo) (s := a.hi * b.hi)
  generalize min4 (a.lo * b.lo) (a.lo * b.hi) (a.hi * b.lo) (a.hi * b.hi) = m at *
  generalize max4 (a.lo * b.lo) (a.lo * b.hi) (a.hi * b.lo) (a.hi * b.hi) = M at *
  have hv : spanValid ⟨m / 1000000, -(-M / 1000000)⟩ = true := by rw [spanValid_iff]; simp only; omega
  refine ⟨⟨m / 1000000, -(-M / 1000000)⟩, ?_, ?_⟩
  · unfold rangedS
    rw [hv]
    rfl
  · simp only
    omega

theorem addS_some {a b : Span} (ha : -1000000000 ≤ a.lo ∧ a.lo ≤ a.hi ∧ a.hi ≤ 1000000000) (hb : -1000000000 ≤ b.lo ∧ b.lo ≤ b.hi ∧ b.hi ≤ 1000000000) : addS a b = (⟨a.lo + b.lo, a.hi + b.hi⟩, 0) := by
  have v1 : spanValid a = true := by rw [spanValid_iff]; omega
  have v2 : spanValid b = true := by rw [spanValid_iff]; omega
  have v3 : spanValid ⟨a.lo + b.lo, a.hi + b.hi⟩ = true := by rw [spanValid_iff]; simp only; omega
  unfold addS rangedS
  rw [v1, v2]
  simp only [Bool.and_self, cond_true]
  rw [v3]
  rfl
theorem subS_some {a b : Span} (ha : -1000000000 ≤ a.lo ∧ a.lo ≤ a.hi ∧ a.hi ≤ 1000000000) (hb : -1000000000 ≤ b.lo ∧ b.lo ≤ b.hi ∧ b.hi ≤ 1000000000) : subS a b = (⟨a.lo - b.hi, a.hi - b.lo⟩, 0) := by
  have v1 : spanValid a = true := by rw [spanValid_iff]; omega
  have v2 : spanValid b = true := by rw [spanValid_iff]; omega
  have v3 : spanValid ⟨a.lo - b.hi, a.hi - b.lo⟩ = true := by rw [spanValid_iff]; simp only; omega
  unfold subS rangedS
  rw [v1, v2]
  simp only [Bool.and_self, cond_true]
  rw [v3]
  rfl

theorem enc_prod {a b p : Span} {x y : Int} (ha : Enc a (x * 1000000) 18446744073709551616) (hb : Enc b (y * 1000000) 18446744073709551616) (h : mulS a b = (p, 0)) : Enc p (x * y * 1000000) (18446744073709551616 * 18446744073709551616) := by
  have := Enc.mul (by decide) (by decide) ha hb h
  refine Enc.unscale (c := 1000000) (by decide) ?_
  rwa [show x * 1000000 * (y * 1000000) = x * y * 1000000 * 1000000 by grind] at this


def sinT (k : Int) : Span := turnS (4 * k) 720
def cosT (k : Int) : Span := turnS (4 * k + 720) 720

theorem sinT_enc (k : Int) : Enc (sinT k) (SZ 720 (4 * k) * 1000000) 18446744073709551616 := turnS_enc (by omega) _
theorem cosT_enc (k : Int) : Enc (cosT k) (CZ 720 (4 * k) * 1000000) 18446744073709551616 := turnS_enc (by omega) _
theorem sinT_unit (k : Int) : Unit1 (sinT k) := turnS_unit (by omega) _
theorem cosT_unit (k : Int) : Unit1 (cosT k) := turnS_unit (by omega) _

theorem sinT_neg (k : Int) : sinT (-k) = negS (sinT k) := by
  unfold sinT
  rw [turnS_quad, turnS_quad, show 4 * -k = -(4 * k) by omega, quad_neg (r := fun w => riseI w 720) (riseI_neg0 720) (by omega)]
theorem cosT_neg (k : Int) : cosT (-k) = cosT k := by
  unfold cosT
  rw [turnS_quad, turnS_quad, ← quad_mirror (r := fun w => riseI w 720) (riseI_neg0 720) (by omega) (4 * k + 720), show 4 * -k + 720 = 2 * 720 - (4 * k + 720) by omega]
theorem sinT_whole (k m : Int) : sinT (k + 720 * m) = sinT k := by
  unfold sinT
  rw [turnS_quad, turnS_quad, show 4 * (k + 720 * m) = 4 * k + 4 * 720 * m by omega, quad_whole]
theorem cosT_whole (k m : Int) : cosT (k + 720 * m) = cosT k := by
  unfold cosT
  rw [turnS_quad, turnS_quad, show 4 * (k + 720 * m) + 720 = 4 * k + 720 + 4 * 720 * m by omega, quad_whole]
theorem sinT_quarter (k : Int) : sinT (k + 180) = cosT k := by
  unfold sinT cosT
  congr 1
  omega
theorem cosT_quarter (k : Int) : cosT (k + 180) = negS (sinT k) := by
  unfold sinT cosT
  rw [turnS_quad, turnS_quad, show 4 * (k + 180) + 720 = 4 * k + 2 * 720 by omega, quad_half (by omega)]

theorem min4_swap (p q r s : Int) : min4 p q r s = min4 p r q s := by
  unfold min4
  repeat' split
  all_goals omega
theorem max4_swap (p q r s : Int) : max4 p q r s = max4 p r q s := by
  unfold max4
  repeat' split
  all_goals omega
theorem mulS_comm (a b : Span) : mulS a b = mulS b a := by
  unfold mulS
  rw [Bool.and_comm, min4_swap, max4_swap, Int.mul_comm a.lo b.lo, Int.mul_comm a.hi b.lo, Int.mul_comm a.lo b.hi, Int.mul_comm a.hi b.hi]

end Go.Ev

namespace Go.Ev
open Go

def allC : Nat → Bool
  | 0 => true
  | w + 1 => bif Nat.beq (w + 1) 240 then allC w else bif pairC (w + 1) 720 then allC w else false
set_option maxRecDepth 100000 in
theorem all720 : allC 360 = true := by decide +kernel

theorem allC_one (n : Nat) : allC n = true → ∀ w, 1 ≤ w → w ≤ n → w ≠ 240 → pairC w 720 = true := by
  induction n with
  | zero => intro _ w h1 h2; omega
  | succ n ih =>
    intro h w h1 h2 h3
    rw [allC] at h
    cases hb : Nat.beq (n + 1) 240 with
    | true =>
      rw [hb] at h
      have : n + 1 = 240 := Nat.eq_of_beq_eq_true hb
      exact ih h w h1 (by omega) h3
    | false =>
      rw [hb] at h
      simp only [cond_false] at h
      cases hp : pairC (n + 1) 720 with
      | false => rw [hp] at h; cases h
      | true =>
        rw [hp] at h
        rcases Nat.lt_or_ge n w with q | q
        · obtain rfl := Nat.le_antisymm h2 q
          exact hp
        · exact ih h w h1 q h3

theorem riseOk720 {w : Int} (hw : 0 ≤ w ∧ w ≤ 720) : RiseOk w 720 := by
  by_cases h0 : w = 0
  · subst h0; exact riseOk_01.scale (c := 720) (by omega)
  by_cases h1 : w = 720
  · subst h1; exact riseOk_11.scale (c := 720) (by omega)
  by_cases h2 : w = 240
  · subst h2; exact riseOk_13.scale (c := 240) (by omega)
  by_cases h3 : w = 480
  · subst h3; exact riseOk_23.scale (c := 240) (by omega)
  refine riseOk_of_pair (by omega) (by omega) (by omega) ?_
  obtain ⟨m, rfl⟩ := Int.eq_ofNat_of_zero_le hw.1
  by_cases h4 : m ≤ 360
  · exact pairC_ok (n := 720) (by omega) (by omega) (allC_one 360 all720 m (by omega) h4 (by omega))
  · have k := pairC_ok (w := 720 - m) (n := 720) (by omega) (by omega) (allC_one 360 all720 (720 - m) (by omega) (by omega) (by omega))
    have k' := k.swap
    have e : ((720 : Nat) : Int) - ((720 - m : Nat) : Int) = (m : Int) := by omega
    rw [e] at k'
    exact k'

theorem turnR720 (u : Int) : turnR u 720 = turnS u 720 := by
  rw [turnR_quad, turnS_quad]
  exact quad_congr (by omega) (fun w hw => (riseOk720 hw).eq.symm) u
theorem cosR720 (k : Int) : cosR k 720 = (cosT k, 0) := by
  unfold cosR cosT
  rw [turnR720]
  rfl
theorem sinR720 (k : Int) : sinR k 720 = (sinT k, 0) := by
  unfold sinR sinT
  rw [turnR720]
  rfl

end Go.Ev

namespace Go.Ev
open Go

def LamG (key n : Nat) (f : TS → List Blk → Nat → LT) : Nat → TS → List Blk → Nat → LT := fun k T M N => bif k == key && T.length == n then f T M N else .no

theorem find_of' {ks : List (Nat × AV)} {T : TS} (h : ∀ p ∈ ks, tget T p.1 = p.2 ∨ p.2 = .any) (i : Nat) : tfind .any ks i = tget T i ∨ tfind .any ks i = .any := by
  induction ks with
  | nil => exact .inr rfl
  | cons p r ih =>
    rw [tfind]
    cases hb : Nat.beq p.1 i with
    | true =>
      rw [cond_true, ← Nat.eq_of_beq_eq_true hb]
      rcases h p (by simp) with e | e
      · exact .inl e.symm
      · exact .inr e
    | false => exact ih fun q hq => h q (by simp [hq])

theorem less_of' {ks : List (Nat × AV)} {n : Nat} {T : TS} (hl : T.length = n) (h : ∀ p ∈ ks, tget T p.1 = p.2 ∨ p.2 = .any) : Less (maskT ks n) T :=
  ⟨hl.symm, fun t => find_of' h t⟩

section
variable {P : Program} {G : Nat → Option (List D)} {gb : Nat} {EQ : Tab} {Γ : Nat → List AV → List Blk → (AV → List Blk → Ans) → Ans} {X : Nat → List AV → (AV → Ans) → Ans} {Λ : Nat → TS → List Blk → Nat → LT}

theorem LOKb.lamG {b : Code} {n : Nat} {f : TS → List Blk → Nat → LT}
    (h : ∀ T M N x T' M' N', T.length = n → LReach (f T M N) x T' M' N' → x ≠ .normal ∧ ∃ k, RoundsOK P G gb b k T M N x T' M' N') : LOKb P G gb (LamG (loopKey b) n f) b := by
  intro T M N x T' M' N' hr
  unfold LamG at hr
  simp only [cond_eq_ite, Bool.and_eq_true, beq_iff_eq, beq_self_eq_true, true_and] at hr
  split at hr
  · rename_i hl
    exact h T M N x T' M' N' hl hr
  · exact hr.elim

theorem LOKb.lamG_other {b : Code} {key n : Nat} {f : TS → List Blk → Nat → LT} (hk : loopKey b ≠ key) : LOKb P G gb (LamG key n f) b := by
  intro T M N x T' M' N' hr
  unfold LamG at hr
  have : (loopKey b == key) = false := by simpa using hk
  rw [this] at hr
  exact hr.elim

theorem RoundsOK.stop (hΓ : GOK P G gb Γ X) (hEQ : ∀ t, t ∈ EQ.eq → EqOK P t) (hm : P.follows .mixedOrders = true) {fuel : Nat} {b : Code} {T T1 : TS} {M M1 : List Blk} {N N1 : Nat} {x : Ex} {keep : List Nat} (hL : LOK P G gb Λ (loopsIn b)) (hx : x ≠ .normal)
    (h : evCode P G EQ Γ X Λ fuel b T M N (fun x T M N => some (.st x (forget keep T) M N)) = some (.st x T1 M1 N1)) : RoundsOK P G gb b 1 T M N x T1 M1 N1 := by
  obtain ⟨x', T3, M3, N3, h1, h2, _⟩ := evCode_sound hEQ hm hΓ fuel b T M N _ _ hL h
  cases h2
  intro w0 W σ a w Q hG hT hM hN hQ
  rw [rounds_succ]
  refine h1 w0 W σ a w _ hG hT hM hN fun τ a' w' hle hT' hM' hN' => ?_
  have := hQ τ a' w' hle (hT'.less (forget_less _ _)) hM' hN'
  cases x with
  | normal => exact absurd rfl hx
  | exit id => exact this
  | ret => exact this

end
end Go.Ev

namespace Go.Ev
open Go

def nameStep {α : Type} (c : Int) (bad ok : α) : α :=
  bif decide (c < 97) then (bif decide (c < 48) then (bif c != 45 then bad else ok) else (bif decide (57 < c) then (bif c != 45 then bad else ok) else ok))
  else (bif decide (122 < c) then (bif decide (c < 48) then (bif c != 45 then bad else ok) else (bif decide (57 < c) then (bif c != 45 then bad else ok) else ok)) else ok)

def nameStepR (b : Bool) (c : Int) (bad ok : Ans) : Ans :=
  bif decide (c < 97) then (bif b then (bif decide (c < 48) then (bif b then (bif c != 45 then bad else ok) else none) else (bif b then (bif decide (57 < c) then (bif b then (bif c != 45 then bad else ok) else none) else ok) else none)) else none)
  else (bif b then (bif decide (122 < c) then (bif b then (bif decide (c < 48) then (bif b then (bif c != 45 then bad else ok) else none) else (bif b then (bif decide (57 < c) then (bif b then (bif c != 45 then bad else ok) else none) else ok) else none)) else none) else ok) else none)

theorem nameStepR_eq (b : Bool) (c : Int) (bad ok : Ans) : (bif b then nameStepR b c bad ok else none) = bif b then nameStep c bad ok else none := by
  cases b <;> rfl

def byteOk (c : Int) : Bool := nameStep c false true

theorem nameStep_eq {α : Type} (c : Int) (bad ok : α) : nameStep c bad ok = bif byteOk c then ok else bad := by
  unfold byteOk nameStep
  cases decide (c < 97) <;> cases decide (c < 48) <;> cases c != 45 <;> cases decide (57 < c) <;> cases decide (122 < c) <;> rfl

def restOk (s : ByteArray) (i : Int) : Nat → Bool
  | 0 => true
  | m + 1 => bif byteOk (byteAt s i) then restOk s (i + 1) m else false

def namedB (s : ByteArray) : Bool :=
  bif decide ((s.size : Int) < 1) then false else bif decide (40 < (s.size : Int)) then false else bif decide (byteAt s 0 < 97) then false else bif decide (122 < byteAt s 0) then false else restOk s 0 s.size

section
variable {P : Program} {G : Nat → Option (List D)} {gb : Nat} {EQ : Tab} {Γ : Nat → List AV → List Blk → (AV → List Blk → Ans) → Ans} {X : Nat → List AV → (AV → Ans) → Ans}

theorem name_rounds (hΓ : GOK P G gb Γ X) (hEQ : ∀ t, t ∈ EQ.eq → EqOK P t) (hm : P.follows .mixedOrders = true) {c : Code} {e fuel NN : Nat} {M : List Blk} {keep : List Nat} (s : ByteArray) (hs : (s.size : Int) ≤ 1000) (TT : Int → TS) (T1 T2 : TS)
    (hl1 : ∀ i, Less T1 (TT i)) (TB : Int → TS) (hl2 : ∀ i, Less T2 (TB i))
    (hb : ∀ i : Int, evCode P G EQ Γ X noL fuel c (TT i) M NN (fun x T M N => some (.st x (forget keep T) M N)) =
      bif decide (i < (s.size : Int)) then (bif decide (0 ≤ i) && decide (i < (s.size : Int)) then nameStep (byteAt s i) (some (.st .ret (TB i) M NN)) (some (.st .normal (TT (w64 (i + 1))) M NN)) else none)
      else some (.st (.exit e) (TT i) M NN)) :
    ∀ (m : Nat) (i : Int), 0 ≤ i → i + m = s.size → (restOk s i m = true → ∃ k, RoundsOK P G gb c k (TT i) M NN (.exit e) T1 M NN) ∧ (restOk s i m = false → ∃ k, RoundsOK P G gb c k (TT i) M NN .ret T2 M NN) := by
  intro m
  induction m with
  | zero =>
    intro i h0 h1
    refine ⟨fun _ => ?_, fun h => by simp [restOk] at h⟩
    have h := hb i
    rw [decide_eq_false (by omega), cond_false] at h
    exact ⟨1, (RoundsOK.fin (Λ := noL) hΓ hEQ hm (noL_ok _) h).weak (hl1 _)⟩
  | succ m ih =>
    intro i h0 h1
    have h := hb i
    rw [decide_eq_true (show i < (s.size : Int) by omega), decide_eq_true (show 0 ≤ i by omega), nameStep_eq, show w64 (i + 1) = i + 1 by simp only [w64, wr]; omega] at h
    simp only [Bool.and_self, cond_true] at h
    rw [restOk]
    cases hc : byteOk (byteAt s i) with
    | true =>
      rw [hc, cond_true] at h
      simp only [cond_true]
      obtain ⟨p, q⟩ := ih (i + 1) (by omega) (by omega)
      refine ⟨fun hh => ?_, fun hh => ?_⟩
      · obtain ⟨k, hk⟩ := p hh
        exact ⟨k + 1, RoundsOK.go (Λ := noL) hΓ hEQ hm (noL_ok _) h hk⟩
      · obtain ⟨k, hk⟩ := q hh
        exact ⟨k + 1, RoundsOK.go (Λ := noL) hΓ hEQ hm (noL_ok _) h hk⟩
    | false =>
      rw [hc, cond_false] at h
      simp only [cond_false]
      refine ⟨(fun hh => by cases hh), fun _ => ⟨1, (RoundsOK.stop (Λ := noL) hΓ hEQ hm (noL_ok _) (by simp) h).weak (hl2 _)⟩⟩
end

def nameAns (K : AV → List Blk → Ans) (s : ByteArray) : Ans :=
  bif decide ((s.size : Int) < 1) then K (rB false) [] else bif decide (40 < (s.size : Int)) then K (rB false) [] else
  bif decide ((0 : Int) ≤ 0) && decide ((0 : Int) < (s.size : Int)) then (bif decide (byteAt s 0 < 97) then K (rB false) [] else
    bif decide ((0 : Int) ≤ 0) && decide ((0 : Int) < (s.size : Int)) then (bif decide (122 < byteAt s 0) then K (rB false) [] else
      bif (s.size : Int) == (s.size : Int) && decide ((s.size : Int) ≤ 1000) then (bif restOk s 0 s.size then K (rB true) [] else K (rB false) []) else none) else none) else none

theorem nameAns_ok {K : AV → List Blk → Ans} {s : ByteArray} : nameAns K s = K (rB (namedB s)) [] := by
  unfold nameAns namedB
  by_cases h1 : (s.size : Int) < 1
  · rw [decide_eq_true h1]; rfl
  by_cases h2 : 40 < (s.size : Int)
  · rw [decide_eq_false h1, decide_eq_true h2]; rfl
  rw [decide_eq_false h1, decide_eq_false h2, decide_eq_true (show (0 : Int) < (s.size : Int) by omega), decide_eq_true (show (s.size : Int) ≤ 1000 by omega)]
  simp only [Int.le_refl, decide_true, Bool.and_self, cond_true, cond_false, beq_self_eq_true]
  cases decide (byteAt s 0 < 97) with
  | true => rfl
  | false =>
    cases decide (122 < byteAt s 0) with
    | true => rfl
    | false => cases restOk s 0 s.size <;> rfl

def nameAns' (K : AV → List Blk → Ans) (s : ByteArray) : Ans :=
  bif decide ((s.size : Int) < 1) then K (rB false) [] else bif decide (40 < (s.size : Int)) then K (rB false) [] else
  bif decide ((0 : Int) ≤ 0) && decide ((0 : Int) < (s.size : Int)) then (bif decide (byteAt s 0 < 97) then K (rB false) [] else
    bif decide ((0 : Int) ≤ 0) && decide ((0 : Int) < (s.size : Int)) then (bif decide (122 < byteAt s 0) then K (rB false) [] else
      bif decide ((s.size : Int) ≤ 1000) then (bif restOk s 0 s.size then K (rB true) [] else K (rB false) []) else none) else none) else none

theorem nameAns'_ok {K : AV → List Blk → Ans} {s : ByteArray} : nameAns' K s = K (rB (namedB s)) [] := by
  unfold nameAns' namedB
  by_cases h1 : (s.size : Int) < 1
  · rw [decide_eq_true h1]; rfl
  by_cases h2 : 40 < (s.size : Int)
  · rw [decide_eq_false h1, decide_eq_true h2]; rfl
  rw [decide_eq_false h1, decide_eq_false h2, decide_eq_true (show (0 : Int) < (s.size : Int) by omega), decide_eq_true (show (s.size : Int) ≤ 1000 by omega)]
  simp only [Int.le_refl, decide_true, Bool.and_self, cond_true, cond_false]
  cases decide (byteAt s 0 < 97) with
  | true => rfl
  | false =>
    cases decide (122 < byteAt s 0) with
    | true => rfl
    | false => cases restOk s 0 s.size <;> rfl


end Go.Ev

namespace Go.Ev
open Go

def checkSrc (s : Source) : Int := bif !(namedB s.name) then 8 else bif decide (s.ra < 0) then 8 else bif decide (720 ≤ s.ra) then 8 else bif decide (s.dec < -180) then 8 else bif decide (180 < s.dec) then 8 else 0

structure SrcOk (s : Source) : Prop where
  ra0 : 0 ≤ s.ra
  ra1 : s.ra < 720
  dec0 : -180 ≤ s.dec
  dec1 : s.dec ≤ 180
  name : namedB s.name = true

theorem checkSrc_iff {s : Source} : checkSrc s = 0 ↔ SrcOk s := by
  unfold checkSrc
  cases hn : namedB s.name with
  | false => exact ⟨fun h => by simp at h, fun h => by rw [h.name] at hn; cases hn⟩
  | true =>
    simp only [Bool.not_true, cond_eq_ite, Bool.false_eq_true, if_false, decide_eq_true_eq]
    constructor
    · intro h
      split at h
      · omega
      split at h
      · omega
      split at h
      · omega
      split at h
      · omega
      exact ⟨by omega, by omega, by omega, by omega, hn⟩
    · intro h
      rw [if_neg (by have := h.ra0; omega), if_neg (by have := h.ra1; omega), if_neg (by have := h.dec0; omega), if_neg (by have := h.dec1; omega)]

theorem checkSrc_or (s : Source) : checkSrc s = 0 ∨ checkSrc s = 8 := by
  unfold checkSrc
  cases namedB s.name <;> cases decide (s.ra < 0) <;> cases decide (720 ≤ s.ra) <;> cases decide (s.dec < -180) <;> cases decide (180 < s.dec) <;> simp

def rSpan2 (r : Span × Span) : AV := .tup [.agg r.1.cells, .agg r.2.cells]

/-! ### The direction -/

def dirS (ra dec tick : Int) : Dir := ⟨(mulS (cosT dec) (cosT (ra - tick))).1, (mulS (cosT dec) (sinT (ra - tick))).1, sinT dec⟩
def dirOn (ra dec tick : Int) : Bool := decide (0 ≤ ra) && (decide (ra < 720) && (decide (-180 ≤ dec) && (decide (dec ≤ 180) && (decide (-1000000 ≤ tick) && decide (tick ≤ 1000000)))))

def dirAns (K : AV → List Blk → Ans) (ra dec tick : Int) : Ans :=
  bif (mulS (cosT dec) (cosT (w64 (ra - tick)))).2 != 0 then K (rDirE (dirZ, (mulS (cosT dec) (cosT (w64 (ra - tick)))).2)) [] else
  bif (mulS (cosT dec) (sinT (w64 (ra - tick)))).2 != 0 then K (rDirE (dirZ, (mulS (cosT dec) (sinT (w64 (ra - tick)))).2)) [] else
  K (rDirE (⟨(mulS (cosT dec) (cosT (w64 (ra - tick)))).1, (mulS (cosT dec) (sinT (w64 (ra - tick)))).1, sinT dec⟩, 0)) []

theorem dirAns_ok {K : AV → List Blk → Ans} {ra dec tick : Int} (h : dirOn ra dec tick = true) : dirAns K ra dec tick = K (rDirE (dirS ra dec tick, 0)) [] := by
  simp only [dirOn, Bool.and_eq_true, decide_eq_true_eq] at h
  unfold dirAns dirS
  rw [w64_id (by omega)]
  obtain ⟨p, hp, _⟩ := mulS_unit (cosT_unit dec) (cosT_unit (ra - tick))
  obtain ⟨q, hq, _⟩ := mulS_unit (cosT_unit dec) (sinT_unit (ra - tick))
  rw [hp, hq]
  rfl

def atAns (K : AV → List Blk → Ans) (s : Source) (tick : Int) : Ans :=
  bif checkSrc s != 0 then K (rDirE (dirZ, checkSrc s)) [] else bif decide (tick < -1000000) then K (rDirE (dirZ, 2)) [] else bif decide (1000000 < tick) then K (rDirE (dirZ, 2)) [] else
  bif dirOn s.ra s.dec tick then K (rDirE (dirS s.ra s.dec tick, 0)) [] else none

def atS (s : Source) (tick : Int) : Dir × Int := bif checkSrc s != 0 then (dirZ, 8) else bif decide (tick < -1000000) then (dirZ, 2) else bif decide (1000000 < tick) then (dirZ, 2) else (dirS s.ra s.dec tick, 0)

theorem atAns_ok {K : AV → List Blk → Ans} {s : Source} {tick : Int} : atAns K s tick = K (rDirE (atS s tick)) [] := by
  unfold atAns atS
  rcases checkSrc_or s with h | h
  · have ok := checkSrc_iff.1 h
    rw [h]
    by_cases h1 : tick < -1000000
    · rw [decide_eq_true h1]; rfl
    by_cases h2 : 1000000 < tick
    · rw [decide_eq_false h1, decide_eq_true h2]; rfl
    have := ok.ra0
    have := ok.ra1
    have := ok.dec0
    have := ok.dec1
    rw [decide_eq_false h1, decide_eq_false h2, show dirOn s.ra s.dec tick = true by simp only [dirOn, Bool.and_eq_true, decide_eq_true_eq]; omega]
    rfl
  · rw [h]; rfl

theorem atS_ok {s : Source} {tick : Int} (h : SrcOk s) (ht : -1000000 ≤ tick ∧ tick ≤ 1000000) : atS s tick = (dirS s.ra s.dec tick, 0) := by
  unfold atS
  rw [checkSrc_iff.2 h, decide_eq_false (by omega), decide_eq_false (by omega)]
  rfl

/-! ### Sums of products -/

def validAns (bad ok : Ans) : List Span → Ans
  | [] => ok
  | a :: r => bif decide (a.hi < a.lo) then bad else bif decide (a.lo < -3000000000) then bad else bif decide (3000000000 < a.hi) then bad else validAns bad ok r

theorem validAns_ok {bad ok : Ans} : ∀ l : List Span, validAns bad ok l = bif l.all spanValid then ok else bad
  | [] => rfl
  | a :: r => by
    rw [validAns, validAns_ok r, List.all_cons]
    cases hv : spanValid a with
    | true =>
      rw [spanValid_iff] at hv
      rw [decide_eq_false (by omega), decide_eq_false (by omega), decide_eq_false (by omega)]
      rfl
    | false =>
      have hn : ¬ (a.lo ≤ a.hi ∧ -3000000000 ≤ a.lo ∧ a.hi ≤ 3000000000) := fun hh => by rw [spanValid_iff.2 hh] at hv; cases hv
      by_cases h1 : a.hi < a.lo
      · rw [decide_eq_true h1]; rfl
      by_cases h2 : a.lo < -3000000000
      · rw [decide_eq_false h1, decide_eq_true h2]; rfl
      rw [decide_eq_false h1, decide_eq_false h2, decide_eq_true (by omega)]
      rfl

def prodsAns (K : AV → List Blk → Ans) : Span → List (Span × Span) → Ans
  | sum, [] => K (rSpanE (sum, 0)) []
  | sum, p :: r => bif (mulS p.1 p.2).2 == 0 then (bif (addS sum (mulS p.1 p.2).1).2 != 0 then K (rSpanE (spanZ, (addS sum (mulS p.1 p.2).1).2)) [] else prodsAns K (addS sum (mulS p.1 p.2).1).1 r)
    else (bif (mulS p.1 p.2).2 != 0 then K (rSpanE (spanZ, (mulS p.1 p.2).2)) [] else prodsAns K sum r)

def prodsS : Span → List (Span × Span) → Span × Int
  | sum, [] => (sum, 0)
  | sum, p :: r => bif (mulS p.1 p.2).2 == 0 then (bif (addS sum (mulS p.1 p.2).1).2 == 0 then prodsS (addS sum (mulS p.1 p.2).1).1 r else (spanZ, (addS sum (mulS p.1 p.2).1).2)) else (spanZ, (mulS p.1 p.2).2)

theorem prodsAns_ok {K : AV → List Blk → Ans} : ∀ (l : List (Span × Span)) (sum : Span), prodsAns K sum l = K (rSpanE (prodsS sum l)) []
  | [], _ => rfl
  | p :: r, sum => by
    rw [prodsAns, prodsS]
    cases h : (mulS p.1 p.2).2 == 0 with
    | true =>
      simp only [cond_true]
      cases h2 : (addS sum (mulS p.1 p.2).1).2 == 0 with
      | true => simp only [bne, h2, Bool.not_true, cond_false, cond_true]; exact prodsAns_ok r _
      | false => simp only [bne, h2, Bool.not_false, cond_false, cond_true]
    | false => simp only [bne, h, Bool.not_false, cond_false, cond_true]

def dotS (a b : Dir) : Span × Int := bif [a.x, a.y, a.z, b.x, b.y, b.z].all spanValid then prodsS spanZ [(a.x, b.x), (a.y, b.y), (a.z, b.z)] else (spanZ, 8)
def dotAns (K : AV → List Blk → Ans) (a b : Dir) : Ans := validAns (K (rSpanE (spanZ, 8)) []) (prodsAns K spanZ [(a.x, b.x), (a.y, b.y), (a.z, b.z)]) [a.x, a.y, a.z, b.x, b.y, b.z]

theorem dotAns_ok {K : AV → List Blk → Ans} {a b : Dir} : dotAns K a b = K (rSpanE (dotS a b)) [] := by
  unfold dotAns dotS
  rw [validAns_ok, prodsAns_ok]
  cases [a.x, a.y, a.z, b.x, b.y, b.z].all spanValid <;> rfl

def apartS (a b : Source) : Span × Int := bif checkSrc a != 0 then (spanZ, 8) else bif checkSrc b != 0 then (spanZ, 8) else
  prodsS spanZ [(sinT a.dec, sinT b.dec), ((mulS (cosT a.dec) (cosT b.dec)).1, cosT (a.ra - b.ra))]
def apartAns (K : AV → List Blk → Ans) (a b : Source) : Ans := bif checkSrc a != 0 then K (rSpanE (spanZ, checkSrc a)) [] else bif checkSrc b != 0 then K (rSpanE (spanZ, checkSrc b)) [] else
  bif (mulS (cosT a.dec) (cosT b.dec)).2 != 0 then K (rSpanE (spanZ, (mulS (cosT a.dec) (cosT b.dec)).2)) [] else
  prodsAns K spanZ [(sinT a.dec, sinT b.dec), ((mulS (cosT a.dec) (cosT b.dec)).1, cosT (w64 (a.ra - b.ra)))]

theorem apartAns_ok {K : AV → List Blk → Ans} {a b : Source} : apartAns K a b = K (rSpanE (apartS a b)) [] := by
  unfold apartAns apartS
  rcases checkSrc_or a with ha | ha
  · rcases checkSrc_or b with hb | hb
    · have oa := checkSrc_iff.1 ha
      have ob := checkSrc_iff.1 hb
      have := oa.ra0
      have := oa.ra1
      have := ob.ra0
      have := ob.ra1
      obtain ⟨p, hp, _⟩ := mulS_unit (cosT_unit a.dec) (cosT_unit b.dec)
      rw [ha, hb, hp, w64_id (by omega), prodsAns_ok]
      rfl
    · rw [ha, hb]; rfl
  · rw [ha]; rfl

theorem prodsS_cons {sum a b : Span} {r : List (Span × Span)} (hs : -100000000 ≤ sum.lo ∧ sum.lo ≤ sum.hi ∧ sum.hi ≤ 100000000) (ha : Unit1 a) (hb : Unit1 b) :
    ∃ p, mulS a b = (p, 0) ∧ Unit1 p ∧ addS sum p = (⟨sum.lo + p.lo, sum.hi + p.hi⟩, 0) ∧ prodsS sum ((a, b) :: r) = prodsS ⟨sum.lo + p.lo, sum.hi + p.hi⟩ r := by
  obtain ⟨p, hp, up⟩ := mulS_unit ha hb
  have h2 := addS_some (a := sum) (b := p) (by omega) (by unfold Unit1 at up; omega)
  refine ⟨p, hp, up, h2, ?_⟩
  rw [prodsS, hp]
  simp only [h2]
  rfl

theorem unit_valid {a : Span} (h : Unit1 a) : spanValid a = true := by
  rw [spanValid_iff]
  unfold Unit1 at h
  omega

theorem dirS_unit (ra dec tick : Int) : Unit1 (dirS ra dec tick).x ∧ Unit1 (dirS ra dec tick).y ∧ Unit1 (dirS ra dec tick).z := by
  obtain ⟨p, hp, up⟩ := mulS_unit (cosT_unit dec) (cosT_unit (ra - tick))
  obtain ⟨q, hq, uq⟩ := mulS_unit (cosT_unit dec) (sinT_unit (ra - tick))
  unfold dirS
  rw [hp, hq]
  exact ⟨up, uq, sinT_unit dec⟩

theorem dirS_enc (ra dec tick : Int) : Enc (dirS ra dec tick).x (CZ 720 (4 * dec) * CZ 720 (4 * (ra - tick)) * 1000000) (18446744073709551616 * 18446744073709551616) ∧ Enc (dirS ra dec tick).y (CZ 720 (4 * dec) * SZ 720 (4 * (ra - tick)) * 1000000) (18446744073709551616 * 18446744073709551616) ∧
    Enc (dirS ra dec tick).z (SZ 720 (4 * dec) * 1000000) 18446744073709551616 := by
  obtain ⟨p, hp, up⟩ := mulS_unit (cosT_unit dec) (cosT_unit (ra - tick))
  obtain ⟨q, hq, uq⟩ := mulS_unit (cosT_unit dec) (sinT_unit (ra - tick))
  unfold dirS
  refine ⟨?_, ?_, sinT_enc dec⟩
  · rw [hp]; exact enc_prod (cosT_enc dec) (cosT_enc _) hp
  · rw [hq]; exact enc_prod (cosT_enc dec) (sinT_enc _) hq

theorem enc_times {a b p : Span} {x y d e : Int} (hd : 0 < d) (he : 0 < e) (ha : Enc a (x * 1000000) d) (hb : Enc b (y * 1000000) e) (h : mulS a b = (p, 0)) : Enc p (x * y * 1000000) (d * e) := by
  have := Enc.mul hd he ha hb h
  refine Enc.unscale (c := 1000000) (by decide) ?_
  rwa [show x * 1000000 * (y * 1000000) = x * y * 1000000 * 1000000 by grind] at this

end Go.Ev

namespace Go.Ev
open Go

theorem min4_neg (p q r s : Int) : min4 (-p) (-q) (-r) (-s) = -(max4 p q r s) := by
  unfold min4 max4
  repeat' split
  all_goals omega
theorem max4_neg (p q r s : Int) : max4 (-p) (-q) (-r) (-s) = -(min4 p q r s) := by
  unfold min4 max4
  repeat' split
  all_goals omega
theorem min4_perm (p q r s : Int) : min4 q p s r = min4 p q r s := by
  unfold min4
  repeat' split
  all_goals omega
theorem max4_perm (p q r s : Int) : max4 q p s r = max4 p q r s := by
  unfold max4
  repeat' split
  all_goals omega

theorem spanValid_negS (b : Span) : spanValid (negS b) = spanValid b := by
  rw [Bool.eq_iff_iff, spanValid_iff, spanValid_iff]
  simp only [negS]
  omega

theorem mulS_negS (a b : Span) : mulS a (negS b) = (negS (mulS a b).1, (mulS a b).2) := by
  unfold mulS
  rw [spanValid_negS]
  cases spanValid a && spanValid b with
  | false => rfl
  | true =>
    simp only [cond_true, negS, Int.mul_neg]
    rw [min4_neg, max4_neg, max4_perm, min4_perm]
    generalize min4 (a.lo * b.lo) (a.lo * b.hi) (a.hi * b.lo) (a.hi * b.hi) = m
    generalize max4 (a.lo * b.lo) (a.lo * b.hi) (a.hi * b.lo) (a.hi * b.hi) = M
    have hv : spanValid ⟨-M / 1000000, -(- -m / 1000000)⟩ = spanValid ⟨m / 1000000, -(-M / 1000000)⟩ := by
      rw [Bool.eq_iff_iff, spanValid_iff, spanValid_iff]
      simp only [Int.neg_neg]
      omega
    unfold rangedS
    rw [hv]
    cases spanValid ⟨m / 1000000, -(-M / 1000000)⟩ with
    | false => rfl
    | true => simp only [Bool.not_true, cond_false, Int.neg_neg]

theorem mulS_negS_left (a b : Span) : mulS (negS a) b = (negS (mulS a b).1, (mulS a b).2) := by rw [mulS_comm, mulS_negS, mulS_comm b a]

theorem unit_diff {x x' y y' u v : Int} (hx : Abs x 1000000) (hy' : Abs y' 1000000) (h1 : Abs (x - x') u) (h2 : Abs (y - y') v) : x * y - x' * y' ≤ 1000000 * (u + v) := by
  have e : x * y - x' * y' = x * (y - y') + (x - x') * y' := by grind
  have a := (hx.mul h2).add (h1.mul hy')
  rw [e]
  unfold Abs at a
  omega

theorem mulS_width {a b p : Span} (ha : Unit1 a) (hb : Unit1 b) (h : mulS a b = (p, 0)) : p.hi - p.lo ≤ (a.hi - a.lo) + (b.hi - b.lo) + 1 := by
  unfold Unit1 at *
  have v1 : spanValid a = true := by rw [spanValid_iff]; omega
  have v2 : spanValid b = true := by rw [spanValid_iff]; omega
  unfold mulS at h
  rw [v1, v2] at h
  simp only [Bool.and_self, cond_true] at h
  have hp := rangedS_ok h
  subst hp
  simp only
  have key : ∀ x x' y y' : Int, (x = a.lo ∨ x = a.hi) → (x' = a.lo ∨ x' = a.hi) → (y = b.lo ∨ y = b.hi) → (y' = b.lo ∨ y' = b.hi) → x * y - x' * y' ≤ 1000000 * ((a.hi - a.lo) + (b.hi - b.lo)) := by
    intro x x' y y' h1 h2 h3 h4
    exact unit_diff (by unfold Abs; omega) (by unfold Abs; omega) (by unfold Abs; omega) (by unfold Abs; omega)
  have k : max4 (a.lo * b.lo) (a.lo * b.hi) (a.hi * b.lo) (a.hi * b.hi) - min4 (a.lo * b.lo) (a.lo * b.hi) (a.hi * b.lo) (a.hi * b.hi) ≤ 1000000 * ((a.hi - a.lo) + (b.hi - b.lo)) := by
    rcases max4_one (p := a.lo * b.lo) (q := a.lo * b.hi) (r := a.hi * b.lo) (s := a.hi * b.hi) with e | e | e | e <;>
    rcases min4_one (p := a.lo * b.lo) (q := a.lo * b.hi) (r := a.hi * b.lo) (s := a.hi * b.hi) with f | f | f | f <;>
    rw [e, f] <;> exact key _ _ _ _ (by simp) (by simp) (by simp) (by simp)
  generalize max4 (a.lo * b.lo) (a.lo * b.hi) (a.hi * b.lo) (a.hi * b.hi) = M at *
  generalize min4 (a.lo * b.lo) (a.lo * b.hi) (a.hi * b.lo) (a.hi * b.hi) = m at *
  omega

theorem turnS_width {n : Int} (hn : 1 ≤ n ∧ n ≤ 720) (u : Int) : (turnS u n).hi - (turnS u n).lo ≤ 1 := by
  obtain ⟨w, m, w1, w2, _, hp⟩ := turn_pair (n := n) (by omega) u
  have r1 := riseI_range (w := w) (n := n) (by simp only [riseOn, Bool.and_eq_true, decide_eq_true_eq]; omega)
  have r2 := riseI_range (w := n - w) (n := n) (by simp only [riseOn, Bool.and_eq_true, decide_eq_true_eq]; omega)
  rcases hp with ⟨h, _⟩ | ⟨h, _⟩
  · have := h.range r1; omega
  · have := h.range r2; omega
theorem sinT_width (k : Int) : (sinT k).hi - (sinT k).lo ≤ 1 := turnS_width (by omega) _
theorem cosT_width (k : Int) : (cosT k).hi - (cosT k).lo ≤ 1 := turnS_width (by omega) _

theorem dirS_year (ra dec tick m : Int) : dirS ra dec (tick + 720 * m) = dirS ra dec tick := by
  unfold dirS
  rw [show ra - (tick + 720 * m) = (ra - tick) + 720 * (-m) by rw [Int.mul_neg]; omega, cosT_whole, sinT_whole]

theorem dirS_quarter (ra dec tick : Int) : dirS ra dec (tick + 180) = ⟨(dirS ra dec tick).y, negS (dirS ra dec tick).x, (dirS ra dec tick).z⟩ := by
  have e1 : cosT (ra - (tick + 180)) = sinT (ra - tick) := by
    rw [← sinT_quarter]; congr 1; omega
  have e2 : sinT (ra - (tick + 180)) = negS (cosT (ra - tick)) := by
    have := cosT_quarter (ra - (tick + 180))
    rw [show ra - (tick + 180) + 180 = ra - tick by omega] at this
    rw [this, negS_negS]
  unfold dirS
  simp only
  rw [e1, e2, mulS_negS]

theorem dirS_half (ra dec tick : Int) : dirS ra dec (tick + 360) = ⟨negS (dirS ra dec tick).x, negS (dirS ra dec tick).y, (dirS ra dec tick).z⟩ := by
  rw [show tick + 360 = tick + 180 + 180 by omega, dirS_quarter, dirS_quarter]

theorem dirS_width (ra dec tick : Int) : (dirS ra dec tick).x.hi - (dirS ra dec tick).x.lo ≤ 3 ∧ (dirS ra dec tick).y.hi - (dirS ra dec tick).y.lo ≤ 3 ∧ (dirS ra dec tick).z.hi - (dirS ra dec tick).z.lo ≤ 1 := by
  obtain ⟨p, hp, up⟩ := mulS_unit (cosT_unit dec) (cosT_unit (ra - tick))
  obtain ⟨q, hq, uq⟩ := mulS_unit (cosT_unit dec) (sinT_unit (ra - tick))
  have w1 := mulS_width (cosT_unit dec) (cosT_unit (ra - tick)) hp
  have w2 := mulS_width (cosT_unit dec) (sinT_unit (ra - tick)) hq
  have := cosT_width dec
  have := cosT_width (ra - tick)
  have := sinT_width (ra - tick)
  unfold dirS
  rw [hp, hq]
  exact ⟨by simp only; omega, by simp only; omega, sinT_width dec⟩

theorem dotS_unit {a b : Dir} (ha : Unit1 a.x ∧ Unit1 a.y ∧ Unit1 a.z) (hb : Unit1 b.x ∧ Unit1 b.y ∧ Unit1 b.z) :
    ∃ p q r, mulS a.x b.x = (p, 0) ∧ mulS a.y b.y = (q, 0) ∧ mulS a.z b.z = (r, 0) ∧ Unit1 p ∧ Unit1 q ∧ Unit1 r ∧ dotS a b = (⟨p.lo + q.lo + r.lo, p.hi + q.hi + r.hi⟩, 0) := by
  have hv : [a.x, a.y, a.z, b.x, b.y, b.z].all spanValid = true := by
    simp [unit_valid ha.1, unit_valid ha.2.1, unit_valid ha.2.2, unit_valid hb.1, unit_valid hb.2.1, unit_valid hb.2.2]
  obtain ⟨p, hp, up, _, hp3⟩ := prodsS_cons (sum := spanZ) (r := [(a.y, b.y), (a.z, b.z)]) (by decide) ha.1 hb.1
  have up' := up
  unfold Unit1 at up'
  obtain ⟨q, hq, uq, _, hq3⟩ := prodsS_cons (sum := ⟨spanZ.lo + p.lo, spanZ.hi + p.hi⟩) (r := [(a.z, b.z)]) (by simp only [spanZ]; omega) ha.2.1 hb.2.1
  have uq' := uq
  unfold Unit1 at uq'
  obtain ⟨r, hr, ur, _, hr3⟩ := prodsS_cons (sum := ⟨spanZ.lo + p.lo + q.lo, spanZ.hi + p.hi + q.hi⟩) (r := []) (by simp only [spanZ]; omega) ha.2.2 hb.2.2
  refine ⟨p, q, r, hp, hq, hr, up, uq, ur, ?_⟩
  unfold dotS
  rw [hv, hp3, hq3, hr3]
  simp only [cond_true, prodsS, spanZ, Int.zero_add]

theorem dir_square (ra dec tick : Int) : ∃ x, dotS (dirS ra dec tick) (dirS ra dec tick) = (x, 0) ∧ x.lo ≤ 1000000 ∧ 1000000 ≤ x.hi ∧ x.hi - x.lo ≤ 20 ∧ -3000000 ≤ x.lo ∧ x.hi ≤ 3000000 := by
  have u := dirS_unit ra dec tick
  have w := dirS_width ra dec tick
  have e := dirS_enc ra dec tick
  obtain ⟨p, q, r, hp, hq, hr, up, uq, ur, hx⟩ := dotS_unit u u
  have w1 := mulS_width u.1 u.1 hp
  have w2 := mulS_width u.2.1 u.2.1 hq
  have w3 := mulS_width u.2.2 u.2.2 hr
  have d2 : (0 : Int) < 18446744073709551616 * 18446744073709551616 := by decide
  have e1 := enc_times d2 d2 e.1 e.1 hp
  have e2 := enc_times d2 d2 e.2.1 e.2.1 hq
  have e3 := Enc.scale (c := 18446744073709551616 * 18446744073709551616) (by decide) (enc_times (by decide) (by decide) e.2.2 e.2.2 hr)
  have z := SZ_zero (n := 720) (by omega)
  have s1 := (sum720 (4 * (ra - tick)) (-(4 * (ra - tick)))).2
  have s2 := (sum720 (4 * dec) (-(4 * dec))).2
  unfold errC at s1 s2
  rw [CZ_neg (by omega), SZ_neg (by omega), show 4 * (ra - tick) + -(4 * (ra - tick)) = 0 by omega, z.2, Int.mul_neg] at s1
  rw [CZ_neg (by omega), SZ_neg (by omega), show 4 * dec + -(4 * dec) = 0 by omega, z.2, Int.mul_neg] at s2
  have rd : Abs (CZ 720 (4 * dec)) 18446744073709551616 := SZ_range (by omega) _
  generalize CZ 720 (4 * dec) = A at *
  generalize SZ 720 (4 * dec) = A' at *
  generalize CZ 720 (4 * (ra - tick)) = C at *
  generalize SZ 720 (4 * (ra - tick)) = C' at *
  have X : Enc (⟨p.lo + q.lo + r.lo, p.hi + q.hi + r.hi⟩ : Span) (A * C * (A * C) * 1000000 + A * C' * (A * C') * 1000000 + A' * A' * 1000000 * (18446744073709551616 * 18446744073709551616)) (18446744073709551616 * 18446744073709551616 * (18446744073709551616 * 18446744073709551616)) := by
    unfold Enc at *
    simp only at *
    omega
  have Y : Enc (⟨1000000, 1000000⟩ : Span) (18446744073709551616 * 18446744073709551616 * (18446744073709551616 * 18446744073709551616) * 1000000) (18446744073709551616 * 18446744073709551616 * (18446744073709551616 * 18446744073709551616)) := by
    unfold Enc
    simp only
    omega
  have c := Enc.common (by decide) X Y (by
    have b1 := (rd.mul rd).mul s1
    have b2 := Abs.scale (c := 18446744073709551616 * 18446744073709551616) (by decide) s2
    have k : A * C * (A * C) * 1000000 + A * C' * (A * C') * 1000000 + A' * A' * 1000000 * (18446744073709551616 * 18446744073709551616) - 18446744073709551616 * 18446744073709551616 * (18446744073709551616 * 18446744073709551616) * 1000000 =
      -(A * A * (18446744073709551616 * 18446744073709551616 - (C * C - -(C' * C')))) * 1000000 - (18446744073709551616 * 18446744073709551616 * (18446744073709551616 * 18446744073709551616 - (A * A - -(A' * A')))) * 1000000 := by grind
    rw [k]
    generalize A * A * (18446744073709551616 * 18446744073709551616 - (C * C - -(C' * C'))) = Z1 at *
    generalize 18446744073709551616 * 18446744073709551616 * (18446744073709551616 * 18446744073709551616 - (A * A - -(A' * A'))) = Z2 at *
    unfold Abs at *
    omega)
  unfold Unit1 at up uq ur
  simp only at c
  refine ⟨_, hx, c.1, c.2, ?_, ?_, ?_⟩ <;> simp only <;> omega

end Go.Ev

namespace Go.Ev
open Go

def pyOne (w : Nat) : Bool := vC w 720 fun s => vC (720 - w) 720 fun c => Nat.ble (s * s + c * c) (340282366920938463463374607431768211456 + 1208925819614629174706176) && Nat.ble 340282366920938463463374607431768211456 (s * s + c * c + 1208925819614629174706176)
def pyAll : Nat → Bool
  | 0 => pyOne 0
  | n + 1 => bif pyOne (n + 1) then pyAll n else false
theorem py720 : pyAll 720 = true := by decide +kernel

theorem pyAll_one (n : Nat) : pyAll n = true → ∀ w, w ≤ n → pyOne w = true := by
  induction n with
  | zero =>
    intro h w hw
    obtain rfl := Nat.le_zero.1 hw
    exact h
  | succ n ih =>
    intro h w hw
    rw [pyAll] at h
    cases h1 : pyOne (n + 1) with
    | false => rw [h1] at h; cases h
    | true =>
      rw [h1] at h
      rcases Nat.lt_or_ge n w with q | q
      · obtain rfl := Nat.le_antisymm hw q
        exact h1
      · exact ih h w q

theorem py_at {w : Int} (hw : 0 ≤ w ∧ w ≤ 720) : Abs (VI w 720 * VI w 720 + VI (720 - w) 720 * VI (720 - w) 720 - 340282366920938463463374607431768211456) 1208925819614629174706176 := by
  obtain ⟨m, rfl⟩ := Int.eq_ofNat_of_zero_le hw.1
  have h := pyAll_one 720 py720 m (by omega)
  unfold pyOne at h
  obtain ⟨s, hs, h⟩ := vC_ok (by omega) (by omega) h
  obtain ⟨c, hc, h⟩ := vC_ok (by omega) (by omega) h
  simp only [Bool.and_eq_true, Nat.ble_eq] at h
  have e : (((720 - m : Nat) : Int)) = 720 - (m : Int) := by omega
  rw [e] at hc
  have e7 : ((720 : Nat) : Int) = 720 := rfl
  rw [e7] at hs hc
  rw [← hs, ← hc]
  unfold Abs
  rw [← Int.natCast_mul, ← Int.natCast_mul]
  generalize s * s = S at *
  generalize c * c = C at *
  omega

theorem py_turn (u : Int) : SZ 720 (u + 720) * SZ 720 (u + 720) + CZ 720 (u + 720) * CZ 720 (u + 720) = SZ 720 u * SZ 720 u + CZ 720 u * CZ 720 u := by
  rw [CZ_quarter (by omega), show SZ 720 (u + 720) = CZ 720 u from rfl, Int.neg_mul_neg, Int.add_comm]

theorem pyth (u : Int) : Abs (SZ 720 u * SZ 720 u + CZ 720 u * CZ 720 u - 340282366920938463463374607431768211456) 1208925819614629174706176 := by
  obtain ⟨w, k, h1, h2, h⟩ := quad_cases (show (0 : Int) < 720 by omega) u
  have base : Abs (SZ 720 (w + 4 * 720 * k) * SZ 720 (w + 4 * 720 * k) + CZ 720 (w + 4 * 720 * k) * CZ 720 (w + 4 * 720 * k) - 340282366920938463463374607431768211456) 1208925819614629174706176 := by
    have e := SZ_at (n := 720) (w := w) (k := k) (by omega) (by omega)
    rw [e.1, e.2]
    exact py_at (by omega)
  rcases h with h | h | h | h
  · rw [h]; exact base
  · rw [show u = (w + 4 * 720 * k) + 720 by omega, py_turn]; exact base
  · rw [show u = (w + 4 * 720 * k) + 720 + 720 by omega, py_turn, py_turn]; exact base
  · rw [show u = (w + 4 * 720 * k) + 720 + 720 + 720 by omega, py_turn, py_turn, py_turn]; exact base

end Go.Ev

namespace Go.Ev
open Go

def fracOf (n d : Int) : Frac × Int := bif decide (absI n / gcdI n d ≤ 1000000000000000000) && decide (d / gcdI n d ≤ 1000000000000000000) then (⟨n / gcdI n d, d / gcdI n d⟩, 0) else (fracZ, 16)

def cutF (n d : Int) : Frac × Int := bif decide (absI n ≤ 1000000000000000000) && decide (d ≤ 1000000000000000000) then (⟨n, d⟩, 0) else (fracZ, 16)

theorem fracOf_red {n d c n' d' : Int} (hc : 0 < c) (hn : n = c * n') (hd : d = c * d') (hg : Int.gcd n' d' = 1) : fracOf n d = cutF n' d' := by
  have e : gcdI n d = c := by
    rw [gcdI_eq, hn, hd, Int.gcd_mul_left, hg]
    omega
  have e1 : n / c = n' := by rw [hn]; exact Int.mul_ediv_cancel_left _ (by omega)
  have e2 : d / c = d' := by rw [hd]; exact Int.mul_ediv_cancel_left _ (by omega)
  have e3 : absI n / c = absI n' := by
    simp only [absI_eq]
    rw [hn, Int.natAbs_mul, Int.natCast_mul, show ((c.natAbs : Nat) : Int) = c by omega]
    exact Int.mul_ediv_cancel_left _ (by omega)
  unfold fracOf cutF
  rw [e, e1, e2, e3]

/-! ### Sums -/

theorem coprime_sum {an bn : Int} {a b d : Nat} (hab : Nat.Coprime a b) (h : Nat.Coprime an.natAbs (d * a)) : Nat.Coprime (an * b + bn * a).natAbs a := by
  unfold Nat.Coprime
  have hp1 : Nat.gcd (an * b + bn * a).natAbs a ∣ a := Nat.gcd_dvd_right _ _
  have hp2 : Nat.gcd (an * b + bn * a).natAbs a ∣ (an * b + bn * a).natAbs := Nat.gcd_dvd_left _ _
  generalize Nat.gcd (an * b + bn * a).natAbs a = p at *
  have h1 : (p : Int) ∣ an * b + bn * a := Int.ofNat_dvd_left.2 hp2
  have h2 : (p : Int) ∣ bn * a := Int.dvd_trans (Int.natCast_dvd_natCast.2 hp1) (Int.dvd_mul_left _ _)
  have h3 : (p : Int) ∣ an * b := (Int.dvd_add_left h2).1 h1
  have h4 : p ∣ an.natAbs * b := by
    have := Int.ofNat_dvd_left.1 h3
    rwa [Int.natAbs_mul, Int.natAbs_natCast] at this
  have h5 : Nat.Coprime p b := Nat.Coprime.coprime_dvd_left hp1 hab
  have h6 : p ∣ an.natAbs := h5.dvd_of_dvd_mul_right h4
  have h7 : p ∣ d * a := Nat.dvd_trans hp1 (Nat.dvd_mul_left _ _)
  have h8 := Nat.dvd_gcd h6 h7
  rw [h] at h8
  exact Nat.eq_one_of_dvd_one h8

theorem sum_red {a b : Frac} (ha : FracOk a) (hb : FracOk b) : ∃ d p q g t m : Int, 0 < d ∧ 0 < p ∧ 0 < q ∧ 0 < g ∧ 0 < m ∧ gcdI a.den b.den = d ∧ a.den = d * p ∧ b.den = d * q ∧ gcdI d (a.num * q + b.num * p) = g ∧ a.num * q + b.num * p = g * t ∧ b.den = g * m ∧ Int.gcd t (p * m) = 1 ∧
    fracOf (a.num * b.den + b.num * a.den) (a.den * b.den) = cutF t (p * m) := by
  obtain ⟨ad, had⟩ := Int.eq_ofNat_of_zero_le (show 0 ≤ a.den by have := ha.denlo; omega)
  obtain ⟨bd, hbd⟩ := Int.eq_ofNat_of_zero_le (show 0 ≤ b.den by have := hb.denlo; omega)
  have hapos : 0 < ad := by have := ha.denlo; omega
  have hbpos : 0 < bd := by have := hb.denlo; omega
  have hd : 0 < Nat.gcd ad bd := Nat.gcd_pos_of_pos_left _ hapos
  obtain ⟨p, hp⟩ := Nat.gcd_dvd_left ad bd
  obtain ⟨q, hq⟩ := Nat.gcd_dvd_right ad bd
  have hco : Nat.Coprime p q := by
    have := Nat.coprime_div_gcd_div_gcd hd
    rwa [Nat.div_eq_of_eq_mul_right hd hp, Nat.div_eq_of_eq_mul_right hd hq] at this
  have hgd : gcdI a.den b.den = ((Nat.gcd ad bd : Nat) : Int) := by rw [had, hbd, gcdI_nat]
  have hca : Nat.Coprime a.num.natAbs ad := by
    have := ha.gcd
    rwa [Int.gcd_eq_natAbs_gcd_natAbs, had, Int.natAbs_natCast] at this
  have hcb : Nat.Coprime b.num.natAbs bd := by
    have := hb.gcd
    rwa [Int.gcd_eq_natAbs_gcd_natAbs, hbd, Int.natAbs_natCast] at this
  generalize Nat.gcd ad bd = d at *
  have hp0 : 0 < p := by
    rcases Nat.eq_zero_or_pos p with e | e
    · subst e; omega
    · exact e
  have hq0 : 0 < q := by
    rcases Nat.eq_zero_or_pos q with e | e
    · subst e; omega
    · exact e
  have c1 : Nat.Coprime (a.num * q + b.num * p).natAbs p := coprime_sum (d := d) hco (by rw [← hp]; exact hca)
  have c2 : Nat.Coprime (a.num * q + b.num * p).natAbs q := by
    rw [Int.add_comm]
    exact coprime_sum (d := d) hco.symm (by rw [← hq]; exact hcb)
  have hg : 0 < Nat.gcd d (a.num * q + b.num * p).natAbs := Nat.gcd_pos_of_pos_left _ hd
  have hgI : gcdI d (a.num * q + b.num * p) = ((Nat.gcd d (a.num * q + b.num * p).natAbs : Nat) : Int) := by rw [gcdI_eq, Int.gcd_eq_natAbs_gcd_natAbs, Int.natAbs_natCast]
  obtain ⟨u, hu⟩ := Nat.gcd_dvd_left d (a.num * q + b.num * p).natAbs
  obtain ⟨t', ht'⟩ := Nat.gcd_dvd_right d (a.num * q + b.num * p).natAbs
  have hcu : Nat.Coprime u t' := by
    have := Nat.coprime_div_gcd_div_gcd hg
    rwa [Nat.div_eq_of_eq_mul_right hg hu, Nat.div_eq_of_eq_mul_right hg ht'] at this
  generalize hG : Nat.gcd d (a.num * q + b.num * p).natAbs = g at *
  have hdvd : (g : Int) ∣ a.num * q + b.num * p := Int.ofNat_dvd_left.2 ⟨t', ht'⟩
  obtain ⟨t, ht⟩ := hdvd
  have htt : t.natAbs = t' := by
    rw [ht, Int.natAbs_mul, Int.natAbs_natCast] at ht'
    exact Nat.eq_of_mul_eq_mul_left hg ht'
  have hu0 : 0 < u := by
    rcases Nat.eq_zero_or_pos u with e | e
    · subst e; omega
    · exact e
  have hm0 : 0 < u * q := Nat.mul_pos hu0 hq0
  have hcop : Int.gcd t ((p : Int) * ((u * q : Nat) : Int)) = 1 := by
    rw [Int.gcd_eq_natAbs_gcd_natAbs, Int.natAbs_mul, Int.natAbs_natCast, Int.natAbs_natCast, htt]
    have k1 : Nat.Coprime t' p := Nat.Coprime.coprime_dvd_left ⟨g, by rw [ht', Nat.mul_comm]⟩ c1
    have k2 : Nat.Coprime t' q := Nat.Coprime.coprime_dvd_left ⟨g, by rw [ht', Nat.mul_comm]⟩ c2
    exact Nat.Coprime.mul_right k1 (Nat.Coprime.mul_right hcu.symm k2)
  refine ⟨d, p, q, g, t, ((u * q : Nat) : Int), by omega, by omega, by omega, by omega, by omega, hgd, ?_, ?_, hgI, ht, ?_, hcop, ?_⟩
  · rw [had, hp]; simp
  · rw [hbd, hq]; simp
  · rw [hbd, hq, hu]; simp only [Int.natCast_mul]; grind
  · have hbd' : b.den = g * ((u * q : Nat) : Int) := by rw [hbd, hq, hu]; simp only [Int.natCast_mul]; grind
    have had' : a.den = d * (p : Int) := by rw [had, hp]; simp
    have hbd2 : b.den = d * (q : Int) := by rw [hbd, hq]; simp
    refine fracOf_red (c := (d : Int) * g) (Int.mul_pos (by omega) (by omega)) ?_ ?_ ?_
    · have : a.num * b.den + b.num * a.den = d * (a.num * q + b.num * p) := by rw [had', hbd2]; grind
      rw [this, ht]
      grind
    · rw [had', hbd']
      grind
    · exact hcop

theorem prod_red {a b : Frac} (ha : FracOk a) (hb : FracOk b) : ∃ g h x y u v : Int, 0 < g ∧ 0 < h ∧ 0 < u ∧ 0 < v ∧ gcdI a.num b.den = g ∧ gcdI b.num a.den = h ∧ a.num = g * x ∧ b.num = h * y ∧ a.den = h * u ∧ b.den = g * v ∧ fracOf (a.num * b.num) (a.den * b.den) = cutF (x * y) (u * v) := by
  have hbd := hb.denlo
  have had := ha.denlo
  have hg : 0 < gcdI a.num b.den := gcdI_pos (by omega)
  have hh : 0 < gcdI b.num a.den := gcdI_pos (by omega)
  obtain ⟨x, hx⟩ : gcdI a.num b.den ∣ a.num := gcdI_dvd_left ..
  obtain ⟨v, hv⟩ : gcdI a.num b.den ∣ b.den := gcdI_dvd_right ..
  obtain ⟨y, hy⟩ : gcdI b.num a.den ∣ b.num := gcdI_dvd_left ..
  obtain ⟨u, hu⟩ : gcdI b.num a.den ∣ a.den := gcdI_dvd_right ..
  generalize hG : gcdI a.num b.den = g at *
  generalize hH : gcdI b.num a.den = h at *
  have cop : ∀ k m n : Int, 0 < k → gcdI (k * m) (k * n) = k → Int.gcd m n = 1 := by
    intro k m n hk e
    rw [gcdI_eq] at e
    rw [Int.gcd_mul_left, Int.natCast_mul, show ((k.natAbs : Nat) : Int) = k by omega] at e
    have : ((Int.gcd m n : Nat) : Int) = 1 := Int.eq_of_mul_eq_mul_left (a := k) (by omega) (by omega)
    omega
  have c1 : Int.gcd x v = 1 := cop g x v hg (by rw [← hx, ← hv]; exact hG)
  have c2 : Int.gcd y u = 1 := cop h y u hh (by rw [← hy, ← hu]; exact hH)
  have hu0 : 0 < u := by
    rcases Int.lt_or_le 0 u with e | e
    · exact e
    · have := Int.mul_le_mul_of_nonneg_left e (show 0 ≤ h by omega)
      omega
  have hv0 : 0 < v := by
    rcases Int.lt_or_le 0 v with e | e
    · exact e
    · have := Int.mul_le_mul_of_nonneg_left e (show 0 ≤ g by omega)
      omega
  refine ⟨g, h, x, y, u, v, hg, hh, hu0, hv0, rfl, rfl, hx, hy, hu, hv, ?_⟩
  refine fracOf_red (c := g * h) (Int.mul_pos hg hh) ?_ ?_ ?_
  · rw [hx, hy]; grind
  · rw [hu, hv]; grind
  · have ga := ha.gcd
    have gb := hb.gcd
    rw [Int.gcd_eq_natAbs_gcd_natAbs] at ga gb c1 c2 ⊢
    rw [hx, hu, Int.natAbs_mul, Int.natAbs_mul] at ga
    rw [hy, hv, Int.natAbs_mul, Int.natAbs_mul] at gb
    rw [Int.natAbs_mul, Int.natAbs_mul]
    have k1 : Nat.Coprime x.natAbs u.natAbs := Nat.Coprime.coprime_dvd_left (Nat.dvd_mul_left _ _) (Nat.Coprime.symm (Nat.Coprime.coprime_dvd_left (Nat.dvd_mul_left _ _) (Nat.Coprime.symm ga)))
    have k2 : Nat.Coprime y.natAbs v.natAbs := Nat.Coprime.coprime_dvd_left (Nat.dvd_mul_left _ _) (Nat.Coprime.symm (Nat.Coprime.coprime_dvd_left (Nat.dvd_mul_left _ _) (Nat.Coprime.symm gb)))
    exact Nat.Coprime.mul_left (Nat.Coprime.mul_right k1 c1) (Nat.Coprime.mul_right c2 k2)

def addF (a b : Frac) : Frac × Int := bif fracOkB a && fracOkB b then fracOf (a.num * b.den + b.num * a.den) (a.den * b.den) else (fracZ, 8)
def subF (a b : Frac) : Frac × Int := bif fracOkB a && fracOkB b then fracOf (a.num * b.den - b.num * a.den) (a.den * b.den) else (fracZ, 8)
def mulF (a b : Frac) : Frac × Int := bif fracOkB a && fracOkB b then fracOf (a.num * b.num) (a.den * b.den) else (fracZ, 8)

theorem FracOk.neg {a : Frac} (h : FracOk a) : FracOk ⟨-a.num, a.den⟩ := ⟨h.denlo, h.denhi, by have := h.numhi; simp only; omega, by have := h.numlo; simp only; omega, by rw [Int.gcd_eq_natAbs_gcd_natAbs, Int.natAbs_neg, ← Int.gcd_eq_natAbs_gcd_natAbs]; exact h.gcd⟩

end Go.Ev

namespace Go.Ev
open Go

def add64 (x y c : Int) : Int × Int := ((x + y + c) % 18446744073709551616, (x + y + c) / 18446744073709551616)
def sub64 (x y c : Int) : Int × Int := ((x - y - c) % 18446744073709551616, bif decide (x < y + c) then 1 else 0)

/-! ### Numbers of 128 bits -/

def cmpI (x y : Int) : Int := bif decide (y < x) then 1 else bif x == y then 0 else -1

def widerTail (ah al bh bl : Int) : Int := bif ah == bh then (bif al == bl then 0 else -1) else -1
def widerRaw (ah al bh bl : Int) : Int := bif decide (bh < ah) then 1 else bif ah == bh then (bif decide (bl < al) then 1 else widerTail ah al bh bl) else widerTail ah al bh bl

theorem widerRaw_ok {ah al bh bl : Int} (h1 : 0 ≤ al ∧ al ≤ 18446744073709551615) (h2 : 0 ≤ bl ∧ bl ≤ 18446744073709551615) : widerRaw ah al bh bl = cmpI (ah * 18446744073709551616 + al) (bh * 18446744073709551616 + bl) := by
  unfold widerRaw widerTail cmpI
  by_cases a : bh < ah
  · rw [decide_eq_true a, decide_eq_true (show bh * 18446744073709551616 + bl < ah * 18446744073709551616 + al by omega)]; rfl
  rw [decide_eq_false a]
  by_cases b : ah = bh
  · subst b
    simp only [beq_self_eq_true, cond_true, cond_false]
    by_cases c : bl < al
    · rw [decide_eq_true c, decide_eq_true (show ah * 18446744073709551616 + bl < ah * 18446744073709551616 + al by omega)]; rfl
    rw [decide_eq_false c, decide_eq_false (show ¬ ah * 18446744073709551616 + bl < ah * 18446744073709551616 + al by omega)]
    simp only [cond_false]
    by_cases d : al = bl
    · subst d; simp
    · rw [show (al == bl) = false by simpa using d, show (ah * 18446744073709551616 + al == ah * 18446744073709551616 + bl) = false by simp; omega]
  · rw [show (ah == bh) = false by simpa using b, decide_eq_false (show ¬ bh * 18446744073709551616 + bl < ah * 18446744073709551616 + al by omega), show (ah * 18446744073709551616 + al == bh * 18446744073709551616 + bl) = false by simp; omega]
    rfl

def remAns (K : AV → List Blk → Ans) (hi lo y : Int) : Ans := bif y == 0 then none else bif decide (hi.tmod y < y) then K (rU ((hi.tmod y * 18446744073709551616 + lo) % y)) [] else none

theorem remAns_ok {K : AV → List Blk → Ans} {hi lo y : Int} (h1 : 0 ≤ hi) (hy : 0 < y) : remAns K hi lo y = K (rU ((hi * 18446744073709551616 + lo) % y)) [] := by
  unfold remAns
  rw [show (y == 0) = false by simp; omega, decide_eq_true (Int.tmod_lt_of_pos hi hy), Int.tmod_eq_emod_of_nonneg h1]
  have e : (hi % y * 18446744073709551616 + lo) % y = (hi * 18446744073709551616 + lo) % y := by
    have := Int.emod_add_mul_ediv hi y
    conv => rhs; rw [← this]
    rw [Int.add_mul, Int.add_right_comm, Int.mul_assoc, Int.add_mul_emod_self_left]
  rw [e]
  rfl

/-! ### A fraction of two numbers without a common divisor -/

def buildRaw (neg : Bool) (num den : Int) : Frac × Int :=
  bif decide (1000000000000000000 < num) then (fracZ, 16) else bif decide (1000000000000000000 < den) then (fracZ, 16) else bif neg then (⟨w64 (0 - w64 num), w64 den⟩, 0) else (⟨w64 num, w64 den⟩, 0)

theorem buildRaw_ok {neg : Bool} {num den : Int} (h1 : 0 ≤ num) (h2 : 0 ≤ den) : buildRaw neg num den = lowF neg num den := by
  unfold buildRaw lowF
  by_cases a : 1000000000000000000 < num
  · rw [decide_eq_true a, decide_eq_false (show ¬ num ≤ 1000000000000000000 by omega)]; rfl
  by_cases b : 1000000000000000000 < den
  · rw [decide_eq_false a, decide_eq_true b, decide_eq_false (show ¬ den ≤ 1000000000000000000 by omega), Bool.and_false]; rfl
  rw [decide_eq_false a, decide_eq_false b, decide_eq_true (show num ≤ 1000000000000000000 by omega), decide_eq_true (show den ≤ 1000000000000000000 by omega), w64_id (n := num) (by omega), w64_id (n := den) (by omega), w64_id (by omega)]
  cases neg <;> simp

/-! ### Sums -/

def sumTail (K : AV → List Blk → Ans) (neg : Bool) (hi lo d ad bd : Int) : Ans :=
  bif decide (0 < d) then (
    let g := gcdI d ((hi * 18446744073709551616 + lo) % d)
    bif decide (g ≤ hi) then K (rFracE (fracZ, 16)) [] else
    bif decide (hi < g) then (bif d == 0 then none else bif g == 0 then none else
      bif (mul64 (wu64 (ad.tdiv d)) (wu64 (bd.tdiv g))).1 != 0 then K (rFracE (fracZ, 16)) [] else K (rFracE (lowF neg ((hi * 18446744073709551616 + lo) / g) (mul64 (wu64 (ad.tdiv d)) (wu64 (bd.tdiv g))).2)) [])
    else none) else none

def carryAns (c : Int) (k : Ans) : Ans := bif decide (c ≤ 1) then k else none

def sumMid (K : AV → List Blk → Ans) (an bn ah al bh bl d ad bd : Int) : Ans :=
  bif decide (an < 0) == decide (bn < 0) then
    carryAns 0 (carryAns (add64 al bl 0).2 (sumTail K (decide (an < 0)) (add64 ah bh (add64 al bl 0).2).1 (add64 al bl 0).1 d ad bd))
  else bif decide (0 ≤ cmpI (ah * 18446744073709551616 + al) (bh * 18446744073709551616 + bl)) then
    carryAns 0 (carryAns (sub64 al bl 0).2 (sumTail K (decide (an < 0)) (sub64 ah bh (sub64 al bl 0).2).1 (sub64 al bl 0).1 d ad bd))
  else carryAns 0 (carryAns (sub64 bl al 0).2 (sumTail K (decide (bn < 0)) (sub64 bh ah (sub64 bl al 0).2).1 (sub64 bl al 0).1 d ad bd))

def sumAns (K : AV → List Blk → Ans) (a b : Frac) : Ans :=
  let d := gcdI (absI a.den) (absI b.den)
  bif d == 0 then none else bif d == 0 then none else
  sumMid K a.num b.num (mul64 (absI a.num) (wu64 ((absI b.den).tdiv d))).1 (mul64 (absI a.num) (wu64 ((absI b.den).tdiv d))).2 (mul64 (absI b.num) (wu64 ((absI a.den).tdiv d))).1 (mul64 (absI b.num) (wu64 ((absI a.den).tdiv d))).2 d (absI a.den) (absI b.den)

theorem lowF_cut {neg : Bool} {t p : Int} (hneg : (bif neg then -absI t else absI t) = t) : lowF neg (absI t) p = cutF t p := by
  unfold lowF cutF
  cases decide (absI t ≤ 1000000000000000000) && decide (p ≤ 1000000000000000000) with
  | false => rfl
  | true => simp only [cond_true, hneg]

theorem cutF_big {t p : Int} (h : 1000000000000000000 < absI t ∨ 1000000000000000000 < p) : cutF t p = (fracZ, 16) := by
  unfold cutF
  rcases h with h | h
  · rw [decide_eq_false (by omega)]; rfl
  · rw [decide_eq_false (show ¬ p ≤ 1000000000000000000 by omega), Bool.and_false]; rfl

theorem sumTail_ok {K : AV → List Blk → Ans} {neg : Bool} {hi lo d p q g t m T : Int} (_ : 0 ≤ hi) (hlo : 0 ≤ lo ∧ lo < 18446744073709551616) (hS : hi * 18446744073709551616 + lo = absI T) (hneg : (bif neg then -absI T else absI T) = T)
    (hd : 0 < d) (hp : 0 < p) (hg : 0 < g) (hm : 0 < m) (hG : gcdI d T = g) (ht : T = g * t) (hb1 : d * q = g * m) (ha : d * p ≤ 1000000000000000000) (hb : d * q ≤ 1000000000000000000) : sumTail K neg hi lo d (d * p) (d * q) = K (rFracE (cutF t (p * m))) [] := by
  have hr : gcdI d (absI T % d) = g := by
    rw [← hG]
    simp only [gcdI_eq, absI_eq]
    rw [Int.gcd_eq_natAbs_gcd_natAbs, Int.gcd_eq_natAbs_gcd_natAbs]
    congr 1
    obtain ⟨d', rfl⟩ := Int.eq_ofNat_of_zero_le (Int.le_of_lt hd)
    rw [← Int.natCast_emod, Int.natAbs_natCast, Int.natAbs_natCast, Nat.gcd_comm, ← Nat.gcd_rec]
  have habs : absI T = g * absI t := by
    rw [ht]
    simp only [absI_eq]
    rw [Int.natAbs_mul, Int.natCast_mul, show ((g.natAbs : Nat) : Int) = g by omega]
  have hp1 : p ≤ d * p := by
    have := Int.mul_le_mul_of_nonneg_right (show 1 ≤ d by omega) (show 0 ≤ p by omega)
    omega
  have hm1 : m ≤ g * m := by
    have := Int.mul_le_mul_of_nonneg_right (show 1 ≤ g by omega) (show 0 ≤ m by omega)
    omega
  unfold sumTail
  rw [decide_eq_true hd, cond_true, hS, hr]
  simp only
  by_cases hc : g ≤ hi
  · rw [decide_eq_true hc, cond_true, cutF_big]
    left
    have h1 : g * 18446744073709551616 ≤ g * absI t := by
      have := Int.mul_le_mul_of_nonneg_right hc (show (0 : Int) ≤ 18446744073709551616 by decide)
      omega
    have := Int.le_of_mul_le_mul_left h1 hg
    omega
  · rw [decide_eq_false hc, decide_eq_true (show hi < g by omega), show (d == 0) = false by simp; omega, show (g == 0) = false by simp; omega]
    simp only [cond_true, cond_false]
    have e1 : wu64 ((d * p).tdiv d) = p := by
      rw [Int.mul_tdiv_cancel_left _ (by omega)]
      exact wu64_id (by omega)
    have e2 : wu64 ((d * q).tdiv g) = m := by
      rw [hb1, Int.mul_tdiv_cancel_left _ (by omega)]
      exact wu64_id (by omega)
    have e3 : absI T / g = absI t := by rw [habs]; exact Int.mul_ediv_cancel_left _ (by omega)
    rw [e1, e2, e3]
    have hpm : 0 < p * m := Int.mul_pos hp hm
    unfold mul64
    simp only
    by_cases hbig : p * m / 18446744073709551616 = 0
    · rw [hbig]
      have e4 : p * m % 18446744073709551616 = p * m := by omega
      rw [e4]
      have hn : (bif neg then -absI t else absI t) = t := by
        have h2 : (bif neg then -absI t else absI t) * g = t * g := by
          have h3 := hneg
          rw [habs, ht] at h3
          cases neg
          · simp only [cond_false] at h3 ⊢
            rw [Int.mul_comm, h3, Int.mul_comm]
          · simp only [cond_true] at h3 ⊢
            rw [Int.neg_mul, Int.mul_comm, h3, Int.mul_comm]
        exact Int.eq_of_mul_eq_mul_right (by omega) h2
      rw [lowF_cut hn]
      rfl
    · rw [show (p * m / 18446744073709551616 != 0) = true by simpa using hbig, cond_true, cutF_big]
      right
      omega

theorem add_128 {X Y : Int} (hX : 0 ≤ X ∧ X ≤ 1000000000000000000 * 1000000000000000000) (hY : 0 ≤ Y ∧ Y ≤ 1000000000000000000 * 1000000000000000000) :
    (add64 (X % 18446744073709551616) (Y % 18446744073709551616) 0).2 ≤ 1 ∧ 0 ≤ (add64 (X / 18446744073709551616) (Y / 18446744073709551616) (add64 (X % 18446744073709551616) (Y % 18446744073709551616) 0).2).1 ∧
    (0 ≤ (add64 (X % 18446744073709551616) (Y % 18446744073709551616) 0).1 ∧ (add64 (X % 18446744073709551616) (Y % 18446744073709551616) 0).1 < 18446744073709551616) ∧
    (add64 (X / 18446744073709551616) (Y / 18446744073709551616) (add64 (X % 18446744073709551616) (Y % 18446744073709551616) 0).2).1 * 18446744073709551616 + (add64 (X % 18446744073709551616) (Y % 18446744073709551616) 0).1 = X + Y := by
  unfold add64
  simp only
  omega

theorem sub_128 {X Y : Int} (hX : 0 ≤ X ∧ X ≤ 1000000000000000000 * 1000000000000000000) (hY : 0 ≤ Y ∧ Y ≤ 1000000000000000000 * 1000000000000000000) (h : Y ≤ X) :
    (sub64 (X % 18446744073709551616) (Y % 18446744073709551616) 0).2 ≤ 1 ∧ 0 ≤ (sub64 (X / 18446744073709551616) (Y / 18446744073709551616) (sub64 (X % 18446744073709551616) (Y % 18446744073709551616) 0).2).1 ∧
    (0 ≤ (sub64 (X % 18446744073709551616) (Y % 18446744073709551616) 0).1 ∧ (sub64 (X % 18446744073709551616) (Y % 18446744073709551616) 0).1 < 18446744073709551616) ∧
    (sub64 (X / 18446744073709551616) (Y / 18446744073709551616) (sub64 (X % 18446744073709551616) (Y % 18446744073709551616) 0).2).1 * 18446744073709551616 + (sub64 (X % 18446744073709551616) (Y % 18446744073709551616) 0).1 = X - Y := by
  unfold sub64
  simp only
  by_cases hb : X % 18446744073709551616 < Y % 18446744073709551616 + 0
  · rw [decide_eq_true hb]
    simp only [cond_true]
    omega
  · rw [decide_eq_false hb]
    simp only [cond_false]
    omega

theorem cmp_128 (X Y : Int) : cmpI (X / 18446744073709551616 * 18446744073709551616 + X % 18446744073709551616) (Y / 18446744073709551616 * 18446744073709551616 + Y % 18446744073709551616) = cmpI X Y := by congr 1 <;> omega

theorem cmpI_nonneg (X Y : Int) : decide (0 ≤ cmpI X Y) = decide (Y ≤ X) := by
  unfold cmpI
  by_cases h1 : Y < X
  · rw [decide_eq_true h1, decide_eq_true (show Y ≤ X by omega)]; rfl
  by_cases h2 : X = Y
  · subst h2; simp
  · rw [decide_eq_false h1, show (X == Y) = false by simpa using h2, decide_eq_false (show ¬ Y ≤ X by omega)]; rfl

theorem sumAns_ok {K : AV → List Blk → Ans} {a b : Frac} (ha : FracOk a) (hb : FracOk b) : sumAns K a b = K (rFracE (fracOf (a.num * b.den + b.num * a.den) (a.den * b.den))) [] := by
  obtain ⟨d, p, q, g, t, m, hd, hp, hq, hg, hm, hgd, had, hbd, hG, ht, hbm, _, hF⟩ := sum_red ha hb
  have a1 := ha.denlo
  have a2 := ha.denhi
  have a3 := ha.numlo
  have a4 := ha.numhi
  have b1 := hb.denlo
  have b2 := hb.denhi
  have b3 := hb.numlo
  have b4 := hb.numhi
  have hq1 : q ≤ d * q := by
    have := Int.mul_le_mul_of_nonneg_right (show 1 ≤ d by omega) (show 0 ≤ q by omega)
    omega
  have hp1 : p ≤ d * p := by
    have := Int.mul_le_mul_of_nonneg_right (show 1 ≤ d by omega) (show 0 ≤ p by omega)
    omega
  rw [hF]
  unfold sumAns
  rw [absI_of_nonneg (n := a.den) (by omega), absI_of_nonneg (n := b.den) (by omega), hgd]
  simp only
  rw [show (d == 0) = false by simp; omega]
  simp only [cond_false]
  have e1 : wu64 (b.den.tdiv d) = q := by
    rw [hbd, Int.mul_tdiv_cancel_left _ (by omega)]
    exact wu64_id (by omega)
  have e2 : wu64 (a.den.tdiv d) = p := by
    rw [had, Int.mul_tdiv_cancel_left _ (by omega)]
    exact wu64_id (by omega)
  rw [e1, e2, had, hbd]
  have x0 : 0 ≤ absI a.num * q := Int.mul_nonneg (absI_nonneg _) (by omega)
  have x1 : absI a.num * q ≤ 1000000000000000000 * 1000000000000000000 := Int.mul_le_mul (by unfold absI; omega) (by omega) (by omega) (by omega)
  have y0 : 0 ≤ absI b.num * p := Int.mul_nonneg (absI_nonneg _) (by omega)
  have y1 : absI b.num * p ≤ 1000000000000000000 * 1000000000000000000 := Int.mul_le_mul (by unfold absI; omega) (by omega) (by omega) (by omega)
  have sx : a.num < 0 → a.num * q = -(absI a.num * q) := fun h => by rw [absI_of_neg h, Int.neg_mul]; omega
  have sx' : ¬ a.num < 0 → a.num * q = absI a.num * q := fun h => by rw [absI_of_nonneg (by omega)]
  have sy : b.num < 0 → b.num * p = -(absI b.num * p) := fun h => by rw [absI_of_neg h, Int.neg_mul]; omega
  have sy' : ¬ b.num < 0 → b.num * p = absI b.num * p := fun h => by rw [absI_of_nonneg (by omega)]
  have fin : ∀ (neg : Bool) (hi lo : Int), 0 ≤ hi → 0 ≤ lo ∧ lo < 18446744073709551616 → hi * 18446744073709551616 + lo = absI (a.num * q + b.num * p) → (bif neg then -absI (a.num * q + b.num * p) else absI (a.num * q + b.num * p)) = a.num * q + b.num * p →
      sumTail K neg hi lo d (d * p) (d * q) = K (rFracE (cutF t (p * m))) [] := fun neg hi lo k1 k2 k3 k4 =>
    sumTail_ok k1 k2 k3 k4 hd hp hg hm hG ht (by rw [← hbd, ← hbm]) (by rw [← had]; omega) (by rw [← hbd]; omega)
  unfold sumMid mul64 carryAns
  simp only
  rw [decide_eq_true (show (0 : Int) ≤ 1 by decide), cond_true, cond_true, cond_true]
  generalize absI a.num * q = X at *
  generalize absI b.num * p = Y at *
  have ad := add_128 (X := X) (Y := Y) (by omega) (by omega)
  rw [decide_eq_true ad.1, cond_true, cmp_128, cmpI_nonneg]
  by_cases na : a.num < 0
  · by_cases nb : b.num < 0
    · rw [decide_eq_true na, decide_eq_true nb]
      simp only [beq_self_eq_true, cond_true]
      refine fin true _ _ ad.2.1 ad.2.2.1 ?_ ?_
      · rw [ad.2.2.2, sx na, sy nb]; unfold absI; omega
      · rw [sx na, sy nb]; unfold absI; simp only [cond_true]; omega
    · rw [decide_eq_true na, decide_eq_false nb]
      simp only [show (true == false) = false from rfl, cond_false]
      by_cases hc : Y ≤ X
      · have sb := sub_128 (X := X) (Y := Y) (by omega) (by omega) hc
        rw [decide_eq_true hc, cond_true, decide_eq_true sb.1, cond_true]
        refine fin true _ _ sb.2.1 sb.2.2.1 ?_ ?_
        · rw [sb.2.2.2, sx na, sy' nb]; unfold absI; omega
        · rw [sx na, sy' nb]; unfold absI; simp only [cond_true]; omega
      · have sb := sub_128 (X := Y) (Y := X) (by omega) (by omega) (by omega)
        rw [decide_eq_false hc, cond_false, decide_eq_true sb.1, cond_true]
        refine fin false _ _ sb.2.1 sb.2.2.1 ?_ ?_
        · rw [sb.2.2.2, sx na, sy' nb]; unfold absI; omega
        · rw [sx na, sy' nb]; unfold absI; simp only [cond_false]; omega
  · by_cases nb : b.num < 0
    · rw [decide_eq_false na, decide_eq_true nb]
      simp only [show (false == true) = false from rfl, cond_false]
      by_cases hc : Y ≤ X
      · have sb := sub_128 (X := X) (Y := Y) (by omega) (by omega) hc
        rw [decide_eq_true hc, cond_true, decide_eq_true sb.1, cond_true]
        refine fin false _ _ sb.2.1 sb.2.2.1 ?_ ?_
        · rw [sb.2.2.2, sx' na, sy nb]; unfold absI; omega
        · rw [sx' na, sy nb]; unfold absI; simp only [cond_false]; omega
      · have sb := sub_128 (X := Y) (Y := X) (by omega) (by omega) (by omega)
        rw [decide_eq_false hc, cond_false, decide_eq_true sb.1, cond_true]
        refine fin true _ _ sb.2.1 sb.2.2.1 ?_ ?_
        · rw [sb.2.2.2, sx' na, sy nb]; unfold absI; omega
        · rw [sx' na, sy nb]; unfold absI; simp only [cond_true]; omega
    · rw [decide_eq_false na, decide_eq_false nb]
      simp only [beq_self_eq_true, cond_true]
      refine fin false _ _ ad.2.1 ad.2.2.1 ?_ ?_
      · rw [ad.2.2.2, sx' na, sy' nb]; unfold absI; omega
      · rw [sx' na, sy' nb]; unfold absI; simp only [cond_false]; omega

/-! ### Products -/

def prodAns (K : AV → List Blk → Ans) (a b : Frac) : Ans :=
  let g := gcdI (absI a.num) (absI b.den)
  let h := gcdI (absI b.num) (absI a.den)
  bif g == 0 then none else bif h == 0 then none else
  bif h == 0 then none else bif g == 0 then none else
  let n := mul64 (wu64 ((absI a.num).tdiv g)) (wu64 ((absI b.num).tdiv h))
  let d := mul64 (wu64 ((absI a.den).tdiv h)) (wu64 ((absI b.den).tdiv g))
  bif n.1 != 0 then K (rFracE (fracZ, 16)) [] else bif d.1 != 0 then K (rFracE (fracZ, 16)) [] else K (rFracE (lowF (diffSign a.num b.num) n.2 d.2)) []

theorem diff_sign {x y : Int} : (bif diffSign x y then -absI (x * y) else absI (x * y)) = x * y := by
  have e : absI (x * y) = absI x * absI y := by simp only [absI_eq]; rw [Int.natAbs_mul, Int.natCast_mul]
  unfold diffSign
  rw [e]
  by_cases hx : x < 0
  · by_cases hy : y < 0
    · rw [decide_eq_true hx, decide_eq_true hy, absI_of_neg hx, absI_of_neg hy]
      simp [Int.neg_mul_neg]
    · rw [decide_eq_true hx, decide_eq_false hy, absI_of_neg hx, absI_of_nonneg (by omega)]
      simp [Int.neg_mul]
  · by_cases hy : y < 0
    · rw [decide_eq_false hx, decide_eq_true hy, absI_of_nonneg (by omega), absI_of_neg hy]
      simp [Int.mul_neg]
    · rw [decide_eq_false hx, decide_eq_false hy, absI_of_nonneg (by omega), absI_of_nonneg (by omega)]
      simp

theorem diffSign_pos {x y c e : Int} (hc : 0 < c) (he : 0 < e) : diffSign (c * x) (e * y) = diffSign x y := by
  have h : ∀ k z : Int, 0 < k → (decide (k * z < 0) = decide (z < 0)) := by
    intro k z hk
    apply decide_eq_decide.2
    constructor
    · intro h
      rcases Int.lt_or_le z 0 with q | q
      · exact q
      · have := Int.mul_nonneg (Int.le_of_lt hk) q
        omega
    · intro h
      exact Int.mul_neg_of_pos_of_neg hk h
  unfold diffSign
  rw [h c x hc, h e y he]

theorem prodAns_ok {K : AV → List Blk → Ans} {a b : Frac} (ha : FracOk a) (hb : FracOk b) : prodAns K a b = K (rFracE (fracOf (a.num * b.num) (a.den * b.den))) [] := by
  obtain ⟨g, h, x, y, u, v, hg, hh, hu, hv, hG, hH, hx, hy, hau, hbv, hF⟩ := prod_red ha hb
  have a1 := ha.denlo
  have a2 := ha.denhi
  have a3 := ha.numlo
  have a4 := ha.numhi
  have b1 := hb.denlo
  have b2 := hb.denhi
  have b3 := hb.numlo
  have b4 := hb.numhi
  have cut : ∀ k z w : Int, 0 < k → z = k * w → absI z ≤ 1000000000000000000 → wu64 ((absI z).tdiv k) = absI w := by
    intro k z w hk hz hle
    have e : absI z = k * absI w := by
      rw [hz]; simp only [absI_eq]; rw [Int.natAbs_mul, Int.natCast_mul, show ((k.natAbs : Nat) : Int) = k by omega]
    have h1 : absI w ≤ k * absI w := by
      have := Int.mul_le_mul_of_nonneg_right (show 1 ≤ k by omega) (absI_nonneg w)
      omega
    rw [e, Int.mul_tdiv_cancel_left _ (by omega)]
    exact wu64_id ⟨absI_nonneg w, by omega⟩
  have e1 := cut g a.num x hg hx (by unfold absI; omega)
  have e2 := cut h b.num y hh hy (by unfold absI; omega)
  have e3 := cut h a.den u hh hau (by unfold absI; omega)
  have e4 := cut g b.den v hg hbv (by unfold absI; omega)
  rw [hF]
  unfold prodAns
  rw [gcdI_abs_left, gcdI_abs_right, gcdI_abs_left, gcdI_abs_right, hG, hH]
  simp only
  rw [show (g == 0) = false by simp; omega, show (h == 0) = false by simp; omega, e1, e2, e3, e4]
  simp only [cond_false]
  have ex : absI x * absI y = absI (x * y) := by simp only [absI_eq]; rw [Int.natAbs_mul, Int.natCast_mul]
  have ey : absI u * absI v = u * v := by rw [absI_of_nonneg (by omega), absI_of_nonneg (by omega)]
  have es : diffSign a.num b.num = diffSign x y := by rw [hx, hy, diffSign_pos hg hh]
  have n0 := absI_nonneg (x * y)
  have d0 : 0 < u * v := Int.mul_pos hu hv
  unfold mul64
  simp only
  rw [ex, ey, es]
  by_cases c1 : absI (x * y) / 18446744073709551616 = 0
  · by_cases c2 : u * v / 18446744073709551616 = 0
    · rw [c1, c2, show absI (x * y) % 18446744073709551616 = absI (x * y) by omega, show u * v % 18446744073709551616 = u * v by omega, lowF_cut diff_sign]
      rfl
    · rw [c1, show (u * v / 18446744073709551616 != 0) = true by simpa using c2, cutF_big (by omega)]
      rfl
  · rw [show (absI (x * y) / 18446744073709551616 != 0) = true by simpa using c1, cutF_big (by omega)]
    rfl

end Go.Ev

namespace Go.Ev
open Go

def bothE (a b : Frac) : Int := bif checkF a != 0 then checkF a else checkF b
theorem bothE_eq (a b : Frac) : bothE a b = bif fracOkB a && fracOkB b then 0 else 8 := by
  unfold bothE checkF
  cases fracOkB a <;> cases fracOkB b <;> rfl

/-! ### Sums and differences of numbers of four digits -/

def sumBig (x y : Big) : Big :=
  let c0 := wu64 (0 + wu64 (x.a + y.a))
  let c1 := wu64 (shrU c0 32 + wu64 (x.b + y.b))
  let c2 := wu64 (shrU c1 32 + wu64 (x.c + y.c))
  let c3 := wu64 (shrU c2 32 + wu64 (x.d + y.d))
  ⟨bandU c0 4294967295, bandU c1 4294967295, bandU c2 4294967295, bandU c3 4294967295⟩

def sumOn (x y : Big) : Bool := bigOk x && (bigOk y && decide (valOf x + valOf y < 340282366920938463463374607431768211456))

theorem band_int {x : Int} (h : 0 ≤ x ∧ x ≤ 18446744073709551615) : bandU x 4294967295 = x % 4294967296 := by
  obtain ⟨a, rfl⟩ := Int.eq_ofNat_of_zero_le h.1
  rw [band_mask a (by omega)]
  omega
theorem shr_int {x : Int} (h : 0 ≤ x) : shrU x 32 = x / 4294967296 := by
  obtain ⟨a, rfl⟩ := Int.eq_ofNat_of_zero_le h
  rw [shr_32]
  omega

theorem sumBig_ok {x y : Big} (h : sumOn x y = true) : sumBig x y = bigOf (valOf x + valOf y) := by
  simp only [sumOn, bigOk, Bool.and_eq_true, decide_eq_true_eq] at h
  obtain ⟨⟨x1, x2, x3, x4, x5, x6, x7, x8⟩, ⟨y1, y2, y3, y4, y5, y6, y7, y8⟩, hs⟩ := h
  unfold valOf at hs
  unfold sumBig bigOf valOf
  simp only
  rw [wu64_id (n := x.a + y.a) (by omega), wu64_id (n := x.b + y.b) (by omega), wu64_id (n := x.c + y.c) (by omega), wu64_id (n := x.d + y.d) (by omega), wu64_id (n := 0 + (x.a + y.a)) (by omega)]
  rw [shr_int (x := 0 + (x.a + y.a)) (by omega), wu64_id (n := (0 + (x.a + y.a)) / 4294967296 + (x.b + y.b)) (by omega)]
  rw [shr_int (x := (0 + (x.a + y.a)) / 4294967296 + (x.b + y.b)) (by omega), wu64_id (n := ((0 + (x.a + y.a)) / 4294967296 + (x.b + y.b)) / 4294967296 + (x.c + y.c)) (by omega)]
  rw [shr_int (x := ((0 + (x.a + y.a)) / 4294967296 + (x.b + y.b)) / 4294967296 + (x.c + y.c)) (by omega), wu64_id (n := (((0 + (x.a + y.a)) / 4294967296 + (x.b + y.b)) / 4294967296 + (x.c + y.c)) / 4294967296 + (x.d + y.d)) (by omega)]
  rw [band_int (x := 0 + (x.a + y.a)) (by omega), band_int (x := (0 + (x.a + y.a)) / 4294967296 + (x.b + y.b)) (by omega), band_int (x := ((0 + (x.a + y.a)) / 4294967296 + (x.b + y.b)) / 4294967296 + (x.c + y.c)) (by omega), band_int (x := (((0 + (x.a + y.a)) / 4294967296 + (x.b + y.b)) / 4294967296 + (x.c + y.c)) / 4294967296 + (x.d + y.d)) (by omega)]
  congr 1 <;> omega

def restX (p q o : Int) : Int := wu64 (wu64 (wu64 (wu64 (p + 4294967295) + 1) - q) - o)
def restBig (x y : Big) : Big :=
  let c0 := restX x.a y.a 0
  let c1 := restX x.b y.b (wu64 (1 - shrU c0 32))
  let c2 := restX x.c y.c (wu64 (1 - shrU c1 32))
  let c3 := restX x.d y.d (wu64 (1 - shrU c2 32))
  ⟨bandU c0 4294967295, bandU c1 4294967295, bandU c2 4294967295, bandU c3 4294967295⟩

def restOn (x y : Big) : Bool := bigOk x && (bigOk y && decide (valOf y ≤ valOf x))

theorem restX_ok {p q o : Int} (hp : 0 ≤ p ∧ p < 4294967296) (hq : 0 ≤ q ∧ q < 4294967296) (ho : 0 ≤ o ∧ o ≤ 1) : restX p q o = p + 4294967296 - q - o ∧ wu64 (1 - shrU (restX p q o) 32) = (if p < q + o then 1 else 0) ∧ bandU (restX p q o) 4294967295 = (p - q - o) % 4294967296 := by
  have e : restX p q o = p + 4294967296 - q - o := by
    unfold restX
    rw [wu64_id (n := p + 4294967295) (by omega), wu64_id (n := p + 4294967295 + 1) (by omega), wu64_id (n := p + 4294967295 + 1 - q) (by omega), wu64_id (by omega)]
    omega
  refine ⟨e, ?_, ?_⟩
  · rw [e, shr_int (by omega), wu64_id (by omega)]
    split <;> omega
  · rw [e, band_int (by omega)]
    omega

theorem restBig_ok {x y : Big} (h : restOn x y = true) : restBig x y = bigOf (valOf x - valOf y) := by
  simp only [restOn, bigOk, Bool.and_eq_true, decide_eq_true_eq] at h
  obtain ⟨⟨x1, x2, x3, x4, x5, x6, x7, x8⟩, ⟨y1, y2, y3, y4, y5, y6, y7, y8⟩, hs⟩ := h
  unfold valOf at hs
  unfold restBig
  simp only
  have r0 := restX_ok (p := x.a) (q := y.a) (o := 0) ⟨x1, x2⟩ ⟨y1, y2⟩ (by omega)
  rw [r0.2.1, r0.2.2]
  have o1 : 0 ≤ (if x.a < y.a + 0 then (1 : Int) else 0) ∧ (if x.a < y.a + 0 then (1 : Int) else 0) ≤ 1 := by split <;> omega
  have r1 := restX_ok (p := x.b) (q := y.b) (o := if x.a < y.a + 0 then 1 else 0) ⟨x3, x4⟩ ⟨y3, y4⟩ o1
  rw [r1.2.1, r1.2.2]
  generalize hA : (if x.a < y.a + 0 then (1 : Int) else 0) = A at *
  have o2 : 0 ≤ (if x.b < y.b + A then (1 : Int) else 0) ∧ (if x.b < y.b + A then (1 : Int) else 0) ≤ 1 := by split <;> omega
  have r2 := restX_ok (p := x.c) (q := y.c) (o := if x.b < y.b + A then 1 else 0) ⟨x5, x6⟩ ⟨y5, y6⟩ o2
  rw [r2.2.1, r2.2.2]
  generalize hB : (if x.b < y.b + A then (1 : Int) else 0) = B at *
  have o3 : 0 ≤ (if x.c < y.c + B then (1 : Int) else 0) ∧ (if x.c < y.c + B then (1 : Int) else 0) ≤ 1 := by split <;> omega
  have r3 := restX_ok (p := x.d) (q := y.d) (o := if x.c < y.c + B then 1 else 0) ⟨x7, x8⟩ ⟨y7, y8⟩ o3
  rw [r3.2.2]
  generalize hC : (if x.c < y.c + B then (1 : Int) else 0) = C at *
  have fA : (A = 1 ∧ x.a < y.a) ∨ (A = 0 ∧ y.a ≤ x.a) := by split at hA <;> omega
  have fB : (B = 1 ∧ x.b < y.b + A) ∨ (B = 0 ∧ y.b + A ≤ x.b) := by split at hB <;> omega
  have fC : (C = 1 ∧ x.c < y.c + B) ∨ (C = 0 ∧ y.c + B ≤ x.c) := by split at hC <;> omega
  clear hA hB hC r0 r1 r2 r3
  have q0 : (x.a - y.a - 0) % 4294967296 = x.a - y.a + 4294967296 * A := by omega
  have q1 : (x.b - y.b - A) % 4294967296 = x.b - y.b - A + 4294967296 * B := by omega
  have q2 : (x.c - y.c - B) % 4294967296 = x.c - y.c - B + 4294967296 * C := by omega
  have q3 : (x.d - y.d - C) % 4294967296 = x.d - y.d - C := by omega
  rw [q0, q1, q2, q3]
  unfold bigOf valOf
  congr 1 <;> omega

/-! ### Sums of fractions -/

def addTail (K : AV → List Blk → Ans) (a b : Frac) (g : Int) (x : Big) : Ans :=
  bif overOn x g then (
    let h := gcdI (overI (valOf x) g).2 g
    bif overOn x h then (
      let q := (overI (valOf x) h).1
      bif eqAll q.cells (Big.cells ⟨0, 0, 0, 0⟩) then K (rFracE (⟨0, 1⟩, 0)) [] else
      bif g == 0 then none else bif h == 0 then none else
      K (rFracE (lowestRaw (decide (a.num < 0)) q (bigOf (wu64 ((wu64 a.den).tdiv g) * wu64 ((wu64 b.den).tdiv h))))) []) else none) else none

def addRefAns (K : AV → List Blk → Ans) (a b : Frac) : Ans :=
  bif bothE a b != 0 then K (rFracE (fracZ, bothE a b)) [] else
  let g := gcdI (wu64 a.den) (wu64 b.den)
  bif g == 0 then none else bif g == 0 then none else
  let x := bigOf (absI a.num * wu64 ((wu64 b.den).tdiv g))
  let y := bigOf (absI b.num * wu64 ((wu64 a.den).tdiv g))
  bif decide (a.num < 0) == decide (b.num < 0) then (bif sumOn x y then addTail K a b g (bigOf (valOf x + valOf y)) else none) else
  bif belowRaw x y then (bif restOn y x then addTail K b a g (bigOf (valOf y - valOf x)) else none) else (bif restOn x y then addTail K a b g (bigOf (valOf x - valOf y)) else none)

theorem bigOf_zero {n : Int} : eqAll (bigOf n).cells (Big.cells ⟨0, 0, 0, 0⟩) = decide (n = 0) := by
  rw [Bool.eq_iff_iff]
  simp only [Big.cells, bigOf, eqAll, D.eq, Bool.and_eq_true, beq_iff_eq, decide_eq_true_eq, and_true]
  omega

theorem overOn_bigOf' {v n : Int} (hv : 0 ≤ v ∧ v < 340282366920938463463374607431768211456) (hn : 0 < n ∧ n < 4611686018427387904) : overOn (bigOf v) n = true := by
  unfold overOn
  rw [bigOk_bigOf hv]
  simp [hn.1, hn.2]

theorem addTail_ok {K : AV → List Blk → Ans} {a b : Frac} {d p q g t m T S : Int} (hS : S = absI T) (hS1 : S ≤ 2000000000000000000000000000000000000) (hneg : T ≠ 0 → (bif decide (a.num < 0) then -absI T else absI T) = T)
    (hd : 0 < d) (hp : 0 < p) (hg : 0 < g) (hm : 0 < m) (hG : gcdI d T = g) (ht : T = g * t) (had : a.den = d * p) (hbd : b.den = d * q) (hbm : b.den = g * m) (ha : a.den ≤ 1000000000000000000) (hb : b.den ≤ 1000000000000000000) (hz : T = 0 → p * m = 1) :
    addTail K a b d (bigOf S) = K (rFracE (cutF t (p * m))) [] := by
  have hS0 : 0 ≤ S := by rw [hS]; exact absI_nonneg T
  have hp1 : p ≤ d * p := by
    have := Int.mul_le_mul_of_nonneg_right (show 1 ≤ d by omega) (show 0 ≤ p by omega)
    omega
  have hm1 : m ≤ g * m := by
    have := Int.mul_le_mul_of_nonneg_right (show 1 ≤ g by omega) (show 0 ≤ m by omega)
    omega
  have hd1 : d ≤ 1000000000000000000 := by
    have := Int.mul_le_mul_of_nonneg_left (show 1 ≤ p by omega) (show 0 ≤ d by omega)
    omega
  have hg1 : g ≤ 1000000000000000000 := by
    have := Int.mul_le_mul_of_nonneg_left (show 1 ≤ m by omega) (show 0 ≤ g by omega)
    omega
  have hr : gcdI (S % d) d = g := by
    rw [← hG, hS]
    simp only [gcdI_eq, absI_eq]
    rw [Int.gcd_eq_natAbs_gcd_natAbs, Int.gcd_eq_natAbs_gcd_natAbs]
    congr 1
    obtain ⟨d', rfl⟩ := Int.eq_ofNat_of_zero_le (Int.le_of_lt hd)
    rw [← Int.natCast_emod, Int.natAbs_natCast, Int.natAbs_natCast, ← Nat.gcd_rec]
  have habs : absI T = g * absI t := by
    rw [ht]
    simp only [absI_eq]
    rw [Int.natAbs_mul, Int.natCast_mul, show ((g.natAbs : Nat) : Int) = g by omega]
  have e3 : S / g = absI t := by rw [hS, habs]; exact Int.mul_ediv_cancel_left _ (by omega)
  unfold addTail
  rw [overOn_bigOf' (by omega) (by omega), valOf_bigOf]
  simp only [cond_true]
  unfold overI
  simp only
  rw [hr, overOn_bigOf' (by omega) (by omega)]
  simp only [cond_true]
  rw [bigOf_zero, e3]
  by_cases t0 : t = 0
  · have T0 : T = 0 := by rw [ht, t0]; simp
    rw [t0, hz T0]
    rfl
  · rw [decide_eq_false (show ¬ absI t = 0 by unfold absI; omega), show (d == 0) = false by simp; omega, show (g == 0) = false by simp; omega]
    simp only [cond_false]
    have e1 : wu64 ((wu64 a.den).tdiv d) = p := by
      rw [wu64_id (n := a.den) (by omega), had, Int.mul_tdiv_cancel_left _ (by omega)]
      exact wu64_id (by omega)
    have e2 : wu64 ((wu64 b.den).tdiv g) = m := by
      rw [wu64_id (n := b.den) (by omega), hbm, Int.mul_tdiv_cancel_left _ (by omega)]
      exact wu64_id (by omega)
    have hT : T ≠ 0 := by
      intro e
      rw [ht] at e
      rcases Int.mul_eq_zero.1 e with h | h
      · omega
      · exact t0 h
    have hn : (bif decide (a.num < 0) then -absI t else absI t) = t := by
      have h3 := hneg hT
      rw [habs, ht] at h3
      generalize decide (a.num < 0) = neg at h3 ⊢
      have h2 : (bif neg then -absI t else absI t) * g = t * g := by
        cases neg
        · simp only [cond_false] at h3 ⊢
          rw [Int.mul_comm, h3, Int.mul_comm]
        · simp only [cond_true] at h3 ⊢
          rw [Int.neg_mul, Int.mul_comm, h3, Int.mul_comm]
      exact Int.eq_of_mul_eq_mul_right (by omega) h2
    rw [e1, e2, lowestRaw_ok (absI_nonneg t) (Int.le_of_lt (Int.mul_pos hp hm)), lowF_cut hn]

theorem addRefAns_ok {K : AV → List Blk → Ans} {a b : Frac} : addRefAns K a b = K (rFracE (addF a b)) [] := by
  unfold addRefAns addF
  rw [bothE_eq]
  cases hok : fracOkB a && fracOkB b with
  | false => rfl
  | true =>
    simp only [Bool.and_eq_true] at hok
    have ha := fracOkB_iff.1 hok.1
    have hb := fracOkB_iff.1 hok.2
    simp only [cond_true]
    obtain ⟨d, p, q, g, t, m, hd, hp, hq, hg, hm, hgd, had, hbd, hG, ht, hbm, hcop, hF⟩ := sum_red ha hb
    obtain ⟨d', p', q', g', t', m', hd', hp', hq', hg', hm', hgd', had', hbd', hG', ht', hbm', hcop', hF'⟩ := sum_red hb ha
    have a1 := ha.denlo
    have a2 := ha.denhi
    have a3 := ha.numlo
    have a4 := ha.numhi
    have b1 := hb.denlo
    have b2 := hb.denhi
    have b3 := hb.numlo
    have b4 := hb.numhi
    have edd : d' = d := by rw [← hgd', ← hgd]; simp only [gcdI_eq]; rw [Int.gcd_comm]
    subst edd
    have epq : p' = q := Int.eq_of_mul_eq_mul_left (a := d') (by omega) (by rw [← had', ← hbd])
    have eqp : q' = p := Int.eq_of_mul_eq_mul_left (a := d') (by omega) (by rw [← hbd', ← had])
    subst epq
    subst eqp
    have hq1 : p' ≤ d' * p' := by
      have := Int.mul_le_mul_of_nonneg_right (show 1 ≤ d' by omega) (show 0 ≤ p' by omega)
      omega
    have hp1 : q' ≤ d' * q' := by
      have := Int.mul_le_mul_of_nonneg_right (show 1 ≤ d' by omega) (show 0 ≤ q' by omega)
      omega
    rw [wu64_id (n := a.den) (by omega), wu64_id (n := b.den) (by omega), hgd, show (d' == 0) = false by simp; omega]
    simp only [cond_false]
    have e1 : wu64 (b.den.tdiv d') = p' := by
      rw [had', Int.mul_tdiv_cancel_left _ (by omega)]
      exact wu64_id (by omega)
    have e2 : wu64 (a.den.tdiv d') = q' := by
      rw [hbd', Int.mul_tdiv_cancel_left _ (by omega)]
      exact wu64_id (by omega)
    rw [e1, e2]
    have x0 : 0 ≤ absI a.num * p' := Int.mul_nonneg (absI_nonneg _) (by omega)
    have x1 : absI a.num * p' ≤ 1000000000000000000 * 1000000000000000000 := Int.mul_le_mul (by unfold absI; omega) (by omega) (by omega) (by omega)
    have y0 : 0 ≤ absI b.num * q' := Int.mul_nonneg (absI_nonneg _) (by omega)
    have y1 : absI b.num * q' ≤ 1000000000000000000 * 1000000000000000000 := Int.mul_le_mul (by unfold absI; omega) (by omega) (by omega) (by omega)
    have sx : a.num < 0 → a.num * p' = -(absI a.num * p') := fun h => by rw [absI_of_neg h, Int.neg_mul]; omega
    have sx' : ¬ a.num < 0 → a.num * p' = absI a.num * p' := fun h => by rw [absI_of_nonneg (by omega)]
    have sy : b.num < 0 → b.num * q' = -(absI b.num * q') := fun h => by rw [absI_of_neg h, Int.neg_mul]; omega
    have sy' : ¬ b.num < 0 → b.num * q' = absI b.num * q' := fun h => by rw [absI_of_nonneg (by omega)]
    have fin : ∀ S : Int, S = absI (a.num * p' + b.num * q') → (a.num * p' + b.num * q' ≠ 0 → (bif decide (a.num < 0) then -absI (a.num * p' + b.num * q') else absI (a.num * p' + b.num * q')) = a.num * p' + b.num * q') →
        addTail K a b d' (bigOf S) = K (rFracE (fracOf (a.num * b.den + b.num * a.den) (a.den * b.den))) [] := by
      intro S hS hn
      rw [hF]
      refine addTail_ok hS (by rw [hS]; unfold absI; omega) hn hd hp hg hm hG ht hbd' hbd hbm a2 b2 ?_
      intro T0
      have t0 : t = 0 := by
        rw [T0] at ht
        rcases Int.mul_eq_zero.1 ht.symm with h | h
        · omega
        · exact h
      rw [t0, Int.gcd_zero_left] at hcop
      have := Int.mul_pos hp hm
      omega
    have fin' : ∀ S : Int, S = absI (b.num * q' + a.num * p') → (b.num * q' + a.num * p' ≠ 0 → (bif decide (b.num < 0) then -absI (b.num * q' + a.num * p') else absI (b.num * q' + a.num * p')) = b.num * q' + a.num * p') →
        addTail K b a d' (bigOf S) = K (rFracE (fracOf (a.num * b.den + b.num * a.den) (a.den * b.den))) [] := by
      intro S hS hn
      rw [Int.add_comm (a.num * b.den), Int.mul_comm a.den, hF']
      refine addTail_ok hS (by rw [hS]; unfold absI; omega) hn hd hp' hg' hm' hG' ht' had' hbd' hbm' b2 a2 ?_
      intro T0
      have t0 : t' = 0 := by
        rw [T0] at ht'
        rcases Int.mul_eq_zero.1 ht'.symm with h | h
        · omega
        · exact h
      rw [t0, Int.gcd_zero_left] at hcop'
      have := Int.mul_pos hp' hm'
      omega
    rw [valOf_bigOf, valOf_bigOf, belowRaw_ok]
    generalize absI a.num * p' = X at *
    generalize absI b.num * q' = Y at *
    have o1 : sumOn (bigOf X) (bigOf Y) = true := by
      simp only [sumOn, bigOk_bigOf (m := X) (by omega), bigOk_bigOf (m := Y) (by omega), valOf_bigOf, Bool.true_and, decide_eq_true_eq]
      omega
    have o2 : Y ≤ X → restOn (bigOf X) (bigOf Y) = true := fun h => by
      simp only [restOn, bigOk_bigOf (m := X) (by omega), bigOk_bigOf (m := Y) (by omega), valOf_bigOf, Bool.true_and, decide_eq_true_eq]
      exact h
    have o3 : X ≤ Y → restOn (bigOf Y) (bigOf X) = true := fun h => by
      simp only [restOn, bigOk_bigOf (m := X) (by omega), bigOk_bigOf (m := Y) (by omega), valOf_bigOf, Bool.true_and, decide_eq_true_eq]
      exact h
    rw [o1, cond_true]
    by_cases na : a.num < 0
    · by_cases nb : b.num < 0
      · rw [decide_eq_true na, decide_eq_true nb]
        simp only [beq_self_eq_true, cond_true]
        have := fin (X + Y) (by rw [sx na, sy nb]; unfold absI; omega) (fun _ => by rw [decide_eq_true na, sx na, sy nb]; unfold absI; simp only [cond_true]; omega)
        exact this
      · rw [decide_eq_true na, decide_eq_false nb]
        simp only [show (true == false) = false from rfl, cond_false]
        by_cases hc : X < Y
        · rw [decide_eq_true hc, cond_true, o3 (by omega), cond_true]
          exact fin' (Y - X) (by rw [sx na, sy' nb]; unfold absI; omega) (fun _ => by rw [decide_eq_false nb, sx na, sy' nb]; unfold absI; simp only [cond_false]; omega)
        · rw [decide_eq_false hc, cond_false, o2 (by omega), cond_true]
          exact fin (X - Y) (by rw [sx na, sy' nb]; unfold absI; omega) (fun _ => by rw [decide_eq_true na, sx na, sy' nb]; unfold absI; simp only [cond_true]; omega)
    · by_cases nb : b.num < 0
      · rw [decide_eq_false na, decide_eq_true nb]
        simp only [show (false == true) = false from rfl, cond_false]
        by_cases hc : X < Y
        · rw [decide_eq_true hc, cond_true, o3 (by omega), cond_true]
          exact fin' (Y - X) (by rw [sx' na, sy nb]; unfold absI; omega) (fun _ => by rw [decide_eq_true nb, sx' na, sy nb]; unfold absI; simp only [cond_true]; omega)
        · rw [decide_eq_false hc, cond_false, o2 (by omega), cond_true]
          exact fin (X - Y) (by rw [sx' na, sy nb]; unfold absI; omega) (fun _ => by rw [decide_eq_false na, sx' na, sy nb]; unfold absI; simp only [cond_false]; omega)
      · rw [decide_eq_false na, decide_eq_false nb]
        simp only [beq_self_eq_true, cond_true]
        exact fin (X + Y) (by rw [sx' na, sy' nb]; unfold absI; omega) (fun _ => by rw [decide_eq_false na, sx' na, sy' nb]; unfold absI; simp only [cond_false]; omega)

/-! ### Products of fractions -/

def mulRefAns (K : AV → List Blk → Ans) (a b : Frac) : Ans :=
  bif bothE a b != 0 then K (rFracE (fracZ, bothE a b)) [] else
  let g := gcdI (absI a.num) (wu64 b.den)
  let h := gcdI (absI b.num) (wu64 a.den)
  bif g == 0 then none else bif h == 0 then none else bif h == 0 then none else bif g == 0 then none else
  K (rFracE (lowestRaw (diffSign a.num b.num) (bigOf (wu64 ((absI a.num).tdiv g) * wu64 ((absI b.num).tdiv h))) (bigOf (wu64 ((wu64 a.den).tdiv h) * wu64 ((wu64 b.den).tdiv g))))) []

theorem mulRefAns_ok {K : AV → List Blk → Ans} {a b : Frac} : mulRefAns K a b = K (rFracE (mulF a b)) [] := by
  unfold mulRefAns mulF
  rw [bothE_eq]
  cases hok : fracOkB a && fracOkB b with
  | false => rfl
  | true =>
    simp only [Bool.and_eq_true] at hok
    have ha := fracOkB_iff.1 hok.1
    have hb := fracOkB_iff.1 hok.2
    simp only [cond_true]
    obtain ⟨g, h, x, y, u, v, hg, hh, hu, hv, hG, hH, hx, hy, hau, hbv, hF⟩ := prod_red ha hb
    have a1 := ha.denlo
    have a2 := ha.denhi
    have a3 := ha.numlo
    have a4 := ha.numhi
    have b1 := hb.denlo
    have b2 := hb.denhi
    have b3 := hb.numlo
    have b4 := hb.numhi
    have cut : ∀ k z w : Int, 0 < k → z = k * w → absI z ≤ 1000000000000000000 → wu64 ((absI z).tdiv k) = absI w := by
      intro k z w hk hz hle
      have e : absI z = k * absI w := by
        rw [hz]; simp only [absI_eq]; rw [Int.natAbs_mul, Int.natCast_mul, show ((k.natAbs : Nat) : Int) = k by omega]
      have h1 : absI w ≤ k * absI w := by
        have := Int.mul_le_mul_of_nonneg_right (show 1 ≤ k by omega) (absI_nonneg w)
        omega
      rw [e, Int.mul_tdiv_cancel_left _ (by omega)]
      exact wu64_id ⟨absI_nonneg w, by omega⟩
    have e1 := cut g a.num x hg hx (by unfold absI; omega)
    have e2 := cut h b.num y hh hy (by unfold absI; omega)
    have e3 := cut h a.den u hh hau (by unfold absI; omega)
    have e4 := cut g b.den v hg hbv (by unfold absI; omega)
    rw [absI_of_nonneg (n := a.den) (by omega), absI_of_nonneg (n := u) (by omega)] at e3
    rw [absI_of_nonneg (n := b.den) (by omega), absI_of_nonneg (n := v) (by omega)] at e4
    rw [wu64_id (n := a.den) (by omega), wu64_id (n := b.den) (by omega), gcdI_abs_left, gcdI_abs_left, hG, hH]
    rw [show (g == 0) = false by simp; omega, show (h == 0) = false by simp; omega, e1, e2, e3, e4]
    simp only [cond_false]
    have ex : absI x * absI y = absI (x * y) := by simp only [absI_eq]; rw [Int.natAbs_mul, Int.natCast_mul]
    have es : diffSign a.num b.num = diffSign x y := by rw [hx, hy, diffSign_pos hg hh]
    rw [ex, es, lowestRaw_ok (absI_nonneg _) (Int.le_of_lt (Int.mul_pos hu hv)), lowF_cut diff_sign, hF]
    rfl

def negF (a : Frac) : Frac := ⟨-a.num, a.den⟩
def subRefAns (K : AV → List Blk → Ans) (a b : Frac) : Ans := bif bothE a b != 0 then K (rFracE (fracZ, bothE a b)) [] else K (rFracE (addF a ⟨w64 (0 - b.num), b.den⟩)) []

theorem subRefAns_ok {K : AV → List Blk → Ans} {a b : Frac} : subRefAns K a b = K (rFracE (subF a b)) [] := by
  unfold subRefAns subF
  rw [bothE_eq]
  cases hok : fracOkB a && fracOkB b with
  | false => rfl
  | true =>
    simp only [Bool.and_eq_true] at hok
    have hb := fracOkB_iff.1 hok.2
    have b3 := hb.numlo
    have b4 := hb.numhi
    have hn : fracOkB ⟨-b.num, b.den⟩ = true := fracOkB_iff.2 hb.neg
    simp only [cond_true]
    rw [w64_id (by omega), show 0 - b.num = -b.num by omega]
    unfold addF
    rw [hok.1, hn]
    simp only [Bool.and_self, cond_true, Int.neg_mul]
    rfl

end Go.Ev

namespace Go.Ev
open Go

def vecOkB (v : Vec) : Bool := fracOkB v.x && (fracOkB v.y && fracOkB v.z)
def checkV (v : Vec) : Int := bif vecOkB v then 0 else 8
def checkVRaw (v : Vec) : Int := bif checkF v.x != 0 then 8 else bif checkF v.y != 0 then 8 else bif checkF v.z != 0 then 8 else 0
def checkVRef (v : Vec) : Int := bif bothE v.x v.y != 0 then 8 else bif checkF v.z != 0 then 8 else 0
def bothV (v w : Vec) : Int := bif checkV v != 0 then 8 else checkV w

theorem checkVRaw_ok (v : Vec) : checkVRaw v = checkV v := by
  unfold checkVRaw checkV vecOkB checkF
  cases fracOkB v.x <;> cases fracOkB v.y <;> cases fracOkB v.z <;> rfl
theorem checkVRef_ok (v : Vec) : checkVRef v = checkV v := by
  unfold checkVRef checkV vecOkB bothE checkF
  cases fracOkB v.x <;> cases fracOkB v.y <;> cases fracOkB v.z <;> rfl

structure VecOk (v : Vec) : Prop where
  x : FracOk v.x
  y : FracOk v.y
  z : FracOk v.z

theorem vecOkB_iff {v : Vec} : vecOkB v = true ↔ VecOk v := by
  unfold vecOkB
  simp only [Bool.and_eq_true, fracOkB_iff]
  exact ⟨fun h => ⟨h.1, h.2.1, h.2.2⟩, fun h => ⟨h.x, h.y, h.z⟩⟩

def eachV (x y z : Frac × Int) : Vec × Int := bif x.2 != 0 then (vecZ, x.2) else bif y.2 != 0 then (vecZ, y.2) else bif z.2 != 0 then (vecZ, z.2) else (⟨x.1, y.1, z.1⟩, 0)
def eachAns (K : AV → List Blk → Ans) (x y z : Frac × Int) : Ans := bif x.2 != 0 then K (rVecE (vecZ, x.2)) [] else bif y.2 != 0 then K (rVecE (vecZ, y.2)) [] else bif z.2 != 0 then K (rVecE (vecZ, z.2)) [] else K (rVecE (⟨x.1, y.1, z.1⟩, 0)) []
theorem eachAns_ok {K : AV → List Blk → Ans} {x y z : Frac × Int} : eachAns K x y z = K (rVecE (eachV x y z)) [] := by
  unfold eachAns eachV
  cases x.2 != 0 <;> cases y.2 != 0 <;> cases z.2 != 0 <;> rfl

def addV (v w : Vec) : Vec × Int := bif vecOkB v && vecOkB w then eachV (addF v.x w.x) (addF v.y w.y) (addF v.z w.z) else (vecZ, 8)
def twiceAns (e : Int) (bad ok : Ans) (more : Ans) : Ans := bif e != 0 then (bif e != 0 then bad else ok) else more
def addVAns (K : AV → List Blk → Ans) (v w : Vec) : Ans :=
  twiceAns (checkV v) (K (rVecE (vecZ, checkV v)) []) (eachAns K (addF v.x w.x) (addF v.y w.y) (addF v.z w.z))
    (twiceAns (checkV w) (K (rVecE (vecZ, checkV w)) []) (eachAns K (addF v.x w.x) (addF v.y w.y) (addF v.z w.z)) (eachAns K (addF v.x w.x) (addF v.y w.y) (addF v.z w.z)))
theorem addVAns_ok {K : AV → List Blk → Ans} {v w : Vec} : addVAns K v w = K (rVecE (addV v w)) [] := by
  unfold addVAns addV checkV twiceAns
  cases vecOkB v with
  | false => rfl
  | true =>
    cases vecOkB w with
    | false => rfl
    | true => rw [eachAns_ok]; rfl

def addAns (K : AV → List Blk → Ans) (a b : Frac) : Ans := bif bothE a b != 0 then K (rFracE (fracZ, bothE a b)) [] else bif fracOkB a && fracOkB b then K (rFracE (fracOf (a.num * b.den + b.num * a.den) (a.den * b.den))) [] else none
theorem addAns_ok {K : AV → List Blk → Ans} {a b : Frac} : addAns K a b = K (rFracE (addF a b)) [] := by
  unfold addAns addF
  rw [bothE_eq]
  cases fracOkB a && fracOkB b <;> rfl

theorem frac_val {n d : Int} (hd : 0 < d) {x : Frac} (h : fracOf n d = (x, 0)) : FracOk x ∧ x.num * d = n * x.den := by
  have hg : 0 < gcdI n d := gcdI_pos (by omega)
  obtain ⟨n', hn⟩ : gcdI n d ∣ n := gcdI_dvd_left ..
  obtain ⟨d', hd'⟩ : gcdI n d ∣ d := gcdI_dvd_right ..
  have hc : Int.gcd n' d' = 1 := by
    have e : gcdI (gcdI n d * n') (gcdI n d * d') = gcdI n d := by rw [← hn, ← hd']
    generalize gcdI n d = k at *
    rw [gcdI_eq] at e
    rw [Int.gcd_mul_left, Int.natCast_mul, show ((k.natAbs : Nat) : Int) = k by omega] at e
    have : ((Int.gcd n' d' : Nat) : Int) = 1 := Int.eq_of_mul_eq_mul_left (a := k) (by omega) (by omega)
    omega
  rw [fracOf_red hg hn hd' hc] at h
  generalize gcdI n d = k at *
  have hd0 : 0 < d' := by
    rcases Int.lt_or_le 0 d' with q | q
    · exact q
    · have := Int.mul_le_mul_of_nonneg_left q (show 0 ≤ k by omega)
      omega
  unfold cutF at h
  cases hb : decide (absI n' ≤ 1000000000000000000) && decide (d' ≤ 1000000000000000000) with
  | false => rw [hb] at h; simp at h
  | true =>
    rw [hb] at h
    simp only [cond_true, Prod.mk.injEq, and_true] at h
    subst h
    simp only [Bool.and_eq_true, decide_eq_true_eq] at hb
    unfold absI at hb
    refine ⟨⟨by simp only; omega, hb.2, by simp only; omega, by simp only; omega, hc⟩, ?_⟩
    simp only
    rw [hn, hd']
    grind

theorem fst_of {α : Type} {x : α × Int} (h : x.2 = 0) : x = (x.1, 0) := by cases x; simp only at h; rw [h]

/-! ### Fractions: what the program does -/

def divF (a b : Frac) : Frac × Int := bif fracOkB a && fracOkB b then (bif b.num == 0 then (fracZ, 18) else bif decide (b.num < 0) then fracOf (a.num * -b.den) (a.den * -b.num) else fracOf (a.num * b.den) (a.den * b.num)) else (fracZ, 8)

theorem FracOk.over {a : Frac} (h : FracOk a) (h0 : 0 < a.num) : FracOk ⟨a.den, a.num⟩ :=
  ⟨by simp only; omega, h.numhi, by have := h.denlo; simp only; omega, h.denhi, by rw [Int.gcd_comm]; exact h.gcd⟩
theorem FracOk.over' {a : Frac} (h : FracOk a) (h0 : a.num < 0) : FracOk ⟨-a.den, -a.num⟩ :=
  ⟨by simp only; omega, by have := h.numlo; simp only; omega, by have := h.denhi; simp only; omega, by have := h.denlo; simp only; omega,
   by simp only; rw [Int.gcd_comm, Int.gcd_neg, Int.neg_gcd]; exact h.gcd⟩

def subAns (K : AV → List Blk → Ans) (a b : Frac) : Ans := bif bothE a b != 0 then K (rFracE (fracZ, bothE a b)) [] else bif fracOkB a && fracOkB ⟨w64 (0 - b.num), b.den⟩ then K (rFracE (fracOf (a.num * b.den + w64 (0 - b.num) * a.den) (a.den * b.den))) [] else none
theorem subAns_ok {K : AV → List Blk → Ans} {a b : Frac} : subAns K a b = K (rFracE (subF a b)) [] := by
  unfold subAns subF
  rw [bothE_eq]
  cases ha : fracOkB a with
  | false => rfl
  | true =>
    cases hb : fracOkB b with
    | false => rfl
    | true =>
      have kb := fracOkB_iff.1 hb
      have e : w64 (0 - b.num) = -b.num := by rw [w64_id (n := 0 - b.num) (by have := kb.numhi; have := kb.numlo; omega)]; omega
      rw [e, fracOkB_iff.2 kb.neg]
      simp only [Bool.and_self, cond_true, bne_self_eq_false, cond_false]
      rw [show a.num * b.den + -b.num * a.den = a.num * b.den - b.num * a.den by rw [Int.neg_mul]; omega]

def mulAns (K : AV → List Blk → Ans) (a b : Frac) : Ans := bif bothE a b != 0 then K (rFracE (fracZ, bothE a b)) [] else bif fracOkB a && fracOkB b then K (rFracE (fracOf (a.num * b.num) (a.den * b.den))) [] else none
theorem mulAns_ok {K : AV → List Blk → Ans} {a b : Frac} : mulAns K a b = K (rFracE (mulF a b)) [] := by
  unfold mulAns mulF
  rw [bothE_eq]
  cases fracOkB a && fracOkB b <;> rfl

def divFAns (K : AV → List Blk → Ans) (a b : Frac) : Ans := bif bothE a b != 0 then K (rFracE (fracZ, bothE a b)) [] else bif b.num == 0 then K (rFracE (fracZ, 18)) [] else
  bif decide (b.num < 0) then (bif fracOkB a && fracOkB ⟨w64 (0 - b.den), w64 (0 - b.num)⟩ then K (rFracE (fracOf (a.num * w64 (0 - b.den)) (a.den * w64 (0 - b.num)))) [] else none)
  else bif fracOkB a && fracOkB ⟨b.den, b.num⟩ then K (rFracE (fracOf (a.num * b.den) (a.den * b.num))) [] else none
theorem divFAns_ok {K : AV → List Blk → Ans} {a b : Frac} : divFAns K a b = K (rFracE (divF a b)) [] := by
  unfold divFAns divF
  rw [bothE_eq]
  cases ha : fracOkB a with
  | false => rfl
  | true =>
    cases hb : fracOkB b with
    | false => rfl
    | true =>
      have kb := fracOkB_iff.1 hb
      have h1 := kb.numlo; have h2 := kb.numhi; have h3 := kb.denlo; have h4 := kb.denhi
      simp only [Bool.and_self, cond_true, bne_self_eq_false, cond_false]
      cases h0 : b.num == 0 with
      | true => rfl
      | false =>
        have h0' : b.num ≠ 0 := by simpa using h0
        simp only [cond_false]
        rw [w64_id (n := 0 - b.den) (by omega), w64_id (n := 0 - b.num) (by omega), Int.zero_sub, Int.zero_sub]
        by_cases hn : b.num < 0
        · rw [decide_eq_true hn, fracOkB_iff.2 (kb.over' hn)]; rfl
        · rw [decide_eq_false hn, fracOkB_iff.2 (kb.over (by omega))]; rfl

def divRefAns (K : AV → List Blk → Ans) (a b : Frac) : Ans := bif bothE a b != 0 then K (rFracE (fracZ, bothE a b)) [] else bif b.num == 0 then K (rFracE (fracZ, 18)) [] else
  bif decide (b.num < 0) then K (rFracE (mulF a ⟨w64 (0 - b.den), w64 (0 - b.num)⟩)) [] else K (rFracE (mulF a ⟨b.den, b.num⟩)) []
theorem divRefAns_ok {K : AV → List Blk → Ans} {a b : Frac} : divRefAns K a b = K (rFracE (divF a b)) [] := by
  unfold divRefAns divF
  rw [bothE_eq]
  cases ha : fracOkB a with
  | false => rfl
  | true =>
    cases hb : fracOkB b with
    | false => rfl
    | true =>
      have kb := fracOkB_iff.1 hb
      have h1 := kb.numlo; have h2 := kb.numhi; have h3 := kb.denlo; have h4 := kb.denhi
      simp only [Bool.and_self, cond_true, bne_self_eq_false, cond_false]
      cases h0 : b.num == 0 with
      | true => rfl
      | false =>
        have h0' : b.num ≠ 0 := by simpa using h0
        simp only [cond_false]
        rw [w64_id (n := 0 - b.den) (by omega), w64_id (n := 0 - b.num) (by omega), Int.zero_sub, Int.zero_sub]
        unfold mulF
        by_cases hn : b.num < 0
        · rw [decide_eq_true hn, ha, fracOkB_iff.2 (kb.over' hn)]; rfl
        · rw [decide_eq_false hn, ha, fracOkB_iff.2 (kb.over (by omega))]; rfl

end Go.Ev

namespace Go.Ev
open Go

/-! ### Along a vector -/

def alongS (d : Dir) (v : Vec) : Span × Int :=
  bif [d.x, d.y, d.z].all spanValid then (bif vecOkB v then (bif (ofS v.x).2 != 0 then (spanZ, (ofS v.x).2) else bif (ofS v.y).2 != 0 then (spanZ, (ofS v.y).2) else bif (ofS v.z).2 != 0 then (spanZ, (ofS v.z).2) else
    prodsS spanZ [(d.x, (ofS v.x).1), (d.y, (ofS v.y).1), (d.z, (ofS v.z).1)]) else (spanZ, 8)) else (spanZ, 8)
def alongAns (K : AV → List Blk → Ans) (d : Dir) (v : Vec) : Ans :=
  validAns (K (rSpanE (spanZ, 8)) []) (bif checkV v != 0 then K (rSpanE (spanZ, 8)) [] else
    bif (ofS v.x).2 != 0 then K (rSpanE (spanZ, (ofS v.x).2)) [] else bif (ofS v.y).2 != 0 then K (rSpanE (spanZ, (ofS v.y).2)) [] else bif (ofS v.z).2 != 0 then K (rSpanE (spanZ, (ofS v.z).2)) [] else
    prodsAns K spanZ [(d.x, (ofS v.x).1), (d.y, (ofS v.y).1), (d.z, (ofS v.z).1)]) [d.x, d.y, d.z]
theorem alongAns_ok {K : AV → List Blk → Ans} {d : Dir} {v : Vec} : alongAns K d v = K (rSpanE (alongS d v)) [] := by
  unfold alongAns alongS checkV
  rw [validAns_ok, prodsAns_ok]
  cases [d.x, d.y, d.z].all spanValid with
  | false => rfl
  | true =>
    cases vecOkB v with
    | false => rfl
    | true =>
      cases (ofS v.x).2 != 0 <;> cases (ofS v.y).2 != 0 <;> cases (ofS v.z).2 != 0 <;> rfl

theorem ofS_enc {f : Frac} (hf : FracOk f) (h : (ofS f).2 = 0) : Enc (ofS f).1 (f.num * 1000000) f.den := by
  have f1 := hf.denlo
  unfold ofS at h ⊢
  rw [fracOkB_iff.2 hf] at h ⊢
  simp only [cond_true] at h ⊢
  unfold rangedS at h ⊢
  cases hv : spanValid (aroundS f) with
  | false => rw [hv] at h; simp at h
  | true => exact ⟨(le_floor (by omega)).1 (Int.le_refl _), (ceil_le (by omega)).1 (Int.le_refl _)⟩

theorem prodsS_some {sum a b : Span} {r : List (Span × Span)} (h : (prodsS sum ((a, b) :: r)).2 = 0) : ∃ p s, mulS a b = (p, 0) ∧ addS sum p = (s, 0) ∧ prodsS sum ((a, b) :: r) = prodsS s r := by
  rw [prodsS] at h ⊢
  simp only at h ⊢
  by_cases e1 : (mulS a b).2 = 0
  · by_cases e2 : (addS sum (mulS a b).1).2 = 0
    · rw [e1, e2] at h ⊢
      simp only [beq_self_eq_true, cond_true] at h ⊢
      exact ⟨(mulS a b).1, (addS sum (mulS a b).1).1, by rw [← e1], by rw [← e2], rfl⟩
    · rw [e1, show ((addS sum (mulS a b).1).2 == 0) = false by simpa using e2] at h
      simp only [beq_self_eq_true, cond_true, cond_false] at h
      exact absurd h e2
  · rw [show ((mulS a b).2 == 0) = false by simpa using e1] at h
    simp only [cond_false] at h
    exact absurd h e1

theorem along_enc {d : Dir} {v : Vec} (hv : VecOk v) {p : Span} (h : alongS d v = (p, 0)) {a b c : Int} (ha : d.x.lo ≤ a ∧ a ≤ d.x.hi) (hb : d.y.lo ≤ b ∧ b ≤ d.y.hi) (hc : d.z.lo ≤ c ∧ c ≤ d.z.hi) :
    Enc p (a * v.x.num * (v.y.den * v.z.den) + b * v.y.num * (v.x.den * v.z.den) + c * v.z.num * (v.x.den * v.y.den)) (v.x.den * (v.y.den * v.z.den)) := by
  have x1 := hv.x.denlo
  have y1 := hv.y.denlo
  have z1 := hv.z.denlo
  unfold alongS at h
  cases h0 : [d.x, d.y, d.z].all spanValid with
  | false => rw [h0] at h; simp at h
  | true =>
    rw [h0, cond_true, vecOkB_iff.2 hv, cond_true] at h
    by_cases e1 : (ofS v.x).2 = 0
    · by_cases e2 : (ofS v.y).2 = 0
      · by_cases e3 : (ofS v.z).2 = 0
        · rw [e1, e2, e3] at h
          simp only [bne_self_eq_false, cond_false] at h
          obtain ⟨p1, s1, m1, a1, q1⟩ := prodsS_some (by rw [h])
          rw [q1] at h
          obtain ⟨p2, s2, m2, a2, q2⟩ := prodsS_some (by rw [h])
          rw [q2] at h
          obtain ⟨p3, s3, m3, a3, q3⟩ := prodsS_some (by rw [h])
          rw [q3] at h
          simp only [prodsS, Prod.mk.injEq, and_true] at h
          subst h
          have k1 := Enc.mul (d := 1) (by decide) (by omega) (show Enc d.x a 1 by unfold Enc; omega) (ofS_enc hv.x e1) m1
          have k2 := Enc.mul (d := 1) (by decide) (by omega) (show Enc d.y b 1 by unfold Enc; omega) (ofS_enc hv.y e2) m2
          have k3 := Enc.mul (d := 1) (by decide) (by omega) (show Enc d.z c 1 by unfold Enc; omega) (ofS_enc hv.z e3) m3
          have j1 : Enc p1 (a * v.x.num) v.x.den := Enc.unscale (c := 1000000) (by decide) (by rw [Int.one_mul] at k1; rwa [← Int.mul_assoc] at k1)
          have j2 : Enc p2 (b * v.y.num) v.y.den := Enc.unscale (c := 1000000) (by decide) (by rw [Int.one_mul] at k2; rwa [← Int.mul_assoc] at k2)
          have j3 : Enc p3 (c * v.z.num) v.z.den := Enc.unscale (c := 1000000) (by decide) (by rw [Int.one_mul] at k3; rwa [← Int.mul_assoc] at k3)
          have l1 := Enc.scale (c := v.y.den * v.z.den) (Int.le_of_lt (Int.mul_pos (by omega) (by omega))) j1
          have l2 := Enc.scale (c := v.x.den * v.z.den) (Int.le_of_lt (Int.mul_pos (by omega) (by omega))) j2
          have l3 := Enc.scale (c := v.x.den * v.y.den) (Int.le_of_lt (Int.mul_pos (by omega) (by omega))) j3
          rw [show v.y.den * (v.x.den * v.z.den) = v.x.den * (v.y.den * v.z.den) by grind] at l2
          rw [show v.z.den * (v.x.den * v.y.den) = v.x.den * (v.y.den * v.z.den) by grind] at l3
          have z0 : Enc spanZ 0 (v.x.den * (v.y.den * v.z.den)) := by unfold Enc spanZ; simp
          have r := ((z0.add l1 a1).add l2 a2).add l3 a3
          rwa [Int.zero_add] at r
        · rw [e1, e2, show ((ofS v.z).2 != 0) = true by simpa using e3] at h
          simp only [bne_self_eq_false, cond_false, cond_true, Prod.mk.injEq] at h
          exact absurd h.2 e3
      · rw [e1, show ((ofS v.y).2 != 0) = true by simpa using e2] at h
        simp only [bne_self_eq_false, cond_false, cond_true, Prod.mk.injEq] at h
        exact absurd h.2 e2
    · rw [show ((ofS v.x).2 != 0) = true by simpa using e1] at h
      simp only [cond_true, Prod.mk.injEq] at h
      exact absurd h.2 e1

end Go.Ev

namespace Go.Ev
open Go

/-! ### Errors of valid fractions -/

theorem fracOf_err (n d : Int) : (fracOf n d).2 = 0 ∨ fracOf n d = (fracZ, 16) := by
  unfold fracOf
  cases decide (absI n / gcdI n d ≤ 1000000000000000000) && decide (d / gcdI n d ≤ 1000000000000000000)
  · exact .inr rfl
  · exact .inl rfl

theorem addF_ok {a b : Frac} (ha : FracOk a) (hb : FracOk b) : addF a b = fracOf (a.num * b.den + b.num * a.den) (a.den * b.den) := by unfold addF; rw [fracOkB_iff.2 ha, fracOkB_iff.2 hb]; rfl
theorem subF_ok {a b : Frac} (ha : FracOk a) (hb : FracOk b) : subF a b = fracOf (a.num * b.den - b.num * a.den) (a.den * b.den) := by unfold subF; rw [fracOkB_iff.2 ha, fracOkB_iff.2 hb]; rfl
theorem mulF_ok {a b : Frac} (ha : FracOk a) (hb : FracOk b) : mulF a b = fracOf (a.num * b.num) (a.den * b.den) := by unfold mulF; rw [fracOkB_iff.2 ha, fracOkB_iff.2 hb]; rfl

theorem den_pos {a b : Frac} (ha : FracOk a) (hb : FracOk b) : 0 < a.den * b.den := Int.mul_pos (by have := ha.denlo; omega) (by have := hb.denlo; omega)

theorem addF_cases {a b : Frac} (ha : FracOk a) (hb : FracOk b) : (∃ c, addF a b = (c, 0) ∧ FracOk c) ∨ addF a b = (fracZ, 16) := by
  rw [addF_ok ha hb]
  rcases fracOf_err (a.num * b.den + b.num * a.den) (a.den * b.den) with h | h
  · exact .inl ⟨_, fst_of h, (frac_val (den_pos ha hb) (fst_of h)).1⟩
  · exact .inr h
theorem subF_cases {a b : Frac} (ha : FracOk a) (hb : FracOk b) : (∃ c, subF a b = (c, 0) ∧ FracOk c) ∨ subF a b = (fracZ, 16) := by
  rw [subF_ok ha hb]
  rcases fracOf_err (a.num * b.den - b.num * a.den) (a.den * b.den) with h | h
  · exact .inl ⟨_, fst_of h, (frac_val (den_pos ha hb) (fst_of h)).1⟩
  · exact .inr h
theorem mulF_cases {a b : Frac} (ha : FracOk a) (hb : FracOk b) : (∃ c, mulF a b = (c, 0) ∧ FracOk c) ∨ mulF a b = (fracZ, 16) := by
  rw [mulF_ok ha hb]
  rcases fracOf_err (a.num * b.num) (a.den * b.den) with h | h
  · exact .inl ⟨_, fst_of h, (frac_val (den_pos ha hb) (fst_of h)).1⟩
  · exact .inr h

theorem gcdI_neg (n d : Int) : gcdI (-n) d = gcdI n d := by rw [gcdI_eq, gcdI_eq, Int.neg_gcd]
theorem absI_neg (n : Int) : absI (-n) = absI n := by rw [absI_eq, absI_eq, Int.natAbs_neg]

def negE (x : Frac × Int) : Frac × Int := (⟨-x.1.num, x.1.den⟩, x.2)

theorem fracOf_neg (n d : Int) : fracOf (-n) d = negE (fracOf n d) := by
  unfold fracOf negE
  rw [gcdI_neg, absI_neg, Int.neg_ediv_of_dvd (gcdI_dvd_left ..)]
  cases decide (absI n / gcdI n d ≤ 1000000000000000000) && decide (d / gcdI n d ≤ 1000000000000000000) <;> rfl

theorem negN {b : Frac} (hb : FracOk b) : w64 (0 - b.num) = -b.num := by rw [w64_id (n := 0 - b.num) (by have := hb.numhi; have := hb.numlo; omega)]; omega

def negR (a : Frac) : Frac := ⟨w64 (0 - a.num), a.den⟩
def negV (v : Vec) : Vec := ⟨negR v.x, negR v.y, negR v.z⟩

theorem negR_ok {b : Frac} (hb : FracOk b) : FracOk (negR b) := by unfold negR; rw [negN hb]; exact hb.neg

theorem addF_neg {a b : Frac} (ha : FracOk a) (hb : FracOk b) : addF a (negR b) = subF a b := by
  rw [addF_ok ha (negR_ok hb), subF_ok ha hb]
  unfold negR
  rw [negN hb]
  simp only
  rw [show a.num * b.den + -b.num * a.den = a.num * b.den - b.num * a.den by rw [Int.neg_mul]; omega]

theorem mulF_negl {a b : Frac} (ha : FracOk a) (hb : FracOk b) : mulF (negR a) b = negE (mulF a b) := by
  rw [mulF_ok (negR_ok ha) hb, mulF_ok ha hb, ← fracOf_neg]
  unfold negR
  rw [negN ha]
  simp only
  rw [Int.neg_mul]

theorem addF_nought {p : Frac} (hp : FracOk p) : addF ⟨0, 1⟩ p = (p, 0) := by
  have h0 : FracOk ⟨0, 1⟩ := fracOkB_iff.1 (by decide)
  rw [addF_ok h0 hp, fracOf_red (c := 1) (n' := p.num) (d' := p.den) (by omega) (by simp) (by simp) hp.gcd]
  unfold cutF
  have := hp.numlo; have := hp.numhi; have := hp.denhi
  rw [decide_eq_true (show absI p.num ≤ 1000000000000000000 by unfold absI; omega), decide_eq_true (by omega)]
  rfl

/-! ### The program -/

def bothAns (bad : Int → Ans) (v w : Vec) (more : Ans) : Ans := twiceAns (checkV v) (bad (checkV v)) more (twiceAns (checkV w) (bad (checkV w)) more more)
theorem bothAns_ok {bad : Int → Ans} {v w : Vec} {more : Ans} : bothAns bad v w more = bif vecOkB v && vecOkB w then more else bad 8 := by
  unfold bothAns checkV twiceAns
  cases vecOkB v <;> cases vecOkB w <;> rfl

def subV (v w : Vec) : Vec × Int := bif vecOkB v && vecOkB w then eachV (subF v.x w.x) (subF v.y w.y) (subF v.z w.z) else (vecZ, 8)
def subVAns (K : AV → List Blk → Ans) (v w : Vec) : Ans := bothAns (fun e => K (rVecE (vecZ, e)) []) v w (eachAns K (subF v.x w.x) (subF v.y w.y) (subF v.z w.z))
theorem subVAns_ok {K : AV → List Blk → Ans} {v w : Vec} : subVAns K v w = K (rVecE (subV v w)) [] := by
  unfold subVAns subV
  rw [bothAns_ok, eachAns_ok]
  cases vecOkB v && vecOkB w <;> rfl

def scaleV (v : Vec) (f : Frac) : Vec × Int := bif vecOkB v && fracOkB f then eachV (mulF v.x f) (mulF v.y f) (mulF v.z f) else (vecZ, 8)
def scaleAns (K : AV → List Blk → Ans) (v : Vec) (f : Frac) : Ans := bif checkF v.x != 0 then K (rVecE (vecZ, 8)) [] else bif checkF v.y != 0 then K (rVecE (vecZ, 8)) [] else bif checkF v.z != 0 then K (rVecE (vecZ, 8)) [] else bif checkF f != 0 then K (rVecE (vecZ, 8)) [] else
  eachAns K (mulF v.x f) (mulF v.y f) (mulF v.z f)
theorem scaleAns_ok {K : AV → List Blk → Ans} {v : Vec} {f : Frac} : scaleAns K v f = K (rVecE (scaleV v f)) [] := by
  unfold scaleAns scaleV checkF vecOkB
  rw [eachAns_ok]
  cases fracOkB v.x <;> cases fracOkB v.y <;> cases fracOkB v.z <;> cases fracOkB f <;> rfl

def andF (x : Frac × Int) (k : Frac → Frac × Int) : Frac × Int := bif x.2 == 0 then k x.1 else (fracZ, x.2)

def dotStep (K : AV → List Blk → Ans) (sum a b : Frac) (more : Frac → Ans) : Ans :=
  bif (mulF a b).2 == 0 then (bif (addF sum (mulF a b).1).2 != 0 then K (rFracE (fracZ, (addF sum (mulF a b).1).2)) [] else more (addF sum (mulF a b).1).1) else (bif (mulF a b).2 != 0 then K (rFracE (fracZ, (mulF a b).2)) [] else more sum)
theorem dotStep_ok {K : AV → List Blk → Ans} {sum a b : Frac} {more : Frac → Ans} {m : Frac → Frac × Int} (h : ∀ s, more s = K (rFracE (m s)) []) : dotStep K sum a b more = K (rFracE (andF (mulF a b) fun p => andF (addF sum p) m)) [] := by
  unfold dotStep andF
  simp only [h]
  cases h1 : (mulF a b).2 == 0 with
  | true =>
    simp only [cond_true]
    cases h2 : (addF sum (mulF a b).1).2 == 0 <;> simp [bne, h2]
  | false => simp [bne, h1]

def dotF (v w : Vec) : Frac × Int := andF (mulF v.x w.x) fun p => andF (addF ⟨0, 1⟩ p) fun s => andF (mulF v.y w.y) fun p => andF (addF s p) fun s => andF (mulF v.z w.z) fun p => andF (addF s p) fun s => (s, 0)
def dotFAns (K : AV → List Blk → Ans) (v w : Vec) : Ans := dotStep K ⟨0, 1⟩ v.x w.x fun s => dotStep K s v.y w.y fun s => dotStep K s v.z w.z fun s => K (rFracE (s, 0)) []
theorem dotFAns_ok {K : AV → List Blk → Ans} {v w : Vec} : dotFAns K v w = K (rFracE (dotF v w)) [] := by
  unfold dotFAns dotF
  exact dotStep_ok fun s => dotStep_ok fun s => dotStep_ok fun s => rfl

def dotV (v w : Vec) : Frac × Int := bif vecOkB v && vecOkB w then dotF v w else (fracZ, 8)
def dotVAns (K : AV → List Blk → Ans) (v w : Vec) : Ans := bothAns (fun e => K (rFracE (fracZ, e)) []) v w (K (rFracE (dotF v w)) [])
theorem dotVAns_ok {K : AV → List Blk → Ans} {v w : Vec} : dotVAns K v w = K (rFracE (dotV v w)) [] := by
  unfold dotVAns dotV
  rw [bothAns_ok]
  cases vecOkB v && vecOkB w <;> rfl

def crossC (a b c d : Frac) : Frac × Int := andF (mulF a b) fun p => andF (mulF c d) fun q => subF p q
def crossStep (K : AV → List Blk → Ans) (a b c d : Frac) (more : Frac → Ans) : Ans :=
  bif (mulF a b).2 != 0 then (bif (mulF a b).2 != 0 then K (rVecE (vecZ, (mulF a b).2)) [] else more fracZ) else
  bif (mulF c d).2 != 0 then (bif (mulF c d).2 != 0 then K (rVecE (vecZ, (mulF c d).2)) [] else more fracZ) else
  bif (subF (mulF a b).1 (mulF c d).1).2 != 0 then K (rVecE (vecZ, (subF (mulF a b).1 (mulF c d).1).2)) [] else more (subF (mulF a b).1 (mulF c d).1).1
theorem crossStep_ok {K : AV → List Blk → Ans} {a b c d : Frac} {more : Frac → Ans} : crossStep K a b c d more = bif (crossC a b c d).2 != 0 then K (rVecE (vecZ, (crossC a b c d).2)) [] else more (crossC a b c d).1 := by
  unfold crossStep crossC andF
  cases h1 : (mulF a b).2 == 0 with
  | false => simp [bne, h1]
  | true =>
    cases h2 : (mulF c d).2 == 0 with
    | false => simp [bne, h1, h2]
    | true => simp [bne, h1, h2]

def crossF (v w : Vec) : Vec × Int := eachV (crossC v.y w.z v.z w.y) (crossC v.z w.x v.x w.z) (crossC v.x w.y v.y w.x)
def crossAns (K : AV → List Blk → Ans) (v w : Vec) : Ans := crossStep K v.y w.z v.z w.y fun x => crossStep K v.z w.x v.x w.z fun y => crossStep K v.x w.y v.y w.x fun z => K (rVecE (⟨x, y, z⟩, 0)) []
theorem crossAns_ok {K : AV → List Blk → Ans} {v w : Vec} : crossAns K v w = K (rVecE (crossF v w)) [] := by
  unfold crossAns crossF
  simp only [crossStep_ok]
  exact eachAns_ok

def crossV (v w : Vec) : Vec × Int := bif vecOkB v && vecOkB w then crossF v w else (vecZ, 8)
def crossVAns (K : AV → List Blk → Ans) (v w : Vec) : Ans := bothAns (fun e => K (rVecE (vecZ, e)) []) v w (K (rVecE (crossF v w)) [])
theorem crossVAns_ok {K : AV → List Blk → Ans} {v w : Vec} : crossVAns K v w = K (rVecE (crossV v w)) [] := by
  unfold crossVAns crossV
  rw [bothAns_ok]
  cases vecOkB v && vecOkB w <;> rfl

/-! ### The reference -/

def firstI (a b c : Int) : Int := bif a != 0 then a else bif b != 0 then b else c
def vecR (x y z : Frac) (e : Int) : Vec × Int := bif e != 0 then (vecZ, e) else (⟨x, y, z⟩, 0)
theorem vecR_each (x y z : Frac × Int) : vecR x.1 y.1 z.1 (firstI x.2 y.2 z.2) = eachV x y z := by
  unfold vecR firstI eachV
  cases hx : x.2 != 0 <;> cases hy : y.2 != 0 <;> cases hz : z.2 != 0 <;> simp [hx, hy, hz]

theorem bothV_eq (v w : Vec) : bothV v w = bif vecOkB v && vecOkB w then 0 else 8 := by
  unfold bothV checkV
  cases vecOkB v <;> cases vecOkB w <;> rfl

def addVRef (K : AV → List Blk → Ans) (v w : Vec) : Ans := bif bothV v w != 0 then K (rVecE (vecZ, 8)) [] else K (rVecE (vecR (addF v.x w.x).1 (addF v.y w.y).1 (addF v.z w.z).1 (firstI (addF v.x w.x).2 (addF v.y w.y).2 (addF v.z w.z).2))) []
theorem addVRef_ok {K : AV → List Blk → Ans} {v w : Vec} : addVRef K v w = K (rVecE (addV v w)) [] := by
  unfold addVRef addV
  rw [bothV_eq, vecR_each]
  cases vecOkB v && vecOkB w <;> rfl

theorem negV_ok {w : Vec} (h : VecOk w) : VecOk (negV w) := ⟨negR_ok h.x, negR_ok h.y, negR_ok h.z⟩

def subVRef (K : AV → List Blk → Ans) (v w : Vec) : Ans := bif bothV v w != 0 then K (rVecE (vecZ, 8)) [] else K (rVecE (addV v (negV w))) []
theorem subVRef_ok {K : AV → List Blk → Ans} {v w : Vec} : subVRef K v w = K (rVecE (subV v w)) [] := by
  unfold subVRef subV
  rw [bothV_eq]
  cases hv : vecOkB v with
  | false => rfl
  | true =>
    cases hw : vecOkB w with
    | false => rfl
    | true =>
      have kv := vecOkB_iff.1 hv
      have kw := vecOkB_iff.1 hw
      unfold addV
      rw [hv, vecOkB_iff.2 (negV_ok kw)]
      simp only [Bool.and_self, cond_true, bne_self_eq_false, cond_false, negV]
      rw [addF_neg kv.x kw.x, addF_neg kv.y kw.y, addF_neg kv.z kw.z]

def scaleRef (K : AV → List Blk → Ans) (v : Vec) (f : Frac) : Ans := bif checkV v != 0 then K (rVecE (vecZ, 8)) [] else bif checkF f != 0 then K (rVecE (vecZ, 8)) [] else
  K (rVecE (vecR (mulF v.x f).1 (mulF v.y f).1 (mulF v.z f).1 (firstI (mulF v.x f).2 (mulF v.y f).2 (mulF v.z f).2))) []
theorem scaleRef_ok {K : AV → List Blk → Ans} {v : Vec} {f : Frac} : scaleRef K v f = K (rVecE (scaleV v f)) [] := by
  unfold scaleRef scaleV checkF checkV
  rw [vecR_each]
  cases vecOkB v <;> cases fracOkB f <;> rfl

def twoF (a b c d : Frac) : Frac × Int := bif firstI (mulF a b).2 (mulF c d).2 0 != 0 then (fracZ, firstI (mulF a b).2 (mulF c d).2 0) else addF (mulF a b).1 (mulF c d).1
def twoAns (K : AV → List Blk → Ans) (a b c d : Frac) : Ans := bif firstI (mulF a b).2 (mulF c d).2 0 != 0 then K (rFracE (fracZ, firstI (mulF a b).2 (mulF c d).2 0)) [] else K (rFracE (addF (mulF a b).1 (mulF c d).1)) []
theorem twoAns_ok {K : AV → List Blk → Ans} {a b c d : Frac} : twoAns K a b c d = K (rFracE (twoF a b c d)) [] := by
  unfold twoAns twoF
  cases firstI (mulF a b).2 (mulF c d).2 0 != 0 <;> rfl

def dotR (v w : Vec) : Frac × Int := bif firstI (twoF v.x w.x v.y w.y).2 (mulF v.z w.z).2 0 != 0 then (fracZ, firstI (twoF v.x w.x v.y w.y).2 (mulF v.z w.z).2 0) else addF (twoF v.x w.x v.y w.y).1 (mulF v.z w.z).1
theorem dotR_eq {v w : Vec} (hv : VecOk v) (hw : VecOk w) : dotR v w = dotF v w := by
  unfold dotR dotF twoF firstI andF
  rcases mulF_cases hv.x hw.x with ⟨p, e1, k1⟩ | e1
  · rcases mulF_cases hv.y hw.y with ⟨q, e2, k2⟩ | e2
    · simp only [e1, e2, addF_nought k1]
      rcases addF_cases k1 k2 with ⟨s, e3, k3⟩ | e3
      · rcases mulF_cases hv.z hw.z with ⟨r, e4, k4⟩ | e4
        · rcases addF_cases k3 k4 with ⟨t, e5, k5⟩ | e5
          · simp [e3, e4, e5]
          · simp [e3, e4, e5]
        · simp [e3, e4]
      · simp [e3]
    · simp [e1, e2, addF_nought k1]
  · simp [e1]

def dotVRef (K : AV → List Blk → Ans) (v w : Vec) : Ans := bif bothV v w != 0 then K (rFracE (fracZ, 8)) [] else bif firstI (twoF v.x w.x v.y w.y).2 (mulF v.z w.z).2 0 != 0 then K (rFracE (fracZ, firstI (twoF v.x w.x v.y w.y).2 (mulF v.z w.z).2 0)) [] else K (rFracE (addF (twoF v.x w.x v.y w.y).1 (mulF v.z w.z).1)) []
theorem dotVRef_ok {K : AV → List Blk → Ans} {v w : Vec} : dotVRef K v w = K (rFracE (dotV v w)) [] := by
  unfold dotVRef dotV
  rw [bothV_eq]
  cases hv : vecOkB v with
  | false => rfl
  | true =>
    cases hw : vecOkB w with
    | false => rfl
    | true =>
      rw [← dotR_eq (vecOkB_iff.1 hv) (vecOkB_iff.1 hw)]
      unfold dotR
      cases firstI (twoF v.x w.x v.y w.y).2 (mulF v.z w.z).2 0 != 0 <;> rfl

theorem negE_ok {a b : Frac} (ha : FracOk a) (hb : FracOk b) {c : Frac} (h : mulF a b = (c, 0)) : mulF (negR a) b = (negR c, 0) := by
  have hc : FracOk c := by
    rcases mulF_cases ha hb with ⟨c', e, k⟩ | e
    · rw [h] at e; cases e; exact k
    · rw [h] at e; cases e
  rw [mulF_negl ha hb, h]
  unfold negE negR
  rw [negN hc]

theorem two_cross {a b c d : Frac} (ha : FracOk a) (hb : FracOk b) (hc : FracOk c) (hd : FracOk d) : twoF a b (negR c) d = crossC a b c d := by
  unfold twoF crossC firstI andF
  rcases mulF_cases ha hb with ⟨p, e1, k1⟩ | e1
  · rcases mulF_cases hc hd with ⟨q, e2, k2⟩ | e2
    · simp [e1, e2, negE_ok hc hd e2, addF_neg k1 k2]
    · have : mulF (negR c) d = (fracZ, 16) := by rw [mulF_negl hc hd, e2]; rfl
      simp [e1, e2, this]
  · simp [e1]

def crossVRef (K : AV → List Blk → Ans) (v w : Vec) : Ans := bif bothV v w != 0 then K (rVecE (vecZ, 8)) [] else
  K (rVecE (vecR (twoF v.y w.z (negR v.z) w.y).1 (twoF v.z w.x (negR v.x) w.z).1 (twoF v.x w.y (negR v.y) w.x).1 (firstI (twoF v.y w.z (negR v.z) w.y).2 (twoF v.z w.x (negR v.x) w.z).2 (twoF v.x w.y (negR v.y) w.x).2))) []
theorem crossVRef_ok {K : AV → List Blk → Ans} {v w : Vec} : crossVRef K v w = K (rVecE (crossV v w)) [] := by
  unfold crossVRef crossV
  rw [bothV_eq, vecR_each]
  cases hv : vecOkB v with
  | false => rfl
  | true =>
    cases hw : vecOkB w with
    | false => rfl
    | true =>
      have kv := vecOkB_iff.1 hv
      have kw := vecOkB_iff.1 hw
      rw [two_cross kv.y kw.z kv.z kw.y, two_cross kv.z kw.x kv.x kw.z, two_cross kv.x kw.y kv.y kw.x]
      rfl

def chain (K : AV → List Blk → Ans) : List Bool → Ans
  | [] => K (rB true) []
  | [c] => K (rB c) []
  | c :: r => bif c then chain K r else K (rB false) []
theorem chain_true {K : AV → List Blk → Ans} : ∀ {l : List Bool}, (∀ c ∈ l, c = true) → chain K l = K (rB true) []
  | [], _ => rfl
  | [c], h => by rw [chain, h c (by simp)]
  | c :: d :: r, h => by rw [chain, h c (by simp), cond_true, chain_true fun x hx => h x (List.mem_cons_of_mem _ hx)]; simp

def lawVecWorks (K : AV → List Blk → Ans) (v w : Vec) (f : Frac) : Ans :=
  chain K [checkV v == checkV v, eqAll (addV v w).1.cells (addV v w).1.cells, (addV v w).2 == (addV v w).2, eqAll (subV v w).1.cells (subV v w).1.cells, (subV v w).2 == (subV v w).2,
    eqAll (scaleV v f).1.cells (scaleV v f).1.cells, (scaleV v f).2 == (scaleV v f).2, eqAll (dotV v w).1.cells (dotV v w).1.cells, (dotV v w).2 == (dotV v w).2, eqAll (crossV v w).1.cells (crossV v w).1.cells, (crossV v w).2 == (crossV v w).2]
theorem lawVecWorks_ok {K : AV → List Blk → Ans} {v w : Vec} {f : Frac} : lawVecWorks K v w f = K (rB true) [] := by
  unfold lawVecWorks
  refine chain_true fun c hc => ?_
  simp only [eqAll_self, beq_self_eq_true, List.mem_cons, List.not_mem_nil, or_false, or_self] at hc
  exact hc

end Go.Ev

namespace Go.Ev
open Go

structure Mat where
  a : Vec
  b : Vec
  c : Vec

def Mat.cells (m : Mat) : List D := [.int .i64 m.a.x.num, .int .i64 m.a.x.den, .int .i64 m.a.y.num, .int .i64 m.a.y.den, .int .i64 m.a.z.num, .int .i64 m.a.z.den,
  .int .i64 m.b.x.num, .int .i64 m.b.x.den, .int .i64 m.b.y.num, .int .i64 m.b.y.den, .int .i64 m.b.z.num, .int .i64 m.b.z.den,
  .int .i64 m.c.x.num, .int .i64 m.c.x.den, .int .i64 m.c.y.num, .int .i64 m.c.y.den, .int .i64 m.c.z.num, .int .i64 m.c.z.den]
def matZ : Mat := ⟨vecZ, vecZ, vecZ⟩
def rMat (m : Mat) : AV := .v (.agg m.cells)
def rMatE (r : Mat × Int) : AV := .tup [.agg r.1.cells, .c (.d (.int .i64 r.2))]

def oneF : Frac := ⟨1, 1⟩
def zeroF : Frac := ⟨0, 1⟩
def unitM : Mat := ⟨⟨oneF, zeroF, zeroF⟩, ⟨zeroF, oneF, zeroF⟩, ⟨zeroF, zeroF, oneF⟩⟩
def matOkB (m : Mat) : Bool := vecOkB m.a && (vecOkB m.b && vecOkB m.c)
def Mat.list (m : Mat) : List Frac := [m.a.x, m.a.y, m.a.z, m.b.x, m.b.y, m.b.z, m.c.x, m.c.y, m.c.z]

structure MatOk (m : Mat) : Prop where
  a : VecOk m.a
  b : VecOk m.b
  c : VecOk m.c
theorem matOkB_iff {m : Mat} : matOkB m = true ↔ MatOk m := by
  unfold matOkB
  simp only [Bool.and_eq_true, vecOkB_iff]
  exact ⟨fun h => ⟨h.1, h.2.1, h.2.2⟩, fun h => ⟨h.a, h.b, h.c⟩⟩

def goodAns (bad more : Ans) : List Frac → Ans
  | [] => more
  | f :: r => bif checkF f != 0 then bad else goodAns bad more r
theorem goodAns_ok {bad more : Ans} : ∀ {l : List Frac}, goodAns bad more l = bif l.all fracOkB then more else bad
  | [] => rfl
  | f :: r => by
    rw [goodAns, goodAns_ok, List.all_cons]
    unfold checkF
    cases fracOkB f <;> rfl
theorem mat_list (m : Mat) : m.list.all fracOkB = matOkB m := by
  unfold Mat.list matOkB vecOkB
  simp only [List.all_cons, List.all_nil, Bool.and_true, Bool.and_assoc]
theorem mat_lists (m n : Mat) : (m.list ++ n.list).all fracOkB = (matOkB m && matOkB n) := by rw [List.all_append, mat_list, mat_list]

def andG {α β : Type} (x : α × Int) (z : β) (k : α → β × Int) : β × Int := bif x.2 == 0 then k x.1 else (z, x.2)

/-! ### Matrix and vector -/

def applyF (m : Mat) (v : Vec) : Vec × Int := eachV (dotF m.a v) (dotF m.b v) (dotF m.c v)
def applyV (m : Mat) (v : Vec) : Vec × Int := bif matOkB m && vecOkB v then applyF m v else (vecZ, 8)
def applyAns (K : AV → List Blk → Ans) (m : Mat) (v : Vec) : Ans :=
  goodAns (K (rVecE (vecZ, 8)) []) (bif checkV v != 0 then K (rVecE (vecZ, checkV v)) [] else eachAns K (dotF m.a v) (dotF m.b v) (dotF m.c v)) m.list
theorem applyAns_ok {K : AV → List Blk → Ans} {m : Mat} {v : Vec} : applyAns K m v = K (rVecE (applyV m v)) [] := by
  unfold applyAns applyV checkV
  rw [goodAns_ok, mat_list, eachAns_ok]
  cases matOkB m <;> cases vecOkB v <;> rfl

theorem dotV_ok {v w : Vec} (hv : VecOk v) (hw : VecOk w) : dotV v w = dotF v w := by unfold dotV; rw [vecOkB_iff.2 hv, vecOkB_iff.2 hw]; rfl
theorem crossV_ok {v w : Vec} (hv : VecOk v) (hw : VecOk w) : crossV v w = crossF v w := by unfold crossV; rw [vecOkB_iff.2 hv, vecOkB_iff.2 hw]; rfl

def checkM (m : Mat) : Int := bif matOkB m then 0 else 8
def checkMRaw (m : Mat) : Int := bif checkV m.a != 0 then 8 else bif checkV m.b != 0 then 8 else bif checkV m.c != 0 then 8 else 0
theorem checkMRaw_ok (m : Mat) : checkMRaw m = checkM m := by
  unfold checkMRaw checkM checkV matOkB
  cases vecOkB m.a <;> cases vecOkB m.b <;> cases vecOkB m.c <;> rfl

def applyRef (K : AV → List Blk → Ans) (m : Mat) (v : Vec) : Ans := bif checkM m != 0 then K (rVecE (vecZ, 8)) [] else bif checkV v != 0 then K (rVecE (vecZ, 8)) [] else
  K (rVecE (vecR (dotV m.a v).1 (dotV m.b v).1 (dotV m.c v).1 (firstI (dotV m.a v).2 (dotV m.b v).2 (dotV m.c v).2))) []
theorem applyRef_ok {K : AV → List Blk → Ans} {m : Mat} {v : Vec} : applyRef K m v = K (rVecE (applyV m v)) [] := by
  unfold applyRef applyV checkM checkV
  rw [vecR_each]
  cases hm : matOkB m with
  | false => rfl
  | true =>
    cases hv : vecOkB v with
    | false => rfl
    | true =>
      have km := matOkB_iff.1 hm
      have kv := vecOkB_iff.1 hv
      rw [dotV_ok km.a kv, dotV_ok km.b kv, dotV_ok km.c kv]
      rfl

/-! ### Products -/

def flipM (m : Mat) : Mat := ⟨⟨m.a.x, m.b.x, m.c.x⟩, ⟨m.a.y, m.b.y, m.c.y⟩, ⟨m.a.z, m.b.z, m.c.z⟩⟩
theorem flip_ok {m : Mat} (h : MatOk m) : MatOk (flipM m) := ⟨⟨h.a.x, h.b.x, h.c.x⟩, ⟨h.a.y, h.b.y, h.c.y⟩, ⟨h.a.z, h.b.z, h.c.z⟩⟩

def eachK (x y z : Frac × Int) (bad : Int → Ans) (more : Vec → Ans) : Ans := bif x.2 != 0 then bad x.2 else bif y.2 != 0 then bad y.2 else bif z.2 != 0 then bad z.2 else more ⟨x.1, y.1, z.1⟩
theorem eachK_ok {x y z : Frac × Int} {bad : Int → Ans} {more : Vec → Ans} : eachK x y z bad more = bif (eachV x y z).2 != 0 then bad (eachV x y z).2 else more (eachV x y z).1 := by
  unfold eachK eachV
  cases hx : x.2 != 0 <;> cases hy : y.2 != 0 <;> cases hz : z.2 != 0 <;> simp [hx, hy, hz]

def rowF (v : Vec) (c : Mat) : Vec × Int := eachV (dotF v c.a) (dotF v c.b) (dotF v c.c)
def prodC (m c : Mat) : Mat × Int := andG (rowF m.a c) matZ fun x => andG (rowF m.b c) matZ fun y => andG (rowF m.c c) matZ fun z => (⟨x, y, z⟩, 0)
def prodF (m n : Mat) : Mat × Int := prodC m (flipM n)
def prodMAns (K : AV → List Blk → Ans) (m n : Mat) : Ans :=
  eachK (dotF m.a (flipM n).a) (dotF m.a (flipM n).b) (dotF m.a (flipM n).c) (fun e => K (rMatE (matZ, e)) []) fun x =>
  eachK (dotF m.b (flipM n).a) (dotF m.b (flipM n).b) (dotF m.b (flipM n).c) (fun e => K (rMatE (matZ, e)) []) fun y =>
  eachK (dotF m.c (flipM n).a) (dotF m.c (flipM n).b) (dotF m.c (flipM n).c) (fun e => K (rMatE (matZ, e)) []) fun z => K (rMatE (⟨x, y, z⟩, 0)) []
theorem prodMAns_ok {K : AV → List Blk → Ans} {m n : Mat} : prodMAns K m n = K (rMatE (prodF m n)) [] := by
  unfold prodMAns prodF prodC rowF
  simp only [eachK_ok]
  generalize eachV (dotF m.a (flipM n).a) (dotF m.a (flipM n).b) (dotF m.a (flipM n).c) = x
  generalize eachV (dotF m.b (flipM n).a) (dotF m.b (flipM n).b) (dotF m.b (flipM n).c) = y
  generalize eachV (dotF m.c (flipM n).a) (dotF m.c (flipM n).b) (dotF m.c (flipM n).c) = z
  unfold andG
  cases hx : x.2 == 0 <;> cases hy : y.2 == 0 <;> cases hz : z.2 == 0 <;> simp [bne, hx, hy, hz]

def prodM (m n : Mat) : Mat × Int := bif matOkB m && matOkB n then prodF m n else (matZ, 8)
def prodVAns (K : AV → List Blk → Ans) (m n : Mat) : Ans := goodAns (K (rMatE (matZ, 8)) []) (K (rMatE (prodF m n)) []) (m.list ++ n.list)
theorem prodVAns_ok {K : AV → List Blk → Ans} {m n : Mat} : prodVAns K m n = K (rMatE (prodM m n)) [] := by
  unfold prodVAns prodM
  rw [goodAns_ok, mat_lists]
  cases matOkB m && matOkB n <;> rfl
def prodRef (K : AV → List Blk → Ans) (m n : Mat) : Ans := bif checkM m != 0 then K (rMatE (matZ, 8)) [] else bif checkM n != 0 then K (rMatE (matZ, 8)) [] else
  eachK (dotV m.a (flipM n).a) (dotV m.a (flipM n).b) (dotV m.a (flipM n).c) (fun e => K (rMatE (matZ, e)) []) fun x =>
  eachK (dotV m.b (flipM n).a) (dotV m.b (flipM n).b) (dotV m.b (flipM n).c) (fun e => K (rMatE (matZ, e)) []) fun y =>
  eachK (dotV m.c (flipM n).a) (dotV m.c (flipM n).b) (dotV m.c (flipM n).c) (fun e => K (rMatE (matZ, e)) []) fun z => K (rMatE (⟨x, y, z⟩, 0)) []
theorem prodRef_ok {K : AV → List Blk → Ans} {m n : Mat} : prodRef K m n = K (rMatE (prodM m n)) [] := by
  unfold prodRef prodM checkM
  cases hm : matOkB m with
  | false => rfl
  | true =>
    cases hn : matOkB n with
    | false => rfl
    | true =>
      have km := matOkB_iff.1 hm
      have kn := flip_ok (matOkB_iff.1 hn)
      simp only [dotV_ok km.a kn.a, dotV_ok km.a kn.b, dotV_ok km.a kn.c, dotV_ok km.b kn.a, dotV_ok km.b kn.b, dotV_ok km.b kn.c, dotV_ok km.c kn.a, dotV_ok km.c kn.b, dotV_ok km.c kn.c]
      exact prodMAns_ok

def flipV (m : Mat) : Mat × Int := bif matOkB m then (flipM m, 0) else (matZ, 8)
def flipAns (K : AV → List Blk → Ans) (m : Mat) : Ans := goodAns (K (rMatE (matZ, 8)) []) (K (rMatE (flipM m, 0)) []) m.list
theorem flipAns_ok {K : AV → List Blk → Ans} {m : Mat} : flipAns K m = K (rMatE (flipV m)) [] := by
  unfold flipAns flipV
  rw [goodAns_ok, mat_list]
  cases matOkB m <;> rfl
def flipRef (K : AV → List Blk → Ans) (m : Mat) : Ans := bif checkM m != 0 then K (rMatE (matZ, 8)) [] else K (rMatE (flipM m, 0)) []
theorem flipRef_ok {K : AV → List Blk → Ans} {m : Mat} : flipRef K m = K (rMatE (flipV m)) [] := by
  unfold flipRef flipV checkM
  cases matOkB m <;> rfl

def detF (m : Mat) : Frac × Int := andG (crossF m.b m.c) fracZ fun c => dotF m.a c
def detV (m : Mat) : Frac × Int := bif matOkB m then detF m else (fracZ, 8)
def detAns (K : AV → List Blk → Ans) (m : Mat) : Ans := goodAns (K (rFracE (fracZ, 8)) []) (bif (crossF m.b m.c).2 != 0 then K (rFracE (fracZ, (crossF m.b m.c).2)) [] else K (rFracE (dotF m.a (crossF m.b m.c).1)) []) m.list
theorem detAns_ok {K : AV → List Blk → Ans} {m : Mat} : detAns K m = K (rFracE (detV m)) [] := by
  unfold detAns detV detF andG
  rw [goodAns_ok, mat_list]
  cases matOkB m with
  | false => rfl
  | true => cases hx : (crossF m.b m.c).2 == 0 <;> simp [bne, hx]

theorem crossC_cases {a b c d : Frac} (ha : FracOk a) (hb : FracOk b) (hc : FracOk c) (hd : FracOk d) : (∃ r, crossC a b c d = (r, 0) ∧ FracOk r) ∨ crossC a b c d = (fracZ, 16) := by
  unfold crossC andF
  rcases mulF_cases ha hb with ⟨p, e1, k1⟩ | e1
  · rcases mulF_cases hc hd with ⟨q, e2, k2⟩ | e2
    · rw [e1, e2]; exact subF_cases k1 k2
    · rw [e1, e2]; exact .inr rfl
  · rw [e1]; exact .inr rfl
theorem eachV_cases {x y z : Frac × Int} (hx : (∃ r, x = (r, 0) ∧ FracOk r) ∨ x = (fracZ, 16)) (hy : (∃ r, y = (r, 0) ∧ FracOk r) ∨ y = (fracZ, 16)) (hz : (∃ r, z = (r, 0) ∧ FracOk r) ∨ z = (fracZ, 16)) :
    (∃ v, eachV x y z = (v, 0) ∧ VecOk v ∧ x = (v.x, 0) ∧ y = (v.y, 0) ∧ z = (v.z, 0)) ∨ eachV x y z = (vecZ, 16) := by
  unfold eachV
  rcases hx with ⟨a, rfl, ka⟩ | rfl
  · rcases hy with ⟨b, rfl, kb⟩ | rfl
    · rcases hz with ⟨c, rfl, kc⟩ | rfl
      · exact .inl ⟨⟨a, b, c⟩, rfl, ⟨ka, kb, kc⟩, rfl, rfl, rfl⟩
      · exact .inr rfl
    · exact .inr rfl
  · exact .inr rfl
theorem crossF_cases {v w : Vec} (hv : VecOk v) (hw : VecOk w) : (∃ u, crossF v w = (u, 0) ∧ VecOk u ∧ crossC v.y w.z v.z w.y = (u.x, 0) ∧ crossC v.z w.x v.x w.z = (u.y, 0) ∧ crossC v.x w.y v.y w.x = (u.z, 0)) ∨ crossF v w = (vecZ, 16) :=
  eachV_cases (crossC_cases hv.y hw.z hv.z hw.y) (crossC_cases hv.z hw.x hv.x hw.z) (crossC_cases hv.x hw.y hv.y hw.x)

def detRef (K : AV → List Blk → Ans) (m : Mat) : Ans := bif checkM m != 0 then K (rFracE (fracZ, 8)) [] else bif (crossV m.b m.c).2 != 0 then K (rFracE (fracZ, (crossV m.b m.c).2)) [] else K (rFracE (dotV m.a (crossV m.b m.c).1)) []
theorem detRef_ok {K : AV → List Blk → Ans} {m : Mat} : detRef K m = K (rFracE (detV m)) [] := by
  unfold detRef detV detF checkM andG
  cases hm : matOkB m with
  | false => rfl
  | true =>
    have km := matOkB_iff.1 hm
    rw [crossV_ok km.b km.c]
    rcases crossF_cases km.b km.c with ⟨u, e, ku, _⟩ | e
    · rw [e]; simp [dotV_ok km.a ku]
    · rw [e]; rfl

/-! ### Turns -/

def doStep (failed : Int) (f : Frac → Frac → Frac × Int) (a b : Frac) (k : Int → Frac → Ans) : Ans := bif failed != 0 then k failed zeroF else k (f a b).2 (f a b).1
theorem doStep_bad {e : Int} (he : e ≠ 0) {f : Frac → Frac → Frac × Int} {a b : Frac} {k : Int → Frac → Ans} : doStep e f a b k = k e zeroF := by
  unfold doStep
  rw [show (e != 0) = true by simpa using he]
  rfl
theorem doStep_good {f : Frac → Frac → Frac × Int} {a b : Frac} {k : Int → Frac → Ans} : doStep 0 f a b k = k (f a b).2 (f a b).1 := rfl

def pairZ : Frac × Frac := (fracZ, fracZ)
def pairF (t : Frac) : (Frac × Frac) × Int := andG (mulF t t) pairZ fun q => andG (subF oneF q) pairZ fun lo => andG (addF oneF q) pairZ fun hi => andG (divF lo hi) pairZ fun c => andG (addF t t) pairZ fun tw => andG (divF tw hi) pairZ fun s => ((c, s), 0)

def turnOf (axis : Int) (c s : Frac) : Mat := bif axis == 0 then ⟨⟨oneF, zeroF, zeroF⟩, ⟨zeroF, c, negR s⟩, ⟨zeroF, s, c⟩⟩ else bif axis == 1 then ⟨⟨c, zeroF, s⟩, ⟨zeroF, oneF, zeroF⟩, ⟨negR s, zeroF, c⟩⟩ else ⟨⟨c, negR s, zeroF⟩, ⟨s, c, zeroF⟩, ⟨zeroF, zeroF, oneF⟩⟩
def turnW (axis : Int) (c b s : Frac) : Mat := bif axis == 0 then ⟨⟨oneF, zeroF, zeroF⟩, ⟨zeroF, c, b⟩, ⟨zeroF, s, c⟩⟩ else bif axis == 1 then ⟨⟨c, zeroF, s⟩, ⟨zeroF, oneF, zeroF⟩, ⟨b, zeroF, c⟩⟩ else ⟨⟨c, b, zeroF⟩, ⟨s, c, zeroF⟩, ⟨zeroF, zeroF, oneF⟩⟩
theorem turnW_eq (axis : Int) (c s : Frac) : turnW axis c (negR s) s = turnOf axis c s := rfl

def turnF (axis : Int) (t : Frac) : Mat × Int := bif fracOkB t then (bif decide (0 ≤ axis) && decide (axis ≤ 2) then (bif (pairF t).2 == 0 then (turnOf axis (pairF t).1.1 (pairF t).1.2, 0) else (matZ, 16)) else (matZ, 2)) else (matZ, 8)

def turnSteps (K : AV → List Blk → Ans) (axis : Int) (t : Frac) : Ans :=
  doStep 0 mulF t t fun e q => doStep e subF oneF q fun e lo => doStep e addF oneF q fun e hi => doStep e divF lo hi fun e c => doStep e addF t t fun e tw => doStep e divF tw hi fun e s => doStep e subF zeroF s fun e b =>
    bif e != 0 then K (rMatE (matZ, 16)) [] else K (rMatE (turnW axis c b s, 0)) []
def turnMAns (K : AV → List Blk → Ans) (axis : Int) (t : Frac) : Ans := bif checkF t != 0 then K (rMatE (matZ, 8)) [] else turnSteps K axis t
def turnMAns0 (K : AV → List Blk → Ans) (axis : Int) (t : Frac) : Ans := bif checkF t != 0 then K (rMatE (matZ, 8)) [] else bif decide (axis < 0) then K (rMatE (matZ, 2)) [] else bif decide (axis > 2) then K (rMatE (matZ, 2)) [] else none

theorem one_ok : FracOk oneF := fracOkB_iff.1 (by decide)
theorem zero_ok : FracOk zeroF := fracOkB_iff.1 (by decide)

theorem subF_nought {p : Frac} (hp : FracOk p) : subF zeroF p = (negR p, 0) := by
  rw [← addF_neg zero_ok hp]
  exact addF_nought (negR_ok hp)

theorem divF_cases {a b : Frac} (ha : FracOk a) (hb : FracOk b) (h : b.num ≠ 0) : (∃ c, divF a b = (c, 0) ∧ FracOk c) ∨ divF a b = (fracZ, 16) := by
  unfold divF
  rw [fracOkB_iff.2 ha, fracOkB_iff.2 hb, show (b.num == 0) = false by simpa using h]
  simp only [Bool.and_self, cond_true, cond_false]
  have h1 := ha.denlo
  by_cases hn : b.num < 0
  · rw [decide_eq_true hn]
    simp only [cond_true]
    rcases fracOf_err (a.num * -b.den) (a.den * -b.num) with e | e
    · exact .inl ⟨_, fst_of e, (frac_val (Int.mul_pos (by omega) (by omega)) (fst_of e)).1⟩
    · exact .inr e
  · rw [decide_eq_false hn]
    simp only [cond_false]
    rcases fracOf_err (a.num * b.den) (a.den * b.num) with e | e
    · exact .inl ⟨_, fst_of e, (frac_val (Int.mul_pos (by omega) (by omega)) (fst_of e)).1⟩
    · exact .inr e

theorem mulF_val {a b c : Frac} (ha : FracOk a) (hb : FracOk b) (h : mulF a b = (c, 0)) : FracOk c ∧ c.num * (a.den * b.den) = (a.num * b.num) * c.den := by
  rw [mulF_ok ha hb] at h
  exact frac_val (den_pos ha hb) h
theorem addF_vl {a b c : Frac} (ha : FracOk a) (hb : FracOk b) (h : addF a b = (c, 0)) : FracOk c ∧ c.num * (a.den * b.den) = (a.num * b.den + b.num * a.den) * c.den := by
  rw [addF_ok ha hb] at h
  exact frac_val (den_pos ha hb) h

theorem sq_nn (n : Int) : 0 ≤ n * n := by
  rcases Int.le_total 0 n with h | h
  · exact Int.mul_nonneg h h
  · exact Int.mul_nonneg_of_nonpos_of_nonpos h h

theorem hi_pos {t q hi : Frac} (ht : FracOk t) (h1 : mulF t t = (q, 0)) (h2 : addF oneF q = (hi, 0)) : 0 < hi.num := by
  obtain ⟨kq, e1⟩ := mulF_val ht ht h1
  obtain ⟨kh, e2⟩ := addF_vl one_ok kq h2
  have hq := kq.denlo; have hh := kh.denlo; have hd := ht.denlo
  have p1 : 0 ≤ q.num := by
    rcases Int.lt_or_le q.num 0 with n | n
    · have := Int.mul_neg_of_neg_of_pos n (Int.mul_pos (show 0 < t.den by omega) (show 0 < t.den by omega))
      have := Int.mul_nonneg (sq_nn t.num) (show 0 ≤ q.den by omega)
      omega
    · exact n
  simp only [oneF, Int.one_mul, Int.mul_one] at e2
  rcases Int.lt_or_le 0 hi.num with n | n
  · exact n
  · have := Int.mul_nonpos_of_nonpos_of_nonneg n (show 0 ≤ q.den by omega)
    have := Int.mul_pos (show 0 < q.den + q.num by omega) (show 0 < hi.den by omega)
    omega

theorem turnSteps_ok {K : AV → List Blk → Ans} {axis : Int} {t : Frac} (ht : FracOk t) : turnSteps K axis t = bif (pairF t).2 == 0 then K (rMatE (turnOf axis (pairF t).1.1 (pairF t).1.2, 0)) [] else K (rMatE (matZ, 16)) [] := by
  have h16 : (16 : Int) ≠ 0 := by omega
  unfold turnSteps pairF andG
  rw [doStep_good]
  rcases mulF_cases ht ht with ⟨q, e1, kq⟩ | e1
  · rw [e1]; simp only [doStep_good]
    rcases subF_cases one_ok kq with ⟨lo, e2, klo⟩ | e2
    · rw [e2]; simp only [doStep_good]
      rcases addF_cases one_ok kq with ⟨hi, e3, khi⟩ | e3
      · rw [e3]; simp only [doStep_good]
        have hp := hi_pos ht e1 e3
        rcases divF_cases klo khi (by omega) with ⟨c, e4, kc⟩ | e4
        · rw [e4]; simp only [doStep_good]
          rcases addF_cases ht ht with ⟨tw, e5, ktw⟩ | e5
          · rw [e5]; simp only [doStep_good]
            rcases divF_cases ktw khi (by omega) with ⟨s, e6, ks⟩ | e6
            · rw [e6]; simp only [doStep_good, subF_nought ks, turnW_eq]; rfl
            · rw [e6]; simp only [doStep_bad h16]; rfl
          · rw [e5]; simp only [doStep_bad h16]; rfl
        · rw [e4]; simp only [doStep_bad h16]; rfl
      · rw [e3]; simp only [doStep_bad h16]; rfl
    · rw [e2]; simp only [doStep_bad h16]; rfl
  · rw [e1]; simp only [doStep_bad h16]; rfl

theorem turnMAns_ok {K : AV → List Blk → Ans} {axis : Int} {t : Frac} (h : 0 ≤ axis ∧ axis ≤ 2) : turnMAns K axis t = K (rMatE (turnF axis t)) [] := by
  unfold turnMAns turnF checkF
  cases ht : fracOkB t with
  | false => rfl
  | true =>
    rw [turnSteps_ok (fracOkB_iff.1 ht), decide_eq_true h.1, decide_eq_true h.2]
    cases (pairF t).2 == 0 <;> rfl
theorem turnMAns0_ok {K : AV → List Blk → Ans} {axis : Int} {t : Frac} (h : axis ≠ 0 ∧ axis ≠ 1 ∧ axis ≠ 2) : turnMAns0 K axis t = K (rMatE (turnF axis t)) [] := by
  unfold turnMAns0 turnF checkF
  cases ht : fracOkB t with
  | false => rfl
  | true =>
    by_cases h1 : axis < 0
    · rw [decide_eq_true h1, decide_eq_false (show ¬ 0 ≤ axis by omega)]; rfl
    · rw [decide_eq_false h1, decide_eq_true (show axis > 2 by omega), decide_eq_false (show ¬ axis ≤ 2 by omega), Bool.and_false]; rfl

/-! ### Turns: the reference -/

def rPair (r : (Frac × Frac) × Int) : AV := .tup [.agg r.1.1.cells, .agg r.1.2.cells, .c (.d (.int .i64 r.2))]
def twoN : Frac := ⟨2, 1⟩
theorem two_ok : FracOk twoN := fracOkB_iff.1 (by decide)

def pairR (t : Frac) : (Frac × Frac) × Int :=
  bif firstI (mulF t t).2 (subF oneF (mulF t t).1).2 (addF oneF (mulF t t).1).2 != 0 then (pairZ, firstI (mulF t t).2 (subF oneF (mulF t t).1).2 (addF oneF (mulF t t).1).2) else
    (((divF (subF oneF (mulF t t).1).1 (addF oneF (mulF t t).1).1).1, (divF (mulF t twoN).1 (addF oneF (mulF t t).1).1).1),
      firstI (divF (subF oneF (mulF t t).1).1 (addF oneF (mulF t t).1).1).2 (mulF t twoN).2 (divF (mulF t twoN).1 (addF oneF (mulF t t).1).1).2)
def turnMR (axis : Int) (t : Frac) : Mat × Int := bif fracOkB t then (bif decide (0 ≤ axis) && decide (axis ≤ 2) then (bif (pairR t).2 == 0 then (turnOf axis (pairR t).1.1 (pairR t).1.2, 0) else (matZ, (pairR t).2)) else (matZ, 2)) else (matZ, 8)
def turnRef (K : AV → List Blk → Ans) (axis : Int) (t : Frac) : Ans := bif checkF t != 0 then K (rMatE (matZ, 8)) [] else bif (pairR t).2 != 0 then K (rMatE (matZ, (pairR t).2)) [] else K (rMatE (turnOf axis (pairR t).1.1 (pairR t).1.2, 0)) []

theorem gcdI_scale {c n d : Int} (hc : 0 < c) : gcdI (c * n) (c * d) = c * gcdI n d := by
  rw [gcdI_eq, gcdI_eq, Int.gcd_mul_left, Int.natCast_mul]
  congr 1
  omega
theorem fracOf_scale {c n d : Int} (hc : 0 < c) : fracOf (c * n) (c * d) = fracOf n d := by
  have ha : absI (c * n) = c * absI n := by rw [absI_eq, absI_eq, Int.natAbs_mul, Int.natCast_mul]; congr 1; omega
  unfold fracOf
  rw [gcdI_scale hc, ha, Int.mul_ediv_mul_of_pos _ _ hc, Int.mul_ediv_mul_of_pos _ _ hc, Int.mul_ediv_mul_of_pos _ _ hc]

theorem twice_eq {t : Frac} (ht : FracOk t) : mulF t twoN = addF t t := by
  rw [mulF_ok ht two_ok, addF_ok ht ht, show t.num * t.den + t.num * t.den = t.den * (t.num * 2) by grind, fracOf_scale (by have := ht.denlo; omega), twoN, Int.mul_one]

theorem pair_eq {t : Frac} (ht : FracOk t) : ((pairF t).2 = 0 ∧ pairR t = pairF t) ∨ ((pairF t).2 ≠ 0 ∧ (pairR t).2 = 16) := by
  unfold pairR pairF andG firstI
  rw [twice_eq ht]
  rcases mulF_cases ht ht with ⟨q, e1, kq⟩ | e1
  · rw [e1]; simp only
    rcases subF_cases one_ok kq with ⟨lo, e2, klo⟩ | e2
    · rw [e2]; simp only
      rcases addF_cases one_ok kq with ⟨hi, e3, khi⟩ | e3
      · rw [e3]; simp only
        have hp := hi_pos ht e1 e3
        rcases divF_cases klo khi (by omega) with ⟨c, e4, kc⟩ | e4
        · rw [e4]; simp only
          rcases addF_cases ht ht with ⟨tw, e5, ktw⟩ | e5
          · rw [e5]; simp only
            rcases divF_cases ktw khi (by omega) with ⟨s, e6, ks⟩ | e6
            · rw [e6]; simp
            · rw [e6]; simp
          · rw [e5]; simp
        · rw [e4]; simp
      · rw [e3]; simp
    · rw [e2]; simp
  · rw [e1]; simp

theorem turnMR_eq (axis : Int) (t : Frac) : turnMR axis t = turnF axis t := by
  unfold turnMR turnF
  cases ht : fracOkB t with
  | false => rfl
  | true =>
    rcases pair_eq (fracOkB_iff.1 ht) with ⟨h1, h2⟩ | ⟨h1, h2⟩
    · rw [h2, h1]; rfl
    · rw [h2, show ((pairF t).2 == 0) = false by simpa using h1]; rfl

theorem turnRef_ok {K : AV → List Blk → Ans} {axis : Int} {t : Frac} (h : 0 ≤ axis ∧ axis ≤ 2) : turnRef K axis t = K (rMatE (turnF axis t)) [] := by
  rw [← turnMR_eq]
  unfold turnRef turnMR checkF
  rw [decide_eq_true h.1, decide_eq_true h.2]
  cases ht : fracOkB t with
  | false => rfl
  | true => cases hp : (pairR t).2 == 0 <;> simp [bne, hp]

def turnRef0 (K : AV → List Blk → Ans) (axis : Int) (t : Frac) : Ans := bif checkF t != 0 then K (rMatE (matZ, 8)) [] else bif decide (axis < 0) then K (rMatE (matZ, 2)) [] else bif decide (axis > 2) then K (rMatE (matZ, 2)) [] else bif (pairR t).2 != 0 then none else none
theorem turnRef0_ok {K : AV → List Blk → Ans} {axis : Int} {t : Frac} (h : axis ≠ 0 ∧ axis ≠ 1 ∧ axis ≠ 2) : turnRef0 K axis t = K (rMatE (turnF axis t)) [] := by
  refine Eq.trans ?_ (turnMAns0_ok h)
  unfold turnRef0 turnMAns0
  cases (pairR t).2 != 0 <;> rfl

/-! ### Rotations -/

def isV (m : Mat) : Bool × Int := bif matOkB m then andG (prodF m (flipM m)) false fun p => andG (detF m) false fun d => (eqAll p.cells unitM.cells && eqAll d.cells oneF.cells, 0) else (false, 8)
def isTail (K : AV → List Blk → Ans) (p : Mat × Int) (d : Frac × Int) : Ans := bif p.2 != 0 then K (rBoolE (false, p.2)) [] else bif d.2 != 0 then K (rBoolE (false, d.2)) [] else
  bif eqAll p.1.cells unitM.cells then K (rBoolE (eqAll d.1.cells oneF.cells, 0)) [] else K (rBoolE (false, 0)) []
theorem isTail_ok {K : AV → List Blk → Ans} {p : Mat × Int} {d : Frac × Int} : isTail K p d = K (rBoolE (andG p false fun p => andG d false fun d => (eqAll p.cells unitM.cells && eqAll d.cells oneF.cells, 0))) [] := by
  unfold isTail andG
  cases hp : p.2 == 0 <;> cases hd : d.2 == 0 <;> simp [bne, hp, hd]
  cases eqAll p.1.cells unitM.cells <;> rfl
def isAns (K : AV → List Blk → Ans) (m : Mat) : Ans := goodAns (K (rBoolE (false, 8)) []) (isTail K (prodF m (flipM m)) (detV m)) m.list
theorem isAns_ok {K : AV → List Blk → Ans} {m : Mat} : isAns K m = K (rBoolE (isV m)) [] := by
  unfold isAns isV detV
  rw [goodAns_ok, mat_list, isTail_ok]
  cases matOkB m <;> rfl
def isRef (K : AV → List Blk → Ans) (m : Mat) : Ans := bif checkM m != 0 then K (rBoolE (false, 8)) [] else isTail K (prodM m (flipV m).1) (detV m)
theorem isRef_ok {K : AV → List Blk → Ans} {m : Mat} : isRef K m = K (rBoolE (isV m)) [] := by
  unfold isRef isV detV checkM prodM flipV
  rw [isTail_ok]
  cases hm : matOkB m with
  | false => rfl
  | true =>
    simp only [cond_true]
    rw [matOkB_iff.2 (flip_ok (matOkB_iff.1 hm))]
    rfl

def lawVecMatrices (K : AV → List Blk → Ans) (m n : Mat) (v : Vec) (axis : Int) (t : Frac) : Ans :=
  chain K [eqAll (applyV m v).1.cells (applyV m v).1.cells, (applyV m v).2 == (applyV m v).2, eqAll (prodM m n).1.cells (prodM m n).1.cells, (prodM m n).2 == (prodM m n).2,
    eqAll (flipV m).1.cells (flipV m).1.cells, (flipV m).2 == (flipV m).2, eqAll (detV m).1.cells (detV m).1.cells, (detV m).2 == (detV m).2,
    eqAll (turnF axis t).1.cells (turnF axis t).1.cells, (turnF axis t).2 == (turnF axis t).2, (isV m).1 == (isV m).1, (isV m).2 == (isV m).2]
theorem lawVecMatrices_ok {K : AV → List Blk → Ans} {m n : Mat} {v : Vec} {axis : Int} {t : Frac} : lawVecMatrices K m n v axis t = K (rB true) [] := by
  unfold lawVecMatrices
  refine chain_true fun c hc => ?_
  simp only [eqAll_self, beq_self_eq_true, List.mem_cons, List.not_mem_nil, or_false, or_self] at hc
  exact hc

end Go.Ev

namespace Go.Ev
open Go

def val (a : Frac) : Rat := (a.num : Rat) / (a.den : Rat)

theorem den_ne {a : Frac} (h : FracOk a) : (a.den : Rat) ≠ 0 := by
  have := h.denlo
  exact_mod_cast (show a.den ≠ 0 by omega)

theorem val_mul {a : Frac} (h : FracOk a) : val a * (a.den : Rat) = a.num := by unfold val; exact Rat.div_mul_cancel (den_ne h)

theorem val_of {x : Frac} (hx : FracOk x) {n d : Int} (h : x.num * d = n * x.den) : val x * (d : Rat) = n := by
  have h1 := den_ne hx
  have h2 := val_mul hx
  have h3 : (x.num : Rat) * d = n * x.den := by exact_mod_cast h
  grind

theorem of_val {x : Frac} (hx : FracOk x) {n d : Int} (h : val x * (d : Rat) = n) : x.num * d = n * x.den := by
  have h1 := den_ne hx
  have h2 := val_mul hx
  have h3 : (x.num : Rat) * d = n * x.den := by grind
  exact_mod_cast h3

theorem den_dvd {x : Frac} (hx : FracOk x) {n d : Int} (h : x.num * d = n * x.den) : x.den ∣ d := by
  have hg := hx.gcd
  have h1 : x.den.natAbs ∣ x.num.natAbs * d.natAbs := by
    rw [← Int.natAbs_mul, h, Int.natAbs_mul]
    exact Nat.dvd_mul_left ..
  have h2 : x.den.natAbs ∣ d.natAbs := Nat.Coprime.dvd_of_dvd_mul_left (by rw [Nat.coprime_comm]; exact hg) h1
  exact Int.natAbs_dvd_natAbs.1 h2

theorem least {x : Frac} (hx : FracOk x) {n d : Int} (hd : 0 < d) (h : x.num * d = n * x.den) : x.den ≤ d ∧ absI x.num ≤ absI n := by
  obtain ⟨k, hk⟩ := den_dvd hx h
  have h1 := hx.denlo
  have hk0 : 0 < k := by
    rcases Int.lt_or_le 0 k with q | q
    · exact q
    · have := Int.mul_nonpos_of_nonneg_of_nonpos (show 0 ≤ x.den by omega) q
      omega
  subst hk
  have hn : n = x.num * k := by
    have : x.den * (x.num * k) = x.den * n := by grind
    exact (Int.eq_of_mul_eq_mul_left (by omega) this).symm
  refine ⟨?_, ?_⟩
  · have := Int.mul_le_mul_of_nonneg_left (show 1 ≤ k by omega) (show 0 ≤ x.den by omega)
    omega
  · rw [hn, absI_eq, absI_eq, Int.natAbs_mul, Int.natCast_mul]
    have := Int.mul_le_mul_of_nonneg_left (show 1 ≤ (k.natAbs : Int) by omega) (show 0 ≤ (x.num.natAbs : Int) by omega)
    omega

theorem val_inj {a b : Frac} (ha : FracOk a) (hb : FracOk b) (h : val a = val b) : a = b := by
  have h1 : a.num * b.den = b.num * a.den := of_val ha (by rw [h]; exact val_mul hb)
  have h2 := (least ha (by have := hb.denlo; omega) h1).1
  have h3 := (least hb (by have := ha.denlo; omega) h1.symm).1
  have h4 : a.den = b.den := by omega
  have h5 : a.num = b.num := by
    rw [h4] at h1
    exact Int.eq_of_mul_eq_mul_right (by have := hb.denlo; omega) h1
  cases a; cases b
  simp only at h4 h5
  rw [h4, h5]

theorem val_zero : val zeroF = 0 := by unfold val zeroF; decide +kernel
theorem val_one : val oneF = 1 := by unfold val oneF; decide +kernel
theorem val_neg {a : Frac} (h : FracOk a) : val (negR a) = - val a := by
  unfold negR
  rw [negN h]
  unfold val
  simp only
  rw [Rat.intCast_neg]
  grind

/-! ### Values of results -/

theorem add_val {a b c : Frac} (ha : FracOk a) (hb : FracOk b) (h : addF a b = (c, 0)) : FracOk c ∧ val c = val a + val b := by
  obtain ⟨kc, e⟩ := addF_vl ha hb h
  refine ⟨kc, ?_⟩
  have := val_of kc e
  have h1 := val_mul ha; have h2 := val_mul hb
  have h3 := den_ne ha; have h4 := den_ne hb
  rw [Rat.intCast_add, Rat.intCast_mul, Rat.intCast_mul, Rat.intCast_mul] at this
  grind
theorem mul_val {a b c : Frac} (ha : FracOk a) (hb : FracOk b) (h : mulF a b = (c, 0)) : FracOk c ∧ val c = val a * val b := by
  obtain ⟨kc, e⟩ := mulF_val ha hb h
  refine ⟨kc, ?_⟩
  have := val_of kc e
  have h1 := val_mul ha; have h2 := val_mul hb
  have h3 := den_ne ha; have h4 := den_ne hb
  rw [Rat.intCast_mul, Rat.intCast_mul] at this
  grind
theorem sub_val {a b c : Frac} (ha : FracOk a) (hb : FracOk b) (h : subF a b = (c, 0)) : FracOk c ∧ val c = val a - val b := by
  rw [← addF_neg ha hb] at h
  obtain ⟨kc, e⟩ := add_val ha (negR_ok hb) h
  rw [val_neg hb] at e
  exact ⟨kc, by grind⟩

theorem num_ne {b : Frac} (hb : FracOk b) : b.num ≠ 0 ↔ val b ≠ 0 := by
  have h1 := den_ne hb
  have h2 := val_mul hb
  constructor
  · intro h e
    rw [e] at h2
    have : (b.num : Rat) = 0 := by grind
    exact h (by exact_mod_cast this)
  · intro h e
    rw [e] at h2
    apply h
    have h2' : val b * (b.den : Rat) = 0 := by rw [h2]; rfl
    grind

theorem div_val {a b c : Frac} (ha : FracOk a) (hb : FracOk b) (h : divF a b = (c, 0)) : FracOk c ∧ val b ≠ 0 ∧ val c * val b = val a := by
  unfold divF at h
  rw [fracOkB_iff.2 ha, fracOkB_iff.2 hb] at h
  simp only [Bool.and_self, cond_true] at h
  cases h0 : b.num == 0 with
  | true => rw [h0] at h; simp at h
  | false =>
    rw [h0] at h
    have hne : b.num ≠ 0 := by simpa using h0
    have hv := (num_ne hb).1 hne
    have h1 := val_mul ha; have h2 := val_mul hb
    have h3 := den_ne ha; have h4 := den_ne hb
    have da := ha.denlo
    simp only [cond_false] at h
    by_cases hn : b.num < 0
    · rw [decide_eq_true hn] at h
      obtain ⟨kc, e⟩ := frac_val (Int.mul_pos (by omega) (by omega)) h
      refine ⟨kc, hv, ?_⟩
      have := val_of kc e
      rw [Rat.intCast_mul, Rat.intCast_mul, Rat.intCast_neg, Rat.intCast_neg] at this
      grind
    · rw [decide_eq_false hn] at h
      obtain ⟨kc, e⟩ := frac_val (Int.mul_pos (by omega) (by omega)) h
      refine ⟨kc, hv, ?_⟩
      have := val_of kc e
      rw [Rat.intCast_mul, Rat.intCast_mul] at this
      grind

/-! ### Size -/

theorem fracOf_small {n d : Int} (hn : absI n ≤ 1000000000000000000) (hd0 : 0 < d) (hd : d ≤ 1000000000000000000) : ∃ c, fracOf n d = (c, 0) := by
  have hg : 0 < gcdI n d := gcdI_pos (by omega)
  unfold fracOf
  have a0 : 0 ≤ absI n := by rw [absI_eq]; omega
  have h1 : absI n / gcdI n d ≤ absI n := Int.ediv_le_self _ a0
  have h2 : d / gcdI n d ≤ d := Int.ediv_le_self _ (by omega)
  rw [decide_eq_true (show absI n / gcdI n d ≤ 1000000000000000000 by omega), decide_eq_true (show d / gcdI n d ≤ 1000000000000000000 by omega)]
  exact ⟨_, rfl⟩

structure Sz (N D : Int) (x : Frac) : Prop where
  ok : FracOk x
  num : absI x.num ≤ N
  den : x.den ≤ D

theorem absI_nn (n : Int) : 0 ≤ absI n := by rw [absI_eq]; omega
theorem absI_mul (m n : Int) : absI (m * n) = absI m * absI n := by rw [absI_eq, absI_eq, absI_eq, Int.natAbs_mul, Int.natCast_mul]
theorem absI_add_le (m n : Int) : absI (m + n) ≤ absI m + absI n := by rw [absI_eq, absI_eq, absI_eq]; omega
theorem absI_sub_le (m n : Int) : absI (m - n) ≤ absI m + absI n := by rw [absI_eq, absI_eq, absI_eq]; omega
theorem absI_of_pos {n : Int} (h : 0 < n) : absI n = n := by rw [absI_eq]; omega
theorem mul_le {a b A B : Int} (ha : 0 ≤ a) (hb : 0 ≤ b) (h1 : a ≤ A) (h2 : b ≤ B) : a * b ≤ A * B := Int.mul_le_mul h1 h2 hb (by omega)

theorem Sz.mono {N D N' D' : Int} {x : Frac} (h : Sz N D x) (hn : N ≤ N') (hd : D ≤ D') : Sz N' D' x := ⟨h.ok, by have := h.num; omega, by have := h.den; omega⟩

theorem Sz.dpos {N D : Int} {x : Frac} (h : Sz N D x) : 0 < x.den := by have := h.ok.denlo; omega
theorem Sz.dabs {N D : Int} {x : Frac} (h : Sz N D x) : absI x.den ≤ D := by rw [absI_of_pos h.dpos]; exact h.den

theorem sz_of {n d N D : Int} (hd0 : 0 < d) (hn : absI n ≤ N) (hd : d ≤ D) (hN : N ≤ 1000000000000000000) (hD : D ≤ 1000000000000000000) : ∃ c, fracOf n d = (c, 0) ∧ Sz N D c := by
  obtain ⟨c, e⟩ := fracOf_small (n := n) (d := d) (by omega) hd0 (by omega)
  obtain ⟨kc, h⟩ := frac_val hd0 e
  obtain ⟨h1, h2⟩ := least kc hd0 h
  exact ⟨c, e, kc, by omega, by omega⟩

theorem Sz.mul {N D N' D' : Int} {a b : Frac} (ha : Sz N D a) (hb : Sz N' D' b) (hN : N * N' ≤ 1000000000000000000) (hD : D * D' ≤ 1000000000000000000) : ∃ c, mulF a b = (c, 0) ∧ Sz (N * N') (D * D') c := by
  rw [mulF_ok ha.ok hb.ok]
  refine sz_of (den_pos ha.ok hb.ok) ?_ ?_ hN hD
  · rw [absI_mul]; exact mul_le (absI_nn _) (absI_nn _) ha.num hb.num
  · exact mul_le (by have := ha.dpos; omega) (by have := hb.dpos; omega) ha.den hb.den
theorem Sz.add {N D N' D' : Int} {a b : Frac} (ha : Sz N D a) (hb : Sz N' D' b) (hN : N * D' + N' * D ≤ 1000000000000000000) (hD : D * D' ≤ 1000000000000000000) : ∃ c, addF a b = (c, 0) ∧ Sz (N * D' + N' * D) (D * D') c := by
  rw [addF_ok ha.ok hb.ok]
  refine sz_of (den_pos ha.ok hb.ok) ?_ ?_ hN hD
  · refine Int.le_trans (absI_add_le _ _) ?_
    rw [absI_mul, absI_mul]
    have := mul_le (absI_nn _) (absI_nn _) ha.num hb.dabs
    have := mul_le (absI_nn _) (absI_nn _) hb.num ha.dabs
    omega
  · exact mul_le (by have := ha.dpos; omega) (by have := hb.dpos; omega) ha.den hb.den
theorem Sz.sub {N D N' D' : Int} {a b : Frac} (ha : Sz N D a) (hb : Sz N' D' b) (hN : N * D' + N' * D ≤ 1000000000000000000) (hD : D * D' ≤ 1000000000000000000) : ∃ c, subF a b = (c, 0) ∧ Sz (N * D' + N' * D) (D * D') c := by
  rw [subF_ok ha.ok hb.ok]
  refine sz_of (den_pos ha.ok hb.ok) ?_ ?_ hN hD
  · refine Int.le_trans (absI_sub_le _ _) ?_
    rw [absI_mul, absI_mul]
    have := mul_le (absI_nn _) (absI_nn _) ha.num hb.dabs
    have := mul_le (absI_nn _) (absI_nn _) hb.num ha.dabs
    omega
  · exact mul_le (by have := ha.dpos; omega) (by have := hb.dpos; omega) ha.den hb.den
theorem Sz.div {N D N' D' : Int} {a b : Frac} (ha : Sz N D a) (hb : Sz N' D' b) (h0 : b.num ≠ 0) (hN : N * D' ≤ 1000000000000000000) (hD : D * N' ≤ 1000000000000000000) : ∃ c, divF a b = (c, 0) ∧ Sz (N * D') (D * N') c := by
  unfold divF
  rw [fracOkB_iff.2 ha.ok, fracOkB_iff.2 hb.ok, show (b.num == 0) = false by simpa using h0]
  simp only [Bool.and_self, cond_true, cond_false]
  have da := ha.dpos; have db := hb.dpos; have nb := hb.num
  rw [absI_eq] at nb
  by_cases hn : b.num < 0
  · rw [decide_eq_true hn]
    simp only [cond_true]
    refine sz_of (Int.mul_pos da (by omega)) ?_ ?_ hN hD
    · rw [absI_mul, absI_neg]; exact mul_le (absI_nn _) (absI_nn _) ha.num hb.dabs
    · exact mul_le (by omega) (by omega) ha.den (by omega)
  · rw [decide_eq_false hn]
    simp only [cond_false]
    refine sz_of (Int.mul_pos da (by omega)) ?_ ?_ hN hD
    · rw [absI_mul]; exact mul_le (absI_nn _) (absI_nn _) ha.num hb.dabs
    · exact mul_le (by omega) (by omega) ha.den (by omega)

theorem Sz.one : Sz 1 1 oneF := ⟨one_ok, by decide, by decide⟩
theorem Sz.zero : Sz 0 1 zeroF := ⟨zero_ok, by decide, by decide⟩
theorem Sz.neg {N D : Int} {x : Frac} (h : Sz N D x) : Sz N D (negR x) := ⟨negR_ok h.ok, by unfold negR; rw [negN h.ok, absI_neg]; exact h.num, h.den⟩

/-! ### Vectors -/

def dotQ (v w : Vec) : Rat := val v.x * val w.x + val v.y * val w.y + val v.z * val w.z

theorem dotF_cases {v w : Vec} (hv : VecOk v) (hw : VecOk w) : (∃ s, dotF v w = (s, 0) ∧ FracOk s ∧ val s = dotQ v w) ∨ dotF v w = (fracZ, 16) := by
  unfold dotF andF dotQ
  rcases mulF_cases hv.x hw.x with ⟨p, e1, k1⟩ | e1
  · rw [e1]; simp only [addF_nought k1]
    have v1 := (mul_val hv.x hw.x e1).2
    rcases mulF_cases hv.y hw.y with ⟨q, e2, k2⟩ | e2
    · rw [e2]
      have v2 := (mul_val hv.y hw.y e2).2
      simp only [beq_self_eq_true, cond_true]
      rcases addF_cases k1 k2 with ⟨s, e3, k3⟩ | e3
      · rw [e3]
        have v3 := (add_val k1 k2 e3).2
        simp only [beq_self_eq_true, cond_true]
        rcases mulF_cases hv.z hw.z with ⟨r, e4, k4⟩ | e4
        · rw [e4]
          have v4 := (mul_val hv.z hw.z e4).2
          simp only [beq_self_eq_true, cond_true]
          rcases addF_cases k3 k4 with ⟨t, e5, k5⟩ | e5
          · rw [e5]
            have v5 := (add_val k3 k4 e5).2
            exact .inl ⟨t, rfl, k5, by rw [v5, v3, v4, v1, v2]⟩
          · rw [e5]; exact .inr rfl
        · rw [e4]; exact .inr rfl
      · rw [e3]; exact .inr rfl
    · rw [e2]; exact .inr rfl
  · rw [e1]; exact .inr rfl

theorem crossC_val {a b c d r : Frac} (ha : FracOk a) (hb : FracOk b) (hc : FracOk c) (hd : FracOk d) (h : crossC a b c d = (r, 0)) : FracOk r ∧ val r = val a * val b - val c * val d := by
  unfold crossC andF at h
  rcases mulF_cases ha hb with ⟨p, e1, k1⟩ | e1
  · rcases mulF_cases hc hd with ⟨q, e2, k2⟩ | e2
    · rw [e1, e2] at h
      simp only [beq_self_eq_true, cond_true] at h
      obtain ⟨k3, e3⟩ := sub_val k1 k2 h
      exact ⟨k3, by rw [e3, (mul_val ha hb e1).2, (mul_val hc hd e2).2]⟩
    · rw [e1, e2] at h; cases h
  · rw [e1] at h; cases h

theorem vec_eq {v w : Vec} (hv : VecOk v) (hw : VecOk w) (hx : val v.x = val w.x) (hy : val v.y = val w.y) (hz : val v.z = val w.z) : v = w := by
  have h1 := val_inj hv.x hw.x hx
  have h2 := val_inj hv.y hw.y hy
  have h3 := val_inj hv.z hw.z hz
  cases v; cases w
  simp only at h1 h2 h3
  rw [h1, h2, h3]

theorem cross_val {v w u : Vec} (hv : VecOk v) (hw : VecOk w) (h : crossF v w = (u, 0)) : VecOk u ∧ val u.x = val v.y * val w.z - val v.z * val w.y ∧ val u.y = val v.z * val w.x - val v.x * val w.z ∧ val u.z = val v.x * val w.y - val v.y * val w.x := by
  rcases crossF_cases hv hw with ⟨u', e, k, e1, e2, e3⟩ | e
  · rw [h] at e
    cases e
    exact ⟨k, (crossC_val hv.y hw.z hv.z hw.y e1).2, (crossC_val hv.z hw.x hv.x hw.z e2).2, (crossC_val hv.x hw.y hv.y hw.x e3).2⟩
  · rw [h] at e; cases e

theorem cross_small {N D : Int} {a b c d : Frac} (ha : Sz N D a) (hb : Sz N D b) (hc : Sz N D c) (hd : Sz N D d) (hN : N * N ≤ 1000000000000000000) (hD : D * D ≤ 1000000000000000000)
    (h1 : N * N * (D * D) + N * N * (D * D) ≤ 1000000000000000000) (h2 : D * D * (D * D) ≤ 1000000000000000000) : ∃ r, crossC a b c d = (r, 0) := by
  unfold crossC andF
  obtain ⟨p, e1, k1⟩ := ha.mul hb hN hD
  obtain ⟨q, e2, k2⟩ := hc.mul hd hN hD
  obtain ⟨r, e3, k3⟩ := k1.sub k2 h1 h2
  rw [e1, e2]
  exact ⟨r, e3⟩

end Go.Ev

namespace Go.Ev
open Go

/-! ### What the laws ask first -/

def smallOneB (f : Frac) : Bool := fracOkB f && (decide (f.num ≤ 1000) && (decide (-1000 ≤ f.num) && decide (f.den ≤ 20)))
def smallAns (K : AV → List Blk → Ans) : List Frac → Ans
  | [] => K (rB true) []
  | f :: r => bif checkF f != 0 then K (rB false) [] else bif decide (f.num > 1000) then K (rB false) [] else bif decide (f.num < -1000) then K (rB false) [] else bif decide (f.den > 20) then K (rB false) [] else smallAns K r
theorem smallAns_ok {K : AV → List Blk → Ans} : ∀ {l : List Frac}, smallAns K l = K (rB (l.all smallOneB)) []
  | [] => rfl
  | f :: r => by
    rw [smallAns, smallAns_ok, List.all_cons, smallOneB, checkF]
    cases fracOkB f with
    | false => rfl
    | true =>
      by_cases h1 : f.num ≤ 1000
      · by_cases h2 : -1000 ≤ f.num
        · by_cases h3 : f.den ≤ 20
          · rw [decide_eq_true h1, decide_eq_true h2, decide_eq_true h3, decide_eq_false (show ¬ f.num > 1000 by omega), decide_eq_false (show ¬ f.num < -1000 by omega), decide_eq_false (show ¬ f.den > 20 by omega)]; rfl
          · rw [decide_eq_true h1, decide_eq_true h2, decide_eq_false h3, decide_eq_false (show ¬ f.num > 1000 by omega), decide_eq_false (show ¬ f.num < -1000 by omega), decide_eq_true (show f.den > 20 by omega)]; rfl
        · rw [decide_eq_true h1, decide_eq_false h2, decide_eq_false (show ¬ f.num > 1000 by omega), decide_eq_true (show f.num < -1000 by omega)]; rfl
      · rw [decide_eq_false h1, decide_eq_true (show f.num > 1000 by omega)]; rfl
def smallB (v w : Vec) (t : Frac) : Bool := [v.x, v.y, v.z, w.x, w.y, w.z, t].all smallOneB

theorem small_sz {f : Frac} (h : smallOneB f = true) : Sz 1000 20 f := by
  simp only [smallOneB, Bool.and_eq_true, decide_eq_true_eq, fracOkB_iff] at h
  exact ⟨h.1, by rw [absI_eq]; omega, h.2.2.2⟩

structure SmallV (v : Vec) : Prop where
  x : Sz 1000 20 v.x
  y : Sz 1000 20 v.y
  z : Sz 1000 20 v.z
theorem SmallV.ok {v : Vec} (h : SmallV v) : VecOk v := ⟨h.x.ok, h.y.ok, h.z.ok⟩

theorem smallB_iff {v w : Vec} {t : Frac} (h : smallB v w t = true) : SmallV v ∧ SmallV w ∧ Sz 1000 20 t := by
  simp only [smallB, List.all_cons, List.all_nil, Bool.and_true, Bool.and_eq_true] at h
  exact ⟨⟨small_sz h.1, small_sz h.2.1, small_sz h.2.2.1⟩, ⟨small_sz h.2.2.2.1, small_sz h.2.2.2.2.1, small_sz h.2.2.2.2.2.1⟩, small_sz h.2.2.2.2.2.2⟩

def orT : List Bool → Ans → Ans → Ans
  | [], _, B => B
  | c :: r, A, B => bif c then A else orT r A B
def andT : List Bool → Ans → Ans → Ans
  | [], A, _ => A
  | c :: r, A, B => bif c then andT r A B else B
def errT (K : AV → List Blk → Ans) (e : Int) (more : Ans) : Ans := bif e == 0 then more else bif e == 16 then more else K (rB false) []

theorem orT_all {X A B : Ans} : ∀ {l : List Bool}, A = X → B = X → orT l A B = X
  | [], _, hb => hb
  | c :: r, ha, hb => by rw [orT, orT_all ha hb, ha]; cases c <;> rfl
theorem orT_none {A B : Ans} : ∀ {l : List Bool}, (∀ c ∈ l, c = false) → orT l A B = B
  | [], _ => rfl
  | c :: r, h => by rw [orT, h c (by simp), cond_false]; exact orT_none fun x hx => h x (List.mem_cons_of_mem _ hx)
theorem orT_any {A B : Ans} : ∀ {l : List Bool}, l.any id = true → orT l A B = A
  | [], h => by cases h
  | c :: r, h => by
    rw [orT]
    cases c with
    | true => rfl
    | false => exact orT_any (by simpa using h)
theorem orT_split {A B X : Ans} {l : List Bool} (h1 : l.any id = true → A = X) (h2 : (∀ c ∈ l, c = false) → B = X) : orT l A B = X := by
  cases h : l.any id with
  | true => rw [orT_any h]; exact h1 h
  | false =>
    have h' : ∀ c ∈ l, c = false := by simpa using h
    rw [orT_none h']; exact h2 h'
theorem andT_split {A B X : Ans} : ∀ {l : List Bool}, ((∀ c ∈ l, c = true) → A = X) → B = X → andT l A B = X
  | [], h1, _ => h1 (by simp)
  | c :: r, h1, h2 => by
    rw [andT]
    cases c with
    | false => exact h2
    | true => exact andT_split (fun h => h1 (by simpa using h)) h2
theorem errT_ok {K : AV → List Blk → Ans} {e : Int} {more : Ans} (h : e = 0 ∨ e = 16) : errT K e more = more := by
  unfold errT
  rcases h with rfl | rfl <;> rfl

theorem eq_cells {a b : Frac} (h : a = b) : eqAll a.cells b.cells = true := by rw [h]; exact eqAll_self ..
theorem eq_cellsV {a b : Vec} (h : a = b) : eqAll a.cells b.cells = true := by rw [h]; exact eqAll_self ..
theorem eq_cellsM {a b : Mat} (h : a = b) : eqAll a.cells b.cells = true := by rw [h]; exact eqAll_self ..

/-! ### Matrices by their values -/

theorem rowF_cases {v : Vec} {m : Mat} (hv : VecOk v) (hm : MatOk m) : (∃ r, rowF v m = (r, 0) ∧ VecOk r ∧ val r.x = dotQ v m.a ∧ val r.y = dotQ v m.b ∧ val r.z = dotQ v m.c) ∨ rowF v m = (vecZ, 16) := by
  have hx := dotF_cases hv hm.a
  have hy := dotF_cases hv hm.b
  have hz := dotF_cases hv hm.c
  rcases eachV_cases (x := dotF v m.a) (y := dotF v m.b) (z := dotF v m.c) (hx.imp (fun ⟨s, e, k, _⟩ => ⟨s, e, k⟩) id) (hy.imp (fun ⟨s, e, k, _⟩ => ⟨s, e, k⟩) id) (hz.imp (fun ⟨s, e, k, _⟩ => ⟨s, e, k⟩) id) with ⟨r, e, k, e1, e2, e3⟩ | e
  · refine .inl ⟨r, e, k, ?_, ?_, ?_⟩
    · rcases hx with ⟨s, e', _, h⟩ | e'
      · rw [e1] at e'; cases e'; exact h
      · rw [e1] at e'; simp at e'
    · rcases hy with ⟨s, e', _, h⟩ | e'
      · rw [e2] at e'; cases e'; exact h
      · rw [e2] at e'; simp at e'
    · rcases hz with ⟨s, e', _, h⟩ | e'
      · rw [e3] at e'; cases e'; exact h
      · rw [e3] at e'; simp at e'
  · exact .inr e

theorem dotQ_comm (v w : Vec) : dotQ v w = dotQ w v := by unfold dotQ; grind

theorem dotF_comm (v w : Vec) : dotF v w = dotF w v := by
  have h (a b : Frac) : mulF a b = mulF b a := by unfold mulF; rw [Bool.and_comm, Int.mul_comm a.num, Int.mul_comm a.den]
  unfold dotF
  rw [h v.x, h v.y, h v.z]

theorem applyF_cases {m : Mat} {v : Vec} (hm : MatOk m) (hv : VecOk v) : (∃ r, applyF m v = (r, 0) ∧ VecOk r ∧ val r.x = dotQ m.a v ∧ val r.y = dotQ m.b v ∧ val r.z = dotQ m.c v) ∨ applyF m v = (vecZ, 16) := by
  have := rowF_cases hv hm
  unfold rowF at this
  unfold applyF
  rw [dotF_comm m.a, dotF_comm m.b, dotF_comm m.c, dotQ_comm m.a, dotQ_comm m.b, dotQ_comm m.c]
  exact this

structure ProdQ (m c p : Mat) : Prop where
  ok : MatOk p
  ax : val p.a.x = dotQ m.a c.a
  ay : val p.a.y = dotQ m.a c.b
  az : val p.a.z = dotQ m.a c.c
  bx : val p.b.x = dotQ m.b c.a
  by' : val p.b.y = dotQ m.b c.b
  bz : val p.b.z = dotQ m.b c.c
  cx : val p.c.x = dotQ m.c c.a
  cy : val p.c.y = dotQ m.c c.b
  cz : val p.c.z = dotQ m.c c.c

theorem prodC_cases {m c : Mat} (hm : MatOk m) (hc : MatOk c) : (∃ p, prodC m c = (p, 0) ∧ ProdQ m c p) ∨ prodC m c = (matZ, 16) := by
  unfold prodC andG
  rcases rowF_cases hm.a hc with ⟨x, e1, k1, x1, x2, x3⟩ | e
  · rw [e1]
    rcases rowF_cases hm.b hc with ⟨y, e2, k2, y1, y2, y3⟩ | e
    · rw [e2]
      rcases rowF_cases hm.c hc with ⟨z, e3, k3, z1, z2, z3⟩ | e
      · rw [e3]
        exact .inl ⟨⟨x, y, z⟩, rfl, ⟨k1, k2, k3⟩, x1, x2, x3, y1, y2, y3, z1, z2, z3⟩
      · rw [e]; exact .inr rfl
    · rw [e]; exact .inr rfl
  · rw [e]; exact .inr rfl

theorem mat_eq {m n : Mat} (hm : MatOk m) (hn : MatOk n) (ax : val m.a.x = val n.a.x) (ay : val m.a.y = val n.a.y) (az : val m.a.z = val n.a.z) (bx : val m.b.x = val n.b.x) (by' : val m.b.y = val n.b.y) (bz : val m.b.z = val n.b.z)
    (cx : val m.c.x = val n.c.x) (cy : val m.c.y = val n.c.y) (cz : val m.c.z = val n.c.z) : m = n := by
  have h1 := vec_eq hm.a hn.a ax ay az
  have h2 := vec_eq hm.b hn.b bx by' bz
  have h3 := vec_eq hm.c hn.c cx cy cz
  cases m; cases n
  simp only at h1 h2 h3
  rw [h1, h2, h3]

theorem unit_ok : MatOk unitM := ⟨⟨one_ok, zero_ok, zero_ok⟩, ⟨zero_ok, one_ok, zero_ok⟩, ⟨zero_ok, zero_ok, one_ok⟩⟩

def detQ (m : Mat) : Rat := val m.a.x * (val m.b.y * val m.c.z - val m.b.z * val m.c.y) + val m.a.y * (val m.b.z * val m.c.x - val m.b.x * val m.c.z) + val m.a.z * (val m.b.x * val m.c.y - val m.b.y * val m.c.x)

theorem detF_cases {m : Mat} (hm : MatOk m) : (∃ d, detF m = (d, 0) ∧ FracOk d ∧ val d = detQ m) ∨ detF m = (fracZ, 16) := by
  unfold detF andG
  rcases crossF_cases hm.b hm.c with ⟨u, e, ku, _⟩ | e
  · obtain ⟨_, h1, h2, h3⟩ := cross_val hm.b hm.c e
    rw [e]
    rcases dotF_cases hm.a ku with ⟨s, e', k, h⟩ | e'
    · refine .inl ⟨s, e', k, ?_⟩
      rw [h, dotQ, h1, h2, h3, detQ]
    · exact .inr e'
  · rw [e]; exact .inr rfl

structure RotQ (m : Mat) : Prop where
  ok : MatOk m
  aa : dotQ m.a m.a = 1
  ab : dotQ m.a m.b = 0
  ac : dotQ m.a m.c = 0
  bb : dotQ m.b m.b = 1
  bc : dotQ m.b m.c = 0
  cc : dotQ m.c m.c = 1
  det : detQ m = 1

theorem RotQ.is {m : Mat} (h : RotQ m) : isV m = (true, 0) ∨ isV m = (false, 16) := by
  unfold isV andG
  rw [matOkB_iff.2 h.ok]
  have hp : prodF m (flipM m) = prodC m m := rfl
  rw [hp]
  rcases prodC_cases h.ok h.ok with ⟨p, e, q⟩ | e
  · rw [e]
    have hu : p = unitM := by
      refine mat_eq q.ok unit_ok ?_ ?_ ?_ ?_ ?_ ?_ ?_ ?_ ?_
      · rw [q.ax, h.aa]; exact val_one.symm
      · rw [q.ay, h.ab]; exact val_zero.symm
      · rw [q.az, h.ac]; exact val_zero.symm
      · rw [q.bx, dotQ_comm, h.ab]; exact val_zero.symm
      · rw [q.by', h.bb]; exact val_one.symm
      · rw [q.bz, h.bc]; exact val_zero.symm
      · rw [q.cx, dotQ_comm, h.ac]; exact val_zero.symm
      · rw [q.cy, dotQ_comm, h.bc]; exact val_zero.symm
      · rw [q.cz, h.cc]; exact val_one.symm
    rcases detF_cases h.ok with ⟨d, e', kd, hd⟩ | e'
    · rw [e']
      have : d = oneF := val_inj kd one_ok (by rw [hd, h.det, val_one])
      subst this; subst hu
      simp only [beq_self_eq_true, cond_true, eqAll_self, Bool.and_self]
      exact .inl trivial
    · rw [e']; exact .inr rfl
  · rw [e]; exact .inr rfl

/-! ### Turns by their values -/

theorem sq_pos (τ : Rat) : 1 + τ * τ ≠ 0 := by
  have : 0 ≤ τ * τ := by
    rcases Rat.le_total (a := 0) (b := τ) with h | h
    · exact Rat.mul_nonneg h h
    · have : 0 ≤ (-τ) * (-τ) := Rat.mul_nonneg (by grind) (by grind)
      grind
  grind

structure PairQ (τ : Rat) (c s : Frac) : Prop where
  kc : FracOk c
  ks : FracOk s
  hc : val c * (1 + τ * τ) = 1 - τ * τ
  hs : val s * (1 + τ * τ) = 2 * τ

theorem PairQ.one {τ : Rat} {c s : Frac} (h : PairQ τ c s) : val c * val c + val s * val s = 1 := by
  have h1 := h.hc; have h2 := h.hs; have h3 := sq_pos τ
  grind

theorem pair_small {t : Frac} (ht : Sz 1000 1000 t) : ∃ c s, pairF t = ((c, s), 0) ∧ PairQ (val t) c s := by
  obtain ⟨q, e1, k1⟩ := ht.mul ht (by decide) (by decide)
  obtain ⟨lo, e2, k2⟩ := Sz.one.sub k1 (by decide) (by decide)
  obtain ⟨hi, e3, k3⟩ := Sz.one.add k1 (by decide) (by decide)
  have hp := hi_pos ht.ok e1 e3
  obtain ⟨c, e4, k4⟩ := k2.div k3 (by omega) (by decide) (by decide)
  obtain ⟨tw, e5, k5⟩ := ht.add ht (by decide) (by decide)
  obtain ⟨s, e6, k6⟩ := k5.div k3 (by omega) (by decide) (by decide)
  have v1 := (mul_val ht.ok ht.ok e1).2
  have v2 := (sub_val one_ok k1.ok e2).2
  have v3 := (add_val one_ok k1.ok e3).2
  have v4 := (div_val k2.ok k3.ok e4).2.2
  have v5 := (add_val ht.ok ht.ok e5).2
  have v6 := (div_val k5.ok k3.ok e6).2.2
  rw [val_one] at v2 v3
  refine ⟨c, s, ?_, k4.ok, k6.ok, ?_, ?_⟩
  · unfold pairF andG
    rw [e1]; simp only [beq_self_eq_true, cond_true]
    rw [e2, e3]; simp only [beq_self_eq_true, cond_true]
    rw [e4, e5]; simp only [beq_self_eq_true, cond_true]
    rw [e6]; rfl
  · rw [← v1, ← v3, v4, v2]
  · rw [← v1, ← v3, v6, v5]; grind

theorem turn_small {axis : Int} {t : Frac} (ht : Sz 1000 1000 t) (ha : 0 ≤ axis ∧ axis ≤ 2) : ∃ c s, turnF axis t = (turnOf axis c s, 0) ∧ PairQ (val t) c s := by
  obtain ⟨c, s, e, h⟩ := pair_small ht
  refine ⟨c, s, ?_, h⟩
  unfold turnF
  rw [fracOkB_iff.2 ht.ok, decide_eq_true ha.1, decide_eq_true ha.2, e]
  rfl

theorem turnOf_ok {axis : Int} {c s : Frac} (hc : FracOk c) (hs : FracOk s) : MatOk (turnOf axis c s) := by
  have hn := negR_ok hs
  unfold turnOf
  cases axis == 0 with
  | true => exact ⟨⟨one_ok, zero_ok, zero_ok⟩, ⟨zero_ok, hc, hn⟩, ⟨zero_ok, hs, hc⟩⟩
  | false =>
    cases axis == 1 with
    | true => exact ⟨⟨hc, zero_ok, hs⟩, ⟨zero_ok, one_ok, zero_ok⟩, ⟨hn, zero_ok, hc⟩⟩
    | false => exact ⟨⟨hc, hn, zero_ok⟩, ⟨hs, hc, zero_ok⟩, ⟨zero_ok, zero_ok, one_ok⟩⟩

theorem turn0 (c s : Frac) : turnOf 0 c s = ⟨⟨oneF, zeroF, zeroF⟩, ⟨zeroF, c, negR s⟩, ⟨zeroF, s, c⟩⟩ := rfl
theorem turn1 (c s : Frac) : turnOf 1 c s = ⟨⟨c, zeroF, s⟩, ⟨zeroF, oneF, zeroF⟩, ⟨negR s, zeroF, c⟩⟩ := rfl
theorem turn2 (c s : Frac) : turnOf 2 c s = ⟨⟨c, negR s, zeroF⟩, ⟨s, c, zeroF⟩, ⟨zeroF, zeroF, oneF⟩⟩ := rfl

theorem axis_cases {a : Int} (h : 0 ≤ a ∧ a ≤ 2) : a = 0 ∨ a = 1 ∨ a = 2 := by omega

theorem turn_rot {axis : Int} {τ : Rat} {c s : Frac} (ha : 0 ≤ axis ∧ axis ≤ 2) (h : PairQ τ c s) : RotQ (turnOf axis c s) := by
  have ok := turnOf_ok (axis := axis) h.kc h.ks
  have h1 := h.one
  have hn := val_neg h.ks
  rcases axis_cases ha with rfl | rfl | rfl
  · rw [turn0] at ok ⊢
    refine ⟨ok, ?_, ?_, ?_, ?_, ?_, ?_, ?_⟩ <;> simp only [dotQ, detQ, val_one, val_zero, hn] <;> grind
  · rw [turn1] at ok ⊢
    refine ⟨ok, ?_, ?_, ?_, ?_, ?_, ?_, ?_⟩ <;> simp only [dotQ, detQ, val_one, val_zero, hn] <;> grind
  · rw [turn2] at ok ⊢
    refine ⟨ok, ?_, ?_, ?_, ?_, ?_, ?_, ?_⟩ <;> simp only [dotQ, detQ, val_one, val_zero, hn] <;> grind

end Go.Ev

namespace Go.Ev
open Go

def EncQ (a : Span) (x : Rat) : Prop := (a.lo : Rat) ≤ x * 1000000 ∧ x * 1000000 ≤ (a.hi : Rat)

theorem EncQ.of {a : Span} {X d : Int} (hd : 0 < d) (h : Enc a X d) {x : Rat} (hx : x * 1000000 * (d : Rat) = X) : EncQ a x := by
  have hp : (0 : Rat) < (d : Rat) := by exact_mod_cast hd
  have h1 : ((a.lo * d : Int) : Rat) ≤ (X : Rat) := by exact_mod_cast h.1
  have h2 : (X : Rat) ≤ ((a.hi * d : Int) : Rat) := by exact_mod_cast h.2
  rw [Rat.intCast_mul, ← hx] at h1 h2
  exact ⟨Rat.le_of_mul_le_mul_right h1 hp, Rat.le_of_mul_le_mul_right h2 hp⟩

theorem rat_den (x : Rat) : x * ((x.den : Int) : Rat) = (x.num : Rat) := by
  have h : ((x.den : Int) : Rat) ≠ 0 := by exact_mod_cast (show (x.den : Int) ≠ 0 by have := x.den_pos; omega)
  have e : (x.num : Rat) / ((x.den : Int) : Rat) = x := by rw [← Rat.divInt_eq_div]; exact Rat.num_divInt_den x
  have e2 := Rat.div_mul_cancel (a := (x.num : Rat)) h
  rw [e] at e2
  exact e2

theorem EncQ.enc {a : Span} {x : Rat} (h : EncQ a x) : Enc a (x.num * 1000000) (x.den : Int) := by
  have hd : (0 : Int) < (x.den : Int) := by have := x.den_pos; omega
  have hp : (0 : Rat) ≤ ((x.den : Int) : Rat) := by exact_mod_cast (Int.le_of_lt hd)
  have e := rat_den x
  have h1 := Rat.mul_le_mul_of_nonneg_right h.1 hp
  have h2 := Rat.mul_le_mul_of_nonneg_right h.2 hp
  have e' : x * 1000000 * ((x.den : Int) : Rat) = ((x.num * 1000000 : Int) : Rat) := by
    rw [Rat.intCast_mul, ← e]
    have : ((1000000 : Int) : Rat) = 1000000 := rfl
    grind
  rw [e', ← Rat.intCast_mul] at h1 h2
  exact ⟨Rat.intCast_le_intCast.1 h1, Rat.intCast_le_intCast.1 h2⟩

theorem EncQ.lohi {a : Span} {x : Rat} (h : EncQ a x) : a.lo ≤ a.hi := by
  have : (a.lo : Rat) ≤ (a.hi : Rat) := Rat.le_trans h.1 h.2
  exact_mod_cast this

theorem EncQ.mul {a b p : Span} {x y : Rat} (ha : EncQ a x) (hb : EncQ b y) (h : mulS a b = (p, 0)) : EncQ p (x * y) := by
  have h1 : (0 : Int) < (x.den : Int) := by have := x.den_pos; omega
  have h2 : (0 : Int) < (y.den : Int) := by have := y.den_pos; omega
  refine EncQ.of (Int.mul_pos (Int.mul_pos h1 h2) (by omega)) (Enc.mul h1 h2 ha.enc hb.enc h) ?_
  have e1 := rat_den x; have e2 := rat_den y
  simp only [Rat.intCast_mul]
  rw [← e1, ← e2]
  have : ((1000000 : Int) : Rat) = 1000000 := rfl
  grind

theorem EncQ.add {a b p : Span} {x y : Rat} (ha : EncQ a x) (hb : EncQ b y) (h : addS a b = (p, 0)) : EncQ p (x + y) := by
  have l1 := ha.lohi; have l2 := hb.lohi
  have k1 := Enc.add (d := 1) (X := a.lo) (Y := b.lo) (by unfold Enc; omega) (by unfold Enc; omega) h
  have k2 := Enc.add (d := 1) (X := a.hi) (Y := b.hi) (by unfold Enc; omega) (by unfold Enc; omega) h
  unfold Enc at k1 k2
  have c1 : ((p.lo : Int) : Rat) ≤ ((a.lo + b.lo : Int) : Rat) := by exact_mod_cast (show p.lo ≤ a.lo + b.lo by omega)
  have c2 : ((a.hi + b.hi : Int) : Rat) ≤ ((p.hi : Int) : Rat) := by exact_mod_cast (show a.hi + b.hi ≤ p.hi by omega)
  rw [Rat.intCast_add] at c1 c2
  obtain ⟨u1, u2⟩ := ha
  obtain ⟨v1, v2⟩ := hb
  refine ⟨?_, ?_⟩ <;> grind

theorem EncQ.neg {a : Span} {x : Rat} (h : EncQ a x) : EncQ (negS a) (-x) := by
  obtain ⟨u, v⟩ := h
  unfold EncQ negS
  simp only [Rat.intCast_neg]
  refine ⟨?_, ?_⟩ <;> grind
theorem EncQ.zero : EncQ spanZ 0 := by
  unfold EncQ spanZ
  simp only [Rat.intCast_zero]
  refine ⟨?_, ?_⟩ <;> grind

theorem EncQ.common {a b : Span} {x y : Rat} (ha : EncQ a x) (hb : EncQ b y) (h1 : x * 1000000 < y * 1000000 + 1) (h2 : y * 1000000 < x * 1000000 + 1) : commonB a b = true := by
  obtain ⟨u1, u2⟩ := ha
  obtain ⟨v1, v2⟩ := hb
  have c1 : (a.lo : Rat) < ((b.hi + 1 : Int) : Rat) := by rw [Rat.intCast_add, Rat.intCast_one]; grind
  have c2 : (b.lo : Rat) < ((a.hi + 1 : Int) : Rat) := by rw [Rat.intCast_add, Rat.intCast_one]; grind
  have d1 : a.lo < b.hi + 1 := by exact_mod_cast c1
  have d2 : b.lo < a.hi + 1 := by exact_mod_cast c2
  rw [commonB_iff]
  omega

/-! ### Sums of products -/

theorem ranged_cases (a : Span) : (rangedS a = (a, 0) ∧ spanValid a = true) ∨ rangedS a = (spanZ, 16) := by
  unfold rangedS
  cases h : spanValid a with
  | true => exact .inl ⟨rfl, rfl⟩
  | false => exact .inr rfl
theorem mulS_cases {a b : Span} (ha : spanValid a = true) (hb : spanValid b = true) : (∃ p, mulS a b = (p, 0) ∧ spanValid p = true) ∨ mulS a b = (spanZ, 16) := by
  unfold mulS
  rw [ha, hb]
  simp only [Bool.and_self, cond_true]
  rcases ranged_cases ⟨min4 (a.lo * b.lo) (a.lo * b.hi) (a.hi * b.lo) (a.hi * b.hi) / 1000000, -(-(max4 (a.lo * b.lo) (a.lo * b.hi) (a.hi * b.lo) (a.hi * b.hi)) / 1000000)⟩ with ⟨e, v⟩ | e
  · exact .inl ⟨_, e, v⟩
  · exact .inr e
theorem addS_cases {a b : Span} (ha : spanValid a = true) (hb : spanValid b = true) : (∃ p, addS a b = (p, 0) ∧ spanValid p = true) ∨ addS a b = (spanZ, 16) := by
  unfold addS
  rw [ha, hb]
  simp only [Bool.and_self, cond_true]
  rcases ranged_cases ⟨a.lo + b.lo, a.hi + b.hi⟩ with ⟨e, v⟩ | e
  · exact .inl ⟨_, e, v⟩
  · exact .inr e

structure SQ (a : Span) (x : Rat) : Prop where
  ok : spanValid a = true
  enc : EncQ a x

theorem prods_step {sum a b : Span} {r : List (Span × Span)} {z x y : Rat} (hs : SQ sum z) (ha : SQ a x) (hb : SQ b y) : (∃ s, SQ s (z + x * y) ∧ prodsS sum ((a, b) :: r) = prodsS s r) ∨ prodsS sum ((a, b) :: r) = (spanZ, 16) := by
  rw [prodsS]
  rcases mulS_cases ha.ok hb.ok with ⟨p, e, v⟩ | e
  · rcases addS_cases hs.ok v with ⟨s, e', v'⟩ | e'
    · left
      refine ⟨s, ⟨v', hs.enc.add (ha.enc.mul hb.enc e) e'⟩, ?_⟩
      simp [e, e']
    · right; simp [e, e']
  · right; simp [e]

theorem SQ.zero : SQ spanZ 0 := ⟨by decide, EncQ.zero⟩

theorem prods3 {a1 b1 a2 b2 a3 b3 : Span} {x1 y1 x2 y2 x3 y3 : Rat} (h1 : SQ a1 x1) (k1 : SQ b1 y1) (h2 : SQ a2 x2) (k2 : SQ b2 y2) (h3 : SQ a3 x3) (k3 : SQ b3 y3) :
    (∃ p, prodsS spanZ [(a1, b1), (a2, b2), (a3, b3)] = (p, 0) ∧ SQ p (x1 * y1 + x2 * y2 + x3 * y3)) ∨ prodsS spanZ [(a1, b1), (a2, b2), (a3, b3)] = (spanZ, 16) := by
  rcases prods_step (r := [(a2, b2), (a3, b3)]) SQ.zero h1 k1 with ⟨s1, e1, q1⟩ | q1
  · rcases prods_step (r := [(a3, b3)]) e1 h2 k2 with ⟨s2, e2, q2⟩ | q2
    · rcases prods_step (r := []) e2 h3 k3 with ⟨s3, e3, q3⟩ | q3
      · left
        refine ⟨s3, by rw [q1, q2, q3]; rfl, ?_⟩
        have : x1 * y1 + x2 * y2 + x3 * y3 = 0 + x1 * y1 + x2 * y2 + x3 * y3 := by grind
        rw [this]; exact e3
      · right; rw [q1, q2, q3]
    · right; rw [q1, q2]
  · right; rw [q1]

structure DQ (d : Dir) (x y z : Rat) : Prop where
  x : SQ d.x x
  y : SQ d.y y
  z : SQ d.z z

theorem dot_q {a b : Dir} {x y z x' y' z' : Rat} (ha : DQ a x y z) (hb : DQ b x' y' z') : (∃ p, dotS a b = (p, 0) ∧ SQ p (x * x' + y * y' + z * z')) ∨ dotS a b = (spanZ, 16) := by
  unfold dotS
  have : [a.x, a.y, a.z, b.x, b.y, b.z].all spanValid = true := by simp [ha.x.ok, ha.y.ok, ha.z.ok, hb.x.ok, hb.y.ok, hb.z.ok]
  rw [this]
  exact prods3 ha.x hb.x ha.y hb.y ha.z hb.z

theorem of_q {f : Frac} (hf : FracOk f) : (∃ p, ofS f = (p, 0) ∧ SQ p (val f)) ∨ ofS f = (spanZ, 16) := by
  have hd : ofS f = rangedS (aroundS f) := by unfold ofS; rw [fracOkB_iff.2 hf]; rfl
  rcases ranged_cases (aroundS f) with ⟨e, v⟩ | e
  · left
    have e' : ofS f = (aroundS f, 0) := by rw [hd, e]
    refine ⟨_, e', v, ?_⟩
    have k := ofS_enc hf (by rw [e'])
    rw [e'] at k
    refine EncQ.of (by have := hf.denlo; omega) k ?_
    have := val_mul hf
    rw [Rat.intCast_mul, ← this]
    have : ((1000000 : Int) : Rat) = 1000000 := rfl
    grind
  · right; rw [hd, e]

theorem along_q {d : Dir} {v : Vec} {x y z : Rat} (hd : DQ d x y z) (hv : VecOk v) : (∃ p, alongS d v = (p, 0) ∧ SQ p (x * val v.x + y * val v.y + z * val v.z)) ∨ alongS d v = (spanZ, 16) := by
  unfold alongS
  have : [d.x, d.y, d.z].all spanValid = true := by simp [hd.x.ok, hd.y.ok, hd.z.ok]
  rw [this, vecOkB_iff.2 hv]
  simp only [cond_true]
  rcases of_q hv.x with ⟨p, e1, q1⟩ | e1
  · rcases of_q hv.y with ⟨q, e2, q2⟩ | e2
    · rcases of_q hv.z with ⟨r, e3, q3⟩ | e3
      · rw [e1, e2, e3]
        exact prods3 hd.x q1 hd.y q2 hd.z q3
      · right; rw [e1, e2, e3]; rfl
    · right; rw [e1, e2]; rfl
  · right; rw [e1]; rfl

/-! ### Sines as rational numbers -/

def sQ (k : Int) : Rat := (SZ 720 (4 * k) : Rat) / 18446744073709551616
def cQ (k : Int) : Rat := (CZ 720 (4 * k) : Rat) / 18446744073709551616

theorem sinT_q (k : Int) : SQ (sinT k) (sQ k) := by
  refine ⟨unit_valid (sinT_unit k), EncQ.of (by decide) (sinT_enc k) ?_⟩
  unfold sQ
  rw [Rat.intCast_mul]
  have e1 : ((1000000 : Int) : Rat) = 1000000 := rfl
  have e2 : ((18446744073709551616 : Int) : Rat) = 18446744073709551616 := rfl
  rw [e1, e2]
  grind
theorem cosT_q (k : Int) : SQ (cosT k) (cQ k) := by
  refine ⟨unit_valid (cosT_unit k), EncQ.of (by decide) (cosT_enc k) ?_⟩
  unfold cQ
  rw [Rat.intCast_mul]
  have e1 : ((1000000 : Int) : Rat) = 1000000 := rfl
  have e2 : ((18446744073709551616 : Int) : Rat) = 18446744073709551616 := rfl
  rw [e1, e2]
  grind

def tiny : Rat := 1 / 281474976710656

theorem pythQ (k : Int) : -tiny ≤ sQ k * sQ k + cQ k * cQ k - 1 ∧ sQ k * sQ k + cQ k * cQ k - 1 ≤ tiny := by
  have h := pyth (4 * k)
  unfold Abs at h
  have e : (sQ k * sQ k + cQ k * cQ k - 1) * 340282366920938463463374607431768211456 = ((SZ 720 (4 * k) * SZ 720 (4 * k) + CZ 720 (4 * k) * CZ 720 (4 * k) - 340282366920938463463374607431768211456 : Int) : Rat) := by
    unfold sQ cQ
    simp only [Rat.intCast_sub, Rat.intCast_add, Rat.intCast_mul]
    have e2 : ((340282366920938463463374607431768211456 : Int) : Rat) = 340282366920938463463374607431768211456 := rfl
    rw [e2]
    grind
  have t : tiny * 340282366920938463463374607431768211456 = 1208925819614629174706176 := by unfold tiny; grind
  generalize SZ 720 (4 * k) * SZ 720 (4 * k) + CZ 720 (4 * k) * CZ 720 (4 * k) - 340282366920938463463374607431768211456 = Z at *
  have c1 : ((-1208925819614629174706176 : Int) : Rat) ≤ (Z : Rat) := Rat.intCast_le_intCast.2 h.1
  have c2 : (Z : Rat) ≤ ((1208925819614629174706176 : Int) : Rat) := Rat.intCast_le_intCast.2 h.2
  have e3 : ((-1208925819614629174706176 : Int) : Rat) = -1208925819614629174706176 := rfl
  have e4 : ((1208925819614629174706176 : Int) : Rat) = 1208925819614629174706176 := rfl
  rw [e3] at c1
  rw [e4] at c2
  generalize sQ k * sQ k + cQ k * cQ k - 1 = X at *
  refine ⟨?_, ?_⟩ <;> grind

/-! ### The axes -/

def axU (ra tick : Int) : Dir := ⟨negS (sinT (ra - tick)), cosT (ra - tick), spanZ⟩
def axV (ra dec tick : Int) : Dir := ⟨negS (mulS (sinT dec) (cosT (ra - tick))).1, negS (mulS (sinT dec) (sinT (ra - tick))).1, cosT dec⟩

theorem SQ.neg {a : Span} {x : Rat} (h : SQ a x) : SQ (negS a) (-x) := ⟨by rw [spanValid_negS]; exact h.ok, h.enc.neg⟩

theorem axU_q (ra tick : Int) : DQ (axU ra tick) (-sQ (ra - tick)) (cQ (ra - tick)) 0 := ⟨(sinT_q _).neg, cosT_q _, SQ.zero⟩
theorem prod_q {a b : Span} (ua : Unit1 a) (ub : Unit1 b) {x y : Rat} (ha : SQ a x) (hb : SQ b y) : SQ (mulS a b).1 (x * y) ∧ (mulS a b).2 = 0 ∧ Unit1 (mulS a b).1 := by
  obtain ⟨p, e, u⟩ := mulS_unit ua ub
  rw [e]
  exact ⟨⟨unit_valid u, ha.enc.mul hb.enc e⟩, rfl, u⟩
theorem axV_q (ra dec tick : Int) : DQ (axV ra dec tick) (-(sQ dec * cQ (ra - tick))) (-(sQ dec * sQ (ra - tick))) (cQ dec) :=
  ⟨(prod_q (sinT_unit _) (cosT_unit _) (sinT_q _) (cosT_q _)).1.neg, (prod_q (sinT_unit _) (sinT_unit _) (sinT_q _) (sinT_q _)).1.neg, cosT_q _⟩
theorem dirS_q (ra dec tick : Int) : DQ (dirS ra dec tick) (cQ dec * cQ (ra - tick)) (cQ dec * sQ (ra - tick)) (sQ dec) :=
  ⟨(prod_q (cosT_unit _) (cosT_unit _) (cosT_q _) (cosT_q _)).1, (prod_q (cosT_unit _) (sinT_unit _) (cosT_q _) (sinT_q _)).1, sinT_q _⟩

end Go.Ev

namespace Go.Ev
open Go

structure FrameD where
  u : Dir
  v : Dir
  w : Dir
def FrameD.cells (f : FrameD) : List D := [.int .i64 f.u.x.lo, .int .i64 f.u.x.hi, .int .i64 f.u.y.lo, .int .i64 f.u.y.hi, .int .i64 f.u.z.lo, .int .i64 f.u.z.hi,
  .int .i64 f.v.x.lo, .int .i64 f.v.x.hi, .int .i64 f.v.y.lo, .int .i64 f.v.y.hi, .int .i64 f.v.z.lo, .int .i64 f.v.z.hi,
  .int .i64 f.w.x.lo, .int .i64 f.w.x.hi, .int .i64 f.w.y.lo, .int .i64 f.w.y.hi, .int .i64 f.w.z.lo, .int .i64 f.w.z.hi]
def frameZ : FrameD := ⟨dirZ, dirZ, dirZ⟩
def rFrameE (r : FrameD × Int) : AV := .tup [.agg r.1.cells, .c (.d (.int .i64 r.2))]

def axesS (ra dec tick : Int) : FrameD := ⟨axU ra tick, axV ra dec tick, dirS ra dec tick⟩
def axesV (s : Source) (tick : Int) : FrameD × Int := bif (atS s tick).2 == 0 then (axesS s.ra s.dec tick, 0) else (frameZ, (atS s tick).2)
def axesAns (K : AV → List Blk → Ans) (s : Source) (tick : Int) : Ans :=
  bif (atS s tick).2 != 0 then K (rFrameE (frameZ, (atS s tick).2)) [] else
  bif (mulS (sinT s.dec) (cosT (w64 (s.ra - tick)))).2 != 0 then K (rFrameE (frameZ, (mulS (sinT s.dec) (cosT (w64 (s.ra - tick)))).2)) [] else
  bif (mulS (sinT s.dec) (sinT (w64 (s.ra - tick)))).2 != 0 then K (rFrameE (frameZ, (mulS (sinT s.dec) (sinT (w64 (s.ra - tick)))).2)) [] else
  K (rFrameE (⟨⟨negRaw (sinT (w64 (s.ra - tick))), cosT (w64 (s.ra - tick)), spanZ⟩,
    ⟨negRaw (mulS (sinT s.dec) (cosT (w64 (s.ra - tick)))).1, negRaw (mulS (sinT s.dec) (sinT (w64 (s.ra - tick)))).1, cosT s.dec⟩, (atS s tick).1⟩, 0)) []

theorem atS_some {s : Source} {tick : Int} (h : (atS s tick).2 = 0) : SrcOk s ∧ (-1000000 ≤ tick ∧ tick ≤ 1000000) ∧ (atS s tick).1 = dirS s.ra s.dec tick := by
  unfold atS at h ⊢
  cases h1 : checkSrc s != 0 with
  | true => rw [h1] at h; simp at h
  | false =>
    rw [h1] at h
    simp only [cond_false] at h ⊢
    by_cases h2 : tick < -1000000
    · rw [decide_eq_true h2] at h; simp at h
    · rw [decide_eq_false h2] at h ⊢
      by_cases h3 : 1000000 < tick
      · rw [decide_eq_true h3] at h; simp at h
      · rw [decide_eq_false h3]
        exact ⟨checkSrc_iff.1 (by simpa using h1), by omega, rfl⟩

theorem axesAns_ok {K : AV → List Blk → Ans} {s : Source} {tick : Int} : axesAns K s tick = K (rFrameE (axesV s tick)) [] := by
  unfold axesAns axesV
  cases h : (atS s tick).2 == 0 with
  | false => simp only [bne, h, Bool.not_false, cond_true, cond_false]
  | true =>
    simp only [bne, h, Bool.not_true, cond_false, cond_true]
    obtain ⟨hs, ht, hd⟩ := atS_some (by simpa using h)
    have r1 := hs.ra0; have r2 := hs.ra1
    rw [w64_id (n := s.ra - tick) (by omega)]
    have p1 := prod_q (sinT_unit s.dec) (cosT_unit (s.ra - tick)) (sinT_q _) (cosT_q _)
    have p2 := prod_q (sinT_unit s.dec) (sinT_unit (s.ra - tick)) (sinT_q _) (sinT_q _)
    rw [p1.2.1, p2.2.1, negRaw_ok (sinT_q (s.ra - tick)).ok, negRaw_ok p1.1.ok, negRaw_ok p2.1.ok, hd]
    rfl

/-! ### Projections -/

def eachD (x y z : Span × Int) : Dir × Int := bif x.2 != 0 then (dirZ, x.2) else bif y.2 != 0 then (dirZ, y.2) else bif z.2 != 0 then (dirZ, z.2) else (⟨x.1, y.1, z.1⟩, 0)
def eachDAns (K : AV → List Blk → Ans) (x y z : Span × Int) : Ans :=
  bif !eqAll [.int .i64 x.2, .int .i64 y.2, .int .i64 z.2] [.int .i64 0, .int .i64 0, .int .i64 0] then
    (bif x.2 != 0 then K (rDirE (dirZ, x.2)) [] else bif y.2 != 0 then K (rDirE (dirZ, y.2)) [] else bif z.2 != 0 then K (rDirE (dirZ, z.2)) [] else K (rDirE (⟨x.1, y.1, z.1⟩, 0)) [])
  else K (rDirE (⟨x.1, y.1, z.1⟩, 0)) []
theorem eachDAns_ok {K : AV → List Blk → Ans} {x y z : Span × Int} : eachDAns K x y z = K (rDirE (eachD x y z)) [] := by
  unfold eachDAns eachD
  simp only [eqAll, D.eq, Bool.and_true]
  cases hx : x.2 == 0 <;> cases hy : y.2 == 0 <;> cases hz : z.2 == 0 <;> simp [bne, hx, hy, hz] <;> simp_all
def projF (v : Vec) (f : FrameD) : Dir × Int := eachD (alongS f.u v) (alongS f.v v) (alongS f.w v)
def projV (v : Vec) (s : Source) (tick : Int) : Dir × Int := bif (axesV s tick).2 == 0 then projF v (axesV s tick).1 else (dirZ, (axesV s tick).2)
def projAns (K : AV → List Blk → Ans) (v : Vec) (s : Source) (tick : Int) : Ans :=
  bif (axesV s tick).2 != 0 then K (rDirE (dirZ, (axesV s tick).2)) [] else eachDAns K (alongS (axesV s tick).1.u v) (alongS (axesV s tick).1.v v) (alongS (axesV s tick).1.w v)
theorem projAns_ok {K : AV → List Blk → Ans} {v : Vec} {s : Source} {tick : Int} : projAns K v s tick = K (rDirE (projV v s tick)) [] := by
  unfold projAns projV projF
  rw [eachDAns_ok]
  cases h : (axesV s tick).2 == 0 <;> simp [bne, h]

def normV (v : Vec) : Span × Int := bif (dotV v v).2 == 0 then ofS (dotV v v).1 else (spanZ, (dotV v v).2)
def normAns (K : AV → List Blk → Ans) (v : Vec) : Ans := bif (dotV v v).2 != 0 then K (rSpanE (spanZ, (dotV v v).2)) [] else K (rSpanE (ofS (dotV v v).1)) []
theorem normAns_ok {K : AV → List Blk → Ans} {v : Vec} : normAns K v = K (rSpanE (normV v)) [] := by
  unfold normAns normV
  cases h : (dotV v v).2 == 0 <;> simp [bne, h]

/-! ### What the laws ask first -/

def tickB (t : Int) : Bool := bif decide (t ≥ -1000000) then decide (t ≤ 1000000) else false
def fit8B (s : Source) (tick : Int) : Bool := bif decide ((s.name.size : Int) ≤ 200) then bif checkSrc s == 0 then tickB tick else false else false
theorem fit8B_ok {s : Source} {tick : Int} (h : fit8B s tick = true) : axesV s tick = (axesS s.ra s.dec tick, 0) := by
  unfold fit8B at h
  cases h1 : decide ((s.name.size : Int) ≤ 200) with
  | false => rw [h1] at h; cases h
  | true =>
    rw [h1] at h
    cases h2 : checkSrc s == 0 with
    | false => rw [h2] at h; cases h
    | true =>
      rw [h2] at h
      simp only [cond_true, tickB] at h
      by_cases h3 : tick ≥ -1000000
      · rw [decide_eq_true h3, cond_true, decide_eq_true_eq] at h
        unfold axesV
        rw [atS_ok (checkSrc_iff.1 (by simpa using h2)) ⟨by omega, h⟩]
        rfl
      · rw [decide_eq_false h3] at h; cases h

def ofI (n : Int) : Span := ⟨1000000 * n, 1000000 * n⟩
theorem ofI_q (n : Int) : SQ (ofI n) (n : Rat) ∨ spanValid (ofI n) = false := by
  cases h : spanValid (ofI n) with
  | false => exact .inr rfl
  | true =>
    left
    refine ⟨h, ?_⟩
    unfold EncQ ofI
    simp only [Rat.intCast_mul]
    have e1 : ((1000000 : Int) : Rat) = 1000000 := rfl
    rw [e1]
    refine ⟨?_, ?_⟩ <;> grind

/-! ### The law of squares -/

section
variable (K : AV → List Blk → Ans)
def sqStep (d : Span × Int) (want : Int) (more : Ans) : Ans :=
  bif d.2 != 0 then K (rB false) [] else bif !commonB d.1 (ofI want) then K (rB false) [] else bif decide (w64 (d.1.hi - d.1.lo) > 20) then K (rB false) [] else more
def squareMore (f : FrameD) : Ans :=
  sqStep K (dotS f.u f.u) 1 (sqStep K (dotS f.u f.v) 0 (sqStep K (dotS f.u f.w) 0 (sqStep K (dotS f.v f.v) 1 (sqStep K (dotS f.v f.w) 0 (sqStep K (dotS f.w f.w) 1 (K (rB true) []))))))
def lawProjSquare (s : Source) (tick : Int) : Ans :=
  bif !fit8B s tick then K (rB true) [] else bif (axesV s tick).2 != 0 then K (rB false) [] else squareMore K (axesV s tick).1
end

theorem unit_neg {a : Span} (h : Unit1 a) : Unit1 (negS a) := by unfold Unit1 negS at *; simp only; omega
theorem unit_zero : Unit1 spanZ := by unfold Unit1 spanZ; simp
theorem width_neg (a : Span) : (negS a).hi - (negS a).lo = a.hi - a.lo := by unfold negS; simp only; omega

structure Thin (d : Dir) (m n k : Int) : Prop where
  u : Unit1 d.x ∧ Unit1 d.y ∧ Unit1 d.z
  x : d.x.hi - d.x.lo ≤ m
  y : d.y.hi - d.y.lo ≤ n
  z : d.z.hi - d.z.lo ≤ k

theorem axU_thin (ra tick : Int) : Thin (axU ra tick) 1 1 0 := by
  have h1 := sinT_width (ra - tick); have h2 := cosT_width (ra - tick)
  refine ⟨⟨unit_neg (sinT_unit _), cosT_unit _, unit_zero⟩, ?_, h2, by show spanZ.hi - spanZ.lo ≤ 0; decide⟩
  show (negS (sinT (ra - tick))).hi - (negS (sinT (ra - tick))).lo ≤ 1
  rw [width_neg]; exact h1
theorem axV_thin (ra dec tick : Int) : Thin (axV ra dec tick) 3 3 1 := by
  obtain ⟨p, hp, up⟩ := mulS_unit (sinT_unit dec) (cosT_unit (ra - tick))
  obtain ⟨q, hq, uq⟩ := mulS_unit (sinT_unit dec) (sinT_unit (ra - tick))
  have w1 := mulS_width (sinT_unit dec) (cosT_unit (ra - tick)) hp
  have w2 := mulS_width (sinT_unit dec) (sinT_unit (ra - tick)) hq
  have h0 := sinT_width dec; have h1 := sinT_width (ra - tick); have h2 := cosT_width (ra - tick)
  have e1 : (axV ra dec tick).x = negS p := by unfold axV; rw [hp]
  have e2 : (axV ra dec tick).y = negS q := by unfold axV; rw [hq]
  refine ⟨⟨by rw [e1]; exact unit_neg up, by rw [e2]; exact unit_neg uq, cosT_unit _⟩, ?_, ?_, cosT_width dec⟩
  · rw [e1, width_neg]; omega
  · rw [e2, width_neg]; omega
theorem dirS_thin (ra dec tick : Int) : Thin (dirS ra dec tick) 3 3 1 := by
  obtain ⟨h1, h2, h3⟩ := dirS_width ra dec tick
  exact ⟨dirS_unit ra dec tick, h1, h2, h3⟩

theorem sqStep_ok {K : AV → List Blk → Ans} {a b : Dir} {m n k m' n' k' want : Int} {more : Ans} {x y z x' y' z' : Rat} (ha : Thin a m n k) (hb : Thin b m' n' k') (qa : DQ a x y z) (qb : DQ b x' y' z') (hw : m + m' + n + n' + k + k' + 3 ≤ 20)
    (hk : want = 0 ∨ want = 1) (e1 : (x * x' + y * y' + z * z') * 1000000 < (want : Rat) * 1000000 + 1) (e2 : (want : Rat) * 1000000 < (x * x' + y * y' + z * z') * 1000000 + 1) : sqStep K (dotS a b) want more = more := by
  obtain ⟨p, q, r, hp, hq, hr, up, uq, ur, hd⟩ := dotS_unit ha.u hb.u
  have w1 := mulS_width ha.u.1 hb.u.1 hp
  have w2 := mulS_width ha.u.2.1 hb.u.2.1 hq
  have w3 := mulS_width ha.u.2.2 hb.u.2.2 hr
  have a1 := ha.x; have a2 := ha.y; have a3 := ha.z
  have b1 := hb.x; have b2 := hb.y; have b3 := hb.z
  rcases dot_q qa qb with ⟨s, hs, qs⟩ | hs
  · rw [hd] at hs
    cases hs
    have hv : SQ (ofI want) (want : Rat) := by
      rcases ofI_q want with h | h
      · exact h
      · rcases hk with rfl | rfl
        · exact absurd h (by decide)
        · exact absurd h (by decide)
    have hc := qs.enc.common hv.enc e1 e2
    unfold Unit1 at up uq ur
    unfold sqStep
    rw [hd]
    simp only [bne_self_eq_false, cond_false]
    rw [hc, w64_id (by omega), decide_eq_false (by omega)]
    rfl
  · rw [hd] at hs; simp at hs

theorem tiny_small : tiny * 1000000000000 < 1 ∧ 0 ≤ tiny := by unfold tiny; decide +kernel
theorem sq_le_one (k : Int) : sQ k * sQ k ≤ 2 ∧ cQ k * cQ k ≤ 2 := by
  have h := pythQ k
  have t := tiny_small
  have h1 : 0 ≤ sQ k * sQ k := by
    rcases Rat.le_total (a := 0) (b := sQ k) with q | q
    · exact Rat.mul_nonneg q q
    · have : 0 ≤ (-sQ k) * (-sQ k) := Rat.mul_nonneg (by grind) (by grind)
      grind
  have h2 : 0 ≤ cQ k * cQ k := by
    rcases Rat.le_total (a := 0) (b := cQ k) with q | q
    · exact Rat.mul_nonneg q q
    · have : 0 ≤ (-cQ k) * (-cQ k) := Rat.mul_nonneg (by grind) (by grind)
      grind
  generalize sQ k * sQ k = A at *
  generalize cQ k * cQ k = B at *
  obtain ⟨t1, t2⟩ := t
  constructor <;> grind
theorem rsq (x : Rat) : 0 ≤ x * x := by
  rcases Rat.le_total (a := 0) (b := x) with q | q
  · exact Rat.mul_nonneg q q
  · have : 0 ≤ (-x) * (-x) := Rat.mul_nonneg (by grind) (by grind)
    grind

theorem small_part {P X B : Rat} (h1 : -tiny ≤ P) (h2 : P ≤ tiny) (h0 : 0 ≤ X) (hB : X ≤ B) : -(tiny * B) ≤ P * X ∧ P * X ≤ tiny * B := by
  have t := tiny_small.2
  have a1 := Rat.mul_le_mul_of_nonneg_right h2 h0
  have a2 := Rat.mul_le_mul_of_nonneg_right h1 h0
  have a3 := Rat.mul_le_mul_of_nonneg_left hB t
  constructor <;> grind

theorem lawProjSquare_ok {K : AV → List Blk → Ans} {s : Source} {tick : Int} : lawProjSquare K s tick = K (rB true) [] := by
  unfold lawProjSquare
  cases hf : fit8B s tick with
  | false => rfl
  | true =>
    rw [fit8B_ok hf]
    simp only [Bool.not_true, cond_false, bne_self_eq_false]
    unfold squareMore axesS
    simp only
    have tU := axU_thin s.ra tick; have tV := axV_thin s.ra s.dec tick; have tW := dirS_thin s.ra s.dec tick
    have qU := axU_q s.ra tick; have qV := axV_q s.ra s.dec tick; have qW := dirS_q s.ra s.dec tick
    have p1 := pythQ (s.ra - tick); have p2 := pythQ s.dec
    have u1 := sq_le_one s.dec
    have c1 : ((1 : Int) : Rat) = 1 := rfl
    have c0 : ((0 : Int) : Rat) = 0 := rfl
    have t := tiny_small
    have n1 := rsq (sQ s.dec); have n2 := rsq (cQ s.dec)
    generalize sQ (s.ra - tick) = b at *
    generalize cQ (s.ra - tick) = a at *
    generalize sQ s.dec = d at *
    generalize cQ s.dec = c at *
    obtain ⟨t1, t2⟩ := t
    have z1 := small_part p1.1 p1.2 n1 u1.1
    have z2 := small_part p1.1 p1.2 n2 u1.2
    have cd : -(2 : Rat) ≤ c * d ∧ c * d ≤ 2 := by
      have := rsq (c + d); have := rsq (c - d)
      constructor <;> grind
    have z3 : -(tiny * 6) ≤ (b * b + a * a - 1) * (c * d) ∧ (b * b + a * a - 1) * (c * d) ≤ tiny * 6 := by
      have q := small_part (X := c * d + 2) (B := 4) p1.1 p1.2 (by grind) (by grind)
      have q' := small_part (X := 2) (B := 2) p1.1 p1.2 (by decide +kernel) Rat.le_refl
      constructor <;> grind
    rw [sqStep_ok tU tU qU qU (by decide) (.inr rfl) (by rw [c1]; grind) (by rw [c1]; grind),
      sqStep_ok tU tV qU qV (by decide) (.inl rfl) (by rw [c0]; grind) (by rw [c0]; grind),
      sqStep_ok tU tW qU qW (by decide) (.inl rfl) (by rw [c0]; grind) (by rw [c0]; grind),
      sqStep_ok tV tV qV qV (by decide) (.inr rfl) (by rw [c1]; grind) (by rw [c1]; grind),
      sqStep_ok tV tW qV qW (by decide) (.inl rfl) (by rw [c0]; grind) (by rw [c0]; grind),
      sqStep_ok tW tW qW qW (by decide) (.inr rfl) (by rw [c1]; grind) (by rw [c1]; grind)]

/-! ### The law of what is kept -/

section
variable (K : AV → List Blk → Ans)
def keepSq (h : Span × Int) (n : Span) : Ans := bif h.2 == 16 then K (rB true) [] else bif h.2 == 0 then (bif commonB h.1 n then K (rB true) [] else K (rB false) []) else K (rB false) []
def keepEnd (d : Dir × Int) (n : Span × Int) : Ans := orT [d.2 != 0, n.2 != 0] (errT K d.2 (errT K n.2 (K (rB true) []))) (keepSq K (dotS d.1 d.1) n.1)
def keepUp (p : Dir × Int) (more : Ans) : Ans := andT [p.2 == 0, !eqAll p.1.x.cells (ofI 0).cells] (K (rB false) []) (andT [p.2 != 0, p.2 != 16] (K (rB false) []) more)
def lawProjKeeps (v : Vec) (s : Source) (tick : Int) : Ans :=
  orT [!fit8B s tick, checkV v != 0] (K (rB true) []) (keepUp K (projV ⟨zeroF, zeroF, v.z⟩ s tick) (keepEnd K (projV v s tick) (normV v)))
end

theorem mulS_nought {a : Span} (ha : spanValid a = true) : mulS a ⟨0, 0⟩ = (⟨0, 0⟩, 0) := by
  unfold mulS
  rw [ha]
  simp only [Int.mul_zero]
  decide +kernel
theorem ofS_nought : ofS zeroF = (⟨0, 0⟩, 0) := by decide +kernel
theorem addS_nought : addS spanZ ⟨0, 0⟩ = (spanZ, 0) := by decide +kernel

theorem up_zero {z : Frac} (ra tick : Int) (hz : FracOk z) : alongS (axU ra tick) ⟨zeroF, zeroF, z⟩ = (spanZ, 0) ∨ alongS (axU ra tick) ⟨zeroF, zeroF, z⟩ = (spanZ, 16) := by
  have q := axU_q ra tick
  have hv : [(axU ra tick).x, (axU ra tick).y, (axU ra tick).z].all spanValid = true := by simp [q.x.ok, q.y.ok, q.z.ok]
  have kv : vecOkB ⟨zeroF, zeroF, z⟩ = true := vecOkB_iff.2 ⟨zero_ok, zero_ok, hz⟩
  unfold alongS
  rw [hv, kv, ofS_nought]
  simp only [cond_true, bne_self_eq_false, cond_false]
  rcases of_q hz with ⟨r, e, k⟩ | e
  · left
    rw [e]
    simp only [bne_self_eq_false, cond_false]
    have m3 : mulS (axU ra tick).z r = (⟨0, 0⟩, 0) := by rw [show (axU ra tick).z = ⟨0, 0⟩ from rfl, mulS_comm]; exact mulS_nought k.ok
    simp [prodsS, mulS_nought q.x.ok, mulS_nought q.y.ok, m3, addS_nought]
  · right; rw [e]; rfl

theorem proj_q {v : Vec} (hv : VecOk v) (ra dec tick : Int) : (∃ d, projF v (axesS ra dec tick) = (d, 0) ∧ alongS (axU ra tick) v = (d.x, 0) ∧ DQ d (-sQ (ra - tick) * val v.x + cQ (ra - tick) * val v.y + 0 * val v.z)
    (-(sQ dec * cQ (ra - tick)) * val v.x + -(sQ dec * sQ (ra - tick)) * val v.y + cQ dec * val v.z) (cQ dec * cQ (ra - tick) * val v.x + cQ dec * sQ (ra - tick) * val v.y + sQ dec * val v.z)) ∨ projF v (axesS ra dec tick) = (dirZ, 16) := by
  unfold projF axesS eachD
  simp only
  rcases along_q (axU_q ra tick) hv with ⟨p, e1, q1⟩ | e1
  · rcases along_q (axV_q ra dec tick) hv with ⟨q, e2, q2⟩ | e2
    · rcases along_q (dirS_q ra dec tick) hv with ⟨r, e3, q3⟩ | e3
      · left
        rw [e1, e2, e3]
        exact ⟨⟨p, q, r⟩, rfl, rfl, q1, q2, q3⟩
      · right; rw [e1, e2, e3]; rfl
    · right; rw [e1, e2]; rfl
  · right; rw [e1]; rfl

theorem norm_q {v : Vec} (hv : VecOk v) : (∃ n, normV v = (n, 0) ∧ SQ n (dotQ v v)) ∨ normV v = (spanZ, 16) := by
  unfold normV
  rw [dotV_ok hv hv]
  rcases dotF_cases hv hv with ⟨m, e, k, h⟩ | e
  · rw [e]
    simp only [beq_self_eq_true, cond_true]
    rw [← h]
    exact of_q k
  · right; rw [e]; rfl

theorem keeps_bound {a b c d x y z : Rat} (p1 : -tiny ≤ b * b + a * a - 1) (p2 : b * b + a * a - 1 ≤ tiny) (r1 : -tiny ≤ d * d + c * c - 1) (r2 : d * d + c * c - 1 ≤ tiny) (hN : x * x + y * y + z * z ≤ 3000) :
    ((-b * x + a * y + 0 * z) * (-b * x + a * y + 0 * z) + (-(d * a) * x + -(d * b) * y + c * z) * (-(d * a) * x + -(d * b) * y + c * z) + (c * a * x + c * b * y + d * z) * (c * a * x + c * b * y + d * z)) * 1000000 < (x * x + y * y + z * z) * 1000000 + 1 ∧
    (x * x + y * y + z * z) * 1000000 < ((-b * x + a * y + 0 * z) * (-b * x + a * y + 0 * z) + (-(d * a) * x + -(d * b) * y + c * z) * (-(d * a) * x + -(d * b) * y + c * z) + (c * a * x + c * b * y + d * z) * (c * a * x + c * b * y + d * z)) * 1000000 + 1 := by
  have sx := rsq x; have sy := rsq y; have sz := rsq z
  have su := rsq (-b * x + a * y)
  have sh := rsq (a * x + b * y)
  obtain ⟨t1, t2⟩ := tiny_small
  have k1 := small_part (X := x * x + y * y) (B := 3000) p1 p2 (by grind) (by grind)
  have e1 : (-b * x + a * y) * (-b * x + a * y) + (a * x + b * y) * (a * x + b * y) = (x * x + y * y) + (b * b + a * a - 1) * (x * x + y * y) := by grind
  have hH : (a * x + b * y) * (a * x + b * y) ≤ 3001 := by grind
  have k2 := small_part (X := (a * x + b * y) * (a * x + b * y) + z * z) (B := 7000) r1 r2 (by grind) (by grind)
  have e2 : (-b * x + a * y + 0 * z) * (-b * x + a * y + 0 * z) + (-(d * a) * x + -(d * b) * y + c * z) * (-(d * a) * x + -(d * b) * y + c * z) + (c * a * x + c * b * y + d * z) * (c * a * x + c * b * y + d * z)
      = (x * x + y * y + z * z) + (b * b + a * a - 1) * (x * x + y * y) + (d * d + c * c - 1) * ((a * x + b * y) * (a * x + b * y) + z * z) := by grind
  rw [e2]
  generalize (b * b + a * a - 1) * (x * x + y * y) = A at *
  generalize (d * d + c * c - 1) * ((a * x + b * y) * (a * x + b * y) + z * z) = B at *
  generalize x * x + y * y + z * z = N at *
  constructor <;> grind

theorem lawProjKeeps_ok {K : AV → List Blk → Ans} {v : Vec} {s : Source} {tick : Int} : lawProjKeeps K v s tick = K (rB true) [] := by
  unfold lawProjKeeps
  refine orT_split (fun _ => rfl) fun hs => ?_
  simp only [List.mem_cons, List.not_mem_nil, or_false, forall_eq_or_imp, forall_eq, Bool.not_eq_false', bne_eq_false_iff_eq] at hs
  obtain ⟨hf, hc⟩ := hs
  have hv : VecOk v := by
    unfold checkV at hc
    cases hq : vecOkB v with
    | true => exact vecOkB_iff.1 hq
    | false => rw [hq] at hc; cases hc
  have ha := fit8B_ok hf
  have hP : ∀ w, projV w s tick = projF w (axesS s.ra s.dec tick) := fun w => by unfold projV; rw [ha]; rfl
  rw [hP, hP]
  have hend : keepEnd K (projF v (axesS s.ra s.dec tick)) (normV v) = K (rB true) [] := by
    unfold keepEnd
    rcases proj_q hv s.ra s.dec tick with ⟨d, e, _, q⟩ | e
    · rcases norm_q hv with ⟨n, en, qn⟩ | en
      · rw [e, en]
        refine orT_split (fun h => by simp at h) fun _ => ?_
        unfold keepSq
        rcases dot_q q q with ⟨h, eh, qh⟩ | eh
        · rw [eh]
          have hN : dotQ v v ≤ 3000 := by
            have h1 := qn.enc.2
            have h2 := (spanValid_iff.1 qn.ok)
            have h3 : (n.hi : Rat) ≤ ((3000000000 : Int) : Rat) := Rat.intCast_le_intCast.2 (by omega)
            have e3 : ((3000000000 : Int) : Rat) = 3000000000 := rfl
            rw [e3] at h3
            grind
          unfold dotQ at hN
          have p1 := pythQ (s.ra - tick); have p2 := pythQ s.dec
          have kb := keeps_bound p1.1 p1.2 p2.1 p2.2 hN
          have hcm := qh.enc.common qn.enc (by unfold dotQ; exact kb.1) (by unfold dotQ; exact kb.2)
          simp only
          rw [hcm]
          rfl
        · rw [eh]; rfl
      · rw [e, en]; exact orT_split (fun _ => rfl) fun h => by simp at h
    · rw [e]
      refine orT_split (fun _ => ?_) fun h => by simp at h
      rw [errT_ok (.inr rfl)]
      rcases norm_q hv with ⟨n, en, _⟩ | en
      · rw [en]; rfl
      · rw [en]; rfl
  unfold keepUp
  rw [hend]
  have ku : VecOk ⟨zeroF, zeroF, v.z⟩ := ⟨zero_ok, zero_ok, hv.z⟩
  rcases proj_q ku s.ra s.dec tick with ⟨d, e, e1, _⟩ | e
  · rw [e]
    refine andT_split (fun hall => ?_) (andT_split (fun hall => by simp at hall) rfl)
    exfalso
    rcases up_zero s.ra tick hv.z with e2 | e2
    · rw [e2] at e1
      have hx : d.x = spanZ := ((Prod.mk.inj e1).1).symm
      simp only [List.mem_cons, List.not_mem_nil, or_false, forall_eq_or_imp, forall_eq] at hall
      rw [hx] at hall
      exact absurd hall.2 (by decide)
    · rw [e2] at e1; simp at e1
  · rw [e]
    exact andT_split (fun hall => by simp at hall) (andT_split (fun hall => by simp at hall) rfl)

end Go.Ev

namespace Go.Ev
open Go

def rDir (d : Dir) : AV := .v (.agg d.cells)
def sinesR (k : Int) : Span × Span := ((cosR k 720).1, (sinR k 720).1)
theorem sinesR_eq (k : Int) : sinesR k = (cosT k, sinT k) := by unfold sinesR; rw [cosR720, sinR720]

def dirR (ra dec tick : Int) : Dir := ⟨(mulS (cosT dec) (cosT (w64 (ra - tick)))).1, (mulS (cosT dec) (sinT (w64 (ra - tick)))).1, sinT dec⟩
theorem dirR_eq {s : Source} {tick : Int} (hs : SrcOk s) (ht : -1000000 ≤ tick ∧ tick ≤ 1000000) : dirR s.ra s.dec tick = dirS s.ra s.dec tick := by
  have r1 := hs.ra0; have r2 := hs.ra1
  unfold dirR dirS
  rw [w64_id (n := s.ra - tick) (by omega)]
def at6Ref (K : AV → List Blk → Ans) (s : Source) (tick : Int) : Ans := bif checkSrc s != 0 then K (rDirE (dirZ, checkSrc s)) [] else bif !tickB tick then K (rDirE (dirZ, 2)) [] else K (rDirE (dirR s.ra s.dec tick, 0)) []
theorem at6Ref_ok {K : AV → List Blk → Ans} {s : Source} {tick : Int} : at6Ref K s tick = K (rDirE (atS s tick)) [] := by
  unfold at6Ref
  rcases checkSrc_or s with h | h
  · rw [h]
    simp only [bne_self_eq_false, cond_false]
    unfold tickB atS
    rw [h]
    simp only [bne_self_eq_false, cond_false]
    by_cases h1 : tick < -1000000
    · rw [decide_eq_true h1, decide_eq_false (show ¬ tick ≥ -1000000 by omega)]; rfl
    · rw [decide_eq_false h1, decide_eq_true (show tick ≥ -1000000 by omega)]
      by_cases h2 : 1000000 < tick
      · rw [decide_eq_true h2, decide_eq_false (show ¬ tick ≤ 1000000 by omega)]; rfl
      · rw [decide_eq_false h2, decide_eq_true (show tick ≤ 1000000 by omega), dirR_eq (checkSrc_iff.1 h) (by omega)]; rfl
  · rw [h]; unfold atS; rw [h]; rfl

def dirOkB (d : Dir) : Bool := [d.x, d.y, d.z].all spanValid
def dirOkRef (K : AV → List Blk → Ans) (d : Dir) : Ans := chain K [spanValid d.x, spanValid d.y, spanValid d.z]
theorem dirOkRef_ok {K : AV → List Blk → Ans} {d : Dir} : dirOkRef K d = K (rB (dirOkB d)) [] := by
  unfold dirOkRef dirOkB chain chain chain
  cases h1 : spanValid d.x <;> cases h2 : spanValid d.y <;> simp [h1, h2]

def maxI3 (e f h : Int) : Int := if h > (if f > e then f else e) then h else (if f > e then f else e)
def dot6 (x y z : Span × Int) : Span × Int := bif x.2 != 0 then (spanZ, maxI3 x.2 y.2 z.2) else bif y.2 != 0 then (spanZ, maxI3 x.2 y.2 z.2) else bif z.2 != 0 then (spanZ, maxI3 x.2 y.2 z.2) else
  bif (addS x.1 y.1).2 != 0 then (spanZ, (addS x.1 y.1).2) else addS (addS x.1 y.1).1 z.1
def dot6Ans (K : AV → List Blk → Ans) (x y z : Span × Int) : Ans := bif x.2 != 0 then K (rSpanE (spanZ, maxI3 x.2 y.2 z.2)) [] else bif y.2 != 0 then K (rSpanE (spanZ, maxI3 x.2 y.2 z.2)) [] else bif z.2 != 0 then K (rSpanE (spanZ, maxI3 x.2 y.2 z.2)) [] else
  bif (addS x.1 y.1).2 != 0 then K (rSpanE (spanZ, (addS x.1 y.1).2)) [] else K (rSpanE (addS (addS x.1 y.1).1 z.1)) []
theorem dot6Ans_ok {K : AV → List Blk → Ans} {x y z : Span × Int} : dot6Ans K x y z = K (rSpanE (dot6 x y z)) [] := by
  unfold dot6Ans dot6
  cases x.2 != 0 <;> cases y.2 != 0 <;> cases z.2 != 0 <;> cases (addS x.1 y.1).2 != 0 <;> rfl

theorem add_zero_l {p : Span} (h : spanValid p = true) : addS spanZ p = (p, 0) := by
  unfold addS rangedS
  have e : (⟨spanZ.lo + p.lo, spanZ.hi + p.hi⟩ : Span) = p := by cases p; simp [spanZ]
  rw [h, show spanValid spanZ = true by decide, e, h]
  rfl

theorem dot6_eq {a b : Dir} (ha : dirOkB a = true) (hb : dirOkB b = true) : dot6 (mulS a.x b.x) (mulS a.y b.y) (mulS a.z b.z) = dotS a b := by
  simp only [dirOkB, List.all_cons, List.all_nil, Bool.and_true, Bool.and_eq_true] at ha hb
  obtain ⟨a1, a2, a3⟩ := ha
  obtain ⟨b1, b2, b3⟩ := hb
  have hv : [a.x, a.y, a.z, b.x, b.y, b.z].all spanValid = true := by simp [a1, a2, a3, b1, b2, b3]
  unfold dotS dot6 maxI3
  rw [hv]
  simp only [cond_true]
  rcases mulS_cases a1 b1 with ⟨p, e1, v1⟩ | e1
  · rcases mulS_cases a2 b2 with ⟨q, e2, v2⟩ | e2
    · rcases addS_cases v1 v2 with ⟨s, e3, v3⟩ | e3
      · rcases mulS_cases a3 b3 with ⟨r, e4, v4⟩ | e4
        · rcases addS_cases v3 v4 with ⟨t, e5, v5⟩ | e5
          · simp [prodsS, e1, e2, e3, e4, e5, add_zero_l v1]
          · simp [prodsS, e1, e2, e3, e4, e5, add_zero_l v1]
        · simp [prodsS, e1, e2, e3, e4, add_zero_l v1]
      · rcases mulS_cases a3 b3 with ⟨r, e4, v4⟩ | e4
        · simp [prodsS, e1, e2, e3, e4, add_zero_l v1]
        · simp [prodsS, e1, e2, e3, e4, add_zero_l v1]
    · rcases mulS_cases a3 b3 with ⟨r, e4, v4⟩ | e4
      · simp [prodsS, e1, e2, e4, add_zero_l v1]
      · simp [prodsS, e1, e2, e4, add_zero_l v1]
  · rcases mulS_cases a2 b2 with ⟨q, e2, v2⟩ | e2
    · rcases mulS_cases a3 b3 with ⟨r, e4, v4⟩ | e4
      · simp [prodsS, e1, e2, e4]
      · simp [prodsS, e1, e2, e4]
    · rcases mulS_cases a3 b3 with ⟨r, e4, v4⟩ | e4
      · simp [prodsS, e1, e2, e4]
      · simp [prodsS, e1, e2, e4]

def dotRef6 (K : AV → List Blk → Ans) (a b : Dir) : Ans := bif !dirOkB a then K (rSpanE (spanZ, 8)) [] else bif !dirOkB b then K (rSpanE (spanZ, 8)) [] else dot6Ans K (mulS a.x b.x) (mulS a.y b.y) (mulS a.z b.z)
theorem dotS_bad {a b : Dir} (h : (dirOkB a && dirOkB b) = false) : dotS a b = (spanZ, 8) := by
  have : [a.x, a.y, a.z, b.x, b.y, b.z].all spanValid = (dirOkB a && dirOkB b) := by unfold dirOkB; simp [Bool.and_assoc]
  unfold dotS
  rw [this, h]
  rfl
theorem dotRef6_ok {K : AV → List Blk → Ans} {a b : Dir} : dotRef6 K a b = K (rSpanE (dotS a b)) [] := by
  unfold dotRef6
  cases ha : dirOkB a with
  | false => rw [dotS_bad (by rw [ha]; rfl)]; rfl
  | true =>
    cases hb : dirOkB b with
    | false => rw [dotS_bad (by rw [ha, hb]; rfl)]; rfl
    | true => rw [dot6Ans_ok, dot6_eq ha hb]; rfl

def encD (x y z : Span × Int) : Dir × Int := bif x.2 != 0 then (dirZ, maxI3 x.2 y.2 z.2) else bif y.2 != 0 then (dirZ, maxI3 x.2 y.2 z.2) else bif z.2 != 0 then (dirZ, maxI3 x.2 y.2 z.2) else (⟨x.1, y.1, z.1⟩, 0)
def encAns (K : AV → List Blk → Ans) (x y z : Span × Int) : Ans := bif x.2 != 0 then K (rDirE (dirZ, maxI3 x.2 y.2 z.2)) [] else bif y.2 != 0 then K (rDirE (dirZ, maxI3 x.2 y.2 z.2)) [] else bif z.2 != 0 then K (rDirE (dirZ, maxI3 x.2 y.2 z.2)) [] else K (rDirE (⟨x.1, y.1, z.1⟩, 0)) []
theorem encAns_ok {K : AV → List Blk → Ans} {x y z : Span × Int} : encAns K x y z = K (rDirE (encD x y z)) [] := by
  unfold encAns encD
  cases x.2 != 0 <;> cases y.2 != 0 <;> cases z.2 != 0 <;> rfl
def enclosedR (v : Vec) : Dir × Int := encD (ofS v.x) (ofS v.y) (ofS v.z)

def alongRef (K : AV → List Blk → Ans) (d : Dir) (v : Vec) : Ans :=
  bif !dirOkB d then K (rSpanE (spanZ, 8)) [] else bif checkV v != 0 then K (rSpanE (spanZ, 8)) [] else bif (enclosedR v).2 != 0 then K (rSpanE (spanZ, (enclosedR v).2)) [] else K (rSpanE (dotS d (enclosedR v).1)) []
theorem alongRef_ok {K : AV → List Blk → Ans} {d : Dir} {v : Vec} : alongRef K d v = K (rSpanE (alongS d v)) [] := by
  unfold alongRef alongS checkV
  rw [show [d.x, d.y, d.z].all spanValid = dirOkB d from rfl]
  cases hd : dirOkB d with
  | false => rfl
  | true =>
    cases hv : vecOkB v with
    | false => rfl
    | true =>
      have kv := vecOkB_iff.1 hv
      simp only [Bool.not_true, cond_false, cond_true, bne_self_eq_false]
      unfold enclosedR encD maxI3
      rcases of_q kv.x with ⟨p, e1, q1⟩ | e1
      · rcases of_q kv.y with ⟨q, e2, q2⟩ | e2
        · rcases of_q kv.z with ⟨r, e3, q3⟩ | e3
          · rw [e1, e2, e3]
            simp only [bne_self_eq_false, cond_false]
            have hall : [d.x, d.y, d.z, p, q, r].all spanValid = true := by
              have : dirOkB d = true := hd
              simp only [dirOkB, List.all_cons, List.all_nil, Bool.and_true, Bool.and_eq_true] at this
              simp [this.1, this.2.1, this.2.2, q1.ok, q2.ok, q3.ok]
            unfold dotS
            simp only
            rw [hall]
            rfl
          · rw [e1, e2, e3]; rfl
        · rcases of_q kv.z with ⟨r, e3, q3⟩ | e3
          · rw [e1, e2, e3]; rfl
          · rw [e1, e2, e3]; rfl
      · rcases of_q kv.y with ⟨q, e2, q2⟩ | e2
        · rcases of_q kv.z with ⟨r, e3, q3⟩ | e3
          · rw [e1, e2, e3]; rfl
          · rw [e1, e2, e3]; rfl
        · rcases of_q kv.z with ⟨r, e3, q3⟩ | e3
          · rw [e1, e2, e3]; rfl
          · rw [e1, e2, e3]; rfl

/-! ### Axes and projections -/

def axesRRaw (s : Source) (tick : Int) : FrameD :=
  ⟨⟨negRaw (sinR (w64 (s.ra - tick)) 720).1, (cosR (w64 (s.ra - tick)) 720).1, spanZ⟩,
   ⟨negRaw (mulS (sinR s.dec 720).1 (cosR (w64 (s.ra - tick)) 720).1).1, negRaw (mulS (sinR s.dec 720).1 (sinR (w64 (s.ra - tick)) 720).1).1, (cosR s.dec 720).1⟩, (atS s tick).1⟩
def axesRef (K : AV → List Blk → Ans) (s : Source) (tick : Int) : Ans := bif (atS s tick).2 != 0 then K (rFrameE (frameZ, (atS s tick).2)) [] else K (rFrameE (axesRRaw s tick, 0)) []
theorem axesRef_ok {K : AV → List Blk → Ans} {s : Source} {tick : Int} : axesRef K s tick = K (rFrameE (axesV s tick)) [] := by
  unfold axesRef axesV
  cases h : (atS s tick).2 == 0 with
  | false => simp only [bne, h, Bool.not_false, cond_true, cond_false]
  | true =>
    simp only [bne, h, Bool.not_true, cond_false, cond_true]
    obtain ⟨hs, ht, hd⟩ := atS_some (by simpa using h)
    have r1 := hs.ra0; have r2 := hs.ra1
    unfold axesRRaw
    rw [w64_id (n := s.ra - tick) (by omega), cosR720, cosR720, sinR720, sinR720]
    have p1 := prod_q (sinT_unit s.dec) (cosT_unit (s.ra - tick)) (sinT_q _) (cosT_q _)
    have p2 := prod_q (sinT_unit s.dec) (sinT_unit (s.ra - tick)) (sinT_q _) (sinT_q _)
    simp only
    rw [negRaw_ok (sinT_q (s.ra - tick)).ok, negRaw_ok p1.1.ok, negRaw_ok p2.1.ok, hd]
    rfl

def projRef (K : AV → List Blk → Ans) (v : Vec) (s : Source) (tick : Int) : Ans :=
  bif (axesV s tick).2 != 0 then K (rDirE (dirZ, (axesV s tick).2)) [] else
  bif (alongS (axesV s tick).1.u v).2 != 0 then K (rDirE (dirZ, (alongS (axesV s tick).1.u v).2)) [] else
  bif (alongS (axesV s tick).1.v v).2 != 0 then K (rDirE (dirZ, (alongS (axesV s tick).1.v v).2)) [] else
  bif (alongS (axesV s tick).1.w v).2 != 0 then K (rDirE (dirZ, (alongS (axesV s tick).1.w v).2)) [] else
  K (rDirE (⟨(alongS (axesV s tick).1.u v).1, (alongS (axesV s tick).1.v v).1, (alongS (axesV s tick).1.w v).1⟩, 0)) []
theorem projRef_ok {K : AV → List Blk → Ans} {v : Vec} {s : Source} {tick : Int} : projRef K v s tick = K (rDirE (projV v s tick)) [] := by
  unfold projRef projV projF eachD
  cases h : (axesV s tick).2 == 0 with
  | false => simp [bne, h]
  | true =>
    simp only [bne, h, Bool.not_true, cond_false, cond_true]
    cases (alongS (axesV s tick).1.u v).2 == 0 <;> cases (alongS (axesV s tick).1.v v).2 == 0 <;> cases (alongS (axesV s tick).1.w v).2 == 0 <;> rfl

def lawProjAxes (K : AV → List Blk → Ans) (v : Vec) (s : Source) (tick : Int) : Ans :=
  bif decide ((s.name.size : Int) > 200) then K (rB true) [] else
  chain K [eqAll (axesV s tick).1.cells (axesV s tick).1.cells, (axesV s tick).2 == (axesV s tick).2, eqAll (projV v s tick).1.cells (projV v s tick).1.cells, (projV v s tick).2 == (projV v s tick).2, eqAll (normV v).1.cells (normV v).1.cells, (normV v).2 == (normV v).2]
theorem lawProjAxes_ok {K : AV → List Blk → Ans} {v : Vec} {s : Source} {tick : Int} : lawProjAxes K v s tick = K (rB true) [] := by
  unfold lawProjAxes
  cases decide ((s.name.size : Int) > 200) with
  | true => rfl
  | false =>
    refine chain_true fun c hc => ?_
    simp only [eqAll_self, beq_self_eq_true, List.mem_cons, List.not_mem_nil, or_false, or_self] at hc
    exact hc

end Go.Ev

namespace Go.Ev
open Go

def keptTail (K : AV → List Blk → Ans) (v : Vec) (a : Mat × Int) (b : Bool × Int) (c d : Vec × Int) (e f : Frac × Int) (g : Mat × Int) (h : Vec × Int) : Ans :=
  orT [a.2 != 0, b.2 != 0, c.2 != 0, d.2 != 0, e.2 != 0, f.2 != 0, g.2 != 0, h.2 != 0]
    (bif a.2 == 0 then errT K b.2 (K (rB true) []) else K (rB false) [])
    (chain K [b.1, eqAll e.1.cells f.1.cells, eqAll h.1.cells v.cells, true])
def keptMore (K : AV → List Blk → Ans) (v w : Vec) (a : Mat × Int) : Ans :=
  keptTail K v a (isV a.1) (applyV a.1 v) (applyV a.1 w) (dotV v w) (dotV (applyV a.1 v).1 (applyV a.1 w).1) (flipV a.1) (applyV (flipV a.1).1 (applyV a.1 v).1)
def lawVecKept (K : AV → List Blk → Ans) (v w : Vec) (axis : Int) (t : Frac) : Ans :=
  orT [!smallB v w t, decide (axis < 0), decide (axis > 2), decide (t.num > 20), decide (t.num < -20)] (K (rB true) []) (keptMore K v w (turnF axis t))

theorem applyV_ok {m : Mat} {v : Vec} (hm : MatOk m) (hv : VecOk v) : applyV m v = applyF m v := by unfold applyV; rw [matOkB_iff.2 hm, vecOkB_iff.2 hv]; rfl
theorem flipV_ok {m : Mat} (hm : MatOk m) : flipV m = (flipM m, 0) := by unfold flipV; rw [matOkB_iff.2 hm]; rfl

theorem lawVecKept_ok {K : AV → List Blk → Ans} {v w : Vec} {axis : Int} {t : Frac} : lawVecKept K v w axis t = K (rB true) [] := by
  unfold lawVecKept
  refine orT_split (fun _ => rfl) fun hs => ?_
  simp only [List.mem_cons, List.not_mem_nil, or_false, forall_eq_or_imp, forall_eq, Bool.not_eq_false', decide_eq_false_iff_not] at hs
  obtain ⟨hs, ha1, ha2, _, _⟩ := hs
  obtain ⟨hv, hw, ht⟩ := smallB_iff hs
  have kv := hv.ok; have kw := hw.ok
  have ha : 0 ≤ axis ∧ axis ≤ 2 := by omega
  obtain ⟨c, s, em, hp⟩ := turn_small (axis := axis) (ht.mono (by decide) (by decide)) ha
  have hr := turn_rot ha hp
  have h1 := hp.one
  have hn := val_neg hp.ks
  have km := hr.ok
  unfold keptMore
  rw [em]
  unfold keptTail
  refine orT_split (fun _ => ?_) fun hz => ?_
  · rcases hr.is with e | e <;> rw [e] <;> rfl
  · simp only [List.mem_cons, List.not_mem_nil, or_false, forall_eq_or_imp, forall_eq, bne_eq_false_iff_eq] at hz
    obtain ⟨_, z2, z3, z4, z5, z6, _, z8⟩ := hz
    simp only [flipV_ok km] at z8 ⊢
    rw [applyV_ok km kv] at z3 z6 z8 ⊢
    rw [applyV_ok km kw] at z4 z6 ⊢
    rw [dotV_ok kv kw] at z5 ⊢
    rcases applyF_cases km kv with ⟨p, ep, kp, p1, p2, p3⟩ | e
    · rcases applyF_cases km kw with ⟨q, eq', kq, q1, q2, q3⟩ | e
      · rw [ep] at z6 z8 ⊢
        rw [eq'] at z6 ⊢
        simp only at z6 z8 ⊢
        rw [dotV_ok kp kq] at z6 ⊢
        have kf := flip_ok km
        rw [applyV_ok kf kp] at z8 ⊢
        have hx : (dotF v w).1 = (dotF p q).1 := by
          rcases dotF_cases kv kw with ⟨x, ex, kx, vx⟩ | e
          · rcases dotF_cases kp kq with ⟨y, ey, ky, vy⟩ | e
            · rw [ex, ey]
              refine val_inj kx ky ?_
              rw [vx, vy]
              unfold dotQ
              rw [p1, p2, p3, q1, q2, q3]
              rcases axis_cases ha with rfl | rfl | rfl
              · simp only [turn0, dotQ, val_one, val_zero, hn]; grind
              · simp only [turn1, dotQ, val_one, val_zero, hn]; grind
              · simp only [turn2, dotQ, val_one, val_zero, hn]; grind
            · rw [e] at z6; cases z6
          · rw [e] at z5; cases z5
        have hu : (applyF (flipM (turnOf axis c s)) p).1 = v := by
          rcases applyF_cases kf kp with ⟨u, eu, ku, u1, u2, u3⟩ | e
          · rw [eu]
            refine vec_eq ku kv ?_ ?_ ?_
            · rw [u1]; unfold dotQ; rw [p1, p2, p3]
              rcases axis_cases ha with rfl | rfl | rfl
              · simp only [turn0, flipM, dotQ, val_one, val_zero, hn]; grind
              · simp only [turn1, flipM, dotQ, val_one, val_zero, hn]; grind
              · simp only [turn2, flipM, dotQ, val_one, val_zero, hn]; grind
            · rw [u2]; unfold dotQ; rw [p1, p2, p3]
              rcases axis_cases ha with rfl | rfl | rfl
              · simp only [turn0, flipM, dotQ, val_one, val_zero, hn]; grind
              · simp only [turn1, flipM, dotQ, val_one, val_zero, hn]; grind
              · simp only [turn2, flipM, dotQ, val_one, val_zero, hn]; grind
            · rw [u3]; unfold dotQ; rw [p1, p2, p3]
              rcases axis_cases ha with rfl | rfl | rfl
              · simp only [turn0, flipM, dotQ, val_one, val_zero, hn]; grind
              · simp only [turn1, flipM, dotQ, val_one, val_zero, hn]; grind
              · simp only [turn2, flipM, dotQ, val_one, val_zero, hn]; grind
          · rw [e] at z8; cases z8
        refine chain_true fun b hb => ?_
        simp only [List.mem_cons, List.not_mem_nil, or_false] at hb
        rcases hb with rfl | rfl | rfl | rfl
        · rcases hr.is with e | e
          · rw [e]
          · rw [e] at z2; cases z2
        · exact eq_cells hx
        · exact eq_cellsV hu
        · rfl
      · rw [e] at z4; cases z4
    · rw [e] at z3; cases z3

end Go.Ev

namespace Go.Ev
open Go

def groupEnd (K : AV → List Blk → Ans) (axis other : Int) (p : Mat) (lo r : Frac × Int) : Ans :=
  orT [axis != other, r.2 != 0] (bif r.2 == 0 then K (rB true) [] else bif lo.1.num == 0 then K (rB true) [] else K (rB false) [])
    (chain K [(turnF axis r.1).2 == 0, eqAll (turnF axis r.1).1.cells p.cells, true])
def groupTail (K : AV → List Blk → Ans) (axis other : Int) (p : Mat) (st lo hi : Frac × Int) : Ans :=
  orT [st.2 != 0, lo.2 != 0, hi.2 != 0] (K (rB false) []) (groupEnd K axis other p lo (divF hi.1 lo.1))
def groupMore (K : AV → List Blk → Ans) (v : Vec) (axis other : Int) (s t : Frac) (m n p : Mat × Int) : Ans :=
  orT [m.2 != 0, n.2 != 0, p.2 != 0] (K (rB false) [])
    (andT [(applyV n.1 v).2 == 0, (applyV m.1 (applyV n.1 v).1).2 == 0, (applyV p.1 v).2 == 0, !eqAll (applyV m.1 (applyV n.1 v).1).1.cells (applyV p.1 v).1.cells] (K (rB false) [])
      (andT [(isV p.1).2 == 0, !(isV p.1).1] (K (rB false) []) (groupTail K axis other p.1 (mulF s t) (subF oneF (mulF s t).1) (addF s t))))
def lawVecGroup (K : AV → List Blk → Ans) (v : Vec) (axis other : Int) (s t : Frac) : Ans :=
  orT [!smallB v v s, !smallB v v t, decide (axis < 0), decide (axis > 2), decide (other < 0), decide (other > 2), decide (s.num > 20), decide (s.num < -20), decide (t.num > 20), decide (t.num < -20)] (K (rB true) [])
    (groupMore K v axis other s t (turnF axis s) (turnF other t) (prodM (turnF axis s).1 (turnF other t).1))

theorem PairQ.small {t c s : Frac} (ht : Sz 20 20 t) (h : PairQ (val t) c s) : Sz 800 800 c ∧ Sz 800 800 s := by
  have hv := val_mul ht.ok
  have hd := den_ne ht.ok
  have h1 := h.hc; have h2 := h.hs
  have hc : c.num * (t.den * t.den + t.num * t.num) = (t.den * t.den - t.num * t.num) * c.den := by
    refine of_val h.kc ?_
    rw [Rat.intCast_add, Rat.intCast_sub, Rat.intCast_mul, Rat.intCast_mul]
    grind
  have hs : s.num * (t.den * t.den + t.num * t.num) = (2 * (t.num * t.den)) * s.den := by
    refine of_val h.ks ?_
    rw [Rat.intCast_add, Rat.intCast_mul, Rat.intCast_mul, Rat.intCast_mul, Rat.intCast_mul]
    have : ((2 : Int) : Rat) = 2 := rfl
    grind
  have p1 := ht.dpos
  have q1 : t.den * t.den ≤ 20 * 20 := mul_le (by omega) (by omega) ht.den ht.den
  have q2 : absI t.num * absI t.num ≤ 20 * 20 := mul_le (absI_nn _) (absI_nn _) ht.num ht.num
  have q3 : absI t.num * absI t.den ≤ 20 * 20 := mul_le (absI_nn _) (absI_nn _) ht.num ht.dabs
  have q4 : 0 < t.den * t.den := Int.mul_pos p1 p1
  have q5 : t.num * t.num = absI t.num * absI t.num := by rw [← absI_mul, absI_eq]; have := sq_nn t.num; omega
  have q6 := sq_nn t.num
  obtain ⟨a1, a2⟩ := least h.kc (by omega) hc
  obtain ⟨b1, b2⟩ := least h.ks (by omega) hs
  refine ⟨⟨h.kc, ?_, by omega⟩, ⟨h.ks, ?_, by omega⟩⟩
  · rw [absI_eq] at a2 ⊢; rw [absI_eq] at a2; omega
  · rw [absI_mul, absI_mul] at b2
    rw [show absI 2 = 2 by decide] at b2
    omega

structure SzV (N D : Int) (v : Vec) : Prop where
  x : Sz N D v.x
  y : Sz N D v.y
  z : Sz N D v.z
structure SzM (N D : Int) (m : Mat) : Prop where
  a : SzV N D m.a
  b : SzV N D m.b
  c : SzV N D m.c
theorem SzM.flip {N D : Int} {m : Mat} (h : SzM N D m) : SzM N D (flipM m) := ⟨⟨h.a.x, h.b.x, h.c.x⟩, ⟨h.a.y, h.b.y, h.c.y⟩, ⟨h.a.z, h.b.z, h.c.z⟩⟩

theorem dot_800 {v w : Vec} (hv : SzV 800 800 v) (hw : SzV 800 800 w) : ∃ r, dotF v w = (r, 0) := by
  unfold dotF andF
  obtain ⟨p, e1, k1⟩ := hv.x.mul hw.x (by decide) (by decide)
  obtain ⟨q, e2, k2⟩ := hv.y.mul hw.y (by decide) (by decide)
  obtain ⟨r, e3, k3⟩ := hv.z.mul hw.z (by decide) (by decide)
  obtain ⟨s, e4, k4⟩ := k1.add k2 (by decide) (by decide)
  obtain ⟨t, e5, k5⟩ := k4.add k3 (by decide) (by decide)
  rw [e1]; simp only [addF_nought k1.ok, beq_self_eq_true, cond_true]
  rw [e2]; simp only [beq_self_eq_true, cond_true]
  rw [e4]; simp only [beq_self_eq_true, cond_true]
  rw [e3]; simp only [beq_self_eq_true, cond_true]
  rw [e5]
  exact ⟨t, rfl⟩

theorem row_800 {v : Vec} {m : Mat} (hv : SzV 800 800 v) (hm : SzM 800 800 m) : ∃ r, rowF v m = (r, 0) := by
  unfold rowF eachV
  obtain ⟨x, ex⟩ := dot_800 hv hm.a
  obtain ⟨y, ey⟩ := dot_800 hv hm.b
  obtain ⟨z, ez⟩ := dot_800 hv hm.c
  rw [ex, ey, ez]
  exact ⟨_, rfl⟩

theorem prod_800 {m n : Mat} (hm : SzM 800 800 m) (hn : SzM 800 800 n) : ∃ p, prodF m n = (p, 0) := by
  unfold prodF prodC andG
  obtain ⟨x, ex⟩ := row_800 hm.a hn.flip
  obtain ⟨y, ey⟩ := row_800 hm.b hn.flip
  obtain ⟨z, ez⟩ := row_800 hm.c hn.flip
  rw [ex, ey, ez]
  exact ⟨_, rfl⟩

theorem turn_800 {axis : Int} {c s : Frac} (hc : Sz 800 800 c) (hs : Sz 800 800 s) : SzM 800 800 (turnOf axis c s) := by
  have h0 : Sz 800 800 zeroF := Sz.zero.mono (by decide) (by decide)
  have h1 : Sz 800 800 oneF := Sz.one.mono (by decide) (by decide)
  have hn := hs.neg
  unfold turnOf
  cases axis == 0 with
  | true => exact ⟨⟨h1, h0, h0⟩, ⟨h0, hc, hn⟩, ⟨h0, hs, hc⟩⟩
  | false =>
    cases axis == 1 with
    | true => exact ⟨⟨hc, h0, hs⟩, ⟨h0, h1, h0⟩, ⟨hn, h0, hc⟩⟩
    | false => exact ⟨⟨hc, hn, h0⟩, ⟨hs, hc, h0⟩, ⟨h0, h0, h1⟩⟩

theorem prod_rot {m n p : Mat} (hm : RotQ m) (hn : RotQ n) (h : ProdQ m (flipM n) p) : RotQ p := by
  have a1 := hm.aa; have a2 := hm.ab; have a3 := hm.ac; have a4 := hm.bb; have a5 := hm.bc; have a6 := hm.cc; have a7 := hm.det
  have b1 := hn.aa; have b2 := hn.ab; have b3 := hn.ac; have b4 := hn.bb; have b5 := hn.bc; have b6 := hn.cc; have b7 := hn.det
  have c1 := h.ax; have c2 := h.ay; have c3 := h.az; have c4 := h.bx; have c5 := h.by'; have c6 := h.bz; have c7 := h.cx; have c8 := h.cy; have c9 := h.cz
  have ok := h.ok
  simp only [dotQ, flipM] at a1 a2 a3 a4 a5 a6 b1 b2 b3 b4 b5 b6 c1 c2 c3 c4 c5 c6 c7 c8 c9
  have key (u v : Vec) (x y z x' y' z' : Rat) (h1 : x = val u.x * val n.a.x + val u.y * val n.b.x + val u.z * val n.c.x) (h2 : y = val u.x * val n.a.y + val u.y * val n.b.y + val u.z * val n.c.y) (h3 : z = val u.x * val n.a.z + val u.y * val n.b.z + val u.z * val n.c.z)
      (h1' : x' = val v.x * val n.a.x + val v.y * val n.b.x + val v.z * val n.c.x) (h2' : y' = val v.x * val n.a.y + val v.y * val n.b.y + val v.z * val n.c.y) (h3' : z' = val v.x * val n.a.z + val v.y * val n.b.z + val v.z * val n.c.z) :
      x * x' + y * y' + z * z' = val u.x * val v.x + val u.y * val v.y + val u.z * val v.z := by
    subst h1 h2 h3 h1' h2' h3'
    clear a1 a2 a3 a4 a5 a6 a7 c1 c2 c3 c4 c5 c6 c7 c8 c9 b7
    generalize val u.x = u1 at *; generalize val u.y = u2 at *; generalize val u.z = u3 at *
    generalize val v.x = v1 at *; generalize val v.y = v2 at *; generalize val v.z = v3 at *
    grind
  refine ⟨ok, ?_, ?_, ?_, ?_, ?_, ?_, ?_⟩
  · exact (key m.a m.a _ _ _ _ _ _ c1 c2 c3 c1 c2 c3).trans a1
  · exact (key m.a m.b _ _ _ _ _ _ c1 c2 c3 c4 c5 c6).trans a2
  · exact (key m.a m.c _ _ _ _ _ _ c1 c2 c3 c7 c8 c9).trans a3
  · exact (key m.b m.b _ _ _ _ _ _ c4 c5 c6 c4 c5 c6).trans a4
  · exact (key m.b m.c _ _ _ _ _ _ c4 c5 c6 c7 c8 c9).trans a5
  · exact (key m.c m.c _ _ _ _ _ _ c7 c8 c9 c7 c8 c9).trans a6
  · have e : detQ p = detQ m * detQ n := by
      unfold detQ
      rw [c1, c2, c3, c4, c5, c6, c7, c8, c9]
      clear key a1 a2 a3 a4 a5 a6 a7 b1 b2 b3 b4 b5 b6 b7 c1 c2 c3 c4 c5 c6 c7 c8 c9 ok h hm hn
      grind
    rw [e, a7, b7]
    grind

theorem prodM_ok {m n : Mat} (hm : MatOk m) (hn : MatOk n) : prodM m n = prodF m n := by unfold prodM; rw [matOkB_iff.2 hm, matOkB_iff.2 hn]; rfl

theorem Sz.of20 {f : Frac} (h : Sz 1000 20 f) (h1 : ¬ f.num > 20) (h2 : ¬ f.num < -20) : Sz 20 20 f := ⟨h.ok, by rw [absI_eq]; omega, h.den⟩

theorem lawVecGroup_ok {K : AV → List Blk → Ans} {v : Vec} {axis other : Int} {s t : Frac} : lawVecGroup K v axis other s t = K (rB true) [] := by
  unfold lawVecGroup
  refine orT_split (fun _ => rfl) fun hs => ?_
  simp only [List.mem_cons, List.not_mem_nil, or_false, forall_eq_or_imp, forall_eq, Bool.not_eq_false', decide_eq_false_iff_not] at hs
  obtain ⟨g1, g2, g3, g4, g5, g6, g7, g8, g9, g10⟩ := hs
  obtain ⟨hv, _, hs⟩ := smallB_iff g1
  obtain ⟨_, _, ht⟩ := smallB_iff g2
  have hs := hs.of20 g7 g8
  have ht := ht.of20 g9 g10
  have kv := hv.ok
  have ha : 0 ≤ axis ∧ axis ≤ 2 := by omega
  have ho : 0 ≤ other ∧ other ≤ 2 := by omega
  obtain ⟨c, s', em, hp⟩ := turn_small (axis := axis) (hs.mono (by decide) (by decide)) ha
  obtain ⟨d, t', en, hq⟩ := turn_small (axis := other) (ht.mono (by decide) (by decide)) ho
  have rm := turn_rot ha hp
  have rn := turn_rot ho hq
  have km := rm.ok; have kn := rn.ok
  obtain ⟨p, ep⟩ := prod_800 (turn_800 (axis := axis) (hp.small hs).1 (hp.small hs).2) (turn_800 (axis := other) (hq.small ht).1 (hq.small ht).2)
  have hpq : ProdQ (turnOf axis c s') (flipM (turnOf other d t')) p := by
    rcases prodC_cases km (flip_ok kn) with ⟨p', e, h⟩ | e
    · rw [show prodC (turnOf axis c s') (flipM (turnOf other d t')) = prodF (turnOf axis c s') (turnOf other d t') from rfl, ep] at e
      cases e; exact h
    · rw [show prodC (turnOf axis c s') (flipM (turnOf other d t')) = prodF (turnOf axis c s') (turnOf other d t') from rfl, ep] at e
      simp at e
  have rp := prod_rot rm rn hpq
  have kp := rp.ok
  rw [em, en]
  simp only
  rw [prodM_ok km kn, ep]
  unfold groupMore
  rw [orT_none (by simp)]
  simp only
  refine andT_split (fun hall => ?_) (andT_split (fun hall => ?_) ?_)
  · exfalso
    simp only [List.mem_cons, List.not_mem_nil, or_false, forall_eq_or_imp, forall_eq, beq_iff_eq] at hall
    obtain ⟨z1, z2, z3, z4⟩ := hall
    rw [applyV_ok kn kv] at z1 z2 z4
    rw [applyV_ok kp kv] at z3 z4
    rcases applyF_cases kn kv with ⟨x, ex, kx, x1, x2, x3⟩ | e
    · rw [ex] at z2 z4
      simp only at z2 z4
      rw [applyV_ok km kx] at z2 z4
      rcases applyF_cases km kx with ⟨y, ey, ky, y1, y2, y3⟩ | e
      · rcases applyF_cases kp kv with ⟨z, ez, kz, w1, w2, w3⟩ | e
        · rw [ey, ez] at z4
          simp only at z4
          have : y = z := by
            refine vec_eq ky kz ?_ ?_ ?_
            · rw [y1, w1]; unfold dotQ; rw [x1, x2, x3, hpq.ax, hpq.ay, hpq.az]; simp only [dotQ, flipM]; grind
            · rw [y2, w2]; unfold dotQ; rw [x1, x2, x3, hpq.bx, hpq.by', hpq.bz]; simp only [dotQ, flipM]; grind
            · rw [y3, w3]; unfold dotQ; rw [x1, x2, x3, hpq.cx, hpq.cy, hpq.cz]; simp only [dotQ, flipM]; grind
          rw [this, eqAll_self] at z4
          cases z4
        · rw [e] at z3; simp at z3
      · rw [e] at z2; simp at z2
    · rw [e] at z1; simp at z1
  · exfalso
    simp only [List.mem_cons, List.not_mem_nil, or_false, forall_eq_or_imp, forall_eq, beq_iff_eq] at hall
    rcases rp.is with e | e
    · rw [e] at hall; simp at hall
    · rw [e] at hall; simp at hall
  · obtain ⟨st, e1, k1⟩ := hs.mul ht (by decide) (by decide)
    obtain ⟨lo, e2, k2⟩ := Sz.one.sub k1 (by decide) (by decide)
    obtain ⟨hi, e3, k3⟩ := hs.add ht (by decide) (by decide)
    have v1 := (mul_val hs.ok ht.ok e1).2
    have v2 := (sub_val one_ok k1.ok e2).2
    have v3 := (add_val hs.ok ht.ok e3).2
    rw [val_one] at v2
    unfold groupTail
    rw [e1]; simp only
    rw [e2, e3, orT_none (by simp)]
    simp only
    unfold groupEnd
    by_cases h0 : lo.num = 0
    · have : (divF hi lo).2 = 18 := by
        unfold divF
        rw [fracOkB_iff.2 k3.ok, fracOkB_iff.2 k2.ok, show (lo.num == 0) = true by simpa using h0]
        rfl
      rw [this, orT_any (by simp), show (lo.num == 0) = true by simpa using h0]
      rfl
    · obtain ⟨r, e4, k4⟩ := k3.div k2 h0 (by decide) (by decide)
      obtain ⟨kr, n0, v4⟩ := div_val k3.ok k2.ok e4
      rw [e4]
      refine orT_split (fun _ => rfl) fun hh => ?_
      simp only [List.mem_cons, List.not_mem_nil, or_false, forall_eq_or_imp, forall_eq, bne_eq_false_iff_eq] at hh
      obtain ⟨hax, _⟩ := hh
      subst hax
      have kr' : Sz 1000 1000 r := by
        have hvs := val_mul hs.ok; have hvt := val_mul ht.ok
        have hds := den_ne hs.ok; have hdt := den_ne ht.ok
        have p1 := hs.dpos; have p2 := ht.dpos
        have q1 : absI s.num * absI t.den ≤ 20 * 20 := mul_le (absI_nn _) (absI_nn _) hs.num ht.dabs
        have q2 : absI t.num * absI s.den ≤ 20 * 20 := mul_le (absI_nn _) (absI_nn _) ht.num hs.dabs
        have q3 : absI s.den * absI t.den ≤ 20 * 20 := mul_le (absI_nn _) (absI_nn _) hs.dabs ht.dabs
        have q4 : absI s.num * absI t.num ≤ 20 * 20 := mul_le (absI_nn _) (absI_nn _) hs.num ht.num
        rw [← absI_mul] at q1 q2 q3 q4
        have hr : r.num * (s.den * t.den - s.num * t.num) = (s.num * t.den + t.num * s.den) * r.den := by
          refine of_val kr ?_
          rw [Rat.intCast_add, Rat.intCast_sub, Rat.intCast_mul, Rat.intCast_mul, Rat.intCast_mul, Rat.intCast_mul]
          rw [v3, v2, v1] at v4
          grind
        have hne : s.den * t.den - s.num * t.num ≠ 0 := by
          intro h
          have h' : ((s.den * t.den - s.num * t.num : Int) : Rat) = 0 := by rw [h]; rfl
          rw [Rat.intCast_sub, Rat.intCast_mul, Rat.intCast_mul] at h'
          apply n0
          rw [v2, v1]
          grind
        have b1 := absI_add_le (s.num * t.den) (t.num * s.den)
        have b2 := absI_sub_le (s.den * t.den) (s.num * t.num)
        rcases Int.lt_or_le 0 (s.den * t.den - s.num * t.num) with hpos | hneg
        · obtain ⟨a1, a2⟩ := least kr hpos hr
          refine ⟨kr, by omega, ?_⟩
          rw [absI_of_pos hpos] at b2
          omega
        · obtain ⟨a1, a2⟩ := least kr (n := -(s.num * t.den + t.num * s.den)) (d := -(s.den * t.den - s.num * t.num)) (by omega) (by rw [Int.mul_neg, hr, Int.neg_mul])
          rw [absI_neg] at a2
          refine ⟨kr, by omega, ?_⟩
          rw [← absI_neg, absI_of_pos (show 0 < -(s.den * t.den - s.num * t.num) by omega)] at b2
          omega
      obtain ⟨c3, s3, e5, h3⟩ := turn_small (axis := axis) kr' ha
      rw [e5]
      have rr := turn_rot ha h3
      have hw : turnOf axis c3 s3 = p := by
        have f1 := hp.hc; have f2 := hp.hs; have f3 := hq.hc; have f4 := hq.hs; have f5 := h3.hc; have f6 := h3.hs
        have n1 := sq_pos (val s); have n2 := sq_pos (val t); have n3 := sq_pos (val r)
        have m1 := val_neg hp.ks; have m2 := val_neg hq.ks; have m3 := val_neg h3.ks
        have hC : val c3 = val c * val d - val s' * val t' := by
          rw [v2, v1] at n0
          rw [v3, v2, v1] at v4
          grind
        have hS : val s3 = val s' * val d + val c * val t' := by
          rw [v2, v1] at n0
          rw [v3, v2, v1] at v4
          grind
        refine mat_eq rr.ok kp ?_ ?_ ?_ ?_ ?_ ?_ ?_ ?_ ?_
        · rw [hpq.ax]; rcases axis_cases ha with rfl | rfl | rfl <;> simp only [turn0, turn1, turn2, flipM, dotQ, val_one, val_zero, m1, m2] <;> grind
        · rw [hpq.ay]; rcases axis_cases ha with rfl | rfl | rfl <;> simp only [turn0, turn1, turn2, flipM, dotQ, val_one, val_zero, m1, m2, m3] <;> grind
        · rw [hpq.az]; rcases axis_cases ha with rfl | rfl | rfl <;> simp only [turn0, turn1, turn2, flipM, dotQ, val_one, val_zero, m1, m2] <;> grind
        · rw [hpq.bx]; rcases axis_cases ha with rfl | rfl | rfl <;> simp only [turn0, turn1, turn2, flipM, dotQ, val_one, val_zero, m1, m2] <;> grind
        · rw [hpq.by']; rcases axis_cases ha with rfl | rfl | rfl <;> simp only [turn0, turn1, turn2, flipM, dotQ, val_one, val_zero, m1, m2] <;> grind
        · rw [hpq.bz]; rcases axis_cases ha with rfl | rfl | rfl <;> simp only [turn0, turn1, turn2, flipM, dotQ, val_one, val_zero, m1, m2, m3] <;> grind
        · rw [hpq.cx]; rcases axis_cases ha with rfl | rfl | rfl <;> simp only [turn0, turn1, turn2, flipM, dotQ, val_one, val_zero, m1, m2, m3] <;> grind
        · rw [hpq.cy]; rcases axis_cases ha with rfl | rfl | rfl <;> simp only [turn0, turn1, turn2, flipM, dotQ, val_one, val_zero, m1, m2] <;> grind
        · rw [hpq.cz]; rcases axis_cases ha with rfl | rfl | rfl <;> simp only [turn0, turn1, turn2, flipM, dotQ, val_one, val_zero, m1, m2] <;> grind
      refine chain_true fun b hb => ?_
      simp only [List.mem_cons, List.not_mem_nil, or_false] at hb
      rcases hb with rfl | rfl | rfl
      · rfl
      · exact eq_cellsM hw
      · rfl

end Go.Ev

