/-
  Products of enclosures: opposites, and how wide they are. Directions at other ticks. No program here.
-/
import Derived.Test.YtglifoijcdfjaaaGreatDoorTrack
namespace Go.Ev
open Go

theorem min4_neg (p q r s : Int) : min4 (-p) (-q) (-r) (-s) = -(max4 p q r s) := by
  unfold min4 max4
  repeat' split
  all_goals omega
theorem max4_neg (p q r s : Int) : max4 (-p) (-q) (-r) (-s) = -(min4 p q r s) := by
  unfold min4 max4
  repeat' split
  all_goals omega
theorem min4_perm (p q r s : Int) : min4 q p s r = min4 p q r s := by
  unfold min4
  repeat' split
  all_goals omega
theorem max4_perm (p q r s : Int) : max4 q p s r = max4 p q r s := by
  unfold max4
  repeat' split
  all_goals omega

theorem spanValid_negS (b : Span) : spanValid (negS b) = spanValid b := by
  rw [Bool.eq_iff_iff, spanValid_iff, spanValid_iff]
  simp only [negS]
  omega

theorem mulS_negS (a b : Span) : mulS a (negS b) = (negS (mulS a b).1, (mulS a b).2) := by
  unfold mulS
  rw [spanValid_negS]
  cases spanValid a && spanValid b with
  | false => rfl
  | true =>
    simp only [cond_true, negS, Int.mul_neg]
    rw [min4_neg, max4_neg, max4_perm, min4_perm]
    generalize min4 (a.lo * b.lo) (a.lo * b.hi) (a.hi * b.lo) (a.hi * b.hi) = m
    generalize max4 (a.lo * b.lo) (a.lo * b.hi) (a.hi * b.lo) (a.hi * b.hi) = M
    have hv : spanValid ⟨-M / 1000000, -(- -m / 1000000)⟩ = spanValid ⟨m / 1000000, -(-M / 1000000)⟩ := by
      rw [Bool.eq_iff_iff, spanValid_iff, spanValid_iff]
      simp only [Int.neg_neg]
      omega
    unfold rangedS
    rw [hv]
    cases spanValid ⟨m / 1000000, -(-M / 1000000)⟩ with
    | false => rfl
    | true => simp only [Bool.not_true, cond_false, Int.neg_neg]

theorem mulS_negS_left (a b : Span) : mulS (negS a) b = (negS (mulS a b).1, (mulS a b).2) := by rw [mulS_comm, mulS_negS, mulS_comm b a]

theorem unit_diff {x x' y y' u v : Int} (hx : Abs x 1000000) (hy' : Abs y' 1000000) (h1 : Abs (x - x') u) (h2 : Abs (y - y') v) : x * y - x' * y' ≤ 1000000 * (u + v) := by
  have e : x * y - x' * y' = x * (y - y') + (x - x') * y' := by grind
  have a := (hx.mul h2).add (h1.mul hy')
  rw [e]
  unfold Abs at a
  omega

/-- How wide a product is. -/
theorem mulS_width {a b p : Span} (ha : Unit1 a) (hb : Unit1 b) (h : mulS a b = (p, 0)) : p.hi - p.lo ≤ (a.hi - a.lo) + (b.hi - b.lo) + 1 := by
  unfold Unit1 at *
  have v1 : spanValid a = true := by rw [spanValid_iff]; omega
  have v2 : spanValid b = true := by rw [spanValid_iff]; omega
  unfold mulS at h
  rw [v1, v2] at h
  simp only [Bool.and_self, cond_true] at h
  have hp := rangedS_ok h
  subst hp
  simp only
  have key : ∀ x x' y y' : Int, (x = a.lo ∨ x = a.hi) → (x' = a.lo ∨ x' = a.hi) → (y = b.lo ∨ y = b.hi) → (y' = b.lo ∨ y' = b.hi) → x * y - x' * y' ≤ 1000000 * ((a.hi - a.lo) + (b.hi - b.lo)) := by
    intro x x' y y' h1 h2 h3 h4
    exact unit_diff (by unfold Abs; omega) (by unfold Abs; omega) (by unfold Abs; omega) (by unfold Abs; omega)
  have k : max4 (a.lo * b.lo) (a.lo * b.hi) (a.hi * b.lo) (a.hi * b.hi) - min4 (a.lo * b.lo) (a.lo * b.hi) (a.hi * b.lo) (a.hi * b.hi) ≤ 1000000 * ((a.hi - a.lo) + (b.hi - b.lo)) := by
    rcases max4_one (p := a.lo * b.lo) (q := a.lo * b.hi) (r := a.hi * b.lo) (s := a.hi * b.hi) with e | e | e | e <;>
    rcases min4_one (p := a.lo * b.lo) (q := a.lo * b.hi) (r := a.hi * b.lo) (s := a.hi * b.hi) with f | f | f | f <;>
    rw [e, f] <;> exact key _ _ _ _ (by simp) (by simp) (by simp) (by simp)
  generalize max4 (a.lo * b.lo) (a.lo * b.hi) (a.hi * b.lo) (a.hi * b.hi) = M at *
  generalize min4 (a.lo * b.lo) (a.lo * b.hi) (a.hi * b.lo) (a.hi * b.hi) = m at *
  omega

theorem turnS_width {n : Int} (hn : 1 ≤ n ∧ n ≤ 720) (u : Int) : (turnS u n).hi - (turnS u n).lo ≤ 1 := by
  obtain ⟨w, m, w1, w2, _, hp⟩ := turn_pair (n := n) (by omega) u
  have r1 := riseI_range (w := w) (n := n) (by simp only [riseOn, Bool.and_eq_true, decide_eq_true_eq]; omega)
  have r2 := riseI_range (w := n - w) (n := n) (by simp only [riseOn, Bool.and_eq_true, decide_eq_true_eq]; omega)
  rcases hp with ⟨h, _⟩ | ⟨h, _⟩
  · have := h.range r1; omega
  · have := h.range r2; omega
theorem sinT_width (k : Int) : (sinT k).hi - (sinT k).lo ≤ 1 := turnS_width (by omega) _
theorem cosT_width (k : Int) : (cosT k).hi - (cosT k).lo ≤ 1 := turnS_width (by omega) _

theorem dirS_year (ra dec tick m : Int) : dirS ra dec (tick + 720 * m) = dirS ra dec tick := by
  unfold dirS
  rw [show ra - (tick + 720 * m) = (ra - tick) + 720 * (-m) by rw [Int.mul_neg]; omega, cosT_whole, sinT_whole]

theorem dirS_quarter (ra dec tick : Int) : dirS ra dec (tick + 180) = ⟨(dirS ra dec tick).y, negS (dirS ra dec tick).x, (dirS ra dec tick).z⟩ := by
  have e1 : cosT (ra - (tick + 180)) = sinT (ra - tick) := by
    rw [← sinT_quarter]; congr 1; omega
  have e2 : sinT (ra - (tick + 180)) = negS (cosT (ra - tick)) := by
    have := cosT_quarter (ra - (tick + 180))
    rw [show ra - (tick + 180) + 180 = ra - tick by omega] at this
    rw [this, negS_negS]
  unfold dirS
  simp only
  rw [e1, e2, mulS_negS]

theorem dirS_half (ra dec tick : Int) : dirS ra dec (tick + 360) = ⟨negS (dirS ra dec tick).x, negS (dirS ra dec tick).y, (dirS ra dec tick).z⟩ := by
  rw [show tick + 360 = tick + 180 + 180 by omega, dirS_quarter, dirS_quarter]

theorem dirS_width (ra dec tick : Int) : (dirS ra dec tick).x.hi - (dirS ra dec tick).x.lo ≤ 3 ∧ (dirS ra dec tick).y.hi - (dirS ra dec tick).y.lo ≤ 3 ∧ (dirS ra dec tick).z.hi - (dirS ra dec tick).z.lo ≤ 1 := by
  obtain ⟨p, hp, up⟩ := mulS_unit (cosT_unit dec) (cosT_unit (ra - tick))
  obtain ⟨q, hq, uq⟩ := mulS_unit (cosT_unit dec) (sinT_unit (ra - tick))
  have w1 := mulS_width (cosT_unit dec) (cosT_unit (ra - tick)) hp
  have w2 := mulS_width (cosT_unit dec) (sinT_unit (ra - tick)) hq
  have := cosT_width dec
  have := cosT_width (ra - tick)
  have := sinT_width (ra - tick)
  unfold dirS
  rw [hp, hq]
  exact ⟨by simp only; omega, by simp only; omega, sinT_width dec⟩

/-- The dot product of three pairs of enclosures of at most 1. -/
theorem dotS_unit {a b : Dir} (ha : Unit1 a.x ∧ Unit1 a.y ∧ Unit1 a.z) (hb : Unit1 b.x ∧ Unit1 b.y ∧ Unit1 b.z) :
    ∃ p q r, mulS a.x b.x = (p, 0) ∧ mulS a.y b.y = (q, 0) ∧ mulS a.z b.z = (r, 0) ∧ Unit1 p ∧ Unit1 q ∧ Unit1 r ∧ dotS a b = (⟨p.lo + q.lo + r.lo, p.hi + q.hi + r.hi⟩, 0) := by
  have hv : [a.x, a.y, a.z, b.x, b.y, b.z].all spanValid = true := by
    simp [unit_valid ha.1, unit_valid ha.2.1, unit_valid ha.2.2, unit_valid hb.1, unit_valid hb.2.1, unit_valid hb.2.2]
  obtain ⟨p, hp, up, _, hp3⟩ := prodsS_cons (sum := spanZ) (r := [(a.y, b.y), (a.z, b.z)]) (by decide) ha.1 hb.1
  have up' := up
  unfold Unit1 at up'
  obtain ⟨q, hq, uq, _, hq3⟩ := prodsS_cons (sum := ⟨spanZ.lo + p.lo, spanZ.hi + p.hi⟩) (r := [(a.z, b.z)]) (by simp only [spanZ]; omega) ha.2.1 hb.2.1
  have uq' := uq
  unfold Unit1 at uq'
  obtain ⟨r, hr, ur, _, hr3⟩ := prodsS_cons (sum := ⟨spanZ.lo + p.lo + q.lo, spanZ.hi + p.hi + q.hi⟩) (r := []) (by simp only [spanZ]; omega) ha.2.2 hb.2.2
  refine ⟨p, q, r, hp, hq, hr, up, uq, ur, ?_⟩
  unfold dotS
  rw [hv, hp3, hq3, hr3]
  simp only [cond_true, prodsS, spanZ, Int.zero_add]

/-- A direction's square has 1, and is not wide. -/
theorem dir_square (ra dec tick : Int) : ∃ x, dotS (dirS ra dec tick) (dirS ra dec tick) = (x, 0) ∧ x.lo ≤ 1000000 ∧ 1000000 ≤ x.hi ∧ x.hi - x.lo ≤ 20 ∧ -3000000 ≤ x.lo ∧ x.hi ≤ 3000000 := by
  have u := dirS_unit ra dec tick
  have w := dirS_width ra dec tick
  have e := dirS_enc ra dec tick
  obtain ⟨p, q, r, hp, hq, hr, up, uq, ur, hx⟩ := dotS_unit u u
  have w1 := mulS_width u.1 u.1 hp
  have w2 := mulS_width u.2.1 u.2.1 hq
  have w3 := mulS_width u.2.2 u.2.2 hr
  have d2 : (0 : Int) < 18446744073709551616 * 18446744073709551616 := by decide
  have e1 := enc_times d2 d2 e.1 e.1 hp
  have e2 := enc_times d2 d2 e.2.1 e.2.1 hq
  have e3 := Enc.scale (c := 18446744073709551616 * 18446744073709551616) (by decide) (enc_times (by decide) (by decide) e.2.2 e.2.2 hr)
  have z := SZ_zero (n := 720) (by omega)
  have s1 := (sum720 (4 * (ra - tick)) (-(4 * (ra - tick)))).2
  have s2 := (sum720 (4 * dec) (-(4 * dec))).2
  unfold errC at s1 s2
  rw [CZ_neg (by omega), SZ_neg (by omega), show 4 * (ra - tick) + -(4 * (ra - tick)) = 0 by omega, z.2, Int.mul_neg] at s1
  rw [CZ_neg (by omega), SZ_neg (by omega), show 4 * dec + -(4 * dec) = 0 by omega, z.2, Int.mul_neg] at s2
  have rd : Abs (CZ 720 (4 * dec)) 18446744073709551616 := SZ_range (by omega) _
  generalize CZ 720 (4 * dec) = A at *
  generalize SZ 720 (4 * dec) = A' at *
  generalize CZ 720 (4 * (ra - tick)) = C at *
  generalize SZ 720 (4 * (ra - tick)) = C' at *
  have X : Enc (⟨p.lo + q.lo + r.lo, p.hi + q.hi + r.hi⟩ : Span) (A * C * (A * C) * 1000000 + A * C' * (A * C') * 1000000 + A' * A' * 1000000 * (18446744073709551616 * 18446744073709551616)) (18446744073709551616 * 18446744073709551616 * (18446744073709551616 * 18446744073709551616)) := by
    unfold Enc at *
    simp only at *
    omega
  have Y : Enc (⟨1000000, 1000000⟩ : Span) (18446744073709551616 * 18446744073709551616 * (18446744073709551616 * 18446744073709551616) * 1000000) (18446744073709551616 * 18446744073709551616 * (18446744073709551616 * 18446744073709551616)) := by
    unfold Enc
    simp only
    omega
  have c := Enc.common (by decide) X Y (by
    have b1 := (rd.mul rd).mul s1
    have b2 := Abs.scale (c := 18446744073709551616 * 18446744073709551616) (by decide) s2
    have k : A * C * (A * C) * 1000000 + A * C' * (A * C') * 1000000 + A' * A' * 1000000 * (18446744073709551616 * 18446744073709551616) - 18446744073709551616 * 18446744073709551616 * (18446744073709551616 * 18446744073709551616) * 1000000 =
      -(A * A * (18446744073709551616 * 18446744073709551616 - (C * C - -(C' * C')))) * 1000000 - (18446744073709551616 * 18446744073709551616 * (18446744073709551616 * 18446744073709551616 - (A * A - -(A' * A')))) * 1000000 := by grind
    rw [k]
    generalize A * A * (18446744073709551616 * 18446744073709551616 - (C * C - -(C' * C'))) = Z1 at *
    generalize 18446744073709551616 * 18446744073709551616 * (18446744073709551616 * 18446744073709551616 - (A * A - -(A' * A'))) = Z2 at *
    unfold Abs at *
    omega)
  unfold Unit1 at up uq ur
  simp only at c
  refine ⟨_, hx, c.1, c.2, ?_, ?_, ?_⟩ <;> simp only <;> omega

end Go.Ev
