/-
  Fractions: what the program's functions come to. No program here.
-/
import Derived.Test.YtglifoijcdfjaaaGreatDoorFracOps
namespace Go.Ev
open Go

def add64 (x y c : Int) : Int × Int := ((x + y + c) % 18446744073709551616, (x + y + c) / 18446744073709551616)
def sub64 (x y c : Int) : Int × Int := ((x - y - c) % 18446744073709551616, bif decide (x < y + c) then 1 else 0)

/-! ### Numbers of 128 bits -/

def cmpI (x y : Int) : Int := bif decide (y < x) then 1 else bif x == y then 0 else -1

def widerTail (ah al bh bl : Int) : Int := bif ah == bh then (bif al == bl then 0 else -1) else -1
def widerRaw (ah al bh bl : Int) : Int := bif decide (bh < ah) then 1 else bif ah == bh then (bif decide (bl < al) then 1 else widerTail ah al bh bl) else widerTail ah al bh bl

theorem widerRaw_ok {ah al bh bl : Int} (h1 : 0 ≤ al ∧ al ≤ 18446744073709551615) (h2 : 0 ≤ bl ∧ bl ≤ 18446744073709551615) : widerRaw ah al bh bl = cmpI (ah * 18446744073709551616 + al) (bh * 18446744073709551616 + bl) := by
  unfold widerRaw widerTail cmpI
  by_cases a : bh < ah
  · rw [decide_eq_true a, decide_eq_true (show bh * 18446744073709551616 + bl < ah * 18446744073709551616 + al by omega)]; rfl
  rw [decide_eq_false a]
  by_cases b : ah = bh
  · subst b
    simp only [beq_self_eq_true, cond_true, cond_false]
    by_cases c : bl < al
    · rw [decide_eq_true c, decide_eq_true (show ah * 18446744073709551616 + bl < ah * 18446744073709551616 + al by omega)]; rfl
    rw [decide_eq_false c, decide_eq_false (show ¬ ah * 18446744073709551616 + bl < ah * 18446744073709551616 + al by omega)]
    simp only [cond_false]
    by_cases d : al = bl
    · subst d; simp
    · rw [show (al == bl) = false by simpa using d, show (ah * 18446744073709551616 + al == ah * 18446744073709551616 + bl) = false by simp; omega]
  · rw [show (ah == bh) = false by simpa using b, decide_eq_false (show ¬ bh * 18446744073709551616 + bl < ah * 18446744073709551616 + al by omega), show (ah * 18446744073709551616 + al == bh * 18446744073709551616 + bl) = false by simp; omega]
    rfl

def remAns (K : AV → List Blk → Ans) (hi lo y : Int) : Ans := bif y == 0 then none else bif decide (hi.tmod y < y) then K (rU ((hi.tmod y * 18446744073709551616 + lo) % y)) [] else none

theorem remAns_ok {K : AV → List Blk → Ans} {hi lo y : Int} (h1 : 0 ≤ hi) (hy : 0 < y) : remAns K hi lo y = K (rU ((hi * 18446744073709551616 + lo) % y)) [] := by
  unfold remAns
  rw [show (y == 0) = false by simp; omega, decide_eq_true (Int.tmod_lt_of_pos hi hy), Int.tmod_eq_emod_of_nonneg h1]
  have e : (hi % y * 18446744073709551616 + lo) % y = (hi * 18446744073709551616 + lo) % y := by
    have := Int.emod_add_mul_ediv hi y
    conv => rhs; rw [← this]
    rw [Int.add_mul, Int.add_right_comm, Int.mul_assoc, Int.add_mul_emod_self_left]
  rw [e]
  rfl

/-! ### A fraction of two numbers without a common divisor -/

def buildRaw (neg : Bool) (num den : Int) : Frac × Int :=
  bif decide (1000000000000000000 < num) then (fracZ, 16) else bif decide (1000000000000000000 < den) then (fracZ, 16) else bif neg then (⟨w64 (0 - w64 num), w64 den⟩, 0) else (⟨w64 num, w64 den⟩, 0)

theorem buildRaw_ok {neg : Bool} {num den : Int} (h1 : 0 ≤ num) (h2 : 0 ≤ den) : buildRaw neg num den = lowF neg num den := by
  unfold buildRaw lowF
  by_cases a : 1000000000000000000 < num
  · rw [decide_eq_true a, decide_eq_false (show ¬ num ≤ 1000000000000000000 by omega)]; rfl
  by_cases b : 1000000000000000000 < den
  · rw [decide_eq_false a, decide_eq_true b, decide_eq_false (show ¬ den ≤ 1000000000000000000 by omega), Bool.and_false]; rfl
  rw [decide_eq_false a, decide_eq_false b, decide_eq_true (show num ≤ 1000000000000000000 by omega), decide_eq_true (show den ≤ 1000000000000000000 by omega), w64_id (n := num) (by omega), w64_id (n := den) (by omega), w64_id (by omega)]
  cases neg <;> simp

/-! ### Sums -/

def sumTail (K : AV → List Blk → Ans) (neg : Bool) (hi lo d ad bd : Int) : Ans :=
  bif decide (0 < d) then (
    let g := gcdI d ((hi * 18446744073709551616 + lo) % d)
    bif decide (g ≤ hi) then K (rFracE (fracZ, 16)) [] else
    bif decide (hi < g) then (bif d == 0 then none else bif g == 0 then none else
      bif (mul64 (wu64 (ad.tdiv d)) (wu64 (bd.tdiv g))).1 != 0 then K (rFracE (fracZ, 16)) [] else K (rFracE (lowF neg ((hi * 18446744073709551616 + lo) / g) (mul64 (wu64 (ad.tdiv d)) (wu64 (bd.tdiv g))).2)) [])
    else none) else none

def carryAns (c : Int) (k : Ans) : Ans := bif decide (c ≤ 1) then k else none

def sumMid (K : AV → List Blk → Ans) (an bn ah al bh bl d ad bd : Int) : Ans :=
  bif decide (an < 0) == decide (bn < 0) then
    carryAns 0 (carryAns (add64 al bl 0).2 (sumTail K (decide (an < 0)) (add64 ah bh (add64 al bl 0).2).1 (add64 al bl 0).1 d ad bd))
  else bif decide (0 ≤ cmpI (ah * 18446744073709551616 + al) (bh * 18446744073709551616 + bl)) then
    carryAns 0 (carryAns (sub64 al bl 0).2 (sumTail K (decide (an < 0)) (sub64 ah bh (sub64 al bl 0).2).1 (sub64 al bl 0).1 d ad bd))
  else carryAns 0 (carryAns (sub64 bl al 0).2 (sumTail K (decide (bn < 0)) (sub64 bh ah (sub64 bl al 0).2).1 (sub64 bl al 0).1 d ad bd))

def sumAns (K : AV → List Blk → Ans) (a b : Frac) : Ans :=
  let d := gcdI (absI a.den) (absI b.den)
  bif d == 0 then none else bif d == 0 then none else
  sumMid K a.num b.num (mul64 (absI a.num) (wu64 ((absI b.den).tdiv d))).1 (mul64 (absI a.num) (wu64 ((absI b.den).tdiv d))).2 (mul64 (absI b.num) (wu64 ((absI a.den).tdiv d))).1 (mul64 (absI b.num) (wu64 ((absI a.den).tdiv d))).2 d (absI a.den) (absI b.den)

theorem lowF_cut {neg : Bool} {t p : Int} (hneg : (bif neg then -absI t else absI t) = t) : lowF neg (absI t) p = cutF t p := by
  unfold lowF cutF
  cases decide (absI t ≤ 1000000000000000000) && decide (p ≤ 1000000000000000000) with
  | false => rfl
  | true => simp only [cond_true, hneg]

theorem cutF_big {t p : Int} (h : 1000000000000000000 < absI t ∨ 1000000000000000000 < p) : cutF t p = (fracZ, 16) := by
  unfold cutF
  rcases h with h | h
  · rw [decide_eq_false (by omega)]; rfl
  · rw [decide_eq_false (show ¬ p ≤ 1000000000000000000 by omega), Bool.and_false]; rfl

/-- The end of a sum: S is the absolute value of what is divided by g. -/
theorem sumTail_ok {K : AV → List Blk → Ans} {neg : Bool} {hi lo d p q g t m T : Int} (_ : 0 ≤ hi) (hlo : 0 ≤ lo ∧ lo < 18446744073709551616) (hS : hi * 18446744073709551616 + lo = absI T) (hneg : (bif neg then -absI T else absI T) = T)
    (hd : 0 < d) (hp : 0 < p) (hg : 0 < g) (hm : 0 < m) (hG : gcdI d T = g) (ht : T = g * t) (hb1 : d * q = g * m) (ha : d * p ≤ 1000000000000000000) (hb : d * q ≤ 1000000000000000000) : sumTail K neg hi lo d (d * p) (d * q) = K (rFracE (cutF t (p * m))) [] := by
  have hr : gcdI d (absI T % d) = g := by
    rw [← hG]
    simp only [gcdI_eq, absI_eq]
    rw [Int.gcd_eq_natAbs_gcd_natAbs, Int.gcd_eq_natAbs_gcd_natAbs]
    congr 1
    obtain ⟨d', rfl⟩ := Int.eq_ofNat_of_zero_le (Int.le_of_lt hd)
    rw [← Int.natCast_emod, Int.natAbs_natCast, Int.natAbs_natCast, Nat.gcd_comm, ← Nat.gcd_rec]
  have habs : absI T = g * absI t := by
    rw [ht]
    simp only [absI_eq]
    rw [Int.natAbs_mul, Int.natCast_mul, show ((g.natAbs : Nat) : Int) = g by omega]
  have hp1 : p ≤ d * p := by
    have := Int.mul_le_mul_of_nonneg_right (show 1 ≤ d by omega) (show 0 ≤ p by omega)
    omega
  have hm1 : m ≤ g * m := by
    have := Int.mul_le_mul_of_nonneg_right (show 1 ≤ g by omega) (show 0 ≤ m by omega)
    omega
  unfold sumTail
  rw [decide_eq_true hd, cond_true, hS, hr]
  simp only
  by_cases hc : g ≤ hi
  · rw [decide_eq_true hc, cond_true, cutF_big]
    left
    have h1 : g * 18446744073709551616 ≤ g * absI t := by
      have := Int.mul_le_mul_of_nonneg_right hc (show (0 : Int) ≤ 18446744073709551616 by decide)
      omega
    have := Int.le_of_mul_le_mul_left h1 hg
    omega
  · rw [decide_eq_false hc, decide_eq_true (show hi < g by omega), show (d == 0) = false by simp; omega, show (g == 0) = false by simp; omega]
    simp only [cond_true, cond_false]
    have e1 : wu64 ((d * p).tdiv d) = p := by
      rw [Int.mul_tdiv_cancel_left _ (by omega)]
      exact wu64_id (by omega)
    have e2 : wu64 ((d * q).tdiv g) = m := by
      rw [hb1, Int.mul_tdiv_cancel_left _ (by omega)]
      exact wu64_id (by omega)
    have e3 : absI T / g = absI t := by rw [habs]; exact Int.mul_ediv_cancel_left _ (by omega)
    rw [e1, e2, e3]
    have hpm : 0 < p * m := Int.mul_pos hp hm
    unfold mul64
    simp only
    by_cases hbig : p * m / 18446744073709551616 = 0
    · rw [hbig]
      have e4 : p * m % 18446744073709551616 = p * m := by omega
      rw [e4]
      have hn : (bif neg then -absI t else absI t) = t := by
        have h2 : (bif neg then -absI t else absI t) * g = t * g := by
          have h3 := hneg
          rw [habs, ht] at h3
          cases neg
          · simp only [cond_false] at h3 ⊢
            rw [Int.mul_comm, h3, Int.mul_comm]
          · simp only [cond_true] at h3 ⊢
            rw [Int.neg_mul, Int.mul_comm, h3, Int.mul_comm]
        exact Int.eq_of_mul_eq_mul_right (by omega) h2
      rw [lowF_cut hn]
      rfl
    · rw [show (p * m / 18446744073709551616 != 0) = true by simpa using hbig, cond_true, cutF_big]
      right
      omega

theorem add_128 {X Y : Int} (hX : 0 ≤ X ∧ X ≤ 1000000000000000000 * 1000000000000000000) (hY : 0 ≤ Y ∧ Y ≤ 1000000000000000000 * 1000000000000000000) :
    (add64 (X % 18446744073709551616) (Y % 18446744073709551616) 0).2 ≤ 1 ∧ 0 ≤ (add64 (X / 18446744073709551616) (Y / 18446744073709551616) (add64 (X % 18446744073709551616) (Y % 18446744073709551616) 0).2).1 ∧
    (0 ≤ (add64 (X % 18446744073709551616) (Y % 18446744073709551616) 0).1 ∧ (add64 (X % 18446744073709551616) (Y % 18446744073709551616) 0).1 < 18446744073709551616) ∧
    (add64 (X / 18446744073709551616) (Y / 18446744073709551616) (add64 (X % 18446744073709551616) (Y % 18446744073709551616) 0).2).1 * 18446744073709551616 + (add64 (X % 18446744073709551616) (Y % 18446744073709551616) 0).1 = X + Y := by
  unfold add64
  simp only
  omega

theorem sub_128 {X Y : Int} (hX : 0 ≤ X ∧ X ≤ 1000000000000000000 * 1000000000000000000) (hY : 0 ≤ Y ∧ Y ≤ 1000000000000000000 * 1000000000000000000) (h : Y ≤ X) :
    (sub64 (X % 18446744073709551616) (Y % 18446744073709551616) 0).2 ≤ 1 ∧ 0 ≤ (sub64 (X / 18446744073709551616) (Y / 18446744073709551616) (sub64 (X % 18446744073709551616) (Y % 18446744073709551616) 0).2).1 ∧
    (0 ≤ (sub64 (X % 18446744073709551616) (Y % 18446744073709551616) 0).1 ∧ (sub64 (X % 18446744073709551616) (Y % 18446744073709551616) 0).1 < 18446744073709551616) ∧
    (sub64 (X / 18446744073709551616) (Y / 18446744073709551616) (sub64 (X % 18446744073709551616) (Y % 18446744073709551616) 0).2).1 * 18446744073709551616 + (sub64 (X % 18446744073709551616) (Y % 18446744073709551616) 0).1 = X - Y := by
  unfold sub64
  simp only
  by_cases hb : X % 18446744073709551616 < Y % 18446744073709551616 + 0
  · rw [decide_eq_true hb]
    simp only [cond_true]
    omega
  · rw [decide_eq_false hb]
    simp only [cond_false]
    omega

theorem cmp_128 (X Y : Int) : cmpI (X / 18446744073709551616 * 18446744073709551616 + X % 18446744073709551616) (Y / 18446744073709551616 * 18446744073709551616 + Y % 18446744073709551616) = cmpI X Y := by congr 1 <;> omega

theorem cmpI_nonneg (X Y : Int) : decide (0 ≤ cmpI X Y) = decide (Y ≤ X) := by
  unfold cmpI
  by_cases h1 : Y < X
  · rw [decide_eq_true h1, decide_eq_true (show Y ≤ X by omega)]; rfl
  by_cases h2 : X = Y
  · subst h2; simp
  · rw [decide_eq_false h1, show (X == Y) = false by simpa using h2, decide_eq_false (show ¬ Y ≤ X by omega)]; rfl

theorem sumAns_ok {K : AV → List Blk → Ans} {a b : Frac} (ha : FracOk a) (hb : FracOk b) : sumAns K a b = K (rFracE (fracOf (a.num * b.den + b.num * a.den) (a.den * b.den))) [] := by
  obtain ⟨d, p, q, g, t, m, hd, hp, hq, hg, hm, hgd, had, hbd, hG, ht, hbm, _, hF⟩ := sum_red ha hb
  have a1 := ha.denlo
  have a2 := ha.denhi
  have a3 := ha.numlo
  have a4 := ha.numhi
  have b1 := hb.denlo
  have b2 := hb.denhi
  have b3 := hb.numlo
  have b4 := hb.numhi
  have hq1 : q ≤ d * q := by
    have := Int.mul_le_mul_of_nonneg_right (show 1 ≤ d by omega) (show 0 ≤ q by omega)
    omega
  have hp1 : p ≤ d * p := by
    have := Int.mul_le_mul_of_nonneg_right (show 1 ≤ d by omega) (show 0 ≤ p by omega)
    omega
  rw [hF]
  unfold sumAns
  rw [absI_of_nonneg (n := a.den) (by omega), absI_of_nonneg (n := b.den) (by omega), hgd]
  simp only
  rw [show (d == 0) = false by simp; omega]
  simp only [cond_false]
  have e1 : wu64 (b.den.tdiv d) = q := by
    rw [hbd, Int.mul_tdiv_cancel_left _ (by omega)]
    exact wu64_id (by omega)
  have e2 : wu64 (a.den.tdiv d) = p := by
    rw [had, Int.mul_tdiv_cancel_left _ (by omega)]
    exact wu64_id (by omega)
  rw [e1, e2, had, hbd]
  have x0 : 0 ≤ absI a.num * q := Int.mul_nonneg (absI_nonneg _) (by omega)
  have x1 : absI a.num * q ≤ 1000000000000000000 * 1000000000000000000 := Int.mul_le_mul (by unfold absI; omega) (by omega) (by omega) (by omega)
  have y0 : 0 ≤ absI b.num * p := Int.mul_nonneg (absI_nonneg _) (by omega)
  have y1 : absI b.num * p ≤ 1000000000000000000 * 1000000000000000000 := Int.mul_le_mul (by unfold absI; omega) (by omega) (by omega) (by omega)
  have sx : a.num < 0 → a.num * q = -(absI a.num * q) := fun h => by rw [absI_of_neg h, Int.neg_mul]; omega
  have sx' : ¬ a.num < 0 → a.num * q = absI a.num * q := fun h => by rw [absI_of_nonneg (by omega)]
  have sy : b.num < 0 → b.num * p = -(absI b.num * p) := fun h => by rw [absI_of_neg h, Int.neg_mul]; omega
  have sy' : ¬ b.num < 0 → b.num * p = absI b.num * p := fun h => by rw [absI_of_nonneg (by omega)]
  have fin : ∀ (neg : Bool) (hi lo : Int), 0 ≤ hi → 0 ≤ lo ∧ lo < 18446744073709551616 → hi * 18446744073709551616 + lo = absI (a.num * q + b.num * p) → (bif neg then -absI (a.num * q + b.num * p) else absI (a.num * q + b.num * p)) = a.num * q + b.num * p →
      sumTail K neg hi lo d (d * p) (d * q) = K (rFracE (cutF t (p * m))) [] := fun neg hi lo k1 k2 k3 k4 =>
    sumTail_ok k1 k2 k3 k4 hd hp hg hm hG ht (by rw [← hbd, ← hbm]) (by rw [← had]; omega) (by rw [← hbd]; omega)
  unfold sumMid mul64 carryAns
  simp only
  rw [decide_eq_true (show (0 : Int) ≤ 1 by decide), cond_true, cond_true, cond_true]
  generalize absI a.num * q = X at *
  generalize absI b.num * p = Y at *
  have ad := add_128 (X := X) (Y := Y) (by omega) (by omega)
  rw [decide_eq_true ad.1, cond_true, cmp_128, cmpI_nonneg]
  by_cases na : a.num < 0
  · by_cases nb : b.num < 0
    · rw [decide_eq_true na, decide_eq_true nb]
      simp only [beq_self_eq_true, cond_true]
      refine fin true _ _ ad.2.1 ad.2.2.1 ?_ ?_
      · rw [ad.2.2.2, sx na, sy nb]; unfold absI; omega
      · rw [sx na, sy nb]; unfold absI; simp only [cond_true]; omega
    · rw [decide_eq_true na, decide_eq_false nb]
      simp only [show (true == false) = false from rfl, cond_false]
      by_cases hc : Y ≤ X
      · have sb := sub_128 (X := X) (Y := Y) (by omega) (by omega) hc
        rw [decide_eq_true hc, cond_true, decide_eq_true sb.1, cond_true]
        refine fin true _ _ sb.2.1 sb.2.2.1 ?_ ?_
        · rw [sb.2.2.2, sx na, sy' nb]; unfold absI; omega
        · rw [sx na, sy' nb]; unfold absI; simp only [cond_true]; omega
      · have sb := sub_128 (X := Y) (Y := X) (by omega) (by omega) (by omega)
        rw [decide_eq_false hc, cond_false, decide_eq_true sb.1, cond_true]
        refine fin false _ _ sb.2.1 sb.2.2.1 ?_ ?_
        · rw [sb.2.2.2, sx na, sy' nb]; unfold absI; omega
        · rw [sx na, sy' nb]; unfold absI; simp only [cond_false]; omega
  · by_cases nb : b.num < 0
    · rw [decide_eq_false na, decide_eq_true nb]
      simp only [show (false == true) = false from rfl, cond_false]
      by_cases hc : Y ≤ X
      · have sb := sub_128 (X := X) (Y := Y) (by omega) (by omega) hc
        rw [decide_eq_true hc, cond_true, decide_eq_true sb.1, cond_true]
        refine fin false _ _ sb.2.1 sb.2.2.1 ?_ ?_
        · rw [sb.2.2.2, sx' na, sy nb]; unfold absI; omega
        · rw [sx' na, sy nb]; unfold absI; simp only [cond_false]; omega
      · have sb := sub_128 (X := Y) (Y := X) (by omega) (by omega) (by omega)
        rw [decide_eq_false hc, cond_false, decide_eq_true sb.1, cond_true]
        refine fin true _ _ sb.2.1 sb.2.2.1 ?_ ?_
        · rw [sb.2.2.2, sx' na, sy nb]; unfold absI; omega
        · rw [sx' na, sy nb]; unfold absI; simp only [cond_true]; omega
    · rw [decide_eq_false na, decide_eq_false nb]
      simp only [beq_self_eq_true, cond_true]
      refine fin false _ _ ad.2.1 ad.2.2.1 ?_ ?_
      · rw [ad.2.2.2, sx' na, sy' nb]; unfold absI; omega
      · rw [sx' na, sy' nb]; unfold absI; simp only [cond_false]; omega

/-! ### Products -/

def prodAns (K : AV → List Blk → Ans) (a b : Frac) : Ans :=
  let g := gcdI (absI a.num) (absI b.den)
  let h := gcdI (absI b.num) (absI a.den)
  bif g == 0 then none else bif h == 0 then none else
  bif h == 0 then none else bif g == 0 then none else
  let n := mul64 (wu64 ((absI a.num).tdiv g)) (wu64 ((absI b.num).tdiv h))
  let d := mul64 (wu64 ((absI a.den).tdiv h)) (wu64 ((absI b.den).tdiv g))
  bif n.1 != 0 then K (rFracE (fracZ, 16)) [] else bif d.1 != 0 then K (rFracE (fracZ, 16)) [] else K (rFracE (lowF (diffSign a.num b.num) n.2 d.2)) []

theorem diff_sign {x y : Int} : (bif diffSign x y then -absI (x * y) else absI (x * y)) = x * y := by
  have e : absI (x * y) = absI x * absI y := by simp only [absI_eq]; rw [Int.natAbs_mul, Int.natCast_mul]
  unfold diffSign
  rw [e]
  by_cases hx : x < 0
  · by_cases hy : y < 0
    · rw [decide_eq_true hx, decide_eq_true hy, absI_of_neg hx, absI_of_neg hy]
      simp [Int.neg_mul_neg]
    · rw [decide_eq_true hx, decide_eq_false hy, absI_of_neg hx, absI_of_nonneg (by omega)]
      simp [Int.neg_mul]
  · by_cases hy : y < 0
    · rw [decide_eq_false hx, decide_eq_true hy, absI_of_nonneg (by omega), absI_of_neg hy]
      simp [Int.mul_neg]
    · rw [decide_eq_false hx, decide_eq_false hy, absI_of_nonneg (by omega), absI_of_nonneg (by omega)]
      simp

theorem diffSign_pos {x y c e : Int} (hc : 0 < c) (he : 0 < e) : diffSign (c * x) (e * y) = diffSign x y := by
  have h : ∀ k z : Int, 0 < k → (decide (k * z < 0) = decide (z < 0)) := by
    intro k z hk
    apply decide_eq_decide.2
    constructor
    · intro h
      rcases Int.lt_or_le z 0 with q | q
      · exact q
      · have := Int.mul_nonneg (Int.le_of_lt hk) q
        omega
    · intro h
      exact Int.mul_neg_of_pos_of_neg hk h
  unfold diffSign
  rw [h c x hc, h e y he]

theorem prodAns_ok {K : AV → List Blk → Ans} {a b : Frac} (ha : FracOk a) (hb : FracOk b) : prodAns K a b = K (rFracE (fracOf (a.num * b.num) (a.den * b.den))) [] := by
  obtain ⟨g, h, x, y, u, v, hg, hh, hu, hv, hG, hH, hx, hy, hau, hbv, hF⟩ := prod_red ha hb
  have a1 := ha.denlo
  have a2 := ha.denhi
  have a3 := ha.numlo
  have a4 := ha.numhi
  have b1 := hb.denlo
  have b2 := hb.denhi
  have b3 := hb.numlo
  have b4 := hb.numhi
  have cut : ∀ k z w : Int, 0 < k → z = k * w → absI z ≤ 1000000000000000000 → wu64 ((absI z).tdiv k) = absI w := by
    intro k z w hk hz hle
    have e : absI z = k * absI w := by
      rw [hz]; simp only [absI_eq]; rw [Int.natAbs_mul, Int.natCast_mul, show ((k.natAbs : Nat) : Int) = k by omega]
    have h1 : absI w ≤ k * absI w := by
      have := Int.mul_le_mul_of_nonneg_right (show 1 ≤ k by omega) (absI_nonneg w)
      omega
    rw [e, Int.mul_tdiv_cancel_left _ (by omega)]
    exact wu64_id ⟨absI_nonneg w, by omega⟩
  have e1 := cut g a.num x hg hx (by unfold absI; omega)
  have e2 := cut h b.num y hh hy (by unfold absI; omega)
  have e3 := cut h a.den u hh hau (by unfold absI; omega)
  have e4 := cut g b.den v hg hbv (by unfold absI; omega)
  rw [hF]
  unfold prodAns
  rw [gcdI_abs_left, gcdI_abs_right, gcdI_abs_left, gcdI_abs_right, hG, hH]
  simp only
  rw [show (g == 0) = false by simp; omega, show (h == 0) = false by simp; omega, e1, e2, e3, e4]
  simp only [cond_false]
  have ex : absI x * absI y = absI (x * y) := by simp only [absI_eq]; rw [Int.natAbs_mul, Int.natCast_mul]
  have ey : absI u * absI v = u * v := by rw [absI_of_nonneg (by omega), absI_of_nonneg (by omega)]
  have es : diffSign a.num b.num = diffSign x y := by rw [hx, hy, diffSign_pos hg hh]
  have n0 := absI_nonneg (x * y)
  have d0 : 0 < u * v := Int.mul_pos hu hv
  unfold mul64
  simp only
  rw [ex, ey, es]
  by_cases c1 : absI (x * y) / 18446744073709551616 = 0
  · by_cases c2 : u * v / 18446744073709551616 = 0
    · rw [c1, c2, show absI (x * y) % 18446744073709551616 = absI (x * y) by omega, show u * v % 18446744073709551616 = u * v by omega, lowF_cut diff_sign]
      rfl
    · rw [c1, show (u * v / 18446744073709551616 != 0) = true by simpa using c2, cutF_big (by omega)]
      rfl
  · rw [show (absI (x * y) / 18446744073709551616 != 0) = true by simpa using c1, cutF_big (by omega)]
    rfl

end Go.Ev
