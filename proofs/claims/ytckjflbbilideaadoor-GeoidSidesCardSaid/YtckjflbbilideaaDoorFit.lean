/-
  Results that are in range because their values are; fractions of two numbers; comparing. No program here.
-/
import Derived.Test.YtckjflbbilideaaDoorVecGr
namespace Go.Ev
open Go

/-! ### In range by the value -/

theorem least' {n' d' n d : Int} (hd' : 0 < d') (hg : Int.gcd n' d' = 1) (hd : 0 < d) (h : n' * d = n * d') : d' ≤ d ∧ absI n' ≤ absI n := by
  have h1 : d'.natAbs ∣ n'.natAbs * d.natAbs := by
    rw [← Int.natAbs_mul, h, Int.natAbs_mul]
    exact Nat.dvd_mul_left ..
  have h2 : d'.natAbs ∣ d.natAbs := Nat.Coprime.dvd_of_dvd_mul_left (by rw [Nat.coprime_comm]; exact hg) h1
  obtain ⟨k, hk⟩ := Int.natAbs_dvd_natAbs.1 h2
  have hk0 : 0 < k := by
    rcases Int.lt_or_le 0 k with q | q
    · exact q
    · have := Int.mul_nonpos_of_nonneg_of_nonpos (show 0 ≤ d' by omega) q
      omega
  subst hk
  have hn : n = n' * k := by
    have : d' * (n' * k) = d' * n := by grind
    exact (Int.eq_of_mul_eq_mul_left (by omega) this).symm
  refine ⟨?_, ?_⟩
  · have := Int.mul_le_mul_of_nonneg_left (show 1 ≤ k by omega) (show 0 ≤ d' by omega)
    omega
  · rw [hn, absI_eq, absI_eq, Int.natAbs_mul, Int.natCast_mul]
    have := Int.mul_le_mul_of_nonneg_left (show 1 ≤ (k.natAbs : Int) by omega) (show 0 ≤ (n'.natAbs : Int) by omega)
    omega

theorem fracOf_fit {n d N D : Int} (hd : 0 < d) (hD : 0 < D) (h : n * D = N * d) (h1 : absI N ≤ 1000000000000000000) (h2 : D ≤ 1000000000000000000) : ∃ c, fracOf n d = (c, 0) := by
  have hg : 0 < gcdI n d := gcdI_pos (by omega)
  obtain ⟨n', hn⟩ : gcdI n d ∣ n := gcdI_dvd_left ..
  obtain ⟨d', hd'⟩ : gcdI n d ∣ d := gcdI_dvd_right ..
  have hc : Int.gcd n' d' = 1 := by
    have e : gcdI (gcdI n d * n') (gcdI n d * d') = gcdI n d := by rw [← hn, ← hd']
    generalize gcdI n d = k at *
    rw [gcdI_eq] at e
    rw [Int.gcd_mul_left, Int.natCast_mul, show ((k.natAbs : Nat) : Int) = k by omega] at e
    have : ((Int.gcd n' d' : Nat) : Int) = 1 := Int.eq_of_mul_eq_mul_left (a := k) (by omega) (by omega)
    omega
  rw [fracOf_red hg hn hd' hc]
  generalize gcdI n d = k at *
  have hd0 : 0 < d' := by
    rcases Int.lt_or_le 0 d' with q | q
    · exact q
    · have := Int.mul_le_mul_of_nonneg_left q (show 0 ≤ k by omega)
      omega
  have hr : n' * D = N * d' := by
    have : k * (n' * D) = k * (N * d') := by rw [hn, hd'] at h; grind
    exact Int.eq_of_mul_eq_mul_left (by omega) this
  obtain ⟨a1, a2⟩ := least' hd0 hc hD hr
  unfold cutF
  rw [decide_eq_true (show absI n' ≤ 1000000000000000000 by omega), decide_eq_true (show d' ≤ 1000000000000000000 by omega)]
  exact ⟨_, rfl⟩

/-- A value with so great a numerator and denominator. -/
structure Rep (q : Rat) (N D : Int) : Prop where
  pos : 0 < D
  val : q * (D : Rat) = N
structure Fit (N D : Int) : Prop where
  num : absI N ≤ 1000000000000000000
  den : D ≤ 1000000000000000000

theorem cast_ne {D : Int} (h : 0 < D) : (D : Rat) ≠ 0 := by exact_mod_cast (show D ≠ 0 by omega)

theorem Rep.mul {q q' : Rat} {N D N' D' : Int} (h : Rep q N D) (h' : Rep q' N' D') : Rep (q * q') (N * N') (D * D') := by
  refine ⟨Int.mul_pos h.pos h'.pos, ?_⟩
  rw [Rat.intCast_mul, Rat.intCast_mul, ← h.val, ← h'.val]
  grind
theorem Rep.of {a : Frac} (h : FracOk a) : Rep (Ev.val a) a.num a.den := ⟨by have := h.denlo; omega, val_mul h⟩

theorem add_fit {a b : Frac} {N D : Int} (ha : FracOk a) (hb : FracOk b) (h : Rep (val a + val b) N D) (hf : Fit N D) : ∃ c, addF a b = (c, 0) ∧ FracOk c ∧ val c = val a + val b := by
  have hp := den_pos ha hb
  have e : (a.num * b.den + b.num * a.den) * D = N * (a.den * b.den) := by
    have h1 := val_mul ha; have h2 := val_mul hb; have h3 := h.val
    have : (((a.num * b.den + b.num * a.den) * D : Int) : Rat) = ((N * (a.den * b.den) : Int) : Rat) := by
      simp only [Rat.intCast_mul, Rat.intCast_add]
      grind
    exact_mod_cast this
  obtain ⟨c, hc⟩ := fracOf_fit hp h.pos e hf.num hf.den
  rw [← addF_ok ha hb] at hc
  exact ⟨c, hc, add_val ha hb hc⟩
theorem mul_fit {a b : Frac} {N D : Int} (ha : FracOk a) (hb : FracOk b) (h : Rep (val a * val b) N D) (hf : Fit N D) : ∃ c, mulF a b = (c, 0) ∧ FracOk c ∧ val c = val a * val b := by
  have hp := den_pos ha hb
  have e : (a.num * b.num) * D = N * (a.den * b.den) := by
    have h1 := val_mul ha; have h2 := val_mul hb; have h3 := h.val
    have : (((a.num * b.num) * D : Int) : Rat) = ((N * (a.den * b.den) : Int) : Rat) := by
      simp only [Rat.intCast_mul]
      grind
    exact_mod_cast this
  obtain ⟨c, hc⟩ := fracOf_fit hp h.pos e hf.num hf.den
  rw [← mulF_ok ha hb] at hc
  exact ⟨c, hc, mul_val ha hb hc⟩

theorem divF_pos {a b : Frac} (ha : FracOk a) (hb : FracOk b) (h0 : 0 < b.num) : divF a b = fracOf (a.num * b.den) (a.den * b.num) := by
  unfold divF
  rw [fracOkB_iff.2 ha, fracOkB_iff.2 hb, show (b.num == 0) = false by simp; omega, decide_eq_false (show ¬ b.num < 0 by omega)]
  rfl
/-- Divided by a whole number. -/
theorem div_fit {a : Frac} {k N D : Int} (ha : FracOk a) (hk : 0 < k) (hk' : k ≤ 1000000000000000000) {q : Rat} (hq : q * (k : Rat) = val a) (h : Rep q N D) (hf : Fit N D) : ∃ c, divF a ⟨k, 1⟩ = (c, 0) ∧ FracOk c ∧ val c = q := by
  have hb : FracOk ⟨k, 1⟩ := ⟨by simp, by simp, by simp only; omega, hk', by simp⟩
  have vb : val ⟨k, 1⟩ = (k : Rat) := by have := val_mul hb; simp only at this; rw [← this]; have : ((1 : Int) : Rat) = 1 := rfl; grind
  have e : (a.num * 1) * D = N * (a.den * k) := by
    have h1 := val_mul ha; have h3 := h.val
    have : (((a.num * 1) * D : Int) : Rat) = ((N * (a.den * k) : Int) : Rat) := by
      simp only [Rat.intCast_mul]
      have : ((1 : Int) : Rat) = 1 := rfl
      grind
    exact_mod_cast this
  obtain ⟨c, hc⟩ := fracOf_fit (Int.mul_pos (by have := ha.denlo; omega) hk) h.pos e hf.num hf.den
  have hc' : divF a ⟨k, 1⟩ = (c, 0) := by rw [divF_pos ha hb hk]; exact hc
  obtain ⟨kc, _, v⟩ := div_val ha hb hc'
  refine ⟨c, hc', kc, ?_⟩
  rw [vb] at v
  have := cast_ne hk
  grind

theorem whole_ok {k : Int} (h : 0 ≤ k) (hk' : k ≤ 1000000000000000000) : FracOk ⟨k, 1⟩ := ⟨by simp, by simp, by simp only; omega, hk', by simp⟩
theorem whole_val (k : Int) : val ⟨k, 1⟩ = (k : Rat) := by unfold val; simp only; rw [Rat.intCast_one]; grind

/-! ### Fractions of two numbers -/

def makePAns (K : AV → List Blk → Ans) (num den : Int) : Ans :=
  bif den == 0 then K (rFracE (fracZ, 18)) [] else
  let g := gcdI (absI num) (absI den)
  bif g == 0 then none else bif g == 0 then none else
  K (rFracE (lowF (diffSign num den) (wu64 ((absI num).tdiv g)) (wu64 ((absI den).tdiv g)))) []
theorem makePAns_ok {K : AV → List Blk → Ans} {num den : Int} (h1 : -9223372036854775808 ≤ num ∧ num ≤ 9223372036854775807) (h2 : -9223372036854775808 ≤ den ∧ den ≤ 9223372036854775807) : makePAns K num den = K (rFracE (makeF num den)) [] := by
  unfold makePAns makeF
  cases h0 : den == 0 with
  | true => rfl
  | false =>
    have hne : den ≠ 0 := by simpa using h0
    have hg : 0 < gcdI num den := gcdI_pos (by omega)
    simp only [cond_false, gcdI_abs_left, gcdI_abs_right]
    rw [show (gcdI num den == 0) = false by simp; omega]
    simp only [cond_false]
    rw [(quo_gcd (absI_range h1) hg).1, (quo_gcd (absI_range h2) hg).1]

theorem makeF_pos {n d : Int} (hd : 0 < d) : makeF n d = fracOf n d := by
  have hg : 0 < gcdI n d := gcdI_pos (by omega)
  unfold makeF
  rw [show (d == 0) = false by simp; omega]
  simp only [cond_false]
  obtain ⟨n', hn⟩ : gcdI n d ∣ n := gcdI_dvd_left ..
  obtain ⟨d', hd'⟩ : gcdI n d ∣ d := gcdI_dvd_right ..
  have hc : Int.gcd n' d' = 1 := by
    have e : gcdI (gcdI n d * n') (gcdI n d * d') = gcdI n d := by rw [← hn, ← hd']
    generalize gcdI n d = k at *
    rw [gcdI_eq] at e
    rw [Int.gcd_mul_left, Int.natCast_mul, show ((k.natAbs : Nat) : Int) = k by omega] at e
    have : ((Int.gcd n' d' : Nat) : Int) = 1 := Int.eq_of_mul_eq_mul_left (a := k) (by omega) (by omega)
    omega
  rw [fracOf_red hg hn hd' hc]
  generalize gcdI n d = k at *
  have e1 : absI n / k = absI n' := by rw [hn, absI_mul, absI_of_pos hg]; exact Int.mul_ediv_cancel_left _ (by omega)
  have e2 : absI d / k = d' := by rw [absI_of_pos hd, hd']; exact Int.mul_ediv_cancel_left _ (by omega)
  rw [e1, e2]
  refine lowF_cut ?_
  have hs : diffSign n d = decide (n' < 0) := by
    unfold diffSign
    rw [decide_eq_false (show ¬ d < 0 by omega)]
    have : (n < 0) ↔ (n' < 0) := by
      rw [hn]
      constructor
      · intro h
        rcases Int.lt_or_le n' 0 with q | q
        · exact q
        · have := Int.mul_nonneg (show 0 ≤ k by omega) q; omega
      · intro h; exact Int.mul_neg_of_pos_of_neg hg h
    by_cases h : n' < 0
    · rw [decide_eq_true h, decide_eq_true (this.2 h)]; rfl
    · rw [decide_eq_false h, decide_eq_false (fun q => h (this.1 q))]; rfl
  rw [hs]
  by_cases h : n' < 0
  · rw [decide_eq_true h, absI_of_neg h]; simp
  · rw [decide_eq_false h, absI_of_nonneg (by omega)]; rfl

/-- A fraction of two small numbers. -/
theorem make_small {n d : Int} (hd : 0 < d) (hd' : d ≤ 1000000000000000000) (hn : absI n ≤ 1000000000000000000) : ∃ c, makeF n d = (c, 0) ∧ FracOk c ∧ c.num * d = n * c.den := by
  rw [makeF_pos hd]
  obtain ⟨c, e⟩ := fracOf_small hn hd hd'
  exact ⟨c, e, frac_val hd e⟩

/-! ### Comparing -/

def compareI (a b c d : Int) : Int := cmpI (a * b) (c * d)
def compareRaw (a b c d : Int) : Int := cmpI ((mul64 a b).1 * 18446744073709551616 + (mul64 a b).2) ((mul64 c d).1 * 18446744073709551616 + (mul64 c d).2)
theorem compareRaw_ok (a b c d : Int) : compareRaw a b c d = compareI a b c d := by
  unfold compareRaw compareI mul64
  exact cmp_128 ..

def orderI (a b : Frac) : Int := cmpI (a.num * b.den) (b.num * a.den)
def orderAns (K : AV → List Blk → Ans) (a b : Frac) : Ans :=
  let c := compareI (absI a.num) (absI b.den) (absI b.num) (absI a.den)
  let T := bif decide (a.num < 0) then K (rI (w64 (0 - c))) [] else K (rI c) []
  bif decide (a.num < 0) then (bif decide (b.num ≥ 0) then K (rI (-1)) [] else bif decide (a.num ≥ 0) then (bif decide (b.num < 0) then K (rI 1) [] else T) else T)
  else bif decide (a.num ≥ 0) then (bif decide (b.num < 0) then K (rI 1) [] else T) else T

theorem cmpI_neg (x y : Int) : w64 (0 - cmpI x y) = cmpI (-x) (-y) := by
  unfold cmpI
  rcases Int.lt_trichotomy x y with h | h | h
  · rw [decide_eq_false (show ¬ y < x by omega), show (x == y) = false by simp; omega, decide_eq_true (show -y < -x by omega)]; simp only [cond_false, cond_true]; decide
  · subst h; simp; decide
  · rw [decide_eq_true h, decide_eq_false (show ¬ -y < -x by omega), show (-x == -y) = false by simp; omega]; simp only [cond_false, cond_true]; decide

theorem orderAns_ok {K : AV → List Blk → Ans} {a b : Frac} (ha : FracOk a) (hb : FracOk b) : orderAns K a b = K (rI (orderI a b)) [] := by
  have d1 := ha.denlo; have d2 := hb.denlo
  unfold orderAns orderI compareI
  simp only
  by_cases h1 : a.num < 0
  · rw [decide_eq_true h1, decide_eq_false (show ¬ a.num ≥ 0 by omega)]
    have k1 : a.num * b.den < 0 := Int.mul_neg_of_neg_of_pos h1 (by omega)
    by_cases h2 : b.num ≥ 0
    · rw [decide_eq_true h2]
      have k2 : 0 ≤ b.num * a.den := Int.mul_nonneg h2 (by omega)
      simp only [cond_true]
      unfold cmpI
      rw [decide_eq_false (show ¬ b.num * a.den < a.num * b.den by omega), show (a.num * b.den == b.num * a.den) = false by simp; omega]
      rfl
    · rw [decide_eq_false h2]
      simp only [cond_true, cond_false]
      rw [cmpI_neg, absI_of_neg h1, absI_of_neg (show b.num < 0 by omega), absI_of_nonneg (show 0 ≤ b.den by omega), absI_of_nonneg (show 0 ≤ a.den by omega), Int.neg_mul, Int.neg_mul, Int.neg_neg, Int.neg_neg]
  · rw [decide_eq_false h1, decide_eq_true (show a.num ≥ 0 by omega)]
    have k1 : 0 ≤ a.num * b.den := Int.mul_nonneg (by omega) (by omega)
    simp only [cond_true, cond_false]
    by_cases h2 : b.num < 0
    · rw [decide_eq_true h2]
      have k2 : b.num * a.den < 0 := Int.mul_neg_of_neg_of_pos h2 (by omega)
      unfold cmpI
      rw [decide_eq_true (show b.num * a.den < a.num * b.den by omega)]
      rfl
    · rw [decide_eq_false h2, absI_of_nonneg (show 0 ≤ a.num by omega), absI_of_nonneg (show 0 ≤ b.num by omega), absI_of_nonneg (show 0 ≤ b.den by omega), absI_of_nonneg (show 0 ≤ a.den by omega)]
      rfl

def cmpF (a b : Frac) : Int × Int := bif fracOkB a && fracOkB b then (orderI a b, 0) else (0, 8)
def cmpAns (K : AV → List Blk → Ans) (a b : Frac) : Ans := bif bothE a b != 0 then K (rIntE (0, bothE a b)) [] else bif fracOkB a && fracOkB b then K (rIntE (orderI a b, 0)) [] else none
theorem cmpAns_ok {K : AV → List Blk → Ans} {a b : Frac} : cmpAns K a b = K (rIntE (cmpF a b)) [] := by
  unfold cmpAns cmpF
  rw [bothE_eq]
  cases fracOkB a && fracOkB b <;> rfl

/-- The sign of a fraction less one. -/
def sgn1 (a : Frac) : Int := cmpI a.num a.den
theorem order_one (a : Frac) : orderI a oneF = sgn1 a := by unfold orderI sgn1 oneF; rw [Int.mul_one, Int.one_mul]

end Go.Ev
