/-
  Fractions: sums, differences, products and quotients in lowest terms, as the program and the reference find them. No program here.
-/
import Derived.Test.YtglifoijcdfjaaaGreatDoorOver
namespace Go.Ev
open Go

/-- The fraction n / d in lowest terms, if it is not out of range; d is greater than 0. -/
def fracOf (n d : Int) : Frac × Int := bif decide (absI n / gcdI n d ≤ 1000000000000000000) && decide (d / gcdI n d ≤ 1000000000000000000) then (⟨n / gcdI n d, d / gcdI n d⟩, 0) else (fracZ, 16)

def cutF (n d : Int) : Frac × Int := bif decide (absI n ≤ 1000000000000000000) && decide (d ≤ 1000000000000000000) then (⟨n, d⟩, 0) else (fracZ, 16)

theorem fracOf_red {n d c n' d' : Int} (hc : 0 < c) (hn : n = c * n') (hd : d = c * d') (hg : Int.gcd n' d' = 1) : fracOf n d = cutF n' d' := by
  have e : gcdI n d = c := by
    rw [gcdI_eq, hn, hd, Int.gcd_mul_left, hg]
    omega
  have e1 : n / c = n' := by rw [hn]; exact Int.mul_ediv_cancel_left _ (by omega)
  have e2 : d / c = d' := by rw [hd]; exact Int.mul_ediv_cancel_left _ (by omega)
  have e3 : absI n / c = absI n' := by
    simp only [absI_eq]
    rw [hn, Int.natAbs_mul, Int.natCast_mul, show ((c.natAbs : Nat) : Int) = c by omega]
    exact Int.mul_ediv_cancel_left _ (by omega)
  unfold fracOf cutF
  rw [e, e1, e2, e3]

/-! ### Sums -/

theorem coprime_sum {an bn : Int} {a b d : Nat} (hab : Nat.Coprime a b) (h : Nat.Coprime an.natAbs (d * a)) : Nat.Coprime (an * b + bn * a).natAbs a := by
  unfold Nat.Coprime
  have hp1 : Nat.gcd (an * b + bn * a).natAbs a ∣ a := Nat.gcd_dvd_right _ _
  have hp2 : Nat.gcd (an * b + bn * a).natAbs a ∣ (an * b + bn * a).natAbs := Nat.gcd_dvd_left _ _
  generalize Nat.gcd (an * b + bn * a).natAbs a = p at *
  have h1 : (p : Int) ∣ an * b + bn * a := Int.ofNat_dvd_left.2 hp2
  have h2 : (p : Int) ∣ bn * a := Int.dvd_trans (Int.natCast_dvd_natCast.2 hp1) (Int.dvd_mul_left _ _)
  have h3 : (p : Int) ∣ an * b := (Int.dvd_add_left h2).1 h1
  have h4 : p ∣ an.natAbs * b := by
    have := Int.ofNat_dvd_left.1 h3
    rwa [Int.natAbs_mul, Int.natAbs_natCast] at this
  have h5 : Nat.Coprime p b := Nat.Coprime.coprime_dvd_left hp1 hab
  have h6 : p ∣ an.natAbs := h5.dvd_of_dvd_mul_right h4
  have h7 : p ∣ d * a := Nat.dvd_trans hp1 (Nat.dvd_mul_left _ _)
  have h8 := Nat.dvd_gcd h6 h7
  rw [h] at h8
  exact Nat.eq_one_of_dvd_one h8

/-- What is in lowest terms: the sum, with what the denominators have in common divided away. -/
theorem sum_red {a b : Frac} (ha : FracOk a) (hb : FracOk b) : ∃ d p q g t m : Int, 0 < d ∧ 0 < p ∧ 0 < q ∧ 0 < g ∧ 0 < m ∧ gcdI a.den b.den = d ∧ a.den = d * p ∧ b.den = d * q ∧ gcdI d (a.num * q + b.num * p) = g ∧ a.num * q + b.num * p = g * t ∧ b.den = g * m ∧ Int.gcd t (p * m) = 1 ∧
    fracOf (a.num * b.den + b.num * a.den) (a.den * b.den) = cutF t (p * m) := by
  obtain ⟨ad, had⟩ := Int.eq_ofNat_of_zero_le (show 0 ≤ a.den by have := ha.denlo; omega)
  obtain ⟨bd, hbd⟩ := Int.eq_ofNat_of_zero_le (show 0 ≤ b.den by have := hb.denlo; omega)
  have hapos : 0 < ad := by have := ha.denlo; omega
  have hbpos : 0 < bd := by have := hb.denlo; omega
  have hd : 0 < Nat.gcd ad bd := Nat.gcd_pos_of_pos_left _ hapos
  obtain ⟨p, hp⟩ := Nat.gcd_dvd_left ad bd
  obtain ⟨q, hq⟩ := Nat.gcd_dvd_right ad bd
  have hco : Nat.Coprime p q := by
    have := Nat.coprime_div_gcd_div_gcd hd
    rwa [Nat.div_eq_of_eq_mul_right hd hp, Nat.div_eq_of_eq_mul_right hd hq] at this
  have hgd : gcdI a.den b.den = ((Nat.gcd ad bd : Nat) : Int) := by rw [had, hbd, gcdI_nat]
  have hca : Nat.Coprime a.num.natAbs ad := by
    have := ha.gcd
    rwa [Int.gcd_eq_natAbs_gcd_natAbs, had, Int.natAbs_natCast] at this
  have hcb : Nat.Coprime b.num.natAbs bd := by
    have := hb.gcd
    rwa [Int.gcd_eq_natAbs_gcd_natAbs, hbd, Int.natAbs_natCast] at this
  generalize Nat.gcd ad bd = d at *
  have hp0 : 0 < p := by
    rcases Nat.eq_zero_or_pos p with e | e
    · subst e; omega
    · exact e
  have hq0 : 0 < q := by
    rcases Nat.eq_zero_or_pos q with e | e
    · subst e; omega
    · exact e
  have c1 : Nat.Coprime (a.num * q + b.num * p).natAbs p := coprime_sum (d := d) hco (by rw [← hp]; exact hca)
  have c2 : Nat.Coprime (a.num * q + b.num * p).natAbs q := by
    rw [Int.add_comm]
    exact coprime_sum (d := d) hco.symm (by rw [← hq]; exact hcb)
  have hg : 0 < Nat.gcd d (a.num * q + b.num * p).natAbs := Nat.gcd_pos_of_pos_left _ hd
  have hgI : gcdI d (a.num * q + b.num * p) = ((Nat.gcd d (a.num * q + b.num * p).natAbs : Nat) : Int) := by rw [gcdI_eq, Int.gcd_eq_natAbs_gcd_natAbs, Int.natAbs_natCast]
  obtain ⟨u, hu⟩ := Nat.gcd_dvd_left d (a.num * q + b.num * p).natAbs
  obtain ⟨t', ht'⟩ := Nat.gcd_dvd_right d (a.num * q + b.num * p).natAbs
  have hcu : Nat.Coprime u t' := by
    have := Nat.coprime_div_gcd_div_gcd hg
    rwa [Nat.div_eq_of_eq_mul_right hg hu, Nat.div_eq_of_eq_mul_right hg ht'] at this
  generalize hG : Nat.gcd d (a.num * q + b.num * p).natAbs = g at *
  have hdvd : (g : Int) ∣ a.num * q + b.num * p := Int.ofNat_dvd_left.2 ⟨t', ht'⟩
  obtain ⟨t, ht⟩ := hdvd
  have htt : t.natAbs = t' := by
    rw [ht, Int.natAbs_mul, Int.natAbs_natCast] at ht'
    exact Nat.eq_of_mul_eq_mul_left hg ht'
  have hu0 : 0 < u := by
    rcases Nat.eq_zero_or_pos u with e | e
    · subst e; omega
    · exact e
  have hm0 : 0 < u * q := Nat.mul_pos hu0 hq0
  have hcop : Int.gcd t ((p : Int) * ((u * q : Nat) : Int)) = 1 := by
    rw [Int.gcd_eq_natAbs_gcd_natAbs, Int.natAbs_mul, Int.natAbs_natCast, Int.natAbs_natCast, htt]
    have k1 : Nat.Coprime t' p := Nat.Coprime.coprime_dvd_left ⟨g, by rw [ht', Nat.mul_comm]⟩ c1
    have k2 : Nat.Coprime t' q := Nat.Coprime.coprime_dvd_left ⟨g, by rw [ht', Nat.mul_comm]⟩ c2
    exact Nat.Coprime.mul_right k1 (Nat.Coprime.mul_right hcu.symm k2)
  refine ⟨d, p, q, g, t, ((u * q : Nat) : Int), by omega, by omega, by omega, by omega, by omega, hgd, ?_, ?_, hgI, ht, ?_, hcop, ?_⟩
  · rw [had, hp]; simp
  · rw [hbd, hq]; simp
  · rw [hbd, hq, hu]; simp only [Int.natCast_mul]; grind
  · have hbd' : b.den = g * ((u * q : Nat) : Int) := by rw [hbd, hq, hu]; simp only [Int.natCast_mul]; grind
    have had' : a.den = d * (p : Int) := by rw [had, hp]; simp
    have hbd2 : b.den = d * (q : Int) := by rw [hbd, hq]; simp
    refine fracOf_red (c := (d : Int) * g) (Int.mul_pos (by omega) (by omega)) ?_ ?_ ?_
    · have : a.num * b.den + b.num * a.den = d * (a.num * q + b.num * p) := by rw [had', hbd2]; grind
      rw [this, ht]
      grind
    · rw [had', hbd']
      grind
    · exact hcop

/-- What is in lowest terms: the product. -/
theorem prod_red {a b : Frac} (ha : FracOk a) (hb : FracOk b) : ∃ g h x y u v : Int, 0 < g ∧ 0 < h ∧ 0 < u ∧ 0 < v ∧ gcdI a.num b.den = g ∧ gcdI b.num a.den = h ∧ a.num = g * x ∧ b.num = h * y ∧ a.den = h * u ∧ b.den = g * v ∧ fracOf (a.num * b.num) (a.den * b.den) = cutF (x * y) (u * v) := by
  have hbd := hb.denlo
  have had := ha.denlo
  have hg : 0 < gcdI a.num b.den := gcdI_pos (by omega)
  have hh : 0 < gcdI b.num a.den := gcdI_pos (by omega)
  obtain ⟨x, hx⟩ : gcdI a.num b.den ∣ a.num := gcdI_dvd_left ..
  obtain ⟨v, hv⟩ : gcdI a.num b.den ∣ b.den := gcdI_dvd_right ..
  obtain ⟨y, hy⟩ : gcdI b.num a.den ∣ b.num := gcdI_dvd_left ..
  obtain ⟨u, hu⟩ : gcdI b.num a.den ∣ a.den := gcdI_dvd_right ..
  generalize hG : gcdI a.num b.den = g at *
  generalize hH : gcdI b.num a.den = h at *
  have cop : ∀ k m n : Int, 0 < k → gcdI (k * m) (k * n) = k → Int.gcd m n = 1 := by
    intro k m n hk e
    rw [gcdI_eq] at e
    rw [Int.gcd_mul_left, Int.natCast_mul, show ((k.natAbs : Nat) : Int) = k by omega] at e
    have : ((Int.gcd m n : Nat) : Int) = 1 := Int.eq_of_mul_eq_mul_left (a := k) (by omega) (by omega)
    omega
  have c1 : Int.gcd x v = 1 := cop g x v hg (by rw [← hx, ← hv]; exact hG)
  have c2 : Int.gcd y u = 1 := cop h y u hh (by rw [← hy, ← hu]; exact hH)
  have hu0 : 0 < u := by
    rcases Int.lt_or_le 0 u with e | e
    · exact e
    · have := Int.mul_le_mul_of_nonneg_left e (show 0 ≤ h by omega)
      omega
  have hv0 : 0 < v := by
    rcases Int.lt_or_le 0 v with e | e
    · exact e
    · have := Int.mul_le_mul_of_nonneg_left e (show 0 ≤ g by omega)
      omega
  refine ⟨g, h, x, y, u, v, hg, hh, hu0, hv0, rfl, rfl, hx, hy, hu, hv, ?_⟩
  refine fracOf_red (c := g * h) (Int.mul_pos hg hh) ?_ ?_ ?_
  · rw [hx, hy]; grind
  · rw [hu, hv]; grind
  · have ga := ha.gcd
    have gb := hb.gcd
    rw [Int.gcd_eq_natAbs_gcd_natAbs] at ga gb c1 c2 ⊢
    rw [hx, hu, Int.natAbs_mul, Int.natAbs_mul] at ga
    rw [hy, hv, Int.natAbs_mul, Int.natAbs_mul] at gb
    rw [Int.natAbs_mul, Int.natAbs_mul]
    have k1 : Nat.Coprime x.natAbs u.natAbs := Nat.Coprime.coprime_dvd_left (Nat.dvd_mul_left _ _) (Nat.Coprime.symm (Nat.Coprime.coprime_dvd_left (Nat.dvd_mul_left _ _) (Nat.Coprime.symm ga)))
    have k2 : Nat.Coprime y.natAbs v.natAbs := Nat.Coprime.coprime_dvd_left (Nat.dvd_mul_left _ _) (Nat.Coprime.symm (Nat.Coprime.coprime_dvd_left (Nat.dvd_mul_left _ _) (Nat.Coprime.symm gb)))
    exact Nat.Coprime.mul_left (Nat.Coprime.mul_right k1 c1) (Nat.Coprime.mul_right c2 k2)

def addF (a b : Frac) : Frac × Int := bif fracOkB a && fracOkB b then fracOf (a.num * b.den + b.num * a.den) (a.den * b.den) else (fracZ, 8)
def subF (a b : Frac) : Frac × Int := bif fracOkB a && fracOkB b then fracOf (a.num * b.den - b.num * a.den) (a.den * b.den) else (fracZ, 8)
def mulF (a b : Frac) : Frac × Int := bif fracOkB a && fracOkB b then fracOf (a.num * b.num) (a.den * b.den) else (fracZ, 8)

theorem FracOk.neg {a : Frac} (h : FracOk a) : FracOk ⟨-a.num, a.den⟩ := ⟨h.denlo, h.denhi, by have := h.numhi; simp only; omega, by have := h.numlo; simp only; omega, by rw [Int.gcd_eq_natAbs_gcd_natAbs, Int.natAbs_neg, ← Int.gcd_eq_natAbs_gcd_natAbs]; exact h.gcd⟩

end Go.Ev
