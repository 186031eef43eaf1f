/-
  Fractions by their values (rational numbers): sums, products, quotients; size; vectors, matrices and turns. No program here.
-/
import Derived.Test.YtglifoijcdfjaaaGreatDoorMat
namespace Go.Ev
open Go

def val (a : Frac) : Rat := (a.num : Rat) / (a.den : Rat)

theorem den_ne {a : Frac} (h : FracOk a) : (a.den : Rat) ≠ 0 := by
  have := h.denlo
  exact_mod_cast (show a.den ≠ 0 by omega)

theorem val_mul {a : Frac} (h : FracOk a) : val a * (a.den : Rat) = a.num := by unfold val; exact Rat.div_mul_cancel (den_ne h)

/-- A value by a numerator and a denominator. -/
theorem val_of {x : Frac} (hx : FracOk x) {n d : Int} (h : x.num * d = n * x.den) : val x * (d : Rat) = n := by
  have h1 := den_ne hx
  have h2 := val_mul hx
  have h3 : (x.num : Rat) * d = n * x.den := by exact_mod_cast h
  grind

theorem of_val {x : Frac} (hx : FracOk x) {n d : Int} (h : val x * (d : Rat) = n) : x.num * d = n * x.den := by
  have h1 := den_ne hx
  have h2 := val_mul hx
  have h3 : (x.num : Rat) * d = n * x.den := by grind
  exact_mod_cast h3

/-- A fraction in lowest terms is the least of its value. -/
theorem den_dvd {x : Frac} (hx : FracOk x) {n d : Int} (h : x.num * d = n * x.den) : x.den ∣ d := by
  have hg := hx.gcd
  have h1 : x.den.natAbs ∣ x.num.natAbs * d.natAbs := by
    rw [← Int.natAbs_mul, h, Int.natAbs_mul]
    exact Nat.dvd_mul_left ..
  have h2 : x.den.natAbs ∣ d.natAbs := Nat.Coprime.dvd_of_dvd_mul_left (by rw [Nat.coprime_comm]; exact hg) h1
  exact Int.natAbs_dvd_natAbs.1 h2

theorem least {x : Frac} (hx : FracOk x) {n d : Int} (hd : 0 < d) (h : x.num * d = n * x.den) : x.den ≤ d ∧ absI x.num ≤ absI n := by
  obtain ⟨k, hk⟩ := den_dvd hx h
  have h1 := hx.denlo
  have hk0 : 0 < k := by
    rcases Int.lt_or_le 0 k with q | q
    · exact q
    · have := Int.mul_nonpos_of_nonneg_of_nonpos (show 0 ≤ x.den by omega) q
      omega
  subst hk
  have hn : n = x.num * k := by
    have : x.den * (x.num * k) = x.den * n := by grind
    exact (Int.eq_of_mul_eq_mul_left (by omega) this).symm
  refine ⟨?_, ?_⟩
  · have := Int.mul_le_mul_of_nonneg_left (show 1 ≤ k by omega) (show 0 ≤ x.den by omega)
    omega
  · rw [hn, absI_eq, absI_eq, Int.natAbs_mul, Int.natCast_mul]
    have := Int.mul_le_mul_of_nonneg_left (show 1 ≤ (k.natAbs : Int) by omega) (show 0 ≤ (x.num.natAbs : Int) by omega)
    omega

theorem val_inj {a b : Frac} (ha : FracOk a) (hb : FracOk b) (h : val a = val b) : a = b := by
  have h1 : a.num * b.den = b.num * a.den := of_val ha (by rw [h]; exact val_mul hb)
  have h2 := (least ha (by have := hb.denlo; omega) h1).1
  have h3 := (least hb (by have := ha.denlo; omega) h1.symm).1
  have h4 : a.den = b.den := by omega
  have h5 : a.num = b.num := by
    rw [h4] at h1
    exact Int.eq_of_mul_eq_mul_right (by have := hb.denlo; omega) h1
  cases a; cases b
  simp only at h4 h5
  rw [h4, h5]

theorem val_zero : val zeroF = 0 := by unfold val zeroF; decide +kernel
theorem val_one : val oneF = 1 := by unfold val oneF; decide +kernel
theorem val_neg {a : Frac} (h : FracOk a) : val (negR a) = - val a := by
  unfold negR
  rw [negN h]
  unfold val
  simp only
  rw [Rat.intCast_neg]
  grind

/-! ### Values of results -/

theorem add_val {a b c : Frac} (ha : FracOk a) (hb : FracOk b) (h : addF a b = (c, 0)) : FracOk c ∧ val c = val a + val b := by
  obtain ⟨kc, e⟩ := addF_vl ha hb h
  refine ⟨kc, ?_⟩
  have := val_of kc e
  have h1 := val_mul ha; have h2 := val_mul hb
  have h3 := den_ne ha; have h4 := den_ne hb
  rw [Rat.intCast_add, Rat.intCast_mul, Rat.intCast_mul, Rat.intCast_mul] at this
  grind
theorem mul_val {a b c : Frac} (ha : FracOk a) (hb : FracOk b) (h : mulF a b = (c, 0)) : FracOk c ∧ val c = val a * val b := by
  obtain ⟨kc, e⟩ := mulF_val ha hb h
  refine ⟨kc, ?_⟩
  have := val_of kc e
  have h1 := val_mul ha; have h2 := val_mul hb
  have h3 := den_ne ha; have h4 := den_ne hb
  rw [Rat.intCast_mul, Rat.intCast_mul] at this
  grind
theorem sub_val {a b c : Frac} (ha : FracOk a) (hb : FracOk b) (h : subF a b = (c, 0)) : FracOk c ∧ val c = val a - val b := by
  rw [← addF_neg ha hb] at h
  obtain ⟨kc, e⟩ := add_val ha (negR_ok hb) h
  rw [val_neg hb] at e
  exact ⟨kc, by grind⟩

theorem num_ne {b : Frac} (hb : FracOk b) : b.num ≠ 0 ↔ val b ≠ 0 := by
  have h1 := den_ne hb
  have h2 := val_mul hb
  constructor
  · intro h e
    rw [e] at h2
    have : (b.num : Rat) = 0 := by grind
    exact h (by exact_mod_cast this)
  · intro h e
    rw [e] at h2
    apply h
    have h2' : val b * (b.den : Rat) = 0 := by rw [h2]; rfl
    grind

theorem div_val {a b c : Frac} (ha : FracOk a) (hb : FracOk b) (h : divF a b = (c, 0)) : FracOk c ∧ val b ≠ 0 ∧ val c * val b = val a := by
  unfold divF at h
  rw [fracOkB_iff.2 ha, fracOkB_iff.2 hb] at h
  simp only [Bool.and_self, cond_true] at h
  cases h0 : b.num == 0 with
  | true => rw [h0] at h; simp at h
  | false =>
    rw [h0] at h
    have hne : b.num ≠ 0 := by simpa using h0
    have hv := (num_ne hb).1 hne
    have h1 := val_mul ha; have h2 := val_mul hb
    have h3 := den_ne ha; have h4 := den_ne hb
    have da := ha.denlo
    simp only [cond_false] at h
    by_cases hn : b.num < 0
    · rw [decide_eq_true hn] at h
      obtain ⟨kc, e⟩ := frac_val (Int.mul_pos (by omega) (by omega)) h
      refine ⟨kc, hv, ?_⟩
      have := val_of kc e
      rw [Rat.intCast_mul, Rat.intCast_mul, Rat.intCast_neg, Rat.intCast_neg] at this
      grind
    · rw [decide_eq_false hn] at h
      obtain ⟨kc, e⟩ := frac_val (Int.mul_pos (by omega) (by omega)) h
      refine ⟨kc, hv, ?_⟩
      have := val_of kc e
      rw [Rat.intCast_mul, Rat.intCast_mul] at this
      grind

/-! ### Size -/

theorem fracOf_small {n d : Int} (hn : absI n ≤ 1000000000000000000) (hd0 : 0 < d) (hd : d ≤ 1000000000000000000) : ∃ c, fracOf n d = (c, 0) := by
  have hg : 0 < gcdI n d := gcdI_pos (by omega)
  unfold fracOf
  have a0 : 0 ≤ absI n := by rw [absI_eq]; omega
  have h1 : absI n / gcdI n d ≤ absI n := Int.ediv_le_self _ a0
  have h2 : d / gcdI n d ≤ d := Int.ediv_le_self _ (by omega)
  rw [decide_eq_true (show absI n / gcdI n d ≤ 1000000000000000000 by omega), decide_eq_true (show d / gcdI n d ≤ 1000000000000000000 by omega)]
  exact ⟨_, rfl⟩

/-- Numerator and denominator are at most so great. -/
structure Sz (N D : Int) (x : Frac) : Prop where
  ok : FracOk x
  num : absI x.num ≤ N
  den : x.den ≤ D

theorem absI_nn (n : Int) : 0 ≤ absI n := by rw [absI_eq]; omega
theorem absI_mul (m n : Int) : absI (m * n) = absI m * absI n := by rw [absI_eq, absI_eq, absI_eq, Int.natAbs_mul, Int.natCast_mul]
theorem absI_add_le (m n : Int) : absI (m + n) ≤ absI m + absI n := by rw [absI_eq, absI_eq, absI_eq]; omega
theorem absI_sub_le (m n : Int) : absI (m - n) ≤ absI m + absI n := by rw [absI_eq, absI_eq, absI_eq]; omega
theorem absI_of_pos {n : Int} (h : 0 < n) : absI n = n := by rw [absI_eq]; omega
theorem mul_le {a b A B : Int} (ha : 0 ≤ a) (hb : 0 ≤ b) (h1 : a ≤ A) (h2 : b ≤ B) : a * b ≤ A * B := Int.mul_le_mul h1 h2 hb (by omega)

theorem Sz.mono {N D N' D' : Int} {x : Frac} (h : Sz N D x) (hn : N ≤ N') (hd : D ≤ D') : Sz N' D' x := ⟨h.ok, by have := h.num; omega, by have := h.den; omega⟩

theorem Sz.dpos {N D : Int} {x : Frac} (h : Sz N D x) : 0 < x.den := by have := h.ok.denlo; omega
theorem Sz.dabs {N D : Int} {x : Frac} (h : Sz N D x) : absI x.den ≤ D := by rw [absI_of_pos h.dpos]; exact h.den

theorem sz_of {n d N D : Int} (hd0 : 0 < d) (hn : absI n ≤ N) (hd : d ≤ D) (hN : N ≤ 1000000000000000000) (hD : D ≤ 1000000000000000000) : ∃ c, fracOf n d = (c, 0) ∧ Sz N D c := by
  obtain ⟨c, e⟩ := fracOf_small (n := n) (d := d) (by omega) hd0 (by omega)
  obtain ⟨kc, h⟩ := frac_val hd0 e
  obtain ⟨h1, h2⟩ := least kc hd0 h
  exact ⟨c, e, kc, by omega, by omega⟩

theorem Sz.mul {N D N' D' : Int} {a b : Frac} (ha : Sz N D a) (hb : Sz N' D' b) (hN : N * N' ≤ 1000000000000000000) (hD : D * D' ≤ 1000000000000000000) : ∃ c, mulF a b = (c, 0) ∧ Sz (N * N') (D * D') c := by
  rw [mulF_ok ha.ok hb.ok]
  refine sz_of (den_pos ha.ok hb.ok) ?_ ?_ hN hD
  · rw [absI_mul]; exact mul_le (absI_nn _) (absI_nn _) ha.num hb.num
  · exact mul_le (by have := ha.dpos; omega) (by have := hb.dpos; omega) ha.den hb.den
theorem Sz.add {N D N' D' : Int} {a b : Frac} (ha : Sz N D a) (hb : Sz N' D' b) (hN : N * D' + N' * D ≤ 1000000000000000000) (hD : D * D' ≤ 1000000000000000000) : ∃ c, addF a b = (c, 0) ∧ Sz (N * D' + N' * D) (D * D') c := by
  rw [addF_ok ha.ok hb.ok]
  refine sz_of (den_pos ha.ok hb.ok) ?_ ?_ hN hD
  · refine Int.le_trans (absI_add_le _ _) ?_
    rw [absI_mul, absI_mul]
    have := mul_le (absI_nn _) (absI_nn _) ha.num hb.dabs
    have := mul_le (absI_nn _) (absI_nn _) hb.num ha.dabs
    omega
  · exact mul_le (by have := ha.dpos; omega) (by have := hb.dpos; omega) ha.den hb.den
theorem Sz.sub {N D N' D' : Int} {a b : Frac} (ha : Sz N D a) (hb : Sz N' D' b) (hN : N * D' + N' * D ≤ 1000000000000000000) (hD : D * D' ≤ 1000000000000000000) : ∃ c, subF a b = (c, 0) ∧ Sz (N * D' + N' * D) (D * D') c := by
  rw [subF_ok ha.ok hb.ok]
  refine sz_of (den_pos ha.ok hb.ok) ?_ ?_ hN hD
  · refine Int.le_trans (absI_sub_le _ _) ?_
    rw [absI_mul, absI_mul]
    have := mul_le (absI_nn _) (absI_nn _) ha.num hb.dabs
    have := mul_le (absI_nn _) (absI_nn _) hb.num ha.dabs
    omega
  · exact mul_le (by have := ha.dpos; omega) (by have := hb.dpos; omega) ha.den hb.den
theorem Sz.div {N D N' D' : Int} {a b : Frac} (ha : Sz N D a) (hb : Sz N' D' b) (h0 : b.num ≠ 0) (hN : N * D' ≤ 1000000000000000000) (hD : D * N' ≤ 1000000000000000000) : ∃ c, divF a b = (c, 0) ∧ Sz (N * D') (D * N') c := by
  unfold divF
  rw [fracOkB_iff.2 ha.ok, fracOkB_iff.2 hb.ok, show (b.num == 0) = false by simpa using h0]
  simp only [Bool.and_self, cond_true, cond_false]
  have da := ha.dpos; have db := hb.dpos; have nb := hb.num
  rw [absI_eq] at nb
  by_cases hn : b.num < 0
  · rw [decide_eq_true hn]
    simp only [cond_true]
    refine sz_of (Int.mul_pos da (by omega)) ?_ ?_ hN hD
    · rw [absI_mul, absI_neg]; exact mul_le (absI_nn _) (absI_nn _) ha.num hb.dabs
    · exact mul_le (by omega) (by omega) ha.den (by omega)
  · rw [decide_eq_false hn]
    simp only [cond_false]
    refine sz_of (Int.mul_pos da (by omega)) ?_ ?_ hN hD
    · rw [absI_mul]; exact mul_le (absI_nn _) (absI_nn _) ha.num hb.dabs
    · exact mul_le (by omega) (by omega) ha.den (by omega)

theorem Sz.one : Sz 1 1 oneF := ⟨one_ok, by decide, by decide⟩
theorem Sz.zero : Sz 0 1 zeroF := ⟨zero_ok, by decide, by decide⟩
theorem Sz.neg {N D : Int} {x : Frac} (h : Sz N D x) : Sz N D (negR x) := ⟨negR_ok h.ok, by unfold negR; rw [negN h.ok, absI_neg]; exact h.num, h.den⟩

/-! ### Vectors -/

def dotQ (v w : Vec) : Rat := val v.x * val w.x + val v.y * val w.y + val v.z * val w.z

theorem dotF_cases {v w : Vec} (hv : VecOk v) (hw : VecOk w) : (∃ s, dotF v w = (s, 0) ∧ FracOk s ∧ val s = dotQ v w) ∨ dotF v w = (fracZ, 16) := by
  unfold dotF andF dotQ
  rcases mulF_cases hv.x hw.x with ⟨p, e1, k1⟩ | e1
  · rw [e1]; simp only [addF_nought k1]
    have v1 := (mul_val hv.x hw.x e1).2
    rcases mulF_cases hv.y hw.y with ⟨q, e2, k2⟩ | e2
    · rw [e2]
      have v2 := (mul_val hv.y hw.y e2).2
      simp only [beq_self_eq_true, cond_true]
      rcases addF_cases k1 k2 with ⟨s, e3, k3⟩ | e3
      · rw [e3]
        have v3 := (add_val k1 k2 e3).2
        simp only [beq_self_eq_true, cond_true]
        rcases mulF_cases hv.z hw.z with ⟨r, e4, k4⟩ | e4
        · rw [e4]
          have v4 := (mul_val hv.z hw.z e4).2
          simp only [beq_self_eq_true, cond_true]
          rcases addF_cases k3 k4 with ⟨t, e5, k5⟩ | e5
          · rw [e5]
            have v5 := (add_val k3 k4 e5).2
            exact .inl ⟨t, rfl, k5, by rw [v5, v3, v4, v1, v2]⟩
          · rw [e5]; exact .inr rfl
        · rw [e4]; exact .inr rfl
      · rw [e3]; exact .inr rfl
    · rw [e2]; exact .inr rfl
  · rw [e1]; exact .inr rfl

theorem crossC_val {a b c d r : Frac} (ha : FracOk a) (hb : FracOk b) (hc : FracOk c) (hd : FracOk d) (h : crossC a b c d = (r, 0)) : FracOk r ∧ val r = val a * val b - val c * val d := by
  unfold crossC andF at h
  rcases mulF_cases ha hb with ⟨p, e1, k1⟩ | e1
  · rcases mulF_cases hc hd with ⟨q, e2, k2⟩ | e2
    · rw [e1, e2] at h
      simp only [beq_self_eq_true, cond_true] at h
      obtain ⟨k3, e3⟩ := sub_val k1 k2 h
      exact ⟨k3, by rw [e3, (mul_val ha hb e1).2, (mul_val hc hd e2).2]⟩
    · rw [e1, e2] at h; cases h
  · rw [e1] at h; cases h

theorem vec_eq {v w : Vec} (hv : VecOk v) (hw : VecOk w) (hx : val v.x = val w.x) (hy : val v.y = val w.y) (hz : val v.z = val w.z) : v = w := by
  have h1 := val_inj hv.x hw.x hx
  have h2 := val_inj hv.y hw.y hy
  have h3 := val_inj hv.z hw.z hz
  cases v; cases w
  simp only at h1 h2 h3
  rw [h1, h2, h3]

/-- A cross product, if there is one. -/
theorem cross_val {v w u : Vec} (hv : VecOk v) (hw : VecOk w) (h : crossF v w = (u, 0)) : VecOk u ∧ val u.x = val v.y * val w.z - val v.z * val w.y ∧ val u.y = val v.z * val w.x - val v.x * val w.z ∧ val u.z = val v.x * val w.y - val v.y * val w.x := by
  rcases crossF_cases hv hw with ⟨u', e, k, e1, e2, e3⟩ | e
  · rw [h] at e
    cases e
    exact ⟨k, (crossC_val hv.y hw.z hv.z hw.y e1).2, (crossC_val hv.z hw.x hv.x hw.z e2).2, (crossC_val hv.x hw.y hv.y hw.x e3).2⟩
  · rw [h] at e; cases e

theorem cross_small {N D : Int} {a b c d : Frac} (ha : Sz N D a) (hb : Sz N D b) (hc : Sz N D c) (hd : Sz N D d) (hN : N * N ≤ 1000000000000000000) (hD : D * D ≤ 1000000000000000000)
    (h1 : N * N * (D * D) + N * N * (D * D) ≤ 1000000000000000000) (h2 : D * D * (D * D) ≤ 1000000000000000000) : ∃ r, crossC a b c d = (r, 0) := by
  unfold crossC andF
  obtain ⟨p, e1, k1⟩ := ha.mul hb hN hD
  obtain ⟨q, e2, k2⟩ := hc.mul hd hN hD
  obtain ⟨r, e3, k3⟩ := k1.sub k2 h1 h2
  rw [e1, e2]
  exact ⟨r, e3⟩

end Go.Ev
