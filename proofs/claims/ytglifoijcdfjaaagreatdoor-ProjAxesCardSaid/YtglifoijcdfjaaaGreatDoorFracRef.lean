/-
  Fractions: what the reference's functions come to. No program here.
-/
import Derived.Test.YtglifoijcdfjaaaGreatDoorFracProg
namespace Go.Ev
open Go

def bothE (a b : Frac) : Int := bif checkF a != 0 then checkF a else checkF b
theorem bothE_eq (a b : Frac) : bothE a b = bif fracOkB a && fracOkB b then 0 else 8 := by
  unfold bothE checkF
  cases fracOkB a <;> cases fracOkB b <;> rfl

/-! ### Sums and differences of numbers of four digits -/

def sumBig (x y : Big) : Big :=
  let c0 := wu64 (0 + wu64 (x.a + y.a))
  let c1 := wu64 (shrU c0 32 + wu64 (x.b + y.b))
  let c2 := wu64 (shrU c1 32 + wu64 (x.c + y.c))
  let c3 := wu64 (shrU c2 32 + wu64 (x.d + y.d))
  ⟨bandU c0 4294967295, bandU c1 4294967295, bandU c2 4294967295, bandU c3 4294967295⟩

def sumOn (x y : Big) : Bool := bigOk x && (bigOk y && decide (valOf x + valOf y < 340282366920938463463374607431768211456))

theorem band_int {x : Int} (h : 0 ≤ x ∧ x ≤ 18446744073709551615) : bandU x 4294967295 = x % 4294967296 := by
  obtain ⟨a, rfl⟩ := Int.eq_ofNat_of_zero_le h.1
  rw [band_mask a (by omega)]
  omega
theorem shr_int {x : Int} (h : 0 ≤ x) : shrU x 32 = x / 4294967296 := by
  obtain ⟨a, rfl⟩ := Int.eq_ofNat_of_zero_le h
  rw [shr_32]
  omega

theorem sumBig_ok {x y : Big} (h : sumOn x y = true) : sumBig x y = bigOf (valOf x + valOf y) := by
  simp only [sumOn, bigOk, Bool.and_eq_true, decide_eq_true_eq] at h
  obtain ⟨⟨x1, x2, x3, x4, x5, x6, x7, x8⟩, ⟨y1, y2, y3, y4, y5, y6, y7, y8⟩, hs⟩ := h
  unfold valOf at hs
  unfold sumBig bigOf valOf
  simp only
  rw [wu64_id (n := x.a + y.a) (by omega), wu64_id (n := x.b + y.b) (by omega), wu64_id (n := x.c + y.c) (by omega), wu64_id (n := x.d + y.d) (by omega), wu64_id (n := 0 + (x.a + y.a)) (by omega)]
  rw [shr_int (x := 0 + (x.a + y.a)) (by omega), wu64_id (n := (0 + (x.a + y.a)) / 4294967296 + (x.b + y.b)) (by omega)]
  rw [shr_int (x := (0 + (x.a + y.a)) / 4294967296 + (x.b + y.b)) (by omega), wu64_id (n := ((0 + (x.a + y.a)) / 4294967296 + (x.b + y.b)) / 4294967296 + (x.c + y.c)) (by omega)]
  rw [shr_int (x := ((0 + (x.a + y.a)) / 4294967296 + (x.b + y.b)) / 4294967296 + (x.c + y.c)) (by omega), wu64_id (n := (((0 + (x.a + y.a)) / 4294967296 + (x.b + y.b)) / 4294967296 + (x.c + y.c)) / 4294967296 + (x.d + y.d)) (by omega)]
  rw [band_int (x := 0 + (x.a + y.a)) (by omega), band_int (x := (0 + (x.a + y.a)) / 4294967296 + (x.b + y.b)) (by omega), band_int (x := ((0 + (x.a + y.a)) / 4294967296 + (x.b + y.b)) / 4294967296 + (x.c + y.c)) (by omega), band_int (x := (((0 + (x.a + y.a)) / 4294967296 + (x.b + y.b)) / 4294967296 + (x.c + y.c)) / 4294967296 + (x.d + y.d)) (by omega)]
  congr 1 <;> omega

def restX (p q o : Int) : Int := wu64 (wu64 (wu64 (wu64 (p + 4294967295) + 1) - q) - o)
def restBig (x y : Big) : Big :=
  let c0 := restX x.a y.a 0
  let c1 := restX x.b y.b (wu64 (1 - shrU c0 32))
  let c2 := restX x.c y.c (wu64 (1 - shrU c1 32))
  let c3 := restX x.d y.d (wu64 (1 - shrU c2 32))
  ⟨bandU c0 4294967295, bandU c1 4294967295, bandU c2 4294967295, bandU c3 4294967295⟩

def restOn (x y : Big) : Bool := bigOk x && (bigOk y && decide (valOf y ≤ valOf x))

theorem restX_ok {p q o : Int} (hp : 0 ≤ p ∧ p < 4294967296) (hq : 0 ≤ q ∧ q < 4294967296) (ho : 0 ≤ o ∧ o ≤ 1) : restX p q o = p + 4294967296 - q - o ∧ wu64 (1 - shrU (restX p q o) 32) = (if p < q + o then 1 else 0) ∧ bandU (restX p q o) 4294967295 = (p - q - o) % 4294967296 := by
  have e : restX p q o = p + 4294967296 - q - o := by
    unfold restX
    rw [wu64_id (n := p + 4294967295) (by omega), wu64_id (n := p + 4294967295 + 1) (by omega), wu64_id (n := p + 4294967295 + 1 - q) (by omega), wu64_id (by omega)]
    omega
  refine ⟨e, ?_, ?_⟩
  · rw [e, shr_int (by omega), wu64_id (by omega)]
    split <;> omega
  · rw [e, band_int (by omega)]
    omega

theorem restBig_ok {x y : Big} (h : restOn x y = true) : restBig x y = bigOf (valOf x - valOf y) := by
  simp only [restOn, bigOk, Bool.and_eq_true, decide_eq_true_eq] at h
  obtain ⟨⟨x1, x2, x3, x4, x5, x6, x7, x8⟩, ⟨y1, y2, y3, y4, y5, y6, y7, y8⟩, hs⟩ := h
  unfold valOf at hs
  unfold restBig
  simp only
  have r0 := restX_ok (p := x.a) (q := y.a) (o := 0) ⟨x1, x2⟩ ⟨y1, y2⟩ (by omega)
  rw [r0.2.1, r0.2.2]
  have o1 : 0 ≤ (if x.a < y.a + 0 then (1 : Int) else 0) ∧ (if x.a < y.a + 0 then (1 : Int) else 0) ≤ 1 := by split <;> omega
  have r1 := restX_ok (p := x.b) (q := y.b) (o := if x.a < y.a + 0 then 1 else 0) ⟨x3, x4⟩ ⟨y3, y4⟩ o1
  rw [r1.2.1, r1.2.2]
  generalize hA : (if x.a < y.a + 0 then (1 : Int) else 0) = A at *
  have o2 : 0 ≤ (if x.b < y.b + A then (1 : Int) else 0) ∧ (if x.b < y.b + A then (1 : Int) else 0) ≤ 1 := by split <;> omega
  have r2 := restX_ok (p := x.c) (q := y.c) (o := if x.b < y.b + A then 1 else 0) ⟨x5, x6⟩ ⟨y5, y6⟩ o2
  rw [r2.2.1, r2.2.2]
  generalize hB : (if x.b < y.b + A then (1 : Int) else 0) = B at *
  have o3 : 0 ≤ (if x.c < y.c + B then (1 : Int) else 0) ∧ (if x.c < y.c + B then (1 : Int) else 0) ≤ 1 := by split <;> omega
  have r3 := restX_ok (p := x.d) (q := y.d) (o := if x.c < y.c + B then 1 else 0) ⟨x7, x8⟩ ⟨y7, y8⟩ o3
  rw [r3.2.2]
  generalize hC : (if x.c < y.c + B then (1 : Int) else 0) = C at *
  have fA : (A = 1 ∧ x.a < y.a) ∨ (A = 0 ∧ y.a ≤ x.a) := by split at hA <;> omega
  have fB : (B = 1 ∧ x.b < y.b + A) ∨ (B = 0 ∧ y.b + A ≤ x.b) := by split at hB <;> omega
  have fC : (C = 1 ∧ x.c < y.c + B) ∨ (C = 0 ∧ y.c + B ≤ x.c) := by split at hC <;> omega
  clear hA hB hC r0 r1 r2 r3
  have q0 : (x.a - y.a - 0) % 4294967296 = x.a - y.a + 4294967296 * A := by omega
  have q1 : (x.b - y.b - A) % 4294967296 = x.b - y.b - A + 4294967296 * B := by omega
  have q2 : (x.c - y.c - B) % 4294967296 = x.c - y.c - B + 4294967296 * C := by omega
  have q3 : (x.d - y.d - C) % 4294967296 = x.d - y.d - C := by omega
  rw [q0, q1, q2, q3]
  unfold bigOf valOf
  congr 1 <;> omega

/-! ### Sums of fractions -/

def addTail (K : AV → List Blk → Ans) (a b : Frac) (g : Int) (x : Big) : Ans :=
  bif overOn x g then (
    let h := gcdI (overI (valOf x) g).2 g
    bif overOn x h then (
      let q := (overI (valOf x) h).1
      bif eqAll q.cells (Big.cells ⟨0, 0, 0, 0⟩) then K (rFracE (⟨0, 1⟩, 0)) [] else
      bif g == 0 then none else bif h == 0 then none else
      K (rFracE (lowestRaw (decide (a.num < 0)) q (bigOf (wu64 ((wu64 a.den).tdiv g) * wu64 ((wu64 b.den).tdiv h))))) []) else none) else none

def addRefAns (K : AV → List Blk → Ans) (a b : Frac) : Ans :=
  bif bothE a b != 0 then K (rFracE (fracZ, bothE a b)) [] else
  let g := gcdI (wu64 a.den) (wu64 b.den)
  bif g == 0 then none else bif g == 0 then none else
  let x := bigOf (absI a.num * wu64 ((wu64 b.den).tdiv g))
  let y := bigOf (absI b.num * wu64 ((wu64 a.den).tdiv g))
  bif decide (a.num < 0) == decide (b.num < 0) then (bif sumOn x y then addTail K a b g (bigOf (valOf x + valOf y)) else none) else
  bif belowRaw x y then (bif restOn y x then addTail K b a g (bigOf (valOf y - valOf x)) else none) else (bif restOn x y then addTail K a b g (bigOf (valOf x - valOf y)) else none)

theorem bigOf_zero {n : Int} : eqAll (bigOf n).cells (Big.cells ⟨0, 0, 0, 0⟩) = decide (n = 0) := by
  rw [Bool.eq_iff_iff]
  simp only [Big.cells, bigOf, eqAll, D.eq, Bool.and_eq_true, beq_iff_eq, decide_eq_true_eq, and_true]
  omega

theorem overOn_bigOf' {v n : Int} (hv : 0 ≤ v ∧ v < 340282366920938463463374607431768211456) (hn : 0 < n ∧ n < 4611686018427387904) : overOn (bigOf v) n = true := by
  unfold overOn
  rw [bigOk_bigOf hv]
  simp [hn.1, hn.2]

theorem addTail_ok {K : AV → List Blk → Ans} {a b : Frac} {d p q g t m T S : Int} (hS : S = absI T) (hS1 : S ≤ 2000000000000000000000000000000000000) (hneg : T ≠ 0 → (bif decide (a.num < 0) then -absI T else absI T) = T)
    (hd : 0 < d) (hp : 0 < p) (hg : 0 < g) (hm : 0 < m) (hG : gcdI d T = g) (ht : T = g * t) (had : a.den = d * p) (hbd : b.den = d * q) (hbm : b.den = g * m) (ha : a.den ≤ 1000000000000000000) (hb : b.den ≤ 1000000000000000000) (hz : T = 0 → p * m = 1) :
    addTail K a b d (bigOf S) = K (rFracE (cutF t (p * m))) [] := by
  have hS0 : 0 ≤ S := by rw [hS]; exact absI_nonneg T
  have hp1 : p ≤ d * p := by
    have := Int.mul_le_mul_of_nonneg_right (show 1 ≤ d by omega) (show 0 ≤ p by omega)
    omega
  have hm1 : m ≤ g * m := by
    have := Int.mul_le_mul_of_nonneg_right (show 1 ≤ g by omega) (show 0 ≤ m by omega)
    omega
  have hd1 : d ≤ 1000000000000000000 := by
    have := Int.mul_le_mul_of_nonneg_left (show 1 ≤ p by omega) (show 0 ≤ d by omega)
    omega
  have hg1 : g ≤ 1000000000000000000 := by
    have := Int.mul_le_mul_of_nonneg_left (show 1 ≤ m by omega) (show 0 ≤ g by omega)
    omega
  have hr : gcdI (S % d) d = g := by
    rw [← hG, hS]
    simp only [gcdI_eq, absI_eq]
    rw [Int.gcd_eq_natAbs_gcd_natAbs, Int.gcd_eq_natAbs_gcd_natAbs]
    congr 1
    obtain ⟨d', rfl⟩ := Int.eq_ofNat_of_zero_le (Int.le_of_lt hd)
    rw [← Int.natCast_emod, Int.natAbs_natCast, Int.natAbs_natCast, ← Nat.gcd_rec]
  have habs : absI T = g * absI t := by
    rw [ht]
    simp only [absI_eq]
    rw [Int.natAbs_mul, Int.natCast_mul, show ((g.natAbs : Nat) : Int) = g by omega]
  have e3 : S / g = absI t := by rw [hS, habs]; exact Int.mul_ediv_cancel_left _ (by omega)
  unfold addTail
  rw [overOn_bigOf' (by omega) (by omega), valOf_bigOf]
  simp only [cond_true]
  unfold overI
  simp only
  rw [hr, overOn_bigOf' (by omega) (by omega)]
  simp only [cond_true]
  rw [bigOf_zero, e3]
  by_cases t0 : t = 0
  · have T0 : T = 0 := by rw [ht, t0]; simp
    rw [t0, hz T0]
    rfl
  · rw [decide_eq_false (show ¬ absI t = 0 by unfold absI; omega), show (d == 0) = false by simp; omega, show (g == 0) = false by simp; omega]
    simp only [cond_false]
    have e1 : wu64 ((wu64 a.den).tdiv d) = p := by
      rw [wu64_id (n := a.den) (by omega), had, Int.mul_tdiv_cancel_left _ (by omega)]
      exact wu64_id (by omega)
    have e2 : wu64 ((wu64 b.den).tdiv g) = m := by
      rw [wu64_id (n := b.den) (by omega), hbm, Int.mul_tdiv_cancel_left _ (by omega)]
      exact wu64_id (by omega)
    have hT : T ≠ 0 := by
      intro e
      rw [ht] at e
      rcases Int.mul_eq_zero.1 e with h | h
      · omega
      · exact t0 h
    have hn : (bif decide (a.num < 0) then -absI t else absI t) = t := by
      have h3 := hneg hT
      rw [habs, ht] at h3
      generalize decide (a.num < 0) = neg at h3 ⊢
      have h2 : (bif neg then -absI t else absI t) * g = t * g := by
        cases neg
        · simp only [cond_false] at h3 ⊢
          rw [Int.mul_comm, h3, Int.mul_comm]
        · simp only [cond_true] at h3 ⊢
          rw [Int.neg_mul, Int.mul_comm, h3, Int.mul_comm]
      exact Int.eq_of_mul_eq_mul_right (by omega) h2
    rw [e1, e2, lowestRaw_ok (absI_nonneg t) (Int.le_of_lt (Int.mul_pos hp hm)), lowF_cut hn]

theorem addRefAns_ok {K : AV → List Blk → Ans} {a b : Frac} : addRefAns K a b = K (rFracE (addF a b)) [] := by
  unfold addRefAns addF
  rw [bothE_eq]
  cases hok : fracOkB a && fracOkB b with
  | false => rfl
  | true =>
    simp only [Bool.and_eq_true] at hok
    have ha := fracOkB_iff.1 hok.1
    have hb := fracOkB_iff.1 hok.2
    simp only [cond_true]
    obtain ⟨d, p, q, g, t, m, hd, hp, hq, hg, hm, hgd, had, hbd, hG, ht, hbm, hcop, hF⟩ := sum_red ha hb
    obtain ⟨d', p', q', g', t', m', hd', hp', hq', hg', hm', hgd', had', hbd', hG', ht', hbm', hcop', hF'⟩ := sum_red hb ha
    have a1 := ha.denlo
    have a2 := ha.denhi
    have a3 := ha.numlo
    have a4 := ha.numhi
    have b1 := hb.denlo
    have b2 := hb.denhi
    have b3 := hb.numlo
    have b4 := hb.numhi
    have edd : d' = d := by rw [← hgd', ← hgd]; simp only [gcdI_eq]; rw [Int.gcd_comm]
    subst edd
    have epq : p' = q := Int.eq_of_mul_eq_mul_left (a := d') (by omega) (by rw [← had', ← hbd])
    have eqp : q' = p := Int.eq_of_mul_eq_mul_left (a := d') (by omega) (by rw [← hbd', ← had])
    subst epq
    subst eqp
    have hq1 : p' ≤ d' * p' := by
      have := Int.mul_le_mul_of_nonneg_right (show 1 ≤ d' by omega) (show 0 ≤ p' by omega)
      omega
    have hp1 : q' ≤ d' * q' := by
      have := Int.mul_le_mul_of_nonneg_right (show 1 ≤ d' by omega) (show 0 ≤ q' by omega)
      omega
    rw [wu64_id (n := a.den) (by omega), wu64_id (n := b.den) (by omega), hgd, show (d' == 0) = false by simp; omega]
    simp only [cond_false]
    have e1 : wu64 (b.den.tdiv d') = p' := by
      rw [had', Int.mul_tdiv_cancel_left _ (by omega)]
      exact wu64_id (by omega)
    have e2 : wu64 (a.den.tdiv d') = q' := by
      rw [hbd', Int.mul_tdiv_cancel_left _ (by omega)]
      exact wu64_id (by omega)
    rw [e1, e2]
    have x0 : 0 ≤ absI a.num * p' := Int.mul_nonneg (absI_nonneg _) (by omega)
    have x1 : absI a.num * p' ≤ 1000000000000000000 * 1000000000000000000 := Int.mul_le_mul (by unfold absI; omega) (by omega) (by omega) (by omega)
    have y0 : 0 ≤ absI b.num * q' := Int.mul_nonneg (absI_nonneg _) (by omega)
    have y1 : absI b.num * q' ≤ 1000000000000000000 * 1000000000000000000 := Int.mul_le_mul (by unfold absI; omega) (by omega) (by omega) (by omega)
    have sx : a.num < 0 → a.num * p' = -(absI a.num * p') := fun h => by rw [absI_of_neg h, Int.neg_mul]; omega
    have sx' : ¬ a.num < 0 → a.num * p' = absI a.num * p' := fun h => by rw [absI_of_nonneg (by omega)]
    have sy : b.num < 0 → b.num * q' = -(absI b.num * q') := fun h => by rw [absI_of_neg h, Int.neg_mul]; omega
    have sy' : ¬ b.num < 0 → b.num * q' = absI b.num * q' := fun h => by rw [absI_of_nonneg (by omega)]
    have fin : ∀ S : Int, S = absI (a.num * p' + b.num * q') → (a.num * p' + b.num * q' ≠ 0 → (bif decide (a.num < 0) then -absI (a.num * p' + b.num * q') else absI (a.num * p' + b.num * q')) = a.num * p' + b.num * q') →
        addTail K a b d' (bigOf S) = K (rFracE (fracOf (a.num * b.den + b.num * a.den) (a.den * b.den))) [] := by
      intro S hS hn
      rw [hF]
      refine addTail_ok hS (by rw [hS]; unfold absI; omega) hn hd hp hg hm hG ht hbd' hbd hbm a2 b2 ?_
      intro T0
      have t0 : t = 0 := by
        rw [T0] at ht
        rcases Int.mul_eq_zero.1 ht.symm with h | h
        · omega
        · exact h
      rw [t0, Int.gcd_zero_left] at hcop
      have := Int.mul_pos hp hm
      omega
    have fin' : ∀ S : Int, S = absI (b.num * q' + a.num * p') → (b.num * q' + a.num * p' ≠ 0 → (bif decide (b.num < 0) then -absI (b.num * q' + a.num * p') else absI (b.num * q' + a.num * p')) = b.num * q' + a.num * p') →
        addTail K b a d' (bigOf S) = K (rFracE (fracOf (a.num * b.den + b.num * a.den) (a.den * b.den))) [] := by
      intro S hS hn
      rw [Int.add_comm (a.num * b.den), Int.mul_comm a.den, hF']
      refine addTail_ok hS (by rw [hS]; unfold absI; omega) hn hd hp' hg' hm' hG' ht' had' hbd' hbm' b2 a2 ?_
      intro T0
      have t0 : t' = 0 := by
        rw [T0] at ht'
        rcases Int.mul_eq_zero.1 ht'.symm with h | h
        · omega
        · exact h
      rw [t0, Int.gcd_zero_left] at hcop'
      have := Int.mul_pos hp' hm'
      omega
    rw [valOf_bigOf, valOf_bigOf, belowRaw_ok]
    generalize absI a.num * p' = X at *
    generalize absI b.num * q' = Y at *
    have o1 : sumOn (bigOf X) (bigOf Y) = true := by
      simp only [sumOn, bigOk_bigOf (m := X) (by omega), bigOk_bigOf (m := Y) (by omega), valOf_bigOf, Bool.true_and, decide_eq_true_eq]
      omega
    have o2 : Y ≤ X → restOn (bigOf X) (bigOf Y) = true := fun h => by
      simp only [restOn, bigOk_bigOf (m := X) (by omega), bigOk_bigOf (m := Y) (by omega), valOf_bigOf, Bool.true_and, decide_eq_true_eq]
      exact h
    have o3 : X ≤ Y → restOn (bigOf Y) (bigOf X) = true := fun h => by
      simp only [restOn, bigOk_bigOf (m := X) (by omega), bigOk_bigOf (m := Y) (by omega), valOf_bigOf, Bool.true_and, decide_eq_true_eq]
      exact h
    rw [o1, cond_true]
    by_cases na : a.num < 0
    · by_cases nb : b.num < 0
      · rw [decide_eq_true na, decide_eq_true nb]
        simp only [beq_self_eq_true, cond_true]
        have := fin (X + Y) (by rw [sx na, sy nb]; unfold absI; omega) (fun _ => by rw [decide_eq_true na, sx na, sy nb]; unfold absI; simp only [cond_true]; omega)
        exact this
      · rw [decide_eq_true na, decide_eq_false nb]
        simp only [show (true == false) = false from rfl, cond_false]
        by_cases hc : X < Y
        · rw [decide_eq_true hc, cond_true, o3 (by omega), cond_true]
          exact fin' (Y - X) (by rw [sx na, sy' nb]; unfold absI; omega) (fun _ => by rw [decide_eq_false nb, sx na, sy' nb]; unfold absI; simp only [cond_false]; omega)
        · rw [decide_eq_false hc, cond_false, o2 (by omega), cond_true]
          exact fin (X - Y) (by rw [sx na, sy' nb]; unfold absI; omega) (fun _ => by rw [decide_eq_true na, sx na, sy' nb]; unfold absI; simp only [cond_true]; omega)
    · by_cases nb : b.num < 0
      · rw [decide_eq_false na, decide_eq_true nb]
        simp only [show (false == true) = false from rfl, cond_false]
        by_cases hc : X < Y
        · rw [decide_eq_true hc, cond_true, o3 (by omega), cond_true]
          exact fin' (Y - X) (by rw [sx' na, sy nb]; unfold absI; omega) (fun _ => by rw [decide_eq_true nb, sx' na, sy nb]; unfold absI; simp only [cond_true]; omega)
        · rw [decide_eq_false hc, cond_false, o2 (by omega), cond_true]
          exact fin (X - Y) (by rw [sx' na, sy nb]; unfold absI; omega) (fun _ => by rw [decide_eq_false na, sx' na, sy nb]; unfold absI; simp only [cond_false]; omega)
      · rw [decide_eq_false na, decide_eq_false nb]
        simp only [beq_self_eq_true, cond_true]
        exact fin (X + Y) (by rw [sx' na, sy' nb]; unfold absI; omega) (fun _ => by rw [decide_eq_false na, sx' na, sy' nb]; unfold absI; simp only [cond_false]; omega)

/-! ### Products of fractions -/

def mulRefAns (K : AV → List Blk → Ans) (a b : Frac) : Ans :=
  bif bothE a b != 0 then K (rFracE (fracZ, bothE a b)) [] else
  let g := gcdI (absI a.num) (wu64 b.den)
  let h := gcdI (absI b.num) (wu64 a.den)
  bif g == 0 then none else bif h == 0 then none else bif h == 0 then none else bif g == 0 then none else
  K (rFracE (lowestRaw (diffSign a.num b.num) (bigOf (wu64 ((absI a.num).tdiv g) * wu64 ((absI b.num).tdiv h))) (bigOf (wu64 ((wu64 a.den).tdiv h) * wu64 ((wu64 b.den).tdiv g))))) []

theorem mulRefAns_ok {K : AV → List Blk → Ans} {a b : Frac} : mulRefAns K a b = K (rFracE (mulF a b)) [] := by
  unfold mulRefAns mulF
  rw [bothE_eq]
  cases hok : fracOkB a && fracOkB b with
  | false => rfl
  | true =>
    simp only [Bool.and_eq_true] at hok
    have ha := fracOkB_iff.1 hok.1
    have hb := fracOkB_iff.1 hok.2
    simp only [cond_true]
    obtain ⟨g, h, x, y, u, v, hg, hh, hu, hv, hG, hH, hx, hy, hau, hbv, hF⟩ := prod_red ha hb
    have a1 := ha.denlo
    have a2 := ha.denhi
    have a3 := ha.numlo
    have a4 := ha.numhi
    have b1 := hb.denlo
    have b2 := hb.denhi
    have b3 := hb.numlo
    have b4 := hb.numhi
    have cut : ∀ k z w : Int, 0 < k → z = k * w → absI z ≤ 1000000000000000000 → wu64 ((absI z).tdiv k) = absI w := by
      intro k z w hk hz hle
      have e : absI z = k * absI w := by
        rw [hz]; simp only [absI_eq]; rw [Int.natAbs_mul, Int.natCast_mul, show ((k.natAbs : Nat) : Int) = k by omega]
      have h1 : absI w ≤ k * absI w := by
        have := Int.mul_le_mul_of_nonneg_right (show 1 ≤ k by omega) (absI_nonneg w)
        omega
      rw [e, Int.mul_tdiv_cancel_left _ (by omega)]
      exact wu64_id ⟨absI_nonneg w, by omega⟩
    have e1 := cut g a.num x hg hx (by unfold absI; omega)
    have e2 := cut h b.num y hh hy (by unfold absI; omega)
    have e3 := cut h a.den u hh hau (by unfold absI; omega)
    have e4 := cut g b.den v hg hbv (by unfold absI; omega)
    rw [absI_of_nonneg (n := a.den) (by omega), absI_of_nonneg (n := u) (by omega)] at e3
    rw [absI_of_nonneg (n := b.den) (by omega), absI_of_nonneg (n := v) (by omega)] at e4
    rw [wu64_id (n := a.den) (by omega), wu64_id (n := b.den) (by omega), gcdI_abs_left, gcdI_abs_left, hG, hH]
    rw [show (g == 0) = false by simp; omega, show (h == 0) = false by simp; omega, e1, e2, e3, e4]
    simp only [cond_false]
    have ex : absI x * absI y = absI (x * y) := by simp only [absI_eq]; rw [Int.natAbs_mul, Int.natCast_mul]
    have es : diffSign a.num b.num = diffSign x y := by rw [hx, hy, diffSign_pos hg hh]
    rw [ex, es, lowestRaw_ok (absI_nonneg _) (Int.le_of_lt (Int.mul_pos hu hv)), lowF_cut diff_sign, hF]
    rfl

def negF (a : Frac) : Frac := ⟨-a.num, a.den⟩
def subRefAns (K : AV → List Blk → Ans) (a b : Frac) : Ans := bif bothE a b != 0 then K (rFracE (fracZ, bothE a b)) [] else K (rFracE (addF a ⟨w64 (0 - b.num), b.den⟩)) []

theorem subRefAns_ok {K : AV → List Blk → Ans} {a b : Frac} : subRefAns K a b = K (rFracE (subF a b)) [] := by
  unfold subRefAns subF
  rw [bothE_eq]
  cases hok : fracOkB a && fracOkB b with
  | false => rfl
  | true =>
    simp only [Bool.and_eq_true] at hok
    have hb := fracOkB_iff.1 hok.2
    have b3 := hb.numlo
    have b4 := hb.numhi
    have hn : fracOkB ⟨-b.num, b.den⟩ = true := fracOkB_iff.2 hb.neg
    simp only [cond_true]
    rw [w64_id (by omega), show 0 - b.num = -b.num by omega]
    unfold addF
    rw [hok.1, hn]
    simp only [Bool.and_self, cond_true, Int.neg_mul]
    rfl

end Go.Ev
