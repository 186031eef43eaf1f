/-
  The quotient of a number of 128 bits by one of 64: the school method by halves. No program here.
-/
import Derived.Test.YtmidgaahaffmcaaNum
namespace Go.Ev
open Go

/-- The digit that is looked for, from an estimate q with its rest r. -/
def digQ (q y1 y0 d r : Int) : Int := ((q * y1 + r) * 4294967296 + d) / (y1 * 4294967296 + y0)

def digOk (q y1 y0 d r : Int) : Bool :=
  decide (2147483648 ≤ y1) && (decide (y1 < 4294967296) && (decide (0 ≤ y0) && (decide (y0 < 4294967296) && (decide (0 ≤ d) && (decide (d < 4294967296) && (decide (0 ≤ r) && (decide (r < 4294967296) &&
    (decide (digQ q y1 y0 d r ≤ q) && (decide (q ≤ 4294967297) && (decide (0 ≤ digQ q y1 y0 d r) && decide (digQ q y1 y0 d r < 4294967296)))))))))))

structure DigOk (q y1 y0 d r : Int) : Prop where
  y1lo : 2147483648 ≤ y1
  y1hi : y1 < 4294967296
  y0lo : 0 ≤ y0
  y0hi : y0 < 4294967296
  dlo : 0 ≤ d
  dhi : d < 4294967296
  rlo : 0 ≤ r
  rhi : r < 4294967296
  le : digQ q y1 y0 d r ≤ q
  most : q ≤ 4294967297
  nn : 0 ≤ digQ q y1 y0 d r
  lt : digQ q y1 y0 d r < 4294967296

theorem digOk_iff {q y1 y0 d r : Int} : digOk q y1 y0 d r = true ↔ DigOk q y1 y0 d r := by
  simp only [digOk, Bool.and_eq_true, decide_eq_true_eq]
  constructor
  · rintro ⟨h1, h2, h3, h4, h5, h6, h7, h8, h9, h10, h11, h12⟩
    exact ⟨h1, h2, h3, h4, h5, h6, h7, h8, h9, h10, h11, h12⟩
  · rintro ⟨h1, h2, h3, h4, h5, h6, h7, h8, h9, h10, h11, h12⟩
    exact ⟨h1, h2, h3, h4, h5, h6, h7, h8, h9, h10, h11, h12⟩

theorem digQ_step (q y1 y0 d r : Int) : digQ (q - 1) y1 y0 d (r + y1) = digQ q y1 y0 d r := by
  unfold digQ
  congr 3
  rw [Int.sub_mul, Int.one_mul]
  omega

theorem le_digQ {q y1 y0 d r : Int} (hv : 0 < y1 * 4294967296 + y0) (k : Int) : k ≤ digQ q y1 y0 d r ↔ k * (y1 * 4294967296 + y0) ≤ (q * y1 + r) * 4294967296 + d :=
  Int.le_ediv_iff_mul_le hv

theorem digQ_test {q y1 y0 d r : Int} (hv : 0 < y1 * 4294967296 + y0) : q ≤ digQ q y1 y0 d r ↔ q * y0 ≤ 4294967296 * r + d := by
  rw [le_digQ hv, Int.mul_add, ← Int.mul_assoc]
  omega

/-- The estimate is too great: one less. -/
theorem DigOk.next {q y1 y0 d r : Int} (h : DigOk q y1 y0 d r) (hq : digQ q y1 y0 d r < q) (hr : r + y1 < 4294967296) : DigOk (q - 1) y1 y0 d (r + y1) := by
  have e := digQ_step q y1 y0 d r
  obtain ⟨h1, h2, h3, h4, h5, h6, h7, h8, h9, h10, h11, h12⟩ := h
  exact ⟨h1, h2, h3, h4, h5, h6, by omega, hr, by omega, by omega, by omega, by omega⟩

/-- The rest is great: the estimate is right. -/
theorem DigOk.stop {q y1 y0 d r : Int} (h : DigOk q y1 y0 d r) (hq : digQ q y1 y0 d r < q) (hr : 4294967296 ≤ r + y1) : q - 1 = digQ q y1 y0 d r := by
  obtain ⟨h1, h2, h3, h4, h5, h6, h7, h8, h9, h10, h11, h12⟩ := h
  have hv : 0 < y1 * 4294967296 + y0 := by omega
  have e := digQ_step q y1 y0 d r
  have h13 : (q - 1) * y0 ≤ 4294967296 * 4294967296 := Int.mul_le_mul (by omega) (by omega) h3 (by omega)
  have := (digQ_test (q := q - 1) (d := d) (r := r + y1) hv).2 (by omega)
  omega

theorem dig_of {A y1 y0 d : Int} (h1 : 2147483648 ≤ y1) (h2 : y1 < 4294967296) (h3 : 0 ≤ y0) (h4 : y0 < 4294967296) (h5 : 0 ≤ d) (h6 : d < 4294967296) (hA : 0 ≤ A) (hAv : A < y1 * 4294967296 + y0) :
    DigOk (A / y1) y1 y0 d (A % y1) ∧ digQ (A / y1) y1 y0 d (A % y1) = (A * 4294967296 + d) / (y1 * 4294967296 + y0) := by
  have hv : 0 < y1 * 4294967296 + y0 := by omega
  have hy : 0 < y1 := by omega
  have e : digQ (A / y1) y1 y0 d (A % y1) = (A * 4294967296 + d) / (y1 * 4294967296 + y0) := by
    unfold digQ
    rw [Int.ediv_mul_add_emod]
  refine ⟨?_, e⟩
  have hr0 := Int.emod_nonneg A (show y1 ≠ 0 by omega)
  have hr1 := Int.emod_lt_of_pos A hy
  have hq0 : 0 ≤ (A * 4294967296 + d) / (y1 * 4294967296 + y0) := Int.ediv_nonneg (by omega) (by omega)
  have hq1 : (A * 4294967296 + d) / (y1 * 4294967296 + y0) < 4294967296 := Int.ediv_lt_of_lt_mul hv (by omega)
  have hqv := Int.ediv_mul_le (A * 4294967296 + d) (show y1 * 4294967296 + y0 ≠ 0 by omega)
  have hle : (A * 4294967296 + d) / (y1 * 4294967296 + y0) ≤ A / y1 := by
    rw [Int.le_ediv_iff_mul_le hy]
    generalize (A * 4294967296 + d) / (y1 * 4294967296 + y0) = Q at *
    rw [Int.mul_add, ← Int.mul_assoc] at hqv
    have := Int.mul_nonneg hq0 h3
    omega
  have hmost : A / y1 < 4294967298 := Int.ediv_lt_of_lt_mul hy (by omega)
  exact ⟨h1, h2, h3, h4, h5, h6, hr0, by omega, by rw [e]; exact hle, by omega, by rw [e]; exact hq0, by rw [e]; exact hq1⟩

def divMain2 (K : AV → List Blk → Ans) (s v y1 y0 u0 q1 u21 : Int) : Ans :=
  bif y1 == 0 then none else
  bif digOk (wu64 (u21.tdiv y1)) y1 y0 u0 (wu64 (u21 - wu64 (wu64 (u21.tdiv y1) * y1))) then
    (bif decide (s < 0) then none else
     K (rUU (wu64 (wu64 (q1 * 4294967296) + digQ (wu64 (u21.tdiv y1)) y1 y0 u0 (wu64 (u21 - wu64 (wu64 (u21.tdiv y1) * y1)))),
      shrU (wu64 (wu64 (wu64 (u21 * 4294967296) + u0) - wu64 (digQ (wu64 (u21.tdiv y1)) y1 y0 u0 (wu64 (u21 - wu64 (wu64 (u21.tdiv y1) * y1))) * v))) s)) [])
  else none

def divMain (K : AV → List Blk → Ans) (s v y1 y0 u1 u0 u32 : Int) : Ans :=
  bif y1 == 0 then none else
  bif digOk (wu64 (u32.tdiv y1)) y1 y0 u1 (wu64 (u32 - wu64 (wu64 (u32.tdiv y1) * y1))) then
    divMain2 K s v y1 y0 u0 (digQ (wu64 (u32.tdiv y1)) y1 y0 u1 (wu64 (u32 - wu64 (wu64 (u32.tdiv y1) * y1))))
      (wu64 (wu64 (wu64 (u32 * 4294967296) + u1) - wu64 (digQ (wu64 (u32.tdiv y1)) y1 y0 u1 (wu64 (u32 - wu64 (wu64 (u32.tdiv y1) * y1))) * v)))
  else none

def divAns (K : AV → List Blk → Ans) (hi lo y : Int) : Ans :=
  bif y == 0 then none else bif decide (y ≤ hi) then none else
  bif hi == 0 then (bif y == 0 then none else bif y == 0 then none else K (rUU (wu64 (lo.tdiv y), lo.tmod y)) []) else
  bif decide (wu64 (64 - lenI y) < 0) then none else bif decide (wu64 (64 - lenI y) < 0) then none else bif decide (wu64 (64 - wu64 (64 - lenI y)) < 0) then none else bif decide (wu64 (64 - lenI y) < 0) then none else
  divMain K (wu64 (64 - lenI y)) (shlU y (wu64 (64 - lenI y))) (shrU (shlU y (wu64 (64 - lenI y))) 32) (bandU (shlU y (wu64 (64 - lenI y))) 4294967295)
    (shrU (shlU lo (wu64 (64 - lenI y))) 32) (bandU (shlU lo (wu64 (64 - lenI y))) 4294967295) (borU (shlU hi (wu64 (64 - lenI y))) (shrU lo (wu64 (64 - wu64 (64 - lenI y)))))

/-- One digit, with the wraps of 64 bits. -/
theorem dig_wrapped {A y1 y0 d v : Int} (hv : v = y1 * 4294967296 + y0) (h1 : 2147483648 ≤ y1) (h2 : y1 < 4294967296) (h3 : 0 ≤ y0) (h4 : y0 < 4294967296) (h5 : 0 ≤ d) (h6 : d < 4294967296) (hA : 0 ≤ A) (hAv : A < v) :
    digOk (wu64 (A.tdiv y1)) y1 y0 d (wu64 (A - wu64 (wu64 (A.tdiv y1) * y1))) = true ∧ digQ (wu64 (A.tdiv y1)) y1 y0 d (wu64 (A - wu64 (wu64 (A.tdiv y1) * y1))) = (A * 4294967296 + d) / v ∧
    wu64 (wu64 (wu64 (A * 4294967296) + d) - wu64 ((A * 4294967296 + d) / v * v)) = (A * 4294967296 + d) % v := by
  subst hv
  have hy : 0 < y1 := by omega
  have hvm : y1 * 4294967296 + y0 < 18446744073709551616 := by omega
  obtain ⟨hd, he⟩ := dig_of h1 h2 h3 h4 h5 h6 hA hAv
  have e1 : A.tdiv y1 = A / y1 := Int.tdiv_eq_ediv_of_nonneg hA
  have hq0 : 0 ≤ A / y1 := Int.ediv_nonneg hA (by omega)
  have hmul := Int.ediv_mul_add_emod A y1
  have hm0 := Int.emod_nonneg A (show y1 ≠ 0 by omega)
  have hm1 := Int.emod_lt_of_pos A hy
  have hqm := hd.most
  have hqy : 0 ≤ A / y1 * y1 := Int.mul_nonneg hq0 (by omega)
  have e2 : wu64 (A.tdiv y1) = A / y1 := by rw [e1]; exact wu64_id (by omega)
  have e3 : wu64 (A - wu64 (A / y1 * y1)) = A % y1 := by
    rw [wu64_id (n := A / y1 * y1) (by omega), wu64_id (by omega)]
    omega
  rw [e2, e3]
  refine ⟨digOk_iff.2 hd, he, ?_⟩
  have hvp : 0 < y1 * 4294967296 + y0 := by omega
  generalize hV : y1 * 4294967296 + y0 = v at *
  have h7 := Int.emod_nonneg (A * 4294967296 + d) (show v ≠ 0 by omega)
  have h8 := Int.emod_lt_of_pos (A * 4294967296 + d) hvp
  have h9 := Int.ediv_mul_add_emod (A * 4294967296 + d) v
  generalize (A * 4294967296 + d) / v * v = p at *
  generalize (A * 4294967296 + d) % v = m at *
  simp only [wu64_eq]
  omega

theorem divMain_ok {K : AV → List Blk → Ans} {s v y1 y0 u1 u0 u32 : Int} (hv : v = y1 * 4294967296 + y0) (h1 : 2147483648 ≤ y1) (h2 : y1 < 4294967296) (h3 : 0 ≤ y0) (h4 : y0 < 4294967296) (h5 : 0 ≤ u1) (h6 : u1 < 4294967296) (h7 : 0 ≤ u0) (h8 : u0 < 4294967296)
    (hA : 0 ≤ u32) (hAv : u32 < v) (hs : 0 ≤ s) : divMain K s v y1 y0 u1 u0 u32 = K (rUU ((u32 * 18446744073709551616 + (u1 * 4294967296 + u0)) / v, shrU ((u32 * 18446744073709551616 + (u1 * 4294967296 + u0)) % v) s)) [] := by
  have hvp : 0 < v := by omega
  obtain ⟨a1, a2, a3⟩ := dig_wrapped hv h1 h2 h3 h4 h5 h6 hA hAv
  have hA' := Int.emod_nonneg (u32 * 4294967296 + u1) (show v ≠ 0 by omega)
  have hAv' := Int.emod_lt_of_pos (u32 * 4294967296 + u1) hvp
  have hz : (y1 == 0) = false := by simp; omega
  unfold divMain
  rw [hz, a1, a2, a3]
  simp only [cond_true, cond_false]
  have hmul := Int.ediv_mul_add_emod (u32 * 4294967296 + u1) v
  have hq0 : 0 ≤ (u32 * 4294967296 + u1) / v := Int.ediv_nonneg (by omega) (by omega)
  have hq1 : (u32 * 4294967296 + u1) / v < 4294967296 := Int.ediv_lt_of_lt_mul hvp (by omega)
  generalize hq : (u32 * 4294967296 + u1) / v = q1 at *
  generalize hm : (u32 * 4294967296 + u1) % v = A at *
  obtain ⟨b1, b2, b3⟩ := dig_wrapped hv h1 h2 h3 h4 h7 h8 hA' hAv'
  have hmul2 := Int.ediv_mul_add_emod (A * 4294967296 + u0) v
  have hr0 := Int.emod_nonneg (A * 4294967296 + u0) (show v ≠ 0 by omega)
  have hr1 := Int.emod_lt_of_pos (A * 4294967296 + u0) hvp
  have hp0 : 0 ≤ (A * 4294967296 + u0) / v := Int.ediv_nonneg (by omega) (by omega)
  have hp1 : (A * 4294967296 + u0) / v < 4294967296 := Int.ediv_lt_of_lt_mul hvp (by omega)
  unfold divMain2
  rw [hz, b1, b2, b3]
  simp only [cond_true, cond_false, decide_eq_false (show ¬ s < 0 by omega)]
  generalize (A * 4294967296 + u0) / v = q0 at *
  generalize (A * 4294967296 + u0) % v = r at *
  have hU : u32 * 18446744073709551616 + (u1 * 4294967296 + u0) = r + v * (q1 * 4294967296 + q0) := by
    rw [Int.mul_add, ← Int.mul_assoc, Int.mul_comm v q1, Int.mul_comm v q0]
    omega
  rw [hU, Int.add_mul_ediv_left _ _ (by omega), Int.add_mul_emod_self_left, Int.ediv_eq_zero_of_lt hr0 hr1, Int.emod_eq_of_lt hr0 hr1, Int.zero_add]
  rw [wu64_id (n := q1 * 4294967296) (by omega), wu64_id (by omega)]

theorem divAns_ok {K : AV → List Blk → Ans} {hi lo y : Int} (h1 : 0 ≤ hi ∧ hi ≤ 18446744073709551615) (h2 : 0 ≤ lo ∧ lo ≤ 18446744073709551615) (h3 : 0 ≤ y ∧ y ≤ 18446744073709551615) (hlt : hi < y) :
    divAns K hi lo y = K (rUU ((hi * 18446744073709551616 + lo) / y, (hi * 18446744073709551616 + lo) % y)) [] := by
  have hy0 : (y == 0) = false := by simp; omega
  unfold divAns
  rw [hy0, decide_eq_false (show ¬ y ≤ hi by omega)]
  simp only [cond_false]
  by_cases hh : hi = 0
  · subst hh
    simp only [beq_self_eq_true, cond_true, Int.zero_mul, Int.zero_add]
    rw [Int.tdiv_eq_ediv_of_nonneg h2.1, Int.tmod_eq_emod_of_nonneg h2.1]
    have := Int.ediv_nonneg h2.1 h3.1
    have := Int.ediv_le_self y h2.1
    rw [wu64_id (by omega)]
  · rw [show (hi == 0) = false by simpa using hh]
    simp only [cond_false]
    -- the shift
    have hL := lenI_le h3.1 (by omega)
    have hLp := lenI_pos (x := y) (by omega)
    obtain ⟨b, rfl⟩ := Int.eq_ofNat_of_zero_le h3.1
    obtain ⟨a, rfl⟩ := Int.eq_ofNat_of_zero_le h1.1
    obtain ⟨c, rfl⟩ := Int.eq_ofNat_of_zero_le h2.1
    have hb : b ≠ 0 := by omega
    simp only [Int.toNat_natCast] at hLp
    obtain ⟨l1, l2⟩ := (Nat.log2_eq_iff hb).1 rfl
    have hlog : Nat.log2 b ≤ 63 := by omega
    obtain ⟨s, hs⟩ : ∃ s : Nat, Nat.log2 b + s = 63 := ⟨63 - Nat.log2 b, by omega⟩
    have es : wu64 (64 - lenI (b : Int)) = (s : Int) := by rw [wu64_id (by omega)]; omega
    have e64 : wu64 (64 - (s : Int)) = ((64 - s : Nat) : Int) := by rw [wu64_id (by omega)]; omega
    rw [es, e64]
    simp only [decide_eq_false (show ¬ (s : Int) < 0 by omega), decide_eq_false (show ¬ ((64 - s : Nat) : Int) < 0 by omega), cond_false]
    have hp : 0 < 2 ^ s := Nat.pow_pos (by omega)
    have hv1 : 9223372036854775808 ≤ b * 2 ^ s := by
      have := Nat.mul_le_mul_right (2 ^ s) l1
      rw [← Nat.pow_add, hs] at this
      omega
    have hv2 : b * 2 ^ s < 18446744073709551616 := by
      have := Nat.mul_lt_mul_of_pos_right l2 hp
      rw [← Nat.pow_add, show Nat.log2 b + 1 + s = 64 by omega] at this
      omega
    have ha1 : (a + 1) * 2 ^ s ≤ b * 2 ^ s := Nat.mul_le_mul_right _ (by omega)
    rw [Nat.add_mul, Nat.one_mul] at ha1
    have hps : 2 ^ (64 - s) * 2 ^ s = 18446744073709551616 := by rw [← Nat.pow_add, show 64 - s + s = 64 by omega]
    have hpq : 0 < 2 ^ (64 - s) := Nat.pow_pos (by omega)
    have hc1 : c / 2 ^ (64 - s) < 2 ^ s := by
      rw [Nat.div_lt_iff_lt_mul hpq, Nat.mul_comm]
      omega
    rw [shlU_nat b s (by omega), shlU_nat c s (by omega), shlU_nat a s (by omega), shrU_nat c (64 - s) (by omega)]
    rw [Nat.mod_eq_of_lt hv2, Nat.mod_eq_of_lt (a := a * 2 ^ s) (by omega)]
    rw [borU_nat _ _ (by omega) (by omega)]
    have hor : a * 2 ^ s ||| c / 2 ^ (64 - s) = a * 2 ^ s + c / 2 ^ (64 - s) := by
      rw [← Nat.shiftLeft_eq, Nat.shiftLeft_add_eq_or_of_lt hc1]
    rw [hor, shr_32, shr_32, band_mask _ hv2, band_mask _ (by omega)]
    have hcs : c * 2 ^ s = c / 2 ^ (64 - s) * 18446744073709551616 + c * 2 ^ s % 18446744073709551616 := by
      have : c * 2 ^ s / 18446744073709551616 = c / 2 ^ (64 - s) := by
        rw [← hps, Nat.mul_comm c, Nat.mul_comm (2 ^ (64 - s)), Nat.mul_div_mul_left _ _ hp]
      rw [← this]
      omega
    have hX : ((a : Int) * 18446744073709551616 + c) * (2 ^ s : Nat) = ((a * 2 ^ s + c / 2 ^ (64 - s) : Nat) : Int) * 18446744073709551616 + (c * 2 ^ s % 18446744073709551616 : Nat) := by
      rw [Int.add_mul, Int.mul_right_comm]
      have e1 : (a : Int) * (2 ^ s : Nat) = ((a * 2 ^ s : Nat) : Int) := (Int.natCast_mul _ _).symm
      have e2 : (c : Int) * (2 ^ s : Nat) = ((c * 2 ^ s : Nat) : Int) := (Int.natCast_mul _ _).symm
      rw [e1, e2]
      omega
    generalize hu10 : c * 2 ^ s % 18446744073709551616 = u10 at *
    have hu10' : u10 < 18446744073709551616 := by omega
    generalize hu32 : a * 2 ^ s + c / 2 ^ (64 - s) = u32 at *
    generalize hvv : b * 2 ^ s = v at *
    rw [divMain_ok (by omega) (by omega) (by omega) (by omega) (by omega) (by omega) (by omega) (by omega) (by omega) (by omega) (by omega) (by omega)]
    rw [show ((u10 / 4294967296 : Nat) : Int) * 4294967296 + ((u10 % 4294967296 : Nat) : Int) = (u10 : Int) by omega, ← hX]
    have hvI : (v : Int) = (b : Int) * (2 ^ s : Nat) := by rw [← hvv]; exact Int.natCast_mul _ _
    rw [hvI]
    have hpI : (0 : Int) < ((2 ^ s : Nat) : Int) := by omega
    have hmod : ((a : Int) * 18446744073709551616 + c) * ((2 ^ s : Nat) : Int) % ((b : Int) * ((2 ^ s : Nat) : Int)) = ((a : Int) * 18446744073709551616 + c) % b * ((2 ^ s : Nat) : Int) := by
      rw [Int.mul_comm (_ + _), Int.mul_comm (b : Int), Int.mul_emod_mul_of_pos _ _ hpI, Int.mul_comm]
    rw [Int.mul_ediv_mul_of_pos_left _ _ hpI, hmod]
    have hm0 := Int.emod_nonneg ((a : Int) * 18446744073709551616 + c) (show (b : Int) ≠ 0 by omega)
    obtain ⟨m, hm⟩ := Int.eq_ofNat_of_zero_le hm0
    rw [hm, ← Int.natCast_mul, shrU_nat _ s (by omega), Nat.mul_div_cancel _ hp]

end Go.Ev
