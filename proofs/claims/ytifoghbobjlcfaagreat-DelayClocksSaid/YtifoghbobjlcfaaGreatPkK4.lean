/-
  The quotient of a number of 128 bits by one of 64: the school method by halves. No program here.
  Fractions and numbers of four digits to the base 2^32: what the functions come to. No program here.
  Enclosures: what the functions of the layers 1 (as far as needed here) and 5 come to. No program here.
  Long division bit by bit, as the reference does it: numbers of four digits by one of 64 bits. No program here.
  Sines by series, as the program and the reference add them up. No program here.
  Sines by series, as the reference adds them up. No program here.
  A test of the sines of fractions of a quarter, in natural numbers. Definitions only.
  A test of the sines of fractions of a quarter, in natural numbers: the program's and the reference's series agree, and the squares add up to 1. No program here.
-/
import Derived.Test.YtifoghbobjlcfaaGreatPkK3
import Derived.KernelRfl
set_option maxRecDepth 100000
namespace Go.Ev
open Go
def digQ (q y1 y0 d r : Int) : Int := ((q * y1 + r) * 4294967296 + d) / (y1 * 4294967296 + y0)
def digOk (q y1 y0 d r : Int) : Bool :=
  decide (2147483648 ≤ y1) && (decide (y1 < 4294967296) && (decide (0 ≤ y0) && (decide (y0 < 4294967296) && (decide (0 ≤ d) && (decide (d < 4294967296) && (decide (0 ≤ r) && (decide (r < 4294967296) &&
    (decide (digQ q y1 y0 d r ≤ q) && (decide (q ≤ 4294967297) && (decide (0 ≤ digQ q y1 y0 d r) && decide (digQ q y1 y0 d r < 4294967296)))))))))))
structure DigOk (q y1 y0 d r : Int) : Prop where
  y1lo : 2147483648 ≤ y1
  y1hi : y1 < 4294967296
  y0lo : 0 ≤ y0
  y0hi : y0 < 4294967296
  dlo : 0 ≤ d
  dhi : d < 4294967296
  rlo : 0 ≤ r
  rhi : r < 4294967296
  le : digQ q y1 y0 d r ≤ q
  most : q ≤ 4294967297
  nn : 0 ≤ digQ q y1 y0 d r
  lt : digQ q y1 y0 d r < 4294967296
theorem digOk_iff {q y1 y0 d r : Int} : digOk q y1 y0 d r = true ↔ DigOk q y1 y0 d r := by
  simp only [digOk, Bool.and_eq_true, decide_eq_true_eq]
  constructor
  · rintro ⟨h1, h2, h3, h4, h5, h6, h7, h8, h9, h10, h11, h12⟩
    exact ⟨h1, h2, h3, h4, h5, h6, h7, h8, h9, h10, h11, h12⟩
  · rintro ⟨h1, h2, h3, h4, h5, h6, h7, h8, h9, h10, h11, h12⟩
    exact ⟨h1, h2, h3, h4, h5, h6, h7, h8, h9, h10, h11, h12⟩
theorem digQ_step (q y1 y0 d r : Int) : digQ (q - 1) y1 y0 d (r + y1) = digQ q y1 y0 d r := by
  unfold digQ
  congr 3
  rw [Int.sub_mul, Int.one_mul]
  omega
theorem le_digQ {q y1 y0 d r : Int} (hv : 0 < y1 * 4294967296 + y0) (k : Int) : k ≤ digQ q y1 y0 d r ↔ k * (y1 * 4294967296 + y0) ≤ (q * y1 + r) * 4294967296 + d :=
  Int.le_ediv_iff_mul_le hv
theorem digQ_test {q y1 y0 d r : Int} (hv : 0 < y1 * 4294967296 + y0) : q ≤ digQ q y1 y0 d r ↔ q * y0 ≤ 4294967296 * r + d := by
  rw [le_digQ hv, Int.mul_add, ← Int.mul_assoc]
  omega
theorem DigOk.next {q y1 y0 d r : Int} (h : DigOk q y1 y0 d r) (hq : digQ q y1 y0 d r < q) (hr : r + y1 < 4294967296) : DigOk (q - 1) y1 y0 d (r + y1) := by
  have e := digQ_step q y1 y0 d r
  obtain ⟨h1, h2, h3, h4, h5, h6, h7, h8, h9, h10, h11, h12⟩ := h
  exact ⟨h1, h2, h3, h4, h5, h6, by omega, hr, by omega, by omega, by omega, by omega⟩
theorem DigOk.stop {q y1 y0 d r : Int} (h : DigOk q y1 y0 d r) (hq : digQ q y1 y0 d r < q) (hr : 4294967296 ≤ r + y1) : q - 1 = digQ q y1 y0 d r := by
  obtain ⟨h1, h2, h3, h4, h5, h6, h7, h8, h9, h10, h11, h12⟩ := h
  have hv : 0 < y1 * 4294967296 + y0 := by omega
  have e := digQ_step q y1 y0 d r
  have h13 : (q - 1) * y0 ≤ 4294967296 * 4294967296 := Int.mul_le_mul (by omega) (by omega) h3 (by omega)
  have := (digQ_test (q := q - 1) (d := d) (r := r + y1) hv).2 (by omega)
  omega
theorem dig_of {A y1 y0 d : Int} (h1 : 2147483648 ≤ y1) (h2 : y1 < 4294967296) (h3 : 0 ≤ y0) (h4 : y0 < 4294967296) (h5 : 0 ≤ d) (h6 : d < 4294967296) (hA : 0 ≤ A) (hAv : A < y1 * 4294967296 + y0) :
    DigOk (A / y1) y1 y0 d (A % y1) ∧ digQ (A / y1) y1 y0 d (A % y1) = (A * 4294967296 + d) / (y1 * 4294967296 + y0) := by
  have hv : 0 < y1 * 4294967296 + y0 := by omega
  have hy : 0 < y1 := by omega
  have e : digQ (A / y1) y1 y0 d (A % y1) = (A * 4294967296 + d) / (y1 * 4294967296 + y0) := by
    unfold digQ
    rw [Int.ediv_mul_add_emod]
  refine ⟨?_, e⟩
  have hr0 := Int.emod_nonneg A (show y1 ≠ 0 by omega)
  have hr1 := Int.emod_lt_of_pos A hy
  have hq0 : 0 ≤ (A * 4294967296 + d) / (y1 * 4294967296 + y0) := Int.ediv_nonneg (by omega) (by omega)
  have hq1 : (A * 4294967296 + d) / (y1 * 4294967296 + y0) < 4294967296 := Int.ediv_lt_of_lt_mul hv (by omega)
  have hqv := Int.ediv_mul_le (A * 4294967296 + d) (show y1 * 4294967296 + y0 ≠ 0 by omega)
  have hle : (A * 4294967296 + d) / (y1 * 4294967296 + y0) ≤ A / y1 := by
    rw [Int.le_ediv_iff_mul_le hy]
    generalize (A * 4294967296 + d) / (y1 * 4294967296 + y0) = Q at *
    rw [Int.mul_add, ← Int.mul_assoc] at hqv
    have := Int.mul_nonneg hq0 h3
    omega
  have hmost : A / y1 < 4294967298 := Int.ediv_lt_of_lt_mul hy (by omega)
  exact ⟨h1, h2, h3, h4, h5, h6, hr0, by omega, by rw [e]; exact hle, by omega, by rw [e]; exact hq0, by rw [e]; exact hq1⟩
def divMain2 (K : AV → List Blk → Ans) (s v y1 y0 u0 q1 u21 : Int) : Ans :=
  bif y1 == 0 then none else
  bif digOk (wu64 (u21.tdiv y1)) y1 y0 u0 (wu64 (u21 - wu64 (wu64 (u21.tdiv y1) * y1))) then
    (bif decide (s < 0) then none else
     K (rUU (wu64 (wu64 (q1 * 4294967296) + digQ (wu64 (u21.tdiv y1)) y1 y0 u0 (wu64 (u21 - wu64 (wu64 (u21.tdiv y1) * y1)))),
      shrU (wu64 (wu64 (wu64 (u21 * 4294967296) + u0) - wu64 (digQ (wu64 (u21.tdiv y1)) y1 y0 u0 (wu64 (u21 - wu64 (wu64 (u21.tdiv y1) * y1))) * v))) s)) [])
  else none
def divMain (K : AV → List Blk → Ans) (s v y1 y0 u1 u0 u32 : Int) : Ans :=
  bif y1 == 0 then none else
  bif digOk (wu64 (u32.tdiv y1)) y1 y0 u1 (wu64 (u32 - wu64 (wu64 (u32.tdiv y1) * y1))) then
    divMain2 K s v y1 y0 u0 (digQ (wu64 (u32.tdiv y1)) y1 y0 u1 (wu64 (u32 - wu64 (wu64 (u32.tdiv y1) * y1))))
      (wu64 (wu64 (wu64 (u32 * 4294967296) + u1) - wu64 (digQ (wu64 (u32.tdiv y1)) y1 y0 u1 (wu64 (u32 - wu64 (wu64 (u32.tdiv y1) * y1))) * v)))
  else none
def divAns (K : AV → List Blk → Ans) (hi lo y : Int) : Ans :=
  bif y == 0 then none else bif decide (y ≤ hi) then none else
  bif hi == 0 then (bif y == 0 then none else bif y == 0 then none else K (rUU (wu64 (lo.tdiv y), lo.tmod y)) []) else
  bif decide (wu64 (64 - lenI y) < 0) then none else bif decide (wu64 (64 - lenI y) < 0) then none else bif decide (wu64 (64 - wu64 (64 - lenI y)) < 0) then none else bif decide (wu64 (64 - lenI y) < 0) then none else
  divMain K (wu64 (64 - lenI y)) (shlU y (wu64 (64 - lenI y))) (shrU (shlU y (wu64 (64 - lenI y))) 32) (bandU (shlU y (wu64 (64 - lenI y))) 4294967295)
    (shrU (shlU lo (wu64 (64 - lenI y))) 32) (bandU (shlU lo (wu64 (64 - lenI y))) 4294967295) (borU (shlU hi (wu64 (64 - lenI y))) (shrU lo (wu64 (64 - wu64 (64 - lenI y)))))
theorem dig_wrapped {A y1 y0 d v : Int} (hv : v = y1 * 4294967296 + y0) (h1 : 2147483648 ≤ y1) (h2 : y1 < 4294967296) (h3 : 0 ≤ y0) (h4 : y0 < 4294967296) (h5 : 0 ≤ d) (h6 : d < 4294967296) (hA : 0 ≤ A) (hAv : A < v) :
    digOk (wu64 (A.tdiv y1)) y1 y0 d (wu64 (A - wu64 (wu64 (A.tdiv y1) * y1))) = true ∧ digQ (wu64 (A.tdiv y1)) y1 y0 d (wu64 (A - wu64 (wu64 (A.tdiv y1) * y1))) = (A * 4294967296 + d) / v ∧
    wu64 (wu64 (wu64 (A * 4294967296) + d) - wu64 ((A * 4294967296 + d) / v * v)) = (A * 4294967296 + d) % v := by
  subst hv
  have hy : 0 < y1 := by omega
  have hvm : y1 * 4294967296 + y0 < 18446744073709551616 := by omega
  obtain ⟨hd, he⟩ := dig_of h1 h2 h3 h4 h5 h6 hA hAv
  have e1 : A.tdiv y1 = A / y1 := Int.tdiv_eq_ediv_of_nonneg hA
  have hq0 : 0 ≤ A / y1 := Int.ediv_nonneg hA (by omega)
  have hmul := Int.ediv_mul_add_emod A y1
  have hm0 := Int.emod_nonneg A (show y1 ≠ 0 by omega)
  have hm1 := Int.emod_lt_of_pos A hy
  have hqm := hd.most
  have hqy : 0 ≤ A / y1 * y1 := Int.mul_nonneg hq0 (by omega)
  have e2 : wu64 (A.tdiv y1) = A / y1 := by rw [e1]; exact wu64_id (by omega)
  have e3 : wu64 (A - wu64 (A / y1 * y1)) = A % y1 := by
    rw [wu64_id (n := A / y1 * y1) (by omega), wu64_id (by omega)]
    omega
  rw [e2, e3]
  refine ⟨digOk_iff.2 hd, he, ?_⟩
  have hvp : 0 < y1 * 4294967296 + y0 := by omega
  generalize hV : y1 * 4294967296 + y0 = v at *
  have h7 := Int.emod_nonneg (A * 4294967296 + d) (show v ≠ 0 by omega)
  have h8 := Int.emod_lt_of_pos (A * 4294967296 + d) hvp
  have h9 := Int.ediv_mul_add_emod (A * 4294967296 + d) v
  generalize (A * 4294967296 + d) / v * v = p at *
  generalize (A * 4294967296 + d) % v = m at *
  simp only [wu64_eq]
  omega
theorem divMain_ok {K : AV → List Blk → Ans} {s v y1 y0 u1 u0 u32 : Int} (hv : v = y1 * 4294967296 + y0) (h1 : 2147483648 ≤ y1) (h2 : y1 < 4294967296) (h3 : 0 ≤ y0) (h4 : y0 < 4294967296) (h5 : 0 ≤ u1) (h6 : u1 < 4294967296) (h7 : 0 ≤ u0) (h8 : u0 < 4294967296)
    (hA : 0 ≤ u32) (hAv : u32 < v) (hs : 0 ≤ s) : divMain K s v y1 y0 u1 u0 u32 = K (rUU ((u32 * 18446744073709551616 + (u1 * 4294967296 + u0)) / v, shrU ((u32 * 18446744073709551616 + (u1 * 4294967296 + u0)) % v) s)) [] := by
  have hvp : 0 < v := by omega
  obtain ⟨a1, a2, a3⟩ := dig_wrapped hv h1 h2 h3 h4 h5 h6 hA hAv
  have hA' := Int.emod_nonneg (u32 * 4294967296 + u1) (show v ≠ 0 by omega)
  have hAv' := Int.emod_lt_of_pos (u32 * 4294967296 + u1) hvp
  have hz : (y1 == 0) = false := by simp; omega
  unfold divMain
  rw [hz, a1, a2, a3]
  simp only [cond_true, cond_false]
  have hmul := Int.ediv_mul_add_emod (u32 * 4294967296 + u1) v
  have hq0 : 0 ≤ (u32 * 4294967296 + u1) / v := Int.ediv_nonneg (by omega) (by omega)
  have hq1 : (u32 * 4294967296 + u1) / v < 4294967296 := Int.ediv_lt_of_lt_mul hvp (by omega)
  generalize hq : (u32 * 4294967296 + u1) / v = q1 at *
  generalize hm : (u32 * 4294967296 + u1) % v = A at *
  obtain ⟨b1, b2, b3⟩ := dig_wrapped hv h1 h2 h3 h4 h7 h8 hA' hAv'
  have hmul2 := Int.ediv_mul_add_emod (A * 4294967296 + u0) v
  have hr0 := Int.emod_nonneg (A * 4294967296 + u0) (show v ≠ 0 by omega)
  have hr1 := Int.emod_lt_of_pos (A * 4294967296 + u0) hvp
  have hp0 : 0 ≤ (A * 4294967296 + u0) / v := Int.ediv_nonneg (by omega) (by omega)
  have hp1 : (A * 4294967296 + u0) / v < 4294967296 := Int.ediv_lt_of_lt_mul hvp (by omega)
  unfold divMain2
  rw [hz, b1, b2, b3]
  simp only [cond_true, cond_false, decide_eq_false (show ¬ s < 0 by omega)]
  generalize (A * 4294967296 + u0) / v = q0 at *
  generalize (A * 4294967296 + u0) % v = r at *
  have hU : u32 * 18446744073709551616 + (u1 * 4294967296 + u0) = r + v * (q1 * 4294967296 + q0) := by
    rw [Int.mul_add, ← Int.mul_assoc, Int.mul_comm v q1, Int.mul_comm v q0]
    omega
  rw [hU, Int.add_mul_ediv_left _ _ (by omega), Int.add_mul_emod_self_left, Int.ediv_eq_zero_of_lt hr0 hr1, Int.emod_eq_of_lt hr0 hr1, Int.zero_add]
  rw [wu64_id (n := q1 * 4294967296) (by omega), wu64_id (by omega)]
theorem divAns_ok {K : AV → List Blk → Ans} {hi lo y : Int} (h1 : 0 ≤ hi ∧ hi ≤ 18446744073709551615) (h2 : 0 ≤ lo ∧ lo ≤ 18446744073709551615) (h3 : 0 ≤ y ∧ y ≤ 18446744073709551615) (hlt : hi < y) :
    divAns K hi lo y = K (rUU ((hi * 18446744073709551616 + lo) / y, (hi * 18446744073709551616 + lo) % y)) [] := by
  have hy0 : (y == 0) = false := by simp; omega
  unfold divAns
  rw [hy0, decide_eq_false (show ¬ y ≤ hi by omega)]
  simp only [cond_false]
  by_cases hh : hi = 0
  · subst hh
    simp only [beq_self_eq_true, cond_true, Int.zero_mul, Int.zero_add]
    rw [Int.tdiv_eq_ediv_of_nonneg h2.1, Int.tmod_eq_emod_of_nonneg h2.1]
    have := Int.ediv_nonneg h2.1 h3.1
    have := Int.ediv_le_self y h2.1
    rw [wu64_id (by omega)]
  · rw [show (hi == 0) = false by simpa using hh]
    simp only [cond_false]
    -- the shift
    have hL := lenI_le h3.1 (by omega)
    have hLp := lenI_pos (x := y) (by omega)
    obtain ⟨b, rfl⟩ := Int.eq_ofNat_of_zero_le h3.1
    obtain ⟨a, rfl⟩ := Int.eq_ofNat_of_zero_le h1.1
    obtain ⟨c, rfl⟩ := Int.eq_ofNat_of_zero_le h2.1
    have hb : b ≠ 0 := by omega
    simp only [Int.toNat_natCast] at hLp
    obtain ⟨l1, l2⟩ := (Nat.log2_eq_iff hb).1 rfl
    have hlog : Nat.log2 b ≤ 63 := by omega
    obtain ⟨s, hs⟩ : ∃ s : Nat, Nat.log2 b + s = 63 := ⟨63 - Nat.log2 b, by omega⟩
    have es : wu64 (64 - lenI (b : Int)) = (s : Int) := by rw [wu64_id (by omega)]; omega
    have e64 : wu64 (64 - (s : Int)) = ((64 - s : Nat) : Int) := by rw [wu64_id (by omega)]; omega
    rw [es, e64]
    simp only [decide_eq_false (show ¬ (s : Int) < 0 by omega), decide_eq_false (show ¬ ((64 - s : Nat) : Int) < 0 by omega), cond_false]
    have hp : 0 < 2 ^ s := Nat.pow_pos (by omega)
    have hv1 : 9223372036854775808 ≤ b * 2 ^ s := by
      have := Nat.mul_le_mul_right (2 ^ s) l1
      rw [← Nat.pow_add, hs] at this
      omega
    have hv2 : b * 2 ^ s < 18446744073709551616 := by
      have := Nat.mul_lt_mul_of_pos_right l2 hp
      rw [← Nat.pow_add, show Nat.log2 b + 1 + s = 64 by omega] at this
      omega
    have ha1 : (a + 1) * 2 ^ s ≤ b * 2 ^ s := Nat.mul_le_mul_right _ (by omega)
    rw [Nat.add_mul, Nat.one_mul] at ha1
    have hps : 2 ^ (64 - s) * 2 ^ s = 18446744073709551616 := by rw [← Nat.pow_add, show 64 - s + s = 64 by omega]
    have hpq : 0 < 2 ^ (64 - s) := Nat.pow_pos (by omega)
    have hc1 : c / 2 ^ (64 - s) < 2 ^ s := by
      rw [Nat.div_lt_iff_lt_mul hpq, Nat.mul_comm]
      omega
    rw [shlU_nat b s (by omega), shlU_nat c s (by omega), shlU_nat a s (by omega), shrU_nat c (64 - s) (by omega)]
    rw [Nat.mod_eq_of_lt hv2, Nat.mod_eq_of_lt (a := a * 2 ^ s) (by omega)]
    rw [borU_nat _ _ (by omega) (by omega)]
    have hor : a * 2 ^ s ||| c / 2 ^ (64 - s) = a * 2 ^ s + c / 2 ^ (64 - s) := by
      rw [← Nat.shiftLeft_eq, Nat.shiftLeft_add_eq_or_of_lt hc1]
    rw [hor, shr_32, shr_32, band_mask _ hv2, band_mask _ (by omega)]
    have hcs : c * 2 ^ s = c / 2 ^ (64 - s) * 18446744073709551616 + c * 2 ^ s % 18446744073709551616 := by
      have : c * 2 ^ s / 18446744073709551616 = c / 2 ^ (64 - s) := by
        rw [← hps, Nat.mul_comm c, Nat.mul_comm (2 ^ (64 - s)), Nat.mul_div_mul_left _ _ hp]
      rw [← this]
      omega
    have hX : ((a : Int) * 18446744073709551616 + c) * (2 ^ s : Nat) = ((a * 2 ^ s + c / 2 ^ (64 - s) : Nat) : Int) * 18446744073709551616 + (c * 2 ^ s % 18446744073709551616 : Nat) := by
      rw [Int.add_mul, Int.mul_right_comm]
      have e1 : (a : Int) * (2 ^ s : Nat) = ((a * 2 ^ s : Nat) : Int) := (Int.natCast_mul _ _).symm
      have e2 : (c : Int) * (2 ^ s : Nat) = ((c * 2 ^ s : Nat) : Int) := (Int.natCast_mul _ _).symm
      rw [e1, e2]
      omega
    generalize hu10 : c * 2 ^ s % 18446744073709551616 = u10 at *
    have hu10' : u10 < 18446744073709551616 := by omega
    generalize hu32 : a * 2 ^ s + c / 2 ^ (64 - s) = u32 at *
    generalize hvv : b * 2 ^ s = v at *
    rw [divMain_ok (by omega) (by omega) (by omega) (by omega) (by omega) (by omega) (by omega) (by omega) (by omega) (by omega) (by omega) (by omega)]
    rw [show ((u10 / 4294967296 : Nat) : Int) * 4294967296 + ((u10 % 4294967296 : Nat) : Int) = (u10 : Int) by omega, ← hX]
    have hvI : (v : Int) = (b : Int) * (2 ^ s : Nat) := by rw [← hvv]; exact Int.natCast_mul _ _
    rw [hvI]
    have hpI : (0 : Int) < ((2 ^ s : Nat) : Int) := by omega
    have hmod : ((a : Int) * 18446744073709551616 + c) * ((2 ^ s : Nat) : Int) % ((b : Int) * ((2 ^ s : Nat) : Int)) = ((a : Int) * 18446744073709551616 + c) % b * ((2 ^ s : Nat) : Int) := by
      rw [Int.mul_comm (_ + _), Int.mul_comm (b : Int), Int.mul_emod_mul_of_pos _ _ hpI, Int.mul_comm]
    rw [Int.mul_ediv_mul_of_pos_left _ _ hpI, hmod]
    have hm0 := Int.emod_nonneg ((a : Int) * 18446744073709551616 + c) (show (b : Int) ≠ 0 by omega)
    obtain ⟨m, hm⟩ := Int.eq_ofNat_of_zero_le hm0
    rw [hm, ← Int.natCast_mul, shrU_nat _ s (by omega), Nat.mul_div_cancel _ hp]
end Go.Ev

namespace Go.Ev
open Go
def absI (n : Int) : Int := n - n + (n.natAbs : Int)
theorem absI_eq (n : Int) : absI n = (n.natAbs : Int) := by unfold absI; omega
theorem absI_of_nonneg {n : Int} (h : 0 ≤ n) : absI n = n := by unfold absI; omega
theorem absI_of_neg {n : Int} (h : n < 0) : absI n = -n := by unfold absI; omega
theorem absI_nonneg (n : Int) : 0 ≤ absI n := by unfold absI; omega
def sizeRaw (n : Int) : Int := bif decide (n < 0) then wu64 (0 - wu64 n) else wu64 n
def absRaw (n : Int) : Int := bif decide (0 ≤ n) then wu64 n else wu64 (wu64 (w64 (0 - w64 (n + 1))) + 1)
theorem sizeRaw_ok {n : Int} (h : -9223372036854775808 ≤ n ∧ n ≤ 9223372036854775807) : sizeRaw n = absI n := by
  unfold sizeRaw
  by_cases hn : n < 0
  · rw [decide_eq_true hn, cond_true, absI_of_neg hn]
    simp only [wu64_eq]
    omega
  · rw [decide_eq_false hn, cond_false, absI_of_nonneg (by omega), wu64_id (by omega)]
theorem absRaw_ok {n : Int} (h : -9223372036854775808 ≤ n ∧ n ≤ 9223372036854775807) : absRaw n = absI n := by
  unfold absRaw
  by_cases hn : 0 ≤ n
  · rw [decide_eq_true hn, cond_true, absI_of_nonneg hn, wu64_id (by omega)]
  · rw [decide_eq_false hn, cond_false, absI_of_neg (by omega), w64_id (n := n + 1) (by omega), w64_id (by omega), wu64_id (n := 0 - (n + 1)) (by omega), wu64_id (by omega)]
    omega
def fracOkB (a : Frac) : Bool :=
  bif decide (a.den < 1) then false else bif decide (1000000000000000000 < a.den) then false else bif decide (a.num < -1000000000000000000) then false else bif decide (1000000000000000000 < a.num) then false else
  !(gcdI (absI a.num) a.den != 1)
structure FracOk (a : Frac) : Prop where
  denlo : 1 ≤ a.den
  denhi : a.den ≤ 1000000000000000000
  numlo : -1000000000000000000 ≤ a.num
  numhi : a.num ≤ 1000000000000000000
  gcd : Int.gcd a.num a.den = 1
theorem gcdI_abs_left (a b : Int) : gcdI (absI a) b = gcdI a b := by simp [gcdI_eq, absI_eq, Int.gcd_eq_natAbs_gcd_natAbs]
theorem gcdI_abs_right (a b : Int) : gcdI a (absI b) = gcdI a b := by simp [gcdI_eq, absI_eq, Int.gcd_eq_natAbs_gcd_natAbs]
theorem fracOkB_iff {a : Frac} : fracOkB a = true ↔ FracOk a := by
  unfold fracOkB
  rw [gcdI_abs_left]
  simp only [cond_eq_ite, decide_eq_true_eq]
  constructor
  · intro h
    split at h
    · cases h
    split at h
    · cases h
    split at h
    · cases h
    split at h
    · cases h
    refine ⟨by omega, by omega, by omega, by omega, ?_⟩
    simp only [bne, Bool.not_not, beq_iff_eq, gcdI_eq] at h
    omega
  · intro h
    rw [if_neg (by have := h.denlo; omega), if_neg (by have := h.denhi; omega), if_neg (by have := h.numlo; omega), if_neg (by have := h.numhi; omega)]
    simp [gcdI_eq, h.gcd]
def checkF (a : Frac) : Int := bif fracOkB a then 0 else 8
def checkRaw (num den gd : Int) : Int :=
  bif decide (den < 1) then 8 else bif decide (1000000000000000000 < den) then 8 else bif decide (num < -1000000000000000000) then 8 else bif decide (1000000000000000000 < num) then 8 else
  bif gcdI (absI num) gd != 1 then 8 else 0
theorem checkRaw_ok (num den : Int) : checkRaw num den den = checkF ⟨num, den⟩ := by
  unfold checkRaw checkF fracOkB
  simp only [cond_eq_ite, decide_eq_true_eq]
  split
  · simp
  split
  · simp
  split
  · simp
  split
  · simp
  simp only [Bool.not_eq_true']
  cases h : gcdI (absI num) den != 1 <;> simp
theorem checkRaw_abs (num den : Int) : checkRaw num den (absI den) = checkF ⟨num, den⟩ := by
  by_cases hd : den < 1
  · rw [← checkRaw_ok]
    unfold checkRaw
    rw [decide_eq_true hd]
    rfl
  · rw [absI_of_nonneg (by omega), checkRaw_ok]
theorem checkRaw_wu (num den : Int) (h : den ≤ 9223372036854775807) : checkRaw num den (wu64 den) = checkF ⟨num, den⟩ := by
  by_cases hd : den < 1
  · rw [← checkRaw_ok]
    unfold checkRaw
    rw [decide_eq_true hd]
    rfl
  · rw [wu64_id (by omega), checkRaw_ok]
structure Big where
  a : Int
  b : Int
  c : Int
  d : Int
def Big.cells (x : Big) : List D := [.int .u64 x.a, .int .u64 x.b, .int .u64 x.c, .int .u64 x.d]
def rBig (x : Big) : AV := .v (.agg x.cells)
def bigOf (n : Int) : Big := ⟨n % 4294967296, n / 4294967296 % 4294967296, n / 18446744073709551616 % 4294967296, n / 79228162514264337593543950336⟩
def bigRaw (n : Int) : Big := ⟨bandU n 4294967295, shrU n 32, 0, 0⟩
theorem bigRaw_ok {n : Int} (h : 0 ≤ n ∧ n ≤ 18446744073709551615) : bigRaw n = bigOf n := by
  obtain ⟨a, rfl⟩ := Int.eq_ofNat_of_zero_le h.1
  unfold bigRaw bigOf
  rw [band_mask a (by omega), shr_32]
  congr 1 <;> omega
def carryU (c o x y : Int) : Int := wu64 (c + wu64 (o + wu64 (x * y)))
def prodRaw (x y : Big) : Big :=
  let t0 := carryU 0 0 x.a y.a
  let t1 := carryU (shrU t0 32) 0 x.a y.b
  let t2 := carryU 0 (bandU t1 4294967295) x.b y.a
  let t3 := carryU (shrU t2 32) (wu64 (0 + shrU t1 32)) x.b y.b
  ⟨bandU t0 4294967295, bandU t2 4294967295, bandU t3 4294967295, wu64 (0 + shrU t3 32)⟩
theorem carryU_nat (c o x y : Nat) (hc : c < 4294967296) (ho : o < 4294967296) (hx : x < 4294967296) (hy : y < 4294967296) : carryU c o x y = ((c + (o + x * y) : Nat) : Int) ∧ c + (o + x * y) < 18446744073709551616 := by
  have h := Lib.half_mul_le (a := x) (b := y) (by omega) (by omega)
  unfold carryU
  rw [← Int.natCast_mul, wuN _ (by omega), ← Int.natCast_add, wuN _ (by omega), ← Int.natCast_add, wuN _ (by omega)]
  exact ⟨rfl, by omega⟩
theorem prodRaw_ok {x y : Int} (hx : 0 ≤ x ∧ x ≤ 18446744073709551615) (hy : 0 ≤ y ∧ y ≤ 18446744073709551615) : prodRaw (bigOf x) (bigOf y) = bigOf (x * y) := by
  obtain ⟨p, rfl⟩ := Int.eq_ofNat_of_zero_le hx.1
  obtain ⟨q, rfl⟩ := Int.eq_ofNat_of_zero_le hy.1
  have e1 : (p : Int) % 4294967296 = ((p % 4294967296 : Nat) : Int) := by omega
  have e2 : (p : Int) / 4294967296 % 4294967296 = ((p / 4294967296 : Nat) : Int) := by omega
  have e3 : (q : Int) % 4294967296 = ((q % 4294967296 : Nat) : Int) := by omega
  have e4 : (q : Int) / 4294967296 % 4294967296 = ((q / 4294967296 : Nat) : Int) := by omega
  have hpq : p * q = (p / 4294967296) * (q / 4294967296) * (4294967296 * 4294967296) + ((p / 4294967296) * (q % 4294967296) + (p % 4294967296) * (q / 4294967296)) * 4294967296 + (p % 4294967296) * (q % 4294967296) := by
    rw [← Lib.split_mul, Nat.div_add_mod' p 4294967296, Nat.div_add_mod' q 4294967296]
  have ha : p % 4294967296 < 4294967296 := by omega
  have hb : p / 4294967296 < 4294967296 := by omega
  have hc : q % 4294967296 < 4294967296 := by omega
  have hd : q / 4294967296 < 4294967296 := by omega
  have hm : ((p : Int) * q) = ((p * q : Nat) : Int) := (Int.natCast_mul _ _).symm
  unfold prodRaw bigOf
  simp only [e1, e2, e3, e4, hm]
  rw [hpq]
  generalize p % 4294967296 = pa at *
  generalize p / 4294967296 = pb at *
  generalize q % 4294967296 = qa at *
  generalize q / 4294967296 = qb at *
  obtain ⟨f0, g0⟩ := carryU_nat 0 0 pa qa (by omega) (by omega) ha hc
  simp only [Int.natCast_zero] at f0
  rw [f0, shr_32]
  obtain ⟨f1, g1⟩ := carryU_nat ((0 + (0 + pa * qa)) / 4294967296) 0 pa qb (by omega) (by omega) ha hd
  simp only [Int.natCast_zero] at f1
  rw [f1, shr_32, band_mask _ g1]
  obtain ⟨f2, g2⟩ := carryU_nat 0 (((0 + (0 + pa * qa)) / 4294967296 + (0 + pa * qb)) % 4294967296) pb qa (by omega) (by omega) hb hc
  simp only [Int.natCast_zero] at f2
  rw [f2, shr_32, Int.zero_add, wuN _ (by omega)]
  obtain ⟨f3, g3⟩ := carryU_nat ((0 + (((0 + (0 + pa * qa)) / 4294967296 + (0 + pa * qb)) % 4294967296 + pb * qa)) / 4294967296) (((0 + (0 + pa * qa)) / 4294967296 + (0 + pa * qb)) / 4294967296) pb qb (by omega) (by omega) hb hd
  rw [f3, shr_32, Int.zero_add, wuN _ (by omega), band_mask _ g0, band_mask _ g2, band_mask _ g3]
  generalize pa * qa = A at *
  generalize pa * qb = B at *
  generalize pb * qa = C at *
  generalize pb * qb = E at *
  congr 1 <;> omega
def belowRaw (x y : Big) : Bool :=
  bif x.d != y.d then decide (x.d < y.d) else bif x.c != y.c then decide (x.c < y.c) else bif x.b != y.b then decide (x.b < y.b) else bif x.a != y.a then decide (x.a < y.a) else false
theorem belowRaw_ok {m n : Int} : belowRaw (bigOf m) (bigOf n) = decide (m < n) := by
  unfold belowRaw bigOf
  simp only [cond_eq_ite, bne_iff_ne, ne_eq]
  split
  · apply decide_eq_decide.2; omega
  split
  · apply decide_eq_decide.2; omega
  split
  · apply decide_eq_decide.2; omega
  split
  · apply decide_eq_decide.2; omega
  symm
  simp only [decide_eq_false_iff_not]
  omega
def smallRaw (x : Big) : Int × Bool :=
  (w64 (bandU (borU (shlU x.b 32) x.a) 9223372036854775807),
   bif x.c == 0 then (bif x.d == 0 then decide (borU (shlU x.b 32) x.a ≤ 1000000000000000000) else false) else false)
def smallI (n : Int) : Int × Bool := (n % 9223372036854775808, decide (n ≤ 1000000000000000000))
theorem smallRaw_ok {n : Int} (hn : 0 ≤ n) : smallRaw (bigOf n) = smallI n := by
  obtain ⟨a, rfl⟩ := Int.eq_ofNat_of_zero_le hn
  have e0 : (a : Int) % 4294967296 = ((a % 4294967296 : Nat) : Int) := by omega
  have e1 : (a : Int) / 4294967296 % 4294967296 = ((a / 4294967296 % 4294967296 : Nat) : Int) := by omega
  have e2 : shlU ((a / 4294967296 % 4294967296 : Nat) : Int) 32 = ((a / 4294967296 % 4294967296 * 4294967296 : Nat) : Int) := by
    have := shlU_nat (a / 4294967296 % 4294967296) 32 (by omega)
    rw [show ((32 : Nat) : Int) = 32 from rfl] at this
    rw [this]
    omega
  have e3 : borU ((a / 4294967296 % 4294967296 * 4294967296 : Nat) : Int) ((a % 4294967296 : Nat) : Int) = ((a % 18446744073709551616 : Nat) : Int) := by
    rw [borU_nat _ _ (by omega) (by omega)]
    have := Nat.shiftLeft_add_eq_or_of_lt (b := a % 4294967296) (i := 32) (by omega) (a / 4294967296 % 4294967296)
    rw [Nat.shiftLeft_eq] at this
    rw [show (2 : Nat) ^ 32 = 4294967296 from rfl] at this
    rw [← this]
    omega
  have e4 : bandU ((a % 18446744073709551616 : Nat) : Int) 9223372036854775807 = ((a % 9223372036854775808 : Nat) : Int) := by
    have := bandU_nat (a % 18446744073709551616) 9223372036854775807 (by omega) (by omega)
    rw [show a % 18446744073709551616 &&& 9223372036854775807 = a % 18446744073709551616 % 9223372036854775808 from Nat.and_two_pow_sub_one_eq_mod _ 63] at this
    refine this.trans ?_
    omega
  unfold smallRaw bigOf smallI
  simp only [e0, e1, e2, e3, e4]
  rw [w64_id (by omega)]
  refine Prod.ext (by simp) ?_
  simp only [cond_eq_ite, beq_iff_eq]
  split
  · split
    · apply decide_eq_decide.2; omega
    · symm; simp only [decide_eq_false_iff_not]; omega
  · symm; simp only [decide_eq_false_iff_not]; omega
end Go.Ev

namespace Go.Ev
open Go
def lowF (minus : Bool) (n d : Int) : Frac × Int := bif decide (n ≤ 1000000000000000000) && decide (d ≤ 1000000000000000000) then (⟨bif minus then -n else n, d⟩, 0) else (fracZ, 16)
def lowestRaw (minus : Bool) (x y : Big) : Frac × Int :=
  bif !(smallRaw x).2 then (fracZ, 16) else bif !(smallRaw y).2 then (fracZ, 16) else
  bif minus then (⟨w64 (0 - (smallRaw x).1), (smallRaw y).1⟩, 0) else (⟨(smallRaw x).1, (smallRaw y).1⟩, 0)
theorem lowestRaw_ok {minus : Bool} {n d : Int} (hn : 0 ≤ n) (hd : 0 ≤ d) : lowestRaw minus (bigOf n) (bigOf d) = lowF minus n d := by
  unfold lowestRaw lowF
  rw [smallRaw_ok hn, smallRaw_ok hd]
  simp only [smallI]
  by_cases h1 : n ≤ 1000000000000000000
  · by_cases h2 : d ≤ 1000000000000000000
    · simp only [decide_eq_true h1, decide_eq_true h2, Bool.not_true, cond_false, Bool.and_self, cond_true]
      rw [Int.emod_eq_of_lt hn (by omega), Int.emod_eq_of_lt hd (by omega), w64_id (by omega)]
      cases minus
      · rfl
      · simp
    · simp only [decide_eq_true h1, decide_eq_false h2, Bool.not_true, Bool.not_false, cond_false, Bool.and_false, cond_true]
  · simp only [decide_eq_false h1, Bool.not_false, cond_false, Bool.false_and, cond_true]
def diffSign (a b : Int) : Bool := !(decide (a < 0) == decide (b < 0))
def makeF (num den : Int) : Frac × Int := bif den == 0 then (fracZ, 18) else lowF (diffSign num den) (absI num / gcdI num den) (absI den / gcdI num den)
theorem gcdI_pos {a b : Int} (h : b ≠ 0) : 0 < gcdI a b := by
  have := Int.gcd_pos_of_ne_zero_right a h
  unfold gcdI
  omega
theorem quo_gcd {a g : Int} (ha : 0 ≤ a ∧ a ≤ 18446744073709551615) (hg : 0 < g) : wu64 (a.tdiv g) = a / g ∧ 0 ≤ a / g := by
  have h1 := Int.ediv_nonneg ha.1 (Int.le_of_lt hg)
  have h2 := Int.ediv_le_self g ha.1
  rw [Int.tdiv_eq_ediv_of_nonneg ha.1]
  exact ⟨wu64_id (by omega), h1⟩
theorem absI_range {n : Int} (h : -9223372036854775808 ≤ n ∧ n ≤ 9223372036854775807) : 0 ≤ absI n ∧ absI n ≤ 18446744073709551615 := by unfold absI; omega
def lessRaw (a b : Frac) : Bool :=
  bif diffSign a.num b.num then decide (a.num < 0) else
  bif decide (a.num < 0) then belowRaw (bigOf (absI b.num * wu64 a.den)) (bigOf (absI a.num * wu64 b.den)) else belowRaw (bigOf (absI a.num * wu64 b.den)) (bigOf (absI b.num * wu64 a.den))
def lessN (a b : Frac) : Bool :=
  bif diffSign a.num b.num then decide (a.num < 0) else
  bif decide (a.num < 0) then decide (absI b.num * wu64 a.den < absI a.num * wu64 b.den) else decide (absI a.num * wu64 b.den < absI b.num * wu64 a.den)
theorem lessRaw_ok (a b : Frac) : lessRaw a b = lessN a b := by
  unfold lessRaw lessN
  rw [belowRaw_ok, belowRaw_ok]
theorem lessN_ok {a b : Frac} (ha : 0 < a.den) (ha' : a.den ≤ 9223372036854775807) (hb : 0 < b.den) (hb' : b.den ≤ 9223372036854775807) : lessN a b = decide (a.num * b.den < b.num * a.den) := by
  unfold lessN diffSign
  rw [wu64_id (n := a.den) (by omega), wu64_id (n := b.den) (by omega)]
  by_cases h1 : a.num < 0
  · have e1 := absI_of_neg h1
    have k1 : a.num * b.den < 0 := Int.mul_neg_of_neg_of_pos h1 hb
    by_cases h2 : b.num < 0
    · have e2 := absI_of_neg h2
      simp only [decide_eq_true h1, decide_eq_true h2, beq_self_eq_true, Bool.not_true, cond_false, cond_true]
      rw [e1, e2, Int.neg_mul, Int.neg_mul]
      apply decide_eq_decide.2
      omega
    · have k2 : 0 ≤ b.num * a.den := Int.mul_nonneg (by omega) (by omega)
      simp only [decide_eq_true h1, decide_eq_false h2]
      symm
      simp
      omega
  · have e1 := absI_of_nonneg (show 0 ≤ a.num by omega)
    have k1 : 0 ≤ a.num * b.den := Int.mul_nonneg (by omega) (by omega)
    by_cases h2 : b.num < 0
    · have k2 : b.num * a.den < 0 := Int.mul_neg_of_neg_of_pos h2 ha
      simp only [decide_eq_false h1, decide_eq_true h2]
      symm
      simp
      omega
    · have e2 := absI_of_nonneg (show 0 ≤ b.num by omega)
      simp only [decide_eq_false h1, decide_eq_false h2, beq_self_eq_true, Bool.not_true, cond_false]
      rw [e1, e2]
def spanValid (a : Span) : Bool := bif decide (a.lo ≤ a.hi) then bif decide (-3000000000 ≤ a.lo) then decide (a.hi ≤ 3000000000) else false else false
theorem spanValid_iff {a : Span} : spanValid a = true ↔ a.lo ≤ a.hi ∧ -3000000000 ≤ a.lo ∧ a.hi ≤ 3000000000 := by
  unfold spanValid
  simp only [cond_eq_ite, decide_eq_true_eq]
  split
  · split
    · simp; omega
    · simp; omega
  · simp; omega
def rangedS (a : Span) : Span × Int := bif !(spanValid a) then (spanZ, 16) else (a, 0)
def addRaw (a b : Span) : Span × Int := bif !(spanValid a) then (spanZ, 8) else bif !(spanValid b) then (spanZ, 8) else rangedS ⟨w64 (a.lo + b.lo), w64 (a.hi + b.hi)⟩
def addS (a b : Span) : Span × Int := bif spanValid a && spanValid b then rangedS ⟨a.lo + b.lo, a.hi + b.hi⟩ else (spanZ, 8)
def subRaw (a b : Span) : Span × Int := bif !(spanValid a) then (spanZ, 8) else bif !(spanValid b) then (spanZ, 8) else rangedS ⟨w64 (a.lo - b.hi), w64 (a.hi - b.lo)⟩
def subS (a b : Span) : Span × Int := bif spanValid a && spanValid b then rangedS ⟨a.lo - b.hi, a.hi - b.lo⟩ else (spanZ, 8)
def negS (a : Span) : Span := ⟨-a.hi, -a.lo⟩
def negRaw (a : Span) : Span := ⟨w64 (0 - a.hi), w64 (0 - a.lo)⟩
def subRef (a b : Span) : Span × Int := bif !(spanValid a) then (spanZ, 8) else bif !(spanValid b) then (spanZ, 8) else addS a (negRaw b)
theorem negRaw_ok {a : Span} (h : spanValid a = true) : negRaw a = negS a := by
  rw [spanValid_iff] at h
  unfold negRaw negS
  rw [w64_id (by omega), w64_id (by omega)]
  simp
theorem negS_valid {a : Span} (h : spanValid a = true) : spanValid (negS a) = true := by
  rw [spanValid_iff] at h ⊢
  simp only [negS]
  omega
theorem addRaw_ok (a b : Span) : addRaw a b = addS a b := by
  unfold addRaw addS
  cases ha : spanValid a
  · rfl
  cases hb : spanValid b
  · rfl
  rw [spanValid_iff] at ha hb
  simp only [Bool.not_true, cond_false, Bool.and_self, cond_true]
  rw [w64_id (by omega), w64_id (by omega)]
theorem subRaw_ok (a b : Span) : subRaw a b = subS a b := by
  unfold subRaw subS
  cases ha : spanValid a
  · rfl
  cases hb : spanValid b
  · rfl
  rw [spanValid_iff] at ha hb
  simp only [Bool.not_true, cond_false, Bool.and_self, cond_true]
  rw [w64_id (by omega), w64_id (by omega)]
theorem subRef_ok (a b : Span) : subRef a b = subS a b := by
  unfold subRef subS
  cases ha : spanValid a
  · rfl
  cases hb : spanValid b
  · rfl
  simp only [Bool.not_true, cond_false, Bool.and_self, cond_true]
  rw [negRaw_ok hb]
  unfold addS
  rw [ha, negS_valid hb]
  simp only [Bool.and_self, cond_true, negS]
  congr 2
  all_goals omega
theorem floor_of (n d : Int) (hd : 0 < d) : (if n.tmod d < 0 then n.tdiv d - 1 else n.tdiv d) = n / d := by
  have h1 := Int.mul_tdiv_add_tmod n d
  have h2 := Int.mul_ediv_add_emod n d
  have h3 := Int.emod_nonneg n (show d ≠ 0 by omega)
  have h4 := Int.emod_lt_of_pos n hd
  rcases Int.lt_or_le n 0 with hn | hn
  · have h5 : -d < n.tmod d := Int.lt_tmod_of_pos n hd
    have h6 : n.tmod d ≤ 0 := by
      have e := Int.neg_tmod n d
      have := Int.tmod_nonneg d (show 0 ≤ -n by omega)
      omega
    split
    · rename_i h7
      have : d * (n.tdiv d - 1) + (n.tmod d + d) = n := by rw [Int.mul_sub]; omega
      exact ((Int.ediv_emod_unique hd).2 ⟨by rw [Int.add_comm]; exact this, by omega, by omega⟩).1.symm
    · exact ((Int.ediv_emod_unique hd).2 ⟨by rw [Int.add_comm]; exact h1, by omega, by omega⟩).1.symm
  · rw [Int.tdiv_eq_ediv_of_nonneg hn, Int.tmod_eq_emod_of_nonneg hn, if_neg (by omega)]
theorem floor_range {n d : Int} (hd : 0 < d) (h : -9223372036854775808 ≤ n ∧ n ≤ 9223372036854775807) : -9223372036854775808 ≤ n / d ∧ n / d ≤ 9223372036854775807 := by
  constructor
  · rw [Int.le_ediv_iff_mul_le hd]
    have := Int.mul_le_mul_of_nonneg_left (show (1 : Int) ≤ d by omega) (show (0 : Int) ≤ 9223372036854775808 by omega)
    omega
  · have h1 : n / d < 9223372036854775808 := by
      apply Int.ediv_lt_of_lt_mul hd
      have := Int.mul_le_mul_of_nonneg_left (show (1 : Int) ≤ d by omega) (show (0 : Int) ≤ 9223372036854775808 by omega)
      omega
    omega
theorem tdiv_range {n d : Int} (hd : 0 < d) (h : -9223372036854775808 ≤ n ∧ n ≤ 9223372036854775807) : -9223372036854775808 ≤ n.tdiv d ∧ n.tdiv d ≤ 9223372036854775807 := by
  have h1 := Int.natAbs_tdiv_le_natAbs n d
  rcases Int.lt_or_le n 0 with hn | hn
  · have e := Int.neg_tdiv n d
    have := Int.tdiv_nonneg (show 0 ≤ -n by omega) (show 0 ≤ d by omega)
    omega
  · have := Int.tdiv_nonneg hn (show 0 ≤ d by omega)
    omega
def floorRaw (n d : Int) : Int := bif decide (n.tmod d < 0) then w64 (w64 (n.tdiv d) - 1) else w64 (n.tdiv d)
theorem floorRaw_ok {n d : Int} (hd : 0 < d) (h : -9223372036854775808 ≤ n ∧ n ≤ 9223372036854775807) : floorRaw n d = n / d := by
  have h1 := floor_of n d hd
  have h2 := floor_range hd h
  have h3 := tdiv_range hd h
  unfold floorRaw
  rw [w64_id (n := n.tdiv d) h3]
  by_cases hn : n.tmod d < 0
  · rw [if_pos hn] at h1
    rw [decide_eq_true hn, cond_true, h1, w64_id h2]
  · rw [if_neg hn] at h1
    rw [decide_eq_false hn, cond_false, h1]
def min4 (p q r s : Int) : Int := if s < (if r < (if q < p then q else p) then r else (if q < p then q else p)) then s else (if r < (if q < p then q else p) then r else (if q < p then q else p))
def max4 (p q r s : Int) : Int := if s > (if r > (if q > p then q else p) then r else (if q > p then q else p)) then s else (if r > (if q > p then q else p) then r else (if q > p then q else p))
def mulRaw' (a b : Span) : Span × Int := bif !(spanValid a) then (spanZ, 8) else bif !(spanValid b) then (spanZ, 8) else
  rangedS ⟨min4 (w64 (a.lo * b.lo)) (w64 (a.lo * b.hi)) (w64 (a.hi * b.lo)) (w64 (a.hi * b.hi)) / 1000000, w64 (0 - w64 (0 - max4 (w64 (a.lo * b.lo)) (w64 (a.lo * b.hi)) (w64 (a.hi * b.lo)) (w64 (a.hi * b.hi))) / 1000000)⟩
def mulS (a b : Span) : Span × Int := bif spanValid a && spanValid b then
  rangedS ⟨min4 (a.lo * b.lo) (a.lo * b.hi) (a.hi * b.lo) (a.hi * b.hi) / 1000000, -(-(max4 (a.lo * b.lo) (a.lo * b.hi) (a.hi * b.lo) (a.hi * b.hi)) / 1000000)⟩ else (spanZ, 8)
theorem mul_range {x y : Int} (hx : -3000000000 ≤ x ∧ x ≤ 3000000000) (hy : -3000000000 ≤ y ∧ y ≤ 3000000000) : -9000000000000000000 ≤ x * y ∧ x * y ≤ 9000000000000000000 := by
  have h : (x * y).natAbs ≤ 3000000000 * 3000000000 := by
    rw [Int.natAbs_mul]
    exact Nat.mul_le_mul (by omega) (by omega)
  omega
theorem max4_range {p q r s m : Int} (hp : -m ≤ p ∧ p ≤ m) (hq : -m ≤ q ∧ q ≤ m) (hr : -m ≤ r ∧ r ≤ m) (hs : -m ≤ s ∧ s ≤ m) : -m ≤ max4 p q r s ∧ max4 p q r s ≤ m := by
  unfold max4
  repeat' split
  all_goals omega
theorem mulRaw'_ok (a b : Span) : mulRaw' a b = mulS a b := by
  unfold mulRaw' mulS
  cases ha : spanValid a
  · rfl
  cases hb : spanValid b
  · rfl
  rw [spanValid_iff] at ha hb
  have h1 := mul_range (x := a.lo) (y := b.lo) (by omega) (by omega)
  have h2 := mul_range (x := a.lo) (y := b.hi) (by omega) (by omega)
  have h3 := mul_range (x := a.hi) (y := b.lo) (by omega) (by omega)
  have h4 := mul_range (x := a.hi) (y := b.hi) (by omega) (by omega)
  simp only [Bool.not_true, cond_false, Bool.and_self, cond_true]
  rw [w64_id (n := a.lo * b.lo) (by omega), w64_id (n := a.lo * b.hi) (by omega), w64_id (n := a.hi * b.lo) (by omega), w64_id (n := a.hi * b.hi) (by omega)]
  have h5 := max4_range h1 h2 h3 h4
  generalize max4 (a.lo * b.lo) (a.lo * b.hi) (a.hi * b.lo) (a.hi * b.hi) = m at *
  rw [w64_id (n := 0 - m) (by omega), w64_id (by omega)]
  simp
def aroundS (f : Frac) : Span := ⟨f.num * 1000000 / f.den, -(-(f.num * 1000000) / f.den)⟩
def aroundB (f : Frac) : Span × Bool := bif decide (3000000000 < absI f.num * 1000000 / f.den) then (spanZ, false) else (aroundS f, true)
def ofS (f : Frac) : Span × Int := bif fracOkB f then rangedS (aroundS f) else (spanZ, 8)
def aroundTail (num q r : Int) : Span × Bool := bif decide (3000000000 < q) then (spanZ, false) else
  bif r != 0 then (bif decide (num < 0) then (⟨w64 (0 - w64 (w64 q + 1)), w64 (0 - w64 q)⟩, true) else (⟨w64 q, w64 (w64 q + 1)⟩, true)) else
  (bif decide (num < 0) then (⟨w64 (0 - w64 q), w64 (0 - w64 q)⟩, true) else (⟨w64 q, w64 q⟩, true))
def aroundAns (K : AV → List Blk → Ans) (num den n : Int) : Ans :=
  bif decide (wu64 den ≤ (mul64 (wu64 n) 1000000).1) then K (rSpanB (spanZ, false)) [] else
  bif decide ((mul64 (wu64 n) 1000000).1 < wu64 den) then
    K (rSpanB (aroundTail num (((mul64 (wu64 n) 1000000).1 * 18446744073709551616 + (mul64 (wu64 n) 1000000).2) / wu64 den) (((mul64 (wu64 n) 1000000).1 * 18446744073709551616 + (mul64 (wu64 n) 1000000).2) % wu64 den))) [] else none
theorem aroundAns_ok {K : AV → List Blk → Ans} {num den n : Int} (h : FracOk ⟨num, den⟩) (hn : n = absI num) : aroundAns K num den n = K (rSpanB (aroundB ⟨num, den⟩)) [] := by
  obtain ⟨h1, h2, h3, h4, _⟩ := h
  simp only at h1 h2 h3 h4
  have hn0 : 0 ≤ n ∧ n ≤ 1000000000000000000 := by rw [hn]; unfold absI; omega
  unfold aroundAns
  rw [wu64_id (n := den) (by omega), wu64_id (n := n) (by omega)]
  have hX : (mul64 n 1000000).1 * 18446744073709551616 + (mul64 n 1000000).2 = n * 1000000 := by simp only [mul64]; omega
  rw [hX]
  unfold aroundB
  simp only
  rw [← hn]
  by_cases hb : den ≤ (mul64 n 1000000).1
  · have : 3000000000 < n * 1000000 / den := by
      apply Int.lt_of_lt_of_le (b := 18446744073709551616) (by omega)
      rw [Int.le_ediv_iff_mul_le (by omega)]
      simp only [mul64] at hb
      omega
    rw [decide_eq_true hb, decide_eq_true this]
    rfl
  · rw [decide_eq_false hb, decide_eq_true (show (mul64 n 1000000).1 < den by omega), cond_false, cond_true]
    unfold aroundTail
    by_cases hq : 3000000000 < n * 1000000 / den
    · rw [decide_eq_true hq]; rfl
    · rw [decide_eq_false hq, cond_false, cond_false]
      have hq0 : 0 ≤ n * 1000000 / den := Int.ediv_nonneg (by omega) (by omega)
      have hmul := Int.mul_ediv_add_emod (n * 1000000) den
      have hm0 := Int.emod_nonneg (n * 1000000) (show den ≠ 0 by omega)
      have hm1 := Int.emod_lt_of_pos (n * 1000000) (show 0 < den by omega)
      congr 2
      unfold aroundS
      simp only
      have up : ∀ x : Int, -(-x / den) = bif x % den != 0 then x / den + 1 else x / den := by
        intro x
        have a1 := Int.mul_ediv_add_emod x den
        have a2 := Int.emod_nonneg x (show den ≠ 0 by omega)
        have a3 := Int.emod_lt_of_pos x (show 0 < den by omega)
        by_cases hx : x % den = 0
        · rw [show (x % den != 0) = false by simp [hx], cond_false]
          have : -x / den = -(x / den) := ((Int.ediv_emod_unique (by omega)).2 ⟨(by rw [Int.mul_neg]; omega : 0 + den * (-(x / den)) = -x), by omega, by omega⟩).1
          omega
        · rw [show (x % den != 0) = true by simp [hx], cond_true]
          have : -x / den = -(x / den) - 1 := ((Int.ediv_emod_unique (by omega)).2 ⟨(by rw [Int.mul_sub, Int.mul_neg]; omega : (den - x % den) + den * (-(x / den) - 1) = -x), by omega, by omega⟩).1
          omega
      by_cases hneg : num < 0
      · have e : n = -num := by rw [hn]; exact absI_of_neg hneg
        have e1 : num * 1000000 = -(n * 1000000) := by omega
        rw [decide_eq_true hneg, e1, Int.neg_neg]
        have up1 := up (n * 1000000)
        generalize n * 1000000 / den = q at *
        generalize n * 1000000 % den = r at *
        cases hr : r != 0
        · simp only [hr, cond_false, cond_true] at up1 ⊢
          rw [w64_id (n := q) (by omega), w64_id (by omega)]
          refine Prod.ext ?_ rfl
          simp only [Span.mk.injEq]
          omega
        · simp only [hr, cond_true] at up1 ⊢
          rw [w64_id (n := q) (by omega), w64_id (n := q + 1) (by omega), w64_id (n := 0 - (q + 1)) (by omega), w64_id (by omega)]
          refine Prod.ext ?_ rfl
          simp only [Span.mk.injEq]
          omega
      · have e : n = num := by rw [hn]; exact absI_of_nonneg (by omega)
        rw [decide_eq_false hneg, ← e, up (n * 1000000)]
        generalize n * 1000000 / den = q at *
        generalize n * 1000000 % den = r at *
        cases hr : r != 0
        · simp only [cond_false]
          rw [w64_id (n := q) (by omega)]
        · simp only [cond_true, cond_false]
          rw [w64_id (n := q) (by omega), w64_id (n := q + 1) (by omega)]
theorem checkF_bad {f : Frac} : (checkF f != 0) = !(fracOkB f) := by
  unfold checkF
  cases fracOkB f <;> rfl
theorem sineOf_ok {K : AV → List Blk → Ans} {f : Frac} : (bif checkF f != 0 then K (rSpanE (spanZ, 8)) [] else bif fracOkB f then (bif !(aroundB f).2 then K (rSpanE (spanZ, 16)) [] else K (rSpanE (rangedS (aroundB f).1)) []) else none) = K (rSpanE (ofS f)) [] := by
  rw [checkF_bad]
  unfold ofS
  cases h : fracOkB f
  · rfl
  · simp only [Bool.not_true, cond_false, cond_true]
    have hk := fracOkB_iff.1 h
    have h1 := hk.denlo
    unfold aroundB
    by_cases hq : 3000000000 < absI f.num * 1000000 / f.den
    · rw [decide_eq_true hq]
      simp only [cond_true, Bool.not_false]
      congr 2
      unfold rangedS
      have : spanValid (aroundS f) = false := by
        cases hv : spanValid (aroundS f) with
        | false => rfl
        | true =>
          rw [spanValid_iff] at hv
          simp only [aroundS] at hv
          exfalso
          by_cases hn : f.num < 0
          · rw [absI_of_neg hn, Int.neg_mul] at hq
            omega
          · rw [absI_of_nonneg (by omega)] at hq
            have : f.num * 1000000 / f.den ≤ -(-(f.num * 1000000) / f.den) := by omega
            omega
      rw [this]
      rfl
    · rw [decide_eq_false hq]
      simp only [cond_false, Bool.not_true]
def ofLoop (K : AV → List Blk → Ans) (den : Int) : Nat → Int → Int → Ans
  | 0, n, r => bif decide (0 < r) then K (rSpanE (rangedS ⟨n, w64 (n + 1)⟩)) [] else K (rSpanE (rangedS ⟨n, n⟩)) []
  | k + 1, n, r => bif wu64 den == 0 then none else bif wu64 den == 0 then none else
    ofLoop K den k (w64 (w64 (10 * n) + w64 (wu64 ((wu64 (r * 10)).tdiv (wu64 den))))) ((wu64 (r * 10)).tmod (wu64 den))
def ofAns (K : AV → List Blk → Ans) (num den : Int) : Ans :=
  bif decide (num / den < -3000000000) then K (rSpanE (spanZ, 16)) [] else bif decide (3000000000 < num / den) then K (rSpanE (spanZ, 16)) [] else
  ofLoop K den 6 (num / den) (wu64 (w64 (num - w64 (num / den * den))))
theorem ofLoop_ok {K : AV → List Blk → Ans} {num den : Int} (hd : 1 ≤ den ∧ den ≤ 1000000000000000000) : ∀ (k : Nat) (P : Int), 0 < P → (k : Int) ≤ 6 → -3000000000 * P ≤ num * P / den → num * P / den < 3000000001 * P → P * 10 ^ k = 1000000 →
    ofLoop K den k (num * P / den) (num * P % den) = ofLoop K den 0 (num * 1000000 / den) (num * 1000000 % den)
  | 0, P, _, _, _, _, hP => by
    simp only [Int.pow_zero, Int.mul_one] at hP
    rw [hP]
  | k + 1, P, hp, hk, h1, h2, hP => by
    have hm0 := Int.emod_nonneg (num * P) (show den ≠ 0 by omega)
    have hm1 := Int.emod_lt_of_pos (num * P) (show 0 < den by omega)
    have hmul := Int.mul_ediv_add_emod (num * P) den
    have hPle : P * 10 ≤ 1000000 := by
      have e : (10 : Int) ^ (k + 1) = 10 ^ k * 10 := Int.pow_succ 10 k
      have e2 : (1 : Int) ≤ 10 ^ k := Int.add_one_le_iff.2 (Int.pow_pos (by omega))
      rw [e, Int.mul_comm (10 ^ k), ← Int.mul_assoc] at hP
      have := Int.mul_le_mul_of_nonneg_left e2 (show 0 ≤ P * 10 by omega)
      omega
    have hd0 : (wu64 den == 0) = false := by rw [wu64_id (by omega)]; simp; omega
    unfold ofLoop
    rw [hd0]
    simp only [cond_false]
    rw [wu64_id (n := den) (by omega), wu64_id (n := num * P % den * 10) (by omega), Int.tdiv_eq_ediv_of_nonneg (by omega), Int.tmod_eq_emod_of_nonneg (by omega)]
    have q0 : 0 ≤ num * P % den * 10 / den := Int.ediv_nonneg (by omega) (by omega)
    have q1 : num * P % den * 10 / den < 10 := Int.ediv_lt_of_lt_mul (by omega) (by omega)
    have e10 : num * (P * 10) = num * P % den * 10 + den * (10 * (num * P / den)) := by
      rw [← Int.mul_assoc, Int.mul_left_comm den 10]
      omega
    have eq : num * (P * 10) / den = 10 * (num * P / den) + num * P % den * 10 / den := by
      rw [e10, Int.add_mul_ediv_left _ _ (by omega)]
      omega
    have er : num * (P * 10) % den = num * P % den * 10 % den := by rw [e10, Int.add_mul_emod_self_left]
    rw [wu64_id (by omega), w64_id (n := num * P % den * 10 / den) (by omega)]
    generalize hQ : num * P / den = Q at *
    have hQr : -3000000000000000 ≤ Q ∧ Q ≤ 3000000001000000 := by
      constructor <;> omega
    rw [w64_id (n := 10 * Q) (by omega), w64_id (by omega), ← eq, ← er]
    refine ofLoop_ok hd k (P * 10) (by omega) (by omega) (by omega) (by omega) ?_
    rw [Int.mul_assoc, ← hP, Int.pow_succ, Int.mul_comm 10]
theorem refOf_ok {K : AV → List Blk → Ans} {num den : Int} : (bif checkF ⟨num, den⟩ != 0 then K (rSpanE (spanZ, 8)) [] else bif decide (0 < den) then ofAns K num den else none) = K (rSpanE (ofS ⟨num, den⟩)) [] := by
  rw [checkF_bad]
  unfold ofS
  cases h : fracOkB ⟨num, den⟩
  · rfl
  · simp only [Bool.not_true, cond_false, cond_true]
    obtain ⟨h1, h2, h3, h4, _⟩ := fracOkB_iff.1 h
    simp only at h1 h2 h3 h4
    rw [decide_eq_true (show 0 < den by omega), cond_true]
    have hm0 := Int.emod_nonneg num (show den ≠ 0 by omega)
    have hm1 := Int.emod_lt_of_pos num (show 0 < den by omega)
    have hmul := Int.mul_ediv_add_emod num den
    have hbig : ∀ m : Int, num / den * m ≤ num * m / den ∨ m < 0 := by
      intro m
      rcases Int.lt_or_le m 0 with hm | hm
      · exact .inr hm
      · refine .inl ?_
        rw [Int.le_ediv_iff_mul_le (by omega), Int.mul_right_comm]
        refine Int.mul_le_mul_of_nonneg_right ?_ hm
        rw [Int.mul_comm]
        omega
    have hlo := hbig 1000000
    have hup : num * 1000000 / den < (num / den + 1) * 1000000 := by
      apply Int.ediv_lt_of_lt_mul (by omega)
      rw [Int.mul_right_comm, Int.add_mul, Int.one_mul, Int.mul_comm (num / den) den]
      omega
    have hce : num * 1000000 / den ≤ -(-(num * 1000000) / den) := by
      have a1 := Int.mul_ediv_add_emod (num * 1000000) den
      have a2 := Int.emod_nonneg (num * 1000000) (show den ≠ 0 by omega)
      have : -(num * 1000000) / den ≤ -(num * 1000000 / den) := by
        have : -(num * 1000000) / den < -(num * 1000000 / den) + 1 := by
          apply Int.ediv_lt_of_lt_mul (by omega)
          rw [Int.add_mul, Int.neg_mul, Int.one_mul, Int.mul_comm (num * 1000000 / den)]
          omega
        omega
      omega
    unfold ofAns
    by_cases hA : num / den < -3000000000
    · rw [decide_eq_true hA, cond_true]
      congr 2
      unfold rangedS
      have : spanValid (aroundS ⟨num, den⟩) = false := by
        cases hv : spanValid (aroundS ⟨num, den⟩) with
        | false => rfl
        | true => rw [spanValid_iff] at hv; simp only [aroundS] at hv; omega
      rw [this]
      rfl
    · rw [decide_eq_false hA, cond_false]
      by_cases hB : 3000000000 < num / den
      · rw [decide_eq_true hB, cond_true]
        congr 2
        unfold rangedS
        have : spanValid (aroundS ⟨num, den⟩) = false := by
          cases hv : spanValid (aroundS ⟨num, den⟩) with
          | false => rfl
          | true => rw [spanValid_iff] at hv; simp only [aroundS] at hv; omega
        rw [this]
        rfl
      · rw [decide_eq_false hB, cond_false]
        rw [Int.mul_comm (num / den) den, w64_id (n := den * (num / den)) (by omega), w64_id (by omega), show num - den * (num / den) = num % den by omega, wu64_id (by omega)]
        have hl := ofLoop_ok (K := K) (num := num) (den := den) ⟨h1, h2⟩ 6 1 (by omega) (by omega) (by simp only [Int.mul_one]; omega) (by simp only [Int.mul_one]; omega) (by decide)
        simp only [Int.mul_one] at hl
        rw [hl]
        unfold ofLoop
        have b0 := Int.emod_nonneg (num * 1000000) (show den ≠ 0 by omega)
        have b1 := Int.emod_lt_of_pos (num * 1000000) (show 0 < den by omega)
        have b2 := Int.mul_ediv_add_emod (num * 1000000) den
        unfold aroundS
        by_cases hr : 0 < num * 1000000 % den
        · rw [decide_eq_true hr, cond_true, w64_id (by omega)]
          refine congrArg (fun t => K (rSpanE (rangedS ⟨num * 1000000 / den, t⟩)) []) ?_
          show num * 1000000 / den + 1 = -(-(num * 1000000) / den)
          have : -(num * 1000000) / den = -(num * 1000000 / den) - 1 := ((Int.ediv_emod_unique (by omega)).2 ⟨(by rw [Int.mul_sub, Int.mul_neg]; omega : (den - num * 1000000 % den) + den * (-(num * 1000000 / den) - 1) = -(num * 1000000)), by omega, by omega⟩).1
          omega
        · rw [decide_eq_false hr, cond_false]
          refine congrArg (fun t => K (rSpanE (rangedS ⟨num * 1000000 / den, t⟩)) []) ?_
          show num * 1000000 / den = -(-(num * 1000000) / den)
          have : -(num * 1000000) / den = -(num * 1000000 / den) := ((Int.ediv_emod_unique (by omega)).2 ⟨(by rw [Int.mul_neg]; omega : 0 + den * (-(num * 1000000 / den)) = -(num * 1000000)), by omega, by omega⟩).1
          omega
theorem le_floor {x n d : Int} (hd : 0 < d) : x ≤ n / d ↔ x * d ≤ n := Int.le_ediv_iff_mul_le hd
theorem ceil_le {x n d : Int} (hd : 0 < d) : -(-n / d) ≤ x ↔ n ≤ x * d := by
  have := le_floor (x := -x) (n := -n) hd
  rw [Int.neg_mul] at this
  omega
theorem eqAll_self : ∀ l : List D, eqAll l l = true
  | [] => rfl
  | x :: r => by simp only [eqAll, eqAll_self r, Bool.and_true]; cases x <;> simp [D.eq]
end Go.Ev

namespace Go.Ev
open Go
def bitIn (r a b : Int) : Int := borU (shlU r 1) (bandU (shrU a b) 1)
theorem bitIn_nat (r a b : Nat) (hr : r < 9223372036854775808) (hb : b ≤ 64) (ha : a < 18446744073709551616) : bitIn r a b = ((2 * r + a / 2 ^ b % 2 : Nat) : Int) := by
  unfold bitIn
  have e1 := shlU_nat r 1 (by omega)
  rw [show ((1 : Nat) : Int) = 1 from rfl] at e1
  have hle : a / 2 ^ b ≤ a := Nat.div_le_self a _
  have e2 := bandU_nat (a / 2 ^ b) 1 (by omega) (by omega)
  rw [show ((1 : Nat) : Int) = 1 from rfl, Nat.and_one_is_mod] at e2
  rw [e1, shrU_nat a b hb, e2, borU_nat _ _ (by omega) (by omega)]
  have := Nat.shiftLeft_add_eq_or_of_lt (b := a / 2 ^ b % 2) (i := 1) (by omega) r
  rw [Nat.shiftLeft_eq] at this
  rw [Nat.mod_eq_of_lt (by omega), ← this]
  omega
theorem or_bit (y m : Nat) : y * 2 ^ (m + 1) ||| 2 ^ m = y * 2 ^ (m + 1) + 2 ^ m := by
  have h := Nat.shiftLeft_add_eq_or_of_lt (b := 2 ^ m) (i := m + 1) (Nat.pow_lt_pow_right (by omega) (by omega)) y
  rw [Nat.shiftLeft_eq] at h
  exact h.symm
theorem bits_split (r a m : Nat) : r * 2 ^ (m + 1) + a % 2 ^ (m + 1) = (2 * r + a / 2 ^ m % 2) * 2 ^ m + a % 2 ^ m := by
  have h : a % 2 ^ (m + 1) = a / 2 ^ m % 2 * 2 ^ m + a % 2 ^ m := by
    rw [Nat.pow_succ, Nat.mod_mul]
    rw [Nat.mul_comm (2 ^ m)]
    omega
  rw [h, Nat.add_mul, Nat.pow_succ, Nat.mul_comm (2 ^ m) 2, ← Nat.mul_assoc, Nat.mul_comm r 2]
  omega
def digitR (m n r a : Nat) : Nat := (r * 2 ^ m + a % 2 ^ m) % n
def digitQ (m n r a : Nat) : Nat := (r * 2 ^ m + a % 2 ^ m) / n
theorem digit_less {m n r a : Nat} : digitR (m + 1) n r a = digitR m n (2 * r + a / 2 ^ m % 2) a ∧ digitQ (m + 1) n r a = digitQ m n (2 * r + a / 2 ^ m % 2) a := by
  unfold digitR digitQ
  rw [bits_split]
  exact ⟨rfl, rfl⟩
theorem digit_more {m n r a : Nat} (hn : 0 < n) (h : n ≤ 2 * r + a / 2 ^ m % 2) : digitR (m + 1) n r a = digitR m n (2 * r + a / 2 ^ m % 2 - n) a ∧ digitQ (m + 1) n r a = 2 ^ m + digitQ m n (2 * r + a / 2 ^ m % 2 - n) a := by
  unfold digitR digitQ
  rw [bits_split]
  have e : (2 * r + a / 2 ^ m % 2) * 2 ^ m + a % 2 ^ m = ((2 * r + a / 2 ^ m % 2 - n) * 2 ^ m + a % 2 ^ m) + n * 2 ^ m := by
    have : (2 * r + a / 2 ^ m % 2) * 2 ^ m = (2 * r + a / 2 ^ m % 2 - n) * 2 ^ m + n * 2 ^ m := by
      rw [← Nat.add_mul]
      congr 1
      omega
    omega
  rw [e, Nat.add_mul_mod_self_left, Nat.add_mul_div_left _ _ hn]
  exact ⟨rfl, by omega⟩
section
variable {P : Program} {G : Nat → Option (List D)} {gb : Nat} {EQ : Tab} {Γ : Nat → List AV → List Blk → (AV → List Blk → Ans) → Ans} {X : Nat → List AV → (AV → Ans) → Ans}
theorem shl_bit (m : Nat) (hm : m ≤ 31) : shlU 1 (m : Int) = ((2 ^ m : Nat) : Int) := by
  have h := shlU_nat 1 m (by omega)
  rw [show ((1 : Nat) : Int) = 1 from rfl, Nat.one_mul] at h
  have h2 : 2 ^ m ≤ 2 ^ 31 := Nat.pow_le_pow_right (by omega) hm
  rw [h, Nat.mod_eq_of_lt (by omega)]
theorem over_rounds (hΓ : GOK P G gb Γ X) (hEQ : ∀ t, t ∈ EQ.eq → EqOK P t) (hm : P.follows .mixedOrders = true) {c : Code} {e fuel NN : Nat} {keep : List Nat} (TT : Int → Int → TS) (T1 : Int → TS) (MM : Int → List Blk) (a n : Nat) (ha : a < 4294967296) (hn0 : 0 < n) (hn : n < 4611686018427387904)
    (hless : ∀ r b, Less (T1 r) (TT r b))
    (hb : ∀ r b o : Int, evCode P G EQ Γ X noL fuel c (TT r b) (MM o) NN (fun x T M N => some (.st x (forget keep T) M N)) =
      bif decide (0 ≤ b) then (bif decide (b < 0) then none else bif decide ((n : Int) ≤ bitIn r a b) then (bif decide (b < 0) then none else some (.st .normal (TT (wu64 (bitIn r a b - n)) (w64 (b - 1))) (MM (borU o (shlU 1 b))) NN)) else some (.st .normal (TT (bitIn r a b) (w64 (b - 1))) (MM o) NN))
      else some (.st (.exit e) (TT r b) (MM o) NN)) :
    ∀ (m r y : Nat), r < n → m ≤ 32 → y * 2 ^ m + 2 ^ m ≤ 4294967296 → ∃ k, RoundsOK P G gb c k (TT r ((m : Int) - 1)) (MM ((y * 2 ^ m : Nat) : Int)) NN (.exit e) (T1 (digitR m n r a)) (MM ((y * 2 ^ m + digitQ m n r a : Nat) : Int)) NN := by
  intro m
  induction m with
  | zero =>
    intro r y hr _ hy
    have h := hb r ((0 : Nat) - 1 : Int) ((y * 2 ^ 0 : Nat) : Int)
    rw [decide_eq_false (by omega), cond_false] at h
    have hq : digitQ 0 n r a = 0 := by
      unfold digitQ
      simp only [Nat.pow_zero, Nat.mod_one, Nat.mul_one, Nat.add_zero]
      exact Nat.div_eq_of_lt hr
    have hR : digitR 0 n r a = r := by
      unfold digitR
      simp only [Nat.pow_zero, Nat.mod_one, Nat.mul_one, Nat.add_zero]
      exact Nat.mod_eq_of_lt hr
    rw [hq, hR, Nat.add_zero]
    exact ⟨1, (RoundsOK.fin (Λ := noL) hΓ hEQ hm (noL_ok _) h).weak (hless _ _)⟩
  | succ m ih =>
    intro r y hr hm32 hy
    have hp : 2 ^ (m + 1) = 2 * 2 ^ m := by rw [Nat.pow_succ]; omega
    have h := hb r (((m + 1 : Nat) : Int) - 1) ((y * 2 ^ (m + 1) : Nat) : Int)
    rw [show (((m + 1 : Nat) : Int) - 1) = (m : Int) by omega] at h ⊢
    rw [decide_eq_true (by omega), cond_true, decide_eq_false (by omega), cond_false, cond_false, bitIn_nat r a m (by omega) (by omega) (by omega), w64_id (n := (m : Int) - 1) (by omega), shl_bit m (by omega)] at h
    have hbit : a / 2 ^ m % 2 < 2 := Nat.mod_lt _ (by omega)
    have hy' : y * 2 ^ (m + 1) = (2 * y) * 2 ^ m := by rw [hp, ← Nat.mul_assoc, Nat.mul_comm y 2]
    by_cases hge : n ≤ 2 * r + a / 2 ^ m % 2
    · obtain ⟨e1, e2⟩ := digit_more (a := a) (m := m) hn0 hge
      rw [decide_eq_true (by omega), cond_true] at h
      have hsub : wu64 (((2 * r + a / 2 ^ m % 2 : Nat) : Int) - n) = ((2 * r + a / 2 ^ m % 2 - n : Nat) : Int) := by rw [wu64_id (by omega)]; omega
      have hor : borU ((y * 2 ^ (m + 1) : Nat) : Int) ((2 ^ m : Nat) : Int) = (((2 * y + 1) * 2 ^ m : Nat) : Int) := by
        have h2 : 2 ^ m ≤ 2 ^ 31 := Nat.pow_le_pow_right (by omega) (by omega)
        rw [borU_nat _ _ (by omega) (by omega), or_bit, hy', Nat.add_mul]
        simp
      rw [hsub, hor] at h
      obtain ⟨k, hk⟩ := ih (2 * r + a / 2 ^ m % 2 - n) (2 * y + 1) (by omega) (by omega) (by rw [Nat.add_mul]; omega)
      rw [e1, e2, show y * 2 ^ (m + 1) + (2 ^ m + digitQ m n (2 * r + a / 2 ^ m % 2 - n) a) = (2 * y + 1) * 2 ^ m + digitQ m n (2 * r + a / 2 ^ m % 2 - n) a by rw [hy', Nat.add_mul]; omega]
      exact ⟨k + 1, RoundsOK.go (Λ := noL) hΓ hEQ hm (noL_ok _) h hk⟩
    · obtain ⟨e1, e2⟩ := digit_less (a := a) (m := m) (n := n) (r := r)
      rw [decide_eq_false (by omega), cond_false, hy'] at h
      obtain ⟨k, hk⟩ := ih (2 * r + a / 2 ^ m % 2) (2 * y) (by omega) (by omega) (by omega)
      rw [e1, e2, hy']
      exact ⟨k + 1, RoundsOK.go (Λ := noL) hΓ hEQ hm (noL_ok _) h hk⟩
end
def dR (n r a : Int) : Int := (r * 4294967296 + a) % n
def dQ (n r a : Int) : Int := (r * 4294967296 + a) / n
def digOn (n r a : Int) : Bool := decide (0 < n) && (decide (n < 4611686018427387904) && (decide (0 ≤ r) && (decide (r < n) && (decide (0 ≤ a) && decide (a < 4294967296)))))
theorem dR_nat (n r a : Nat) (ha : a < 4294967296) : ((digitR 32 n r a : Nat) : Int) = dR n r a := by
  unfold digitR dR
  rw [Nat.mod_eq_of_lt (a := a) ha]
  simp
theorem dQ_nat (n r a : Nat) (ha : a < 4294967296) : ((digitQ 32 n r a : Nat) : Int) = dQ n r a := by
  unfold digitQ dQ
  rw [Nat.mod_eq_of_lt (a := a) ha]
  simp
def rBigU (r : Big × Int) : AV := .tup [.agg r.1.cells, .c (.d (.int .u64 r.2))]
def overAns (K : AV → List Blk → Ans) (a b c d n : Int) : Ans :=
  bif digOn n 0 d then bif digOn n (dR n 0 d) c then bif digOn n (dR n (dR n 0 d) c) b then bif digOn n (dR n (dR n (dR n 0 d) c) b) a then
    K (rBigU (⟨dQ n (dR n (dR n (dR n 0 d) c) b) a, dQ n (dR n (dR n 0 d) c) b, dQ n (dR n 0 d) c, dQ n 0 d⟩, dR n (dR n (dR n (dR n 0 d) c) b) a)) []
  else none else none else none else none
def valOf (x : Big) : Int := x.a + 4294967296 * (x.b + 4294967296 * (x.c + 4294967296 * x.d))
def bigOk (x : Big) : Bool := decide (0 ≤ x.a) && (decide (x.a < 4294967296) && (decide (0 ≤ x.b) && (decide (x.b < 4294967296) && (decide (0 ≤ x.c) && (decide (x.c < 4294967296) && (decide (0 ≤ x.d) && decide (x.d < 4294967296)))))))
def overI (v n : Int) : Big × Int := (bigOf (v / n), v % n)
def overOn (x : Big) (n : Int) : Bool := bigOk x && (decide (0 < n) && decide (n < 4611686018427387904))
theorem valOf_bigOf (m : Int) : valOf (bigOf m) = m := by
  unfold valOf bigOf
  simp only
  omega
theorem bigOk_bigOf {m : Int} (h : 0 ≤ m ∧ m < 340282366920938463463374607431768211456) : bigOk (bigOf m) = true := by
  unfold bigOk bigOf
  simp only [Bool.and_eq_true, decide_eq_true_eq]
  omega
theorem long_step {n H a : Int} (hn : 0 < n) : (H * 4294967296 + a) / n = H / n * 4294967296 + dQ n (H % n) a ∧ (H * 4294967296 + a) % n = dR n (H % n) a := by
  have e : H * 4294967296 + a = (H % n * 4294967296 + a) + n * (H / n * 4294967296) := by
    have := Int.emod_add_mul_ediv H n
    rw [← Int.mul_assoc]
    omega
  unfold dQ dR
  rw [e]
  exact ⟨by rw [Int.add_mul_ediv_left _ _ (by omega)]; omega, by rw [Int.add_mul_emod_self_left]⟩
theorem dQ_range {n r a : Int} (hn : 0 < n) (hr : 0 ≤ r ∧ r < n) (ha : 0 ≤ a ∧ a < 4294967296) : 0 ≤ dQ n r a ∧ dQ n r a < 4294967296 := by
  unfold dQ
  refine ⟨Int.ediv_nonneg (by omega) (by omega), Int.ediv_lt_of_lt_mul hn ?_⟩
  have : (r + 1) * 4294967296 ≤ n * 4294967296 := Int.mul_le_mul_of_nonneg_right (by omega) (by omega)
  rw [Int.mul_comm 4294967296 n]
  omega
theorem overAns_ok {K : AV → List Blk → Ans} {a b c d n : Int} (h : overOn ⟨a, b, c, d⟩ n = true) : overAns K a b c d n = K (rBigU (overI (valOf ⟨a, b, c, d⟩) n)) [] := by
  simp only [overOn, bigOk, Bool.and_eq_true, decide_eq_true_eq] at h
  obtain ⟨⟨ha0, ha1, hb0, hb1, hc0, hc1, hd0, hd1⟩, hn0, hn1⟩ := h
  have on : ∀ r x : Int, 0 ≤ r → r < n → 0 ≤ x → x < 4294967296 → digOn n r x = true := fun r x h1 h2 h3 h4 => by simp [digOn, hn0, hn1, h1, h2, h3, h4]
  have rr : ∀ r x : Int, 0 ≤ dR n r x ∧ dR n r x < n := fun r x => ⟨Int.emod_nonneg _ (by omega), Int.emod_lt_of_pos _ hn0⟩
  unfold overAns
  rw [on 0 d (by omega) hn0 hd0 hd1, on _ c (rr _ _).1 (rr _ _).2 hc0 hc1, on _ b (rr _ _).1 (rr _ _).2 hb0 hb1, on _ a (rr _ _).1 (rr _ _).2 ha0 ha1]
  simp only [cond_true]
  have s3 := long_step (n := n) (H := 0) (a := d) hn0
  rw [Int.zero_ediv, Int.zero_emod, Int.zero_mul, Int.zero_add, Int.zero_add] at s3
  have s2 := long_step (n := n) (H := d) (a := c) hn0
  have s1 := long_step (n := n) (H := d * 4294967296 + c) (a := b) hn0
  have s0 := long_step (n := n) (H := (d * 4294967296 + c) * 4294967296 + b) (a := a) hn0
  rw [s3.1, s3.2] at s2
  rw [s2.1, s2.2] at s1
  rw [s1.1, s1.2] at s0
  have q3 := dQ_range (a := d) hn0 (r := 0) ⟨by omega, hn0⟩ ⟨hd0, hd1⟩
  have q2 := dQ_range hn0 (rr 0 d) ⟨hc0, hc1⟩
  have q1 := dQ_range hn0 (rr (dR n 0 d) c) ⟨hb0, hb1⟩
  have q0 := dQ_range hn0 (rr (dR n (dR n 0 d) c) b) ⟨ha0, ha1⟩
  have ev : valOf ⟨a, b, c, d⟩ = ((d * 4294967296 + c) * 4294967296 + b) * 4294967296 + a := by
    unfold valOf
    simp only
    omega
  rw [ev]
  unfold overI
  rw [s0.1, s0.2]
  generalize dQ n 0 d = A at *
  generalize dQ n (dR n 0 d) c = B at *
  generalize dQ n (dR n (dR n 0 d) c) b = C at *
  generalize dQ n (dR n (dR n (dR n 0 d) c) b) a = E at *
  congr 3
  unfold bigOf
  congr 1 <;> omega
end Go.Ev

namespace Go.Ev
open Go
def nextI (t s j : Int) : Int := t * s / 18446744073709551616 / (j * (j + 1))
def sinI : Nat → Int → Int → Int → Int → Int
  | 0, sum, _, _, _ => sum
  | f + 1, sum, t, sq, j => bif t == 0 then sum else sinI f (wu64 (wu64 (sum - nextI t sq j) + nextI (nextI t sq j) sq (j + 2))) (nextI (nextI t sq j) sq (j + 2)) sq (j + 4)
def sqI (x : Int) : Int := x * x / 18446744073709551616
def sineI (x : Int) : Int := sinI 16 x x (sqI x) 2
def cosiI (x : Int) : Int := wu64 (0 - sinI 16 (sqI x / 2) (sqI x / 2) (sqI x) 3)
def angI (w n : Int) : Int := 28976077832308491369 * w / n
def loI (w n : Int) : Int := (bif decide (2 * w ≤ n) then sineI (angI w n) else cosiI (angI (n - w) n)) * 1000000 / 18446744073709551616
def riseI (w n : Int) : Span := bif w == 0 then ⟨0, 0⟩ else bif w == n then ⟨1000000, 1000000⟩ else bif 3 * w == n then ⟨500000, 500000⟩ else ⟨loI w n, loI w n + 1⟩
theorem nextI_le {t s j : Int} (ht : 0 ≤ t) (hs : 0 ≤ s ∧ s < 18446744073709551616) (hj : 1 ≤ j) : 0 ≤ nextI t s j ∧ nextI t s j * (j * (j + 1)) ≤ t := by
  have hjj : 0 < j * (j + 1) := Int.mul_pos (by omega) (by omega)
  have h1 : 0 ≤ t * s := Int.mul_nonneg ht hs.1
  have h2 : t * s ≤ t * 18446744073709551616 := Int.mul_le_mul_of_nonneg_left (by omega) ht
  have h3 : 0 ≤ t * s / 18446744073709551616 := by omega
  have h4 : t * s / 18446744073709551616 ≤ t := by omega
  unfold nextI
  refine ⟨Int.ediv_nonneg h3 (by omega), ?_⟩
  exact Int.le_trans (Int.ediv_mul_le _ (by omega)) h4
theorem nextI_bound {t s j c : Int} (ht : 0 ≤ t) (hs : 0 ≤ s ∧ s < 18446744073709551616) (hj : 1 ≤ j) (hc : c ≤ j * (j + 1)) : nextI t s j * c ≤ t := by
  obtain ⟨h1, h2⟩ := nextI_le ht hs hj
  exact Int.le_trans (Int.mul_le_mul_of_nonneg_left hc h1) h2
theorem jj_le {j c : Int} (hc : 0 ≤ c) (h : c ≤ j) : c * (c + 1) ≤ j * (j + 1) := Int.mul_le_mul h (by omega) (by omega) (by omega)
theorem sinI_range : ∀ (f : Nat) {s t sq j : Int}, 0 ≤ s ∧ s ≤ 18446744073709551615 → 0 ≤ sinI f s t sq j ∧ sinI f s t sq j ≤ 18446744073709551615
  | 0, s, t, sq, j, h => h
  | f + 1, s, t, sq, j, h => by
    rw [sinI]
    cases t == 0 with
    | true => exact h
    | false => exact sinI_range f (by rw [wu64_eq]; omega)
section
variable {P : Program} {G : Nat → Option (List D)} {gb : Nat} {EQ : Tab} {Γ : Nat → List AV → List Blk → (AV → List Blk → Ans) → Ans} {X : Nat → List AV → (AV → Ans) → Ans}
def nextOn (j : Int) : Bool := decide (1 ≤ j) && decide (j ≤ 1000)
theorem series_rounds (hΓ : GOK P G gb Γ X) (hEQ : ∀ t, t ∈ EQ.eq → EqOK P t) (hm : P.follows .mixedOrders = true) {c : Code} {e fuel NN : Nat} {M : List Blk} {keep : List Nat} (TT : Int → Int → Int → TS) (T1 : Int → TS) (sq : Int) (hsq : 0 ≤ sq ∧ sq < 18446744073709551616)
    (hless : ∀ s t j, Less (T1 s) (TT s t j))
    (hb : ∀ s t j : Int, evCode P G EQ Γ X noL fuel c (TT s t j) M NN (fun x T M N => some (.st x (forget keep T) M N)) =
      bif t != 0 then (bif nextOn j then bif nextOn (wu64 (j + 2)) then some (.st .normal (TT (wu64 (wu64 (s - nextI t sq j) + nextI (nextI t sq j) sq (wu64 (j + 2)))) (nextI (nextI t sq j) sq (wu64 (j + 2))) (wu64 (j + 4))) M NN) else none else none)
      else some (.st (.exit e) (TT s t j) M NN)) :
    ∀ (f : Nat) (s t j : Int), 0 ≤ t → t < 16 ^ f → 1 ≤ j → j + 4 * f ≤ 900 → ∃ k, RoundsOK P G gb c k (TT s t j) M NN (.exit e) (T1 (sinI f s t sq j)) M NN := by
  have stop : ∀ (f : Nat) (s j : Int), ∃ k, RoundsOK P G gb c k (TT s 0 j) M NN (.exit e) (T1 (sinI f s 0 sq j)) M NN := by
    intro f s j
    have e1 : sinI f s 0 sq j = s := by cases f <;> rfl
    rw [e1]
    exact ⟨1, (RoundsOK.fin (Λ := noL) hΓ hEQ hm (noL_ok _) (hb s 0 j)).weak (hless _ _ _)⟩
  intro f
  induction f with
  | zero =>
    intro s t j h0 h1 _ _
    have : t = 0 := by simp at h1; omega
    subst this
    exact stop 0 s j
  | succ f ih =>
    intro s t j h0 h1 hj hj2
    by_cases ht : t = 0
    · subst ht
      exact stop _ s j
    · have h := hb s t j
      have e1 : (t != 0) = true := by simpa using ht
      have e2 : nextOn j = true := by simp only [nextOn, Bool.and_eq_true, decide_eq_true_eq]; omega
      have e3 : nextOn (j + 2) = true := by simp only [nextOn, Bool.and_eq_true, decide_eq_true_eq]; omega
      rw [e1, wu64_id (n := j + 2) (by omega), wu64_id (n := j + 4) (by omega), e2, e3] at h
      simp only [cond_true] at h
      have a1 := nextI_le h0 hsq hj
      have a2 := nextI_bound (c := 2) h0 hsq hj (by have := jj_le (c := 1) (by omega) hj; omega)
      have b1 := nextI_le a1.1 hsq (j := j + 2) (by omega)
      have b2 := nextI_bound (c := 12) a1.1 hsq (j := j + 2) (by omega) (by have := jj_le (c := 3) (j := j + 2) (by omega) (by omega); omega)
      have hlt : nextI (nextI t sq j) sq (j + 2) < 16 ^ f := by
        rw [Int.pow_succ] at h1
        omega
      obtain ⟨k, hk⟩ := ih (wu64 (wu64 (s - nextI t sq j) + nextI (nextI t sq j) sq (j + 2))) (nextI (nextI t sq j) sq (j + 2)) (j + 4) b1.1 hlt (by omega) (by omega)
      have e4 : sinI (f + 1) s t sq j = sinI f (wu64 (wu64 (s - nextI t sq j) + nextI (nextI t sq j) sq (j + 2))) (nextI (nextI t sq j) sq (j + 2)) sq (j + 4) := by
        have : (t == 0) = false := by simpa using ht
        rw [sinI, this]
        rfl
      rw [e4]
      exact ⟨k + 1, RoundsOK.go (Λ := noL) hΓ hEQ hm (noL_ok _) h hk⟩
end
theorem next_ok {t s j : Int} (ht : 0 ≤ t ∧ t ≤ 18446744073709551615) (hs : 0 ≤ s ∧ s ≤ 18446744073709551615) (hj : nextOn j = true) : (wu64 (j * wu64 (j + 1)) == 0) = false ∧ wu64 ((mul64 t s).1.tdiv (wu64 (j * wu64 (j + 1)))) = nextI t s j := by
  simp only [nextOn, Bool.and_eq_true, decide_eq_true_eq] at hj
  have hjj : 0 < j * (j + 1) := Int.mul_pos (by omega) (by omega)
  have hjj2 : j * (j + 1) ≤ 1000 * 1001 := Int.mul_le_mul (by omega) (by omega) (by omega) (by omega)
  rw [wu64_id (n := j + 1) (by omega), wu64_id (n := j * (j + 1)) (by omega)]
  refine ⟨by simp; omega, ?_⟩
  have h1 := nextI_le ht.1 (s := s) (by omega) hj.1
  have h2 : 0 ≤ t * s / 18446744073709551616 := Int.ediv_nonneg (Int.mul_nonneg ht.1 hs.1) (by omega)
  have h3 := nextI_bound (c := 1) ht.1 (s := s) (by omega) hj.1 (by omega)
  unfold mul64
  simp only
  rw [Int.tdiv_eq_ediv_of_nonneg h2]
  exact wu64_id (by unfold nextI at h1 h3; omega)
def serDom (j : Int) (l : List Int) : Bool := match l with | [_, x, s, k] => decide (0 ≤ x) && (decide (x < 18446744073709551616) && (decide (0 ≤ s) && (decide (s < 18446744073709551616) && k == j))) | _ => false
def serFin (l : List Int) : List Int := match l with | [s, t, sq, j] => [sinI 16 s t sq j] | _ => []
theorem sqI_range {x : Int} (h : 0 ≤ x ∧ x ≤ 18446744073709551615) : 0 ≤ sqI x ∧ sqI x ≤ 18446744073709551615 := by
  have h1 : 0 ≤ x * x := Int.mul_nonneg h.1 h.1
  have h2 : x * x ≤ x * 18446744073709551616 := Int.mul_le_mul_of_nonneg_left (by omega) h.1
  unfold sqI
  omega
def angOn (w n : Int) : Bool := decide (0 ≤ w) && (decide (2 * w ≤ n) && (decide (1 ≤ n) && decide (n ≤ 720)))
theorem ang_ok {w n : Int} (h : angOn w n = true) : decide (wu64 ((mul64 10529333758598939753 (wu64 w)).1 + wu64 w) < wu64 n) = true ∧
    (wu64 ((mul64 10529333758598939753 (wu64 w)).1 + wu64 w) * 18446744073709551616 + (mul64 10529333758598939753 (wu64 w)).2) / wu64 n = angI w n := by
  simp only [angOn, Bool.and_eq_true, decide_eq_true_eq] at h
  obtain ⟨h1, h2, h3, h4⟩ := h
  rw [wu64_id (n := w) (by omega), wu64_id (n := n) (by omega)]
  unfold mul64
  simp only
  rw [wu64_id (by omega)]
  refine ⟨decide_eq_true (by omega), ?_⟩
  unfold angI
  congr 1
  omega
theorem angI_range {w n : Int} (h : angOn w n = true) : 0 ≤ angI w n ∧ angI w n ≤ 18446744073709551615 := by
  simp only [angOn, Bool.and_eq_true, decide_eq_true_eq] at h
  obtain ⟨h1, h2, h3, h4⟩ := h
  unfold angI
  refine ⟨Int.ediv_nonneg (by omega) (by omega), ?_⟩
  have : 28976077832308491369 * w / n < 18446744073709551616 := Int.ediv_lt_of_lt_mul (by omega) (by omega)
  omega
theorem sineI_range {x : Int} (h : 0 ≤ x ∧ x ≤ 18446744073709551615) : 0 ≤ sineI x ∧ sineI x ≤ 18446744073709551615 := sinI_range 16 h
theorem cosiI_range (x : Int) : 0 ≤ cosiI x ∧ cosiI x ≤ 18446744073709551615 := by unfold cosiI; rw [wu64_eq]; omega
def riseOn (w n : Int) : Bool := decide (0 ≤ w) && (decide (w ≤ n) && (decide (1 ≤ n) && decide (n ≤ 720)))
def riseTail (K : AV → List Blk → Ans) (v : Int) : Ans := K (rSpan ⟨w64 (mul64 v 1000000).1, w64 (w64 (mul64 v 1000000).1 + 1)⟩) []
def riseAns (K : AV → List Blk → Ans) (w n : Int) : Ans :=
  bif w == 0 then K (rSpan ⟨0, 0⟩) [] else bif w == n then K (rSpan ⟨1000000, 1000000⟩) [] else bif w64 (3 * w) == n then K (rSpan ⟨500000, 500000⟩) [] else
  bif decide (w64 (2 * w) ≤ n) then (bif angOn w n then riseTail K (sineI (angI w n)) else none) else (bif angOn (w64 (n - w)) n then riseTail K (cosiI (angI (w64 (n - w)) n)) else none)
theorem riseAns_ok {K : AV → List Blk → Ans} {w n : Int} (h : riseOn w n = true) : riseAns K w n = K (rSpan (riseI w n)) [] := by
  simp only [riseOn, Bool.and_eq_true, decide_eq_true_eq] at h
  obtain ⟨h1, h2, h3, h4⟩ := h
  unfold riseAns riseI loI
  rw [w64_id (n := 3 * w) (by omega), w64_id (n := 2 * w) (by omega), w64_id (n := n - w) (by omega)]
  cases w == 0 with
  | true => rfl
  | false =>
    cases w == n with
    | true => rfl
    | false =>
      cases 3 * w == n with
      | true => rfl
      | false =>
        simp only [cond_false]
        have tail : ∀ v : Int, 0 ≤ v ∧ v ≤ 18446744073709551615 → riseTail K v = K (rSpan ⟨v * 1000000 / 18446744073709551616, v * 1000000 / 18446744073709551616 + 1⟩) [] := by
          intro v hv
          unfold riseTail mul64
          simp only
          rw [w64_id (n := v * 1000000 / 18446744073709551616) (by omega), w64_id (by omega)]
        by_cases hc : 2 * w ≤ n
        · have ho : angOn w n = true := by simp [angOn, h1, hc, h3, h4]
          rw [decide_eq_true hc, ho]
          simp only [cond_true]
          exact tail _ (sineI_range (angI_range ho))
        · have ho : angOn (n - w) n = true := by simp only [angOn, Bool.and_eq_true, decide_eq_true_eq]; omega
          rw [decide_eq_false hc, ho]
          simp only [cond_true, cond_false]
          exact tail _ (cosiI_range _)
def turnS (u n : Int) : Span :=
  bif u % (4 * n) / n == 0 then riseI (u % (4 * n) % n) n else bif u % (4 * n) / n == 1 then riseI (n - u % (4 * n) % n) n else bif u % (4 * n) / n == 2 then negS (riseI (u % (4 * n) % n) n) else negS (riseI (n - u % (4 * n) % n) n)
def turnOn (u n : Int) : Bool := decide (1 ≤ n) && (decide (n ≤ 720) && (decide (-1000000000 ≤ u) && decide (u ≤ 1000000000)))
def turnTail (K : AV → List Blk → Ans) (u n : Int) : Ans := bif n == 0 then none else bif n == 0 then none else
  bif w64 (u.tdiv n) == 0 then (bif riseOn (u.tmod n) n then K (rSpan (riseI (u.tmod n) n)) [] else none) else
  bif w64 (u.tdiv n) == 1 then (bif riseOn (w64 (n - u.tmod n)) n then K (rSpan (riseI (w64 (n - u.tmod n)) n)) [] else none) else
  bif w64 (u.tdiv n) == 2 then (bif riseOn (u.tmod n) n then K (rSpan (negRaw (riseI (u.tmod n) n))) [] else none) else
  (bif riseOn (w64 (n - u.tmod n)) n then K (rSpan (negRaw (riseI (w64 (n - u.tmod n)) n))) [] else none)
def turnAns (K : AV → List Blk → Ans) (u n : Int) : Ans := bif w64 (4 * n) == 0 then none else bif w64 (4 * n) == 0 then none else turnTail K ((w64 (u.tmod (w64 (4 * n)) + w64 (4 * n))).tmod (w64 (4 * n))) n
theorem loI_range {w n : Int} (h : riseOn w n = true) : 0 ≤ loI w n ∧ loI w n < 1000000 := by
  simp only [riseOn, Bool.and_eq_true, decide_eq_true_eq] at h
  obtain ⟨h1, h2, h3, h4⟩ := h
  unfold loI
  by_cases hc : 2 * w ≤ n
  · have ho : angOn w n = true := by simp [angOn, h1, hc, h3, h4]
    rw [decide_eq_true hc, cond_true]
    have := sineI_range (angI_range ho)
    omega
  · rw [decide_eq_false hc, cond_false]
    have := cosiI_range (angI (n - w) n)
    omega
theorem riseI_range {w n : Int} (h : riseOn w n = true) : 0 ≤ (riseI w n).lo ∧ (riseI w n).lo ≤ (riseI w n).hi ∧ (riseI w n).hi ≤ 1000000 ∧ (riseI w n).hi ≤ (riseI w n).lo + 1 := by
  have := loI_range h
  unfold riseI
  cases w == 0 <;> cases w == n <;> cases 3 * w == n <;> simp <;> omega
theorem negRaw_rise {w n : Int} (h : riseOn w n = true) : negRaw (riseI w n) = negS (riseI w n) := by
  have := riseI_range h
  unfold negRaw negS
  rw [w64_id (n := 0 - (riseI w n).hi) (by omega), w64_id (n := 0 - (riseI w n).lo) (by omega)]
  congr 1 <;> omega
theorem turnTail_ok {K : AV → List Blk → Ans} {u n : Int} (hn : 1 ≤ n ∧ n ≤ 720) (hu : 0 ≤ u ∧ u < 4 * n) : turnTail K u n = K (rSpan (turnS u n)) [] := by
  have e0 : (n == 0) = false := by simp; omega
  have hm : 0 ≤ u % n ∧ u % n < n := ⟨Int.emod_nonneg _ (by omega), Int.emod_lt_of_pos _ (by omega)⟩
  have hd : 0 ≤ u / n ∧ u / n ≤ 3 := by
    refine ⟨Int.ediv_nonneg hu.1 (by omega), ?_⟩
    have : u / n < 4 := Int.ediv_lt_of_lt_mul (by omega) (by omega)
    omega
  have o1 : riseOn (u % n) n = true := by simp only [riseOn, Bool.and_eq_true, decide_eq_true_eq]; omega
  have o2 : riseOn (n - u % n) n = true := by simp only [riseOn, Bool.and_eq_true, decide_eq_true_eq]; omega
  unfold turnTail turnS
  rw [e0, Int.tdiv_eq_ediv_of_nonneg hu.1, Int.tmod_eq_emod_of_nonneg hu.1, Int.emod_eq_of_lt hu.1 hu.2, w64_id (n := u / n) (by omega), w64_id (n := n - u % n) (by omega), o1, o2, negRaw_rise o1, negRaw_rise o2]
  simp only [cond_false, cond_true]
  cases u / n == 0 with
  | true => rfl
  | false =>
    cases u / n == 1 with
    | true => rfl
    | false => cases u / n == 2 <;> rfl
theorem turnS_mod (u n : Int) : turnS (u % (4 * n)) n = turnS u n := by
  unfold turnS
  rw [Int.emod_emod]
theorem turnAns_ok {K : AV → List Blk → Ans} {u n : Int} (h : turnOn u n = true) : turnAns K u n = K (rSpan (turnS u n)) [] := by
  simp only [turnOn, Bool.and_eq_true, decide_eq_true_eq] at h
  obtain ⟨h1, h2, h3, h4⟩ := h
  unfold turnAns
  rw [w64_id (n := 4 * n) (by omega), show (4 * n == 0) = false by simp; omega]
  simp only [cond_false]
  have e1 : -(4 * n) < u.tmod (4 * n) := by
    by_cases hu : 0 ≤ u
    · have := Int.tmod_nonneg (4 * n) hu
      omega
    · have := Int.tmod_lt_of_pos (-u) (b := 4 * n) (by omega)
      rw [Int.neg_tmod] at this
      omega
  have e2 := Int.tmod_lt_of_pos u (b := 4 * n) (by omega)
  rw [w64_id (by omega), Int.tmod_eq_emod_of_nonneg (by omega), Int.add_emod_right]
  have e3 : u.tmod (4 * n) % (4 * n) = u % (4 * n) := by
    conv => rhs; rw [← Int.tmod_add_mul_tdiv u (4 * n)]
    rw [Int.add_mul_emod_self_left]
  rw [e3, turnTail_ok ⟨h1, h2⟩ ⟨Int.emod_nonneg _ (by omega), Int.emod_lt_of_pos _ (by omega)⟩, turnS_mod]
def cosS (k n : Int) : Span × Int := bif decide (n < 1) then (spanZ, 2) else bif decide (720 < n) then (spanZ, 2) else (turnS (4 * k + n) n, 0)
def sinS (k n : Int) : Span × Int := bif decide (n < 1) then (spanZ, 2) else bif decide (720 < n) then (spanZ, 2) else (turnS (4 * k) n, 0)
theorem turnS_congr {u v n : Int} (h : u % (4 * n) = v % (4 * n)) : turnS u n = turnS v n := by
  rw [← turnS_mod u, h, turnS_mod]
theorem tmod_four (k n c : Int) : (4 * k.tmod n + c) % (4 * n) = (4 * k + c) % (4 * n) := by
  have e : 4 * k + c = (4 * k.tmod n + c) + 4 * n * (k.tdiv n) := by
    have := Int.tmod_add_mul_tdiv k n
    rw [Int.mul_assoc]
    omega
  rw [e, Int.add_mul_emod_self_left]
theorem tmod_range {k n : Int} (hn : 0 < n) : -n < k.tmod n ∧ k.tmod n < n := by
  refine ⟨?_, Int.tmod_lt_of_pos k hn⟩
  by_cases hu : 0 ≤ k
  · have := Int.tmod_nonneg n hu
    omega
  · have := Int.tmod_lt_of_pos (-k) (b := n) (by omega)
    rw [Int.neg_tmod] at this
    omega
def cosAns (K : AV → List Blk → Ans) (k n : Int) : Ans := bif decide (n < 1) then K (rSpanE (spanZ, 2)) [] else bif decide (720 < n) then K (rSpanE (spanZ, 2)) [] else bif n == 0 then none else
  bif turnOn (w64 (w64 (4 * k.tmod n) + n)) n then K (rSpanE (turnS (w64 (w64 (4 * k.tmod n) + n)) n, 0)) [] else none
def sinAns (K : AV → List Blk → Ans) (k n : Int) : Ans := bif decide (n < 1) then K (rSpanE (spanZ, 2)) [] else bif decide (720 < n) then K (rSpanE (spanZ, 2)) [] else bif n == 0 then none else
  bif turnOn (w64 (4 * k.tmod n)) n then K (rSpanE (turnS (w64 (4 * k.tmod n)) n, 0)) [] else none
theorem cosAns_ok {K : AV → List Blk → Ans} {k n : Int} : cosAns K k n = K (rSpanE (cosS k n)) [] := by
  unfold cosAns cosS
  by_cases h1 : n < 1
  · rw [decide_eq_true h1]; rfl
  by_cases h2 : 720 < n
  · rw [decide_eq_false h1, decide_eq_true h2]; rfl
  rw [decide_eq_false h1, decide_eq_false h2, show (n == 0) = false by simp; omega]
  have hr := tmod_range (k := k) (n := n) (by omega)
  rw [w64_id (n := 4 * k.tmod n) (by omega), w64_id (by omega), show turnOn (4 * k.tmod n + n) n = true by simp only [turnOn, Bool.and_eq_true, decide_eq_true_eq]; omega, turnS_congr (tmod_four k n n)]
  rfl
theorem sinAns_ok {K : AV → List Blk → Ans} {k n : Int} : sinAns K k n = K (rSpanE (sinS k n)) [] := by
  unfold sinAns sinS
  by_cases h1 : n < 1
  · rw [decide_eq_true h1]; rfl
  by_cases h2 : 720 < n
  · rw [decide_eq_false h1, decide_eq_true h2]; rfl
  rw [decide_eq_false h1, decide_eq_false h2, show (n == 0) = false by simp; omega]
  have hr := tmod_range (k := k) (n := n) (by omega)
  have he := tmod_four k n 0
  rw [Int.add_zero, Int.add_zero] at he
  rw [w64_id (n := 4 * k.tmod n) (by omega), show turnOn (4 * k.tmod n) n = true by simp only [turnOn, Bool.and_eq_true, decide_eq_true_eq]; omega, turnS_congr he]
  rfl
end Go.Ev

namespace Go.Ev
open Go
def timesI (x y : Int) : Int := x * y / 100000000000000000 % 9223372036854775808
theorem u64_mul {x y : Int} (hx : 0 ≤ x ∧ x ≤ 18446744073709551615) (hy : 0 ≤ y ∧ y ≤ 18446744073709551615) : 0 ≤ x * y ∧ x * y < 340282366920938463463374607431768211456 := by
  have h1 : 0 ≤ x * y := Int.mul_nonneg hx.1 hy.1
  have h2 : x * y ≤ 18446744073709551615 * 18446744073709551615 := Int.mul_le_mul hx.2 hy.2 hy.1 (by omega)
  omega
theorem overOn_bigOf {v n : Int} (hv : 0 ≤ v ∧ v < 340282366920938463463374607431768211456) (hn : 0 < n ∧ n < 4611686018427387904) : overOn (bigOf v) n = true := by
  unfold overOn
  rw [bigOk_bigOf hv]
  simp [hn.1, hn.2]
def overSmall (v n : Int) : Int := wu64 (smallRaw (overI (valOf (bigOf v)) n).1).1
theorem overSmall_ok {v n : Int} (hv : 0 ≤ v) (hn : 0 < n) : overSmall v n = v / n % 9223372036854775808 := by
  unfold overSmall
  rw [valOf_bigOf]
  unfold overI
  simp only
  rw [smallRaw_ok (Int.ediv_nonneg hv (by omega))]
  unfold smallI
  simp only
  exact wu64_id (by omega)
theorem times_ok {K : AV → List Blk → Ans} {x y : Int} (hx : 0 ≤ x ∧ x ≤ 18446744073709551615) (hy : 0 ≤ y ∧ y ≤ 18446744073709551615) :
    (bif overOn (bigOf (x * y)) 100000000000000000 then K (rU (overSmall (x * y) 100000000000000000)) [] else none) = K (rU (timesI x y)) [] := by
  have h := u64_mul hx hy
  rw [overOn_bigOf h (by omega), overSmall_ok h.1 (by omega)]
  rfl
def serI : Nat → Int → Int → Int → Int → Bool → Int
  | 0, sum, _, _, _, _ => sum
  | f + 1, sum, t, sq, k, p => serI f (bif p then wu64 (sum - wu64 ((timesI t sq).tdiv (wu64 (k * wu64 (k + 1))))) else wu64 (sum + wu64 ((timesI t sq).tdiv (wu64 (k * wu64 (k + 1)))))) (wu64 ((timesI t sq).tdiv (wu64 (k * wu64 (k + 1))))) sq (wu64 (k + 2)) (!p)
section
variable {P : Program} {G : Nat → Option (List D)} {gb : Nat} {EQ : Tab} {Γ : Nat → List AV → List Blk → (AV → List Blk → Ans) → Ans} {X : Nat → List AV → (AV → Ans) → Ans}
def termI (t sq k : Int) : Int := wu64 ((timesI t sq).tdiv (wu64 (k * wu64 (k + 1))))
theorem ref_rounds (hΓ : GOK P G gb Γ X) (hEQ : ∀ t, t ∈ EQ.eq → EqOK P t) (hm : P.follows .mixedOrders = true) {c : Code} {e fuel NN : Nat} {M : List Blk} {keep : List Nat} (TT : Int → Int → Int → Int → TS) (T1 : Int → TS) (sq : Int)
    (hless : ∀ s t k i, Less (T1 s) (TT s t k i))
    (hb : ∀ s t k i : Int, evCode P G EQ Γ X noL fuel c (TT s t k i) M NN (fun x T M N => some (.st x (forget keep T) M N)) =
      bif decide (i < 12) then (bif wu64 (k * wu64 (k + 1)) == 0 then none else bif i.tmod 2 == 0 then some (.st .normal (TT (wu64 (s - termI t sq k)) (termI t sq k) (wu64 (k + 2)) (wu64 (i + 1))) M NN) else some (.st .normal (TT (wu64 (s + termI t sq k)) (termI t sq k) (wu64 (k + 2)) (wu64 (i + 1))) M NN))
      else some (.st (.exit e) (TT s t k i) M NN)) :
    ∀ (f : Nat) (s t k i : Int), i = 12 - f → f ≤ 12 → 1 ≤ k → k + 2 * f ≤ 100 → ∃ r, RoundsOK P G gb c r (TT s t k i) M NN (.exit e) (T1 (serI f s t sq k (i.tmod 2 == 0))) M NN := by
  intro f
  induction f with
  | zero =>
    intro s t k i hi _ _ _
    have h := hb s t k i
    rw [decide_eq_false (by omega), cond_false] at h
    exact ⟨1, (RoundsOK.fin (Λ := noL) hΓ hEQ hm (noL_ok _) h).weak (hless _ _ _ _)⟩
  | succ f ih =>
    intro s t k i hi hf hk hk2
    have h := hb s t k i
    have hkk : 0 < k * (k + 1) := Int.mul_pos (by omega) (by omega)
    have hkk2 : k * (k + 1) ≤ 100 * 101 := Int.mul_le_mul (by omega) (by omega) (by omega) (by omega)
    have e0 : (wu64 (k * wu64 (k + 1)) == 0) = false := by
      rw [wu64_id (n := k + 1) (by omega), wu64_id (by omega)]
      simp
      omega
    rw [decide_eq_true (by omega), cond_true, e0, cond_false, wu64_id (n := i + 1) (by omega)] at h
    have e1 : ((i + 1).tmod 2 == 0) = !(i.tmod 2 == 0) := by
      rw [Int.tmod_eq_emod_of_nonneg (by omega), Int.tmod_eq_emod_of_nonneg (by omega)]
      rcases Int.emod_two_eq i with e | e
      · rw [show (i + 1) % 2 = 1 by omega, e]; rfl
      · rw [show (i + 1) % 2 = 0 by omega, e]; rfl
    have e2 : wu64 (k + 2) = k + 2 := wu64_id (by omega)
    cases hp : i.tmod 2 == 0 with
    | true =>
      rw [hp, cond_true] at h
      obtain ⟨r, hr⟩ := ih (wu64 (s - termI t sq k)) (termI t sq k) (wu64 (k + 2)) (i + 1) (by omega) (by omega) (by omega) (by omega)
      rw [e1, hp] at hr
      exact ⟨r + 1, RoundsOK.go (Λ := noL) hΓ hEQ hm (noL_ok _) h hr⟩
    | false =>
      rw [hp, cond_false] at h
      obtain ⟨r, hr⟩ := ih (wu64 (s + termI t sq k)) (termI t sq k) (wu64 (k + 2)) (i + 1) (by omega) (by omega) (by omega) (by omega)
      rw [e1, hp] at hr
      exact ⟨r + 1, RoundsOK.go (Λ := noL) hΓ hEQ hm (noL_ok _) h hr⟩
end
def serOn (k : Int) : Bool := decide (1 ≤ k) && decide (k ≤ 50)
def seriesDom (l : List Int) : Bool := match l with | [_, _, _, k, i] => serOn k && i == 0 | _ => false
def seriesFin (l : List Int) : List Int := match l with | [s, t, sq, k, _] => [serI 12 s t sq k true] | _ => []
def cosSer (x : Int) : Int := serI 12 100000000000000000 100000000000000000 (timesI x x) 1 true
def sinSer (x : Int) : Int := serI 12 x x (timesI x x) 2 true
def partI (k n : Int) : Int := 628318530717958648 * k / n
def eighthAns (K : AV → List Blk → Ans) (k n : Int) : Ans :=
  bif overOn (bigOf (628318530717958648 * k)) n then K (rUU (cosSer (overSmall (628318530717958648 * k) n), sinSer (overSmall (628318530717958648 * k) n))) [] else none
def eighthOn (k n : Int) : Bool := decide (0 ≤ k) && (decide (8 * k ≤ n) && (decide (1 ≤ n) && decide (n ≤ 100000)))
theorem partI_range {k n : Int} (h : eighthOn k n = true) : 0 ≤ partI k n ∧ partI k n ≤ 78539816339744831 := by
  simp only [eighthOn, Bool.and_eq_true, decide_eq_true_eq] at h
  unfold partI
  refine ⟨Int.ediv_nonneg (by omega) (by omega), ?_⟩
  have : 628318530717958648 * k / n < 78539816339744832 := Int.ediv_lt_of_lt_mul (by omega) (by omega)
  omega
theorem eighthAns_ok {K : AV → List Blk → Ans} {k n : Int} (h : eighthOn k n = true) : eighthAns K k n = K (rUU (cosSer (partI k n), sinSer (partI k n))) [] := by
  have hr := partI_range h
  simp only [eighthOn, Bool.and_eq_true, decide_eq_true_eq] at h
  unfold eighthAns
  rw [overOn_bigOf (by omega) (by omega), overSmall_ok (by omega) (by omega)]
  have e : 628318530717958648 * k / n % 9223372036854775808 = partI k n := by
    unfold partI at hr ⊢
    omega
  rw [e]
  rfl
def exactI (k n : Int) (s : Bool) : Bool := bif k == 0 then true else bif s then w64 (12 * k) == n else false
def stepTail (K : AV → List Blk → Ans) (c : Int) (whole : Bool) : Ans :=
  bif whole then K (rSpan ⟨w64 (wu64 ((wu64 (c + 50000000000)).tdiv 100000000000)), w64 (wu64 ((wu64 (c + 50000000000)).tdiv 100000000000))⟩) []
  else K (rSpan ⟨w64 (wu64 (c.tdiv 100000000000)), w64 (w64 (wu64 (c.tdiv 100000000000)) + 1)⟩) []
def quarterAns (K : AV → List Blk → Ans) (k n : Int) : Ans :=
  bif decide (w64 (8 * k) ≤ n) then (bif eighthOn (wu64 k) (wu64 n) then stepTail K (cosSer (partI (wu64 k) (wu64 n))) (exactI k n false) else none)
  else (bif eighthOn (wu64 (w64 (n - w64 (4 * k)))) (wu64 (w64 (4 * n))) then stepTail K (sinSer (partI (wu64 (w64 (n - w64 (4 * k)))) (wu64 (w64 (4 * n))))) (exactI (w64 (n - w64 (4 * k))) (w64 (4 * n)) true) else none)
def quarterOn (k n : Int) : Bool := decide (0 ≤ k) && (decide (4 * k ≤ n) && (decide (1 ≤ n) && decide (n ≤ 6000)))
def stepS (c : Int) (whole : Bool) : Span := bif whole then ⟨(c + 50000000000) / 100000000000, (c + 50000000000) / 100000000000⟩ else ⟨c / 100000000000, c / 100000000000 + 1⟩
def refLo (w n : Int) : Int := bif decide (2 * (n - w) ≤ n) then cosSer (partI (n - w) (4 * n)) else sinSer (partI w (4 * n))
def refI (w n : Int) : Span := stepS (refLo w n) (bif decide (2 * (n - w) ≤ n) then n == w else (w == 0 || 3 * w == n))
theorem partI_scale {k n c : Int} (hc : 0 < c) : partI (c * k) (c * n) = partI k n := by
  unfold partI
  rw [← Int.mul_assoc, Int.mul_comm 628318530717958648 c, Int.mul_assoc, Int.mul_ediv_mul_of_pos _ _ hc]
theorem beq_congr {a b c d : Int} (h : a = b ↔ c = d) : (a == b) = (c == d) := by
  rw [Bool.eq_iff_iff]
  simpa using h
theorem stepTail_ok {K : AV → List Blk → Ans} {c : Int} {e : Bool} (h : 0 ≤ c ∧ c ≤ 18446744073709551615 - 50000000000) : stepTail K c e = K (rSpan (stepS c e)) [] := by
  unfold stepTail stepS
  rw [wu64_id (n := c + 50000000000) (by omega), Int.tdiv_eq_ediv_of_nonneg (by omega), Int.tdiv_eq_ediv_of_nonneg (by omega), wu64_id (n := (c + 50000000000) / 100000000000) (by omega), wu64_id (n := c / 100000000000) (by omega), w64_id (n := (c + 50000000000) / 100000000000) (by omega), w64_id (n := c / 100000000000) (by omega), w64_id (by omega)]
  cases e <;> rfl
theorem serI_le : ∀ (f : Nat) {s t sq k : Int} {p : Bool}, 0 ≤ t → t ≤ 100000000000000000 → 0 ≤ sq ∧ sq ≤ 100000000000000000 → 1 ≤ k → k + 2 * f ≤ 100 → (if p then t ≤ s else 0 ≤ s) → s + (if p then 0 else t) ≤ 200000000000000000 → 0 ≤ serI f s t sq k p ∧ serI f s t sq k p ≤ s + (if p then 0 else t)
  | 0, s, t, sq, k, p, h0, _, _, _, _, h, _ => by
    rw [serI]
    cases p <;> simp at h ⊢ <;> omega
  | f + 1, s, t, sq, k, p, h0, h1, hq, hk, hk2, h, hs => by
    have hm : 0 ≤ t * sq := Int.mul_nonneg h0 hq.1
    have hm2 : t * sq ≤ t * 100000000000000000 := Int.mul_le_mul_of_nonneg_left hq.2 h0
    have hkk : 1 * 2 ≤ k * (k + 1) := Int.mul_le_mul (by omega) (by omega) (by omega) (by omega)
    have hkk2 : k * (k + 1) ≤ 100 * 101 := Int.mul_le_mul (by omega) (by omega) (by omega) (by omega)
    have et : timesI t sq = t * sq / 100000000000000000 := by unfold timesI; omega
    rw [serI, wu64_id (n := k + 1) (by omega), wu64_id (n := k * (k + 1)) (by omega), wu64_id (n := k + 2) (by omega), et, Int.tdiv_eq_ediv_of_nonneg (by omega)]
    have hd0 : 0 ≤ t * sq / 100000000000000000 / (k * (k + 1)) := Int.ediv_nonneg (by omega) (by omega)
    have hd1 : t * sq / 100000000000000000 / (k * (k + 1)) ≤ t := Int.le_trans (Int.ediv_le_self _ (by omega)) (by omega)
    rw [wu64_id (n := t * sq / 100000000000000000 / (k * (k + 1))) (by omega)]
    generalize t * sq / 100000000000000000 / (k * (k + 1)) = u at *
    cases p with
    | true =>
      simp only [if_true] at h hs
      simp only [cond_true, Bool.not_true]
      rw [wu64_id (n := s - u) (by omega)]
      have := serI_le f (s := s - u) (t := u) (sq := sq) (k := k + 2) (p := false) hd0 (by omega) hq (by omega) (by omega) (by simp; omega) (by simp; omega)
      simp at this ⊢
      omega
    | false =>
      simp at h hs
      simp only [cond_false, Bool.not_false]
      rw [wu64_id (n := s + u) (by omega)]
      have := serI_le f (s := s + u) (t := u) (sq := sq) (k := k + 2) (p := true) hd0 (by omega) hq (by omega) (by omega) (by simp; omega) (by simp; omega)
      simp at this ⊢
      omega
theorem cosSer_range {x : Int} (h : 0 ≤ x ∧ x ≤ 100000000000000000) : 0 ≤ cosSer x ∧ cosSer x ≤ 100000000000000000 := by
  have hm : 0 ≤ x * x := Int.mul_nonneg h.1 h.1
  have hm2 : x * x ≤ x * 100000000000000000 := Int.mul_le_mul_of_nonneg_left h.2 h.1
  have := serI_le 12 (s := 100000000000000000) (t := 100000000000000000) (sq := timesI x x) (k := 1) (p := true) (by omega) (by omega) (by unfold timesI; omega) (by omega) (by omega) (by simp) (by simp)
  unfold cosSer
  simpa using this
theorem sinSer_range {x : Int} (h : 0 ≤ x ∧ x ≤ 100000000000000000) : 0 ≤ sinSer x ∧ sinSer x ≤ x := by
  have hm : 0 ≤ x * x := Int.mul_nonneg h.1 h.1
  have hm2 : x * x ≤ x * 100000000000000000 := Int.mul_le_mul_of_nonneg_left h.2 h.1
  have := serI_le 12 (s := x) (t := x) (sq := timesI x x) (k := 2) (p := true) h.1 h.2 (by unfold timesI; omega) (by omega) (by omega) (by simp) (by simp; omega)
  unfold sinSer
  simpa using this
theorem quarterAns_ok {K : AV → List Blk → Ans} {k n : Int} (h : quarterOn k n = true) : quarterAns K k n = K (rSpan (refI (n - 4 * k) n)) [] := by
  simp only [quarterOn, Bool.and_eq_true, decide_eq_true_eq] at h
  obtain ⟨h1, h2, h3, h4⟩ := h
  unfold quarterAns refI refLo exactI
  rw [w64_id (n := 8 * k) (by omega), w64_id (n := 4 * k) (by omega), w64_id (n := n - 4 * k) (by omega), w64_id (n := 4 * n) (by omega), w64_id (n := 12 * (n - 4 * k)) (by omega), wu64_id (n := k) (by omega), wu64_id (n := n) (by omega), wu64_id (n := n - 4 * k) (by omega), wu64_id (n := 4 * n) (by omega),
    show n - (n - 4 * k) = 4 * k by omega]
  by_cases hc : 8 * k ≤ n
  · have ho : eighthOn k n = true := by simp only [eighthOn, Bool.and_eq_true, decide_eq_true_eq]; omega
    have hr := partI_range ho
    rw [decide_eq_true hc, decide_eq_true (show 2 * (4 * k) ≤ n by omega), ho, partI_scale (by omega)]
    simp only [cond_true]
    have hs := cosSer_range (x := partI k n) (by omega)
    rw [stepTail_ok (by omega), beq_congr (show n = n - 4 * k ↔ k = 0 by omega)]
    cases k == 0 <;> rfl
  · have ho : eighthOn (n - 4 * k) (4 * n) = true := by simp only [eighthOn, Bool.and_eq_true, decide_eq_true_eq]; omega
    have hr := partI_range ho
    rw [decide_eq_false hc, decide_eq_false (show ¬ 2 * (4 * k) ≤ n by omega), ho]
    simp only [cond_true, cond_false]
    have hs := sinSer_range (x := partI (n - 4 * k) (4 * n)) (by omega)
    rw [stepTail_ok (by omega), beq_congr (show 12 * (n - 4 * k) = 4 * n ↔ 3 * (n - 4 * k) = n by omega)]
    cases n - 4 * k == 0 <;> rfl
def turnR (u n : Int) : Span :=
  bif u % (4 * n) / n == 0 then refI (u % (4 * n) % n) n else bif u % (4 * n) / n == 1 then refI (n - u % (4 * n) % n) n else bif u % (4 * n) / n == 2 then negS (refI (u % (4 * n) % n) n) else negS (refI (n - u % (4 * n) % n) n)
theorem refI_scale {w n c : Int} (hc : 0 < c) : refI (c * w) (c * n) = refI w n := by
  have hle : ∀ x y : Int, c * x ≤ c * y ↔ x ≤ y := fun x y => ⟨fun h => Int.le_of_mul_le_mul_left h hc, fun h => Int.mul_le_mul_of_nonneg_left h (by omega)⟩
  have heq : ∀ x y : Int, c * x = c * y ↔ x = y := fun x y => ⟨fun h => Int.eq_of_mul_eq_mul_left (by omega) h, fun h => by rw [h]⟩
  have e1 : decide (2 * (c * n - c * w) ≤ c * n) = decide (2 * (n - w) ≤ n) := by
    apply decide_eq_decide.2
    rw [← Int.mul_sub, Int.mul_left_comm 2 c]
    exact hle _ _
  have e2 : (c * n == c * w) = (n == w) := beq_congr (heq _ _)
  have e3 : (c * w == 0) = (w == 0) := beq_congr (by have := heq w 0; simpa using this)
  have e4 : (3 * (c * w) == c * n) = (3 * w == n) := beq_congr (by rw [Int.mul_left_comm 3 c]; exact heq _ _)
  unfold refI refLo
  rw [e1, e2, e3, e4, ← Int.mul_sub, Int.mul_left_comm 4 c, partI_scale hc, partI_scale hc]
def quad (r : Int → Span) (u n : Int) : Span :=
  bif u % (4 * n) / n == 0 then r (u % (4 * n) % n) else bif u % (4 * n) / n == 1 then r (n - u % (4 * n) % n) else bif u % (4 * n) / n == 2 then negS (r (u % (4 * n) % n)) else negS (r (n - u % (4 * n) % n))
theorem turnS_quad (u n : Int) : turnS u n = quad (fun w => riseI w n) u n := rfl
theorem turnR_quad (u n : Int) : turnR u n = quad (fun w => refI w n) u n := rfl
theorem quad_div {n w q : Int} (h : 0 ≤ w ∧ w < n) : (q * n + w) / n = q ∧ (q * n + w) % n = w := by
  rw [Int.add_comm, Int.add_mul_ediv_right _ _ (by omega), Int.add_mul_emod_self_right, Int.ediv_eq_zero_of_lt h.1 h.2, Int.emod_eq_of_lt h.1 h.2]
  omega
section
variable {r : Int → Span} {u n w : Int}
theorem quad0 (h : 0 ≤ w ∧ w < n) (hu : u % (4 * n) = w) : quad r u n = r w := by
  have := quad_div (q := 0) h
  rw [Int.zero_mul, Int.zero_add] at this
  unfold quad
  rw [hu, this.1, this.2]
  rfl
theorem quad1 (h : 0 ≤ w ∧ w < n) (hu : u % (4 * n) = n + w) : quad r u n = r (n - w) := by
  have := quad_div (q := 1) h
  rw [Int.one_mul] at this
  unfold quad
  rw [hu, this.1, this.2]
  rfl
theorem quad2 (h : 0 ≤ w ∧ w < n) (hu : u % (4 * n) = 2 * n + w) : quad r u n = negS (r w) := by
  have := quad_div (q := 2) h
  unfold quad
  rw [hu, this.1, this.2]
  rfl
theorem quad3 (h : 0 ≤ w ∧ w < n) (hu : u % (4 * n) = 3 * n + w) : quad r u n = negS (r (n - w)) := by
  have := quad_div (q := 3) h
  unfold quad
  rw [hu, this.1, this.2]
  rfl
theorem mod_of {u v m k : Int} (h : 0 ≤ v ∧ v < m) (e : u = v + m * k) : u % m = v := by rw [e, Int.add_mul_emod_self_left, Int.emod_eq_of_lt h.1 h.2]
theorem quad_cases (hn : 0 < n) (u : Int) : ∃ w k, 0 ≤ w ∧ w < n ∧ (u = w + 4 * n * k ∨ u = n + w + 4 * n * k ∨ u = 2 * n + w + 4 * n * k ∨ u = 3 * n + w + 4 * n * k) := by
  have h1 := Int.emod_add_mul_ediv u (4 * n)
  have h2 := Int.emod_nonneg u (show 4 * n ≠ 0 by omega)
  have h3 := Int.emod_lt_of_pos u (show 0 < 4 * n by omega)
  generalize u % (4 * n) = v at *
  generalize u / (4 * n) = k at *
  by_cases a : v < n
  · exact ⟨v, k, h2, a, .inl h1.symm⟩
  by_cases b : v < 2 * n
  · exact ⟨v - n, k, by omega, by omega, .inr (.inl (by omega))⟩
  by_cases c : v < 3 * n
  · exact ⟨v - 2 * n, k, by omega, by omega, .inr (.inr (.inl (by omega)))⟩
  · exact ⟨v - 3 * n, k, by omega, by omega, .inr (.inr (.inr (by omega)))⟩
end
theorem negS_negS (a : Span) : negS (negS a) = a := by cases a; simp [negS]
theorem quad_val {r : Int → Span} {u n w k : Int} (hw : 0 ≤ w ∧ w < n) :
    (u = w + 4 * n * k → quad r u n = r w) ∧ (u = n + w + 4 * n * k → quad r u n = r (n - w)) ∧ (u = 2 * n + w + 4 * n * k → quad r u n = negS (r w)) ∧ (u = 3 * n + w + 4 * n * k → quad r u n = negS (r (n - w))) :=
  ⟨fun h => quad0 hw (mod_of (by omega) h), fun h => quad1 hw (mod_of (by omega) h), fun h => quad2 hw (mod_of (by omega) h), fun h => quad3 hw (mod_of (by omega) h)⟩
theorem quad_val' {r : Int → Span} (h0 : negS (r 0) = r 0) {u n w k : Int} (hw : 0 ≤ w ∧ w ≤ n) (hn : 0 < n) :
    (u = w + 4 * n * k → quad r u n = r w) ∧ (u = n + w + 4 * n * k → quad r u n = r (n - w)) ∧ (u = 2 * n + w + 4 * n * k → quad r u n = negS (r w)) ∧ (u = 3 * n + w + 4 * n * k → quad r u n = negS (r (n - w))) := by
  by_cases hlt : w < n
  · exact quad_val ⟨hw.1, hlt⟩
  · have e : w = n := by omega
    subst e
    have z : 0 ≤ (0 : Int) ∧ (0 : Int) < w := ⟨by omega, hn⟩
    refine ⟨fun h => ?_, fun h => ?_, fun h => ?_, fun h => ?_⟩
    · rw [(quad_val (r := r) (u := u) (k := k) z).2.1 (by omega), Int.sub_zero]
    · rw [(quad_val (r := r) (u := u) (k := k) z).2.2.1 (by omega), Int.sub_self, h0]
    · rw [(quad_val (r := r) (u := u) (k := k) z).2.2.2 (by omega), Int.sub_zero]
    · rw [(quad_val (r := r) (u := u) (k := k + 1) z).1 (by rw [Int.mul_add]; omega), Int.sub_self, h0]
theorem quad_half {r : Int → Span} {n : Int} (hn : 0 < n) (u : Int) : quad r (u + 2 * n) n = negS (quad r u n) := by
  obtain ⟨w, k, h1, h2, h | h | h | h⟩ := quad_cases hn u
  · rw [(quad_val ⟨h1, h2⟩).1 h, (quad_val (k := k) ⟨h1, h2⟩).2.2.1 (by omega)]
  · rw [(quad_val ⟨h1, h2⟩).2.1 h, (quad_val (k := k) ⟨h1, h2⟩).2.2.2 (by omega)]
  · rw [(quad_val ⟨h1, h2⟩).2.2.1 h, (quad_val (k := k + 1) ⟨h1, h2⟩).1 (by rw [Int.mul_add]; omega), negS_negS]
  · rw [(quad_val ⟨h1, h2⟩).2.2.2 h, (quad_val (k := k + 1) ⟨h1, h2⟩).2.1 (by rw [Int.mul_add]; omega), negS_negS]
theorem quad_neg {r : Int → Span} (h0 : negS (r 0) = r 0) {n : Int} (hn : 0 < n) (u : Int) : quad r (-u) n = negS (quad r u n) := by
  obtain ⟨w, k, h1, h2, h | h | h | h⟩ := quad_cases hn u
  · rw [(quad_val ⟨h1, h2⟩).1 h, (quad_val' h0 (w := n - w) (k := -k - 1) (by omega) hn).2.2.2 (by rw [Int.mul_sub, Int.mul_neg]; omega), Int.sub_sub_self]
  · rw [(quad_val ⟨h1, h2⟩).2.1 h, (quad_val' h0 (w := n - w) (k := -k - 1) (by omega) hn).2.2.1 (by rw [Int.mul_sub, Int.mul_neg]; omega)]
  · rw [(quad_val ⟨h1, h2⟩).2.2.1 h, (quad_val' h0 (w := n - w) (k := -k - 1) (by omega) hn).2.1 (by rw [Int.mul_sub, Int.mul_neg]; omega), Int.sub_sub_self, negS_negS]
  · rw [(quad_val ⟨h1, h2⟩).2.2.2 h, (quad_val' h0 (w := n - w) (k := -k - 1) (by omega) hn).1 (by rw [Int.mul_sub, Int.mul_neg]; omega), negS_negS]
theorem quad_mirror {r : Int → Span} (h0 : negS (r 0) = r 0) {n : Int} (hn : 0 < n) (u : Int) : quad r (2 * n - u) n = quad r u n := by
  rw [show 2 * n - u = -u + 2 * n by omega, quad_half hn, quad_neg h0 hn, negS_negS]
theorem quad_whole {r : Int → Span} {n : Int} (u k : Int) : quad r (u + 4 * n * k) n = quad r u n := by
  unfold quad
  rw [Int.add_mul_emod_self_left]
theorem quad_scale {r r' : Int → Span} {n c : Int} (hc : 0 < c) (hn : 0 < n) (hr : ∀ w, r' (c * w) = r w) (u : Int) : quad r' (c * u) (c * n) = quad r u n := by
  have key : ∀ w, 0 ≤ w ∧ w < n → 0 ≤ c * w ∧ c * w < c * n := fun w h => ⟨Int.mul_nonneg (by omega) h.1, Int.mul_lt_mul_of_pos_left h.2 hc⟩
  have e : ∀ x : Int, 4 * (c * n) * x = c * (4 * n * x) := fun x => by rw [Int.mul_left_comm 4 c, Int.mul_assoc]
  obtain ⟨w, k, h1, h2, h | h | h | h⟩ := quad_cases hn u
  · rw [(quad_val ⟨h1, h2⟩).1 h, (quad_val (k := k) (key w ⟨h1, h2⟩)).1 (by rw [h, e, Int.mul_add]), hr]
  · rw [(quad_val ⟨h1, h2⟩).2.1 h, (quad_val (k := k) (key w ⟨h1, h2⟩)).2.1 (by rw [h, e, Int.mul_add, Int.mul_add]), ← Int.mul_sub, hr]
  · rw [(quad_val ⟨h1, h2⟩).2.2.1 h, (quad_val (k := k) (key w ⟨h1, h2⟩)).2.2.1 (by rw [h, e, Int.mul_add, Int.mul_add, Int.mul_left_comm c 2]), hr]
  · rw [(quad_val ⟨h1, h2⟩).2.2.2 h, (quad_val (k := k) (key w ⟨h1, h2⟩)).2.2.2 (by rw [h, e, Int.mul_add, Int.mul_add, Int.mul_left_comm c 3]), ← Int.mul_sub, hr]
theorem refI_zero {n : Int} (hn : 0 < n) : refI 0 n = ⟨0, 0⟩ := by
  unfold refI refLo
  rw [decide_eq_false (show ¬ 2 * (n - 0) ≤ n by omega), show partI 0 (4 * n) = 0 by simp [partI]]
  have : sinSer 0 = 0 := by decide +kernel
  rw [cond_false, this]
  rfl
theorem refI_neg0 {n : Int} (hn : 0 < n) : negS (refI 0 n) = refI 0 n := by rw [refI_zero hn]; rfl
theorem refLo_range {w n : Int} (h : 0 ≤ w ∧ w ≤ n) (hn : 1 ≤ n ∧ n ≤ 6000) : 0 ≤ refLo w n ∧ refLo w n ≤ 100000000000000000 := by
  unfold refLo
  by_cases hc : 2 * (n - w) ≤ n
  · rw [decide_eq_true hc, cond_true]
    have := partI_range (k := n - w) (n := 4 * n) (by simp only [eighthOn, Bool.and_eq_true, decide_eq_true_eq]; omega)
    exact cosSer_range (by omega)
  · rw [decide_eq_false hc, cond_false]
    have := partI_range (k := w) (n := 4 * n) (by simp only [eighthOn, Bool.and_eq_true, decide_eq_true_eq]; omega)
    have := sinSer_range (x := partI w (4 * n)) (by omega)
    omega
theorem refI_range {w n : Int} (h : 0 ≤ w ∧ w ≤ n) (hn : 1 ≤ n ∧ n ≤ 6000) : 0 ≤ (refI w n).lo ∧ (refI w n).lo ≤ 1000001 ∧ 0 ≤ (refI w n).hi ∧ (refI w n).hi ≤ 1000001 := by
  have := refLo_range h hn
  unfold refI stepS
  generalize (bif decide (2 * (n - w) ≤ n) then n == w else (w == 0 || 3 * w == n)) = e
  cases e <;> simp <;> omega
def cosine3 (K : AV → List Blk → Ans) (k n : Int) : Ans :=
  bif decide (n < w64 (4 * k)) then (bif quarterOn (w64 (n - w64 (2 * k))) (w64 (2 * n)) then K (rSpan (negRaw (refI (w64 (2 * n) - 4 * w64 (n - w64 (2 * k))) (w64 (2 * n))))) [] else none) else (bif quarterOn k n then K (rSpan (refI (n - 4 * k) n)) [] else none)
def cosine2 (K : AV → List Blk → Ans) (k n : Int) : Ans := bif decide (n < w64 (2 * k)) then cosine3 K (w64 (n - k)) n else cosine3 K k n
def cosineAns (K : AV → List Blk → Ans) (k n : Int) : Ans := bif n == 0 then none else bif decide (k.tmod n < 0) then cosine2 K (w64 (k.tmod n + n)) n else cosine2 K (k.tmod n) n
def cosineOn (n : Int) : Bool := decide (1 ≤ n) && decide (n ≤ 2880)
theorem cosine3_ok {K : AV → List Blk → Ans} {k n : Int} (hn : 1 ≤ n ∧ n ≤ 2880) (hk : 0 ≤ k ∧ 2 * k ≤ n) : cosine3 K k n = K (rSpan (turnR (4 * k + n) n)) [] := by
  unfold cosine3
  rw [w64_id (n := 4 * k) (by omega), w64_id (n := 2 * k) (by omega), w64_id (n := 2 * n) (by omega), w64_id (n := n - 2 * k) (by omega), turnR_quad]
  by_cases hc : n < 4 * k
  · have ho : quarterOn (n - 2 * k) (2 * n) = true := by simp only [quarterOn, Bool.and_eq_true, decide_eq_true_eq]; omega
    rw [decide_eq_true hc, ho, show 2 * n - 4 * (n - 2 * k) = 2 * (4 * k - n) by omega, refI_scale (by omega), (quad_val' (r := fun w => refI w n) (refI_neg0 (by omega)) (w := 4 * k - n) (k := 0) (by omega) (by omega)).2.2.1 (by omega)]
    have hr := refI_range (w := 4 * k - n) (n := n) (by omega) (by omega)
    have : negRaw (refI (4 * k - n) n) = negS (refI (4 * k - n) n) := by
      unfold negRaw negS
      rw [w64_id (n := 0 - (refI (4 * k - n) n).hi) (by omega), w64_id (n := 0 - (refI (4 * k - n) n).lo) (by omega)]
      congr 1 <;> omega
    rw [this]
    rfl
  · have ho : quarterOn k n = true := by simp only [quarterOn, Bool.and_eq_true, decide_eq_true_eq]; omega
    rw [decide_eq_false hc, ho, (quad_val' (r := fun w => refI w n) (refI_neg0 (by omega)) (w := 4 * k) (k := 0) (by omega) (by omega)).2.1 (by omega)]
    rfl
theorem cosine2_ok {K : AV → List Blk → Ans} {k n : Int} (hn : 1 ≤ n ∧ n ≤ 2880) (hk : 0 ≤ k ∧ k < n) : cosine2 K k n = K (rSpan (turnR (4 * k + n) n)) [] := by
  unfold cosine2
  rw [w64_id (n := 2 * k) (by omega), w64_id (n := n - k) (by omega)]
  by_cases hc : n < 2 * k
  · rw [decide_eq_true hc, cond_true, cosine3_ok hn (by omega), turnR_quad, turnR_quad, ← quad_mirror (r := fun w => refI w n) (refI_neg0 (by omega)) (show 0 < n by omega) (4 * k + n), show 4 * (n - k) + n = (2 * n - (4 * k + n)) + 4 * n * 1 by omega, quad_whole]
  · rw [decide_eq_false hc, cond_false, cosine3_ok hn (by omega)]
theorem cosineAns_ok {K : AV → List Blk → Ans} {k n : Int} (h : cosineOn n = true) : cosineAns K k n = K (rSpan (turnR (4 * k + n) n)) [] := by
  simp only [cosineOn, Bool.and_eq_true, decide_eq_true_eq] at h
  unfold cosineAns
  rw [show (n == 0) = false by simp; omega]
  have hr := tmod_range (k := k) (n := n) (by omega)
  have e := Int.tmod_add_mul_tdiv k n
  by_cases hc : k.tmod n < 0
  · rw [decide_eq_true hc, w64_id (by omega)]
    simp only [cond_true, cond_false]
    rw [cosine2_ok h (by omega), turnR_quad, turnR_quad, show 4 * k + n = (4 * (k.tmod n + n) + n) + 4 * n * (k.tdiv n - 1) by rw [Int.mul_sub, Int.mul_assoc]; omega, quad_whole]
  · rw [decide_eq_false hc]
    simp only [cond_false]
    rw [cosine2_ok h (by omega), turnR_quad, turnR_quad, show 4 * k + n = (4 * k.tmod n + n) + 4 * n * k.tdiv n by rw [Int.mul_assoc]; omega, quad_whole]
def cosR (k n : Int) : Span × Int := bif decide (n < 1) then (spanZ, 2) else bif decide (720 < n) then (spanZ, 2) else (turnR (4 * k + n) n, 0)
def sinR (k n : Int) : Span × Int := bif decide (n < 1) then (spanZ, 2) else bif decide (720 < n) then (spanZ, 2) else (turnR (4 * k) n, 0)
def cosRAns (K : AV → List Blk → Ans) (k n : Int) : Ans := bif decide (n < 1) then K (rSpanE (spanZ, 2)) [] else bif decide (720 < n) then K (rSpanE (spanZ, 2)) [] else
  bif cosineOn n then K (rSpanE (turnR (4 * k + n) n, 0)) [] else none
def sinRAns (K : AV → List Blk → Ans) (k n : Int) : Ans := bif decide (n < 1) then K (rSpanE (spanZ, 2)) [] else bif decide (720 < n) then K (rSpanE (spanZ, 2)) [] else bif n == 0 then none else
  bif cosineOn (w64 (4 * n)) then K (rSpanE (turnR (4 * w64 (n - w64 (4 * k.tmod n)) + w64 (4 * n)) (w64 (4 * n)), 0)) [] else none
theorem cosRAns_ok {K : AV → List Blk → Ans} {k n : Int} : cosRAns K k n = K (rSpanE (cosR k n)) [] := by
  unfold cosRAns cosR
  by_cases h1 : n < 1
  · rw [decide_eq_true h1]; rfl
  by_cases h2 : 720 < n
  · rw [decide_eq_false h1, decide_eq_true h2]; rfl
  rw [decide_eq_false h1, decide_eq_false h2, show cosineOn n = true by simp only [cosineOn, Bool.and_eq_true, decide_eq_true_eq]; omega]
  rfl
theorem sinRAns_ok {K : AV → List Blk → Ans} {k n : Int} : sinRAns K k n = K (rSpanE (sinR k n)) [] := by
  unfold sinRAns sinR
  by_cases h1 : n < 1
  · rw [decide_eq_true h1]; rfl
  by_cases h2 : 720 < n
  · rw [decide_eq_false h1, decide_eq_true h2]; rfl
  have hr := tmod_range (k := k) (n := n) (by omega)
  have e := Int.tmod_add_mul_tdiv k n
  rw [decide_eq_false h1, decide_eq_false h2, show (n == 0) = false by simp; omega, w64_id (n := 4 * n) (by omega), show cosineOn (4 * n) = true by simp only [cosineOn, Bool.and_eq_true, decide_eq_true_eq]; omega, w64_id (n := 4 * k.tmod n) (by omega), w64_id (by omega)]
  simp only [cond_false, cond_true]
  rw [turnR_quad, turnR_quad, show 4 * (n - 4 * k.tmod n) + 4 * n = 4 * (2 * n - 4 * k.tmod n) by omega, quad_scale (r := fun w => refI w n) (c := 4) (by omega) (by omega) (fun w => refI_scale (by omega)), quad_mirror (r := fun w => refI w n) (refI_neg0 (by omega)) (by omega), show 4 * k = 4 * k.tmod n + 4 * n * k.tdiv n by rw [Int.mul_assoc]; omega, quad_whole]
end Go.Ev

namespace Go.Ev
def force {α : Type} (n : Nat) (f : Nat → α) : α := @Nat.rec (fun _ => α) (f 0) (fun m _ => f (Nat.succ m)) n
def sinC (sq : Nat) : List (Nat × Nat) → Nat → Nat → Nat → (Nat → Bool) → Bool
  | [], _, _, _, _ => false
  | c :: r, t, p, m, K => force (t * sq / c.1) fun t1 => force (t1 * sq / c.2) fun t2 => bif Nat.beq t2 0 then K (p + t2 - (m + t1)) else sinC sq r t2 (p + t2) (m + t1) K
def serC (sq : Nat) : List (Nat × Nat) → Nat → Nat → Nat → (Nat → Bool) → Bool
  | [], _, p, m, K => K (p - m)
  | c :: r, t, p, m, K => force (t * sq / c.1) fun t1 => force (t1 * sq / c.2) fun t2 => bif Nat.beq t2 0 then K (p + t2 - (m + t1)) else serC sq r t2 (p + t2) (m + t1) K
def divs (B : Nat) : Nat → Nat → List (Nat × Nat)
  | 0, _ => []
  | f + 1, j => (B * (j * (j + 1)), B * ((j + 2) * (j + 3))) :: divs B f (j + 4)
def cs2 : List (Nat × Nat) := [(110680464442257309696, 368934881474191032320), (774763251095801167872, 1328165573307087716352), (2029141848108050677760, 2877692075498690052096), (3873816255479005839360, 5017514388048998039552), (6308786473208666652672, 7747632510958011678720), (9334052501297033117696, 11068046444225730969600)]
def cs3 : List (Nat × Nat) := [(221360928884514619392, 553402322211286548480), (1033017668127734890496, 1660206966633859645440), (2434970217729660813312, 3357307421415138394112), (4427218577690292387840, 5644703686555122794496), (7009762748009629614080, 8522395762053812846592), (10182602728687672492032, 11990383647911208550400)]
def ds1 : List (Nat × Nat) := [(200000000000000000, 1200000000000000000), (3000000000000000000, 5600000000000000000), (9000000000000000000, 13200000000000000000), (18200000000000000000, 24000000000000000000), (30600000000000000000, 38000000000000000000), (46200000000000000000, 55200000000000000000)]
def ds2 : List (Nat × Nat) := [(600000000000000000, 2000000000000000000), (4200000000000000000, 7200000000000000000), (11000000000000000000, 15600000000000000000), (21000000000000000000, 27200000000000000000), (34200000000000000000, 42000000000000000000), (50600000000000000000, 60000000000000000000)]
def loC (w n : Nat) (K : Nat → Bool) : Bool :=
  bif Nat.ble (2 * w) n then force (28976077832308491369 * w / n) fun x => force (x * x / 18446744073709551616) fun sq => sinC sq cs2 x x 0 fun v => K (v * 1000000 / 18446744073709551616)
  else force (28976077832308491369 * (n - w) / n) fun x => force (x * x / 18446744073709551616) fun sq => force (sq / 2) fun h => sinC sq cs3 h h 0 fun v => K ((18446744073709551616 - v) % 18446744073709551616 * 1000000 / 18446744073709551616)
def refC (w n : Nat) (K : Nat → Bool) : Bool :=
  bif Nat.ble (2 * (n - w)) n then force (628318530717958648 * (n - w) / (4 * n)) fun x => force (x * x / 100000000000000000) fun sq => serC sq ds1 100000000000000000 100000000000000000 0 fun v => K (v / 100000000000)
  else force (628318530717958648 * w / (4 * n)) fun x => force (x * x / 100000000000000000) fun sq => serC sq ds2 x x 0 fun v => K (v / 100000000000)
def circN (a b : Nat) : Bool := Nat.ble (a * a / 1000000 + b * b / 1000000) 1000000 && Nat.ble 1000000 (((a + 1) * (a + 1) + 999999) / 1000000 + ((b + 1) * (b + 1) + 999999) / 1000000)
def pairC (w n : Nat) : Bool := loC w n fun a => refC w n fun a' => bif Nat.beq a a' then (loC (n - w) n fun b => refC (n - w) n fun b' => bif Nat.beq b b' then circN a b else false) else false
end Go.Ev

namespace Go.Ev
open Go
theorem force_eq {α : Type} (n : Nat) (f : Nat → α) : force n f = f n := by cases n <;> rfl
theorem cs2_eq : cs2 = divs 18446744073709551616 6 2 := by decide +kernel
theorem cs3_eq : cs3 = divs 18446744073709551616 6 3 := by decide +kernel
theorem ds1_eq : ds1 = divs 100000000000000000 6 1 := by decide +kernel
theorem ds2_eq : ds2 = divs 100000000000000000 6 2 := by decide +kernel
theorem nextI_nat (t sq j : Nat) : nextI t sq j = ((t * sq / (18446744073709551616 * (j * (j + 1))) : Nat) : Int) := by
  unfold nextI
  rw [← Nat.div_div_eq_div_mul]
  simp only [Int.natCast_ediv, Int.natCast_mul, Int.natCast_add, Int.natCast_one]
  rfl
theorem sinI_zero (F : Nat) (s sq j : Int) : sinI F s 0 sq j = s := by cases F <;> rfl
theorem sinC_ok {sq : Nat} (hsq : sq < 18446744073709551616) {K : Nat → Bool} : ∀ (f F j t p m : Nat), f < F → 1 ≤ j → m + t ≤ p → p < 18446744073709551616 + m → sinC sq (divs 18446744073709551616 f j) t p m K = true → ∃ v : Nat, (v : Int) = sinI F ((p : Int) - m) t sq j ∧ K v = true
  | 0, F, j, t, p, m, _, _, _, _, h => by simp [divs, sinC] at h
  | f + 1, F, j, t, p, m, hF, hj, h1, h2, h => by
    rw [divs, sinC, force_eq, force_eq] at h
    simp only at h
    obtain ⟨F, rfl⟩ : ∃ F', F = F' + 1 := ⟨F - 1, by omega⟩
    by_cases ht : t = 0
    · subst ht
      have e0 : 0 * sq / (18446744073709551616 * (j * (j + 1))) = 0 := by simp
      have e1 : 0 * sq / (18446744073709551616 * ((j + 2) * (j + 3))) = 0 := by simp
      rw [e0, e1] at h
      simp only [Nat.beq_refl, cond_true, Nat.add_zero] at h
      refine ⟨p - m, ?_, h⟩
      rw [show ((0 : Nat) : Int) = 0 from rfl, sinI_zero]
      omega
    · have b1 := nextI_bound (t := (t : Int)) (s := (sq : Int)) (j := (j : Int)) (c := 1) (by omega) (by omega) (by omega) (by have := jj_le (j := (j : Int)) (c := 1) (by omega) (by omega); omega)
      rw [nextI_nat] at b1
      have b2 := nextI_bound (t := ((t * sq / (18446744073709551616 * (j * (j + 1))) : Nat) : Int)) (s := (sq : Int)) (j := ((j + 2 : Nat) : Int)) (c := 1) (Int.natCast_nonneg _) (by omega) (by omega) (by have := jj_le (j := ((j + 2 : Nat) : Int)) (c := 1) (by omega) (by omega); omega)
      rw [nextI_nat] at b2
      have hstep : sinI (F + 1) ((p : Int) - m) t sq j = sinI F (((p + t * sq / (18446744073709551616 * (j * (j + 1))) * sq / (18446744073709551616 * ((j + 2) * (j + 2 + 1))) : Nat) : Int) - ((m + t * sq / (18446744073709551616 * (j * (j + 1))) : Nat) : Int)) ((t * sq / (18446744073709551616 * (j * (j + 1))) * sq / (18446744073709551616 * ((j + 2) * (j + 2 + 1))) : Nat) : Int) sq ((j + 4 : Nat) : Int) := by
        have e : ((t : Int) == 0) = false := by simp; omega
        rw [sinI, e, cond_false, nextI_nat, show ((j : Int) + 2) = ((j + 2 : Nat) : Int) by omega, nextI_nat]
        generalize t * sq / (18446744073709551616 * (j * (j + 1))) = t1 at *
        generalize t1 * sq / (18446744073709551616 * ((j + 2) * (j + 2 + 1))) = t2 at *
        rw [wu64_id (n := (p : Int) - m - t1) (by omega), wu64_id (by omega)]
        congr 1
        omega
      rw [hstep]
      rw [show (j + 2) * (j + 2 + 1) = (j + 2) * (j + 3) from rfl] at *
      generalize t * sq / (18446744073709551616 * (j * (j + 1))) = t1 at *
      generalize t1 * sq / (18446744073709551616 * ((j + 2) * (j + 3))) = t2 at *
      cases hz : Nat.beq t2 0 with
      | true =>
        rw [hz, cond_true] at h
        have : t2 = 0 := Nat.eq_of_beq_eq_true hz
        subst this
        refine ⟨_, ?_, h⟩
        rw [show ((0 : Nat) : Int) = 0 from rfl, sinI_zero]
        omega
      | false =>
        rw [hz, cond_false] at h
        exact sinC_ok hsq f F (j + 4) t2 (p + t2) (m + t1) (by omega) (by omega) (by omega) (by omega) h
theorem serI_zero : ∀ (f : Nat) {s sq k : Int} {b : Bool}, 0 ≤ s ∧ s ≤ 18446744073709551615 → serI f s 0 sq k b = s
  | 0, _, _, _, _, _ => rfl
  | f + 1, s, sq, k, b, h => by
    have e : timesI 0 sq = 0 := by simp [timesI]
    rw [serI, e, Int.zero_tdiv, show wu64 0 = 0 from rfl, Int.sub_zero, Int.add_zero, wu64_id h]
    cases b
    · exact serI_zero f h
    · exact serI_zero f h
theorem term_nat (t sq k : Nat) (ht : t ≤ 100000000000000000) (hsq : sq ≤ 100000000000000000) (hk : 1 ≤ k ∧ k ≤ 100) : wu64 ((timesI t sq).tdiv (wu64 ((k : Int) * wu64 ((k : Int) + 1)))) = ((t * sq / (100000000000000000 * (k * (k + 1))) : Nat) : Int) ∧ t * sq / (100000000000000000 * (k * (k + 1))) ≤ t := by
  have hm2 : t * sq ≤ t * 100000000000000000 := Nat.mul_le_mul_left _ hsq
  have hkk : 1 ≤ k * (k + 1) := Nat.mul_pos (by omega) (by omega)
  have hkk2 : k * (k + 1) ≤ 100 * 101 := Nat.mul_le_mul (by omega) (by omega)
  have hle : t * sq / (100000000000000000 * (k * (k + 1))) ≤ t := by
    rw [← Nat.div_div_eq_div_mul]
    exact Nat.le_trans (Nat.div_le_self _ _) (by omega)
  refine ⟨?_, hle⟩
  have e1 : timesI t sq = ((t * sq / 100000000000000000 : Nat) : Int) := by
    unfold timesI
    rw [← Int.natCast_mul]
    omega
  rw [wu64_id (n := (k : Int) + 1) (by omega), show ((k : Int) * ((k : Int) + 1)) = ((k * (k + 1) : Nat) : Int) by simp, wu64_id (n := ((k * (k + 1) : Nat) : Int)) (by omega), e1, Int.tdiv_eq_ediv_of_nonneg (by omega), ← Int.natCast_ediv, Nat.div_div_eq_div_mul]
  generalize t * sq / (100000000000000000 * (k * (k + 1))) = u at hle ⊢
  exact wu64_id (by omega)
theorem serC_ok {sq : Nat} (hsq : sq ≤ 100000000000000000) {K : Nat → Bool} : ∀ (f k t p m : Nat), 1 ≤ k → k + 4 * f ≤ 90 → t ≤ 100000000000000000 → m + t ≤ p → p ≤ 100000000000000000 + m → serC sq (divs 100000000000000000 f k) t p m K = true → ∃ v : Nat, (v : Int) = serI (2 * f) ((p : Int) - m) t sq k true ∧ K v = true
  | 0, k, t, p, m, _, _, _, _, _, h => by
    refine ⟨p - m, ?_, h⟩
    show ((p - m : Nat) : Int) = (p : Int) - m
    omega
  | f + 1, k, t, p, m, hk, hf, ht, h1, h2, h => by
    rw [divs, serC, force_eq, force_eq] at h
    simp only at h
    obtain ⟨a1, a2⟩ := term_nat t sq k ht hsq (by omega)
    have b := term_nat (t * sq / (100000000000000000 * (k * (k + 1)))) sq (k + 2) (by omega) hsq (by omega)
    obtain ⟨b1, b2⟩ := b
    have hstep : serI (2 * (f + 1)) ((p : Int) - m) t sq k true = serI (2 * f) (((p + t * sq / (100000000000000000 * (k * (k + 1))) * sq / (100000000000000000 * ((k + 2) * (k + 2 + 1))) : Nat) : Int) - ((m + t * sq / (100000000000000000 * (k * (k + 1))) : Nat) : Int)) ((t * sq / (100000000000000000 * (k * (k + 1))) * sq / (100000000000000000 * ((k + 2) * (k + 2 + 1))) : Nat) : Int) sq ((k + 4 : Nat) : Int) true := by
      rw [show 2 * (f + 1) = 2 * f + 1 + 1 by omega, serI, serI, a1, wu64_id (n := (k : Int) + 2) (by omega), show ((k : Int) + 2) = ((k + 2 : Nat) : Int) by omega, b1]
      simp only [cond_true, Bool.not_true, cond_false, Bool.not_false]
      generalize t * sq / (100000000000000000 * (k * (k + 1))) = t1 at *
      generalize t1 * sq / (100000000000000000 * ((k + 2) * (k + 2 + 1))) = t2 at *
      rw [wu64_id (n := (p : Int) - m - t1) (by omega), wu64_id (n := (p : Int) - m - t1 + t2) (by omega), wu64_id (by omega)]
      congr 1
      omega
    rw [hstep]
    rw [show (k + 2) * (k + 2 + 1) = (k + 2) * (k + 3) from rfl] at *
    generalize t * sq / (100000000000000000 * (k * (k + 1))) = t1 at *
    generalize t1 * sq / (100000000000000000 * ((k + 2) * (k + 3))) = t2 at *
    cases hz : Nat.beq t2 0 with
    | true =>
      rw [hz, cond_true] at h
      have : t2 = 0 := Nat.eq_of_beq_eq_true hz
      subst this
      refine ⟨_, ?_, h⟩
      rw [show ((0 : Nat) : Int) = 0 from rfl, serI_zero _ (by omega)]
      omega
    | false =>
      rw [hz, cond_false] at h
      exact serC_ok hsq f (k + 4) t2 (p + t2) (m + t1) (by omega) (by omega) (by omega) (by omega) (by omega) h
theorem ang_nat (w n : Nat) : angI w n = ((28976077832308491369 * w / n : Nat) : Int) := by unfold angI; simp
theorem part_nat (w n : Nat) : partI w n = ((628318530717958648 * w / n : Nat) : Int) := by unfold partI; simp
theorem loC_ok {w n : Nat} (hw : w ≤ n) (hn : 1 ≤ n ∧ n ≤ 720) {K : Nat → Bool} (h : loC w n K = true) : ∃ v : Nat, (v : Int) = loI w n ∧ K v = true := by
  unfold loC at h
  unfold loI
  cases hb : Nat.ble (2 * w) n with
  | true =>
    have hle := Nat.le_of_ble_eq_true hb
    rw [hb, cond_true, force_eq, force_eq, cs2_eq] at h
    have hr := angI_range (w := (w : Int)) (n := (n : Int)) (by simp only [angOn, Bool.and_eq_true, decide_eq_true_eq]; omega)
    rw [ang_nat] at hr
    rw [decide_eq_true (by omega), cond_true, ang_nat]
    generalize 28976077832308491369 * w / n = x at *
    have hsq : x * x / 18446744073709551616 < 18446744073709551616 := by
      have : x * x ≤ x * 18446744073709551616 := Nat.mul_le_mul_left _ (by omega)
      omega
    obtain ⟨v, hv, hK⟩ := sinC_ok hsq 6 16 2 x x 0 (by omega) (by omega) (by omega) (by omega) h
    refine ⟨_, ?_, hK⟩
    unfold sineI sqI
    have e : sinI 16 (x : Int) x ((x : Int) * x / 18446744073709551616) 2 = (v : Int) := by
      rw [hv]
      simp
    rw [e]
    omega
  | false =>
    have hle : ¬ 2 * w ≤ n := fun hh => by rw [Nat.ble_eq_true_of_le hh] at hb; cases hb
    rw [hb, cond_false, force_eq, force_eq, force_eq, cs3_eq] at h
    have hr := angI_range (w := ((n - w : Nat) : Int)) (n := (n : Int)) (by simp only [angOn, Bool.and_eq_true, decide_eq_true_eq]; omega)
    rw [ang_nat] at hr
    rw [decide_eq_false (by omega), cond_false, show (n : Int) - (w : Int) = ((n - w : Nat) : Int) by omega, ang_nat]
    generalize 28976077832308491369 * (n - w) / n = x at *
    have hsq : x * x / 18446744073709551616 < 18446744073709551616 := by
      have : x * x ≤ x * 18446744073709551616 := Nat.mul_le_mul_left _ (by omega)
      omega
    obtain ⟨v, hv, hK⟩ := sinC_ok hsq 6 16 3 (x * x / 18446744073709551616 / 2) (x * x / 18446744073709551616 / 2) 0 (by omega) (by omega) (by omega) (by omega) h
    refine ⟨_, ?_, hK⟩
    unfold cosiI sqI
    have e : sinI 16 ((x : Int) * x / 18446744073709551616 / 2) ((x : Int) * x / 18446744073709551616 / 2) ((x : Int) * x / 18446744073709551616) 3 = (v : Int) := by
      rw [hv]
      simp
    have hv2 := sinI_range 16 (s := ((x : Int) * x / 18446744073709551616 / 2)) (t := ((x : Int) * x / 18446744073709551616 / 2)) (sq := ((x : Int) * x / 18446744073709551616)) (j := 3) (by rw [← Int.natCast_mul]; omega)
    rw [e] at hv2 ⊢
    rw [wu64_eq]
    omega
theorem refC_ok {w n : Nat} (hw : w ≤ n) (hn : 1 ≤ n ∧ n ≤ 720) {K : Nat → Bool} (h : refC w n K = true) : ∃ v : Nat, (v : Int) = refLo w n / 100000000000 ∧ K v = true := by
  unfold refC at h
  unfold refLo
  have sqle : ∀ x : Nat, x ≤ 78539816339744831 → x * x / 100000000000000000 ≤ 100000000000000000 ∧ timesI x x = ((x * x / 100000000000000000 : Nat) : Int) := by
    intro x hx
    have : x * x ≤ x * 78539816339744831 := Nat.mul_le_mul_left _ (by omega)
    refine ⟨by omega, ?_⟩
    unfold timesI
    rw [← Int.natCast_mul]
    omega
  cases hb : Nat.ble (2 * (n - w)) n with
  | true =>
    have hle := Nat.le_of_ble_eq_true hb
    rw [hb, cond_true, force_eq, force_eq, ds1_eq] at h
    have hr := partI_range (k := ((n - w : Nat) : Int)) (n := ((4 * n : Nat) : Int)) (by simp only [eighthOn, Bool.and_eq_true, decide_eq_true_eq]; omega)
    rw [part_nat] at hr
    rw [decide_eq_true (by omega), cond_true, show (n : Int) - (w : Int) = ((n - w : Nat) : Int) by omega, show 4 * (n : Int) = ((4 * n : Nat) : Int) by omega, part_nat]
    generalize 628318530717958648 * (n - w) / (4 * n) = x at *
    obtain ⟨s1, s2⟩ := sqle x (by omega)
    obtain ⟨v, hv, hK⟩ := serC_ok s1 6 1 100000000000000000 100000000000000000 0 (by omega) (by omega) (by omega) (by omega) (by omega) h
    refine ⟨_, ?_, hK⟩
    unfold cosSer
    rw [s2]
    have e : serI 12 100000000000000000 100000000000000000 ((x * x / 100000000000000000 : Nat) : Int) 1 true = (v : Int) := by
      rw [hv]
      simp
    rw [e]
    omega
  | false =>
    have hle : ¬ 2 * (n - w) ≤ n := fun hh => by rw [Nat.ble_eq_true_of_le hh] at hb; cases hb
    rw [hb, cond_false, force_eq, force_eq, ds2_eq] at h
    have hr := partI_range (k := (w : Int)) (n := ((4 * n : Nat) : Int)) (by simp only [eighthOn, Bool.and_eq_true, decide_eq_true_eq]; omega)
    rw [part_nat] at hr
    rw [decide_eq_false (by omega), cond_false, show 4 * (n : Int) = ((4 * n : Nat) : Int) by omega, part_nat]
    generalize 628318530717958648 * w / (4 * n) = x at *
    obtain ⟨s1, s2⟩ := sqle x (by omega)
    obtain ⟨v, hv, hK⟩ := serC_ok s1 6 2 x x 0 (by omega) (by omega) (by omega) (by omega) (by omega) h
    refine ⟨_, ?_, hK⟩
    unfold sinSer
    rw [s2]
    have e : serI 12 (x : Int) (x : Int) ((x * x / 100000000000000000 : Nat) : Int) 2 true = (v : Int) := by
      rw [hv]
      simp
    rw [e]
    omega
structure PairOk (w n : Int) : Prop where
  sin : loI w n = refLo w n / 100000000000
  cos : loI (n - w) n = refLo (n - w) n / 100000000000
  low : loI w n * loI w n / 1000000 + loI (n - w) n * loI (n - w) n / 1000000 ≤ 1000000
  high : 1000000 ≤ ((loI w n + 1) * (loI w n + 1) + 999999) / 1000000 + ((loI (n - w) n + 1) * (loI (n - w) n + 1) + 999999) / 1000000
theorem PairOk.swap {w n : Int} (h : PairOk w n) : PairOk (n - w) n := by
  have e : n - (n - w) = w := by omega
  exact ⟨h.cos, by rw [e]; exact h.sin, by rw [e, Int.add_comm]; exact h.low, by rw [e, Int.add_comm]; exact h.high⟩
theorem pairC_ok {w n : Nat} (hw : w ≤ n) (hn : 1 ≤ n ∧ n ≤ 720) (h : pairC w n = true) : PairOk w n := by
  unfold pairC at h
  obtain ⟨a, ha, h⟩ := loC_ok hw hn h
  obtain ⟨a', ha', h⟩ := refC_ok hw hn h
  cases e1 : Nat.beq a a' with
  | false => rw [e1] at h; cases h
  | true =>
    rw [e1, cond_true] at h
    obtain ⟨b, hb, h⟩ := loC_ok (by omega) hn h
    obtain ⟨b', hb', h⟩ := refC_ok (by omega) hn h
    cases e2 : Nat.beq b b' with
    | false => rw [e2] at h; cases h
    | true =>
      rw [e2, cond_true] at h
      cases Nat.eq_of_beq_eq_true e1
      cases Nat.eq_of_beq_eq_true e2
      simp only [circN, Bool.and_eq_true] at h
      have l1 := Nat.le_of_ble_eq_true h.1
      have l2 := Nat.le_of_ble_eq_true h.2
      have en : ((n - w : Nat) : Int) = (n : Int) - w := by omega
      rw [en] at hb hb'
      refine ⟨by rw [← ha, ← ha'], by rw [← hb, ← hb'], ?_, ?_⟩
      · rw [← ha, ← hb, ← Int.natCast_mul, ← Int.natCast_mul]
        omega
      · rw [← ha, ← hb, show ((a : Int) + 1) = ((a + 1 : Nat) : Int) by omega, show ((b : Int) + 1) = ((b + 1 : Nat) : Int) by omega, ← Int.natCast_mul, ← Int.natCast_mul]
        omega
end Go.Ev

