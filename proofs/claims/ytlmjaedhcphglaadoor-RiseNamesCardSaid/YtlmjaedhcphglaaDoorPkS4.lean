/-
  Fractions and numbers of four digits to the base 2^32: what the functions come to. No program here.
  Enclosures: what the functions of the layers 1 (as far as needed here) and 5 come to. No program here.
  Long division bit by bit, as the reference does it: numbers of four digits by one of 64 bits. No program here.
  Sines by series, as the program and the reference add them up. No program here.
  Sines by series, as the reference adds them up. No program here.
  A test of the sines of fractions of a quarter, in natural numbers. Definitions only.
  A test of the sines of fractions of a quarter, in natural numbers: the program's and the reference's series agree, and the squares add up to 1. No program here.
  Sines and cosines of parts of a turn, one by one. No program here.
  A test of the sines of neighbouring fractions of a quarter, in natural numbers. Definitions only.
  Sines and cosines of sums of angles, up to small errors: by neighbouring fractions of a quarter. No program here.
  The theorem of sums, up to small errors: by induction on the parts. No program here.
  The theorem of sums for 720 parts of a turn, up to small errors. No program here.
  Enclosures of numbers of absolute value at most 1: sines, cosines, their products. No program here.
  Sines and cosines of half degrees: the program's enclosures are the reference's. No program here.
  Contracts of loops by any function of the state. No condition.
  Names: a letter, then letters, digits and hyphens. No program here.
  Directions of sources: what the functions come to. No program here.
  Products of enclosures: opposites, and how wide they are. Directions at other ticks. No program here.
  Sines and cosines of half degrees: their squares add up to one, nearly. A test of all of them by the kernel. No program here.
  Fractions: sums, differences, products and quotients in lowest terms, as the program and the reference find them. No program here.
  Fractions: what the program's functions come to. No program here.
  Fractions: what the reference's functions come to. No program here.
  Vectors of fractions: checks, sums, products. No program here.
  Dot products of directions and vectors. No program here.
  Vectors of fractions: differences, products, cross products, as the program and the reference find them. No program here.
  Matrices of fractions and turns, as the program and the reference find them. No program here.
  Fractions by their values (rational numbers): sums, products, quotients; size; vectors, matrices and turns. No program here.
-/
import Derived.Test.YtlmjaedhcphglaaDoorPkS3
import Derived.KernelRfl
set_option maxRecDepth 100000
namespace Go.Ev
open Go
def absI (n : Int) : Int := n - n + (n.natAbs : Int)
theorem absI_eq (n : Int) : absI n = (n.natAbs : Int) := by unfold absI; omega
theorem absI_of_nonneg {n : Int} (h : 0 ≤ n) : absI n = n := by unfold absI; omega
theorem absI_of_neg {n : Int} (h : n < 0) : absI n = -n := by unfold absI; omega
theorem absI_nonneg (n : Int) : 0 ≤ absI n := by unfold absI; omega
def sizeRaw (n : Int) : Int := bif decide (n < 0) then wu64 (0 - wu64 n) else wu64 n
theorem sizeRaw_ok {n : Int} (h : -9223372036854775808 ≤ n ∧ n ≤ 9223372036854775807) : sizeRaw n = absI n := by
  unfold sizeRaw
  by_cases hn : n < 0
  · rw [decide_eq_true hn, cond_true, absI_of_neg hn]
    simp only [wu64_eq]
    omega
  · rw [decide_eq_false hn, cond_false, absI_of_nonneg (by omega), wu64_id (by omega)]
def fracOkB (a : Frac) : Bool :=
  bif decide (a.den < 1) then false else bif decide (1000000000000000000 < a.den) then false else bif decide (a.num < -1000000000000000000) then false else bif decide (1000000000000000000 < a.num) then false else
  !(gcdI (absI a.num) a.den != 1)
structure FracOk (a : Frac) : Prop where
  denlo : 1 ≤ a.den
  denhi : a.den ≤ 1000000000000000000
  numlo : -1000000000000000000 ≤ a.num
  numhi : a.num ≤ 1000000000000000000
  gcd : Int.gcd a.num a.den = 1
theorem gcdI_abs_left (a b : Int) : gcdI (absI a) b = gcdI a b := by simp [gcdI_eq, absI_eq, Int.gcd_eq_natAbs_gcd_natAbs]
theorem gcdI_abs_right (a b : Int) : gcdI a (absI b) = gcdI a b := by simp [gcdI_eq, absI_eq, Int.gcd_eq_natAbs_gcd_natAbs]
theorem fracOkB_iff {a : Frac} : fracOkB a = true ↔ FracOk a := by
  unfold fracOkB
  rw [gcdI_abs_left]
  simp only [cond_eq_ite, decide_eq_true_eq]
  constructor
  · intro h
    split at h
    · cases h
    split at h
    · cases h
    split at h
    · cases h
    split at h
    · cases h
    refine ⟨by omega, by omega, by omega, by omega, ?_⟩
    simp only [bne, Bool.not_not, beq_iff_eq, gcdI_eq] at h
    omega
  · intro h
    rw [if_neg (by have := h.denlo; omega), if_neg (by have := h.denhi; omega), if_neg (by have := h.numlo; omega), if_neg (by have := h.numhi; omega)]
    simp [gcdI_eq, h.gcd]
def checkF (a : Frac) : Int := bif fracOkB a then 0 else 8
def checkRaw (num den gd : Int) : Int :=
  bif decide (den < 1) then 8 else bif decide (1000000000000000000 < den) then 8 else bif decide (num < -1000000000000000000) then 8 else bif decide (1000000000000000000 < num) then 8 else
  bif gcdI (absI num) gd != 1 then 8 else 0
theorem checkRaw_ok (num den : Int) : checkRaw num den den = checkF ⟨num, den⟩ := by
  unfold checkRaw checkF fracOkB
  simp only [cond_eq_ite, decide_eq_true_eq]
  split
  · simp
  split
  · simp
  split
  · simp
  split
  · simp
  simp only [Bool.not_eq_true']
  cases h : gcdI (absI num) den != 1 <;> simp
theorem checkRaw_abs (num den : Int) : checkRaw num den (absI den) = checkF ⟨num, den⟩ := by
  by_cases hd : den < 1
  · rw [← checkRaw_ok]
    unfold checkRaw
    rw [decide_eq_true hd]
    rfl
  · rw [absI_of_nonneg (by omega), checkRaw_ok]
structure Big where
  a : Int
  b : Int
  c : Int
  d : Int
def Big.cells (x : Big) : List D := [.int .u64 x.a, .int .u64 x.b, .int .u64 x.c, .int .u64 x.d]
end Go.Ev

namespace Go.Ev
open Go
def lowF (minus : Bool) (n d : Int) : Frac × Int := bif decide (n ≤ 1000000000000000000) && decide (d ≤ 1000000000000000000) then (⟨bif minus then -n else n, d⟩, 0) else (fracZ, 16)
def diffSign (a b : Int) : Bool := !(decide (a < 0) == decide (b < 0))
def makeF (num den : Int) : Frac × Int := bif den == 0 then (fracZ, 18) else lowF (diffSign num den) (absI num / gcdI num den) (absI den / gcdI num den)
theorem gcdI_pos {a b : Int} (h : b ≠ 0) : 0 < gcdI a b := by
  have := Int.gcd_pos_of_ne_zero_right a h
  unfold gcdI
  omega
theorem quo_gcd {a g : Int} (ha : 0 ≤ a ∧ a ≤ 18446744073709551615) (hg : 0 < g) : wu64 (a.tdiv g) = a / g ∧ 0 ≤ a / g := by
  have h1 := Int.ediv_nonneg ha.1 (Int.le_of_lt hg)
  have h2 := Int.ediv_le_self g ha.1
  rw [Int.tdiv_eq_ediv_of_nonneg ha.1]
  exact ⟨wu64_id (by omega), h1⟩
theorem absI_range {n : Int} (h : -9223372036854775808 ≤ n ∧ n ≤ 9223372036854775807) : 0 ≤ absI n ∧ absI n ≤ 18446744073709551615 := by unfold absI; omega
def spanValid (a : Span) : Bool := bif decide (a.lo ≤ a.hi) then bif decide (-3000000000 ≤ a.lo) then decide (a.hi ≤ 3000000000) else false else false
theorem spanValid_iff {a : Span} : spanValid a = true ↔ a.lo ≤ a.hi ∧ -3000000000 ≤ a.lo ∧ a.hi ≤ 3000000000 := by
  unfold spanValid
  simp only [cond_eq_ite, decide_eq_true_eq]
  split
  · split
    · simp; omega
    · simp; omega
  · simp; omega
def rangedS (a : Span) : Span × Int := bif !(spanValid a) then (spanZ, 16) else (a, 0)
def addRaw (a b : Span) : Span × Int := bif !(spanValid a) then (spanZ, 8) else bif !(spanValid b) then (spanZ, 8) else rangedS ⟨w64 (a.lo + b.lo), w64 (a.hi + b.hi)⟩
def addS (a b : Span) : Span × Int := bif spanValid a && spanValid b then rangedS ⟨a.lo + b.lo, a.hi + b.hi⟩ else (spanZ, 8)
def subS (a b : Span) : Span × Int := bif spanValid a && spanValid b then rangedS ⟨a.lo - b.hi, a.hi - b.lo⟩ else (spanZ, 8)
def negS (a : Span) : Span := ⟨-a.hi, -a.lo⟩
def negRaw (a : Span) : Span := ⟨w64 (0 - a.hi), w64 (0 - a.lo)⟩
theorem addRaw_ok (a b : Span) : addRaw a b = addS a b := by
  unfold addRaw addS
  cases ha : spanValid a
  · rfl
  cases hb : spanValid b
  · rfl
  rw [spanValid_iff] at ha hb
  simp only [Bool.not_true, cond_false, Bool.and_self, cond_true]
  rw [w64_id (by omega), w64_id (by omega)]
theorem floor_of (n d : Int) (hd : 0 < d) : (if n.tmod d < 0 then n.tdiv d - 1 else n.tdiv d) = n / d := by
  have h1 := Int.mul_tdiv_add_tmod n d
  have h2 := Int.mul_ediv_add_emod n d
  have h3 := Int.emod_nonneg n (show d ≠ 0 by omega)
  have h4 := Int.emod_lt_of_pos n hd
  rcases Int.lt_or_le n 0 with hn | hn
  · have h5 : -d < n.tmod d := Int.lt_tmod_of_pos n hd
    have h6 : n.tmod d ≤ 0 := by
      have e := Int.neg_tmod n d
      have := Int.tmod_nonneg d (show 0 ≤ -n by omega)
      omega
    split
    · rename_i h7
      have : d * (n.tdiv d - 1) + (n.tmod d + d) = n := by rw [Int.mul_sub]; omega
      exact ((Int.ediv_emod_unique hd).2 ⟨by rw [Int.add_comm]; exact this, by omega, by omega⟩).1.symm
    · exact ((Int.ediv_emod_unique hd).2 ⟨by rw [Int.add_comm]; exact h1, by omega, by omega⟩).1.symm
  · rw [Int.tdiv_eq_ediv_of_nonneg hn, Int.tmod_eq_emod_of_nonneg hn, if_neg (by omega)]
theorem floor_range {n d : Int} (hd : 0 < d) (h : -9223372036854775808 ≤ n ∧ n ≤ 9223372036854775807) : -9223372036854775808 ≤ n / d ∧ n / d ≤ 9223372036854775807 := by
  constructor
  · rw [Int.le_ediv_iff_mul_le hd]
    have := Int.mul_le_mul_of_nonneg_left (show (1 : Int) ≤ d by omega) (show (0 : Int) ≤ 9223372036854775808 by omega)
    omega
  · have h1 : n / d < 9223372036854775808 := by
      apply Int.ediv_lt_of_lt_mul hd
      have := Int.mul_le_mul_of_nonneg_left (show (1 : Int) ≤ d by omega) (show (0 : Int) ≤ 9223372036854775808 by omega)
      omega
    omega
theorem tdiv_range {n d : Int} (hd : 0 < d) (h : -9223372036854775808 ≤ n ∧ n ≤ 9223372036854775807) : -9223372036854775808 ≤ n.tdiv d ∧ n.tdiv d ≤ 9223372036854775807 := by
  have h1 := Int.natAbs_tdiv_le_natAbs n d
  rcases Int.lt_or_le n 0 with hn | hn
  · have e := Int.neg_tdiv n d
    have := Int.tdiv_nonneg (show 0 ≤ -n by omega) (show 0 ≤ d by omega)
    omega
  · have := Int.tdiv_nonneg hn (show 0 ≤ d by omega)
    omega
def floorRaw (n d : Int) : Int := bif decide (n.tmod d < 0) then w64 (w64 (n.tdiv d) - 1) else w64 (n.tdiv d)
theorem floorRaw_ok {n d : Int} (hd : 0 < d) (h : -9223372036854775808 ≤ n ∧ n ≤ 9223372036854775807) : floorRaw n d = n / d := by
  have h1 := floor_of n d hd
  have h2 := floor_range hd h
  have h3 := tdiv_range hd h
  unfold floorRaw
  rw [w64_id (n := n.tdiv d) h3]
  by_cases hn : n.tmod d < 0
  · rw [if_pos hn] at h1
    rw [decide_eq_true hn, cond_true, h1, w64_id h2]
  · rw [if_neg hn] at h1
    rw [decide_eq_false hn, cond_false, h1]
def min4 (p q r s : Int) : Int := if s < (if r < (if q < p then q else p) then r else (if q < p then q else p)) then s else (if r < (if q < p then q else p) then r else (if q < p then q else p))
def max4 (p q r s : Int) : Int := if s > (if r > (if q > p then q else p) then r else (if q > p then q else p)) then s else (if r > (if q > p then q else p) then r else (if q > p then q else p))
def mulRaw' (a b : Span) : Span × Int := bif !(spanValid a) then (spanZ, 8) else bif !(spanValid b) then (spanZ, 8) else
  rangedS ⟨min4 (w64 (a.lo * b.lo)) (w64 (a.lo * b.hi)) (w64 (a.hi * b.lo)) (w64 (a.hi * b.hi)) / 1000000, w64 (0 - w64 (0 - max4 (w64 (a.lo * b.lo)) (w64 (a.lo * b.hi)) (w64 (a.hi * b.lo)) (w64 (a.hi * b.hi))) / 1000000)⟩
def mulS (a b : Span) : Span × Int := bif spanValid a && spanValid b then
  rangedS ⟨min4 (a.lo * b.lo) (a.lo * b.hi) (a.hi * b.lo) (a.hi * b.hi) / 1000000, -(-(max4 (a.lo * b.lo) (a.lo * b.hi) (a.hi * b.lo) (a.hi * b.hi)) / 1000000)⟩ else (spanZ, 8)
theorem mul_range {x y : Int} (hx : -3000000000 ≤ x ∧ x ≤ 3000000000) (hy : -3000000000 ≤ y ∧ y ≤ 3000000000) : -9000000000000000000 ≤ x * y ∧ x * y ≤ 9000000000000000000 := by
  have h : (x * y).natAbs ≤ 3000000000 * 3000000000 := by
    rw [Int.natAbs_mul]
    exact Nat.mul_le_mul (by omega) (by omega)
  omega
theorem max4_range {p q r s m : Int} (hp : -m ≤ p ∧ p ≤ m) (hq : -m ≤ q ∧ q ≤ m) (hr : -m ≤ r ∧ r ≤ m) (hs : -m ≤ s ∧ s ≤ m) : -m ≤ max4 p q r s ∧ max4 p q r s ≤ m := by
  unfold max4
  repeat' split
  all_goals omega
theorem mulRaw'_ok (a b : Span) : mulRaw' a b = mulS a b := by
  unfold mulRaw' mulS
  cases ha : spanValid a
  · rfl
  cases hb : spanValid b
  · rfl
  rw [spanValid_iff] at ha hb
  have h1 := mul_range (x := a.lo) (y := b.lo) (by omega) (by omega)
  have h2 := mul_range (x := a.lo) (y := b.hi) (by omega) (by omega)
  have h3 := mul_range (x := a.hi) (y := b.lo) (by omega) (by omega)
  have h4 := mul_range (x := a.hi) (y := b.hi) (by omega) (by omega)
  simp only [Bool.not_true, cond_false, Bool.and_self, cond_true]
  rw [w64_id (n := a.lo * b.lo) (by omega), w64_id (n := a.lo * b.hi) (by omega), w64_id (n := a.hi * b.lo) (by omega), w64_id (n := a.hi * b.hi) (by omega)]
  have h5 := max4_range h1 h2 h3 h4
  generalize max4 (a.lo * b.lo) (a.lo * b.hi) (a.hi * b.lo) (a.hi * b.hi) = m at *
  rw [w64_id (n := 0 - m) (by omega), w64_id (by omega)]
  simp
def aroundS (f : Frac) : Span := ⟨f.num * 1000000 / f.den, -(-(f.num * 1000000) / f.den)⟩
def aroundB (f : Frac) : Span × Bool := bif decide (3000000000 < absI f.num * 1000000 / f.den) then (spanZ, false) else (aroundS f, true)
def ofS (f : Frac) : Span × Int := bif fracOkB f then rangedS (aroundS f) else (spanZ, 8)
def aroundTail (num q r : Int) : Span × Bool := bif decide (3000000000 < q) then (spanZ, false) else
  bif r != 0 then (bif decide (num < 0) then (⟨w64 (0 - w64 (w64 q + 1)), w64 (0 - w64 q)⟩, true) else (⟨w64 q, w64 (w64 q + 1)⟩, true)) else
  (bif decide (num < 0) then (⟨w64 (0 - w64 q), w64 (0 - w64 q)⟩, true) else (⟨w64 q, w64 q⟩, true))
def aroundAns (K : AV → List Blk → Ans) (num den n : Int) : Ans :=
  bif decide (wu64 den ≤ (mul64 (wu64 n) 1000000).1) then K (rSpanB (spanZ, false)) [] else
  bif decide ((mul64 (wu64 n) 1000000).1 < wu64 den) then
    K (rSpanB (aroundTail num (((mul64 (wu64 n) 1000000).1 * 18446744073709551616 + (mul64 (wu64 n) 1000000).2) / wu64 den) (((mul64 (wu64 n) 1000000).1 * 18446744073709551616 + (mul64 (wu64 n) 1000000).2) % wu64 den))) [] else none
theorem aroundAns_ok {K : AV → List Blk → Ans} {num den n : Int} (h : FracOk ⟨num, den⟩) (hn : n = absI num) : aroundAns K num den n = K (rSpanB (aroundB ⟨num, den⟩)) [] := by
  obtain ⟨h1, h2, h3, h4, _⟩ := h
  simp only at h1 h2 h3 h4
  have hn0 : 0 ≤ n ∧ n ≤ 1000000000000000000 := by rw [hn]; unfold absI; omega
  unfold aroundAns
  rw [wu64_id (n := den) (by omega), wu64_id (n := n) (by omega)]
  have hX : (mul64 n 1000000).1 * 18446744073709551616 + (mul64 n 1000000).2 = n * 1000000 := by simp only [mul64]; omega
  rw [hX]
  unfold aroundB
  simp only
  rw [← hn]
  by_cases hb : den ≤ (mul64 n 1000000).1
  · have : 3000000000 < n * 1000000 / den := by
      apply Int.lt_of_lt_of_le (b := 18446744073709551616) (by omega)
      rw [Int.le_ediv_iff_mul_le (by omega)]
      simp only [mul64] at hb
      omega
    rw [decide_eq_true hb, decide_eq_true this]
    rfl
  · rw [decide_eq_false hb, decide_eq_true (show (mul64 n 1000000).1 < den by omega), cond_false, cond_true]
    unfold aroundTail
    by_cases hq : 3000000000 < n * 1000000 / den
    · rw [decide_eq_true hq]; rfl
    · rw [decide_eq_false hq, cond_false, cond_false]
      have hq0 : 0 ≤ n * 1000000 / den := Int.ediv_nonneg (by omega) (by omega)
      have hmul := Int.mul_ediv_add_emod (n * 1000000) den
      have hm0 := Int.emod_nonneg (n * 1000000) (show den ≠ 0 by omega)
      have hm1 := Int.emod_lt_of_pos (n * 1000000) (show 0 < den by omega)
      congr 2
      unfold aroundS
      simp only
      have up : ∀ x : Int, -(-x / den) = bif x % den != 0 then x / den + 1 else x / den := by
        intro x
        have a1 := Int.mul_ediv_add_emod x den
        have a2 := Int.emod_nonneg x (show den ≠ 0 by omega)
        have a3 := Int.emod_lt_of_pos x (show 0 < den by omega)
        by_cases hx : x % den = 0
        · rw [show (x % den != 0) = false by simp [hx], cond_false]
          have : -x / den = -(x / den) := ((Int.ediv_emod_unique (by omega)).2 ⟨(by rw [Int.mul_neg]; omega : 0 + den * (-(x / den)) = -x), by omega, by omega⟩).1
          omega
        · rw [show (x % den != 0) = true by simp [hx], cond_true]
          have : -x / den = -(x / den) - 1 := ((Int.ediv_emod_unique (by omega)).2 ⟨(by rw [Int.mul_sub, Int.mul_neg]; omega : (den - x % den) + den * (-(x / den) - 1) = -x), by omega, by omega⟩).1
          omega
      by_cases hneg : num < 0
      · have e : n = -num := by rw [hn]; exact absI_of_neg hneg
        have e1 : num * 1000000 = -(n * 1000000) := by omega
        rw [decide_eq_true hneg, e1, Int.neg_neg]
        have up1 := up (n * 1000000)
        generalize n * 1000000 / den = q at *
        generalize n * 1000000 % den = r at *
        cases hr : r != 0
        · simp only [hr, cond_false, cond_true] at up1 ⊢
          rw [w64_id (n := q) (by omega), w64_id (by omega)]
          refine Prod.ext ?_ rfl
          simp only [Span.mk.injEq]
          omega
        · simp only [hr, cond_true] at up1 ⊢
          rw [w64_id (n := q) (by omega), w64_id (n := q + 1) (by omega), w64_id (n := 0 - (q + 1)) (by omega), w64_id (by omega)]
          refine Prod.ext ?_ rfl
          simp only [Span.mk.injEq]
          omega
      · have e : n = num := by rw [hn]; exact absI_of_nonneg (by omega)
        rw [decide_eq_false hneg, ← e, up (n * 1000000)]
        generalize n * 1000000 / den = q at *
        generalize n * 1000000 % den = r at *
        cases hr : r != 0
        · simp only [cond_false]
          rw [w64_id (n := q) (by omega)]
        · simp only [cond_true, cond_false]
          rw [w64_id (n := q) (by omega), w64_id (n := q + 1) (by omega)]
theorem checkF_bad {f : Frac} : (checkF f != 0) = !(fracOkB f) := by
  unfold checkF
  cases fracOkB f <;> rfl
theorem sineOf_ok {K : AV → List Blk → Ans} {f : Frac} : (bif checkF f != 0 then K (rSpanE (spanZ, 8)) [] else bif fracOkB f then (bif !(aroundB f).2 then K (rSpanE (spanZ, 16)) [] else K (rSpanE (rangedS (aroundB f).1)) []) else none) = K (rSpanE (ofS f)) [] := by
  rw [checkF_bad]
  unfold ofS
  cases h : fracOkB f
  · rfl
  · simp only [Bool.not_true, cond_false, cond_true]
    have hk := fracOkB_iff.1 h
    have h1 := hk.denlo
    unfold aroundB
    by_cases hq : 3000000000 < absI f.num * 1000000 / f.den
    · rw [decide_eq_true hq]
      simp only [cond_true, Bool.not_false]
      congr 2
      unfold rangedS
      have : spanValid (aroundS f) = false := by
        cases hv : spanValid (aroundS f) with
        | false => rfl
        | true =>
          rw [spanValid_iff] at hv
          simp only [aroundS] at hv
          exfalso
          by_cases hn : f.num < 0
          · rw [absI_of_neg hn, Int.neg_mul] at hq
            omega
          · rw [absI_of_nonneg (by omega)] at hq
            have : f.num * 1000000 / f.den ≤ -(-(f.num * 1000000) / f.den) := by omega
            omega
      rw [this]
      rfl
    · rw [decide_eq_false hq]
      simp only [cond_false, Bool.not_true]
theorem eqAll_self : ∀ l : List D, eqAll l l = true
  | [] => rfl
  | x :: r => by simp only [eqAll, eqAll_self r, Bool.and_true]; cases x <;> simp [D.eq]
end Go.Ev

namespace Go.Ev
open Go
section
variable {P : Program} {G : Nat → Option (List D)} {gb : Nat} {EQ : Tab} {Γ : Nat → List AV → List Blk → (AV → List Blk → Ans) → Ans} {X : Nat → List AV → (AV → Ans) → Ans}
end
end Go.Ev

namespace Go.Ev
open Go
def nextI (t s j : Int) : Int := t * s / 18446744073709551616 / (j * (j + 1))
def sinI : Nat → Int → Int → Int → Int → Int
  | 0, sum, _, _, _ => sum
  | f + 1, sum, t, sq, j => bif t == 0 then sum else sinI f (wu64 (wu64 (sum - nextI t sq j) + nextI (nextI t sq j) sq (j + 2))) (nextI (nextI t sq j) sq (j + 2)) sq (j + 4)
def sqI (x : Int) : Int := x * x / 18446744073709551616
def sineI (x : Int) : Int := sinI 16 x x (sqI x) 2
def cosiI (x : Int) : Int := wu64 (0 - sinI 16 (sqI x / 2) (sqI x / 2) (sqI x) 3)
def angI (w n : Int) : Int := 28976077832308491369 * w / n
def loI (w n : Int) : Int := (bif decide (2 * w ≤ n) then sineI (angI w n) else cosiI (angI (n - w) n)) * 1000000 / 18446744073709551616
def riseI (w n : Int) : Span := bif w == 0 then ⟨0, 0⟩ else bif w == n then ⟨1000000, 1000000⟩ else bif 3 * w == n then ⟨500000, 500000⟩ else ⟨loI w n, loI w n + 1⟩
theorem nextI_le {t s j : Int} (ht : 0 ≤ t) (hs : 0 ≤ s ∧ s < 18446744073709551616) (hj : 1 ≤ j) : 0 ≤ nextI t s j ∧ nextI t s j * (j * (j + 1)) ≤ t := by
  have hjj : 0 < j * (j + 1) := Int.mul_pos (by omega) (by omega)
  have h1 : 0 ≤ t * s := Int.mul_nonneg ht hs.1
  have h2 : t * s ≤ t * 18446744073709551616 := Int.mul_le_mul_of_nonneg_left (by omega) ht
  have h3 : 0 ≤ t * s / 18446744073709551616 := by omega
  have h4 : t * s / 18446744073709551616 ≤ t := by omega
  unfold nextI
  refine ⟨Int.ediv_nonneg h3 (by omega), ?_⟩
  exact Int.le_trans (Int.ediv_mul_le _ (by omega)) h4
theorem nextI_bound {t s j c : Int} (ht : 0 ≤ t) (hs : 0 ≤ s ∧ s < 18446744073709551616) (hj : 1 ≤ j) (hc : c ≤ j * (j + 1)) : nextI t s j * c ≤ t := by
  obtain ⟨h1, h2⟩ := nextI_le ht hs hj
  exact Int.le_trans (Int.mul_le_mul_of_nonneg_left hc h1) h2
theorem jj_le {j c : Int} (hc : 0 ≤ c) (h : c ≤ j) : c * (c + 1) ≤ j * (j + 1) := Int.mul_le_mul h (by omega) (by omega) (by omega)
theorem sinI_range : ∀ (f : Nat) {s t sq j : Int}, 0 ≤ s ∧ s ≤ 18446744073709551615 → 0 ≤ sinI f s t sq j ∧ sinI f s t sq j ≤ 18446744073709551615
  | 0, s, t, sq, j, h => h
  | f + 1, s, t, sq, j, h => by
    rw [sinI]
    cases t == 0 with
    | true => exact h
    | false => exact sinI_range f (by rw [wu64_eq]; omega)
section
variable {P : Program} {G : Nat → Option (List D)} {gb : Nat} {EQ : Tab} {Γ : Nat → List AV → List Blk → (AV → List Blk → Ans) → Ans} {X : Nat → List AV → (AV → Ans) → Ans}
def nextOn (j : Int) : Bool := decide (1 ≤ j) && decide (j ≤ 1000)
theorem series_rounds (hΓ : GOK P G gb Γ X) (hEQ : ∀ t, t ∈ EQ.eq → EqOK P t) (hm : P.follows .mixedOrders = true) {c : Code} {e fuel NN : Nat} {M : List Blk} {keep : List Nat} (TT : Int → Int → Int → TS) (T1 : Int → TS) (sq : Int) (hsq : 0 ≤ sq ∧ sq < 18446744073709551616)
    (hless : ∀ s t j, Less (T1 s) (TT s t j))
    (hb : ∀ s t j : Int, evCode P G EQ Γ X noL fuel c (TT s t j) M NN (fun x T M N => some (.st x (forget keep T) M N)) =
      bif t != 0 then (bif nextOn j then bif nextOn (wu64 (j + 2)) then some (.st .normal (TT (wu64 (wu64 (s - nextI t sq j) + nextI (nextI t sq j) sq (wu64 (j + 2)))) (nextI (nextI t sq j) sq (wu64 (j + 2))) (wu64 (j + 4))) M NN) else none else none)
      else some (.st (.exit e) (TT s t j) M NN)) :
    ∀ (f : Nat) (s t j : Int), 0 ≤ t → t < 16 ^ f → 1 ≤ j → j + 4 * f ≤ 900 → ∃ k, RoundsOK P G gb c k (TT s t j) M NN (.exit e) (T1 (sinI f s t sq j)) M NN := by
  have stop : ∀ (f : Nat) (s j : Int), ∃ k, RoundsOK P G gb c k (TT s 0 j) M NN (.exit e) (T1 (sinI f s 0 sq j)) M NN := by
    intro f s j
    have e1 : sinI f s 0 sq j = s := by cases f <;> rfl
    rw [e1]
    exact ⟨1, (RoundsOK.fin (Λ := noL) hΓ hEQ hm (noL_ok _) (hb s 0 j)).weak (hless _ _ _)⟩
  intro f
  induction f with
  | zero =>
    intro s t j h0 h1 _ _
    have : t = 0 := by simp at h1; omega
    subst this
    exact stop 0 s j
  | succ f ih =>
    intro s t j h0 h1 hj hj2
    by_cases ht : t = 0
    · subst ht
      exact stop _ s j
    · have h := hb s t j
      have e1 : (t != 0) = true := by simpa using ht
      have e2 : nextOn j = true := by simp only [nextOn, Bool.and_eq_true, decide_eq_true_eq]; omega
      have e3 : nextOn (j + 2) = true := by simp only [nextOn, Bool.and_eq_true, decide_eq_true_eq]; omega
      rw [e1, wu64_id (n := j + 2) (by omega), wu64_id (n := j + 4) (by omega), e2, e3] at h
      simp only [cond_true] at h
      have a1 := nextI_le h0 hsq hj
      have a2 := nextI_bound (c := 2) h0 hsq hj (by have := jj_le (c := 1) (by omega) hj; omega)
      have b1 := nextI_le a1.1 hsq (j := j + 2) (by omega)
      have b2 := nextI_bound (c := 12) a1.1 hsq (j := j + 2) (by omega) (by have := jj_le (c := 3) (j := j + 2) (by omega) (by omega); omega)
      have hlt : nextI (nextI t sq j) sq (j + 2) < 16 ^ f := by
        rw [Int.pow_succ] at h1
        omega
      obtain ⟨k, hk⟩ := ih (wu64 (wu64 (s - nextI t sq j) + nextI (nextI t sq j) sq (j + 2))) (nextI (nextI t sq j) sq (j + 2)) (j + 4) b1.1 hlt (by omega) (by omega)
      have e4 : sinI (f + 1) s t sq j = sinI f (wu64 (wu64 (s - nextI t sq j) + nextI (nextI t sq j) sq (j + 2))) (nextI (nextI t sq j) sq (j + 2)) sq (j + 4) := by
        have : (t == 0) = false := by simpa using ht
        rw [sinI, this]
        rfl
      rw [e4]
      exact ⟨k + 1, RoundsOK.go (Λ := noL) hΓ hEQ hm (noL_ok _) h hk⟩
end
theorem next_ok {t s j : Int} (ht : 0 ≤ t ∧ t ≤ 18446744073709551615) (hs : 0 ≤ s ∧ s ≤ 18446744073709551615) (hj : nextOn j = true) : (wu64 (j * wu64 (j + 1)) == 0) = false ∧ wu64 ((mul64 t s).1.tdiv (wu64 (j * wu64 (j + 1)))) = nextI t s j := by
  simp only [nextOn, Bool.and_eq_true, decide_eq_true_eq] at hj
  have hjj : 0 < j * (j + 1) := Int.mul_pos (by omega) (by omega)
  have hjj2 : j * (j + 1) ≤ 1000 * 1001 := Int.mul_le_mul (by omega) (by omega) (by omega) (by omega)
  rw [wu64_id (n := j + 1) (by omega), wu64_id (n := j * (j + 1)) (by omega)]
  refine ⟨by simp; omega, ?_⟩
  have h1 := nextI_le ht.1 (s := s) (by omega) hj.1
  have h2 : 0 ≤ t * s / 18446744073709551616 := Int.ediv_nonneg (Int.mul_nonneg ht.1 hs.1) (by omega)
  have h3 := nextI_bound (c := 1) ht.1 (s := s) (by omega) hj.1 (by omega)
  unfold mul64
  simp only
  rw [Int.tdiv_eq_ediv_of_nonneg h2]
  exact wu64_id (by unfold nextI at h1 h3; omega)
def serDom (j : Int) (l : List Int) : Bool := match l with | [_, x, s, k] => decide (0 ≤ x) && (decide (x < 18446744073709551616) && (decide (0 ≤ s) && (decide (s < 18446744073709551616) && k == j))) | _ => false
def serFin (l : List Int) : List Int := match l with | [s, t, sq, j] => [sinI 16 s t sq j] | _ => []
theorem sqI_range {x : Int} (h : 0 ≤ x ∧ x ≤ 18446744073709551615) : 0 ≤ sqI x ∧ sqI x ≤ 18446744073709551615 := by
  have h1 : 0 ≤ x * x := Int.mul_nonneg h.1 h.1
  have h2 : x * x ≤ x * 18446744073709551616 := Int.mul_le_mul_of_nonneg_left (by omega) h.1
  unfold sqI
  omega
def angOn (w n : Int) : Bool := decide (0 ≤ w) && (decide (2 * w ≤ n) && (decide (1 ≤ n) && decide (n ≤ 720)))
theorem ang_ok {w n : Int} (h : angOn w n = true) : decide (wu64 ((mul64 10529333758598939753 (wu64 w)).1 + wu64 w) < wu64 n) = true ∧
    (wu64 ((mul64 10529333758598939753 (wu64 w)).1 + wu64 w) * 18446744073709551616 + (mul64 10529333758598939753 (wu64 w)).2) / wu64 n = angI w n := by
  simp only [angOn, Bool.and_eq_true, decide_eq_true_eq] at h
  obtain ⟨h1, h2, h3, h4⟩ := h
  rw [wu64_id (n := w) (by omega), wu64_id (n := n) (by omega)]
  unfold mul64
  simp only
  rw [wu64_id (by omega)]
  refine ⟨decide_eq_true (by omega), ?_⟩
  unfold angI
  congr 1
  omega
theorem angI_range {w n : Int} (h : angOn w n = true) : 0 ≤ angI w n ∧ angI w n ≤ 18446744073709551615 := by
  simp only [angOn, Bool.and_eq_true, decide_eq_true_eq] at h
  obtain ⟨h1, h2, h3, h4⟩ := h
  unfold angI
  refine ⟨Int.ediv_nonneg (by omega) (by omega), ?_⟩
  have : 28976077832308491369 * w / n < 18446744073709551616 := Int.ediv_lt_of_lt_mul (by omega) (by omega)
  omega
theorem sineI_range {x : Int} (h : 0 ≤ x ∧ x ≤ 18446744073709551615) : 0 ≤ sineI x ∧ sineI x ≤ 18446744073709551615 := sinI_range 16 h
theorem cosiI_range (x : Int) : 0 ≤ cosiI x ∧ cosiI x ≤ 18446744073709551615 := by unfold cosiI; rw [wu64_eq]; omega
def riseOn (w n : Int) : Bool := decide (0 ≤ w) && (decide (w ≤ n) && (decide (1 ≤ n) && decide (n ≤ 720)))
def riseTail (K : AV → List Blk → Ans) (v : Int) : Ans := K (rSpan ⟨w64 (mul64 v 1000000).1, w64 (w64 (mul64 v 1000000).1 + 1)⟩) []
def riseAns (K : AV → List Blk → Ans) (w n : Int) : Ans :=
  bif w == 0 then K (rSpan ⟨0, 0⟩) [] else bif w == n then K (rSpan ⟨1000000, 1000000⟩) [] else bif w64 (3 * w) == n then K (rSpan ⟨500000, 500000⟩) [] else
  bif decide (w64 (2 * w) ≤ n) then (bif angOn w n then riseTail K (sineI (angI w n)) else none) else (bif angOn (w64 (n - w)) n then riseTail K (cosiI (angI (w64 (n - w)) n)) else none)
theorem riseAns_ok {K : AV → List Blk → Ans} {w n : Int} (h : riseOn w n = true) : riseAns K w n = K (rSpan (riseI w n)) [] := by
  simp only [riseOn, Bool.and_eq_true, decide_eq_true_eq] at h
  obtain ⟨h1, h2, h3, h4⟩ := h
  unfold riseAns riseI loI
  rw [w64_id (n := 3 * w) (by omega), w64_id (n := 2 * w) (by omega), w64_id (n := n - w) (by omega)]
  cases w == 0 with
  | true => rfl
  | false =>
    cases w == n with
    | true => rfl
    | false =>
      cases 3 * w == n with
      | true => rfl
      | false =>
        simp only [cond_false]
        have tail : ∀ v : Int, 0 ≤ v ∧ v ≤ 18446744073709551615 → riseTail K v = K (rSpan ⟨v * 1000000 / 18446744073709551616, v * 1000000 / 18446744073709551616 + 1⟩) [] := by
          intro v hv
          unfold riseTail mul64
          simp only
          rw [w64_id (n := v * 1000000 / 18446744073709551616) (by omega), w64_id (by omega)]
        by_cases hc : 2 * w ≤ n
        · have ho : angOn w n = true := by simp [angOn, h1, hc, h3, h4]
          rw [decide_eq_true hc, ho]
          simp only [cond_true]
          exact tail _ (sineI_range (angI_range ho))
        · have ho : angOn (n - w) n = true := by simp only [angOn, Bool.and_eq_true, decide_eq_true_eq]; omega
          rw [decide_eq_false hc, ho]
          simp only [cond_true, cond_false]
          exact tail _ (cosiI_range _)
def turnS (u n : Int) : Span :=
  bif u % (4 * n) / n == 0 then riseI (u % (4 * n) % n) n else bif u % (4 * n) / n == 1 then riseI (n - u % (4 * n) % n) n else bif u % (4 * n) / n == 2 then negS (riseI (u % (4 * n) % n) n) else negS (riseI (n - u % (4 * n) % n) n)
def turnOn (u n : Int) : Bool := decide (1 ≤ n) && (decide (n ≤ 720) && (decide (-1000000000 ≤ u) && decide (u ≤ 1000000000)))
def turnTail (K : AV → List Blk → Ans) (u n : Int) : Ans := bif n == 0 then none else bif n == 0 then none else
  bif w64 (u.tdiv n) == 0 then (bif riseOn (u.tmod n) n then K (rSpan (riseI (u.tmod n) n)) [] else none) else
  bif w64 (u.tdiv n) == 1 then (bif riseOn (w64 (n - u.tmod n)) n then K (rSpan (riseI (w64 (n - u.tmod n)) n)) [] else none) else
  bif w64 (u.tdiv n) == 2 then (bif riseOn (u.tmod n) n then K (rSpan (negRaw (riseI (u.tmod n) n))) [] else none) else
  (bif riseOn (w64 (n - u.tmod n)) n then K (rSpan (negRaw (riseI (w64 (n - u.tmod n)) n))) [] else none)
def turnAns (K : AV → List Blk → Ans) (u n : Int) : Ans := bif w64 (4 * n) == 0 then none else bif w64 (4 * n) == 0 then none else turnTail K ((w64 (u.tmod (w64 (4 * n)) + w64 (4 * n))).tmod (w64 (4 * n))) n
theorem loI_range {w n : Int} (h : riseOn w n = true) : 0 ≤ loI w n ∧ loI w n < 1000000 := by
  simp only [riseOn, Bool.and_eq_true, decide_eq_true_eq] at h
  obtain ⟨h1, h2, h3, h4⟩ := h
  unfold loI
  by_cases hc : 2 * w ≤ n
  · have ho : angOn w n = true := by simp [angOn, h1, hc, h3, h4]
    rw [decide_eq_true hc, cond_true]
    have := sineI_range (angI_range ho)
    omega
  · rw [decide_eq_false hc, cond_false]
    have := cosiI_range (angI (n - w) n)
    omega
theorem riseI_range {w n : Int} (h : riseOn w n = true) : 0 ≤ (riseI w n).lo ∧ (riseI w n).lo ≤ (riseI w n).hi ∧ (riseI w n).hi ≤ 1000000 ∧ (riseI w n).hi ≤ (riseI w n).lo + 1 := by
  have := loI_range h
  unfold riseI
  cases w == 0 <;> cases w == n <;> cases 3 * w == n <;> simp <;> omega
theorem negRaw_rise {w n : Int} (h : riseOn w n = true) : negRaw (riseI w n) = negS (riseI w n) := by
  have := riseI_range h
  unfold negRaw negS
  rw [w64_id (n := 0 - (riseI w n).hi) (by omega), w64_id (n := 0 - (riseI w n).lo) (by omega)]
  congr 1 <;> omega
theorem turnTail_ok {K : AV → List Blk → Ans} {u n : Int} (hn : 1 ≤ n ∧ n ≤ 720) (hu : 0 ≤ u ∧ u < 4 * n) : turnTail K u n = K (rSpan (turnS u n)) [] := by
  have e0 : (n == 0) = false := by simp; omega
  have hm : 0 ≤ u % n ∧ u % n < n := ⟨Int.emod_nonneg _ (by omega), Int.emod_lt_of_pos _ (by omega)⟩
  have hd : 0 ≤ u / n ∧ u / n ≤ 3 := by
    refine ⟨Int.ediv_nonneg hu.1 (by omega), ?_⟩
    have : u / n < 4 := Int.ediv_lt_of_lt_mul (by omega) (by omega)
    omega
  have o1 : riseOn (u % n) n = true := by simp only [riseOn, Bool.and_eq_true, decide_eq_true_eq]; omega
  have o2 : riseOn (n - u % n) n = true := by simp only [riseOn, Bool.and_eq_true, decide_eq_true_eq]; omega
  unfold turnTail turnS
  rw [e0, Int.tdiv_eq_ediv_of_nonneg hu.1, Int.tmod_eq_emod_of_nonneg hu.1, Int.emod_eq_of_lt hu.1 hu.2, w64_id (n := u / n) (by omega), w64_id (n := n - u % n) (by omega), o1, o2, negRaw_rise o1, negRaw_rise o2]
  simp only [cond_false, cond_true]
  cases u / n == 0 with
  | true => rfl
  | false =>
    cases u / n == 1 with
    | true => rfl
    | false => cases u / n == 2 <;> rfl
theorem turnS_mod (u n : Int) : turnS (u % (4 * n)) n = turnS u n := by
  unfold turnS
  rw [Int.emod_emod]
theorem turnAns_ok {K : AV → List Blk → Ans} {u n : Int} (h : turnOn u n = true) : turnAns K u n = K (rSpan (turnS u n)) [] := by
  simp only [turnOn, Bool.and_eq_true, decide_eq_true_eq] at h
  obtain ⟨h1, h2, h3, h4⟩ := h
  unfold turnAns
  rw [w64_id (n := 4 * n) (by omega), show (4 * n == 0) = false by simp; omega]
  simp only [cond_false]
  have e1 : -(4 * n) < u.tmod (4 * n) := by
    by_cases hu : 0 ≤ u
    · have := Int.tmod_nonneg (4 * n) hu
      omega
    · have := Int.tmod_lt_of_pos (-u) (b := 4 * n) (by omega)
      rw [Int.neg_tmod] at this
      omega
  have e2 := Int.tmod_lt_of_pos u (b := 4 * n) (by omega)
  rw [w64_id (by omega), Int.tmod_eq_emod_of_nonneg (by omega), Int.add_emod_right]
  have e3 : u.tmod (4 * n) % (4 * n) = u % (4 * n) := by
    conv => rhs; rw [← Int.tmod_add_mul_tdiv u (4 * n)]
    rw [Int.add_mul_emod_self_left]
  rw [e3, turnTail_ok ⟨h1, h2⟩ ⟨Int.emod_nonneg _ (by omega), Int.emod_lt_of_pos _ (by omega)⟩, turnS_mod]
def cosS (k n : Int) : Span × Int := bif decide (n < 1) then (spanZ, 2) else bif decide (720 < n) then (spanZ, 2) else (turnS (4 * k + n) n, 0)
def sinS (k n : Int) : Span × Int := bif decide (n < 1) then (spanZ, 2) else bif decide (720 < n) then (spanZ, 2) else (turnS (4 * k) n, 0)
theorem turnS_congr {u v n : Int} (h : u % (4 * n) = v % (4 * n)) : turnS u n = turnS v n := by
  rw [← turnS_mod u, h, turnS_mod]
theorem tmod_four (k n c : Int) : (4 * k.tmod n + c) % (4 * n) = (4 * k + c) % (4 * n) := by
  have e : 4 * k + c = (4 * k.tmod n + c) + 4 * n * (k.tdiv n) := by
    have := Int.tmod_add_mul_tdiv k n
    rw [Int.mul_assoc]
    omega
  rw [e, Int.add_mul_emod_self_left]
theorem tmod_range {k n : Int} (hn : 0 < n) : -n < k.tmod n ∧ k.tmod n < n := by
  refine ⟨?_, Int.tmod_lt_of_pos k hn⟩
  by_cases hu : 0 ≤ k
  · have := Int.tmod_nonneg n hu
    omega
  · have := Int.tmod_lt_of_pos (-k) (b := n) (by omega)
    rw [Int.neg_tmod] at this
    omega
def cosAns (K : AV → List Blk → Ans) (k n : Int) : Ans := bif decide (n < 1) then K (rSpanE (spanZ, 2)) [] else bif decide (720 < n) then K (rSpanE (spanZ, 2)) [] else bif n == 0 then none else
  bif turnOn (w64 (w64 (4 * k.tmod n) + n)) n then K (rSpanE (turnS (w64 (w64 (4 * k.tmod n) + n)) n, 0)) [] else none
def sinAns (K : AV → List Blk → Ans) (k n : Int) : Ans := bif decide (n < 1) then K (rSpanE (spanZ, 2)) [] else bif decide (720 < n) then K (rSpanE (spanZ, 2)) [] else bif n == 0 then none else
  bif turnOn (w64 (4 * k.tmod n)) n then K (rSpanE (turnS (w64 (4 * k.tmod n)) n, 0)) [] else none
theorem cosAns_ok {K : AV → List Blk → Ans} {k n : Int} : cosAns K k n = K (rSpanE (cosS k n)) [] := by
  unfold cosAns cosS
  by_cases h1 : n < 1
  · rw [decide_eq_true h1]; rfl
  by_cases h2 : 720 < n
  · rw [decide_eq_false h1, decide_eq_true h2]; rfl
  rw [decide_eq_false h1, decide_eq_false h2, show (n == 0) = false by simp; omega]
  have hr := tmod_range (k := k) (n := n) (by omega)
  rw [w64_id (n := 4 * k.tmod n) (by omega), w64_id (by omega), show turnOn (4 * k.tmod n + n) n = true by simp only [turnOn, Bool.and_eq_true, decide_eq_true_eq]; omega, turnS_congr (tmod_four k n n)]
  rfl
theorem sinAns_ok {K : AV → List Blk → Ans} {k n : Int} : sinAns K k n = K (rSpanE (sinS k n)) [] := by
  unfold sinAns sinS
  by_cases h1 : n < 1
  · rw [decide_eq_true h1]; rfl
  by_cases h2 : 720 < n
  · rw [decide_eq_false h1, decide_eq_true h2]; rfl
  rw [decide_eq_false h1, decide_eq_false h2, show (n == 0) = false by simp; omega]
  have hr := tmod_range (k := k) (n := n) (by omega)
  have he := tmod_four k n 0
  rw [Int.add_zero, Int.add_zero] at he
  rw [w64_id (n := 4 * k.tmod n) (by omega), show turnOn (4 * k.tmod n) n = true by simp only [turnOn, Bool.and_eq_true, decide_eq_true_eq]; omega, turnS_congr he]
  rfl
end Go.Ev

namespace Go.Ev
open Go
def timesI (x y : Int) : Int := x * y / 100000000000000000 % 9223372036854775808
def serI : Nat → Int → Int → Int → Int → Bool → Int
  | 0, sum, _, _, _, _ => sum
  | f + 1, sum, t, sq, k, p => serI f (bif p then wu64 (sum - wu64 ((timesI t sq).tdiv (wu64 (k * wu64 (k + 1))))) else wu64 (sum + wu64 ((timesI t sq).tdiv (wu64 (k * wu64 (k + 1)))))) (wu64 ((timesI t sq).tdiv (wu64 (k * wu64 (k + 1))))) sq (wu64 (k + 2)) (!p)
section
variable {P : Program} {G : Nat → Option (List D)} {gb : Nat} {EQ : Tab} {Γ : Nat → List AV → List Blk → (AV → List Blk → Ans) → Ans} {X : Nat → List AV → (AV → Ans) → Ans}
end
def cosSer (x : Int) : Int := serI 12 100000000000000000 100000000000000000 (timesI x x) 1 true
def sinSer (x : Int) : Int := serI 12 x x (timesI x x) 2 true
def partI (k n : Int) : Int := 628318530717958648 * k / n
def stepS (c : Int) (whole : Bool) : Span := bif whole then ⟨(c + 50000000000) / 100000000000, (c + 50000000000) / 100000000000⟩ else ⟨c / 100000000000, c / 100000000000 + 1⟩
def refLo (w n : Int) : Int := bif decide (2 * (n - w) ≤ n) then cosSer (partI (n - w) (4 * n)) else sinSer (partI w (4 * n))
def refI (w n : Int) : Span := stepS (refLo w n) (bif decide (2 * (n - w) ≤ n) then n == w else (w == 0 || 3 * w == n))
def quad (r : Int → Span) (u n : Int) : Span :=
  bif u % (4 * n) / n == 0 then r (u % (4 * n) % n) else bif u % (4 * n) / n == 1 then r (n - u % (4 * n) % n) else bif u % (4 * n) / n == 2 then negS (r (u % (4 * n) % n)) else negS (r (n - u % (4 * n) % n))
theorem turnS_quad (u n : Int) : turnS u n = quad (fun w => riseI w n) u n := rfl
theorem quad_div {n w q : Int} (h : 0 ≤ w ∧ w < n) : (q * n + w) / n = q ∧ (q * n + w) % n = w := by
  rw [Int.add_comm, Int.add_mul_ediv_right _ _ (by omega), Int.add_mul_emod_self_right, Int.ediv_eq_zero_of_lt h.1 h.2, Int.emod_eq_of_lt h.1 h.2]
  omega
section
variable {r : Int → Span} {u n w : Int}
theorem quad0 (h : 0 ≤ w ∧ w < n) (hu : u % (4 * n) = w) : quad r u n = r w := by
  have := quad_div (q := 0) h
  rw [Int.zero_mul, Int.zero_add] at this
  unfold quad
  rw [hu, this.1, this.2]
  rfl
theorem quad1 (h : 0 ≤ w ∧ w < n) (hu : u % (4 * n) = n + w) : quad r u n = r (n - w) := by
  have := quad_div (q := 1) h
  rw [Int.one_mul] at this
  unfold quad
  rw [hu, this.1, this.2]
  rfl
theorem quad2 (h : 0 ≤ w ∧ w < n) (hu : u % (4 * n) = 2 * n + w) : quad r u n = negS (r w) := by
  have := quad_div (q := 2) h
  unfold quad
  rw [hu, this.1, this.2]
  rfl
theorem quad3 (h : 0 ≤ w ∧ w < n) (hu : u % (4 * n) = 3 * n + w) : quad r u n = negS (r (n - w)) := by
  have := quad_div (q := 3) h
  unfold quad
  rw [hu, this.1, this.2]
  rfl
theorem mod_of {u v m k : Int} (h : 0 ≤ v ∧ v < m) (e : u = v + m * k) : u % m = v := by rw [e, Int.add_mul_emod_self_left, Int.emod_eq_of_lt h.1 h.2]
theorem quad_cases (hn : 0 < n) (u : Int) : ∃ w k, 0 ≤ w ∧ w < n ∧ (u = w + 4 * n * k ∨ u = n + w + 4 * n * k ∨ u = 2 * n + w + 4 * n * k ∨ u = 3 * n + w + 4 * n * k) := by
  have h1 := Int.emod_add_mul_ediv u (4 * n)
  have h2 := Int.emod_nonneg u (show 4 * n ≠ 0 by omega)
  have h3 := Int.emod_lt_of_pos u (show 0 < 4 * n by omega)
  generalize u % (4 * n) = v at *
  generalize u / (4 * n) = k at *
  by_cases a : v < n
  · exact ⟨v, k, h2, a, .inl h1.symm⟩
  by_cases b : v < 2 * n
  · exact ⟨v - n, k, by omega, by omega, .inr (.inl (by omega))⟩
  by_cases c : v < 3 * n
  · exact ⟨v - 2 * n, k, by omega, by omega, .inr (.inr (.inl (by omega)))⟩
  · exact ⟨v - 3 * n, k, by omega, by omega, .inr (.inr (.inr (by omega)))⟩
end
theorem negS_negS (a : Span) : negS (negS a) = a := by cases a; simp [negS]
theorem quad_val {r : Int → Span} {u n w k : Int} (hw : 0 ≤ w ∧ w < n) :
    (u = w + 4 * n * k → quad r u n = r w) ∧ (u = n + w + 4 * n * k → quad r u n = r (n - w)) ∧ (u = 2 * n + w + 4 * n * k → quad r u n = negS (r w)) ∧ (u = 3 * n + w + 4 * n * k → quad r u n = negS (r (n - w))) :=
  ⟨fun h => quad0 hw (mod_of (by omega) h), fun h => quad1 hw (mod_of (by omega) h), fun h => quad2 hw (mod_of (by omega) h), fun h => quad3 hw (mod_of (by omega) h)⟩
theorem quad_half {r : Int → Span} {n : Int} (hn : 0 < n) (u : Int) : quad r (u + 2 * n) n = negS (quad r u n) := by
  obtain ⟨w, k, h1, h2, h | h | h | h⟩ := quad_cases hn u
  · rw [(quad_val ⟨h1, h2⟩).1 h, (quad_val (k := k) ⟨h1, h2⟩).2.2.1 (by omega)]
  · rw [(quad_val ⟨h1, h2⟩).2.1 h, (quad_val (k := k) ⟨h1, h2⟩).2.2.2 (by omega)]
  · rw [(quad_val ⟨h1, h2⟩).2.2.1 h, (quad_val (k := k + 1) ⟨h1, h2⟩).1 (by rw [Int.mul_add]; omega), negS_negS]
  · rw [(quad_val ⟨h1, h2⟩).2.2.2 h, (quad_val (k := k + 1) ⟨h1, h2⟩).2.1 (by rw [Int.mul_add]; omega), negS_negS]
end Go.Ev

namespace Go.Ev
end Go.Ev

namespace Go.Ev
open Go
structure PairOk (w n : Int) : Prop where
  sin : loI w n = refLo w n / 100000000000
  cos : loI (n - w) n = refLo (n - w) n / 100000000000
  low : loI w n * loI w n / 1000000 + loI (n - w) n * loI (n - w) n / 1000000 ≤ 1000000
  high : 1000000 ≤ ((loI w n + 1) * (loI w n + 1) + 999999) / 1000000 + ((loI (n - w) n + 1) * (loI (n - w) n + 1) + 999999) / 1000000
end Go.Ev

namespace Go.Ev
open Go
structure RiseOk (w n : Int) : Prop where
  eq : riseI w n = refI w n
  low : (riseI w n).lo * (riseI w n).lo / 1000000 + (riseI (n - w) n).lo * (riseI (n - w) n).lo / 1000000 ≤ 1000000
  high : 1000000 ≤ ((riseI w n).hi * (riseI w n).hi + 999999) / 1000000 + ((riseI (n - w) n).hi * (riseI (n - w) n).hi + 999999) / 1000000
instance (w n : Int) : Decidable (RiseOk w n) :=
  if h : riseI w n = refI w n ∧ (riseI w n).lo * (riseI w n).lo / 1000000 + (riseI (n - w) n).lo * (riseI (n - w) n).lo / 1000000 ≤ 1000000 ∧ 1000000 ≤ ((riseI w n).hi * (riseI w n).hi + 999999) / 1000000 + ((riseI (n - w) n).hi * (riseI (n - w) n).hi + 999999) / 1000000
  then isTrue ⟨h.1, h.2.1, h.2.2⟩ else isFalse fun k => h ⟨k.eq, k.low, k.high⟩
end Go.Ev

namespace Go.Ev
end Go.Ev

namespace Go.Ev
open Go
def VI (w n : Int) : Int := bif w == n then 18446744073709551616 else bif 3 * w == n then 9223372036854775808 else bif decide (2 * w ≤ n) then sineI (angI w n) else cosiI (angI (n - w) n)
structure StepOk (n w : Int) : Prop where
  s1 : 18446744073709551616 * VI (w + 1) n - (VI w n * VI (n - 1) n + VI (n - w) n * VI 1 n) ≤ 18446744073709551616000
  s2 : -18446744073709551616000 ≤ 18446744073709551616 * VI (w + 1) n - (VI w n * VI (n - 1) n + VI (n - w) n * VI 1 n)
  c1 : 18446744073709551616 * VI (n - w - 1) n - (VI (n - w) n * VI (n - 1) n - VI w n * VI 1 n) ≤ 18446744073709551616000
  c2 : -18446744073709551616000 ≤ 18446744073709551616 * VI (n - w - 1) n - (VI (n - w) n * VI (n - 1) n - VI w n * VI 1 n)
def VS (n w : Int) : Span := ⟨VI w n, VI w n⟩
def SZ (n u : Int) : Int := (quad (VS n) u n).lo
def CZ (n u : Int) : Int := SZ n (u + n)
section
variable {n : Int}
theorem SZ_half (hn : 1 ≤ n) (u : Int) : SZ n (u + 2 * n) = -SZ n u := by
  unfold SZ
  rw [quad_half (by omega)]
  obtain ⟨w, k, h1, h2, h | h | h | h⟩ := quad_cases (show 0 < n by omega) u
  · rw [(quad_val ⟨h1, h2⟩).1 h]; rfl
  · rw [(quad_val ⟨h1, h2⟩).2.1 h]; rfl
  · rw [(quad_val ⟨h1, h2⟩).2.2.1 h]; simp [negS, VS]
  · rw [(quad_val ⟨h1, h2⟩).2.2.2 h]; simp [negS, VS]
theorem CZ_quarter (hn : 1 ≤ n) (u : Int) : CZ n (u + n) = -SZ n u := by
  unfold CZ
  rw [show u + n + n = u + 2 * n by omega, SZ_half hn]
structure NextOk (n u : Int) : Prop where
  s1 : 18446744073709551616 * SZ n (u + 1) - (SZ n u * CZ n 1 + CZ n u * SZ n 1) ≤ 18446744073709551616000
  s2 : -18446744073709551616000 ≤ 18446744073709551616 * SZ n (u + 1) - (SZ n u * CZ n 1 + CZ n u * SZ n 1)
  c1 : 18446744073709551616 * CZ n (u + 1) - (CZ n u * CZ n 1 - SZ n u * SZ n 1) ≤ 18446744073709551616000
  c2 : -18446744073709551616000 ≤ 18446744073709551616 * CZ n (u + 1) - (CZ n u * CZ n 1 - SZ n u * SZ n 1)
theorem NextOk.quarter (hn : 1 ≤ n) {u : Int} (h : NextOk n u) : NextOk n (u + n) := by
  have e1 : SZ n (u + n) = CZ n u := rfl
  have e2 : CZ n (u + n) = -SZ n u := CZ_quarter hn u
  have e3 : SZ n (u + n + 1) = CZ n (u + 1) := by unfold CZ; congr 1; omega
  have e4 : CZ n (u + n + 1) = -SZ n (u + 1) := by rw [show u + n + 1 = u + 1 + n by omega]; exact CZ_quarter hn (u + 1)
  obtain ⟨h1, h2, h3, h4⟩ := h
  constructor
  · rw [e1, e2, e3, Int.neg_mul]; omega
  · rw [e1, e2, e3, Int.neg_mul]; omega
  · rw [e1, e2, e4, Int.neg_mul, Int.mul_neg]; omega
  · rw [e1, e2, e4, Int.neg_mul, Int.mul_neg]; omega
end
end Go.Ev

namespace Go.Ev
open Go
def Abs (x b : Int) : Prop := -b ≤ x ∧ x ≤ b
theorem Abs.add {x y a b : Int} (h : Abs x a) (k : Abs y b) : Abs (x + y) (a + b) := by unfold Abs at *; omega
theorem Abs.sub {x y a b : Int} (h : Abs x a) (k : Abs y b) : Abs (x - y) (a + b) := by unfold Abs at *; omega
theorem Abs.nonneg {x a : Int} (h : Abs x a) : 0 ≤ a := by unfold Abs at h; omega
theorem Abs.mono {x a b : Int} (h : Abs x a) (k : a ≤ b) : Abs x b := by unfold Abs at *; omega
theorem Abs.mul {x y a b : Int} (h : Abs x a) (k : Abs y b) : Abs (x * y) (a * b) := by
  have ha := h.nonneg
  have hb := k.nonneg
  have e : (x * y).natAbs ≤ (a * b).natAbs := by
    rw [Int.natAbs_mul, Int.natAbs_mul]
    exact Nat.mul_le_mul (by unfold Abs at h; omega) (by unfold Abs at k; omega)
  have : 0 ≤ a * b := Int.mul_nonneg ha hb
  unfold Abs
  omega
theorem mul_anti {a b c : Int} (hc : c ≤ 0) (h : a ≤ b) : c * b ≤ c * a := by
  have := Int.mul_le_mul_of_nonneg_left h (show 0 ≤ -c by omega)
  rw [Int.neg_mul, Int.neg_mul] at this
  omega
def Enc (a : Span) (X d : Int) : Prop := a.lo * d ≤ X ∧ X ≤ a.hi * d
theorem min4_le (p q r s : Int) : min4 p q r s ≤ p ∧ min4 p q r s ≤ q ∧ min4 p q r s ≤ r ∧ min4 p q r s ≤ s := by
  unfold min4
  repeat' split
  all_goals omega
theorem le_max4 (p q r s : Int) : p ≤ max4 p q r s ∧ q ≤ max4 p q r s ∧ r ≤ max4 p q r s ∧ s ≤ max4 p q r s := by
  unfold max4
  repeat' split
  all_goals omega
theorem prod_between {A A' B B' X Y m M : Int} (hX : A ≤ X ∧ X ≤ A') (hY : B ≤ Y ∧ Y ≤ B') (h1 : m ≤ A * B ∧ A * B ≤ M) (h2 : m ≤ A * B' ∧ A * B' ≤ M) (h3 : m ≤ A' * B ∧ A' * B ≤ M) (h4 : m ≤ A' * B' ∧ A' * B' ≤ M) : m ≤ X * Y ∧ X * Y ≤ M := by
  have side : ∀ C : Int, m ≤ C * B ∧ C * B ≤ M → m ≤ C * B' ∧ C * B' ≤ M → m ≤ C * Y ∧ C * Y ≤ M := by
    intro C k1 k2
    rcases Int.le_total 0 C with hC | hC
    · have a := Int.mul_le_mul_of_nonneg_left hY.1 hC
      have b := Int.mul_le_mul_of_nonneg_left hY.2 hC
      omega
    · have a := mul_anti hC hY.1
      have b := mul_anti hC hY.2
      omega
  have a := side A h1 h2
  have b := side A' h3 h4
  rcases Int.le_total 0 Y with hY0 | hY0
  · have c := Int.mul_le_mul_of_nonneg_right hX.1 hY0
    have d := Int.mul_le_mul_of_nonneg_right hX.2 hY0
    omega
  · have c := mul_anti hY0 hX.1
    have d := mul_anti hY0 hX.2
    rw [Int.mul_comm Y, Int.mul_comm Y] at c d
    omega
theorem Enc.mul {a b p : Span} {X Y d e : Int} (hd : 0 < d) (he : 0 < e) (ha : Enc a X d) (hb : Enc b Y e) (h : mulS a b = (p, 0)) : Enc p (X * Y) (d * e * 1000000) := by
  unfold mulS at h
  cases hv : spanValid a && spanValid b with
  | false => rw [hv] at h; simp only [cond_false, Prod.mk.injEq] at h; omega
  | true =>
    rw [hv, cond_true] at h
    unfold rangedS at h
    cases hr : spanValid ⟨min4 (a.lo * b.lo) (a.lo * b.hi) (a.hi * b.lo) (a.hi * b.hi) / 1000000, -(-(max4 (a.lo * b.lo) (a.lo * b.hi) (a.hi * b.lo) (a.hi * b.hi)) / 1000000)⟩ with
    | false => rw [hr] at h; simp at h
    | true =>
      rw [hr] at h
      simp only [Bool.not_true, cond_false, Prod.mk.injEq, and_true] at h
      subst h
      have hmin := min4_le (a.lo * b.lo) (a.lo * b.hi) (a.hi * b.lo) (a.hi * b.hi)
      have hmax := le_max4 (a.lo * b.lo) (a.lo * b.hi) (a.hi * b.lo) (a.hi * b.hi)
      generalize min4 (a.lo * b.lo) (a.lo * b.hi) (a.hi * b.lo) (a.hi * b.hi) = m at *
      generalize max4 (a.lo * b.lo) (a.lo * b.hi) (a.hi * b.lo) (a.hi * b.hi) = M at *
      have hde : 0 < d * e := Int.mul_pos hd he
      have sc : ∀ x y : Int, m ≤ x * y ∧ x * y ≤ M → m * (d * e) ≤ (x * d) * (y * e) ∧ (x * d) * (y * e) ≤ M * (d * e) := by
        intro x y k
        have eq : (x * d) * (y * e) = (x * y) * (d * e) := by grind
        rw [eq]
        exact ⟨Int.mul_le_mul_of_nonneg_right k.1 (by omega), Int.mul_le_mul_of_nonneg_right k.2 (by omega)⟩
      have key := prod_between ha hb (sc _ _ ⟨hmin.1, hmax.1⟩) (sc _ _ ⟨hmin.2.1, hmax.2.1⟩) (sc _ _ ⟨hmin.2.2.1, hmax.2.2.1⟩) (sc _ _ ⟨hmin.2.2.2, hmax.2.2.2⟩)
      have f1 : m / 1000000 * 1000000 ≤ m := by omega
      have f2 : M ≤ -(-M / 1000000) * 1000000 := by omega
      have g1 := Int.mul_le_mul_of_nonneg_right f1 (Int.le_of_lt hde)
      have g2 := Int.mul_le_mul_of_nonneg_right f2 (Int.le_of_lt hde)
      unfold Enc
      simp only
      have k1 : m / 1000000 * (d * e * 1000000) = m / 1000000 * 1000000 * (d * e) := by grind
      have k2 : -(-M / 1000000) * (d * e * 1000000) = -(-M / 1000000) * 1000000 * (d * e) := by grind
      rw [k1, k2]
      omega
theorem rangedS_ok {a b : Span} (h : rangedS a = (b, 0)) : b = a := by
  unfold rangedS at h
  cases hv : spanValid a with
  | false => rw [hv] at h; simp at h
  | true => rw [hv] at h; simp only [Bool.not_true, cond_false, Prod.mk.injEq, and_true] at h; exact h.symm
theorem Enc.add {a b p : Span} {X Y d : Int} (ha : Enc a X d) (hb : Enc b Y d) (h : addS a b = (p, 0)) : Enc p (X + Y) d := by
  unfold addS at h
  cases hv : spanValid a && spanValid b with
  | false => rw [hv] at h; simp at h
  | true =>
    rw [hv, cond_true] at h
    cases rangedS_ok h
    unfold Enc at *
    simp only [Int.add_mul]
    omega
theorem Enc.sub {a b p : Span} {X Y d : Int} (ha : Enc a X d) (hb : Enc b Y d) (h : subS a b = (p, 0)) : Enc p (X - Y) d := by
  unfold subS at h
  cases hv : spanValid a && spanValid b with
  | false => rw [hv] at h; simp at h
  | true =>
    rw [hv, cond_true] at h
    cases rangedS_ok h
    unfold Enc at *
    simp only [Int.sub_mul]
    omega
theorem Enc.common {a b : Span} {X Y d : Int} (hd : 0 < d) (ha : Enc a X d) (hb : Enc b Y d) (h : Abs (X - Y) (d - 1)) : a.lo ≤ b.hi ∧ b.lo ≤ a.hi := by
  unfold Enc Abs at *
  constructor
  · have : a.lo * d < (b.hi + 1) * d := by rw [Int.add_mul]; omega
    have := Int.lt_of_mul_lt_mul_right this (by omega)
    omega
  · have : b.lo * d < (a.hi + 1) * d := by rw [Int.add_mul]; omega
    have := Int.lt_of_mul_lt_mul_right this (by omega)
    omega
end Go.Ev

namespace Go.Ev
open Go
end Go.Ev

namespace Go.Ev
open Go
structure Near (a r : Span) : Prop where
  is : a = r ∨ a = negS r
theorem Near.range {a r : Span} (h : Near a r) (hr : 0 ≤ r.lo ∧ r.lo ≤ r.hi ∧ r.hi ≤ 1000000 ∧ r.hi ≤ r.lo + 1) : -1000000 ≤ a.lo ∧ a.lo ≤ a.hi ∧ a.hi ≤ 1000000 ∧ a.hi ≤ a.lo + 1 := by
  rcases h.is with rfl | rfl
  · omega
  · simp only [negS]; omega
theorem riseI_neg0 (n : Int) : negS (riseI 0 n) = riseI 0 n := rfl
theorem turn_pair {n : Int} (hn : 0 < n) (u : Int) : ∃ w m, 0 ≤ w ∧ w < n ∧ u = w + n * m ∧ ((Near (turnS u n) (riseI w n) ∧ Near (turnS (u + n) n) (riseI (n - w) n)) ∨ (Near (turnS u n) (riseI (n - w) n) ∧ Near (turnS (u + n) n) (riseI w n))) := by
  have h0 := riseI_neg0 n
  rw [turnS_quad, turnS_quad]
  obtain ⟨w, k, h1, h2, h | h | h | h⟩ := quad_cases hn u
  · refine ⟨w, 4 * k, h1, h2, by rw [h, Int.mul_assoc, Int.mul_left_comm n 4 k], .inl ⟨⟨.inl ((quad_val ⟨h1, h2⟩).1 h)⟩, ⟨.inl ((quad_val (k := k) ⟨h1, h2⟩).2.1 (by omega))⟩⟩⟩
  · refine ⟨w, 1 + 4 * k, h1, h2, by rw [h, Int.mul_add, Int.mul_assoc, Int.mul_left_comm n 4 k]; omega, .inr ⟨⟨.inl ((quad_val ⟨h1, h2⟩).2.1 h)⟩, ⟨.inr ((quad_val (k := k) ⟨h1, h2⟩).2.2.1 (by omega))⟩⟩⟩
  · refine ⟨w, 2 + 4 * k, h1, h2, by rw [h, Int.mul_add, Int.mul_assoc, Int.mul_left_comm n 4 k]; omega, .inl ⟨⟨.inr ((quad_val ⟨h1, h2⟩).2.2.1 h)⟩, ⟨.inr ((quad_val (k := k) ⟨h1, h2⟩).2.2.2 (by omega))⟩⟩⟩
  · refine ⟨w, 3 + 4 * k, h1, h2, by rw [h, Int.mul_add, Int.mul_assoc, Int.mul_left_comm n 4 k]; omega, .inr ⟨⟨.inr ((quad_val ⟨h1, h2⟩).2.2.2 h)⟩, ⟨.inl ((quad_val (k := k + 1) ⟨h1, h2⟩).1 (by rw [Int.mul_add]; omega))⟩⟩⟩
def commonB (a b : Span) : Bool := bif decide (a.lo ≤ b.hi) then decide (b.lo ≤ a.hi) else false
theorem commonB_iff {a b : Span} : commonB a b = true ↔ a.lo ≤ b.hi ∧ b.lo ≤ a.hi := by
  unfold commonB
  by_cases h : a.lo ≤ b.hi
  · rw [decide_eq_true h]; simp [h]
  · rw [decide_eq_false h]; simp [h]
def Unit1 (a : Span) : Prop := -1000000 ≤ a.lo ∧ a.lo ≤ a.hi ∧ a.hi ≤ 1000000
theorem turnS_unit {n : Int} (hn : 1 ≤ n ∧ n ≤ 720) (u : Int) : Unit1 (turnS u n) := by
  obtain ⟨w, m, w1, w2, _, hp⟩ := turn_pair (n := n) (by omega) u
  have r1 := riseI_range (w := w) (n := n) (by simp only [riseOn, Bool.and_eq_true, decide_eq_true_eq]; omega)
  have r2 := riseI_range (w := n - w) (n := n) (by simp only [riseOn, Bool.and_eq_true, decide_eq_true_eq]; omega)
  rcases hp with ⟨h, _⟩ | ⟨h, _⟩
  · have := h.range r1; exact ⟨this.1, this.2.1, this.2.2.1⟩
  · have := h.range r2; exact ⟨this.1, this.2.1, this.2.2.1⟩
theorem min4_one {p q r s : Int} : min4 p q r s = p ∨ min4 p q r s = q ∨ min4 p q r s = r ∨ min4 p q r s = s := by
  unfold min4
  repeat' split
  all_goals simp
theorem max4_one {p q r s : Int} : max4 p q r s = p ∨ max4 p q r s = q ∨ max4 p q r s = r ∨ max4 p q r s = s := by
  unfold max4
  repeat' split
  all_goals simp
theorem unit_mul {x y : Int} (hx : -1000000 ≤ x ∧ x ≤ 1000000) (hy : -1000000 ≤ y ∧ y ≤ 1000000) : -1000000000000 ≤ x * y ∧ x * y ≤ 1000000000000 := Abs.mul (x := x) (y := y) (a := 1000000) (b := 1000000) hx hy
theorem mulS_unit {a b : Span} (ha : Unit1 a) (hb : Unit1 b) : ∃ p, mulS a b = (p, 0) ∧ Unit1 p := by
  unfold Unit1 at *
  have v1 : spanValid a = true := by rw [spanValid_iff]; omega
  have v2 : spanValid b = true := by rw [spanValid_iff]; omega
  have p1 := unit_mul (x := a.lo) (y := b.lo) (by omega) (by omega)
  have p2 := unit_mul (x := a.lo) (y := b.hi) (by omega) (by omega)
  have p3 := unit_mul (x := a.hi) (y := b.lo) (by omega) (by omega)
  have p4 := unit_mul (x := a.hi) (y := b.hi) (by omega) (by omega)
  unfold mulS
  rw [v1, v2]
  simp only [Bool.and_self, cond_true]
  have h1 := min4_le (a.lo * b.lo) (a.lo * b.hi) (a.hi * b.lo) (a.hi * b.hi)
  have h2 := le_max4 (a.lo * b.lo) (a.lo * b.hi) (a.hi * b.lo) (a.hi * b.hi)
  have h3 := min4_one (p := a.lo * b.lo) (q := a.lo * b.hi) (r := a.hi * b.lo) (s := a.hi * b.hi)
  have h4 := max4_one (p := a.lo * b.lo) (q := a.lo * b.hi) (r := a.hi * b.lo) (s := a.hi * b.hi)
  generalize min4 (a.lo * b.lo) (a.lo * b.hi) (a.hi * b.lo) (a.hi * b.hi) = m at *
  generalize max4 (a.lo * b.lo) (a.lo * b.hi) (a.hi * b.lo) (a.hi * b.hi) = M at *
  have hv : spanValid ⟨m / 1000000, -(-M / 1000000)⟩ = true := by rw [spanValid_iff]; simp only; omega
  refine ⟨⟨m / 1000000, -(-M / 1000000)⟩, ?_, ?_⟩
  · unfold rangedS
    rw [hv]
    rfl
  · simp only
    omega
def sinT (k : Int) : Span := turnS (4 * k) 720
def cosT (k : Int) : Span := turnS (4 * k + 720) 720
theorem sinT_unit (k : Int) : Unit1 (sinT k) := turnS_unit (by omega) _
theorem cosT_unit (k : Int) : Unit1 (cosT k) := turnS_unit (by omega) _
end Go.Ev

namespace Go.Ev
open Go
end Go.Ev

namespace Go.Ev
open Go
def LamG (key n : Nat) (f : TS → List Blk → Nat → LT) : Nat → TS → List Blk → Nat → LT := fun k T M N => bif k == key && T.length == n then f T M N else .no
theorem find_of' {ks : List (Nat × AV)} {T : TS} (h : ∀ p ∈ ks, tget T p.1 = p.2 ∨ p.2 = .any) (i : Nat) : tfind .any ks i = tget T i ∨ tfind .any ks i = .any := by
  induction ks with
  | nil => exact .inr rfl
  | cons p r ih =>
    rw [tfind]
    cases hb : Nat.beq p.1 i with
    | true =>
      rw [cond_true, ← Nat.eq_of_beq_eq_true hb]
      rcases h p (by simp) with e | e
      · exact .inl e.symm
      · exact .inr e
    | false => exact ih fun q hq => h q (by simp [hq])
theorem less_of' {ks : List (Nat × AV)} {n : Nat} {T : TS} (hl : T.length = n) (h : ∀ p ∈ ks, tget T p.1 = p.2 ∨ p.2 = .any) : Less (maskT ks n) T :=
  ⟨hl.symm, fun t => find_of' h t⟩
section
variable {P : Program} {G : Nat → Option (List D)} {gb : Nat} {EQ : Tab} {Γ : Nat → List AV → List Blk → (AV → List Blk → Ans) → Ans} {X : Nat → List AV → (AV → Ans) → Ans} {Λ : Nat → TS → List Blk → Nat → LT}
theorem LOKb.lamG {b : Code} {n : Nat} {f : TS → List Blk → Nat → LT}
    (h : ∀ T M N x T' M' N', T.length = n → LReach (f T M N) x T' M' N' → x ≠ .normal ∧ ∃ k, RoundsOK P G gb b k T M N x T' M' N') : LOKb P G gb (LamG (loopKey b) n f) b := by
  intro T M N x T' M' N' hr
  unfold LamG at hr
  simp only [cond_eq_ite, Bool.and_eq_true, beq_iff_eq, beq_self_eq_true, true_and] at hr
  split at hr
  · rename_i hl
    exact h T M N x T' M' N' hl hr
  · exact hr.elim
theorem RoundsOK.stop (hΓ : GOK P G gb Γ X) (hEQ : ∀ t, t ∈ EQ.eq → EqOK P t) (hm : P.follows .mixedOrders = true) {fuel : Nat} {b : Code} {T T1 : TS} {M M1 : List Blk} {N N1 : Nat} {x : Ex} {keep : List Nat} (hL : LOK P G gb Λ (loopsIn b)) (hx : x ≠ .normal)
    (h : evCode P G EQ Γ X Λ fuel b T M N (fun x T M N => some (.st x (forget keep T) M N)) = some (.st x T1 M1 N1)) : RoundsOK P G gb b 1 T M N x T1 M1 N1 := by
  obtain ⟨x', T3, M3, N3, h1, h2, _⟩ := evCode_sound hEQ hm hΓ fuel b T M N _ _ hL h
  cases h2
  intro w0 W σ a w Q hG hT hM hN hQ
  rw [rounds_succ]
  refine h1 w0 W σ a w _ hG hT hM hN fun τ a' w' hle hT' hM' hN' => ?_
  have := hQ τ a' w' hle (hT'.less (forget_less _ _)) hM' hN'
  cases x with
  | normal => exact absurd rfl hx
  | exit id => exact this
  | ret => exact this
end
end Go.Ev

namespace Go.Ev
open Go
def nameStep {α : Type} (c : Int) (bad ok : α) : α :=
  bif decide (c < 97) then (bif decide (c < 48) then (bif c != 45 then bad else ok) else (bif decide (57 < c) then (bif c != 45 then bad else ok) else ok))
  else (bif decide (122 < c) then (bif decide (c < 48) then (bif c != 45 then bad else ok) else (bif decide (57 < c) then (bif c != 45 then bad else ok) else ok)) else ok)
def byteOk (c : Int) : Bool := nameStep c false true
theorem nameStep_eq {α : Type} (c : Int) (bad ok : α) : nameStep c bad ok = bif byteOk c then ok else bad := by
  unfold byteOk nameStep
  cases decide (c < 97) <;> cases decide (c < 48) <;> cases c != 45 <;> cases decide (57 < c) <;> cases decide (122 < c) <;> rfl
def restOk (s : ByteArray) (i : Int) : Nat → Bool
  | 0 => true
  | m + 1 => bif byteOk (byteAt s i) then restOk s (i + 1) m else false
def namedB (s : ByteArray) : Bool :=
  bif decide ((s.size : Int) < 1) then false else bif decide (40 < (s.size : Int)) then false else bif decide (byteAt s 0 < 97) then false else bif decide (122 < byteAt s 0) then false else restOk s 0 s.size
section
variable {P : Program} {G : Nat → Option (List D)} {gb : Nat} {EQ : Tab} {Γ : Nat → List AV → List Blk → (AV → List Blk → Ans) → Ans} {X : Nat → List AV → (AV → Ans) → Ans}
theorem name_rounds (hΓ : GOK P G gb Γ X) (hEQ : ∀ t, t ∈ EQ.eq → EqOK P t) (hm : P.follows .mixedOrders = true) {c : Code} {e fuel NN : Nat} {M : List Blk} {keep : List Nat} (s : ByteArray) (hs : (s.size : Int) ≤ 1000) (TT : Int → TS) (T1 T2 : TS)
    (hl1 : ∀ i, Less T1 (TT i)) (TB : Int → TS) (hl2 : ∀ i, Less T2 (TB i))
    (hb : ∀ i : Int, evCode P G EQ Γ X noL fuel c (TT i) M NN (fun x T M N => some (.st x (forget keep T) M N)) =
      bif decide (i < (s.size : Int)) then (bif decide (0 ≤ i) && decide (i < (s.size : Int)) then nameStep (byteAt s i) (some (.st .ret (TB i) M NN)) (some (.st .normal (TT (w64 (i + 1))) M NN)) else none)
      else some (.st (.exit e) (TT i) M NN)) :
    ∀ (m : Nat) (i : Int), 0 ≤ i → i + m = s.size → (restOk s i m = true → ∃ k, RoundsOK P G gb c k (TT i) M NN (.exit e) T1 M NN) ∧ (restOk s i m = false → ∃ k, RoundsOK P G gb c k (TT i) M NN .ret T2 M NN) := by
  intro m
  induction m with
  | zero =>
    intro i h0 h1
    refine ⟨fun _ => ?_, fun h => by simp [restOk] at h⟩
    have h := hb i
    rw [decide_eq_false (by omega), cond_false] at h
    exact ⟨1, (RoundsOK.fin (Λ := noL) hΓ hEQ hm (noL_ok _) h).weak (hl1 _)⟩
  | succ m ih =>
    intro i h0 h1
    have h := hb i
    rw [decide_eq_true (show i < (s.size : Int) by omega), decide_eq_true (show 0 ≤ i by omega), nameStep_eq, show w64 (i + 1) = i + 1 by simp only [w64, wr]; omega] at h
    simp only [Bool.and_self, cond_true] at h
    rw [restOk]
    cases hc : byteOk (byteAt s i) with
    | true =>
      rw [hc, cond_true] at h
      simp only [cond_true]
      obtain ⟨p, q⟩ := ih (i + 1) (by omega) (by omega)
      refine ⟨fun hh => ?_, fun hh => ?_⟩
      · obtain ⟨k, hk⟩ := p hh
        exact ⟨k + 1, RoundsOK.go (Λ := noL) hΓ hEQ hm (noL_ok _) h hk⟩
      · obtain ⟨k, hk⟩ := q hh
        exact ⟨k + 1, RoundsOK.go (Λ := noL) hΓ hEQ hm (noL_ok _) h hk⟩
    | false =>
      rw [hc, cond_false] at h
      simp only [cond_false]
      refine ⟨(fun hh => by cases hh), fun _ => ⟨1, (RoundsOK.stop (Λ := noL) hΓ hEQ hm (noL_ok _) (by simp) h).weak (hl2 _)⟩⟩
end
def nameAns (K : AV → List Blk → Ans) (s : ByteArray) : Ans :=
  bif decide ((s.size : Int) < 1) then K (rB false) [] else bif decide (40 < (s.size : Int)) then K (rB false) [] else
  bif decide ((0 : Int) ≤ 0) && decide ((0 : Int) < (s.size : Int)) then (bif decide (byteAt s 0 < 97) then K (rB false) [] else
    bif decide ((0 : Int) ≤ 0) && decide ((0 : Int) < (s.size : Int)) then (bif decide (122 < byteAt s 0) then K (rB false) [] else
      bif (s.size : Int) == (s.size : Int) && decide ((s.size : Int) ≤ 1000) then (bif restOk s 0 s.size then K (rB true) [] else K (rB false) []) else none) else none) else none
theorem nameAns_ok {K : AV → List Blk → Ans} {s : ByteArray} : nameAns K s = K (rB (namedB s)) [] := by
  unfold nameAns namedB
  by_cases h1 : (s.size : Int) < 1
  · rw [decide_eq_true h1]; rfl
  by_cases h2 : 40 < (s.size : Int)
  · rw [decide_eq_false h1, decide_eq_true h2]; rfl
  rw [decide_eq_false h1, decide_eq_false h2, decide_eq_true (show (0 : Int) < (s.size : Int) by omega), decide_eq_true (show (s.size : Int) ≤ 1000 by omega)]
  simp only [Int.le_refl, decide_true, Bool.and_self, cond_true, cond_false, beq_self_eq_true]
  cases decide (byteAt s 0 < 97) with
  | true => rfl
  | false =>
    cases decide (122 < byteAt s 0) with
    | true => rfl
    | false => cases restOk s 0 s.size <;> rfl
end Go.Ev

namespace Go.Ev
open Go
def checkSrc (s : Source) : Int := bif !(namedB s.name) then 8 else bif decide (s.ra < 0) then 8 else bif decide (720 ≤ s.ra) then 8 else bif decide (s.dec < -180) then 8 else bif decide (180 < s.dec) then 8 else 0
structure SrcOk (s : Source) : Prop where
  ra0 : 0 ≤ s.ra
  ra1 : s.ra < 720
  dec0 : -180 ≤ s.dec
  dec1 : s.dec ≤ 180
  name : namedB s.name = true
theorem checkSrc_iff {s : Source} : checkSrc s = 0 ↔ SrcOk s := by
  unfold checkSrc
  cases hn : namedB s.name with
  | false => exact ⟨fun h => by simp at h, fun h => by rw [h.name] at hn; cases hn⟩
  | true =>
    simp only [Bool.not_true, cond_eq_ite, Bool.false_eq_true, if_false, decide_eq_true_eq]
    constructor
    · intro h
      split at h
      · omega
      split at h
      · omega
      split at h
      · omega
      split at h
      · omega
      exact ⟨by omega, by omega, by omega, by omega, hn⟩
    · intro h
      rw [if_neg (by have := h.ra0; omega), if_neg (by have := h.ra1; omega), if_neg (by have := h.dec0; omega), if_neg (by have := h.dec1; omega)]
theorem checkSrc_or (s : Source) : checkSrc s = 0 ∨ checkSrc s = 8 := by
  unfold checkSrc
  cases namedB s.name <;> cases decide (s.ra < 0) <;> cases decide (720 ≤ s.ra) <;> cases decide (s.dec < -180) <;> cases decide (180 < s.dec) <;> simp
def rSpan2 (r : Span × Span) : AV := .tup [.agg r.1.cells, .agg r.2.cells]
def dirS (ra dec tick : Int) : Dir := ⟨(mulS (cosT dec) (cosT (ra - tick))).1, (mulS (cosT dec) (sinT (ra - tick))).1, sinT dec⟩
def dirOn (ra dec tick : Int) : Bool := decide (0 ≤ ra) && (decide (ra < 720) && (decide (-180 ≤ dec) && (decide (dec ≤ 180) && (decide (-1000000 ≤ tick) && decide (tick ≤ 1000000)))))
def dirAns (K : AV → List Blk → Ans) (ra dec tick : Int) : Ans :=
  bif (mulS (cosT dec) (cosT (w64 (ra - tick)))).2 != 0 then K (rDirE (dirZ, (mulS (cosT dec) (cosT (w64 (ra - tick)))).2)) [] else
  bif (mulS (cosT dec) (sinT (w64 (ra - tick)))).2 != 0 then K (rDirE (dirZ, (mulS (cosT dec) (sinT (w64 (ra - tick)))).2)) [] else
  K (rDirE (⟨(mulS (cosT dec) (cosT (w64 (ra - tick)))).1, (mulS (cosT dec) (sinT (w64 (ra - tick)))).1, sinT dec⟩, 0)) []
theorem dirAns_ok {K : AV → List Blk → Ans} {ra dec tick : Int} (h : dirOn ra dec tick = true) : dirAns K ra dec tick = K (rDirE (dirS ra dec tick, 0)) [] := by
  simp only [dirOn, Bool.and_eq_true, decide_eq_true_eq] at h
  unfold dirAns dirS
  rw [w64_id (by omega)]
  obtain ⟨p, hp, _⟩ := mulS_unit (cosT_unit dec) (cosT_unit (ra - tick))
  obtain ⟨q, hq, _⟩ := mulS_unit (cosT_unit dec) (sinT_unit (ra - tick))
  rw [hp, hq]
  rfl
def atAns (K : AV → List Blk → Ans) (s : Source) (tick : Int) : Ans :=
  bif checkSrc s != 0 then K (rDirE (dirZ, checkSrc s)) [] else bif decide (tick < -1000000) then K (rDirE (dirZ, 2)) [] else bif decide (1000000 < tick) then K (rDirE (dirZ, 2)) [] else
  bif dirOn s.ra s.dec tick then K (rDirE (dirS s.ra s.dec tick, 0)) [] else none
def atS (s : Source) (tick : Int) : Dir × Int := bif checkSrc s != 0 then (dirZ, 8) else bif decide (tick < -1000000) then (dirZ, 2) else bif decide (1000000 < tick) then (dirZ, 2) else (dirS s.ra s.dec tick, 0)
theorem atAns_ok {K : AV → List Blk → Ans} {s : Source} {tick : Int} : atAns K s tick = K (rDirE (atS s tick)) [] := by
  unfold atAns atS
  rcases checkSrc_or s with h | h
  · have ok := checkSrc_iff.1 h
    rw [h]
    by_cases h1 : tick < -1000000
    · rw [decide_eq_true h1]; rfl
    by_cases h2 : 1000000 < tick
    · rw [decide_eq_false h1, decide_eq_true h2]; rfl
    have := ok.ra0
    have := ok.ra1
    have := ok.dec0
    have := ok.dec1
    rw [decide_eq_false h1, decide_eq_false h2, show dirOn s.ra s.dec tick = true by simp only [dirOn, Bool.and_eq_true, decide_eq_true_eq]; omega]
    rfl
  · rw [h]; rfl
def validAns (bad ok : Ans) : List Span → Ans
  | [] => ok
  | a :: r => bif decide (a.hi < a.lo) then bad else bif decide (a.lo < -3000000000) then bad else bif decide (3000000000 < a.hi) then bad else validAns bad ok r
theorem validAns_ok {bad ok : Ans} : ∀ l : List Span, validAns bad ok l = bif l.all spanValid then ok else bad
  | [] => rfl
  | a :: r => by
    rw [validAns, validAns_ok r, List.all_cons]
    cases hv : spanValid a with
    | true =>
      rw [spanValid_iff] at hv
      rw [decide_eq_false (by omega), decide_eq_false (by omega), decide_eq_false (by omega)]
      rfl
    | false =>
      have hn : ¬ (a.lo ≤ a.hi ∧ -3000000000 ≤ a.lo ∧ a.hi ≤ 3000000000) := fun hh => by rw [spanValid_iff.2 hh] at hv; cases hv
      by_cases h1 : a.hi < a.lo
      · rw [decide_eq_true h1]; rfl
      by_cases h2 : a.lo < -3000000000
      · rw [decide_eq_false h1, decide_eq_true h2]; rfl
      rw [decide_eq_false h1, decide_eq_false h2, decide_eq_true (by omega)]
      rfl
def prodsAns (K : AV → List Blk → Ans) : Span → List (Span × Span) → Ans
  | sum, [] => K (rSpanE (sum, 0)) []
  | sum, p :: r => bif (mulS p.1 p.2).2 == 0 then (bif (addS sum (mulS p.1 p.2).1).2 != 0 then K (rSpanE (spanZ, (addS sum (mulS p.1 p.2).1).2)) [] else prodsAns K (addS sum (mulS p.1 p.2).1).1 r)
    else (bif (mulS p.1 p.2).2 != 0 then K (rSpanE (spanZ, (mulS p.1 p.2).2)) [] else prodsAns K sum r)
def prodsS : Span → List (Span × Span) → Span × Int
  | sum, [] => (sum, 0)
  | sum, p :: r => bif (mulS p.1 p.2).2 == 0 then (bif (addS sum (mulS p.1 p.2).1).2 == 0 then prodsS (addS sum (mulS p.1 p.2).1).1 r else (spanZ, (addS sum (mulS p.1 p.2).1).2)) else (spanZ, (mulS p.1 p.2).2)
theorem prodsAns_ok {K : AV → List Blk → Ans} : ∀ (l : List (Span × Span)) (sum : Span), prodsAns K sum l = K (rSpanE (prodsS sum l)) []
  | [], _ => rfl
  | p :: r, sum => by
    rw [prodsAns, prodsS]
    cases h : (mulS p.1 p.2).2 == 0 with
    | true =>
      simp only [cond_true]
      cases h2 : (addS sum (mulS p.1 p.2).1).2 == 0 with
      | true => simp only [bne, h2, Bool.not_true, cond_false, cond_true]; exact prodsAns_ok r _
      | false => simp only [bne, h2, Bool.not_false, cond_false, cond_true]
    | false => simp only [bne, h, Bool.not_false, cond_false, cond_true]
end Go.Ev

namespace Go.Ev
open Go
theorem spanValid_negS (b : Span) : spanValid (negS b) = spanValid b := by
  rw [Bool.eq_iff_iff, spanValid_iff, spanValid_iff]
  simp only [negS]
  omega
end Go.Ev

namespace Go.Ev
open Go
end Go.Ev

namespace Go.Ev
open Go
def fracOf (n d : Int) : Frac × Int := bif decide (absI n / gcdI n d ≤ 1000000000000000000) && decide (d / gcdI n d ≤ 1000000000000000000) then (⟨n / gcdI n d, d / gcdI n d⟩, 0) else (fracZ, 16)
def cutF (n d : Int) : Frac × Int := bif decide (absI n ≤ 1000000000000000000) && decide (d ≤ 1000000000000000000) then (⟨n, d⟩, 0) else (fracZ, 16)
theorem fracOf_red {n d c n' d' : Int} (hc : 0 < c) (hn : n = c * n') (hd : d = c * d') (hg : Int.gcd n' d' = 1) : fracOf n d = cutF n' d' := by
  have e : gcdI n d = c := by
    rw [gcdI_eq, hn, hd, Int.gcd_mul_left, hg]
    omega
  have e1 : n / c = n' := by rw [hn]; exact Int.mul_ediv_cancel_left _ (by omega)
  have e2 : d / c = d' := by rw [hd]; exact Int.mul_ediv_cancel_left _ (by omega)
  have e3 : absI n / c = absI n' := by
    simp only [absI_eq]
    rw [hn, Int.natAbs_mul, Int.natCast_mul, show ((c.natAbs : Nat) : Int) = c by omega]
    exact Int.mul_ediv_cancel_left _ (by omega)
  unfold fracOf cutF
  rw [e, e1, e2, e3]
theorem coprime_sum {an bn : Int} {a b d : Nat} (hab : Nat.Coprime a b) (h : Nat.Coprime an.natAbs (d * a)) : Nat.Coprime (an * b + bn * a).natAbs a := by
  unfold Nat.Coprime
  have hp1 : Nat.gcd (an * b + bn * a).natAbs a ∣ a := Nat.gcd_dvd_right _ _
  have hp2 : Nat.gcd (an * b + bn * a).natAbs a ∣ (an * b + bn * a).natAbs := Nat.gcd_dvd_left _ _
  generalize Nat.gcd (an * b + bn * a).natAbs a = p at *
  have h1 : (p : Int) ∣ an * b + bn * a := Int.ofNat_dvd_left.2 hp2
  have h2 : (p : Int) ∣ bn * a := Int.dvd_trans (Int.natCast_dvd_natCast.2 hp1) (Int.dvd_mul_left _ _)
  have h3 : (p : Int) ∣ an * b := (Int.dvd_add_left h2).1 h1
  have h4 : p ∣ an.natAbs * b := by
    have := Int.ofNat_dvd_left.1 h3
    rwa [Int.natAbs_mul, Int.natAbs_natCast] at this
  have h5 : Nat.Coprime p b := Nat.Coprime.coprime_dvd_left hp1 hab
  have h6 : p ∣ an.natAbs := h5.dvd_of_dvd_mul_right h4
  have h7 : p ∣ d * a := Nat.dvd_trans hp1 (Nat.dvd_mul_left _ _)
  have h8 := Nat.dvd_gcd h6 h7
  rw [h] at h8
  exact Nat.eq_one_of_dvd_one h8
theorem sum_red {a b : Frac} (ha : FracOk a) (hb : FracOk b) : ∃ d p q g t m : Int, 0 < d ∧ 0 < p ∧ 0 < q ∧ 0 < g ∧ 0 < m ∧ gcdI a.den b.den = d ∧ a.den = d * p ∧ b.den = d * q ∧ gcdI d (a.num * q + b.num * p) = g ∧ a.num * q + b.num * p = g * t ∧ b.den = g * m ∧ Int.gcd t (p * m) = 1 ∧
    fracOf (a.num * b.den + b.num * a.den) (a.den * b.den) = cutF t (p * m) := by
  obtain ⟨ad, had⟩ := Int.eq_ofNat_of_zero_le (show 0 ≤ a.den by have := ha.denlo; omega)
  obtain ⟨bd, hbd⟩ := Int.eq_ofNat_of_zero_le (show 0 ≤ b.den by have := hb.denlo; omega)
  have hapos : 0 < ad := by have := ha.denlo; omega
  have hbpos : 0 < bd := by have := hb.denlo; omega
  have hd : 0 < Nat.gcd ad bd := Nat.gcd_pos_of_pos_left _ hapos
  obtain ⟨p, hp⟩ := Nat.gcd_dvd_left ad bd
  obtain ⟨q, hq⟩ := Nat.gcd_dvd_right ad bd
  have hco : Nat.Coprime p q := by
    have := Nat.coprime_div_gcd_div_gcd hd
    rwa [Nat.div_eq_of_eq_mul_right hd hp, Nat.div_eq_of_eq_mul_right hd hq] at this
  have hgd : gcdI a.den b.den = ((Nat.gcd ad bd : Nat) : Int) := by rw [had, hbd, gcdI_nat]
  have hca : Nat.Coprime a.num.natAbs ad := by
    have := ha.gcd
    rwa [Int.gcd_eq_natAbs_gcd_natAbs, had, Int.natAbs_natCast] at this
  have hcb : Nat.Coprime b.num.natAbs bd := by
    have := hb.gcd
    rwa [Int.gcd_eq_natAbs_gcd_natAbs, hbd, Int.natAbs_natCast] at this
  generalize Nat.gcd ad bd = d at *
  have hp0 : 0 < p := by
    rcases Nat.eq_zero_or_pos p with e | e
    · subst e; omega
    · exact e
  have hq0 : 0 < q := by
    rcases Nat.eq_zero_or_pos q with e | e
    · subst e; omega
    · exact e
  have c1 : Nat.Coprime (a.num * q + b.num * p).natAbs p := coprime_sum (d := d) hco (by rw [← hp]; exact hca)
  have c2 : Nat.Coprime (a.num * q + b.num * p).natAbs q := by
    rw [Int.add_comm]
    exact coprime_sum (d := d) hco.symm (by rw [← hq]; exact hcb)
  have hg : 0 < Nat.gcd d (a.num * q + b.num * p).natAbs := Nat.gcd_pos_of_pos_left _ hd
  have hgI : gcdI d (a.num * q + b.num * p) = ((Nat.gcd d (a.num * q + b.num * p).natAbs : Nat) : Int) := by rw [gcdI_eq, Int.gcd_eq_natAbs_gcd_natAbs, Int.natAbs_natCast]
  obtain ⟨u, hu⟩ := Nat.gcd_dvd_left d (a.num * q + b.num * p).natAbs
  obtain ⟨t', ht'⟩ := Nat.gcd_dvd_right d (a.num * q + b.num * p).natAbs
  have hcu : Nat.Coprime u t' := by
    have := Nat.coprime_div_gcd_div_gcd hg
    rwa [Nat.div_eq_of_eq_mul_right hg hu, Nat.div_eq_of_eq_mul_right hg ht'] at this
  generalize hG : Nat.gcd d (a.num * q + b.num * p).natAbs = g at *
  have hdvd : (g : Int) ∣ a.num * q + b.num * p := Int.ofNat_dvd_left.2 ⟨t', ht'⟩
  obtain ⟨t, ht⟩ := hdvd
  have htt : t.natAbs = t' := by
    rw [ht, Int.natAbs_mul, Int.natAbs_natCast] at ht'
    exact Nat.eq_of_mul_eq_mul_left hg ht'
  have hu0 : 0 < u := by
    rcases Nat.eq_zero_or_pos u with e | e
    · subst e; omega
    · exact e
  have hm0 : 0 < u * q := Nat.mul_pos hu0 hq0
  have hcop : Int.gcd t ((p : Int) * ((u * q : Nat) : Int)) = 1 := by
    rw [Int.gcd_eq_natAbs_gcd_natAbs, Int.natAbs_mul, Int.natAbs_natCast, Int.natAbs_natCast, htt]
    have k1 : Nat.Coprime t' p := Nat.Coprime.coprime_dvd_left ⟨g, by rw [ht', Nat.mul_comm]⟩ c1
    have k2 : Nat.Coprime t' q := Nat.Coprime.coprime_dvd_left ⟨g, by rw [ht', Nat.mul_comm]⟩ c2
    exact Nat.Coprime.mul_right k1 (Nat.Coprime.mul_right hcu.symm k2)
  refine ⟨d, p, q, g, t, ((u * q : Nat) : Int), by omega, by omega, by omega, by omega, by omega, hgd, ?_, ?_, hgI, ht, ?_, hcop, ?_⟩
  · rw [had, hp]; simp
  · rw [hbd, hq]; simp
  · rw [hbd, hq, hu]; simp only [Int.natCast_mul]; grind
  · have hbd' : b.den = g * ((u * q : Nat) : Int) := by rw [hbd, hq, hu]; simp only [Int.natCast_mul]; grind
    have had' : a.den = d * (p : Int) := by rw [had, hp]; simp
    have hbd2 : b.den = d * (q : Int) := by rw [hbd, hq]; simp
    refine fracOf_red (c := (d : Int) * g) (Int.mul_pos (by omega) (by omega)) ?_ ?_ ?_
    · have : a.num * b.den + b.num * a.den = d * (a.num * q + b.num * p) := by rw [had', hbd2]; grind
      rw [this, ht]
      grind
    · rw [had', hbd']
      grind
    · exact hcop
theorem prod_red {a b : Frac} (ha : FracOk a) (hb : FracOk b) : ∃ g h x y u v : Int, 0 < g ∧ 0 < h ∧ 0 < u ∧ 0 < v ∧ gcdI a.num b.den = g ∧ gcdI b.num a.den = h ∧ a.num = g * x ∧ b.num = h * y ∧ a.den = h * u ∧ b.den = g * v ∧ fracOf (a.num * b.num) (a.den * b.den) = cutF (x * y) (u * v) := by
  have hbd := hb.denlo
  have had := ha.denlo
  have hg : 0 < gcdI a.num b.den := gcdI_pos (by omega)
  have hh : 0 < gcdI b.num a.den := gcdI_pos (by omega)
  obtain ⟨x, hx⟩ : gcdI a.num b.den ∣ a.num := gcdI_dvd_left ..
  obtain ⟨v, hv⟩ : gcdI a.num b.den ∣ b.den := gcdI_dvd_right ..
  obtain ⟨y, hy⟩ : gcdI b.num a.den ∣ b.num := gcdI_dvd_left ..
  obtain ⟨u, hu⟩ : gcdI b.num a.den ∣ a.den := gcdI_dvd_right ..
  generalize hG : gcdI a.num b.den = g at *
  generalize hH : gcdI b.num a.den = h at *
  have cop : ∀ k m n : Int, 0 < k → gcdI (k * m) (k * n) = k → Int.gcd m n = 1 := by
    intro k m n hk e
    rw [gcdI_eq] at e
    rw [Int.gcd_mul_left, Int.natCast_mul, show ((k.natAbs : Nat) : Int) = k by omega] at e
    have : ((Int.gcd m n : Nat) : Int) = 1 := Int.eq_of_mul_eq_mul_left (a := k) (by omega) (by omega)
    omega
  have c1 : Int.gcd x v = 1 := cop g x v hg (by rw [← hx, ← hv]; exact hG)
  have c2 : Int.gcd y u = 1 := cop h y u hh (by rw [← hy, ← hu]; exact hH)
  have hu0 : 0 < u := by
    rcases Int.lt_or_le 0 u with e | e
    · exact e
    · have := Int.mul_le_mul_of_nonneg_left e (show 0 ≤ h by omega)
      omega
  have hv0 : 0 < v := by
    rcases Int.lt_or_le 0 v with e | e
    · exact e
    · have := Int.mul_le_mul_of_nonneg_left e (show 0 ≤ g by omega)
      omega
  refine ⟨g, h, x, y, u, v, hg, hh, hu0, hv0, rfl, rfl, hx, hy, hu, hv, ?_⟩
  refine fracOf_red (c := g * h) (Int.mul_pos hg hh) ?_ ?_ ?_
  · rw [hx, hy]; grind
  · rw [hu, hv]; grind
  · have ga := ha.gcd
    have gb := hb.gcd
    rw [Int.gcd_eq_natAbs_gcd_natAbs] at ga gb c1 c2 ⊢
    rw [hx, hu, Int.natAbs_mul, Int.natAbs_mul] at ga
    rw [hy, hv, Int.natAbs_mul, Int.natAbs_mul] at gb
    rw [Int.natAbs_mul, Int.natAbs_mul]
    have k1 : Nat.Coprime x.natAbs u.natAbs := Nat.Coprime.coprime_dvd_left (Nat.dvd_mul_left _ _) (Nat.Coprime.symm (Nat.Coprime.coprime_dvd_left (Nat.dvd_mul_left _ _) (Nat.Coprime.symm ga)))
    have k2 : Nat.Coprime y.natAbs v.natAbs := Nat.Coprime.coprime_dvd_left (Nat.dvd_mul_left _ _) (Nat.Coprime.symm (Nat.Coprime.coprime_dvd_left (Nat.dvd_mul_left _ _) (Nat.Coprime.symm gb)))
    exact Nat.Coprime.mul_left (Nat.Coprime.mul_right k1 c1) (Nat.Coprime.mul_right c2 k2)
def addF (a b : Frac) : Frac × Int := bif fracOkB a && fracOkB b then fracOf (a.num * b.den + b.num * a.den) (a.den * b.den) else (fracZ, 8)
def subF (a b : Frac) : Frac × Int := bif fracOkB a && fracOkB b then fracOf (a.num * b.den - b.num * a.den) (a.den * b.den) else (fracZ, 8)
def mulF (a b : Frac) : Frac × Int := bif fracOkB a && fracOkB b then fracOf (a.num * b.num) (a.den * b.den) else (fracZ, 8)
theorem FracOk.neg {a : Frac} (h : FracOk a) : FracOk ⟨-a.num, a.den⟩ := ⟨h.denlo, h.denhi, by have := h.numhi; simp only; omega, by have := h.numlo; simp only; omega, by rw [Int.gcd_eq_natAbs_gcd_natAbs, Int.natAbs_neg, ← Int.gcd_eq_natAbs_gcd_natAbs]; exact h.gcd⟩
end Go.Ev

namespace Go.Ev
open Go
def add64 (x y c : Int) : Int × Int := ((x + y + c) % 18446744073709551616, (x + y + c) / 18446744073709551616)
def sub64 (x y c : Int) : Int × Int := ((x - y - c) % 18446744073709551616, bif decide (x < y + c) then 1 else 0)
def cmpI (x y : Int) : Int := bif decide (y < x) then 1 else bif x == y then 0 else -1
def widerTail (ah al bh bl : Int) : Int := bif ah == bh then (bif al == bl then 0 else -1) else -1
def widerRaw (ah al bh bl : Int) : Int := bif decide (bh < ah) then 1 else bif ah == bh then (bif decide (bl < al) then 1 else widerTail ah al bh bl) else widerTail ah al bh bl
theorem widerRaw_ok {ah al bh bl : Int} (h1 : 0 ≤ al ∧ al ≤ 18446744073709551615) (h2 : 0 ≤ bl ∧ bl ≤ 18446744073709551615) : widerRaw ah al bh bl = cmpI (ah * 18446744073709551616 + al) (bh * 18446744073709551616 + bl) := by
  unfold widerRaw widerTail cmpI
  by_cases a : bh < ah
  · rw [decide_eq_true a, decide_eq_true (show bh * 18446744073709551616 + bl < ah * 18446744073709551616 + al by omega)]; rfl
  rw [decide_eq_false a]
  by_cases b : ah = bh
  · subst b
    simp only [beq_self_eq_true, cond_true, cond_false]
    by_cases c : bl < al
    · rw [decide_eq_true c, decide_eq_true (show ah * 18446744073709551616 + bl < ah * 18446744073709551616 + al by omega)]; rfl
    rw [decide_eq_false c, decide_eq_false (show ¬ ah * 18446744073709551616 + bl < ah * 18446744073709551616 + al by omega)]
    simp only [cond_false]
    by_cases d : al = bl
    · subst d; simp
    · rw [show (al == bl) = false by simpa using d, show (ah * 18446744073709551616 + al == ah * 18446744073709551616 + bl) = false by simp; omega]
  · rw [show (ah == bh) = false by simpa using b, decide_eq_false (show ¬ bh * 18446744073709551616 + bl < ah * 18446744073709551616 + al by omega), show (ah * 18446744073709551616 + al == bh * 18446744073709551616 + bl) = false by simp; omega]
    rfl
def remAns (K : AV → List Blk → Ans) (hi lo y : Int) : Ans := bif y == 0 then none else bif decide (hi.tmod y < y) then K (rU ((hi.tmod y * 18446744073709551616 + lo) % y)) [] else none
theorem remAns_ok {K : AV → List Blk → Ans} {hi lo y : Int} (h1 : 0 ≤ hi) (hy : 0 < y) : remAns K hi lo y = K (rU ((hi * 18446744073709551616 + lo) % y)) [] := by
  unfold remAns
  rw [show (y == 0) = false by simp; omega, decide_eq_true (Int.tmod_lt_of_pos hi hy), Int.tmod_eq_emod_of_nonneg h1]
  have e : (hi % y * 18446744073709551616 + lo) % y = (hi * 18446744073709551616 + lo) % y := by
    have := Int.emod_add_mul_ediv hi y
    conv => rhs; rw [← this]
    rw [Int.add_mul, Int.add_right_comm, Int.mul_assoc, Int.add_mul_emod_self_left]
  rw [e]
  rfl
def buildRaw (neg : Bool) (num den : Int) : Frac × Int :=
  bif decide (1000000000000000000 < num) then (fracZ, 16) else bif decide (1000000000000000000 < den) then (fracZ, 16) else bif neg then (⟨w64 (0 - w64 num), w64 den⟩, 0) else (⟨w64 num, w64 den⟩, 0)
theorem buildRaw_ok {neg : Bool} {num den : Int} (h1 : 0 ≤ num) (h2 : 0 ≤ den) : buildRaw neg num den = lowF neg num den := by
  unfold buildRaw lowF
  by_cases a : 1000000000000000000 < num
  · rw [decide_eq_true a, decide_eq_false (show ¬ num ≤ 1000000000000000000 by omega)]; rfl
  by_cases b : 1000000000000000000 < den
  · rw [decide_eq_false a, decide_eq_true b, decide_eq_false (show ¬ den ≤ 1000000000000000000 by omega), Bool.and_false]; rfl
  rw [decide_eq_false a, decide_eq_false b, decide_eq_true (show num ≤ 1000000000000000000 by omega), decide_eq_true (show den ≤ 1000000000000000000 by omega), w64_id (n := num) (by omega), w64_id (n := den) (by omega), w64_id (by omega)]
  cases neg <;> simp
def sumTail (K : AV → List Blk → Ans) (neg : Bool) (hi lo d ad bd : Int) : Ans :=
  bif decide (0 < d) then (
    let g := gcdI d ((hi * 18446744073709551616 + lo) % d)
    bif decide (g ≤ hi) then K (rFracE (fracZ, 16)) [] else
    bif decide (hi < g) then (bif d == 0 then none else bif g == 0 then none else
      bif (mul64 (wu64 (ad.tdiv d)) (wu64 (bd.tdiv g))).1 != 0 then K (rFracE (fracZ, 16)) [] else K (rFracE (lowF neg ((hi * 18446744073709551616 + lo) / g) (mul64 (wu64 (ad.tdiv d)) (wu64 (bd.tdiv g))).2)) [])
    else none) else none
def carryAns (c : Int) (k : Ans) : Ans := bif decide (c ≤ 1) then k else none
def sumMid (K : AV → List Blk → Ans) (an bn ah al bh bl d ad bd : Int) : Ans :=
  bif decide (an < 0) == decide (bn < 0) then
    carryAns 0 (carryAns (add64 al bl 0).2 (sumTail K (decide (an < 0)) (add64 ah bh (add64 al bl 0).2).1 (add64 al bl 0).1 d ad bd))
  else bif decide (0 ≤ cmpI (ah * 18446744073709551616 + al) (bh * 18446744073709551616 + bl)) then
    carryAns 0 (carryAns (sub64 al bl 0).2 (sumTail K (decide (an < 0)) (sub64 ah bh (sub64 al bl 0).2).1 (sub64 al bl 0).1 d ad bd))
  else carryAns 0 (carryAns (sub64 bl al 0).2 (sumTail K (decide (bn < 0)) (sub64 bh ah (sub64 bl al 0).2).1 (sub64 bl al 0).1 d ad bd))
def sumAns (K : AV → List Blk → Ans) (a b : Frac) : Ans :=
  let d := gcdI (absI a.den) (absI b.den)
  bif d == 0 then none else bif d == 0 then none else
  sumMid K a.num b.num (mul64 (absI a.num) (wu64 ((absI b.den).tdiv d))).1 (mul64 (absI a.num) (wu64 ((absI b.den).tdiv d))).2 (mul64 (absI b.num) (wu64 ((absI a.den).tdiv d))).1 (mul64 (absI b.num) (wu64 ((absI a.den).tdiv d))).2 d (absI a.den) (absI b.den)
theorem lowF_cut {neg : Bool} {t p : Int} (hneg : (bif neg then -absI t else absI t) = t) : lowF neg (absI t) p = cutF t p := by
  unfold lowF cutF
  cases decide (absI t ≤ 1000000000000000000) && decide (p ≤ 1000000000000000000) with
  | false => rfl
  | true => simp only [cond_true, hneg]
theorem cutF_big {t p : Int} (h : 1000000000000000000 < absI t ∨ 1000000000000000000 < p) : cutF t p = (fracZ, 16) := by
  unfold cutF
  rcases h with h | h
  · rw [decide_eq_false (by omega)]; rfl
  · rw [decide_eq_false (show ¬ p ≤ 1000000000000000000 by omega), Bool.and_false]; rfl
theorem sumTail_ok {K : AV → List Blk → Ans} {neg : Bool} {hi lo d p q g t m T : Int} (_ : 0 ≤ hi) (hlo : 0 ≤ lo ∧ lo < 18446744073709551616) (hS : hi * 18446744073709551616 + lo = absI T) (hneg : (bif neg then -absI T else absI T) = T)
    (hd : 0 < d) (hp : 0 < p) (hg : 0 < g) (hm : 0 < m) (hG : gcdI d T = g) (ht : T = g * t) (hb1 : d * q = g * m) (ha : d * p ≤ 1000000000000000000) (hb : d * q ≤ 1000000000000000000) : sumTail K neg hi lo d (d * p) (d * q) = K (rFracE (cutF t (p * m))) [] := by
  have hr : gcdI d (absI T % d) = g := by
    rw [← hG]
    simp only [gcdI_eq, absI_eq]
    rw [Int.gcd_eq_natAbs_gcd_natAbs, Int.gcd_eq_natAbs_gcd_natAbs]
    congr 1
    obtain ⟨d', rfl⟩ := Int.eq_ofNat_of_zero_le (Int.le_of_lt hd)
    rw [← Int.natCast_emod, Int.natAbs_natCast, Int.natAbs_natCast, Nat.gcd_comm, ← Nat.gcd_rec]
  have habs : absI T = g * absI t := by
    rw [ht]
    simp only [absI_eq]
    rw [Int.natAbs_mul, Int.natCast_mul, show ((g.natAbs : Nat) : Int) = g by omega]
  have hp1 : p ≤ d * p := by
    have := Int.mul_le_mul_of_nonneg_right (show 1 ≤ d by omega) (show 0 ≤ p by omega)
    omega
  have hm1 : m ≤ g * m := by
    have := Int.mul_le_mul_of_nonneg_right (show 1 ≤ g by omega) (show 0 ≤ m by omega)
    omega
  unfold sumTail
  rw [decide_eq_true hd, cond_true, hS, hr]
  simp only
  by_cases hc : g ≤ hi
  · rw [decide_eq_true hc, cond_true, cutF_big]
    left
    have h1 : g * 18446744073709551616 ≤ g * absI t := by
      have := Int.mul_le_mul_of_nonneg_right hc (show (0 : Int) ≤ 18446744073709551616 by decide)
      omega
    have := Int.le_of_mul_le_mul_left h1 hg
    omega
  · rw [decide_eq_false hc, decide_eq_true (show hi < g by omega), show (d == 0) = false by simp; omega, show (g == 0) = false by simp; omega]
    simp only [cond_true, cond_false]
    have e1 : wu64 ((d * p).tdiv d) = p := by
      rw [Int.mul_tdiv_cancel_left _ (by omega)]
      exact wu64_id (by omega)
    have e2 : wu64 ((d * q).tdiv g) = m := by
      rw [hb1, Int.mul_tdiv_cancel_left _ (by omega)]
      exact wu64_id (by omega)
    have e3 : absI T / g = absI t := by rw [habs]; exact Int.mul_ediv_cancel_left _ (by omega)
    rw [e1, e2, e3]
    have hpm : 0 < p * m := Int.mul_pos hp hm
    unfold mul64
    simp only
    by_cases hbig : p * m / 18446744073709551616 = 0
    · rw [hbig]
      have e4 : p * m % 18446744073709551616 = p * m := by omega
      rw [e4]
      have hn : (bif neg then -absI t else absI t) = t := by
        have h2 : (bif neg then -absI t else absI t) * g = t * g := by
          have h3 := hneg
          rw [habs, ht] at h3
          cases neg
          · simp only [cond_false] at h3 ⊢
            rw [Int.mul_comm, h3, Int.mul_comm]
          · simp only [cond_true] at h3 ⊢
            rw [Int.neg_mul, Int.mul_comm, h3, Int.mul_comm]
        exact Int.eq_of_mul_eq_mul_right (by omega) h2
      rw [lowF_cut hn]
      rfl
    · rw [show (p * m / 18446744073709551616 != 0) = true by simpa using hbig, cond_true, cutF_big]
      right
      omega
theorem add_128 {X Y : Int} (hX : 0 ≤ X ∧ X ≤ 1000000000000000000 * 1000000000000000000) (hY : 0 ≤ Y ∧ Y ≤ 1000000000000000000 * 1000000000000000000) :
    (add64 (X % 18446744073709551616) (Y % 18446744073709551616) 0).2 ≤ 1 ∧ 0 ≤ (add64 (X / 18446744073709551616) (Y / 18446744073709551616) (add64 (X % 18446744073709551616) (Y % 18446744073709551616) 0).2).1 ∧
    (0 ≤ (add64 (X % 18446744073709551616) (Y % 18446744073709551616) 0).1 ∧ (add64 (X % 18446744073709551616) (Y % 18446744073709551616) 0).1 < 18446744073709551616) ∧
    (add64 (X / 18446744073709551616) (Y / 18446744073709551616) (add64 (X % 18446744073709551616) (Y % 18446744073709551616) 0).2).1 * 18446744073709551616 + (add64 (X % 18446744073709551616) (Y % 18446744073709551616) 0).1 = X + Y := by
  unfold add64
  simp only
  omega
theorem sub_128 {X Y : Int} (hX : 0 ≤ X ∧ X ≤ 1000000000000000000 * 1000000000000000000) (hY : 0 ≤ Y ∧ Y ≤ 1000000000000000000 * 1000000000000000000) (h : Y ≤ X) :
    (sub64 (X % 18446744073709551616) (Y % 18446744073709551616) 0).2 ≤ 1 ∧ 0 ≤ (sub64 (X / 18446744073709551616) (Y / 18446744073709551616) (sub64 (X % 18446744073709551616) (Y % 18446744073709551616) 0).2).1 ∧
    (0 ≤ (sub64 (X % 18446744073709551616) (Y % 18446744073709551616) 0).1 ∧ (sub64 (X % 18446744073709551616) (Y % 18446744073709551616) 0).1 < 18446744073709551616) ∧
    (sub64 (X / 18446744073709551616) (Y / 18446744073709551616) (sub64 (X % 18446744073709551616) (Y % 18446744073709551616) 0).2).1 * 18446744073709551616 + (sub64 (X % 18446744073709551616) (Y % 18446744073709551616) 0).1 = X - Y := by
  unfold sub64
  simp only
  by_cases hb : X % 18446744073709551616 < Y % 18446744073709551616 + 0
  · rw [decide_eq_true hb]
    simp only [cond_true]
    omega
  · rw [decide_eq_false hb]
    simp only [cond_false]
    omega
theorem cmp_128 (X Y : Int) : cmpI (X / 18446744073709551616 * 18446744073709551616 + X % 18446744073709551616) (Y / 18446744073709551616 * 18446744073709551616 + Y % 18446744073709551616) = cmpI X Y := by congr 1 <;> omega
theorem cmpI_nonneg (X Y : Int) : decide (0 ≤ cmpI X Y) = decide (Y ≤ X) := by
  unfold cmpI
  by_cases h1 : Y < X
  · rw [decide_eq_true h1, decide_eq_true (show Y ≤ X by omega)]; rfl
  by_cases h2 : X = Y
  · subst h2; simp
  · rw [decide_eq_false h1, show (X == Y) = false by simpa using h2, decide_eq_false (show ¬ Y ≤ X by omega)]; rfl
theorem sumAns_ok {K : AV → List Blk → Ans} {a b : Frac} (ha : FracOk a) (hb : FracOk b) : sumAns K a b = K (rFracE (fracOf (a.num * b.den + b.num * a.den) (a.den * b.den))) [] := by
  obtain ⟨d, p, q, g, t, m, hd, hp, hq, hg, hm, hgd, had, hbd, hG, ht, hbm, _, hF⟩ := sum_red ha hb
  have a1 := ha.denlo
  have a2 := ha.denhi
  have a3 := ha.numlo
  have a4 := ha.numhi
  have b1 := hb.denlo
  have b2 := hb.denhi
  have b3 := hb.numlo
  have b4 := hb.numhi
  have hq1 : q ≤ d * q := by
    have := Int.mul_le_mul_of_nonneg_right (show 1 ≤ d by omega) (show 0 ≤ q by omega)
    omega
  have hp1 : p ≤ d * p := by
    have := Int.mul_le_mul_of_nonneg_right (show 1 ≤ d by omega) (show 0 ≤ p by omega)
    omega
  rw [hF]
  unfold sumAns
  rw [absI_of_nonneg (n := a.den) (by omega), absI_of_nonneg (n := b.den) (by omega), hgd]
  simp only
  rw [show (d == 0) = false by simp; omega]
  simp only [cond_false]
  have e1 : wu64 (b.den.tdiv d) = q := by
    rw [hbd, Int.mul_tdiv_cancel_left _ (by omega)]
    exact wu64_id (by omega)
  have e2 : wu64 (a.den.tdiv d) = p := by
    rw [had, Int.mul_tdiv_cancel_left _ (by omega)]
    exact wu64_id (by omega)
  rw [e1, e2, had, hbd]
  have x0 : 0 ≤ absI a.num * q := Int.mul_nonneg (absI_nonneg _) (by omega)
  have x1 : absI a.num * q ≤ 1000000000000000000 * 1000000000000000000 := Int.mul_le_mul (by unfold absI; omega) (by omega) (by omega) (by omega)
  have y0 : 0 ≤ absI b.num * p := Int.mul_nonneg (absI_nonneg _) (by omega)
  have y1 : absI b.num * p ≤ 1000000000000000000 * 1000000000000000000 := Int.mul_le_mul (by unfold absI; omega) (by omega) (by omega) (by omega)
  have sx : a.num < 0 → a.num * q = -(absI a.num * q) := fun h => by rw [absI_of_neg h, Int.neg_mul]; omega
  have sx' : ¬ a.num < 0 → a.num * q = absI a.num * q := fun h => by rw [absI_of_nonneg (by omega)]
  have sy : b.num < 0 → b.num * p = -(absI b.num * p) := fun h => by rw [absI_of_neg h, Int.neg_mul]; omega
  have sy' : ¬ b.num < 0 → b.num * p = absI b.num * p := fun h => by rw [absI_of_nonneg (by omega)]
  have fin : ∀ (neg : Bool) (hi lo : Int), 0 ≤ hi → 0 ≤ lo ∧ lo < 18446744073709551616 → hi * 18446744073709551616 + lo = absI (a.num * q + b.num * p) → (bif neg then -absI (a.num * q + b.num * p) else absI (a.num * q + b.num * p)) = a.num * q + b.num * p →
      sumTail K neg hi lo d (d * p) (d * q) = K (rFracE (cutF t (p * m))) [] := fun neg hi lo k1 k2 k3 k4 =>
    sumTail_ok k1 k2 k3 k4 hd hp hg hm hG ht (by rw [← hbd, ← hbm]) (by rw [← had]; omega) (by rw [← hbd]; omega)
  unfold sumMid mul64 carryAns
  simp only
  rw [decide_eq_true (show (0 : Int) ≤ 1 by decide), cond_true, cond_true, cond_true]
  generalize absI a.num * q = X at *
  generalize absI b.num * p = Y at *
  have ad := add_128 (X := X) (Y := Y) (by omega) (by omega)
  rw [decide_eq_true ad.1, cond_true, cmp_128, cmpI_nonneg]
  by_cases na : a.num < 0
  · by_cases nb : b.num < 0
    · rw [decide_eq_true na, decide_eq_true nb]
      simp only [beq_self_eq_true, cond_true]
      refine fin true _ _ ad.2.1 ad.2.2.1 ?_ ?_
      · rw [ad.2.2.2, sx na, sy nb]; unfold absI; omega
      · rw [sx na, sy nb]; unfold absI; simp only [cond_true]; omega
    · rw [decide_eq_true na, decide_eq_false nb]
      simp only [show (true == false) = false from rfl, cond_false]
      by_cases hc : Y ≤ X
      · have sb := sub_128 (X := X) (Y := Y) (by omega) (by omega) hc
        rw [decide_eq_true hc, cond_true, decide_eq_true sb.1, cond_true]
        refine fin true _ _ sb.2.1 sb.2.2.1 ?_ ?_
        · rw [sb.2.2.2, sx na, sy' nb]; unfold absI; omega
        · rw [sx na, sy' nb]; unfold absI; simp only [cond_true]; omega
      · have sb := sub_128 (X := Y) (Y := X) (by omega) (by omega) (by omega)
        rw [decide_eq_false hc, cond_false, decide_eq_true sb.1, cond_true]
        refine fin false _ _ sb.2.1 sb.2.2.1 ?_ ?_
        · rw [sb.2.2.2, sx na, sy' nb]; unfold absI; omega
        · rw [sx na, sy' nb]; unfold absI; simp only [cond_false]; omega
  · by_cases nb : b.num < 0
    · rw [decide_eq_false na, decide_eq_true nb]
      simp only [show (false == true) = false from rfl, cond_false]
      by_cases hc : Y ≤ X
      · have sb := sub_128 (X := X) (Y := Y) (by omega) (by omega) hc
        rw [decide_eq_true hc, cond_true, decide_eq_true sb.1, cond_true]
        refine fin false _ _ sb.2.1 sb.2.2.1 ?_ ?_
        · rw [sb.2.2.2, sx' na, sy nb]; unfold absI; omega
        · rw [sx' na, sy nb]; unfold absI; simp only [cond_false]; omega
      · have sb := sub_128 (X := Y) (Y := X) (by omega) (by omega) (by omega)
        rw [decide_eq_false hc, cond_false, decide_eq_true sb.1, cond_true]
        refine fin true _ _ sb.2.1 sb.2.2.1 ?_ ?_
        · rw [sb.2.2.2, sx' na, sy nb]; unfold absI; omega
        · rw [sx' na, sy nb]; unfold absI; simp only [cond_true]; omega
    · rw [decide_eq_false na, decide_eq_false nb]
      simp only [beq_self_eq_true, cond_true]
      refine fin false _ _ ad.2.1 ad.2.2.1 ?_ ?_
      · rw [ad.2.2.2, sx' na, sy' nb]; unfold absI; omega
      · rw [sx' na, sy' nb]; unfold absI; simp only [cond_false]; omega
def prodAns (K : AV → List Blk → Ans) (a b : Frac) : Ans :=
  let g := gcdI (absI a.num) (absI b.den)
  let h := gcdI (absI b.num) (absI a.den)
  bif g == 0 then none else bif h == 0 then none else
  bif h == 0 then none else bif g == 0 then none else
  let n := mul64 (wu64 ((absI a.num).tdiv g)) (wu64 ((absI b.num).tdiv h))
  let d := mul64 (wu64 ((absI a.den).tdiv h)) (wu64 ((absI b.den).tdiv g))
  bif n.1 != 0 then K (rFracE (fracZ, 16)) [] else bif d.1 != 0 then K (rFracE (fracZ, 16)) [] else K (rFracE (lowF (diffSign a.num b.num) n.2 d.2)) []
theorem diff_sign {x y : Int} : (bif diffSign x y then -absI (x * y) else absI (x * y)) = x * y := by
  have e : absI (x * y) = absI x * absI y := by simp only [absI_eq]; rw [Int.natAbs_mul, Int.natCast_mul]
  unfold diffSign
  rw [e]
  by_cases hx : x < 0
  · by_cases hy : y < 0
    · rw [decide_eq_true hx, decide_eq_true hy, absI_of_neg hx, absI_of_neg hy]
      simp [Int.neg_mul_neg]
    · rw [decide_eq_true hx, decide_eq_false hy, absI_of_neg hx, absI_of_nonneg (by omega)]
      simp [Int.neg_mul]
  · by_cases hy : y < 0
    · rw [decide_eq_false hx, decide_eq_true hy, absI_of_nonneg (by omega), absI_of_neg hy]
      simp [Int.mul_neg]
    · rw [decide_eq_false hx, decide_eq_false hy, absI_of_nonneg (by omega), absI_of_nonneg (by omega)]
      simp
theorem diffSign_pos {x y c e : Int} (hc : 0 < c) (he : 0 < e) : diffSign (c * x) (e * y) = diffSign x y := by
  have h : ∀ k z : Int, 0 < k → (decide (k * z < 0) = decide (z < 0)) := by
    intro k z hk
    apply decide_eq_decide.2
    constructor
    · intro h
      rcases Int.lt_or_le z 0 with q | q
      · exact q
      · have := Int.mul_nonneg (Int.le_of_lt hk) q
        omega
    · intro h
      exact Int.mul_neg_of_pos_of_neg hk h
  unfold diffSign
  rw [h c x hc, h e y he]
theorem prodAns_ok {K : AV → List Blk → Ans} {a b : Frac} (ha : FracOk a) (hb : FracOk b) : prodAns K a b = K (rFracE (fracOf (a.num * b.num) (a.den * b.den))) [] := by
  obtain ⟨g, h, x, y, u, v, hg, hh, hu, hv, hG, hH, hx, hy, hau, hbv, hF⟩ := prod_red ha hb
  have a1 := ha.denlo
  have a2 := ha.denhi
  have a3 := ha.numlo
  have a4 := ha.numhi
  have b1 := hb.denlo
  have b2 := hb.denhi
  have b3 := hb.numlo
  have b4 := hb.numhi
  have cut : ∀ k z w : Int, 0 < k → z = k * w → absI z ≤ 1000000000000000000 → wu64 ((absI z).tdiv k) = absI w := by
    intro k z w hk hz hle
    have e : absI z = k * absI w := by
      rw [hz]; simp only [absI_eq]; rw [Int.natAbs_mul, Int.natCast_mul, show ((k.natAbs : Nat) : Int) = k by omega]
    have h1 : absI w ≤ k * absI w := by
      have := Int.mul_le_mul_of_nonneg_right (show 1 ≤ k by omega) (absI_nonneg w)
      omega
    rw [e, Int.mul_tdiv_cancel_left _ (by omega)]
    exact wu64_id ⟨absI_nonneg w, by omega⟩
  have e1 := cut g a.num x hg hx (by unfold absI; omega)
  have e2 := cut h b.num y hh hy (by unfold absI; omega)
  have e3 := cut h a.den u hh hau (by unfold absI; omega)
  have e4 := cut g b.den v hg hbv (by unfold absI; omega)
  rw [hF]
  unfold prodAns
  rw [gcdI_abs_left, gcdI_abs_right, gcdI_abs_left, gcdI_abs_right, hG, hH]
  simp only
  rw [show (g == 0) = false by simp; omega, show (h == 0) = false by simp; omega, e1, e2, e3, e4]
  simp only [cond_false]
  have ex : absI x * absI y = absI (x * y) := by simp only [absI_eq]; rw [Int.natAbs_mul, Int.natCast_mul]
  have ey : absI u * absI v = u * v := by rw [absI_of_nonneg (by omega), absI_of_nonneg (by omega)]
  have es : diffSign a.num b.num = diffSign x y := by rw [hx, hy, diffSign_pos hg hh]
  have n0 := absI_nonneg (x * y)
  have d0 : 0 < u * v := Int.mul_pos hu hv
  unfold mul64
  simp only
  rw [ex, ey, es]
  by_cases c1 : absI (x * y) / 18446744073709551616 = 0
  · by_cases c2 : u * v / 18446744073709551616 = 0
    · rw [c1, c2, show absI (x * y) % 18446744073709551616 = absI (x * y) by omega, show u * v % 18446744073709551616 = u * v by omega, lowF_cut diff_sign]
      rfl
    · rw [c1, show (u * v / 18446744073709551616 != 0) = true by simpa using c2, cutF_big (by omega)]
      rfl
  · rw [show (absI (x * y) / 18446744073709551616 != 0) = true by simpa using c1, cutF_big (by omega)]
    rfl
end Go.Ev

namespace Go.Ev
open Go
def bothE (a b : Frac) : Int := bif checkF a != 0 then checkF a else checkF b
theorem bothE_eq (a b : Frac) : bothE a b = bif fracOkB a && fracOkB b then 0 else 8 := by
  unfold bothE checkF
  cases fracOkB a <;> cases fracOkB b <;> rfl
end Go.Ev

namespace Go.Ev
open Go
def vecOkB (v : Vec) : Bool := fracOkB v.x && (fracOkB v.y && fracOkB v.z)
def checkV (v : Vec) : Int := bif vecOkB v then 0 else 8
def checkVRaw (v : Vec) : Int := bif checkF v.x != 0 then 8 else bif checkF v.y != 0 then 8 else bif checkF v.z != 0 then 8 else 0
theorem checkVRaw_ok (v : Vec) : checkVRaw v = checkV v := by
  unfold checkVRaw checkV vecOkB checkF
  cases fracOkB v.x <;> cases fracOkB v.y <;> cases fracOkB v.z <;> rfl
structure VecOk (v : Vec) : Prop where
  x : FracOk v.x
  y : FracOk v.y
  z : FracOk v.z
theorem vecOkB_iff {v : Vec} : vecOkB v = true ↔ VecOk v := by
  unfold vecOkB
  simp only [Bool.and_eq_true, fracOkB_iff]
  exact ⟨fun h => ⟨h.1, h.2.1, h.2.2⟩, fun h => ⟨h.x, h.y, h.z⟩⟩
def eachV (x y z : Frac × Int) : Vec × Int := bif x.2 != 0 then (vecZ, x.2) else bif y.2 != 0 then (vecZ, y.2) else bif z.2 != 0 then (vecZ, z.2) else (⟨x.1, y.1, z.1⟩, 0)
def eachAns (K : AV → List Blk → Ans) (x y z : Frac × Int) : Ans := bif x.2 != 0 then K (rVecE (vecZ, x.2)) [] else bif y.2 != 0 then K (rVecE (vecZ, y.2)) [] else bif z.2 != 0 then K (rVecE (vecZ, z.2)) [] else K (rVecE (⟨x.1, y.1, z.1⟩, 0)) []
theorem eachAns_ok {K : AV → List Blk → Ans} {x y z : Frac × Int} : eachAns K x y z = K (rVecE (eachV x y z)) [] := by
  unfold eachAns eachV
  cases x.2 != 0 <;> cases y.2 != 0 <;> cases z.2 != 0 <;> rfl
def twiceAns (e : Int) (bad ok : Ans) (more : Ans) : Ans := bif e != 0 then (bif e != 0 then bad else ok) else more
def addAns (K : AV → List Blk → Ans) (a b : Frac) : Ans := bif bothE a b != 0 then K (rFracE (fracZ, bothE a b)) [] else bif fracOkB a && fracOkB b then K (rFracE (fracOf (a.num * b.den + b.num * a.den) (a.den * b.den))) [] else none
theorem addAns_ok {K : AV → List Blk → Ans} {a b : Frac} : addAns K a b = K (rFracE (addF a b)) [] := by
  unfold addAns addF
  rw [bothE_eq]
  cases fracOkB a && fracOkB b <;> rfl
theorem frac_val {n d : Int} (hd : 0 < d) {x : Frac} (h : fracOf n d = (x, 0)) : FracOk x ∧ x.num * d = n * x.den := by
  have hg : 0 < gcdI n d := gcdI_pos (by omega)
  obtain ⟨n', hn⟩ : gcdI n d ∣ n := gcdI_dvd_left ..
  obtain ⟨d', hd'⟩ : gcdI n d ∣ d := gcdI_dvd_right ..
  have hc : Int.gcd n' d' = 1 := by
    have e : gcdI (gcdI n d * n') (gcdI n d * d') = gcdI n d := by rw [← hn, ← hd']
    generalize gcdI n d = k at *
    rw [gcdI_eq] at e
    rw [Int.gcd_mul_left, Int.natCast_mul, show ((k.natAbs : Nat) : Int) = k by omega] at e
    have : ((Int.gcd n' d' : Nat) : Int) = 1 := Int.eq_of_mul_eq_mul_left (a := k) (by omega) (by omega)
    omega
  rw [fracOf_red hg hn hd' hc] at h
  generalize gcdI n d = k at *
  have hd0 : 0 < d' := by
    rcases Int.lt_or_le 0 d' with q | q
    · exact q
    · have := Int.mul_le_mul_of_nonneg_left q (show 0 ≤ k by omega)
      omega
  unfold cutF at h
  cases hb : decide (absI n' ≤ 1000000000000000000) && decide (d' ≤ 1000000000000000000) with
  | false => rw [hb] at h; simp at h
  | true =>
    rw [hb] at h
    simp only [cond_true, Prod.mk.injEq, and_true] at h
    subst h
    simp only [Bool.and_eq_true, decide_eq_true_eq] at hb
    unfold absI at hb
    refine ⟨⟨by simp only; omega, hb.2, by simp only; omega, by simp only; omega, hc⟩, ?_⟩
    simp only
    rw [hn, hd']
    grind
theorem fst_of {α : Type} {x : α × Int} (h : x.2 = 0) : x = (x.1, 0) := by cases x; simp only at h; rw [h]
def divF (a b : Frac) : Frac × Int := bif fracOkB a && fracOkB b then (bif b.num == 0 then (fracZ, 18) else bif decide (b.num < 0) then fracOf (a.num * -b.den) (a.den * -b.num) else fracOf (a.num * b.den) (a.den * b.num)) else (fracZ, 8)
theorem FracOk.over {a : Frac} (h : FracOk a) (h0 : 0 < a.num) : FracOk ⟨a.den, a.num⟩ :=
  ⟨by simp only; omega, h.numhi, by have := h.denlo; simp only; omega, h.denhi, by rw [Int.gcd_comm]; exact h.gcd⟩
def mulAns (K : AV → List Blk → Ans) (a b : Frac) : Ans := bif bothE a b != 0 then K (rFracE (fracZ, bothE a b)) [] else bif fracOkB a && fracOkB b then K (rFracE (fracOf (a.num * b.num) (a.den * b.den))) [] else none
theorem mulAns_ok {K : AV → List Blk → Ans} {a b : Frac} : mulAns K a b = K (rFracE (mulF a b)) [] := by
  unfold mulAns mulF
  rw [bothE_eq]
  cases fracOkB a && fracOkB b <;> rfl
end Go.Ev

namespace Go.Ev
open Go
def alongS (d : Dir) (v : Vec) : Span × Int :=
  bif [d.x, d.y, d.z].all spanValid then (bif vecOkB v then (bif (ofS v.x).2 != 0 then (spanZ, (ofS v.x).2) else bif (ofS v.y).2 != 0 then (spanZ, (ofS v.y).2) else bif (ofS v.z).2 != 0 then (spanZ, (ofS v.z).2) else
    prodsS spanZ [(d.x, (ofS v.x).1), (d.y, (ofS v.y).1), (d.z, (ofS v.z).1)]) else (spanZ, 8)) else (spanZ, 8)
def alongAns (K : AV → List Blk → Ans) (d : Dir) (v : Vec) : Ans :=
  validAns (K (rSpanE (spanZ, 8)) []) (bif checkV v != 0 then K (rSpanE (spanZ, 8)) [] else
    bif (ofS v.x).2 != 0 then K (rSpanE (spanZ, (ofS v.x).2)) [] else bif (ofS v.y).2 != 0 then K (rSpanE (spanZ, (ofS v.y).2)) [] else bif (ofS v.z).2 != 0 then K (rSpanE (spanZ, (ofS v.z).2)) [] else
    prodsAns K spanZ [(d.x, (ofS v.x).1), (d.y, (ofS v.y).1), (d.z, (ofS v.z).1)]) [d.x, d.y, d.z]
theorem alongAns_ok {K : AV → List Blk → Ans} {d : Dir} {v : Vec} : alongAns K d v = K (rSpanE (alongS d v)) [] := by
  unfold alongAns alongS checkV
  rw [validAns_ok, prodsAns_ok]
  cases [d.x, d.y, d.z].all spanValid with
  | false => rfl
  | true =>
    cases vecOkB v with
    | false => rfl
    | true =>
      cases (ofS v.x).2 != 0 <;> cases (ofS v.y).2 != 0 <;> cases (ofS v.z).2 != 0 <;> rfl
end Go.Ev

namespace Go.Ev
open Go
theorem fracOf_err (n d : Int) : (fracOf n d).2 = 0 ∨ fracOf n d = (fracZ, 16) := by
  unfold fracOf
  cases decide (absI n / gcdI n d ≤ 1000000000000000000) && decide (d / gcdI n d ≤ 1000000000000000000)
  · exact .inr rfl
  · exact .inl rfl
theorem addF_ok {a b : Frac} (ha : FracOk a) (hb : FracOk b) : addF a b = fracOf (a.num * b.den + b.num * a.den) (a.den * b.den) := by unfold addF; rw [fracOkB_iff.2 ha, fracOkB_iff.2 hb]; rfl
theorem subF_ok {a b : Frac} (ha : FracOk a) (hb : FracOk b) : subF a b = fracOf (a.num * b.den - b.num * a.den) (a.den * b.den) := by unfold subF; rw [fracOkB_iff.2 ha, fracOkB_iff.2 hb]; rfl
theorem mulF_ok {a b : Frac} (ha : FracOk a) (hb : FracOk b) : mulF a b = fracOf (a.num * b.num) (a.den * b.den) := by unfold mulF; rw [fracOkB_iff.2 ha, fracOkB_iff.2 hb]; rfl
theorem den_pos {a b : Frac} (ha : FracOk a) (hb : FracOk b) : 0 < a.den * b.den := Int.mul_pos (by have := ha.denlo; omega) (by have := hb.denlo; omega)
theorem addF_cases {a b : Frac} (ha : FracOk a) (hb : FracOk b) : (∃ c, addF a b = (c, 0) ∧ FracOk c) ∨ addF a b = (fracZ, 16) := by
  rw [addF_ok ha hb]
  rcases fracOf_err (a.num * b.den + b.num * a.den) (a.den * b.den) with h | h
  · exact .inl ⟨_, fst_of h, (frac_val (den_pos ha hb) (fst_of h)).1⟩
  · exact .inr h
theorem subF_cases {a b : Frac} (ha : FracOk a) (hb : FracOk b) : (∃ c, subF a b = (c, 0) ∧ FracOk c) ∨ subF a b = (fracZ, 16) := by
  rw [subF_ok ha hb]
  rcases fracOf_err (a.num * b.den - b.num * a.den) (a.den * b.den) with h | h
  · exact .inl ⟨_, fst_of h, (frac_val (den_pos ha hb) (fst_of h)).1⟩
  · exact .inr h
theorem mulF_cases {a b : Frac} (ha : FracOk a) (hb : FracOk b) : (∃ c, mulF a b = (c, 0) ∧ FracOk c) ∨ mulF a b = (fracZ, 16) := by
  rw [mulF_ok ha hb]
  rcases fracOf_err (a.num * b.num) (a.den * b.den) with h | h
  · exact .inl ⟨_, fst_of h, (frac_val (den_pos ha hb) (fst_of h)).1⟩
  · exact .inr h
theorem absI_neg (n : Int) : absI (-n) = absI n := by rw [absI_eq, absI_eq, Int.natAbs_neg]
theorem negN {b : Frac} (hb : FracOk b) : w64 (0 - b.num) = -b.num := by rw [w64_id (n := 0 - b.num) (by have := hb.numhi; have := hb.numlo; omega)]; omega
def negR (a : Frac) : Frac := ⟨w64 (0 - a.num), a.den⟩
theorem negR_ok {b : Frac} (hb : FracOk b) : FracOk (negR b) := by unfold negR; rw [negN hb]; exact hb.neg
theorem addF_neg {a b : Frac} (ha : FracOk a) (hb : FracOk b) : addF a (negR b) = subF a b := by
  rw [addF_ok ha (negR_ok hb), subF_ok ha hb]
  unfold negR
  rw [negN hb]
  simp only
  rw [show a.num * b.den + -b.num * a.den = a.num * b.den - b.num * a.den by rw [Int.neg_mul]; omega]
theorem addF_nought {p : Frac} (hp : FracOk p) : addF ⟨0, 1⟩ p = (p, 0) := by
  have h0 : FracOk ⟨0, 1⟩ := fracOkB_iff.1 (by decide)
  rw [addF_ok h0 hp, fracOf_red (c := 1) (n' := p.num) (d' := p.den) (by omega) (by simp) (by simp) hp.gcd]
  unfold cutF
  have := hp.numlo; have := hp.numhi; have := hp.denhi
  rw [decide_eq_true (show absI p.num ≤ 1000000000000000000 by unfold absI; omega), decide_eq_true (by omega)]
  rfl
def bothAns (bad : Int → Ans) (v w : Vec) (more : Ans) : Ans := twiceAns (checkV v) (bad (checkV v)) more (twiceAns (checkV w) (bad (checkV w)) more more)
theorem bothAns_ok {bad : Int → Ans} {v w : Vec} {more : Ans} : bothAns bad v w more = bif vecOkB v && vecOkB w then more else bad 8 := by
  unfold bothAns checkV twiceAns
  cases vecOkB v <;> cases vecOkB w <;> rfl
def scaleV (v : Vec) (f : Frac) : Vec × Int := bif vecOkB v && fracOkB f then eachV (mulF v.x f) (mulF v.y f) (mulF v.z f) else (vecZ, 8)
def scaleAns (K : AV → List Blk → Ans) (v : Vec) (f : Frac) : Ans := bif checkF v.x != 0 then K (rVecE (vecZ, 8)) [] else bif checkF v.y != 0 then K (rVecE (vecZ, 8)) [] else bif checkF v.z != 0 then K (rVecE (vecZ, 8)) [] else bif checkF f != 0 then K (rVecE (vecZ, 8)) [] else
  eachAns K (mulF v.x f) (mulF v.y f) (mulF v.z f)
theorem scaleAns_ok {K : AV → List Blk → Ans} {v : Vec} {f : Frac} : scaleAns K v f = K (rVecE (scaleV v f)) [] := by
  unfold scaleAns scaleV checkF vecOkB
  rw [eachAns_ok]
  cases fracOkB v.x <;> cases fracOkB v.y <;> cases fracOkB v.z <;> cases fracOkB f <;> rfl
def andF (x : Frac × Int) (k : Frac → Frac × Int) : Frac × Int := bif x.2 == 0 then k x.1 else (fracZ, x.2)
def dotStep (K : AV → List Blk → Ans) (sum a b : Frac) (more : Frac → Ans) : Ans :=
  bif (mulF a b).2 == 0 then (bif (addF sum (mulF a b).1).2 != 0 then K (rFracE (fracZ, (addF sum (mulF a b).1).2)) [] else more (addF sum (mulF a b).1).1) else (bif (mulF a b).2 != 0 then K (rFracE (fracZ, (mulF a b).2)) [] else more sum)
theorem dotStep_ok {K : AV → List Blk → Ans} {sum a b : Frac} {more : Frac → Ans} {m : Frac → Frac × Int} (h : ∀ s, more s = K (rFracE (m s)) []) : dotStep K sum a b more = K (rFracE (andF (mulF a b) fun p => andF (addF sum p) m)) [] := by
  unfold dotStep andF
  simp only [h]
  cases h1 : (mulF a b).2 == 0 with
  | true =>
    simp only [cond_true]
    cases h2 : (addF sum (mulF a b).1).2 == 0 <;> simp [bne, h2]
  | false => simp [bne, h1]
def dotF (v w : Vec) : Frac × Int := andF (mulF v.x w.x) fun p => andF (addF ⟨0, 1⟩ p) fun s => andF (mulF v.y w.y) fun p => andF (addF s p) fun s => andF (mulF v.z w.z) fun p => andF (addF s p) fun s => (s, 0)
def dotFAns (K : AV → List Blk → Ans) (v w : Vec) : Ans := dotStep K ⟨0, 1⟩ v.x w.x fun s => dotStep K s v.y w.y fun s => dotStep K s v.z w.z fun s => K (rFracE (s, 0)) []
theorem dotFAns_ok {K : AV → List Blk → Ans} {v w : Vec} : dotFAns K v w = K (rFracE (dotF v w)) [] := by
  unfold dotFAns dotF
  exact dotStep_ok fun s => dotStep_ok fun s => dotStep_ok fun s => rfl
def dotV (v w : Vec) : Frac × Int := bif vecOkB v && vecOkB w then dotF v w else (fracZ, 8)
def dotVAns (K : AV → List Blk → Ans) (v w : Vec) : Ans := bothAns (fun e => K (rFracE (fracZ, e)) []) v w (K (rFracE (dotF v w)) [])
theorem dotVAns_ok {K : AV → List Blk → Ans} {v w : Vec} : dotVAns K v w = K (rFracE (dotV v w)) [] := by
  unfold dotVAns dotV
  rw [bothAns_ok]
  cases vecOkB v && vecOkB w <;> rfl
def crossC (a b c d : Frac) : Frac × Int := andF (mulF a b) fun p => andF (mulF c d) fun q => subF p q
def crossF (v w : Vec) : Vec × Int := eachV (crossC v.y w.z v.z w.y) (crossC v.z w.x v.x w.z) (crossC v.x w.y v.y w.x)
def chain (K : AV → List Blk → Ans) : List Bool → Ans
  | [] => K (rB true) []
  | [c] => K (rB c) []
  | c :: r => bif c then chain K r else K (rB false) []
end Go.Ev

namespace Go.Ev
open Go
structure Mat where
  a : Vec
  b : Vec
  c : Vec
def Mat.cells (m : Mat) : List D := [.int .i64 m.a.x.num, .int .i64 m.a.x.den, .int .i64 m.a.y.num, .int .i64 m.a.y.den, .int .i64 m.a.z.num, .int .i64 m.a.z.den,
  .int .i64 m.b.x.num, .int .i64 m.b.x.den, .int .i64 m.b.y.num, .int .i64 m.b.y.den, .int .i64 m.b.z.num, .int .i64 m.b.z.den,
  .int .i64 m.c.x.num, .int .i64 m.c.x.den, .int .i64 m.c.y.num, .int .i64 m.c.y.den, .int .i64 m.c.z.num, .int .i64 m.c.z.den]
def matZ : Mat := ⟨vecZ, vecZ, vecZ⟩
def oneF : Frac := ⟨1, 1⟩
def zeroF : Frac := ⟨0, 1⟩
def unitM : Mat := ⟨⟨oneF, zeroF, zeroF⟩, ⟨zeroF, oneF, zeroF⟩, ⟨zeroF, zeroF, oneF⟩⟩
def matOkB (m : Mat) : Bool := vecOkB m.a && (vecOkB m.b && vecOkB m.c)
def Mat.list (m : Mat) : List Frac := [m.a.x, m.a.y, m.a.z, m.b.x, m.b.y, m.b.z, m.c.x, m.c.y, m.c.z]
structure MatOk (m : Mat) : Prop where
  a : VecOk m.a
  b : VecOk m.b
  c : VecOk m.c
theorem matOkB_iff {m : Mat} : matOkB m = true ↔ MatOk m := by
  unfold matOkB
  simp only [Bool.and_eq_true, vecOkB_iff]
  exact ⟨fun h => ⟨h.1, h.2.1, h.2.2⟩, fun h => ⟨h.a, h.b, h.c⟩⟩
def andG {α β : Type} (x : α × Int) (z : β) (k : α → β × Int) : β × Int := bif x.2 == 0 then k x.1 else (z, x.2)
def applyF (m : Mat) (v : Vec) : Vec × Int := eachV (dotF m.a v) (dotF m.b v) (dotF m.c v)
theorem dotV_ok {v w : Vec} (hv : VecOk v) (hw : VecOk w) : dotV v w = dotF v w := by unfold dotV; rw [vecOkB_iff.2 hv, vecOkB_iff.2 hw]; rfl
def flipM (m : Mat) : Mat := ⟨⟨m.a.x, m.b.x, m.c.x⟩, ⟨m.a.y, m.b.y, m.c.y⟩, ⟨m.a.z, m.b.z, m.c.z⟩⟩
def rowF (v : Vec) (c : Mat) : Vec × Int := eachV (dotF v c.a) (dotF v c.b) (dotF v c.c)
def prodC (m c : Mat) : Mat × Int := andG (rowF m.a c) matZ fun x => andG (rowF m.b c) matZ fun y => andG (rowF m.c c) matZ fun z => (⟨x, y, z⟩, 0)
def prodF (m n : Mat) : Mat × Int := prodC m (flipM n)
def detF (m : Mat) : Frac × Int := andG (crossF m.b m.c) fracZ fun c => dotF m.a c
theorem crossC_cases {a b c d : Frac} (ha : FracOk a) (hb : FracOk b) (hc : FracOk c) (hd : FracOk d) : (∃ r, crossC a b c d = (r, 0) ∧ FracOk r) ∨ crossC a b c d = (fracZ, 16) := by
  unfold crossC andF
  rcases mulF_cases ha hb with ⟨p, e1, k1⟩ | e1
  · rcases mulF_cases hc hd with ⟨q, e2, k2⟩ | e2
    · rw [e1, e2]; exact subF_cases k1 k2
    · rw [e1, e2]; exact .inr rfl
  · rw [e1]; exact .inr rfl
theorem eachV_cases {x y z : Frac × Int} (hx : (∃ r, x = (r, 0) ∧ FracOk r) ∨ x = (fracZ, 16)) (hy : (∃ r, y = (r, 0) ∧ FracOk r) ∨ y = (fracZ, 16)) (hz : (∃ r, z = (r, 0) ∧ FracOk r) ∨ z = (fracZ, 16)) :
    (∃ v, eachV x y z = (v, 0) ∧ VecOk v ∧ x = (v.x, 0) ∧ y = (v.y, 0) ∧ z = (v.z, 0)) ∨ eachV x y z = (vecZ, 16) := by
  unfold eachV
  rcases hx with ⟨a, rfl, ka⟩ | rfl
  · rcases hy with ⟨b, rfl, kb⟩ | rfl
    · rcases hz with ⟨c, rfl, kc⟩ | rfl
      · exact .inl ⟨⟨a, b, c⟩, rfl, ⟨ka, kb, kc⟩, rfl, rfl, rfl⟩
      · exact .inr rfl
    · exact .inr rfl
  · exact .inr rfl
theorem crossF_cases {v w : Vec} (hv : VecOk v) (hw : VecOk w) : (∃ u, crossF v w = (u, 0) ∧ VecOk u ∧ crossC v.y w.z v.z w.y = (u.x, 0) ∧ crossC v.z w.x v.x w.z = (u.y, 0) ∧ crossC v.x w.y v.y w.x = (u.z, 0)) ∨ crossF v w = (vecZ, 16) :=
  eachV_cases (crossC_cases hv.y hw.z hv.z hw.y) (crossC_cases hv.z hw.x hv.x hw.z) (crossC_cases hv.x hw.y hv.y hw.x)
def turnOf (axis : Int) (c s : Frac) : Mat := bif axis == 0 then ⟨⟨oneF, zeroF, zeroF⟩, ⟨zeroF, c, negR s⟩, ⟨zeroF, s, c⟩⟩ else bif axis == 1 then ⟨⟨c, zeroF, s⟩, ⟨zeroF, oneF, zeroF⟩, ⟨negR s, zeroF, c⟩⟩ else ⟨⟨c, negR s, zeroF⟩, ⟨s, c, zeroF⟩, ⟨zeroF, zeroF, oneF⟩⟩
theorem one_ok : FracOk oneF := fracOkB_iff.1 (by decide)
theorem zero_ok : FracOk zeroF := fracOkB_iff.1 (by decide)
theorem mulF_val {a b c : Frac} (ha : FracOk a) (hb : FracOk b) (h : mulF a b = (c, 0)) : FracOk c ∧ c.num * (a.den * b.den) = (a.num * b.num) * c.den := by
  rw [mulF_ok ha hb] at h
  exact frac_val (den_pos ha hb) h
theorem addF_vl {a b c : Frac} (ha : FracOk a) (hb : FracOk b) (h : addF a b = (c, 0)) : FracOk c ∧ c.num * (a.den * b.den) = (a.num * b.den + b.num * a.den) * c.den := by
  rw [addF_ok ha hb] at h
  exact frac_val (den_pos ha hb) h
theorem sq_nn (n : Int) : 0 ≤ n * n := by
  rcases Int.le_total 0 n with h | h
  · exact Int.mul_nonneg h h
  · exact Int.mul_nonneg_of_nonpos_of_nonpos h h
def isV (m : Mat) : Bool × Int := bif matOkB m then andG (prodF m (flipM m)) false fun p => andG (detF m) false fun d => (eqAll p.cells unitM.cells && eqAll d.cells oneF.cells, 0) else (false, 8)
end Go.Ev

namespace Go.Ev
open Go
def val (a : Frac) : Rat := (a.num : Rat) / (a.den : Rat)
theorem den_ne {a : Frac} (h : FracOk a) : (a.den : Rat) ≠ 0 := by
  have := h.denlo
  exact_mod_cast (show a.den ≠ 0 by omega)
theorem val_mul {a : Frac} (h : FracOk a) : val a * (a.den : Rat) = a.num := by unfold val; exact Rat.div_mul_cancel (den_ne h)
theorem val_of {x : Frac} (hx : FracOk x) {n d : Int} (h : x.num * d = n * x.den) : val x * (d : Rat) = n := by
  have h1 := den_ne hx
  have h2 := val_mul hx
  have h3 : (x.num : Rat) * d = n * x.den := by exact_mod_cast h
  grind
theorem of_val {x : Frac} (hx : FracOk x) {n d : Int} (h : val x * (d : Rat) = n) : x.num * d = n * x.den := by
  have h1 := den_ne hx
  have h2 := val_mul hx
  have h3 : (x.num : Rat) * d = n * x.den := by grind
  exact_mod_cast h3
theorem den_dvd {x : Frac} (hx : FracOk x) {n d : Int} (h : x.num * d = n * x.den) : x.den ∣ d := by
  have hg := hx.gcd
  have h1 : x.den.natAbs ∣ x.num.natAbs * d.natAbs := by
    rw [← Int.natAbs_mul, h, Int.natAbs_mul]
    exact Nat.dvd_mul_left ..
  have h2 : x.den.natAbs ∣ d.natAbs := Nat.Coprime.dvd_of_dvd_mul_left (by rw [Nat.coprime_comm]; exact hg) h1
  exact Int.natAbs_dvd_natAbs.1 h2
theorem least {x : Frac} (hx : FracOk x) {n d : Int} (hd : 0 < d) (h : x.num * d = n * x.den) : x.den ≤ d ∧ absI x.num ≤ absI n := by
  obtain ⟨k, hk⟩ := den_dvd hx h
  have h1 := hx.denlo
  have hk0 : 0 < k := by
    rcases Int.lt_or_le 0 k with q | q
    · exact q
    · have := Int.mul_nonpos_of_nonneg_of_nonpos (show 0 ≤ x.den by omega) q
      omega
  subst hk
  have hn : n = x.num * k := by
    have : x.den * (x.num * k) = x.den * n := by grind
    exact (Int.eq_of_mul_eq_mul_left (by omega) this).symm
  refine ⟨?_, ?_⟩
  · have := Int.mul_le_mul_of_nonneg_left (show 1 ≤ k by omega) (show 0 ≤ x.den by omega)
    omega
  · rw [hn, absI_eq, absI_eq, Int.natAbs_mul, Int.natCast_mul]
    have := Int.mul_le_mul_of_nonneg_left (show 1 ≤ (k.natAbs : Int) by omega) (show 0 ≤ (x.num.natAbs : Int) by omega)
    omega
theorem val_inj {a b : Frac} (ha : FracOk a) (hb : FracOk b) (h : val a = val b) : a = b := by
  have h1 : a.num * b.den = b.num * a.den := of_val ha (by rw [h]; exact val_mul hb)
  have h2 := (least ha (by have := hb.denlo; omega) h1).1
  have h3 := (least hb (by have := ha.denlo; omega) h1.symm).1
  have h4 : a.den = b.den := by omega
  have h5 : a.num = b.num := by
    rw [h4] at h1
    exact Int.eq_of_mul_eq_mul_right (by have := hb.denlo; omega) h1
  cases a; cases b
  simp only at h4 h5
  rw [h4, h5]
theorem val_zero : val zeroF = 0 := by unfold val zeroF; decide +kernel
theorem val_one : val oneF = 1 := by unfold val oneF; decide +kernel
theorem val_neg {a : Frac} (h : FracOk a) : val (negR a) = - val a := by
  unfold negR
  rw [negN h]
  unfold val
  simp only
  rw [Rat.intCast_neg]
  grind
theorem add_val {a b c : Frac} (ha : FracOk a) (hb : FracOk b) (h : addF a b = (c, 0)) : FracOk c ∧ val c = val a + val b := by
  obtain ⟨kc, e⟩ := addF_vl ha hb h
  refine ⟨kc, ?_⟩
  have := val_of kc e
  have h1 := val_mul ha; have h2 := val_mul hb
  have h3 := den_ne ha; have h4 := den_ne hb
  rw [Rat.intCast_add, Rat.intCast_mul, Rat.intCast_mul, Rat.intCast_mul] at this
  grind
theorem mul_val {a b c : Frac} (ha : FracOk a) (hb : FracOk b) (h : mulF a b = (c, 0)) : FracOk c ∧ val c = val a * val b := by
  obtain ⟨kc, e⟩ := mulF_val ha hb h
  refine ⟨kc, ?_⟩
  have := val_of kc e
  have h1 := val_mul ha; have h2 := val_mul hb
  have h3 := den_ne ha; have h4 := den_ne hb
  rw [Rat.intCast_mul, Rat.intCast_mul] at this
  grind
theorem sub_val {a b c : Frac} (ha : FracOk a) (hb : FracOk b) (h : subF a b = (c, 0)) : FracOk c ∧ val c = val a - val b := by
  rw [← addF_neg ha hb] at h
  obtain ⟨kc, e⟩ := add_val ha (negR_ok hb) h
  rw [val_neg hb] at e
  exact ⟨kc, by grind⟩
theorem num_ne {b : Frac} (hb : FracOk b) : b.num ≠ 0 ↔ val b ≠ 0 := by
  have h1 := den_ne hb
  have h2 := val_mul hb
  constructor
  · intro h e
    rw [e] at h2
    have : (b.num : Rat) = 0 := by grind
    exact h (by exact_mod_cast this)
  · intro h e
    rw [e] at h2
    apply h
    have h2' : val b * (b.den : Rat) = 0 := by rw [h2]; rfl
    grind
theorem div_val {a b c : Frac} (ha : FracOk a) (hb : FracOk b) (h : divF a b = (c, 0)) : FracOk c ∧ val b ≠ 0 ∧ val c * val b = val a := by
  unfold divF at h
  rw [fracOkB_iff.2 ha, fracOkB_iff.2 hb] at h
  simp only [Bool.and_self, cond_true] at h
  cases h0 : b.num == 0 with
  | true => rw [h0] at h; simp at h
  | false =>
    rw [h0] at h
    have hne : b.num ≠ 0 := by simpa using h0
    have hv := (num_ne hb).1 hne
    have h1 := val_mul ha; have h2 := val_mul hb
    have h3 := den_ne ha; have h4 := den_ne hb
    have da := ha.denlo
    simp only [cond_false] at h
    by_cases hn : b.num < 0
    · rw [decide_eq_true hn] at h
      obtain ⟨kc, e⟩ := frac_val (Int.mul_pos (by omega) (by omega)) h
      refine ⟨kc, hv, ?_⟩
      have := val_of kc e
      rw [Rat.intCast_mul, Rat.intCast_mul, Rat.intCast_neg, Rat.intCast_neg] at this
      grind
    · rw [decide_eq_false hn] at h
      obtain ⟨kc, e⟩ := frac_val (Int.mul_pos (by omega) (by omega)) h
      refine ⟨kc, hv, ?_⟩
      have := val_of kc e
      rw [Rat.intCast_mul, Rat.intCast_mul] at this
      grind
theorem fracOf_small {n d : Int} (hn : absI n ≤ 1000000000000000000) (hd0 : 0 < d) (hd : d ≤ 1000000000000000000) : ∃ c, fracOf n d = (c, 0) := by
  have hg : 0 < gcdI n d := gcdI_pos (by omega)
  unfold fracOf
  have a0 : 0 ≤ absI n := by rw [absI_eq]; omega
  have h1 : absI n / gcdI n d ≤ absI n := Int.ediv_le_self _ a0
  have h2 : d / gcdI n d ≤ d := Int.ediv_le_self _ (by omega)
  rw [decide_eq_true (show absI n / gcdI n d ≤ 1000000000000000000 by omega), decide_eq_true (show d / gcdI n d ≤ 1000000000000000000 by omega)]
  exact ⟨_, rfl⟩
structure Sz (N D : Int) (x : Frac) : Prop where
  ok : FracOk x
  num : absI x.num ≤ N
  den : x.den ≤ D
theorem absI_nn (n : Int) : 0 ≤ absI n := by rw [absI_eq]; omega
theorem absI_mul (m n : Int) : absI (m * n) = absI m * absI n := by rw [absI_eq, absI_eq, absI_eq, Int.natAbs_mul, Int.natCast_mul]
theorem absI_add_le (m n : Int) : absI (m + n) ≤ absI m + absI n := by rw [absI_eq, absI_eq, absI_eq]; omega
theorem absI_sub_le (m n : Int) : absI (m - n) ≤ absI m + absI n := by rw [absI_eq, absI_eq, absI_eq]; omega
theorem absI_of_pos {n : Int} (h : 0 < n) : absI n = n := by rw [absI_eq]; omega
theorem mul_le {a b A B : Int} (ha : 0 ≤ a) (hb : 0 ≤ b) (h1 : a ≤ A) (h2 : b ≤ B) : a * b ≤ A * B := Int.mul_le_mul h1 h2 hb (by omega)
theorem Sz.mono {N D N' D' : Int} {x : Frac} (h : Sz N D x) (hn : N ≤ N') (hd : D ≤ D') : Sz N' D' x := ⟨h.ok, by have := h.num; omega, by have := h.den; omega⟩
theorem Sz.dpos {N D : Int} {x : Frac} (h : Sz N D x) : 0 < x.den := by have := h.ok.denlo; omega
theorem Sz.dabs {N D : Int} {x : Frac} (h : Sz N D x) : absI x.den ≤ D := by rw [absI_of_pos h.dpos]; exact h.den
theorem sz_of {n d N D : Int} (hd0 : 0 < d) (hn : absI n ≤ N) (hd : d ≤ D) (hN : N ≤ 1000000000000000000) (hD : D ≤ 1000000000000000000) : ∃ c, fracOf n d = (c, 0) ∧ Sz N D c := by
  obtain ⟨c, e⟩ := fracOf_small (n := n) (d := d) (by omega) hd0 (by omega)
  obtain ⟨kc, h⟩ := frac_val hd0 e
  obtain ⟨h1, h2⟩ := least kc hd0 h
  exact ⟨c, e, kc, by omega, by omega⟩
theorem Sz.mul {N D N' D' : Int} {a b : Frac} (ha : Sz N D a) (hb : Sz N' D' b) (hN : N * N' ≤ 1000000000000000000) (hD : D * D' ≤ 1000000000000000000) : ∃ c, mulF a b = (c, 0) ∧ Sz (N * N') (D * D') c := by
  rw [mulF_ok ha.ok hb.ok]
  refine sz_of (den_pos ha.ok hb.ok) ?_ ?_ hN hD
  · rw [absI_mul]; exact mul_le (absI_nn _) (absI_nn _) ha.num hb.num
  · exact mul_le (by have := ha.dpos; omega) (by have := hb.dpos; omega) ha.den hb.den
theorem Sz.add {N D N' D' : Int} {a b : Frac} (ha : Sz N D a) (hb : Sz N' D' b) (hN : N * D' + N' * D ≤ 1000000000000000000) (hD : D * D' ≤ 1000000000000000000) : ∃ c, addF a b = (c, 0) ∧ Sz (N * D' + N' * D) (D * D') c := by
  rw [addF_ok ha.ok hb.ok]
  refine sz_of (den_pos ha.ok hb.ok) ?_ ?_ hN hD
  · refine Int.le_trans (absI_add_le _ _) ?_
    rw [absI_mul, absI_mul]
    have := mul_le (absI_nn _) (absI_nn _) ha.num hb.dabs
    have := mul_le (absI_nn _) (absI_nn _) hb.num ha.dabs
    omega
  · exact mul_le (by have := ha.dpos; omega) (by have := hb.dpos; omega) ha.den hb.den
theorem Sz.sub {N D N' D' : Int} {a b : Frac} (ha : Sz N D a) (hb : Sz N' D' b) (hN : N * D' + N' * D ≤ 1000000000000000000) (hD : D * D' ≤ 1000000000000000000) : ∃ c, subF a b = (c, 0) ∧ Sz (N * D' + N' * D) (D * D') c := by
  rw [subF_ok ha.ok hb.ok]
  refine sz_of (den_pos ha.ok hb.ok) ?_ ?_ hN hD
  · refine Int.le_trans (absI_sub_le _ _) ?_
    rw [absI_mul, absI_mul]
    have := mul_le (absI_nn _) (absI_nn _) ha.num hb.dabs
    have := mul_le (absI_nn _) (absI_nn _) hb.num ha.dabs
    omega
  · exact mul_le (by have := ha.dpos; omega) (by have := hb.dpos; omega) ha.den hb.den
theorem Sz.one : Sz 1 1 oneF := ⟨one_ok, by decide, by decide⟩
theorem Sz.zero : Sz 0 1 zeroF := ⟨zero_ok, by decide, by decide⟩
theorem Sz.neg {N D : Int} {x : Frac} (h : Sz N D x) : Sz N D (negR x) := ⟨negR_ok h.ok, by unfold negR; rw [negN h.ok, absI_neg]; exact h.num, h.den⟩
def dotQ (v w : Vec) : Rat := val v.x * val w.x + val v.y * val w.y + val v.z * val w.z
theorem dotF_cases {v w : Vec} (hv : VecOk v) (hw : VecOk w) : (∃ s, dotF v w = (s, 0) ∧ FracOk s ∧ val s = dotQ v w) ∨ dotF v w = (fracZ, 16) := by
  unfold dotF andF dotQ
  rcases mulF_cases hv.x hw.x with ⟨p, e1, k1⟩ | e1
  · rw [e1]; simp only [addF_nought k1]
    have v1 := (mul_val hv.x hw.x e1).2
    rcases mulF_cases hv.y hw.y with ⟨q, e2, k2⟩ | e2
    · rw [e2]
      have v2 := (mul_val hv.y hw.y e2).2
      simp only [beq_self_eq_true, cond_true]
      rcases addF_cases k1 k2 with ⟨s, e3, k3⟩ | e3
      · rw [e3]
        have v3 := (add_val k1 k2 e3).2
        simp only [beq_self_eq_true, cond_true]
        rcases mulF_cases hv.z hw.z with ⟨r, e4, k4⟩ | e4
        · rw [e4]
          have v4 := (mul_val hv.z hw.z e4).2
          simp only [beq_self_eq_true, cond_true]
          rcases addF_cases k3 k4 with ⟨t, e5, k5⟩ | e5
          · rw [e5]
            have v5 := (add_val k3 k4 e5).2
            exact .inl ⟨t, rfl, k5, by rw [v5, v3, v4, v1, v2]⟩
          · rw [e5]; exact .inr rfl
        · rw [e4]; exact .inr rfl
      · rw [e3]; exact .inr rfl
    · rw [e2]; exact .inr rfl
  · rw [e1]; exact .inr rfl
theorem crossC_val {a b c d r : Frac} (ha : FracOk a) (hb : FracOk b) (hc : FracOk c) (hd : FracOk d) (h : crossC a b c d = (r, 0)) : FracOk r ∧ val r = val a * val b - val c * val d := by
  unfold crossC andF at h
  rcases mulF_cases ha hb with ⟨p, e1, k1⟩ | e1
  · rcases mulF_cases hc hd with ⟨q, e2, k2⟩ | e2
    · rw [e1, e2] at h
      simp only [beq_self_eq_true, cond_true] at h
      obtain ⟨k3, e3⟩ := sub_val k1 k2 h
      exact ⟨k3, by rw [e3, (mul_val ha hb e1).2, (mul_val hc hd e2).2]⟩
    · rw [e1, e2] at h; cases h
  · rw [e1] at h; cases h
theorem vec_eq {v w : Vec} (hv : VecOk v) (hw : VecOk w) (hx : val v.x = val w.x) (hy : val v.y = val w.y) (hz : val v.z = val w.z) : v = w := by
  have h1 := val_inj hv.x hw.x hx
  have h2 := val_inj hv.y hw.y hy
  have h3 := val_inj hv.z hw.z hz
  cases v; cases w
  simp only at h1 h2 h3
  rw [h1, h2, h3]
theorem cross_val {v w u : Vec} (hv : VecOk v) (hw : VecOk w) (h : crossF v w = (u, 0)) : VecOk u ∧ val u.x = val v.y * val w.z - val v.z * val w.y ∧ val u.y = val v.z * val w.x - val v.x * val w.z ∧ val u.z = val v.x * val w.y - val v.y * val w.x := by
  rcases crossF_cases hv hw with ⟨u', e, k, e1, e2, e3⟩ | e
  · rw [h] at e
    cases e
    exact ⟨k, (crossC_val hv.y hw.z hv.z hw.y e1).2, (crossC_val hv.z hw.x hv.x hw.z e2).2, (crossC_val hv.x hw.y hv.y hw.x e3).2⟩
  · rw [h] at e; cases e
end Go.Ev

