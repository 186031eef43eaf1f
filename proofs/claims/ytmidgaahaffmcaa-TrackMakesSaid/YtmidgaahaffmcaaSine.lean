/-
  Enclosures: what the functions of the layers 1 (as far as needed here) and 5 come to. No program here.
-/
import Derived.Test.YtmidgaahaffmcaaFrac
namespace Go.Ev
open Go

/-! ### Fractions made of two numbers -/

def lowF (minus : Bool) (n d : Int) : Frac × Int := bif decide (n ≤ 1000000000000000000) && decide (d ≤ 1000000000000000000) then (⟨bif minus then -n else n, d⟩, 0) else (fracZ, 16)

def lowestRaw (minus : Bool) (x y : Big) : Frac × Int :=
  bif !(smallRaw x).2 then (fracZ, 16) else bif !(smallRaw y).2 then (fracZ, 16) else
  bif minus then (⟨w64 (0 - (smallRaw x).1), (smallRaw y).1⟩, 0) else (⟨(smallRaw x).1, (smallRaw y).1⟩, 0)

theorem lowestRaw_ok {minus : Bool} {n d : Int} (hn : 0 ≤ n) (hd : 0 ≤ d) : lowestRaw minus (bigOf n) (bigOf d) = lowF minus n d := by
  unfold lowestRaw lowF
  rw [smallRaw_ok hn, smallRaw_ok hd]
  simp only [smallI]
  by_cases h1 : n ≤ 1000000000000000000
  · by_cases h2 : d ≤ 1000000000000000000
    · simp only [decide_eq_true h1, decide_eq_true h2, Bool.not_true, cond_false, Bool.and_self, cond_true]
      rw [Int.emod_eq_of_lt hn (by omega), Int.emod_eq_of_lt hd (by omega), w64_id (by omega)]
      cases minus
      · rfl
      · simp
    · simp only [decide_eq_true h1, decide_eq_false h2, Bool.not_true, Bool.not_false, cond_false, Bool.and_false, cond_true]
  · simp only [decide_eq_false h1, Bool.not_false, cond_false, Bool.false_and, cond_true]

def diffSign (a b : Int) : Bool := !(decide (a < 0) == decide (b < 0))

def makeF (num den : Int) : Frac × Int := bif den == 0 then (fracZ, 18) else lowF (diffSign num den) (absI num / gcdI num den) (absI den / gcdI num den)

def makeAns (K : AV → List Blk → Ans) (num den : Int) : Ans :=
  bif den == 0 then K (rFracE (fracZ, 18)) [] else
  bif gcdI (absI num) (absI den) == 0 then none else bif gcdI (absI num) (absI den) == 0 then none else
  K (rFracE (lowestRaw (diffSign num den) (bigOf (wu64 ((absI num).tdiv (gcdI (absI num) (absI den))))) (bigOf (wu64 ((absI den).tdiv (gcdI (absI num) (absI den))))))) []

theorem gcdI_pos {a b : Int} (h : b ≠ 0) : 0 < gcdI a b := by
  have := Int.gcd_pos_of_ne_zero_right a h
  unfold gcdI
  omega

theorem quo_gcd {a g : Int} (ha : 0 ≤ a ∧ a ≤ 18446744073709551615) (hg : 0 < g) : wu64 (a.tdiv g) = a / g ∧ 0 ≤ a / g := by
  have h1 := Int.ediv_nonneg ha.1 (Int.le_of_lt hg)
  have h2 := Int.ediv_le_self g ha.1
  rw [Int.tdiv_eq_ediv_of_nonneg ha.1]
  exact ⟨wu64_id (by omega), h1⟩

theorem absI_range {n : Int} (h : -9223372036854775808 ≤ n ∧ n ≤ 9223372036854775807) : 0 ≤ absI n ∧ absI n ≤ 18446744073709551615 := by unfold absI; omega

theorem makeAns_ok {K : AV → List Blk → Ans} {num den : Int} (h1 : -9223372036854775808 ≤ num ∧ num ≤ 9223372036854775807) (h2 : -9223372036854775808 ≤ den ∧ den ≤ 9223372036854775807) : makeAns K num den = K (rFracE (makeF num den)) [] := by
  unfold makeAns makeF
  by_cases hd : den = 0
  · subst hd; rfl
  · rw [show (den == 0) = false by simpa using hd]
    rw [gcdI_abs_left, gcdI_abs_right]
    have hg := gcdI_pos (a := num) hd
    rw [show (gcdI num den == 0) = false by simp; omega]
    simp only [cond_false]
    obtain ⟨e1, e2⟩ := quo_gcd (absI_range h1) hg
    obtain ⟨e3, e4⟩ := quo_gcd (absI_range h2) hg
    rw [e1, e3, lowestRaw_ok e2 e4]

/-! ### Comparing -/

def lessRaw (a b : Frac) : Bool :=
  bif diffSign a.num b.num then decide (a.num < 0) else
  bif decide (a.num < 0) then belowRaw (bigOf (absI b.num * wu64 a.den)) (bigOf (absI a.num * wu64 b.den)) else belowRaw (bigOf (absI a.num * wu64 b.den)) (bigOf (absI b.num * wu64 a.den))

def lessN (a b : Frac) : Bool :=
  bif diffSign a.num b.num then decide (a.num < 0) else
  bif decide (a.num < 0) then decide (absI b.num * wu64 a.den < absI a.num * wu64 b.den) else decide (absI a.num * wu64 b.den < absI b.num * wu64 a.den)

theorem lessRaw_ok (a b : Frac) : lessRaw a b = lessN a b := by
  unfold lessRaw lessN
  rw [belowRaw_ok, belowRaw_ok]

theorem lessN_ok {a b : Frac} (ha : 0 < a.den) (ha' : a.den ≤ 9223372036854775807) (hb : 0 < b.den) (hb' : b.den ≤ 9223372036854775807) : lessN a b = decide (a.num * b.den < b.num * a.den) := by
  unfold lessN diffSign
  rw [wu64_id (n := a.den) (by omega), wu64_id (n := b.den) (by omega)]
  by_cases h1 : a.num < 0
  · have e1 := absI_of_neg h1
    have k1 : a.num * b.den < 0 := Int.mul_neg_of_neg_of_pos h1 hb
    by_cases h2 : b.num < 0
    · have e2 := absI_of_neg h2
      simp only [decide_eq_true h1, decide_eq_true h2, beq_self_eq_true, Bool.not_true, cond_false, cond_true]
      rw [e1, e2, Int.neg_mul, Int.neg_mul]
      apply decide_eq_decide.2
      omega
    · have k2 : 0 ≤ b.num * a.den := Int.mul_nonneg (by omega) (by omega)
      simp only [decide_eq_true h1, decide_eq_false h2]
      symm
      simp
      omega
  · have e1 := absI_of_nonneg (show 0 ≤ a.num by omega)
    have k1 : 0 ≤ a.num * b.den := Int.mul_nonneg (by omega) (by omega)
    by_cases h2 : b.num < 0
    · have k2 : b.num * a.den < 0 := Int.mul_neg_of_neg_of_pos h2 ha
      simp only [decide_eq_false h1, decide_eq_true h2]
      symm
      simp
      omega
    · have e2 := absI_of_nonneg (show 0 ≤ b.num by omega)
      simp only [decide_eq_false h1, decide_eq_false h2, beq_self_eq_true, Bool.not_true, cond_false]
      rw [e1, e2]

/-! ### Enclosures -/

def spanValid (a : Span) : Bool := bif decide (a.lo ≤ a.hi) then bif decide (-3000000000 ≤ a.lo) then decide (a.hi ≤ 3000000000) else false else false

theorem spanValid_iff {a : Span} : spanValid a = true ↔ a.lo ≤ a.hi ∧ -3000000000 ≤ a.lo ∧ a.hi ≤ 3000000000 := by
  unfold spanValid
  simp only [cond_eq_ite, decide_eq_true_eq]
  split
  · split
    · simp; omega
    · simp; omega
  · simp; omega

def rangedS (a : Span) : Span × Int := bif !(spanValid a) then (spanZ, 16) else (a, 0)

def addRaw (a b : Span) : Span × Int := bif !(spanValid a) then (spanZ, 8) else bif !(spanValid b) then (spanZ, 8) else rangedS ⟨w64 (a.lo + b.lo), w64 (a.hi + b.hi)⟩
def addS (a b : Span) : Span × Int := bif spanValid a && spanValid b then rangedS ⟨a.lo + b.lo, a.hi + b.hi⟩ else (spanZ, 8)
def subRaw (a b : Span) : Span × Int := bif !(spanValid a) then (spanZ, 8) else bif !(spanValid b) then (spanZ, 8) else rangedS ⟨w64 (a.lo - b.hi), w64 (a.hi - b.lo)⟩
def subS (a b : Span) : Span × Int := bif spanValid a && spanValid b then rangedS ⟨a.lo - b.hi, a.hi - b.lo⟩ else (spanZ, 8)
def negS (a : Span) : Span := ⟨-a.hi, -a.lo⟩
def negRaw (a : Span) : Span := ⟨w64 (0 - a.hi), w64 (0 - a.lo)⟩
def subRef (a b : Span) : Span × Int := bif !(spanValid a) then (spanZ, 8) else bif !(spanValid b) then (spanZ, 8) else addS a (negRaw b)

theorem negRaw_ok {a : Span} (h : spanValid a = true) : negRaw a = negS a := by
  rw [spanValid_iff] at h
  unfold negRaw negS
  rw [w64_id (by omega), w64_id (by omega)]
  simp

theorem negS_valid {a : Span} (h : spanValid a = true) : spanValid (negS a) = true := by
  rw [spanValid_iff] at h ⊢
  simp only [negS]
  omega

theorem addRaw_ok (a b : Span) : addRaw a b = addS a b := by
  unfold addRaw addS
  cases ha : spanValid a
  · rfl
  cases hb : spanValid b
  · rfl
  rw [spanValid_iff] at ha hb
  simp only [Bool.not_true, cond_false, Bool.and_self, cond_true]
  rw [w64_id (by omega), w64_id (by omega)]

theorem subRaw_ok (a b : Span) : subRaw a b = subS a b := by
  unfold subRaw subS
  cases ha : spanValid a
  · rfl
  cases hb : spanValid b
  · rfl
  rw [spanValid_iff] at ha hb
  simp only [Bool.not_true, cond_false, Bool.and_self, cond_true]
  rw [w64_id (by omega), w64_id (by omega)]

theorem subRef_ok (a b : Span) : subRef a b = subS a b := by
  unfold subRef subS
  cases ha : spanValid a
  · rfl
  cases hb : spanValid b
  · rfl
  simp only [Bool.not_true, cond_false, Bool.and_self, cond_true]
  rw [negRaw_ok hb]
  unfold addS
  rw [ha, negS_valid hb]
  simp only [Bool.and_self, cond_true, negS]
  congr 2
  all_goals omega

def downRaw (n : Int) : Int := bif decide (n.tmod 1000000 < 0) then w64 (w64 (n.tdiv 1000000) - 1) else w64 (n.tdiv 1000000)

theorem floor_of (n d : Int) (hd : 0 < d) : (if n.tmod d < 0 then n.tdiv d - 1 else n.tdiv d) = n / d := by
  have h1 := Int.mul_tdiv_add_tmod n d
  have h2 := Int.mul_ediv_add_emod n d
  have h3 := Int.emod_nonneg n (show d ≠ 0 by omega)
  have h4 := Int.emod_lt_of_pos n hd
  rcases Int.lt_or_le n 0 with hn | hn
  · have h5 : -d < n.tmod d := Int.lt_tmod_of_pos n hd
    have h6 : n.tmod d ≤ 0 := by
      have e := Int.neg_tmod n d
      have := Int.tmod_nonneg d (show 0 ≤ -n by omega)
      omega
    split
    · rename_i h7
      have : d * (n.tdiv d - 1) + (n.tmod d + d) = n := by rw [Int.mul_sub]; omega
      exact ((Int.ediv_emod_unique hd).2 ⟨by rw [Int.add_comm]; exact this, by omega, by omega⟩).1.symm
    · exact ((Int.ediv_emod_unique hd).2 ⟨by rw [Int.add_comm]; exact h1, by omega, by omega⟩).1.symm
  · rw [Int.tdiv_eq_ediv_of_nonneg hn, Int.tmod_eq_emod_of_nonneg hn, if_neg (by omega)]

theorem floor_range {n d : Int} (hd : 0 < d) (h : -9223372036854775808 ≤ n ∧ n ≤ 9223372036854775807) : -9223372036854775808 ≤ n / d ∧ n / d ≤ 9223372036854775807 := by
  constructor
  · rw [Int.le_ediv_iff_mul_le hd]
    have := Int.mul_le_mul_of_nonneg_left (show (1 : Int) ≤ d by omega) (show (0 : Int) ≤ 9223372036854775808 by omega)
    omega
  · have h1 : n / d < 9223372036854775808 := by
      apply Int.ediv_lt_of_lt_mul hd
      have := Int.mul_le_mul_of_nonneg_left (show (1 : Int) ≤ d by omega) (show (0 : Int) ≤ 9223372036854775808 by omega)
      omega
    omega

theorem tdiv_range {n d : Int} (hd : 0 < d) (h : -9223372036854775808 ≤ n ∧ n ≤ 9223372036854775807) : -9223372036854775808 ≤ n.tdiv d ∧ n.tdiv d ≤ 9223372036854775807 := by
  have h1 := Int.natAbs_tdiv_le_natAbs n d
  rcases Int.lt_or_le n 0 with hn | hn
  · have e := Int.neg_tdiv n d
    have := Int.tdiv_nonneg (show 0 ≤ -n by omega) (show 0 ≤ d by omega)
    omega
  · have := Int.tdiv_nonneg hn (show 0 ≤ d by omega)
    omega

def floorRaw (n d : Int) : Int := bif decide (n.tmod d < 0) then w64 (w64 (n.tdiv d) - 1) else w64 (n.tdiv d)

theorem floorRaw_ok {n d : Int} (hd : 0 < d) (h : -9223372036854775808 ≤ n ∧ n ≤ 9223372036854775807) : floorRaw n d = n / d := by
  have h1 := floor_of n d hd
  have h2 := floor_range hd h
  have h3 := tdiv_range hd h
  unfold floorRaw
  rw [w64_id (n := n.tdiv d) h3]
  by_cases hn : n.tmod d < 0
  · rw [if_pos hn] at h1
    rw [decide_eq_true hn, cond_true, h1, w64_id h2]
  · rw [if_neg hn] at h1
    rw [decide_eq_false hn, cond_false, h1]

def min4 (p q r s : Int) : Int := if s < (if r < (if q < p then q else p) then r else (if q < p then q else p)) then s else (if r < (if q < p then q else p) then r else (if q < p then q else p))
def max4 (p q r s : Int) : Int := if s > (if r > (if q > p then q else p) then r else (if q > p then q else p)) then s else (if r > (if q > p then q else p) then r else (if q > p then q else p))

def mulRaw' (a b : Span) : Span × Int := bif !(spanValid a) then (spanZ, 8) else bif !(spanValid b) then (spanZ, 8) else
  rangedS ⟨min4 (w64 (a.lo * b.lo)) (w64 (a.lo * b.hi)) (w64 (a.hi * b.lo)) (w64 (a.hi * b.hi)) / 1000000, w64 (0 - w64 (0 - max4 (w64 (a.lo * b.lo)) (w64 (a.lo * b.hi)) (w64 (a.hi * b.lo)) (w64 (a.hi * b.hi))) / 1000000)⟩
def mulS (a b : Span) : Span × Int := bif spanValid a && spanValid b then
  rangedS ⟨min4 (a.lo * b.lo) (a.lo * b.hi) (a.hi * b.lo) (a.hi * b.hi) / 1000000, -(-(max4 (a.lo * b.lo) (a.lo * b.hi) (a.hi * b.lo) (a.hi * b.hi)) / 1000000)⟩ else (spanZ, 8)

theorem mul_range {x y : Int} (hx : -3000000000 ≤ x ∧ x ≤ 3000000000) (hy : -3000000000 ≤ y ∧ y ≤ 3000000000) : -9000000000000000000 ≤ x * y ∧ x * y ≤ 9000000000000000000 := by
  have h : (x * y).natAbs ≤ 3000000000 * 3000000000 := by
    rw [Int.natAbs_mul]
    exact Nat.mul_le_mul (by omega) (by omega)
  omega

theorem max4_range {p q r s m : Int} (hp : -m ≤ p ∧ p ≤ m) (hq : -m ≤ q ∧ q ≤ m) (hr : -m ≤ r ∧ r ≤ m) (hs : -m ≤ s ∧ s ≤ m) : -m ≤ max4 p q r s ∧ max4 p q r s ≤ m := by
  unfold max4
  repeat' split
  all_goals omega

theorem mulRaw'_ok (a b : Span) : mulRaw' a b = mulS a b := by
  unfold mulRaw' mulS
  cases ha : spanValid a
  · rfl
  cases hb : spanValid b
  · rfl
  rw [spanValid_iff] at ha hb
  have h1 := mul_range (x := a.lo) (y := b.lo) (by omega) (by omega)
  have h2 := mul_range (x := a.lo) (y := b.hi) (by omega) (by omega)
  have h3 := mul_range (x := a.hi) (y := b.lo) (by omega) (by omega)
  have h4 := mul_range (x := a.hi) (y := b.hi) (by omega) (by omega)
  simp only [Bool.not_true, cond_false, Bool.and_self, cond_true]
  rw [w64_id (n := a.lo * b.lo) (by omega), w64_id (n := a.lo * b.hi) (by omega), w64_id (n := a.hi * b.lo) (by omega), w64_id (n := a.hi * b.hi) (by omega)]
  have h5 := max4_range h1 h2 h3 h4
  generalize max4 (a.lo * b.lo) (a.lo * b.hi) (a.hi * b.lo) (a.hi * b.hi) = m at *
  rw [w64_id (n := 0 - m) (by omega), w64_id (by omega)]
  simp

def signS (a : Span) : Int × Int := bif !(spanValid a) then (0, 8) else bif decide (0 < a.lo) then (1, 0) else bif decide (a.hi < 0) then (-1, 0) else bif a.lo == 0 then (bif a.hi == 0 then (0, 0) else (0, 24)) else (0, 24)
def signRef (a : Span) : Int × Int := bif !(spanValid a) then (0, 8) else bif decide (0 < a.lo) then (1, 0) else bif decide (a.hi < 0) then (-1, 0) else bif eqAll a.cells spanZ.cells then (0, 0) else (0, 24)

theorem signRef_ok (a : Span) : signRef a = signS a := by
  have e : eqAll a.cells spanZ.cells = bif a.lo == 0 then a.hi == 0 else false := by
    simp only [Span.cells, spanZ, eqAll, D.eq]
    cases a.lo == 0 <;> cases a.hi == 0 <;> rfl
  unfold signRef signS
  rw [e]
  cases a.lo == 0 <;> cases a.hi == 0 <;> rfl

/-! ### The enclosure of a fraction -/

def aroundS (f : Frac) : Span := ⟨f.num * 1000000 / f.den, -(-(f.num * 1000000) / f.den)⟩
def aroundB (f : Frac) : Span × Bool := bif decide (3000000000 < absI f.num * 1000000 / f.den) then (spanZ, false) else (aroundS f, true)
def ofS (f : Frac) : Span × Int := bif fracOkB f then rangedS (aroundS f) else (spanZ, 8)
def inS (a : Span) (f : Frac) : Bool := decide (a.lo * f.den ≤ f.num * 1000000) && decide (f.num * 1000000 ≤ a.hi * f.den)
def hasS (a : Span) (f : Frac) : Bool × Int := bif spanValid a && fracOkB f then (inS a f, 0) else (false, 8)

def aroundTail (num q r : Int) : Span × Bool := bif decide (3000000000 < q) then (spanZ, false) else
  bif r != 0 then (bif decide (num < 0) then (⟨w64 (0 - w64 (w64 q + 1)), w64 (0 - w64 q)⟩, true) else (⟨w64 q, w64 (w64 q + 1)⟩, true)) else
  (bif decide (num < 0) then (⟨w64 (0 - w64 q), w64 (0 - w64 q)⟩, true) else (⟨w64 q, w64 q⟩, true))

def aroundAns (K : AV → List Blk → Ans) (num den n : Int) : Ans :=
  bif decide (wu64 den ≤ (mul64 (wu64 n) 1000000).1) then K (rSpanB (spanZ, false)) [] else
  bif decide ((mul64 (wu64 n) 1000000).1 < wu64 den) then
    K (rSpanB (aroundTail num (((mul64 (wu64 n) 1000000).1 * 18446744073709551616 + (mul64 (wu64 n) 1000000).2) / wu64 den) (((mul64 (wu64 n) 1000000).1 * 18446744073709551616 + (mul64 (wu64 n) 1000000).2) % wu64 den))) [] else none

theorem aroundAns_ok {K : AV → List Blk → Ans} {num den n : Int} (h : FracOk ⟨num, den⟩) (hn : n = absI num) : aroundAns K num den n = K (rSpanB (aroundB ⟨num, den⟩)) [] := by
  obtain ⟨h1, h2, h3, h4, _⟩ := h
  simp only at h1 h2 h3 h4
  have hn0 : 0 ≤ n ∧ n ≤ 1000000000000000000 := by rw [hn]; unfold absI; omega
  unfold aroundAns
  rw [wu64_id (n := den) (by omega), wu64_id (n := n) (by omega)]
  have hX : (mul64 n 1000000).1 * 18446744073709551616 + (mul64 n 1000000).2 = n * 1000000 := by simp only [mul64]; omega
  rw [hX]
  unfold aroundB
  simp only
  rw [← hn]
  by_cases hb : den ≤ (mul64 n 1000000).1
  · have : 3000000000 < n * 1000000 / den := by
      apply Int.lt_of_lt_of_le (b := 18446744073709551616) (by omega)
      rw [Int.le_ediv_iff_mul_le (by omega)]
      simp only [mul64] at hb
      omega
    rw [decide_eq_true hb, decide_eq_true this]
    rfl
  · rw [decide_eq_false hb, decide_eq_true (show (mul64 n 1000000).1 < den by omega), cond_false, cond_true]
    unfold aroundTail
    by_cases hq : 3000000000 < n * 1000000 / den
    · rw [decide_eq_true hq]; rfl
    · rw [decide_eq_false hq, cond_false, cond_false]
      have hq0 : 0 ≤ n * 1000000 / den := Int.ediv_nonneg (by omega) (by omega)
      have hmul := Int.mul_ediv_add_emod (n * 1000000) den
      have hm0 := Int.emod_nonneg (n * 1000000) (show den ≠ 0 by omega)
      have hm1 := Int.emod_lt_of_pos (n * 1000000) (show 0 < den by omega)
      congr 2
      unfold aroundS
      simp only
      have up : ∀ x : Int, -(-x / den) = bif x % den != 0 then x / den + 1 else x / den := by
        intro x
        have a1 := Int.mul_ediv_add_emod x den
        have a2 := Int.emod_nonneg x (show den ≠ 0 by omega)
        have a3 := Int.emod_lt_of_pos x (show 0 < den by omega)
        by_cases hx : x % den = 0
        · rw [show (x % den != 0) = false by simp [hx], cond_false]
          have : -x / den = -(x / den) := ((Int.ediv_emod_unique (by omega)).2 ⟨(by rw [Int.mul_neg]; omega : 0 + den * (-(x / den)) = -x), by omega, by omega⟩).1
          omega
        · rw [show (x % den != 0) = true by simp [hx], cond_true]
          have : -x / den = -(x / den) - 1 := ((Int.ediv_emod_unique (by omega)).2 ⟨(by rw [Int.mul_sub, Int.mul_neg]; omega : (den - x % den) + den * (-(x / den) - 1) = -x), by omega, by omega⟩).1
          omega
      by_cases hneg : num < 0
      · have e : n = -num := by rw [hn]; exact absI_of_neg hneg
        have e1 : num * 1000000 = -(n * 1000000) := by omega
        rw [decide_eq_true hneg, e1, Int.neg_neg]
        have up1 := up (n * 1000000)
        generalize n * 1000000 / den = q at *
        generalize n * 1000000 % den = r at *
        cases hr : r != 0
        · simp only [hr, cond_false, cond_true] at up1 ⊢
          rw [w64_id (n := q) (by omega), w64_id (by omega)]
          refine Prod.ext ?_ rfl
          simp only [Span.mk.injEq]
          omega
        · simp only [hr, cond_true] at up1 ⊢
          rw [w64_id (n := q) (by omega), w64_id (n := q + 1) (by omega), w64_id (n := 0 - (q + 1)) (by omega), w64_id (by omega)]
          refine Prod.ext ?_ rfl
          simp only [Span.mk.injEq]
          omega
      · have e : n = num := by rw [hn]; exact absI_of_nonneg (by omega)
        rw [decide_eq_false hneg, ← e, up (n * 1000000)]
        generalize n * 1000000 / den = q at *
        generalize n * 1000000 % den = r at *
        cases hr : r != 0
        · simp only [cond_false]
          rw [w64_id (n := q) (by omega)]
        · simp only [cond_true, cond_false]
          rw [w64_id (n := q) (by omega), w64_id (n := q + 1) (by omega)]

/-! ### The fraction's functions -/

theorem checkF_bad {f : Frac} : (checkF f != 0) = !(fracOkB f) := by
  unfold checkF
  cases fracOkB f <;> rfl

theorem sineOf_ok {K : AV → List Blk → Ans} {f : Frac} : (bif checkF f != 0 then K (rSpanE (spanZ, 8)) [] else bif fracOkB f then (bif !(aroundB f).2 then K (rSpanE (spanZ, 16)) [] else K (rSpanE (rangedS (aroundB f).1)) []) else none) = K (rSpanE (ofS f)) [] := by
  rw [checkF_bad]
  unfold ofS
  cases h : fracOkB f
  · rfl
  · simp only [Bool.not_true, cond_false, cond_true]
    have hk := fracOkB_iff.1 h
    have h1 := hk.denlo
    unfold aroundB
    by_cases hq : 3000000000 < absI f.num * 1000000 / f.den
    · rw [decide_eq_true hq]
      simp only [cond_true, Bool.not_false]
      congr 2
      unfold rangedS
      have : spanValid (aroundS f) = false := by
        cases hv : spanValid (aroundS f) with
        | false => rfl
        | true =>
          rw [spanValid_iff] at hv
          simp only [aroundS] at hv
          exfalso
          by_cases hn : f.num < 0
          · rw [absI_of_neg hn, Int.neg_mul] at hq
            omega
          · rw [absI_of_nonneg (by omega)] at hq
            have : f.num * 1000000 / f.den ≤ -(-(f.num * 1000000) / f.den) := by omega
            omega
      rw [this]
      rfl
    · rw [decide_eq_false hq]
      simp only [cond_false, Bool.not_true]

def ofLoop (K : AV → List Blk → Ans) (den : Int) : Nat → Int → Int → Ans
  | 0, n, r => bif decide (0 < r) then K (rSpanE (rangedS ⟨n, w64 (n + 1)⟩)) [] else K (rSpanE (rangedS ⟨n, n⟩)) []
  | k + 1, n, r => bif wu64 den == 0 then none else bif wu64 den == 0 then none else
    ofLoop K den k (w64 (w64 (10 * n) + w64 (wu64 ((wu64 (r * 10)).tdiv (wu64 den))))) ((wu64 (r * 10)).tmod (wu64 den))

def ofAns (K : AV → List Blk → Ans) (num den : Int) : Ans :=
  bif decide (num / den < -3000000000) then K (rSpanE (spanZ, 16)) [] else bif decide (3000000000 < num / den) then K (rSpanE (spanZ, 16)) [] else
  ofLoop K den 6 (num / den) (wu64 (w64 (num - w64 (num / den * den))))

theorem ofLoop_ok {K : AV → List Blk → Ans} {num den : Int} (hd : 1 ≤ den ∧ den ≤ 1000000000000000000) : ∀ (k : Nat) (P : Int), 0 < P → (k : Int) ≤ 6 → -3000000000 * P ≤ num * P / den → num * P / den < 3000000001 * P → P * 10 ^ k = 1000000 →
    ofLoop K den k (num * P / den) (num * P % den) = ofLoop K den 0 (num * 1000000 / den) (num * 1000000 % den)
  | 0, P, _, _, _, _, hP => by
    simp only [Int.pow_zero, Int.mul_one] at hP
    rw [hP]
  | k + 1, P, hp, hk, h1, h2, hP => by
    have hm0 := Int.emod_nonneg (num * P) (show den ≠ 0 by omega)
    have hm1 := Int.emod_lt_of_pos (num * P) (show 0 < den by omega)
    have hmul := Int.mul_ediv_add_emod (num * P) den
    have hPle : P * 10 ≤ 1000000 := by
      have e : (10 : Int) ^ (k + 1) = 10 ^ k * 10 := Int.pow_succ 10 k
      have e2 : (1 : Int) ≤ 10 ^ k := Int.add_one_le_iff.2 (Int.pow_pos (by omega))
      rw [e, Int.mul_comm (10 ^ k), ← Int.mul_assoc] at hP
      have := Int.mul_le_mul_of_nonneg_left e2 (show 0 ≤ P * 10 by omega)
      omega
    have hd0 : (wu64 den == 0) = false := by rw [wu64_id (by omega)]; simp; omega
    unfold ofLoop
    rw [hd0]
    simp only [cond_false]
    rw [wu64_id (n := den) (by omega), wu64_id (n := num * P % den * 10) (by omega), Int.tdiv_eq_ediv_of_nonneg (by omega), Int.tmod_eq_emod_of_nonneg (by omega)]
    have q0 : 0 ≤ num * P % den * 10 / den := Int.ediv_nonneg (by omega) (by omega)
    have q1 : num * P % den * 10 / den < 10 := Int.ediv_lt_of_lt_mul (by omega) (by omega)
    have e10 : num * (P * 10) = num * P % den * 10 + den * (10 * (num * P / den)) := by
      rw [← Int.mul_assoc, Int.mul_left_comm den 10]
      omega
    have eq : num * (P * 10) / den = 10 * (num * P / den) + num * P % den * 10 / den := by
      rw [e10, Int.add_mul_ediv_left _ _ (by omega)]
      omega
    have er : num * (P * 10) % den = num * P % den * 10 % den := by rw [e10, Int.add_mul_emod_self_left]
    rw [wu64_id (by omega), w64_id (n := num * P % den * 10 / den) (by omega)]
    generalize hQ : num * P / den = Q at *
    have hQr : -3000000000000000 ≤ Q ∧ Q ≤ 3000000001000000 := by
      constructor <;> omega
    rw [w64_id (n := 10 * Q) (by omega), w64_id (by omega), ← eq, ← er]
    refine ofLoop_ok hd k (P * 10) (by omega) (by omega) (by omega) (by omega) ?_
    rw [Int.mul_assoc, ← hP, Int.pow_succ, Int.mul_comm 10]

theorem refOf_ok {K : AV → List Blk → Ans} {num den : Int} : (bif checkF ⟨num, den⟩ != 0 then K (rSpanE (spanZ, 8)) [] else bif decide (0 < den) then ofAns K num den else none) = K (rSpanE (ofS ⟨num, den⟩)) [] := by
  rw [checkF_bad]
  unfold ofS
  cases h : fracOkB ⟨num, den⟩
  · rfl
  · simp only [Bool.not_true, cond_false, cond_true]
    obtain ⟨h1, h2, h3, h4, _⟩ := fracOkB_iff.1 h
    simp only at h1 h2 h3 h4
    rw [decide_eq_true (show 0 < den by omega), cond_true]
    have hm0 := Int.emod_nonneg num (show den ≠ 0 by omega)
    have hm1 := Int.emod_lt_of_pos num (show 0 < den by omega)
    have hmul := Int.mul_ediv_add_emod num den
    have hbig : ∀ m : Int, num / den * m ≤ num * m / den ∨ m < 0 := by
      intro m
      rcases Int.lt_or_le m 0 with hm | hm
      · exact .inr hm
      · refine .inl ?_
        rw [Int.le_ediv_iff_mul_le (by omega), Int.mul_right_comm]
        refine Int.mul_le_mul_of_nonneg_right ?_ hm
        rw [Int.mul_comm]
        omega
    have hlo := hbig 1000000
    have hup : num * 1000000 / den < (num / den + 1) * 1000000 := by
      apply Int.ediv_lt_of_lt_mul (by omega)
      rw [Int.mul_right_comm, Int.add_mul, Int.one_mul, Int.mul_comm (num / den) den]
      omega
    have hce : num * 1000000 / den ≤ -(-(num * 1000000) / den) := by
      have a1 := Int.mul_ediv_add_emod (num * 1000000) den
      have a2 := Int.emod_nonneg (num * 1000000) (show den ≠ 0 by omega)
      have : -(num * 1000000) / den ≤ -(num * 1000000 / den) := by
        have : -(num * 1000000) / den < -(num * 1000000 / den) + 1 := by
          apply Int.ediv_lt_of_lt_mul (by omega)
          rw [Int.add_mul, Int.neg_mul, Int.one_mul, Int.mul_comm (num * 1000000 / den)]
          omega
        omega
      omega
    unfold ofAns
    by_cases hA : num / den < -3000000000
    · rw [decide_eq_true hA, cond_true]
      congr 2
      unfold rangedS
      have : spanValid (aroundS ⟨num, den⟩) = false := by
        cases hv : spanValid (aroundS ⟨num, den⟩) with
        | false => rfl
        | true => rw [spanValid_iff] at hv; simp only [aroundS] at hv; omega
      rw [this]
      rfl
    · rw [decide_eq_false hA, cond_false]
      by_cases hB : 3000000000 < num / den
      · rw [decide_eq_true hB, cond_true]
        congr 2
        unfold rangedS
        have : spanValid (aroundS ⟨num, den⟩) = false := by
          cases hv : spanValid (aroundS ⟨num, den⟩) with
          | false => rfl
          | true => rw [spanValid_iff] at hv; simp only [aroundS] at hv; omega
        rw [this]
        rfl
      · rw [decide_eq_false hB, cond_false]
        rw [Int.mul_comm (num / den) den, w64_id (n := den * (num / den)) (by omega), w64_id (by omega), show num - den * (num / den) = num % den by omega, wu64_id (by omega)]
        have hl := ofLoop_ok (K := K) (num := num) (den := den) ⟨h1, h2⟩ 6 1 (by omega) (by omega) (by simp only [Int.mul_one]; omega) (by simp only [Int.mul_one]; omega) (by decide)
        simp only [Int.mul_one] at hl
        rw [hl]
        unfold ofLoop
        have b0 := Int.emod_nonneg (num * 1000000) (show den ≠ 0 by omega)
        have b1 := Int.emod_lt_of_pos (num * 1000000) (show 0 < den by omega)
        have b2 := Int.mul_ediv_add_emod (num * 1000000) den
        unfold aroundS
        by_cases hr : 0 < num * 1000000 % den
        · rw [decide_eq_true hr, cond_true, w64_id (by omega)]
          refine congrArg (fun t => K (rSpanE (rangedS ⟨num * 1000000 / den, t⟩)) []) ?_
          show num * 1000000 / den + 1 = -(-(num * 1000000) / den)
          have : -(num * 1000000) / den = -(num * 1000000 / den) - 1 := ((Int.ediv_emod_unique (by omega)).2 ⟨(by rw [Int.mul_sub, Int.mul_neg]; omega : (den - num * 1000000 % den) + den * (-(num * 1000000 / den) - 1) = -(num * 1000000)), by omega, by omega⟩).1
          omega
        · rw [decide_eq_false hr, cond_false]
          refine congrArg (fun t => K (rSpanE (rangedS ⟨num * 1000000 / den, t⟩)) []) ?_
          show num * 1000000 / den = -(-(num * 1000000) / den)
          have : -(num * 1000000) / den = -(num * 1000000 / den) := ((Int.ediv_emod_unique (by omega)).2 ⟨(by rw [Int.mul_neg]; omega : 0 + den * (-(num * 1000000 / den)) = -(num * 1000000)), by omega, by omega⟩).1
          omega

/-! ### What an enclosure has -/

def hasAns (K : AV → List Blk → Ans) (a : Span) (f : Frac) : Ans :=
  bif !(spanValid a) then K (rBoolE (false, 8)) [] else bif checkF f != 0 then K (rBoolE (false, 8)) [] else bif fracOkB f then
    (bif (aroundB f).2 then (bif decide (a.lo ≤ (aroundB f).1.lo) then K (rBoolE (decide ((aroundB f).1.hi ≤ a.hi), 0)) [] else K (rBoolE (false, 0)) []) else K (rBoolE (false, 0)) []) else none

def inRaw (a : Span) (f : Frac) : Bool := bif !(lessN f (makeF a.lo 1000000).1) then !(lessN (makeF a.hi 1000000).1 f) else false

def hasRef (a : Span) (f : Frac) : Bool × Int := bif !(spanValid a) then (false, 8) else bif checkF f != 0 then (false, 8) else (inRaw a f, 0)

theorem le_floor {x n d : Int} (hd : 0 < d) : x ≤ n / d ↔ x * d ≤ n := Int.le_ediv_iff_mul_le hd

theorem ceil_le {x n d : Int} (hd : 0 < d) : -(-n / d) ≤ x ↔ n ≤ x * d := by
  have := le_floor (x := -x) (n := -n) hd
  rw [Int.neg_mul] at this
  omega

theorem hasAns_ok {K : AV → List Blk → Ans} {a : Span} {f : Frac} : hasAns K a f = K (rBoolE (hasS a f)) [] := by
  unfold hasAns hasS
  rw [checkF_bad]
  cases hv : spanValid a
  · rfl
  cases h : fracOkB f
  · rfl
  simp only [Bool.not_true, cond_false, cond_true, Bool.and_self]
  have hk := fracOkB_iff.1 h
  have hd : 0 < f.den := by have := hk.denlo; omega
  rw [spanValid_iff] at hv
  have f1 := le_floor (x := a.lo) (n := f.num * 1000000) hd
  have f2 := ceil_le (x := a.hi) (n := f.num * 1000000) hd
  unfold inS
  by_cases hq : 3000000000 < absI f.num * 1000000 / f.den
  · rw [show aroundB f = (spanZ, false) by unfold aroundB; rw [decide_eq_true hq]; rfl]
    simp only [cond_false]
    congr 3
    symm
    simp only [Bool.and_eq_false_iff, decide_eq_false_iff_not]
    by_cases hn : f.num < 0
    · rw [absI_of_neg hn, Int.neg_mul] at hq
      left
      rw [← f1]
      have := le_floor (x := a.lo) (n := f.num * 1000000) hd
      have h3 := ceil_le (x := -3000000000) (n := f.num * 1000000) hd
      intro h4
      have h5 : f.num * 1000000 / f.den ≤ -(-(f.num * 1000000) / f.den) := by
        have e1 := Int.mul_ediv_add_emod (f.num * 1000000) f.den
        have e2 := Int.emod_nonneg (f.num * 1000000) (show f.den ≠ 0 by omega)
        have e3 := (ceil_le (x := f.num * 1000000 / f.den - 1) (n := f.num * 1000000) hd)
        rw [Int.sub_mul, Int.mul_comm (f.num * 1000000 / f.den)] at e3
        omega
      omega
    · rw [absI_of_nonneg (by omega)] at hq
      right
      rw [← f2]
      have h5 : f.num * 1000000 / f.den ≤ -(-(f.num * 1000000) / f.den) := by
        have e1 := Int.mul_ediv_add_emod (f.num * 1000000) f.den
        have e2 := Int.emod_nonneg (f.num * 1000000) (show f.den ≠ 0 by omega)
        have e3 := (ceil_le (x := f.num * 1000000 / f.den - 1) (n := f.num * 1000000) hd)
        rw [Int.sub_mul, Int.mul_comm (f.num * 1000000 / f.den)] at e3
        omega
      omega
  · rw [show aroundB f = (aroundS f, true) by unfold aroundB; rw [decide_eq_false hq]; rfl]
    show (bif decide (a.lo ≤ f.num * 1000000 / f.den) then K (rBoolE (decide (-(-(f.num * 1000000) / f.den) ≤ a.hi), 0)) [] else K (rBoolE (false, 0)) []) = K (rBoolE (decide (a.lo * f.den ≤ f.num * 1000000) && decide (f.num * 1000000 ≤ a.hi * f.den), 0)) []
    by_cases h1 : a.lo * f.den ≤ f.num * 1000000
    · rw [decide_eq_true h1, decide_eq_true (f1.2 h1)]
      simp only [cond_true, Bool.true_and]
      congr 3
      exact decide_eq_decide.2 f2
    · rw [decide_eq_false h1, decide_eq_false (fun hh => h1 (f1.1 hh))]
      rfl

theorem make_unit {n : Int} (h : -3000000000 ≤ n ∧ n ≤ 3000000000) : ∃ g, 0 < g ∧ (makeF n 1000000).1.den * g = 1000000 ∧ (makeF n 1000000).1.num * g = n := by
  have hg := gcdI_pos (a := n) (b := 1000000) (by omega)
  refine ⟨gcdI n 1000000, hg, ?_⟩
  have d1 : gcdI n 1000000 ∣ n := gcdI_dvd_left ..
  have d2 : gcdI n 1000000 ∣ 1000000 := gcdI_dvd_right ..
  have e2 : absI 1000000 = 1000000 := rfl
  have e3 : gcdI n 1000000 ∣ absI n := by
    rw [absI_eq]
    exact Int.dvd_natAbs.2 d1
  have m1 := Int.ediv_mul_cancel d2
  have m2 := Int.ediv_mul_cancel e3
  have q1 := Int.ediv_le_self (gcdI n 1000000) (show (0 : Int) ≤ 1000000 by omega)
  have q2 := Int.ediv_le_self (gcdI n 1000000) (absI_nonneg n)
  have ha : absI n ≤ 3000000000 := by unfold absI; omega
  unfold makeF lowF
  rw [show ((1000000 : Int) == 0) = false from rfl, e2]
  simp only [cond_false]
  rw [decide_eq_true (by omega), decide_eq_true (by omega)]
  simp only [Bool.and_self, cond_true]
  refine ⟨m1, ?_⟩
  unfold diffSign
  by_cases hn : n < 0
  · rw [decide_eq_true hn]
    simp only [show decide ((1000000 : Int) < 0) = false from rfl]
    rw [absI_of_neg hn] at m2 ⊢
    show -(-n / gcdI n 1000000) * gcdI n 1000000 = n
    rw [Int.neg_mul]
    omega
  · rw [decide_eq_false hn]
    rw [absI_of_nonneg (by omega)] at m2 ⊢
    exact m2

theorem inRaw_ok {a : Span} {f : Frac} (ha : spanValid a = true) (hf : FracOk f) : inRaw a f = inS a f := by
  rw [spanValid_iff] at ha
  have hd := hf.denlo
  have hd' := hf.denhi
  obtain ⟨g, hg, g1, g2⟩ := make_unit (n := a.lo) (by omega)
  obtain ⟨k, hk, k1, k2⟩ := make_unit (n := a.hi) (by omega)
  unfold inRaw inS
  generalize (makeF a.lo 1000000).1 = L at *
  generalize (makeF a.hi 1000000).1 = H at *
  have pL : 0 < L.den := by
    rcases Int.lt_or_le 0 L.den with h | h
    · exact h
    · have := Int.mul_nonneg (show 0 ≤ -L.den by omega) (Int.le_of_lt hg)
      rw [Int.neg_mul] at this
      omega
  have pH : 0 < H.den := by
    rcases Int.lt_or_le 0 H.den with h | h
    · exact h
    · have := Int.mul_nonneg (show 0 ≤ -H.den by omega) (Int.le_of_lt hk)
      rw [Int.neg_mul] at this
      omega
  have uL : L.den ≤ 1000000 := by
    have := Int.mul_le_mul_of_nonneg_left (show 1 ≤ g by omega) (show 0 ≤ L.den by omega)
    omega
  have uH : H.den ≤ 1000000 := by
    have := Int.mul_le_mul_of_nonneg_left (show 1 ≤ k by omega) (show 0 ≤ H.den by omega)
    omega
  rw [lessN_ok (by omega) (by omega) pL (by omega), lessN_ok pH (by omega) (by omega) (by omega)]
  have eL : (f.num * L.den < L.num * f.den) ↔ f.num * 1000000 < a.lo * f.den := by
    rw [← g1, ← g2, ← Int.mul_assoc, Int.mul_right_comm L.num]
    exact (Int.mul_lt_mul_right hg).symm
  have eH : (H.num * f.den < f.num * H.den) ↔ a.hi * f.den < f.num * 1000000 := by
    rw [← k1, ← k2, ← Int.mul_assoc, Int.mul_right_comm H.num]
    exact (Int.mul_lt_mul_right hk).symm
  rw [decide_eq_decide.2 eL, decide_eq_decide.2 eH]
  by_cases h1 : f.num * 1000000 < a.lo * f.den
  · rw [decide_eq_true h1, decide_eq_false (show ¬ a.lo * f.den ≤ f.num * 1000000 by omega)]
    rfl
  · rw [decide_eq_false h1, decide_eq_true (show a.lo * f.den ≤ f.num * 1000000 by omega)]
    simp only [Bool.not_false, cond_true, Bool.true_and]
    by_cases h2 : a.hi * f.den < f.num * 1000000
    · rw [decide_eq_true h2, decide_eq_false (by omega)]
      rfl
    · rw [decide_eq_false h2, decide_eq_true (by omega)]
      rfl

theorem hasRef_ok (a : Span) (f : Frac) : hasRef a f = hasS a f := by
  unfold hasRef hasS
  rw [checkF_bad]
  cases hv : spanValid a
  · rfl
  cases h : fracOkB f
  · rfl
  simp only [Bool.not_true, cond_false, cond_true, Bool.and_self]
  rw [inRaw_ok hv (fracOkB_iff.1 h)]

theorem eqAll_self : ∀ l : List D, eqAll l l = true
  | [] => rfl
  | x :: r => by simp only [eqAll, eqAll_self r, Bool.and_true]; cases x <;> simp [D.eq]

/-! ### The law SineWorks -/

def lawSineWorks (a b : Span) (f : Frac) : Bool :=
  bif eqAll (addS a b).1.cells (addS a b).1.cells then bif (addS a b).2 == (addS a b).2 then
  bif eqAll (subS a b).1.cells (subS a b).1.cells then bif (subS a b).2 == (subS a b).2 then
  bif eqAll (mulS a b).1.cells (mulS a b).1.cells then bif (mulS a b).2 == (mulS a b).2 then
  bif eqAll (ofS f).1.cells (ofS f).1.cells then bif (ofS f).2 == (ofS f).2 then
  bif (hasS a f).1 == (hasS a f).1 then bif (hasS a f).2 == (hasS a f).2 then
  bif (signS a).1 == (signS a).1 then (signS a).2 == (signS a).2 else false else false else false else false else false else false else false else false else false else false else false

theorem lawSineWorks_ok (a b : Span) (f : Frac) : lawSineWorks a b f = true := by
  unfold lawSineWorks
  simp only [eqAll_self, beq_self_eq_true, cond_true]

end Go.Ev
