/-
  Fractions and numbers of four digits to the base 2^32: what the functions come to. No program here.
-/
import Derived.Test.YtmidgaahaffmcaaDiv
namespace Go.Ev
open Go

/-! ### Absolute values -/

/-- (written so that the kernel does not open it where the number is not known) -/
def absI (n : Int) : Int := n - n + (n.natAbs : Int)

theorem absI_eq (n : Int) : absI n = (n.natAbs : Int) := by unfold absI; omega

theorem absI_of_nonneg {n : Int} (h : 0 ≤ n) : absI n = n := by unfold absI; omega
theorem absI_of_neg {n : Int} (h : n < 0) : absI n = -n := by unfold absI; omega
theorem absI_nonneg (n : Int) : 0 ≤ absI n := by unfold absI; omega

def sizeRaw (n : Int) : Int := bif decide (n < 0) then wu64 (0 - wu64 n) else wu64 n
def absRaw (n : Int) : Int := bif decide (0 ≤ n) then wu64 n else wu64 (wu64 (w64 (0 - w64 (n + 1))) + 1)

theorem sizeRaw_ok {n : Int} (h : -9223372036854775808 ≤ n ∧ n ≤ 9223372036854775807) : sizeRaw n = absI n := by
  unfold sizeRaw
  by_cases hn : n < 0
  · rw [decide_eq_true hn, cond_true, absI_of_neg hn]
    simp only [wu64_eq]
    omega
  · rw [decide_eq_false hn, cond_false, absI_of_nonneg (by omega), wu64_id (by omega)]

theorem absRaw_ok {n : Int} (h : -9223372036854775808 ≤ n ∧ n ≤ 9223372036854775807) : absRaw n = absI n := by
  unfold absRaw
  by_cases hn : 0 ≤ n
  · rw [decide_eq_true hn, cond_true, absI_of_nonneg hn, wu64_id (by omega)]
  · rw [decide_eq_false hn, cond_false, absI_of_neg (by omega), w64_id (n := n + 1) (by omega), w64_id (by omega), wu64_id (n := 0 - (n + 1)) (by omega), wu64_id (by omega)]
    omega

/-! ### Valid fractions -/

def fracOkB (a : Frac) : Bool :=
  bif decide (a.den < 1) then false else bif decide (1000000000000000000 < a.den) then false else bif decide (a.num < -1000000000000000000) then false else bif decide (1000000000000000000 < a.num) then false else
  !(gcdI (absI a.num) a.den != 1)

structure FracOk (a : Frac) : Prop where
  denlo : 1 ≤ a.den
  denhi : a.den ≤ 1000000000000000000
  numlo : -1000000000000000000 ≤ a.num
  numhi : a.num ≤ 1000000000000000000
  gcd : Int.gcd a.num a.den = 1

theorem gcdI_abs_left (a b : Int) : gcdI (absI a) b = gcdI a b := by simp [gcdI_eq, absI_eq, Int.gcd_eq_natAbs_gcd_natAbs]
theorem gcdI_abs_right (a b : Int) : gcdI a (absI b) = gcdI a b := by simp [gcdI_eq, absI_eq, Int.gcd_eq_natAbs_gcd_natAbs]

theorem fracOkB_iff {a : Frac} : fracOkB a = true ↔ FracOk a := by
  unfold fracOkB
  rw [gcdI_abs_left]
  simp only [cond_eq_ite, decide_eq_true_eq]
  constructor
  · intro h
    split at h
    · cases h
    split at h
    · cases h
    split at h
    · cases h
    split at h
    · cases h
    refine ⟨by omega, by omega, by omega, by omega, ?_⟩
    simp only [bne, Bool.not_not, beq_iff_eq, gcdI_eq] at h
    omega
  · intro h
    rw [if_neg (by have := h.denlo; omega), if_neg (by have := h.denhi; omega), if_neg (by have := h.numlo; omega), if_neg (by have := h.numhi; omega)]
    simp [gcdI_eq, h.gcd]

def checkF (a : Frac) : Int := bif fracOkB a then 0 else 8

def checkRaw (num den gd : Int) : Int :=
  bif decide (den < 1) then 8 else bif decide (1000000000000000000 < den) then 8 else bif decide (num < -1000000000000000000) then 8 else bif decide (1000000000000000000 < num) then 8 else
  bif gcdI (absI num) gd != 1 then 8 else 0

theorem checkRaw_ok (num den : Int) : checkRaw num den den = checkF ⟨num, den⟩ := by
  unfold checkRaw checkF fracOkB
  simp only [cond_eq_ite, decide_eq_true_eq]
  split
  · simp
  split
  · simp
  split
  · simp
  split
  · simp
  simp only [Bool.not_eq_true']
  cases h : gcdI (absI num) den != 1 <;> simp

theorem checkRaw_abs (num den : Int) : checkRaw num den (absI den) = checkF ⟨num, den⟩ := by
  by_cases hd : den < 1
  · rw [← checkRaw_ok]
    unfold checkRaw
    rw [decide_eq_true hd]
    rfl
  · rw [absI_of_nonneg (by omega), checkRaw_ok]

theorem checkRaw_wu (num den : Int) (h : den ≤ 9223372036854775807) : checkRaw num den (wu64 den) = checkF ⟨num, den⟩ := by
  by_cases hd : den < 1
  · rw [← checkRaw_ok]
    unfold checkRaw
    rw [decide_eq_true hd]
    rfl
  · rw [wu64_id (by omega), checkRaw_ok]

/-! ### Numbers of four digits -/

structure Big where
  a : Int
  b : Int
  c : Int
  d : Int

def Big.cells (x : Big) : List D := [.int .u64 x.a, .int .u64 x.b, .int .u64 x.c, .int .u64 x.d]
def rBig (x : Big) : AV := .v (.agg x.cells)

def bigOf (n : Int) : Big := ⟨n % 4294967296, n / 4294967296 % 4294967296, n / 18446744073709551616 % 4294967296, n / 79228162514264337593543950336⟩

def bigRaw (n : Int) : Big := ⟨bandU n 4294967295, shrU n 32, 0, 0⟩

theorem bigRaw_ok {n : Int} (h : 0 ≤ n ∧ n ≤ 18446744073709551615) : bigRaw n = bigOf n := by
  obtain ⟨a, rfl⟩ := Int.eq_ofNat_of_zero_le h.1
  unfold bigRaw bigOf
  rw [band_mask a (by omega), shr_32]
  congr 1 <;> omega

/-- One step of the product of digits: what is kept, what is carried. -/
def carryU (c o x y : Int) : Int := wu64 (c + wu64 (o + wu64 (x * y)))

def prodRaw (x y : Big) : Big :=
  let t0 := carryU 0 0 x.a y.a
  let t1 := carryU (shrU t0 32) 0 x.a y.b
  let t2 := carryU 0 (bandU t1 4294967295) x.b y.a
  let t3 := carryU (shrU t2 32) (wu64 (0 + shrU t1 32)) x.b y.b
  ⟨bandU t0 4294967295, bandU t2 4294967295, bandU t3 4294967295, wu64 (0 + shrU t3 32)⟩

theorem carryU_nat (c o x y : Nat) (hc : c < 4294967296) (ho : o < 4294967296) (hx : x < 4294967296) (hy : y < 4294967296) : carryU c o x y = ((c + (o + x * y) : Nat) : Int) ∧ c + (o + x * y) < 18446744073709551616 := by
  have h := Lib.half_mul_le (a := x) (b := y) (by omega) (by omega)
  unfold carryU
  rw [← Int.natCast_mul, wuN _ (by omega), ← Int.natCast_add, wuN _ (by omega), ← Int.natCast_add, wuN _ (by omega)]
  exact ⟨rfl, by omega⟩

theorem prodRaw_ok {x y : Int} (hx : 0 ≤ x ∧ x ≤ 18446744073709551615) (hy : 0 ≤ y ∧ y ≤ 18446744073709551615) : prodRaw (bigOf x) (bigOf y) = bigOf (x * y) := by
  obtain ⟨p, rfl⟩ := Int.eq_ofNat_of_zero_le hx.1
  obtain ⟨q, rfl⟩ := Int.eq_ofNat_of_zero_le hy.1
  have e1 : (p : Int) % 4294967296 = ((p % 4294967296 : Nat) : Int) := by omega
  have e2 : (p : Int) / 4294967296 % 4294967296 = ((p / 4294967296 : Nat) : Int) := by omega
  have e3 : (q : Int) % 4294967296 = ((q % 4294967296 : Nat) : Int) := by omega
  have e4 : (q : Int) / 4294967296 % 4294967296 = ((q / 4294967296 : Nat) : Int) := by omega
  have hpq : p * q = (p / 4294967296) * (q / 4294967296) * (4294967296 * 4294967296) + ((p / 4294967296) * (q % 4294967296) + (p % 4294967296) * (q / 4294967296)) * 4294967296 + (p % 4294967296) * (q % 4294967296) := by
    rw [← Lib.split_mul, Nat.div_add_mod' p 4294967296, Nat.div_add_mod' q 4294967296]
  have ha : p % 4294967296 < 4294967296 := by omega
  have hb : p / 4294967296 < 4294967296 := by omega
  have hc : q % 4294967296 < 4294967296 := by omega
  have hd : q / 4294967296 < 4294967296 := by omega
  have hm : ((p : Int) * q) = ((p * q : Nat) : Int) := (Int.natCast_mul _ _).symm
  unfold prodRaw bigOf
  simp only [e1, e2, e3, e4, hm]
  rw [hpq]
  generalize p % 4294967296 = pa at *
  generalize p / 4294967296 = pb at *
  generalize q % 4294967296 = qa at *
  generalize q / 4294967296 = qb at *
  obtain ⟨f0, g0⟩ := carryU_nat 0 0 pa qa (by omega) (by omega) ha hc
  simp only [Int.natCast_zero] at f0
  rw [f0, shr_32]
  obtain ⟨f1, g1⟩ := carryU_nat ((0 + (0 + pa * qa)) / 4294967296) 0 pa qb (by omega) (by omega) ha hd
  simp only [Int.natCast_zero] at f1
  rw [f1, shr_32, band_mask _ g1]
  obtain ⟨f2, g2⟩ := carryU_nat 0 (((0 + (0 + pa * qa)) / 4294967296 + (0 + pa * qb)) % 4294967296) pb qa (by omega) (by omega) hb hc
  simp only [Int.natCast_zero] at f2
  rw [f2, shr_32, Int.zero_add, wuN _ (by omega)]
  obtain ⟨f3, g3⟩ := carryU_nat ((0 + (((0 + (0 + pa * qa)) / 4294967296 + (0 + pa * qb)) % 4294967296 + pb * qa)) / 4294967296) (((0 + (0 + pa * qa)) / 4294967296 + (0 + pa * qb)) / 4294967296) pb qb (by omega) (by omega) hb hd
  rw [f3, shr_32, Int.zero_add, wuN _ (by omega), band_mask _ g0, band_mask _ g2, band_mask _ g3]
  generalize pa * qa = A at *
  generalize pa * qb = B at *
  generalize pb * qa = C at *
  generalize pb * qb = E at *
  congr 1 <;> omega

def belowRaw (x y : Big) : Bool :=
  bif x.d != y.d then decide (x.d < y.d) else bif x.c != y.c then decide (x.c < y.c) else bif x.b != y.b then decide (x.b < y.b) else bif x.a != y.a then decide (x.a < y.a) else false

theorem belowRaw_ok {m n : Int} : belowRaw (bigOf m) (bigOf n) = decide (m < n) := by
  unfold belowRaw bigOf
  simp only [cond_eq_ite, bne_iff_ne, ne_eq]
  split
  · apply decide_eq_decide.2; omega
  split
  · apply decide_eq_decide.2; omega
  split
  · apply decide_eq_decide.2; omega
  split
  · apply decide_eq_decide.2; omega
  symm
  simp only [decide_eq_false_iff_not]
  omega

def smallRaw (x : Big) : Int × Bool :=
  (w64 (bandU (borU (shlU x.b 32) x.a) 9223372036854775807),
   bif x.c == 0 then (bif x.d == 0 then decide (borU (shlU x.b 32) x.a ≤ 1000000000000000000) else false) else false)

def smallI (n : Int) : Int × Bool := (n % 9223372036854775808, decide (n ≤ 1000000000000000000))

theorem smallRaw_ok {n : Int} (hn : 0 ≤ n) : smallRaw (bigOf n) = smallI n := by
  obtain ⟨a, rfl⟩ := Int.eq_ofNat_of_zero_le hn
  have e0 : (a : Int) % 4294967296 = ((a % 4294967296 : Nat) : Int) := by omega
  have e1 : (a : Int) / 4294967296 % 4294967296 = ((a / 4294967296 % 4294967296 : Nat) : Int) := by omega
  have e2 : shlU ((a / 4294967296 % 4294967296 : Nat) : Int) 32 = ((a / 4294967296 % 4294967296 * 4294967296 : Nat) : Int) := by
    have := shlU_nat (a / 4294967296 % 4294967296) 32 (by omega)
    rw [show ((32 : Nat) : Int) = 32 from rfl] at this
    rw [this]
    omega
  have e3 : borU ((a / 4294967296 % 4294967296 * 4294967296 : Nat) : Int) ((a % 4294967296 : Nat) : Int) = ((a % 18446744073709551616 : Nat) : Int) := by
    rw [borU_nat _ _ (by omega) (by omega)]
    have := Nat.shiftLeft_add_eq_or_of_lt (b := a % 4294967296) (i := 32) (by omega) (a / 4294967296 % 4294967296)
    rw [Nat.shiftLeft_eq] at this
    rw [show (2 : Nat) ^ 32 = 4294967296 from rfl] at this
    rw [← this]
    omega
  have e4 : bandU ((a % 18446744073709551616 : Nat) : Int) 9223372036854775807 = ((a % 9223372036854775808 : Nat) : Int) := by
    have := bandU_nat (a % 18446744073709551616) 9223372036854775807 (by omega) (by omega)
    rw [show a % 18446744073709551616 &&& 9223372036854775807 = a % 18446744073709551616 % 9223372036854775808 from Nat.and_two_pow_sub_one_eq_mod _ 63] at this
    refine this.trans ?_
    omega
  unfold smallRaw bigOf smallI
  simp only [e0, e1, e2, e3, e4]
  rw [w64_id (by omega)]
  refine Prod.ext (by simp) ?_
  simp only [cond_eq_ite, beq_iff_eq]
  split
  · split
    · apply decide_eq_decide.2; omega
    · symm; simp only [decide_eq_false_iff_not]; omega
  · symm; simp only [decide_eq_false_iff_not]; omega

end Go.Ev
