/-
  Enclosures of numbers of absolute value at most 1: sines, cosines, their products. No program here.
-/
import Derived.Test.YtmidgaahaffmcaaT720
namespace Go.Ev
open Go

/-- The answers of a law. -/
def yes (K : AV → List Blk → Ans) : Ans := K (rB true) []
def nay (K : AV → List Blk → Ans) : Ans := K (rB false) []

/-- An enclosure of a sine or a cosine in some quarter: one of the first quarter, or its opposite. -/
structure Near (a r : Span) : Prop where
  is : a = r ∨ a = negS r

theorem Near.range {a r : Span} (h : Near a r) (hr : 0 ≤ r.lo ∧ r.lo ≤ r.hi ∧ r.hi ≤ 1000000 ∧ r.hi ≤ r.lo + 1) : -1000000 ≤ a.lo ∧ a.lo ≤ a.hi ∧ a.hi ≤ 1000000 ∧ a.hi ≤ a.lo + 1 := by
  rcases h.is with rfl | rfl
  · omega
  · simp only [negS]; omega

theorem riseI_zero (n : Int) : riseI 0 n = ⟨0, 0⟩ := rfl
theorem riseI_neg0 (n : Int) : negS (riseI 0 n) = riseI 0 n := rfl

/-- A cosine and a sine: in some quarter, with w of n parts of it behind its begin. -/
theorem turn_pair {n : Int} (hn : 0 < n) (u : Int) : ∃ w m, 0 ≤ w ∧ w < n ∧ u = w + n * m ∧ ((Near (turnS u n) (riseI w n) ∧ Near (turnS (u + n) n) (riseI (n - w) n)) ∨ (Near (turnS u n) (riseI (n - w) n) ∧ Near (turnS (u + n) n) (riseI w n))) := by
  have h0 := riseI_neg0 n
  rw [turnS_quad, turnS_quad]
  obtain ⟨w, k, h1, h2, h | h | h | h⟩ := quad_cases hn u
  · refine ⟨w, 4 * k, h1, h2, by rw [h, Int.mul_assoc, Int.mul_left_comm n 4 k], .inl ⟨⟨.inl ((quad_val ⟨h1, h2⟩).1 h)⟩, ⟨.inl ((quad_val (k := k) ⟨h1, h2⟩).2.1 (by omega))⟩⟩⟩
  · refine ⟨w, 1 + 4 * k, h1, h2, by rw [h, Int.mul_add, Int.mul_assoc, Int.mul_left_comm n 4 k]; omega, .inr ⟨⟨.inl ((quad_val ⟨h1, h2⟩).2.1 h)⟩, ⟨.inr ((quad_val (k := k) ⟨h1, h2⟩).2.2.1 (by omega))⟩⟩⟩
  · refine ⟨w, 2 + 4 * k, h1, h2, by rw [h, Int.mul_add, Int.mul_assoc, Int.mul_left_comm n 4 k]; omega, .inl ⟨⟨.inr ((quad_val ⟨h1, h2⟩).2.2.1 h)⟩, ⟨.inr ((quad_val (k := k) ⟨h1, h2⟩).2.2.2 (by omega))⟩⟩⟩
  · refine ⟨w, 3 + 4 * k, h1, h2, by rw [h, Int.mul_add, Int.mul_assoc, Int.mul_left_comm n 4 k]; omega, .inr ⟨⟨.inr ((quad_val ⟨h1, h2⟩).2.2.2 h)⟩, ⟨.inl ((quad_val (k := k + 1) ⟨h1, h2⟩).1 (by rw [Int.mul_add]; omega))⟩⟩⟩

def commonB (a b : Span) : Bool := bif decide (a.lo ≤ b.hi) then decide (b.lo ≤ a.hi) else false

theorem commonB_iff {a b : Span} : commonB a b = true ↔ a.lo ≤ b.hi ∧ b.lo ≤ a.hi := by
  unfold commonB
  by_cases h : a.lo ≤ b.hi
  · rw [decide_eq_true h]; simp [h]
  · rw [decide_eq_false h]; simp [h]

/-- Both ends at most 1. -/
def Unit1 (a : Span) : Prop := -1000000 ≤ a.lo ∧ a.lo ≤ a.hi ∧ a.hi ≤ 1000000

theorem turnS_unit {n : Int} (hn : 1 ≤ n ∧ n ≤ 720) (u : Int) : Unit1 (turnS u n) := by
  obtain ⟨w, m, w1, w2, _, hp⟩ := turn_pair (n := n) (by omega) u
  have r1 := riseI_range (w := w) (n := n) (by simp only [riseOn, Bool.and_eq_true, decide_eq_true_eq]; omega)
  have r2 := riseI_range (w := n - w) (n := n) (by simp only [riseOn, Bool.and_eq_true, decide_eq_true_eq]; omega)
  rcases hp with ⟨h, _⟩ | ⟨h, _⟩
  · have := h.range r1; exact ⟨this.1, this.2.1, this.2.2.1⟩
  · have := h.range r2; exact ⟨this.1, this.2.1, this.2.2.1⟩

theorem min4_one {p q r s : Int} : min4 p q r s = p ∨ min4 p q r s = q ∨ min4 p q r s = r ∨ min4 p q r s = s := by
  unfold min4
  repeat' split
  all_goals simp
theorem max4_one {p q r s : Int} : max4 p q r s = p ∨ max4 p q r s = q ∨ max4 p q r s = r ∨ max4 p q r s = s := by
  unfold max4
  repeat' split
  all_goals simp

theorem unit_mul {x y : Int} (hx : -1000000 ≤ x ∧ x ≤ 1000000) (hy : -1000000 ≤ y ∧ y ≤ 1000000) : -1000000000000 ≤ x * y ∧ x * y ≤ 1000000000000 := Abs.mul (x := x) (y := y) (a := 1000000) (b := 1000000) hx hy

theorem mulS_unit {a b : Span} (ha : Unit1 a) (hb : Unit1 b) : ∃ p, mulS a b = (p, 0) ∧ Unit1 p := by
  unfold Unit1 at *
  have v1 : spanValid a = true := by rw [spanValid_iff]; omega
  have v2 : spanValid b = true := by rw [spanValid_iff]; omega
  have p1 := unit_mul (x := a.lo) (y := b.lo) (by omega) (by omega)
  have p2 := unit_mul (x := a.lo) (y := b.hi) (by omega) (by omega)
  have p3 := unit_mul (x := a.hi) (y := b.lo) (by omega) (by omega)
  have p4 := unit_mul (x := a.hi) (y := b.hi) (by omega) (by omega)
  unfold mulS
  rw [v1, v2]
  simp only [Bool.and_self, cond_true]
  have h1 := min4_le (a.lo * b.lo) (a.lo * b.hi) (a.hi * b.lo) (a.hi * b.hi)
  have h2 := le_max4 (a.lo * b.lo) (a.lo * b.hi) (a.hi * b.lo) (a.hi * b.hi)
  have h3 := min4_one (p := a.lo * b.lo) (q := a.lo * b.hi) (r := a.hi * b.lo) (s := a.hi * b.hi)
  have h4 := max4_one (p := a.lo * b.lo) (q := a.lo * b.hi) (r := a.hi * b.lo) (s := a.hi * b.hi)
  generalize min4 (a.lo * b.lo) (a.lo * b.hi) (a.hi * b.lo) (a.hi * b.hi) = m at *
  generalize max4 (a.lo * b.lo) (a.lo * b.hi) (a.hi * b.lo) (a.hi * b.hi) = M at *
  have hv : spanValid ⟨m / 1000000, -(-M / 1000000)⟩ = true := by rw [spanValid_iff]; simp only; omega
  refine ⟨⟨m / 1000000, -(-M / 1000000)⟩, ?_, ?_⟩
  · unfold rangedS
    rw [hv]
    rfl
  · simp only
    omega

theorem addS_some {a b : Span} (ha : -1000000000 ≤ a.lo ∧ a.lo ≤ a.hi ∧ a.hi ≤ 1000000000) (hb : -1000000000 ≤ b.lo ∧ b.lo ≤ b.hi ∧ b.hi ≤ 1000000000) : addS a b = (⟨a.lo + b.lo, a.hi + b.hi⟩, 0) := by
  have v1 : spanValid a = true := by rw [spanValid_iff]; omega
  have v2 : spanValid b = true := by rw [spanValid_iff]; omega
  have v3 : spanValid ⟨a.lo + b.lo, a.hi + b.hi⟩ = true := by rw [spanValid_iff]; simp only; omega
  unfold addS rangedS
  rw [v1, v2]
  simp only [Bool.and_self, cond_true]
  rw [v3]
  rfl
theorem subS_some {a b : Span} (ha : -1000000000 ≤ a.lo ∧ a.lo ≤ a.hi ∧ a.hi ≤ 1000000000) (hb : -1000000000 ≤ b.lo ∧ b.lo ≤ b.hi ∧ b.hi ≤ 1000000000) : subS a b = (⟨a.lo - b.hi, a.hi - b.lo⟩, 0) := by
  have v1 : spanValid a = true := by rw [spanValid_iff]; omega
  have v2 : spanValid b = true := by rw [spanValid_iff]; omega
  have v3 : spanValid ⟨a.lo - b.hi, a.hi - b.lo⟩ = true := by rw [spanValid_iff]; simp only; omega
  unfold subS rangedS
  rw [v1, v2]
  simp only [Bool.and_self, cond_true]
  rw [v3]
  rfl

/-- The product of two enclosures of sines or cosines, at one scale. -/
theorem enc_prod {a b p : Span} {x y : Int} (ha : Enc a (x * 1000000) 18446744073709551616) (hb : Enc b (y * 1000000) 18446744073709551616) (h : mulS a b = (p, 0)) : Enc p (x * y * 1000000) (18446744073709551616 * 18446744073709551616) := by
  have := Enc.mul (by decide) (by decide) ha hb h
  refine Enc.unscale (c := 1000000) (by decide) ?_
  rwa [show x * 1000000 * (y * 1000000) = x * y * 1000000 * 1000000 by grind] at this


def sinT (k : Int) : Span := turnS (4 * k) 720
def cosT (k : Int) : Span := turnS (4 * k + 720) 720

theorem sinT_enc (k : Int) : Enc (sinT k) (SZ 720 (4 * k) * 1000000) 18446744073709551616 := turnS_enc (by omega) _
theorem cosT_enc (k : Int) : Enc (cosT k) (CZ 720 (4 * k) * 1000000) 18446744073709551616 := turnS_enc (by omega) _
theorem sinT_unit (k : Int) : Unit1 (sinT k) := turnS_unit (by omega) _
theorem cosT_unit (k : Int) : Unit1 (cosT k) := turnS_unit (by omega) _

theorem sinT_neg (k : Int) : sinT (-k) = negS (sinT k) := by
  unfold sinT
  rw [turnS_quad, turnS_quad, show 4 * -k = -(4 * k) by omega, quad_neg (r := fun w => riseI w 720) (riseI_neg0 720) (by omega)]
theorem cosT_neg (k : Int) : cosT (-k) = cosT k := by
  unfold cosT
  rw [turnS_quad, turnS_quad, ← quad_mirror (r := fun w => riseI w 720) (riseI_neg0 720) (by omega) (4 * k + 720), show 4 * -k + 720 = 2 * 720 - (4 * k + 720) by omega]
theorem sinT_whole (k m : Int) : sinT (k + 720 * m) = sinT k := by
  unfold sinT
  rw [turnS_quad, turnS_quad, show 4 * (k + 720 * m) = 4 * k + 4 * 720 * m by omega, quad_whole]
theorem cosT_whole (k m : Int) : cosT (k + 720 * m) = cosT k := by
  unfold cosT
  rw [turnS_quad, turnS_quad, show 4 * (k + 720 * m) + 720 = 4 * k + 720 + 4 * 720 * m by omega, quad_whole]
/-- A quarter of a turn more. -/
theorem sinT_quarter (k : Int) : sinT (k + 180) = cosT k := by
  unfold sinT cosT
  congr 1
  omega
theorem cosT_quarter (k : Int) : cosT (k + 180) = negS (sinT k) := by
  unfold sinT cosT
  rw [turnS_quad, turnS_quad, show 4 * (k + 180) + 720 = 4 * k + 2 * 720 by omega, quad_half (by omega)]

theorem min4_swap (p q r s : Int) : min4 p q r s = min4 p r q s := by
  unfold min4
  repeat' split
  all_goals omega
theorem max4_swap (p q r s : Int) : max4 p q r s = max4 p r q s := by
  unfold max4
  repeat' split
  all_goals omega
theorem mulS_comm (a b : Span) : mulS a b = mulS b a := by
  unfold mulS
  rw [Bool.and_comm, min4_swap, max4_swap, Int.mul_comm a.lo b.lo, Int.mul_comm a.hi b.lo, Int.mul_comm a.lo b.hi, Int.mul_comm a.hi b.hi]

end Go.Ev
