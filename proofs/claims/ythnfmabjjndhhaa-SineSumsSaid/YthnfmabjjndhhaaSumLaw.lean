/-
  The law SineSums as a plain function. No program here.
-/
import Derived.Test.YthnfmabjjndhhaaSmAll
import Derived.Test.YthnfmabjjndhhaaCircle
namespace Go.Ev
open Go

def commonB (a b : Span) : Bool := bif decide (a.lo ≤ b.hi) then decide (b.lo ≤ a.hi) else false

theorem commonB_iff {a b : Span} : commonB a b = true ↔ a.lo ≤ b.hi ∧ b.lo ≤ a.hi := by
  unfold commonB
  by_cases h : a.lo ≤ b.hi
  · rw [decide_eq_true h]; simp [h]
  · rw [decide_eq_false h]; simp [h]

section
variable (K : AV → List Blk → Ans)

def lsums3 (a : Span) (k n : Int) : Ans :=
  bif (cosS (w64 (2 * k)) n).2 == 0 then bif (mulS a a).2 == 0 then bif (addS (mulS a a).1 (mulS a a).1).2 == 0 then bif (subS (addS (mulS a a).1 (mulS a a).1).1 ⟨1000000, 1000000⟩).2 == 0 then
  bif commonB (cosS (w64 (2 * k)) n).1 (subS (addS (mulS a a).1 (mulS a a).1).1 ⟨1000000, 1000000⟩).1 then yes K else nay K else nay K else nay K else nay K else nay K

def lsums2 (a b c d x y : Span) (k n : Int) : Ans :=
  bif (mulS a c).2 != 0 then nay K else bif (mulS b d).2 != 0 then nay K else bif (mulS b c).2 != 0 then nay K else bif (mulS a d).2 != 0 then nay K else
  bif (subS (mulS a c).1 (mulS b d).1).2 != 0 then nay K else bif (addS (mulS b c).1 (mulS a d).1).2 != 0 then nay K else
  bif !(commonB (subS (mulS a c).1 (mulS b d).1).1 x) then nay K else bif !(commonB (addS (mulS b c).1 (mulS a d).1).1 y) then nay K else lsums3 K a k n

def lsums1 (a b c d x y : Span × Int) (k n : Int) : Ans :=
  bif a.2 != 0 then nay K else bif b.2 != 0 then nay K else bif c.2 != 0 then nay K else bif d.2 != 0 then nay K else bif x.2 != 0 then nay K else bif y.2 != 0 then nay K else lsums2 K a.1 b.1 c.1 d.1 x.1 y.1 k n

def lawSineSums (k l n : Int) : Ans :=
  bif decide (n < 1) then yes K else bif decide (720 < n) then yes K else bif decide (k < -1000000) then yes K else bif decide (1000000 < k) then yes K else bif decide (l < -1000000) then yes K else bif decide (1000000 < l) then yes K else
  lsums1 K (cosS k n) (sinS k n) (cosS l n) (sinS l n) (cosS (w64 (k + l)) n) (sinS (w64 (k + l)) n) k n
end

/-- Both ends at most 1. -/
def Unit1 (a : Span) : Prop := -1000000 ≤ a.lo ∧ a.lo ≤ a.hi ∧ a.hi ≤ 1000000

theorem turnS_unit {n : Int} (hn : 1 ≤ n ∧ n ≤ 720) (u : Int) : Unit1 (turnS u n) := by
  obtain ⟨w, m, w1, w2, _, hp⟩ := turn_pair (n := n) (by omega) u
  have r1 := riseI_range (w := w) (n := n) (by simp only [riseOn, Bool.and_eq_true, decide_eq_true_eq]; omega)
  have r2 := riseI_range (w := n - w) (n := n) (by simp only [riseOn, Bool.and_eq_true, decide_eq_true_eq]; omega)
  rcases hp with ⟨h, _⟩ | ⟨h, _⟩
  · have := h.range r1; exact ⟨this.1, this.2.1, this.2.2.1⟩
  · have := h.range r2; exact ⟨this.1, this.2.1, this.2.2.1⟩

theorem min4_one {p q r s : Int} : min4 p q r s = p ∨ min4 p q r s = q ∨ min4 p q r s = r ∨ min4 p q r s = s := by
  unfold min4
  repeat' split
  all_goals simp
theorem max4_one {p q r s : Int} : max4 p q r s = p ∨ max4 p q r s = q ∨ max4 p q r s = r ∨ max4 p q r s = s := by
  unfold max4
  repeat' split
  all_goals simp

theorem unit_mul {x y : Int} (hx : -1000000 ≤ x ∧ x ≤ 1000000) (hy : -1000000 ≤ y ∧ y ≤ 1000000) : -1000000000000 ≤ x * y ∧ x * y ≤ 1000000000000 := Abs.mul (x := x) (y := y) (a := 1000000) (b := 1000000) hx hy

theorem mulS_unit {a b : Span} (ha : Unit1 a) (hb : Unit1 b) : ∃ p, mulS a b = (p, 0) ∧ Unit1 p := by
  unfold Unit1 at *
  have v1 : spanValid a = true := by rw [spanValid_iff]; omega
  have v2 : spanValid b = true := by rw [spanValid_iff]; omega
  have p1 := unit_mul (x := a.lo) (y := b.lo) (by omega) (by omega)
  have p2 := unit_mul (x := a.lo) (y := b.hi) (by omega) (by omega)
  have p3 := unit_mul (x := a.hi) (y := b.lo) (by omega) (by omega)
  have p4 := unit_mul (x := a.hi) (y := b.hi) (by omega) (by omega)
  unfold mulS
  rw [v1, v2]
  simp only [Bool.and_self, cond_true]
  have h1 := min4_le (a.lo * b.lo) (a.lo * b.hi) (a.hi * b.lo) (a.hi * b.hi)
  have h2 := le_max4 (a.lo * b.lo) (a.lo * b.hi) (a.hi * b.lo) (a.hi * b.hi)
  have h3 := min4_one (p := a.lo * b.lo) (q := a.lo * b.hi) (r := a.hi * b.lo) (s := a.hi * b.hi)
  have h4 := max4_one (p := a.lo * b.lo) (q := a.lo * b.hi) (r := a.hi * b.lo) (s := a.hi * b.hi)
  generalize min4 (a.lo * b.lo) (a.lo * b.hi) (a.hi * b.lo) (a.hi * b.hi) = m at *
  generalize max4 (a.lo * b.lo) (a.lo * b.hi) (a.hi * b.lo) (a.hi * b.hi) = M at *
  have hv : spanValid ⟨m / 1000000, -(-M / 1000000)⟩ = true := by rw [spanValid_iff]; simp only; omega
  refine ⟨⟨m / 1000000, -(-M / 1000000)⟩, ?_, ?_⟩
  · unfold rangedS
    rw [hv]
    rfl
  · simp only
    omega

theorem addS_some {a b : Span} (ha : -1000000000 ≤ a.lo ∧ a.lo ≤ a.hi ∧ a.hi ≤ 1000000000) (hb : -1000000000 ≤ b.lo ∧ b.lo ≤ b.hi ∧ b.hi ≤ 1000000000) : addS a b = (⟨a.lo + b.lo, a.hi + b.hi⟩, 0) := by
  have v1 : spanValid a = true := by rw [spanValid_iff]; omega
  have v2 : spanValid b = true := by rw [spanValid_iff]; omega
  have v3 : spanValid ⟨a.lo + b.lo, a.hi + b.hi⟩ = true := by rw [spanValid_iff]; simp only; omega
  unfold addS rangedS
  rw [v1, v2]
  simp only [Bool.and_self, cond_true]
  rw [v3]
  rfl
theorem subS_some {a b : Span} (ha : -1000000000 ≤ a.lo ∧ a.lo ≤ a.hi ∧ a.hi ≤ 1000000000) (hb : -1000000000 ≤ b.lo ∧ b.lo ≤ b.hi ∧ b.hi ≤ 1000000000) : subS a b = (⟨a.lo - b.hi, a.hi - b.lo⟩, 0) := by
  have v1 : spanValid a = true := by rw [spanValid_iff]; omega
  have v2 : spanValid b = true := by rw [spanValid_iff]; omega
  have v3 : spanValid ⟨a.lo - b.hi, a.hi - b.lo⟩ = true := by rw [spanValid_iff]; simp only; omega
  unfold subS rangedS
  rw [v1, v2]
  simp only [Bool.and_self, cond_true]
  rw [v3]
  rfl

/-- The product of two enclosures of sines or cosines, at one scale. -/
theorem enc_prod {a b p : Span} {x y : Int} (ha : Enc a (x * 1000000) 18446744073709551616) (hb : Enc b (y * 1000000) 18446744073709551616) (h : mulS a b = (p, 0)) : Enc p (x * y * 1000000) (18446744073709551616 * 18446744073709551616) := by
  have := Enc.mul (by decide) (by decide) ha hb h
  refine Enc.unscale (c := 1000000) (by decide) ?_
  rwa [show x * 1000000 * (y * 1000000) = x * y * 1000000 * 1000000 by grind] at this

theorem lawSineSums_ok {K : AV → List Blk → Ans} {k l n : Int} : lawSineSums K k l n = yes K := by
  unfold lawSineSums
  by_cases h1 : n < 1
  · rw [decide_eq_true h1]; rfl
  by_cases h2 : 720 < n
  · rw [decide_eq_false h1, decide_eq_true h2]; rfl
  by_cases h3 : k < -1000000
  · rw [decide_eq_false h1, decide_eq_false h2, decide_eq_true h3]; rfl
  by_cases h4 : 1000000 < k
  · rw [decide_eq_false h1, decide_eq_false h2, decide_eq_false h3, decide_eq_true h4]; rfl
  by_cases h5 : l < -1000000
  · rw [decide_eq_false h1, decide_eq_false h2, decide_eq_false h3, decide_eq_false h4, decide_eq_true h5]; rfl
  by_cases h6 : 1000000 < l
  · rw [decide_eq_false h1, decide_eq_false h2, decide_eq_false h3, decide_eq_false h4, decide_eq_false h5, decide_eq_true h6]; rfl
  have hn : 1 ≤ n ∧ n ≤ 720 := by omega
  rw [decide_eq_false h1, decide_eq_false h2, decide_eq_false h3, decide_eq_false h4, decide_eq_false h5, decide_eq_false h6, w64_id (n := k + l) (by omega)]
  simp only [cond_false]
  rw [cosS_of hn, cosS_of hn, cosS_of hn, sinS_of hn, sinS_of hn, sinS_of hn]
  have ea : Enc (turnS (4 * k + n) n) (CZ n (4 * k) * 1000000) 18446744073709551616 := turnS_enc hn _
  have eb := turnS_enc hn (4 * k)
  have ec : Enc (turnS (4 * l + n) n) (CZ n (4 * l) * 1000000) 18446744073709551616 := turnS_enc hn _
  have ed := turnS_enc hn (4 * l)
  have ex : Enc (turnS (4 * (k + l) + n) n) (CZ n (4 * (k + l)) * 1000000) 18446744073709551616 := turnS_enc hn _
  have ey := turnS_enc hn (4 * (k + l))
  have et : Enc (turnS (4 * (2 * k) + n) n) (CZ n (4 * (2 * k)) * 1000000) 18446744073709551616 := turnS_enc hn _
  have ua := turnS_unit hn (4 * k + n)
  have ub := turnS_unit hn (4 * k)
  have uc := turnS_unit hn (4 * l + n)
  have ud := turnS_unit hn (4 * l)
  have s1 := sum_all hn (4 * k) (4 * l)
  have s2 := (sum_all hn (4 * k) (4 * k)).2
  have s3 := (sum_all hn (4 * k) (-(4 * k))).2
  have z := SZ_zero (n := n) hn.1
  unfold errC at s2 s3
  rw [show 4 * k + 4 * k = 4 * (2 * k) by omega] at s2
  rw [show 4 * k + -(4 * k) = 0 by omega, z.2, CZ_neg hn.1, SZ_neg hn.1, Int.mul_neg] at s3
  unfold errS errC at s1
  rw [show 4 * k + 4 * l = 4 * (k + l) by omega] at s1
  have tw : cosS (w64 (2 * k)) n = (turnS (4 * (2 * k) + n) n, 0) := by rw [w64_id (by omega), cosS_of hn]
  generalize turnS (4 * k + n) n = a at *
  generalize turnS (4 * k) n = b at *
  generalize turnS (4 * l + n) n = c at *
  generalize turnS (4 * l) n = d at *
  generalize turnS (4 * (k + l) + n) n = x at *
  generalize turnS (4 * (k + l)) n = y at *
  generalize turnS (4 * (2 * k) + n) n = t at *
  generalize CZ n (4 * k) = Ca at *
  generalize SZ n (4 * k) = Sa at *
  generalize CZ n (4 * l) = Cl at *
  generalize SZ n (4 * l) = Sl at *
  generalize CZ n (4 * (k + l)) = Cx at *
  generalize SZ n (4 * (k + l)) = Sx at *
  generalize CZ n (4 * (2 * k)) = Ct at *
  obtain ⟨ac, hac, uac⟩ := mulS_unit ua uc
  obtain ⟨bd, hbd, ubd⟩ := mulS_unit ub ud
  obtain ⟨bc, hbc, ubc⟩ := mulS_unit ub uc
  obtain ⟨ad, had, uad⟩ := mulS_unit ua ud
  obtain ⟨aa, haa, uaa⟩ := mulS_unit ua ua
  have eac := enc_prod ea ec hac
  have ebd := enc_prod eb ed hbd
  have ebc := enc_prod eb ec hbc
  have ead := enc_prod ea ed had
  have eaa := enc_prod ea ea haa
  unfold Unit1 at uac ubd ubc uad uaa
  have hu := subS_some (a := ac) (b := bd) (by omega) (by omega)
  have hv := addS_some (a := bc) (b := ad) (by omega) (by omega)
  have h2a := addS_some (a := aa) (b := aa) (by omega) (by omega)
  have hle := subS_some (a := ⟨aa.lo + aa.lo, aa.hi + aa.hi⟩) (b := ⟨1000000, 1000000⟩) (by simp only; omega) (by simp only; omega)
  have eu := eac.sub ebd hu
  have ev := ebc.add ead hv
  have e2a := eaa.add eaa h2a
  have eone : Enc ⟨1000000, 1000000⟩ (18446744073709551616 * 18446744073709551616 * 1000000) (18446744073709551616 * 18446744073709551616) := by unfold Enc; simp only; omega
  have el := e2a.sub eone hle
  have ex' := Enc.scale (c := 18446744073709551616) (by decide) ex
  have ey' := Enc.scale (c := 18446744073709551616) (by decide) ey
  have et' := Enc.scale (c := 18446744073709551616) (by decide) et
  have c1 : commonB (⟨ac.lo - bd.hi, ac.hi - bd.lo⟩ : Span) x = true := by
    rw [commonB_iff]
    refine Enc.common (by decide) eu ex' ?_
    have q := s1.2
    unfold Abs at q ⊢
    omega
  have c2 : commonB (⟨bc.lo + ad.lo, bc.hi + ad.hi⟩ : Span) y = true := by
    rw [commonB_iff]
    refine Enc.common (by decide) ev ey' ?_
    have q := s1.1
    unfold Abs at q ⊢
    omega
  have c3 : commonB t (⟨aa.lo + aa.lo - 1000000, aa.hi + aa.hi - 1000000⟩ : Span) = true := by
    rw [commonB_iff]
    refine Enc.common (by decide) et' el ?_
    unfold Abs at s2 s3 ⊢
    omega
  unfold lsums1 lsums2 lsums3
  simp only [hac, hbd, hbc, had, haa, hu, hv, h2a, hle, c1, c2, c3, tw]
  rfl

end Go.Ev
