/-
  The law SineCircle as a plain function: enclosures of cosines and sines lie on the circle. No program here.
-/
import Derived.Test.YthnfmabjjndhhaaSinAll
namespace Go.Ev
open Go

/-- The answers of a law. -/
def yes (K : AV → List Blk → Ans) : Ans := K (rB true) []
def nay (K : AV → List Blk → Ans) : Ans := K (rB false) []

section
variable (K : AV → List Blk → Ans)

def circleLast (c s : Span) (whole a b : Bool) : Ans := bif a == b then (bif whole then yes K else bif decide (c.lo < c.hi) then (bif decide (s.lo < s.hi) then yes K else nay K) else nay K) else nay K
def circleBoth (c s : Span) (n : Int) (whole four : Bool) (a : Bool) : Ans := bif whole then (bif n == 0 then none else bif n == 0 then none else circleLast K c s whole a four) else circleLast K c s whole a false
def circleEnd (c s : Span) (n : Int) (whole four : Bool) : Ans := bif c.lo == c.hi then circleBoth K c s n whole four (s.lo == s.hi) else circleBoth K c s n whole four false

def circle5 (c s : Span) (k n : Int) : Ans :=
  bif n == 0 then none else bif n == 0 then none else circleEnd K c s n ((w64 (12 * k.tmod n)).tmod n == 0) ((w64 (4 * k.tmod n)).tmod n == 0)

def circle4 (c s : Span) (k n : Int) : Ans :=
  bif n.tmod 4 == 0 then (bif (sinS (w64 (k + w64 (n.tdiv 4))) n).2 != 0 then nay K else bif !(eqAll (sinS (w64 (k + w64 (n.tdiv 4))) n).1.cells c.cells) then nay K else circle5 K c s k n) else circle5 K c s k n

def circle3 (c s : Span) (k n : Int) : Ans :=
  bif n.tmod 2 == 0 then (bif (cosS (w64 (k + w64 (n.tdiv 2))) n).2 != 0 then nay K else bif !(eqAll (cosS (w64 (k + w64 (n.tdiv 2))) n).1.cells (negRaw c).cells) then nay K else circle4 K c s k n) else circle4 K c s k n

def circle2 (c s : Span) (k n : Int) : Ans :=
  bif (mulS c c).2 != 0 then nay K else bif (mulS s s).2 != 0 then nay K else bif (addS (mulS c c).1 (mulS s s).1).2 != 0 then nay K else
  bif decide (1000000 < (addS (mulS c c).1 (mulS s s).1).1.lo) then nay K else bif decide ((addS (mulS c c).1 (mulS s s).1).1.hi < 1000000) then nay K else
  bif (cosS (w64 (k + n)) n).2 != 0 then nay K else bif !(eqAll (cosS (w64 (k + n)) n).1.cells c.cells) then nay K else
  bif (sinS (w64 (0 - k)) n).2 != 0 then nay K else bif !(eqAll (sinS (w64 (0 - k)) n).1.cells (negRaw s).cells) then nay K else circle3 K c s k n

def circle1 (c s : Span) (ce se k n : Int) : Ans :=
  bif ce != 0 then nay K else bif se != 0 then nay K else bif decide (1 < w64 (c.hi - c.lo)) then nay K else bif decide (c.hi < c.lo) then nay K else
  bif decide (1 < w64 (s.hi - s.lo)) then nay K else bif decide (s.hi < s.lo) then nay K else bif decide (c.lo < -1000000) then nay K else bif decide (1000000 < c.hi) then nay K else
  bif decide (s.lo < -1000000) then nay K else bif decide (1000000 < s.hi) then nay K else circle2 K c s k n

def lawSineCircle (k n : Int) : Ans :=
  bif decide (n < 1) then yes K else bif decide (720 < n) then yes K else bif decide (k < -1000000) then yes K else bif decide (1000000 < k) then yes K else
  circle1 K (cosS k n).1 (sinS k n).1 (cosS k n).2 (sinS k n).2 k n
end

/-! ### What is true of the enclosures -/

/-- An enclosure of a sine or a cosine in some quarter: one of the first quarter, or its opposite. -/
structure Near (a r : Span) : Prop where
  is : a = r ∨ a = negS r

theorem max_sq {x y : Int} (h : 0 ≤ x ∧ x ≤ y) : min4 (x * x) (x * y) (y * x) (y * y) = x * x ∧ max4 (x * x) (x * y) (y * x) (y * y) = y * y := by
  have h1 : x * x ≤ x * y := Int.mul_le_mul_of_nonneg_left h.2 h.1
  have h2 : x * y ≤ y * y := Int.mul_le_mul_of_nonneg_right h.2 (by omega)
  have h3 : y * x = x * y := Int.mul_comm _ _
  unfold min4 max4
  rw [h3]
  constructor
  · repeat' split
    all_goals omega
  · repeat' split
    all_goals omega

theorem max_sq' {x y : Int} (h : 0 ≤ x ∧ x ≤ y) : min4 (y * y) (y * x) (x * y) (x * x) = x * x ∧ max4 (y * y) (y * x) (x * y) (x * x) = y * y := by
  have h1 : x * x ≤ x * y := Int.mul_le_mul_of_nonneg_left h.2 h.1
  have h2 : x * y ≤ y * y := Int.mul_le_mul_of_nonneg_right h.2 (by omega)
  have h3 : y * x = x * y := Int.mul_comm _ _
  unfold min4 max4
  rw [h3]
  constructor
  · repeat' split
    all_goals omega
  · repeat' split
    all_goals omega

theorem sq_le {x : Int} (h : 0 ≤ x ∧ x ≤ 1000000) : 0 ≤ x * x ∧ x * x ≤ 1000000000000 := by
  have h1 : 0 ≤ x * x := Int.mul_nonneg h.1 h.1
  have h2 : x * x ≤ 1000000 * 1000000 := Int.mul_le_mul h.2 h.2 h.1 (by omega)
  omega

theorem mulS_near {a r : Span} (h : Near a r) (hr : 0 ≤ r.lo ∧ r.lo ≤ r.hi ∧ r.hi ≤ 1000000) : mulS a a = (⟨r.lo * r.lo / 1000000, (r.hi * r.hi + 999999) / 1000000⟩, 0) := by
  have e1 := max_sq (x := r.lo) (y := r.hi) ⟨hr.1, hr.2.1⟩
  have e2 := max_sq' (x := r.lo) (y := r.hi) ⟨hr.1, hr.2.1⟩
  have s1 := sq_le (x := r.lo) (by omega)
  have s2 := sq_le (x := r.hi) (by omega)
  have s3 : r.lo * r.lo ≤ r.hi * r.hi := Int.mul_le_mul hr.2.1 hr.2.1 hr.1 (by omega)
  have fin : rangedS ⟨r.lo * r.lo / 1000000, -(-(r.hi * r.hi) / 1000000)⟩ = (⟨r.lo * r.lo / 1000000, (r.hi * r.hi + 999999) / 1000000⟩, 0) := by
    have e : -(-(r.hi * r.hi) / 1000000) = (r.hi * r.hi + 999999) / 1000000 := by omega
    rw [e]
    unfold rangedS
    have hv : spanValid ⟨r.lo * r.lo / 1000000, (r.hi * r.hi + 999999) / 1000000⟩ = true := by
      rw [spanValid_iff]
      simp only
      omega
    rw [hv]
    rfl
  rcases h.is with rfl | rfl
  · have hv : spanValid a = true := by rw [spanValid_iff]; omega
    unfold mulS
    rw [hv, e1.1, e1.2]
    exact fin
  · have hv : spanValid (negS r) = true := by rw [spanValid_iff]; simp only [negS]; omega
    unfold mulS
    rw [hv]
    simp only [negS, Int.neg_mul_neg]
    rw [e2.1, e2.2]
    exact fin

theorem Near.range {a r : Span} (h : Near a r) (hr : 0 ≤ r.lo ∧ r.lo ≤ r.hi ∧ r.hi ≤ 1000000 ∧ r.hi ≤ r.lo + 1) : -1000000 ≤ a.lo ∧ a.lo ≤ a.hi ∧ a.hi ≤ 1000000 ∧ a.hi ≤ a.lo + 1 := by
  rcases h.is with rfl | rfl
  · omega
  · simp only [negS]; omega

theorem Near.thin {a r : Span} (h : Near a r) : a.lo = a.hi ↔ r.lo = r.hi := by
  rcases h.is with rfl | rfl
  · exact Iff.rfl
  · simp only [negS]; omega

theorem riseI_thin {w n : Int} : (riseI w n).lo = (riseI w n).hi ↔ w = 0 ∨ w = n ∨ 3 * w = n := by
  unfold riseI
  by_cases h0 : w = 0
  · simp [h0]
  by_cases h1 : w = n
  · rw [show (w == 0) = false by simpa using h0, show (w == n) = true by simpa using h1]
    simp [h1]
  by_cases h2 : 3 * w = n
  · rw [show (w == 0) = false by simpa using h0, show (w == n) = false by simpa using h1, show (3 * w == n) = true by simpa using h2]
    simp [h2]
  rw [show (w == 0) = false by simpa using h0, show (w == n) = false by simpa using h1, show (3 * w == n) = false by simpa using h2]
  simp only [cond_false, h0, h1, h2, or_self, iff_false]
  omega

theorem riseI_zero (n : Int) : riseI 0 n = ⟨0, 0⟩ := rfl
theorem riseI_neg0 (n : Int) : negS (riseI 0 n) = riseI 0 n := rfl

/-- A cosine and a sine: in some quarter, with w of n parts of it behind its begin. -/
theorem turn_pair {n : Int} (hn : 0 < n) (u : Int) : ∃ w m, 0 ≤ w ∧ w < n ∧ u = w + n * m ∧ ((Near (turnS u n) (riseI w n) ∧ Near (turnS (u + n) n) (riseI (n - w) n)) ∨ (Near (turnS u n) (riseI (n - w) n) ∧ Near (turnS (u + n) n) (riseI w n))) := by
  have h0 := riseI_neg0 n
  rw [turnS_quad, turnS_quad]
  obtain ⟨w, k, h1, h2, h | h | h | h⟩ := quad_cases hn u
  · refine ⟨w, 4 * k, h1, h2, by rw [h, Int.mul_assoc, Int.mul_left_comm n 4 k], .inl ⟨⟨.inl ((quad_val ⟨h1, h2⟩).1 h)⟩, ⟨.inl ((quad_val (k := k) ⟨h1, h2⟩).2.1 (by omega))⟩⟩⟩
  · refine ⟨w, 1 + 4 * k, h1, h2, by rw [h, Int.mul_add, Int.mul_assoc, Int.mul_left_comm n 4 k]; omega, .inr ⟨⟨.inl ((quad_val ⟨h1, h2⟩).2.1 h)⟩, ⟨.inr ((quad_val (k := k) ⟨h1, h2⟩).2.2.1 (by omega))⟩⟩⟩
  · refine ⟨w, 2 + 4 * k, h1, h2, by rw [h, Int.mul_add, Int.mul_assoc, Int.mul_left_comm n 4 k]; omega, .inl ⟨⟨.inr ((quad_val ⟨h1, h2⟩).2.2.1 h)⟩, ⟨.inr ((quad_val (k := k) ⟨h1, h2⟩).2.2.2 (by omega))⟩⟩⟩
  · refine ⟨w, 3 + 4 * k, h1, h2, by rw [h, Int.mul_add, Int.mul_assoc, Int.mul_left_comm n 4 k]; omega, .inr ⟨⟨.inr ((quad_val ⟨h1, h2⟩).2.2.2 h)⟩, ⟨.inl ((quad_val (k := k + 1) ⟨h1, h2⟩).1 (by rw [Int.mul_add]; omega))⟩⟩⟩

theorem cosS_of {k n : Int} (hn : 1 ≤ n ∧ n ≤ 720) : cosS k n = (turnS (4 * k + n) n, 0) := by
  unfold cosS
  rw [decide_eq_false (by omega), decide_eq_false (by omega)]
  rfl
theorem sinS_of {k n : Int} (hn : 1 ≤ n ∧ n ≤ 720) : sinS k n = (turnS (4 * k) n, 0) := by
  unfold sinS
  rw [decide_eq_false (by omega), decide_eq_false (by omega)]
  rfl

theorem negRaw_small {a : Span} (h : -1000000 ≤ a.lo ∧ a.lo ≤ a.hi ∧ a.hi ≤ 1000000) : negRaw a = negS a := by
  unfold negRaw negS
  rw [w64_id (n := 0 - a.hi) (by omega), w64_id (n := 0 - a.lo) (by omega)]
  congr 1 <;> omega

theorem eqAll_true (l : List D) : (!(eqAll l l)) = false := by rw [eqAll_self]; rfl

theorem circle5_ok {K : AV → List Blk → Ans} {c s : Span} {k n w : Int} (hn : 1 ≤ n ∧ n ≤ 720) (hw : 0 ≤ w ∧ w < n) {m : Int} (hu : 4 * k = w + n * m) (hr : c.lo ≤ c.hi) (hr' : s.lo ≤ s.hi)
    (h : (c.lo = c.hi ↔ n - w = 0 ∨ n - w = n ∨ 3 * (n - w) = n) ∧ (s.lo = s.hi ↔ w = 0 ∨ w = n ∨ 3 * w = n) ∨ (s.lo = s.hi ↔ n - w = 0 ∨ n - w = n ∨ 3 * (n - w) = n) ∧ (c.lo = c.hi ↔ w = 0 ∨ w = n ∨ 3 * w = n)) : circle5 K c s k n = yes K := by
  have hne : (n == 0) = false := by simp; omega
  have ht := tmod_range (k := k) (n := n) (by omega)
  have ek := Int.tmod_add_mul_tdiv k n
  have e4 : 4 * k.tmod n = w + n * (m - 4 * k.tdiv n) := by rw [Int.mul_sub, Int.mul_left_comm n 4]; omega
  have e12 : 12 * k.tmod n = 3 * w + n * (3 * (m - 4 * k.tdiv n)) := by rw [Int.mul_left_comm n 3]; omega
  have dv4 : (4 * k.tmod n).tmod n = 0 ↔ w = 0 := by
    rw [← Int.dvd_iff_tmod_eq_zero, e4]
    constructor
    · intro hd
      have h2 : n ∣ w := (Int.dvd_add_left (Int.dvd_mul_right n _)).1 hd
      have h3 := Int.emod_eq_zero_of_dvd h2
      rwa [Int.emod_eq_of_lt hw.1 hw.2] at h3
    · intro e
      rw [e, Int.zero_add]
      exact Int.dvd_mul_right _ _
  have dv12 : (12 * k.tmod n).tmod n = 0 ↔ w = 0 ∨ 3 * w = n ∨ 3 * w = 2 * n := by
    rw [← Int.dvd_iff_tmod_eq_zero, e12]
    constructor
    · intro hd
      obtain ⟨q, hq⟩ : n ∣ 3 * w := (Int.dvd_add_left (Int.dvd_mul_right n _)).1 hd
      have q0 : 0 ≤ q := by
        rcases Int.lt_or_le q 0 with hneg | hneg
        · have : n * q ≤ n * (-1) := Int.mul_le_mul_of_nonneg_left (by omega) (by omega)
          omega
        · exact hneg
      have q3 : q < 3 := by
        rcases Int.lt_or_le q 3 with hlt | hge
        · exact hlt
        · have : n * 3 ≤ n * q := Int.mul_le_mul_of_nonneg_left hge (by omega)
          omega
      have : q = 0 ∨ q = 1 ∨ q = 2 := by omega
      rcases this with rfl | rfl | rfl <;> omega
    · intro e
      rcases e with e | e | e
      · rw [e]; exact ⟨3 * (m - 4 * k.tdiv n), by omega⟩
      · rw [e]; exact ⟨1 + 3 * (m - 4 * k.tdiv n), by rw [Int.mul_add]; omega⟩
      · rw [e]; exact ⟨2 + 3 * (m - 4 * k.tdiv n), by rw [Int.mul_add]; omega⟩
  unfold circle5
  rw [hne, w64_id (n := 12 * k.tmod n) (by omega), w64_id (n := 4 * k.tmod n) (by omega)]
  simp only [cond_false]
  have b12 : ((12 * k.tmod n).tmod n == 0) = decide (w = 0 ∨ 3 * w = n ∨ 3 * w = 2 * n) := by
    rw [Bool.eq_iff_iff]
    simp only [beq_iff_eq, decide_eq_true_eq]
    exact dv12
  have b4 : ((4 * k.tmod n).tmod n == 0) = decide (w = 0) := by
    rw [Bool.eq_iff_iff]
    simp only [beq_iff_eq, decide_eq_true_eq]
    exact dv4
  rw [b12, b4]
  have bc : (c.lo == c.hi) = decide (c.lo = c.hi) := by rw [Bool.eq_iff_iff]; simp
  have bs : (s.lo == s.hi) = decide (s.lo = s.hi) := by rw [Bool.eq_iff_iff]; simp
  unfold circleEnd circleBoth circleLast
  rw [hne, bc, bs]
  by_cases w0 : w = 0
  · have : c.lo = c.hi ∧ s.lo = s.hi := by omega
    simp [w0, this.1, this.2]
  · by_cases w1 : 3 * w = n ∨ 3 * w = 2 * n
    · have hd : decide (w = 0 ∨ 3 * w = n ∨ 3 * w = 2 * n) = true := decide_eq_true (.inr w1)
      rw [hd, decide_eq_false w0]
      by_cases hc : c.lo = c.hi
      · have : s.lo ≠ s.hi := by omega
        simp [hc, this]
      · simp [hc]
    · have hd : decide (w = 0 ∨ 3 * w = n ∨ 3 * w = 2 * n) = false := decide_eq_false (by omega)
      have : c.lo < c.hi ∧ s.lo < s.hi := by omega
      have c1 : c.lo ≠ c.hi := by omega
      rw [hd]
      simp [this.1, this.2, c1]

theorem lawSineCircle_ok {K : AV → List Blk → Ans} {k n : Int} : lawSineCircle K k n = yes K := by
  unfold lawSineCircle
  by_cases h1 : n < 1
  · rw [decide_eq_true h1]; rfl
  by_cases h2 : 720 < n
  · rw [decide_eq_false h1, decide_eq_true h2]; rfl
  by_cases h3 : k < -1000000
  · rw [decide_eq_false h1, decide_eq_false h2, decide_eq_true h3]; rfl
  by_cases h4 : 1000000 < k
  · rw [decide_eq_false h1, decide_eq_false h2, decide_eq_false h3, decide_eq_true h4]; rfl
  rw [decide_eq_false h1, decide_eq_false h2, decide_eq_false h3, decide_eq_false h4, cosS_of (by omega), sinS_of (by omega)]
  simp only [cond_false]
  obtain ⟨w, m, w1, w2, hu, hp⟩ := turn_pair (n := n) (by omega) (4 * k)
  have o1 : riseOn w n = true := by simp only [riseOn, Bool.and_eq_true, decide_eq_true_eq]; omega
  have o2 : riseOn (n - w) n = true := by simp only [riseOn, Bool.and_eq_true, decide_eq_true_eq]; omega
  have r1 := riseI_range o1
  have r2 := riseI_range o2
  have ok := riseOk (w := w) (n := n) (by omega) (by omega)
  -- what all cases come to
  have key : ∀ c s : Span, c = turnS (4 * k + n) n → s = turnS (4 * k) n → circle1 K c s 0 0 k n = yes K := by
    intro c s ec es
    rw [← ec, ← es] at hp
    have cr : -1000000 ≤ c.lo ∧ c.lo ≤ c.hi ∧ c.hi ≤ 1000000 ∧ c.hi ≤ c.lo + 1 := by
      rcases hp with ⟨_, hc⟩ | ⟨_, hc⟩
      · exact hc.range r2
      · exact hc.range r1
    have sr : -1000000 ≤ s.lo ∧ s.lo ≤ s.hi ∧ s.hi ≤ 1000000 ∧ s.hi ≤ s.lo + 1 := by
      rcases hp with ⟨hs, _⟩ | ⟨hs, _⟩
      · exact hs.range r1
      · exact hs.range r2
    have sum : (mulS c c).2 = 0 ∧ (mulS s s).2 = 0 ∧ (addS (mulS c c).1 (mulS s s).1).2 = 0 ∧ (addS (mulS c c).1 (mulS s s).1).1.lo ≤ 1000000 ∧ 1000000 ≤ (addS (mulS c c).1 (mulS s s).1).1.hi := by
      have q1 := sq_le (x := (riseI w n).lo) (by omega)
      have q2 := sq_le (x := (riseI w n).hi) (by omega)
      have q3 := sq_le (x := (riseI (n - w) n).lo) (by omega)
      have q4 := sq_le (x := (riseI (n - w) n).hi) (by omega)
      have q5 : (riseI w n).lo * (riseI w n).lo ≤ (riseI w n).hi * (riseI w n).hi := Int.mul_le_mul r1.2.1 r1.2.1 r1.1 (by omega)
      have q6 : (riseI (n - w) n).lo * (riseI (n - w) n).lo ≤ (riseI (n - w) n).hi * (riseI (n - w) n).hi := Int.mul_le_mul r2.2.1 r2.2.1 r2.1 (by omega)
      have lo := ok.low
      have hi := ok.high
      have add : ∀ a b x y : Int, 0 ≤ a → a ≤ x → x ≤ 2000000 → 0 ≤ b → b ≤ y → y ≤ 2000000 → addS ⟨a, x⟩ ⟨b, y⟩ = (⟨a + b, x + y⟩, 0) := by
        intro a b x y h1 h2 h3 h4 h5 h6
        have v1 : spanValid ⟨a, x⟩ = true := by rw [spanValid_iff]; simp only; omega
        have v2 : spanValid ⟨b, y⟩ = true := by rw [spanValid_iff]; simp only; omega
        have v3 : spanValid ⟨a + b, x + y⟩ = true := by rw [spanValid_iff]; simp only; omega
        unfold addS rangedS
        rw [v1, v2]
        simp only [Bool.and_self, cond_true]
        rw [v3]
        rfl
      rcases hp with ⟨hs, hc⟩ | ⟨hs, hc⟩
      · rw [mulS_near hs (by omega), mulS_near hc (by omega)]
        simp only
        rw [add _ _ _ _ (by omega) (by omega) (by omega) (by omega) (by omega) (by omega)]
        refine ⟨trivial, trivial, rfl, ?_, ?_⟩
        · show _ + _ ≤ (1000000 : Int)
          omega
        · show (1000000 : Int) ≤ _ + _
          omega
      · rw [mulS_near hs (by omega), mulS_near hc (by omega)]
        simp only
        rw [add _ _ _ _ (by omega) (by omega) (by omega) (by omega) (by omega) (by omega)]
        refine ⟨trivial, trivial, rfl, ?_, ?_⟩
        · show _ + _ ≤ (1000000 : Int)
          omega
        · show (1000000 : Int) ≤ _ + _
          omega
    have more : cosS (w64 (k + n)) n = (c, 0) := by
      rw [w64_id (by omega), cosS_of (by omega), ec, turnS_quad, turnS_quad, show 4 * (k + n) + n = (4 * k + n) + 4 * n * 1 by omega, quad_whole]
    have back : sinS (w64 (0 - k)) n = (negS s, 0) := by
      rw [w64_id (by omega), sinS_of (by omega), es, turnS_quad, turnS_quad, show 4 * (0 - k) = -(4 * k) by omega, quad_neg (r := fun w => riseI w n) (riseI_neg0 n) (by omega)]
    have nc := negRaw_small (a := c) (by omega)
    have ns := negRaw_small (a := s) (by omega)
    have five : circle5 K c s k n = yes K := by
      refine circle5_ok (by omega) ⟨w1, w2⟩ hu (by omega) (by omega) ?_
      rcases hp with ⟨hs, hc⟩ | ⟨hs, hc⟩
      · exact .inl ⟨hc.thin.trans riseI_thin, hs.thin.trans riseI_thin⟩
      · exact .inr ⟨hs.thin.trans riseI_thin, hc.thin.trans riseI_thin⟩
    have four : circle4 K c s k n = yes K := by
      unfold circle4
      by_cases hq : n.tmod 4 = 0
      · have e4 := Int.tmod_add_mul_tdiv n 4
        rw [show (n.tmod 4 == 0) = true by simpa using hq, w64_id (n := n.tdiv 4) (by omega), w64_id (by omega), sinS_of (by omega), show 4 * (k + n.tdiv 4) = 4 * k + n by omega, ← ec, eqAll_true, five]
        rfl
      · rw [show (n.tmod 4 == 0) = false by simpa using hq, five]
        rfl
    have three : circle3 K c s k n = yes K := by
      unfold circle3
      by_cases hq : n.tmod 2 = 0
      · have e2 := Int.tmod_add_mul_tdiv n 2
        rw [show (n.tmod 2 == 0) = true by simpa using hq, w64_id (n := n.tdiv 2) (by omega), w64_id (by omega), cosS_of (by omega), show 4 * (k + n.tdiv 2) + n = (4 * k + n) + 2 * n by omega, turnS_quad, quad_half (by omega), ← turnS_quad, ← ec, nc, eqAll_true, four]
        rfl
      · rw [show (n.tmod 2 == 0) = false by simpa using hq, four]
        rfl
    unfold circle1 circle2
    rw [w64_id (n := c.hi - c.lo) (by omega), w64_id (n := s.hi - s.lo) (by omega), decide_eq_false (show ¬ 1 < c.hi - c.lo by omega), decide_eq_false (show ¬ c.hi < c.lo by omega), decide_eq_false (show ¬ 1 < s.hi - s.lo by omega), decide_eq_false (show ¬ s.hi < s.lo by omega),
      decide_eq_false (show ¬ c.lo < -1000000 by omega), decide_eq_false (show ¬ 1000000 < c.hi by omega), decide_eq_false (show ¬ s.lo < -1000000 by omega), decide_eq_false (show ¬ 1000000 < s.hi by omega),
      sum.1, sum.2.1, sum.2.2.1, decide_eq_false (Int.not_lt.2 sum.2.2.2.1), decide_eq_false (Int.not_lt.2 sum.2.2.2.2), more, back, ns, eqAll_true, eqAll_true, three]
    rfl
  exact key _ _ rfl rfl

end Go.Ev
