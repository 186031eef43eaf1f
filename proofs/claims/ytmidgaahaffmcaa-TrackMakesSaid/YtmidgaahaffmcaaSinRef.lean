/-
  Sines by series, as the reference adds them up. No program here.
-/
import Derived.Test.YtmidgaahaffmcaaSin
namespace Go.Ev
open Go

def timesI (x y : Int) : Int := x * y / 100000000000000000 % 9223372036854775808

theorem u64_mul {x y : Int} (hx : 0 ≤ x ∧ x ≤ 18446744073709551615) (hy : 0 ≤ y ∧ y ≤ 18446744073709551615) : 0 ≤ x * y ∧ x * y < 340282366920938463463374607431768211456 := by
  have h1 : 0 ≤ x * y := Int.mul_nonneg hx.1 hy.1
  have h2 : x * y ≤ 18446744073709551615 * 18446744073709551615 := Int.mul_le_mul hx.2 hy.2 hy.1 (by omega)
  omega

theorem overOn_bigOf {v n : Int} (hv : 0 ≤ v ∧ v < 340282366920938463463374607431768211456) (hn : 0 < n ∧ n < 4611686018427387904) : overOn (bigOf v) n = true := by
  unfold overOn
  rw [bigOk_bigOf hv]
  simp [hn.1, hn.2]

/-- The product over the scale, as the reference takes it. -/
def overSmall (v n : Int) : Int := wu64 (smallRaw (overI (valOf (bigOf v)) n).1).1

theorem overSmall_ok {v n : Int} (hv : 0 ≤ v) (hn : 0 < n) : overSmall v n = v / n % 9223372036854775808 := by
  unfold overSmall
  rw [valOf_bigOf]
  unfold overI
  simp only
  rw [smallRaw_ok (Int.ediv_nonneg hv (by omega))]
  unfold smallI
  simp only
  exact wu64_id (by omega)

theorem times_ok {K : AV → List Blk → Ans} {x y : Int} (hx : 0 ≤ x ∧ x ≤ 18446744073709551615) (hy : 0 ≤ y ∧ y ≤ 18446744073709551615) :
    (bif overOn (bigOf (x * y)) 100000000000000000 then K (rU (overSmall (x * y) 100000000000000000)) [] else none) = K (rU (timesI x y)) [] := by
  have h := u64_mul hx hy
  rw [overOn_bigOf h (by omega), overSmall_ok h.1 (by omega)]
  rfl

def serI : Nat → Int → Int → Int → Int → Bool → Int
  | 0, sum, _, _, _, _ => sum
  | f + 1, sum, t, sq, k, p => serI f (bif p then wu64 (sum - wu64 ((timesI t sq).tdiv (wu64 (k * wu64 (k + 1))))) else wu64 (sum + wu64 ((timesI t sq).tdiv (wu64 (k * wu64 (k + 1)))))) (wu64 ((timesI t sq).tdiv (wu64 (k * wu64 (k + 1))))) sq (wu64 (k + 2)) (!p)

section
variable {P : Program} {G : Nat → Option (List D)} {gb : Nat} {EQ : List Nat} {Γ : Nat → List AV → List Blk → (AV → List Blk → Ans) → Ans} {X : Nat → List AV → (AV → Ans) → Ans}

/-- One term of the reference's series. -/
def termI (t sq k : Int) : Int := wu64 ((timesI t sq).tdiv (wu64 (k * wu64 (k + 1))))

theorem ref_rounds (hΓ : GOK P G gb Γ X) (hEQ : ∀ t, t ∈ EQ → EqOK P t) (hm : P.follows .mixedOrders = true) {c : Code} {e fuel NN : Nat} {M : List Blk} {keep : List Nat} (TT : Int → Int → Int → Int → TS) (T1 : Int → TS) (sq : Int)
    (hless : ∀ s t k i, Less (T1 s) (TT s t k i))
    (hb : ∀ s t k i : Int, evCode P G EQ Γ X noL fuel c (TT s t k i) M NN (fun x T M N => some (.st x (forget keep T) M N)) =
      bif decide (i < 12) then (bif wu64 (k * wu64 (k + 1)) == 0 then none else bif i.tmod 2 == 0 then some (.st .normal (TT (wu64 (s - termI t sq k)) (termI t sq k) (wu64 (k + 2)) (wu64 (i + 1))) M NN) else some (.st .normal (TT (wu64 (s + termI t sq k)) (termI t sq k) (wu64 (k + 2)) (wu64 (i + 1))) M NN))
      else some (.st (.exit e) (TT s t k i) M NN)) :
    ∀ (f : Nat) (s t k i : Int), i = 12 - f → f ≤ 12 → 1 ≤ k → k + 2 * f ≤ 100 → ∃ r, RoundsOK P G gb c r (TT s t k i) M NN (.exit e) (T1 (serI f s t sq k (i.tmod 2 == 0))) M NN := by
  intro f
  induction f with
  | zero =>
    intro s t k i hi _ _ _
    have h := hb s t k i
    rw [decide_eq_false (by omega), cond_false] at h
    exact ⟨1, (RoundsOK.fin (Λ := noL) hΓ hEQ hm (noL_ok _) h).weak (hless _ _ _ _)⟩
  | succ f ih =>
    intro s t k i hi hf hk hk2
    have h := hb s t k i
    have hkk : 0 < k * (k + 1) := Int.mul_pos (by omega) (by omega)
    have hkk2 : k * (k + 1) ≤ 100 * 101 := Int.mul_le_mul (by omega) (by omega) (by omega) (by omega)
    have e0 : (wu64 (k * wu64 (k + 1)) == 0) = false := by
      rw [wu64_id (n := k + 1) (by omega), wu64_id (by omega)]
      simp
      omega
    rw [decide_eq_true (by omega), cond_true, e0, cond_false, wu64_id (n := i + 1) (by omega)] at h
    have e1 : ((i + 1).tmod 2 == 0) = !(i.tmod 2 == 0) := by
      rw [Int.tmod_eq_emod_of_nonneg (by omega), Int.tmod_eq_emod_of_nonneg (by omega)]
      rcases Int.emod_two_eq i with e | e
      · rw [show (i + 1) % 2 = 1 by omega, e]; rfl
      · rw [show (i + 1) % 2 = 0 by omega, e]; rfl
    have e2 : wu64 (k + 2) = k + 2 := wu64_id (by omega)
    cases hp : i.tmod 2 == 0 with
    | true =>
      rw [hp, cond_true] at h
      obtain ⟨r, hr⟩ := ih (wu64 (s - termI t sq k)) (termI t sq k) (wu64 (k + 2)) (i + 1) (by omega) (by omega) (by omega) (by omega)
      rw [e1, hp] at hr
      exact ⟨r + 1, RoundsOK.go (Λ := noL) hΓ hEQ hm (noL_ok _) h hr⟩
    | false =>
      rw [hp, cond_false] at h
      obtain ⟨r, hr⟩ := ih (wu64 (s + termI t sq k)) (termI t sq k) (wu64 (k + 2)) (i + 1) (by omega) (by omega) (by omega) (by omega)
      rw [e1, hp] at hr
      exact ⟨r + 1, RoundsOK.go (Λ := noL) hΓ hEQ hm (noL_ok _) h hr⟩
end

def serOn (k : Int) : Bool := decide (1 ≤ k) && decide (k ≤ 50)
def seriesDom (l : List Int) : Bool := match l with | [_, _, _, k, i] => serOn k && i == 0 | _ => false
def seriesFin (l : List Int) : List Int := match l with | [s, t, sq, k, _] => [serI 12 s t sq k true] | _ => []

def cosSer (x : Int) : Int := serI 12 100000000000000000 100000000000000000 (timesI x x) 1 true
def sinSer (x : Int) : Int := serI 12 x x (timesI x x) 2 true

def partI (k n : Int) : Int := 628318530717958648 * k / n

def eighthAns (K : AV → List Blk → Ans) (k n : Int) : Ans :=
  bif overOn (bigOf (628318530717958648 * k)) n then K (rUU (cosSer (overSmall (628318530717958648 * k) n), sinSer (overSmall (628318530717958648 * k) n))) [] else none

def eighthOn (k n : Int) : Bool := decide (0 ≤ k) && (decide (8 * k ≤ n) && (decide (1 ≤ n) && decide (n ≤ 100000)))

theorem partI_range {k n : Int} (h : eighthOn k n = true) : 0 ≤ partI k n ∧ partI k n ≤ 78539816339744831 := by
  simp only [eighthOn, Bool.and_eq_true, decide_eq_true_eq] at h
  unfold partI
  refine ⟨Int.ediv_nonneg (by omega) (by omega), ?_⟩
  have : 628318530717958648 * k / n < 78539816339744832 := Int.ediv_lt_of_lt_mul (by omega) (by omega)
  omega

theorem eighthAns_ok {K : AV → List Blk → Ans} {k n : Int} (h : eighthOn k n = true) : eighthAns K k n = K (rUU (cosSer (partI k n), sinSer (partI k n))) [] := by
  have hr := partI_range h
  simp only [eighthOn, Bool.and_eq_true, decide_eq_true_eq] at h
  unfold eighthAns
  rw [overOn_bigOf (by omega) (by omega), overSmall_ok (by omega) (by omega)]
  have e : 628318530717958648 * k / n % 9223372036854775808 = partI k n := by
    unfold partI at hr ⊢
    omega
  rw [e]
  rfl

def exactI (k n : Int) (s : Bool) : Bool := bif k == 0 then true else bif s then w64 (12 * k) == n else false

def stepTail (K : AV → List Blk → Ans) (c : Int) (whole : Bool) : Ans :=
  bif whole then K (rSpan ⟨w64 (wu64 ((wu64 (c + 50000000000)).tdiv 100000000000)), w64 (wu64 ((wu64 (c + 50000000000)).tdiv 100000000000))⟩) []
  else K (rSpan ⟨w64 (wu64 (c.tdiv 100000000000)), w64 (w64 (wu64 (c.tdiv 100000000000)) + 1)⟩) []

def quarterAns (K : AV → List Blk → Ans) (k n : Int) : Ans :=
  bif decide (w64 (8 * k) ≤ n) then (bif eighthOn (wu64 k) (wu64 n) then stepTail K (cosSer (partI (wu64 k) (wu64 n))) (exactI k n false) else none)
  else (bif eighthOn (wu64 (w64 (n - w64 (4 * k)))) (wu64 (w64 (4 * n))) then stepTail K (sinSer (partI (wu64 (w64 (n - w64 (4 * k)))) (wu64 (w64 (4 * n))))) (exactI (w64 (n - w64 (4 * k))) (w64 (4 * n)) true) else none)

def quarterOn (k n : Int) : Bool := decide (0 ≤ k) && (decide (4 * k ≤ n) && (decide (1 ≤ n) && decide (n ≤ 6000)))

def stepS (c : Int) (whole : Bool) : Span := bif whole then ⟨(c + 50000000000) / 100000000000, (c + 50000000000) / 100000000000⟩ else ⟨c / 100000000000, c / 100000000000 + 1⟩

theorem serI_range : ∀ (f : Nat) {s t sq k : Int} {p : Bool}, 0 ≤ s ∧ s ≤ 18446744073709551615 → 0 ≤ serI f s t sq k p ∧ serI f s t sq k p ≤ 18446744073709551615
  | 0, s, t, sq, k, p, h => h
  | f + 1, s, t, sq, k, p, h => by
    rw [serI]
    refine serI_range f ?_
    cases p
    · simp only [cond_false, wu64_eq]
      omega
    · simp only [cond_true, wu64_eq]
      omega

/-- Of a fraction w / n of a quarter: what the reference takes for its sine. -/
def refLo (w n : Int) : Int := bif decide (2 * (n - w) ≤ n) then cosSer (partI (n - w) (4 * n)) else sinSer (partI w (4 * n))
def refI (w n : Int) : Span := stepS (refLo w n) (bif decide (2 * (n - w) ≤ n) then n == w else (w == 0 || 3 * w == n))

theorem partI_scale {k n c : Int} (hc : 0 < c) : partI (c * k) (c * n) = partI k n := by
  unfold partI
  rw [← Int.mul_assoc, Int.mul_comm 628318530717958648 c, Int.mul_assoc, Int.mul_ediv_mul_of_pos _ _ hc]

theorem beq_congr {a b c d : Int} (h : a = b ↔ c = d) : (a == b) = (c == d) := by
  rw [Bool.eq_iff_iff]
  simpa using h

theorem stepTail_ok {K : AV → List Blk → Ans} {c : Int} {e : Bool} (h : 0 ≤ c ∧ c ≤ 18446744073709551615 - 50000000000) : stepTail K c e = K (rSpan (stepS c e)) [] := by
  unfold stepTail stepS
  rw [wu64_id (n := c + 50000000000) (by omega), Int.tdiv_eq_ediv_of_nonneg (by omega), Int.tdiv_eq_ediv_of_nonneg (by omega), wu64_id (n := (c + 50000000000) / 100000000000) (by omega), wu64_id (n := c / 100000000000) (by omega), w64_id (n := (c + 50000000000) / 100000000000) (by omega), w64_id (n := c / 100000000000) (by omega), w64_id (by omega)]
  cases e <;> rfl

/-- The reference's series stay small: the sum is at most the first term. -/
theorem serI_le : ∀ (f : Nat) {s t sq k : Int} {p : Bool}, 0 ≤ t → t ≤ 100000000000000000 → 0 ≤ sq ∧ sq ≤ 100000000000000000 → 1 ≤ k → k + 2 * f ≤ 100 → (if p then t ≤ s else 0 ≤ s) → s + (if p then 0 else t) ≤ 200000000000000000 → 0 ≤ serI f s t sq k p ∧ serI f s t sq k p ≤ s + (if p then 0 else t)
  | 0, s, t, sq, k, p, h0, _, _, _, _, h, _ => by
    rw [serI]
    cases p <;> simp at h ⊢ <;> omega
  | f + 1, s, t, sq, k, p, h0, h1, hq, hk, hk2, h, hs => by
    have hm : 0 ≤ t * sq := Int.mul_nonneg h0 hq.1
    have hm2 : t * sq ≤ t * 100000000000000000 := Int.mul_le_mul_of_nonneg_left hq.2 h0
    have hkk : 1 * 2 ≤ k * (k + 1) := Int.mul_le_mul (by omega) (by omega) (by omega) (by omega)
    have hkk2 : k * (k + 1) ≤ 100 * 101 := Int.mul_le_mul (by omega) (by omega) (by omega) (by omega)
    have et : timesI t sq = t * sq / 100000000000000000 := by unfold timesI; omega
    rw [serI, wu64_id (n := k + 1) (by omega), wu64_id (n := k * (k + 1)) (by omega), wu64_id (n := k + 2) (by omega), et, Int.tdiv_eq_ediv_of_nonneg (by omega)]
    have hd0 : 0 ≤ t * sq / 100000000000000000 / (k * (k + 1)) := Int.ediv_nonneg (by omega) (by omega)
    have hd1 : t * sq / 100000000000000000 / (k * (k + 1)) ≤ t := Int.le_trans (Int.ediv_le_self _ (by omega)) (by omega)
    rw [wu64_id (n := t * sq / 100000000000000000 / (k * (k + 1))) (by omega)]
    generalize t * sq / 100000000000000000 / (k * (k + 1)) = u at *
    cases p with
    | true =>
      simp only [if_true] at h hs
      simp only [cond_true, Bool.not_true]
      rw [wu64_id (n := s - u) (by omega)]
      have := serI_le f (s := s - u) (t := u) (sq := sq) (k := k + 2) (p := false) hd0 (by omega) hq (by omega) (by omega) (by simp; omega) (by simp; omega)
      simp at this ⊢
      omega
    | false =>
      simp at h hs
      simp only [cond_false, Bool.not_false]
      rw [wu64_id (n := s + u) (by omega)]
      have := serI_le f (s := s + u) (t := u) (sq := sq) (k := k + 2) (p := true) hd0 (by omega) hq (by omega) (by omega) (by simp; omega) (by simp; omega)
      simp at this ⊢
      omega


theorem cosSer_range {x : Int} (h : 0 ≤ x ∧ x ≤ 100000000000000000) : 0 ≤ cosSer x ∧ cosSer x ≤ 100000000000000000 := by
  have hm : 0 ≤ x * x := Int.mul_nonneg h.1 h.1
  have hm2 : x * x ≤ x * 100000000000000000 := Int.mul_le_mul_of_nonneg_left h.2 h.1
  have := serI_le 12 (s := 100000000000000000) (t := 100000000000000000) (sq := timesI x x) (k := 1) (p := true) (by omega) (by omega) (by unfold timesI; omega) (by omega) (by omega) (by simp) (by simp)
  unfold cosSer
  simpa using this

theorem sinSer_range {x : Int} (h : 0 ≤ x ∧ x ≤ 100000000000000000) : 0 ≤ sinSer x ∧ sinSer x ≤ x := by
  have hm : 0 ≤ x * x := Int.mul_nonneg h.1 h.1
  have hm2 : x * x ≤ x * 100000000000000000 := Int.mul_le_mul_of_nonneg_left h.2 h.1
  have := serI_le 12 (s := x) (t := x) (sq := timesI x x) (k := 2) (p := true) h.1 h.2 (by unfold timesI; omega) (by omega) (by omega) (by simp) (by simp; omega)
  unfold sinSer
  simpa using this

theorem quarterAns_ok {K : AV → List Blk → Ans} {k n : Int} (h : quarterOn k n = true) : quarterAns K k n = K (rSpan (refI (n - 4 * k) n)) [] := by
  simp only [quarterOn, Bool.and_eq_true, decide_eq_true_eq] at h
  obtain ⟨h1, h2, h3, h4⟩ := h
  unfold quarterAns refI refLo exactI
  rw [w64_id (n := 8 * k) (by omega), w64_id (n := 4 * k) (by omega), w64_id (n := n - 4 * k) (by omega), w64_id (n := 4 * n) (by omega), w64_id (n := 12 * (n - 4 * k)) (by omega), wu64_id (n := k) (by omega), wu64_id (n := n) (by omega), wu64_id (n := n - 4 * k) (by omega), wu64_id (n := 4 * n) (by omega),
    show n - (n - 4 * k) = 4 * k by omega]
  by_cases hc : 8 * k ≤ n
  · have ho : eighthOn k n = true := by simp only [eighthOn, Bool.and_eq_true, decide_eq_true_eq]; omega
    have hr := partI_range ho
    rw [decide_eq_true hc, decide_eq_true (show 2 * (4 * k) ≤ n by omega), ho, partI_scale (by omega)]
    simp only [cond_true]
    have hs := cosSer_range (x := partI k n) (by omega)
    rw [stepTail_ok (by omega), beq_congr (show n = n - 4 * k ↔ k = 0 by omega)]
    cases k == 0 <;> rfl
  · have ho : eighthOn (n - 4 * k) (4 * n) = true := by simp only [eighthOn, Bool.and_eq_true, decide_eq_true_eq]; omega
    have hr := partI_range ho
    rw [decide_eq_false hc, decide_eq_false (show ¬ 2 * (4 * k) ≤ n by omega), ho]
    simp only [cond_true, cond_false]
    have hs := sinSer_range (x := partI (n - 4 * k) (4 * n)) (by omega)
    rw [stepTail_ok (by omega), beq_congr (show 12 * (n - 4 * k) = 4 * n ↔ 3 * (n - 4 * k) = n by omega)]
    cases n - 4 * k == 0 <;> rfl

/-- The reference's sine of u parts of 4 n. -/
def turnR (u n : Int) : Span :=
  bif u % (4 * n) / n == 0 then refI (u % (4 * n) % n) n else bif u % (4 * n) / n == 1 then refI (n - u % (4 * n) % n) n else bif u % (4 * n) / n == 2 then negS (refI (u % (4 * n) % n) n) else negS (refI (n - u % (4 * n) % n) n)

theorem refI_scale {w n c : Int} (hc : 0 < c) : refI (c * w) (c * n) = refI w n := by
  have hle : ∀ x y : Int, c * x ≤ c * y ↔ x ≤ y := fun x y => ⟨fun h => Int.le_of_mul_le_mul_left h hc, fun h => Int.mul_le_mul_of_nonneg_left h (by omega)⟩
  have heq : ∀ x y : Int, c * x = c * y ↔ x = y := fun x y => ⟨fun h => Int.eq_of_mul_eq_mul_left (by omega) h, fun h => by rw [h]⟩
  have e1 : decide (2 * (c * n - c * w) ≤ c * n) = decide (2 * (n - w) ≤ n) := by
    apply decide_eq_decide.2
    rw [← Int.mul_sub, Int.mul_left_comm 2 c]
    exact hle _ _
  have e2 : (c * n == c * w) = (n == w) := beq_congr (heq _ _)
  have e3 : (c * w == 0) = (w == 0) := beq_congr (by have := heq w 0; simpa using this)
  have e4 : (3 * (c * w) == c * n) = (3 * w == n) := beq_congr (by rw [Int.mul_left_comm 3 c]; exact heq _ _)
  unfold refI refLo
  rw [e1, e2, e3, e4, ← Int.mul_sub, Int.mul_left_comm 4 c, partI_scale hc, partI_scale hc]

/-! ### Four quarters -/

def quad (r : Int → Span) (u n : Int) : Span :=
  bif u % (4 * n) / n == 0 then r (u % (4 * n) % n) else bif u % (4 * n) / n == 1 then r (n - u % (4 * n) % n) else bif u % (4 * n) / n == 2 then negS (r (u % (4 * n) % n)) else negS (r (n - u % (4 * n) % n))

theorem turnS_quad (u n : Int) : turnS u n = quad (fun w => riseI w n) u n := rfl
theorem turnR_quad (u n : Int) : turnR u n = quad (fun w => refI w n) u n := rfl

theorem quad_div {n w q : Int} (h : 0 ≤ w ∧ w < n) : (q * n + w) / n = q ∧ (q * n + w) % n = w := by
  rw [Int.add_comm, Int.add_mul_ediv_right _ _ (by omega), Int.add_mul_emod_self_right, Int.ediv_eq_zero_of_lt h.1 h.2, Int.emod_eq_of_lt h.1 h.2]
  omega

section
variable {r : Int → Span} {u n w : Int}
theorem quad0 (h : 0 ≤ w ∧ w < n) (hu : u % (4 * n) = w) : quad r u n = r w := by
  have := quad_div (q := 0) h
  rw [Int.zero_mul, Int.zero_add] at this
  unfold quad
  rw [hu, this.1, this.2]
  rfl
theorem quad1 (h : 0 ≤ w ∧ w < n) (hu : u % (4 * n) = n + w) : quad r u n = r (n - w) := by
  have := quad_div (q := 1) h
  rw [Int.one_mul] at this
  unfold quad
  rw [hu, this.1, this.2]
  rfl
theorem quad2 (h : 0 ≤ w ∧ w < n) (hu : u % (4 * n) = 2 * n + w) : quad r u n = negS (r w) := by
  have := quad_div (q := 2) h
  unfold quad
  rw [hu, this.1, this.2]
  rfl
theorem quad3 (h : 0 ≤ w ∧ w < n) (hu : u % (4 * n) = 3 * n + w) : quad r u n = negS (r (n - w)) := by
  have := quad_div (q := 3) h
  unfold quad
  rw [hu, this.1, this.2]
  rfl

theorem mod_of {u v m k : Int} (h : 0 ≤ v ∧ v < m) (e : u = v + m * k) : u % m = v := by rw [e, Int.add_mul_emod_self_left, Int.emod_eq_of_lt h.1 h.2]

/-- An angle lies in one of the quarters. -/
theorem quad_cases (hn : 0 < n) (u : Int) : ∃ w k, 0 ≤ w ∧ w < n ∧ (u = w + 4 * n * k ∨ u = n + w + 4 * n * k ∨ u = 2 * n + w + 4 * n * k ∨ u = 3 * n + w + 4 * n * k) := by
  have h1 := Int.emod_add_mul_ediv u (4 * n)
  have h2 := Int.emod_nonneg u (show 4 * n ≠ 0 by omega)
  have h3 := Int.emod_lt_of_pos u (show 0 < 4 * n by omega)
  generalize u % (4 * n) = v at *
  generalize u / (4 * n) = k at *
  by_cases a : v < n
  · exact ⟨v, k, h2, a, .inl h1.symm⟩
  by_cases b : v < 2 * n
  · exact ⟨v - n, k, by omega, by omega, .inr (.inl (by omega))⟩
  by_cases c : v < 3 * n
  · exact ⟨v - 2 * n, k, by omega, by omega, .inr (.inr (.inl (by omega)))⟩
  · exact ⟨v - 3 * n, k, by omega, by omega, .inr (.inr (.inr (by omega)))⟩
end

theorem negS_negS (a : Span) : negS (negS a) = a := by cases a; simp [negS]

/-- The value in each quarter. -/
theorem quad_val {r : Int → Span} {u n w k : Int} (hw : 0 ≤ w ∧ w < n) :
    (u = w + 4 * n * k → quad r u n = r w) ∧ (u = n + w + 4 * n * k → quad r u n = r (n - w)) ∧ (u = 2 * n + w + 4 * n * k → quad r u n = negS (r w)) ∧ (u = 3 * n + w + 4 * n * k → quad r u n = negS (r (n - w))) :=
  ⟨fun h => quad0 hw (mod_of (by omega) h), fun h => quad1 hw (mod_of (by omega) h), fun h => quad2 hw (mod_of (by omega) h), fun h => quad3 hw (mod_of (by omega) h)⟩

/-- The same, where the end of a quarter may be meant. -/
theorem quad_val' {r : Int → Span} (h0 : negS (r 0) = r 0) {u n w k : Int} (hw : 0 ≤ w ∧ w ≤ n) (hn : 0 < n) :
    (u = w + 4 * n * k → quad r u n = r w) ∧ (u = n + w + 4 * n * k → quad r u n = r (n - w)) ∧ (u = 2 * n + w + 4 * n * k → quad r u n = negS (r w)) ∧ (u = 3 * n + w + 4 * n * k → quad r u n = negS (r (n - w))) := by
  by_cases hlt : w < n
  · exact quad_val ⟨hw.1, hlt⟩
  · have e : w = n := by omega
    subst e
    have z : 0 ≤ (0 : Int) ∧ (0 : Int) < w := ⟨by omega, hn⟩
    refine ⟨fun h => ?_, fun h => ?_, fun h => ?_, fun h => ?_⟩
    · rw [(quad_val (r := r) (u := u) (k := k) z).2.1 (by omega), Int.sub_zero]
    · rw [(quad_val (r := r) (u := u) (k := k) z).2.2.1 (by omega), Int.sub_self, h0]
    · rw [(quad_val (r := r) (u := u) (k := k) z).2.2.2 (by omega), Int.sub_zero]
    · rw [(quad_val (r := r) (u := u) (k := k + 1) z).1 (by rw [Int.mul_add]; omega), Int.sub_self, h0]

theorem quad_half {r : Int → Span} {n : Int} (hn : 0 < n) (u : Int) : quad r (u + 2 * n) n = negS (quad r u n) := by
  obtain ⟨w, k, h1, h2, h | h | h | h⟩ := quad_cases hn u
  · rw [(quad_val ⟨h1, h2⟩).1 h, (quad_val (k := k) ⟨h1, h2⟩).2.2.1 (by omega)]
  · rw [(quad_val ⟨h1, h2⟩).2.1 h, (quad_val (k := k) ⟨h1, h2⟩).2.2.2 (by omega)]
  · rw [(quad_val ⟨h1, h2⟩).2.2.1 h, (quad_val (k := k + 1) ⟨h1, h2⟩).1 (by rw [Int.mul_add]; omega), negS_negS]
  · rw [(quad_val ⟨h1, h2⟩).2.2.2 h, (quad_val (k := k + 1) ⟨h1, h2⟩).2.1 (by rw [Int.mul_add]; omega), negS_negS]

theorem quad_neg {r : Int → Span} (h0 : negS (r 0) = r 0) {n : Int} (hn : 0 < n) (u : Int) : quad r (-u) n = negS (quad r u n) := by
  obtain ⟨w, k, h1, h2, h | h | h | h⟩ := quad_cases hn u
  · rw [(quad_val ⟨h1, h2⟩).1 h, (quad_val' h0 (w := n - w) (k := -k - 1) (by omega) hn).2.2.2 (by rw [Int.mul_sub, Int.mul_neg]; omega), Int.sub_sub_self]
  · rw [(quad_val ⟨h1, h2⟩).2.1 h, (quad_val' h0 (w := n - w) (k := -k - 1) (by omega) hn).2.2.1 (by rw [Int.mul_sub, Int.mul_neg]; omega)]
  · rw [(quad_val ⟨h1, h2⟩).2.2.1 h, (quad_val' h0 (w := n - w) (k := -k - 1) (by omega) hn).2.1 (by rw [Int.mul_sub, Int.mul_neg]; omega), Int.sub_sub_self, negS_negS]
  · rw [(quad_val ⟨h1, h2⟩).2.2.2 h, (quad_val' h0 (w := n - w) (k := -k - 1) (by omega) hn).1 (by rw [Int.mul_sub, Int.mul_neg]; omega), negS_negS]

theorem quad_mirror {r : Int → Span} (h0 : negS (r 0) = r 0) {n : Int} (hn : 0 < n) (u : Int) : quad r (2 * n - u) n = quad r u n := by
  rw [show 2 * n - u = -u + 2 * n by omega, quad_half hn, quad_neg h0 hn, negS_negS]

theorem quad_whole {r : Int → Span} {n : Int} (u k : Int) : quad r (u + 4 * n * k) n = quad r u n := by
  unfold quad
  rw [Int.add_mul_emod_self_left]

theorem quad_scale {r r' : Int → Span} {n c : Int} (hc : 0 < c) (hn : 0 < n) (hr : ∀ w, r' (c * w) = r w) (u : Int) : quad r' (c * u) (c * n) = quad r u n := by
  have key : ∀ w, 0 ≤ w ∧ w < n → 0 ≤ c * w ∧ c * w < c * n := fun w h => ⟨Int.mul_nonneg (by omega) h.1, Int.mul_lt_mul_of_pos_left h.2 hc⟩
  have e : ∀ x : Int, 4 * (c * n) * x = c * (4 * n * x) := fun x => by rw [Int.mul_left_comm 4 c, Int.mul_assoc]
  obtain ⟨w, k, h1, h2, h | h | h | h⟩ := quad_cases hn u
  · rw [(quad_val ⟨h1, h2⟩).1 h, (quad_val (k := k) (key w ⟨h1, h2⟩)).1 (by rw [h, e, Int.mul_add]), hr]
  · rw [(quad_val ⟨h1, h2⟩).2.1 h, (quad_val (k := k) (key w ⟨h1, h2⟩)).2.1 (by rw [h, e, Int.mul_add, Int.mul_add]), ← Int.mul_sub, hr]
  · rw [(quad_val ⟨h1, h2⟩).2.2.1 h, (quad_val (k := k) (key w ⟨h1, h2⟩)).2.2.1 (by rw [h, e, Int.mul_add, Int.mul_add, Int.mul_left_comm c 2]), hr]
  · rw [(quad_val ⟨h1, h2⟩).2.2.2 h, (quad_val (k := k) (key w ⟨h1, h2⟩)).2.2.2 (by rw [h, e, Int.mul_add, Int.mul_add, Int.mul_left_comm c 3]), ← Int.mul_sub, hr]

/-! ### The reference's cosine -/

theorem refI_zero {n : Int} (hn : 0 < n) : refI 0 n = ⟨0, 0⟩ := by
  unfold refI refLo
  rw [decide_eq_false (show ¬ 2 * (n - 0) ≤ n by omega), show partI 0 (4 * n) = 0 by simp [partI]]
  have : sinSer 0 = 0 := by decide +kernel
  rw [cond_false, this]
  rfl

theorem refI_neg0 {n : Int} (hn : 0 < n) : negS (refI 0 n) = refI 0 n := by rw [refI_zero hn]; rfl

theorem refLo_range {w n : Int} (h : 0 ≤ w ∧ w ≤ n) (hn : 1 ≤ n ∧ n ≤ 6000) : 0 ≤ refLo w n ∧ refLo w n ≤ 100000000000000000 := by
  unfold refLo
  by_cases hc : 2 * (n - w) ≤ n
  · rw [decide_eq_true hc, cond_true]
    have := partI_range (k := n - w) (n := 4 * n) (by simp only [eighthOn, Bool.and_eq_true, decide_eq_true_eq]; omega)
    exact cosSer_range (by omega)
  · rw [decide_eq_false hc, cond_false]
    have := partI_range (k := w) (n := 4 * n) (by simp only [eighthOn, Bool.and_eq_true, decide_eq_true_eq]; omega)
    have := sinSer_range (x := partI w (4 * n)) (by omega)
    omega

theorem refI_range {w n : Int} (h : 0 ≤ w ∧ w ≤ n) (hn : 1 ≤ n ∧ n ≤ 6000) : 0 ≤ (refI w n).lo ∧ (refI w n).lo ≤ 1000001 ∧ 0 ≤ (refI w n).hi ∧ (refI w n).hi ≤ 1000001 := by
  have := refLo_range h hn
  unfold refI stepS
  generalize (bif decide (2 * (n - w) ≤ n) then n == w else (w == 0 || 3 * w == n)) = e
  cases e <;> simp <;> omega

def cosine3 (K : AV → List Blk → Ans) (k n : Int) : Ans :=
  bif decide (n < w64 (4 * k)) then (bif quarterOn (w64 (n - w64 (2 * k))) (w64 (2 * n)) then K (rSpan (negRaw (refI (w64 (2 * n) - 4 * w64 (n - w64 (2 * k))) (w64 (2 * n))))) [] else none) else (bif quarterOn k n then K (rSpan (refI (n - 4 * k) n)) [] else none)
def cosine2 (K : AV → List Blk → Ans) (k n : Int) : Ans := bif decide (n < w64 (2 * k)) then cosine3 K (w64 (n - k)) n else cosine3 K k n
def cosineAns (K : AV → List Blk → Ans) (k n : Int) : Ans := bif n == 0 then none else bif decide (k.tmod n < 0) then cosine2 K (w64 (k.tmod n + n)) n else cosine2 K (k.tmod n) n
def cosineOn (n : Int) : Bool := decide (1 ≤ n) && decide (n ≤ 2880)

theorem cosine3_ok {K : AV → List Blk → Ans} {k n : Int} (hn : 1 ≤ n ∧ n ≤ 2880) (hk : 0 ≤ k ∧ 2 * k ≤ n) : cosine3 K k n = K (rSpan (turnR (4 * k + n) n)) [] := by
  unfold cosine3
  rw [w64_id (n := 4 * k) (by omega), w64_id (n := 2 * k) (by omega), w64_id (n := 2 * n) (by omega), w64_id (n := n - 2 * k) (by omega), turnR_quad]
  by_cases hc : n < 4 * k
  · have ho : quarterOn (n - 2 * k) (2 * n) = true := by simp only [quarterOn, Bool.and_eq_true, decide_eq_true_eq]; omega
    rw [decide_eq_true hc, ho, show 2 * n - 4 * (n - 2 * k) = 2 * (4 * k - n) by omega, refI_scale (by omega), (quad_val' (r := fun w => refI w n) (refI_neg0 (by omega)) (w := 4 * k - n) (k := 0) (by omega) (by omega)).2.2.1 (by omega)]
    have hr := refI_range (w := 4 * k - n) (n := n) (by omega) (by omega)
    have : negRaw (refI (4 * k - n) n) = negS (refI (4 * k - n) n) := by
      unfold negRaw negS
      rw [w64_id (n := 0 - (refI (4 * k - n) n).hi) (by omega), w64_id (n := 0 - (refI (4 * k - n) n).lo) (by omega)]
      congr 1 <;> omega
    rw [this]
    rfl
  · have ho : quarterOn k n = true := by simp only [quarterOn, Bool.and_eq_true, decide_eq_true_eq]; omega
    rw [decide_eq_false hc, ho, (quad_val' (r := fun w => refI w n) (refI_neg0 (by omega)) (w := 4 * k) (k := 0) (by omega) (by omega)).2.1 (by omega)]
    rfl

theorem cosine2_ok {K : AV → List Blk → Ans} {k n : Int} (hn : 1 ≤ n ∧ n ≤ 2880) (hk : 0 ≤ k ∧ k < n) : cosine2 K k n = K (rSpan (turnR (4 * k + n) n)) [] := by
  unfold cosine2
  rw [w64_id (n := 2 * k) (by omega), w64_id (n := n - k) (by omega)]
  by_cases hc : n < 2 * k
  · rw [decide_eq_true hc, cond_true, cosine3_ok hn (by omega), turnR_quad, turnR_quad, ← quad_mirror (r := fun w => refI w n) (refI_neg0 (by omega)) (show 0 < n by omega) (4 * k + n), show 4 * (n - k) + n = (2 * n - (4 * k + n)) + 4 * n * 1 by omega, quad_whole]
  · rw [decide_eq_false hc, cond_false, cosine3_ok hn (by omega)]

theorem cosineAns_ok {K : AV → List Blk → Ans} {k n : Int} (h : cosineOn n = true) : cosineAns K k n = K (rSpan (turnR (4 * k + n) n)) [] := by
  simp only [cosineOn, Bool.and_eq_true, decide_eq_true_eq] at h
  unfold cosineAns
  rw [show (n == 0) = false by simp; omega]
  have hr := tmod_range (k := k) (n := n) (by omega)
  have e := Int.tmod_add_mul_tdiv k n
  by_cases hc : k.tmod n < 0
  · rw [decide_eq_true hc, w64_id (by omega)]
    simp only [cond_true, cond_false]
    rw [cosine2_ok h (by omega), turnR_quad, turnR_quad, show 4 * k + n = (4 * (k.tmod n + n) + n) + 4 * n * (k.tdiv n - 1) by rw [Int.mul_sub, Int.mul_assoc]; omega, quad_whole]
  · rw [decide_eq_false hc]
    simp only [cond_false]
    rw [cosine2_ok h (by omega), turnR_quad, turnR_quad, show 4 * k + n = (4 * k.tmod n + n) + 4 * n * k.tdiv n by rw [Int.mul_assoc]; omega, quad_whole]

def cosR (k n : Int) : Span × Int := bif decide (n < 1) then (spanZ, 2) else bif decide (720 < n) then (spanZ, 2) else (turnR (4 * k + n) n, 0)
def sinR (k n : Int) : Span × Int := bif decide (n < 1) then (spanZ, 2) else bif decide (720 < n) then (spanZ, 2) else (turnR (4 * k) n, 0)

def cosRAns (K : AV → List Blk → Ans) (k n : Int) : Ans := bif decide (n < 1) then K (rSpanE (spanZ, 2)) [] else bif decide (720 < n) then K (rSpanE (spanZ, 2)) [] else
  bif cosineOn n then K (rSpanE (turnR (4 * k + n) n, 0)) [] else none
def sinRAns (K : AV → List Blk → Ans) (k n : Int) : Ans := bif decide (n < 1) then K (rSpanE (spanZ, 2)) [] else bif decide (720 < n) then K (rSpanE (spanZ, 2)) [] else bif n == 0 then none else
  bif cosineOn (w64 (4 * n)) then K (rSpanE (turnR (4 * w64 (n - w64 (4 * k.tmod n)) + w64 (4 * n)) (w64 (4 * n)), 0)) [] else none

theorem cosRAns_ok {K : AV → List Blk → Ans} {k n : Int} : cosRAns K k n = K (rSpanE (cosR k n)) [] := by
  unfold cosRAns cosR
  by_cases h1 : n < 1
  · rw [decide_eq_true h1]; rfl
  by_cases h2 : 720 < n
  · rw [decide_eq_false h1, decide_eq_true h2]; rfl
  rw [decide_eq_false h1, decide_eq_false h2, show cosineOn n = true by simp only [cosineOn, Bool.and_eq_true, decide_eq_true_eq]; omega]
  rfl

theorem sinRAns_ok {K : AV → List Blk → Ans} {k n : Int} : sinRAns K k n = K (rSpanE (sinR k n)) [] := by
  unfold sinRAns sinR
  by_cases h1 : n < 1
  · rw [decide_eq_true h1]; rfl
  by_cases h2 : 720 < n
  · rw [decide_eq_false h1, decide_eq_true h2]; rfl
  have hr := tmod_range (k := k) (n := n) (by omega)
  have e := Int.tmod_add_mul_tdiv k n
  rw [decide_eq_false h1, decide_eq_false h2, show (n == 0) = false by simp; omega, w64_id (n := 4 * n) (by omega), show cosineOn (4 * n) = true by simp only [cosineOn, Bool.and_eq_true, decide_eq_true_eq]; omega, w64_id (n := 4 * k.tmod n) (by omega), w64_id (by omega)]
  simp only [cond_false, cond_true]
  rw [turnR_quad, turnR_quad, show 4 * (n - 4 * k.tmod n) + 4 * n = 4 * (2 * n - 4 * k.tmod n) by omega, quad_scale (r := fun w => refI w n) (c := 4) (by omega) (by omega) (fun w => refI_scale (by omega)), quad_mirror (r := fun w => refI w n) (refI_neg0 (by omega)) (by omega), show 4 * k = 4 * k.tmod n + 4 * n * k.tdiv n by rw [Int.mul_assoc]; omega, quad_whole]

end Go.Ev
