/-
  Sines by series, as the program and the reference add them up. No program here.
-/
import Derived.Test.YtmidgaahaffmcaaOver
namespace Go.Ev
open Go

/-! ### The program's series -/

def nextI (t s j : Int) : Int := t * s / 18446744073709551616 / (j * (j + 1))

def sinI : Nat → Int → Int → Int → Int → Int
  | 0, sum, _, _, _ => sum
  | f + 1, sum, t, sq, j => bif t == 0 then sum else sinI f (wu64 (wu64 (sum - nextI t sq j) + nextI (nextI t sq j) sq (j + 2))) (nextI (nextI t sq j) sq (j + 2)) sq (j + 4)

def sqI (x : Int) : Int := x * x / 18446744073709551616
def sineI (x : Int) : Int := sinI 16 x x (sqI x) 2
def cosiI (x : Int) : Int := wu64 (0 - sinI 16 (sqI x / 2) (sqI x / 2) (sqI x) 3)
def angI (w n : Int) : Int := 28976077832308491369 * w / n
def loI (w n : Int) : Int := (bif decide (2 * w ≤ n) then sineI (angI w n) else cosiI (angI (n - w) n)) * 1000000 / 18446744073709551616
def riseI (w n : Int) : Span := bif w == 0 then ⟨0, 0⟩ else bif w == n then ⟨1000000, 1000000⟩ else bif 3 * w == n then ⟨500000, 500000⟩ else ⟨loI w n, loI w n + 1⟩

theorem nextI_le {t s j : Int} (ht : 0 ≤ t) (hs : 0 ≤ s ∧ s < 18446744073709551616) (hj : 1 ≤ j) : 0 ≤ nextI t s j ∧ nextI t s j * (j * (j + 1)) ≤ t := by
  have hjj : 0 < j * (j + 1) := Int.mul_pos (by omega) (by omega)
  have h1 : 0 ≤ t * s := Int.mul_nonneg ht hs.1
  have h2 : t * s ≤ t * 18446744073709551616 := Int.mul_le_mul_of_nonneg_left (by omega) ht
  have h3 : 0 ≤ t * s / 18446744073709551616 := by omega
  have h4 : t * s / 18446744073709551616 ≤ t := by omega
  unfold nextI
  refine ⟨Int.ediv_nonneg h3 (by omega), ?_⟩
  exact Int.le_trans (Int.ediv_mul_le _ (by omega)) h4

theorem nextI_bound {t s j c : Int} (ht : 0 ≤ t) (hs : 0 ≤ s ∧ s < 18446744073709551616) (hj : 1 ≤ j) (hc : c ≤ j * (j + 1)) : nextI t s j * c ≤ t := by
  obtain ⟨h1, h2⟩ := nextI_le ht hs hj
  exact Int.le_trans (Int.mul_le_mul_of_nonneg_left hc h1) h2

theorem jj_le {j c : Int} (hc : 0 ≤ c) (h : c ≤ j) : c * (c + 1) ≤ j * (j + 1) := Int.mul_le_mul h (by omega) (by omega) (by omega)

theorem sinI_range : ∀ (f : Nat) {s t sq j : Int}, 0 ≤ s ∧ s ≤ 18446744073709551615 → 0 ≤ sinI f s t sq j ∧ sinI f s t sq j ≤ 18446744073709551615
  | 0, s, t, sq, j, h => h
  | f + 1, s, t, sq, j, h => by
    rw [sinI]
    cases t == 0 with
    | true => exact h
    | false => exact sinI_range f (by rw [wu64_eq]; omega)

section
variable {P : Program} {G : Nat → Option (List D)} {gb : Nat} {EQ : List Nat} {Γ : Nat → List AV → List Blk → (AV → List Blk → Ans) → Ans} {X : Nat → List AV → (AV → Ans) → Ans}

def nextOn (j : Int) : Bool := decide (1 ≤ j) && decide (j ≤ 1000)

theorem series_rounds (hΓ : GOK P G gb Γ X) (hEQ : ∀ t, t ∈ EQ → EqOK P t) (hm : P.follows .mixedOrders = true) {c : Code} {e fuel NN : Nat} {M : List Blk} {keep : List Nat} (TT : Int → Int → Int → TS) (T1 : Int → TS) (sq : Int) (hsq : 0 ≤ sq ∧ sq < 18446744073709551616)
    (hless : ∀ s t j, Less (T1 s) (TT s t j))
    (hb : ∀ s t j : Int, evCode P G EQ Γ X noL fuel c (TT s t j) M NN (fun x T M N => some (.st x (forget keep T) M N)) =
      bif t != 0 then (bif nextOn j then bif nextOn (wu64 (j + 2)) then some (.st .normal (TT (wu64 (wu64 (s - nextI t sq j) + nextI (nextI t sq j) sq (wu64 (j + 2)))) (nextI (nextI t sq j) sq (wu64 (j + 2))) (wu64 (j + 4))) M NN) else none else none)
      else some (.st (.exit e) (TT s t j) M NN)) :
    ∀ (f : Nat) (s t j : Int), 0 ≤ t → t < 16 ^ f → 1 ≤ j → j + 4 * f ≤ 900 → ∃ k, RoundsOK P G gb c k (TT s t j) M NN (.exit e) (T1 (sinI f s t sq j)) M NN := by
  have stop : ∀ (f : Nat) (s j : Int), ∃ k, RoundsOK P G gb c k (TT s 0 j) M NN (.exit e) (T1 (sinI f s 0 sq j)) M NN := by
    intro f s j
    have e1 : sinI f s 0 sq j = s := by cases f <;> rfl
    rw [e1]
    exact ⟨1, (RoundsOK.fin (Λ := noL) hΓ hEQ hm (noL_ok _) (hb s 0 j)).weak (hless _ _ _)⟩
  intro f
  induction f with
  | zero =>
    intro s t j h0 h1 _ _
    have : t = 0 := by simp at h1; omega
    subst this
    exact stop 0 s j
  | succ f ih =>
    intro s t j h0 h1 hj hj2
    by_cases ht : t = 0
    · subst ht
      exact stop _ s j
    · have h := hb s t j
      have e1 : (t != 0) = true := by simpa using ht
      have e2 : nextOn j = true := by simp only [nextOn, Bool.and_eq_true, decide_eq_true_eq]; omega
      have e3 : nextOn (j + 2) = true := by simp only [nextOn, Bool.and_eq_true, decide_eq_true_eq]; omega
      rw [e1, wu64_id (n := j + 2) (by omega), wu64_id (n := j + 4) (by omega), e2, e3] at h
      simp only [cond_true] at h
      have a1 := nextI_le h0 hsq hj
      have a2 := nextI_bound (c := 2) h0 hsq hj (by have := jj_le (c := 1) (by omega) hj; omega)
      have b1 := nextI_le a1.1 hsq (j := j + 2) (by omega)
      have b2 := nextI_bound (c := 12) a1.1 hsq (j := j + 2) (by omega) (by have := jj_le (c := 3) (j := j + 2) (by omega) (by omega); omega)
      have hlt : nextI (nextI t sq j) sq (j + 2) < 16 ^ f := by
        rw [Int.pow_succ] at h1
        omega
      obtain ⟨k, hk⟩ := ih (wu64 (wu64 (s - nextI t sq j) + nextI (nextI t sq j) sq (j + 2))) (nextI (nextI t sq j) sq (j + 2)) (j + 4) b1.1 hlt (by omega) (by omega)
      have e4 : sinI (f + 1) s t sq j = sinI f (wu64 (wu64 (s - nextI t sq j) + nextI (nextI t sq j) sq (j + 2))) (nextI (nextI t sq j) sq (j + 2)) sq (j + 4) := by
        have : (t == 0) = false := by simpa using ht
        rw [sinI, this]
        rfl
      rw [e4]
      exact ⟨k + 1, RoundsOK.go (Λ := noL) hΓ hEQ hm (noL_ok _) h hk⟩
end

/-! ### What the program's functions come to -/

theorem next_ok {t s j : Int} (ht : 0 ≤ t ∧ t ≤ 18446744073709551615) (hs : 0 ≤ s ∧ s ≤ 18446744073709551615) (hj : nextOn j = true) : (wu64 (j * wu64 (j + 1)) == 0) = false ∧ wu64 ((mul64 t s).1.tdiv (wu64 (j * wu64 (j + 1)))) = nextI t s j := by
  simp only [nextOn, Bool.and_eq_true, decide_eq_true_eq] at hj
  have hjj : 0 < j * (j + 1) := Int.mul_pos (by omega) (by omega)
  have hjj2 : j * (j + 1) ≤ 1000 * 1001 := Int.mul_le_mul (by omega) (by omega) (by omega) (by omega)
  rw [wu64_id (n := j + 1) (by omega), wu64_id (n := j * (j + 1)) (by omega)]
  refine ⟨by simp; omega, ?_⟩
  have h1 := nextI_le ht.1 (s := s) (by omega) hj.1
  have h2 : 0 ≤ t * s / 18446744073709551616 := Int.ediv_nonneg (Int.mul_nonneg ht.1 hs.1) (by omega)
  have h3 := nextI_bound (c := 1) ht.1 (s := s) (by omega) hj.1 (by omega)
  unfold mul64
  simp only
  rw [Int.tdiv_eq_ediv_of_nonneg h2]
  exact wu64_id (by unfold nextI at h1 h3; omega)

def serDom (j : Int) (l : List Int) : Bool := match l with | [_, x, s, k] => decide (0 ≤ x) && (decide (x < 18446744073709551616) && (decide (0 ≤ s) && (decide (s < 18446744073709551616) && k == j))) | _ => false
def serFin (l : List Int) : List Int := match l with | [s, t, sq, j] => [sinI 16 s t sq j] | _ => []

theorem sqI_range {x : Int} (h : 0 ≤ x ∧ x ≤ 18446744073709551615) : 0 ≤ sqI x ∧ sqI x ≤ 18446744073709551615 := by
  have h1 : 0 ≤ x * x := Int.mul_nonneg h.1 h.1
  have h2 : x * x ≤ x * 18446744073709551616 := Int.mul_le_mul_of_nonneg_left (by omega) h.1
  unfold sqI
  omega

def angOn (w n : Int) : Bool := decide (0 ≤ w) && (decide (2 * w ≤ n) && (decide (1 ≤ n) && decide (n ≤ 720)))

theorem ang_ok {w n : Int} (h : angOn w n = true) : decide (wu64 ((mul64 10529333758598939753 (wu64 w)).1 + wu64 w) < wu64 n) = true ∧
    (wu64 ((mul64 10529333758598939753 (wu64 w)).1 + wu64 w) * 18446744073709551616 + (mul64 10529333758598939753 (wu64 w)).2) / wu64 n = angI w n := by
  simp only [angOn, Bool.and_eq_true, decide_eq_true_eq] at h
  obtain ⟨h1, h2, h3, h4⟩ := h
  rw [wu64_id (n := w) (by omega), wu64_id (n := n) (by omega)]
  unfold mul64
  simp only
  rw [wu64_id (by omega)]
  refine ⟨decide_eq_true (by omega), ?_⟩
  unfold angI
  congr 1
  omega

theorem angI_range {w n : Int} (h : angOn w n = true) : 0 ≤ angI w n ∧ angI w n ≤ 18446744073709551615 := by
  simp only [angOn, Bool.and_eq_true, decide_eq_true_eq] at h
  obtain ⟨h1, h2, h3, h4⟩ := h
  unfold angI
  refine ⟨Int.ediv_nonneg (by omega) (by omega), ?_⟩
  have : 28976077832308491369 * w / n < 18446744073709551616 := Int.ediv_lt_of_lt_mul (by omega) (by omega)
  omega

theorem sineI_range {x : Int} (h : 0 ≤ x ∧ x ≤ 18446744073709551615) : 0 ≤ sineI x ∧ sineI x ≤ 18446744073709551615 := sinI_range 16 h
theorem cosiI_range (x : Int) : 0 ≤ cosiI x ∧ cosiI x ≤ 18446744073709551615 := by unfold cosiI; rw [wu64_eq]; omega

def riseOn (w n : Int) : Bool := decide (0 ≤ w) && (decide (w ≤ n) && (decide (1 ≤ n) && decide (n ≤ 720)))

def riseTail (K : AV → List Blk → Ans) (v : Int) : Ans := K (rSpan ⟨w64 (mul64 v 1000000).1, w64 (w64 (mul64 v 1000000).1 + 1)⟩) []
def riseAns (K : AV → List Blk → Ans) (w n : Int) : Ans :=
  bif w == 0 then K (rSpan ⟨0, 0⟩) [] else bif w == n then K (rSpan ⟨1000000, 1000000⟩) [] else bif w64 (3 * w) == n then K (rSpan ⟨500000, 500000⟩) [] else
  bif decide (w64 (2 * w) ≤ n) then (bif angOn w n then riseTail K (sineI (angI w n)) else none) else (bif angOn (w64 (n - w)) n then riseTail K (cosiI (angI (w64 (n - w)) n)) else none)

theorem riseAns_ok {K : AV → List Blk → Ans} {w n : Int} (h : riseOn w n = true) : riseAns K w n = K (rSpan (riseI w n)) [] := by
  simp only [riseOn, Bool.and_eq_true, decide_eq_true_eq] at h
  obtain ⟨h1, h2, h3, h4⟩ := h
  unfold riseAns riseI loI
  rw [w64_id (n := 3 * w) (by omega), w64_id (n := 2 * w) (by omega), w64_id (n := n - w) (by omega)]
  cases w == 0 with
  | true => rfl
  | false =>
    cases w == n with
    | true => rfl
    | false =>
      cases 3 * w == n with
      | true => rfl
      | false =>
        simp only [cond_false]
        have tail : ∀ v : Int, 0 ≤ v ∧ v ≤ 18446744073709551615 → riseTail K v = K (rSpan ⟨v * 1000000 / 18446744073709551616, v * 1000000 / 18446744073709551616 + 1⟩) [] := by
          intro v hv
          unfold riseTail mul64
          simp only
          rw [w64_id (n := v * 1000000 / 18446744073709551616) (by omega), w64_id (by omega)]
        by_cases hc : 2 * w ≤ n
        · have ho : angOn w n = true := by simp [angOn, h1, hc, h3, h4]
          rw [decide_eq_true hc, ho]
          simp only [cond_true]
          exact tail _ (sineI_range (angI_range ho))
        · have ho : angOn (n - w) n = true := by simp only [angOn, Bool.and_eq_true, decide_eq_true_eq]; omega
          rw [decide_eq_false hc, ho]
          simp only [cond_true, cond_false]
          exact tail _ (cosiI_range _)

/-! ### All angles -/

def turnS (u n : Int) : Span :=
  bif u % (4 * n) / n == 0 then riseI (u % (4 * n) % n) n else bif u % (4 * n) / n == 1 then riseI (n - u % (4 * n) % n) n else bif u % (4 * n) / n == 2 then negS (riseI (u % (4 * n) % n) n) else negS (riseI (n - u % (4 * n) % n) n)

def turnOn (u n : Int) : Bool := decide (1 ≤ n) && (decide (n ≤ 720) && (decide (-1000000000 ≤ u) && decide (u ≤ 1000000000)))

def turnTail (K : AV → List Blk → Ans) (u n : Int) : Ans := bif n == 0 then none else bif n == 0 then none else
  bif w64 (u.tdiv n) == 0 then (bif riseOn (u.tmod n) n then K (rSpan (riseI (u.tmod n) n)) [] else none) else
  bif w64 (u.tdiv n) == 1 then (bif riseOn (w64 (n - u.tmod n)) n then K (rSpan (riseI (w64 (n - u.tmod n)) n)) [] else none) else
  bif w64 (u.tdiv n) == 2 then (bif riseOn (u.tmod n) n then K (rSpan (negRaw (riseI (u.tmod n) n))) [] else none) else
  (bif riseOn (w64 (n - u.tmod n)) n then K (rSpan (negRaw (riseI (w64 (n - u.tmod n)) n))) [] else none)
def turnAns (K : AV → List Blk → Ans) (u n : Int) : Ans := bif w64 (4 * n) == 0 then none else bif w64 (4 * n) == 0 then none else turnTail K ((w64 (u.tmod (w64 (4 * n)) + w64 (4 * n))).tmod (w64 (4 * n))) n

theorem loI_range {w n : Int} (h : riseOn w n = true) : 0 ≤ loI w n ∧ loI w n < 1000000 := by
  simp only [riseOn, Bool.and_eq_true, decide_eq_true_eq] at h
  obtain ⟨h1, h2, h3, h4⟩ := h
  unfold loI
  by_cases hc : 2 * w ≤ n
  · have ho : angOn w n = true := by simp [angOn, h1, hc, h3, h4]
    rw [decide_eq_true hc, cond_true]
    have := sineI_range (angI_range ho)
    omega
  · rw [decide_eq_false hc, cond_false]
    have := cosiI_range (angI (n - w) n)
    omega

theorem riseI_range {w n : Int} (h : riseOn w n = true) : 0 ≤ (riseI w n).lo ∧ (riseI w n).lo ≤ (riseI w n).hi ∧ (riseI w n).hi ≤ 1000000 ∧ (riseI w n).hi ≤ (riseI w n).lo + 1 := by
  have := loI_range h
  unfold riseI
  cases w == 0 <;> cases w == n <;> cases 3 * w == n <;> simp <;> omega

theorem negRaw_rise {w n : Int} (h : riseOn w n = true) : negRaw (riseI w n) = negS (riseI w n) := by
  have := riseI_range h
  unfold negRaw negS
  rw [w64_id (n := 0 - (riseI w n).hi) (by omega), w64_id (n := 0 - (riseI w n).lo) (by omega)]
  congr 1 <;> omega

theorem turnTail_ok {K : AV → List Blk → Ans} {u n : Int} (hn : 1 ≤ n ∧ n ≤ 720) (hu : 0 ≤ u ∧ u < 4 * n) : turnTail K u n = K (rSpan (turnS u n)) [] := by
  have e0 : (n == 0) = false := by simp; omega
  have hm : 0 ≤ u % n ∧ u % n < n := ⟨Int.emod_nonneg _ (by omega), Int.emod_lt_of_pos _ (by omega)⟩
  have hd : 0 ≤ u / n ∧ u / n ≤ 3 := by
    refine ⟨Int.ediv_nonneg hu.1 (by omega), ?_⟩
    have : u / n < 4 := Int.ediv_lt_of_lt_mul (by omega) (by omega)
    omega
  have o1 : riseOn (u % n) n = true := by simp only [riseOn, Bool.and_eq_true, decide_eq_true_eq]; omega
  have o2 : riseOn (n - u % n) n = true := by simp only [riseOn, Bool.and_eq_true, decide_eq_true_eq]; omega
  unfold turnTail turnS
  rw [e0, Int.tdiv_eq_ediv_of_nonneg hu.1, Int.tmod_eq_emod_of_nonneg hu.1, Int.emod_eq_of_lt hu.1 hu.2, w64_id (n := u / n) (by omega), w64_id (n := n - u % n) (by omega), o1, o2, negRaw_rise o1, negRaw_rise o2]
  simp only [cond_false, cond_true]
  cases u / n == 0 with
  | true => rfl
  | false =>
    cases u / n == 1 with
    | true => rfl
    | false => cases u / n == 2 <;> rfl

theorem turnS_mod (u n : Int) : turnS (u % (4 * n)) n = turnS u n := by
  unfold turnS
  rw [Int.emod_emod]

theorem turnAns_ok {K : AV → List Blk → Ans} {u n : Int} (h : turnOn u n = true) : turnAns K u n = K (rSpan (turnS u n)) [] := by
  simp only [turnOn, Bool.and_eq_true, decide_eq_true_eq] at h
  obtain ⟨h1, h2, h3, h4⟩ := h
  unfold turnAns
  rw [w64_id (n := 4 * n) (by omega), show (4 * n == 0) = false by simp; omega]
  simp only [cond_false]
  have e1 : -(4 * n) < u.tmod (4 * n) := by
    by_cases hu : 0 ≤ u
    · have := Int.tmod_nonneg (4 * n) hu
      omega
    · have := Int.tmod_lt_of_pos (-u) (b := 4 * n) (by omega)
      rw [Int.neg_tmod] at this
      omega
  have e2 := Int.tmod_lt_of_pos u (b := 4 * n) (by omega)
  rw [w64_id (by omega), Int.tmod_eq_emod_of_nonneg (by omega), Int.add_emod_right]
  have e3 : u.tmod (4 * n) % (4 * n) = u % (4 * n) := by
    conv => rhs; rw [← Int.tmod_add_mul_tdiv u (4 * n)]
    rw [Int.add_mul_emod_self_left]
  rw [e3, turnTail_ok ⟨h1, h2⟩ ⟨Int.emod_nonneg _ (by omega), Int.emod_lt_of_pos _ (by omega)⟩, turnS_mod]

def cosS (k n : Int) : Span × Int := bif decide (n < 1) then (spanZ, 2) else bif decide (720 < n) then (spanZ, 2) else (turnS (4 * k + n) n, 0)
def sinS (k n : Int) : Span × Int := bif decide (n < 1) then (spanZ, 2) else bif decide (720 < n) then (spanZ, 2) else (turnS (4 * k) n, 0)

theorem turnS_congr {u v n : Int} (h : u % (4 * n) = v % (4 * n)) : turnS u n = turnS v n := by
  rw [← turnS_mod u, h, turnS_mod]

theorem tmod_four (k n c : Int) : (4 * k.tmod n + c) % (4 * n) = (4 * k + c) % (4 * n) := by
  have e : 4 * k + c = (4 * k.tmod n + c) + 4 * n * (k.tdiv n) := by
    have := Int.tmod_add_mul_tdiv k n
    rw [Int.mul_assoc]
    omega
  rw [e, Int.add_mul_emod_self_left]

theorem tmod_range {k n : Int} (hn : 0 < n) : -n < k.tmod n ∧ k.tmod n < n := by
  refine ⟨?_, Int.tmod_lt_of_pos k hn⟩
  by_cases hu : 0 ≤ k
  · have := Int.tmod_nonneg n hu
    omega
  · have := Int.tmod_lt_of_pos (-k) (b := n) (by omega)
    rw [Int.neg_tmod] at this
    omega

def cosAns (K : AV → List Blk → Ans) (k n : Int) : Ans := bif decide (n < 1) then K (rSpanE (spanZ, 2)) [] else bif decide (720 < n) then K (rSpanE (spanZ, 2)) [] else bif n == 0 then none else
  bif turnOn (w64 (w64 (4 * k.tmod n) + n)) n then K (rSpanE (turnS (w64 (w64 (4 * k.tmod n) + n)) n, 0)) [] else none
def sinAns (K : AV → List Blk → Ans) (k n : Int) : Ans := bif decide (n < 1) then K (rSpanE (spanZ, 2)) [] else bif decide (720 < n) then K (rSpanE (spanZ, 2)) [] else bif n == 0 then none else
  bif turnOn (w64 (4 * k.tmod n)) n then K (rSpanE (turnS (w64 (4 * k.tmod n)) n, 0)) [] else none

theorem cosAns_ok {K : AV → List Blk → Ans} {k n : Int} : cosAns K k n = K (rSpanE (cosS k n)) [] := by
  unfold cosAns cosS
  by_cases h1 : n < 1
  · rw [decide_eq_true h1]; rfl
  by_cases h2 : 720 < n
  · rw [decide_eq_false h1, decide_eq_true h2]; rfl
  rw [decide_eq_false h1, decide_eq_false h2, show (n == 0) = false by simp; omega]
  have hr := tmod_range (k := k) (n := n) (by omega)
  rw [w64_id (n := 4 * k.tmod n) (by omega), w64_id (by omega), show turnOn (4 * k.tmod n + n) n = true by simp only [turnOn, Bool.and_eq_true, decide_eq_true_eq]; omega, turnS_congr (tmod_four k n n)]
  rfl

theorem sinAns_ok {K : AV → List Blk → Ans} {k n : Int} : sinAns K k n = K (rSpanE (sinS k n)) [] := by
  unfold sinAns sinS
  by_cases h1 : n < 1
  · rw [decide_eq_true h1]; rfl
  by_cases h2 : 720 < n
  · rw [decide_eq_false h1, decide_eq_true h2]; rfl
  rw [decide_eq_false h1, decide_eq_false h2, show (n == 0) = false by simp; omega]
  have hr := tmod_range (k := k) (n := n) (by omega)
  have he := tmod_four k n 0
  rw [Int.add_zero, Int.add_zero] at he
  rw [w64_id (n := 4 * k.tmod n) (by omega), show turnOn (4 * k.tmod n) n = true by simp only [turnOn, Bool.and_eq_true, decide_eq_true_eq]; omega, turnS_congr he]
  rfl

end Go.Ev
