/-
  A test of the sines of fractions of a quarter, in natural numbers: the program's and the reference's series agree, and the squares add up to 1. No program here.
-/
import Derived.Test.YtmidgaahaffmcaaSinRef
import Derived.Test.YtmidgaahaffmcaaSinNat
namespace Go.Ev
open Go

theorem force_eq {α : Type} (n : Nat) (f : Nat → α) : force n f = f n := by cases n <;> rfl

theorem cs2_eq : cs2 = divs 18446744073709551616 6 2 := by decide +kernel
theorem cs3_eq : cs3 = divs 18446744073709551616 6 3 := by decide +kernel
theorem ds1_eq : ds1 = divs 100000000000000000 6 1 := by decide +kernel
theorem ds2_eq : ds2 = divs 100000000000000000 6 2 := by decide +kernel

theorem nextI_nat (t sq j : Nat) : nextI t sq j = ((t * sq / (18446744073709551616 * (j * (j + 1))) : Nat) : Int) := by
  unfold nextI
  rw [← Nat.div_div_eq_div_mul]
  simp only [Int.natCast_ediv, Int.natCast_mul, Int.natCast_add, Int.natCast_one]
  rfl

theorem sinI_zero (F : Nat) (s sq j : Int) : sinI F s 0 sq j = s := by cases F <;> rfl

theorem sinC_ok {sq : Nat} (hsq : sq < 18446744073709551616) {K : Nat → Bool} : ∀ (f F j t p m : Nat), f < F → 1 ≤ j → m + t ≤ p → p < 18446744073709551616 + m → sinC sq (divs 18446744073709551616 f j) t p m K = true → ∃ v : Nat, (v : Int) = sinI F ((p : Int) - m) t sq j ∧ K v = true
  | 0, F, j, t, p, m, _, _, _, _, h => by simp [divs, sinC] at h
  | f + 1, F, j, t, p, m, hF, hj, h1, h2, h => by
    rw [divs, sinC, force_eq, force_eq] at h
    simp only at h
    obtain ⟨F, rfl⟩ : ∃ F', F = F' + 1 := ⟨F - 1, by omega⟩
    by_cases ht : t = 0
    · subst ht
      have e0 : 0 * sq / (18446744073709551616 * (j * (j + 1))) = 0 := by simp
      have e1 : 0 * sq / (18446744073709551616 * ((j + 2) * (j + 3))) = 0 := by simp
      rw [e0, e1] at h
      simp only [Nat.beq_refl, cond_true, Nat.add_zero] at h
      refine ⟨p - m, ?_, h⟩
      rw [show ((0 : Nat) : Int) = 0 from rfl, sinI_zero]
      omega
    · have b1 := nextI_bound (t := (t : Int)) (s := (sq : Int)) (j := (j : Int)) (c := 1) (by omega) (by omega) (by omega) (by have := jj_le (j := (j : Int)) (c := 1) (by omega) (by omega); omega)
      rw [nextI_nat] at b1
      have b2 := nextI_bound (t := ((t * sq / (18446744073709551616 * (j * (j + 1))) : Nat) : Int)) (s := (sq : Int)) (j := ((j + 2 : Nat) : Int)) (c := 1) (Int.natCast_nonneg _) (by omega) (by omega) (by have := jj_le (j := ((j + 2 : Nat) : Int)) (c := 1) (by omega) (by omega); omega)
      rw [nextI_nat] at b2
      have hstep : sinI (F + 1) ((p : Int) - m) t sq j = sinI F (((p + t * sq / (18446744073709551616 * (j * (j + 1))) * sq / (18446744073709551616 * ((j + 2) * (j + 2 + 1))) : Nat) : Int) - ((m + t * sq / (18446744073709551616 * (j * (j + 1))) : Nat) : Int)) ((t * sq / (18446744073709551616 * (j * (j + 1))) * sq / (18446744073709551616 * ((j + 2) * (j + 2 + 1))) : Nat) : Int) sq ((j + 4 : Nat) : Int) := by
        have e : ((t : Int) == 0) = false := by simp; omega
        rw [sinI, e, cond_false, nextI_nat, show ((j : Int) + 2) = ((j + 2 : Nat) : Int) by omega, nextI_nat]
        generalize t * sq / (18446744073709551616 * (j * (j + 1))) = t1 at *
        generalize t1 * sq / (18446744073709551616 * ((j + 2) * (j + 2 + 1))) = t2 at *
        rw [wu64_id (n := (p : Int) - m - t1) (by omega), wu64_id (by omega)]
        congr 1
        omega
      rw [hstep]
      rw [show (j + 2) * (j + 2 + 1) = (j + 2) * (j + 3) from rfl] at *
      generalize t * sq / (18446744073709551616 * (j * (j + 1))) = t1 at *
      generalize t1 * sq / (18446744073709551616 * ((j + 2) * (j + 3))) = t2 at *
      cases hz : Nat.beq t2 0 with
      | true =>
        rw [hz, cond_true] at h
        have : t2 = 0 := Nat.eq_of_beq_eq_true hz
        subst this
        refine ⟨_, ?_, h⟩
        rw [show ((0 : Nat) : Int) = 0 from rfl, sinI_zero]
        omega
      | false =>
        rw [hz, cond_false] at h
        exact sinC_ok hsq f F (j + 4) t2 (p + t2) (m + t1) (by omega) (by omega) (by omega) (by omega) h

theorem serI_zero : ∀ (f : Nat) {s sq k : Int} {b : Bool}, 0 ≤ s ∧ s ≤ 18446744073709551615 → serI f s 0 sq k b = s
  | 0, _, _, _, _, _ => rfl
  | f + 1, s, sq, k, b, h => by
    have e : timesI 0 sq = 0 := by simp [timesI]
    rw [serI, e, Int.zero_tdiv, show wu64 0 = 0 from rfl, Int.sub_zero, Int.add_zero, wu64_id h]
    cases b
    · exact serI_zero f h
    · exact serI_zero f h

theorem term_nat (t sq k : Nat) (ht : t ≤ 100000000000000000) (hsq : sq ≤ 100000000000000000) (hk : 1 ≤ k ∧ k ≤ 100) : wu64 ((timesI t sq).tdiv (wu64 ((k : Int) * wu64 ((k : Int) + 1)))) = ((t * sq / (100000000000000000 * (k * (k + 1))) : Nat) : Int) ∧ t * sq / (100000000000000000 * (k * (k + 1))) ≤ t := by
  have hm2 : t * sq ≤ t * 100000000000000000 := Nat.mul_le_mul_left _ hsq
  have hkk : 1 ≤ k * (k + 1) := Nat.mul_pos (by omega) (by omega)
  have hkk2 : k * (k + 1) ≤ 100 * 101 := Nat.mul_le_mul (by omega) (by omega)
  have hle : t * sq / (100000000000000000 * (k * (k + 1))) ≤ t := by
    rw [← Nat.div_div_eq_div_mul]
    exact Nat.le_trans (Nat.div_le_self _ _) (by omega)
  refine ⟨?_, hle⟩
  have e1 : timesI t sq = ((t * sq / 100000000000000000 : Nat) : Int) := by
    unfold timesI
    rw [← Int.natCast_mul]
    omega
  rw [wu64_id (n := (k : Int) + 1) (by omega), show ((k : Int) * ((k : Int) + 1)) = ((k * (k + 1) : Nat) : Int) by simp, wu64_id (n := ((k * (k + 1) : Nat) : Int)) (by omega), e1, Int.tdiv_eq_ediv_of_nonneg (by omega), ← Int.natCast_ediv, Nat.div_div_eq_div_mul]
  generalize t * sq / (100000000000000000 * (k * (k + 1))) = u at hle ⊢
  exact wu64_id (by omega)

theorem serC_ok {sq : Nat} (hsq : sq ≤ 100000000000000000) {K : Nat → Bool} : ∀ (f k t p m : Nat), 1 ≤ k → k + 4 * f ≤ 90 → t ≤ 100000000000000000 → m + t ≤ p → p ≤ 100000000000000000 + m → serC sq (divs 100000000000000000 f k) t p m K = true → ∃ v : Nat, (v : Int) = serI (2 * f) ((p : Int) - m) t sq k true ∧ K v = true
  | 0, k, t, p, m, _, _, _, _, _, h => by
    refine ⟨p - m, ?_, h⟩
    show ((p - m : Nat) : Int) = (p : Int) - m
    omega
  | f + 1, k, t, p, m, hk, hf, ht, h1, h2, h => by
    rw [divs, serC, force_eq, force_eq] at h
    simp only at h
    obtain ⟨a1, a2⟩ := term_nat t sq k ht hsq (by omega)
    have b := term_nat (t * sq / (100000000000000000 * (k * (k + 1)))) sq (k + 2) (by omega) hsq (by omega)
    obtain ⟨b1, b2⟩ := b
    have hstep : serI (2 * (f + 1)) ((p : Int) - m) t sq k true = serI (2 * f) (((p + t * sq / (100000000000000000 * (k * (k + 1))) * sq / (100000000000000000 * ((k + 2) * (k + 2 + 1))) : Nat) : Int) - ((m + t * sq / (100000000000000000 * (k * (k + 1))) : Nat) : Int)) ((t * sq / (100000000000000000 * (k * (k + 1))) * sq / (100000000000000000 * ((k + 2) * (k + 2 + 1))) : Nat) : Int) sq ((k + 4 : Nat) : Int) true := by
      rw [show 2 * (f + 1) = 2 * f + 1 + 1 by omega, serI, serI, a1, wu64_id (n := (k : Int) + 2) (by omega), show ((k : Int) + 2) = ((k + 2 : Nat) : Int) by omega, b1]
      simp only [cond_true, Bool.not_true, cond_false, Bool.not_false]
      generalize t * sq / (100000000000000000 * (k * (k + 1))) = t1 at *
      generalize t1 * sq / (100000000000000000 * ((k + 2) * (k + 2 + 1))) = t2 at *
      rw [wu64_id (n := (p : Int) - m - t1) (by omega), wu64_id (n := (p : Int) - m - t1 + t2) (by omega), wu64_id (by omega)]
      congr 1
      omega
    rw [hstep]
    rw [show (k + 2) * (k + 2 + 1) = (k + 2) * (k + 3) from rfl] at *
    generalize t * sq / (100000000000000000 * (k * (k + 1))) = t1 at *
    generalize t1 * sq / (100000000000000000 * ((k + 2) * (k + 3))) = t2 at *
    cases hz : Nat.beq t2 0 with
    | true =>
      rw [hz, cond_true] at h
      have : t2 = 0 := Nat.eq_of_beq_eq_true hz
      subst this
      refine ⟨_, ?_, h⟩
      rw [show ((0 : Nat) : Int) = 0 from rfl, serI_zero _ (by omega)]
      omega
    | false =>
      rw [hz, cond_false] at h
      exact serC_ok hsq f (k + 4) t2 (p + t2) (m + t1) (by omega) (by omega) (by omega) (by omega) (by omega) h

/-! ### One fraction -/

theorem ang_nat (w n : Nat) : angI w n = ((28976077832308491369 * w / n : Nat) : Int) := by unfold angI; simp
theorem part_nat (w n : Nat) : partI w n = ((628318530717958648 * w / n : Nat) : Int) := by unfold partI; simp

theorem loC_ok {w n : Nat} (hw : w ≤ n) (hn : 1 ≤ n ∧ n ≤ 720) {K : Nat → Bool} (h : loC w n K = true) : ∃ v : Nat, (v : Int) = loI w n ∧ K v = true := by
  unfold loC at h
  unfold loI
  cases hb : Nat.ble (2 * w) n with
  | true =>
    have hle := Nat.le_of_ble_eq_true hb
    rw [hb, cond_true, force_eq, force_eq, cs2_eq] at h
    have hr := angI_range (w := (w : Int)) (n := (n : Int)) (by simp only [angOn, Bool.and_eq_true, decide_eq_true_eq]; omega)
    rw [ang_nat] at hr
    rw [decide_eq_true (by omega), cond_true, ang_nat]
    generalize 28976077832308491369 * w / n = x at *
    have hsq : x * x / 18446744073709551616 < 18446744073709551616 := by
      have : x * x ≤ x * 18446744073709551616 := Nat.mul_le_mul_left _ (by omega)
      omega
    obtain ⟨v, hv, hK⟩ := sinC_ok hsq 6 16 2 x x 0 (by omega) (by omega) (by omega) (by omega) h
    refine ⟨_, ?_, hK⟩
    unfold sineI sqI
    have e : sinI 16 (x : Int) x ((x : Int) * x / 18446744073709551616) 2 = (v : Int) := by
      rw [hv]
      simp
    rw [e]
    omega
  | false =>
    have hle : ¬ 2 * w ≤ n := fun hh => by rw [Nat.ble_eq_true_of_le hh] at hb; cases hb
    rw [hb, cond_false, force_eq, force_eq, force_eq, cs3_eq] at h
    have hr := angI_range (w := ((n - w : Nat) : Int)) (n := (n : Int)) (by simp only [angOn, Bool.and_eq_true, decide_eq_true_eq]; omega)
    rw [ang_nat] at hr
    rw [decide_eq_false (by omega), cond_false, show (n : Int) - (w : Int) = ((n - w : Nat) : Int) by omega, ang_nat]
    generalize 28976077832308491369 * (n - w) / n = x at *
    have hsq : x * x / 18446744073709551616 < 18446744073709551616 := by
      have : x * x ≤ x * 18446744073709551616 := Nat.mul_le_mul_left _ (by omega)
      omega
    obtain ⟨v, hv, hK⟩ := sinC_ok hsq 6 16 3 (x * x / 18446744073709551616 / 2) (x * x / 18446744073709551616 / 2) 0 (by omega) (by omega) (by omega) (by omega) h
    refine ⟨_, ?_, hK⟩
    unfold cosiI sqI
    have e : sinI 16 ((x : Int) * x / 18446744073709551616 / 2) ((x : Int) * x / 18446744073709551616 / 2) ((x : Int) * x / 18446744073709551616) 3 = (v : Int) := by
      rw [hv]
      simp
    have hv2 := sinI_range 16 (s := ((x : Int) * x / 18446744073709551616 / 2)) (t := ((x : Int) * x / 18446744073709551616 / 2)) (sq := ((x : Int) * x / 18446744073709551616)) (j := 3) (by rw [← Int.natCast_mul]; omega)
    rw [e] at hv2 ⊢
    rw [wu64_eq]
    omega

theorem refC_ok {w n : Nat} (hw : w ≤ n) (hn : 1 ≤ n ∧ n ≤ 720) {K : Nat → Bool} (h : refC w n K = true) : ∃ v : Nat, (v : Int) = refLo w n / 100000000000 ∧ K v = true := by
  unfold refC at h
  unfold refLo
  have sqle : ∀ x : Nat, x ≤ 78539816339744831 → x * x / 100000000000000000 ≤ 100000000000000000 ∧ timesI x x = ((x * x / 100000000000000000 : Nat) : Int) := by
    intro x hx
    have : x * x ≤ x * 78539816339744831 := Nat.mul_le_mul_left _ (by omega)
    refine ⟨by omega, ?_⟩
    unfold timesI
    rw [← Int.natCast_mul]
    omega
  cases hb : Nat.ble (2 * (n - w)) n with
  | true =>
    have hle := Nat.le_of_ble_eq_true hb
    rw [hb, cond_true, force_eq, force_eq, ds1_eq] at h
    have hr := partI_range (k := ((n - w : Nat) : Int)) (n := ((4 * n : Nat) : Int)) (by simp only [eighthOn, Bool.and_eq_true, decide_eq_true_eq]; omega)
    rw [part_nat] at hr
    rw [decide_eq_true (by omega), cond_true, show (n : Int) - (w : Int) = ((n - w : Nat) : Int) by omega, show 4 * (n : Int) = ((4 * n : Nat) : Int) by omega, part_nat]
    generalize 628318530717958648 * (n - w) / (4 * n) = x at *
    obtain ⟨s1, s2⟩ := sqle x (by omega)
    obtain ⟨v, hv, hK⟩ := serC_ok s1 6 1 100000000000000000 100000000000000000 0 (by omega) (by omega) (by omega) (by omega) (by omega) h
    refine ⟨_, ?_, hK⟩
    unfold cosSer
    rw [s2]
    have e : serI 12 100000000000000000 100000000000000000 ((x * x / 100000000000000000 : Nat) : Int) 1 true = (v : Int) := by
      rw [hv]
      simp
    rw [e]
    omega
  | false =>
    have hle : ¬ 2 * (n - w) ≤ n := fun hh => by rw [Nat.ble_eq_true_of_le hh] at hb; cases hb
    rw [hb, cond_false, force_eq, force_eq, ds2_eq] at h
    have hr := partI_range (k := (w : Int)) (n := ((4 * n : Nat) : Int)) (by simp only [eighthOn, Bool.and_eq_true, decide_eq_true_eq]; omega)
    rw [part_nat] at hr
    rw [decide_eq_false (by omega), cond_false, show 4 * (n : Int) = ((4 * n : Nat) : Int) by omega, part_nat]
    generalize 628318530717958648 * w / (4 * n) = x at *
    obtain ⟨s1, s2⟩ := sqle x (by omega)
    obtain ⟨v, hv, hK⟩ := serC_ok s1 6 2 x x 0 (by omega) (by omega) (by omega) (by omega) (by omega) h
    refine ⟨_, ?_, hK⟩
    unfold sinSer
    rw [s2]
    have e : serI 12 (x : Int) (x : Int) ((x * x / 100000000000000000 : Nat) : Int) 2 true = (v : Int) := by
      rw [hv]
      simp
    rw [e]
    omega

/-! ### All fractions -/

structure PairOk (w n : Int) : Prop where
  sin : loI w n = refLo w n / 100000000000
  cos : loI (n - w) n = refLo (n - w) n / 100000000000
  low : loI w n * loI w n / 1000000 + loI (n - w) n * loI (n - w) n / 1000000 ≤ 1000000
  high : 1000000 ≤ ((loI w n + 1) * (loI w n + 1) + 999999) / 1000000 + ((loI (n - w) n + 1) * (loI (n - w) n + 1) + 999999) / 1000000

theorem PairOk.swap {w n : Int} (h : PairOk w n) : PairOk (n - w) n := by
  have e : n - (n - w) = w := by omega
  exact ⟨h.cos, by rw [e]; exact h.sin, by rw [e, Int.add_comm]; exact h.low, by rw [e, Int.add_comm]; exact h.high⟩

theorem pairC_ok {w n : Nat} (hw : w ≤ n) (hn : 1 ≤ n ∧ n ≤ 720) (h : pairC w n = true) : PairOk w n := by
  unfold pairC at h
  obtain ⟨a, ha, h⟩ := loC_ok hw hn h
  obtain ⟨a', ha', h⟩ := refC_ok hw hn h
  cases e1 : Nat.beq a a' with
  | false => rw [e1] at h; cases h
  | true =>
    rw [e1, cond_true] at h
    obtain ⟨b, hb, h⟩ := loC_ok (by omega) hn h
    obtain ⟨b', hb', h⟩ := refC_ok (by omega) hn h
    cases e2 : Nat.beq b b' with
    | false => rw [e2] at h; cases h
    | true =>
      rw [e2, cond_true] at h
      cases Nat.eq_of_beq_eq_true e1
      cases Nat.eq_of_beq_eq_true e2
      simp only [circN, Bool.and_eq_true] at h
      have l1 := Nat.le_of_ble_eq_true h.1
      have l2 := Nat.le_of_ble_eq_true h.2
      have en : ((n - w : Nat) : Int) = (n : Int) - w := by omega
      rw [en] at hb hb'
      refine ⟨by rw [← ha, ← ha'], by rw [← hb, ← hb'], ?_, ?_⟩
      · rw [← ha, ← hb, ← Int.natCast_mul, ← Int.natCast_mul]
        omega
      · rw [← ha, ← hb, show ((a : Int) + 1) = ((a + 1 : Nat) : Int) by omega, show ((b : Int) + 1) = ((b + 1 : Nat) : Int) by omega, ← Int.natCast_mul, ← Int.natCast_mul]
        omega

theorem rowC_ok {n : Nat} : ∀ (m : Nat), rowC n m = true → ∀ w, 1 ≤ w → w ≤ m → Nat.gcd w n = 1 → pairC w n = true
  | 0, _, w, h1, h2, _ => by omega
  | m + 1, h, w, h1, h2, hg => by
    rw [rowC] at h
    cases e : Nat.beq (Nat.gcd (m + 1) n) 1 with
    | true =>
      rw [e, cond_true] at h
      cases e2 : pairC (m + 1) n with
      | false => rw [e2] at h; cases h
      | true =>
        rw [e2, cond_true] at h
        by_cases hw : w = m + 1
        · rw [hw]; exact e2
        · exact rowC_ok m h w h1 (by omega) hg
    | false =>
      rw [e, cond_false] at h
      by_cases hw : w = m + 1
      · rw [hw] at hg
        rw [hg] at e
        cases e
      · exact rowC_ok m h w h1 (by omega) hg

theorem rowsC_ok : ∀ (c n : Nat), rowsC n c = true → ∀ m, n ≤ m → m < n + c → rowC m (m / 2) = true
  | 0, n, _, m, h1, h2 => by omega
  | c + 1, n, h, m, h1, h2 => by
    rw [rowsC] at h
    cases e : rowC n (n / 2) with
    | false => rw [e] at h; cases h
    | true =>
      rw [e, cond_true] at h
      by_cases hm : m = n
      · rw [hm]; exact e
      · exact rowsC_ok c (n + 1) h m (by omega) (by omega)

/-- What the rows say of a fraction in lowest terms. -/
theorem row_pair {n w : Nat} (hn : 1 ≤ n ∧ n ≤ 720) (h : rowC n (n / 2) = true) (hw : 1 ≤ w) (hw2 : w < n) (hg : Nat.gcd w n = 1) : PairOk w n := by
  by_cases hc : w ≤ n / 2
  · exact pairC_ok (by omega) hn (rowC_ok _ h w hw hc hg)
  · have hg' : Nat.gcd (n - w) n = 1 := by
      rw [Nat.gcd_self_sub_left (by omega)]
      exact hg
    have := pairC_ok (w := n - w) (by omega) hn (rowC_ok _ h (n - w) (by omega) (by omega) hg')
    rw [show ((n - w : Nat) : Int) = (n : Int) - w by omega] at this
    have := this.swap
    rwa [show (n : Int) - ((n : Int) - w) = w by omega] at this

end Go.Ev
