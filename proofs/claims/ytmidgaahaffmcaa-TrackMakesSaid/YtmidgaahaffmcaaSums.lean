/-
  Sines and cosines of sums of angles, up to small errors: by neighbouring fractions of a quarter. No program here.
-/
import Derived.Test.YtmidgaahaffmcaaSinTab
import Derived.Test.YtmidgaahaffmcaaSumNat
namespace Go.Ev
open Go

def VI (w n : Int) : Int := bif w == n then 18446744073709551616 else bif 3 * w == n then 9223372036854775808 else bif decide (2 * w ≤ n) then sineI (angI w n) else cosiI (angI (n - w) n)

theorem vC_ok {w n : Nat} (hw : w ≤ n) (hn : 1 ≤ n ∧ n ≤ 720) {K : Nat → Bool} (h : vC w n K = true) : ∃ v : Nat, (v : Int) = VI w n ∧ K v = true := by
  unfold vC at h
  unfold VI
  by_cases h1 : w = n
  · subst h1
    rw [Nat.beq_refl, cond_true] at h
    exact ⟨_, by simp, h⟩
  have e1 : Nat.beq w n = false := by
    cases hb : Nat.beq w n with
    | false => rfl
    | true => exact absurd (Nat.eq_of_beq_eq_true hb) h1
  rw [e1, cond_false] at h
  rw [show ((w : Int) == n) = false by simp; omega, cond_false]
  by_cases h3 : 3 * w = n
  · rw [h3, Nat.beq_refl, cond_true] at h
    exact ⟨_, by rw [show (3 * (w : Int) == n) = true by simp; omega]; rfl, h⟩
  have e3 : Nat.beq (3 * w) n = false := by
    cases hb : Nat.beq (3 * w) n with
    | false => rfl
    | true => exact absurd (Nat.eq_of_beq_eq_true hb) h3
  rw [e3, cond_false] at h
  rw [show (3 * (w : Int) == n) = false by simp; omega, cond_false]
  cases hb : Nat.ble (2 * w) n with
  | true =>
    have hle := Nat.le_of_ble_eq_true hb
    rw [hb, cond_true, force_eq, force_eq, cs2_eq] at h
    have hr := angI_range (w := (w : Int)) (n := (n : Int)) (by simp only [angOn, Bool.and_eq_true, decide_eq_true_eq]; omega)
    rw [ang_nat] at hr
    rw [decide_eq_true (by omega), cond_true, ang_nat]
    generalize 28976077832308491369 * w / n = x at *
    have hsq : x * x / 18446744073709551616 < 18446744073709551616 := by
      have : x * x ≤ x * 18446744073709551616 := Nat.mul_le_mul_left _ (by omega)
      omega
    obtain ⟨v, hv, hK⟩ := sinC_ok hsq 6 16 2 x x 0 (by omega) (by omega) (by omega) (by omega) h
    refine ⟨_, ?_, hK⟩
    unfold sineI sqI
    rw [hv]
    simp
  | false =>
    have hle : ¬ 2 * w ≤ n := fun hh => by rw [Nat.ble_eq_true_of_le hh] at hb; cases hb
    rw [hb, cond_false, force_eq, force_eq, force_eq, cs3_eq] at h
    have hr := angI_range (w := ((n - w : Nat) : Int)) (n := (n : Int)) (by simp only [angOn, Bool.and_eq_true, decide_eq_true_eq]; omega)
    rw [ang_nat] at hr
    rw [decide_eq_false (by omega), cond_false, show (n : Int) - (w : Int) = ((n - w : Nat) : Int) by omega, ang_nat]
    generalize 28976077832308491369 * (n - w) / n = x at *
    have hsq : x * x / 18446744073709551616 < 18446744073709551616 := by
      have : x * x ≤ x * 18446744073709551616 := Nat.mul_le_mul_left _ (by omega)
      omega
    obtain ⟨v, hv, hK⟩ := sinC_ok hsq 6 16 3 (x * x / 18446744073709551616 / 2) (x * x / 18446744073709551616 / 2) 0 (by omega) (by omega) (by omega) (by omega) h
    rw [force_eq] at hK
    refine ⟨_, ?_, hK⟩
    unfold cosiI sqI
    have e : sinI 16 ((x : Int) * x / 18446744073709551616 / 2) ((x : Int) * x / 18446744073709551616 / 2) ((x : Int) * x / 18446744073709551616) 3 = (v : Int) := by
      rw [hv]
      simp
    have hv2 := sinI_range 16 (s := ((x : Int) * x / 18446744073709551616 / 2)) (t := ((x : Int) * x / 18446744073709551616 / 2)) (sq := ((x : Int) * x / 18446744073709551616)) (j := 3) (by rw [← Int.natCast_mul]; omega)
    rw [e] at hv2 ⊢
    rw [wu64_eq]
    omega

theorem valsC_ok {n : Nat} (hn : 1 ≤ n ∧ n ≤ 720) : ∀ {w : Nat} {acc : List Nat} {K : List Nat → Bool}, w ≤ n → valsC n w acc K = true → ∃ l : List Nat, l.length = w + 1 ∧ (∀ i, i ≤ w → ((l.getD i 0 : Nat) : Int) = VI i n) ∧ K (l ++ acc) = true
  | 0, acc, K, hw, h => by
    obtain ⟨v, hv, hK⟩ := vC_ok (Nat.zero_le _) hn h
    refine ⟨[v], rfl, fun i hi => ?_, hK⟩
    have : i = 0 := by omega
    subst this
    exact hv
  | w + 1, acc, K, hw, h => by
    obtain ⟨v, hv, h2⟩ := vC_ok hw hn h
    obtain ⟨l, hl, hi, hK⟩ := valsC_ok hn (by omega) h2
    refine ⟨l ++ [v], by simp [hl], fun i hle => ?_, by simpa using hK⟩
    by_cases hc : i = w + 1
    · subst hc
      rw [List.getD_eq_getElem?_getD, List.getElem?_append_right (by omega), hl]
      simpa using hv
    · have : i < l.length := by omega
      have := hi i (by omega)
      rw [List.getD_eq_getElem?_getD] at this ⊢
      rwa [List.getElem?_append_left (by omega)]

theorem stepsC_ok {c1 s1 : Nat} : ∀ {l r : List Nat}, stepsC c1 s1 l r = true → ∀ i, i + 1 < l.length → i + 1 < r.length → stepC c1 s1 (l.getD i 0) (l.getD (i + 1) 0) (r.getD i 0) (r.getD (i + 1) 0) = true
  | [], _, _, i, h1, _ => by simp at h1
  | [_], _, _, i, h1, _ => by simp at h1
  | _ :: _ :: _, [], _, i, _, h2 => by simp at h2
  | _ :: _ :: _, [_], _, i, _, h2 => by simp at h2
  | s :: s' :: l, c :: c' :: r, h, i, h1, h2 => by
    rw [stepsC] at h
    cases hs : stepC c1 s1 s s' c c' with
    | false => rw [hs] at h; cases h
    | true =>
      rw [hs, cond_true] at h
      cases i with
      | zero => exact hs
      | succ i => exact stepsC_ok h i (by simpa using h1) (by simpa using h2)

theorem sumEnd_ok {n : Nat} {l r : List Nat} (h : sumEnd n l r = true) : n * l.getD 1 0 ≤ 36893488147419103232 ∧ stepsC (r.getD 1 0) (l.getD 1 0) l r = true := by
  unfold sumEnd at h
  split at h
  · simp only [Bool.and_eq_true] at h
    exact ⟨Nat.le_of_ble_eq_true h.1, h.2⟩
  · cases h

/-- What the test says. -/
structure StepOk (n w : Int) : Prop where
  s1 : 18446744073709551616 * VI (w + 1) n - (VI w n * VI (n - 1) n + VI (n - w) n * VI 1 n) ≤ 18446744073709551616000
  s2 : -18446744073709551616000 ≤ 18446744073709551616 * VI (w + 1) n - (VI w n * VI (n - 1) n + VI (n - w) n * VI 1 n)
  c1 : 18446744073709551616 * VI (n - w - 1) n - (VI (n - w) n * VI (n - 1) n - VI w n * VI 1 n) ≤ 18446744073709551616000
  c2 : -18446744073709551616000 ≤ 18446744073709551616 * VI (n - w - 1) n - (VI (n - w) n * VI (n - 1) n - VI w n * VI 1 n)

theorem sumC_ok {n : Nat} (hn : 1 ≤ n ∧ n ≤ 720) (h : sumC n = true) : (n : Int) * VI 1 n ≤ 36893488147419103232 ∧ ∀ w : Nat, w < n → StepOk n w := by
  unfold sumC at h
  obtain ⟨l, hl, hi, hK⟩ := valsC_ok hn (Nat.le_refl n) h
  rw [List.append_nil] at hK
  have hrev : ∀ i, i ≤ n → ((l.reverse.getD i 0 : Nat) : Int) = VI ((n : Int) - i) n := by
    intro i hle
    have := hi (n - i) (by omega)
    rw [List.getD_eq_getElem?_getD] at this ⊢
    rw [List.getElem?_reverse (by omega), hl, show n + 1 - 1 - i = n - i by omega, this]
    congr 1
    omega
  obtain ⟨hle, hsteps⟩ := sumEnd_ok hK
  have hs1 := hi 1 (by omega)
  have hc1 := hrev 1 (by omega)
  rw [show ((1 : Nat) : Int) = 1 from rfl] at hs1 hc1
  generalize l.getD 1 0 = s1 at *
  generalize l.reverse.getD 1 0 = c1 at *
  refine ⟨by rw [← hs1, ← Int.natCast_mul]; omega, fun w hw => ?_⟩
  have := stepsC_ok hsteps w (by omega) (by rw [List.length_reverse]; omega)
  simp only [stepC, Bool.and_eq_true] at this
  obtain ⟨q1, q2, q3, q4⟩ := this
  have q1 := Nat.le_of_ble_eq_true q1
  have q2 := Nat.le_of_ble_eq_true q2
  have q3 := Nat.le_of_ble_eq_true q3
  have q4 := Nat.le_of_ble_eq_true q4
  have v1 := hi w (by omega)
  have v2 := hi (w + 1) (by omega)
  have v3 := hrev w (by omega)
  have v4 := hrev (w + 1) (by omega)
  rw [show (n : Int) - ((w + 1 : Nat) : Int) = (n : Int) - w - 1 by omega] at v4
  rw [show ((w + 1 : Nat) : Int) = (w : Int) + 1 by omega] at v2
  generalize l.getD w 0 = x1 at *
  generalize l.getD (w + 1) 0 = x2 at *
  generalize l.reverse.getD w 0 = x3 at *
  generalize l.reverse.getD (w + 1) 0 = x4 at *
  constructor
  · rw [← v1, ← v2, ← v3, ← hs1, ← hc1, ← Int.natCast_mul, ← Int.natCast_mul]; omega
  · rw [← v1, ← v2, ← v3, ← hs1, ← hc1, ← Int.natCast_mul, ← Int.natCast_mul]; omega
  · rw [← v1, ← v3, ← v4, ← hs1, ← hc1, ← Int.natCast_mul, ← Int.natCast_mul]; omega
  · rw [← v1, ← v3, ← v4, ← hs1, ← hc1, ← Int.natCast_mul, ← Int.natCast_mul]; omega

theorem sumsC_ok : ∀ (c n : Nat), sumsC n c = true → ∀ m, n ≤ m → m < n + c → sumC m = true
  | 0, n, _, m, h1, h2 => by omega
  | c + 1, n, h, m, h1, h2 => by
    rw [sumsC] at h
    cases e : sumC n with
    | false => rw [e] at h; cases h
    | true =>
      rw [e, cond_true] at h
      by_cases hm : m = n
      · rw [hm]; exact e
      · exact sumsC_ok c (n + 1) h m (by omega) (by omega)

theorem powsC_ok : ∀ (c : Nat), powsC c = true → ∀ n, 1 ≤ n → n ≤ c → (n + 2) ^ (4 * n) ≤ 6561 * n ^ (4 * n)
  | 0, _, n, h1, h2 => by omega
  | c + 1, h, n, h1, h2 => by
    rw [powsC] at h
    cases e : Nat.ble ((c + 3) ^ (4 * (c + 1))) (6561 * (c + 1) ^ (4 * (c + 1))) with
    | false => rw [e] at h; cases h
    | true =>
      rw [e, cond_true] at h
      by_cases hm : n = c + 1
      · rw [hm]; exact Nat.le_of_ble_eq_true e
      · exact powsC_ok c h n h1 (by omega)

/-! ### All angles -/

def VS (n w : Int) : Span := ⟨VI w n, VI w n⟩
/-- The sine of u parts of 4 n of a turn, times 2^64. -/
def SZ (n u : Int) : Int := (quad (VS n) u n).lo
def CZ (n u : Int) : Int := SZ n (u + n)

theorem VI_zero {n : Int} (hn : 1 ≤ n) : VI 0 n = 0 := by
  unfold VI
  rw [show ((0 : Int) == n) = false by simp; omega, show (3 * (0 : Int) == n) = false by simp; omega, decide_eq_true (by omega)]
  have e : angI 0 n = 0 := by simp [angI]
  simp only [cond_false, cond_true, e]
  decide +kernel

theorem VI_full (n : Int) : VI n n = 18446744073709551616 := by simp [VI]

theorem VS_neg0 {n : Int} (hn : 1 ≤ n) : negS (VS n 0) = VS n 0 := by simp [VS, VI_zero hn, negS]

theorem VI_range {w n : Int} (hn : 1 ≤ n ∧ n ≤ 720) (hw : 0 ≤ w ∧ w ≤ n) : 0 ≤ VI w n ∧ VI w n ≤ 18446744073709551616 := by
  unfold VI
  cases w == n with
  | true => simp
  | false =>
    cases 3 * w == n with
    | true => simp
    | false =>
      simp only [cond_false]
      by_cases hc : 2 * w ≤ n
      · rw [decide_eq_true hc, cond_true]
        have := sineI_range (angI_range (w := w) (n := n) (by simp only [angOn, Bool.and_eq_true, decide_eq_true_eq]; omega))
        omega
      · rw [decide_eq_false hc, cond_false]
        have := cosiI_range (angI (n - w) n)
        omega

section
variable {n : Int}

theorem SZ_half (hn : 1 ≤ n) (u : Int) : SZ n (u + 2 * n) = -SZ n u := by
  unfold SZ
  rw [quad_half (by omega)]
  obtain ⟨w, k, h1, h2, h | h | h | h⟩ := quad_cases (show 0 < n by omega) u
  · rw [(quad_val ⟨h1, h2⟩).1 h]; rfl
  · rw [(quad_val ⟨h1, h2⟩).2.1 h]; rfl
  · rw [(quad_val ⟨h1, h2⟩).2.2.1 h]; simp [negS, VS]
  · rw [(quad_val ⟨h1, h2⟩).2.2.2 h]; simp [negS, VS]

theorem SZ_whole (u k : Int) : SZ n (u + 4 * n * k) = SZ n u := by unfold SZ; rw [quad_whole]

theorem SZ_thin (hn : 1 ≤ n) (u : Int) : (quad (VS n) u n).hi = SZ n u := by
  unfold SZ
  obtain ⟨w, k, h1, h2, h | h | h | h⟩ := quad_cases (show 0 < n by omega) u
  · rw [(quad_val ⟨h1, h2⟩).1 h]; rfl
  · rw [(quad_val ⟨h1, h2⟩).2.1 h]; rfl
  · rw [(quad_val ⟨h1, h2⟩).2.2.1 h]; rfl
  · rw [(quad_val ⟨h1, h2⟩).2.2.2 h]; rfl

theorem SZ_neg (hn : 1 ≤ n) (u : Int) : SZ n (-u) = -SZ n u := by
  rw [← SZ_thin hn u]
  unfold SZ
  rw [quad_neg (VS_neg0 hn) (by omega)]
  rfl

theorem CZ_quarter (hn : 1 ≤ n) (u : Int) : CZ n (u + n) = -SZ n u := by
  unfold CZ
  rw [show u + n + n = u + 2 * n by omega, SZ_half hn]

theorem CZ_neg (hn : 1 ≤ n) (u : Int) : CZ n (-u) = CZ n u := by
  unfold CZ
  rw [show -u + n = -(u + n) + 2 * n by omega, SZ_half hn, SZ_neg hn]
  omega

theorem CZ_whole (u k : Int) : CZ n (u + 4 * n * k) = CZ n u := by
  unfold CZ
  rw [show u + 4 * n * k + n = (u + n) + 4 * n * k by omega, SZ_whole]

theorem SZ_range (hn : 1 ≤ n ∧ n ≤ 720) (u : Int) : -18446744073709551616 ≤ SZ n u ∧ SZ n u ≤ 18446744073709551616 := by
  unfold SZ
  obtain ⟨w, k, h1, h2, h | h | h | h⟩ := quad_cases (show 0 < n by omega) u
  · rw [(quad_val ⟨h1, h2⟩).1 h]; have := VI_range hn (w := w) (by omega); simp only [VS]; omega
  · rw [(quad_val ⟨h1, h2⟩).2.1 h]; have := VI_range hn (w := n - w) (by omega); simp only [VS]; omega
  · rw [(quad_val ⟨h1, h2⟩).2.2.1 h]; have := VI_range hn (w := w) (by omega); simp only [VS, negS]; omega
  · rw [(quad_val ⟨h1, h2⟩).2.2.2 h]; have := VI_range hn (w := n - w) (by omega); simp only [VS, negS]; omega

theorem SZ_at {w k : Int} (hn : 1 ≤ n) (hw : 0 ≤ w ∧ w ≤ n) : SZ n (w + 4 * n * k) = VI w n ∧ CZ n (w + 4 * n * k) = VI (n - w) n := by
  unfold CZ SZ
  exact ⟨by rw [(quad_val' (VS_neg0 hn) (k := k) hw (by omega)).1 rfl]; rfl, by rw [(quad_val' (VS_neg0 hn) (k := k) hw (by omega)).2.1 (by omega)]; rfl⟩

theorem SZ_zero (hn : 1 ≤ n) : SZ n 0 = 0 ∧ CZ n 0 = 18446744073709551616 := by
  have := SZ_at (n := n) (w := 0) (k := 0) hn (by omega)
  simp only [Int.mul_zero, Int.add_zero, Int.sub_zero] at this
  rw [this.1, this.2, VI_zero hn, VI_full]
  exact ⟨rfl, rfl⟩

theorem SZ_one (hn : 1 ≤ n) : SZ n 1 = VI 1 n ∧ CZ n 1 = VI (n - 1) n := by
  have := SZ_at (n := n) (w := 1) (k := 0) hn (by omega)
  simpa using this

/-- One part more. -/
structure NextOk (n u : Int) : Prop where
  s1 : 18446744073709551616 * SZ n (u + 1) - (SZ n u * CZ n 1 + CZ n u * SZ n 1) ≤ 18446744073709551616000
  s2 : -18446744073709551616000 ≤ 18446744073709551616 * SZ n (u + 1) - (SZ n u * CZ n 1 + CZ n u * SZ n 1)
  c1 : 18446744073709551616 * CZ n (u + 1) - (CZ n u * CZ n 1 - SZ n u * SZ n 1) ≤ 18446744073709551616000
  c2 : -18446744073709551616000 ≤ 18446744073709551616 * CZ n (u + 1) - (CZ n u * CZ n 1 - SZ n u * SZ n 1)

theorem NextOk.quarter (hn : 1 ≤ n) {u : Int} (h : NextOk n u) : NextOk n (u + n) := by
  have e1 : SZ n (u + n) = CZ n u := rfl
  have e2 : CZ n (u + n) = -SZ n u := CZ_quarter hn u
  have e3 : SZ n (u + n + 1) = CZ n (u + 1) := by unfold CZ; congr 1; omega
  have e4 : CZ n (u + n + 1) = -SZ n (u + 1) := by rw [show u + n + 1 = u + 1 + n by omega]; exact CZ_quarter hn (u + 1)
  obtain ⟨h1, h2, h3, h4⟩ := h
  constructor
  · rw [e1, e2, e3, Int.neg_mul]; omega
  · rw [e1, e2, e3, Int.neg_mul]; omega
  · rw [e1, e2, e4, Int.neg_mul, Int.mul_neg]; omega
  · rw [e1, e2, e4, Int.neg_mul, Int.mul_neg]; omega

theorem nextOk (hn : 1 ≤ n) (hs : ∀ w, 0 ≤ w → w < n → StepOk n w) (u : Int) : NextOk n u := by
  have base : ∀ w k, 0 ≤ w → w < n → NextOk n (w + 4 * n * k) := by
    intro w k h1 h2
    have a := SZ_at (n := n) (w := w) (k := k) hn (by omega)
    have b := SZ_at (n := n) (w := w + 1) (k := k) hn (by omega)
    have c := SZ_one hn
    obtain ⟨q1, q2, q3, q4⟩ := hs w h1 h2
    have e : w + 4 * n * k + 1 = w + 1 + 4 * n * k := by omega
    rw [show n - (w + 1) = n - w - 1 by omega] at b
    constructor
    · rw [e, a.1, a.2, b.1, c.1, c.2]; exact q1
    · rw [e, a.1, a.2, b.1, c.1, c.2]; exact q2
    · rw [e, a.1, a.2, b.2, c.1, c.2]; exact q3
    · rw [e, a.1, a.2, b.2, c.1, c.2]; exact q4
  obtain ⟨w, k, h1, h2, h | h | h | h⟩ := quad_cases (show 0 < n by omega) u
  · rw [h]; exact base w k h1 h2
  · have := (base w k h1 h2).quarter hn
    rwa [show w + 4 * n * k + n = u by omega] at this
  · have := ((base w k h1 h2).quarter hn).quarter hn
    rwa [show w + 4 * n * k + n + n = u by omega] at this
  · have := (((base w k h1 h2).quarter hn).quarter hn).quarter hn
    rwa [show w + 4 * n * k + n + n + n = u by omega] at this

end
end Go.Ev
