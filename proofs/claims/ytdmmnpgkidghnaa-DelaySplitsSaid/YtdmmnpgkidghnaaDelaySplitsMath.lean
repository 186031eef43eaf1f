/-
  The plain law behind DelaySplits: both ways to join parts agree.
-/
import Derived.Test.YtdmmnpgkidghnaaPCA
import Derived.Test.YtdmmnpgkidghnaaMathA
namespace Go.Ev
open Go Go.Proofs

theorem spanValid_iff {a : Span} : spanValid a = true ↔ a.lo ≤ a.hi ∧ -3000000000 ≤ a.lo ∧ a.hi ≤ 3000000000 := by
  unfold spanValid
  by_cases h1 : a.lo ≤ a.hi <;> by_cases h2 : -3000000000 ≤ a.lo <;> by_cases h3 : a.hi ≤ 3000000000 <;> simp [h1, h2, h3]

theorem spanValid_false {a : Span} (h : ¬ (a.lo ≤ a.hi ∧ -3000000000 ≤ a.lo ∧ a.hi ≤ 3000000000)) : spanValid a = false := by
  cases hv : spanValid a with
  | false => rfl
  | true => exact absurd (spanValid_iff.1 hv) h

theorem partB_iff {a : Span} : partB a = true ↔ a.lo ≤ a.hi ∧ -500000 ≤ a.lo ∧ a.hi < 500000 := by
  unfold partB
  by_cases h1 : a.lo ≤ a.hi <;> by_cases h2 : -500000 ≤ a.lo <;> by_cases h3 : a.hi < 500000 <;> simp [h1, h2, h3]

theorem join_eq (d : Delay) : delayJoin d = refJoin d := by
  obtain ⟨wh, lo, hi⟩ := d
  cases hp : partB ⟨lo, hi⟩ with
  | false =>
    have hn : ¬ (lo ≤ hi ∧ -500000 ≤ lo ∧ hi < 500000) := fun h => by rw [partB_iff.2 h] at hp; cases hp
    unfold delayJoin refJoin
    simp only [hp, Bool.not_false, cond_true]
    cases hv : spanValid ⟨lo, hi⟩ with
    | false => rfl
    | true =>
      have h := spanValid_iff.1 hv
      simp only at h
      simp only [Bool.not_true, cond_false]
      by_cases h1 : lo < -500000
      · rw [decide_eq_true h1]; rfl
      · rw [decide_eq_false h1, decide_eq_true (show 500000 ≤ hi by omega)]; rfl
  | true =>
    have h := partB_iff.1 hp
    simp only at h
    have hv : spanValid ⟨lo, hi⟩ = true := spanValid_iff.2 ⟨by simp only; omega, by simp only; omega, by simp only; omega⟩
    unfold delayJoin refJoin
    simp only [hp, hv, Bool.not_true, cond_false]
    rw [decide_eq_false (show ¬ lo < -500000 by omega), decide_eq_false (show ¬ 500000 ≤ hi by omega)]
    simp only [cond_false]
    have big : ∀ k : Int, (k < -3001 ∨ 3001 < k) → -4000 ≤ k → k ≤ 4000 → spanValid ⟨w64 (lo + w64 (k * 1000000)), w64 (hi + w64 (k * 1000000))⟩ = false := by
      intro k hk h1 h2
      have e1 : w64 (k * 1000000) = k * 1000000 := w64_id (by omega) (by omega)
      rw [e1, w64_id (by omega) (by omega), w64_id (by omega) (by omega)]
      refine spanValid_false fun hh => ?_
      simp only at hh
      omega
    by_cases h1 : wh < -3001
    · have hc : clampW wh < -3001 ∧ -4000 ≤ clampW wh := by unfold clampW; split <;> split <;> omega
      rw [decide_eq_true h1, big (clampW wh) (.inl hc.1) hc.2 (by omega)]
      rfl
    · rw [decide_eq_false h1]
      by_cases h2 : 3001 < wh
      · have hc : 3001 < clampW wh ∧ clampW wh ≤ 4000 := by unfold clampW; split <;> split <;> omega
        rw [decide_eq_true h2, big (clampW wh) (.inr hc.1) (by omega) hc.2]
        rfl
      · have hc : clampW wh = wh := by unfold clampW; split <;> split <;> omega
        rw [decide_eq_false h2, hc]
        rfl

theorem true_DelaySplits (l0 l1 : List D) (h0 : FitsR [.int .i64 0, .int .i64 0] l0) (h1 : FitsR [.int .i64 0, .int .i64 0, .int .i64 0] l1) (K : AV → List Blk → Ans) :
    T_fringelaw09_DelaySplits 3 [.v (.agg l0), .v (.agg l1)] [] K = K (abool true) [] := by
  match l0, h0 with
  | [.int _ lo, .int _ hi], ⟨⟨rfl, _⟩, ⟨rfl, _⟩, _⟩ =>
    match l1, h1 with
    | [.int _ wh, .int _ plo, .int _ phi], ⟨⟨rfl, _⟩, ⟨rfl, _⟩, ⟨rfl, _⟩, _⟩ =>
      show K (rB (lawDelaySplits ⟨lo, hi⟩ ⟨wh, ⟨plo, phi⟩⟩)) [] = _
      unfold lawDelaySplits
      rw [join_eq]
      simp only [eqAll_self, cond_true, beq_self_eq_true]
      rfl

end Go.Ev
