/-
  Contracts of loops by any function of the state. No condition.
-/
import Derived.Test.YtdmmnpgkidghnaaLoop
namespace Go.Ev
open Go

def LamG (key n : Nat) (f : TS → List Blk → Nat → LT) : Nat → TS → List Blk → Nat → LT := fun k T M N => bif k == key && T.length == n then f T M N else .no

theorem find_of' {ks : List (Nat × AV)} {T : TS} (h : ∀ p ∈ ks, tget T p.1 = p.2 ∨ p.2 = .any) (i : Nat) : tfind .any ks i = tget T i ∨ tfind .any ks i = .any := by
  induction ks with
  | nil => exact .inr rfl
  | cons p r ih =>
    rw [tfind]
    cases hb : Nat.beq p.1 i with
    | true =>
      rw [cond_true, ← Nat.eq_of_beq_eq_true hb]
      rcases h p (by simp) with e | e
      · exact .inl e.symm
      · exact .inr e
    | false => exact ih fun q hq => h q (by simp [hq])

/-- The same, where nothing may be said of some slots that are listed. -/
theorem less_of' {ks : List (Nat × AV)} {n : Nat} {T : TS} (hl : T.length = n) (h : ∀ p ∈ ks, tget T p.1 = p.2 ∨ p.2 = .any) : Less (maskT ks n) T :=
  ⟨hl.symm, fun t => find_of' h t⟩

section
variable {P : Program} {G : Nat → Option (List D)} {gb : Nat} {EQ : Tab} {Γ : Nat → List AV → List Blk → (AV → List Blk → Ans) → Ans} {X : Nat → List AV → (AV → Ans) → Ans} {Λ : Nat → TS → List Blk → Nat → LT}

theorem LOKb.lamG {b : Code} {n : Nat} {f : TS → List Blk → Nat → LT}
    (h : ∀ T M N x T' M' N', T.length = n → LReach (f T M N) x T' M' N' → x ≠ .normal ∧ ∃ k, RoundsOK P G gb b k T M N x T' M' N') : LOKb P G gb (LamG (loopKey b) n f) b := by
  intro T M N x T' M' N' hr
  unfold LamG at hr
  simp only [cond_eq_ite, Bool.and_eq_true, beq_iff_eq, beq_self_eq_true, true_and] at hr
  split at hr
  · rename_i hl
    exact h T M N x T' M' N' hl hr
  · exact hr.elim

theorem LOKb.lamG_other {b : Code} {key n : Nat} {f : TS → List Blk → Nat → LT} (hk : loopKey b ≠ key) : LOKb P G gb (LamG key n f) b := by
  intro T M N x T' M' N' hr
  unfold LamG at hr
  have : (loopKey b == key) = false := by simpa using hk
  rw [this] at hr
  exact hr.elim

/-- The last round, however it ends. -/
theorem RoundsOK.stop (hΓ : GOK P G gb Γ X) (hEQ : ∀ t, t ∈ EQ.eq → EqOK P t) (hm : P.follows .mixedOrders = true) {fuel : Nat} {b : Code} {T T1 : TS} {M M1 : List Blk} {N N1 : Nat} {x : Ex} {keep : List Nat} (hL : LOK P G gb Λ (loopsIn b)) (hx : x ≠ .normal)
    (h : evCode P G EQ Γ X Λ fuel b T M N (fun x T M N => some (.st x (forget keep T) M N)) = some (.st x T1 M1 N1)) : RoundsOK P G gb b 1 T M N x T1 M1 N1 := by
  obtain ⟨x', T3, M3, N3, h1, h2, _⟩ := evCode_sound hEQ hm hΓ fuel b T M N _ _ hL h
  cases h2
  intro w0 W σ a w Q hG hT hM hN hQ
  rw [rounds_succ]
  refine h1 w0 W σ a w _ hG hT hM hN fun τ a' w' hle hT' hM' hN' => ?_
  have := hQ τ a' w' hle (hT'.less (forget_less _ _)) hM' hN'
  cases x with
  | normal => exact absurd rfl hx
  | exit id => exact this
  | ret => exact this

end
end Go.Ev
