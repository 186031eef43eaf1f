/-
  Contracts by the evaluator, where the ranges of the arguments may be used. No condition.
-/
import Derived.Test.YtdmmnpgkidghnaaEvL
namespace Go.Ev
open Go

def datas : AV → List D
  | .v (.c (.d x)) => [x]
  | .v (.agg l) => l
  | _ => []

def datasL : List AV → List D
  | [] => []
  | x :: r => datas x ++ datasL r

theorem AVRels.datas {σ : Sg} : ∀ {xs : List AV} {vs : List Value}, AVRels σ xs vs → ∀ d ∈ datasL xs, d.ok
  | [], [], _ => by simp [datasL]
  | x :: r, v :: s, ⟨h1, h2⟩ => by
    intro d hd
    simp only [datasL, List.mem_append] at hd
    rcases hd with hd | hd
    · unfold Ev.datas at hd
      split at hd
      · simp only [List.mem_singleton] at hd; subst hd; exact h1.2
      · exact h1.2 d hd
      · cases hd
    · exact AVRels.datas h2 d hd
  | [], _ :: _, hh => hh.elim
  | _ :: _, [], hh => hh.elim

theorem inR_i64 {n : Int} (h : inR .i64 n = true) : -9223372036854775808 ≤ n ∧ n ≤ 9223372036854775807 := by simpa [inR] using h
theorem inR_u64 {n : Int} (h : inR .u64 n = true) : 0 ≤ n ∧ n ≤ 18446744073709551615 := by simpa [inR] using h
theorem inR_u8 {n : Int} (h : inR .u8 n = true) : 0 ≤ n ∧ n ≤ 255 := by simpa [inR] using h

section
variable {P : Program} {G : Nat → Option (List D)} {gb : Nat} {EQ : Tab} {Γ : Nat → List AV → List Blk → (AV → List Blk → Ans) → Ans} {X : Nat → List AV → (AV → Ans) → Ans} {Λ : Nat → TS → List Blk → Nat → LT}

/-- The ranges of the arguments may be used. -/
theorem CallsA.ofOk {f : Nat} {xs : List AV} {bs M : List Blk} {v : AV} (h : (∀ d ∈ datasL xs, d.ok) → CallsA P G gb f xs bs v M) : CallsA P G gb f xs bs v M :=
  fun σ w args h1 h2 h3 h4 => h h1.datas σ w args h1 h2 h3 h4

theorem CallsA.ofEv (hΓ : GOK P G gb Γ X) (hEQ : ∀ t, t ∈ EQ.eq → EqOK P t) (hm : P.follows .mixedOrders = true) {n f : Nat} {xs : List AV} {bs M : List Blk} {v : AV}
    (hL : ∀ fn c, P.funcs[f]? = some fn → fn.body = some c → LOK P G gb Λ (loopsIn c)) (h : evFn P G EQ Γ X Λ n f xs bs (fun v M => some (.fin v (M.take bs.length))) = some (.fin v M)) : CallsA P G gb f xs bs v M := by
  obtain ⟨v', M', h1, h2⟩ := evFn_sound hEQ hm hΓ hL h
  cases h2
  refine h1.drop fun b => ?_
  rw [mget, mget, gets_eq, gets_eq, List.getD_eq_getElem?_getD, List.getElem?_take]
  split
  · exact .inl (by rw [List.getD_eq_getElem?_getD])
  · exact .inr rfl

end
end Go.Ev
