/-
  The table of contracts begins: equality of plain structs, functions without a body. No condition.
-/
import Derived.Test.YthnfmabjjndhhaaSine
import Derived.Test.YthnfmabjjndhhaaRows
import Derived.WalkKit
import Derived.Laws.Externs
namespace Go.Ev
open Go Go.Proofs

theorem zero23 : zeroD Try.prog 23 = some [.int .i64 0, .int .i64 0] := by kernel_rfl

set_option maxRecDepth 100000 in
set_option maxHeartbeats 4000000 in
theorem eq23 : EqOK Try.prog 23 := by
  refine eqok_of (by kernel_rfl) ?_
  intro z a b w hz ha hb
  rw [zero23] at hz
  cases hz
  obtain ⟨a0, r, rfl, h0, ha⟩ := fits_cons ha
  obtain ⟨a1, r, rfl, h1, ha⟩ := fits_cons ha
  cases fits_nil ha
  obtain ⟨b0, r, rfl, k0, hb⟩ := fits_cons hb
  obtain ⟨b1, r, rfl, k1, hb⟩ := fits_cons hb
  cases fits_nil hb
  obtain ⟨a0, rfl⟩ := same_int h0
  obtain ⟨a1, rfl⟩ := same_int h1
  obtain ⟨b0, rfl⟩ := same_int k0
  obtain ⟨b1, rfl⟩ := same_int k1
  clear ha hb h0 k0 h1 k1
  show _ = Result.ok ((a0 == b0) && ((a1 == b1) && true)) w
  cases e0 : a0 == b0
  · have := beq_eq_false_iff_ne.1 e0
    simp [go_sem, D.val, this]
  cases beq_iff_eq.1 e0
  cases e1 : a1 == b1
  · have := beq_eq_false_iff_ne.1 e1
    simp [go_sem, D.val, this]
  cases beq_iff_eq.1 e1
  simp [go_sem, D.val]

theorem zero31 : zeroD Try.prog 31 = some [.int .i64 0, .int .i64 0] := by kernel_rfl

set_option maxRecDepth 100000 in
set_option maxHeartbeats 4000000 in
theorem eq31 : EqOK Try.prog 31 := by
  refine eqok_of (by kernel_rfl) ?_
  intro z a b w hz ha hb
  rw [zero31] at hz
  cases hz
  obtain ⟨a0, r, rfl, h0, ha⟩ := fits_cons ha
  obtain ⟨a1, r, rfl, h1, ha⟩ := fits_cons ha
  cases fits_nil ha
  obtain ⟨b0, r, rfl, k0, hb⟩ := fits_cons hb
  obtain ⟨b1, r, rfl, k1, hb⟩ := fits_cons hb
  cases fits_nil hb
  obtain ⟨a0, rfl⟩ := same_int h0
  obtain ⟨a1, rfl⟩ := same_int h1
  obtain ⟨b0, rfl⟩ := same_int k0
  obtain ⟨b1, rfl⟩ := same_int k1
  clear ha hb h0 k0 h1 k1
  show _ = Result.ok ((a0 == b0) && ((a1 == b1) && true)) w
  cases e0 : a0 == b0
  · have := beq_eq_false_iff_ne.1 e0
    simp [go_sem, D.val, this]
  cases beq_iff_eq.1 e0
  cases e1 : a1 == b1
  · have := beq_eq_false_iff_ne.1 e1
    simp [go_sem, D.val, this]
  cases beq_iff_eq.1 e1
  simp [go_sem, D.val]

def EQT : List Nat := [23, 31]

theorem hEQT : ∀ t, t ∈ EQT → EqOK Try.prog t := by
  intro t ht
  simp only [EQT, List.mem_cons, List.not_mem_nil, or_false] at ht
  rcases ht with rfl | rfl
  · exact eq23
  · exact eq31

theorem hmT : Try.prog.follows .mixedOrders = true := by kernel_rfl

def XT : Nat → List AV → (AV → Ans) → Ans := fun _ _ _ => none

theorem hXT : ∀ f xs K r, XT f xs K = some r → ∃ v, ExtA Try.prog f xs v ∧ K v = some r := fun _ _ _ _ h => by cases h

def GT : Nat → Option (List D) := fun _ => none
def gbT : Nat := 0
def T0 : Nat → List AV → List Blk → (AV → List Blk → Ans) → Ans := fun _ _ _ _ => none
theorem g0 : GOK Try.prog GT gbT T0 XT := GOK.none hXT

end Go.Ev
