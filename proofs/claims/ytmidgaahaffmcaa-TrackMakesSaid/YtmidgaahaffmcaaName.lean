/-
  Names: a letter, then letters, digits and hyphens. No program here.
-/
import Derived.Test.YtmidgaahaffmcaaLoopG
import Derived.Test.YtmidgaahaffmcaaSpec
namespace Go.Ev
open Go

/-- What a byte of a name leads to. -/
def nameStep {α : Type} (c : Int) (bad ok : α) : α :=
  bif decide (c < 97) then (bif decide (c < 48) then (bif c != 45 then bad else ok) else (bif decide (57 < c) then (bif c != 45 then bad else ok) else ok))
  else (bif decide (122 < c) then (bif decide (c < 48) then (bif c != 45 then bad else ok) else (bif decide (57 < c) then (bif c != 45 then bad else ok) else ok)) else ok)

/-- The same with each index looked at anew. -/
def nameStepR (b : Bool) (c : Int) (bad ok : Ans) : Ans :=
  bif decide (c < 97) then (bif b then (bif decide (c < 48) then (bif b then (bif c != 45 then bad else ok) else none) else (bif b then (bif decide (57 < c) then (bif b then (bif c != 45 then bad else ok) else none) else ok) else none)) else none)
  else (bif b then (bif decide (122 < c) then (bif b then (bif decide (c < 48) then (bif b then (bif c != 45 then bad else ok) else none) else (bif b then (bif decide (57 < c) then (bif b then (bif c != 45 then bad else ok) else none) else ok) else none)) else none) else ok) else none)

theorem nameStepR_eq (b : Bool) (c : Int) (bad ok : Ans) : (bif b then nameStepR b c bad ok else none) = bif b then nameStep c bad ok else none := by
  cases b <;> rfl

def byteOk (c : Int) : Bool := nameStep c false true

theorem nameStep_eq {α : Type} (c : Int) (bad ok : α) : nameStep c bad ok = bif byteOk c then ok else bad := by
  unfold byteOk nameStep
  cases decide (c < 97) <;> cases decide (c < 48) <;> cases c != 45 <;> cases decide (57 < c) <;> cases decide (122 < c) <;> rfl

/-- The bytes from i on, m of them. -/
def restOk (s : ByteArray) (i : Int) : Nat → Bool
  | 0 => true
  | m + 1 => bif byteOk (byteAt s i) then restOk s (i + 1) m else false

def namedB (s : ByteArray) : Bool :=
  bif decide ((s.size : Int) < 1) then false else bif decide (40 < (s.size : Int)) then false else bif decide (byteAt s 0 < 97) then false else bif decide (122 < byteAt s 0) then false else restOk s 0 s.size

section
variable {P : Program} {G : Nat → Option (List D)} {gb : Nat} {EQ : List Nat} {Γ : Nat → List AV → List Blk → (AV → List Blk → Ans) → Ans} {X : Nat → List AV → (AV → Ans) → Ans}

theorem name_rounds (hΓ : GOK P G gb Γ X) (hEQ : ∀ t, t ∈ EQ → EqOK P t) (hm : P.follows .mixedOrders = true) {c : Code} {e fuel NN : Nat} {M : List Blk} {keep : List Nat} (s : ByteArray) (hs : (s.size : Int) ≤ 1000) (TT : Int → TS) (T1 T2 : TS)
    (hl1 : ∀ i, Less T1 (TT i)) (TB : Int → TS) (hl2 : ∀ i, Less T2 (TB i))
    (hb : ∀ i : Int, evCode P G EQ Γ X noL fuel c (TT i) M NN (fun x T M N => some (.st x (forget keep T) M N)) =
      bif decide (i < (s.size : Int)) then (bif decide (0 ≤ i) && decide (i < (s.size : Int)) then nameStep (byteAt s i) (some (.st .ret (TB i) M NN)) (some (.st .normal (TT (w64 (i + 1))) M NN)) else none)
      else some (.st (.exit e) (TT i) M NN)) :
    ∀ (m : Nat) (i : Int), 0 ≤ i → i + m = s.size → (restOk s i m = true → ∃ k, RoundsOK P G gb c k (TT i) M NN (.exit e) T1 M NN) ∧ (restOk s i m = false → ∃ k, RoundsOK P G gb c k (TT i) M NN .ret T2 M NN) := by
  intro m
  induction m with
  | zero =>
    intro i h0 h1
    refine ⟨fun _ => ?_, fun h => by simp [restOk] at h⟩
    have h := hb i
    rw [decide_eq_false (by omega), cond_false] at h
    exact ⟨1, (RoundsOK.fin (Λ := noL) hΓ hEQ hm (noL_ok _) h).weak (hl1 _)⟩
  | succ m ih =>
    intro i h0 h1
    have h := hb i
    rw [decide_eq_true (show i < (s.size : Int) by omega), decide_eq_true (show 0 ≤ i by omega), nameStep_eq, show w64 (i + 1) = i + 1 by simp only [w64, wr]; omega] at h
    simp only [Bool.and_self, cond_true] at h
    rw [restOk]
    cases hc : byteOk (byteAt s i) with
    | true =>
      rw [hc, cond_true] at h
      simp only [cond_true]
      obtain ⟨p, q⟩ := ih (i + 1) (by omega) (by omega)
      refine ⟨fun hh => ?_, fun hh => ?_⟩
      · obtain ⟨k, hk⟩ := p hh
        exact ⟨k + 1, RoundsOK.go (Λ := noL) hΓ hEQ hm (noL_ok _) h hk⟩
      · obtain ⟨k, hk⟩ := q hh
        exact ⟨k + 1, RoundsOK.go (Λ := noL) hΓ hEQ hm (noL_ok _) h hk⟩
    | false =>
      rw [hc, cond_false] at h
      simp only [cond_false]
      refine ⟨(fun hh => by cases hh), fun _ => ⟨1, (RoundsOK.stop (Λ := noL) hΓ hEQ hm (noL_ok _) (by simp) h).weak (hl2 _)⟩⟩
end

def nameAns (K : AV → List Blk → Ans) (s : ByteArray) : Ans :=
  bif decide ((s.size : Int) < 1) then K (rB false) [] else bif decide (40 < (s.size : Int)) then K (rB false) [] else
  bif decide ((0 : Int) ≤ 0) && decide ((0 : Int) < (s.size : Int)) then (bif decide (byteAt s 0 < 97) then K (rB false) [] else
    bif decide ((0 : Int) ≤ 0) && decide ((0 : Int) < (s.size : Int)) then (bif decide (122 < byteAt s 0) then K (rB false) [] else
      bif (s.size : Int) == (s.size : Int) && decide ((s.size : Int) ≤ 1000) then (bif restOk s 0 s.size then K (rB true) [] else K (rB false) []) else none) else none) else none

theorem nameAns_ok {K : AV → List Blk → Ans} {s : ByteArray} : nameAns K s = K (rB (namedB s)) [] := by
  unfold nameAns namedB
  by_cases h1 : (s.size : Int) < 1
  · rw [decide_eq_true h1]; rfl
  by_cases h2 : 40 < (s.size : Int)
  · rw [decide_eq_false h1, decide_eq_true h2]; rfl
  rw [decide_eq_false h1, decide_eq_false h2, decide_eq_true (show (0 : Int) < (s.size : Int) by omega), decide_eq_true (show (s.size : Int) ≤ 1000 by omega)]
  simp only [Int.le_refl, decide_true, Bool.and_self, cond_true, cond_false, beq_self_eq_true]
  cases decide (byteAt s 0 < 97) with
  | true => rfl
  | false =>
    cases decide (122 < byteAt s 0) with
    | true => rfl
    | false => cases restOk s 0 s.size <;> rfl

def nameAns' (K : AV → List Blk → Ans) (s : ByteArray) : Ans :=
  bif decide ((s.size : Int) < 1) then K (rB false) [] else bif decide (40 < (s.size : Int)) then K (rB false) [] else
  bif decide ((0 : Int) ≤ 0) && decide ((0 : Int) < (s.size : Int)) then (bif decide (byteAt s 0 < 97) then K (rB false) [] else
    bif decide ((0 : Int) ≤ 0) && decide ((0 : Int) < (s.size : Int)) then (bif decide (122 < byteAt s 0) then K (rB false) [] else
      bif decide ((s.size : Int) ≤ 1000) then (bif restOk s 0 s.size then K (rB true) [] else K (rB false) []) else none) else none) else none

theorem nameAns'_ok {K : AV → List Blk → Ans} {s : ByteArray} : nameAns' K s = K (rB (namedB s)) [] := by
  unfold nameAns' namedB
  by_cases h1 : (s.size : Int) < 1
  · rw [decide_eq_true h1]; rfl
  by_cases h2 : 40 < (s.size : Int)
  · rw [decide_eq_false h1, decide_eq_true h2]; rfl
  rw [decide_eq_false h1, decide_eq_false h2, decide_eq_true (show (0 : Int) < (s.size : Int) by omega), decide_eq_true (show (s.size : Int) ≤ 1000 by omega)]
  simp only [Int.le_refl, decide_true, Bool.and_self, cond_true, cond_false]
  cases decide (byteAt s 0 < 97) with
  | true => rfl
  | false =>
    cases decide (122 < byteAt s 0) with
    | true => rfl
    | false => cases restOk s 0 s.size <;> rfl


end Go.Ev
