/-
  The evaluator over a list of operations, in the order of the text: sound.
-/
import Derived.Test.YtdmmnpgkidghnaaEvH
namespace Go.Ev
open Go

structure GOK (P : Program) (G : Nat → Option (List D)) (gb : Nat) (Γ : Nat → List AV → List Blk → (AV → List Blk → Ans) → Ans) (X : Nat → List AV → (AV → Ans) → Ans) : Prop where
  call : ∀ f as bs K r, Γ f as bs K = some r → ∃ v M, Enters P f ∧ CallsA P G gb f as bs v M ∧ K v M = some r
  ext : ∀ f as K r, X f as K = some r → ∃ v, ExtA P f as v ∧ K v = some r

def wantA (ops : List Oper) (o : Oper) (T : TS) : Option Bool :=
  match o.guard with
  | none => some true
  | some g => match dstOf ops g.1 with
    | none => none
    | some d => match tget T d with
      | .v (.c (.d (.bool b))) => some (b == g.2)
      | .tup [] => some false
      | _ => none

inductive Trace (P : Program) (G : Nat → Option (List D)) (gb : Nat) (EQ : Tab) (dr : Bool) (ops : List Oper) : List Oper → TS → List Blk → Nat → List Tr → TS → List Blk → Nat → Prop
  | nil {T M N} : Trace P G gb EQ dr ops [] T M N [] T M N
  | did {o r T M N v s tr T' M' N'} : wantA ops o T = some true → Reach P G gb (opO P G EQ o T M N) v s →
      Trace P G gb EQ dr ops r (setT T o.dst v) (puts M s) (nextN dr N s) tr T' M' N' → Trace P G gb EQ dr ops (o :: r) T M N (⟨true, v, s, readsOf o.op T⟩ :: tr) T' M' N'
  | skip {o r T M N tr T' M' N'} : wantA ops o T = some false → Trace P G gb EQ dr ops r (setT T o.dst undefA) M (nextN dr N []) tr T' M' N' → Trace P G gb EQ dr ops (o :: r) T M N (.skip :: tr) T' M' N'

section
variable {P : Program} {G : Nat → Option (List D)} {gb : Nat} {EQ : Tab} {Γ : Nat → List AV → List Blk → (AV → List Blk → Ans) → Ans} {X : Nat → List AV → (AV → Ans) → Ans}

theorem run_reach (hΓ : GOK P G gb Γ X) : ∀ (t : Tm) (K : AV → Sets → Ans) (r : Res), t.run Γ X K = some r → ∃ v s, Reach P G gb t v s ∧ K v s = some r
  | .fail, K, r, h => by cases h
  | .leaf v s, K, r, h => ⟨v, s, ⟨rfl, rfl⟩, h⟩
  | .br b x y, K, r, h => by
    cases b with
    | true => obtain ⟨v, s, h1, h2⟩ := run_reach hΓ x K r h; exact ⟨v, s, .inl ⟨rfl, h1⟩, h2⟩
    | false => obtain ⟨v, s, h1, h2⟩ := run_reach hΓ y K r h; exact ⟨v, s, .inr ⟨rfl, h1⟩, h2⟩
  | .call f as bs k, K, r, h => by
    obtain ⟨v, M, h1, h2, h3⟩ := hΓ.call f as bs _ r h
    obtain ⟨u, s, h4, h5⟩ := run_reach hΓ (k v M) K r h3
    exact ⟨u, s, ⟨v, M, h1, h2, h4⟩, h5⟩
  | .ext f as k, K, r, h => by
    obtain ⟨v, h1, h2⟩ := hΓ.ext f as _ r h
    obtain ⟨u, s, h4, h5⟩ := run_reach hΓ (k v) K r h2
    exact ⟨u, s, ⟨v, h1, h4⟩, h5⟩

theorem evOps_trace (hΓ : GOK P G gb Γ X) (dr : Bool) (ops : List Oper) : ∀ (l : List Oper) (T : TS) (M : List Blk) (N : Nat) (tr0 : List Tr) (K : TS → List Blk → Nat → List Tr → Ans) (r : Res),
    evOps P G EQ Γ X dr ops l T M N tr0 K = some r → ∃ tr T' M' N', Trace P G gb EQ dr ops l T M N tr T' M' N' ∧ K T' M' N' (tr.reverse ++ tr0) = some r
  | [], T, M, N, tr0, K, r, h => ⟨[], T, M, N, .nil, h⟩
  | o :: l, T, M, N, tr0, K, r, h => by
    unfold evOps at h
    split at h
    · rename_i hg
      obtain ⟨v, s, h1, h2⟩ := run_reach hΓ _ _ _ h
      obtain ⟨tr, T', M', N', h3, h4⟩ := evOps_trace hΓ dr ops l _ _ _ _ K r h2
      exact ⟨_, T', M', N', .did (by simp [wantA, hg]) h1 h3, by simpa using h4⟩
    · rename_i g hg
      split at h
      · cases h
      · rename_i d hd
        split at h
        · rename_i b hb
          cases b with
          | true =>
            have hT : tfix (abool true) T d = T := tfix_same hb
            simp only [cond_true, hT] at h
            split at h
            · rename_i hw
              obtain ⟨v, s, h1, h2⟩ := run_reach hΓ _ _ _ h
              obtain ⟨tr, T', M', N', h3, h4⟩ := evOps_trace hΓ dr ops l _ _ _ _ K r h2
              exact ⟨_, T', M', N', .did (by simp [wantA, hg, hd, hb, hw]) h1 h3, by simpa using h4⟩
            · rename_i hw
              obtain ⟨tr, T', M', N', h3, h4⟩ := evOps_trace hΓ dr ops l _ _ _ _ K r h
              exact ⟨_, T', M', N', .skip (by simp [wantA, hg, hd, hb, hw]) h3, by simpa using h4⟩
          | false =>
            have hT : tfix (abool false) T d = T := tfix_same hb
            simp only [cond_false, hT] at h
            split at h
            · rename_i hw
              obtain ⟨v, s, h1, h2⟩ := run_reach hΓ _ _ _ h
              obtain ⟨tr, T', M', N', h3, h4⟩ := evOps_trace hΓ dr ops l _ _ _ _ K r h2
              exact ⟨_, T', M', N', .did (by simp [wantA, hg, hd, hb, hw]) h1 h3, by simpa using h4⟩
            · rename_i hw
              obtain ⟨tr, T', M', N', h3, h4⟩ := evOps_trace hΓ dr ops l _ _ _ _ K r h
              exact ⟨_, T', M', N', .skip (by simp [wantA, hg, hd, hb, hw]) h3, by simpa using h4⟩
        · rename_i hb
          obtain ⟨tr, T', M', N', h3, h4⟩ := evOps_trace hΓ dr ops l _ _ _ _ K r h
          exact ⟨_, T', M', N', .skip (by simp [wantA, hg, hd, hb]) h3, by simpa using h4⟩
        · cases h

theorem wanted_of {ops : Array Oper} {o : Oper} {T : TS} {σ : Sg} {a : Act} {b : Bool} (hT : TRel σ T a) (h : wantA ops.toList o T = some b) : Region.wanted o (yielded ops a.tmps) = b := by
  unfold wantA at h
  unfold Region.wanted
  split at h
  · rename_i hg; cases h; rw [hg]
  · rename_i g hg
    rw [hg]
    obtain ⟨j, want⟩ := g
    simp only at h ⊢
    split at h
    · cases h
    · rename_i d hd
      have hd' : (ops[j]?).bind (·.dst) = some d := by simpa [dstOf] using hd
      have hv := hT.val d
      unfold yielded
      rw [hd']
      simp only [Option.bind_some]
      split at h
      · rename_i x hx
        rw [hx] at hv
        have hv' : a.tmps.getD d undef = .bool x := hv.1
        have : a.tmps[d]? = some (.bool x) := by
          cases ht : a.tmps[d]? with
          | none => rw [Array.getD_eq_getD_getElem?, ht] at hv'; cases hv'
          | some u => rw [Array.getD_eq_getD_getElem?, ht] at hv'; simp only [Option.getD_some] at hv'; rw [hv']
        rw [this]
        cases h
        cases x <;> cases want <;> rfl
      · rename_i hx
        rw [hx] at hv
        cases h
        obtain ⟨vs, h1, h2⟩ := hv
        cases ht : a.tmps[d]? with
        | none => rfl
        | some u =>
          rw [Array.getD_eq_getD_getElem?, ht] at h1
          simp only [Option.getD_some] at h1
          subst h1
          rfl
      · cases h

theorem undef_rel (σ : Sg) : AVRel σ undefA undef := ⟨#[], rfl, trivial⟩

theorem nextN_fresh {dr : Bool} {σ τ : Sg} {N : Nat} {s : Sets} (hN : ∀ b, N ≤ b → σ b = none) (h1 : ∀ b, b ≠ N → τ b = σ b) (h2 : (∀ p ∈ s, p.1 ≠ N) → τ N = none) : ∀ b, nextN dr N s ≤ b → τ b = none := by
  intro b hb
  by_cases e : b = N
  · subst e
    refine h2 fun p hp e => ?_
    have : s.any (fun x => x.1 == b) = true := List.any_eq_true.2 ⟨p, hp, by simp [e]⟩
    simp only [nextN, this, Bool.or_true, cond_true] at hb
    omega
  · rw [h1 b e]
    refine hN b ?_
    unfold nextN at hb
    cases h : (dr || s.any (fun x => x.1 == N)) <;> simp only [h, cond_true, cond_false] at hb <;> omega

theorem trace_seq (hEQ : ∀ t, t ∈ EQ.eq → EqOK P t) {dr : Bool} {ops : Array Oper} {w0 : World} {W : Nat → Prop} (hG : Glob G gb W w0) {Q : Exit → Act → World → Prop} {l : List Oper} {T T' : TS} {M M' : List Blk} {N N' : Nat} {tr : List Tr}
    (h : Trace P G gb EQ dr ops.toList l T M N tr T' M' N') : ∀ {σ : Sg} {a : Act} {w : World}, TRel σ T a → MRel w0 W σ M w → (∀ b, N ≤ b → σ b = none) →
      (∀ τ a' w', σ.le τ → TRel τ T' a' → MRel w0 W τ M' w' → (∀ b, N' ≤ b → τ b = none) → Q .normal a' w') → wpList P ops Q l a w := by
  induction h with
  | nil =>
    intro σ a w hT hM hN hQ
    exact hQ σ a w (Sg.le_refl _) hT hM hN
  | did hwant hr _ ih =>
    intro σ a w hT hM hN hQ
    unfold wpList
    rw [if_pos (wanted_of hT hwant)]
    refine .inl (opO_sound hEQ hr hT hM hG (hN _ (Nat.le_refl _)) ?_)
    intro τ v' w' hle h1 h2 hv hM'
    exact ih ((hT.mono hle).put _ hv) hM' (nextN_fresh hN h1 h2) fun υ a' w'' hle' => hQ υ a' w'' (Sg.le_trans hle hle')
  | skip hwant _ ih =>
    intro σ a w hT hM hN hQ
    unfold wpList
    rw [if_neg (by rw [wanted_of hT hwant]; simp)]
    exact ih (hT.put _ (undef_rel σ)) hM (nextN_fresh (s := []) hN (fun _ _ => rfl) (fun _ => hN _ (Nat.le_refl _))) hQ

end
end Go.Ev
