/-
  Loops whose contracts may number the function's own blocks anew: the evaluator over code and functions, sound. No condition.
-/
import Derived.Test.YtdmmnpgkidghnaaLoopG
namespace Go.Ev
open Go

def leB (n : Nat) (σ τ : Sg) : Prop := ∀ b L, b < n → σ b = some L → τ b = some L

theorem leB.refl (n : Nat) (σ : Sg) : leB n σ σ := fun _ _ _ h => h
theorem leB.trans {n : Nat} {σ τ υ : Sg} (h : leB n σ τ) (k : leB n τ υ) : leB n σ υ := fun b L hb e => k b L hb (h b L hb e)
theorem leB.of_le {n : Nat} {σ τ : Sg} (h : σ.le τ) : leB n σ τ := fun b L _ e => h b L e

section
variable {P : Program} {G : Nat → Option (List D)} {gb : Nat} {EQ : Tab} {Γ : Nat → List AV → List Blk → (AV → List Blk → Ans) → Ans} {X : Nat → List AV → (AV → Ans) → Ans} {Λ : Nat → TS → List Blk → Nat → LT} {n0 : Nat}

/-- What a piece of code comes to; blocks from n0 on may have other numbers behind it. -/
def CodeN (P : Program) (G : Nat → Option (List D)) (gb n0 : Nat) (c : Code) (T : TS) (M : List Blk) (N : Nat) (x : Ex) (T' : TS) (M' : List Blk) (N' : Nat) : Prop :=
  ∀ (w0 : World) (W : Nat → Prop) (σ : Sg) (a : Act) (w : World) (Q : Exit → Act → World → Prop), Glob G gb W w0 → TRel σ T a → MRel w0 W σ M w → (∀ b, N ≤ b → σ b = none) →
    (∀ τ a' w', leB n0 σ τ → TRel τ T' a' → MRel w0 W τ M' w' → (∀ b, N' ≤ b → τ b = none) → Q (toExit x) a' w') → c.wp P Q a w

def RoundsN (P : Program) (G : Nat → Option (List D)) (gb n0 : Nat) (c : Code) (k : Nat) (T : TS) (M : List Blk) (N : Nat) (x : Ex) (T' : TS) (M' : List Blk) (N' : Nat) : Prop :=
  ∀ (w0 : World) (W : Nat → Prop) (σ : Sg) (a : Act) (w : World) (Q : Exit → Act → World → Prop), Glob G gb W w0 → TRel σ T a → MRel w0 W σ M w → (∀ b, N ≤ b → σ b = none) →
    (∀ τ a' w', leB n0 σ τ → TRel τ T' a' → MRel w0 W τ M' w' → (∀ b, N' ≤ b → τ b = none) → Q (toExit x) a' w') → Code.rounds P c Q k a w

def LOKn (P : Program) (G : Nat → Option (List D)) (gb n0 : Nat) (Λ : Nat → TS → List Blk → Nat → LT) (l : List Code) : Prop :=
  ∀ b ∈ l, ∀ T M N x T' M' N', LReach (Λ (loopKey b) T M N) x T' M' N' → x ≠ .normal ∧ ∃ k, RoundsN P G gb n0 b k T M N x T' M' N'

theorem RoundsOK.n {b : Code} {k : Nat} {T T' : TS} {M M' : List Blk} {N N' : Nat} {x : Ex} (h : RoundsOK P G gb b k T M N x T' M' N') : RoundsN P G gb n0 b k T M N x T' M' N' :=
  fun w0 W σ a w Q hG hT hM hN hQ => h w0 W σ a w Q hG hT hM hN fun τ a' w' hle => hQ τ a' w' (leB.of_le hle)

theorem LOK.n {l : List Code} (h : LOK P G gb Λ l) : LOKn P G gb n0 Λ l := fun b hb T M N x T' M' N' hr => by
  obtain ⟨h1, k, h2⟩ := h b hb T M N x T' M' N' hr
  exact ⟨h1, k, h2.n⟩

theorem evCode_soundN (hEQ : ∀ t, t ∈ EQ.eq → EqOK P t) (hm : P.follows .mixedOrders = true) (hΓ : GOK P G gb Γ X) : ∀ (n : Nat) (c : Code) (T : TS) (M : List Blk) (N : Nat) (K : Ex → TS → List Blk → Nat → Ans) (r : Res), LOKn P G gb n0 Λ (loopsIn c) →
    evCode P G EQ Γ X Λ n c T M N K = some r → ∃ x T' M' N', CodeN P G gb n0 c T M N x T' M' N' ∧ K x T' M' N' = some r ∧
      (∀ b, c = .loop b → x ≠ .normal ∧ ∃ k, RoundsN P G gb n0 b k T M N x T' M' N') := by
  intro n
  induction n with
  | zero => intro c T M N K r _ h; cases h
  | succ n ih =>
    intro c T M N K r hL h
    cases c <;> simp only [evCode] at h
    case skip => exact ⟨.normal, T, M, N, fun w0 W σ a w Q hG hT hM hN hQ => wp_skip (hQ σ a w (leB.refl _ _) hT hM hN), h, fun b e => by cases e⟩
    case region id ops draw =>
      cases draw with
      | false =>
        simp only at h
        obtain ⟨tr, T', M', N', h1, h2⟩ := evOps_trace hΓ false ops.toList _ _ _ _ _ _ _ h
        exact ⟨.normal, T', M', N', fun w0 W σ a w Q hG hT hM hN hQ => wp_region_list (trace_seq hEQ hG h1 hT hM hN fun τ a' w' hle => hQ τ a' w' (leB.of_le hle)), h2, fun b e => by cases e⟩
      | true =>
        simp only at h
        obtain ⟨tr, T', M', N', h1, h2⟩ := evOps_trace hΓ true ops.toList _ _ _ _ _ _ _ h
        simp only [List.append_nil, List.reverse_reverse, cond_eq_ite] at h2
        split at h2
        · rename_i hd
          exact ⟨.normal, T', M', endN N N' tr, fun w0 W σ a w Q hG hT hM hN hQ => draw_sound hEQ hm hG h1 hd hT hM hN fun τ a' w' hle => hQ τ a' w' (leB.of_le hle), h2, fun b e => by cases e⟩
        · cases h2
    case seq x y =>
      obtain ⟨e1, T1, M1, N1, h1, h2, _⟩ := ih x T M N _ r (fun b hb => hL b (by simp [loopsIn, hb])) h
      cases e1 with
      | normal =>
        simp only at h2
        obtain ⟨e2, T2, M2, N2, h3, h4, _⟩ := ih y T1 M1 N1 K r (fun b hb => hL b (by simp [loopsIn, hb])) h2
        refine ⟨e2, T2, M2, N2, fun w0 W σ a w Q hG hT hM hN hQ => wp_seq (h1 w0 W σ a w _ hG hT hM hN fun τ a' w' hle hT' hM' hN' => ?_), h4, fun b e => by cases e⟩
        exact h3 w0 W τ a' w' Q hG hT' hM' hN' fun υ a'' w'' hle' => hQ υ a'' w'' (leB.trans hle hle')
      | exit id => exact ⟨.exit id, T1, M1, N1, fun w0 W σ a w Q hG hT hM hN hQ => wp_seq (h1 w0 W σ a w _ hG hT hM hN hQ), h2, fun b e => by cases e⟩
      | ret => exact ⟨.ret, T1, M1, N1, fun w0 W σ a w Q hG hT hM hN hQ => wp_seq (h1 w0 W σ a w _ hG hT hM hN hQ), h2, fun b e => by cases e⟩
    case cond c x y =>
      split at h
      · rename_i b hb
        cases b with
        | true =>
          obtain ⟨e1, T1, M1, N1, h1, h2, _⟩ := ih x T M N K r (fun b hb => hL b (by simp [loopsIn, hb])) h
          exact ⟨e1, T1, M1, N1, fun w0 W σ a w Q hG hT hM hN hQ => wp_cond_true (opdV_rel hT hb).1 (h1 w0 W σ a w Q hG hT hM hN hQ), h2, fun b e => by cases e⟩
        | false =>
          obtain ⟨e1, T1, M1, N1, h1, h2, _⟩ := ih y T M N K r (fun b hb => hL b (by simp [loopsIn, hb])) h
          exact ⟨e1, T1, M1, N1, fun w0 W σ a w Q hG hT hM hN hQ => wp_cond_false (opdV_rel hT hb).1 (h1 w0 W σ a w Q hG hT hM hN hQ), h2, fun b e => by cases e⟩
      · cases h
    case block id b =>
      obtain ⟨e1, T1, M1, N1, h1, h2, _⟩ := ih b T M N _ r (fun b' hb => hL b' (by simp [loopsIn, hb])) h
      cases e1 with
      | normal => exact ⟨.normal, T1, M1, N1, fun w0 W σ a w Q hG hT hM hN hQ => wp_block (h1 w0 W σ a w _ hG hT hM hN hQ), h2, fun b e => by cases e⟩
      | exit id' =>
        simp only [cond_eq_ite, beq_iff_eq] at h2
        by_cases e : id' = id
        · rw [if_pos e] at h2
          exact ⟨.normal, T1, M1, N1, fun w0 W σ a w Q hG hT hM hN hQ => wp_block (h1 w0 W σ a w _ hG hT hM hN fun τ a' w' hle hT' hM' hN' => by simp only [toExit, Exit.inBlock, e, if_true]; exact hQ τ a' w' hle hT' hM' hN'), h2, fun b e => by cases e⟩
        · rw [if_neg e] at h2
          exact ⟨.exit id', T1, M1, N1, fun w0 W σ a w Q hG hT hM hN hQ => wp_block (h1 w0 W σ a w _ hG hT hM hN fun τ a' w' hle hT' hM' hN' => by simp only [toExit, Exit.inBlock, e, if_false]; exact hQ τ a' w' hle hT' hM' hN'), h2, fun b e => by cases e⟩
      | ret => exact ⟨.ret, T1, M1, N1, fun w0 W σ a w Q hG hT hM hN hQ => wp_block (h1 w0 W σ a w _ hG hT hM hN hQ), h2, fun b e => by cases e⟩
    case loop b =>
      have fin : ∀ x T' M' N', x ≠ .normal → (∃ k, RoundsN P G gb n0 b k T M N x T' M' N') → CodeN P G gb n0 (.loop b) T M N x T' M' N' := by
        rintro x T' M' N' _ ⟨k, hk⟩ w0 W σ a w Q hG hT hM hN hQ
        exact wp_loop_rounds k (hk w0 W σ a w Q hG hT hM hN hQ)
      split at h
      · rename_i hno
        obtain ⟨e1, T1, M1, N1, h1, h2, _⟩ := ih b T M N _ r (fun b' hb => hL b' (by simp [loopsIn, hb])) h
        cases e1 with
        | normal =>
          simp only at h2
          obtain ⟨e2, T2, M2, N2, _, h4, h5⟩ := ih (.loop b) T1 M1 N1 K r hL h2
          obtain ⟨hne, k, hk⟩ := h5 b rfl
          have hR : RoundsN P G gb n0 b (k + 1) T M N e2 T2 M2 N2 := by
            intro w0 W σ a w Q hG hT hM hN hQ
            rw [rounds_succ]
            exact h1 w0 W σ a w _ hG hT hM hN fun τ a' w' hle hT' hM' hN' => hk w0 W τ a' w' Q hG hT' hM' hN' fun υ a'' w'' hle' => hQ υ a'' w'' (leB.trans hle hle')
          exact ⟨e2, T2, M2, N2, fin _ _ _ _ hne ⟨_, hR⟩, h4, fun b' e => by cases e; exact ⟨hne, _, hR⟩⟩
        | exit id =>
          have hR : RoundsN P G gb n0 b 1 T M N (.exit id) T1 M1 N1 := by
            intro w0 W σ a w Q hG hT hM hN hQ
            rw [rounds_succ]
            exact h1 w0 W σ a w _ hG hT hM hN hQ
          exact ⟨.exit id, T1, M1, N1, fin _ _ _ _ (by simp) ⟨_, hR⟩, h2, fun b' e => by cases e; exact ⟨by simp, _, hR⟩⟩
        | ret =>
          have hR : RoundsN P G gb n0 b 1 T M N .ret T1 M1 N1 := by
            intro w0 W σ a w Q hG hT hM hN hQ
            rw [rounds_succ]
            exact h1 w0 W σ a w _ hG hT hM hN hQ
          exact ⟨.ret, T1, M1, N1, fin _ _ _ _ (by simp) ⟨_, hR⟩, h2, fun b' e => by cases e; exact ⟨by simp, _, hR⟩⟩
      · obtain ⟨x, T', M', N', h1, h2⟩ := LT.reach _ _ _ h
        obtain ⟨h3, h4⟩ := hL b (by simp [loopsIn]) T M N x T' M' N' h1
        exact ⟨x, T', M', N', fin _ _ _ _ h3 h4, h2, fun b' e => by cases e; exact ⟨h3, h4⟩⟩
    case exit id => exact ⟨.exit id, T, M, N, fun w0 W σ a w Q hG hT hM hN hQ => wp_exit (hQ σ a w (leB.refl _ _) hT hM hN), h, fun b e => by cases e⟩
    case ret => exact ⟨.ret, T, M, N, fun w0 W σ a w Q hG hT hM hN hQ => wp_ret (hQ σ a w (leB.refl _ _) hT hM hN), h, fun b e => by cases e⟩
    all_goals cases h

/-- The evaluator's run of a function is a contract of it, its loops by contracts that may number blocks anew. -/
theorem evFn_soundN (hEQ : ∀ t, t ∈ EQ.eq → EqOK P t) (hm : P.follows .mixedOrders = true) (hΓ : GOK P G gb Γ X) {n f : Nat} {as : List AV} {bs : List Blk} {K : AV → List Blk → Ans} {r : Res}
    (hL : ∀ fn c, P.funcs[f]? = some fn → fn.body = some c → LOKn P G gb bs.length Λ (loopsIn c)) (h : evFn P G EQ Γ X Λ n f as bs K = some r) : ∃ v M, CallsA P G gb f as bs v M ∧ K v M = some r := by
  unfold evFn at h
  split at h
  · cases h
  · rename_i fn hf
    split at h
    · cases h
    · rename_i c hc
      obtain ⟨x, T, M, N, h1, h2, _⟩ := evCode_soundN (n0 := bs.length) hEQ hm hΓ _ _ _ _ _ _ _ (hL fn c hf hc) h
      have body : ∀ xs, resDs P T M fn.results.toList = some xs → (x = .normal ∨ x = .ret) → CallsA P G gb f as bs (tupD xs) M := by
        intro xs hxs hx σ w args hargs hMr hGl hfr
        refine calls_of_wp hf hc ?_
        refine h1 w (Wof σ bs) σ _ w _ hGl ?_ hMr hfr ?_
        · have hl := hargs.length
          refine ⟨?_, fun t => ?_, rfl⟩
          · simp [frameT, TS.length, hl]
          · have := enter_rel (fn.ntmps - as.length) hargs t
            rw [frame_get]
            rw [show fn.ntmps - as.length = fn.ntmps - args.size from by rw [hl]; simp] at this
            rw [Array.getD_eq_getD_getElem?]
            rw [List.getD_eq_getElem?_getD] at this
            rw [← Array.getElem?_toList, Array.toList_append, Array.toList_replicate]
            exact this
        · intro τ a' w' hle hT' hM' _
          have hle : σ.le τ := fun b L hb => hle b L (by rcases Nat.lt_or_ge b bs.length with h9 | h9; exact h9; rw [hfr b h9] at hb; cases hb) hb
          obtain ⟨v, hv1, hv2⟩ := results_rel hT' hM' hxs
          rcases hx with rfl | rfl
          · exact ⟨hT'.df, v, hv1, v, τ, rfl, hle, hv2, hM'⟩
          · exact ⟨hT'.df, v, hv1, v, τ, rfl, hle, hv2, hM'⟩
      cases x with
      | exit id => cases h2
      | normal =>
        simp only at h2
        split at h2
        · rename_i xs hxs
          exact ⟨_, M, body xs hxs (.inl rfl), h2⟩
        · cases h2
      | ret =>
        simp only at h2
        split at h2
        · rename_i xs hxs
          exact ⟨_, M, body xs hxs (.inr rfl), h2⟩
        · cases h2

theorem CallsA.ofEvN (hΓ : GOK P G gb Γ X) (hEQ : ∀ t, t ∈ EQ.eq → EqOK P t) (hm : P.follows .mixedOrders = true) {n f : Nat} {xs : List AV} {bs M : List Blk} {v : AV} (cut : AV → List Blk → List Blk) (hcut : ∀ v M b, mget (cut v M) b = mget M b ∨ mget (cut v M) b = .dead)
    (hL : ∀ fn c, P.funcs[f]? = some fn → fn.body = some c → LOKn P G gb bs.length Λ (loopsIn c)) (h : evFn P G EQ Γ X Λ n f xs bs (fun v M => some (.fin v (cut v M))) = some (.fin v M)) : CallsA P G gb f xs bs v M := by
  obtain ⟨v', M', h1, h2⟩ := evFn_soundN hEQ hm hΓ hL h
  cases h2
  exact h1.drop fun b => hcut _ M' b

theorem cut_take (n : Nat) (M : List Blk) (b : Nat) : mget (M.take n) b = mget M b ∨ mget (M.take n) b = .dead := by
  rw [mget, mget, gets_eq, gets_eq, List.getD_eq_getElem?_getD, List.getElem?_take]
  split
  · exact .inl (by rw [List.getD_eq_getElem?_getD])
  · exact .inr rfl

/-- The first n blocks, and block b. -/
def cutAt (n b : Nat) (M : List Blk) : List Blk := mput (M.take n) b (mget M b)

theorem cut_at (n b : Nat) (M : List Blk) (c : Nat) : mget (cutAt n b M) c = mget M c ∨ mget (cutAt n b M) c = .dead := by
  unfold cutAt
  rw [mget_mput]
  split
  · rename_i e; subst e; exact .inl rfl
  · exact cut_take n M c

/-- The block that a result names. -/
def headRef : AV → Option Nat
  | .v (.c (.aslice b _)) => some b
  | .v (.c (.slice b _ _ _)) => some b
  | .tup (.c (.aslice b _) :: _) => some b
  | .tup (.c (.slice b _ _ _) :: _) => some b
  | _ => none

/-- The first n blocks, and the block that the result names. -/
def cutV (n : Nat) (v : AV) (M : List Blk) : List Blk :=
  match headRef v with
  | some b => cutAt n b M
  | none => M.take n

theorem cut_v (n : Nat) (v : AV) (M : List Blk) (c : Nat) : mget (cutV n v M) c = mget M c ∨ mget (cutV n v M) c = .dead := by
  unfold cutV
  split
  · exact cut_at n _ M c
  · exact cut_take n M c

/-! ### Other views of a state -/

/-- Whatever state is as the first says is as the second says. -/
def Shifts (n0 : Nat) (T : TS) (M : List Blk) (N : Nat) (T' : TS) (M' : List Blk) (N' : Nat) : Prop :=
  ∀ (w0 : World) (W : Nat → Prop) (σ : Sg) (a : Act) (w : World), TRel σ T a → MRel w0 W σ M w → (∀ b, N ≤ b → σ b = none) → ∃ τ, leB n0 σ τ ∧ TRel τ T' a ∧ MRel w0 W τ M' w ∧ ∀ b, N' ≤ b → τ b = none

theorem Shifts.refl {T : TS} {M : List Blk} {N : Nat} : Shifts n0 T M N T M N := fun _ _ σ _ _ hT hM hN => ⟨σ, leB.refl _ _, hT, hM, hN⟩

theorem Shifts.trans {T T' T'' : TS} {M M' M'' : List Blk} {N N' N'' : Nat} (h : Shifts n0 T M N T' M' N') (k : Shifts n0 T' M' N' T'' M'' N'') : Shifts n0 T M N T'' M'' N'' := fun w0 W σ a w hT hM hN => by
  obtain ⟨τ, h1, h2, h3, h4⟩ := h w0 W σ a w hT hM hN
  obtain ⟨υ, k1, k2, k3, k4⟩ := k w0 W τ a w h2 h3 h4
  exact ⟨υ, h1.trans k1, k2, k3, k4⟩

theorem Shifts.less {T T' : TS} {M M' : List Blk} {N N' : Nat} (hT : Less T' T) (hM : ∀ b, mget M' b = mget M b ∨ mget M' b = .dead) (hN : N ≤ N') : Shifts n0 T M N T' M' N' :=
  fun _ _ σ _ _ h1 h2 h3 => ⟨σ, leB.refl _ _, h1.less hT, h2.congr hM, fun b hb => h3 b (by omega)⟩

def renC (g : Nat → Nat) : C → C
  | .d x => .d x
  | .ptr b o => .ptr (g b) o
  | .slice b o n e => .slice (g b) o n e
  | .nilS => .nilS
  | .fn f l => .fn f (l.map g)
  | .aslice b k => .aslice (g b) k
  | .eptr b i o => .eptr (g b) i o

def renV (g : Nat → Nat) : V → V
  | .c x => .c (renC g x)
  | .agg l => .agg l

def renA (g : Nat → Nat) : AV → AV
  | .v x => .v (renV g x)
  | .tup l => .tup (l.map (renV g))
  | .any => .any

def renB (g : Nat → Nat) : Blk → Blk
  | .cell t c => .cell t (renC g c)
  | y => y

def refsC : C → List Nat
  | .ptr b _ => [b]
  | .slice b _ _ _ => [b]
  | .fn _ l => l
  | .aslice b _ => [b]
  | .eptr b _ _ => [b]
  | _ => []

def refsV : V → List Nat
  | .c x => refsC x
  | .agg _ => []

def refsX : AV → List Nat
  | .v x => refsV x
  | .tup l => l.flatMap refsV
  | .any => []

def refsB : Blk → List Nat
  | .cell _ c => refsC c
  | _ => []

theorem PRel.ren {g : Nat → Nat} {σ τ : Sg} : ∀ {l : List Nat} {vs : List Value}, (∀ b ∈ l, τ b = σ (g b)) → PRel σ (l.map g) vs → PRel τ l vs
  | [], [], _, _ => trivial
  | b :: r, v :: s, h, ⟨⟨L, h1, h2⟩, h3⟩ => ⟨⟨L, (h b (by simp)).trans h1, h2⟩, PRel.ren (fun c hc => h c (by simp [hc])) h3⟩
  | [], _ :: _, _, hh => hh.elim
  | _ :: _, [], _, hh => hh.elim

theorem CRel.ren {g : Nat → Nat} {σ τ : Sg} : ∀ {x : C} {v : Value}, (∀ b ∈ refsC x, τ b = σ (g b)) → CRel σ (renC g x) v → CRel τ x v
  | .d _, _, _, hh => hh
  | .ptr b _, _, h, ⟨L, h1, h2⟩ => ⟨L, (h b (by simp [refsC])).trans h1, h2⟩
  | .slice b _ _ _, _, h, ⟨L, cap, h1, h2⟩ => ⟨L, cap, (h b (by simp [refsC])).trans h1, h2⟩
  | .nilS, _, _, hh => hh
  | .fn _ l, _, h, ⟨vs, h1, h2⟩ => ⟨vs, h1, PRel.ren (fun b hb => h b hb) h2⟩
  | .aslice b _, _, h, ⟨L, h1, h2⟩ => ⟨L, (h b (by simp [refsC])).trans h1, h2⟩
  | .eptr b _ _, _, h, ⟨L, h1, h2⟩ => ⟨L, (h b (by simp [refsC])).trans h1, h2⟩

theorem VRel.ren {g : Nat → Nat} {σ τ : Sg} : ∀ {x : V} {v : Value}, (∀ b ∈ refsV x, τ b = σ (g b)) → VRel σ (renV g x) v → VRel τ x v
  | .c _, _, h, hh => CRel.ren h hh
  | .agg _, _, _, hh => hh

theorem VRels.ren {g : Nat → Nat} {σ τ : Sg} : ∀ {l : List V} {vs : List Value}, (∀ b ∈ l.flatMap refsV, τ b = σ (g b)) → VRels σ (l.map (renV g)) vs → VRels τ l vs
  | [], [], _, _ => trivial
  | x :: r, v :: s, h, ⟨h1, h2⟩ => ⟨VRel.ren (fun b hb => h b (by simp [hb])) h1, VRels.ren (fun b hb => h b (by rw [List.flatMap_cons, List.mem_append]; exact .inr hb)) h2⟩
  | [], _ :: _, _, hh => hh.elim
  | _ :: _, [], _, hh => hh.elim

theorem AVRel.ren {g : Nat → Nat} {σ τ : Sg} : ∀ {x : AV} {v : Value}, (∀ b ∈ refsX x, τ b = σ (g b)) → AVRel σ (renA g x) v → AVRel τ x v
  | .v _, _, h, hh => VRel.ren h hh
  | .tup _, _, h, ⟨vs, h1, h2⟩ => ⟨vs, h1, VRels.ren h h2⟩
  | .any, _, _, _ => trivial

theorem renB_wr (g : Nat → Nat) (y : Blk) : (renB g y).wr = y.wr := by cases y <;> rfl
theorem renB_live (g : Nat → Nat) (y : Blk) : (renB g y).live = y.live := by cases y <;> rfl

theorem BRel.ren {g : Nat → Nat} {σ τ : Sg} {c : Nat} {y : Blk} {w : World} (hc : τ c = σ (g c)) (hr : ∀ b ∈ refsB y, τ b = σ (g b)) (h : BRel σ (g c) (renB g y) w) : BRel τ c y w := by
  cases y with
  | dead => trivial
  | ro l => obtain ⟨L, h1, h2⟩ := h; exact ⟨L, hc.trans h1, h2⟩
  | rw t l => obtain ⟨L, cur, h1, h2⟩ := h; exact ⟨L, cur, hc.trans h1, h2⟩
  | arr own τ xs => obtain ⟨L, h1, h2⟩ := h; exact ⟨L, hc.trans h1, h2⟩
  | cell t c' => obtain ⟨L, v, h1, h2, h3, h4, h5, h6⟩ := h; exact ⟨L, v, hc.trans h1, h2, h3, h4, h5, CRel.ren hr h6⟩

theorem MRel.ren {w0 w : World} {W : Nat → Prop} {σ : Sg} {M M' : List Blk} {N' : Nat} (g : Nat → Nat) (h2 : MRel w0 W σ M w)
    (hM : ∀ c, mget M' c = .dead ∨ (mget M (g c) = renB g (mget M' c) ∧ c < N' ∧ ∀ b ∈ refsB (mget M' c), b < N')) (hi : ∀ c c', c < N' → c' < N' → g c = g c' → c = c') : MRel w0 W (fun c => if c < N' then σ (g c) else none) M' w := by
  have hτ : ∀ b, b < N' → (fun c => if c < N' then σ (g c) else none) b = σ (g b) := fun b hb => by simp [hb]
  refine ⟨fun c => ?_, fun c c' L L' hne hc hc' hL hL' => ?_, fun c L hc hL => ?_, h2.kept⟩
  · rcases hM c with e | ⟨e, hc, hr⟩
    · rw [e]; trivial
    · have := h2.blk (g c)
      rw [e] at this
      exact BRel.ren (hτ c hc) (fun b hb => hτ b (hr b hb)) this
  · rcases hM c with e | ⟨e, k1, _⟩
    · rw [e] at hc; cases hc
    rcases hM c' with e' | ⟨e', k1', _⟩
    · rw [e'] at hc'; cases hc'
    rw [if_pos k1] at hL
    rw [if_pos k1'] at hL'
    exact h2.sep (g c) (g c') L L' (fun h => hne (hi c c' k1 k1' h)) (by rw [e, renB_wr]; exact hc) (by rw [e', renB_live]; exact hc') hL hL'
  · rcases hM c with e | ⟨e, k1, _⟩
    · rw [e] at hc; cases hc
    rw [if_pos k1] at hL
    exact h2.own (g c) L (by rw [e, renB_wr]; exact hc) hL

/-- Blocks under other numbers: g gives the old number of a new one. -/
theorem Shifts.ren {T T' : TS} {M M' : List Blk} {N N' : Nat} (g : Nat → Nat) (hl : T'.length = T.length) (hT : ∀ t, tget T' t = .any ∨ (tget T t = renA g (tget T' t) ∧ ∀ b ∈ refsX (tget T' t), b < N'))
    (hM : ∀ c, mget M' c = .dead ∨ (mget M (g c) = renB g (mget M' c) ∧ c < N' ∧ ∀ b ∈ refsB (mget M' c), b < N')) (hi : ∀ c c', c < N' → c' < N' → g c = g c' → c = c') (hn : ∀ c, c < n0 → c < N' ∧ g c = c) : Shifts n0 T M N T' M' N' := by
  intro w0 W σ a w h1 h2 h3
  have hτ : ∀ b, b < N' → (fun c => if c < N' then σ (g c) else none) b = σ (g b) := fun b hb => by simp [hb]
  refine ⟨fun c => if c < N' then σ (g c) else none, fun b L hb hL => ?_, ⟨hl.trans h1.len, fun t => ?_, h1.df⟩, h2.ren g hM hi, fun b hb => by simp; omega⟩
  · obtain ⟨k1, k2⟩ := hn b hb
    rw [hτ b k1, k2]
    exact hL
  · rcases hT t with e | ⟨e, hr⟩
    · rw [e]; trivial
    · have := h1.val t
      rw [e] at this
      exact AVRel.ren (fun b hb => hτ b (hr b hb)) this

/-- The one block that a result names, in front. -/
def topRef : AV → Option Nat
  | .v (.c (.aslice b none)) => some b
  | .tup (.c (.aslice b none) :: r) => bif r.all dataV then some b else none
  | _ => none

def topSet (n : Nat) : AV → AV
  | .v (.c (.aslice _ k)) => .v (.c (.aslice n k))
  | .tup (.c (.aslice _ k) :: r) => .tup (.c (.aslice n k) :: r)
  | v => v

def isArr : Blk → Bool
  | .arr _ _ _ => true
  | _ => false

def noCell : Blk → Blk
  | .cell _ _ => .dead
  | y => y

def noCells : List Blk → List Blk
  | [] => []
  | y :: r => noCell y :: noCells r

theorem noCells_get : ∀ (M : List Blk) (c : Nat), mget (noCells M) c = noCell (mget M c)
  | [], _ => rfl
  | _ :: _, 0 => rfl
  | _ :: r, c + 1 => noCells_get r c

theorem noCell_is (y : Blk) : noCell y = .dead ∨ (noCell y = y ∧ (∀ g, y = renB g y) ∧ refsB y = []) := by
  cases y <;> first | exact .inl rfl | exact .inr ⟨rfl, fun _ => rfl, rfl⟩

/-- A result and what it leaves: the arguments' blocks, and that of the result under the next number. -/
def finR (n : Nat) (v : AV) (M : List Blk) : AV × List Blk :=
  match topRef v with
  | some b => bif Nat.ble n b && isArr (mget M b) then (topSet n v, mput (noCells (M.take n)) n (mget M b)) else (v, M)
  | none => (v, M.take n)

theorem dataV_ren {g : Nat → Nat} {x : V} (h : dataV x = true) : renV g x = x ∧ refsV x = [] := by
  cases x with
  | agg l => exact ⟨rfl, rfl⟩
  | c x => cases x <;> first | exact ⟨rfl, rfl⟩ | cases h

theorem dataV_rens {g : Nat → Nat} : ∀ {l : List V}, l.all dataV = true → l.map (renV g) = l ∧ l.flatMap refsV = []
  | [], _ => ⟨rfl, rfl⟩
  | x :: r, h => by
    simp only [List.all_cons, Bool.and_eq_true] at h
    obtain ⟨h1, h2⟩ := dataV_rens (g := g) h.2
    obtain ⟨h3, h4⟩ := dataV_ren (g := g) h.1
    exact ⟨by rw [List.map_cons, h1, h3], by rw [List.flatMap_cons, h2, h4]; rfl⟩

theorem top_ren {n b : Nat} {v : AV} (h : topRef v = some b) : v = renA (fun c => if c = n then b else c) (topSet n v) ∧ ∀ c ∈ refsX (topSet n v), c = n := by
  unfold topRef at h
  split at h
  · cases h
    exact ⟨by simp [topSet, renA, renV, renC], by simp [topSet, refsX, refsV, refsC]⟩
  · rename_i b' r
    simp only [cond_eq_ite] at h
    split at h
    · rename_i hr
      cases h
      obtain ⟨h1, h2⟩ := dataV_rens (g := fun c => if c = n then b else c) hr
      exact ⟨by simp only [topSet, renA, List.map_cons, h1, renV, renC, if_true], by simp [topSet, refsX, List.flatMap_cons, h2, refsV, refsC]⟩
    · cases h
  · cases h

theorem CallsA.fin {f : Nat} {as : List AV} {bs M : List Blk} {v : AV} (h : CallsA P G gb f as bs v M) : CallsA P G gb f as bs (finR bs.length v M).1 (finR bs.length v M).2 := by
  unfold finR
  split
  · rename_i b hb
    simp only [cond_eq_ite, Bool.and_eq_true, Nat.ble_eq]
    split
    · rename_i hc
      obtain ⟨hc, harr⟩ := hc
      obtain ⟨e1, e2⟩ := top_ren (n := bs.length) hb
      intro σ w args h1 h2 h3 h4
      refine (h σ w args h1 h2 h3 h4).mono fun _ _ ⟨v', τ, h5, h6, h7, h8⟩ => ⟨v', _, h5, ?_, ?_, h8.ren (N' := bs.length + 1) (fun c => if c = bs.length then b else c) ?_ ?_⟩
      · intro c L hL
        have hlt : c < bs.length := by
          rcases Nat.lt_or_ge c bs.length with h9 | h9
          · exact h9
          · rw [h4 c h9] at hL; cases hL
        simp only [if_pos (show c < bs.length + 1 by omega), if_neg (show ¬ c = bs.length by omega)]
        exact h6 c L hL
      · rw [e1] at h7
        refine AVRel.ren (fun c hc' => ?_) h7
        rw [e2 c hc']
        simp
      · intro c
        rw [mget_mput]
        by_cases e : c = bs.length
        · rw [if_pos e, if_pos e]
          refine .inr ⟨?_, by omega, ?_⟩
          · cases hm : mget M b <;> rw [hm] at harr <;> first | rfl | cases harr
          · cases hm : mget M b <;> rw [hm] at harr <;> first | (intro b' hb'; cases hb') | cases harr
        · rw [if_neg e, if_neg e]
          rw [noCells_get]
          rcases noCell_is (mget (M.take bs.length) c) with k | ⟨k1, k2, k3⟩
          · exact .inl k
          · rcases cut_take bs.length M c with k | k
            · by_cases hlt : c < bs.length
              · refine .inr ⟨by rw [k1, ← k]; exact k2 _, by omega, by rw [k1, k3]; intro b' hb'; cases hb'⟩
              · refine .inl ?_
                rw [k1, mget, gets_eq, List.getD_eq_getElem?_getD, List.getElem?_take, if_neg hlt]
                rfl
            · exact .inl (by rw [k1, k])
      · intro c c' hc1 hc2 e
        split at e <;> split at e <;> omega
    · exact h
  · exact h.drop fun b => cut_take _ M b

theorem CallsA.ofEvR (hΓ : GOK P G gb Γ X) (hEQ : ∀ t, t ∈ EQ.eq → EqOK P t) (hm : P.follows .mixedOrders = true) {n f n0 : Nat} {xs : List AV} {bs M : List Blk} {v : AV} (hn : bs.length = n0)
    (hL : ∀ fn c, P.funcs[f]? = some fn → fn.body = some c → LOKn P G gb n0 Λ (loopsIn c)) (h : evFn P G EQ Γ X Λ n f xs bs (fun v M => some (.fin (finR n0 v M).1 (finR n0 v M).2)) = some (.fin v M)) : CallsA P G gb f xs bs v M := by
  subst hn
  obtain ⟨v', M', h1, h2⟩ := evFn_soundN hEQ hm hΓ hL h
  cases h2
  exact h1.fin

/-- Nothing is an array without elements. -/
theorem Shifts.nil {T T' : TS} {M M' : List Blk} {N : Nat} (ty : Nat) (υ : ET) (hl : T'.length = T.length) (hT : ∀ t, tget T' t = .any ∨ tget T' t = tget T t ∨ (tget T t = .v (.c .nilS) ∧ tget T' t = .v (.c (.aslice N none))))
    (hM : ∀ c, mget M' c = .dead ∨ (c ≠ N ∧ mget M' c = mget M c) ∨ (c = N ∧ mget M' c = .arr (some ty) υ [])) : Shifts n0 T M N T' M' (N + 1) := by
  intro w0 W σ a w h1 h2 h3
  have hN := h3 N (Nat.le_refl _)
  have key : MRel w0 W (sgSet σ N ⟨0, 0, 0, true, 0, υ.len⟩) (mput M N (.arr (some ty) υ [])) w :=
    h2.put hN _ _ ⟨_, sgSet_self _ _ _, rfl, rfl, by simp [ET.flat], rfl, rfl, .inl rfl⟩ (fun _ _ _ _ _ => rfl) h2.kept (fun h => by cases h) (fun h => by cases h) (fun h => by cases h)
  refine ⟨sgSet σ N ⟨0, 0, 0, true, 0, υ.len⟩, leB.of_le (sgSet_le hN), ⟨hl.trans h1.len, fun t => ?_, h1.df⟩, key.congr fun c => ?_, fun b hb => ?_⟩
  · rcases hT t with e | e | ⟨e, e'⟩
    · rw [e]; trivial
    · rw [e]; exact (h1.val t).mono (sgSet_le hN)
    · have := h1.val t
      rw [e] at this
      rw [e']
      exact ⟨_, sgSet_self _ _ _, .inl ⟨rfl, this⟩⟩
  · rw [mget_mput]
    rcases hM c with e | ⟨e, e'⟩ | ⟨e, e'⟩
    · exact .inr e
    · rw [if_neg e]; exact .inl e'
    · rw [if_pos e]; exact .inl e'
  · rw [sgSet_ne _ _ _ _ (by omega)]
    exact h3 b (by omega)

theorem CodeN.ofEv (hΓ : GOK P G gb Γ X) (hEQ : ∀ t, t ∈ EQ.eq → EqOK P t) (hm : P.follows .mixedOrders = true) {fuel : Nat} {b : Code} {T T1 : TS} {M M1 : List Blk} {N N1 : Nat} {x : Ex} (hL : LOKn P G gb n0 Λ (loopsIn b))
    (h : evCode P G EQ Γ X Λ fuel b T M N (fun x T M N => some (.st x T M N)) = some (.st x T1 M1 N1)) : CodeN P G gb n0 b T M N x T1 M1 N1 := by
  obtain ⟨x', T3, M3, N3, h1, h2, _⟩ := evCode_soundN (n0 := n0) hEQ hm hΓ fuel b T M N _ _ hL h
  cases h2
  exact h1

theorem CodeN.ofEvF (hΓ : GOK P G gb Γ X) (hEQ : ∀ t, t ∈ EQ.eq → EqOK P t) (hm : P.follows .mixedOrders = true) {fuel : Nat} {b : Code} {T T1 : TS} {M M1 : List Blk} {N N1 : Nat} {x : Ex} {keep : List Nat} (hL : LOKn P G gb n0 Λ (loopsIn b))
    (h : evCode P G EQ Γ X Λ fuel b T M N (fun x T M N => some (.st x (forget keep T) M N)) = some (.st x T1 M1 N1)) : CodeN P G gb n0 b T M N x T1 M1 N1 := by
  obtain ⟨x', T3, M3, N3, h1, h2, _⟩ := evCode_soundN (n0 := n0) hEQ hm hΓ fuel b T M N _ _ hL h
  cases h2
  exact fun w0 W σ a w Q hG hT hM hN hQ => h1 w0 W σ a w Q hG hT hM hN fun τ a' w' hle hT' => hQ τ a' w' hle (hT'.less (forget_less _ _))

theorem CodeN.post {b : Code} {T T1 T2 : TS} {M M1 M2 : List Blk} {N N1 N2 : Nat} {x : Ex} (h : CodeN P G gb n0 b T M N x T1 M1 N1) (hs : Shifts n0 T1 M1 N1 T2 M2 N2) : CodeN P G gb n0 b T M N x T2 M2 N2 :=
  fun w0 W σ a w Q hG hT hM hN hQ => h w0 W σ a w Q hG hT hM hN fun τ a' w' hle hT' hM' hN' => by
    obtain ⟨υ, k1, k2, k3, k4⟩ := hs w0 W τ a' w' hT' hM' hN'
    exact hQ υ a' w' (hle.trans k1) k2 k3 k4

theorem RoundsN.go {b : Code} {k : Nat} {T T1 T' : TS} {M M1 M' : List Blk} {N N1 N' : Nat} {x : Ex} (h : CodeN P G gb n0 b T M N .normal T1 M1 N1) (hk : RoundsN P G gb n0 b k T1 M1 N1 x T' M' N') : RoundsN P G gb n0 b (k + 1) T M N x T' M' N' := by
  intro w0 W σ a w Q hG hT hM hN hQ
  rw [rounds_succ]
  exact h w0 W σ a w _ hG hT hM hN fun τ a' w' hle hT' hM' hN' => hk w0 W τ a' w' Q hG hT' hM' hN' fun υ a'' w'' hle' => hQ υ a'' w'' (hle.trans hle')

theorem RoundsN.stop {b : Code} {T T1 : TS} {M M1 : List Blk} {N N1 : Nat} {x : Ex} (hx : x ≠ .normal) (h : CodeN P G gb n0 b T M N x T1 M1 N1) : RoundsN P G gb n0 b 1 T M N x T1 M1 N1 := by
  intro w0 W σ a w Q hG hT hM hN hQ
  rw [rounds_succ]
  refine h w0 W σ a w _ hG hT hM hN fun τ a' w' hle hT' hM' hN' => ?_
  have := hQ τ a' w' hle hT' hM' hN'
  cases x with
  | normal => exact absurd rfl hx
  | exit id => exact this
  | ret => exact this

theorem RoundsN.pre {b : Code} {k : Nat} {T T1 T' : TS} {M M1 M' : List Blk} {N N1 N' : Nat} {x : Ex} (hs : Shifts n0 T M N T1 M1 N1) (h : RoundsN P G gb n0 b k T1 M1 N1 x T' M' N') : RoundsN P G gb n0 b k T M N x T' M' N' := by
  intro w0 W σ a w Q hG hT hM hN hQ
  obtain ⟨τ, k1, k2, k3, k4⟩ := hs w0 W σ a w hT hM hN
  exact h w0 W τ a w Q hG k2 k3 k4 fun υ a' w' hle => hQ υ a' w' (k1.trans hle)

theorem RoundsN.post {b : Code} {k : Nat} {T T1 T2 : TS} {M M1 M2 : List Blk} {N N1 N2 : Nat} {x : Ex} (h : RoundsN P G gb n0 b k T M N x T1 M1 N1) (hs : Shifts n0 T1 M1 N1 T2 M2 N2) : RoundsN P G gb n0 b k T M N x T2 M2 N2 :=
  fun w0 W σ a w Q hG hT hM hN hQ => h w0 W σ a w Q hG hT hM hN fun τ a' w' hle hT' hM' hN' => by
    obtain ⟨υ, k1, k2, k3, k4⟩ := hs w0 W τ a' w' hT' hM' hN'
    exact hQ υ a' w' (hle.trans k1) k2 k3 k4

/-- Round by round: each state either goes on to another of less measure with the same outcome, or ends. -/
theorem RoundsN.iter {S : Type} {b : Code} (μ : S → Nat) (I : S → Prop) (TT : S → TS) (MM : S → List Blk) (N : Nat) (X : S → Ex) (TX : S → TS) (MX : S → List Blk) (NX : S → Nat)
    (h : ∀ s, I s → (∃ s', I s' ∧ μ s' < μ s ∧ X s' = X s ∧ TX s' = TX s ∧ MX s' = MX s ∧ NX s' = NX s ∧ CodeN P G gb n0 b (TT s) (MM s) N .normal (TT s') (MM s') N) ∨ (X s ≠ .normal ∧ CodeN P G gb n0 b (TT s) (MM s) N (X s) (TX s) (MX s) (NX s))) :
    ∀ s, I s → X s ≠ .normal ∧ ∃ k, RoundsN P G gb n0 b k (TT s) (MM s) N (X s) (TX s) (MX s) (NX s) := by
  have main : ∀ m s, μ s < m → I s → X s ≠ .normal ∧ ∃ k, RoundsN P G gb n0 b k (TT s) (MM s) N (X s) (TX s) (MX s) (NX s) := by
    intro m
    induction m with
    | zero => intro s hm; omega
    | succ m ih =>
      intro s hm hI
      rcases h s hI with ⟨s', h1, h2, h3, h4, h5, h6, h7⟩ | ⟨h1, h2⟩
      · obtain ⟨k1, k, k2⟩ := ih s' (by omega) h1
        rw [h3] at k1 k2
        rw [h4, h5, h6] at k2
        exact ⟨k1, k + 1, RoundsN.go h7 k2⟩
      · exact ⟨h1, 1, RoundsN.stop h1 h2⟩
  exact fun s hI => main (μ s + 1) s (by omega) hI

def LOKbn (P : Program) (G : Nat → Option (List D)) (gb n0 : Nat) (Λ : Nat → TS → List Blk → Nat → LT) (b : Code) : Prop :=
  ∀ T M N x T' M' N', LReach (Λ (loopKey b) T M N) x T' M' N' → x ≠ .normal ∧ ∃ k, RoundsN P G gb n0 b k T M N x T' M' N'

theorem LOKn.ofF {f : Nat} (h : ∀ b ∈ loopsF P f, LOKbn P G gb n0 Λ b) : ∀ fn c, P.funcs[f]? = some fn → fn.body = some c → LOKn P G gb n0 Λ (loopsIn c) := by
  intro fn c h1 h2 b hb
  refine h b ?_
  simpa [loopsF, codeOf, h1, h2] using hb

theorem LOKbn.or {Λ' : Nat → TS → List Blk → Nat → LT} {b : Code} (h : LOKbn P G gb n0 Λ b) (h' : LOKbn P G gb n0 Λ' b) : LOKbn P G gb n0 (orL Λ Λ') b := by
  intro T M N x T' M' N' hr
  unfold orL at hr
  split at hr
  · exact h' T M N x T' M' N' hr
  · exact h T M N x T' M' N' hr

theorem LOKbn.lamG {b : Code} {n key : Nat} {f : TS → List Blk → Nat → LT} (hk : loopKey b = key)
    (h : ∀ T M N x T' M' N', T.length = n → LReach (f T M N) x T' M' N' → x ≠ .normal ∧ ∃ k, RoundsN P G gb n0 b k T M N x T' M' N') : LOKbn P G gb n0 (LamG key n f) b := by
  intro T M N x T' M' N' hr
  unfold LamG at hr
  rw [hk] at hr
  simp only [cond_eq_ite, Bool.and_eq_true, beq_iff_eq, beq_self_eq_true, true_and] at hr
  split at hr
  · rename_i hl
    exact h T M N x T' M' N' hl hr
  · exact hr.elim

theorem LOKbn.lamG_other {b : Code} {key n : Nat} {f : TS → List Blk → Nat → LT} (hk : (loopKey b == key) = false) : LOKbn P G gb n0 (LamG key n f) b := by
  intro T M N x T' M' N' hr
  unfold LamG at hr
  rw [hk] at hr
  exact hr.elim

end
end Go.Ev
