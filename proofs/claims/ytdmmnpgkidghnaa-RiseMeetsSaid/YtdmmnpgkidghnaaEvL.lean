/-
  The evaluator over code and functions: sound. A table of contracts grows function by function.
-/
import Derived.Test.YtdmmnpgkidghnaaEvK
namespace Go.Ev
open Go

def toExit : Ex → Exit
  | .normal => .normal
  | .exit id => .exit id
  | .ret => .ret

section
variable {P : Program} {G : Nat → Option (List D)} {gb : Nat} {EQ : Tab} {Γ : Nat → List AV → List Blk → (AV → List Blk → Ans) → Ans} {X : Nat → List AV → (AV → Ans) → Ans} {Λ : Nat → TS → List Blk → Nat → LT}

/-- What a piece of code comes to. -/
def CodeOK (P : Program) (G : Nat → Option (List D)) (gb : Nat) (c : Code) (T : TS) (M : List Blk) (N : Nat) (x : Ex) (T' : TS) (M' : List Blk) (N' : Nat) : Prop :=
  ∀ (w0 : World) (W : Nat → Prop) (σ : Sg) (a : Act) (w : World) (Q : Exit → Act → World → Prop), Glob G gb W w0 → TRel σ T a → MRel w0 W σ M w → (∀ b, N ≤ b → σ b = none) →
    (∀ τ a' w', σ.le τ → TRel τ T' a' → MRel w0 W τ M' w' → (∀ b, N' ≤ b → τ b = none) → Q (toExit x) a' w') → c.wp P Q a w

/-- So many rounds of a loop. -/
def RoundsOK (P : Program) (G : Nat → Option (List D)) (gb : Nat) (c : Code) (k : Nat) (T : TS) (M : List Blk) (N : Nat) (x : Ex) (T' : TS) (M' : List Blk) (N' : Nat) : Prop :=
  ∀ (w0 : World) (W : Nat → Prop) (σ : Sg) (a : Act) (w : World) (Q : Exit → Act → World → Prop), Glob G gb W w0 → TRel σ T a → MRel w0 W σ M w → (∀ b, N ≤ b → σ b = none) →
    (∀ τ a' w', σ.le τ → TRel τ T' a' → MRel w0 W τ M' w' → (∀ b, N' ≤ b → τ b = none) → Q (toExit x) a' w') → Code.rounds P c Q k a w

def LReach : LT → Ex → TS → List Blk → Nat → Prop
  | .no, _, _, _, _ => False
  | .st x T M N, x', T', M', N' => x' = x ∧ T' = T ∧ M' = M ∧ N' = N
  | .br b p q, x, T, M, N => (b = true ∧ LReach p x T M N) ∨ (b = false ∧ LReach q x T M N)

theorem LT.reach : ∀ (t : LT) (K : Ex → TS → List Blk → Nat → Ans) (r : Res), t.run K = some r → ∃ x T M N, LReach t x T M N ∧ K x T M N = some r
  | .no, _, _, h => by cases h
  | .st x T M N, _, _, h => ⟨x, T, M, N, ⟨rfl, rfl, rfl, rfl⟩, h⟩
  | .br b p q, K, r, h => by
    cases b with
    | true => obtain ⟨x, T, M, N, h1, h2⟩ := LT.reach p K r h; exact ⟨x, T, M, N, .inl ⟨rfl, h1⟩, h2⟩
    | false => obtain ⟨x, T, M, N, h1, h2⟩ := LT.reach q K r h; exact ⟨x, T, M, N, .inr ⟨rfl, h1⟩, h2⟩

/-- The contracts of the loops of a piece of code. -/
def LOK (P : Program) (G : Nat → Option (List D)) (gb : Nat) (Λ : Nat → TS → List Blk → Nat → LT) (l : List Code) : Prop :=
  ∀ b ∈ l, ∀ T M N x T' M' N', LReach (Λ (loopKey b) T M N) x T' M' N' → x ≠ .normal ∧ ∃ k, RoundsOK P G gb b k T M N x T' M' N'

theorem evCode_sound (hEQ : ∀ t, t ∈ EQ.eq → EqOK P t) (hm : P.follows .mixedOrders = true) (hΓ : GOK P G gb Γ X) : ∀ (n : Nat) (c : Code) (T : TS) (M : List Blk) (N : Nat) (K : Ex → TS → List Blk → Nat → Ans) (r : Res), LOK P G gb Λ (loopsIn c) →
    evCode P G EQ Γ X Λ n c T M N K = some r → ∃ x T' M' N', CodeOK P G gb c T M N x T' M' N' ∧ K x T' M' N' = some r ∧
      (∀ b, c = .loop b → x ≠ .normal ∧ ∃ k, RoundsOK P G gb b k T M N x T' M' N') := by
  intro n
  induction n with
  | zero => intro c T M N K r _ h; cases h
  | succ n ih =>
    intro c T M N K r hL h
    cases c <;> simp only [evCode] at h
    case skip => exact ⟨.normal, T, M, N, fun w0 W σ a w Q hG hT hM hN hQ => wp_skip (hQ σ a w (Sg.le_refl _) hT hM hN), h, fun b e => by cases e⟩
    case region id ops draw =>
      cases draw with
      | false =>
        simp only at h
        obtain ⟨tr, T', M', N', h1, h2⟩ := evOps_trace hΓ false ops.toList _ _ _ _ _ _ _ h
        exact ⟨.normal, T', M', N', fun w0 W σ a w Q hG hT hM hN hQ => wp_region_list (trace_seq hEQ hG h1 hT hM hN hQ), h2, fun b e => by cases e⟩
      | true =>
        simp only at h
        obtain ⟨tr, T', M', N', h1, h2⟩ := evOps_trace hΓ true ops.toList _ _ _ _ _ _ _ h
        simp only [List.append_nil, List.reverse_reverse, cond_eq_ite] at h2
        split at h2
        · rename_i hd
          exact ⟨.normal, T', M', endN N N' tr, fun w0 W σ a w Q hG hT hM hN hQ => draw_sound hEQ hm hG h1 hd hT hM hN hQ, h2, fun b e => by cases e⟩
        · cases h2
    case seq x y =>
      obtain ⟨e1, T1, M1, N1, h1, h2, _⟩ := ih x T M N _ r (fun b hb => hL b (by simp [loopsIn, hb])) h
      cases e1 with
      | normal =>
        simp only at h2
        obtain ⟨e2, T2, M2, N2, h3, h4, _⟩ := ih y T1 M1 N1 K r (fun b hb => hL b (by simp [loopsIn, hb])) h2
        refine ⟨e2, T2, M2, N2, fun w0 W σ a w Q hG hT hM hN hQ => wp_seq (h1 w0 W σ a w _ hG hT hM hN fun τ a' w' hle hT' hM' hN' => ?_), h4, fun b e => by cases e⟩
        exact h3 w0 W τ a' w' Q hG hT' hM' hN' fun υ a'' w'' hle' => hQ υ a'' w'' (Sg.le_trans hle hle')
      | exit id => exact ⟨.exit id, T1, M1, N1, fun w0 W σ a w Q hG hT hM hN hQ => wp_seq (h1 w0 W σ a w _ hG hT hM hN hQ), h2, fun b e => by cases e⟩
      | ret => exact ⟨.ret, T1, M1, N1, fun w0 W σ a w Q hG hT hM hN hQ => wp_seq (h1 w0 W σ a w _ hG hT hM hN hQ), h2, fun b e => by cases e⟩
    case cond c x y =>
      split at h
      · rename_i b hb
        cases b with
        | true =>
          obtain ⟨e1, T1, M1, N1, h1, h2, _⟩ := ih x T M N K r (fun b hb => hL b (by simp [loopsIn, hb])) h
          exact ⟨e1, T1, M1, N1, fun w0 W σ a w Q hG hT hM hN hQ => wp_cond_true (opdV_rel hT hb).1 (h1 w0 W σ a w Q hG hT hM hN hQ), h2, fun b e => by cases e⟩
        | false =>
          obtain ⟨e1, T1, M1, N1, h1, h2, _⟩ := ih y T M N K r (fun b hb => hL b (by simp [loopsIn, hb])) h
          exact ⟨e1, T1, M1, N1, fun w0 W σ a w Q hG hT hM hN hQ => wp_cond_false (opdV_rel hT hb).1 (h1 w0 W σ a w Q hG hT hM hN hQ), h2, fun b e => by cases e⟩
      · cases h
    case block id b =>
      obtain ⟨e1, T1, M1, N1, h1, h2, _⟩ := ih b T M N _ r (fun b' hb => hL b' (by simp [loopsIn, hb])) h
      cases e1 with
      | normal => exact ⟨.normal, T1, M1, N1, fun w0 W σ a w Q hG hT hM hN hQ => wp_block (h1 w0 W σ a w _ hG hT hM hN hQ), h2, fun b e => by cases e⟩
      | exit id' =>
        simp only [cond_eq_ite, beq_iff_eq] at h2
        by_cases e : id' = id
        · rw [if_pos e] at h2
          exact ⟨.normal, T1, M1, N1, fun w0 W σ a w Q hG hT hM hN hQ => wp_block (h1 w0 W σ a w _ hG hT hM hN fun τ a' w' hle hT' hM' hN' => by simp only [toExit, Exit.inBlock, e, if_true]; exact hQ τ a' w' hle hT' hM' hN'), h2, fun b e => by cases e⟩
        · rw [if_neg e] at h2
          exact ⟨.exit id', T1, M1, N1, fun w0 W σ a w Q hG hT hM hN hQ => wp_block (h1 w0 W σ a w _ hG hT hM hN fun τ a' w' hle hT' hM' hN' => by simp only [toExit, Exit.inBlock, e, if_false]; exact hQ τ a' w' hle hT' hM' hN'), h2, fun b e => by cases e⟩
      | ret => exact ⟨.ret, T1, M1, N1, fun w0 W σ a w Q hG hT hM hN hQ => wp_block (h1 w0 W σ a w _ hG hT hM hN hQ), h2, fun b e => by cases e⟩
    case loop b =>
      have fin : ∀ x T' M' N', x ≠ .normal → (∃ k, RoundsOK P G gb b k T M N x T' M' N') → CodeOK P G gb (.loop b) T M N x T' M' N' := by
        rintro x T' M' N' _ ⟨k, hk⟩ w0 W σ a w Q hG hT hM hN hQ
        exact wp_loop_rounds k (hk w0 W σ a w Q hG hT hM hN hQ)
      split at h
      · rename_i hno
        obtain ⟨e1, T1, M1, N1, h1, h2, _⟩ := ih b T M N _ r (fun b' hb => hL b' (by simp [loopsIn, hb])) h
        cases e1 with
        | normal =>
          simp only at h2
          obtain ⟨e2, T2, M2, N2, _, h4, h5⟩ := ih (.loop b) T1 M1 N1 K r hL h2
          obtain ⟨hne, k, hk⟩ := h5 b rfl
          have hR : RoundsOK P G gb b (k + 1) T M N e2 T2 M2 N2 := by
            intro w0 W σ a w Q hG hT hM hN hQ
            rw [rounds_succ]
            exact h1 w0 W σ a w _ hG hT hM hN fun τ a' w' hle hT' hM' hN' => hk w0 W τ a' w' Q hG hT' hM' hN' fun υ a'' w'' hle' => hQ υ a'' w'' (Sg.le_trans hle hle')
          exact ⟨e2, T2, M2, N2, fin _ _ _ _ hne ⟨_, hR⟩, h4, fun b' e => by cases e; exact ⟨hne, _, hR⟩⟩
        | exit id =>
          have hR : RoundsOK P G gb b 1 T M N (.exit id) T1 M1 N1 := by
            intro w0 W σ a w Q hG hT hM hN hQ
            rw [rounds_succ]
            exact h1 w0 W σ a w _ hG hT hM hN hQ
          exact ⟨.exit id, T1, M1, N1, fin _ _ _ _ (by simp) ⟨_, hR⟩, h2, fun b' e => by cases e; exact ⟨by simp, _, hR⟩⟩
        | ret =>
          have hR : RoundsOK P G gb b 1 T M N .ret T1 M1 N1 := by
            intro w0 W σ a w Q hG hT hM hN hQ
            rw [rounds_succ]
            exact h1 w0 W σ a w _ hG hT hM hN hQ
          exact ⟨.ret, T1, M1, N1, fin _ _ _ _ (by simp) ⟨_, hR⟩, h2, fun b' e => by cases e; exact ⟨by simp, _, hR⟩⟩
      · obtain ⟨x, T', M', N', h1, h2⟩ := LT.reach _ _ _ h
        obtain ⟨h3, h4⟩ := hL b (by simp [loopsIn]) T M N x T' M' N' h1
        exact ⟨x, T', M', N', fin _ _ _ _ h3 h4, h2, fun b' e => by cases e; exact ⟨h3, h4⟩⟩
    case exit id => exact ⟨.exit id, T, M, N, fun w0 W σ a w Q hG hT hM hN hQ => wp_exit (hQ σ a w (Sg.le_refl _) hT hM hN), h, fun b e => by cases e⟩
    case ret => exact ⟨.ret, T, M, N, fun w0 W σ a w Q hG hT hM hN hQ => wp_ret (hQ σ a w (Sg.le_refl _) hT hM hN), h, fun b e => by cases e⟩
    all_goals cases h

theorem resD_rel {w0 : World} {W : Nat → Prop} {σ : Sg} {T : TS} {M : List Blk} {a : Act} {w : World} (hT : TRel σ T a) (hM : MRel w0 W σ M w) {rv : ResultVar} {x : V} (h : resD P T M rv = some x) :
    ∃ v, (match rv with | .tmp t => pure (a.tmps.getD t undef) | .cell b t => do loadVar t (← asAddr (a.tmps.getD b undef)) : Sem Value).run P w = .ok v w ∧ VRel σ x v := by
  cases rv with
  | tmp t =>
    simp only [resD] at h
    split at h
    · rename_i y hy
      cases h
      have := hT.val t
      rw [hy] at this
      exact ⟨_, rfl, this⟩
    · cases h
  | cell b t =>
    simp only [resD] at h
    split at h
    · rename_i c k hc
      split at h
      · rename_i t' c' hm
        split at h
        · rename_i ha
          cases h
          have := hT.val b
          rw [hc] at this
          obtain ⟨L, hL, he⟩ := this
          have hB := hM.blk c
          rw [hm] at hB
          obtain ⟨L', u, h1, h2, _, _, h5, h6⟩ := hB
          rw [hL] at h1
          cases h1
          have hcell : w.cell? ⟨L.blk, L.off + 0, none⟩ = some u := by
            rw [cell_of_heap h5, h2]
            rfl
          refine ⟨u, ?_, h6⟩
          simp only [he, asAddr, Sem.run_bind, Sem.run_pure, Result.andThen_ok, loadVar, isAgg_run ha]
          simp only [Bool.false_eq_true, if_false, load, Sem.run, hcell]
        · cases h
      split at h
      · rename_i l hl
        have := hT.val b
        rw [hc] at this
        obtain ⟨L, hL, he⟩ := this
        obtain ⟨L', hL', hlok, hcell⟩ := (hM.blk c).cell hl
        rw [hL] at hL'
        cases hL'
        obtain ⟨v', hrun, hv⟩ := loadVar_run (σ := σ) h hlok L.off hcell
        refine ⟨v', ?_, hv⟩
        simp only [he, asAddr, Sem.run_bind, Sem.run_pure, Result.andThen_ok, hrun]
      · cases h
    · cases h

theorem resDs_rel {w0 : World} {W : Nat → Prop} {σ : Sg} {T : TS} {M : List Blk} {a : Act} {w : World} (hT : TRel σ T a) (hM : MRel w0 W σ M w) : ∀ {rs : List ResultVar} {xs : List V}, resDs P T M rs = some xs →
    ∃ vs, (rs.mapM fun rv => (match rv with | .tmp t => pure (a.tmps.getD t undef) | .cell b t => do loadVar t (← asAddr (a.tmps.getD b undef)) : Sem Value)).run P w = .ok vs w ∧ VRels σ xs vs
  | [], xs, h => by simp only [resDs, Option.some.injEq] at h; subst h; exact ⟨[], rfl, trivial⟩
  | rv :: r, xs, h => by
    simp only [resDs] at h
    split at h
    · rename_i x l h1 h2
      cases h
      obtain ⟨v, hv1, hv2⟩ := resD_rel hT hM h1
      obtain ⟨vs, hvs1, hvs2⟩ := resDs_rel hT hM h2
      refine ⟨v :: vs, ?_, hv2, hvs2⟩
      rw [List.mapM_cons, Sem.run_bind, hv1]
      simp only [Result.andThen_ok, Sem.run_bind, hvs1, Sem.run_pure]
    · cases h

theorem results_rel {w0 : World} {W : Nat → Prop} {σ : Sg} {T : TS} {M : List Blk} {a : Act} {w : World} (hT : TRel σ T a) (hM : MRel w0 W σ M w) {fn : Func} {xs : List V} (h : resDs P T M fn.results.toList = some xs) :
    ∃ v, (results fn a.tmps).run P w = .ok v w ∧ AVRel σ (tupD xs) v := by
  obtain ⟨vs, h1, h2⟩ := resDs_rel hT hM h
  refine ⟨if hh : vs.toArray.size = 1 then vs.toArray[0] else .tuple vs.toArray, ?_, ?_⟩
  · unfold results
    rw [Array.mapM_eq_mapM_toList, map_eq_pure_bind]
    simp only [Sem.run_bind]
    refine Eq.trans (congrArg (fun r : Result (List Value) => (r.andThen fun a w' => Sem.run P (pure a.toArray) w').andThen fun a w' => Sem.run P (pure (if h : a.size = 1 then a[0] else Value.tuple a)) w') h1) ?_
    simp only [Result.andThen_ok, Sem.run_pure]
  · match xs, vs, h2 with
    | [], [], _ => exact ⟨#[], rfl, trivial⟩
    | [x], [v], ⟨h3, _⟩ => exact h3
    | x :: y :: r, v :: u :: s, hh =>
      rw [dif_neg (by simp)]
      exact ⟨_, rfl, hh⟩

theorem numA_find : ∀ (l : List AV) (i t : Nat), tfind undefA (numA i l) (i + t) = l.getD t undefA
  | [], _, _ => by simp [numA, tfind]
  | x :: r, i, 0 => by simp [numA, tfind]
  | x :: r, i, t + 1 => by
    have : Nat.beq i (i + (t + 1)) = false := by
      cases hb : Nat.beq i (i + (t + 1)) with
      | false => rfl
      | true => have := Nat.eq_of_beq_eq_true hb; omega
    rw [numA, tfind]
    simp only [this, cond_false]
    rw [show i + (t + 1) = (i + 1) + t by omega, numA_find r (i + 1) t]
    simp

theorem frame_get (l : List AV) (k t : Nat) : tget (frameT l k) t = l.getD t undefA := by
  have := numA_find l 0 t
  rw [Nat.zero_add] at this
  exact this

theorem enter_rel {σ : Sg} : ∀ {as : List AV} {vs : List Value} (n : Nat), AVRels σ as vs → ∀ t, AVRel σ (as.getD t undefA) ((vs ++ List.replicate n undef).getD t undef)
  | [], [], n, _, t => by
    simp only [List.nil_append]
    have : (List.replicate n undef).getD t undef = undef := by
      rw [List.getD_eq_getElem?_getD, List.getElem?_replicate]
      split <;> rfl
    rw [this]
    exact undef_rel σ
  | _ :: _, _ :: _, n, ⟨h1, h2⟩, t => by
    cases t with
    | zero => exact h1
    | succ t => exact enter_rel n h2 t
  | [], _ :: _, _, hh, _ => hh.elim
  | _ :: _, [], _, hh, _ => hh.elim

/-- The evaluator's run of a function is a contract of it. -/
theorem evFn_sound (hEQ : ∀ t, t ∈ EQ.eq → EqOK P t) (hm : P.follows .mixedOrders = true) (hΓ : GOK P G gb Γ X) {n f : Nat} {as : List AV} {bs : List Blk} {K : AV → List Blk → Ans} {r : Res}
    (hL : ∀ fn c, P.funcs[f]? = some fn → fn.body = some c → LOK P G gb Λ (loopsIn c)) (h : evFn P G EQ Γ X Λ n f as bs K = some r) : ∃ v M, CallsA P G gb f as bs v M ∧ K v M = some r := by
  unfold evFn at h
  split at h
  · cases h
  · rename_i fn hf
    split at h
    · cases h
    · rename_i c hc
      obtain ⟨x, T, M, N, h1, h2, _⟩ := evCode_sound hEQ hm hΓ _ _ _ _ _ _ _ (hL fn c hf hc) h
      have body : ∀ xs, resDs P T M fn.results.toList = some xs → (x = .normal ∨ x = .ret) → CallsA P G gb f as bs (tupD xs) M := by
        intro xs hxs hx σ w args hargs hMr hGl hfr
        refine calls_of_wp hf hc ?_
        refine h1 w (Wof σ bs) σ _ w _ hGl ?_ hMr hfr ?_
        · have hl := hargs.length
          refine ⟨?_, fun t => ?_, rfl⟩
          · simp [frameT, TS.length, hl]
          · have := enter_rel (fn.ntmps - as.length) hargs t
            rw [frame_get]
            rw [show fn.ntmps - as.length = fn.ntmps - args.size from by rw [hl]; simp] at this
            rw [Array.getD_eq_getD_getElem?]
            rw [List.getD_eq_getElem?_getD] at this
            rw [← Array.getElem?_toList, Array.toList_append, Array.toList_replicate]
            exact this
        · intro τ a' w' hle hT' hM' _
          obtain ⟨v, hv1, hv2⟩ := results_rel hT' hM' hxs
          rcases hx with rfl | rfl
          · exact ⟨hT'.df, v, hv1, v, τ, rfl, hle, hv2, hM'⟩
          · exact ⟨hT'.df, v, hv1, v, τ, rfl, hle, hv2, hM'⟩
      cases x with
      | exit id => cases h2
      | normal =>
        simp only at h2
        split at h2
        · rename_i xs hxs
          exact ⟨_, M, body xs hxs (.inl rfl), h2⟩
        · cases h2
      | ret =>
        simp only at h2
        split at h2
        · rename_i xs hxs
          exact ⟨_, M, body xs hxs (.inr rfl), h2⟩
        · cases h2

/-- What the callee has left behind may be forgotten. -/
theorem CallsA.drop {f : Nat} {as : List AV} {bs M M' : List Blk} {v : AV} (h : CallsA P G gb f as bs v M) (he : ∀ b, mget M' b = mget M b ∨ mget M' b = .dead) : CallsA P G gb f as bs v M' :=
  fun σ w args h1 h2 h3 h4 => (h σ w args h1 h2 h3 h4).mono fun _ _ ⟨v', τ, h5, h6, h7, h8⟩ => ⟨v', τ, h5, h6, h7, h8.congr he⟩

/-- The table with one more function. -/
def upd (Γ : Nat → List AV → List Blk → (AV → List Blk → Ans) → Ans) (f : Nat) (s : List AV → List Blk → (AV → List Blk → Ans) → Ans) : Nat → List AV → List Blk → (AV → List Blk → Ans) → Ans :=
  fun g as bs K => bif g == f then s as bs K else Γ g as bs K

theorem GOK.upd (hΓ : GOK P G gb Γ X) {f : Nat} (hent : Enters P f) {s : List AV → List Blk → (AV → List Blk → Ans) → Ans} (h : ∀ as bs K r, s as bs K = some r → ∃ v M, CallsA P G gb f as bs v M ∧ K v M = some r) : GOK P G gb (upd Γ f s) X := by
  refine ⟨fun g as bs K r hr => ?_, hΓ.ext⟩
  unfold Ev.upd at hr
  simp only [cond_eq_ite, beq_iff_eq] at hr
  split at hr
  · rename_i e
    subst e
    obtain ⟨v, M, h1, h2⟩ := h as bs K r hr
    exact ⟨v, M, hent, h1, h2⟩
  · exact hΓ.call g as bs K r hr

/-- By the evaluator: what the function leaves beyond its callers' blocks is forgotten. -/
theorem GOK.fnL (hΓ : GOK P G gb Γ X) (hEQ : ∀ t, t ∈ EQ.eq → EqOK P t) (hm : P.follows .mixedOrders = true) {f : Nat} (hent : Enters P f) (hL : ∀ fn c, P.funcs[f]? = some fn → fn.body = some c → LOK P G gb Λ (loopsIn c)) {s : List AV → List Blk → (AV → List Blk → Ans) → Ans}
    (h : ∀ as bs K r, s as bs K = some r → ∃ n, evFn P G EQ Γ X Λ n f as bs (fun v M => K v (M.take bs.length)) = some r) : GOK P G gb (Ev.upd Γ f s) X := by
  refine hΓ.upd hent fun as bs K r hr => ?_
  obtain ⟨n, hn⟩ := h as bs K r hr
  obtain ⟨v, M, h1, h2⟩ := evFn_sound hEQ hm hΓ hL hn
  refine ⟨v, M.take bs.length, h1.drop fun b => ?_, h2⟩
  rw [mget, mget, gets_eq, gets_eq, List.getD_eq_getElem?_getD, List.getElem?_take]
  split
  · exact .inl (by rw [List.getD_eq_getElem?_getD])
  · exact .inr rfl

/-- No contract of a loop. -/
def noL : Nat → TS → List Blk → Nat → LT := fun _ _ _ _ => .no

theorem noL_ok (l : List Code) : LOK P G gb noL l := fun _ _ _ _ _ _ _ _ _ h => h.elim

theorem GOK.fn (hΓ : GOK P G gb Γ X) (hEQ : ∀ t, t ∈ EQ.eq → EqOK P t) (hm : P.follows .mixedOrders = true) {f : Nat} (hent : Enters P f) {s : List AV → List Blk → (AV → List Blk → Ans) → Ans}
    (h : ∀ as bs K r, s as bs K = some r → ∃ n, evFn P G EQ Γ X noL n f as bs (fun v M => K v (M.take bs.length)) = some r) : GOK P G gb (Ev.upd Γ f s) X :=
  hΓ.fnL hEQ hm hent (fun _ _ _ _ => noL_ok _) h

/-- The table, and functions that are entered: to a depth. -/
def inl (P : Program) (G : Nat → Option (List D)) (EQ : Tab) (X : Nat → List AV → (AV → Ans) → Ans) (fs : List Nat) (Γ : Nat → List AV → List Blk → (AV → List Blk → Ans) → Ans) (fuel : Nat) : Nat → Nat → List AV → List Blk → (AV → List Blk → Ans) → Ans
  | 0 => Γ
  | d + 1 => fun f xs bs K => bif fs.contains f then evFn P G EQ (inl P G EQ X fs Γ fuel d) X noL fuel f xs bs K else Γ f xs bs K

theorem GOK.inl (hΓ : GOK P G gb Γ X) (hEQ : ∀ t, t ∈ EQ.eq → EqOK P t) (hm : P.follows .mixedOrders = true) {fs : List Nat} (hent : ∀ f ∈ fs, Enters P f) (fuel : Nat) : ∀ d, GOK P G gb (Ev.inl P G EQ X fs Γ fuel d) X
  | 0 => hΓ
  | d + 1 => by
    refine ⟨fun f as bs K r h => ?_, hΓ.ext⟩
    simp only [Ev.inl, cond_eq_ite] at h
    split at h
    · rename_i hf
      obtain ⟨v, M, h1, h2⟩ := evFn_sound hEQ hm (GOK.inl hΓ hEQ hm hent fuel d) (fun _ _ _ _ => noL_ok _) h
      exact ⟨v, M, hent f (by simpa using hf), h1, h2⟩
    · exact hΓ.call f as bs K r h

/-! ### Loops, round by round -/

/-- A state of which less is known. -/
def Less (T U : TS) : Prop := T.length = U.length ∧ ∀ t, tget T t = tget U t ∨ tget T t = .any

theorem Less.length {T U : TS} (h : Less T U) : T.length = U.length := h.1
theorem Less.get {T U : TS} (h : Less T U) (t : Nat) : tget T t = tget U t ∨ tget T t = .any := h.2 t

theorem TRel.less {σ : Sg} {T U : TS} {a : Act} (h : TRel σ U a) (hl : Less T U) : TRel σ T a :=
  ⟨hl.length.trans h.len, fun t => by rcases hl.get t with e | e; rw [e]; exact h.val t; rw [e]; trivial, h.df⟩

/-- The last round. -/
theorem RoundsOK.last (hEQ : ∀ t, t ∈ EQ.eq → EqOK P t) (hm : P.follows .mixedOrders = true) (hΓ : GOK P G gb Γ X) {n : Nat} {b : Code} {T T1 : TS} {M M1 : List Blk} {N N1 : Nat} {x : Ex} (hL : LOK P G gb Λ (loopsIn b))
    (h : evCode P G EQ Γ X Λ n b T M N (fun x T M N => some (.st x T M N)) = some (.st x T1 M1 N1)) (hx : x ≠ .normal) {T2 : TS} {N2 : Nat} {M2 : List Blk} (hl : Less T2 T1) (hM2 : ∀ b, mget M2 b = mget M1 b ∨ mget M2 b = .dead) (hN2 : N1 ≤ N2) : RoundsOK P G gb b 1 T M N x T2 M2 N2 := by
  obtain ⟨x', T', M', N', h1, h2, _⟩ := evCode_sound hEQ hm hΓ n b T M N _ _ hL h
  cases h2
  intro w0 W σ a w Q hG hT hM hN hQ
  rw [rounds_succ]
  refine h1 w0 W σ a w _ hG hT hM hN fun τ a' w' hle hT' hM' hN' => ?_
  have := hQ τ a' w' hle (hT'.less hl) (hM'.congr hM2) (fun b hb => hN' b (by omega))
  cases x with
  | normal => exact absurd rfl hx
  | exit id => exact this
  | ret => exact this

/-- One round more, ahead. -/
theorem RoundsOK.step (hEQ : ∀ t, t ∈ EQ.eq → EqOK P t) (hm : P.follows .mixedOrders = true) (hΓ : GOK P G gb Γ X) {n k : Nat} {b : Code} {T T1 T2 T' : TS} {M M1 M2 M' : List Blk} {N N1 N2 N' : Nat} {x : Ex} (hL : LOK P G gb Λ (loopsIn b))
    (h : evCode P G EQ Γ X Λ n b T M N (fun x T M N => some (.st x T M N)) = some (.st .normal T1 M1 N1)) (hl : Less T2 T1) (hM2 : ∀ b, mget M2 b = mget M1 b ∨ mget M2 b = .dead) (hN2 : N1 ≤ N2) (hk : RoundsOK P G gb b k T2 M2 N2 x T' M' N') : RoundsOK P G gb b (k + 1) T M N x T' M' N' := by
  obtain ⟨x', T3, M3, N3, h1, h2, _⟩ := evCode_sound hEQ hm hΓ n b T M N _ _ hL h
  cases h2
  intro w0 W σ a w Q hG hT hM hN hQ
  rw [rounds_succ]
  exact h1 w0 W σ a w _ hG hT hM hN fun τ a' w' hle hT' hM' hN' => hk w0 W τ a' w' Q hG (hT'.less hl) (hM'.congr hM2) (fun b hb => hN' b (by omega)) fun υ a'' w'' hle' => hQ υ a'' w'' (Sg.le_trans hle hle')

/-- The state at a loop's head, of which less is known. -/
theorem RoundsOK.less {k : Nat} {b : Code} {T T1 T' : TS} {M M' : List Blk} {N N' : Nat} {x : Ex} (h : RoundsOK P G gb b k T M N x T' M' N') (hl : Less T T1) : RoundsOK P G gb b k T1 M N x T' M' N' :=
  fun w0 W σ a w Q hG hT hM hN hQ => h w0 W σ a w Q hG (hT.less hl) hM hN hQ

theorem GOK.none (hext : ∀ f as K r, X f as K = some r → ∃ v, ExtA P f as v ∧ K v = some r) : GOK P G gb (fun _ _ _ _ => Option.none) X := ⟨(fun _ _ _ _ _ h => by cases h), hext⟩

end
end Go.Ev
