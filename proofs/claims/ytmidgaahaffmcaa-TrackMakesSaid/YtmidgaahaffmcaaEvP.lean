/-
  The evaluator with the slots and blocks tidied up at the head of a loop: where a loop runs long, the kernel is faster with it. Sound as the other. No condition.
-/
import Derived.Test.YtmidgaahaffmcaaLoop
namespace Go.Ev
open Go

def forceV {α : Type} (v : AV) (k : AV → α) : α := match v with
  | .v x => k (.v x)
  | .tup l => k (.tup l)
  | .any => k .any
theorem forceV_eq {α : Type} (v : AV) (k : AV → α) : forceV v k = k v := by cases v <;> rfl
def fN {α : Type} (n : Nat) (k : Nat → α) : α := @Nat.rec (fun _ => α) (k 0) (fun m _ => k (Nat.succ m)) n
theorem fN_eq {α : Type} (n : Nat) (k : Nat → α) : fN n k = k n := by cases n <;> rfl
def keepF {α : Type} (T : TS) : List Nat → (List (Nat × AV) → α) → α
  | [], k => k []
  | i :: r, k => forceV (tget T i) fun v => keepF T r fun l => k ((i, v) :: l)
theorem keepF_eq {α : Type} (T : TS) : ∀ (ks : List Nat) (k : List (Nat × AV) → α), keepF T ks k = k (keepL T ks)
  | [], _ => rfl
  | i :: r, k => by rw [keepF, forceV_eq, keepF_eq T r]; rfl
def nfL {α : Type} : List D → (List D → α) → α
  | [], k => k []
  | x :: r, k => nfL r fun r' => k (x :: r')
theorem nfL_eq {α : Type} : ∀ (l : List D) (k : List D → α), nfL l k = k l
  | [], _ => rfl
  | x :: r, k => by rw [nfL, nfL_eq r]
def nfB {α : Type} : List Blk → (List Blk → α) → α
  | [], k => k []
  | b :: r, k => match b with
    | .rw t l => nfL l fun l' => nfB r fun r' => k (.rw t l' :: r')
    | b => nfB r fun r' => k (b :: r')
theorem nfB_eq {α : Type} : ∀ (M : List Blk) (k : List Blk → α), nfB M k = k M
  | [], _ => rfl
  | .rw t l :: r, k => by rw [nfB, nfL_eq, nfB_eq r]
  | .ro l :: r, k => by unfold nfB; exact nfB_eq r _
  | .dead :: r, k => by unfold nfB; exact nfB_eq r _

section
variable (P : Program) (G : Nat → Option (List D)) (EQ : List Nat)
variable (Γ : Nat → List AV → List Blk → (AV → List Blk → Ans) → Ans) (X : Nat → List AV → (AV → Ans) → Ans) (Λ : Nat → TS → List Blk → Nat → LT) (kp : Nat → List Nat)

def evCodeP : Nat → Code → TS → List Blk → Nat → (Ex → TS → List Blk → Nat → Ans) → Ans
  | 0, _, _, _, _, _ => none
  | n + 1, c, T, M, N0, K =>
    match c with
    | .skip => K .normal T M N0
    | .region _ ops false => evOps P G EQ Γ X false ops.toList ops.toList T M N0 [] fun T M N _ => K .normal T M N
    | .region _ ops true => evOps P G EQ Γ X true ops.toList ops.toList T M N0 [] fun T M N tr =>
        bif drawOk ops.toList tr.reverse then K .normal T M (endN N0 N tr.reverse) else none
    | .seq a b => evCodeP n a T M N0 fun x T M N => match x with
      | .normal => evCodeP n b T M N K
      | x => K x T M N
    | .cond c a b => match opdV T c with
      | some (.v (.c (.d (.bool x)))) => bif x then evCodeP n a T M N0 K else evCodeP n b T M N0 K
      | _ => none
    | .block id b => evCodeP n b T M N0 fun x T M N => match x with
      | .exit id' => bif id' == id then K .normal T M N else K (.exit id') T M N
      | x => K x T M N
    | .loop b => match Λ (loopKey b) T M N0 with
      | .no => evCodeP n b T M N0 fun x T M N => match x with
        | .normal => keepF T (kp (loopKey b)) fun l => fN T.length fun m => nfB M fun M => evCodeP n (.loop b) (maskT l m) M N K
        | x => K x T M N
      | t => t.run K
    | .exit id => K (.exit id) T M N0
    | .ret => K .ret T M N0
    | _ => none

def evFnP (n f : Nat) (args : List AV) (M : List Blk) (K : AV → List Blk → Ans) : Ans :=
  match P.funcs[f]? with
  | none => none
  | some fn => match fn.body with
    | none => none
    | some c => evCodeP P G EQ Γ X Λ kp n c (frameT args (fn.ntmps - args.length)) M M.length fun x T M _ => match x with
      | .exit _ => none
      | _ => match resDs P T M fn.results.toList with
        | some l => K (tupD l) M
        | none => none

end

section
variable {P : Program} {G : Nat → Option (List D)} {gb : Nat} {EQ : List Nat} {Γ : Nat → List AV → List Blk → (AV → List Blk → Ans) → Ans} {X : Nat → List AV → (AV → Ans) → Ans} {Λ : Nat → TS → List Blk → Nat → LT}

theorem evCodeP_sound (kp : Nat → List Nat) (hEQ : ∀ t, t ∈ EQ → EqOK P t) (hm : P.follows .mixedOrders = true) (hΓ : GOK P G gb Γ X) : ∀ (n : Nat) (c : Code) (T : TS) (M : List Blk) (N : Nat) (K : Ex → TS → List Blk → Nat → Ans) (r : Res), LOK P G gb Λ (loopsIn c) →
    evCodeP P G EQ Γ X Λ kp n c T M N K = some r → ∃ x T' M' N', CodeOK P G gb c T M N x T' M' N' ∧ K x T' M' N' = some r ∧
      (∀ b, c = .loop b → x ≠ .normal ∧ ∃ k, RoundsOK P G gb b k T M N x T' M' N') := by
  intro n
  induction n with
  | zero => intro c T M N K r _ h; cases h
  | succ n ih =>
    intro c T M N K r hL h
    cases c <;> simp only [evCodeP] at h
    case skip => exact ⟨.normal, T, M, N, fun w0 W σ a w Q hG hT hM hN hQ => wp_skip (hQ σ a w (Sg.le_refl _) hT hM hN), h, fun b e => by cases e⟩
    case region id ops draw =>
      cases draw with
      | false =>
        simp only at h
        obtain ⟨tr, T', M', N', h1, h2⟩ := evOps_trace hΓ false ops.toList _ _ _ _ _ _ _ h
        exact ⟨.normal, T', M', N', fun w0 W σ a w Q hG hT hM hN hQ => wp_region_list (trace_seq hEQ hG h1 hT hM hN hQ), h2, fun b e => by cases e⟩
      | true =>
        simp only at h
        obtain ⟨tr, T', M', N', h1, h2⟩ := evOps_trace hΓ true ops.toList _ _ _ _ _ _ _ h
        simp only [List.append_nil, List.reverse_reverse, cond_eq_ite] at h2
        split at h2
        · rename_i hd
          exact ⟨.normal, T', M', endN N N' tr, fun w0 W σ a w Q hG hT hM hN hQ => draw_sound hEQ hm hG h1 hd hT hM hN hQ, h2, fun b e => by cases e⟩
        · cases h2
    case seq x y =>
      obtain ⟨e1, T1, M1, N1, h1, h2, _⟩ := ih x T M N _ r (fun b hb => hL b (by simp [loopsIn, hb])) h
      cases e1 with
      | normal =>
        simp only at h2
        obtain ⟨e2, T2, M2, N2, h3, h4, _⟩ := ih y T1 M1 N1 K r (fun b hb => hL b (by simp [loopsIn, hb])) h2
        refine ⟨e2, T2, M2, N2, fun w0 W σ a w Q hG hT hM hN hQ => wp_seq (h1 w0 W σ a w _ hG hT hM hN fun τ a' w' hle hT' hM' hN' => ?_), h4, fun b e => by cases e⟩
        exact h3 w0 W τ a' w' Q hG hT' hM' hN' fun υ a'' w'' hle' => hQ υ a'' w'' (Sg.le_trans hle hle')
      | exit id => exact ⟨.exit id, T1, M1, N1, fun w0 W σ a w Q hG hT hM hN hQ => wp_seq (h1 w0 W σ a w _ hG hT hM hN hQ), h2, fun b e => by cases e⟩
      | ret => exact ⟨.ret, T1, M1, N1, fun w0 W σ a w Q hG hT hM hN hQ => wp_seq (h1 w0 W σ a w _ hG hT hM hN hQ), h2, fun b e => by cases e⟩
    case cond c x y =>
      split at h
      · rename_i b hb
        cases b with
        | true =>
          obtain ⟨e1, T1, M1, N1, h1, h2, _⟩ := ih x T M N K r (fun b hb => hL b (by simp [loopsIn, hb])) h
          exact ⟨e1, T1, M1, N1, fun w0 W σ a w Q hG hT hM hN hQ => wp_cond_true (opdV_rel hT hb).1 (h1 w0 W σ a w Q hG hT hM hN hQ), h2, fun b e => by cases e⟩
        | false =>
          obtain ⟨e1, T1, M1, N1, h1, h2, _⟩ := ih y T M N K r (fun b hb => hL b (by simp [loopsIn, hb])) h
          exact ⟨e1, T1, M1, N1, fun w0 W σ a w Q hG hT hM hN hQ => wp_cond_false (opdV_rel hT hb).1 (h1 w0 W σ a w Q hG hT hM hN hQ), h2, fun b e => by cases e⟩
      · cases h
    case block id b =>
      obtain ⟨e1, T1, M1, N1, h1, h2, _⟩ := ih b T M N _ r (fun b' hb => hL b' (by simp [loopsIn, hb])) h
      cases e1 with
      | normal => exact ⟨.normal, T1, M1, N1, fun w0 W σ a w Q hG hT hM hN hQ => wp_block (h1 w0 W σ a w _ hG hT hM hN hQ), h2, fun b e => by cases e⟩
      | exit id' =>
        simp only [cond_eq_ite, beq_iff_eq] at h2
        by_cases e : id' = id
        · rw [if_pos e] at h2
          exact ⟨.normal, T1, M1, N1, fun w0 W σ a w Q hG hT hM hN hQ => wp_block (h1 w0 W σ a w _ hG hT hM hN fun τ a' w' hle hT' hM' hN' => by simp only [toExit, Exit.inBlock, e, if_true]; exact hQ τ a' w' hle hT' hM' hN'), h2, fun b e => by cases e⟩
        · rw [if_neg e] at h2
          exact ⟨.exit id', T1, M1, N1, fun w0 W σ a w Q hG hT hM hN hQ => wp_block (h1 w0 W σ a w _ hG hT hM hN fun τ a' w' hle hT' hM' hN' => by simp only [toExit, Exit.inBlock, e, if_false]; exact hQ τ a' w' hle hT' hM' hN'), h2, fun b e => by cases e⟩
      | ret => exact ⟨.ret, T1, M1, N1, fun w0 W σ a w Q hG hT hM hN hQ => wp_block (h1 w0 W σ a w _ hG hT hM hN hQ), h2, fun b e => by cases e⟩
    case loop b =>
      have fin : ∀ x T' M' N', x ≠ .normal → (∃ k, RoundsOK P G gb b k T M N x T' M' N') → CodeOK P G gb (.loop b) T M N x T' M' N' := by
        rintro x T' M' N' _ ⟨k, hk⟩ w0 W σ a w Q hG hT hM hN hQ
        exact wp_loop_rounds k (hk w0 W σ a w Q hG hT hM hN hQ)
      split at h
      · rename_i hno
        obtain ⟨e1, T1, M1, N1, h1, h2, _⟩ := ih b T M N _ r (fun b' hb => hL b' (by simp [loopsIn, hb])) h
        cases e1 with
        | normal =>
          simp only [keepF_eq, nfB_eq, fN_eq] at h2
          obtain ⟨e2, T2, M2, N2, _, h4, h5⟩ := ih (.loop b) (forget (kp (loopKey b)) T1) M1 N1 K r hL h2
          obtain ⟨hne, k, hk⟩ := h5 b rfl
          have hR : RoundsOK P G gb b (k + 1) T M N e2 T2 M2 N2 := by
            intro w0 W σ a w Q hG hT hM hN hQ
            rw [rounds_succ]
            exact h1 w0 W σ a w _ hG hT hM hN fun τ a' w' hle hT' hM' hN' => hk w0 W τ a' w' Q hG (hT'.less (forget_less _ _)) hM' hN' fun υ a'' w'' hle' => hQ υ a'' w'' (Sg.le_trans hle hle')
          exact ⟨e2, T2, M2, N2, fin _ _ _ _ hne ⟨_, hR⟩, h4, fun b' e => by cases e; exact ⟨hne, _, hR⟩⟩
        | exit id =>
          have hR : RoundsOK P G gb b 1 T M N (.exit id) T1 M1 N1 := by
            intro w0 W σ a w Q hG hT hM hN hQ
            rw [rounds_succ]
            exact h1 w0 W σ a w _ hG hT hM hN hQ
          exact ⟨.exit id, T1, M1, N1, fin _ _ _ _ (by simp) ⟨_, hR⟩, h2, fun b' e => by cases e; exact ⟨by simp, _, hR⟩⟩
        | ret =>
          have hR : RoundsOK P G gb b 1 T M N .ret T1 M1 N1 := by
            intro w0 W σ a w Q hG hT hM hN hQ
            rw [rounds_succ]
            exact h1 w0 W σ a w _ hG hT hM hN hQ
          exact ⟨.ret, T1, M1, N1, fin _ _ _ _ (by simp) ⟨_, hR⟩, h2, fun b' e => by cases e; exact ⟨by simp, _, hR⟩⟩
      · obtain ⟨x, T', M', N', h1, h2⟩ := LT.reach _ _ _ h
        obtain ⟨h3, h4⟩ := hL b (by simp [loopsIn]) T M N x T' M' N' h1
        exact ⟨x, T', M', N', fin _ _ _ _ h3 h4, h2, fun b' e => by cases e; exact ⟨h3, h4⟩⟩
    case exit id => exact ⟨.exit id, T, M, N, fun w0 W σ a w Q hG hT hM hN hQ => wp_exit (hQ σ a w (Sg.le_refl _) hT hM hN), h, fun b e => by cases e⟩
    case ret => exact ⟨.ret, T, M, N, fun w0 W σ a w Q hG hT hM hN hQ => wp_ret (hQ σ a w (Sg.le_refl _) hT hM hN), h, fun b e => by cases e⟩
    all_goals cases h

/-- The evaluator's run of a function is a contract of it. -/
theorem evFnP_sound (kp : Nat → List Nat) (hEQ : ∀ t, t ∈ EQ → EqOK P t) (hm : P.follows .mixedOrders = true) (hΓ : GOK P G gb Γ X) {n f : Nat} {as : List AV} {bs : List Blk} {K : AV → List Blk → Ans} {r : Res}
    (hL : ∀ fn c, P.funcs[f]? = some fn → fn.body = some c → LOK P G gb Λ (loopsIn c)) (h : evFnP P G EQ Γ X Λ kp n f as bs K = some r) : ∃ v M, CallsA P G gb f as bs v M ∧ K v M = some r := by
  unfold evFnP at h
  split at h
  · cases h
  · rename_i fn hf
    split at h
    · cases h
    · rename_i c hc
      obtain ⟨x, T, M, N, h1, h2, _⟩ := evCodeP_sound kp hEQ hm hΓ _ _ _ _ _ _ _ (hL fn c hf hc) h
      have body : ∀ xs, resDs P T M fn.results.toList = some xs → (x = .normal ∨ x = .ret) → CallsA P G gb f as bs (tupD xs) M := by
        intro xs hxs hx σ w args hargs hMr hGl hfr
        refine calls_of_wp hf hc ?_
        refine h1 w (Wof σ bs) σ _ w _ hGl ?_ hMr hfr ?_
        · have hl := hargs.length
          refine ⟨?_, fun t => ?_, rfl⟩
          · simp [frameT, TS.length, hl]
          · have := enter_rel (fn.ntmps - as.length) hargs t
            rw [frame_get]
            rw [show fn.ntmps - as.length = fn.ntmps - args.size from by rw [hl]; simp] at this
            rw [Array.getD_eq_getD_getElem?]
            rw [List.getD_eq_getElem?_getD] at this
            rw [← Array.getElem?_toList, Array.toList_append, Array.toList_replicate]
            exact this
        · intro τ a' w' hle hT' hM' _
          obtain ⟨v, hv1, hv2⟩ := results_rel hT' hM' hxs
          rcases hx with rfl | rfl
          · exact ⟨hT'.df, v, hv1, v, τ, rfl, hle, hv2, hM'⟩
          · exact ⟨hT'.df, v, hv1, v, τ, rfl, hle, hv2, hM'⟩
      cases x with
      | exit id => cases h2
      | normal =>
        simp only at h2
        split at h2
        · rename_i xs hxs
          exact ⟨_, M, body xs hxs (.inl rfl), h2⟩
        · cases h2
      | ret =>
        simp only at h2
        split at h2
        · rename_i xs hxs
          exact ⟨_, M, body xs hxs (.inr rfl), h2⟩
        · cases h2

end
end Go.Ev
