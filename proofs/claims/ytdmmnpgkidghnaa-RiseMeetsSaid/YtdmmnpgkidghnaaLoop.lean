/-
  Contracts of loops over integer slots: the slots that live, what they come to. No condition.
-/
import Derived.Test.YtdmmnpgkidghnaaEvM
namespace Go.Ev
open Go

/-- Slots of which only some are known. -/
def maskT (ks : List (Nat × AV)) (n : Nat) : TS := ⟨n, .any, ks⟩

def zipI : List (Nat × IntKind) → List Int → List (Nat × AV)
  | p :: r, x :: s => (p.1, aint p.2 x) :: zipI r s
  | _, _ => []

def mkT (live : List (Nat × IntKind)) (n : Nat) (xs : List Int) : TS := maskT (zipI live xs) n

def readI (T : TS) : List (Nat × IntKind) → Option (List Int)
  | [] => some []
  | p :: r => match tget T p.1 with
    | .v (.c (.d (.int k x))) => bif decide (k = p.2) then (match readI T r with | some l => some (x :: l) | none => none) else none
    | _ => none

theorem find_of {ks : List (Nat × AV)} {T : TS} (h : ∀ p ∈ ks, tget T p.1 = p.2) (i : Nat) : tfind .any ks i = tget T i ∨ tfind .any ks i = .any := by
  induction ks with
  | nil => exact .inr rfl
  | cons p r ih =>
    rw [tfind]
    cases hb : Nat.beq p.1 i with
    | true =>
      rw [cond_true, ← Nat.eq_of_beq_eq_true hb]
      exact .inl (h p (by simp)).symm
    | false => exact ih fun q hq => h q (by simp [hq])

theorem less_of {ks : List (Nat × AV)} {n : Nat} {T : TS} (hl : T.length = n) (h : ∀ p ∈ ks, tget T p.1 = p.2) : Less (maskT ks n) T :=
  ⟨hl.symm, fun t => find_of h t⟩

theorem readI_gets {T : TS} : ∀ {live : List (Nat × IntKind)} {xs : List Int}, readI T live = some xs → xs.length = live.length ∧ ∀ p ∈ zipI live xs, tget T p.1 = p.2
  | [], xs, h => by simp only [readI, Option.some.injEq] at h; subst h; simp [zipI]
  | p :: r, xs, h => by
    unfold readI at h
    split at h
    · rename_i k x hx
      simp only [cond_eq_ite, decide_eq_true_eq] at h
      split at h
      · rename_i ek
        split at h
        · rename_i l hl
          cases h
          obtain ⟨h1, h2⟩ := readI_gets hl
          refine ⟨by simp [h1], ?_⟩
          intro q hq
          simp only [zipI, List.mem_cons] at hq
          rcases hq with rfl | hq
          · rw [hx, ek]; rfl
          · exact h2 q hq
        · cases h
      · cases h
    · cases h

/-- The slots of T, as far as they live. -/
theorem less_mkT {T : TS} {live : List (Nat × IntKind)} {xs : List Int} {n : Nat} (hl : T.length = n) (h : readI T live = some xs) : Less (mkT live n xs) T :=
  less_of hl (readI_gets h).2

/-- All slots but some are forgotten. -/
def keepL (T : TS) : List Nat → List (Nat × AV)
  | [] => []
  | i :: r => (i, tget T i) :: keepL T r

def forget (keep : List Nat) (T : TS) : TS := maskT (keepL T keep) T.length

theorem keepL_get {T : TS} : ∀ {keep : List Nat}, ∀ p ∈ keepL T keep, tget T p.1 = p.2
  | [], _, h => by cases h
  | i :: r, p, h => by
    rcases List.mem_cons.1 h with rfl | h
    · rfl
    · exact keepL_get p h

theorem forget_less (keep : List Nat) (T : TS) : Less (forget keep T) T := less_of rfl keepL_get

def codeOf (P : Program) (f : Nat) : Option Code := match P.funcs[f]? with | some fn => fn.body | none => none
def loopsF (P : Program) (f : Nat) : List Code := match codeOf P f with | some c => loopsIn c | none => []
def loopB (P : Program) (f i : Nat) : Code := (loopsF P f).getD i .skip

section
variable {P : Program} {G : Nat → Option (List D)} {gb : Nat} {EQ : Tab} {Γ : Nat → List AV → List Blk → (AV → List Blk → Ans) → Ans} {X : Nat → List AV → (AV → Ans) → Ans} {Λ : Nat → TS → List Blk → Nat → LT}

def LOKb (P : Program) (G : Nat → Option (List D)) (gb : Nat) (Λ : Nat → TS → List Blk → Nat → LT) (b : Code) : Prop :=
  ∀ T M N x T' M' N', LReach (Λ (loopKey b) T M N) x T' M' N' → x ≠ .normal ∧ ∃ k, RoundsOK P G gb b k T M N x T' M' N'

theorem LOK.ofF {f : Nat} (h : ∀ b ∈ loopsF P f, LOKb P G gb Λ b) : ∀ fn c, P.funcs[f]? = some fn → fn.body = some c → LOK P G gb Λ (loopsIn c) := by
  intro fn c h1 h2 b hb
  refine h b ?_
  simpa [loopsF, codeOf, h1, h2] using hb

def Lam1 (key n e : Nat) (live : List (Nat × IntKind)) (dom : List Int → Bool) (fin : List Int → List Int) : Nat → TS → List Blk → Nat → LT :=
  fun k T M N => bif k == key && T.length == n then (match readI T live with
    | some xs => .br (dom xs) (.st (.exit e) (mkT live n (fin xs)) M N) .no
    | none => .no) else .no

def orL (Λ Λ' : Nat → TS → List Blk → Nat → LT) : Nat → TS → List Blk → Nat → LT :=
  fun k T M N => match Λ k T M N with
    | .no => Λ' k T M N
    | t => t

theorem LOKb.or {Λ' : Nat → TS → List Blk → Nat → LT} {b : Code} (h : LOKb P G gb Λ b) (h' : LOKb P G gb Λ' b) : LOKb P G gb (orL Λ Λ') b := by
  intro T M N x T' M' N' hr
  unfold orL at hr
  split at hr
  · exact h' T M N x T' M' N' hr
  · exact h T M N x T' M' N' hr

theorem LOKb.no {b : Code} : LOKb P G gb noL b := fun _ _ _ _ _ _ _ h => h.elim

theorem LOKb.lam1 {b : Code} {n e : Nat} {live : List (Nat × IntKind)} {dom : List Int → Bool} {fin : List Int → List Int}
    (h : ∀ xs M N, xs.length = live.length → dom xs = true → ∃ k, RoundsOK P G gb b k (mkT live n xs) M N (.exit e) (mkT live n (fin xs)) M N) : LOKb P G gb (Lam1 (loopKey b) n e live dom fin) b := by
  intro T M N x T' M' N' hr
  unfold Lam1 at hr
  simp only [cond_eq_ite, Bool.and_eq_true, beq_iff_eq, beq_self_eq_true, true_and] at hr
  split at hr
  · rename_i hl
    split at hr
    · rename_i xs hxs
      rcases hr with ⟨hd, rfl, rfl, rfl, rfl⟩ | ⟨_, hf⟩
      · obtain ⟨k, hk⟩ := h xs _ _ (readI_gets hxs).1 hd
        exact ⟨by simp, k, hk.less (less_mkT hl hxs)⟩
      · exact hf.elim
    · exact hr.elim
  · exact hr.elim

theorem LOKb.lam1_other {b : Code} {key n e : Nat} {live : List (Nat × IntKind)} {dom : List Int → Bool} {fin : List Int → List Int} (hk : loopKey b ≠ key) : LOKb P G gb (Lam1 key n e live dom fin) b := by
  intro T M N x T' M' N' hr
  unfold Lam1 at hr
  have : (loopKey b == key) = false := by simpa using hk
  rw [this] at hr
  exact hr.elim

/-- A round that goes on, from known slots to known slots. -/
theorem RoundsOK.go (hΓ : GOK P G gb Γ X) (hEQ : ∀ t, t ∈ EQ.eq → EqOK P t) (hm : P.follows .mixedOrders = true) {fuel k : Nat} {b : Code} {T T1 T' : TS} {M M1 M' : List Blk} {N N1 N' : Nat} {x : Ex} {keep : List Nat} (hL : LOK P G gb Λ (loopsIn b))
    (h : evCode P G EQ Γ X Λ fuel b T M N (fun x T M N => some (.st x (forget keep T) M N)) = some (.st .normal T1 M1 N1)) (hk : RoundsOK P G gb b k T1 M1 N1 x T' M' N') : RoundsOK P G gb b (k + 1) T M N x T' M' N' := by
  obtain ⟨x', T3, M3, N3, h1, h2, _⟩ := evCode_sound hEQ hm hΓ fuel b T M N _ _ hL h
  cases h2
  intro w0 W σ a w Q hG hT hM hN hQ
  rw [rounds_succ]
  exact h1 w0 W σ a w _ hG hT hM hN fun τ a' w' hle hT' hM' hN' => hk w0 W τ a' w' Q hG (hT'.less (forget_less _ _)) hM' hN' fun υ a'' w'' hle' => hQ υ a'' w'' (Sg.le_trans hle hle')

theorem RoundsOK.fin (hΓ : GOK P G gb Γ X) (hEQ : ∀ t, t ∈ EQ.eq → EqOK P t) (hm : P.follows .mixedOrders = true) {fuel e : Nat} {b : Code} {T T1 : TS} {M M1 : List Blk} {N N1 : Nat} {keep : List Nat} (hL : LOK P G gb Λ (loopsIn b))
    (h : evCode P G EQ Γ X Λ fuel b T M N (fun x T M N => some (.st x (forget keep T) M N)) = some (.st (.exit e) T1 M1 N1)) : RoundsOK P G gb b 1 T M N (.exit e) T1 M1 N1 := by
  obtain ⟨x', T3, M3, N3, h1, h2, _⟩ := evCode_sound hEQ hm hΓ fuel b T M N _ _ hL h
  cases h2
  intro w0 W σ a w Q hG hT hM hN hQ
  rw [rounds_succ]
  exact h1 w0 W σ a w _ hG hT hM hN fun τ a' w' hle hT' hM' hN' => hQ τ a' w' hle (hT'.less (forget_less _ _)) hM' hN'

theorem RoundsOK.weak {k : Nat} {b : Code} {T T' T2 : TS} {M M' : List Blk} {N N' : Nat} {x : Ex} (h : RoundsOK P G gb b k T M N x T' M' N') (hl : Less T2 T') : RoundsOK P G gb b k T M N x T2 M' N' :=
  fun w0 W σ a w Q hG hT hM hN hQ => h w0 W σ a w Q hG hT hM hN fun τ a' w' hle hT' hM' hN' => hQ τ a' w' hle (hT'.less hl) hM' hN'

/-! ### Loops over slots and blocks -/

/-- What a slot holds: an integer, a known address. -/
inductive Sh where
  | int (k : IntKind)
  | ptr (b o : Nat)

def readS (T : TS) : List (Nat × Sh) → Option (List Int)
  | [] => some []
  | (i, .int k) :: r => match tget T i with
    | .v (.c (.d (.int k' x))) => bif decide (k' = k) then (match readS T r with | some l => some (x :: l) | none => none) else none
    | _ => none
  | (i, .ptr b o) :: r => match tget T i with
    | .v (.c (.ptr b' o')) => bif (b' == b) && (o' == o) then readS T r else none
    | _ => none

def mkS : List (Nat × Sh) → List Int → List (Nat × AV)
  | [], _ => []
  | (i, .ptr b o) :: r, xs => (i, aptr b o) :: mkS r xs
  | (i, .int k) :: r, x :: xs => (i, aint k x) :: mkS r xs
  | (_, .int _) :: _, [] => []

theorem readS_gets {T : TS} : ∀ {sh : List (Nat × Sh)} {xs : List Int}, readS T sh = some xs → ∀ p ∈ mkS sh xs, tget T p.1 = p.2
  | [], xs, h => by simp [mkS]
  | (i, .int k) :: r, xs, h => by
    unfold readS at h
    split at h
    · rename_i k' x hx
      simp only [cond_eq_ite, decide_eq_true_eq] at h
      split at h
      · rename_i ek
        split at h
        · rename_i l hl
          cases h
          intro q hq
          simp only [mkS, List.mem_cons] at hq
          rcases hq with rfl | hq
          · rw [hx, ek]; rfl
          · exact readS_gets hl q hq
        · cases h
      · cases h
    · cases h
  | (i, .ptr b o) :: r, xs, h => by
    unfold readS at h
    split at h
    · rename_i b' o' hx
      simp only [cond_eq_ite, Bool.and_eq_true, beq_iff_eq] at h
      split at h
      · rename_i ek
        intro q hq
        simp only [mkS, List.mem_cons] at hq
        rcases hq with rfl | hq
        · rw [hx, ek.1, ek.2]; rfl
        · exact readS_gets h q hq
      · cases h
    · cases h

def readD : List D → List IntKind → Option (List Int)
  | [], [] => some []
  | .int k x :: r, k' :: s => bif decide (k = k') then (match readD r s with | some l => some (x :: l) | none => none) else none
  | _, _ => none

def mkD : List IntKind → List Int → List D
  | k :: r, x :: s => .int k x :: mkD r s
  | _, _ => []

theorem readD_eq : ∀ {l : List D} {ks : List IntKind} {ys : List Int}, readD l ks = some ys → l = mkD ks ys ∧ ys.length = ks.length
  | [], [], ys, h => by simp only [readD, Option.some.injEq] at h; subst h; exact ⟨rfl, rfl⟩
  | .int k x :: r, k' :: s, ys, h => by
    simp only [readD, cond_eq_ite, decide_eq_true_eq] at h
    split at h
    · rename_i e
      subst e
      split at h
      · rename_i l hl
        cases h
        obtain ⟨h1, h2⟩ := readD_eq hl
        exact ⟨by rw [h1]; rfl, by simp [h2]⟩
      · cases h
    · cases h
  | [], _ :: _, _, h => by cases h
  | .int _ _ :: _, [], _, h => by cases h
  | .bool _ :: _, [], _, h => by cases h
  | .str _ :: _, [], _, h => by cases h
  | .bool _ :: _, _ :: _, _, h => by cases h
  | .str _ :: _, _ :: _, _, h => by cases h

def readM : List Blk → List (Nat × List IntKind) → Option (List Int)
  | [], [] => some []
  | .rw t l :: r, (t', ks) :: s => bif t == t' then (match readD l ks, readM r s with | some x, some y => some (x ++ y) | _, _ => none) else none
  | _, _ => none

def mkM : List (Nat × List IntKind) → List Int → List Blk
  | [], _ => []
  | (t, ks) :: s, ys => .rw t (mkD ks (ys.take ks.length)) :: mkM s (ys.drop ks.length)

theorem readM_eq : ∀ {M : List Blk} {ms : List (Nat × List IntKind)} {ys : List Int}, readM M ms = some ys → M = mkM ms ys
  | [], [], _, _ => rfl
  | .rw t l :: r, (t', ks) :: s, ys, h => by
    simp only [readM, cond_eq_ite, beq_iff_eq] at h
    split at h
    · rename_i e
      subst e
      split at h
      · rename_i x y hx hy
        cases h
        obtain ⟨h1, h2⟩ := readD_eq hx
        have h3 := readM_eq hy
        simp only [mkM]
        rw [← h2, List.take_left' rfl, List.drop_left' rfl, ← h1, ← h3]
      · cases h
    · cases h
  | [], _ :: _, _, h => by cases h
  | .rw _ _ :: _, [], _, h => by cases h
  | .dead :: _, [], _, h => by cases h
  | .ro _ :: _, [], _, h => by cases h
  | .arr _ _ _ :: _, [], _, h => by cases h
  | .cell _ _ :: _, [], _, h => by cases h
  | .dead :: _, _ :: _, _, h => by cases h
  | .ro _ :: _, _ :: _, _, h => by cases h
  | .arr _ _ _ :: _, _ :: _, _, h => by cases h
  | .cell _ _ :: _, _ :: _, _, h => by cases h

def LamS (key n nb : Nat) (sh : List (Nat × Sh)) (ms : List (Nat × List IntKind)) (f : List Int → List Int → LT) : Nat → TS → List Blk → Nat → LT :=
  fun k T M N => bif k == key && (T.length == n && N == nb) then (match readS T sh, readM M ms with
    | some xs, some ys => f xs ys
    | _, _ => .no) else .no

theorem LOKb.lamS {b : Code} {n nb : Nat} {sh : List (Nat × Sh)} {ms : List (Nat × List IntKind)} {f : List Int → List Int → LT}
    (h : ∀ xs ys x T' M' N', LReach (f xs ys) x T' M' N' → x ≠ .normal ∧ ∃ k, RoundsOK P G gb b k (maskT (mkS sh xs) n) (mkM ms ys) nb x T' M' N') : LOKb P G gb (LamS (loopKey b) n nb sh ms f) b := by
  intro T M N x T' M' N' hr
  unfold LamS at hr
  simp only [cond_eq_ite, Bool.and_eq_true, beq_iff_eq, beq_self_eq_true, true_and] at hr
  split at hr
  · rename_i hl
    split at hr
    · rename_i xs ys hxs hys
      obtain ⟨h1, k, hk⟩ := h xs ys x T' M' N' hr
      rw [hl.2, readM_eq hys]
      exact ⟨h1, k, hk.less (less_of hl.1 (readS_gets hxs))⟩
    · exact hr.elim
  · exact hr.elim

theorem LOKb.lamS_other {b : Code} {key n nb : Nat} {sh : List (Nat × Sh)} {ms : List (Nat × List IntKind)} {f : List Int → List Int → LT} (hk : loopKey b ≠ key) : LOKb P G gb (LamS key n nb sh ms f) b := by
  intro T M N x T' M' N' hr
  unfold LamS at hr
  have : (loopKey b == key) = false := by simpa using hk
  rw [this] at hr
  exact hr.elim

end
end Go.Ev
