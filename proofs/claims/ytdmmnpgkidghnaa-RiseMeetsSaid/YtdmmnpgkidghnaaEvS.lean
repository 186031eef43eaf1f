/-
  Loops at whose head the state is brought into one form: some slots, some blocks, the blocks numbered from 0 on. No condition.
-/
import Derived.Test.YtdmmnpgkidghnaaEvR
namespace Go.Ev
open Go

def idxOf : List Nat → Nat → Nat
  | [], _ => 0
  | c :: r, b => bif Nat.beq c b then 0 else idxOf r b + 1

def memB : List Nat → Nat → Bool
  | [], _ => false
  | c :: r, b => bif Nat.beq c b then true else memB r b

def distB : List Nat → Bool
  | [] => true
  | c :: r => bif memB r c then false else distB r

def allB {α : Type} (p : α → Bool) : List α → Bool
  | [] => true
  | x :: r => bif p x then allB p r else false

/-- The first n numbers are 0, 1, .. -/
def firstB : Nat → Nat → List Nat → Bool
  | 0, _, _ => true
  | n + 1, i, c :: r => bif Nat.beq c i then firstB n (i + 1) r else false
  | _ + 1, _, [] => false

def mapL {α β : Type} (f : α → β) : List α → List β
  | [] => []
  | x :: r => f x :: mapL f r

def zipL {α : Type} : List Nat → List α → List (Nat × α)
  | s :: r, x :: t => (s, x) :: zipL r t
  | _, _ => []

def normOk (n0 : Nat) (keep kb : List Nat) (T : TS) (M : List Blk) : Bool :=
  bif distB kb then (bif firstB n0 0 kb then (bif allB (fun s => allB (memB kb) (refsX (tget T s))) keep then allB (fun b => allB (memB kb) (refsB (mget M b))) kb else false) else false) else false

def normL (keep kb : List Nat) (T : TS) : List AV := mapL (fun s => renA (idxOf kb) (tget T s)) keep
def normM (kb : List Nat) (M : List Blk) : List Blk := mapL (fun b => renB (idxOf kb) (mget M b)) kb

def headT (keep : List Nat) (n : Nat) (vs : List AV) : TS := ⟨n, .any, zipL keep vs⟩

def lenB : List Nat → Nat
  | [] => 0
  | _ :: r => lenB r + 1

def addR : List Nat → List Nat → List Nat
  | acc, [] => acc
  | acc, b :: r => addR (bif memB acc b then acc else acc ++ [b]) r

def kbS (T : TS) : List Nat → List Nat → List Nat
  | [], acc => acc
  | s :: r, acc => kbS T r (addR acc (refsX (tget T s)))

def kbM (M : List Blk) : List Nat → List Nat → List Nat
  | [], acc => acc
  | b :: r, acc => kbM M r (addR acc (refsB (mget M b)))

def firsts : Nat → Nat → List Nat
  | 0, _ => []
  | n + 1, i => i :: firsts n (i + 1)

/-- The blocks that count: the function's own arguments', those that the slots name, those that cells among them name. -/
def kbA (n0 : Nat) (keep : List Nat) (T : TS) (M : List Blk) : List Nat :=
  kbM M (kbS T keep (firsts n0 0)) (kbS T keep (firsts n0 0))

def normKb (n0 : Nat) (keep : List Nat) (x : Ex) (T : TS) (M : List Blk) (kb : List Nat) : Ans :=
  bif normOk n0 keep kb T M then some (.st x (headT keep T.length (normL keep kb T)) (normM kb M) (lenB kb)) else none

def normK (n0 : Nat) (keep : List Nat) (x : Ex) (T : TS) (M : List Blk) (_ : Nat) : Ans := normKb n0 keep x T M (kbA n0 keep T M)

theorem memB_iff {l : List Nat} {b : Nat} : memB l b = true ↔ b ∈ l := by
  induction l with
  | nil => simp [memB]
  | cons c r ih =>
    rw [memB]
    cases h : Nat.beq c b with
    | true => simp [Nat.eq_of_beq_eq_true h]
    | false =>
      have : c ≠ b := fun e => by rw [e, Nat.beq_refl] at h; cases h
      simp [ih, Ne.symm this]

theorem allB_iff {α : Type} {p : α → Bool} {l : List α} : allB p l = true ↔ ∀ x ∈ l, p x = true := by
  induction l with
  | nil => simp [allB]
  | cons c r ih =>
    rw [allB]
    cases h : p c with
    | true => simp [h, ih]
    | false => simp [h]

theorem idxOf_get {l : List Nat} {b : Nat} (h : b ∈ l) : gets 0 l (idxOf l b) = b ∧ idxOf l b < l.length := by
  induction l with
  | nil => cases h
  | cons c r ih =>
    rw [idxOf]
    cases hb : Nat.beq c b with
    | true => exact ⟨Nat.eq_of_beq_eq_true hb, by simp⟩
    | false =>
      have hne : c ≠ b := fun e => by rw [e, Nat.beq_refl] at hb; cases hb
      obtain ⟨h1, h2⟩ := ih (by rcases List.mem_cons.1 h with e | e; exact absurd e.symm hne; exact e)
      exact ⟨by simpa [gets] using h1, by simp; omega⟩

theorem gets_mem {l : List Nat} {i : Nat} (h : i < l.length) : gets 0 l i ∈ l := by
  induction l generalizing i with
  | nil => simp at h
  | cons c r ih =>
    cases i with
    | zero => simp [gets]
    | succ i => simp only [gets, List.mem_cons]; exact .inr (ih (by simpa using h))

theorem dist_inj {l : List Nat} (hd : distB l = true) : ∀ {i j : Nat}, i < l.length → j < l.length → gets 0 l i = gets 0 l j → i = j := by
  induction l with
  | nil => intro i j h; simp at h
  | cons c r ih =>
    rw [distB] at hd
    cases hm : memB r c with
    | true => rw [hm] at hd; cases hd
    | false =>
      rw [hm] at hd
      have hnc : c ∉ r := fun h => by rw [memB_iff.2 h] at hm; cases hm
      intro i j hi hj e
      cases i with
      | zero =>
        cases j with
        | zero => rfl
        | succ j => simp only [gets] at e; exact absurd (e ▸ gets_mem (by simpa using hj)) hnc
      | succ i =>
        cases j with
        | zero => simp only [gets] at e; exact absurd (e ▸ gets_mem (by simpa using hi)) hnc
        | succ j => simp only [gets] at e; rw [ih hd (by simpa using hi) (by simpa using hj) e]

theorem first_get : ∀ {n i : Nat} {l : List Nat}, firstB n i l = true → ∀ c, c < n → c < l.length ∧ gets 0 l c = i + c
  | 0, _, _, _, c, hc => by omega
  | n + 1, i, [], h, _, _ => by cases h
  | n + 1, i, d :: r, h, c, hc => by
    rw [firstB] at h
    cases hb : Nat.beq d i with
    | false => rw [hb] at h; cases h
    | true =>
      rw [hb] at h
      cases c with
      | zero => exact ⟨by simp, by simpa [gets] using Nat.eq_of_beq_eq_true hb⟩
      | succ c =>
        obtain ⟨h1, h2⟩ := first_get (n := n) (i := i + 1) (l := r) h c (by omega)
        exact ⟨by simp; omega, by simp only [gets]; omega⟩

theorem lenB_eq : ∀ l : List Nat, lenB l = l.length
  | [] => rfl
  | _ :: r => by simp [lenB, lenB_eq r]

theorem mapL_eq {α β : Type} (f : α → β) : ∀ l : List α, mapL f l = l.map f
  | [] => rfl
  | x :: r => by simp [mapL, mapL_eq f r]

theorem renC_id {g : Nat → Nat} {x : C} (h : ∀ b ∈ refsC x, g b = b) : renC g x = x := by
  cases x with
  | d _ => rfl
  | ptr b _ => simp only [renC, h b (by simp [refsC])]
  | slice b _ _ _ => simp only [renC, h b (by simp [refsC])]
  | nilS => rfl
  | fn f l =>
    simp only [renC]
    congr 1
    have : ∀ l : List Nat, (∀ b ∈ l, g b = b) → l.map g = l := by
      intro l
      induction l with
      | nil => intro _; rfl
      | cons c r ih => intro h; simp only [List.map_cons, h c (by simp), ih fun b hb => h b (by simp [hb])]
    exact this l h
  | aslice b _ => simp only [renC, h b (by simp [refsC])]
  | eptr b _ _ => simp only [renC, h b (by simp [refsC])]

theorem renC_comp {g h : Nat → Nat} {x : C} : renC g (renC h x) = renC (fun b => g (h b)) x := by
  cases x <;> simp [renC]

theorem renV_comp {g h : Nat → Nat} {x : V} : renV g (renV h x) = renV (fun b => g (h b)) x := by
  cases x <;> simp [renV, renC_comp]

theorem renV_id {g : Nat → Nat} {x : V} (h : ∀ b ∈ refsV x, g b = b) : renV g x = x := by
  cases x with
  | c x => simp only [renV, renC_id (fun b hb => h b hb)]
  | agg l => rfl

theorem renA_back {g h : Nat → Nat} {x : AV} (hh : ∀ b ∈ refsX x, g (h b) = b) : renA g (renA h x) = x := by
  cases x with
  | v x => simp only [renA, renV_comp, renV_id (fun b hb => hh b hb)]
  | tup l =>
    simp only [renA, List.map_map]
    congr 1
    induction l with
    | nil => rfl
    | cons x r ih =>
      simp only [List.map_cons, Function.comp, renV_comp]
      rw [renV_id (fun b hb => hh b (by simp [refsX, hb]))]
      congr 1
      exact ih fun b hb => hh b (by simp only [refsX, List.flatMap_cons, List.mem_append]; exact .inr hb)
  | any => rfl

theorem renB_back {g h : Nat → Nat} {y : Blk} (hh : ∀ b ∈ refsB y, g (h b) = b) : renB g (renB h y) = y := by
  cases y with
  | cell t c => simp only [renB, renC_comp, renC_id (fun b hb => hh b hb)]
  | _ => rfl

theorem refsC_ren {g : Nat → Nat} {x : C} : refsC (renC g x) = (refsC x).map g := by cases x <;> simp [refsC, renC]
theorem refsV_ren {g : Nat → Nat} {x : V} : refsV (renV g x) = (refsV x).map g := by cases x <;> simp [refsV, renV, refsC_ren]
theorem refsX_ren {g : Nat → Nat} {x : AV} : refsX (renA g x) = (refsX x).map g := by
  cases x with
  | v x => simp [refsX, renA, refsV_ren]
  | tup l =>
    simp only [refsX, renA]
    induction l with
    | nil => rfl
    | cons x r ih => simp only [List.map_cons, List.flatMap_cons, List.map_append, refsV_ren, ih]
  | any => rfl
theorem refsB_ren {g : Nat → Nat} {y : Blk} : refsB (renB g y) = (refsB y).map g := by cases y <;> simp [refsB, renB, refsC_ren]

theorem head_get {f : Nat → AV} : ∀ (keep : List Nat) (t : Nat), tfind .any (zipL keep (mapL f keep)) t = .any ∨ (t ∈ keep ∧ tfind .any (zipL keep (mapL f keep)) t = f t)
  | [], t => .inl rfl
  | s :: r, t => by
    simp only [mapL, zipL, tfind]
    cases hb : Nat.beq s t with
    | true => exact .inr ⟨by simp [Nat.eq_of_beq_eq_true hb], by simp [Nat.eq_of_beq_eq_true hb]⟩
    | false =>
      rcases head_get (f := f) r t with h | ⟨h1, h2⟩
      · exact .inl h
      · exact .inr ⟨by simp [h1], h2⟩

theorem mapL_get {f : Nat → Blk} : ∀ (kb : List Nat) (c : Nat), mget (mapL f kb) c = .dead ∨ (c < kb.length ∧ mget (mapL f kb) c = f (gets 0 kb c))
  | [], c => by simp [mapL, mget, gets]
  | b :: r, 0 => .inr ⟨by simp, rfl⟩
  | b :: r, c + 1 => by
    rcases mapL_get (f := f) r c with h | ⟨h1, h2⟩
    · exact .inl h
    · exact .inr ⟨by simp; omega, h2⟩

section
variable {P : Program} {G : Nat → Option (List D)} {gb : Nat} {EQ : Tab} {Γ : Nat → List AV → List Blk → (AV → List Blk → Ans) → Ans} {X : Nat → List AV → (AV → Ans) → Ans} {Λ : Nat → TS → List Blk → Nat → LT} {n0 : Nat}

theorem Shifts.norm {keep kb : List Nat} {T : TS} {M : List Blk} {N : Nat} (h : normOk n0 keep kb T M = true) : Shifts n0 T M N (headT keep T.length (normL keep kb T)) (normM kb M) (lenB kb) := by
  unfold normOk at h
  cases h1 : distB kb with
  | false => rw [h1] at h; cases h
  | true =>
  rw [h1] at h
  cases h2 : firstB n0 0 kb with
  | false => rw [h2] at h; cases h
  | true =>
  rw [h2] at h
  simp only [cond_true] at h
  cases h3 : allB (fun s => allB (memB kb) (refsX (tget T s))) keep with
  | false => rw [h3] at h; cases h
  | true =>
  rw [h3] at h
  simp only [cond_true] at h
  have k3 : ∀ s ∈ keep, ∀ b ∈ refsX (tget T s), b ∈ kb := fun s hs b hb => memB_iff.1 (allB_iff.1 (allB_iff.1 h3 s hs) b hb)
  have k4 : ∀ c ∈ kb, ∀ b ∈ refsB (mget M c), b ∈ kb := fun s hs b hb => memB_iff.1 (allB_iff.1 (allB_iff.1 h s hs) b hb)
  rw [lenB_eq]
  refine Shifts.ren (fun i => gets 0 kb i) rfl (fun t => ?_) (fun c => ?_) (fun c c' hc hc' e => dist_inj h1 hc hc' e) fun c hc => ?_
  · rcases head_get (f := fun s => renA (idxOf kb) (tget T s)) keep t with e | ⟨hk, e⟩
    · exact .inl e
    · refine .inr ⟨?_, ?_⟩
      · show tget T t = renA _ (tfind .any (zipL keep (mapL (fun s => renA (idxOf kb) (tget T s)) keep)) t)
        rw [e]
        exact (renA_back fun b hb => (idxOf_get (k3 t hk b hb)).1).symm
      · show ∀ b ∈ refsX (tfind .any (zipL keep (mapL (fun s => renA (idxOf kb) (tget T s)) keep)) t), _
        rw [e, refsX_ren]
        intro b hb
        obtain ⟨b', hb', rfl⟩ := List.mem_map.1 hb
        exact (idxOf_get (k3 t hk b' hb')).2
  · rcases mapL_get (f := fun b => renB (idxOf kb) (mget M b)) kb c with e | ⟨hc, e⟩
    · exact .inl e
    · have hm := gets_mem hc
      refine .inr ⟨?_, hc, ?_⟩
      · rw [normM, e]
        exact (renB_back fun b hb => (idxOf_get (k4 _ hm b hb)).1).symm
      · rw [normM, e, refsB_ren]
        intro b hb
        obtain ⟨b', hb', rfl⟩ := List.mem_map.1 hb
        exact (idxOf_get (k4 _ hm b' hb')).2
  · obtain ⟨e1, e2⟩ := first_get h2 c hc
    exact ⟨e1, by rw [e2]; omega⟩

theorem CodeN.norm (hΓ : GOK P G gb Γ X) (hEQ : ∀ t, t ∈ EQ.eq → EqOK P t) (hm : P.follows .mixedOrders = true) {fuel : Nat} {b : Code} {T T1 : TS} {M M1 : List Blk} {N N1 : Nat} {x : Ex} {keep : List Nat} (hL : LOKn P G gb n0 Λ (loopsIn b))
    (h : evCode P G EQ Γ X Λ fuel b T M N (normK n0 keep) = some (.st x T1 M1 N1)) : CodeN P G gb n0 b T M N x T1 M1 N1 := by
  obtain ⟨x', T3, M3, N3, h1, h2, _⟩ := evCode_soundN (n0 := n0) hEQ hm hΓ fuel b T M N _ _ hL h
  unfold normK normKb at h2
  cases hk : normOk n0 keep (kbA n0 keep T3 M3) T3 M3 with
  | false => rw [hk] at h2; cases h2
  | true =>
    rw [hk] at h2
    cases h2
    exact h1.post (Shifts.norm hk)

/-- The same values, or nothing said. -/
def Anys : List AV → List AV → Prop
  | [], [] => True
  | x :: r, y :: s => (x = y ∨ x = .any) ∧ Anys r s
  | _, _ => False

theorem head_less1 (t : Nat) : ∀ (keep : List Nat) (xs ys : List AV), Anys xs ys → tfind .any (zipL keep xs) t = tfind .any (zipL keep ys) t ∨ tfind .any (zipL keep xs) t = .any
  | [], xs, ys, _ => by cases xs <;> cases ys <;> exact .inr rfl
  | _ :: _, [], [], _ => .inr rfl
  | s :: r, x :: xs, y :: ys, ⟨h1, h2⟩ => by
    simp only [zipL, tfind]
    cases Nat.beq s t with
    | true => exact h1
    | false => exact head_less1 t r xs ys h2
  | _ :: _, [], _ :: _, h => h.elim
  | _ :: _, _ :: _, [], h => h.elim

theorem head_less {n : Nat} {keep : List Nat} {xs ys : List AV} (h : Anys xs ys) : Less (headT keep n xs) (headT keep n ys) :=
  ⟨rfl, fun t => head_less1 t keep xs ys h⟩

theorem redT {A B : LT} {x : Ex} {T : TS} {M : List Blk} {N : Nat} (h : LReach (.br true A B) x T M N) : LReach A x T M N := by rcases h with h | h; exact h.2; exact absurd h.1 (by simp)
theorem redF {A B : LT} {x : Ex} {T : TS} {M : List Blk} {N : Nat} (h : LReach (.br false A B) x T M N) : LReach B x T M N := by rcases h with h | h; exact absurd h.1 (by simp); exact h.2

/-- A loop's contract, over the form of the state at its head. -/
def LamK (n0 : Nat) (keep : List Nat) (f : List AV → List Blk → LT) (T : TS) (M : List Blk) (kb : List Nat) : LT :=
  bif normOk n0 keep kb T M then f (normL keep kb T) (normM kb M) else .no

def LamN (key n n0 : Nat) (keep : List Nat) (f : List AV → List Blk → LT) : Nat → TS → List Blk → Nat → LT := fun k T M _ =>
  bif Nat.beq k key then (bif Nat.beq T.length n then LamK n0 keep f T M (kbA n0 keep T M) else .no) else .no

theorem LOKbn.lamN {b : Code} {key n : Nat} {keep : List Nat} {f : List AV → List Blk → LT} (hk : loopKey b = key)
    (h : ∀ vs Ms x T' M' N', LReach (f vs Ms) x T' M' N' → x ≠ .normal ∧ ∃ k, RoundsN P G gb n0 b k (headT keep n vs) Ms Ms.length x T' M' N') : LOKbn P G gb n0 (LamN key n n0 keep f) b := by
  intro T M N x T' M' N' hr
  unfold LamN at hr
  rw [hk, Nat.beq_refl, cond_true] at hr
  cases hn : Nat.beq T.length n with
  | false => rw [hn] at hr; exact hr.elim
  | true =>
    rw [hn, cond_true] at hr
    unfold LamK at hr
    cases ho : normOk n0 keep (kbA n0 keep T M) T M with
    | false => rw [ho] at hr; exact hr.elim
    | true =>
      rw [ho, cond_true] at hr
      obtain ⟨h1, k, h3⟩ := h _ _ _ _ _ _ hr
      have := Shifts.norm (N := N) ho
      rw [Nat.eq_of_beq_eq_true hn, lenB_eq, show (kbA n0 keep T M).length = (normM (kbA n0 keep T M) M).length from by rw [normM, mapL_eq, List.length_map]] at this
      exact ⟨h1, k, RoundsN.pre this h3⟩

theorem LOKbn.lamN_other {b : Code} {key n : Nat} {keep : List Nat} {f : List AV → List Blk → LT} (hk : Nat.beq (loopKey b) key = false) : LOKbn P G gb n0 (LamN key n n0 keep f) b := by
  intro T M N x T' M' N' hr
  unfold LamN at hr
  rw [hk] at hr
  exact hr.elim

/-- One more round. -/
theorem goN (hΓ : GOK P G gb Γ X) (hEQ : ∀ t, t ∈ EQ.eq → EqOK P t) (hm : P.follows .mixedOrders = true) {fuel : Nat} {b : Code} {T T1 T' : TS} {M M1 M' : List Blk} {N N1 N' : Nat} {x : Ex} {keep : List Nat} (hL : LOKn P G gb n0 Λ (loopsIn b))
    (h : evCode P G EQ Γ X Λ fuel b T M N (normK n0 keep) = some (.st .normal T1 M1 N1)) (k : x ≠ .normal ∧ ∃ j, RoundsN P G gb n0 b j T1 M1 N1 x T' M' N') : x ≠ .normal ∧ ∃ j, RoundsN P G gb n0 b j T M N x T' M' N' := by
  obtain ⟨k1, j, k2⟩ := k
  exact ⟨k1, j + 1, RoundsN.go (CodeN.norm hΓ hEQ hm hL h) k2⟩

/-- The last round. -/
theorem stopN (hΓ : GOK P G gb Γ X) (hEQ : ∀ t, t ∈ EQ.eq → EqOK P t) (hm : P.follows .mixedOrders = true) {fuel : Nat} {b : Code} {T T1 T' : TS} {M M1 M' : List Blk} {N N1 N' : Nat} {x x1 : Ex} {keep : List Nat} (hL : LOKn P G gb n0 Λ (loopsIn b))
    (h : evCode P G EQ Γ X Λ fuel b T M N (normK n0 keep) = some (.st x1 T1 M1 N1)) (hx : x1 ≠ .normal) (hr : LReach (.st x1 T1 M1 N1) x T' M' N') : x ≠ .normal ∧ ∃ j, RoundsN P G gb n0 b j T M N x T' M' N' := by
  obtain ⟨rfl, rfl, rfl, rfl⟩ := hr
  exact ⟨hx, 1, RoundsN.stop hx (CodeN.norm hΓ hEQ hm hL h)⟩

theorem LOKn.nil : ∀ {l : List Code}, LOKn P G gb n0 noL l := fun _ _ _ _ _ _ _ _ _ h => h.elim

/-- Nothing; it does not compute where the number is open. -/
def stuckI (x : Int) : Nat := x.toNat - x.toNat
theorem stuckI_eq (x : Int) : stuckI x = 0 := Nat.sub_self _

theorem condF {α : Type} {F : α → Ans} {c : Bool} {a b : Ans} {x y : α} (h1 : a = F x) (h2 : b = F y) : (bif c then a else b) = F (bif c then x else y) := by cases c <;> assumption

theorem viaE {ev a : Ans} {L C : Prop} (h : ev = a) (k : ev = a → L → C) : L → C := k h

theorem condG {ev : Ans} {α : Type} {o : α → LT} {C : Prop} {x : Ex} {T' : TS} {M' : List Blk} {N' : Nat} {c : Bool} {a b : Ans} {p q : α} (h1 : ev = a → LReach (o p) x T' M' N' → C) (h2 : ev = b → LReach (o q) x T' M' N' → C) : ev = (bif c then a else b) → LReach (o (bif c then p else q)) x T' M' N' → C := by
  cases c <;> assumption

end
end Go.Ev
