/-
  The evaluator's operations are sound: calls; and all operations together.
-/
import Derived.Test.YtdmmnpgkidghnaaEvF
namespace Go.Ev
open Go

/-- How the callee's blocks lie: from number j on, in the caller's blocks. -/
structure PassOK (σ : Sg) (M : List Blk) (xs : List AV) (vs : List Value) (j : Nat) (q : List AV × List Blk × List (Nat × Nat)) (ρ : Sg) : Prop where
  args : AVRels ρ q.1 vs
  out : ∀ i, (i < j ∨ j + q.2.1.length ≤ i) → ρ i = none
  at_ : ∀ i, i < q.2.1.length → ∃ c L, σ c = some L ∧
    ((∃ t l, gets .dead q.2.1 i = .rw t l ∧ mget M c = .rw t l ∧ ρ (j + i) = some L ∧ (c, j + i) ∈ q.2.2) ∨
     (∃ l, gets .dead q.2.1 i = .ro l ∧ (mget M c).data = some l ∧ ρ (j + i) = some { L with own := false } ∧ c ∈ sliceRefs xs) ∨
     (∃ own τ ys k, gets .dead q.2.1 i = .arr none τ (takeK k ys) ∧ mget M c = .arr own τ ys ∧ ρ (j + i) = some { L with own := false, n := (takeK k ys).length } ∧ c ∈ sliceRefs xs))
  ws : ∀ p ∈ q.2.2, j ≤ p.2 ∧ p.2 < j + q.2.1.length ∧ ρ p.2 = σ p.1 ∧ ∃ t l, mget M p.1 = .rw t l

section
variable {P : Program} {G : Nat → Option (List D)} {gb : Nat} {EQ : Tab} {w0 : World} {W : Nat → Prop} {σ : Sg} {a : Act} {w : World} {T : TS} {M : List Blk} {N : Nat} {o : Oper}
  {next : Act → World → Prop} {Q : Exit → Act → World → Prop}

/-- An argument that hands over no block. -/
theorem PassOK.plain {xs : List AV} {vs : List Value} {j : Nat} {q : List AV × List Blk × List (Nat × Nat)} {ρ : Sg} (h : PassOK σ M xs vs j q ρ) (x y : AV) (v : Value) (hv : AVRel ρ y v) (hx : sliceRefs (x :: xs) = sliceRefs xs) :
    PassOK σ M (x :: xs) (v :: vs) j (y :: q.1, q.2) ρ :=
  ⟨⟨hv, h.args⟩, h.out, fun i hi => by rw [hx]; exact h.at_ i hi, h.ws⟩

/-- An argument that hands over one block. -/
theorem PassOK.one {xs : List AV} {vs : List Value} {j : Nat} {q : List AV × List Blk × List (Nat × Nat)} {ρ : Sg} (h : PassOK σ M xs vs (j + 1) q ρ) (x y : AV) (v : Value) (K : Loc) (c : Nat) (L : Loc) (B : Blk) (ws : List (Nat × Nat))
    (hL : σ c = some L) (hv : AVRel (sgSet ρ j K) y v) (hr : ∀ b ∈ sliceRefs xs, b ∈ sliceRefs (x :: xs))
    (hB : (∃ t l, B = .rw t l ∧ mget M c = .rw t l ∧ K = L ∧ ws = (c, j) :: q.2.2) ∨ (∃ l, B = .ro l ∧ (mget M c).data = some l ∧ K = { L with own := false } ∧ c ∈ sliceRefs (x :: xs) ∧ ws = q.2.2) ∨
      (∃ own τ ys k, B = .arr none τ (takeK k ys) ∧ mget M c = .arr own τ ys ∧ K = { L with own := false, n := (takeK k ys).length } ∧ c ∈ sliceRefs (x :: xs) ∧ ws = q.2.2)) :
    PassOK σ M (x :: xs) (v :: vs) j (y :: q.1, B :: q.2.1, ws) (sgSet ρ j K) := by
  have hj : ρ j = none := h.out j (.inl (Nat.lt_succ_self j))
  have hsub : ∀ p ∈ q.2.2, p ∈ ws := by
    rcases hB with ⟨_, _, _, _, _, hw⟩ | ⟨_, _, _, _, _, hw⟩ | ⟨_, _, _, _, _, _, _, _, hw⟩
    · intro p hp; rw [hw]; exact List.mem_cons_of_mem _ hp
    · intro p hp; rw [hw]; exact hp
    · intro p hp; rw [hw]; exact hp
  refine ⟨⟨hv, h.args.mono (sgSet_le hj)⟩, fun i hi => ?_, fun i hi => ?_, fun p hp => ?_⟩
  · simp only [List.length_cons] at hi
    rw [sgSet_ne _ _ _ _ (by omega)]
    exact h.out i (by omega)
  · cases i with
    | zero =>
      rcases hB with ⟨t, l, h1, h2, h3, h4⟩ | ⟨l, h1, h2, h3, h4, h5⟩ | ⟨own, τ, ys, k, h1, h2, h3, h4, h5⟩
      · exact ⟨c, L, hL, .inl ⟨t, l, h1, h2, by rw [← h3]; exact sgSet_self _ _ _, by rw [h4]; exact List.mem_cons_self⟩⟩
      · exact ⟨c, L, hL, .inr (.inl ⟨l, h1, h2, by rw [← h3]; exact sgSet_self _ _ _, h4⟩)⟩
      · exact ⟨c, L, hL, .inr (.inr ⟨own, τ, ys, k, h1, h2, by rw [← h3]; exact sgSet_self _ _ _, h4⟩)⟩
    | succ i =>
      obtain ⟨c', L', h1, h2⟩ := h.at_ i (by simpa using hi)
      have e : j + (i + 1) = j + 1 + i := by omega
      refine ⟨c', L', h1, ?_⟩
      rw [e, sgSet_ne _ _ _ _ (by omega)]
      rcases h2 with ⟨t, l, h3, h4, h5, h6⟩ | ⟨l, h3, h4, h5, h6⟩ | ⟨own, τ, ys, k, h3, h4, h5, h6⟩
      · exact .inl ⟨t, l, h3, h4, h5, hsub _ h6⟩
      · exact .inr (.inl ⟨l, h3, h4, h5, hr _ h6⟩)
      · exact .inr (.inr ⟨own, τ, ys, k, h3, h4, h5, hr _ h6⟩)
  · have old : ∀ p ∈ q.2.2, j ≤ p.2 ∧ p.2 < j + (B :: q.2.1).length ∧ sgSet ρ j K p.2 = σ p.1 ∧ ∃ t l, mget M p.1 = .rw t l := by
      intro p hp
      obtain ⟨h1, h2, h3, h4⟩ := h.ws p hp
      refine ⟨by omega, by simp only [List.length_cons]; omega, ?_, h4⟩
      rw [sgSet_ne _ _ _ _ (by omega)]
      exact h3
    rcases hB with ⟨t, l, h1, h2, h3, h4⟩ | ⟨l, h1, h2, h3, h4, h5⟩ | ⟨own, τ, ys, k, h1, h2, h3, h4, h5⟩
    · simp only [h4] at hp
      rcases List.mem_cons.1 hp with rfl | hp
      · exact ⟨Nat.le_refl _, by simp, by rw [sgSet_self, h3]; exact hL.symm, t, l, h2⟩
      · exact old p hp
    · simp only [h5] at hp
      exact old p hp
    · simp only [h5] at hp
      exact old p hp

theorem sgSet_two (ρ : Sg) (j : Nat) (K : Loc) : sgSet ρ j K j = some K := sgSet_self _ _ _

theorem pass_rel (hM : MRel w0 W σ M w) : ∀ {xs : List AV} {vs : List Value} {j : Nat} {q : List AV × List Blk × List (Nat × Nat)}, AVRels σ xs vs → passArgs M xs j = some q → ∃ ρ, PassOK σ M xs vs j q ρ
  | [], [], j, q, _, h => by
    simp only [passArgs, Option.some.injEq] at h
    subst h
    exact ⟨fun _ => none, trivial, fun _ _ => rfl, fun i hi => by simp at hi, fun p hp => by simp at hp⟩
  | x :: r, v :: vs, j, q, ⟨hv, hvs⟩, h => by
    unfold passArgs at h
    split at h
    · -- a slice
      rename_i b k n e
      split at h
      · rename_i l q' hl hq
        cases h
        obtain ⟨ρ, hp⟩ := pass_rel hM hvs hq
        obtain ⟨L, cap, hL, he, hc, hcm, _⟩ := hv
        exact ⟨_, hp.one (.v (.c (.slice b k n e))) _ v { L with own := false } b L (.ro l) q'.2.2 hL ⟨_, cap, sgSet_self _ _ _, he, hc, hcm, fun hw => by cases hw⟩
          (fun c hc => by simp [sliceRefs, hc]) (.inr (.inl ⟨l, rfl, hl, rfl, by simp [sliceRefs], rfl⟩))⟩
      · cases h
    · -- an array of open length
      rename_i b k
      split at h
      · rename_i own τ ys q' hm hq
        cases h
        obtain ⟨ρ, hp⟩ := pass_rel hM hvs hq
        obtain ⟨L, hL, hv⟩ := hv
        have hB := hM.blk b
        rw [hm] at hB
        obtain ⟨L', g1, g2, g3, _⟩ := hB.elems
        rw [hL] at g1
        cases g1
        refine ⟨_, hp.one (.v (.c (.aslice b k))) _ v { L with own := false, n := (takeK k ys).length } b L (.arr none τ (takeK k ys)) q'.2.2 hL ⟨_, sgSet_self _ _ _, ?_⟩
          (fun c hc => by simp [sliceRefs, hc]) (.inr (.inr ⟨own, τ, ys, k, rfl, hm, rfl, by simp [sliceRefs], rfl⟩))⟩
        cases k with
        | none =>
          rcases hv with ⟨h0, e⟩ | ⟨cap, e, h1, h2, _⟩
          · exact .inl ⟨by simp only [takeK]; omega, e⟩
          · exact .inr ⟨cap, by simp only [takeK, ← g2]; exact e, by simp only [takeK]; omega, by simp only [takeK]; omega, fun hw => by cases hw⟩
        | some m =>
          obtain ⟨h0, h1, cap, e, h2, h3⟩ := hv
          have hl : (takeK (some m) ys).length = m := by simp only [takeK, List.length_take]; omega
          exact .inr ⟨cap, by simp only [hl]; exact e, by simp only [hl]; exact h2, by simp only [hl]; exact h3, fun hw => by cases hw⟩
      · cases h
    · cases h
    · -- a function
      rename_i f caps
      obtain ⟨us, he, hcs⟩ := hv
      split at h
      · split at h
        · rename_i q' hq
          cases h
          obtain ⟨ρ, hp⟩ := pass_rel hM hvs hq
          exact ⟨ρ, hp.plain (.v (.c (.fn f []))) _ v ⟨us, he, by cases hu : us.toList with | nil => trivial | cons _ _ => rw [hu] at hcs; exact hcs.elim⟩ rfl⟩
        · cases h
      · rename_i c
        split at h
        · rename_i t l q' hm hq
          cases h
          obtain ⟨ρ, hp⟩ := pass_rel hM hvs hq
          cases hu : us.toList with
          | nil => rw [hu] at hcs; exact hcs.elim
          | cons u1 us1 =>
            rw [hu] at hcs
            obtain ⟨⟨L, hL, hu1⟩, hrest⟩ := hcs
            cases us1 with
            | cons _ _ => exact hrest.elim
            | nil =>
              exact ⟨_, hp.one (.v (.c (.fn f [c]))) _ v L c L (.rw t l) ((c, j) :: q'.2.2) hL ⟨us, he, by rw [hu]; exact ⟨⟨L, sgSet_self _ _ _, hu1⟩, trivial⟩⟩ (fun b hb => hb) (.inl ⟨t, l, rfl, hm, rfl, rfl⟩)⟩
        · cases h
      · rename_i c c'
        split at h
        · rename_i t l t' l' q' hm hm' hq
          cases h
          obtain ⟨ρ, hp⟩ := pass_rel hM hvs hq
          cases hu : us.toList with
          | nil => rw [hu] at hcs; exact hcs.elim
          | cons u1 us1 =>
            rw [hu] at hcs
            obtain ⟨⟨L, hL, hu1⟩, hrest⟩ := hcs
            cases us1 with
            | nil => exact hrest.elim
            | cons u2 us2 =>
              obtain ⟨⟨L', hL', hu2⟩, hrest2⟩ := hrest
              cases us2 with
              | cons _ _ => exact hrest2.elim
              | nil =>
                -- the second block first, under a stand-in argument
                have hp1 := hp.one (j := j + 1) (.v (.c (.d (.bool true)))) (.v (.c (.d (.bool true)))) (.bool true) L' c' L' (.rw t' l') ((c', j + 1) :: q'.2.2) hL' ⟨rfl, trivial⟩ (fun b hb => hb) (.inl ⟨t', l', rfl, hm', rfl, rfl⟩)
                have hj1 : sgSet ρ (j + 1) L' j = none := hp1.out j (.inl (Nat.lt_succ_self j))
                have hp2 : PassOK σ M r vs (j + 1) (q'.1, .rw t' l' :: q'.2.1, (c', j + 1) :: q'.2.2) (sgSet ρ (j + 1) L') := ⟨hp1.args.2, hp1.out, hp1.at_, hp1.ws⟩
                refine ⟨_, hp2.one (.v (.c (.fn f [c, c']))) _ v L c L (.rw t l) ((c, j) :: (c', j + 1) :: q'.2.2) hL ⟨us, he, ?_⟩ (fun b hb => hb) (.inl ⟨t, l, rfl, hm, rfl, rfl⟩)⟩
                rw [hu]
                refine ⟨⟨L, sgSet_self _ _ _, hu1⟩, ⟨L', ?_, hu2⟩, trivial⟩
                rw [sgSet_ne _ _ _ _ (by omega)]
                exact sgSet_self _ _ _
        · cases h
      · cases h
    · -- an address
      rename_i b k
      split at h
      · split at h
        · rename_i t l q' hm hq
          cases h
          obtain ⟨ρ, hp⟩ := pass_rel hM hvs hq
          obtain ⟨L, hL, he⟩ := hv
          exact ⟨_, hp.one (.v (.c (.ptr b 0))) _ v L b L (.rw t l) ((b, j) :: q'.2.2) hL ⟨L, sgSet_self _ _ _, he⟩ (fun c hc => hc) (.inl ⟨t, l, rfl, hm, rfl, rfl⟩)⟩
        · cases h
      · cases h
    · rename_i d
      split at h
      · rename_i q' hq
        cases h
        obtain ⟨ρ, hp⟩ := pass_rel hM hvs hq
        exact ⟨ρ, hp.plain (.v (.c (.d d))) _ v hv rfl⟩
      · cases h
    · split at h
      · rename_i q' hq
        cases h
        obtain ⟨ρ, hp⟩ := pass_rel hM hvs hq
        exact ⟨ρ, hp.plain (.v (.c .nilS)) _ v hv rfl⟩
      · cases h
    · rename_i l
      split at h
      · rename_i q' hq
        cases h
        obtain ⟨ρ, hp⟩ := pass_rel hM hvs hq
        exact ⟨ρ, hp.plain (.v (.agg l)) _ v hv rfl⟩
      · cases h
    · cases h
    · cases h
  | [], _ :: _, _, _, hh, _ => hh.elim
  | _ :: _, [], _, _, hh, _ => hh.elim

theorem distinct_of {l : List (Nat × Nat)} (h : distinctFst l = true) {c b b' : Nat} (h1 : (c, b) ∈ l) (h2 : (c, b') ∈ l) : b = b' := by
  induction l with
  | nil => cases h1
  | cons p r ih =>
    simp only [distinctFst, Bool.and_eq_true, Bool.not_eq_true', List.any_eq_false, beq_iff_eq] at h
    obtain ⟨hn, hd⟩ := h
    rcases List.mem_cons.1 h1 with e1 | e1 <;> rcases List.mem_cons.1 h2 with e2 | e2
    · rw [← e1] at e2; cases e2; rfl
    · exact absurd (by rw [← e1]) (hn _ e2)
    · exact absurd (by rw [← e2]) (hn _ e1)
    · exact ih hd e1 e2

theorem live_of_data {y : Blk} {l : List D} (h : y.data = some l) (hl : (Blk.ro l).live = true) : y.live = true := by
  cases y with
  | dead => cases h
  | ro l' => simp only [Blk.data, Option.some.injEq] at h; subst h; exact hl
  | rw t l' => rfl
  | arr _ _ _ => cases h
  | cell _ _ => cases h

theorem live_takeK {own own' : Option Nat} {τ : ET} {k : Option Nat} {ys : List τ.T} (h : (Blk.arr own τ (takeK k ys)).live = true) : (Blk.arr own' τ ys).live = true := by
  cases ys with
  | nil => cases k <;> (simp only [takeK, List.take_nil] at h; cases h)
  | cons _ _ => rfl

/-- The callee's memory, as the call begins. -/
theorem PassOK.mrel {xs : List AV} {vs : List Value} {q : List AV × List Blk × List (Nat × Nat)} {ρ : Sg} (hM : MRel w0 W σ M w) (h : PassOK σ M xs vs 0 q ρ) (hd : distinctFst q.2.2 = true) (hs : ∀ b ∈ sliceRefs xs, ∀ p ∈ q.2.2, p.1 ≠ b) :
    MRel w (Wof ρ q.2.1) ρ q.2.1 w := by
  have inb : ∀ b, mget q.2.1 b ≠ .dead → b < q.2.1.length := by
    intro b hb
    rcases Nat.lt_or_ge b q.2.1.length with h1 | h1
    · exact h1
    · exfalso
      apply hb
      rw [mget, gets_eq, List.getD_eq_getElem?_getD, List.getElem?_eq_none h1]
      rfl
  refine ⟨fun b => ?_, fun b b' L L' hne hb hb' hL hL' => ?_, fun b L hb hL => .inl ⟨b, L, hb, hL, rfl⟩, Kept.refl _ _⟩
  · by_cases hlt : b < q.2.1.length
    · obtain ⟨c, L, hc, h1⟩ := h.at_ b hlt
      rw [Nat.zero_add] at h1
      have hB := hM.blk c
      rcases h1 with ⟨t, l, h2, h3, h4, _⟩ | ⟨l, h2, h3, h4, _⟩ | ⟨own, τ, ys, k, h2, h3, h4, _⟩
      · rw [h3] at hB
        rw [mget, h2]
        obtain ⟨L', cur, h5, h6⟩ := hB
        rw [hc] at h5
        cases h5
        exact ⟨L, cur, h4, h6⟩
      · rw [mget, h2]
        obtain ⟨L', h5, h6⟩ := hB.cell h3
        rw [hc] at h5
        cases h5
        exact ⟨_, h4, rfl, h6⟩
      · rw [mget, h2]
        rw [h3] at hB
        obtain ⟨L', h5, _, h6, _, h7, h8⟩ := hB.elems
        rw [hc] at h5
        cases h5
        exact ⟨_, h4, rfl, h6, takeK_ok h7, rfl, fun j d hj => h8 j d (takeK_get hj)⟩
    · have : mget q.2.1 b = .dead := by
        rw [mget, gets_eq, List.getD_eq_getElem?_getD, List.getElem?_eq_none (by omega)]
        rfl
      rw [this]
      trivial
  · obtain ⟨c, K, hc, h1⟩ := h.at_ b (inb b (by intro e; rw [e] at hb; cases hb))
    obtain ⟨c', K', hc', h1'⟩ := h.at_ b' (inb b' (by intro e; rw [e] at hb'; cases hb'))
    rw [Nat.zero_add] at h1 h1'
    rcases h1 with ⟨t1, l1, h2, h3, h4, h5⟩ | ⟨l1, h2, _⟩ | ⟨own, τ, ys, k, h2, _⟩
    · rw [hL] at h4
      cases h4
      have hw3 : (mget M c).wr = true := by rw [h3]; rfl
      rcases h1' with ⟨t2, l2, k2, k3, k4, k5⟩ | ⟨l2, k2, k3, k4, k5⟩ | ⟨own, τ, ys, k, k2, k3, k4, k5⟩
      · rw [hL'] at k4
        cases k4
        by_cases e : c = c'
        · subst e
          exact absurd (distinct_of hd h5 k5) hne
        · exact hM.sep c c' L L' e hw3 (by rw [k3]; rfl) hc hc'
      · rw [hL'] at k4
        cases k4
        by_cases e : c = c'
        · subst e
          exact absurd rfl (hs c k5 _ h5)
        · have hb2 : (Blk.ro l2).live = true := by rw [mget, k2] at hb'; exact hb'
          exact hM.sep c c' L K' e hw3 (live_of_data k3 hb2) hc hc'
      · rw [hL'] at k4
        cases k4
        by_cases e : c = c'
        · subst e
          exact absurd rfl (hs c k5 _ h5)
        · have hb2 : (Blk.arr none τ (takeK k ys)).live = true := by rw [mget, k2] at hb'; exact hb'
          exact hM.sep c c' L K' e hw3 (by rw [k3]; exact live_takeK hb2) hc hc'
    · rw [mget, h2] at hb
      cases hb
    · rw [mget, h2] at hb
      cases hb

theorem PassOK.glob {xs : List AV} {vs : List Value} {q : List AV × List Blk × List (Nat × Nat)} {ρ : Sg} (hM : MRel w0 W σ M w) (hG : Glob G gb W w0) (h : PassOK σ M xs vs 0 q ρ) : Glob G gb (Wof ρ q.2.1) w := by
  refine ⟨Nat.le_trans hG.le hM.kept.size, fun k hk => ?_, fun g l hg => ⟨(hG.cell g l hg).1, hG.now hM.kept hg⟩⟩
  obtain ⟨b, L, hb, hL, rfl⟩ := hk
  have hlt : b < q.2.1.length := by
    rcases Nat.lt_or_ge b q.2.1.length with h1 | h1
    · exact h1
    · rw [mget, gets_eq, List.getD_eq_getElem?_getD, List.getElem?_eq_none h1] at hb
      cases hb
  obtain ⟨c, K, hc, h1⟩ := h.at_ b hlt
  rw [Nat.zero_add] at h1
  rcases h1 with ⟨t1, l1, h2, h3, h4, _⟩ | ⟨l1, h2, _⟩ | ⟨own, τ, ys, k, h2, _⟩
  · rw [hL] at h4
    cases h4
    rcases hM.own c L (by rw [h3]; rfl) hc with h5 | h5
    · exact hG.high _ h5
    · exact Nat.le_trans hG.le h5
  · rw [mget, h2] at hb
    cases hb
  · rw [mget, h2] at hb
    cases hb

theorem backSets_mem {M' : List Blk} : ∀ {ws : List (Nat × Nat)} {s : Sets}, backSets M' ws = some s →
    (∀ p ∈ ws, ∃ t l, mget M' p.2 = .rw t l ∧ (p.1, Blk.rw t l) ∈ s) ∧ (∀ y ∈ s, ∃ p ∈ ws, y.1 = p.1 ∧ y.2 = mget M' p.2)
  | [], s, h => by simp only [backSets, Option.some.injEq] at h; subst h; exact ⟨by simp, by simp⟩
  | p :: r, s, h => by
    simp only [backSets] at h
    split at h
    · rename_i t l s' hm hs
      cases h
      obtain ⟨h1, h2⟩ := backSets_mem hs
      constructor
      · intro p' hp'
        rcases List.mem_cons.1 hp' with rfl | hp'
        · exact ⟨t, l, hm, by simp⟩
        · obtain ⟨t', l', h3, h4⟩ := h1 p' hp'
          exact ⟨t', l', h3, by simp [h4]⟩
      · intro y hy
        rcases List.mem_cons.1 hy with rfl | hy
        · exact ⟨p, by simp, rfl, hm.symm⟩
        · obtain ⟨p', h3, h4⟩ := h2 y hy
          exact ⟨p', by simp [h3], h4⟩
    · cases h

theorem lastSet_some {s : Sets} {b : Nat} {y : Blk} (h : lastSet s b = some y) : (b, y) ∈ s := by
  induction s with
  | nil => cases h
  | cons p r ih =>
    simp only [lastSet] at h
    cases hr : lastSet r b with
    | some z => rw [hr] at h; cases h; exact List.mem_cons_of_mem _ (ih hr)
    | none =>
      rw [hr] at h
      simp only at h
      split at h
      · rename_i e
        cases h
        rw [← e]
        exact List.mem_cons_self
      · cases h

theorem lastSet_none_iff {s : Sets} {b : Nat} (h : lastSet s b = none) : ∀ p ∈ s, p.1 ≠ b := by
  induction s with
  | nil => simp
  | cons p r ih =>
    simp only [lastSet] at h
    cases hr : lastSet r b with
    | some z => rw [hr] at h; cases h
    | none =>
      rw [hr] at h
      simp only at h
      intro q hq
      rcases List.mem_cons.1 hq with rfl | hq
      · intro e; rw [if_pos e] at h; cases h
      · exact ih hr q hq

/-- The caller's memory, behind the call. -/
theorem PassOK.back {xs : List AV} {vs : List Value} {q : List AV × List Blk × List (Nat × Nat)} {ρ τ : Sg} {M' : List Blk} {w' : World} {s : Sets} (hM : MRel w0 W σ M w) (h : PassOK σ M xs vs 0 q ρ)
    (hle : ρ.le τ) (hM' : MRel w (Wof ρ q.2.1) τ M' w') (hs : backSets M' q.2.2 = some s) : MRel w0 W σ (puts M s) w' ∧
      (∀ b L, q.2.1.length ≤ b → (mget M' b).wr = true → τ b = some L → w.heap.size ≤ L.blk) := by
  obtain ⟨hs1, hs2⟩ := backSets_mem hs
  -- the blocks that may have been written are those of ws
  have hW : ∀ k, Wof ρ q.2.1 k → ∃ p ∈ q.2.2, ∃ t l L, mget M p.1 = .rw t l ∧ σ p.1 = some L ∧ ρ p.2 = some L ∧ L.blk = k := by
    rintro k ⟨b, L, hb, hL, rfl⟩
    have hlt : b < q.2.1.length := by
      rcases Nat.lt_or_ge b q.2.1.length with h1 | h1
      · exact h1
      · rw [mget, gets_eq, List.getD_eq_getElem?_getD, List.getElem?_eq_none h1] at hb
        cases hb
    obtain ⟨c, K, hc, h1⟩ := h.at_ b hlt
    rw [Nat.zero_add] at h1
    rcases h1 with ⟨t1, l1, h2, h3, h4, h5⟩ | ⟨l1, h2, _⟩ | ⟨own, τ, ys, k, h2, _⟩
    · rw [hL] at h4
      cases h4
      exact ⟨(c, b), h5, t1, l1, L, h3, hc, hL, rfl⟩
    · rw [mget, h2] at hb
      cases hb
    · rw [mget, h2] at hb
      cases hb
  have get : ∀ b, (∃ p ∈ q.2.2, p.1 = b ∧ mget (puts M s) b = mget M' p.2 ∧ ∃ t l, mget M' p.2 = .rw t l) ∨ ((∀ p ∈ q.2.2, p.1 ≠ b) ∧ mget (puts M s) b = mget M b) := by
    intro b
    rw [mget_puts]
    cases hl : lastSet s b with
    | some y =>
      obtain ⟨p, hp, h1, h2⟩ := hs2 _ (lastSet_some hl)
      obtain ⟨t, l, h3, _⟩ := hs1 p hp
      exact .inl ⟨p, hp, h1.symm, h2, t, l, h3⟩
    | none =>
      refine .inr ⟨fun p hp e => ?_, rfl⟩
      obtain ⟨t, l, _, h4⟩ := hs1 p hp
      exact lastSet_none_iff hl _ h4 e
  have keepb : ∀ b L, (∀ p ∈ q.2.2, p.1 ≠ b) → (mget M b).live = true → σ b = some L → L.blk < w.heap.size → w'.heap[L.blk]? = w.heap[L.blk]? := by
    intro b L hn hlive hL hlt
    refine hM'.kept.block _ hlt fun hw => ?_
    obtain ⟨p, hp, t, l, K, h1, h2, _, h3⟩ := hW _ hw
    exact hM.sep p.1 b K L (hn p hp) (by rw [h1]; rfl) hlive h2 hL h3
  refine ⟨⟨fun b => ?_, fun b b' L L' hne hb hb' hL hL' => ?_, fun b L hb hL => ?_, ?_⟩, fun b L hlen hb hL => ?_⟩
  · rcases get b with ⟨p, hp, rfl, h1, t, l, h2⟩ | ⟨hn, h1⟩
    · rw [h1, h2]
      have hB := hM'.blk p.2
      rw [h2] at hB
      obtain ⟨K, cur, h3, h4⟩ := hB
      obtain ⟨_, _, h5, t', l', h6⟩ := h.ws p hp
      have hK : σ p.1 = some K := by
        have hb0 := hM.blk p.1
        rw [h6] at hb0
        obtain ⟨K', _, h7, _⟩ := hb0
        have : τ p.2 = some K' := hle _ _ (by rw [h5]; exact h7)
        rw [h3] at this
        cases this
        exact h7
      exact ⟨K, cur, hK, h4⟩
    · rw [h1]
      exact (hM.blk b).of_block fun L hL hlive hlt => keepb b L hn hlive hL hlt
  · have k1 : (mget M b).wr = true := by
      rcases get b with ⟨p, hp, rfl, _⟩ | ⟨_, h1⟩
      · obtain ⟨_, _, _, t', l', h6⟩ := h.ws p hp
        rw [h6]; rfl
      · rw [← h1]; exact hb
    have k2 : (mget M b').live = true := by
      rcases get b' with ⟨p, hp, rfl, _⟩ | ⟨_, h1⟩
      · obtain ⟨_, _, _, t', l', h6⟩ := h.ws p hp
        rw [h6]; rfl
      · rw [← h1]; exact hb'
    exact hM.sep b b' L L' hne k1 k2 hL hL'
  · have k1 : (mget M b).wr = true := by
      rcases get b with ⟨p, hp, rfl, _⟩ | ⟨_, h1⟩
      · obtain ⟨_, _, _, t', l', h6⟩ := h.ws p hp
        rw [h6]; rfl
      · rw [← h1]; exact hb
    exact hM.own b L k1 hL
  · refine hM.kept.trans' hM'.kept fun k hk => ?_
    obtain ⟨p, hp, t, l, K, h1, h2, _, rfl⟩ := hW _ hk
    exact hM.own p.1 K (by rw [h1]; rfl) h2
  · rcases hM'.own b L hb hL with h1 | h1
    · exfalso
      obtain ⟨p, hp, t', l', K, h2, h3, h4, h5⟩ := hW _ h1
      obtain ⟨_, h6, _⟩ := h.ws p hp
      obtain ⟨t2, l2, h7, _⟩ := hs1 p hp
      exact hM'.sep b p.2 L K (by omega) hb (by rw [h7]; rfl) hL (hle _ _ h4) h5.symm
    · exact h1

theorem dataV_rel {σ τ : Sg} {x : V} {v : Value} (hd : dataV x = true) (h : VRel τ x v) : VRel σ x v := by
  cases x with
  | c c => cases c <;> first | exact h | cases hd
  | agg l => exact h

theorem dataVs_rel {σ τ : Sg} : ∀ {l : List V} {vs : List Value}, l.all dataV = true → VRels τ l vs → VRels σ l vs
  | [], [], _, _ => trivial
  | x :: r, v :: s, hd, ⟨h1, h2⟩ => by
    simp only [List.all_cons, Bool.and_eq_true] at hd
    exact ⟨dataV_rel hd.1 h1, dataVs_rel hd.2 h2⟩
  | [], _ :: _, _, hh => hh.elim
  | _ :: _, [], _, hh => hh.elim

/-- A block that a callee has made becomes the caller's. -/
theorem MRel.adopt {w' : World} {τ : Sg} {M' : List Blk} {V : Nat → Prop} {b : Nat} {y : Blk} {L : Loc} (hM : MRel w0 W σ M w') (hN : σ N = none) (h0 : y.wr = true → w0.heap.size ≤ L.blk) (hM' : MRel w V τ M' w') (hb : mget M' b = y) (hL : τ b = some L) (hy : ∀ t c, y ≠ .cell t c) (hyw : y.live = true → y.wr = true)
    (hfar : y.wr = true → ∀ c K, (mget M c).live = true → σ c = some K → K.blk ≠ L.blk) : MRel w0 W (sgSet σ N L) (mput M N y) w' := by
  have hBb := hM'.blk b
  rw [hb] at hBb
  have hB : BRel (sgSet σ N L) N y w' := by
    cases y with
    | dead => trivial
    | ro l => obtain ⟨K, h1, h2⟩ := hBb; rw [hL] at h1; cases h1; exact ⟨L, sgSet_self _ _ _, h2⟩
    | rw t l => obtain ⟨K, cur, h1, h2⟩ := hBb; rw [hL] at h1; cases h1; exact ⟨L, cur, sgSet_self _ _ _, h2⟩
    | arr own υ xs => obtain ⟨K, h1, h2⟩ := hBb; rw [hL] at h1; cases h1; exact ⟨L, sgSet_self _ _ _, h2⟩
    | cell t c => exact absurd rfl (hy t c)
  exact hM.put hN y L hB (fun _ _ _ _ _ => rfl) hM.kept (fun hw => .inr (h0 hw)) (fun hl c K hc hK => hfar (hyw hl) c K (wr_live hc) hK) fun hw c K hc hK => hfar hw c K hc hK

end
end Go.Ev
