/-
  The evaluator over operations whose order the model draws: sound, if operations whose order is open do not touch each other's slots and blocks.
-/
import Derived.Test.YtdmmnpgkidghnaaEvI
namespace Go.Ev
open Go

/-! ### What an operation depends on -/

theorem opdV_congr {T T' : TS} {x : Operand} (h : ∀ t ∈ looksO [x], tget T t = tget T' t) : opdV T x = opdV T' x := by
  cases x with
  | tmp t => simp only [opdV]; rw [h t (by simp [looksO])]
  | const _ => rfl
  | global _ => rfl
  | func _ => rfl

theorem looksO_sub {x : Operand} : ∀ {l : List Operand}, x ∈ l → ∀ t ∈ looksO [x], t ∈ looksO l
  | [], h, _, _ => by cases h
  | y :: r, h, t, ht => by
    rcases List.mem_cons.1 h with rfl | h
    · cases x <;> simp [looksO] at ht ⊢
      exact .inl ht
    · have := looksO_sub h t ht
      cases y <;> simp [looksO, this]

section
variable {P : Program} {G : Nat → Option (List D)} {gb : Nat} {EQ : Tab} {T T' : TS} {M M' : List Blk} {N : Nat}

theorem opdVs_congr : ∀ {l : List Operand}, (∀ x ∈ l, opdV T x = opdV T' x) → opdVs T l = opdVs T' l
  | [], _ => rfl
  | x :: r, h => by simp only [opdVs]; rw [h x (by simp), opdVs_congr fun y hy => h y (by simp [hy])]

theorem partVs_congr : ∀ {l : List (Nat × Operand)}, (∀ x ∈ l, opdV T x.2 = opdV T' x.2) → partVs T l = partVs T' l
  | [], _ => rfl
  | x :: r, h => by simp only [partVs]; rw [h x (by simp), partVs_congr fun y hy => h y (by simp [hy])]

theorem boundO_congr {n : Nat} {x : Option Operand} (h : ∀ y ∈ x.toList, opdV T y = opdV T' y) : boundO T n x = boundO T' n x := by
  cases x with
  | none => rfl
  | some y => simp only [boundO]; rw [h y (by simp)]

theorem passArgs_congr : ∀ {xs : List AV} {j : Nat}, (∀ x ∈ xs, ∀ b ∈ refsA x, mget M b = mget M' b) → passArgs M xs j = passArgs M' xs j
  | [], _, _ => rfl
  | x :: r, j, h => by
    have ih : ∀ j, passArgs M r j = passArgs M' r j := fun j => passArgs_congr fun y hy => h y (by simp [hy])
    have hx := h x (by simp)
    unfold passArgs
    cases x with
    | tup l => rfl
    | any => rfl
    | v x =>
      cases x with
      | agg l => simp only [ih]
      | c c =>
        cases c with
        | d x => simp only [ih]
        | nilS => simp only [ih]
        | ptr b o =>
          have := hx b (by simp [refsA])
          simp only [this, ih]
        | slice b o n e =>
          have := hx b (by simp [refsA])
          simp only [this, ih]
        | aslice b k =>
          have := hx b (by simp [refsA])
          simp only [this, ih]
        | eptr b i o => rfl
        | fn f caps =>
          match caps, hx with
          | [], _ => simp only [ih]
          | [c], hx => have := hx c (by simp [refsA]); simp only [this, ih]
          | [c, c'], hx => have h1 := hx c (by simp [refsA]); have h2 := hx c' (by simp [refsA]); simp only [h1, h2, ih]
          | _ :: _ :: _ :: _, _ => rfl

theorem opdVs_mem : ∀ {l : List Operand} {vs : List AV}, opdVs T l = some vs → ∀ v ∈ vs, ∃ x ∈ l, opdV T x = some v
  | [], vs, h, v, hv => by simp only [opdVs, Option.some.injEq] at h; subst h; cases hv
  | x :: r, vs, h, v, hv => by
    simp only [opdVs] at h
    split at h
    · rename_i u l h1 h2
      cases h
      rcases List.mem_cons.1 hv with rfl | hv
      · exact ⟨x, by simp, h1⟩
      · obtain ⟨y, hy, h3⟩ := opdVs_mem h2 v hv
        exact ⟨y, by simp [hy], h3⟩
    · cases h

theorem evCall_congr {f : Nat} {caps : List Nat} {l : List AV} (h : ∀ x ∈ l ++ caps.map fun c => aptr c 0, ∀ b ∈ refsA x, mget M b = mget M' b) : evCall f caps l M N = evCall f caps l M' N := by
  unfold evCall
  rw [passArgs_congr h]

theorem srcD_congr {sz : Nat} {x : AV} (h : ∀ b ∈ refsA x, mget M b = mget M' b) : srcD M sz x = srcD M' sz x := by
  unfold srcD
  split
  · rename_i b o n e
    rw [h b (by simp [refsA])]
  · rfl
  · rfl

theorem baseD_congr {sz e : Nat} {x : AV} (h : ∀ b ∈ refsA x, mget M b = mget M' b) : baseD M sz e x = baseD M' sz e x := by
  unfold baseD
  split
  · rfl
  · rename_i b o n e
    rw [h b (by simp [refsA])]
  · rfl

theorem srcA_congr {sz : Nat} {τ : ET} {x : AV} (h : ∀ b ∈ refsA x, mget M b = mget M' b) : srcA M sz τ x = srcA M' sz τ x := by
  unfold srcA
  split
  · rename_i b k
    rw [h b (by simp [refsA])]
  · rename_i b o n e
    rw [h b (by simp [refsA])]
  · rfl
  · rfl

theorem baseA_congr {e : Nat} {τ : ET} {x : AV} (h : ∀ b ∈ refsA x, mget M b = mget M' b) : baseA M e τ x = baseA M' e τ x := by
  unfold baseA
  split
  · rfl
  · rename_i b
    rw [h b (by simp [refsA])]
  · rfl

theorem evBuiltin_congr {b : Builtin} {ts : List TypeId} {l : List AV} (h : ∀ x ∈ l, ∀ b ∈ refsA x, mget M b = mget M' b) : evBuiltin P EQ b ts l M N = evBuiltin P EQ b ts l M' N := by
  unfold evBuiltin
  split
  · rename_i t x
    split
    · rfl
    · rfl
    · rfl
    · rename_i b k _
      rw [h (.v (.c (.aslice b k))) (by simp) b (by simp [refsA])]
    · rfl
    · rfl
  · rfl
  · rfl
  · rename_i t t' s x
    unfold evAppend evAppendA
    simp only [fun sz => srcD_congr (sz := sz) (h x (by simp)), fun sz e => baseD_congr (sz := sz) (e := e) (h s (by simp)), fun sz τ => srcA_congr (sz := sz) (τ := τ) (h x (by simp)), fun e τ => baseA_congr (e := e) (τ := τ) (h s (by simp))]
  · rfl

theorem refsO_some {x : Operand} {v : AV} (h : opdV T x = some v) : refsO T x = refsA v := by simp [refsO, h]

theorem opR_congr {o : Op} (hT : ∀ t ∈ looksO o.operands.toList, tget T t = tget T' t) (hM : ∀ b ∈ readsOf o T, mget M b = mget M' b) :
    opR P G EQ o T M N = opR P G EQ o T' M' N := by
  have hx : ∀ x ∈ o.operands.toList, opdV T x = opdV T' x := fun x hx => opdV_congr fun t ht => hT t (looksO_sub hx t ht)
  cases o <;> simp only [Op.operands] at hx <;> try rfl
  case move x => simp only [opR, hx x (by simp)]
  case assign x => simp only [opR, hx x (by simp)]
  case pick c x y => simp only [opR, hx c (by simp), hx x (by simp), hx y (by simp)]
  case box t x => simp only [opR, hx x (by simp)]
  case build t ps =>
    have : partVs T ps.toList = partVs T' ps.toList := partVs_congr fun p hp => hx p.2 (by simp; exact ⟨p.1, by simpa using hp⟩)
    simp only [opR, this]
  case buildSlice t n ps =>
    have : partVs T ps.toList = partVs T' ps.toList := partVs_congr fun p hp => hx p.2 (by simp; exact ⟨p.1, by simpa using hp⟩)
    simp only [opR, this]
  case load t x =>
    have h1 := hx x (by simp)
    cases x with
    | global g => rfl
    | tmp r =>
      simp only [opR]
      rw [← h1]
      split
      · rename_i b k hb
        rw [hM b (by simp [readsOf, refsO_some hb, refsA])]
      · rename_i b i k hb
        rw [hM b (by simp [readsOf, refsO_some hb, refsA])]
      · rfl
    | const c =>
      simp only [opR]
      rw [← h1]
      split
      · rename_i b k hb
        rw [hM b (by simp [readsOf, refsO_some hb, refsA])]
      · rename_i b i k hb
        rw [hM b (by simp [readsOf, refsO_some hb, refsA])]
      · rfl
    | func f =>
      simp only [opR]
      rw [← h1]
      split
      · rename_i b k hb
        rw [hM b (by simp [readsOf, refsO_some hb, refsA])]
      · rename_i b i k hb
        rw [hM b (by simp [readsOf, refsO_some hb, refsA])]
      · rfl
  case store t x y =>
    have h1 := hx x (by simp)
    have h2 := hx y (by simp)
    simp only [opR]
    rw [← h1, ← h2]
    split
    · rename_i b k v hb hv
      rw [hM b (by simp [readsOf, refsO_some hb, refsA])]
    · rename_i b i k v hb hv
      rw [hM b (by simp [readsOf, refsO_some hb, refsA])]
    · rfl
  case nilCheck x => simp only [opR, hx x (by simp)]
  case binOp op t x y u => simp only [opR, hx x (by simp), hx y (by simp)]
  case unOp op t x => simp only [opR, hx x (by simp)]
  case convert t u x => simp only [opR, hx x (by simp)]
  case makeFunc fn first caps =>
    have : opdVs T caps.toList = opdVs T' caps.toList := opdVs_congr fun x h => hx x (by simp at h ⊢; exact .inr h)
    simp only [opR, this]
  case makeSlice t x y => simp only [opR, hx x (by simp), hx y (by simp)]
  case slice t x lo hi mx =>
    have h1 := hx x (by simp)
    have h2 : ∀ n, boundO T n lo = boundO T' n lo := fun n => boundO_congr fun y hy => hx y (by cases lo <;> simp at hy ⊢; exact .inr (.inl hy))
    have h3 : ∀ n, boundO T n hi = boundO T' n hi := fun n => boundO_congr fun y hy => hx y (by cases hi <;> simp at hy ⊢; exact .inr (.inr (.inl hy)))
    simp only [opR, ← h2, ← h3]
    rw [← h1]
    split
    · rfl
    · rename_i e b _ hb
      rw [hM b (by simp [readsOf, refsO_some hb, refsA])]
    · rename_i n e b k _ hb
      rw [hM b (by simp [readsOf, refsO_some hb, refsA])]
    · rfl
  case fieldAddr t x f => simp only [opR, hx x (by simp)]
  case field t x f => simp only [opR, hx x (by simp)]
  case indexAddr t x i =>
    have h1 := hx x (by simp)
    have h2 := hx i (by simp)
    simp only [opR]
    rw [← h1, ← h2]
    split
    · rfl
    · rename_i e b k ki j _ hb _
      rw [hM b (by simp [readsOf, refsO_some hb, refsA])]
    · rfl
    · rfl
  case index t x i => simp only [opR, hx x (by simp), hx i (by simp)]
  case extract x i => simp only [opR, hx x (by simp)]
  case call c =>
    have hargs : opdVs T c.args.toList = opdVs T' c.args.toList := opdVs_congr fun x h => hx x (by simp [Call.operands] at h ⊢; exact .inr h)
    have hrd : ∀ l, opdVs T c.args.toList = some l → ∀ x ∈ l, ∀ b ∈ refsA x, mget M b = mget M' b := by
      intro l hl x hxl b hb
      obtain ⟨y, hy, h3⟩ := opdVs_mem hl x hxl
      refine hM b ?_
      simp only [readsOf, List.mem_append, List.mem_flatMap]
      exact .inr ⟨y, hy, by rw [refsO_some h3]; exact hb⟩
    simp only [opR]
    split
    · rename_i b hb
      rw [← hargs]
      split
      · rename_i l hl
        exact evBuiltin_congr (hrd l hl)
      · rfl
    · rename_i g hg
      have h1 : opdV T g = opdV T' g := hx g (by simp [Call.operands, hg])
      rw [← hargs, ← h1]
      split
      · rename_i f caps l hgv hl
        split
        · split
          · refine evCall_congr fun x hxl b hb => ?_
            rcases List.mem_append.1 hxl with h2 | h2
            · exact hrd l hl x h2 b hb
            · obtain ⟨c', hc', rfl⟩ := List.mem_map.1 h2
              simp only [aptr, refsA, List.mem_singleton] at hb
              subst hb
              refine hM b ?_
              simp only [readsOf, hg, List.mem_append]
              exact .inl (by rw [refsO_some hgv]; exact hc')
          · rfl
        · rfl
      · rfl
    · rfl

theorem opO_congr {o : Oper} (hT : ∀ t ∈ looksO o.op.operands.toList, tget T t = tget T' t) (hM : ∀ b ∈ readsOf o.op T, mget M b = mget M' b) :
    opO P G EQ o T M N = opO P G EQ o T' M' N := by
  unfold opO
  rw [opR_congr hT hM]

theorem wantA_congr {ops : List Oper} {o : Oper} (hT : ∀ t ∈ looksOf ops o, tget T t = tget T' t) : wantA ops o T = wantA ops o T' := by
  unfold wantA
  split
  · rfl
  · rename_i g hg
    split
    · rfl
    · rename_i d hd
      rw [hT d (by simp [looksOf, hg, hd])]

/-! ### The state when some operations have run -/

def stT (d : Nat → Bool) : List Oper → List Tr → Nat → TS → TS
  | o :: r, t :: tr, i, T => stT d r tr (i + 1) (bif d i then setT T o.dst t.val else T)
  | _, _, _, T => T

def stM (d : Nat → Bool) : List Tr → Nat → List Blk → List Blk
  | t :: tr, i, M => stM d tr (i + 1) (bif d i then puts M t.ss else M)
  | _, _, M => M

theorem length_setT (T : TS) (d : Option Tmp) (v : AV) : (setT T d v).length = T.length := by
  cases d <;> simp [setT, length_tset]

theorem length_stT (d : Nat → Bool) : ∀ (ops : List Oper) (tr : List Tr) (i : Nat) (T : TS), (stT d ops tr i T).length = T.length
  | [], _, _, _ => by simp [stT]
  | _ :: _, [], _, _ => by simp [stT]
  | o :: r, t :: tr, i, T => by
    simp only [stT, length_stT d r tr]
    cases d i <;> simp [length_setT]

theorem gets_setT (T : TS) (d : Option Tmp) (v : AV) (t : Nat) : tget (setT T d v) t = if d = some t ∧ t < T.length then v else tget T t := by
  cases d with
  | none => simp [setT]
  | some d =>
    simp only [setT, tget_tset]
    by_cases h : t = d
    · subst h; simp
    · have : ¬ (some d = some t) := by simp; exact fun e => h e.symm
      simp [h, this]

/-- The value of a slot is settled by those who write it. -/
theorem stT_congr {d d' : Nat → Bool} {t : Nat} : ∀ (ops : List Oper) (tr : List Tr) (i : Nat) (T T' : TS), T.length = T'.length → tget T t = tget T' t →
    (∀ j o, ops[j]? = some o → o.dst = some t → d (i + j) = d' (i + j)) → tget (stT d ops tr i T) t = tget (stT d' ops tr i T') t
  | [], _, _, _, _, _, h, _ => by simpa [stT] using h
  | _ :: _, [], _, _, _, _, h, _ => by simpa [stT] using h
  | o :: r, u :: tr, i, T, T', hl, h, hd => by
    simp only [stT]
    refine stT_congr r tr (i + 1) _ _ ?_ ?_ fun j o' ho' hdst => by have := hd (j + 1) o' (by simpa using ho') hdst; rwa [show i + (j + 1) = i + 1 + j from by omega] at this
    · cases d i <;> cases d' i <;> simp [length_setT, hl]
    · by_cases hdst : o.dst = some t
      · have := hd 0 o rfl hdst
        simp only [Nat.add_zero] at this
        rw [← this]
        cases d i
        · exact h
        · simp only [cond_true, gets_setT, hl, h]
      · have e1 : ∀ (b : Bool) (T : TS), tget (bif b then setT T o.dst u.val else T) t = tget T t := by
          intro b T
          cases b
          · rfl
          · simp [gets_setT, hdst]
        rw [e1, e1]
        exact h

/-- One more operation, with no later writer of its slot among those who have run. -/
theorem stT_insert {d d' : Nat → Bool} {k : Nat} {o : Oper} {u : Tr} {t : Nat} : ∀ (ops : List Oper) (tr : List Tr) (i : Nat) (T : TS), ops[k]? = some o → tr[k]? = some u → d (i + k) = false → d' (i + k) = true → (∀ j, j ≠ i + k → d' j = d j) →
    (∀ j o', k < j → ops[j]? = some o' → d (i + j) = true → o.dst ≠ none → o'.dst ≠ o.dst) → tget (stT d' ops tr i T) t = tget (setT (stT d ops tr i T) o.dst u.val) t
  | [], _, _, _, h, _, _, _, _, _ => by simp at h
  | _ :: _, [], _, _, _, h, _, _, _, _ => by simp at h
  | o0 :: r, u0 :: tr, i, T, ho, hu, h0, h1, hd, hw => by
    cases k with
    | zero =>
      simp only [List.getElem?_cons_zero, Option.some.injEq] at ho hu
      subst ho
      subst hu
      simp only [Nat.add_zero] at h0 h1
      simp only [stT, h0, h1, cond_true, cond_false]
      rw [gets_setT, length_stT]
      by_cases hdst : o0.dst = some t ∧ t < T.length
      · rw [if_pos hdst]
        -- nobody behind it writes the slot
        have key : ∀ (ops : List Oper) (tr : List Tr) (i : Nat) (T : TS), (∀ j o', ops[j]? = some o' → d' (i + j) = true → o'.dst ≠ some t) → tget (stT d' ops tr i T) t = tget T t := by
          intro ops
          induction ops with
          | nil => intro tr i T _; simp [stT]
          | cons o1 r1 ih =>
            intro tr i T hh
            cases tr with
            | nil => simp [stT]
            | cons u1 tr1 =>
              simp only [stT]
              rw [ih tr1 (i + 1) _ fun j o' ho' hd' => hh (j + 1) o' (by simpa using ho') (by rw [show i + (j + 1) = i + 1 + j from by omega]; exact hd')]
              cases hdi : d' i with
              | false => rfl
              | true =>
                have := hh 0 o1 rfl (by simpa using hdi)
                simp [gets_setT, this]
        rw [key r tr (i + 1) _ fun j o' ho' hd' => ?_]
        · rw [gets_setT, if_pos hdst]
        · rw [← hdst.1]
          refine hw (j + 1) o' (by omega) (by simpa using ho') ?_ (by rw [hdst.1]; simp)
          rw [show i + (j + 1) = i + 1 + j from by omega]
          rw [← hd (i + 1 + j) (by omega)]
          exact hd'
      · rw [if_neg hdst]
        refine stT_congr r tr (i + 1) _ _ (by simp [length_setT]) (by rw [gets_setT, if_neg hdst]) fun j o' _ _ => hd _ (by omega)
    | succ k =>
      simp only [List.getElem?_cons_succ] at ho hu
      simp only [stT]
      have e0 : d' i = d i := hd i (by omega)
      rw [e0]
      refine stT_insert r tr (i + 1) _ ho hu ?_ ?_ (fun j hj => hd j (by omega)) fun j o' hj ho' hdj hne => ?_
      · rw [show i + 1 + k = i + (k + 1) from by omega]; exact h0
      · rw [show i + 1 + k = i + (k + 1) from by omega]; exact h1
      · exact hw (j + 1) o' (by omega) (by simpa using ho') (by rw [show i + (j + 1) = i + 1 + j from by omega]; exact hdj) hne

theorem mget_puts_ne {s : Sets} {M : List Blk} {b : Nat} (h : ∀ p ∈ s, p.1 ≠ b) : mget (puts M s) b = mget M b := by
  rw [mget_puts, lastSet_none h]
  rfl

theorem mget_puts_congr {s : Sets} {M M' : List Blk} {b : Nat} (h : mget M b = mget M' b) : mget (puts M s) b = mget (puts M' s) b := by
  rw [mget_puts, mget_puts, h]

theorem stM_congr {d d' : Nat → Bool} {b : Nat} : ∀ (tr : List Tr) (i : Nat) (M M' : List Blk), mget M b = mget M' b →
    (∀ j u, tr[j]? = some u → (∃ p ∈ u.ss, p.1 = b) → d (i + j) = d' (i + j)) → mget (stM d tr i M) b = mget (stM d' tr i M') b
  | [], _, _, _, h, _ => by simpa [stM] using h
  | u :: tr, i, M, M', h, hd => by
    simp only [stM]
    refine stM_congr tr (i + 1) _ _ ?_ fun j u' hu' hp => by have := hd (j + 1) u' (by simpa using hu') hp; rwa [show i + (j + 1) = i + 1 + j from by omega] at this
    by_cases hp : ∃ p ∈ u.ss, p.1 = b
    · have := hd 0 u rfl hp
      simp only [Nat.add_zero] at this
      rw [← this]
      cases d i
      · exact h
      · exact mget_puts_congr h
    · have e1 : ∀ (c : Bool) (M : List Blk), mget (bif c then puts M u.ss else M) b = mget M b := by
        intro c M
        cases c
        · rfl
        · exact mget_puts_ne fun p hp' e => hp ⟨p, hp', e⟩
      rw [e1, e1]
      exact h

theorem stM_insert {d d' : Nat → Bool} {k : Nat} {u : Tr} {b : Nat} : ∀ (tr : List Tr) (i : Nat) (M : List Blk), tr[k]? = some u → d (i + k) = false → d' (i + k) = true → (∀ j, j ≠ i + k → d' j = d j) →
    (∀ j u', k < j → tr[j]? = some u' → d (i + j) = true → ∀ p ∈ u.ss, ∀ p' ∈ u'.ss, p.1 ≠ p'.1) → mget (stM d' tr i M) b = mget (puts (stM d tr i M) u.ss) b
  | [], _, _, h, _, _, _, _ => by simp at h
  | u0 :: tr, i, M, hu, h0, h1, hd, hw => by
    cases k with
    | zero =>
      simp only [List.getElem?_cons_zero, Option.some.injEq] at hu
      subst hu
      simp only [Nat.add_zero] at h0 h1
      simp only [stM, h0, h1, cond_true, cond_false]
      by_cases hp : ∃ p ∈ u0.ss, p.1 = b
      · have key : ∀ (tr : List Tr) (i : Nat) (M : List Blk), (∀ j u', tr[j]? = some u' → d' (i + j) = true → ∀ p ∈ u'.ss, p.1 ≠ b) → mget (stM d' tr i M) b = mget M b := by
          intro tr
          induction tr with
          | nil => intro i M _; simp [stM]
          | cons u1 tr1 ih =>
            intro i M hh
            simp only [stM]
            rw [ih (i + 1) _ fun j u' hu' hd' => hh (j + 1) u' (by simpa using hu') (by rw [show i + (j + 1) = i + 1 + j from by omega]; exact hd')]
            cases hdi : d' i with
            | false => rfl
            | true => exact mget_puts_ne (hh 0 u1 rfl (by simpa using hdi))
        obtain ⟨p, hp1, hp2⟩ := hp
        rw [key tr (i + 1) _ fun j u' hu' hd' p' hp' e => ?_]
        · rw [mget_puts, mget_puts]
          cases hl : lastSet u0.ss b with
          | some y => rfl
          | none => exact absurd hp2 (lastSet_none_iff hl p hp1)
        · refine hw (j + 1) u' (by omega) (by simpa using hu') ?_ p hp1 p' hp' (by rw [hp2, e])
          rw [show i + (j + 1) = i + 1 + j from by omega, ← hd (i + 1 + j) (by omega)]
          exact hd'
      · have hn : ∀ p ∈ u0.ss, p.1 ≠ b := fun p hp' e => hp ⟨p, hp', e⟩
        rw [mget_puts_ne hn]
        exact stM_congr tr (i + 1) _ _ (mget_puts_ne hn) fun j u' _ _ => hd _ (by omega)
    | succ k =>
      simp only [List.getElem?_cons_succ] at hu
      simp only [stM]
      have e0 : d' i = d i := hd i (by omega)
      rw [e0]
      refine stM_insert tr (i + 1) _ hu ?_ ?_ (fun j hj => hd j (by omega)) fun j u' hj hu' hdj => ?_
      · rw [show i + 1 + k = i + (k + 1) from by omega]; exact h0
      · rw [show i + 1 + k = i + (k + 1) from by omega]; exact h1
      · exact hw (j + 1) u' (by omega) (by simpa using hu') (by rw [show i + (j + 1) = i + 1 + j from by omega]; exact hdj)

end
end Go.Ev
