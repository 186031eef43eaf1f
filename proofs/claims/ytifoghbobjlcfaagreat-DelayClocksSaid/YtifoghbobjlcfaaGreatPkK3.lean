/-
  The evaluator over operations whose order the model draws: sound, if operations whose order is open do not touch each other's slots and blocks.
  The evaluator over operations whose order the model draws: the theorem.
  The evaluator over code and functions: sound. A table of contracts grows function by function.
  Contracts by the evaluator, where the ranges of the arguments may be used. No condition.
  Contracts of loops over integer slots: the slots that live, what they come to. No condition.
  From the evaluator's contracts to the form of the statements: arguments opened, memory kept, equality of structs. No condition.
  Equality of structs and arrays of plain data is equality of all cells, by the type's shape. No condition.
  Plain data of the program's types, as the evaluator's cells. Definitions only.
  Numbers of 64 bits: what the plain operations come to. No program here.
-/
import Derived.Test.YtifoghbobjlcfaaGreatPkK2
import Derived.ProofKit
import Derived.Below
import Derived.KernelRfl
import Derived.Lib.Mul64
import Derived.Laws.Bits64b
set_option maxRecDepth 100000
namespace Go.Ev
open Go
theorem opdV_congr {T T' : TS} {x : Operand} (h : ∀ t ∈ looksO [x], tget T t = tget T' t) : opdV T x = opdV T' x := by
  cases x with
  | tmp t => simp only [opdV]; rw [h t (by simp [looksO])]
  | const _ => rfl
  | global _ => rfl
  | func _ => rfl
theorem looksO_sub {x : Operand} : ∀ {l : List Operand}, x ∈ l → ∀ t ∈ looksO [x], t ∈ looksO l
  | [], h, _, _ => by cases h
  | y :: r, h, t, ht => by
    rcases List.mem_cons.1 h with rfl | h
    · cases x <;> simp [looksO] at ht ⊢
      exact .inl ht
    · have := looksO_sub h t ht
      cases y <;> simp [looksO, this]
section
variable {P : Program} {G : Nat → Option (List D)} {gb : Nat} {EQ : Tab} {T T' : TS} {M M' : List Blk} {N : Nat}
theorem opdVs_congr : ∀ {l : List Operand}, (∀ x ∈ l, opdV T x = opdV T' x) → opdVs T l = opdVs T' l
  | [], _ => rfl
  | x :: r, h => by simp only [opdVs]; rw [h x (by simp), opdVs_congr fun y hy => h y (by simp [hy])]
theorem partVs_congr : ∀ {l : List (Nat × Operand)}, (∀ x ∈ l, opdV T x.2 = opdV T' x.2) → partVs T l = partVs T' l
  | [], _ => rfl
  | x :: r, h => by simp only [partVs]; rw [h x (by simp), partVs_congr fun y hy => h y (by simp [hy])]
theorem boundO_congr {n : Nat} {x : Option Operand} (h : ∀ y ∈ x.toList, opdV T y = opdV T' y) : boundO T n x = boundO T' n x := by
  cases x with
  | none => rfl
  | some y => simp only [boundO]; rw [h y (by simp)]
theorem passArgs_congr : ∀ {xs : List AV} {j : Nat}, (∀ x ∈ xs, ∀ b ∈ refsA x, mget M b = mget M' b) → passArgs M xs j = passArgs M' xs j
  | [], _, _ => rfl
  | x :: r, j, h => by
    have ih : ∀ j, passArgs M r j = passArgs M' r j := fun j => passArgs_congr fun y hy => h y (by simp [hy])
    have hx := h x (by simp)
    unfold passArgs
    cases x with
    | tup l => rfl
    | any => rfl
    | v x =>
      cases x with
      | agg l => simp only [ih]
      | c c =>
        cases c with
        | d x => simp only [ih]
        | nilS => simp only [ih]
        | ptr b o =>
          have := hx b (by simp [refsA])
          simp only [this, ih]
        | slice b o n e =>
          have := hx b (by simp [refsA])
          simp only [this, ih]
        | aslice b k =>
          have := hx b (by simp [refsA])
          simp only [this, ih]
        | eptr b i o => rfl
        | fn f caps =>
          match caps, hx with
          | [], _ => simp only [ih]
          | [c], hx => have := hx c (by simp [refsA]); simp only [this, ih]
          | [c, c'], hx => have h1 := hx c (by simp [refsA]); have h2 := hx c' (by simp [refsA]); simp only [h1, h2, ih]
          | _ :: _ :: _ :: _, _ => rfl
theorem opdVs_mem : ∀ {l : List Operand} {vs : List AV}, opdVs T l = some vs → ∀ v ∈ vs, ∃ x ∈ l, opdV T x = some v
  | [], vs, h, v, hv => by simp only [opdVs, Option.some.injEq] at h; subst h; cases hv
  | x :: r, vs, h, v, hv => by
    simp only [opdVs] at h
    split at h
    · rename_i u l h1 h2
      cases h
      rcases List.mem_cons.1 hv with rfl | hv
      · exact ⟨x, by simp, h1⟩
      · obtain ⟨y, hy, h3⟩ := opdVs_mem h2 v hv
        exact ⟨y, by simp [hy], h3⟩
    · cases h
theorem evCall_congr {f : Nat} {caps : List Nat} {l : List AV} (h : ∀ x ∈ l ++ caps.map fun c => aptr c 0, ∀ b ∈ refsA x, mget M b = mget M' b) : evCall f caps l M N = evCall f caps l M' N := by
  unfold evCall
  rw [passArgs_congr h]
theorem srcD_congr {sz : Nat} {x : AV} (h : ∀ b ∈ refsA x, mget M b = mget M' b) : srcD M sz x = srcD M' sz x := by
  unfold srcD
  split
  · rename_i b o n e
    rw [h b (by simp [refsA])]
  · rfl
  · rfl
theorem baseD_congr {sz e : Nat} {x : AV} (h : ∀ b ∈ refsA x, mget M b = mget M' b) : baseD M sz e x = baseD M' sz e x := by
  unfold baseD
  split
  · rfl
  · rename_i b o n e
    rw [h b (by simp [refsA])]
  · rfl
theorem srcA_congr {sz : Nat} {τ : ET} {x : AV} (h : ∀ b ∈ refsA x, mget M b = mget M' b) : srcA M sz τ x = srcA M' sz τ x := by
  unfold srcA
  split
  · rename_i b k
    rw [h b (by simp [refsA])]
  · rename_i b o n e
    rw [h b (by simp [refsA])]
  · rfl
  · rfl
theorem baseA_congr {e : Nat} {τ : ET} {x : AV} (h : ∀ b ∈ refsA x, mget M b = mget M' b) : baseA M e τ x = baseA M' e τ x := by
  unfold baseA
  split
  · rfl
  · rename_i b
    rw [h b (by simp [refsA])]
  · rfl
theorem evBuiltin_congr {b : Builtin} {ts : List TypeId} {l : List AV} (h : ∀ x ∈ l, ∀ b ∈ refsA x, mget M b = mget M' b) : evBuiltin P EQ b ts l M N = evBuiltin P EQ b ts l M' N := by
  unfold evBuiltin
  split
  · rename_i t x
    split
    · rfl
    · rfl
    · rfl
    · rename_i b k _
      rw [h (.v (.c (.aslice b k))) (by simp) b (by simp [refsA])]
    · rfl
    · rfl
  · rfl
  · rfl
  · rename_i t t' s x
    unfold evAppend evAppendA
    simp only [fun sz => srcD_congr (sz := sz) (h x (by simp)), fun sz e => baseD_congr (sz := sz) (e := e) (h s (by simp)), fun sz τ => srcA_congr (sz := sz) (τ := τ) (h x (by simp)), fun e τ => baseA_congr (e := e) (τ := τ) (h s (by simp))]
  · rfl
theorem refsO_some {x : Operand} {v : AV} (h : opdV T x = some v) : refsO T x = refsA v := by simp [refsO, h]
theorem opR_congr {o : Op} (hT : ∀ t ∈ looksO o.operands.toList, tget T t = tget T' t) (hM : ∀ b ∈ readsOf o T, mget M b = mget M' b) :
    opR P G EQ o T M N = opR P G EQ o T' M' N := by
  have hx : ∀ x ∈ o.operands.toList, opdV T x = opdV T' x := fun x hx => opdV_congr fun t ht => hT t (looksO_sub hx t ht)
  cases o <;> simp only [Op.operands] at hx <;> try rfl
  case move x => simp only [opR, hx x (by simp)]
  case assign x => simp only [opR, hx x (by simp)]
  case pick c x y => simp only [opR, hx c (by simp), hx x (by simp), hx y (by simp)]
  case box t x => simp only [opR, hx x (by simp)]
  case build t ps =>
    have : partVs T ps.toList = partVs T' ps.toList := partVs_congr fun p hp => hx p.2 (by simp; exact ⟨p.1, by simpa using hp⟩)
    simp only [opR, this]
  case buildSlice t n ps =>
    have : partVs T ps.toList = partVs T' ps.toList := partVs_congr fun p hp => hx p.2 (by simp; exact ⟨p.1, by simpa using hp⟩)
    simp only [opR, this]
  case load t x =>
    have h1 := hx x (by simp)
    cases x with
    | global g => rfl
    | tmp r =>
      simp only [opR]
      rw [← h1]
      split
      · rename_i b k hb
        rw [hM b (by simp [readsOf, refsO_some hb, refsA])]
      · rename_i b i k hb
        rw [hM b (by simp [readsOf, refsO_some hb, refsA])]
      · rfl
    | const c =>
      simp only [opR]
      rw [← h1]
      split
      · rename_i b k hb
        rw [hM b (by simp [readsOf, refsO_some hb, refsA])]
      · rename_i b i k hb
        rw [hM b (by simp [readsOf, refsO_some hb, refsA])]
      · rfl
    | func f =>
      simp only [opR]
      rw [← h1]
      split
      · rename_i b k hb
        rw [hM b (by simp [readsOf, refsO_some hb, refsA])]
      · rename_i b i k hb
        rw [hM b (by simp [readsOf, refsO_some hb, refsA])]
      · rfl
  case store t x y =>
    have h1 := hx x (by simp)
    have h2 := hx y (by simp)
    simp only [opR]
    rw [← h1, ← h2]
    split
    · rename_i b k v hb hv
      rw [hM b (by simp [readsOf, refsO_some hb, refsA])]
    · rename_i b i k v hb hv
      rw [hM b (by simp [readsOf, refsO_some hb, refsA])]
    · rfl
  case nilCheck x => simp only [opR, hx x (by simp)]
  case binOp op t x y u => simp only [opR, hx x (by simp), hx y (by simp)]
  case unOp op t x => simp only [opR, hx x (by simp)]
  case convert t u x => simp only [opR, hx x (by simp)]
  case makeFunc fn first caps =>
    have : opdVs T caps.toList = opdVs T' caps.toList := opdVs_congr fun x h => hx x (by simp at h ⊢; exact .inr h)
    simp only [opR, this]
  case makeSlice t x y => simp only [opR, hx x (by simp), hx y (by simp)]
  case slice t x lo hi mx =>
    have h1 := hx x (by simp)
    have h2 : ∀ n, boundO T n lo = boundO T' n lo := fun n => boundO_congr fun y hy => hx y (by cases lo <;> simp at hy ⊢; exact .inr (.inl hy))
    have h3 : ∀ n, boundO T n hi = boundO T' n hi := fun n => boundO_congr fun y hy => hx y (by cases hi <;> simp at hy ⊢; exact .inr (.inr (.inl hy)))
    simp only [opR, ← h2, ← h3]
    rw [← h1]
    split
    · rfl
    · rename_i e b _ hb
      rw [hM b (by simp [readsOf, refsO_some hb, refsA])]
    · rename_i n e b k _ hb
      rw [hM b (by simp [readsOf, refsO_some hb, refsA])]
    · rfl
  case fieldAddr t x f => simp only [opR, hx x (by simp)]
  case field t x f => simp only [opR, hx x (by simp)]
  case indexAddr t x i =>
    have h1 := hx x (by simp)
    have h2 := hx i (by simp)
    simp only [opR]
    rw [← h1, ← h2]
    split
    · rfl
    · rename_i e b k ki j _ hb _
      rw [hM b (by simp [readsOf, refsO_some hb, refsA])]
    · rfl
    · rfl
  case index t x i => simp only [opR, hx x (by simp), hx i (by simp)]
  case extract x i => simp only [opR, hx x (by simp)]
  case call c =>
    have hargs : opdVs T c.args.toList = opdVs T' c.args.toList := opdVs_congr fun x h => hx x (by simp [Call.operands] at h ⊢; exact .inr h)
    have hrd : ∀ l, opdVs T c.args.toList = some l → ∀ x ∈ l, ∀ b ∈ refsA x, mget M b = mget M' b := by
      intro l hl x hxl b hb
      obtain ⟨y, hy, h3⟩ := opdVs_mem hl x hxl
      refine hM b ?_
      simp only [readsOf, List.mem_append, List.mem_flatMap]
      exact .inr ⟨y, hy, by rw [refsO_some h3]; exact hb⟩
    simp only [opR]
    split
    · rename_i b hb
      rw [← hargs]
      split
      · rename_i l hl
        exact evBuiltin_congr (hrd l hl)
      · rfl
    · rename_i g hg
      have h1 : opdV T g = opdV T' g := hx g (by simp [Call.operands, hg])
      rw [← hargs, ← h1]
      split
      · rename_i f caps l hgv hl
        split
        · split
          · refine evCall_congr fun x hxl b hb => ?_
            rcases List.mem_append.1 hxl with h2 | h2
            · exact hrd l hl x h2 b hb
            · obtain ⟨c', hc', rfl⟩ := List.mem_map.1 h2
              simp only [aptr, refsA, List.mem_singleton] at hb
              subst hb
              refine hM b ?_
              simp only [readsOf, hg, List.mem_append]
              exact .inl (by rw [refsO_some hgv]; exact hc')
          · rfl
        · rfl
      · rfl
    · rfl
theorem opO_congr {o : Oper} (hT : ∀ t ∈ looksO o.op.operands.toList, tget T t = tget T' t) (hM : ∀ b ∈ readsOf o.op T, mget M b = mget M' b) :
    opO P G EQ o T M N = opO P G EQ o T' M' N := by
  unfold opO
  rw [opR_congr hT hM]
theorem wantA_congr {ops : List Oper} {o : Oper} (hT : ∀ t ∈ looksOf ops o, tget T t = tget T' t) : wantA ops o T = wantA ops o T' := by
  unfold wantA
  split
  · rfl
  · rename_i g hg
    split
    · rfl
    · rename_i d hd
      rw [hT d (by simp [looksOf, hg, hd])]
def stT (d : Nat → Bool) : List Oper → List Tr → Nat → TS → TS
  | o :: r, t :: tr, i, T => stT d r tr (i + 1) (bif d i then setT T o.dst t.val else T)
  | _, _, _, T => T
def stM (d : Nat → Bool) : List Tr → Nat → List Blk → List Blk
  | t :: tr, i, M => stM d tr (i + 1) (bif d i then puts M t.ss else M)
  | _, _, M => M
theorem length_setT (T : TS) (d : Option Tmp) (v : AV) : (setT T d v).length = T.length := by
  cases d <;> simp [setT, length_tset]
theorem length_stT (d : Nat → Bool) : ∀ (ops : List Oper) (tr : List Tr) (i : Nat) (T : TS), (stT d ops tr i T).length = T.length
  | [], _, _, _ => by simp [stT]
  | _ :: _, [], _, _ => by simp [stT]
  | o :: r, t :: tr, i, T => by
    simp only [stT, length_stT d r tr]
    cases d i <;> simp [length_setT]
theorem gets_setT (T : TS) (d : Option Tmp) (v : AV) (t : Nat) : tget (setT T d v) t = if d = some t ∧ t < T.length then v else tget T t := by
  cases d with
  | none => simp [setT]
  | some d =>
    simp only [setT, tget_tset]
    by_cases h : t = d
    · subst h; simp
    · have : ¬ (some d = some t) := by simp; exact fun e => h e.symm
      simp [h, this]
theorem stT_congr {d d' : Nat → Bool} {t : Nat} : ∀ (ops : List Oper) (tr : List Tr) (i : Nat) (T T' : TS), T.length = T'.length → tget T t = tget T' t →
    (∀ j o, ops[j]? = some o → o.dst = some t → d (i + j) = d' (i + j)) → tget (stT d ops tr i T) t = tget (stT d' ops tr i T') t
  | [], _, _, _, _, _, h, _ => by simpa [stT] using h
  | _ :: _, [], _, _, _, _, h, _ => by simpa [stT] using h
  | o :: r, u :: tr, i, T, T', hl, h, hd => by
    simp only [stT]
    refine stT_congr r tr (i + 1) _ _ ?_ ?_ fun j o' ho' hdst => by have := hd (j + 1) o' (by simpa using ho') hdst; rwa [show i + (j + 1) = i + 1 + j from by omega] at this
    · cases d i <;> cases d' i <;> simp [length_setT, hl]
    · by_cases hdst : o.dst = some t
      · have := hd 0 o rfl hdst
        simp only [Nat.add_zero] at this
        rw [← this]
        cases d i
        · exact h
        · simp only [cond_true, gets_setT, hl, h]
      · have e1 : ∀ (b : Bool) (T : TS), tget (bif b then setT T o.dst u.val else T) t = tget T t := by
          intro b T
          cases b
          · rfl
          · simp [gets_setT, hdst]
        rw [e1, e1]
        exact h
theorem stT_insert {d d' : Nat → Bool} {k : Nat} {o : Oper} {u : Tr} {t : Nat} : ∀ (ops : List Oper) (tr : List Tr) (i : Nat) (T : TS), ops[k]? = some o → tr[k]? = some u → d (i + k) = false → d' (i + k) = true → (∀ j, j ≠ i + k → d' j = d j) →
    (∀ j o', k < j → ops[j]? = some o' → d (i + j) = true → o.dst ≠ none → o'.dst ≠ o.dst) → tget (stT d' ops tr i T) t = tget (setT (stT d ops tr i T) o.dst u.val) t
  | [], _, _, _, h, _, _, _, _, _ => by simp at h
  | _ :: _, [], _, _, _, h, _, _, _, _ => by simp at h
  | o0 :: r, u0 :: tr, i, T, ho, hu, h0, h1, hd, hw => by
    cases k with
    | zero =>
      simp only [List.getElem?_cons_zero, Option.some.injEq] at ho hu
      subst ho
      subst hu
      simp only [Nat.add_zero] at h0 h1
      simp only [stT, h0, h1, cond_true, cond_false]
      rw [gets_setT, length_stT]
      by_cases hdst : o0.dst = some t ∧ t < T.length
      · rw [if_pos hdst]
        -- nobody behind it writes the slot
        have key : ∀ (ops : List Oper) (tr : List Tr) (i : Nat) (T : TS), (∀ j o', ops[j]? = some o' → d' (i + j) = true → o'.dst ≠ some t) → tget (stT d' ops tr i T) t = tget T t := by
          intro ops
          induction ops with
          | nil => intro tr i T _; simp [stT]
          | cons o1 r1 ih =>
            intro tr i T hh
            cases tr with
            | nil => simp [stT]
            | cons u1 tr1 =>
              simp only [stT]
              rw [ih tr1 (i + 1) _ fun j o' ho' hd' => hh (j + 1) o' (by simpa using ho') (by rw [show i + (j + 1) = i + 1 + j from by omega]; exact hd')]
              cases hdi : d' i with
              | false => rfl
              | true =>
                have := hh 0 o1 rfl (by simpa using hdi)
                simp [gets_setT, this]
        rw [key r tr (i + 1) _ fun j o' ho' hd' => ?_]
        · rw [gets_setT, if_pos hdst]
        · rw [← hdst.1]
          refine hw (j + 1) o' (by omega) (by simpa using ho') ?_ (by rw [hdst.1]; simp)
          rw [show i + (j + 1) = i + 1 + j from by omega]
          rw [← hd (i + 1 + j) (by omega)]
          exact hd'
      · rw [if_neg hdst]
        refine stT_congr r tr (i + 1) _ _ (by simp [length_setT]) (by rw [gets_setT, if_neg hdst]) fun j o' _ _ => hd _ (by omega)
    | succ k =>
      simp only [List.getElem?_cons_succ] at ho hu
      simp only [stT]
      have e0 : d' i = d i := hd i (by omega)
      rw [e0]
      refine stT_insert r tr (i + 1) _ ho hu ?_ ?_ (fun j hj => hd j (by omega)) fun j o' hj ho' hdj hne => ?_
      · rw [show i + 1 + k = i + (k + 1) from by omega]; exact h0
      · rw [show i + 1 + k = i + (k + 1) from by omega]; exact h1
      · exact hw (j + 1) o' (by omega) (by simpa using ho') (by rw [show i + (j + 1) = i + 1 + j from by omega]; exact hdj) hne
theorem mget_puts_ne {s : Sets} {M : List Blk} {b : Nat} (h : ∀ p ∈ s, p.1 ≠ b) : mget (puts M s) b = mget M b := by
  rw [mget_puts, lastSet_none h]
  rfl
theorem mget_puts_congr {s : Sets} {M M' : List Blk} {b : Nat} (h : mget M b = mget M' b) : mget (puts M s) b = mget (puts M' s) b := by
  rw [mget_puts, mget_puts, h]
theorem stM_congr {d d' : Nat → Bool} {b : Nat} : ∀ (tr : List Tr) (i : Nat) (M M' : List Blk), mget M b = mget M' b →
    (∀ j u, tr[j]? = some u → (∃ p ∈ u.ss, p.1 = b) → d (i + j) = d' (i + j)) → mget (stM d tr i M) b = mget (stM d' tr i M') b
  | [], _, _, _, h, _ => by simpa [stM] using h
  | u :: tr, i, M, M', h, hd => by
    simp only [stM]
    refine stM_congr tr (i + 1) _ _ ?_ fun j u' hu' hp => by have := hd (j + 1) u' (by simpa using hu') hp; rwa [show i + (j + 1) = i + 1 + j from by omega] at this
    by_cases hp : ∃ p ∈ u.ss, p.1 = b
    · have := hd 0 u rfl hp
      simp only [Nat.add_zero] at this
      rw [← this]
      cases d i
      · exact h
      · exact mget_puts_congr h
    · have e1 : ∀ (c : Bool) (M : List Blk), mget (bif c then puts M u.ss else M) b = mget M b := by
        intro c M
        cases c
        · rfl
        · exact mget_puts_ne fun p hp' e => hp ⟨p, hp', e⟩
      rw [e1, e1]
      exact h
theorem stM_insert {d d' : Nat → Bool} {k : Nat} {u : Tr} {b : Nat} : ∀ (tr : List Tr) (i : Nat) (M : List Blk), tr[k]? = some u → d (i + k) = false → d' (i + k) = true → (∀ j, j ≠ i + k → d' j = d j) →
    (∀ j u', k < j → tr[j]? = some u' → d (i + j) = true → ∀ p ∈ u.ss, ∀ p' ∈ u'.ss, p.1 ≠ p'.1) → mget (stM d' tr i M) b = mget (puts (stM d tr i M) u.ss) b
  | [], _, _, h, _, _, _, _ => by simp at h
  | u0 :: tr, i, M, hu, h0, h1, hd, hw => by
    cases k with
    | zero =>
      simp only [List.getElem?_cons_zero, Option.some.injEq] at hu
      subst hu
      simp only [Nat.add_zero] at h0 h1
      simp only [stM, h0, h1, cond_true, cond_false]
      by_cases hp : ∃ p ∈ u0.ss, p.1 = b
      · have key : ∀ (tr : List Tr) (i : Nat) (M : List Blk), (∀ j u', tr[j]? = some u' → d' (i + j) = true → ∀ p ∈ u'.ss, p.1 ≠ b) → mget (stM d' tr i M) b = mget M b := by
          intro tr
          induction tr with
          | nil => intro i M _; simp [stM]
          | cons u1 tr1 ih =>
            intro i M hh
            simp only [stM]
            rw [ih (i + 1) _ fun j u' hu' hd' => hh (j + 1) u' (by simpa using hu') (by rw [show i + (j + 1) = i + 1 + j from by omega]; exact hd')]
            cases hdi : d' i with
            | false => rfl
            | true => exact mget_puts_ne (hh 0 u1 rfl (by simpa using hdi))
        obtain ⟨p, hp1, hp2⟩ := hp
        rw [key tr (i + 1) _ fun j u' hu' hd' p' hp' e => ?_]
        · rw [mget_puts, mget_puts]
          cases hl : lastSet u0.ss b with
          | some y => rfl
          | none => exact absurd hp2 (lastSet_none_iff hl p hp1)
        · refine hw (j + 1) u' (by omega) (by simpa using hu') ?_ p hp1 p' hp' (by rw [hp2, e])
          rw [show i + (j + 1) = i + 1 + j from by omega, ← hd (i + 1 + j) (by omega)]
          exact hd'
      · have hn : ∀ p ∈ u0.ss, p.1 ≠ b := fun p hp' e => hp ⟨p, hp', e⟩
        rw [mget_puts_ne hn]
        exact stM_congr tr (i + 1) _ _ (mget_puts_ne hn) fun j u' _ _ => hd _ (by omega)
    | succ k =>
      simp only [List.getElem?_cons_succ] at hu
      simp only [stM]
      have e0 : d' i = d i := hd i (by omega)
      rw [e0]
      refine stM_insert tr (i + 1) _ hu ?_ ?_ (fun j hj => hd j (by omega)) fun j u' hj hu' hdj => ?_
      · rw [show i + 1 + k = i + (k + 1) from by omega]; exact h0
      · rw [show i + 1 + k = i + (k + 1) from by omega]; exact h1
      · exact hw (j + 1) u' (by omega) (by simpa using hu') (by rw [show i + (j + 1) = i + 1 + j from by omega]; exact hdj)
end
end Go.Ev

namespace Go.Ev
open Go
theorem stT_shift (d : Nat → Bool) (k : Nat) : ∀ (ops : List Oper) (tr : List Tr) (i : Nat) (T : TS), stT d ops tr (i + k) T = stT (fun j => d (j + k)) ops tr i T
  | [], _, _, _ => by simp [stT]
  | _ :: _, [], _, _ => by simp [stT]
  | o :: r, u :: tr, i, T => by
    simp only [stT]
    rw [show i + k + 1 = i + 1 + k from by omega]
    exact stT_shift d k r tr (i + 1) _
theorem stM_shift (d : Nat → Bool) (k : Nat) : ∀ (tr : List Tr) (i : Nat) (M : List Blk), stM d tr (i + k) M = stM (fun j => d (j + k)) tr i M
  | [], _, _ => by simp [stM]
  | u :: tr, i, M => by
    simp only [stM]
    rw [show i + k + 1 = i + 1 + k from by omega]
    exact stM_shift d k tr (i + 1) _
section
variable {P : Program} {G : Nat → Option (List D)} {gb : Nat} {EQ : Tab}
theorem stT_none : ∀ (ops : List Oper) (tr : List Tr) (i : Nat) (T : TS) (d : Nat → Bool), (∀ j, d j = false) → stT d ops tr i T = T
  | [], _, _, _, _, _ => by simp [stT]
  | _ :: _, [], _, _, _, _ => by simp [stT]
  | o :: r, u :: tr, i, T, d, h => by simp only [stT, h i, cond_false]; exact stT_none r tr (i + 1) T d h
theorem stM_none : ∀ (tr : List Tr) (i : Nat) (M : List Blk) (d : Nat → Bool), (∀ j, d j = false) → stM d tr i M = M
  | [], _, _, _, _ => by simp [stM]
  | u :: tr, i, M, d, h => by simp only [stM, h i, cond_false]; exact stM_none tr (i + 1) M d h
theorem trace_at {ops l : List Oper} {T T' : TS} {M M' : List Blk} {N N' : Nat} {tr : List Tr} (h : Trace P G gb EQ true ops l T M N tr T' M' N') :
    tr.length = l.length ∧ N' = N + l.length ∧ T' = stT (fun _ => true) l tr 0 T ∧ M' = stM (fun _ => true) tr 0 M ∧
    ∀ i o u, l[i]? = some o → tr[i]? = some u →
      (wantA ops o (stT (fun j => decide (j < i)) l tr 0 T) = some true ∧ Reach P G gb (opO P G EQ o (stT (fun j => decide (j < i)) l tr 0 T) (stM (fun j => decide (j < i)) tr 0 M) (N + i)) u.val u.ss ∧
        u.rd = readsOf o.op (stT (fun j => decide (j < i)) l tr 0 T)) ∨
      (wantA ops o (stT (fun j => decide (j < i)) l tr 0 T) = some false ∧ u = Tr.skip) := by
  induction h with
  | nil => exact ⟨rfl, rfl, rfl, rfl, fun i o u ho => by simp at ho⟩
  | @did o r T M N v s tr T' M' N' hw hr _ ih =>
    obtain ⟨h1, h2, h3, h4, h5⟩ := ih
    refine ⟨by simp [h1], by rw [h2]; simp [nextN]; omega, ?_, ?_, fun i o' u ho hu => ?_⟩
    · simp only [stT, cond_true]
      rw [show (0 + 1) = 0 + 1 from rfl, stT_shift]
      exact h3
    · simp only [stM, cond_true]
      rw [stM_shift]
      exact h4
    · cases i with
      | zero =>
        simp only [List.getElem?_cons_zero, Option.some.injEq] at ho hu
        subst ho
        subst hu
        have e1 := stT_none (o :: r) (⟨true, v, s, readsOf o.op T⟩ :: tr) 0 T (fun j => decide (j < 0)) (by simp)
        have e2 := stM_none (⟨true, v, s, readsOf o.op T⟩ :: tr) 0 M (fun j => decide (j < 0)) (by simp)
        rw [e1, e2]
        exact .inl ⟨hw, hr, rfl⟩
      | succ i =>
        simp only [List.getElem?_cons_succ] at ho hu
        have e1 : stT (fun j => decide (j < i + 1)) (o :: r) (⟨true, v, s, readsOf o.op T⟩ :: tr) 0 T = stT (fun j => decide (j < i)) r tr 0 (setT T o.dst v) := by
          simp only [stT]
          rw [stT_shift]
          simp
        have e2 : stM (fun j => decide (j < i + 1)) (⟨true, v, s, readsOf o.op T⟩ :: tr) 0 M = stM (fun j => decide (j < i)) tr 0 (puts M s) := by
          simp only [stM]
          rw [stM_shift]
          simp
        rw [e1, e2]
        have := h5 i o' u ho hu
        simp only [nextN, Bool.true_or, cond_true] at this
        rw [show N + (i + 1) = N + 1 + i from by omega]
        exact this
  | @skip o r T M N tr T' M' N' hw _ ih =>
    obtain ⟨h1, h2, h3, h4, h5⟩ := ih
    refine ⟨by simp [h1], by rw [h2]; simp [nextN]; omega, ?_, ?_, fun i o' u ho hu => ?_⟩
    · simp only [stT, cond_true, Tr.skip]
      rw [stT_shift]
      exact h3
    · simp only [stM, cond_true, Tr.skip]
      rw [stM_shift]
      exact h4
    · cases i with
      | zero =>
        simp only [List.getElem?_cons_zero, Option.some.injEq] at ho hu
        subst ho
        subst hu
        have e1 := stT_none (o :: r) (Tr.skip :: tr) 0 T (fun j => decide (j < 0)) (by simp)
        rw [e1]
        exact .inr ⟨hw, rfl⟩
      | succ i =>
        simp only [List.getElem?_cons_succ] at ho hu
        have e1 : stT (fun j => decide (j < i + 1)) (o :: r) (Tr.skip :: tr) 0 T = stT (fun j => decide (j < i)) r tr 0 (setT T o.dst undefA) := by
          simp only [stT]
          rw [stT_shift]
          simp [Tr.skip]
        have e2 : stM (fun j => decide (j < i + 1)) (Tr.skip :: tr) 0 M = stM (fun j => decide (j < i)) tr 0 M := by
          simp only [stM]
          rw [stM_shift]
          simp [Tr.skip, puts]
        rw [e1, e2]
        have := h5 i o' u ho hu
        simp only [nextN, Bool.true_or, cond_true] at this
        rw [show N + (i + 1) = N + 1 + i from by omega]
        exact this
def Edged (ops : List Oper) (j i : Nat) : Prop := ∃ o, ops[j]? = some o ∧ ∃ e ∈ o.after.toList, Region.binds .any e = true ∧ e.on = i
theorem foldl_bits (acc : List Nat) : ∀ (es : List Edge) (s i : Nat), (es.foldl (fun s e => bif Region.binds .any e then s ||| (2 ^ e.on) ||| acc.getD e.on 0 else s) s).testBit i = true →
    s.testBit i = true ∨ ∃ e ∈ es, Region.binds .any e = true ∧ (e.on = i ∨ (acc.getD e.on 0).testBit i = true)
  | [], s, i, h => .inl h
  | e :: r, s, i, h => by
    simp only [List.foldl_cons] at h
    rcases foldl_bits acc r _ i h with h1 | ⟨e', he', h2⟩
    · cases hb : Region.binds .any e with
      | false => rw [hb] at h1; exact .inl h1
      | true =>
        rw [hb] at h1
        simp only [cond_true, Nat.testBit_or, Nat.testBit_two_pow, Bool.or_eq_true, decide_eq_true_eq] at h1
        rcases h1 with (h1 | h1) | h1
        · exact .inl h1
        · exact .inr ⟨e, by simp, hb, .inl h1⟩
        · exact .inr ⟨e, by simp, hb, .inr h1⟩
    · exact .inr ⟨e', by simp [he'], h2⟩
theorem edgesBack_lt : ∀ (ops : List Oper) (i : Nat), edgesBack ops i = true → ∀ j o, ops[j]? = some o → ∀ e ∈ o.after.toList, Region.binds .any e = true → e.on < i + j
  | [], _, _, _, _, ho, _, _, _ => by simp at ho
  | o0 :: r, i, h, j, o, ho, e, he, hbe => by
    simp only [edgesBack, Bool.and_eq_true] at h
    cases j with
    | zero =>
      simp only [List.getElem?_cons_zero, Option.some.injEq] at ho
      subst ho
      have := List.all_eq_true.1 h.1 e he
      simpa [hbe] using this
    | succ j =>
      have := edgesBack_lt r (i + 1) h.2 j o (by simpa using ho) e he hbe
      omega
theorem befores_spec (d : Nat → Prop) : ∀ (l pre : List Oper) (acc : List Nat), acc.length = pre.length → edgesBack (pre ++ l) 0 = true → (∀ j i, d j → Edged (pre ++ l) j i → d i) →
    (∀ j, j < acc.length → ∀ i, (acc.getD j 0).testBit i = true → (∀ k, Edged (pre ++ l) j k → d k) → d i) →
    ∀ j i, ((befores l acc).getD j 0).testBit i = true → (∀ k, Edged (pre ++ l) j k → d k) → d i
  | [], pre, acc, _, _, _, hacc, j, i, h, hk => by
    simp only [befores] at h
    rcases Nat.lt_or_ge j acc.length with h1 | h1
    · exact hacc j h1 i h hk
    · rw [List.getD_eq_getElem?_getD, List.getElem?_eq_none h1] at h
      simp at h
  | o :: r, pre, acc, hl, hb, hcl, hacc, j, i, h, hk => by
    simp only [befores] at h
    have e0 : pre ++ o :: r = (pre ++ [o]) ++ r := by simp
    rw [e0] at hb hcl hacc hk
    refine befores_spec d r (pre ++ [o]) _ (by simp [hl]) hb hcl ?_ j i h hk
    intro j' hj' i' hi' hk'
    simp only [List.length_append, List.length_singleton] at hj'
    by_cases hlt : j' < acc.length
    · refine hacc j' hlt i' ?_ hk'
      rw [List.getD_eq_getElem?_getD, List.getElem?_append_left hlt] at hi'
      rw [List.getD_eq_getElem?_getD]
      exact hi'
    · have hj : j' = acc.length := by omega
      subst hj
      rw [List.getD_eq_getElem?_getD, List.getElem?_append_right (Nat.le_refl _)] at hi'
      simp only [Nat.sub_self, List.getElem?_cons_zero, Option.getD_some] at hi'
      rcases foldl_bits acc o.after.toList 0 i' hi' with h1 | ⟨e, he, hbe, h2⟩
      · simp at h1
      · have ho : (pre ++ [o] ++ r)[acc.length]? = some o := by rw [hl]; simp
        have hed : Edged (pre ++ [o] ++ r) acc.length e.on := ⟨o, ho, e, he, hbe, rfl⟩
        have hde := hk' _ hed
        rcases h2 with h2 | h2
        · rw [← h2]; exact hde
        · have hlt' : e.on < acc.length := by have := edgesBack_lt _ 0 hb acc.length o ho e he hbe; omega
          exact hacc e.on hlt' i' h2 fun k hek => hcl e.on k hde hek
theorem TRel.congr {σ : Sg} {T T' : TS} {a : Act} (h : TRel σ T a) (hl : T'.length = T.length) (hv : ∀ t, tget T' t = tget T t) : TRel σ T' a :=
  ⟨hl.trans h.len, fun t => by rw [hv]; exact h.val t, h.df⟩
theorem memD_iff {l : List Nat} {x : Nat} : memD l x = true ↔ x ∈ l := by simp [memD]
theorem meetsL_false {l r : List Nat} (h : meetsL l r = false) : ∀ x ∈ l, x ∉ r := by
  intro x hx hr
  have : meetsL l r = true := List.any_eq_true.2 ⟨x, hx, memD_iff.2 hr⟩
  rw [h] at this
  cases this
theorem freeT_spec {ops : List Oper} {x y : Oper} (h : freeT ops x y = true) :
    (∀ d, x.dst = some d → d ∉ looksOf ops y) ∧ (∀ d, x.dst = some d → y.dst ≠ some d) ∧ (∀ d, y.dst = some d → d ∉ looksOf ops x) := by
  simp only [freeT, Bool.and_eq_true] at h
  obtain ⟨h1, h2⟩ := h
  refine ⟨fun d hd => ?_, fun d hd e => ?_, fun d hd => ?_⟩
  · rw [hd] at h1
    simp only [Bool.and_eq_true, Bool.not_eq_true'] at h1
    intro hm
    rw [memD_iff.2 hm] at h1
    exact absurd h1.1 (by simp)
  · rw [hd, e] at h1
    simp at h1
  · rw [hd] at h2
    simp only [Bool.not_eq_true'] at h2
    intro hm
    rw [memD_iff.2 hm] at h2
    cases h2
theorem freeM_spec {x y : Tr} (h : freeM x y = true) : (∀ p ∈ x.ss, p.1 ∉ y.rd) ∧ (∀ p ∈ x.ss, ∀ q ∈ y.ss, p.1 ≠ q.1) ∧ (∀ q ∈ y.ss, q.1 ∉ x.rd) := by
  simp only [freeM, Bool.and_eq_true, Bool.not_eq_true'] at h
  obtain ⟨h1, h2⟩ := h
  refine ⟨fun p hp hm => ?_, fun p hp q hq e => ?_, fun q hq hm => ?_⟩
  · exact meetsL_false h1 p.1 (List.mem_map.2 ⟨p, hp, rfl⟩) (by simp [hm])
  · exact meetsL_false h1 p.1 (List.mem_map.2 ⟨p, hp, rfl⟩) (by simp only [List.mem_append, List.mem_map]; exact .inr ⟨q, hq, e.symm⟩)
  · exact meetsL_false h2 q.1 (List.mem_map.2 ⟨q, hq, rfl⟩) hm
theorem count_set_true : ∀ (l : List Bool) (i : Nat), l[i]? = some false → (l.set i true).count false + 1 = l.count false
  | [], i, h => by simp at h
  | b :: r, 0, h => by
    simp only [List.getElem?_cons_zero, Option.some.injEq] at h
    subst h
    simp
  | b :: r, i + 1, h => by
    have := count_set_true r i (by simpa using h)
    simp only [List.set_cons_succ, List.count_cons]
    omega
theorem noNew_spec : ∀ (tr : List Tr) (N : Nat), noNew N tr = true → ∀ (i : Nat) u, tr[i]? = some u → (∃ p ∈ u.ss, p.1 = N + i) → False
  | [], _, _, i, u, hu, _ => by simp at hu
  | v :: r, N, h, 0, u, hu, ⟨p, hp, e⟩ => by
    simp only [List.getElem?_cons_zero, Option.some.injEq] at hu
    subst hu
    simp only [noNew, Bool.and_eq_true, Bool.not_eq_true', List.any_eq_false, beq_iff_eq] at h
    exact h.1 p hp (by simpa using e)
  | v :: r, N, h, i + 1, u, hu, ⟨p, hp, e⟩ => by
    simp only [noNew, Bool.and_eq_true] at h
    exact noNew_spec r (N + 1) h.2 i u (by simpa using hu) ⟨p, hp, by omega⟩
theorem quietT_ss : ∀ {tr : List Tr}, quietT tr = true → ∀ u ∈ tr, u.ss = []
  | [], _, _, h => by cases h
  | u :: r, h, v, hv => by
    unfold quietT at h
    split at h
    · rename_i e
      rcases List.mem_cons.1 hv with rfl | hv
      · exact e
      · exact quietT_ss h v hv
    · cases h
theorem draw_any (hEQ : ∀ t, t ∈ EQ.eq → EqOK P t) {ops : Array Oper} {w0 : World} {W : Nat → Prop} (hG : Glob G gb W w0) {Q : Exit → Act → World → Prop} {T T' : TS} {M M' : List Blk} {N N' : Nat} {tr : List Tr}
    (h : Trace P G gb EQ true ops.toList ops.toList T M N tr T' M' N') (hd : drawOk ops.toList tr = true) {σ : Sg} {a : Act} {w : World} (hT : TRel σ T a) (hM : MRel w0 W σ M w) (hN : ∀ b, N ≤ b → σ b = none)
    (hQ : ∀ τ a' w', σ.le τ → TRel τ T' a' → MRel w0 W τ M' w' → (∀ b, endN N N' tr ≤ b → τ b = none) → Q .normal a' w') : wpAny P .any ops Q ops.size (Array.replicate ops.size false) a { w with drawn := w.drawn + 1 } := by
  obtain ⟨hlen, hN', hT', hM', hat⟩ := trace_at h
  simp only [drawOk, Bool.and_eq_true] at hd
  obtain ⟨hback, hpairs⟩ := hd
  have hpair : ∀ i j x y t u, i < j → ops.toList[i]? = some x → ops.toList[j]? = some y → tr[i]? = some t → tr[j]? = some u →
      ((befores ops.toList []).getD j 0).testBit i = true ∨ (freeT ops.toList x y = true ∧ freeM t u = true) := by
    intro i j x y t u hij hx hy ht hu
    have hj : j < ops.toList.length := (List.getElem?_eq_some_iff.1 hy).1
    simp only [Bool.or_eq_true, Bool.and_eq_true] at hpairs
    rcases hpairs with ⟨hq, hpairs⟩ | hpairs
    · have := List.all_eq_true.1 (List.all_eq_true.1 hpairs j (List.mem_range.2 hj)) i (List.mem_range.2 hij)
      rw [hx, hy] at this
      have e1 := quietT_ss hq t (List.mem_of_getElem? ht)
      have e2 := quietT_ss hq u (List.mem_of_getElem? hu)
      have hf : freeM t u = true := by unfold freeM; rw [e1, e2]; rfl
      rw [hf]
      simpa using this
    · have := List.all_eq_true.1 (List.all_eq_true.1 hpairs j (List.mem_range.2 hj)) i (List.mem_range.2 hij)
      rw [hx, hy, ht, hu] at this
      simpa using this
  have hedge : ∀ (j : Nat) (o : Oper), ops.toList[j]? = some o → ∀ e ∈ o.after.toList, Region.binds .any e = true → e.on < j := fun j o ho e he hbe => by
    have := edgesBack_lt _ 0 hback j o ho e he hbe
    omega
  have hge : ∀ b, endN N N' tr ≤ b → N ≤ b := by
    intro b hb
    unfold endN at hb
    cases hn : noNew N tr <;> simp only [hn, cond_true, cond_false] at hb <;> omega
  have hend : ∀ b, endN N N' tr ≤ b → ∀ i u, tr[i]? = some u → (∃ p ∈ u.ss, p.1 = N + i) → b ≠ N + i := by
    intro b hb i u hu hp
    unfold endN at hb
    cases hn : noNew N tr with
    | true => exact (noNew_spec tr N hn i u hu hp).elim
    | false =>
      simp only [hn, cond_false] at hb
      have := (List.getElem?_eq_some_iff.1 hu).1
      have hsz' : ops.toList.length = ops.size := by simp
      omega
  -- the invariant
  have main : ∀ (fuel : Nat) (listed : Array Bool) (τ : Sg) (a' : Act) (w' : World), listed.size = ops.size → listed.toList.count false ≤ fuel →
      (∀ j i, listed.getD j false = true → Edged ops.toList j i → listed.getD i false = true) → σ.le τ →
      TRel τ (stT (fun j => listed.getD j false) ops.toList tr 0 T) a' → MRel w0 W τ (stM (fun j => listed.getD j false) tr 0 M) w' →
      (∀ b, N ≤ b → (∀ i u, listed.getD i false = true → tr[i]? = some u → (∃ p ∈ u.ss, p.1 = N + i) → b ≠ N + i) → τ b = none) → wpAny P .any ops Q fuel listed a' w' := by
    intro fuel
    induction fuel with
    | zero =>
      intro listed τ a' w' hsz hcnt hcl hle hTa hMa hfr
      have hall : ∀ j, j < ops.size → listed.getD j false = true := by
        intro j hj
        have h0 : listed.toList.count false = 0 := by omega
        have hnm := List.count_eq_zero.1 h0
        have hj' : j < listed.size := by omega
        rw [Array.getD_eq_getD_getElem?, Array.getElem?_eq_getElem hj']
        simp only [Option.getD_some]
        cases hv : listed[j] with
        | true => rfl
        | false => exact absurd (by rw [← hv]; exact Array.mem_toList_iff.2 (Array.getElem_mem hj')) hnm
      refine ⟨?_, ?_⟩
      · apply List.eq_nil_iff_forall_not_mem.2
        intro j hj
        obtain ⟨h1, o, ho, _⟩ := mem_ready.1 hj
        have hj' : j < ops.size := (Array.getElem?_eq_some_iff.1 ho).1
        have h2 := hall j hj'
        have hj2 : j < listed.size := by omega
        rw [Array.getD_eq_getD_getElem?, Array.getElem?_eq_getElem hj2] at h1 h2
        simp only [Option.getD_some] at h1 h2
        rw [h1] at h2
        cases h2
      · refine hQ τ a' w' hle (hTa.congr ?_ fun t => ?_) (hMa.congr fun b => .inl ?_) fun b hb => hfr b (hge b hb) fun i u _ hu hp => hend b hb i u hu hp
        · rw [hT', length_stT, length_stT]
        · rw [hT']
          refine stT_congr _ _ 0 _ _ rfl rfl fun j o ho _ => ?_
          rw [Nat.zero_add]
          exact (hall j (by have := (List.getElem?_eq_some_iff.1 ho).1; simpa using this)).symm
        · rw [hM']
          refine stM_congr _ 0 _ _ rfl fun j u hu _ => ?_
          rw [Nat.zero_add]
          exact (hall j (by have := (List.getElem?_eq_some_iff.1 hu).1; rw [hlen] at this; simpa using this)).symm
    | succ fuel ih =>
      intro listed τ a' w' hsz hcnt hcl hle hTa hMa hfr
      refine ⟨fun hnil => ?_, fun i hi => ?_⟩
      · -- nothing is ready: all have run
        have hall : ∀ j, j < ops.size → listed.getD j false = true := by
          intro j
          induction j using Nat.strongRecOn with
          | _ j ihj =>
            intro hj
            cases hv : listed.getD j false with
            | true => rfl
            | false =>
              exfalso
              have hj2 : j < listed.size := by omega
              have ho : ops[j]? = some ops[j] := Array.getElem?_eq_getElem hj
              have : j ∈ Region.ready .any ops listed := mem_ready.2 ⟨by rw [Array.getD_eq_getD_getElem?, Array.getElem?_eq_getElem hj2] at hv ⊢; exact hv, ops[j], ho, fun e he hbe => by
                have hlt := hedge j ops[j] (by rw [Array.getElem?_toList]; exact ho) e (by simpa using he) hbe
                exact ihj e.on hlt (by omega)⟩
              rw [hnil] at this
              cases this
        refine hQ τ a' w' hle (hTa.congr ?_ fun t => ?_) (hMa.congr fun b => .inl ?_) fun b hb => hfr b (hge b hb) fun i u _ hu hp => hend b hb i u hu hp
        · rw [hT', length_stT, length_stT]
        · rw [hT']
          refine stT_congr _ _ 0 _ _ rfl rfl fun j o ho _ => ?_
          rw [Nat.zero_add]
          exact (hall j (by have := (List.getElem?_eq_some_iff.1 ho).1; simpa using this)).symm
        · rw [hM']
          refine stM_congr _ 0 _ _ rfl fun j u hu _ => ?_
          rw [Nat.zero_add]
          exact (hall j (by have := (List.getElem?_eq_some_iff.1 hu).1; rw [hlen] at this; simpa using this)).symm
      · -- operation i runs next
        obtain ⟨hun, o, ho, hpre⟩ := mem_ready.1 hi
        have hi' : i < ops.size := (Array.getElem?_eq_some_iff.1 ho).1
        have hil : i < listed.size := by omega
        have hol : ops.toList[i]? = some o := by rw [Array.getElem?_toList]; exact ho
        have hdi : listed.getD i false = false := by
          rw [Array.getD_eq_getD_getElem?, Array.getElem?_eq_getElem hil] at hun ⊢
          exact hun
        obtain ⟨u, hu⟩ : ∃ u, tr[i]? = some u := ⟨tr[i]'(by rw [hlen]; simpa using hi'), List.getElem?_eq_getElem _⟩
        have hbefi : ∀ j, ((befores ops.toList []).getD i 0).testBit j = true → listed.getD j false = true := by
          intro j hj
          refine befores_spec (fun j => listed.getD j false = true) ops.toList [] [] rfl hback (fun j i h1 h2 => hcl j i h1 h2) (fun j hj => by simp at hj) i j hj fun k hk => ?_
          obtain ⟨o', ho', e, he, hb, rfl⟩ := hk
          rw [List.nil_append, hol] at ho'
          cases ho'
          exact hpre e (by simpa using he) hb
        have hbefj : ∀ j, listed.getD j false = true → ((befores ops.toList []).getD j 0).testBit i = true → False := by
          intro j hj hb
          have := befores_spec (fun j => listed.getD j false = true) ops.toList [] [] rfl hback (fun j i h1 h2 => hcl j i h1 h2) (fun j hj => by simp at hj) j i hb fun k hk => hcl j k hj hk
          rw [hdi] at this
          cases this
        -- slots and blocks that it looks at are as in the text's order
        have agT : ∀ t ∈ looksOf ops.toList o, tget (stT (fun j => listed.getD j false) ops.toList tr 0 T) t = tget (stT (fun j => decide (j < i)) ops.toList tr 0 T) t := by
          intro t ht
          refine stT_congr _ _ 0 _ _ rfl rfl fun j o' ho' hdst => ?_
          rw [Nat.zero_add]
          obtain ⟨u', hu'⟩ : ∃ u', tr[j]? = some u' := ⟨tr[j]'(by rw [hlen]; exact (List.getElem?_eq_some_iff.1 ho').1), List.getElem?_eq_getElem _⟩
          rcases Nat.lt_trichotomy j i with hji | hji | hji
          · rw [decide_eq_true hji]
            rcases hpair j i o' o u' u hji ho' hol hu' hu with hb | ⟨hf, _⟩
            · exact hbefi j hb
            · exact absurd ht ((freeT_spec hf).1 t hdst)
          · subst hji
            rw [hdi]
            simp
          · rw [decide_eq_false (by omega)]
            cases hv : listed.getD j false with
            | false => rfl
            | true =>
              rcases hpair i j o o' u u' hji hol ho' hu hu' with hb | ⟨hf, _⟩
              · exact (hbefj j hv hb).elim
              · exact absurd ht ((freeT_spec hf).2.2 t hdst)
        have agM : ∀ b ∈ u.rd, mget (stM (fun j => listed.getD j false) tr 0 M) b = mget (stM (fun j => decide (j < i)) tr 0 M) b := by
          intro b hbr
          refine stM_congr _ 0 _ _ rfl fun j u' hu' hp => ?_
          rw [Nat.zero_add]
          obtain ⟨p, hp1, rfl⟩ := hp
          obtain ⟨o', ho'⟩ : ∃ o', ops.toList[j]? = some o' := ⟨ops.toList[j]'(by rw [← hlen]; exact (List.getElem?_eq_some_iff.1 hu').1), List.getElem?_eq_getElem _⟩
          rcases Nat.lt_trichotomy j i with hji | hji | hji
          · rw [decide_eq_true hji]
            rcases hpair j i o' o u' u hji ho' hol hu' hu with hb | ⟨_, hf⟩
            · exact hbefi j hb
            · exact absurd hbr ((freeM_spec hf).1 p hp1)
          · subst hji
            rw [hdi]
            simp
          · rw [decide_eq_false (by omega)]
            cases hv : listed.getD j false with
            | false => rfl
            | true =>
              rcases hpair i j o o' u u' hji hol ho' hu hu' with hb | ⟨_, hf⟩
              · exact (hbefj j hv hb).elim
              · exact absurd hbr ((freeM_spec hf).2.2 p hp1)
        -- the step
        have hset : ∀ j, (listed.setIfInBounds i true).getD j false = if j = i then true else listed.getD j false := by
          intro j
          by_cases e : j = i
          · subst e
            rw [if_pos rfl, Array.getD_eq_getD_getElem?, Array.getElem?_setIfInBounds, if_pos rfl, if_pos hil]
            rfl
          · rw [if_neg e, Array.getD_eq_getD_getElem?, Array.getD_eq_getD_getElem?, Array.getElem?_setIfInBounds, if_neg (Ne.symm e)]
        have hsz2 : (listed.setIfInBounds i true).size = ops.size := by simp [hsz]
        have hcnt2 : (listed.setIfInBounds i true).toList.count false ≤ fuel := by
          have hc := count_set_true listed.toList i (by
            rw [Array.getElem?_toList, Array.getElem?_eq_getElem hil]
            rw [Array.getD_eq_getD_getElem?, Array.getElem?_eq_getElem hil] at hdi
            simpa using hdi)
          rw [Array.toList_setIfInBounds]
          omega
        have hcl2 : ∀ j k, (listed.setIfInBounds i true).getD j false = true → Edged ops.toList j k → (listed.setIfInBounds i true).getD k false = true := by
          intro j k hj hk
          rw [hset] at hj ⊢
          split
          · rfl
          · by_cases e : j = i
            · subst e
              obtain ⟨o', ho', e', he', hb, rfl⟩ := hk
              rw [hol] at ho'
              cases ho'
              exact hpre e' (by simpa using he') hb
            · rw [if_neg e] at hj
              exact hcl j k hj hk
        have goT : ∀ t, tget (stT (fun j => (listed.setIfInBounds i true).getD j false) ops.toList tr 0 T) t = tget (setT (stT (fun j => listed.getD j false) ops.toList tr 0 T) o.dst u.val) t := by
          intro t
          refine stT_insert (k := i) _ _ 0 _ hol hu (by rw [Nat.zero_add]; exact hdi) (by rw [Nat.zero_add, hset, if_pos rfl]) (fun j hj => by rw [hset, if_neg (by omega)]) fun j o' hij ho' hdj hne => ?_
          rw [Nat.zero_add] at hdj
          obtain ⟨u', hu'⟩ : ∃ u', tr[j]? = some u' := ⟨tr[j]'(by rw [hlen]; exact (List.getElem?_eq_some_iff.1 ho').1), List.getElem?_eq_getElem _⟩
          rcases hpair i j o o' u u' hij hol ho' hu hu' with hb | ⟨hf, _⟩
          · exact (hbefj j hdj hb).elim
          · cases hdo : o.dst with
            | none => exact absurd hdo hne
            | some d => exact (freeT_spec hf).2.1 d hdo
        have goM : ∀ b, mget (stM (fun j => (listed.setIfInBounds i true).getD j false) tr 0 M) b = mget (puts (stM (fun j => listed.getD j false) tr 0 M) u.ss) b := by
          intro b
          refine stM_insert (k := i) _ 0 _ hu (by rw [Nat.zero_add]; exact hdi) (by rw [Nat.zero_add, hset, if_pos rfl]) (fun j hj => by rw [hset, if_neg (by omega)]) fun j u' hij hu' hdj p hp p' hp' => ?_
          rw [Nat.zero_add] at hdj
          obtain ⟨o', ho'⟩ : ∃ o', ops.toList[j]? = some o' := ⟨ops.toList[j]'(by rw [← hlen]; exact (List.getElem?_eq_some_iff.1 hu').1), List.getElem?_eq_getElem _⟩
          rcases hpair i j o o' u u' hij hol ho' hu hu' with hb | ⟨_, hf⟩
          · exact (hbefj j hdj hb).elim
          · exact (freeM_spec hf).2.1 p hp p' hp'
        have hlT : ∀ d, (stT d ops.toList tr 0 T).length = T.length := fun d => length_stT d _ _ _ _
        unfold wpOp
        simp only [ho]
        rcases hat i o u hol hu with ⟨hw, hr, hrd⟩ | ⟨hw, rfl⟩
        · rw [← wantA_congr agT] at hw
          rw [if_pos (wanted_of hTa hw)]
          have hcongr : opO P G EQ o (stT (fun j => decide (j < i)) ops.toList tr 0 T) (stM (fun j => decide (j < i)) tr 0 M) (N + i) = opO P G EQ o (stT (fun j => listed.getD j false) ops.toList tr 0 T) (stM (fun j => listed.getD j false) tr 0 M) (N + i) := by
            refine opO_congr (fun t ht => (agT t (by simp [looksOf, ht])).symm) fun b hb => (agM b ?_).symm
            rw [hrd]
            exact hb
          rw [hcongr] at hr
          refine .inl (opO_sound hEQ hr hTa hMa hG (hfr _ (by omega) fun j _ hj _ _ e => ?_) ?_)
          · have : j = i := by omega
            subst this
            rw [hdi] at hj
            cases hj
          · intro υ v' w'' hle' h1 h2 hv hMb
            refine ih _ υ _ _ hsz2 hcnt2 hcl2 (Sg.le_trans hle hle') (((hTa.mono hle').put o.dst hv).congr (by rw [hlT, length_setT, hlT]) goT) (hMb.congr fun b => .inl (goM b)) fun b hb hbi => ?_
            by_cases hbne : b = N + i
            · rw [hbne]
              exact h2 fun p hp e => hbi i u (by rw [hset, if_pos rfl]) hu ⟨p, hp, e⟩ hbne
            rw [h1 b hbne]
            refine hfr b hb fun j u' hj hu' hp' => hbi j u' ?_ hu' hp'
            rw [hset]
            split
            · rfl
            · exact hj
        · rw [← wantA_congr agT] at hw
          rw [if_neg (by rw [wanted_of hTa hw]; simp)]
          refine ih _ τ _ _ hsz2 hcnt2 hcl2 hle ((hTa.put o.dst (undef_rel τ)).congr (by rw [hlT, length_setT, hlT]) goT) (hMa.congr fun b => .inl (goM b)) fun b hb hbi => ?_
          refine hfr b hb fun j u' hj hu' hp' => hbi j u' ?_ hu' hp'
          rw [hset]
          split
          · rfl
          · exact hj
  refine main ops.size _ σ a _ (by simp) (by simp) ?_ (Sg.le_refl _) (hT.congr ?_ fun t => ?_) ?_ ?_
  · intro j i hj
    rw [Array.getD_eq_getD_getElem?, Array.getElem?_replicate] at hj
    split at hj <;> cases hj
  · rw [length_stT]
  · rw [stT_none _ _ _ _ _ fun j => by rw [Array.getD_eq_getD_getElem?, Array.getElem?_replicate]; split <;> rfl]
  · rw [stM_none _ _ _ _ fun j => by rw [Array.getD_eq_getD_getElem?, Array.getElem?_replicate]; split <;> rfl]
    exact ⟨fun b => (hM.blk b).of_block fun _ _ _ _ => rfl, hM.sep, hM.own, hM.kept.trans ⟨rfl, rfl, rfl, Nat.le_refl _, fun _ _ _ => rfl⟩⟩
  · intro b hb _
    exact hN b hb
theorem draw_sound (hEQ : ∀ t, t ∈ EQ.eq → EqOK P t) (hm : P.follows .mixedOrders = true) {ops : Array Oper} {w0 : World} {W : Nat → Prop} (hG : Glob G gb W w0) {Q : Exit → Act → World → Prop} {T T' : TS} {M M' : List Blk} {N N' : Nat} {tr : List Tr} {id : Nat}
    (h : Trace P G gb EQ true ops.toList ops.toList T M N tr T' M' N') (hd : drawOk ops.toList tr = true) {σ : Sg} {a : Act} {w : World} (hT : TRel σ T a) (hM : MRel w0 W σ M w) (hN : ∀ b, N ≤ b → σ b = none)
    (hQ : ∀ τ a' w', σ.le τ → TRel τ T' a' → MRel w0 W τ M' w' → (∀ b, endN N N' tr ≤ b → τ b = none) → Q .normal a' w') : (Code.region id ops true).wp P Q a w :=
  wp_region_any hm (draw_any hEQ hG h hd hT hM hN hQ)
end
end Go.Ev

namespace Go.Ev
open Go
def toExit : Ex → Exit
  | .normal => .normal
  | .exit id => .exit id
  | .ret => .ret
section
variable {P : Program} {G : Nat → Option (List D)} {gb : Nat} {EQ : Tab} {Γ : Nat → List AV → List Blk → (AV → List Blk → Ans) → Ans} {X : Nat → List AV → (AV → Ans) → Ans} {Λ : Nat → TS → List Blk → Nat → LT}
def CodeOK (P : Program) (G : Nat → Option (List D)) (gb : Nat) (c : Code) (T : TS) (M : List Blk) (N : Nat) (x : Ex) (T' : TS) (M' : List Blk) (N' : Nat) : Prop :=
  ∀ (w0 : World) (W : Nat → Prop) (σ : Sg) (a : Act) (w : World) (Q : Exit → Act → World → Prop), Glob G gb W w0 → TRel σ T a → MRel w0 W σ M w → (∀ b, N ≤ b → σ b = none) →
    (∀ τ a' w', σ.le τ → TRel τ T' a' → MRel w0 W τ M' w' → (∀ b, N' ≤ b → τ b = none) → Q (toExit x) a' w') → c.wp P Q a w
def RoundsOK (P : Program) (G : Nat → Option (List D)) (gb : Nat) (c : Code) (k : Nat) (T : TS) (M : List Blk) (N : Nat) (x : Ex) (T' : TS) (M' : List Blk) (N' : Nat) : Prop :=
  ∀ (w0 : World) (W : Nat → Prop) (σ : Sg) (a : Act) (w : World) (Q : Exit → Act → World → Prop), Glob G gb W w0 → TRel σ T a → MRel w0 W σ M w → (∀ b, N ≤ b → σ b = none) →
    (∀ τ a' w', σ.le τ → TRel τ T' a' → MRel w0 W τ M' w' → (∀ b, N' ≤ b → τ b = none) → Q (toExit x) a' w') → Code.rounds P c Q k a w
def LReach : LT → Ex → TS → List Blk → Nat → Prop
  | .no, _, _, _, _ => False
  | .st x T M N, x', T', M', N' => x' = x ∧ T' = T ∧ M' = M ∧ N' = N
  | .br b p q, x, T, M, N => (b = true ∧ LReach p x T M N) ∨ (b = false ∧ LReach q x T M N)
theorem LT.reach : ∀ (t : LT) (K : Ex → TS → List Blk → Nat → Ans) (r : Res), t.run K = some r → ∃ x T M N, LReach t x T M N ∧ K x T M N = some r
  | .no, _, _, h => by cases h
  | .st x T M N, _, _, h => ⟨x, T, M, N, ⟨rfl, rfl, rfl, rfl⟩, h⟩
  | .br b p q, K, r, h => by
    cases b with
    | true => obtain ⟨x, T, M, N, h1, h2⟩ := LT.reach p K r h; exact ⟨x, T, M, N, .inl ⟨rfl, h1⟩, h2⟩
    | false => obtain ⟨x, T, M, N, h1, h2⟩ := LT.reach q K r h; exact ⟨x, T, M, N, .inr ⟨rfl, h1⟩, h2⟩
def LOK (P : Program) (G : Nat → Option (List D)) (gb : Nat) (Λ : Nat → TS → List Blk → Nat → LT) (l : List Code) : Prop :=
  ∀ b ∈ l, ∀ T M N x T' M' N', LReach (Λ (loopKey b) T M N) x T' M' N' → x ≠ .normal ∧ ∃ k, RoundsOK P G gb b k T M N x T' M' N'
theorem evCode_sound (hEQ : ∀ t, t ∈ EQ.eq → EqOK P t) (hm : P.follows .mixedOrders = true) (hΓ : GOK P G gb Γ X) : ∀ (n : Nat) (c : Code) (T : TS) (M : List Blk) (N : Nat) (K : Ex → TS → List Blk → Nat → Ans) (r : Res), LOK P G gb Λ (loopsIn c) →
    evCode P G EQ Γ X Λ n c T M N K = some r → ∃ x T' M' N', CodeOK P G gb c T M N x T' M' N' ∧ K x T' M' N' = some r ∧
      (∀ b, c = .loop b → x ≠ .normal ∧ ∃ k, RoundsOK P G gb b k T M N x T' M' N') := by
  intro n
  induction n with
  | zero => intro c T M N K r _ h; cases h
  | succ n ih =>
    intro c T M N K r hL h
    cases c <;> simp only [evCode] at h
    case skip => exact ⟨.normal, T, M, N, fun w0 W σ a w Q hG hT hM hN hQ => wp_skip (hQ σ a w (Sg.le_refl _) hT hM hN), h, fun b e => by cases e⟩
    case region id ops draw =>
      cases draw with
      | false =>
        simp only at h
        obtain ⟨tr, T', M', N', h1, h2⟩ := evOps_trace hΓ false ops.toList _ _ _ _ _ _ _ h
        exact ⟨.normal, T', M', N', fun w0 W σ a w Q hG hT hM hN hQ => wp_region_list (trace_seq hEQ hG h1 hT hM hN hQ), h2, fun b e => by cases e⟩
      | true =>
        simp only at h
        obtain ⟨tr, T', M', N', h1, h2⟩ := evOps_trace hΓ true ops.toList _ _ _ _ _ _ _ h
        simp only [List.append_nil, List.reverse_reverse, cond_eq_ite] at h2
        split at h2
        · rename_i hd
          exact ⟨.normal, T', M', endN N N' tr, fun w0 W σ a w Q hG hT hM hN hQ => draw_sound hEQ hm hG h1 hd hT hM hN hQ, h2, fun b e => by cases e⟩
        · cases h2
    case seq x y =>
      obtain ⟨e1, T1, M1, N1, h1, h2, _⟩ := ih x T M N _ r (fun b hb => hL b (by simp [loopsIn, hb])) h
      cases e1 with
      | normal =>
        simp only at h2
        obtain ⟨e2, T2, M2, N2, h3, h4, _⟩ := ih y T1 M1 N1 K r (fun b hb => hL b (by simp [loopsIn, hb])) h2
        refine ⟨e2, T2, M2, N2, fun w0 W σ a w Q hG hT hM hN hQ => wp_seq (h1 w0 W σ a w _ hG hT hM hN fun τ a' w' hle hT' hM' hN' => ?_), h4, fun b e => by cases e⟩
        exact h3 w0 W τ a' w' Q hG hT' hM' hN' fun υ a'' w'' hle' => hQ υ a'' w'' (Sg.le_trans hle hle')
      | exit id => exact ⟨.exit id, T1, M1, N1, fun w0 W σ a w Q hG hT hM hN hQ => wp_seq (h1 w0 W σ a w _ hG hT hM hN hQ), h2, fun b e => by cases e⟩
      | ret => exact ⟨.ret, T1, M1, N1, fun w0 W σ a w Q hG hT hM hN hQ => wp_seq (h1 w0 W σ a w _ hG hT hM hN hQ), h2, fun b e => by cases e⟩
    case cond c x y =>
      split at h
      · rename_i b hb
        cases b with
        | true =>
          obtain ⟨e1, T1, M1, N1, h1, h2, _⟩ := ih x T M N K r (fun b hb => hL b (by simp [loopsIn, hb])) h
          exact ⟨e1, T1, M1, N1, fun w0 W σ a w Q hG hT hM hN hQ => wp_cond_true (opdV_rel hT hb).1 (h1 w0 W σ a w Q hG hT hM hN hQ), h2, fun b e => by cases e⟩
        | false =>
          obtain ⟨e1, T1, M1, N1, h1, h2, _⟩ := ih y T M N K r (fun b hb => hL b (by simp [loopsIn, hb])) h
          exact ⟨e1, T1, M1, N1, fun w0 W σ a w Q hG hT hM hN hQ => wp_cond_false (opdV_rel hT hb).1 (h1 w0 W σ a w Q hG hT hM hN hQ), h2, fun b e => by cases e⟩
      · cases h
    case block id b =>
      obtain ⟨e1, T1, M1, N1, h1, h2, _⟩ := ih b T M N _ r (fun b' hb => hL b' (by simp [loopsIn, hb])) h
      cases e1 with
      | normal => exact ⟨.normal, T1, M1, N1, fun w0 W σ a w Q hG hT hM hN hQ => wp_block (h1 w0 W σ a w _ hG hT hM hN hQ), h2, fun b e => by cases e⟩
      | exit id' =>
        simp only [cond_eq_ite, beq_iff_eq] at h2
        by_cases e : id' = id
        · rw [if_pos e] at h2
          exact ⟨.normal, T1, M1, N1, fun w0 W σ a w Q hG hT hM hN hQ => wp_block (h1 w0 W σ a w _ hG hT hM hN fun τ a' w' hle hT' hM' hN' => by simp only [toExit, Exit.inBlock, e, if_true]; exact hQ τ a' w' hle hT' hM' hN'), h2, fun b e => by cases e⟩
        · rw [if_neg e] at h2
          exact ⟨.exit id', T1, M1, N1, fun w0 W σ a w Q hG hT hM hN hQ => wp_block (h1 w0 W σ a w _ hG hT hM hN fun τ a' w' hle hT' hM' hN' => by simp only [toExit, Exit.inBlock, e, if_false]; exact hQ τ a' w' hle hT' hM' hN'), h2, fun b e => by cases e⟩
      | ret => exact ⟨.ret, T1, M1, N1, fun w0 W σ a w Q hG hT hM hN hQ => wp_block (h1 w0 W σ a w _ hG hT hM hN hQ), h2, fun b e => by cases e⟩
    case loop b =>
      have fin : ∀ x T' M' N', x ≠ .normal → (∃ k, RoundsOK P G gb b k T M N x T' M' N') → CodeOK P G gb (.loop b) T M N x T' M' N' := by
        rintro x T' M' N' _ ⟨k, hk⟩ w0 W σ a w Q hG hT hM hN hQ
        exact wp_loop_rounds k (hk w0 W σ a w Q hG hT hM hN hQ)
      split at h
      · rename_i hno
        obtain ⟨e1, T1, M1, N1, h1, h2, _⟩ := ih b T M N _ r (fun b' hb => hL b' (by simp [loopsIn, hb])) h
        cases e1 with
        | normal =>
          simp only at h2
          obtain ⟨e2, T2, M2, N2, _, h4, h5⟩ := ih (.loop b) T1 M1 N1 K r hL h2
          obtain ⟨hne, k, hk⟩ := h5 b rfl
          have hR : RoundsOK P G gb b (k + 1) T M N e2 T2 M2 N2 := by
            intro w0 W σ a w Q hG hT hM hN hQ
            rw [rounds_succ]
            exact h1 w0 W σ a w _ hG hT hM hN fun τ a' w' hle hT' hM' hN' => hk w0 W τ a' w' Q hG hT' hM' hN' fun υ a'' w'' hle' => hQ υ a'' w'' (Sg.le_trans hle hle')
          exact ⟨e2, T2, M2, N2, fin _ _ _ _ hne ⟨_, hR⟩, h4, fun b' e => by cases e; exact ⟨hne, _, hR⟩⟩
        | exit id =>
          have hR : RoundsOK P G gb b 1 T M N (.exit id) T1 M1 N1 := by
            intro w0 W σ a w Q hG hT hM hN hQ
            rw [rounds_succ]
            exact h1 w0 W σ a w _ hG hT hM hN hQ
          exact ⟨.exit id, T1, M1, N1, fin _ _ _ _ (by simp) ⟨_, hR⟩, h2, fun b' e => by cases e; exact ⟨by simp, _, hR⟩⟩
        | ret =>
          have hR : RoundsOK P G gb b 1 T M N .ret T1 M1 N1 := by
            intro w0 W σ a w Q hG hT hM hN hQ
            rw [rounds_succ]
            exact h1 w0 W σ a w _ hG hT hM hN hQ
          exact ⟨.ret, T1, M1, N1, fin _ _ _ _ (by simp) ⟨_, hR⟩, h2, fun b' e => by cases e; exact ⟨by simp, _, hR⟩⟩
      · obtain ⟨x, T', M', N', h1, h2⟩ := LT.reach _ _ _ h
        obtain ⟨h3, h4⟩ := hL b (by simp [loopsIn]) T M N x T' M' N' h1
        exact ⟨x, T', M', N', fin _ _ _ _ h3 h4, h2, fun b' e => by cases e; exact ⟨h3, h4⟩⟩
    case exit id => exact ⟨.exit id, T, M, N, fun w0 W σ a w Q hG hT hM hN hQ => wp_exit (hQ σ a w (Sg.le_refl _) hT hM hN), h, fun b e => by cases e⟩
    case ret => exact ⟨.ret, T, M, N, fun w0 W σ a w Q hG hT hM hN hQ => wp_ret (hQ σ a w (Sg.le_refl _) hT hM hN), h, fun b e => by cases e⟩
    all_goals cases h
theorem resD_rel {w0 : World} {W : Nat → Prop} {σ : Sg} {T : TS} {M : List Blk} {a : Act} {w : World} (hT : TRel σ T a) (hM : MRel w0 W σ M w) {rv : ResultVar} {x : V} (h : resD P T M rv = some x) :
    ∃ v, (match rv with | .tmp t => pure (a.tmps.getD t undef) | .cell b t => do loadVar t (← asAddr (a.tmps.getD b undef)) : Sem Value).run P w = .ok v w ∧ VRel σ x v := by
  cases rv with
  | tmp t =>
    simp only [resD] at h
    split at h
    · rename_i y hy
      cases h
      have := hT.val t
      rw [hy] at this
      exact ⟨_, rfl, this⟩
    · cases h
  | cell b t =>
    simp only [resD] at h
    split at h
    · rename_i c k hc
      split at h
      · rename_i t' c' hm
        split at h
        · rename_i ha
          cases h
          have := hT.val b
          rw [hc] at this
          obtain ⟨L, hL, he⟩ := this
          have hB := hM.blk c
          rw [hm] at hB
          obtain ⟨L', u, h1, h2, _, _, h5, h6⟩ := hB
          rw [hL] at h1
          cases h1
          have hcell : w.cell? ⟨L.blk, L.off + 0, none⟩ = some u := by
            rw [cell_of_heap h5, h2]
            rfl
          refine ⟨u, ?_, h6⟩
          simp only [he, asAddr, Sem.run_bind, Sem.run_pure, Result.andThen_ok, loadVar, isAgg_run ha]
          simp only [Bool.false_eq_true, if_false, load, Sem.run, hcell]
        · cases h
      split at h
      · rename_i l hl
        have := hT.val b
        rw [hc] at this
        obtain ⟨L, hL, he⟩ := this
        obtain ⟨L', hL', hlok, hcell⟩ := (hM.blk c).cell hl
        rw [hL] at hL'
        cases hL'
        obtain ⟨v', hrun, hv⟩ := loadVar_run (σ := σ) h hlok L.off hcell
        refine ⟨v', ?_, hv⟩
        simp only [he, asAddr, Sem.run_bind, Sem.run_pure, Result.andThen_ok, hrun]
      · cases h
    · cases h
theorem resDs_rel {w0 : World} {W : Nat → Prop} {σ : Sg} {T : TS} {M : List Blk} {a : Act} {w : World} (hT : TRel σ T a) (hM : MRel w0 W σ M w) : ∀ {rs : List ResultVar} {xs : List V}, resDs P T M rs = some xs →
    ∃ vs, (rs.mapM fun rv => (match rv with | .tmp t => pure (a.tmps.getD t undef) | .cell b t => do loadVar t (← asAddr (a.tmps.getD b undef)) : Sem Value)).run P w = .ok vs w ∧ VRels σ xs vs
  | [], xs, h => by simp only [resDs, Option.some.injEq] at h; subst h; exact ⟨[], rfl, trivial⟩
  | rv :: r, xs, h => by
    simp only [resDs] at h
    split at h
    · rename_i x l h1 h2
      cases h
      obtain ⟨v, hv1, hv2⟩ := resD_rel hT hM h1
      obtain ⟨vs, hvs1, hvs2⟩ := resDs_rel hT hM h2
      refine ⟨v :: vs, ?_, hv2, hvs2⟩
      rw [List.mapM_cons, Sem.run_bind, hv1]
      simp only [Result.andThen_ok, Sem.run_bind, hvs1, Sem.run_pure]
    · cases h
theorem results_rel {w0 : World} {W : Nat → Prop} {σ : Sg} {T : TS} {M : List Blk} {a : Act} {w : World} (hT : TRel σ T a) (hM : MRel w0 W σ M w) {fn : Func} {xs : List V} (h : resDs P T M fn.results.toList = some xs) :
    ∃ v, (results fn a.tmps).run P w = .ok v w ∧ AVRel σ (tupD xs) v := by
  obtain ⟨vs, h1, h2⟩ := resDs_rel hT hM h
  refine ⟨if hh : vs.toArray.size = 1 then vs.toArray[0] else .tuple vs.toArray, ?_, ?_⟩
  · unfold results
    rw [Array.mapM_eq_mapM_toList, map_eq_pure_bind]
    simp only [Sem.run_bind]
    refine Eq.trans (congrArg (fun r : Result (List Value) => (r.andThen fun a w' => Sem.run P (pure a.toArray) w').andThen fun a w' => Sem.run P (pure (if h : a.size = 1 then a[0] else Value.tuple a)) w') h1) ?_
    simp only [Result.andThen_ok, Sem.run_pure]
  · match xs, vs, h2 with
    | [], [], _ => exact ⟨#[], rfl, trivial⟩
    | [x], [v], ⟨h3, _⟩ => exact h3
    | x :: y :: r, v :: u :: s, hh =>
      rw [dif_neg (by simp)]
      exact ⟨_, rfl, hh⟩
theorem numA_find : ∀ (l : List AV) (i t : Nat), tfind undefA (numA i l) (i + t) = l.getD t undefA
  | [], _, _ => by simp [numA, tfind]
  | x :: r, i, 0 => by simp [numA, tfind]
  | x :: r, i, t + 1 => by
    have : Nat.beq i (i + (t + 1)) = false := by
      cases hb : Nat.beq i (i + (t + 1)) with
      | false => rfl
      | true => have := Nat.eq_of_beq_eq_true hb; omega
    rw [numA, tfind]
    simp only [this, cond_false]
    rw [show i + (t + 1) = (i + 1) + t by omega, numA_find r (i + 1) t]
    simp
theorem frame_get (l : List AV) (k t : Nat) : tget (frameT l k) t = l.getD t undefA := by
  have := numA_find l 0 t
  rw [Nat.zero_add] at this
  exact this
theorem enter_rel {σ : Sg} : ∀ {as : List AV} {vs : List Value} (n : Nat), AVRels σ as vs → ∀ t, AVRel σ (as.getD t undefA) ((vs ++ List.replicate n undef).getD t undef)
  | [], [], n, _, t => by
    simp only [List.nil_append]
    have : (List.replicate n undef).getD t undef = undef := by
      rw [List.getD_eq_getElem?_getD, List.getElem?_replicate]
      split <;> rfl
    rw [this]
    exact undef_rel σ
  | _ :: _, _ :: _, n, ⟨h1, h2⟩, t => by
    cases t with
    | zero => exact h1
    | succ t => exact enter_rel n h2 t
  | [], _ :: _, _, hh, _ => hh.elim
  | _ :: _, [], _, hh, _ => hh.elim
theorem evFn_sound (hEQ : ∀ t, t ∈ EQ.eq → EqOK P t) (hm : P.follows .mixedOrders = true) (hΓ : GOK P G gb Γ X) {n f : Nat} {as : List AV} {bs : List Blk} {K : AV → List Blk → Ans} {r : Res}
    (hL : ∀ fn c, P.funcs[f]? = some fn → fn.body = some c → LOK P G gb Λ (loopsIn c)) (h : evFn P G EQ Γ X Λ n f as bs K = some r) : ∃ v M, CallsA P G gb f as bs v M ∧ K v M = some r := by
  unfold evFn at h
  split at h
  · cases h
  · rename_i fn hf
    split at h
    · cases h
    · rename_i c hc
      obtain ⟨x, T, M, N, h1, h2, _⟩ := evCode_sound hEQ hm hΓ _ _ _ _ _ _ _ (hL fn c hf hc) h
      have body : ∀ xs, resDs P T M fn.results.toList = some xs → (x = .normal ∨ x = .ret) → CallsA P G gb f as bs (tupD xs) M := by
        intro xs hxs hx σ w args hargs hMr hGl hfr
        refine calls_of_wp hf hc ?_
        refine h1 w (Wof σ bs) σ _ w _ hGl ?_ hMr hfr ?_
        · have hl := hargs.length
          refine ⟨?_, fun t => ?_, rfl⟩
          · simp [frameT, TS.length, hl]
          · have := enter_rel (fn.ntmps - as.length) hargs t
            rw [frame_get]
            rw [show fn.ntmps - as.length = fn.ntmps - args.size from by rw [hl]; simp] at this
            rw [Array.getD_eq_getD_getElem?]
            rw [List.getD_eq_getElem?_getD] at this
            rw [← Array.getElem?_toList, Array.toList_append, Array.toList_replicate]
            exact this
        · intro τ a' w' hle hT' hM' _
          obtain ⟨v, hv1, hv2⟩ := results_rel hT' hM' hxs
          rcases hx with rfl | rfl
          · exact ⟨hT'.df, v, hv1, v, τ, rfl, hle, hv2, hM'⟩
          · exact ⟨hT'.df, v, hv1, v, τ, rfl, hle, hv2, hM'⟩
      cases x with
      | exit id => cases h2
      | normal =>
        simp only at h2
        split at h2
        · rename_i xs hxs
          exact ⟨_, M, body xs hxs (.inl rfl), h2⟩
        · cases h2
      | ret =>
        simp only at h2
        split at h2
        · rename_i xs hxs
          exact ⟨_, M, body xs hxs (.inr rfl), h2⟩
        · cases h2
theorem CallsA.drop {f : Nat} {as : List AV} {bs M M' : List Blk} {v : AV} (h : CallsA P G gb f as bs v M) (he : ∀ b, mget M' b = mget M b ∨ mget M' b = .dead) : CallsA P G gb f as bs v M' :=
  fun σ w args h1 h2 h3 h4 => (h σ w args h1 h2 h3 h4).mono fun _ _ ⟨v', τ, h5, h6, h7, h8⟩ => ⟨v', τ, h5, h6, h7, h8.congr he⟩
def upd (Γ : Nat → List AV → List Blk → (AV → List Blk → Ans) → Ans) (f : Nat) (s : List AV → List Blk → (AV → List Blk → Ans) → Ans) : Nat → List AV → List Blk → (AV → List Blk → Ans) → Ans :=
  fun g as bs K => bif g == f then s as bs K else Γ g as bs K
theorem GOK.upd (hΓ : GOK P G gb Γ X) {f : Nat} (hent : Enters P f) {s : List AV → List Blk → (AV → List Blk → Ans) → Ans} (h : ∀ as bs K r, s as bs K = some r → ∃ v M, CallsA P G gb f as bs v M ∧ K v M = some r) : GOK P G gb (upd Γ f s) X := by
  refine ⟨fun g as bs K r hr => ?_, hΓ.ext⟩
  unfold Ev.upd at hr
  simp only [cond_eq_ite, beq_iff_eq] at hr
  split at hr
  · rename_i e
    subst e
    obtain ⟨v, M, h1, h2⟩ := h as bs K r hr
    exact ⟨v, M, hent, h1, h2⟩
  · exact hΓ.call g as bs K r hr
theorem GOK.fnL (hΓ : GOK P G gb Γ X) (hEQ : ∀ t, t ∈ EQ.eq → EqOK P t) (hm : P.follows .mixedOrders = true) {f : Nat} (hent : Enters P f) (hL : ∀ fn c, P.funcs[f]? = some fn → fn.body = some c → LOK P G gb Λ (loopsIn c)) {s : List AV → List Blk → (AV → List Blk → Ans) → Ans}
    (h : ∀ as bs K r, s as bs K = some r → ∃ n, evFn P G EQ Γ X Λ n f as bs (fun v M => K v (M.take bs.length)) = some r) : GOK P G gb (Ev.upd Γ f s) X := by
  refine hΓ.upd hent fun as bs K r hr => ?_
  obtain ⟨n, hn⟩ := h as bs K r hr
  obtain ⟨v, M, h1, h2⟩ := evFn_sound hEQ hm hΓ hL hn
  refine ⟨v, M.take bs.length, h1.drop fun b => ?_, h2⟩
  rw [mget, mget, gets_eq, gets_eq, List.getD_eq_getElem?_getD, List.getElem?_take]
  split
  · exact .inl (by rw [List.getD_eq_getElem?_getD])
  · exact .inr rfl
def noL : Nat → TS → List Blk → Nat → LT := fun _ _ _ _ => .no
theorem noL_ok (l : List Code) : LOK P G gb noL l := fun _ _ _ _ _ _ _ _ _ h => h.elim
theorem GOK.fn (hΓ : GOK P G gb Γ X) (hEQ : ∀ t, t ∈ EQ.eq → EqOK P t) (hm : P.follows .mixedOrders = true) {f : Nat} (hent : Enters P f) {s : List AV → List Blk → (AV → List Blk → Ans) → Ans}
    (h : ∀ as bs K r, s as bs K = some r → ∃ n, evFn P G EQ Γ X noL n f as bs (fun v M => K v (M.take bs.length)) = some r) : GOK P G gb (Ev.upd Γ f s) X :=
  hΓ.fnL hEQ hm hent (fun _ _ _ _ => noL_ok _) h
def inl (P : Program) (G : Nat → Option (List D)) (EQ : Tab) (X : Nat → List AV → (AV → Ans) → Ans) (fs : List Nat) (Γ : Nat → List AV → List Blk → (AV → List Blk → Ans) → Ans) (fuel : Nat) : Nat → Nat → List AV → List Blk → (AV → List Blk → Ans) → Ans
  | 0 => Γ
  | d + 1 => fun f xs bs K => bif fs.contains f then evFn P G EQ (inl P G EQ X fs Γ fuel d) X noL fuel f xs bs K else Γ f xs bs K
theorem GOK.inl (hΓ : GOK P G gb Γ X) (hEQ : ∀ t, t ∈ EQ.eq → EqOK P t) (hm : P.follows .mixedOrders = true) {fs : List Nat} (hent : ∀ f ∈ fs, Enters P f) (fuel : Nat) : ∀ d, GOK P G gb (Ev.inl P G EQ X fs Γ fuel d) X
  | 0 => hΓ
  | d + 1 => by
    refine ⟨fun f as bs K r h => ?_, hΓ.ext⟩
    simp only [Ev.inl, cond_eq_ite] at h
    split at h
    · rename_i hf
      obtain ⟨v, M, h1, h2⟩ := evFn_sound hEQ hm (GOK.inl hΓ hEQ hm hent fuel d) (fun _ _ _ _ => noL_ok _) h
      exact ⟨v, M, hent f (by simpa using hf), h1, h2⟩
    · exact hΓ.call f as bs K r h
def Less (T U : TS) : Prop := T.length = U.length ∧ ∀ t, tget T t = tget U t ∨ tget T t = .any
theorem Less.length {T U : TS} (h : Less T U) : T.length = U.length := h.1
theorem Less.get {T U : TS} (h : Less T U) (t : Nat) : tget T t = tget U t ∨ tget T t = .any := h.2 t
theorem TRel.less {σ : Sg} {T U : TS} {a : Act} (h : TRel σ U a) (hl : Less T U) : TRel σ T a :=
  ⟨hl.length.trans h.len, fun t => by rcases hl.get t with e | e; rw [e]; exact h.val t; rw [e]; trivial, h.df⟩
theorem RoundsOK.last (hEQ : ∀ t, t ∈ EQ.eq → EqOK P t) (hm : P.follows .mixedOrders = true) (hΓ : GOK P G gb Γ X) {n : Nat} {b : Code} {T T1 : TS} {M M1 : List Blk} {N N1 : Nat} {x : Ex} (hL : LOK P G gb Λ (loopsIn b))
    (h : evCode P G EQ Γ X Λ n b T M N (fun x T M N => some (.st x T M N)) = some (.st x T1 M1 N1)) (hx : x ≠ .normal) {T2 : TS} {N2 : Nat} {M2 : List Blk} (hl : Less T2 T1) (hM2 : ∀ b, mget M2 b = mget M1 b ∨ mget M2 b = .dead) (hN2 : N1 ≤ N2) : RoundsOK P G gb b 1 T M N x T2 M2 N2 := by
  obtain ⟨x', T', M', N', h1, h2, _⟩ := evCode_sound hEQ hm hΓ n b T M N _ _ hL h
  cases h2
  intro w0 W σ a w Q hG hT hM hN hQ
  rw [rounds_succ]
  refine h1 w0 W σ a w _ hG hT hM hN fun τ a' w' hle hT' hM' hN' => ?_
  have := hQ τ a' w' hle (hT'.less hl) (hM'.congr hM2) (fun b hb => hN' b (by omega))
  cases x with
  | normal => exact absurd rfl hx
  | exit id => exact this
  | ret => exact this
theorem RoundsOK.step (hEQ : ∀ t, t ∈ EQ.eq → EqOK P t) (hm : P.follows .mixedOrders = true) (hΓ : GOK P G gb Γ X) {n k : Nat} {b : Code} {T T1 T2 T' : TS} {M M1 M2 M' : List Blk} {N N1 N2 N' : Nat} {x : Ex} (hL : LOK P G gb Λ (loopsIn b))
    (h : evCode P G EQ Γ X Λ n b T M N (fun x T M N => some (.st x T M N)) = some (.st .normal T1 M1 N1)) (hl : Less T2 T1) (hM2 : ∀ b, mget M2 b = mget M1 b ∨ mget M2 b = .dead) (hN2 : N1 ≤ N2) (hk : RoundsOK P G gb b k T2 M2 N2 x T' M' N') : RoundsOK P G gb b (k + 1) T M N x T' M' N' := by
  obtain ⟨x', T3, M3, N3, h1, h2, _⟩ := evCode_sound hEQ hm hΓ n b T M N _ _ hL h
  cases h2
  intro w0 W σ a w Q hG hT hM hN hQ
  rw [rounds_succ]
  exact h1 w0 W σ a w _ hG hT hM hN fun τ a' w' hle hT' hM' hN' => hk w0 W τ a' w' Q hG (hT'.less hl) (hM'.congr hM2) (fun b hb => hN' b (by omega)) fun υ a'' w'' hle' => hQ υ a'' w'' (Sg.le_trans hle hle')
theorem RoundsOK.less {k : Nat} {b : Code} {T T1 T' : TS} {M M' : List Blk} {N N' : Nat} {x : Ex} (h : RoundsOK P G gb b k T M N x T' M' N') (hl : Less T T1) : RoundsOK P G gb b k T1 M N x T' M' N' :=
  fun w0 W σ a w Q hG hT hM hN hQ => h w0 W σ a w Q hG (hT.less hl) hM hN hQ
theorem GOK.none (hext : ∀ f as K r, X f as K = some r → ∃ v, ExtA P f as v ∧ K v = some r) : GOK P G gb (fun _ _ _ _ => Option.none) X := ⟨(fun _ _ _ _ _ h => by cases h), hext⟩
end
end Go.Ev

namespace Go.Ev
open Go
def datas : AV → List D
  | .v (.c (.d x)) => [x]
  | .v (.agg l) => l
  | _ => []
def datasL : List AV → List D
  | [] => []
  | x :: r => datas x ++ datasL r
theorem AVRels.datas {σ : Sg} : ∀ {xs : List AV} {vs : List Value}, AVRels σ xs vs → ∀ d ∈ datasL xs, d.ok
  | [], [], _ => by simp [datasL]
  | x :: r, v :: s, ⟨h1, h2⟩ => by
    intro d hd
    simp only [datasL, List.mem_append] at hd
    rcases hd with hd | hd
    · unfold Ev.datas at hd
      split at hd
      · simp only [List.mem_singleton] at hd; subst hd; exact h1.2
      · exact h1.2 d hd
      · cases hd
    · exact AVRels.datas h2 d hd
  | [], _ :: _, hh => hh.elim
  | _ :: _, [], hh => hh.elim
theorem inR_i64 {n : Int} (h : inR .i64 n = true) : -9223372036854775808 ≤ n ∧ n ≤ 9223372036854775807 := by simpa [inR] using h
theorem inR_u64 {n : Int} (h : inR .u64 n = true) : 0 ≤ n ∧ n ≤ 18446744073709551615 := by simpa [inR] using h
section
variable {P : Program} {G : Nat → Option (List D)} {gb : Nat} {EQ : Tab} {Γ : Nat → List AV → List Blk → (AV → List Blk → Ans) → Ans} {X : Nat → List AV → (AV → Ans) → Ans} {Λ : Nat → TS → List Blk → Nat → LT}
theorem CallsA.ofOk {f : Nat} {xs : List AV} {bs M : List Blk} {v : AV} (h : (∀ d ∈ datasL xs, d.ok) → CallsA P G gb f xs bs v M) : CallsA P G gb f xs bs v M :=
  fun σ w args h1 h2 h3 h4 => h h1.datas σ w args h1 h2 h3 h4
theorem CallsA.ofEv (hΓ : GOK P G gb Γ X) (hEQ : ∀ t, t ∈ EQ.eq → EqOK P t) (hm : P.follows .mixedOrders = true) {n f : Nat} {xs : List AV} {bs M : List Blk} {v : AV}
    (hL : ∀ fn c, P.funcs[f]? = some fn → fn.body = some c → LOK P G gb Λ (loopsIn c)) (h : evFn P G EQ Γ X Λ n f xs bs (fun v M => some (.fin v (M.take bs.length))) = some (.fin v M)) : CallsA P G gb f xs bs v M := by
  obtain ⟨v', M', h1, h2⟩ := evFn_sound hEQ hm hΓ hL h
  cases h2
  refine h1.drop fun b => ?_
  rw [mget, mget, gets_eq, gets_eq, List.getD_eq_getElem?_getD, List.getElem?_take]
  split
  · exact .inl (by rw [List.getD_eq_getElem?_getD])
  · exact .inr rfl
end
end Go.Ev

namespace Go.Ev
open Go
def maskT (ks : List (Nat × AV)) (n : Nat) : TS := ⟨n, .any, ks⟩
def zipI : List (Nat × IntKind) → List Int → List (Nat × AV)
  | p :: r, x :: s => (p.1, aint p.2 x) :: zipI r s
  | _, _ => []
def mkT (live : List (Nat × IntKind)) (n : Nat) (xs : List Int) : TS := maskT (zipI live xs) n
def readI (T : TS) : List (Nat × IntKind) → Option (List Int)
  | [] => some []
  | p :: r => match tget T p.1 with
    | .v (.c (.d (.int k x))) => bif decide (k = p.2) then (match readI T r with | some l => some (x :: l) | none => none) else none
    | _ => none
theorem find_of {ks : List (Nat × AV)} {T : TS} (h : ∀ p ∈ ks, tget T p.1 = p.2) (i : Nat) : tfind .any ks i = tget T i ∨ tfind .any ks i = .any := by
  induction ks with
  | nil => exact .inr rfl
  | cons p r ih =>
    rw [tfind]
    cases hb : Nat.beq p.1 i with
    | true =>
      rw [cond_true, ← Nat.eq_of_beq_eq_true hb]
      exact .inl (h p (by simp)).symm
    | false => exact ih fun q hq => h q (by simp [hq])
theorem less_of {ks : List (Nat × AV)} {n : Nat} {T : TS} (hl : T.length = n) (h : ∀ p ∈ ks, tget T p.1 = p.2) : Less (maskT ks n) T :=
  ⟨hl.symm, fun t => find_of h t⟩
theorem readI_gets {T : TS} : ∀ {live : List (Nat × IntKind)} {xs : List Int}, readI T live = some xs → xs.length = live.length ∧ ∀ p ∈ zipI live xs, tget T p.1 = p.2
  | [], xs, h => by simp only [readI, Option.some.injEq] at h; subst h; simp [zipI]
  | p :: r, xs, h => by
    unfold readI at h
    split at h
    · rename_i k x hx
      simp only [cond_eq_ite, decide_eq_true_eq] at h
      split at h
      · rename_i ek
        split at h
        · rename_i l hl
          cases h
          obtain ⟨h1, h2⟩ := readI_gets hl
          refine ⟨by simp [h1], ?_⟩
          intro q hq
          simp only [zipI, List.mem_cons] at hq
          rcases hq with rfl | hq
          · rw [hx, ek]; rfl
          · exact h2 q hq
        · cases h
      · cases h
    · cases h
theorem less_mkT {T : TS} {live : List (Nat × IntKind)} {xs : List Int} {n : Nat} (hl : T.length = n) (h : readI T live = some xs) : Less (mkT live n xs) T :=
  less_of hl (readI_gets h).2
def keepL (T : TS) : List Nat → List (Nat × AV)
  | [] => []
  | i :: r => (i, tget T i) :: keepL T r
def forget (keep : List Nat) (T : TS) : TS := maskT (keepL T keep) T.length
theorem keepL_get {T : TS} : ∀ {keep : List Nat}, ∀ p ∈ keepL T keep, tget T p.1 = p.2
  | [], _, h => by cases h
  | i :: r, p, h => by
    rcases List.mem_cons.1 h with rfl | h
    · rfl
    · exact keepL_get p h
theorem forget_less (keep : List Nat) (T : TS) : Less (forget keep T) T := less_of rfl keepL_get
def codeOf (P : Program) (f : Nat) : Option Code := match P.funcs[f]? with | some fn => fn.body | none => none
def loopsF (P : Program) (f : Nat) : List Code := match codeOf P f with | some c => loopsIn c | none => []
def loopB (P : Program) (f i : Nat) : Code := (loopsF P f).getD i .skip
section
variable {P : Program} {G : Nat → Option (List D)} {gb : Nat} {EQ : Tab} {Γ : Nat → List AV → List Blk → (AV → List Blk → Ans) → Ans} {X : Nat → List AV → (AV → Ans) → Ans} {Λ : Nat → TS → List Blk → Nat → LT}
def LOKb (P : Program) (G : Nat → Option (List D)) (gb : Nat) (Λ : Nat → TS → List Blk → Nat → LT) (b : Code) : Prop :=
  ∀ T M N x T' M' N', LReach (Λ (loopKey b) T M N) x T' M' N' → x ≠ .normal ∧ ∃ k, RoundsOK P G gb b k T M N x T' M' N'
theorem LOK.ofF {f : Nat} (h : ∀ b ∈ loopsF P f, LOKb P G gb Λ b) : ∀ fn c, P.funcs[f]? = some fn → fn.body = some c → LOK P G gb Λ (loopsIn c) := by
  intro fn c h1 h2 b hb
  refine h b ?_
  simpa [loopsF, codeOf, h1, h2] using hb
def Lam1 (key n e : Nat) (live : List (Nat × IntKind)) (dom : List Int → Bool) (fin : List Int → List Int) : Nat → TS → List Blk → Nat → LT :=
  fun k T M N => bif k == key && T.length == n then (match readI T live with
    | some xs => .br (dom xs) (.st (.exit e) (mkT live n (fin xs)) M N) .no
    | none => .no) else .no
def orL (Λ Λ' : Nat → TS → List Blk → Nat → LT) : Nat → TS → List Blk → Nat → LT :=
  fun k T M N => match Λ k T M N with
    | .no => Λ' k T M N
    | t => t
theorem LOKb.or {Λ' : Nat → TS → List Blk → Nat → LT} {b : Code} (h : LOKb P G gb Λ b) (h' : LOKb P G gb Λ' b) : LOKb P G gb (orL Λ Λ') b := by
  intro T M N x T' M' N' hr
  unfold orL at hr
  split at hr
  · exact h' T M N x T' M' N' hr
  · exact h T M N x T' M' N' hr
theorem LOKb.no {b : Code} : LOKb P G gb noL b := fun _ _ _ _ _ _ _ h => h.elim
theorem LOKb.lam1 {b : Code} {n e : Nat} {live : List (Nat × IntKind)} {dom : List Int → Bool} {fin : List Int → List Int}
    (h : ∀ xs M N, xs.length = live.length → dom xs = true → ∃ k, RoundsOK P G gb b k (mkT live n xs) M N (.exit e) (mkT live n (fin xs)) M N) : LOKb P G gb (Lam1 (loopKey b) n e live dom fin) b := by
  intro T M N x T' M' N' hr
  unfold Lam1 at hr
  simp only [cond_eq_ite, Bool.and_eq_true, beq_iff_eq, beq_self_eq_true, true_and] at hr
  split at hr
  · rename_i hl
    split at hr
    · rename_i xs hxs
      rcases hr with ⟨hd, rfl, rfl, rfl, rfl⟩ | ⟨_, hf⟩
      · obtain ⟨k, hk⟩ := h xs _ _ (readI_gets hxs).1 hd
        exact ⟨by simp, k, hk.less (less_mkT hl hxs)⟩
      · exact hf.elim
    · exact hr.elim
  · exact hr.elim
theorem LOKb.lam1_other {b : Code} {key n e : Nat} {live : List (Nat × IntKind)} {dom : List Int → Bool} {fin : List Int → List Int} (hk : loopKey b ≠ key) : LOKb P G gb (Lam1 key n e live dom fin) b := by
  intro T M N x T' M' N' hr
  unfold Lam1 at hr
  have : (loopKey b == key) = false := by simpa using hk
  rw [this] at hr
  exact hr.elim
theorem RoundsOK.go (hΓ : GOK P G gb Γ X) (hEQ : ∀ t, t ∈ EQ.eq → EqOK P t) (hm : P.follows .mixedOrders = true) {fuel k : Nat} {b : Code} {T T1 T' : TS} {M M1 M' : List Blk} {N N1 N' : Nat} {x : Ex} {keep : List Nat} (hL : LOK P G gb Λ (loopsIn b))
    (h : evCode P G EQ Γ X Λ fuel b T M N (fun x T M N => some (.st x (forget keep T) M N)) = some (.st .normal T1 M1 N1)) (hk : RoundsOK P G gb b k T1 M1 N1 x T' M' N') : RoundsOK P G gb b (k + 1) T M N x T' M' N' := by
  obtain ⟨x', T3, M3, N3, h1, h2, _⟩ := evCode_sound hEQ hm hΓ fuel b T M N _ _ hL h
  cases h2
  intro w0 W σ a w Q hG hT hM hN hQ
  rw [rounds_succ]
  exact h1 w0 W σ a w _ hG hT hM hN fun τ a' w' hle hT' hM' hN' => hk w0 W τ a' w' Q hG (hT'.less (forget_less _ _)) hM' hN' fun υ a'' w'' hle' => hQ υ a'' w'' (Sg.le_trans hle hle')
theorem RoundsOK.fin (hΓ : GOK P G gb Γ X) (hEQ : ∀ t, t ∈ EQ.eq → EqOK P t) (hm : P.follows .mixedOrders = true) {fuel e : Nat} {b : Code} {T T1 : TS} {M M1 : List Blk} {N N1 : Nat} {keep : List Nat} (hL : LOK P G gb Λ (loopsIn b))
    (h : evCode P G EQ Γ X Λ fuel b T M N (fun x T M N => some (.st x (forget keep T) M N)) = some (.st (.exit e) T1 M1 N1)) : RoundsOK P G gb b 1 T M N (.exit e) T1 M1 N1 := by
  obtain ⟨x', T3, M3, N3, h1, h2, _⟩ := evCode_sound hEQ hm hΓ fuel b T M N _ _ hL h
  cases h2
  intro w0 W σ a w Q hG hT hM hN hQ
  rw [rounds_succ]
  exact h1 w0 W σ a w _ hG hT hM hN fun τ a' w' hle hT' hM' hN' => hQ τ a' w' hle (hT'.less (forget_less _ _)) hM' hN'
theorem RoundsOK.weak {k : Nat} {b : Code} {T T' T2 : TS} {M M' : List Blk} {N N' : Nat} {x : Ex} (h : RoundsOK P G gb b k T M N x T' M' N') (hl : Less T2 T') : RoundsOK P G gb b k T M N x T2 M' N' :=
  fun w0 W σ a w Q hG hT hM hN hQ => h w0 W σ a w Q hG hT hM hN fun τ a' w' hle hT' hM' hN' => hQ τ a' w' hle (hT'.less hl) hM' hN'
inductive Sh where
  | int (k : IntKind)
  | ptr (b o : Nat)
def readS (T : TS) : List (Nat × Sh) → Option (List Int)
  | [] => some []
  | (i, .int k) :: r => match tget T i with
    | .v (.c (.d (.int k' x))) => bif decide (k' = k) then (match readS T r with | some l => some (x :: l) | none => none) else none
    | _ => none
  | (i, .ptr b o) :: r => match tget T i with
    | .v (.c (.ptr b' o')) => bif (b' == b) && (o' == o) then readS T r else none
    | _ => none
def mkS : List (Nat × Sh) → List Int → List (Nat × AV)
  | [], _ => []
  | (i, .ptr b o) :: r, xs => (i, aptr b o) :: mkS r xs
  | (i, .int k) :: r, x :: xs => (i, aint k x) :: mkS r xs
  | (_, .int _) :: _, [] => []
theorem readS_gets {T : TS} : ∀ {sh : List (Nat × Sh)} {xs : List Int}, readS T sh = some xs → ∀ p ∈ mkS sh xs, tget T p.1 = p.2
  | [], xs, h => by simp [mkS]
  | (i, .int k) :: r, xs, h => by
    unfold readS at h
    split at h
    · rename_i k' x hx
      simp only [cond_eq_ite, decide_eq_true_eq] at h
      split at h
      · rename_i ek
        split at h
        · rename_i l hl
          cases h
          intro q hq
          simp only [mkS, List.mem_cons] at hq
          rcases hq with rfl | hq
          · rw [hx, ek]; rfl
          · exact readS_gets hl q hq
        · cases h
      · cases h
    · cases h
  | (i, .ptr b o) :: r, xs, h => by
    unfold readS at h
    split at h
    · rename_i b' o' hx
      simp only [cond_eq_ite, Bool.and_eq_true, beq_iff_eq] at h
      split at h
      · rename_i ek
        intro q hq
        simp only [mkS, List.mem_cons] at hq
        rcases hq with rfl | hq
        · rw [hx, ek.1, ek.2]; rfl
        · exact readS_gets h q hq
      · cases h
    · cases h
def readD : List D → List IntKind → Option (List Int)
  | [], [] => some []
  | .int k x :: r, k' :: s => bif decide (k = k') then (match readD r s with | some l => some (x :: l) | none => none) else none
  | _, _ => none
def mkD : List IntKind → List Int → List D
  | k :: r, x :: s => .int k x :: mkD r s
  | _, _ => []
theorem readD_eq : ∀ {l : List D} {ks : List IntKind} {ys : List Int}, readD l ks = some ys → l = mkD ks ys ∧ ys.length = ks.length
  | [], [], ys, h => by simp only [readD, Option.some.injEq] at h; subst h; exact ⟨rfl, rfl⟩
  | .int k x :: r, k' :: s, ys, h => by
    simp only [readD, cond_eq_ite, decide_eq_true_eq] at h
    split at h
    · rename_i e
      subst e
      split at h
      · rename_i l hl
        cases h
        obtain ⟨h1, h2⟩ := readD_eq hl
        exact ⟨by rw [h1]; rfl, by simp [h2]⟩
      · cases h
    · cases h
  | [], _ :: _, _, h => by cases h
  | .int _ _ :: _, [], _, h => by cases h
  | .bool _ :: _, [], _, h => by cases h
  | .str _ :: _, [], _, h => by cases h
  | .bool _ :: _, _ :: _, _, h => by cases h
  | .str _ :: _, _ :: _, _, h => by cases h
def readM : List Blk → List (Nat × List IntKind) → Option (List Int)
  | [], [] => some []
  | .rw t l :: r, (t', ks) :: s => bif t == t' then (match readD l ks, readM r s with | some x, some y => some (x ++ y) | _, _ => none) else none
  | _, _ => none
def mkM : List (Nat × List IntKind) → List Int → List Blk
  | [], _ => []
  | (t, ks) :: s, ys => .rw t (mkD ks (ys.take ks.length)) :: mkM s (ys.drop ks.length)
theorem readM_eq : ∀ {M : List Blk} {ms : List (Nat × List IntKind)} {ys : List Int}, readM M ms = some ys → M = mkM ms ys
  | [], [], _, _ => rfl
  | .rw t l :: r, (t', ks) :: s, ys, h => by
    simp only [readM, cond_eq_ite, beq_iff_eq] at h
    split at h
    · rename_i e
      subst e
      split at h
      · rename_i x y hx hy
        cases h
        obtain ⟨h1, h2⟩ := readD_eq hx
        have h3 := readM_eq hy
        simp only [mkM]
        rw [← h2, List.take_left' rfl, List.drop_left' rfl, ← h1, ← h3]
      · cases h
    · cases h
  | [], _ :: _, _, h => by cases h
  | .rw _ _ :: _, [], _, h => by cases h
  | .dead :: _, [], _, h => by cases h
  | .ro _ :: _, [], _, h => by cases h
  | .arr _ _ _ :: _, [], _, h => by cases h
  | .cell _ _ :: _, [], _, h => by cases h
  | .dead :: _, _ :: _, _, h => by cases h
  | .ro _ :: _, _ :: _, _, h => by cases h
  | .arr _ _ _ :: _, _ :: _, _, h => by cases h
  | .cell _ _ :: _, _ :: _, _, h => by cases h
def LamS (key n nb : Nat) (sh : List (Nat × Sh)) (ms : List (Nat × List IntKind)) (f : List Int → List Int → LT) : Nat → TS → List Blk → Nat → LT :=
  fun k T M N => bif k == key && (T.length == n && N == nb) then (match readS T sh, readM M ms with
    | some xs, some ys => f xs ys
    | _, _ => .no) else .no
theorem LOKb.lamS {b : Code} {n nb : Nat} {sh : List (Nat × Sh)} {ms : List (Nat × List IntKind)} {f : List Int → List Int → LT}
    (h : ∀ xs ys x T' M' N', LReach (f xs ys) x T' M' N' → x ≠ .normal ∧ ∃ k, RoundsOK P G gb b k (maskT (mkS sh xs) n) (mkM ms ys) nb x T' M' N') : LOKb P G gb (LamS (loopKey b) n nb sh ms f) b := by
  intro T M N x T' M' N' hr
  unfold LamS at hr
  simp only [cond_eq_ite, Bool.and_eq_true, beq_iff_eq, beq_self_eq_true, true_and] at hr
  split at hr
  · rename_i hl
    split at hr
    · rename_i xs ys hxs hys
      obtain ⟨h1, k, hk⟩ := h xs ys x T' M' N' hr
      rw [hl.2, readM_eq hys]
      exact ⟨h1, k, hk.less (less_of hl.1 (readS_gets hxs))⟩
    · exact hr.elim
  · exact hr.elim
theorem LOKb.lamS_other {b : Code} {key n nb : Nat} {sh : List (Nat × Sh)} {ms : List (Nat × List IntKind)} {f : List Int → List Int → LT} (hk : loopKey b ≠ key) : LOKb P G gb (LamS key n nb sh ms f) b := by
  intro T M N x T' M' N' hr
  unfold LamS at hr
  have : (loopKey b == key) = false := by simpa using hk
  rw [this] at hr
  exact hr.elim
end
end Go.Ev

namespace Go.Ev
open Go Go.RowKit
theorem fits_cons {z : D} {zs a : List D} (h : fitsTo (z :: zs) a = true) : ∃ x r, a = x :: r ∧ D.same z x = true ∧ fitsTo zs r = true := by
  cases a with
  | nil => cases h
  | cons x r => simp only [fitsTo, Bool.and_eq_true] at h; exact ⟨x, r, rfl, h.1, h.2⟩
theorem fits_nil {a : List D} (h : fitsTo [] a = true) : a = [] := by cases a with | nil => rfl | cons _ _ => cases h
theorem same_int {k : IntKind} {m : Int} {x : D} (h : D.same (.int k m) x = true) : ∃ n, x = .int k n := by
  cases x with
  | int k' n => simp only [D.same, decide_eq_true_eq] at h; exact ⟨n, by rw [h]⟩
  | bool _ => cases h
  | str _ => cases h
theorem eqok_of {P : Program} {t : TypeId} (hg : P.eqGuardType P.depth t = false)
    (h : ∀ (z a b : List D) (w : World), zeroD P t = some z → fitsTo z a = true → fitsTo z b = true → (Op.equalIn 10000 t (.agg (a.map D.val).toArray) (.agg (b.map D.val).toArray)).run P w = .ok (eqAll a b) w) : EqOK P t := by
  intro z a b x y w hz ha hb
  have := h z a b w hz ha hb
  constructor
  · simp only [Sem.run_bind, run_eqGuard_agg _ _ _ _ _ _ _ hg, Result.andThen_ok, run_eql_struct, this]
  · simp only [Sem.run_bind, run_eqGuard_agg _ _ _ _ _ _ _ hg, Result.andThen_ok, run_neq_struct, this]
def DR : D → D → Prop
  | .int k _, .int k' n => k = k' ∧ k.has n
  | .bool _, .bool _ => True
  | .str _, .str s => s.size ≤ maxLen
  | _, _ => False
def FitsR : List D → List D → Prop
  | [], [] => True
  | x :: r, y :: s => DR x y ∧ FitsR r s
  | _, _ => False
def kindsOf (P : Program) : List TypeId → Option (List D)
  | [] => some []
  | t :: r => match P.underlying t, kindsOf P r with
    | some (.int k), some l => some (.int k 0 :: l)
    | some .bool, some l => some (.bool false :: l)
    | some .string, some l => some (.str ByteArray.empty :: l)
    | _, _ => none
theorem cell_int {P : Program} {w : World} {r : Go.Reach} {base : Nat} {t : TypeId} {v : Value} {k : IntKind} (hu : P.underlying t = some (.int k)) (h : Cell.okWide P w r base t v) : ∃ n, v = .int k n ∧ k.has n := by
  unfold Cell.okWide at h
  rw [hu] at h
  simp only at h
  unfold Cell.ok at h
  rw [hu] at h
  cases v <;> simp only at h
  case int k' n => exact ⟨n, by rw [h.1], h.2⟩
theorem cell_bool {P : Program} {w : World} {r : Go.Reach} {base : Nat} {t : TypeId} {v : Value} (hu : P.underlying t = some .bool) (h : Cell.okWide P w r base t v) : ∃ b, v = .bool b := by
  unfold Cell.okWide at h
  rw [hu] at h
  simp only at h
  unfold Cell.ok at h
  rw [hu] at h
  cases v <;> simp only at h
  case bool b => exact ⟨b, rfl⟩
theorem cell_string {P : Program} {w : World} {r : Go.Reach} {base : Nat} {t : TypeId} {v : Value} (hu : P.underlying t = some .string) (h : Cell.okWide P w r base t v) : ∃ s, v = .string s ∧ s.size ≤ maxLen := by
  unfold Cell.okWide at h
  rw [hu] at h
  simp only at h
  unfold Cell.ok at h
  rw [hu] at h
  cases v <;> simp only at h
  case string s =>
    refine ⟨s, rfl, ?_⟩
    have e : IntKind.i64.max = 9223372036854775807 := by decide
    rw [e] at h
    simp only [maxLen]
    omega
theorem cells_data {P : Program} {w : World} {r : Go.Reach} {base : Nat} : ∀ {ts : List TypeId} {cs : List Value} {ks : List D}, kindsOf P ts = some ks → cs.length = ts.length →
    (∀ (i : Nat) v, cs[i]? = some v → ∃ u, ts[i]? = some u ∧ Cell.okWide P w r base u v) → ∃ l, cs = l.map D.val ∧ FitsR ks l
  | [], [], ks, h, _, _ => by simp only [kindsOf, Option.some.injEq] at h; subst h; exact ⟨[], rfl, trivial⟩
  | [], _ :: _, _, _, hl, _ => by simp at hl
  | _ :: _, [], _, _, hl, _ => by simp at hl
  | t :: ts, v :: cs, ks, h, hl, hc => by
    obtain ⟨u, hu, hv⟩ := hc 0 v rfl
    simp only [List.getElem?_cons_zero, Option.some.injEq] at hu
    subst hu
    have hc' : ∀ (i : Nat) v, cs[i]? = some v → ∃ u, ts[i]? = some u ∧ Cell.okWide P w r base u v := fun i v hi => by
      obtain ⟨u, h1, h2⟩ := hc (i + 1) v (by simpa using hi)
      exact ⟨u, by simpa using h1, h2⟩
    have hl' : cs.length = ts.length := by simpa using hl
    simp only [kindsOf] at h
    split at h
    · rename_i k l hk hks
      cases h
      obtain ⟨n, rfl, hn⟩ := cell_int hk hv
      obtain ⟨l', rfl, hf⟩ := cells_data hks hl' hc'
      exact ⟨.int k n :: l', rfl, ⟨rfl, hn⟩, hf⟩
    · rename_i l hk hks
      cases h
      obtain ⟨b, rfl⟩ := cell_bool hk hv
      obtain ⟨l', rfl, hf⟩ := cells_data hks hl' hc'
      exact ⟨.bool b :: l', rfl, trivial, hf⟩
    · rename_i l hk hks
      cases h
      obtain ⟨s, rfl, hs⟩ := cell_string hk hv
      obtain ⟨l', rfl, hf⟩ := cells_data hks hl' hc'
      exact ⟨.str s :: l', rfl, hs, hf⟩
    · cases h
theorem DR.ok {z x : D} (h : DR z x) : x.ok := by
  cases z <;> cases x <;> first | exact h.elim | trivial | skip
  case int.int k n k' n' => exact inR_iff.2 (h.1 ▸ h.2)
theorem FitsR.ok : ∀ {ks l : List D}, FitsR ks l → ∀ d ∈ l, d.ok
  | [], [], _ => by simp
  | _ :: _, _ :: _, ⟨h1, h2⟩ => by
    intro d hd
    rcases List.mem_cons.1 hd with rfl | hd
    · exact h1.ok
    · exact FitsR.ok h2 d hd
  | [], _ :: _, h => h.elim
  | _ :: _, [], h => h.elim
theorem arg_agg {P : Program} {w : World} {r : Go.Reach} {base : Nat} {t : TypeId} {v : Value} {ts : List TypeId} {ks : List D} (ha : aggD P t = some true) (hct : P.cellTypes P.depth t = some ts) (hk : kindsOf P ts = some ks) (hc : P.cellsOf t = ts.length)
    (h : Value.okWide P w r base t v) : ∃ l, v = .agg (l.map D.val).toArray ∧ FitsR ks l := by
  have key : ∃ cs, v = .agg cs ∧ cs.size = P.cellsOf t ∧ Row.okWide P w r base t cs := by
    unfold Value.okWide at h
    unfold aggD at ha
    split at h
    · exact h
    · exact h
    · rename_i h1 h2
      exfalso
      split at ha
      · rename_i fs hfs; exact h1 fs hfs
      · rename_i n e hne; exact h2 n e hne
      · cases ha
      · cases ha
  obtain ⟨cs, rfl, hsz, ts', hts', _, hcells⟩ := key
  rw [hct] at hts'
  cases hts'
  obtain ⟨l, hl, hf⟩ := cells_data (cs := cs.toList) hk (by simp [hsz, hc]) fun i v hi => by
    have hi' : cs[i]? = some v := by rw [← Array.getElem?_toList]; exact hi
    obtain ⟨u, h1, h2⟩ := hcells i v hi'
    have hlt : i < ts.length := by
      have := (Array.getElem?_eq_some_iff.1 hi').1
      omega
    rw [Nat.mod_eq_of_lt hlt] at h1
    exact ⟨u, h1, h2⟩
  exact ⟨l, by rw [← hl], hf⟩
theorem arg_cell {P : Program} {w : World} {r : Go.Reach} {base : Nat} {t : TypeId} {v : Value} (ha : aggD P t = some false) (h : Value.okWide P w r base t v) : Cell.okWide P w r base t v := by
  unfold Value.okWide at h
  unfold aggD at ha
  split at h
  · rename_i fs hfs; rw [hfs] at ha; cases ha
  · rename_i n e hne; rw [hne] at ha; cases ha
  · exact h
theorem Kept.below {W : Nat → Prop} {w w' : World} (h : Kept W w w') (hW : ∀ k, ¬ W k) : Below w.heap.size w w' :=
  ⟨h.os, h.tape, h.output, h.size, fun k hk => h.block k hk (hW k)⟩
theorem CallsA.law {P : Program} {G : Nat → Option (List D)} {gb f : Nat} {as : List AV} {bs M : List Blk} (h : CallsA P G gb f as bs (abool true) M) {σ : Sg} {w : World} {args : Array Value} (h1 : AVRels σ as args.toList) (h2 : MRel w (Wof σ bs) σ bs w)
    (h3 : Glob G gb (Wof σ bs) w) (h4 : ∀ b, bs.length ≤ b → σ b = none) (hro : ∀ b, (mget bs b).wr = false) : Calls P f args w fun e w' => e = .returned (.bool true) ∧ Below w.heap.size w w' :=
  (h σ w args h1 h2 h3 h4).mono fun _ _ ⟨v', τ, h5, _, h7, h8⟩ => ⟨by rw [h5]; exact congrArg _ h7.1, h8.kept.below fun k ⟨b, L, h9, _⟩ => by rw [hro b] at h9; cases h9⟩
theorem MRel.none (w : World) : MRel w (Wof (fun _ => Option.none) []) (fun _ => Option.none) [] w :=
  ⟨fun _ => trivial, (fun _ _ _ _ _ hb => by cases hb), (fun _ _ hb => by cases hb), Kept.refl _ _⟩
theorem Glob.none (W : Nat → Prop) (w : World) : Glob (fun _ => Option.none) 0 W w := ⟨Nat.zero_le _, fun _ _ => Nat.zero_le _, fun _ _ h => by cases h⟩
theorem pullK {α : Type} (K : AV → List Blk → Ans) (e : α → AV) (M : List Blk) (c : Bool) (x y : α) : K (e (bif c then x else y)) M = bif c then K (e x) M else K (e y) M := by cases c <;> rfl
end Go.Ev

namespace Go.Ev
open Go
section
variable (P : Program)
mutual
def shapeD : Nat → TypeId → Option (List D)
  | 0, _ => none
  | d + 1, t => match P.underlying t with
    | some .bool => some [.bool false]
    | some (.int k) => some [.int k 0]
    | some .string => some [.str ByteArray.empty]
    | some (.struct fs) => bif P.stoodInHeld t then none else shapeFs d fs.toList 0
    | some (.array n e) => match shapeD d e, sizeD P e, aggD P e with
      | some l, some s, some g => bif (l.length == s) && (g || s == 1) then some (List.replicate n l).flatten else none
      | _, _, _ => none
    | _ => none
def shapeFs : Nat → List Field → Nat → Option (List D)
  | _, [], _ => some []
  | 0, _ :: _, _ => none
  | d + 1, f :: r, off => match shapeD d f.type, sizeD P f.type, aggD P f.type, shapeFs d r (off + (match sizeD P f.type with | some s => s | none => 0)) with
    | some l, some s, some g, some l' => bif decide (f.name ≠ "_") && ((f.offset == off) && ((l.length == s) && (g || s == 1))) then some (l ++ l') else none
    | _, _, _, _ => none
end
end
def valT (P : Program) (t : TypeId) (a : List D) : Value :=
  match aggD P t with
  | some true => .agg (a.map D.val).toArray
  | _ => match a with
    | x :: _ => x.val
    | [] => .bool false
theorem eqAll_append : ∀ {a a' b b' : List D}, a.length = a'.length → eqAll (a ++ b) (a' ++ b') = (eqAll a a' && eqAll b b')
  | [], [], _, _, _ => by simp [eqAll]
  | [], _ :: _, _, _, h => by cases h
  | _ :: _, [], _, _, h => by cases h
  | x :: a, y :: a', b, b', h => by
    simp only [List.cons_append, eqAll]
    rw [eqAll_append (by simpa using h), Bool.and_assoc]
theorem fitsTo_len : ∀ {z a : List D}, fitsTo z a = true → a.length = z.length
  | [], [], _ => rfl
  | [], _ :: _, h => by cases h
  | _ :: _, [], h => by cases h
  | _ :: z, _ :: a, h => by
    simp only [fitsTo, Bool.and_eq_true] at h
    simp [fitsTo_len h.2]
theorem fitsTo_append : ∀ {z z' a : List D}, fitsTo (z ++ z') a = true → fitsTo z (a.take z.length) = true ∧ fitsTo z' (a.drop z.length) = true
  | [], _, a, h => by simpa [fitsTo] using h
  | _ :: z, z', [], h => by cases h
  | x :: z, z', y :: a, h => by
    simp only [List.cons_append, fitsTo, Bool.and_eq_true] at h
    have := fitsTo_append h.2
    simp only [List.length_cons, List.take_succ_cons, List.drop_succ_cons, fitsTo, Bool.and_eq_true]
    exact ⟨⟨h.1, this.1⟩, this.2⟩
section
variable {P : Program}
theorem part_valT {t : TypeId} {s : Nat} {g : Bool} (hs : sizeD P t = some s) (hg : aggD P t = some g) (h1 : (g || s == 1) = true) {a : List D} {off : Nat} (hl : off + s ≤ a.length) (w : World) :
    (part t (a.map D.val).toArray off).run P w = .ok (valT P t ((a.drop off).take s)) w := by
  cases g with
  | true =>
    simp only [part, Sem.run_bind, isAgg_run hg, Result.andThen_ok, sizeOf_run hs, if_true, Sem.run_pure, valT, hg]
    congr 2
    apply Array.ext'
    simp only [Array.toList_extract, List.map_take, List.map_drop]
    simp
  | false =>
    simp only [Bool.false_or, beq_iff_eq] at h1
    subst h1
    have hlt : off < a.length := by omega
    have hd : a.drop off = a[off] :: a.drop (off + 1) := List.drop_eq_getElem_cons hlt
    simp only [part, Sem.run_bind, isAgg_run hg, Result.andThen_ok, valT, hg, hd, List.take_succ_cons]
    simp [List.getElem?_eq_getElem hlt]
theorem run_forIn_all {α : Type} (w : World) (f : α → Option Bool × Unit → Sem (ForInStep (Option Bool × Unit))) (q : α → Bool) : ∀ (L : List α), (∀ x ∈ L, (f x (none, ())).run P w = .ok (bif q x then .yield (none, ()) else .done (some false, ())) w) →
    (forIn L (none, ()) f).run P w = .ok (bif L.all q then (none, ()) else (some false, ())) w
  | [], _ => by simp
  | x :: L, h => by
    rw [List.forIn_cons, Sem.run_bind, h x (by simp), Result.andThen_ok]
    cases hq : q x with
    | true =>
      simp only [cond_true, List.all_cons, hq, Bool.true_and]
      exact run_forIn_all w f q L fun y hy => h y (by simp [hy])
    | false => simp [hq]
theorem all_fields {d : Nat} : ∀ {fs : List Field} {off : Nat} {z : List D}, shapeFs P d fs off = some z → ∀ {a b : List D}, fitsTo z (a.drop off) = true → fitsTo z (b.drop off) = true →
    (fs.all fun f => eqAll ((a.drop f.offset).take (match sizeD P f.type with | some s => s | none => 0)) ((b.drop f.offset).take (match sizeD P f.type with | some s => s | none => 0))) = eqAll (a.drop off) (b.drop off)
  | [], off, z, h, a, b, ha, hb => by
    simp only [shapeFs, Option.some.injEq] at h
    subst h
    rw [fits_nil ha, fits_nil hb]
    rfl
  | f :: r, off, z, h, a, b, ha, hb => by
    cases d with
    | zero => simp [shapeFs] at h
    | succ d =>
      rw [shapeFs] at h
      split at h
      · rename_i l s g l' hl hs hg hl'
        simp only [cond_eq_ite, Bool.and_eq_true, decide_eq_true_eq, beq_iff_eq] at h
        split at h
        · rename_i hc
          cases h
          obtain ⟨_, ho, hls, _⟩ := hc
          rw [hs] at hl'
          simp only at hl'
          obtain ⟨ha1, ha2⟩ := fitsTo_append ha
          obtain ⟨hb1, hb2⟩ := fitsTo_append hb
          rw [List.drop_drop, hls] at ha2 hb2
          have ih := all_fields hl' ha2 hb2
          rw [List.all_cons, ih]
          simp only [hs, ho]
          have e1 := fitsTo_len ha1
          have e2 := fitsTo_len hb1
          rw [hls] at e1 e2
          conv => rhs; rw [← List.take_append_drop s (a.drop off), ← List.take_append_drop s (b.drop off)]
          rw [eqAll_append (by omega), List.drop_drop, List.drop_drop]
        · cases h
      · cases h
theorem all_parts {l : List D} {s : Nat} (hl : l.length = s) : ∀ {n k : Nat} {a b : List D}, fitsTo (List.replicate n l).flatten (a.drop (k * s)) = true → fitsTo (List.replicate n l).flatten (b.drop (k * s)) = true →
    ((List.range' k n).all fun i => eqAll ((a.drop (i * s)).take s) ((b.drop (i * s)).take s)) = eqAll (a.drop (k * s)) (b.drop (k * s))
  | 0, k, a, b, ha, hb => by
    rw [fits_nil ha, fits_nil hb]
    rfl
  | n + 1, k, a, b, ha, hb => by
    rw [List.replicate_succ, List.flatten_cons] at ha hb
    obtain ⟨ha1, ha2⟩ := fitsTo_append ha
    obtain ⟨hb1, hb2⟩ := fitsTo_append hb
    rw [List.drop_drop, hl, show k * s + s = (k + 1) * s by rw [Nat.add_mul]; omega] at ha2 hb2
    have ih := all_parts hl ha2 hb2
    rw [List.range'_succ, List.all_cons, ih]
    have e1 := fitsTo_len ha1
    have e2 := fitsTo_len hb1
    rw [hl] at e1 e2
    conv => rhs; rw [← List.take_append_drop s (a.drop (k * s)), ← List.take_append_drop s (b.drop (k * s))]
    rw [eqAll_append (by omega), List.drop_drop, List.drop_drop, show k * s + s = (k + 1) * s by rw [Nat.add_mul]; omega]
theorem field_shape {d : Nat} : ∀ {fs : List Field} {off : Nat} {z : List D}, shapeFs P d fs off = some z → ∀ f ∈ fs, f.name ≠ "_" ∧ ∃ l s g d', d' < d ∧ shapeD P d' f.type = some l ∧ sizeD P f.type = some s ∧ aggD P f.type = some g ∧ (g || s == 1) = true ∧ l.length = s ∧
    (∀ a : List D, off ≤ a.length → fitsTo z (a.drop off) = true → f.offset + s ≤ a.length ∧ fitsTo l ((a.drop f.offset).take s) = true)
  | [], _, _, _, _, hf => by cases hf
  | f :: r, off, z, h, f', hf => by
    cases d with
    | zero => simp [shapeFs] at h
    | succ d =>
      rw [shapeFs] at h
      split at h
      · rename_i l s g l' hl hs hg hl'
        simp only [cond_eq_ite, Bool.and_eq_true, decide_eq_true_eq, beq_iff_eq] at h
        split at h
        · rename_i hc
          cases h
          obtain ⟨hn, ho, hls, hg1⟩ := hc
          rw [hs] at hl'
          simp only at hl'
          rcases List.mem_cons.1 hf with rfl | hf
          · refine ⟨hn, l, s, g, d, by omega, hl, hs, hg, hg1, hls, fun a hle ha => ?_⟩
            obtain ⟨ha1, ha2⟩ := fitsTo_append ha
            have e1 := fitsTo_len ha
            rw [hls] at ha1
            rw [List.length_append, List.length_drop] at e1
            exact ⟨by omega, by rw [ho]; exact ha1⟩
          · obtain ⟨h1, l2, s2, g2, d2, h2, h3, h4, h5, h6, h7, h8⟩ := field_shape hl' f' hf
            refine ⟨h1, l2, s2, g2, d2, by omega, h3, h4, h5, h6, h7, fun a hle ha => h8 a ?_ ?_⟩
            · have e1 := fitsTo_len ha
              rw [List.length_append, List.length_drop] at e1
              omega
            · have := (fitsTo_append ha).2
              rw [List.drop_drop, hls] at this
              exact this
        · cases h
      · cases h
theorem valT_agg {t : TypeId} (h : aggD P t = some true) (a : List D) : valT P t a = .agg (a.map D.val).toArray := by simp [valT, h]
theorem valT_one {t : TypeId} (h : aggD P t = some false) (x : D) : valT P t [x] = x.val := by simp [valT, h]
theorem same_bool {m : Bool} {x : D} (h : D.same (.bool m) x = true) : ∃ n, x = .bool n := by
  cases x with
  | bool n => exact ⟨n, rfl⟩
  | int _ _ => cases h
  | str _ => cases h
theorem same_str {m : ByteArray} {x : D} (h : D.same (.str m) x = true) : ∃ n, x = .str n := by
  cases x with
  | str n => exact ⟨n, rfl⟩
  | int _ _ => cases h
  | bool _ => cases h
theorem bytes_beq (a b : ByteArray) : (a == b) = (a.data.toList == b.data.toList) := by
  cases a with | mk x => cases b with | mk y =>
  cases x with | mk x => cases y with | mk y =>
  show (Array.mk x == Array.mk y) = (x == y)
  simp
theorem equalIn_shape : ∀ (d : Nat) {t : TypeId} {z : List D}, shapeD P d t = some z → ∀ {n : Nat}, d ≤ n → ∀ {a b : List D}, fitsTo z a = true → fitsTo z b = true → ∀ w : World, (Op.equalIn n t (valT P t a) (valT P t b)).run P w = .ok (eqAll a b) w := by
  intro d
  induction d using Nat.strongRecOn with
  | ind d ih =>
    intro t z h n hn a b ha hb w
    cases d with
    | zero => simp [shapeD] at h
    | succ d =>
      obtain ⟨n, rfl⟩ : ∃ m, n = m + 1 := ⟨n - 1, by omega⟩
      rw [shapeD] at h
      split at h
      · rename_i hu
        cases h
        have hg : aggD P t = some false := by simp [aggD, hu]
        obtain ⟨x, r, rfl, hx, hr⟩ := fits_cons ha
        obtain ⟨y, r', rfl, hy, hr'⟩ := fits_cons hb
        cases fits_nil hr
        cases fits_nil hr'
        obtain ⟨x, rfl⟩ := same_bool hx
        obtain ⟨y, rfl⟩ := same_bool hy
        rw [valT_one hg, valT_one hg, Op.equalIn]
        simp [underlying_run hu, D.val, eqAll, D.eq]
      · rename_i k hu
        cases h
        have hg : aggD P t = some false := by simp [aggD, hu]
        obtain ⟨x, r, rfl, hx, hr⟩ := fits_cons ha
        obtain ⟨y, r', rfl, hy, hr'⟩ := fits_cons hb
        cases fits_nil hr
        cases fits_nil hr'
        obtain ⟨x, rfl⟩ := same_int hx
        obtain ⟨y, rfl⟩ := same_int hy
        rw [valT_one hg, valT_one hg, Op.equalIn]
        simp [underlying_run hu, D.val, eqAll, D.eq]
      · rename_i hu
        cases h
        have hg : aggD P t = some false := by simp [aggD, hu]
        obtain ⟨x, r, rfl, hx, hr⟩ := fits_cons ha
        obtain ⟨y, r', rfl, hy, hr'⟩ := fits_cons hb
        cases fits_nil hr
        cases fits_nil hr'
        obtain ⟨x, rfl⟩ := same_str hx
        obtain ⟨y, rfl⟩ := same_str hy
        rw [valT_one hg, valT_one hg, Op.equalIn]
        simp only [Sem.run_bind, underlying_run hu, Result.andThen_ok, D.val, eqAll, D.eq, Bool.and_true, Sem.run_pure, bytes_beq]
      · rename_i fs hu
        simp only [cond_eq_ite] at h
        split at h
        · cases h
        rename_i hst
        have hg : aggD P t = some true := by simp [aggD, hu]
        rw [valT_agg hg, valT_agg hg, Op.equalIn]
        have hst' : P.stoodInHeld t = false := by simpa using hst
        simp only [Sem.run_bind, underlying_run hu, Result.andThen_ok, run_program, hst', Bool.false_eq_true, if_false]
        rw [← Array.forIn_toList]
        rw [run_forIn_all w _ (fun f => eqAll ((a.drop f.offset).take (match sizeD P f.type with | some s => s | none => 0)) ((b.drop f.offset).take (match sizeD P f.type with | some s => s | none => 0))) fs.toList ?_]
        · rw [all_fields h (a := a) (b := b) (by simpa using ha) (by simpa using hb)]
          simp only [List.drop_zero, Result.andThen_ok]
          cases eqAll a b <;> simp
        · intro f hf
          obtain ⟨hn1, l, s, g, d', hd', hl, hs, hgf, hg1, hls, hfit⟩ := field_shape h f hf
          obtain ⟨fa, ga⟩ := hfit a (Nat.zero_le _) (by simpa using ha)
          obtain ⟨fb, gb⟩ := hfit b (Nat.zero_le _) (by simpa using hb)
          have := ih d' (by omega) hl (n := n) (by omega) ga gb w
          simp only [ne_eq, hn1, not_false_eq_true, if_true, Sem.run_bind, part_valT hs hgf hg1 fa, part_valT hs hgf hg1 fb, Result.andThen_ok, this, hs]
          cases eqAll ((a.drop f.offset).take s) ((b.drop f.offset).take s) <;> simp
      · rename_i m e hu
        split at h
        · rename_i l s g hl hs hge
          simp only [cond_eq_ite, Bool.and_eq_true, beq_iff_eq] at h
          split at h
          · rename_i hc
            cases h
            have hg : aggD P t = some true := by simp [aggD, hu]
            rw [valT_agg hg, valT_agg hg, Op.equalIn]
            simp only [Sem.run_bind, underlying_run hu, Result.andThen_ok, sizeOf_run hs, Std.Legacy.Range.forIn_eq_forIn_range', Std.Legacy.Range.size, Nat.sub_zero, Nat.add_one_sub_one, Nat.div_one]
            have e0 : ∀ x : List D, x.drop (0 * s) = x := fun x => by simp
            have la := fitsTo_len ha
            have lb := fitsTo_len hb
            rw [run_forIn_all w _ (fun i => eqAll ((a.drop (i * s)).take s) ((b.drop (i * s)).take s)) (List.range' 0 m) ?_]
            · rw [all_parts hc.1 (k := 0) (a := a) (b := b) (by rw [e0]; exact ha) (by rw [e0]; exact hb)]
              simp only [e0, Result.andThen_ok]
              cases eqAll a b <;> simp
            · intro i hi
              have him : i < m := by simpa using hi
              have key : ∀ x : List D, fitsTo (List.replicate m l).flatten x = true → i * s + s ≤ x.length ∧ fitsTo l ((x.drop (i * s)).take s) = true := by
                intro x hx
                have e : List.replicate m l = List.replicate i l ++ (l :: List.replicate (m - i - 1) l) := by
                  rw [← List.replicate_succ, List.replicate_append_replicate]
                  congr 1
                  omega
                rw [e, List.flatten_append, List.flatten_cons] at hx
                have h1 := (fitsTo_append hx).2
                have h2 := (fitsTo_append h1).1
                have e2 : (List.replicate i l).flatten.length = i * s := by simp [hc.1]
                rw [e2, hc.1] at h2
                have e3 := fitsTo_len hx
                simp only [List.length_append, e2, hc.1] at e3
                exact ⟨by omega, h2⟩
              obtain ⟨fa, ga⟩ := key a ha
              obtain ⟨fb, gb⟩ := key b hb
              have := ih d (by omega) hl (n := n) (by omega) ga gb w
              simp only [Sem.run_bind, part_valT hs hge (by simpa using hc.2) fa, part_valT hs hge (by simpa using hc.2) fb, Result.andThen_ok, this]
              cases eqAll ((a.drop (i * s)).take s) ((b.drop (i * s)).take s) <;> simp
          · cases h
        · cases h
      · cases h
theorem EqOK.ofShape {t : TypeId} {d : Nat} {z : List D} (hs : shapeD P d t = some z) (hz : zeroD P t = some z) (hd : d ≤ 10000) (ha : aggD P t = some true) (hg : P.eqGuardType P.depth t = false) : EqOK P t := by
  refine eqok_of hg fun z' a b w hz' hfa hfb => ?_
  rw [hz] at hz'
  cases hz'
  have := equalIn_shape d hs hd hfa hfb w
  rwa [valT_agg ha, valT_agg ha] at this
end
end Go.Ev

namespace Go.Ev
structure Source where
  name : ByteArray
  ra : Int
  dec : Int
def i64 (n : Int) : D := .int .i64 n
def u64 (n : Int) : D := .int .u64 n
def Span.cells (a : Span) : List D := [.int .i64 a.lo, .int .i64 a.hi]
def Frac.cells (a : Frac) : List D := [.int .i64 a.num, .int .i64 a.den]
def Delay.cells (a : Delay) : List D := [.int .i64 a.whole, .int .i64 a.part.lo, .int .i64 a.part.hi]
def Dir.cells (a : Dir) : List D := [.int .i64 a.x.lo, .int .i64 a.x.hi, .int .i64 a.y.lo, .int .i64 a.y.hi, .int .i64 a.z.lo, .int .i64 a.z.hi]
def Vec.cells (a : Vec) : List D := [.int .i64 a.x.num, .int .i64 a.x.den, .int .i64 a.y.num, .int .i64 a.y.den, .int .i64 a.z.num, .int .i64 a.z.den]
def Window.cells (a : Window) : List D := [.int .i64 a.frm, .int .i64 a.too]
def Source.cells (a : Source) : List D := [.str a.name, .int .i64 a.ra, .int .i64 a.dec]
def w64 (n : Int) : Int := wr .i64 n
def wu64 (n : Int) : Int := wr .u64 n
def rSpan (a : Span) : AV := .v (.agg a.cells)
def rFrac (a : Frac) : AV := .v (.agg a.cells)
def rVec (a : Vec) : AV := .v (.agg a.cells)
def rSpanE (r : Span × Int) : AV := .tup [.agg r.1.cells, .c (.d (.int .i64 r.2))]
def rFracE (r : Frac × Int) : AV := .tup [.agg r.1.cells, .c (.d (.int .i64 r.2))]
def rDirE (r : Dir × Int) : AV := .tup [.agg r.1.cells, .c (.d (.int .i64 r.2))]
def rVecE (r : Vec × Int) : AV := .tup [.agg r.1.cells, .c (.d (.int .i64 r.2))]
def rIntE (r : Int × Int) : AV := .tup [.c (.d (.int .i64 r.1)), .c (.d (.int .i64 r.2))]
def rIB (r : Int × Bool) : AV := .tup [.c (.d (.int .i64 r.1)), .c (.d (.bool r.2))]
def rSpanB (r : Span × Bool) : AV := .tup [.agg r.1.cells, .c (.d (.bool r.2))]
def rI (n : Int) : AV := aint .i64 n
def rU (n : Int) : AV := aint .u64 n
def rUU (r : Int × Int) : AV := .tup [.c (.d (.int .u64 r.1)), .c (.d (.int .u64 r.2))]
def rB (b : Bool) : AV := abool b
def spanZ : Span := ⟨0, 0⟩
def fracZ : Frac := ⟨0, 0⟩
def delayZ : Delay := ⟨0, spanZ⟩
def dirZ : Dir := ⟨spanZ, spanZ, spanZ⟩
def vecZ : Vec := ⟨fracZ, fracZ, fracZ⟩
end Go.Ev

namespace Go.Ev
open Go
def bandU (x y : Int) : Int := wr .u64 ((BitVec.ofInt 64 x &&& BitVec.ofInt 64 y).toNat : Nat)
def borU (x y : Int) : Int := wr .u64 ((BitVec.ofInt 64 x ||| BitVec.ofInt 64 y).toNat : Nat)
def shrU (x b : Int) : Int := x.fdiv (2 ^ (min b.toNat (IntKind.bits .u64)))
def shlU (x b : Int) : Int := wr .u64 (x * 2 ^ (min b.toNat (IntKind.bits .u64)))
theorem w64_id {n : Int} (h : -9223372036854775808 ≤ n ∧ n ≤ 9223372036854775807) : w64 n = n := by
  simp only [w64, wr]
  omega
theorem wu64_id {n : Int} (h : 0 ≤ n ∧ n ≤ 18446744073709551615) : wu64 n = n := by
  simp only [wu64, wr]
  omega
theorem wu64_eq (n : Int) : wu64 n = n % 18446744073709551616 := rfl
theorem ofInt_natCast (n : Nat) : BitVec.ofInt 64 (n : Int) = BitVec.ofNat 64 n := by
  apply BitVec.eq_of_toNat_eq
  simp only [BitVec.toNat_ofInt, BitVec.toNat_ofNat]
  omega
theorem bandU_nat (a b : Nat) (ha : a < 18446744073709551616) (hb : b < 18446744073709551616) : bandU a b = ((a &&& b : Nat) : Int) := by
  unfold bandU
  rw [ofInt_natCast, ofInt_natCast, BitVec.toNat_and, BitVec.toNat_ofNat, BitVec.toNat_ofNat, Nat.mod_eq_of_lt (by omega), Nat.mod_eq_of_lt (by omega)]
  have : a &&& b ≤ a := Nat.and_le_left
  exact wu64_id (by omega)
theorem borU_nat (a b : Nat) (ha : a < 18446744073709551616) (hb : b < 18446744073709551616) : borU a b = ((a ||| b : Nat) : Int) := by
  unfold borU
  rw [ofInt_natCast, ofInt_natCast, BitVec.toNat_or, BitVec.toNat_ofNat, BitVec.toNat_ofNat, Nat.mod_eq_of_lt (by omega), Nat.mod_eq_of_lt (by omega)]
  have : a ||| b < 2 ^ 64 := Nat.or_lt_two_pow (by omega) (by omega)
  exact wu64_id (by omega)
theorem shrU_nat (a b : Nat) (hb : b ≤ 64) : shrU a b = ((a / 2 ^ b : Nat) : Int) := by
  unfold shrU
  simp only [IntKind.bits, Int.toNat_natCast]
  rw [Nat.min_eq_left hb, Int.fdiv_eq_ediv_of_nonneg _ (Int.le_of_lt (Int.pow_pos (by omega)))]
  simp
theorem shlU_nat (a b : Nat) (hb : b ≤ 64) : shlU a b = ((a * 2 ^ b % 18446744073709551616 : Nat) : Int) := by
  unfold shlU
  simp only [IntKind.bits, Int.toNat_natCast]
  rw [Nat.min_eq_left hb]
  show wu64 _ = _
  rw [wu64_eq]
  simp
theorem band_mask (a : Nat) (ha : a < 18446744073709551616) : bandU a 4294967295 = ((a % 4294967296 : Nat) : Int) := by
  have := bandU_nat a 4294967295 ha (by omega)
  rw [show a &&& 4294967295 = a % 4294967296 from Nat.and_two_pow_sub_one_eq_mod a 32] at this
  exact this
theorem shr_32 (a : Nat) : shrU a 32 = ((a / 4294967296 : Nat) : Int) := shrU_nat a 32 (by omega)
def mulRaw (x y : Int) : Int × Int :=
  (wu64 (wu64 (wu64 (shrU x 32 * shrU y 32) + shrU (wu64 (wu64 (shrU x 32 * bandU y 4294967295) + shrU (wu64 (bandU x 4294967295 * bandU y 4294967295)) 32)) 32) +
    shrU (wu64 (bandU (wu64 (wu64 (shrU x 32 * bandU y 4294967295) + shrU (wu64 (bandU x 4294967295 * bandU y 4294967295)) 32)) 4294967295 + wu64 (bandU x 4294967295 * shrU y 32))) 32),
   wu64 (x * y))
def mul64 (x y : Int) : Int × Int := (x * y / 18446744073709551616, x * y % 18446744073709551616)
theorem wuN (a : Nat) (ha : a < 18446744073709551616) : wu64 (a : Int) = (a : Int) := wu64_id (by omega)
theorem mul64_ok {x y : Int} (hx : 0 ≤ x ∧ x ≤ 18446744073709551615) (hy : 0 ≤ y ∧ y ≤ 18446744073709551615) : mulRaw x y = mul64 x y := by
  obtain ⟨a, rfl⟩ := Int.eq_ofNat_of_zero_le hx.1
  obtain ⟨b, rfl⟩ := Int.eq_ofNat_of_zero_le hy.1
  have ha : a < 18446744073709551616 := by omega
  have hb : b < 18446744073709551616 := by omega
  obtain ⟨bd, bt, bw, hhi⟩ := Lib.mul64_hi a b ha hb
  have ba := Lib.half_mul_le (a := a / 4294967296) (b := b / 4294967296) (by omega) (by omega)
  have bb := Lib.half_mul_le (a := a / 4294967296) (b := b % 4294967296) (by omega) (by omega)
  have bc := Lib.half_mul_le (a := a % 4294967296) (b := b / 4294967296) (by omega) (by omega)
  have ba' : a / 4294967296 * (b / 4294967296) < 18446744073709551616 := by omega
  have bb' : a / 4294967296 * (b % 4294967296) < 18446744073709551616 := by omega
  have bc' : a % 4294967296 * (b / 4294967296) < 18446744073709551616 := by omega
  have bh1 : a / 4294967296 * (b / 4294967296) + (a / 4294967296 * (b % 4294967296) + a % 4294967296 * (b % 4294967296) / 4294967296) / 4294967296 < 18446744073709551616 := by omega
  have bh : a / 4294967296 * (b / 4294967296) + (a / 4294967296 * (b % 4294967296) + a % 4294967296 * (b % 4294967296) / 4294967296) / 4294967296 + ((a / 4294967296 * (b % 4294967296) + a % 4294967296 * (b % 4294967296) / 4294967296) % 4294967296 + a % 4294967296 * (b / 4294967296)) / 4294967296 < 18446744073709551616 := by omega
  unfold mulRaw mul64
  have m : ∀ p q : Nat, (p : Int) * (q : Int) = ((p * q : Nat) : Int) := fun p q => (Int.natCast_mul p q).symm
  have s : ∀ p q : Nat, (p : Int) + (q : Int) = ((p + q : Nat) : Int) := fun p q => (Int.natCast_add p q).symm
  simp only [band_mask a ha, band_mask b hb, shr_32, m, s, wuN _ bd, wuN _ bb', wuN _ bt, band_mask _ bt, wuN _ bc', wuN _ bw, wuN _ ba', wuN _ bh1, wuN _ bh]
  rw [hhi, wu64_eq]
  refine Prod.ext ?_ rfl
  simp
def lenTab : ByteArray := ⟨⟨[0, 1, 2, 2, 3, 3, 3, 3, 4, 4, 4, 4, 4, 4, 4, 4, 5, 5, 5, 5, 5, 5, 5, 5, 5, 5, 5, 5, 5, 5, 5, 5, 6, 6, 6, 6, 6, 6, 6, 6, 6, 6, 6, 6, 6, 6, 6, 6, 6, 6, 6, 6, 6, 6, 6, 6, 6, 6, 6, 6, 6, 6, 6, 6, 7, 7, 7, 7, 7, 7, 7, 7, 7, 7, 7, 7, 7, 7, 7, 7, 7, 7, 7, 7, 7, 7, 7, 7, 7, 7, 7, 7, 7, 7, 7, 7, 7, 7, 7, 7, 7, 7, 7, 7, 7, 7, 7, 7, 7, 7, 7, 7, 7, 7, 7, 7, 7, 7, 7, 7, 7, 7, 7, 7, 7, 7, 7, 7, 8, 8, 8, 8, 8, 8, 8, 8, 8, 8, 8, 8, 8, 8, 8, 8, 8, 8, 8, 8, 8, 8, 8, 8, 8, 8, 8, 8, 8, 8, 8, 8, 8, 8, 8, 8, 8, 8, 8, 8, 8, 8, 8, 8, 8, 8, 8, 8, 8, 8, 8, 8, 8, 8, 8, 8, 8, 8, 8, 8, 8, 8, 8, 8, 8, 8, 8, 8, 8, 8, 8, 8, 8, 8, 8, 8, 8, 8, 8, 8, 8, 8, 8, 8, 8, 8, 8, 8, 8, 8, 8, 8, 8, 8, 8, 8, 8, 8, 8, 8, 8, 8, 8, 8, 8, 8, 8, 8, 8, 8, 8, 8, 8, 8, 8, 8, 8, 8, 8, 8, 8, 8, 8, 8, 8, 8, 8, 8]⟩⟩
def lenI (x : Int) : Int := if x = 0 then 0 else ((Nat.log2 x.toNat + 1 : Nat) : Int)
def lenTail (n y : Int) (K : AV → List Blk → Ans) : Ans := bif decide (0 ≤ wr .u8 y) && decide (wr .u8 y < (lenTab.size : Int)) then K (rI (w64 (n + w64 (byteAt lenTab (wr .u8 y))))) [] else none
def lenTail2 (n y : Int) (K : AV → List Blk → Ans) : Ans := bif decide (256 ≤ y) then lenTail (w64 (n + 8)) (shrU y 8) K else lenTail n y K
def lenTail3 (n y : Int) (K : AV → List Blk → Ans) : Ans := bif decide (65536 ≤ y) then lenTail2 (w64 (n + 16)) (shrU y 16) K else lenTail2 n y K
def lenAns (K : AV → List Blk → Ans) (x : Int) : Ans := bif decide (4294967296 ≤ x) then lenTail3 32 (shrU x 32) K else lenTail3 0 x K
theorem lenTab_eq : ∀ j : Fin 256, byteAt lenTab (j.val : Int) = lenI (j.val : Int) := by decide +kernel
theorem lenTab_size : lenTab.size = 256 := by decide +kernel
theorem lenI_pos {x : Int} (h : 0 < x) : lenI x = ((Nat.log2 x.toNat + 1 : Nat) : Int) := by rw [lenI, if_neg (by omega)]
theorem log2_div (x k : Nat) (h : 2 ^ k ≤ x) : Nat.log2 x = Nat.log2 (x / 2 ^ k) + k := by
  have hp : 0 < 2 ^ k := Nat.pow_pos (by omega)
  have hx : x ≠ 0 := by omega
  have hd : x / 2 ^ k ≠ 0 := by
    have := Nat.div_pos h hp
    omega
  obtain ⟨h1, h2⟩ := (Nat.log2_eq_iff hd).1 rfl
  refine (Nat.log2_eq_iff hx).2 ⟨?_, ?_⟩
  · rw [Nat.pow_add]
    exact Nat.le_trans (Nat.mul_le_mul_right _ h1) (Nat.div_mul_le_self x _)
  · rw [show Nat.log2 (x / 2 ^ k) + k + 1 = (Nat.log2 (x / 2 ^ k) + 1) + k by omega, Nat.pow_add]
    rw [Nat.div_lt_iff_lt_mul hp] at h2
    exact h2
theorem lenI_shift (a k : Nat) (hk : k ≤ 64) (h : 2 ^ k ≤ a) : lenI (shrU a k) + k = lenI a := by
  have hp : 0 < 2 ^ k := Nat.pow_pos (by omega)
  rw [shrU_nat a k hk]
  have hd : 0 < a / 2 ^ k := Nat.div_pos h hp
  rw [lenI_pos (by omega), lenI_pos (by omega)]
  simp only [Int.toNat_natCast]
  rw [log2_div a k h]
  omega
theorem lenTail_eq (n : Int) (a : Nat) (hn : 0 ≤ n ∧ n ≤ 100) (ha : a < 256) (K : AV → List Blk → Ans) : lenTail n a K = K (rI (n + lenI a)) [] := by
  have e : wr .u8 (a : Int) = a := by simp only [wr]; omega
  have h1 := lenTab_eq ⟨a, ha⟩
  simp only at h1
  have h2 : 0 ≤ lenI (a : Int) ∧ lenI (a : Int) ≤ 255 := by
    rw [← h1]
    have := byteAt_ok lenTab (a : Int)
    simpa [inR] using this
  unfold lenTail
  rw [e, lenTab_size, h1, w64_id (n := lenI a) (by omega), w64_id (by omega)]
  simp only [decide_eq_true (show (0 : Int) ≤ a by omega), decide_eq_true (show (a : Int) < (256 : Nat) by omega), Bool.and_self, cond_true]
theorem lenTail2_eq (n : Int) (a : Nat) (hn : 0 ≤ n ∧ n ≤ 80) (ha : a < 65536) (K : AV → List Blk → Ans) : lenTail2 n a K = K (rI (n + lenI a)) [] := by
  unfold lenTail2
  by_cases h : 256 ≤ a
  · rw [decide_eq_true (by omega), cond_true, w64_id (by omega)]
    have e := lenI_shift a 8 (by omega) (by omega)
    have es := shrU_nat a 8 (by omega)
    rw [show ((8 : Nat) : Int) = 8 from rfl] at e es
    rw [es] at e ⊢
    rw [lenTail_eq _ _ (by omega) (by omega), ← e]
    congr 2
    omega
  · rw [decide_eq_false (by omega), cond_false, lenTail_eq _ _ (by omega) (by omega)]
theorem lenTail3_eq (n : Int) (a : Nat) (hn : 0 ≤ n ∧ n ≤ 64) (ha : a < 4294967296) (K : AV → List Blk → Ans) : lenTail3 n a K = K (rI (n + lenI a)) [] := by
  unfold lenTail3
  by_cases h : 65536 ≤ a
  · rw [decide_eq_true (by omega), cond_true, w64_id (by omega)]
    have e := lenI_shift a 16 (by omega) (by omega)
    have es := shrU_nat a 16 (by omega)
    rw [show ((16 : Nat) : Int) = 16 from rfl] at e es
    rw [es] at e ⊢
    rw [lenTail2_eq _ _ (by omega) (by omega), ← e]
    congr 2
    omega
  · rw [decide_eq_false (by omega), cond_false, lenTail2_eq _ _ (by omega) (by omega)]
theorem lenAns_ok {x : Int} (h0 : 0 ≤ x) (h1 : x < 18446744073709551616) {K : AV → List Blk → Ans} : lenAns K x = K (rI (lenI x)) [] := by
  obtain ⟨a, rfl⟩ := Int.eq_ofNat_of_zero_le h0
  unfold lenAns
  by_cases h : 4294967296 ≤ a
  · rw [decide_eq_true (by omega), cond_true]
    have e := lenI_shift a 32 (by omega) (by omega)
    have es := shrU_nat a 32 (by omega)
    rw [show ((32 : Nat) : Int) = 32 from rfl] at e es
    rw [es] at e ⊢
    rw [lenTail3_eq _ _ (by omega) (by omega), ← e]
    congr 2
    omega
  · rw [decide_eq_false (by omega), cond_false, lenTail3_eq _ _ (by omega) (by omega), Int.zero_add]
theorem lenI_le {x : Int} (h0 : 0 ≤ x) (h1 : x < 18446744073709551616) : 0 ≤ lenI x ∧ lenI x ≤ 64 := by
  by_cases e : x = 0
  · subst e; simp [lenI]
  · rw [lenI_pos (by omega)]
    have : Nat.log2 x.toNat < 64 := (Nat.log2_lt (by omega)).2 (by omega)
    omega
def gcdI (a b : Int) : Int := a - a + (Int.gcd a b : Int)
theorem gcdI_eq (a b : Int) : gcdI a b = (Int.gcd a b : Int) := by unfold gcdI; omega
theorem gcdI_dvd_left (a b : Int) : gcdI a b ∣ a := by rw [gcdI_eq]; exact Int.gcd_dvd_left ..
theorem gcdI_dvd_right (a b : Int) : gcdI a b ∣ b := by rw [gcdI_eq]; exact Int.gcd_dvd_right ..
theorem gcdI_zero (a : Int) (h : 0 ≤ a) : gcdI a 0 = a := by
  simp only [gcdI_eq, Int.gcd_zero_right]
  omega
theorem gcdI_step (a b : Int) : gcdI b (a.tmod b) = gcdI a b := by
  simp only [gcdI_eq, Int.gcd_eq_natAbs_gcd_natAbs, Int.natAbs_tmod]
  congr 1
  rw [Nat.gcd_comm b.natAbs, ← Nat.gcd_rec, Nat.gcd_comm]
theorem gcdI_nat (a b : Nat) : gcdI a b = (Nat.gcd a b : Nat) := by simp [gcdI_eq, Int.gcd_eq_natAbs_gcd_natAbs]
end Go.Ev

