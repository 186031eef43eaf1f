/-
  The evaluator over operations whose order the model draws: the theorem.
-/
import Derived.Test.YtdmmnpgkidghnaaEvJ
namespace Go.Ev
open Go

theorem stT_shift (d : Nat → Bool) (k : Nat) : ∀ (ops : List Oper) (tr : List Tr) (i : Nat) (T : TS), stT d ops tr (i + k) T = stT (fun j => d (j + k)) ops tr i T
  | [], _, _, _ => by simp [stT]
  | _ :: _, [], _, _ => by simp [stT]
  | o :: r, u :: tr, i, T => by
    simp only [stT]
    rw [show i + k + 1 = i + 1 + k from by omega]
    exact stT_shift d k r tr (i + 1) _

theorem stM_shift (d : Nat → Bool) (k : Nat) : ∀ (tr : List Tr) (i : Nat) (M : List Blk), stM d tr (i + k) M = stM (fun j => d (j + k)) tr i M
  | [], _, _ => by simp [stM]
  | u :: tr, i, M => by
    simp only [stM]
    rw [show i + k + 1 = i + 1 + k from by omega]
    exact stM_shift d k tr (i + 1) _

section
variable {P : Program} {G : Nat → Option (List D)} {gb : Nat} {EQ : Tab}

theorem stT_none : ∀ (ops : List Oper) (tr : List Tr) (i : Nat) (T : TS) (d : Nat → Bool), (∀ j, d j = false) → stT d ops tr i T = T
  | [], _, _, _, _, _ => by simp [stT]
  | _ :: _, [], _, _, _, _ => by simp [stT]
  | o :: r, u :: tr, i, T, d, h => by simp only [stT, h i, cond_false]; exact stT_none r tr (i + 1) T d h

theorem stM_none : ∀ (tr : List Tr) (i : Nat) (M : List Blk) (d : Nat → Bool), (∀ j, d j = false) → stM d tr i M = M
  | [], _, _, _, _ => by simp [stM]
  | u :: tr, i, M, d, h => by simp only [stM, h i, cond_false]; exact stM_none tr (i + 1) M d h

/-- What a trace says of each operation, at the state of the text's order. -/
theorem trace_at {ops l : List Oper} {T T' : TS} {M M' : List Blk} {N N' : Nat} {tr : List Tr} (h : Trace P G gb EQ true ops l T M N tr T' M' N') :
    tr.length = l.length ∧ N' = N + l.length ∧ T' = stT (fun _ => true) l tr 0 T ∧ M' = stM (fun _ => true) tr 0 M ∧
    ∀ i o u, l[i]? = some o → tr[i]? = some u →
      (wantA ops o (stT (fun j => decide (j < i)) l tr 0 T) = some true ∧ Reach P G gb (opO P G EQ o (stT (fun j => decide (j < i)) l tr 0 T) (stM (fun j => decide (j < i)) tr 0 M) (N + i)) u.val u.ss ∧
        u.rd = readsOf o.op (stT (fun j => decide (j < i)) l tr 0 T)) ∨
      (wantA ops o (stT (fun j => decide (j < i)) l tr 0 T) = some false ∧ u = Tr.skip) := by
  induction h with
  | nil => exact ⟨rfl, rfl, rfl, rfl, fun i o u ho => by simp at ho⟩
  | @did o r T M N v s tr T' M' N' hw hr _ ih =>
    obtain ⟨h1, h2, h3, h4, h5⟩ := ih
    refine ⟨by simp [h1], by rw [h2]; simp [nextN]; omega, ?_, ?_, fun i o' u ho hu => ?_⟩
    · simp only [stT, cond_true]
      rw [show (0 + 1) = 0 + 1 from rfl, stT_shift]
      exact h3
    · simp only [stM, cond_true]
      rw [stM_shift]
      exact h4
    · cases i with
      | zero =>
        simp only [List.getElem?_cons_zero, Option.some.injEq] at ho hu
        subst ho
        subst hu
        have e1 := stT_none (o :: r) (⟨true, v, s, readsOf o.op T⟩ :: tr) 0 T (fun j => decide (j < 0)) (by simp)
        have e2 := stM_none (⟨true, v, s, readsOf o.op T⟩ :: tr) 0 M (fun j => decide (j < 0)) (by simp)
        rw [e1, e2]
        exact .inl ⟨hw, hr, rfl⟩
      | succ i =>
        simp only [List.getElem?_cons_succ] at ho hu
        have e1 : stT (fun j => decide (j < i + 1)) (o :: r) (⟨true, v, s, readsOf o.op T⟩ :: tr) 0 T = stT (fun j => decide (j < i)) r tr 0 (setT T o.dst v) := by
          simp only [stT]
          rw [stT_shift]
          simp
        have e2 : stM (fun j => decide (j < i + 1)) (⟨true, v, s, readsOf o.op T⟩ :: tr) 0 M = stM (fun j => decide (j < i)) tr 0 (puts M s) := by
          simp only [stM]
          rw [stM_shift]
          simp
        rw [e1, e2]
        have := h5 i o' u ho hu
        simp only [nextN, Bool.true_or, cond_true] at this
        rw [show N + (i + 1) = N + 1 + i from by omega]
        exact this
  | @skip o r T M N tr T' M' N' hw _ ih =>
    obtain ⟨h1, h2, h3, h4, h5⟩ := ih
    refine ⟨by simp [h1], by rw [h2]; simp [nextN]; omega, ?_, ?_, fun i o' u ho hu => ?_⟩
    · simp only [stT, cond_true, Tr.skip]
      rw [stT_shift]
      exact h3
    · simp only [stM, cond_true, Tr.skip]
      rw [stM_shift]
      exact h4
    · cases i with
      | zero =>
        simp only [List.getElem?_cons_zero, Option.some.injEq] at ho hu
        subst ho
        subst hu
        have e1 := stT_none (o :: r) (Tr.skip :: tr) 0 T (fun j => decide (j < 0)) (by simp)
        rw [e1]
        exact .inr ⟨hw, rfl⟩
      | succ i =>
        simp only [List.getElem?_cons_succ] at ho hu
        have e1 : stT (fun j => decide (j < i + 1)) (o :: r) (Tr.skip :: tr) 0 T = stT (fun j => decide (j < i)) r tr 0 (setT T o.dst undefA) := by
          simp only [stT]
          rw [stT_shift]
          simp [Tr.skip]
        have e2 : stM (fun j => decide (j < i + 1)) (Tr.skip :: tr) 0 M = stM (fun j => decide (j < i)) tr 0 M := by
          simp only [stM]
          rw [stM_shift]
          simp [Tr.skip, puts]
        rw [e1, e2]
        have := h5 i o' u ho hu
        simp only [nextN, Bool.true_or, cond_true] at this
        rw [show N + (i + 1) = N + 1 + i from by omega]
        exact this

/-! ### Which operations must have run -/

/-- j runs behind i, by an edge. -/
def Edged (ops : List Oper) (j i : Nat) : Prop := ∃ o, ops[j]? = some o ∧ ∃ e ∈ o.after.toList, Region.binds .any e = true ∧ e.on = i

theorem foldl_bits (acc : List Nat) : ∀ (es : List Edge) (s i : Nat), (es.foldl (fun s e => bif Region.binds .any e then s ||| (2 ^ e.on) ||| acc.getD e.on 0 else s) s).testBit i = true →
    s.testBit i = true ∨ ∃ e ∈ es, Region.binds .any e = true ∧ (e.on = i ∨ (acc.getD e.on 0).testBit i = true)
  | [], s, i, h => .inl h
  | e :: r, s, i, h => by
    simp only [List.foldl_cons] at h
    rcases foldl_bits acc r _ i h with h1 | ⟨e', he', h2⟩
    · cases hb : Region.binds .any e with
      | false => rw [hb] at h1; exact .inl h1
      | true =>
        rw [hb] at h1
        simp only [cond_true, Nat.testBit_or, Nat.testBit_two_pow, Bool.or_eq_true, decide_eq_true_eq] at h1
        rcases h1 with (h1 | h1) | h1
        · exact .inl h1
        · exact .inr ⟨e, by simp, hb, .inl h1⟩
        · exact .inr ⟨e, by simp, hb, .inr h1⟩
    · exact .inr ⟨e', by simp [he'], h2⟩

theorem edgesBack_lt : ∀ (ops : List Oper) (i : Nat), edgesBack ops i = true → ∀ j o, ops[j]? = some o → ∀ e ∈ o.after.toList, Region.binds .any e = true → e.on < i + j
  | [], _, _, _, _, ho, _, _, _ => by simp at ho
  | o0 :: r, i, h, j, o, ho, e, he, hbe => by
    simp only [edgesBack, Bool.and_eq_true] at h
    cases j with
    | zero =>
      simp only [List.getElem?_cons_zero, Option.some.injEq] at ho
      subst ho
      have := List.all_eq_true.1 h.1 e he
      simpa [hbe] using this
    | succ j =>
      have := edgesBack_lt r (i + 1) h.2 j o (by simpa using ho) e he hbe
      omega

/-- Sets of operations that hold whatever must run ahead of their members hold all that 'befores' names. -/
theorem befores_spec (d : Nat → Prop) : ∀ (l pre : List Oper) (acc : List Nat), acc.length = pre.length → edgesBack (pre ++ l) 0 = true → (∀ j i, d j → Edged (pre ++ l) j i → d i) →
    (∀ j, j < acc.length → ∀ i, (acc.getD j 0).testBit i = true → (∀ k, Edged (pre ++ l) j k → d k) → d i) →
    ∀ j i, ((befores l acc).getD j 0).testBit i = true → (∀ k, Edged (pre ++ l) j k → d k) → d i
  | [], pre, acc, _, _, _, hacc, j, i, h, hk => by
    simp only [befores] at h
    rcases Nat.lt_or_ge j acc.length with h1 | h1
    · exact hacc j h1 i h hk
    · rw [List.getD_eq_getElem?_getD, List.getElem?_eq_none h1] at h
      simp at h
  | o :: r, pre, acc, hl, hb, hcl, hacc, j, i, h, hk => by
    simp only [befores] at h
    have e0 : pre ++ o :: r = (pre ++ [o]) ++ r := by simp
    rw [e0] at hb hcl hacc hk
    refine befores_spec d r (pre ++ [o]) _ (by simp [hl]) hb hcl ?_ j i h hk
    intro j' hj' i' hi' hk'
    simp only [List.length_append, List.length_singleton] at hj'
    by_cases hlt : j' < acc.length
    · refine hacc j' hlt i' ?_ hk'
      rw [List.getD_eq_getElem?_getD, List.getElem?_append_left hlt] at hi'
      rw [List.getD_eq_getElem?_getD]
      exact hi'
    · have hj : j' = acc.length := by omega
      subst hj
      rw [List.getD_eq_getElem?_getD, List.getElem?_append_right (Nat.le_refl _)] at hi'
      simp only [Nat.sub_self, List.getElem?_cons_zero, Option.getD_some] at hi'
      rcases foldl_bits acc o.after.toList 0 i' hi' with h1 | ⟨e, he, hbe, h2⟩
      · simp at h1
      · have ho : (pre ++ [o] ++ r)[acc.length]? = some o := by rw [hl]; simp
        have hed : Edged (pre ++ [o] ++ r) acc.length e.on := ⟨o, ho, e, he, hbe, rfl⟩
        have hde := hk' _ hed
        rcases h2 with h2 | h2
        · rw [← h2]; exact hde
        · have hlt' : e.on < acc.length := by have := edgesBack_lt _ 0 hb acc.length o ho e he hbe; omega
          exact hacc e.on hlt' i' h2 fun k hek => hcl e.on k hde hek

theorem TRel.congr {σ : Sg} {T T' : TS} {a : Act} (h : TRel σ T a) (hl : T'.length = T.length) (hv : ∀ t, tget T' t = tget T t) : TRel σ T' a :=
  ⟨hl.trans h.len, fun t => by rw [hv]; exact h.val t, h.df⟩

theorem memD_iff {l : List Nat} {x : Nat} : memD l x = true ↔ x ∈ l := by simp [memD]

theorem meetsL_false {l r : List Nat} (h : meetsL l r = false) : ∀ x ∈ l, x ∉ r := by
  intro x hx hr
  have : meetsL l r = true := List.any_eq_true.2 ⟨x, hx, memD_iff.2 hr⟩
  rw [h] at this
  cases this

theorem freeT_spec {ops : List Oper} {x y : Oper} (h : freeT ops x y = true) :
    (∀ d, x.dst = some d → d ∉ looksOf ops y) ∧ (∀ d, x.dst = some d → y.dst ≠ some d) ∧ (∀ d, y.dst = some d → d ∉ looksOf ops x) := by
  simp only [freeT, Bool.and_eq_true] at h
  obtain ⟨h1, h2⟩ := h
  refine ⟨fun d hd => ?_, fun d hd e => ?_, fun d hd => ?_⟩
  · rw [hd] at h1
    simp only [Bool.and_eq_true, Bool.not_eq_true'] at h1
    intro hm
    rw [memD_iff.2 hm] at h1
    exact absurd h1.1 (by simp)
  · rw [hd, e] at h1
    simp at h1
  · rw [hd] at h2
    simp only [Bool.not_eq_true'] at h2
    intro hm
    rw [memD_iff.2 hm] at h2
    cases h2

theorem freeM_spec {x y : Tr} (h : freeM x y = true) : (∀ p ∈ x.ss, p.1 ∉ y.rd) ∧ (∀ p ∈ x.ss, ∀ q ∈ y.ss, p.1 ≠ q.1) ∧ (∀ q ∈ y.ss, q.1 ∉ x.rd) := by
  simp only [freeM, Bool.and_eq_true, Bool.not_eq_true'] at h
  obtain ⟨h1, h2⟩ := h
  refine ⟨fun p hp hm => ?_, fun p hp q hq e => ?_, fun q hq hm => ?_⟩
  · exact meetsL_false h1 p.1 (List.mem_map.2 ⟨p, hp, rfl⟩) (by simp [hm])
  · exact meetsL_false h1 p.1 (List.mem_map.2 ⟨p, hp, rfl⟩) (by simp only [List.mem_append, List.mem_map]; exact .inr ⟨q, hq, e.symm⟩)
  · exact meetsL_false h2 q.1 (List.mem_map.2 ⟨q, hq, rfl⟩) hm

theorem count_set_true : ∀ (l : List Bool) (i : Nat), l[i]? = some false → (l.set i true).count false + 1 = l.count false
  | [], i, h => by simp at h
  | b :: r, 0, h => by
    simp only [List.getElem?_cons_zero, Option.some.injEq] at h
    subst h
    simp
  | b :: r, i + 1, h => by
    have := count_set_true r i (by simpa using h)
    simp only [List.set_cons_succ, List.count_cons]
    omega

theorem noNew_spec : ∀ (tr : List Tr) (N : Nat), noNew N tr = true → ∀ (i : Nat) u, tr[i]? = some u → (∃ p ∈ u.ss, p.1 = N + i) → False
  | [], _, _, i, u, hu, _ => by simp at hu
  | v :: r, N, h, 0, u, hu, ⟨p, hp, e⟩ => by
    simp only [List.getElem?_cons_zero, Option.some.injEq] at hu
    subst hu
    simp only [noNew, Bool.and_eq_true, Bool.not_eq_true', List.any_eq_false, beq_iff_eq] at h
    exact h.1 p hp (by simpa using e)
  | v :: r, N, h, i + 1, u, hu, ⟨p, hp, e⟩ => by
    simp only [noNew, Bool.and_eq_true] at h
    exact noNew_spec r (N + 1) h.2 i u (by simpa using hu) ⟨p, hp, by omega⟩

/-- The whole region, in whatever order. -/
theorem quietT_ss : ∀ {tr : List Tr}, quietT tr = true → ∀ u ∈ tr, u.ss = []
  | [], _, _, h => by cases h
  | u :: r, h, v, hv => by
    unfold quietT at h
    split at h
    · rename_i e
      rcases List.mem_cons.1 hv with rfl | hv
      · exact e
      · exact quietT_ss h v hv
    · cases h

theorem draw_sound (hEQ : ∀ t, t ∈ EQ.eq → EqOK P t) (hm : P.follows .mixedOrders = true) {ops : Array Oper} {w0 : World} {W : Nat → Prop} (hG : Glob G gb W w0) {Q : Exit → Act → World → Prop} {T T' : TS} {M M' : List Blk} {N N' : Nat} {tr : List Tr} {id : Nat}
    (h : Trace P G gb EQ true ops.toList ops.toList T M N tr T' M' N') (hd : drawOk ops.toList tr = true) {σ : Sg} {a : Act} {w : World} (hT : TRel σ T a) (hM : MRel w0 W σ M w) (hN : ∀ b, N ≤ b → σ b = none)
    (hQ : ∀ τ a' w', σ.le τ → TRel τ T' a' → MRel w0 W τ M' w' → (∀ b, endN N N' tr ≤ b → τ b = none) → Q .normal a' w') : (Code.region id ops true).wp P Q a w := by
  obtain ⟨hlen, hN', hT', hM', hat⟩ := trace_at h
  simp only [drawOk, Bool.and_eq_true] at hd
  obtain ⟨hback, hpairs⟩ := hd
  have hpair : ∀ i j x y t u, i < j → ops.toList[i]? = some x → ops.toList[j]? = some y → tr[i]? = some t → tr[j]? = some u →
      ((befores ops.toList []).getD j 0).testBit i = true ∨ (freeT ops.toList x y = true ∧ freeM t u = true) := by
    intro i j x y t u hij hx hy ht hu
    have hj : j < ops.toList.length := (List.getElem?_eq_some_iff.1 hy).1
    simp only [Bool.or_eq_true, Bool.and_eq_true] at hpairs
    rcases hpairs with ⟨hq, hpairs⟩ | hpairs
    · have := List.all_eq_true.1 (List.all_eq_true.1 hpairs j (List.mem_range.2 hj)) i (List.mem_range.2 hij)
      rw [hx, hy] at this
      have e1 := quietT_ss hq t (List.mem_of_getElem? ht)
      have e2 := quietT_ss hq u (List.mem_of_getElem? hu)
      have hf : freeM t u = true := by unfold freeM; rw [e1, e2]; rfl
      rw [hf]
      simpa using this
    · have := List.all_eq_true.1 (List.all_eq_true.1 hpairs j (List.mem_range.2 hj)) i (List.mem_range.2 hij)
      rw [hx, hy, ht, hu] at this
      simpa using this
  have hedge : ∀ (j : Nat) (o : Oper), ops.toList[j]? = some o → ∀ e ∈ o.after.toList, Region.binds .any e = true → e.on < j := fun j o ho e he hbe => by
    have := edgesBack_lt _ 0 hback j o ho e he hbe
    omega
  have hge : ∀ b, endN N N' tr ≤ b → N ≤ b := by
    intro b hb
    unfold endN at hb
    cases hn : noNew N tr <;> simp only [hn, cond_true, cond_false] at hb <;> omega
  have hend : ∀ b, endN N N' tr ≤ b → ∀ i u, tr[i]? = some u → (∃ p ∈ u.ss, p.1 = N + i) → b ≠ N + i := by
    intro b hb i u hu hp
    unfold endN at hb
    cases hn : noNew N tr with
    | true => exact (noNew_spec tr N hn i u hu hp).elim
    | false =>
      simp only [hn, cond_false] at hb
      have := (List.getElem?_eq_some_iff.1 hu).1
      have hsz' : ops.toList.length = ops.size := by simp
      omega
  -- the invariant
  have main : ∀ (fuel : Nat) (listed : Array Bool) (τ : Sg) (a' : Act) (w' : World), listed.size = ops.size → listed.toList.count false ≤ fuel →
      (∀ j i, listed.getD j false = true → Edged ops.toList j i → listed.getD i false = true) → σ.le τ →
      TRel τ (stT (fun j => listed.getD j false) ops.toList tr 0 T) a' → MRel w0 W τ (stM (fun j => listed.getD j false) tr 0 M) w' →
      (∀ b, N ≤ b → (∀ i u, listed.getD i false = true → tr[i]? = some u → (∃ p ∈ u.ss, p.1 = N + i) → b ≠ N + i) → τ b = none) → wpAny P .any ops Q fuel listed a' w' := by
    intro fuel
    induction fuel with
    | zero =>
      intro listed τ a' w' hsz hcnt hcl hle hTa hMa hfr
      have hall : ∀ j, j < ops.size → listed.getD j false = true := by
        intro j hj
        have h0 : listed.toList.count false = 0 := by omega
        have hnm := List.count_eq_zero.1 h0
        have hj' : j < listed.size := by omega
        rw [Array.getD_eq_getD_getElem?, Array.getElem?_eq_getElem hj']
        simp only [Option.getD_some]
        cases hv : listed[j] with
        | true => rfl
        | false => exact absurd (by rw [← hv]; exact Array.mem_toList_iff.2 (Array.getElem_mem hj')) hnm
      refine ⟨?_, ?_⟩
      · apply List.eq_nil_iff_forall_not_mem.2
        intro j hj
        obtain ⟨h1, o, ho, _⟩ := mem_ready.1 hj
        have hj' : j < ops.size := (Array.getElem?_eq_some_iff.1 ho).1
        have h2 := hall j hj'
        have hj2 : j < listed.size := by omega
        rw [Array.getD_eq_getD_getElem?, Array.getElem?_eq_getElem hj2] at h1 h2
        simp only [Option.getD_some] at h1 h2
        rw [h1] at h2
        cases h2
      · refine hQ τ a' w' hle (hTa.congr ?_ fun t => ?_) (hMa.congr fun b => .inl ?_) fun b hb => hfr b (hge b hb) fun i u _ hu hp => hend b hb i u hu hp
        · rw [hT', length_stT, length_stT]
        · rw [hT']
          refine stT_congr _ _ 0 _ _ rfl rfl fun j o ho _ => ?_
          rw [Nat.zero_add]
          exact (hall j (by have := (List.getElem?_eq_some_iff.1 ho).1; simpa using this)).symm
        · rw [hM']
          refine stM_congr _ 0 _ _ rfl fun j u hu _ => ?_
          rw [Nat.zero_add]
          exact (hall j (by have := (List.getElem?_eq_some_iff.1 hu).1; rw [hlen] at this; simpa using this)).symm
    | succ fuel ih =>
      intro listed τ a' w' hsz hcnt hcl hle hTa hMa hfr
      refine ⟨fun hnil => ?_, fun i hi => ?_⟩
      · -- nothing is ready: all have run
        have hall : ∀ j, j < ops.size → listed.getD j false = true := by
          intro j
          induction j using Nat.strongRecOn with
          | _ j ihj =>
            intro hj
            cases hv : listed.getD j false with
            | true => rfl
            | false =>
              exfalso
              have hj2 : j < listed.size := by omega
              have ho : ops[j]? = some ops[j] := Array.getElem?_eq_getElem hj
              have : j ∈ Region.ready .any ops listed := mem_ready.2 ⟨by rw [Array.getD_eq_getD_getElem?, Array.getElem?_eq_getElem hj2] at hv ⊢; exact hv, ops[j], ho, fun e he hbe => by
                have hlt := hedge j ops[j] (by rw [Array.getElem?_toList]; exact ho) e (by simpa using he) hbe
                exact ihj e.on hlt (by omega)⟩
              rw [hnil] at this
              cases this
        refine hQ τ a' w' hle (hTa.congr ?_ fun t => ?_) (hMa.congr fun b => .inl ?_) fun b hb => hfr b (hge b hb) fun i u _ hu hp => hend b hb i u hu hp
        · rw [hT', length_stT, length_stT]
        · rw [hT']
          refine stT_congr _ _ 0 _ _ rfl rfl fun j o ho _ => ?_
          rw [Nat.zero_add]
          exact (hall j (by have := (List.getElem?_eq_some_iff.1 ho).1; simpa using this)).symm
        · rw [hM']
          refine stM_congr _ 0 _ _ rfl fun j u hu _ => ?_
          rw [Nat.zero_add]
          exact (hall j (by have := (List.getElem?_eq_some_iff.1 hu).1; rw [hlen] at this; simpa using this)).symm
      · -- operation i runs next
        obtain ⟨hun, o, ho, hpre⟩ := mem_ready.1 hi
        have hi' : i < ops.size := (Array.getElem?_eq_some_iff.1 ho).1
        have hil : i < listed.size := by omega
        have hol : ops.toList[i]? = some o := by rw [Array.getElem?_toList]; exact ho
        have hdi : listed.getD i false = false := by
          rw [Array.getD_eq_getD_getElem?, Array.getElem?_eq_getElem hil] at hun ⊢
          exact hun
        obtain ⟨u, hu⟩ : ∃ u, tr[i]? = some u := ⟨tr[i]'(by rw [hlen]; simpa using hi'), List.getElem?_eq_getElem _⟩
        have hbefi : ∀ j, ((befores ops.toList []).getD i 0).testBit j = true → listed.getD j false = true := by
          intro j hj
          refine befores_spec (fun j => listed.getD j false = true) ops.toList [] [] rfl hback (fun j i h1 h2 => hcl j i h1 h2) (fun j hj => by simp at hj) i j hj fun k hk => ?_
          obtain ⟨o', ho', e, he, hb, rfl⟩ := hk
          rw [List.nil_append, hol] at ho'
          cases ho'
          exact hpre e (by simpa using he) hb
        have hbefj : ∀ j, listed.getD j false = true → ((befores ops.toList []).getD j 0).testBit i = true → False := by
          intro j hj hb
          have := befores_spec (fun j => listed.getD j false = true) ops.toList [] [] rfl hback (fun j i h1 h2 => hcl j i h1 h2) (fun j hj => by simp at hj) j i hb fun k hk => hcl j k hj hk
          rw [hdi] at this
          cases this
        -- slots and blocks that it looks at are as in the text's order
        have agT : ∀ t ∈ looksOf ops.toList o, tget (stT (fun j => listed.getD j false) ops.toList tr 0 T) t = tget (stT (fun j => decide (j < i)) ops.toList tr 0 T) t := by
          intro t ht
          refine stT_congr _ _ 0 _ _ rfl rfl fun j o' ho' hdst => ?_
          rw [Nat.zero_add]
          obtain ⟨u', hu'⟩ : ∃ u', tr[j]? = some u' := ⟨tr[j]'(by rw [hlen]; exact (List.getElem?_eq_some_iff.1 ho').1), List.getElem?_eq_getElem _⟩
          rcases Nat.lt_trichotomy j i with hji | hji | hji
          · rw [decide_eq_true hji]
            rcases hpair j i o' o u' u hji ho' hol hu' hu with hb | ⟨hf, _⟩
            · exact hbefi j hb
            · exact absurd ht ((freeT_spec hf).1 t hdst)
          · subst hji
            rw [hdi]
            simp
          · rw [decide_eq_false (by omega)]
            cases hv : listed.getD j false with
            | false => rfl
            | true =>
              rcases hpair i j o o' u u' hji hol ho' hu hu' with hb | ⟨hf, _⟩
              · exact (hbefj j hv hb).elim
              · exact absurd ht ((freeT_spec hf).2.2 t hdst)
        have agM : ∀ b ∈ u.rd, mget (stM (fun j => listed.getD j false) tr 0 M) b = mget (stM (fun j => decide (j < i)) tr 0 M) b := by
          intro b hbr
          refine stM_congr _ 0 _ _ rfl fun j u' hu' hp => ?_
          rw [Nat.zero_add]
          obtain ⟨p, hp1, rfl⟩ := hp
          obtain ⟨o', ho'⟩ : ∃ o', ops.toList[j]? = some o' := ⟨ops.toList[j]'(by rw [← hlen]; exact (List.getElem?_eq_some_iff.1 hu').1), List.getElem?_eq_getElem _⟩
          rcases Nat.lt_trichotomy j i with hji | hji | hji
          · rw [decide_eq_true hji]
            rcases hpair j i o' o u' u hji ho' hol hu' hu with hb | ⟨_, hf⟩
            · exact hbefi j hb
            · exact absurd hbr ((freeM_spec hf).1 p hp1)
          · subst hji
            rw [hdi]
            simp
          · rw [decide_eq_false (by omega)]
            cases hv : listed.getD j false with
            | false => rfl
            | true =>
              rcases hpair i j o o' u u' hji hol ho' hu hu' with hb | ⟨_, hf⟩
              · exact (hbefj j hv hb).elim
              · exact absurd hbr ((freeM_spec hf).2.2 p hp1)
        -- the step
        have hset : ∀ j, (listed.setIfInBounds i true).getD j false = if j = i then true else listed.getD j false := by
          intro j
          by_cases e : j = i
          · subst e
            rw [if_pos rfl, Array.getD_eq_getD_getElem?, Array.getElem?_setIfInBounds, if_pos rfl, if_pos hil]
            rfl
          · rw [if_neg e, Array.getD_eq_getD_getElem?, Array.getD_eq_getD_getElem?, Array.getElem?_setIfInBounds, if_neg (Ne.symm e)]
        have hsz2 : (listed.setIfInBounds i true).size = ops.size := by simp [hsz]
        have hcnt2 : (listed.setIfInBounds i true).toList.count false ≤ fuel := by
          have hc := count_set_true listed.toList i (by
            rw [Array.getElem?_toList, Array.getElem?_eq_getElem hil]
            rw [Array.getD_eq_getD_getElem?, Array.getElem?_eq_getElem hil] at hdi
            simpa using hdi)
          rw [Array.toList_setIfInBounds]
          omega
        have hcl2 : ∀ j k, (listed.setIfInBounds i true).getD j false = true → Edged ops.toList j k → (listed.setIfInBounds i true).getD k false = true := by
          intro j k hj hk
          rw [hset] at hj ⊢
          split
          · rfl
          · by_cases e : j = i
            · subst e
              obtain ⟨o', ho', e', he', hb, rfl⟩ := hk
              rw [hol] at ho'
              cases ho'
              exact hpre e' (by simpa using he') hb
            · rw [if_neg e] at hj
              exact hcl j k hj hk
        have goT : ∀ t, tget (stT (fun j => (listed.setIfInBounds i true).getD j false) ops.toList tr 0 T) t = tget (setT (stT (fun j => listed.getD j false) ops.toList tr 0 T) o.dst u.val) t := by
          intro t
          refine stT_insert (k := i) _ _ 0 _ hol hu (by rw [Nat.zero_add]; exact hdi) (by rw [Nat.zero_add, hset, if_pos rfl]) (fun j hj => by rw [hset, if_neg (by omega)]) fun j o' hij ho' hdj hne => ?_
          rw [Nat.zero_add] at hdj
          obtain ⟨u', hu'⟩ : ∃ u', tr[j]? = some u' := ⟨tr[j]'(by rw [hlen]; exact (List.getElem?_eq_some_iff.1 ho').1), List.getElem?_eq_getElem _⟩
          rcases hpair i j o o' u u' hij hol ho' hu hu' with hb | ⟨hf, _⟩
          · exact (hbefj j hdj hb).elim
          · cases hdo : o.dst with
            | none => exact absurd hdo hne
            | some d => exact (freeT_spec hf).2.1 d hdo
        have goM : ∀ b, mget (stM (fun j => (listed.setIfInBounds i true).getD j false) tr 0 M) b = mget (puts (stM (fun j => listed.getD j false) tr 0 M) u.ss) b := by
          intro b
          refine stM_insert (k := i) _ 0 _ hu (by rw [Nat.zero_add]; exact hdi) (by rw [Nat.zero_add, hset, if_pos rfl]) (fun j hj => by rw [hset, if_neg (by omega)]) fun j u' hij hu' hdj p hp p' hp' => ?_
          rw [Nat.zero_add] at hdj
          obtain ⟨o', ho'⟩ : ∃ o', ops.toList[j]? = some o' := ⟨ops.toList[j]'(by rw [← hlen]; exact (List.getElem?_eq_some_iff.1 hu').1), List.getElem?_eq_getElem _⟩
          rcases hpair i j o o' u u' hij hol ho' hu hu' with hb | ⟨_, hf⟩
          · exact (hbefj j hdj hb).elim
          · exact (freeM_spec hf).2.1 p hp p' hp'
        have hlT : ∀ d, (stT d ops.toList tr 0 T).length = T.length := fun d => length_stT d _ _ _ _
        unfold wpOp
        simp only [ho]
        rcases hat i o u hol hu with ⟨hw, hr, hrd⟩ | ⟨hw, rfl⟩
        · rw [← wantA_congr agT] at hw
          rw [if_pos (wanted_of hTa hw)]
          have hcongr : opO P G EQ o (stT (fun j => decide (j < i)) ops.toList tr 0 T) (stM (fun j => decide (j < i)) tr 0 M) (N + i) = opO P G EQ o (stT (fun j => listed.getD j false) ops.toList tr 0 T) (stM (fun j => listed.getD j false) tr 0 M) (N + i) := by
            refine opO_congr (fun t ht => (agT t (by simp [looksOf, ht])).symm) fun b hb => (agM b ?_).symm
            rw [hrd]
            exact hb
          rw [hcongr] at hr
          refine .inl (opO_sound hEQ hr hTa hMa hG (hfr _ (by omega) fun j _ hj _ _ e => ?_) ?_)
          · have : j = i := by omega
            subst this
            rw [hdi] at hj
            cases hj
          · intro υ v' w'' hle' h1 h2 hv hMb
            refine ih _ υ _ _ hsz2 hcnt2 hcl2 (Sg.le_trans hle hle') (((hTa.mono hle').put o.dst hv).congr (by rw [hlT, length_setT, hlT]) goT) (hMb.congr fun b => .inl (goM b)) fun b hb hbi => ?_
            by_cases hbne : b = N + i
            · rw [hbne]
              exact h2 fun p hp e => hbi i u (by rw [hset, if_pos rfl]) hu ⟨p, hp, e⟩ hbne
            rw [h1 b hbne]
            refine hfr b hb fun j u' hj hu' hp' => hbi j u' ?_ hu' hp'
            rw [hset]
            split
            · rfl
            · exact hj
        · rw [← wantA_congr agT] at hw
          rw [if_neg (by rw [wanted_of hTa hw]; simp)]
          refine ih _ τ _ _ hsz2 hcnt2 hcl2 hle ((hTa.put o.dst (undef_rel τ)).congr (by rw [hlT, length_setT, hlT]) goT) (hMa.congr fun b => .inl (goM b)) fun b hb hbi => ?_
          refine hfr b hb fun j u' hj hu' hp' => hbi j u' ?_ hu' hp'
          rw [hset]
          split
          · rfl
          · exact hj
  refine wp_region_any hm (main ops.size _ σ a _ (by simp) (by simp) ?_ (Sg.le_refl _) (hT.congr ?_ fun t => ?_) ?_ ?_)
  · intro j i hj
    rw [Array.getD_eq_getD_getElem?, Array.getElem?_replicate] at hj
    split at hj <;> cases hj
  · rw [length_stT]
  · rw [stT_none _ _ _ _ _ fun j => by rw [Array.getD_eq_getD_getElem?, Array.getElem?_replicate]; split <;> rfl]
  · rw [stM_none _ _ _ _ fun j => by rw [Array.getD_eq_getD_getElem?, Array.getElem?_replicate]; split <;> rfl]
    exact ⟨fun b => (hM.blk b).of_block fun _ _ _ _ => rfl, hM.sep, hM.own, hM.kept.trans ⟨rfl, rfl, rfl, Nat.le_refl _, fun _ _ _ => rfl⟩⟩
  · intro b hb _
    exact hN b hb

end
end Go.Ev
