/-
  The evaluator's operations are sound, one by one: composite values, made slices, slices of slices, function values.
-/
import Derived.Test.YtdmmnpgkidghnaaEvD
import Derived.Laws.MakeOwn
namespace Go.Ev
open Go

theorem fold_set (off : Nat) : ∀ (vs : List Value) (k : Nat) (arr : Array Value), off + k + vs.length ≤ arr.size →
    (vs.zipIdx k).foldl (fun cs (p : Value × Nat) => cs.setIfInBounds (off + p.2) p.1) arr = (arr.toList.take (off + k) ++ (vs ++ arr.toList.drop (off + k + vs.length))).toArray
  | [], k, arr, _ => by
    simp
  | v :: r, k, arr, h => by
    simp only [List.zipIdx_cons, List.foldl_cons]
    rw [fold_set off r (k + 1) _ (by simp at h ⊢; omega)]
    congr 1
    simp only [List.length_cons] at h ⊢
    have e1 : (arr.setIfInBounds (off + k) v).toList.take (off + (k + 1)) = arr.toList.take (off + k) ++ [v] := by
      rw [Array.toList_setIfInBounds, ← Nat.add_assoc, List.take_succ_eq_append_getElem (by simp; omega)]
      rw [List.take_set_of_le (Nat.le_refl _)]
      simp
    have e2 : (arr.setIfInBounds (off + k) v).toList.drop (off + (k + 1) + r.length) = arr.toList.drop (off + k + (r.length + 1)) := by
      rw [Array.toList_setIfInBounds, List.drop_set_of_lt (by omega)]
      congr 1
      omega
    rw [e1, e2]
    simp

section
variable {P : Program} {G : Nat → Option (List D)} {gb : Nat} {EQ : Tab} {w0 : World} {W : Nat → Prop} {σ : Sg} {a : Act} {w : World} {T : TS} {M : List Blk} {N : Nat} {o : Oper}
  {next : Act → World → Prop} {Q : Exit → Act → World → Prop}

/-- Parts and their cells. -/
def PartsRel : List (Nat × List D) → List (Nat × Value) → Prop
  | [], [] => True
  | x :: r, y :: s => (x.1 = y.1 ∧ y.2.cells = (x.2.map D.val).toArray ∧ ∀ d ∈ x.2, d.ok) ∧ PartsRel r s
  | _, _ => False

theorem partVs_rel (hT : TRel σ T a) : ∀ {ps : List (Nat × Operand)} {l : List (Nat × List D)}, partVs T ps = some l → PartsRel l (ps.map fun p => (p.1, a.eval p.2))
  | [], l, h => by simp only [partVs, Option.some.injEq] at h; subst h; trivial
  | p :: r, l, h => by
    simp only [partVs] at h
    split at h
    · rename_i v l' h1 h2
      split at h
      · rename_i cs hcs
        simp only [Option.some.injEq] at h
        subst h
        exact ⟨⟨rfl, cellsA_rel hcs (opdV_rel hT h1)⟩, partVs_rel hT h2⟩
      · cases h
    · cases h

theorem fill_rel {place place' : Nat → Option (Nat × Nat)} (hp : ∀ i, place' i = place i) : ∀ {l : List (Nat × List D)} {ps : List (Nat × Value)} {z cs : List D}, (∀ d ∈ z, d.ok) → PartsRel l ps → fillD place z l = some cs →
    Instr.fill place' (z.map D.val).toArray ps = some (cs.map D.val).toArray ∧ ∀ d ∈ cs, d.ok
  | [], [], z, cs, hz, _, h => by simp only [fillD, Option.some.injEq] at h; subst h; exact ⟨rfl, hz⟩
  | x :: r, y :: s, z, cs, hz, ⟨⟨h1, h2, hxo⟩, h3⟩, h => by
    simp only [fillD] at h
    split at h
    · cases h
    · rename_i q hq
      simp only [cond_eq_ite, Bool.and_eq_true, beq_iff_eq, Nat.ble_eq] at h
      split at h
      · rename_i hc
        obtain ⟨hc1, hc2⟩ := hc
        obtain ⟨ih, iho⟩ := fill_rel hp (splice_ok hz hxo) h3 h
        refine ⟨?_, iho⟩
        obtain ⟨yi, yv⟩ := y
        obtain ⟨q1, q2⟩ := q
        simp only at h1 h2 hc1 hc2 ih
        subst h1
        unfold Instr.fill
        rw [hp, hq]
        simp only [h2]
        rw [if_neg (by simp; omega)]
        rw [← ih]
        congr 1
        rw [← Array.foldl_toList, Array.toList_zipIdx]
        have := fold_set q1 (x.2.map D.val) 0 (z.map D.val).toArray (by simp; omega)
        simp only [Nat.add_zero, List.length_map] at this
        rw [this]
        simp [splice, List.map_take, List.map_drop]
      · cases h
  | [], _ :: _, _, _, _, hh, _ => hh.elim
  | _ :: _, [], _, _, _, hh, _ => hh.elim

theorem places_run : ∀ {fs : List Field} {pl : List (Nat × Nat)}, fieldPlaces P fs = some pl → (fs.mapM fun f => do pure (f.offset, ← sizeOf f.type) : Sem (List (Nat × Nat))).run P w = .ok pl w
  | [], pl, h => by simp only [fieldPlaces, Option.some.injEq] at h; subst h; rfl
  | f :: r, pl, h => by
    simp only [fieldPlaces] at h
    split at h
    · rename_i s l h1 h2
      simp only [Option.some.injEq] at h
      subst h
      have := places_run h2
      simp only [List.mapM_cons, Sem.run_bind, sizeOf_run h1, Result.andThen_ok, Sem.run_pure, this]
    · cases h

theorem build_ok {t : TypeId} {ps : Array (Nat × Operand)} {v : AV} {s : Sets} (ho : o.op = .build t ps) (hr : Reach P G gb (opR P G EQ (.build t ps) T M N) v s) (hT : TRel σ T a) (hM : MRel w0 W σ M w) (hN : σ N = none)
    (h : Goes w0 W σ M N a o.dst next v s) : o.wp P a w next Q := by
  simp only [opR] at hr
  split at hr
  · rename_i l z fs hl hz hu
    split at hr
    · rename_i pl hpl
      split at hr
      · rename_i cs hcs
        obtain ⟨rfl, rfl⟩ := hr
        obtain ⟨zv, hzr, ⟨hzc, hzo⟩, _⟩ := zero_run (w := w) hz
        obtain ⟨hfill, hco⟩ := fill_rel (place' := fun i => pl.toArray[i]?) (fun i => by simp) hzo (partVs_rel hT hl) hcs
        have hplr : (fs.mapM fun f => do pure (f.offset, ← sizeOf f.type) : Sem (Array (Nat × Nat))).run P w = .ok pl.toArray w := by
          rw [Array.mapM_eq_mapM_toList, map_eq_pure_bind]
          simp only [Sem.run_bind, places_run hpl, Result.andThen_ok, Sem.run_pure]
        refine h.value hM hN (v' := .agg (cs.map D.val).toArray) ?_ ⟨rfl, hco⟩
        unfold execOp
        rw [ho]
        simp only [Instr.build, Sem.run_bind, hzr, Result.andThen_ok, underlying_run hu, hplr, hzc, Array.toList_map]
        rw [hfill]
        rfl
      · exact hr.elim
    · exact hr.elim
  · rename_i l z n e hl hz hu
    split at hr
    · rename_i sz hs
      split at hr
      · rename_i cs hcs
        obtain ⟨rfl, rfl⟩ := hr
        obtain ⟨zv, hzr, ⟨hzc, hzo⟩, _⟩ := zero_run (w := w) hz
        obtain ⟨hfill, hco⟩ := fill_rel (place' := fun i => some (i * sz, sz)) (fun i => rfl) hzo (partVs_rel hT hl) hcs
        refine h.value hM hN (v' := .agg (cs.map D.val).toArray) ?_ ⟨rfl, hco⟩
        unfold execOp
        rw [ho]
        simp only [Instr.build, Sem.run_bind, hzr, Result.andThen_ok, underlying_run hu, sizeOf_run hs, hzc, Array.toList_map]
        rw [hfill]
        rfl
      · exact hr.elim
    · exact hr.elim
  · exact hr.elim

theorem made_list (z : List Value) (d : Value) (k : Nat) (hk : z.length = k) (h0 : 0 < k) : ∀ n, (List.range (n * k)).map (fun j => z.getD (j % k) d) = (List.replicate n z).flatten
  | 0 => by simp
  | n + 1 => by
    rw [Nat.succ_mul, List.range_add, List.map_append, made_list z d k hk h0 n, List.replicate_succ', List.flatten_append]
    congr 1
    simp only [List.flatten_cons, List.flatten_nil, List.append_nil, List.map_map]
    apply List.ext_getElem
    · simp [hk]
    · intro i h1 h2
      simp only [List.getElem_map, List.getElem_range, Function.comp_apply]
      rw [Nat.mul_comm n k, Nat.mul_add_mod, Nat.mod_eq_of_lt (by omega), List.getD_eq_getElem?_getD, List.getElem?_eq_getElem h2]
      rfl

theorem made_cells {l : List D} {k : Nat} (hk : l.length = k) (n : Nat) : (madeCells (l.map D.val).toArray (n * k)).toList = ((List.replicate n l).flatten).map D.val := by
  by_cases h0 : 0 < k
  · have := made_list (l.map D.val) default k (by simp [hk]) h0 n
    rw [List.map_flatten, List.map_replicate, ← this]
    simp only [madeCells, Array.toList_map, Array.toList_range]
    apply List.map_congr_left
    intro j _
    simp [hk, List.getD_eq_getElem?_getD, Array.getElem!_eq_getD, Array.getD_eq_getD_getElem?]
  · have : k = 0 := by omega
    subst this
    have hl : l = [] := List.eq_nil_of_length_eq_zero hk
    subst hl
    simp [madeCells]

theorem rep_ok {z : List D} (h : ∀ d ∈ z, d.ok) (n : Nat) : ∀ d ∈ (List.replicate n z).flatten, d.ok := by
  intro d hd
  obtain ⟨l, hl, hdl⟩ := List.mem_flatten.1 hd
  rw [List.eq_of_mem_replicate hl] at hdl
  exact h d hdl

theorem alloc_goes {v : AV} {v' : Value} {t : Nat} {l : List D} {cur : Array Value} {w' : World} (h : Goes w0 W σ M N a o.dst next v [(N, .rw t l)]) (hM : MRel w0 W σ M w) (hN : σ N = none)
    (hrun : (execOp a.eval o).run P w = .ok (.value v') w') (hw : w'.heap = w.heap.push (.cells cur t (0, 0))) (hos : w'.os = w.os) (htp : w'.tape = w.tape) (hou : w'.output = w.output)
    (hcur : cur.toList.take l.length = l.map D.val) (hok : ∀ d ∈ l, d.ok) (hv : AVRel (sgSet σ N ⟨w.heap.size, 0, cur.size, true, 0, 0⟩) v v') : o.wp P a w next Q := by
  unfold Oper.wp
  rw [hrun]
  exact h (sgSet σ N ⟨w.heap.size, 0, cur.size, true, 0, 0⟩) v' w' (sgSet_le hN) (fun b hb => sgSet_ne _ _ _ _ hb) (fun hp => absurd rfl (hp (N, .rw t l) (by simp))) hv (hM.alloc hN t l cur hcur hok w' hw hos htp hou)

theorem ofs_flat {τ : ET} : ∀ {n : Nat} {l : List D} {xs : List τ.T}, τ.ofs n l = some xs → τ.flat xs = l ∧ xs.length = n
  | 0, [], xs, h => by simp only [ET.ofs, Option.some.injEq] at h; subst h; exact ⟨rfl, rfl⟩
  | 0, _ :: _, xs, h => by simp [ET.ofs] at h
  | n + 1, l, xs, h => by
    simp only [ET.ofs] at h
    split at h
    · rename_i x r hx hr
      cases h
      obtain ⟨h1, h2⟩ := ofs_flat hr
      exact ⟨by rw [ET.flat, of_cells hx, h1, List.take_append_drop], by simp [h2]⟩
    · cases h

theorem flat_rep {τ : ET} (x : τ.T) : ∀ n, τ.flat (List.replicate n x) = (List.replicate n (τ.cells x)).flatten
  | 0 => rfl
  | n + 1 => by simp [List.replicate_succ, ET.flat, flat_rep x n]

theorem allocA_goes {v : AV} {v' : Value} {t : Nat} {τ : ET} {xs : List τ.T} {cur : Array Value} {w' : World} (h : Goes w0 W σ M N a o.dst next v [(N, .arr (some t) τ xs)]) (hM : MRel w0 W σ M w) (hN : σ N = none)
    (hrun : (execOp a.eval o).run P w = .ok (.value v') w') (hw : w'.heap = w.heap.push (.cells cur t (0, 0))) (hos : w'.os = w.os) (htp : w'.tape = w.tape) (hou : w'.output = w.output)
    (hcur : cur.toList.take (τ.flat xs).length = (τ.flat xs).map D.val) (hok : ∀ d ∈ τ.flat xs, d.ok) (hv : AVRel (sgSet σ N ⟨w.heap.size, 0, cur.size, true, xs.length, τ.len⟩) v v') : o.wp P a w next Q := by
  unfold Oper.wp
  rw [hrun]
  exact h _ v' w' (sgSet_le hN) (fun b hb => sgSet_ne _ _ _ _ hb) (fun hp => absurd rfl (hp (N, .arr (some t) τ xs) (by simp))) hv (hM.allocA hN t τ xs cur hcur hok w' hw hos htp hou)

theorem buildSlice_ok {t : TypeId} {n : Nat} {ps : Array (Nat × Operand)} {v : AV} {s : Sets} (ho : o.op = .buildSlice t n ps) (hr : Reach P G gb (opR P G EQ (.buildSlice t n ps) T M N) v s) (hT : TRel σ T a) (hM : MRel w0 W σ M w) (hN : σ N = none)
    (h : Goes w0 W σ M N a o.dst next v s) : o.wp P a w next Q := by
  simp only [opR] at hr
  split at hr
  · rename_i l e hl hu
    split at hr
    · rename_i z sz hz hs
      simp only [cond_eq_ite, Bool.and_eq_true, beq_iff_eq, Nat.ble_eq] at hr
      split at hr
      · rename_i hc
        obtain ⟨hzl, hcells, hroom⟩ := hc
        split at hr
        · rename_i cs hcs
          obtain ⟨zv, hzr, ⟨hzc, hzo⟩, _⟩ := zero_run (w := w) hz
          obtain ⟨hfill, hco⟩ := fill_rel (place' := fun i => some (i * sz, sz)) (fun i => rfl) (rep_ok hzo n) (partVs_rel hT hl) hcs
          have hmade : (Array.range (n * sz)).map (fun j => ((z.map D.val).toArray : Array Value)[j % (z.map D.val).toArray.size]!) = (((List.replicate n z).flatten).map D.val).toArray := by
            apply Array.ext'
            exact made_cells hzl n
          have hlen : cs.length = n * sz := by
            have key : ∀ (l : List (Nat × List D)) (z cs : List D) (place : Nat → Option (Nat × Nat)), fillD place z l = some cs → cs.length = z.length := by
              intro l
              induction l with
              | nil => intro z cs place h; simp only [fillD, Option.some.injEq] at h; rw [h]
              | cons x r ih =>
                intro z cs place h
                simp only [fillD] at h
                split at h
                · cases h
                · simp only [cond_eq_ite, Bool.and_eq_true, beq_iff_eq, Nat.ble_eq] at h
                  split at h
                  · rename_i hc
                    rw [ih _ _ _ h, splice_len hc.2]
                  · cases h
            rw [key _ _ _ _ hcs]
            simp [hzl]
          have hrun : (execOp a.eval o).run P w = .ok (.value (.slice (some ⟨w.heap.size, 0, none⟩) n n)) (w.alloc (.cells (cs.map D.val).toArray e)) := by
            unfold execOp
            rw [ho]
            have h24 : ¬ n * sz > 2 ^ 24 := by
              have : (2 : Nat) ^ 24 = 16777216 := by decide
              omega
            simp only [Instr.buildSlice, Sem.run_bind, underlying_run hu, sizeOf_run hs, Result.andThen_ok]
            rw [if_neg h24]
            by_cases h0 : n * sz = 0
            · have e0 : cs = [] := List.eq_nil_of_length_eq_zero (by omega)
              subst e0
              have hfl : ((List.replicate n z).flatten).map D.val = [] := by
                apply List.eq_nil_of_length_eq_zero
                simp [hzl, h0]
              rw [hfl] at hfill
              rw [if_pos h0]
              simp only [Sem.run_pure, h0, Array.range_zero', List.map_toArray, List.map_nil, Array.toList_map]
              simp only [List.map_nil] at hfill
              simp only [Sem.run_bind, Sem.run_pure, Result.andThen_ok]
              rw [hfill]
              simp [newRow, newObj, Sem.run]
            · rw [if_neg h0]
              simp only [Sem.run_bind, hzr, Result.andThen_ok, Sem.run_pure, hzc, hmade, Array.toList_map]
              rw [hfill]
              simp [newRow, newObj, Sem.run]
          have hml : n ≤ maxLen := by simp only [maxLen, roomD] at *; omega
          split at hr
          · obtain ⟨rfl, rfl⟩ := hr
            refine alloc_goes h hM hN hrun rfl rfl rfl rfl (take_all cs) hco ?_
            exact ⟨_, n, sgSet_self _ _ _, rfl, Nat.le_refl _, hml, fun _ _ => ⟨by simp [hlen], hml⟩⟩
          · rename_i τ _
            by_cases hsz : sz = τ.len
            · rw [if_pos hsz] at hr
              split at hr
              · rename_i xs hxs
                obtain ⟨rfl, rfl⟩ := hr
                obtain ⟨hfl, hxl⟩ := ofs_flat hxs
                refine allocA_goes h hM hN hrun rfl rfl rfl rfl (by rw [hfl]; exact take_all cs) (by rw [hfl]; exact hco) ⟨_, sgSet_self _ _ _, .inr ⟨n, ?_, ?_, ?_, fun _ => ⟨?_, hml, fun e => ?_⟩⟩⟩
                · simp only [hxl]
                · simp only [hxl]; exact Nat.le_refl _
                · simp only [hxl]; exact hml
                · simp [hlen, hsz]
                · simp only at e; omega
              · exact hr.elim
            · rw [if_neg hsz] at hr
              exact hr.elim
        · exact hr.elim
      · exact hr.elim
    · exact hr.elim
  · exact hr.elim

theorem makeFunc_ok {fn : Fn} {first caps : Array Operand} {v : AV} {s : Sets} (ho : o.op = .makeFunc fn first caps) (hr : Reach P G gb (opR P G EQ (.makeFunc fn first caps) T M N) v s) (hT : TRel σ T a) (hM : MRel w0 W σ M w) (hN : σ N = none)
    (h : Goes w0 W σ M N a o.dst next v s) : o.wp P a w next Q := by
  have key : ∀ (l : List AV) (vs : List Value) (cs : List Nat), AVRels σ l vs → capsOf l = some cs → PRel σ cs vs := by
    intro l
    induction l with
    | nil => intro vs cs hv hc; simp only [capsOf, Option.some.injEq] at hc; subst hc; cases vs with | nil => trivial | cons _ _ => exact hv.elim
    | cons x r ih =>
      intro vs cs hv hc
      cases vs with
      | nil => exact hv.elim
      | cons y u =>
        unfold capsOf at hc
        split at hc
        · cases ‹_ = []›
        · rename_i b r' heq
          cases heq
          split at hc
          · rename_i l' hl'
            cases hc
            obtain ⟨⟨L, hL, he⟩, h2⟩ := hv
            exact ⟨⟨L, hL, by simpa using he⟩, ih u l' h2 hl'⟩
          · cases hc
        · cases hc
  simp only [opR] at hr
  split at hr
  · rename_i f l hf hl
    split at hr
    · rename_i cs hcs
      obtain ⟨rfl, rfl⟩ := hr
      have hvs := opdVs_rel hT hl
      have h1 : first = #[] := Array.ext' hf
      refine h.value hM hN (v' := .func (.func f) #[] (caps.map a.eval)) ?_ ⟨_, rfl, ?_⟩
      · unfold execOp
        rw [ho, h1]
        simp [Instr.makeFunc]
      · rw [Array.toList_map]
        exact key _ _ _ hvs hcs
    · exact hr.elim
  · exact hr.elim

theorem makeSlice_ok {t : TypeId} {x y : Operand} {v : AV} {s : Sets} (ho : o.op = .makeSlice t x y) (hr : Reach P G gb (opR P G EQ (.makeSlice t x y) T M N) v s) (hT : TRel σ T a) (hM : MRel w0 W σ M w) (hN : σ N = none)
    (h : Goes w0 W σ M N a o.dst next v s) : o.wp P a w next Q := by
  simp only [opR] at hr
  split at hr
  · rename_i e k n k' n' hu hx hy
    split at hr
    · rename_i z i hz hi
      rcases hr with ⟨hb, hr⟩ | ⟨_, hf⟩
      · simp only [Bool.and_eq_true, decide_eq_true_eq, beq_iff_eq, Nat.ble_eq, Nat.blt_eq] at hb
        obtain ⟨rfl, h0, h1, hzl, hsz, hby⟩ := hb
        obtain ⟨zv, _, ⟨hzc, hzo⟩, i', hi', hz'⟩ := zero_run (w := w) hz
        rw [hi] at hi'
        cases hi'
        have hx' : a.eval x = .int k n := (opdV_rel hT hx).1
        have hy' : a.eval y = .int k' n := (opdV_rel hT hy).1
        have hbn : (i.bytes : Int) * n ≤ 281474976710656 := by
          have h2 : (i.bytes : Int) * n ≤ 4096 * 1048576 := Int.mul_le_mul (by omega) h1 h0 (by omega)
          omega
        have hmk := run_make (P := P) w t e i zv hu hi hz' k k' n n h0 (Int.le_refl _) hbn (by omega)
        rw [hzc] at hmk
        have hcs := made_cells hzl n.toNat
        have hrun : (execOp a.eval o).run P w = .ok (.value (.slice (some ⟨w.heap.size, 0, none⟩) n.toNat n.toNat)) (w.alloc (.cells (madeCells (z.map D.val).toArray (n.toNat * i.size)) e)) := by
          unfold execOp
          rw [ho]
          simp only [hx', hy', Sem.run_bind, hmk, Result.andThen_ok, Sem.run_pure]
        have hml : n.toNat ≤ maxLen := by simp only [maxLen]; omega
        split at hr
        · obtain ⟨rfl, rfl⟩ := hr
          refine alloc_goes h hM hN hrun rfl rfl rfl rfl ?_ (rep_ok hzo _) ⟨_, n.toNat, sgSet_self _ _ _, rfl, Nat.le_refl _, hml, fun _ _ => ⟨by simp [size_madeCells], hml⟩⟩
          rw [hcs]
          exact List.take_of_length_le (by simp)
        · rename_i τ _
          split at hr
          · rename_i y' hy'
            obtain ⟨rfl, rfl⟩ := hr
            simp only [cond_eq_ite, beq_iff_eq] at hy'
            split at hy'
            · rename_i hes
              have hfl : τ.flat (List.replicate n.toNat y') = (List.replicate n.toNat z).flatten := by rw [flat_rep, of_cells hy']
              refine allocA_goes h hM hN hrun rfl rfl rfl rfl ?_ (by rw [hfl]; exact rep_ok hzo _) ⟨_, sgSet_self _ _ _, .inr ⟨n.toNat, ?_, ?_, ?_, fun _ => ⟨?_, hml, fun e => ?_⟩⟩⟩
              · rw [hfl, hcs]
                exact List.take_of_length_le (by simp)
              · simp
              · simp
              · simpa using hml
              · simp [size_madeCells, hes]
              · simpa using e
            · cases hy'
          · exact hr.elim
      · exact hf.elim
    · exact hr.elim
  · exact hr.elim

/-- A bound of a slice expression, run. -/
theorem bound_run {hi : Option Operand} {n m y : Nat} (hT : TRel σ T a) (h : boundO T n hi = some m) (hm : m ≤ y) (c : BoundsCode) :
    (match hi.map a.eval with | some v => Instr.sliceBound v y c | none => pure n : Sem Nat).run P w = .ok m w := by
  unfold boundO at h
  split at h
  · cases h; rfl
  · rename_i x
    split at h
    · rename_i k i hx
      simp only [cond_eq_ite, decide_eq_true_eq] at h
      split at h
      · rename_i h0
        cases h
        have hx' : a.eval x = .int k i := (opdV_rel hT hx).1
        simp only [Option.map_some, hx', Instr.sliceBound, asIntOf, Sem.run_bind, Sem.run_pure, Result.andThen_ok]
        rw [if_pos ⟨h0, by omega⟩]
        rfl
      · cases h
    · cases h

theorem slice_ok {t : TypeId} {x : Operand} {lo hi mx : Option Operand} {v : AV} {s : Sets} (ho : o.op = .slice t x lo hi mx) (hr : Reach P G gb (opR P G EQ (.slice t x lo hi mx) T M N) v s) (hT : TRel σ T a) (hM : MRel w0 W σ M w) (hN : σ N = none)
    (h : Goes w0 W σ M N a o.dst next v s) : o.wp P a w next Q := by
  simp only [opR] at hr
  split at hr
  · rename_i e b k n sz hu hx
    split at hr
    · rename_i sz' l hh hs hl hhi
      simp only [cond_eq_ite, Bool.and_eq_true, beq_iff_eq, Nat.ble_eq, Nat.blt_eq] at hr
      split at hr
      · rename_i hc
        obtain ⟨rfl, hlh, hhn, hln⟩ := hc
        obtain ⟨rfl, rfl⟩ := hr
        obtain ⟨L, cap, hL, he, hcap, hnm, hown⟩ := opdV_rel hT hx
        have h1 := bound_run (P := P) (w := w) hT hhi (Nat.le_trans hhn hcap) .sliceAcap
        have h2 := bound_run (P := P) (w := w) hT hl hlh .sliceB
        have hb : (Instr.sliceBounds true n cap (lo.map a.eval) (hi.map a.eval) none).run P w = .ok (l, hh, cap) w := by
          simp only [Instr.sliceBounds, Sem.run_bind, Sem.run_pure, Result.andThen_ok]
          cases hhi' : hi.map a.eval with
          | none =>
            rw [hhi'] at h1
            cases h1
            cases hlo' : lo.map a.eval with
            | none => rw [hlo'] at h2; cases h2; rfl
            | some u =>
              rw [hlo'] at h2
              simp only at h2
              simp [h2]
          | some u' =>
            rw [hhi'] at h1
            simp only at h1
            cases hlo' : lo.map a.eval with
            | none => rw [hlo'] at h2; cases h2; simp [h1]
            | some u =>
              rw [hlo'] at h2
              simp only at h2
              simp [h1, h2]
        refine h.value hM hN (v' := .slice (some ⟨L.blk, L.off + (k + l * sz), none⟩) (hh - l) (cap - l)) ?_ ?_
        · unfold execOp
          rw [ho]
          simp only [Instr.sliceAt, Instr.slice, Sem.run_bind, underlying_run hu, Result.andThen_ok, he, Option.map_none, hb, sizeOf_run hs, Sem.run_pure]
          rw [if_neg (by omega)]
          simp [add_mk, Nat.add_assoc]
        · refine ⟨L, cap - l, hL, rfl, by omega, by omega, fun hw h0 => ?_⟩
          obtain ⟨h3, h4⟩ := hown hw (by omega)
          exact ⟨Nat.le_trans (Nat.mul_le_mul_right _ (Nat.sub_le _ _)) h3, by omega⟩
      · exact hr.elim
    · exact hr.elim
  · rename_i e b hu hx
    split at hr
    · rename_i sz m own τ xs hs hhi hm
      simp only [cond_eq_ite, beq_iff_eq] at hr
      split at hr
      · rename_i hsz
        rcases hr with ⟨hc, rfl, rfl⟩ | ⟨_, hf⟩
        · simp only [Bool.and_eq_true, Nat.ble_eq, Nat.blt_eq] at hc
          obtain ⟨hm0, hmx⟩ := hc
          obtain ⟨L, hL, hv⟩ := opdV_rel hT hx
          have hB := hM.blk b
          rw [hm] at hB
          obtain ⟨L', g1, g2, g3, _⟩ := hB.elems
          rw [hL] at g1
          cases g1
          rcases hv with ⟨h0, _⟩ | ⟨cap, he, hcap, hnm, _⟩
          · omega
          have h1 := bound_run (P := P) (w := w) (y := cap) (n := L.n) hT (m := m) (hi := hi) (by
            unfold boundO at hhi ⊢
            cases hi with
            | none => simp only [Option.some.injEq] at hhi; omega
            | some _ => exact hhi) (by omega) .sliceAcap
          have hb : (Instr.sliceBounds true L.n cap none (hi.map a.eval) none).run P w = .ok (0, m, cap) w := by
            simp only [Instr.sliceBounds, Sem.run_bind, Sem.run_pure, Result.andThen_ok]
            cases hhi' : hi.map a.eval with
            | none =>
              rw [hhi'] at h1
              cases h1
              rfl
            | some u' =>
              rw [hhi'] at h1
              simp only at h1
              simp [h1]
          refine h.value hM hN (v' := .slice (some ⟨L.blk, L.off, none⟩) m cap) ?_ ⟨L, hL, hm0, by omega, cap, rfl, by omega, by omega⟩
          unfold execOp
          rw [ho]
          simp only [Instr.sliceAt, Instr.slice, Sem.run_bind, underlying_run hu, Result.andThen_ok, he, Option.map_none, hb, sizeOf_run hs, Sem.run_pure]
          rw [if_neg (by omega)]
          simp [add_mk]
        · exact hf.elim
      · exact hr.elim
    · exact hr.elim
  · rename_i n e b k hu hx
    split at hr
    · rename_i sz t' l hs hm
      simp only [cond_eq_ite, Bool.and_eq_true, beq_iff_eq, Nat.ble_eq, Nat.blt_eq] at hr
      split at hr
      · rename_i hc
        obtain ⟨hn, rfl, hlen, hroom⟩ := hc
        obtain ⟨rfl, rfl⟩ := hr
        obtain ⟨L, hL, he⟩ := opdV_rel hT hx
        have hBb := hM.blk b
        rw [hm] at hBb
        obtain ⟨L', cur, h1, h2, h3, h4, h5, _, h6⟩ := hBb
        rw [hL] at h1
        cases h1
        refine h.value hM hN (v' := .slice (some ⟨L.blk, L.off + 0, none⟩) n n) ?_ ⟨L, n, hL, rfl, Nat.le_refl _, by simp only [maxLen, roomD] at *; omega, fun _ _ => ⟨?_, ?_⟩⟩
        · unfold execOp
          rw [ho]
          simp [Instr.sliceAt, underlying_run hu, he, Instr.sureAddr, Instr.sliceBounds, sizeOf_run hs, Addr.add]
        · rw [← h5, ← hlen]
          have := congrArg List.length h6
          simp at this
          omega
        · simp only [maxLen, roomD] at *
          omega
      · exact hr.elim
    · exact hr.elim
  · exact hr.elim

end
end Go.Ev
