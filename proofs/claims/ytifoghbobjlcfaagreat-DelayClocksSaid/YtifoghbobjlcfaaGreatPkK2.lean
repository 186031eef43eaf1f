/-
  The evaluator's operations are sound, one by one: composite values, made slices, slices of slices, function values.
  The evaluator's operations are sound, one by one: operators, len, max, min, append.
  The evaluator's operations are sound: calls; and all operations together.
  The evaluator's operations are sound: a call by a contract; all operations together.
  The evaluator over a list of operations, in the order of the text: sound.
-/
import Derived.Test.YtifoghbobjlcfaaGreatPkK1
import Derived.Laws.MakeOwn
set_option maxRecDepth 100000
namespace Go.Ev
open Go
theorem fold_set (off : Nat) : ∀ (vs : List Value) (k : Nat) (arr : Array Value), off + k + vs.length ≤ arr.size →
    (vs.zipIdx k).foldl (fun cs (p : Value × Nat) => cs.setIfInBounds (off + p.2) p.1) arr = (arr.toList.take (off + k) ++ (vs ++ arr.toList.drop (off + k + vs.length))).toArray
  | [], k, arr, _ => by
    simp
  | v :: r, k, arr, h => by
    simp only [List.zipIdx_cons, List.foldl_cons]
    rw [fold_set off r (k + 1) _ (by simp at h ⊢; omega)]
    congr 1
    simp only [List.length_cons] at h ⊢
    have e1 : (arr.setIfInBounds (off + k) v).toList.take (off + (k + 1)) = arr.toList.take (off + k) ++ [v] := by
      rw [Array.toList_setIfInBounds, ← Nat.add_assoc, List.take_succ_eq_append_getElem (by simp; omega)]
      rw [List.take_set_of_le (Nat.le_refl _)]
      simp
    have e2 : (arr.setIfInBounds (off + k) v).toList.drop (off + (k + 1) + r.length) = arr.toList.drop (off + k + (r.length + 1)) := by
      rw [Array.toList_setIfInBounds, List.drop_set_of_lt (by omega)]
      congr 1
      omega
    rw [e1, e2]
    simp
section
variable {P : Program} {G : Nat → Option (List D)} {gb : Nat} {EQ : Tab} {w0 : World} {W : Nat → Prop} {σ : Sg} {a : Act} {w : World} {T : TS} {M : List Blk} {N : Nat} {o : Oper}
  {next : Act → World → Prop} {Q : Exit → Act → World → Prop}
def PartsRel : List (Nat × List D) → List (Nat × Value) → Prop
  | [], [] => True
  | x :: r, y :: s => (x.1 = y.1 ∧ y.2.cells = (x.2.map D.val).toArray ∧ ∀ d ∈ x.2, d.ok) ∧ PartsRel r s
  | _, _ => False
theorem partVs_rel (hT : TRel σ T a) : ∀ {ps : List (Nat × Operand)} {l : List (Nat × List D)}, partVs T ps = some l → PartsRel l (ps.map fun p => (p.1, a.eval p.2))
  | [], l, h => by simp only [partVs, Option.some.injEq] at h; subst h; trivial
  | p :: r, l, h => by
    simp only [partVs] at h
    split at h
    · rename_i v l' h1 h2
      split at h
      · rename_i cs hcs
        simp only [Option.some.injEq] at h
        subst h
        exact ⟨⟨rfl, cellsA_rel hcs (opdV_rel hT h1)⟩, partVs_rel hT h2⟩
      · cases h
    · cases h
theorem fill_rel {place place' : Nat → Option (Nat × Nat)} (hp : ∀ i, place' i = place i) : ∀ {l : List (Nat × List D)} {ps : List (Nat × Value)} {z cs : List D}, (∀ d ∈ z, d.ok) → PartsRel l ps → fillD place z l = some cs →
    Instr.fill place' (z.map D.val).toArray ps = some (cs.map D.val).toArray ∧ ∀ d ∈ cs, d.ok
  | [], [], z, cs, hz, _, h => by simp only [fillD, Option.some.injEq] at h; subst h; exact ⟨rfl, hz⟩
  | x :: r, y :: s, z, cs, hz, ⟨⟨h1, h2, hxo⟩, h3⟩, h => by
    simp only [fillD] at h
    split at h
    · cases h
    · rename_i q hq
      simp only [cond_eq_ite, Bool.and_eq_true, beq_iff_eq, Nat.ble_eq] at h
      split at h
      · rename_i hc
        obtain ⟨hc1, hc2⟩ := hc
        obtain ⟨ih, iho⟩ := fill_rel hp (splice_ok hz hxo) h3 h
        refine ⟨?_, iho⟩
        obtain ⟨yi, yv⟩ := y
        obtain ⟨q1, q2⟩ := q
        simp only at h1 h2 hc1 hc2 ih
        subst h1
        unfold Instr.fill
        rw [hp, hq]
        simp only [h2]
        rw [if_neg (by simp; omega)]
        rw [← ih]
        congr 1
        rw [← Array.foldl_toList, Array.toList_zipIdx]
        have := fold_set q1 (x.2.map D.val) 0 (z.map D.val).toArray (by simp; omega)
        simp only [Nat.add_zero, List.length_map] at this
        rw [this]
        simp [splice, List.map_take, List.map_drop]
      · cases h
  | [], _ :: _, _, _, _, hh, _ => hh.elim
  | _ :: _, [], _, _, _, hh, _ => hh.elim
theorem places_run : ∀ {fs : List Field} {pl : List (Nat × Nat)}, fieldPlaces P fs = some pl → (fs.mapM fun f => do pure (f.offset, ← sizeOf f.type) : Sem (List (Nat × Nat))).run P w = .ok pl w
  | [], pl, h => by simp only [fieldPlaces, Option.some.injEq] at h; subst h; rfl
  | f :: r, pl, h => by
    simp only [fieldPlaces] at h
    split at h
    · rename_i s l h1 h2
      simp only [Option.some.injEq] at h
      subst h
      have := places_run h2
      simp only [List.mapM_cons, Sem.run_bind, sizeOf_run h1, Result.andThen_ok, Sem.run_pure, this]
    · cases h
theorem build_ok {t : TypeId} {ps : Array (Nat × Operand)} {v : AV} {s : Sets} (ho : o.op = .build t ps) (hr : Reach P G gb (opR P G EQ (.build t ps) T M N) v s) (hT : TRel σ T a) (hM : MRel w0 W σ M w) (hN : σ N = none)
    (h : Goes w0 W σ M N a o.dst next v s) : o.wp P a w next Q := by
  simp only [opR] at hr
  split at hr
  · rename_i l z fs hl hz hu
    split at hr
    · rename_i pl hpl
      split at hr
      · rename_i cs hcs
        obtain ⟨rfl, rfl⟩ := hr
        obtain ⟨zv, hzr, ⟨hzc, hzo⟩, _⟩ := zero_run (w := w) hz
        obtain ⟨hfill, hco⟩ := fill_rel (place' := fun i => pl.toArray[i]?) (fun i => by simp) hzo (partVs_rel hT hl) hcs
        have hplr : (fs.mapM fun f => do pure (f.offset, ← sizeOf f.type) : Sem (Array (Nat × Nat))).run P w = .ok pl.toArray w := by
          rw [Array.mapM_eq_mapM_toList, map_eq_pure_bind]
          simp only [Sem.run_bind, places_run hpl, Result.andThen_ok, Sem.run_pure]
        refine h.value hM hN (v' := .agg (cs.map D.val).toArray) ?_ ⟨rfl, hco⟩
        unfold execOp
        rw [ho]
        simp only [Instr.build, Sem.run_bind, hzr, Result.andThen_ok, underlying_run hu, hplr, hzc, Array.toList_map]
        rw [hfill]
        rfl
      · exact hr.elim
    · exact hr.elim
  · rename_i l z n e hl hz hu
    split at hr
    · rename_i sz hs
      split at hr
      · rename_i cs hcs
        obtain ⟨rfl, rfl⟩ := hr
        obtain ⟨zv, hzr, ⟨hzc, hzo⟩, _⟩ := zero_run (w := w) hz
        obtain ⟨hfill, hco⟩ := fill_rel (place' := fun i => some (i * sz, sz)) (fun i => rfl) hzo (partVs_rel hT hl) hcs
        refine h.value hM hN (v' := .agg (cs.map D.val).toArray) ?_ ⟨rfl, hco⟩
        unfold execOp
        rw [ho]
        simp only [Instr.build, Sem.run_bind, hzr, Result.andThen_ok, underlying_run hu, sizeOf_run hs, hzc, Array.toList_map]
        rw [hfill]
        rfl
      · exact hr.elim
    · exact hr.elim
  · exact hr.elim
theorem made_list (z : List Value) (d : Value) (k : Nat) (hk : z.length = k) (h0 : 0 < k) : ∀ n, (List.range (n * k)).map (fun j => z.getD (j % k) d) = (List.replicate n z).flatten
  | 0 => by simp
  | n + 1 => by
    rw [Nat.succ_mul, List.range_add, List.map_append, made_list z d k hk h0 n, List.replicate_succ', List.flatten_append]
    congr 1
    simp only [List.flatten_cons, List.flatten_nil, List.append_nil, List.map_map]
    apply List.ext_getElem
    · simp [hk]
    · intro i h1 h2
      simp only [List.getElem_map, List.getElem_range, Function.comp_apply]
      rw [Nat.mul_comm n k, Nat.mul_add_mod, Nat.mod_eq_of_lt (by omega), List.getD_eq_getElem?_getD, List.getElem?_eq_getElem h2]
      rfl
theorem made_cells {l : List D} {k : Nat} (hk : l.length = k) (n : Nat) : (madeCells (l.map D.val).toArray (n * k)).toList = ((List.replicate n l).flatten).map D.val := by
  by_cases h0 : 0 < k
  · have := made_list (l.map D.val) default k (by simp [hk]) h0 n
    rw [List.map_flatten, List.map_replicate, ← this]
    simp only [madeCells, Array.toList_map, Array.toList_range]
    apply List.map_congr_left
    intro j _
    simp [hk, List.getD_eq_getElem?_getD, Array.getElem!_eq_getD, Array.getD_eq_getD_getElem?]
  · have : k = 0 := by omega
    subst this
    have hl : l = [] := List.eq_nil_of_length_eq_zero hk
    subst hl
    simp [madeCells]
theorem rep_ok {z : List D} (h : ∀ d ∈ z, d.ok) (n : Nat) : ∀ d ∈ (List.replicate n z).flatten, d.ok := by
  intro d hd
  obtain ⟨l, hl, hdl⟩ := List.mem_flatten.1 hd
  rw [List.eq_of_mem_replicate hl] at hdl
  exact h d hdl
theorem alloc_goes {v : AV} {v' : Value} {t : Nat} {l : List D} {cur : Array Value} {w' : World} (h : Goes w0 W σ M N a o.dst next v [(N, .rw t l)]) (hM : MRel w0 W σ M w) (hN : σ N = none)
    (hrun : (execOp a.eval o).run P w = .ok (.value v') w') (hw : w'.heap = w.heap.push (.cells cur t (0, 0))) (hos : w'.os = w.os) (htp : w'.tape = w.tape) (hou : w'.output = w.output)
    (hcur : cur.toList.take l.length = l.map D.val) (hok : ∀ d ∈ l, d.ok) (hv : AVRel (sgSet σ N ⟨w.heap.size, 0, cur.size, true, 0, 0⟩) v v') : o.wp P a w next Q := by
  unfold Oper.wp
  rw [hrun]
  exact h (sgSet σ N ⟨w.heap.size, 0, cur.size, true, 0, 0⟩) v' w' (sgSet_le hN) (fun b hb => sgSet_ne _ _ _ _ hb) (fun hp => absurd rfl (hp (N, .rw t l) (by simp))) hv (hM.alloc hN t l cur hcur hok w' hw hos htp hou)
theorem ofs_flat {τ : ET} : ∀ {n : Nat} {l : List D} {xs : List τ.T}, τ.ofs n l = some xs → τ.flat xs = l ∧ xs.length = n
  | 0, [], xs, h => by simp only [ET.ofs, Option.some.injEq] at h; subst h; exact ⟨rfl, rfl⟩
  | 0, _ :: _, xs, h => by simp [ET.ofs] at h
  | n + 1, l, xs, h => by
    simp only [ET.ofs] at h
    split at h
    · rename_i x r hx hr
      cases h
      obtain ⟨h1, h2⟩ := ofs_flat hr
      exact ⟨by rw [ET.flat, of_cells hx, h1, List.take_append_drop], by simp [h2]⟩
    · cases h
theorem flat_rep {τ : ET} (x : τ.T) : ∀ n, τ.flat (List.replicate n x) = (List.replicate n (τ.cells x)).flatten
  | 0 => rfl
  | n + 1 => by simp [List.replicate_succ, ET.flat, flat_rep x n]
theorem allocA_goes {v : AV} {v' : Value} {t : Nat} {τ : ET} {xs : List τ.T} {cur : Array Value} {w' : World} (h : Goes w0 W σ M N a o.dst next v [(N, .arr (some t) τ xs)]) (hM : MRel w0 W σ M w) (hN : σ N = none)
    (hrun : (execOp a.eval o).run P w = .ok (.value v') w') (hw : w'.heap = w.heap.push (.cells cur t (0, 0))) (hos : w'.os = w.os) (htp : w'.tape = w.tape) (hou : w'.output = w.output)
    (hcur : cur.toList.take (τ.flat xs).length = (τ.flat xs).map D.val) (hok : ∀ d ∈ τ.flat xs, d.ok) (hv : AVRel (sgSet σ N ⟨w.heap.size, 0, cur.size, true, xs.length, τ.len⟩) v v') : o.wp P a w next Q := by
  unfold Oper.wp
  rw [hrun]
  exact h _ v' w' (sgSet_le hN) (fun b hb => sgSet_ne _ _ _ _ hb) (fun hp => absurd rfl (hp (N, .arr (some t) τ xs) (by simp))) hv (hM.allocA hN t τ xs cur hcur hok w' hw hos htp hou)
theorem buildSlice_ok {t : TypeId} {n : Nat} {ps : Array (Nat × Operand)} {v : AV} {s : Sets} (ho : o.op = .buildSlice t n ps) (hr : Reach P G gb (opR P G EQ (.buildSlice t n ps) T M N) v s) (hT : TRel σ T a) (hM : MRel w0 W σ M w) (hN : σ N = none)
    (h : Goes w0 W σ M N a o.dst next v s) : o.wp P a w next Q := by
  simp only [opR] at hr
  split at hr
  · rename_i l e hl hu
    split at hr
    · rename_i z sz hz hs
      simp only [cond_eq_ite, Bool.and_eq_true, beq_iff_eq, Nat.ble_eq] at hr
      split at hr
      · rename_i hc
        obtain ⟨hzl, hcells, hroom⟩ := hc
        split at hr
        · rename_i cs hcs
          obtain ⟨zv, hzr, ⟨hzc, hzo⟩, _⟩ := zero_run (w := w) hz
          obtain ⟨hfill, hco⟩ := fill_rel (place' := fun i => some (i * sz, sz)) (fun i => rfl) (rep_ok hzo n) (partVs_rel hT hl) hcs
          have hmade : (Array.range (n * sz)).map (fun j => ((z.map D.val).toArray : Array Value)[j % (z.map D.val).toArray.size]!) = (((List.replicate n z).flatten).map D.val).toArray := by
            apply Array.ext'
            exact made_cells hzl n
          have hlen : cs.length = n * sz := by
            have key : ∀ (l : List (Nat × List D)) (z cs : List D) (place : Nat → Option (Nat × Nat)), fillD place z l = some cs → cs.length = z.length := by
              intro l
              induction l with
              | nil => intro z cs place h; simp only [fillD, Option.some.injEq] at h; rw [h]
              | cons x r ih =>
                intro z cs place h
                simp only [fillD] at h
                split at h
                · cases h
                · simp only [cond_eq_ite, Bool.and_eq_true, beq_iff_eq, Nat.ble_eq] at h
                  split at h
                  · rename_i hc
                    rw [ih _ _ _ h, splice_len hc.2]
                  · cases h
            rw [key _ _ _ _ hcs]
            simp [hzl]
          have hrun : (execOp a.eval o).run P w = .ok (.value (.slice (some ⟨w.heap.size, 0, none⟩) n n)) (w.alloc (.cells (cs.map D.val).toArray e)) := by
            unfold execOp
            rw [ho]
            have h24 : ¬ n * sz > 2 ^ 24 := by
              have : (2 : Nat) ^ 24 = 16777216 := by decide
              omega
            simp only [Instr.buildSlice, Sem.run_bind, underlying_run hu, sizeOf_run hs, Result.andThen_ok]
            rw [if_neg h24]
            by_cases h0 : n * sz = 0
            · have e0 : cs = [] := List.eq_nil_of_length_eq_zero (by omega)
              subst e0
              have hfl : ((List.replicate n z).flatten).map D.val = [] := by
                apply List.eq_nil_of_length_eq_zero
                simp [hzl, h0]
              rw [hfl] at hfill
              rw [if_pos h0]
              simp only [Sem.run_pure, h0, Array.range_zero', List.map_toArray, List.map_nil, Array.toList_map]
              simp only [List.map_nil] at hfill
              simp only [Sem.run_bind, Sem.run_pure, Result.andThen_ok]
              rw [hfill]
              simp [newRow, newObj, Sem.run]
            · rw [if_neg h0]
              simp only [Sem.run_bind, hzr, Result.andThen_ok, Sem.run_pure, hzc, hmade, Array.toList_map]
              rw [hfill]
              simp [newRow, newObj, Sem.run]
          have hml : n ≤ maxLen := by simp only [maxLen, roomD] at *; omega
          split at hr
          · obtain ⟨rfl, rfl⟩ := hr
            refine alloc_goes h hM hN hrun rfl rfl rfl rfl (take_all cs) hco ?_
            exact ⟨_, n, sgSet_self _ _ _, rfl, Nat.le_refl _, hml, fun _ _ => ⟨by simp [hlen], hml⟩⟩
          · rename_i τ _
            by_cases hsz : sz = τ.len
            · rw [if_pos hsz] at hr
              split at hr
              · rename_i xs hxs
                obtain ⟨rfl, rfl⟩ := hr
                obtain ⟨hfl, hxl⟩ := ofs_flat hxs
                refine allocA_goes h hM hN hrun rfl rfl rfl rfl (by rw [hfl]; exact take_all cs) (by rw [hfl]; exact hco) ⟨_, sgSet_self _ _ _, .inr ⟨n, ?_, ?_, ?_, fun _ => ⟨?_, hml, fun e => ?_⟩⟩⟩
                · simp only [hxl]
                · simp only [hxl]; exact Nat.le_refl _
                · simp only [hxl]; exact hml
                · simp [hlen, hsz]
                · simp only at e; omega
              · exact hr.elim
            · rw [if_neg hsz] at hr
              exact hr.elim
        · exact hr.elim
      · exact hr.elim
    · exact hr.elim
  · exact hr.elim
theorem makeFunc_ok {fn : Fn} {first caps : Array Operand} {v : AV} {s : Sets} (ho : o.op = .makeFunc fn first caps) (hr : Reach P G gb (opR P G EQ (.makeFunc fn first caps) T M N) v s) (hT : TRel σ T a) (hM : MRel w0 W σ M w) (hN : σ N = none)
    (h : Goes w0 W σ M N a o.dst next v s) : o.wp P a w next Q := by
  have key : ∀ (l : List AV) (vs : List Value) (cs : List Nat), AVRels σ l vs → capsOf l = some cs → PRel σ cs vs := by
    intro l
    induction l with
    | nil => intro vs cs hv hc; simp only [capsOf, Option.some.injEq] at hc; subst hc; cases vs with | nil => trivial | cons _ _ => exact hv.elim
    | cons x r ih =>
      intro vs cs hv hc
      cases vs with
      | nil => exact hv.elim
      | cons y u =>
        unfold capsOf at hc
        split at hc
        · cases ‹_ = []›
        · rename_i b r' heq
          cases heq
          split at hc
          · rename_i l' hl'
            cases hc
            obtain ⟨⟨L, hL, he⟩, h2⟩ := hv
            exact ⟨⟨L, hL, by simpa using he⟩, ih u l' h2 hl'⟩
          · cases hc
        · cases hc
  simp only [opR] at hr
  split at hr
  · rename_i f l hf hl
    split at hr
    · rename_i cs hcs
      obtain ⟨rfl, rfl⟩ := hr
      have hvs := opdVs_rel hT hl
      have h1 : first = #[] := Array.ext' hf
      refine h.value hM hN (v' := .func (.func f) #[] (caps.map a.eval)) ?_ ⟨_, rfl, ?_⟩
      · unfold execOp
        rw [ho, h1]
        simp [Instr.makeFunc]
      · rw [Array.toList_map]
        exact key _ _ _ hvs hcs
    · exact hr.elim
  · exact hr.elim
theorem makeSlice_ok {t : TypeId} {x y : Operand} {v : AV} {s : Sets} (ho : o.op = .makeSlice t x y) (hr : Reach P G gb (opR P G EQ (.makeSlice t x y) T M N) v s) (hT : TRel σ T a) (hM : MRel w0 W σ M w) (hN : σ N = none)
    (h : Goes w0 W σ M N a o.dst next v s) : o.wp P a w next Q := by
  simp only [opR] at hr
  split at hr
  · rename_i e k n k' n' hu hx hy
    split at hr
    · rename_i z i hz hi
      rcases hr with ⟨hb, hr⟩ | ⟨_, hf⟩
      · simp only [Bool.and_eq_true, decide_eq_true_eq, beq_iff_eq, Nat.ble_eq, Nat.blt_eq] at hb
        obtain ⟨rfl, h0, h1, hzl, hsz, hby⟩ := hb
        obtain ⟨zv, _, ⟨hzc, hzo⟩, i', hi', hz'⟩ := zero_run (w := w) hz
        rw [hi] at hi'
        cases hi'
        have hx' : a.eval x = .int k n := (opdV_rel hT hx).1
        have hy' : a.eval y = .int k' n := (opdV_rel hT hy).1
        have hbn : (i.bytes : Int) * n ≤ 281474976710656 := by
          have h2 : (i.bytes : Int) * n ≤ 4096 * 1048576 := Int.mul_le_mul (by omega) h1 h0 (by omega)
          omega
        have hmk := run_make (P := P) w t e i zv hu hi hz' k k' n n h0 (Int.le_refl _) hbn (by omega)
        rw [hzc] at hmk
        have hcs := made_cells hzl n.toNat
        have hrun : (execOp a.eval o).run P w = .ok (.value (.slice (some ⟨w.heap.size, 0, none⟩) n.toNat n.toNat)) (w.alloc (.cells (madeCells (z.map D.val).toArray (n.toNat * i.size)) e)) := by
          unfold execOp
          rw [ho]
          simp only [hx', hy', Sem.run_bind, hmk, Result.andThen_ok, Sem.run_pure]
        have hml : n.toNat ≤ maxLen := by simp only [maxLen]; omega
        split at hr
        · obtain ⟨rfl, rfl⟩ := hr
          refine alloc_goes h hM hN hrun rfl rfl rfl rfl ?_ (rep_ok hzo _) ⟨_, n.toNat, sgSet_self _ _ _, rfl, Nat.le_refl _, hml, fun _ _ => ⟨by simp [size_madeCells], hml⟩⟩
          rw [hcs]
          exact List.take_of_length_le (by simp)
        · rename_i τ _
          split at hr
          · rename_i y' hy'
            obtain ⟨rfl, rfl⟩ := hr
            simp only [cond_eq_ite, beq_iff_eq] at hy'
            split at hy'
            · rename_i hes
              have hfl : τ.flat (List.replicate n.toNat y') = (List.replicate n.toNat z).flatten := by rw [flat_rep, of_cells hy']
              refine allocA_goes h hM hN hrun rfl rfl rfl rfl ?_ (by rw [hfl]; exact rep_ok hzo _) ⟨_, sgSet_self _ _ _, .inr ⟨n.toNat, ?_, ?_, ?_, fun _ => ⟨?_, hml, fun e => ?_⟩⟩⟩
              · rw [hfl, hcs]
                exact List.take_of_length_le (by simp)
              · simp
              · simp
              · simpa using hml
              · simp [size_madeCells, hes]
              · simpa using e
            · cases hy'
          · exact hr.elim
      · exact hf.elim
    · exact hr.elim
  · exact hr.elim
theorem bound_run {hi : Option Operand} {n m y : Nat} (hT : TRel σ T a) (h : boundO T n hi = some m) (hm : m ≤ y) (c : BoundsCode) :
    (match hi.map a.eval with | some v => Instr.sliceBound v y c | none => pure n : Sem Nat).run P w = .ok m w := by
  unfold boundO at h
  split at h
  · cases h; rfl
  · rename_i x
    split at h
    · rename_i k i hx
      simp only [cond_eq_ite, decide_eq_true_eq] at h
      split at h
      · rename_i h0
        cases h
        have hx' : a.eval x = .int k i := (opdV_rel hT hx).1
        simp only [Option.map_some, hx', Instr.sliceBound, asIntOf, Sem.run_bind, Sem.run_pure, Result.andThen_ok]
        rw [if_pos ⟨h0, by omega⟩]
        rfl
      · cases h
    · cases h
theorem slice_ok {t : TypeId} {x : Operand} {lo hi mx : Option Operand} {v : AV} {s : Sets} (ho : o.op = .slice t x lo hi mx) (hr : Reach P G gb (opR P G EQ (.slice t x lo hi mx) T M N) v s) (hT : TRel σ T a) (hM : MRel w0 W σ M w) (hN : σ N = none)
    (h : Goes w0 W σ M N a o.dst next v s) : o.wp P a w next Q := by
  simp only [opR] at hr
  split at hr
  · rename_i e b k n sz hu hx
    split at hr
    · rename_i sz' l hh hs hl hhi
      simp only [cond_eq_ite, Bool.and_eq_true, beq_iff_eq, Nat.ble_eq, Nat.blt_eq] at hr
      split at hr
      · rename_i hc
        obtain ⟨rfl, hlh, hhn, hln⟩ := hc
        obtain ⟨rfl, rfl⟩ := hr
        obtain ⟨L, cap, hL, he, hcap, hnm, hown⟩ := opdV_rel hT hx
        have h1 := bound_run (P := P) (w := w) hT hhi (Nat.le_trans hhn hcap) .sliceAcap
        have h2 := bound_run (P := P) (w := w) hT hl hlh .sliceB
        have hb : (Instr.sliceBounds true n cap (lo.map a.eval) (hi.map a.eval) none).run P w = .ok (l, hh, cap) w := by
          simp only [Instr.sliceBounds, Sem.run_bind, Sem.run_pure, Result.andThen_ok]
          cases hhi' : hi.map a.eval with
          | none =>
            rw [hhi'] at h1
            cases h1
            cases hlo' : lo.map a.eval with
            | none => rw [hlo'] at h2; cases h2; rfl
            | some u =>
              rw [hlo'] at h2
              simp only at h2
              simp [h2]
          | some u' =>
            rw [hhi'] at h1
            simp only at h1
            cases hlo' : lo.map a.eval with
            | none => rw [hlo'] at h2; cases h2; simp [h1]
            | some u =>
              rw [hlo'] at h2
              simp only at h2
              simp [h1, h2]
        refine h.value hM hN (v' := .slice (some ⟨L.blk, L.off + (k + l * sz), none⟩) (hh - l) (cap - l)) ?_ ?_
        · unfold execOp
          rw [ho]
          simp only [Instr.sliceAt, Instr.slice, Sem.run_bind, underlying_run hu, Result.andThen_ok, he, Option.map_none, hb, sizeOf_run hs, Sem.run_pure]
          rw [if_neg (by omega)]
          simp [add_mk, Nat.add_assoc]
        · refine ⟨L, cap - l, hL, rfl, by omega, by omega, fun hw h0 => ?_⟩
          obtain ⟨h3, h4⟩ := hown hw (by omega)
          exact ⟨Nat.le_trans (Nat.mul_le_mul_right _ (Nat.sub_le _ _)) h3, by omega⟩
      · exact hr.elim
    · exact hr.elim
  · rename_i e b hu hx
    split at hr
    · rename_i sz m own τ xs hs hhi hm
      simp only [cond_eq_ite, beq_iff_eq] at hr
      split at hr
      · rename_i hsz
        rcases hr with ⟨hc, rfl, rfl⟩ | ⟨_, hf⟩
        · simp only [Bool.and_eq_true, Nat.ble_eq, Nat.blt_eq] at hc
          obtain ⟨hm0, hmx⟩ := hc
          obtain ⟨L, hL, hv⟩ := opdV_rel hT hx
          have hB := hM.blk b
          rw [hm] at hB
          obtain ⟨L', g1, g2, g3, _⟩ := hB.elems
          rw [hL] at g1
          cases g1
          rcases hv with ⟨h0, _⟩ | ⟨cap, he, hcap, hnm, _⟩
          · omega
          have h1 := bound_run (P := P) (w := w) (y := cap) (n := L.n) hT (m := m) (hi := hi) (by
            unfold boundO at hhi ⊢
            cases hi with
            | none => simp only [Option.some.injEq] at hhi; omega
            | some _ => exact hhi) (by omega) .sliceAcap
          have hb : (Instr.sliceBounds true L.n cap none (hi.map a.eval) none).run P w = .ok (0, m, cap) w := by
            simp only [Instr.sliceBounds, Sem.run_bind, Sem.run_pure, Result.andThen_ok]
            cases hhi' : hi.map a.eval with
            | none =>
              rw [hhi'] at h1
              cases h1
              rfl
            | some u' =>
              rw [hhi'] at h1
              simp only at h1
              simp [h1]
          refine h.value hM hN (v' := .slice (some ⟨L.blk, L.off, none⟩) m cap) ?_ ⟨L, hL, hm0, by omega, cap, rfl, by omega, by omega⟩
          unfold execOp
          rw [ho]
          simp only [Instr.sliceAt, Instr.slice, Sem.run_bind, underlying_run hu, Result.andThen_ok, he, Option.map_none, hb, sizeOf_run hs, Sem.run_pure]
          rw [if_neg (by omega)]
          simp [add_mk]
        · exact hf.elim
      · exact hr.elim
    · exact hr.elim
  · rename_i n e b k hu hx
    split at hr
    · rename_i sz t' l hs hm
      simp only [cond_eq_ite, Bool.and_eq_true, beq_iff_eq, Nat.ble_eq, Nat.blt_eq] at hr
      split at hr
      · rename_i hc
        obtain ⟨hn, rfl, hlen, hroom⟩ := hc
        obtain ⟨rfl, rfl⟩ := hr
        obtain ⟨L, hL, he⟩ := opdV_rel hT hx
        have hBb := hM.blk b
        rw [hm] at hBb
        obtain ⟨L', cur, h1, h2, h3, h4, h5, _, h6⟩ := hBb
        rw [hL] at h1
        cases h1
        refine h.value hM hN (v' := .slice (some ⟨L.blk, L.off + 0, none⟩) n n) ?_ ⟨L, n, hL, rfl, Nat.le_refl _, by simp only [maxLen, roomD] at *; omega, fun _ _ => ⟨?_, ?_⟩⟩
        · unfold execOp
          rw [ho]
          simp [Instr.sliceAt, underlying_run hu, he, Instr.sureAddr, Instr.sliceBounds, sizeOf_run hs, Addr.add]
        · rw [← h5, ← hlen]
          have := congrArg List.length h6
          simp at this
          omega
        · simp only [maxLen, roomD] at *
          omega
      · exact hr.elim
    · exact hr.elim
  · exact hr.elim
end
end Go.Ev

namespace Go.Ev
open Go
section
variable {P : Program} {G : Nat → Option (List D)} {gb : Nat} {EQ : Tab} {w0 : World} {W : Nat → Prop} {σ : Sg} {a : Act} {w : World} {T : TS} {M : List Blk} {N : Nat} {o : Oper}
  {next : Act → World → Prop} {Q : Exit → Act → World → Prop}
theorem tmod_ok {k : IntKind} {x y : Int} (hx : inR k x = true) (hy : inR k y = true) : inR k (x.tmod y) = true := by
  have key : (0 ≤ x → 0 ≤ x.tmod y ∧ x.tmod y ≤ x) ∧ (x ≤ 0 → x ≤ x.tmod y ∧ x.tmod y ≤ 0) := by
    constructor
    · intro h
      exact ⟨Int.tmod_nonneg y h, by
        have h1 := Int.tmod_nonneg y h
        rcases Int.le_total 0 y with h2 | h2
        · rw [Int.tmod_eq_emod_of_nonneg h]
          by_cases e : y = 0
          · subst e; simp
          · have := Int.emod_nonneg x e
            have h3 := Int.mul_ediv_add_emod x y
            have h4 : 0 ≤ y * (x / y) := Int.mul_nonneg h2 (Int.ediv_nonneg h h2)
            omega
        · rw [Int.tmod_eq_emod_of_nonneg h]
          by_cases e : y = 0
          · subst e; simp
          · have h3 := Int.mul_ediv_add_emod x y
            have h4 : 0 ≤ y * (x / y) := by
              have h5 : x / y ≤ 0 := by
                have := Int.ediv_nonneg h (show 0 ≤ -y by omega)
                rw [Int.ediv_neg] at this
                omega
              have := Int.mul_nonneg (show 0 ≤ -y by omega) (show 0 ≤ -(x / y) by omega)
              rw [Int.neg_mul_neg] at this
              exact this
            omega⟩
    · intro h
      have hn : 0 ≤ -x := by omega
      have e : x.tmod y = -((-x).tmod y) := by rw [Int.neg_tmod, Int.neg_neg]
      have h1 := Int.tmod_nonneg y hn
      have h2 : (-x).tmod y ≤ -x := by
        rw [Int.tmod_eq_emod_of_nonneg hn]
        by_cases e : y = 0
        · subst e; simp
        · have h3 := Int.mul_ediv_add_emod (-x) y
          rcases Int.le_total 0 y with h2 | h2
          · have h4 : 0 ≤ y * (-x / y) := Int.mul_nonneg h2 (Int.ediv_nonneg hn h2)
            omega
          · have h4 : 0 ≤ y * (-x / y) := by
              have h5 : -x / y ≤ 0 := by
                have := Int.ediv_nonneg hn (show 0 ≤ -y by omega)
                rw [Int.ediv_neg] at this
                omega
              have := Int.mul_nonneg (show 0 ≤ -y by omega) (show 0 ≤ -(-x / y) by omega)
              rw [Int.neg_mul_neg] at this
              exact this
            omega
      omega
  cases k <;> simp only [inR, Bool.and_eq_true, decide_eq_true_eq] at hx hy ⊢ <;> (rcases Int.le_total 0 x with h | h; have := key.1 h; omega; have := key.2 h; omega)
theorem fdiv_ok {k : IntKind} {x : Int} (hx : inR k x = true) (n : Nat) : inR k (x.fdiv (2 ^ n)) = true := by
  have hp : (0 : Int) < 2 ^ n := Int.pow_pos (by omega)
  rw [Int.fdiv_eq_ediv_of_nonneg x (Int.le_of_lt hp)]
  have h1 := Int.mul_ediv_add_emod x (2 ^ n)
  have h2 := Int.emod_nonneg x (show (2 : Int) ^ n ≠ 0 by omega)
  have h3 := Int.emod_lt_of_pos x hp
  generalize (2 : Int) ^ n = p at *
  generalize x / p = q at *
  generalize x % p = r at *
  have key : (0 ≤ x → 0 ≤ q ∧ q ≤ x) ∧ (x < 0 → x ≤ q ∧ q < 0) := by
    constructor
    · intro h
      have hq : 0 ≤ q := by
        rcases Int.lt_or_le q 0 with h4 | h4
        · have := Int.mul_le_mul_of_nonneg_left (show q ≤ -1 by omega) (Int.le_of_lt hp)
          omega
        · exact h4
      have := Int.mul_le_mul_of_nonneg_right (show 1 ≤ p by omega) hq
      omega
    · intro h
      have hq : q < 0 := by
        rcases Int.lt_or_le q 0 with h4 | h4
        · exact h4
        · have := Int.mul_nonneg (Int.le_of_lt hp) h4
          omega
      have h5 := Int.mul_le_mul_of_nonneg_left (show q + 1 ≤ 0 by omega) (show 0 ≤ p - 1 by omega)
      have h6 : (p - 1) * (q + 1) = p * q + p - q - 1 := by rw [Int.sub_mul, Int.mul_add, Int.mul_one, Int.one_mul]; omega
      omega
  cases k <;> simp only [inR, Bool.and_eq_true, decide_eq_true_eq] at hx ⊢ <;> (rcases Int.lt_or_le x 0 with h | h; have := key.2 h; omega; have := key.1 h; omega)
theorem intBin_run {op : BinOp} {k : IntKind} {x y : Int} {v : AV} {s : Sets} (t : TypeId) (p q : Operand) (h1 : op ≠ .shl) (h2 : op ≠ .shr) (hx : inR k x = true) (hy : inR k y = true) (hr : Reach P G gb (intBin op k x y) v s) :
    s = [] ∧ ∃ d : D, v = .v (.c (.d d)) ∧ d.ok ∧ (do eqGuard op t p q (.int k x) (.int k y); binOp op t (.int k x) (.int k y) : Sem Value).run P w = .ok d.val w := by
  have hg : (eqGuard op t p q (.int k x) (.int k y)).run P w = .ok () w := by
    unfold eqGuard
    cases op <;> rfl
  simp only [Sem.run_bind, hg, Result.andThen_ok]
  cases op <;> simp only [intBin] at hr <;> try exact hr.elim
  case add => obtain ⟨rfl, rfl⟩ := hr; exact ⟨rfl, _, rfl, wr_ok _ _, by simp [binOp, Op.intArith, wr_eq, D.val]⟩
  case sub => obtain ⟨rfl, rfl⟩ := hr; exact ⟨rfl, _, rfl, wr_ok _ _, by simp [binOp, Op.intArith, wr_eq, D.val]⟩
  case mul => obtain ⟨rfl, rfl⟩ := hr; exact ⟨rfl, _, rfl, wr_ok _ _, by simp [binOp, Op.intArith, wr_eq, D.val]⟩
  case quo =>
    rcases hr with ⟨_, hf⟩ | ⟨hb, rfl, rfl⟩
    · exact hf.elim
    · have : ¬ y = 0 := by simpa using hb
      exact ⟨rfl, _, rfl, wr_ok _ _, by simp [binOp, Op.intDiv, wr_eq, this, D.val]⟩
  case rem =>
    rcases hr with ⟨_, hf⟩ | ⟨hb, rfl, rfl⟩
    · exact hf.elim
    · have : ¬ y = 0 := by simpa using hb
      exact ⟨rfl, _, rfl, tmod_ok hx hy, by simp [binOp, Op.intDiv, this, D.val]⟩
  case eql => obtain ⟨rfl, rfl⟩ := hr; exact ⟨rfl, _, rfl, trivial, by simp [binOp, Op.intCmp, D.val]⟩
  case neq => obtain ⟨rfl, rfl⟩ := hr; exact ⟨rfl, _, rfl, trivial, by simp [binOp, Op.intCmp, D.val]⟩
  case lss => obtain ⟨rfl, rfl⟩ := hr; exact ⟨rfl, _, rfl, trivial, by simp [binOp, Op.intCmp, D.val]⟩
  case leq => obtain ⟨rfl, rfl⟩ := hr; exact ⟨rfl, _, rfl, trivial, by simp [binOp, Op.intCmp, D.val]⟩
  case gtr => obtain ⟨rfl, rfl⟩ := hr; exact ⟨rfl, _, rfl, trivial, by simp [binOp, Op.intCmp, D.val]⟩
  case geq => obtain ⟨rfl, rfl⟩ := hr; exact ⟨rfl, _, rfl, trivial, by simp [binOp, Op.intCmp, D.val]⟩
  case and => obtain ⟨rfl, rfl⟩ := hr; exact ⟨rfl, _, rfl, wr_ok _ _, by simp only [binOp, Op.intBits, D.val, wr_eq]; simp⟩
  case or => obtain ⟨rfl, rfl⟩ := hr; exact ⟨rfl, _, rfl, wr_ok _ _, by simp only [binOp, Op.intBits, D.val, wr_eq]; simp⟩
theorem shiftBin_run {op : BinOp} {k k' : IntKind} {x y : Int} {v : AV} {s : Sets} (t : TypeId) (p q : Operand) (hop : op = .shl ∨ op = .shr) (hx : inR k x = true) (hr : Reach P G gb (shiftBin op k x y) v s) :
    s = [] ∧ ∃ d : D, v = .v (.c (.d d)) ∧ d.ok ∧ (do eqGuard op t p q (.int k x) (.int k' y); binOp op t (.int k x) (.int k' y) : Sem Value).run P w = .ok d.val w := by
  rcases hop with rfl | rfl
  · simp only [shiftBin] at hr
    rcases hr with ⟨_, hf⟩ | ⟨hb, rfl, rfl⟩
    · exact hf.elim
    · have : ¬ y < 0 := by simpa using hb
      exact ⟨rfl, _, rfl, wr_ok _ _, by simp [eqGuard, binOp, Op.shift, wr_eq, this, D.val]⟩
  · simp only [shiftBin] at hr
    rcases hr with ⟨_, hf⟩ | ⟨hb, rfl, rfl⟩
    · exact hf.elim
    · have : ¬ y < 0 := by simpa using hb
      exact ⟨rfl, _, rfl, fdiv_ok hx _, by simp [eqGuard, binOp, Op.shift, this, D.val]⟩
theorem bool_eq_run {t : TypeId} (hu : P.underlying t = some .bool) (x y : Bool) (p q : Operand) :
    (do eqGuard .eql t p q (.bool x) (.bool y); binOp .eql t (.bool x) (.bool y) : Sem Value).run P w = .ok (.bool (x == y)) w ∧
    (do eqGuard .neq t p q (.bool x) (.bool y); binOp .neq t (.bool x) (.bool y) : Sem Value).run P w = .ok (.bool (!(x == y))) w := by
  have h1 : (Op.equal t (.bool x) (.bool y)).run P w = .ok (x == y) w := by
    unfold Op.equal
    rw [show Op.maxDepth = 9999 + 1 from rfl]
    unfold Op.equalIn
    simp only [Sem.run_bind, underlying_run hu, Result.andThen_ok, Sem.run_pure]
  constructor
  · simp [eqGuard, binOp, h1]
  · simp [eqGuard, binOp, h1]
theorem str_eq_run {t : TypeId} (x y : ByteArray) (p q : Operand) :
    (do eqGuard .eql t p q (.string x) (.string y); binOp .eql t (.string x) (.string y) : Sem Value).run P w = .ok (.bool (x.data.toList == y.data.toList)) w ∧
    (do eqGuard .neq t p q (.string x) (.string y); binOp .neq t (.string x) (.string y) : Sem Value).run P w = .ok (.bool (!(x.data.toList == y.data.toList))) w := by
  rw [← ByteArray.toList_eq, ← ByteArray.toList_eq]
  exact ⟨rfl, rfl⟩
theorem binOp_ok {op : BinOp} {t u : TypeId} {x y : Operand} {v : AV} {s : Sets} (hEQ : ∀ t, t ∈ EQ.eq → EqOK P t) (ho : o.op = .binOp op t x y u) (hr : Reach P G gb (opR P G EQ (.binOp op t x y u) T M N) v s) (hT : TRel σ T a) (hM : MRel w0 W σ M w) (hN : σ N = none)
    (h : Goes w0 W σ M N a o.dst next v s) : o.wp P a w next Q := by
  have fin : ∀ (d : D), d.ok → s = [] → v = .v (.c (.d d)) → (do eqGuard op t x y (a.eval x) (a.eval y); binOp op t (a.eval x) (a.eval y) : Sem Value).run P w = .ok d.val w → o.wp P a w next Q := by
    intro d hok hs hv hrun
    subst hs
    subst hv
    refine h.value hM hN (v' := d.val) ?_ ⟨rfl, hok⟩
    unfold execOp
    rw [ho]
    simp only [Sem.run_bind] at hrun ⊢
    rw [hrun]
    rfl
  simp only [opR] at hr
  split at hr
  · rename_i vx vy hx hy
    have rx := opdV_rel hT hx
    have ry := opdV_rel hT hy
    unfold evBin at hr
    split at hr
    · rename_i k n k' n'
      obtain ⟨ex, ox⟩ := rx
      obtain ⟨ey, oy⟩ := ry
      split at hr
      · obtain ⟨hs, d, hv, hok, hrun⟩ := shiftBin_run (w := w) (k' := k') t x y (.inl rfl) ox hr
        exact fin d hok hs hv (by rw [ex, ey]; exact hrun)
      · obtain ⟨hs, d, hv, hok, hrun⟩ := shiftBin_run (w := w) (k' := k') t x y (.inr rfl) ox hr
        exact fin d hok hs hv (by rw [ex, ey]; exact hrun)
      · rename_i h1 h2
        simp only [cond_eq_ite, decide_eq_true_eq] at hr
        split at hr
        · rename_i hk
          subst hk
          obtain ⟨hs, d, hv, hok, hrun⟩ := intBin_run (w := w) t x y (fun e => h1 e) (fun e => h2 e) ox oy hr
          exact fin d hok hs hv (by rw [ex, ey]; exact hrun)
        · exact hr.elim
    · rename_i p q
      obtain ⟨ex, _⟩ := rx
      obtain ⟨ey, _⟩ := ry
      change a.eval x = .bool p at ex
      change a.eval y = .bool q at ey
      split at hr
      · rename_i hu
        obtain ⟨rfl, rfl⟩ := hr
        exact fin (.bool (p == q)) trivial rfl rfl (by rw [ex, ey]; exact (bool_eq_run hu p q x y).1)
      · rename_i hu
        obtain ⟨rfl, rfl⟩ := hr
        exact fin (.bool (!(p == q))) trivial rfl rfl (by rw [ex, ey]; exact (bool_eq_run hu p q x y).2)
      · exact hr.elim
    · rename_i p q
      obtain ⟨ex, _⟩ := rx
      obtain ⟨ey, _⟩ := ry
      change a.eval x = .string p at ex
      change a.eval y = .string q at ey
      split at hr
      · obtain ⟨rfl, rfl⟩ := hr
        exact fin (.bool (p.data.toList == q.data.toList)) trivial rfl rfl (by rw [ex, ey]; exact (str_eq_run p q x y).1)
      · obtain ⟨rfl, rfl⟩ := hr
        exact fin (.bool (!(p.data.toList == q.data.toList))) trivial rfl rfl (by rw [ex, ey]; exact (str_eq_run p q x y).2)
      · exact hr.elim
    · rename_i p q
      obtain ⟨ex, _⟩ := rx
      obtain ⟨ey, _⟩ := ry
      split at hr
      · rename_i z hz
        simp only [cond_eq_ite, Bool.and_eq_true] at hr
        split at hr
        · rename_i hc
          obtain ⟨ht, h1, h2⟩ := hc
          have ht' : t ∈ EQ.eq := by simpa using ht
          obtain ⟨e1, e2⟩ := hEQ t ht' z p q x y w hz h1 h2
          split at hr
          · obtain ⟨rfl, rfl⟩ := hr
            exact fin (.bool (eqAll p q)) trivial rfl rfl (by rw [ex, ey]; exact e1)
          · obtain ⟨rfl, rfl⟩ := hr
            exact fin (.bool (!(eqAll p q))) trivial rfl rfl (by rw [ex, ey]; exact e2)
          · exact hr.elim
        · exact hr.elim
      · exact hr.elim
    · exact hr.elim
  · exact hr.elim
theorem maxL_run {k : IntKind} : ∀ {r : List AV} {vs : List Value} {x y : Int}, AVRels σ r vs → inR k x = true → maxL k x r = some y → (vs.foldlM Builtin.max2 (.int k x)).run P w = .ok (.int k y) w ∧ inR k y = true
  | [], [], x, y, _, hx, h => by simp only [maxL, Option.some.injEq] at h; subst h; exact ⟨rfl, hx⟩
  | p :: r, u :: vs, x, y, ⟨h1, h2⟩, hx, h => by
    unfold maxL at h
    split at h
    · cases ‹_ = []›
    · rename_i k' z r' heq
      cases heq
      obtain ⟨e, oz⟩ := h1
      change u = .int k' z at e
      subst e
      simp only [cond_eq_ite, decide_eq_true_eq] at h
      split at h
      · rename_i ek
        subst ek
        simp only [List.foldlM_cons, Builtin.max2, Sem.run_bind, Sem.run_pure, Result.andThen_ok]
        exact maxL_run h2 (by split; exact oz; exact hx) h
      · cases h
    · cases h
  | [], _ :: _, _, _, hh, _, _ => hh.elim
  | _ :: _, [], _, _, hh, _, _ => hh.elim
theorem minL_run {k : IntKind} : ∀ {r : List AV} {vs : List Value} {x y : Int}, AVRels σ r vs → inR k x = true → minL k x r = some y → (vs.foldlM Builtin.min2 (.int k x)).run P w = .ok (.int k y) w ∧ inR k y = true
  | [], [], x, y, _, hx, h => by simp only [minL, Option.some.injEq] at h; subst h; exact ⟨rfl, hx⟩
  | p :: r, u :: vs, x, y, ⟨h1, h2⟩, hx, h => by
    unfold minL at h
    split at h
    · cases ‹_ = []›
    · rename_i k' z r' heq
      cases heq
      obtain ⟨e, oz⟩ := h1
      change u = .int k' z at e
      subst e
      simp only [cond_eq_ite, decide_eq_true_eq] at h
      split at h
      · rename_i ek
        subst ek
        simp only [List.foldlM_cons, Builtin.min2, Sem.run_bind, Sem.run_pure, Result.andThen_ok]
        exact minL_run h2 (by split; exact oz; exact hx) h
      · cases h
    · cases h
  | [], _ :: _, _, _, hh, _, _ => hh.elim
  | _ :: _, [], _, _, hh, _, _ => hh.elim
theorem srcD_rel {sz : Nat} {x : AV} {v : Value} {q : Nat × List D} (hM : MRel w0 W σ M w) (hv : AVRel σ x v) (h : srcD M sz x = some q) :
    q.2.length = q.1 * sz ∧ (∀ d ∈ q.2, d.ok) ∧ ((v = .slice none 0 0 ∧ q.1 = 0) ∨ ∃ ad c, v = .slice (some ad) q.1 c ∧ ∀ j d, q.2[j]? = some d → w.cell? (ad.add j) = some d.val) := by
  unfold srcD at h
  split at h
  · rename_i b k n es
    split at h
    · rename_i l hl
      simp only [cond_eq_ite, Bool.and_eq_true, beq_iff_eq] at h
      split at h
      · rename_i hc
        obtain ⟨rfl, hlen⟩ := hc
        cases h
        obtain ⟨L, cap, hL, he, _⟩ := hv
        obtain ⟨L', hL', hok, hc⟩ := (hM.blk b).cell hl
        rw [hL] at hL'
        cases hL'
        refine ⟨hlen, fun d hd => hok d (List.mem_of_mem_drop (List.mem_of_mem_take hd)), .inr ⟨_, cap, he, fun j d hj => ?_⟩⟩
        rw [add_mk, Nat.add_assoc]
        exact hc _ d (take_drop_get hj)
      · cases h
    · cases h
  · cases h
    exact ⟨by simp, by simp, .inl ⟨hv, rfl⟩⟩
  · cases h
theorem append_zero {t e : TypeId} {i : TypeInfo} (ht : P.underlying t = some (.slice e)) (hi : P.info? e = some i) (ty : TypeId) (b : Option Addr) (n cap : Nat) (hn : n ≤ cap) (x : Value) (hx : x = .slice none 0 0 ∨ ∃ ad c, x = .slice (some ad) 0 c) :
    (Builtin.append_ #[t, t] ty #[.slice b n cap, x]).run P w = .ok (.slice b n cap) w := by
  rcases hx with rfl | ⟨ad, c, rfl⟩
  · cases b <;> simp [Builtin.append_, underlying_run ht, sizeOf, typeInfo_run hi, Builtin.lenOf, Builtin.firstCells, hn, storeCells]
  · cases b <;> simp [Builtin.append_, underlying_run ht, sizeOf, typeInfo_run hi, Builtin.lenOf, Builtin.firstCells, hn, storeCells, loadCells, loadCellsFrom]
theorem append_ok {t : TypeId} {sx xx : Operand} {sv xv : AV} {v : AV} {s : Sets} (ho : o.op = .call { callee := .builtin .append, args := #[sx, xx], argTypes := #[t, t] })
    (hs : AVRel σ sv (a.eval sx)) (hx : AVRel σ xv (a.eval xx)) (hr : Reach P G gb (evAppend P t sv xv M N) v s) (hM : MRel w0 W σ M w) (hN : σ N = none)
    (h : Goes w0 W σ M N a o.dst next v s) : o.wp P a w next Q := by
  unfold evAppend at hr
  split at hr
  · rename_i e ht
    split at hr
    · exact hr.elim
    · rename_i i hi
      split at hr
      · rename_i src base z hsrc hbase hz
        obtain ⟨zv, _, ⟨hzc, _⟩, i', hi', hz'⟩ := zero_run (w := w) hz
        rw [hi] at hi'
        cases hi'
        obtain ⟨hsl, hso, hsv⟩ := srcD_rel hM hx hsrc
        have hexec : ∀ (v' : Value) (w' : World), (Builtin.append_ #[t, t] o.type #[a.eval sx, a.eval xx]).run P w = .ok v' w' → (execOp a.eval o).run P w = .ok (.value v') w' := by
          intro v' w' hrun
          unfold execOp
          simp only [ho, resolve, invoke, builtin, Sem.run_bind, Sem.run_pure, Result.andThen_ok, List.map_toArray, List.map_cons, List.map_nil, hrun]
        rcases hr with ⟨h0, rfl, rfl⟩ | ⟨h0, hr⟩
        · -- nothing is appended
          have h0' : src.1 = 0 := by simpa using h0
          rw [h0'] at hsv
          have hx0 : a.eval xx = .slice none 0 0 ∨ ∃ ad c, a.eval xx = .slice (some ad) 0 c := by
            rcases hsv with ⟨h1, _⟩ | ⟨ad, c, h1, _⟩
            · exact .inl h1
            · exact .inr ⟨ad, c, h1⟩
          have hcases : ∃ b n cap, a.eval sx = .slice b n cap ∧ n ≤ cap := by
            unfold baseD at hbase
            split at hbase
            · exact ⟨none, 0, 0, hs, Nat.le_refl _⟩
            · obtain ⟨L, cap, _, he, hc, _⟩ := hs
              exact ⟨_, _, cap, he, hc⟩
            · cases hbase
          obtain ⟨b, n, cap, he, hc⟩ := hcases
          have hrun := append_zero (P := P) (w := w) ht hi o.type b n cap hc _ hx0
          rw [← he] at hrun
          exact h.value hM hN (hexec _ _ hrun) hs
        · have h0' : 0 < src.1 := Nat.pos_of_ne_zero (by simpa using h0)
          rcases hr with ⟨hc, rfl, rfl⟩ | ⟨_, hf⟩
          · simp only [Bool.and_eq_true, beq_iff_eq, Nat.ble_eq, Nat.blt_eq] at hc
            obtain ⟨hsz, hzl, hroom, hby⟩ := hc
            rcases hsv with ⟨_, h1⟩ | ⟨ad, c, hxe, hcell⟩
            · omega
            have hnews : ∀ j u, (src.2.map D.val)[j]? = some u → w.cell? (ad.add j) = some u := by
              intro j u hj
              rw [List.getElem?_map] at hj
              cases hd : src.2[j]? with
              | none => rw [hd] at hj; cases hj
              | some d => rw [hd] at hj; cases hj; exact hcell j d hd
            have h1c : ∀ u ∈ src.2.map D.val, u.oneCell' = true := by
              simp only [List.mem_map]
              rintro u ⟨d, _, rfl⟩
              exact oneCell_val d
            have hbytes : (base.1 + src.1) * i.bytes ≤ 140737488355328 := by
              have := Nat.mul_le_mul hroom hby
              simp only [roomD] at this
              omega
            have hml : base.1 + src.1 ≤ maxLen := by simp only [maxLen, roomD] at *; omega
            have hzcs : zv.cells.size = i.size := by rw [hzc]; simp [hzl]
            -- a new row, grown
            have grown : ∀ (old : Nat) (olds : List D), (∀ d ∈ olds, d.ok) → olds.length = base.1 * i.size → base.2.1 = olds →
                ∀ ss, ss = base.2.2 → (∀ p ∈ ss, p.1 ≠ N ∧ p.2 = .dead) →
                (Builtin.append_ #[t, t] o.type #[a.eval sx, a.eval xx]).run P w = .ok (.slice (some ⟨w.heap.size, 0, none⟩) (base.1 + src.1) (grownCap w (base.1 + src.1) old e))
                  (w.drew.alloc (.cells ((olds.map D.val).toArray ++ (src.2.map D.val).toArray ++ Builtin.zeroCells zv.cells (grownCap w (base.1 + src.1) old e - (base.1 + src.1))) e)) → o.wp P a w next Q := by
              intro old olds hoo hol hb1 ss hss hdead hrun
              have hge := grownCap_ge w (base.1 + src.1) old e
              have hcm : grownCap w (base.1 + src.1) old e ≤ maxLen := grownCap_le_maxLen w (base.1 + src.1) old e hml
              generalize grownCap w (base.1 + src.1) old e = cap at *
              generalize hcur : ((olds.map D.val).toArray ++ (src.2.map D.val).toArray ++ Builtin.zeroCells zv.cells (cap - (base.1 + src.1))) = cur at *
              have hcs : cur.size = cap * i.size := by
                rw [← hcur]
                simp only [Array.size_append, List.size_toArray, List.length_map, size_zeroCells, hzcs, hol, hsl, ← Nat.add_mul]
                congr 1
                omega
              have htake : cur.toList.take (olds ++ src.2).length = (olds ++ src.2).map D.val := by
                rw [← hcur]
                simp only [Array.toList_append, List.map_append]
                rw [List.take_append_of_le_length (by simp)]
                exact List.take_of_length_le (by simp)
              unfold Oper.wp
              rw [hexec _ _ hrun]
              have hM' : MRel w0 W σ (puts M ss) w := hM.congr (fun b => by
                rw [mget_puts]
                clear hss
                induction ss with
                | nil => exact .inl rfl
                | cons p r ih =>
                  have ih' := ih (fun q hq => hdead q (by simp [hq]))
                  simp only [lastSet]
                  cases hls : lastSet r b with
                  | some y => rw [hls] at ih'; exact ih'
                  | none =>
                    by_cases hpb : p.1 = b
                    · simp only [hpb, if_true, Option.getD_some]; exact .inr (hdead p (by simp)).2
                    · simp [hpb])
              have hapok : ∀ d ∈ olds ++ src.2, d.ok := by simp only [List.mem_append]; rintro d (hd | hd); exact hoo d hd; exact hso d hd
              have hall := hM'.alloc hN e (olds ++ src.2) cur htake hapok (w.drew.alloc (.cells cur e)) rfl rfl rfl rfl
              refine h (sgSet σ N ⟨w.heap.size, 0, cur.size, true, 0, 0⟩) _ _ (sgSet_le hN) (fun b hb => sgSet_ne _ _ _ _ hb) (fun hp => absurd rfl (hp (N, .rw e (base.2.1 ++ src.2)) (by simp))) ⟨_, cap, sgSet_self _ _ _, rfl, hge, hml, fun _ _ => ⟨by rw [hcs]; exact Nat.le_refl _, hcm⟩⟩ ?_
              rw [hb1, ← hss]
              rw [puts_append]
              exact hall
            unfold baseD at hbase
            split at hbase
            · cases hbase
              have he : a.eval sx = .slice none 0 0 := hs
              have hr := run_append_nil (P := P) w t o.type e i zv ht hi hz' ad src.1 c (src.2.map D.val) (by simpa using hsl) hnews h0' (by simp only [maxLen, Nat.zero_add] at hml; omega) (by simp only [Nat.zero_add] at hbytes; omega)
              refine grown 0 [] (by simp) (by simp) rfl [] rfl (by simp) ?_
              rw [he, hxe]
              simpa using hr
            · rename_i b k n es
              split at hbase
              · rename_i ty l hm
                simp only [cond_eq_ite, Bool.and_eq_true, beq_iff_eq] at hbase
                split at hbase
                · rename_i hcc
                  obtain ⟨rfl, rfl, rfl, hll⟩ := hcc
                  cases hbase
                  simp only at *
                  obtain ⟨L, cap, hL, he, hnc, _, hown⟩ := hs
                  have hBb := hM.blk b
                  rw [hm] at hBb
                  obtain ⟨L', cur, h1, h2, h3, h4, h5, hlok, h6⟩ := id hBb
                  rw [hL] at h1
                  cases h1
                  obtain ⟨hcap, hcm⟩ := hown h3 rfl
                  rw [h2] at he
                  by_cases hfits : n + src.1 ≤ cap
                  · have hfit : n * i.size + (src.2.map D.val).length ≤ cur.size := by
                      rw [List.length_map, hsl, ← Nat.add_mul, h5]
                      exact Nat.le_trans (Nat.mul_le_mul_right _ hfits) hcap
                    have hr := run_append_room (P := P) w t o.type ty i ht hi L.blk n cap cur h4 ad src.1 c (src.2.map D.val) (by simpa using hsl) hnews h1c hfits hfit
                    have hst := hM.store hm hL (l' := l ++ src.2) (cur' := (cur.toList.take (n * i.size) ++ src.2.map D.val ++ cur.toList.drop (n * i.size + (src.2.map D.val).length)).toArray)
                      (w.setRow L.blk (cur.toList.take (n * i.size) ++ src.2.map D.val ++ cur.toList.drop (n * i.size + (src.2.map D.val).length)).toArray) (setRow_heap w L.blk cur _ ty _ h4)
                      (by simp only [List.size_toArray, List.length_append, List.length_take, List.length_drop, Array.length_toList]; omega)
                      (by
                        rw [← hll, h6, List.map_append]
                        simp only
                        rw [List.take_append_of_le_length (by simp)]
                        exact List.take_of_length_le (by simp))
                      (by simp only [List.mem_append]; rintro d (hd | hd); exact hlok d hd; exact hso d hd)
                      (fun k hk => setRow_other w L.blk k _ hk) (by simp) rfl rfl rfl
                    have hmv := hst.moved (N := N) (by rw [mget_mput, if_pos rfl]) hL hN
                    unfold Oper.wp
                    rw [hexec _ _ (by rw [he, hxe]; exact hr)]
                    refine h (sgSet σ N L) _ _ (sgSet_le hN) (fun b hb => sgSet_ne _ _ _ _ hb) (fun hp => absurd rfl (hp (N, .rw ty (l ++ src.2)) (by simp))) ⟨L, cap, sgSet_self _ _ _, by rw [h2], hfits, hml, fun _ _ => ⟨hcap, hcm⟩⟩ ?_
                    refine hmv.congr fun c => .inl ?_
                    show mget (mput (mput M b .dead) N _) c = _
                    rw [mget_mput, mget_mput, mget_mput, mget_mput, mget_mput]
                    split
                    · rfl
                    · split <;> rfl
                  · have holds : ∀ j u, (l.map D.val)[j]? = some u → w.cell? ((⟨L.blk, 0, none⟩ : Addr).add j) = some u := by
                      intro j u hj
                      rw [List.getElem?_map] at hj
                      cases hd : l[j]? with
                      | none => rw [hd] at hj; cases hj
                      | some d =>
                        rw [hd] at hj
                        cases hj
                        obtain ⟨L', hL', _, hc'⟩ := hBb.cell (l := l) rfl
                        rw [hL] at hL'
                        cases hL'
                        have := hc' j d hd
                        rw [h2] at this
                        rw [add_mk]
                        exact this
                    have hr := run_append_grow (P := P) w t o.type ty i zv ht hi hz' ⟨L.blk, 0, none⟩ n cap (l.map D.val) (by simpa using hll) holds ad src.1 c (src.2.map D.val) (by simpa using hsl) hnews (by omega) (by simp only [maxLen] at hml; omega) (growslice_fits (by omega) hbytes)
                    refine grown cap l hlok hll rfl [(b, .dead)] rfl (fun p hp => ?_) (by rw [he, hxe]; exact hr)
                    simp only [List.mem_singleton] at hp
                    subst hp
                    exact ⟨(fun e => by simp only at e; rw [e, hN] at hL; cases hL), rfl⟩
                · cases hbase
              · cases hbase
            · cases hbase
          · exact hf.elim
      · exact hr.elim
  · exact hr.elim
theorem castL_eq {υ τ : ET} {xs : List υ.T} {ys : List τ.T} (h : castL υ τ xs = some ys) : τ.flat ys = υ.flat xs ∧ ys.length = xs.length ∧ υ.len = τ.len := by
  cases υ <;> cases τ <;> first | (cases h; done) | (cases h; exact ⟨rfl, rfl, rfl⟩)
theorem flat_app (τ : ET) : ∀ xs ys : List τ.T, τ.flat (xs ++ ys) = τ.flat xs ++ τ.flat ys
  | [], _ => rfl
  | x :: r, ys => by simp [ET.flat, flat_app τ r ys]
theorem flat_take (τ : ET) : ∀ (xs : List τ.T) (n : Nat), τ.flat (xs.take n) = (τ.flat xs).take (n * τ.len)
  | [], n => by simp [ET.flat]
  | x :: r, 0 => by simp [ET.flat]
  | x :: r, n + 1 => by
    rw [List.take_succ_cons, ET.flat, ET.flat, flat_take τ r n, Nat.succ_mul, Nat.add_comm (n * τ.len), ← cells_len τ x, List.take_length_add_append]
theorem takeK_get {τ : ET} {k : Option Nat} {xs : List τ.T} {j : Nat} {d : D} (h : (τ.flat (takeK k xs))[j]? = some d) : (τ.flat xs)[j]? = some d := by
  cases k with
  | none => exact h
  | some n =>
    simp only [takeK, flat_take] at h
    rw [List.getElem?_take] at h
    split at h
    · exact h
    · cases h
theorem takeK_ok {τ : ET} {k : Option Nat} {xs : List τ.T} (h : ∀ d ∈ τ.flat xs, d.ok) : ∀ d ∈ τ.flat (takeK k xs), d.ok := fun d hd => by
  obtain ⟨j, hj⟩ := List.getElem?_of_mem hd
  exact h d (List.mem_of_getElem? (takeK_get hj))
theorem srcA_rel {sz : Nat} {τ : ET} {x : AV} {v : Value} {ys : List τ.T} (hM : MRel w0 W σ M w) (hv : AVRel σ x v) (h : srcA M sz τ x = some ys) :
    (∀ d ∈ τ.flat ys, d.ok) ∧ ((v = .slice none 0 0 ∧ ys = []) ∨ ∃ ad c, v = .slice (some ad) ys.length c ∧ ∀ j d, (τ.flat ys)[j]? = some d → w.cell? (ad.add j) = some d.val) := by
  unfold srcA at h
  split at h
  · rename_i b k
    split at h
    · rename_i own υ xs hm
      obtain ⟨e1, e2, _⟩ := castL_eq h
      obtain ⟨L, hL, hv⟩ := hv
      have hB := hM.blk b
      rw [hm] at hB
      obtain ⟨L', g1, g2, g3, _, hok, hc⟩ := hB.elems
      rw [hL] at g1
      cases g1
      have hcell : ∀ j d, (τ.flat ys)[j]? = some d → w.cell? ((⟨L.blk, L.off, none⟩ : Addr).add j) = some d.val := by
        intro j d hj
        rw [e1] at hj
        rw [add_mk]
        exact hc j d (takeK_get hj)
      refine ⟨by rw [e1]; exact takeK_ok hok, ?_⟩
      cases k with
      | none =>
        rcases hv with ⟨h0, rfl⟩ | ⟨cap, rfl, _⟩
        · refine .inl ⟨rfl, List.eq_nil_of_length_eq_zero ?_⟩
          rw [e2]
          simp only [takeK]
          omega
        · refine .inr ⟨_, cap, ?_, hcell⟩
          rw [e2, g2]
          rfl
      | some m =>
        obtain ⟨_, h2, cap, rfl, _⟩ := hv
        refine .inr ⟨_, cap, ?_, hcell⟩
        rw [e2]
        simp only [takeK, List.length_take]
        rw [Nat.min_eq_left (by omega)]
    · cases h
  · rename_i b k n es
    split at h
    · rename_i l hl
      simp only [cond_eq_ite, Bool.and_eq_true, beq_iff_eq] at h
      split at h
      · rename_i hc
        obtain ⟨rfl, hlen⟩ := hc
        obtain ⟨hfl, hyl⟩ := ofs_flat h
        obtain ⟨L, cap, hL, he, _⟩ := hv
        obtain ⟨L', hL', hok, hc⟩ := (hM.blk b).cell hl
        rw [hL] at hL'
        cases hL'
        refine ⟨fun d hd => hok d (List.mem_of_mem_drop (List.mem_of_mem_take (by rw [hfl] at hd; exact hd))), .inr ⟨⟨L.blk, L.off + k, none⟩, cap, by rw [hyl]; exact he, fun j d hj => ?_⟩⟩
        rw [add_mk, Nat.add_assoc]
        rw [hfl] at hj
        exact hc _ d (take_drop_get hj)
      · cases h
    · cases h
  · cases h
    exact ⟨by simp [ET.flat], .inl ⟨hv, rfl⟩⟩
  · cases h
theorem appendA_ok {t e : TypeId} {τ : ET} {sx xx : Operand} {sv xv : AV} {v : AV} {s : Sets} (ho : o.op = .call { callee := .builtin .append, args := #[sx, xx], argTypes := #[t, t] }) (ht : P.underlying t = some (.slice e))
    (hs : AVRel σ sv (a.eval sx)) (hx : AVRel σ xv (a.eval xx)) (hr : Reach P G gb (evAppendA P e τ sv xv M N) v s) (hM : MRel w0 W σ M w) (hN : σ N = none)
    (h : Goes w0 W σ M N a o.dst next v s) : o.wp P a w next Q := by
  unfold evAppendA at hr
  split at hr
  · exact hr.elim
  · rename_i i hi
    split at hr
    · rename_i ys base z hys hbase hz
      obtain ⟨zv, _, ⟨hzc, _⟩, i', hi', hz'⟩ := zero_run (w := w) hz
      rw [hi] at hi'
      cases hi'
      obtain ⟨hso, hsv⟩ := srcA_rel hM hx hys
      have hexec : ∀ (v' : Value) (w' : World), (Builtin.append_ #[t, t] o.type #[a.eval sx, a.eval xx]).run P w = .ok v' w' → (execOp a.eval o).run P w = .ok (.value v') w' := by
        intro v' w' hrun
        unfold execOp
        simp only [ho, resolve, invoke, builtin, Sem.run_bind, Sem.run_pure, Result.andThen_ok, List.map_toArray, List.map_cons, List.map_nil, hrun]
      rcases hr with ⟨h0, rfl, rfl⟩ | ⟨h0, hr⟩
      · have h0' : ys.length = 0 := by simpa using h0
        rw [h0'] at hsv
        have hx0 : a.eval xx = .slice none 0 0 ∨ ∃ ad c, a.eval xx = .slice (some ad) 0 c := by
          rcases hsv with ⟨h1, _⟩ | ⟨ad, c, h1, _⟩
          · exact .inl h1
          · exact .inr ⟨ad, c, h1⟩
        have hcases : ∃ b n cap, a.eval sx = .slice b n cap ∧ n ≤ cap := by
          unfold baseA at hbase
          split at hbase
          · exact ⟨none, 0, 0, hs, Nat.le_refl _⟩
          · obtain ⟨L, _, hv⟩ := hs
            rcases hv with ⟨_, he⟩ | ⟨cap, he, hc, _⟩
            · exact ⟨none, 0, 0, he, Nat.le_refl _⟩
            · exact ⟨_, _, cap, he, hc⟩
          · cases hbase
        obtain ⟨b, n, cap, he, hc⟩ := hcases
        have hrun := append_zero (P := P) (w := w) ht hi o.type b n cap hc _ hx0
        rw [← he] at hrun
        exact h.value hM hN (hexec _ _ hrun) hs
      · have h0' : 0 < ys.length := Nat.pos_of_ne_zero (by simpa using h0)
        rcases hr with ⟨hc, rfl, rfl⟩ | ⟨_, hf⟩
        · simp only [Bool.and_eq_true, beq_iff_eq, Nat.ble_eq, Nat.blt_eq] at hc
          obtain ⟨hsz, hes, hzl, hroom, hby⟩ := hc
          rcases hsv with ⟨_, h1⟩ | ⟨ad, c, hxe, hcell⟩
          · rw [h1] at h0'; simp at h0'
          have hsl : (τ.flat ys).length = ys.length * i.size := by rw [flat_len, hes]
          have hnews : ∀ j u, ((τ.flat ys).map D.val)[j]? = some u → w.cell? (ad.add j) = some u := by
            intro j u hj
            rw [List.getElem?_map] at hj
            cases hd : (τ.flat ys)[j]? with
            | none => rw [hd] at hj; cases hj
            | some d => rw [hd] at hj; cases hj; exact hcell j d hd
          have h1c : ∀ u ∈ (τ.flat ys).map D.val, u.oneCell' = true := by
            simp only [List.mem_map]
            rintro u ⟨d, _, rfl⟩
            exact oneCell_val d
          have hbytes : (base.1.length + ys.length) * i.bytes ≤ 140737488355328 := by
            have := Nat.mul_le_mul hroom hby
            simp only [roomD] at this
            omega
          have hml : base.1.length + ys.length ≤ maxLen := by simp only [maxLen, roomD] at *; omega
          have hzcs : zv.cells.size = i.size := by rw [hzc]; simp [hzl]
          have hpos : ∀ {n : Nat}, (base.1 ++ ys).length = 0 → n = 0 := by intro n hn; simp at hn; rw [hn.2] at h0'; simp at h0'
          -- a new row, grown
          have grown : ∀ (old : Nat) (olds : List D), (∀ d ∈ olds, d.ok) → τ.flat base.1 = olds → ∀ ss, ss = base.2 → (∀ p ∈ ss, p.1 ≠ N ∧ p.2 = .dead) →
              (Builtin.append_ #[t, t] o.type #[a.eval sx, a.eval xx]).run P w = .ok (.slice (some ⟨w.heap.size, 0, none⟩) (base.1.length + ys.length) (grownCap w (base.1.length + ys.length) old e))
                (w.drew.alloc (.cells ((olds.map D.val).toArray ++ ((τ.flat ys).map D.val).toArray ++ Builtin.zeroCells zv.cells (grownCap w (base.1.length + ys.length) old e - (base.1.length + ys.length))) e)) → o.wp P a w next Q := by
            intro old olds hoo hol ss hss hdead hrun
            have hge := grownCap_ge w (base.1.length + ys.length) old e
            have hcm : grownCap w (base.1.length + ys.length) old e ≤ maxLen := grownCap_le_maxLen w (base.1.length + ys.length) old e hml
            generalize grownCap w (base.1.length + ys.length) old e = cap at *
            generalize hcur : ((olds.map D.val).toArray ++ ((τ.flat ys).map D.val).toArray ++ Builtin.zeroCells zv.cells (cap - (base.1.length + ys.length))) = cur at *
            have hfa : τ.flat (base.1 ++ ys) = olds ++ τ.flat ys := by rw [flat_app, hol]
            have holl : olds.length = base.1.length * i.size := by rw [← hol, flat_len, hes]
            have hcs : cur.size = cap * i.size := by
              rw [← hcur]
              simp only [Array.size_append, List.size_toArray, List.length_map, size_zeroCells, hzcs, holl, hsl, ← Nat.add_mul]
              congr 1
              omega
            have htake : cur.toList.take (τ.flat (base.1 ++ ys)).length = (τ.flat (base.1 ++ ys)).map D.val := by
              rw [← hcur, hfa]
              simp only [Array.toList_append, List.map_append]
              rw [List.take_append_of_le_length (by simp)]
              exact List.take_of_length_le (by simp)
            unfold Oper.wp
            rw [hexec _ _ hrun]
            have hM' : MRel w0 W σ (puts M ss) w := hM.congr (fun b => by
              rw [mget_puts]
              clear hss
              induction ss with
              | nil => exact .inl rfl
              | cons p r ih =>
                have ih' := ih (fun q hq => hdead q (by simp [hq]))
                simp only [lastSet]
                cases hls : lastSet r b with
                | some y => rw [hls] at ih'; exact ih'
                | none =>
                  by_cases hpb : p.1 = b
                  · simp only [hpb, if_true, Option.getD_some]; exact .inr (hdead p (by simp)).2
                  · simp [hpb])
            have hapok : ∀ d ∈ τ.flat (base.1 ++ ys), d.ok := by rw [hfa]; simp only [List.mem_append]; rintro d (hd | hd); exact hoo d hd; exact hso d hd
            have hall := hM'.allocA hN e τ (base.1 ++ ys) cur htake hapok (w.drew.alloc (.cells cur e)) rfl rfl rfl rfl
            refine h (sgSet σ N ⟨w.heap.size, 0, cur.size, true, (base.1 ++ ys).length, τ.len⟩) _ _ (sgSet_le hN) (fun b hb => sgSet_ne _ _ _ _ hb) (fun hp => absurd rfl (hp (N, .arr (some e) τ (base.1 ++ ys)) (by simp)))
              ⟨_, sgSet_self _ _ _, .inr ⟨cap, by simp only [List.length_append], by simp only [List.length_append]; exact hge, by simp only [List.length_append]; exact hml, fun _ => ⟨by rw [hcs, hes]; exact Nat.le_refl _, hcm, fun hn => hpos hn⟩⟩⟩ ?_
            rw [← hss, puts_append]
            exact hall
          unfold baseA at hbase
          split at hbase
          · cases hbase
            have he : a.eval sx = .slice none 0 0 := hs
            have hr := run_append_nil (P := P) w t o.type e i zv ht hi hz' ad ys.length c ((τ.flat ys).map D.val) (by simpa using hsl) hnews h0' (by simp only [maxLen, List.length_nil, Nat.zero_add] at hml; omega) (by simp only [List.length_nil, Nat.zero_add] at hbytes; omega)
            refine grown 0 [] (by simp) rfl [] rfl (by simp) ?_
            rw [he, hxe]
            simpa using hr
          · rename_i b
            split at hbase
            · rename_i ty υ xs hm
              simp only [cond_eq_ite, beq_iff_eq] at hbase
              split at hbase
              · rename_i hty
                subst hty
                split at hbase
                · rename_i xs' hxs'
                  cases hbase
                  simp only at *
                  obtain ⟨c1, c2, c3⟩ := castL_eq hxs'
                  have hBb := hM.blk b
                  rw [hm] at hBb
                  obtain ⟨L, hL, hn, hLes, hlok, hLown, hLoff, hmem⟩ := id hBb
                  obtain ⟨L', hL', hv⟩ := hs
                  rw [hL] at hL'
                  cases hL'
                  have hdd : ∀ p ∈ [(b, Blk.dead)], p.1 ≠ N ∧ p.2 = .dead := by
                    intro p hp
                    simp only [List.mem_singleton] at hp
                    subst hp
                    exact ⟨(fun e => by simp only at e; rw [e, hN] at hL; cases hL), rfl⟩
                  rcases hv with ⟨hn0, he⟩ | ⟨cap, he, hnc, _, hown⟩
                  · have hx0 : xs' = [] := List.eq_nil_of_length_eq_zero (by omega)
                    subst hx0
                    have hr := run_append_nil (P := P) w t o.type ty i zv ht hi hz' ad ys.length c ((τ.flat ys).map D.val) (by simpa using hsl) hnews h0' (by simp only [maxLen, List.length_nil, Nat.zero_add] at hml; omega) (by simp only [List.length_nil, Nat.zero_add] at hbytes; omega)
                    refine grown 0 [] (by simp) rfl [(b, .dead)] rfl hdd ?_
                    rw [he, hxe]
                    simpa using hr
                  obtain ⟨hcap, hcm, hc0⟩ := hown hLown
                  rw [hLoff] at he
                  rw [show L.n = xs'.length from by omega] at he hnc hc0
                  have hll : (τ.flat xs').length = xs'.length * i.size := by rw [flat_len, hes]
                  have hokx : ∀ d ∈ τ.flat xs', d.ok := by rw [c1]; exact hlok
                  by_cases hfits : xs'.length + ys.length ≤ cap
                  · have hne : xs ≠ [] := fun e => by subst e; have : xs'.length = 0 := by simpa using c2
                                                      have := hc0 this; omega
                    rcases hmem with hmem | ⟨cur, h4, h5, h6⟩
                    · exact absurd hmem hne
                    rw [← c1] at h6
                    have hfit : xs'.length * i.size + ((τ.flat ys).map D.val).length ≤ cur.size := by
                      rw [List.length_map, hsl, ← Nat.add_mul, h5]
                      refine Nat.le_trans (Nat.mul_le_mul_right _ hfits) ?_
                      rw [hes, ← c3, ← hLes]
                      exact hcap
                    have hr := run_append_room (P := P) w t o.type ty i ht hi L.blk xs'.length cap cur h4 ad ys.length c ((τ.flat ys).map D.val) (by simpa using hsl) hnews h1c hfits hfit
                    have hwr : (mget M b).wr = true := by
                      rw [hm]
                      cases xs with
                      | nil => exact absurd rfl hne
                      | cons _ _ => rfl
                    have htake : (cur.toList.take (xs'.length * i.size) ++ (τ.flat ys).map D.val ++ cur.toList.drop (xs'.length * i.size + ((τ.flat ys).map D.val).length)).toArray.toList.take (τ.flat (xs' ++ ys)).length = (τ.flat (xs' ++ ys)).map D.val := by
                      rw [flat_app, ← hll, h6, List.map_append]
                      simp only
                      rw [List.take_append_of_le_length (by simp)]
                      exact List.take_of_length_le (by simp)
                    have hapok : ∀ d ∈ τ.flat (xs' ++ ys), d.ok := by rw [flat_app]; simp only [List.mem_append]; rintro d (hd | hd); exact hokx d hd; exact hso d hd
                    have hcsz : (cur.toList.take (xs'.length * i.size) ++ (τ.flat ys).map D.val ++ cur.toList.drop (xs'.length * i.size + ((τ.flat ys).map D.val).length)).toArray.size = L.size := by
                      simp only [List.size_toArray, List.length_append, List.length_take, List.length_drop, Array.length_toList]
                      omega
                    have hst := hM.write hwr hL (.rw ty (τ.flat (xs' ++ ys)))
                      (w.setRow L.blk (cur.toList.take (xs'.length * i.size) ++ (τ.flat ys).map D.val ++ cur.toList.drop (xs'.length * i.size + ((τ.flat ys).map D.val).length)).toArray)
                      ⟨L, _, hL, hLoff, hLown, setRow_heap w L.blk cur _ ty _ h4, hcsz, hapok, htake⟩
                      (fun k hk => setRow_other w L.blk k _ hk) (by simp) rfl rfl rfl
                    have hmv := hst.movedTo (N := N) (b := b) (L' := { L with n := (xs' ++ ys).length, es := τ.len }) (by rw [mget_mput, if_pos rfl]; rfl) hL hN rfl (.arr (some ty) τ (xs' ++ ys))
                      ⟨_, sgSet_self _ _ _, rfl, rfl, hapok, hLown, hLoff, .inr ⟨_, setRow_heap w L.blk cur _ ty _ h4, hcsz, htake⟩⟩
                    unfold Oper.wp
                    rw [hexec _ _ (by rw [he, hxe]; exact hr)]
                    refine h (sgSet σ N { L with n := (xs' ++ ys).length, es := τ.len }) _ _ (sgSet_le hN) (fun b hb => sgSet_ne _ _ _ _ hb) (fun hp => absurd rfl (hp (N, .arr (some ty) τ (xs' ++ ys)) (by simp)))
                      ⟨_, sgSet_self _ _ _, .inr ⟨cap, by simp only [hLoff, List.length_append], by simp only [List.length_append]; exact hfits, by simp only [List.length_append]; exact hml, fun _ => ⟨?_, hcm, fun hn => hpos hn⟩⟩⟩ ?_
                    · simp only
                      rw [← c3, ← hLes]
                      exact hcap
                    · refine hmv.congr fun c => .inl ?_
                      show mget (mput (mput M b .dead) N _) c = _
                      rw [mget_mput, mget_mput, mget_mput, mget_mput, mget_mput]
                      split
                      · rfl
                      · split <;> rfl
                  · have holds : ∀ j u, ((τ.flat xs').map D.val)[j]? = some u → w.cell? ((⟨L.blk, 0, none⟩ : Addr).add j) = some u := by
                      intro j u hj
                      rw [List.getElem?_map] at hj
                      cases hd : (τ.flat xs')[j]? with
                      | none => rw [hd] at hj; cases hj
                      | some d =>
                        rw [hd] at hj
                        cases hj
                        obtain ⟨L', hL', _, _, _, _, hc'⟩ := hBb.elems
                        rw [hL] at hL'
                        cases hL'
                        rw [c1] at hd
                        have := hc' j d hd
                        rw [hLoff] at this
                        rw [add_mk]
                        exact this
                    have hr := run_append_grow (P := P) w t o.type ty i zv ht hi hz' ⟨L.blk, 0, none⟩ xs'.length cap ((τ.flat xs').map D.val) (by simpa using hll) holds ad ys.length c ((τ.flat ys).map D.val) (by simpa using hsl) hnews (by omega) (by simp only [maxLen] at hml; omega) (growslice_fits (by omega) hbytes)
                    exact grown cap (τ.flat xs') hokx rfl [(b, .dead)] rfl hdd (by rw [he, hxe]; exact hr)
                · cases hbase
              · cases hbase
            · cases hbase
          · cases hbase
        · exact hf.elim
    · exact hr.elim
end
end Go.Ev

namespace Go.Ev
open Go
structure PassOK (σ : Sg) (M : List Blk) (xs : List AV) (vs : List Value) (j : Nat) (q : List AV × List Blk × List (Nat × Nat)) (ρ : Sg) : Prop where
  args : AVRels ρ q.1 vs
  out : ∀ i, (i < j ∨ j + q.2.1.length ≤ i) → ρ i = none
  at_ : ∀ i, i < q.2.1.length → ∃ c L, σ c = some L ∧
    ((∃ t l, gets .dead q.2.1 i = .rw t l ∧ mget M c = .rw t l ∧ ρ (j + i) = some L ∧ (c, j + i) ∈ q.2.2) ∨
     (∃ l, gets .dead q.2.1 i = .ro l ∧ (mget M c).data = some l ∧ ρ (j + i) = some { L with own := false } ∧ c ∈ sliceRefs xs) ∨
     (∃ own τ ys k, gets .dead q.2.1 i = .arr none τ (takeK k ys) ∧ mget M c = .arr own τ ys ∧ ρ (j + i) = some { L with own := false, n := (takeK k ys).length } ∧ c ∈ sliceRefs xs))
  ws : ∀ p ∈ q.2.2, j ≤ p.2 ∧ p.2 < j + q.2.1.length ∧ ρ p.2 = σ p.1 ∧ ∃ t l, mget M p.1 = .rw t l
section
variable {P : Program} {G : Nat → Option (List D)} {gb : Nat} {EQ : Tab} {w0 : World} {W : Nat → Prop} {σ : Sg} {a : Act} {w : World} {T : TS} {M : List Blk} {N : Nat} {o : Oper}
  {next : Act → World → Prop} {Q : Exit → Act → World → Prop}
theorem PassOK.plain {xs : List AV} {vs : List Value} {j : Nat} {q : List AV × List Blk × List (Nat × Nat)} {ρ : Sg} (h : PassOK σ M xs vs j q ρ) (x y : AV) (v : Value) (hv : AVRel ρ y v) (hx : sliceRefs (x :: xs) = sliceRefs xs) :
    PassOK σ M (x :: xs) (v :: vs) j (y :: q.1, q.2) ρ :=
  ⟨⟨hv, h.args⟩, h.out, fun i hi => by rw [hx]; exact h.at_ i hi, h.ws⟩
theorem PassOK.one {xs : List AV} {vs : List Value} {j : Nat} {q : List AV × List Blk × List (Nat × Nat)} {ρ : Sg} (h : PassOK σ M xs vs (j + 1) q ρ) (x y : AV) (v : Value) (K : Loc) (c : Nat) (L : Loc) (B : Blk) (ws : List (Nat × Nat))
    (hL : σ c = some L) (hv : AVRel (sgSet ρ j K) y v) (hr : ∀ b ∈ sliceRefs xs, b ∈ sliceRefs (x :: xs))
    (hB : (∃ t l, B = .rw t l ∧ mget M c = .rw t l ∧ K = L ∧ ws = (c, j) :: q.2.2) ∨ (∃ l, B = .ro l ∧ (mget M c).data = some l ∧ K = { L with own := false } ∧ c ∈ sliceRefs (x :: xs) ∧ ws = q.2.2) ∨
      (∃ own τ ys k, B = .arr none τ (takeK k ys) ∧ mget M c = .arr own τ ys ∧ K = { L with own := false, n := (takeK k ys).length } ∧ c ∈ sliceRefs (x :: xs) ∧ ws = q.2.2)) :
    PassOK σ M (x :: xs) (v :: vs) j (y :: q.1, B :: q.2.1, ws) (sgSet ρ j K) := by
  have hj : ρ j = none := h.out j (.inl (Nat.lt_succ_self j))
  have hsub : ∀ p ∈ q.2.2, p ∈ ws := by
    rcases hB with ⟨_, _, _, _, _, hw⟩ | ⟨_, _, _, _, _, hw⟩ | ⟨_, _, _, _, _, _, _, _, hw⟩
    · intro p hp; rw [hw]; exact List.mem_cons_of_mem _ hp
    · intro p hp; rw [hw]; exact hp
    · intro p hp; rw [hw]; exact hp
  refine ⟨⟨hv, h.args.mono (sgSet_le hj)⟩, fun i hi => ?_, fun i hi => ?_, fun p hp => ?_⟩
  · simp only [List.length_cons] at hi
    rw [sgSet_ne _ _ _ _ (by omega)]
    exact h.out i (by omega)
  · cases i with
    | zero =>
      rcases hB with ⟨t, l, h1, h2, h3, h4⟩ | ⟨l, h1, h2, h3, h4, h5⟩ | ⟨own, τ, ys, k, h1, h2, h3, h4, h5⟩
      · exact ⟨c, L, hL, .inl ⟨t, l, h1, h2, by rw [← h3]; exact sgSet_self _ _ _, by rw [h4]; exact List.mem_cons_self⟩⟩
      · exact ⟨c, L, hL, .inr (.inl ⟨l, h1, h2, by rw [← h3]; exact sgSet_self _ _ _, h4⟩)⟩
      · exact ⟨c, L, hL, .inr (.inr ⟨own, τ, ys, k, h1, h2, by rw [← h3]; exact sgSet_self _ _ _, h4⟩)⟩
    | succ i =>
      obtain ⟨c', L', h1, h2⟩ := h.at_ i (by simpa using hi)
      have e : j + (i + 1) = j + 1 + i := by omega
      refine ⟨c', L', h1, ?_⟩
      rw [e, sgSet_ne _ _ _ _ (by omega)]
      rcases h2 with ⟨t, l, h3, h4, h5, h6⟩ | ⟨l, h3, h4, h5, h6⟩ | ⟨own, τ, ys, k, h3, h4, h5, h6⟩
      · exact .inl ⟨t, l, h3, h4, h5, hsub _ h6⟩
      · exact .inr (.inl ⟨l, h3, h4, h5, hr _ h6⟩)
      · exact .inr (.inr ⟨own, τ, ys, k, h3, h4, h5, hr _ h6⟩)
  · have old : ∀ p ∈ q.2.2, j ≤ p.2 ∧ p.2 < j + (B :: q.2.1).length ∧ sgSet ρ j K p.2 = σ p.1 ∧ ∃ t l, mget M p.1 = .rw t l := by
      intro p hp
      obtain ⟨h1, h2, h3, h4⟩ := h.ws p hp
      refine ⟨by omega, by simp only [List.length_cons]; omega, ?_, h4⟩
      rw [sgSet_ne _ _ _ _ (by omega)]
      exact h3
    rcases hB with ⟨t, l, h1, h2, h3, h4⟩ | ⟨l, h1, h2, h3, h4, h5⟩ | ⟨own, τ, ys, k, h1, h2, h3, h4, h5⟩
    · simp only [h4] at hp
      rcases List.mem_cons.1 hp with rfl | hp
      · exact ⟨Nat.le_refl _, by simp, by rw [sgSet_self, h3]; exact hL.symm, t, l, h2⟩
      · exact old p hp
    · simp only [h5] at hp
      exact old p hp
    · simp only [h5] at hp
      exact old p hp
theorem pass_rel (hM : MRel w0 W σ M w) : ∀ {xs : List AV} {vs : List Value} {j : Nat} {q : List AV × List Blk × List (Nat × Nat)}, AVRels σ xs vs → passArgs M xs j = some q → ∃ ρ, PassOK σ M xs vs j q ρ
  | [], [], j, q, _, h => by
    simp only [passArgs, Option.some.injEq] at h
    subst h
    exact ⟨fun _ => none, trivial, fun _ _ => rfl, fun i hi => by simp at hi, fun p hp => by simp at hp⟩
  | x :: r, v :: vs, j, q, ⟨hv, hvs⟩, h => by
    unfold passArgs at h
    split at h
    · -- a slice
      rename_i b k n e
      split at h
      · rename_i l q' hl hq
        cases h
        obtain ⟨ρ, hp⟩ := pass_rel hM hvs hq
        obtain ⟨L, cap, hL, he, hc, hcm, _⟩ := hv
        exact ⟨_, hp.one (.v (.c (.slice b k n e))) _ v { L with own := false } b L (.ro l) q'.2.2 hL ⟨_, cap, sgSet_self _ _ _, he, hc, hcm, fun hw => by cases hw⟩
          (fun c hc => by simp [sliceRefs, hc]) (.inr (.inl ⟨l, rfl, hl, rfl, by simp [sliceRefs], rfl⟩))⟩
      · cases h
    · -- an array of open length
      rename_i b k
      split at h
      · rename_i own τ ys q' hm hq
        cases h
        obtain ⟨ρ, hp⟩ := pass_rel hM hvs hq
        obtain ⟨L, hL, hv⟩ := hv
        have hB := hM.blk b
        rw [hm] at hB
        obtain ⟨L', g1, g2, g3, _⟩ := hB.elems
        rw [hL] at g1
        cases g1
        refine ⟨_, hp.one (.v (.c (.aslice b k))) _ v { L with own := false, n := (takeK k ys).length } b L (.arr none τ (takeK k ys)) q'.2.2 hL ⟨_, sgSet_self _ _ _, ?_⟩
          (fun c hc => by simp [sliceRefs, hc]) (.inr (.inr ⟨own, τ, ys, k, rfl, hm, rfl, by simp [sliceRefs], rfl⟩))⟩
        cases k with
        | none =>
          rcases hv with ⟨h0, e⟩ | ⟨cap, e, h1, h2, _⟩
          · exact .inl ⟨by simp only [takeK]; omega, e⟩
          · exact .inr ⟨cap, by simp only [takeK, ← g2]; exact e, by simp only [takeK]; omega, by simp only [takeK]; omega, fun hw => by cases hw⟩
        | some m =>
          obtain ⟨h0, h1, cap, e, h2, h3⟩ := hv
          have hl : (takeK (some m) ys).length = m := by simp only [takeK, List.length_take]; omega
          exact .inr ⟨cap, by simp only [hl]; exact e, by simp only [hl]; exact h2, by simp only [hl]; exact h3, fun hw => by cases hw⟩
      · cases h
    · cases h
    · -- a function
      rename_i f caps
      obtain ⟨us, he, hcs⟩ := hv
      split at h
      · split at h
        · rename_i q' hq
          cases h
          obtain ⟨ρ, hp⟩ := pass_rel hM hvs hq
          exact ⟨ρ, hp.plain (.v (.c (.fn f []))) _ v ⟨us, he, by cases hu : us.toList with | nil => trivial | cons _ _ => rw [hu] at hcs; exact hcs.elim⟩ rfl⟩
        · cases h
      · rename_i c
        split at h
        · rename_i t l q' hm hq
          cases h
          obtain ⟨ρ, hp⟩ := pass_rel hM hvs hq
          cases hu : us.toList with
          | nil => rw [hu] at hcs; exact hcs.elim
          | cons u1 us1 =>
            rw [hu] at hcs
            obtain ⟨⟨L, hL, hu1⟩, hrest⟩ := hcs
            cases us1 with
            | cons _ _ => exact hrest.elim
            | nil =>
              exact ⟨_, hp.one (.v (.c (.fn f [c]))) _ v L c L (.rw t l) ((c, j) :: q'.2.2) hL ⟨us, he, by rw [hu]; exact ⟨⟨L, sgSet_self _ _ _, hu1⟩, trivial⟩⟩ (fun b hb => hb) (.inl ⟨t, l, rfl, hm, rfl, rfl⟩)⟩
        · cases h
      · rename_i c c'
        split at h
        · rename_i t l t' l' q' hm hm' hq
          cases h
          obtain ⟨ρ, hp⟩ := pass_rel hM hvs hq
          cases hu : us.toList with
          | nil => rw [hu] at hcs; exact hcs.elim
          | cons u1 us1 =>
            rw [hu] at hcs
            obtain ⟨⟨L, hL, hu1⟩, hrest⟩ := hcs
            cases us1 with
            | nil => exact hrest.elim
            | cons u2 us2 =>
              obtain ⟨⟨L', hL', hu2⟩, hrest2⟩ := hrest
              cases us2 with
              | cons _ _ => exact hrest2.elim
              | nil =>
                -- the second block first, under a stand-in argument
                have hp1 := hp.one (j := j + 1) (.v (.c (.d (.bool true)))) (.v (.c (.d (.bool true)))) (.bool true) L' c' L' (.rw t' l') ((c', j + 1) :: q'.2.2) hL' ⟨rfl, trivial⟩ (fun b hb => hb) (.inl ⟨t', l', rfl, hm', rfl, rfl⟩)
                have hj1 : sgSet ρ (j + 1) L' j = none := hp1.out j (.inl (Nat.lt_succ_self j))
                have hp2 : PassOK σ M r vs (j + 1) (q'.1, .rw t' l' :: q'.2.1, (c', j + 1) :: q'.2.2) (sgSet ρ (j + 1) L') := ⟨hp1.args.2, hp1.out, hp1.at_, hp1.ws⟩
                refine ⟨_, hp2.one (.v (.c (.fn f [c, c']))) _ v L c L (.rw t l) ((c, j) :: (c', j + 1) :: q'.2.2) hL ⟨us, he, ?_⟩ (fun b hb => hb) (.inl ⟨t, l, rfl, hm, rfl, rfl⟩)⟩
                rw [hu]
                refine ⟨⟨L, sgSet_self _ _ _, hu1⟩, ⟨L', ?_, hu2⟩, trivial⟩
                rw [sgSet_ne _ _ _ _ (by omega)]
                exact sgSet_self _ _ _
        · cases h
      · cases h
    · -- an address
      rename_i b k
      split at h
      · split at h
        · rename_i t l q' hm hq
          cases h
          obtain ⟨ρ, hp⟩ := pass_rel hM hvs hq
          obtain ⟨L, hL, he⟩ := hv
          exact ⟨_, hp.one (.v (.c (.ptr b 0))) _ v L b L (.rw t l) ((b, j) :: q'.2.2) hL ⟨L, sgSet_self _ _ _, he⟩ (fun c hc => hc) (.inl ⟨t, l, rfl, hm, rfl, rfl⟩)⟩
        · cases h
      · cases h
    · rename_i d
      split at h
      · rename_i q' hq
        cases h
        obtain ⟨ρ, hp⟩ := pass_rel hM hvs hq
        exact ⟨ρ, hp.plain (.v (.c (.d d))) _ v hv rfl⟩
      · cases h
    · split at h
      · rename_i q' hq
        cases h
        obtain ⟨ρ, hp⟩ := pass_rel hM hvs hq
        exact ⟨ρ, hp.plain (.v (.c .nilS)) _ v hv rfl⟩
      · cases h
    · rename_i l
      split at h
      · rename_i q' hq
        cases h
        obtain ⟨ρ, hp⟩ := pass_rel hM hvs hq
        exact ⟨ρ, hp.plain (.v (.agg l)) _ v hv rfl⟩
      · cases h
    · cases h
    · cases h
  | [], _ :: _, _, _, hh, _ => hh.elim
  | _ :: _, [], _, _, hh, _ => hh.elim
theorem distinct_of {l : List (Nat × Nat)} (h : distinctFst l = true) {c b b' : Nat} (h1 : (c, b) ∈ l) (h2 : (c, b') ∈ l) : b = b' := by
  induction l with
  | nil => cases h1
  | cons p r ih =>
    simp only [distinctFst, Bool.and_eq_true, Bool.not_eq_true', List.any_eq_false, beq_iff_eq] at h
    obtain ⟨hn, hd⟩ := h
    rcases List.mem_cons.1 h1 with e1 | e1 <;> rcases List.mem_cons.1 h2 with e2 | e2
    · rw [← e1] at e2; cases e2; rfl
    · exact absurd (by rw [← e1]) (hn _ e2)
    · exact absurd (by rw [← e2]) (hn _ e1)
    · exact ih hd e1 e2
theorem live_of_data {y : Blk} {l : List D} (h : y.data = some l) (hl : (Blk.ro l).live = true) : y.live = true := by
  cases y with
  | dead => cases h
  | ro l' => simp only [Blk.data, Option.some.injEq] at h; subst h; exact hl
  | rw t l' => rfl
  | arr _ _ _ => cases h
  | cell _ _ => cases h
theorem live_takeK {own own' : Option Nat} {τ : ET} {k : Option Nat} {ys : List τ.T} (h : (Blk.arr own τ (takeK k ys)).live = true) : (Blk.arr own' τ ys).live = true := by
  cases ys with
  | nil => cases k <;> (simp only [takeK, List.take_nil] at h; cases h)
  | cons _ _ => rfl
theorem PassOK.mrel {xs : List AV} {vs : List Value} {q : List AV × List Blk × List (Nat × Nat)} {ρ : Sg} (hM : MRel w0 W σ M w) (h : PassOK σ M xs vs 0 q ρ) (hd : distinctFst q.2.2 = true) (hs : ∀ b ∈ sliceRefs xs, ∀ p ∈ q.2.2, p.1 ≠ b) :
    MRel w (Wof ρ q.2.1) ρ q.2.1 w := by
  have inb : ∀ b, mget q.2.1 b ≠ .dead → b < q.2.1.length := by
    intro b hb
    rcases Nat.lt_or_ge b q.2.1.length with h1 | h1
    · exact h1
    · exfalso
      apply hb
      rw [mget, gets_eq, List.getD_eq_getElem?_getD, List.getElem?_eq_none h1]
      rfl
  refine ⟨fun b => ?_, fun b b' L L' hne hb hb' hL hL' => ?_, fun b L hb hL => .inl ⟨b, L, hb, hL, rfl⟩, Kept.refl _ _⟩
  · by_cases hlt : b < q.2.1.length
    · obtain ⟨c, L, hc, h1⟩ := h.at_ b hlt
      rw [Nat.zero_add] at h1
      have hB := hM.blk c
      rcases h1 with ⟨t, l, h2, h3, h4, _⟩ | ⟨l, h2, h3, h4, _⟩ | ⟨own, τ, ys, k, h2, h3, h4, _⟩
      · rw [h3] at hB
        rw [mget, h2]
        obtain ⟨L', cur, h5, h6⟩ := hB
        rw [hc] at h5
        cases h5
        exact ⟨L, cur, h4, h6⟩
      · rw [mget, h2]
        obtain ⟨L', h5, h6⟩ := hB.cell h3
        rw [hc] at h5
        cases h5
        exact ⟨_, h4, rfl, h6⟩
      · rw [mget, h2]
        rw [h3] at hB
        obtain ⟨L', h5, _, h6, _, h7, h8⟩ := hB.elems
        rw [hc] at h5
        cases h5
        exact ⟨_, h4, rfl, h6, takeK_ok h7, rfl, fun j d hj => h8 j d (takeK_get hj)⟩
    · have : mget q.2.1 b = .dead := by
        rw [mget, gets_eq, List.getD_eq_getElem?_getD, List.getElem?_eq_none (by omega)]
        rfl
      rw [this]
      trivial
  · obtain ⟨c, K, hc, h1⟩ := h.at_ b (inb b (by intro e; rw [e] at hb; cases hb))
    obtain ⟨c', K', hc', h1'⟩ := h.at_ b' (inb b' (by intro e; rw [e] at hb'; cases hb'))
    rw [Nat.zero_add] at h1 h1'
    rcases h1 with ⟨t1, l1, h2, h3, h4, h5⟩ | ⟨l1, h2, _⟩ | ⟨own, τ, ys, k, h2, _⟩
    · rw [hL] at h4
      cases h4
      have hw3 : (mget M c).wr = true := by rw [h3]; rfl
      rcases h1' with ⟨t2, l2, k2, k3, k4, k5⟩ | ⟨l2, k2, k3, k4, k5⟩ | ⟨own, τ, ys, k, k2, k3, k4, k5⟩
      · rw [hL'] at k4
        cases k4
        by_cases e : c = c'
        · subst e
          exact absurd (distinct_of hd h5 k5) hne
        · exact hM.sep c c' L L' e hw3 (by rw [k3]; rfl) hc hc'
      · rw [hL'] at k4
        cases k4
        by_cases e : c = c'
        · subst e
          exact absurd rfl (hs c k5 _ h5)
        · have hb2 : (Blk.ro l2).live = true := by rw [mget, k2] at hb'; exact hb'
          exact hM.sep c c' L K' e hw3 (live_of_data k3 hb2) hc hc'
      · rw [hL'] at k4
        cases k4
        by_cases e : c = c'
        · subst e
          exact absurd rfl (hs c k5 _ h5)
        · have hb2 : (Blk.arr none τ (takeK k ys)).live = true := by rw [mget, k2] at hb'; exact hb'
          exact hM.sep c c' L K' e hw3 (by rw [k3]; exact live_takeK hb2) hc hc'
    · rw [mget, h2] at hb
      cases hb
    · rw [mget, h2] at hb
      cases hb
theorem PassOK.glob {xs : List AV} {vs : List Value} {q : List AV × List Blk × List (Nat × Nat)} {ρ : Sg} (hM : MRel w0 W σ M w) (hG : Glob G gb W w0) (h : PassOK σ M xs vs 0 q ρ) : Glob G gb (Wof ρ q.2.1) w := by
  refine ⟨Nat.le_trans hG.le hM.kept.size, fun k hk => ?_, fun g l hg => ⟨(hG.cell g l hg).1, hG.now hM.kept hg⟩⟩
  obtain ⟨b, L, hb, hL, rfl⟩ := hk
  have hlt : b < q.2.1.length := by
    rcases Nat.lt_or_ge b q.2.1.length with h1 | h1
    · exact h1
    · rw [mget, gets_eq, List.getD_eq_getElem?_getD, List.getElem?_eq_none h1] at hb
      cases hb
  obtain ⟨c, K, hc, h1⟩ := h.at_ b hlt
  rw [Nat.zero_add] at h1
  rcases h1 with ⟨t1, l1, h2, h3, h4, _⟩ | ⟨l1, h2, _⟩ | ⟨own, τ, ys, k, h2, _⟩
  · rw [hL] at h4
    cases h4
    rcases hM.own c L (by rw [h3]; rfl) hc with h5 | h5
    · exact hG.high _ h5
    · exact Nat.le_trans hG.le h5
  · rw [mget, h2] at hb
    cases hb
  · rw [mget, h2] at hb
    cases hb
theorem backSets_mem {M' : List Blk} : ∀ {ws : List (Nat × Nat)} {s : Sets}, backSets M' ws = some s →
    (∀ p ∈ ws, ∃ t l, mget M' p.2 = .rw t l ∧ (p.1, Blk.rw t l) ∈ s) ∧ (∀ y ∈ s, ∃ p ∈ ws, y.1 = p.1 ∧ y.2 = mget M' p.2)
  | [], s, h => by simp only [backSets, Option.some.injEq] at h; subst h; exact ⟨by simp, by simp⟩
  | p :: r, s, h => by
    simp only [backSets] at h
    split at h
    · rename_i t l s' hm hs
      cases h
      obtain ⟨h1, h2⟩ := backSets_mem hs
      constructor
      · intro p' hp'
        rcases List.mem_cons.1 hp' with rfl | hp'
        · exact ⟨t, l, hm, by simp⟩
        · obtain ⟨t', l', h3, h4⟩ := h1 p' hp'
          exact ⟨t', l', h3, by simp [h4]⟩
      · intro y hy
        rcases List.mem_cons.1 hy with rfl | hy
        · exact ⟨p, by simp, rfl, hm.symm⟩
        · obtain ⟨p', h3, h4⟩ := h2 y hy
          exact ⟨p', by simp [h3], h4⟩
    · cases h
theorem lastSet_some {s : Sets} {b : Nat} {y : Blk} (h : lastSet s b = some y) : (b, y) ∈ s := by
  induction s with
  | nil => cases h
  | cons p r ih =>
    simp only [lastSet] at h
    cases hr : lastSet r b with
    | some z => rw [hr] at h; cases h; exact List.mem_cons_of_mem _ (ih hr)
    | none =>
      rw [hr] at h
      simp only at h
      split at h
      · rename_i e
        cases h
        rw [← e]
        exact List.mem_cons_self
      · cases h
theorem lastSet_none_iff {s : Sets} {b : Nat} (h : lastSet s b = none) : ∀ p ∈ s, p.1 ≠ b := by
  induction s with
  | nil => simp
  | cons p r ih =>
    simp only [lastSet] at h
    cases hr : lastSet r b with
    | some z => rw [hr] at h; cases h
    | none =>
      rw [hr] at h
      simp only at h
      intro q hq
      rcases List.mem_cons.1 hq with rfl | hq
      · intro e; rw [if_pos e] at h; cases h
      · exact ih hr q hq
theorem PassOK.back {xs : List AV} {vs : List Value} {q : List AV × List Blk × List (Nat × Nat)} {ρ τ : Sg} {M' : List Blk} {w' : World} {s : Sets} (hM : MRel w0 W σ M w) (h : PassOK σ M xs vs 0 q ρ)
    (hle : ρ.le τ) (hM' : MRel w (Wof ρ q.2.1) τ M' w') (hs : backSets M' q.2.2 = some s) : MRel w0 W σ (puts M s) w' ∧
      (∀ b L, q.2.1.length ≤ b → (mget M' b).wr = true → τ b = some L → w.heap.size ≤ L.blk) := by
  obtain ⟨hs1, hs2⟩ := backSets_mem hs
  -- the blocks that may have been written are those of ws
  have hW : ∀ k, Wof ρ q.2.1 k → ∃ p ∈ q.2.2, ∃ t l L, mget M p.1 = .rw t l ∧ σ p.1 = some L ∧ ρ p.2 = some L ∧ L.blk = k := by
    rintro k ⟨b, L, hb, hL, rfl⟩
    have hlt : b < q.2.1.length := by
      rcases Nat.lt_or_ge b q.2.1.length with h1 | h1
      · exact h1
      · rw [mget, gets_eq, List.getD_eq_getElem?_getD, List.getElem?_eq_none h1] at hb
        cases hb
    obtain ⟨c, K, hc, h1⟩ := h.at_ b hlt
    rw [Nat.zero_add] at h1
    rcases h1 with ⟨t1, l1, h2, h3, h4, h5⟩ | ⟨l1, h2, _⟩ | ⟨own, τ, ys, k, h2, _⟩
    · rw [hL] at h4
      cases h4
      exact ⟨(c, b), h5, t1, l1, L, h3, hc, hL, rfl⟩
    · rw [mget, h2] at hb
      cases hb
    · rw [mget, h2] at hb
      cases hb
  have get : ∀ b, (∃ p ∈ q.2.2, p.1 = b ∧ mget (puts M s) b = mget M' p.2 ∧ ∃ t l, mget M' p.2 = .rw t l) ∨ ((∀ p ∈ q.2.2, p.1 ≠ b) ∧ mget (puts M s) b = mget M b) := by
    intro b
    rw [mget_puts]
    cases hl : lastSet s b with
    | some y =>
      obtain ⟨p, hp, h1, h2⟩ := hs2 _ (lastSet_some hl)
      obtain ⟨t, l, h3, _⟩ := hs1 p hp
      exact .inl ⟨p, hp, h1.symm, h2, t, l, h3⟩
    | none =>
      refine .inr ⟨fun p hp e => ?_, rfl⟩
      obtain ⟨t, l, _, h4⟩ := hs1 p hp
      exact lastSet_none_iff hl _ h4 e
  have keepb : ∀ b L, (∀ p ∈ q.2.2, p.1 ≠ b) → (mget M b).live = true → σ b = some L → L.blk < w.heap.size → w'.heap[L.blk]? = w.heap[L.blk]? := by
    intro b L hn hlive hL hlt
    refine hM'.kept.block _ hlt fun hw => ?_
    obtain ⟨p, hp, t, l, K, h1, h2, _, h3⟩ := hW _ hw
    exact hM.sep p.1 b K L (hn p hp) (by rw [h1]; rfl) hlive h2 hL h3
  refine ⟨⟨fun b => ?_, fun b b' L L' hne hb hb' hL hL' => ?_, fun b L hb hL => ?_, ?_⟩, fun b L hlen hb hL => ?_⟩
  · rcases get b with ⟨p, hp, rfl, h1, t, l, h2⟩ | ⟨hn, h1⟩
    · rw [h1, h2]
      have hB := hM'.blk p.2
      rw [h2] at hB
      obtain ⟨K, cur, h3, h4⟩ := hB
      obtain ⟨_, _, h5, t', l', h6⟩ := h.ws p hp
      have hK : σ p.1 = some K := by
        have hb0 := hM.blk p.1
        rw [h6] at hb0
        obtain ⟨K', _, h7, _⟩ := hb0
        have : τ p.2 = some K' := hle _ _ (by rw [h5]; exact h7)
        rw [h3] at this
        cases this
        exact h7
      exact ⟨K, cur, hK, h4⟩
    · rw [h1]
      exact (hM.blk b).of_block fun L hL hlive hlt => keepb b L hn hlive hL hlt
  · have k1 : (mget M b).wr = true := by
      rcases get b with ⟨p, hp, rfl, _⟩ | ⟨_, h1⟩
      · obtain ⟨_, _, _, t', l', h6⟩ := h.ws p hp
        rw [h6]; rfl
      · rw [← h1]; exact hb
    have k2 : (mget M b').live = true := by
      rcases get b' with ⟨p, hp, rfl, _⟩ | ⟨_, h1⟩
      · obtain ⟨_, _, _, t', l', h6⟩ := h.ws p hp
        rw [h6]; rfl
      · rw [← h1]; exact hb'
    exact hM.sep b b' L L' hne k1 k2 hL hL'
  · have k1 : (mget M b).wr = true := by
      rcases get b with ⟨p, hp, rfl, _⟩ | ⟨_, h1⟩
      · obtain ⟨_, _, _, t', l', h6⟩ := h.ws p hp
        rw [h6]; rfl
      · rw [← h1]; exact hb
    exact hM.own b L k1 hL
  · refine hM.kept.trans' hM'.kept fun k hk => ?_
    obtain ⟨p, hp, t, l, K, h1, h2, _, rfl⟩ := hW _ hk
    exact hM.own p.1 K (by rw [h1]; rfl) h2
  · rcases hM'.own b L hb hL with h1 | h1
    · exfalso
      obtain ⟨p, hp, t', l', K, h2, h3, h4, h5⟩ := hW _ h1
      obtain ⟨_, h6, _⟩ := h.ws p hp
      obtain ⟨t2, l2, h7, _⟩ := hs1 p hp
      exact hM'.sep b p.2 L K (by omega) hb (by rw [h7]; rfl) hL (hle _ _ h4) h5.symm
    · exact h1
theorem dataV_rel {σ τ : Sg} {x : V} {v : Value} (hd : dataV x = true) (h : VRel τ x v) : VRel σ x v := by
  cases x with
  | c c => cases c <;> first | exact h | cases hd
  | agg l => exact h
theorem dataVs_rel {σ τ : Sg} : ∀ {l : List V} {vs : List Value}, l.all dataV = true → VRels τ l vs → VRels σ l vs
  | [], [], _, _ => trivial
  | x :: r, v :: s, hd, ⟨h1, h2⟩ => by
    simp only [List.all_cons, Bool.and_eq_true] at hd
    exact ⟨dataV_rel hd.1 h1, dataVs_rel hd.2 h2⟩
  | [], _ :: _, _, hh => hh.elim
  | _ :: _, [], _, hh => hh.elim
theorem MRel.adopt {w' : World} {τ : Sg} {M' : List Blk} {V : Nat → Prop} {b : Nat} {y : Blk} {L : Loc} (hM : MRel w0 W σ M w') (hN : σ N = none) (h0 : y.wr = true → w0.heap.size ≤ L.blk) (hM' : MRel w V τ M' w') (hb : mget M' b = y) (hL : τ b = some L) (hy : ∀ t c, y ≠ .cell t c) (hyw : y.live = true → y.wr = true)
    (hfar : y.wr = true → ∀ c K, (mget M c).live = true → σ c = some K → K.blk ≠ L.blk) : MRel w0 W (sgSet σ N L) (mput M N y) w' := by
  have hBb := hM'.blk b
  rw [hb] at hBb
  have hB : BRel (sgSet σ N L) N y w' := by
    cases y with
    | dead => trivial
    | ro l => obtain ⟨K, h1, h2⟩ := hBb; rw [hL] at h1; cases h1; exact ⟨L, sgSet_self _ _ _, h2⟩
    | rw t l => obtain ⟨K, cur, h1, h2⟩ := hBb; rw [hL] at h1; cases h1; exact ⟨L, cur, sgSet_self _ _ _, h2⟩
    | arr own υ xs => obtain ⟨K, h1, h2⟩ := hBb; rw [hL] at h1; cases h1; exact ⟨L, sgSet_self _ _ _, h2⟩
    | cell t c => exact absurd rfl (hy t c)
  exact hM.put hN y L hB (fun _ _ _ _ _ => rfl) hM.kept (fun hw => .inr (h0 hw)) (fun hl c K hc hK => hfar (hyw hl) c K (wr_live hc) hK) fun hw c K hc hK => hfar hw c K hc hK
end
end Go.Ev

namespace Go.Ev
open Go
section
variable {P : Program} {G : Nat → Option (List D)} {gb : Nat} {EQ : Tab} {w0 : World} {W : Nat → Prop} {σ : Sg} {a : Act} {w : World} {T : TS} {M : List Blk} {N : Nat} {o : Oper}
  {next : Act → World → Prop} {Q : Exit → Act → World → Prop}
theorem caps_rel : ∀ {caps : List Nat} {vs : List Value}, PRel σ caps vs → AVRels σ (caps.map fun c => aptr c 0) vs
  | [], [], _ => trivial
  | _ :: _, _ :: _, ⟨⟨L, h1, h2⟩, h3⟩ => ⟨⟨L, h1, h2⟩, caps_rel h3⟩
  | [], _ :: _, hh => hh.elim
  | _ :: _, [], hh => hh.elim
theorem call_run {c : Call} {g : Operand} {f : Nat} {vs : Array Value} (ho : o.op = .call c) (hc : c.callee = .value g) (hg : a.eval g = .func (.func f) #[] vs) :
    (execOp a.eval o).run P w = (callFunc f (c.args.map a.eval ++ vs)).run P w := by
  unfold execOp
  simp only [ho, resolve, hc, hg, Deferred.ofValue, Sem.run_bind, Sem.run_pure, Result.andThen_ok, invoke]
  simp
theorem call_ok {c : Call} {g : Operand} {f : Nat} {caps : List Nat} {l : List AV} {v : AV} {s : Sets} (ho : o.op = .call c) (hc : c.callee = .value g) (hg : opdV T g = some (.v (.c (.fn f caps)))) (hl : opdVs T c.args.toList = some l)
    (hr : Reach P G gb (evCall f caps l M N) v s) (hT : TRel σ T a) (hM : MRel w0 W σ M w) (hG : Glob G gb W w0) (hN : σ N = none)
    (h : Goes w0 W σ M N a o.dst next v s) : o.wp P a w next Q := by
  obtain ⟨vs, he, hcaps⟩ := opdV_rel hT hg
  have hargs : AVRels σ (l ++ caps.map fun c => aptr c 0) (c.args.map a.eval ++ vs).toList := by
    rw [Array.toList_append, Array.toList_map]
    exact (opdVs_rel hT hl).append (caps_rel hcaps)
  unfold evCall at hr
  split at hr
  · exact hr.elim
  · rename_i q hq
    simp only [cond_eq_ite, Bool.and_eq_true] at hr
    split at hr
    · rename_i hch
      obtain ⟨hd, hsr⟩ := hch
      have hsr' : ∀ b ∈ sliceRefs (l ++ caps.map fun c => aptr c 0), ∀ p ∈ q.2.2, p.1 ≠ b := by
        intro b hb p hp e
        have := List.all_eq_true.1 hsr b hb
        simp only [Bool.not_eq_true', List.any_eq_false, beq_iff_eq] at this
        exact this p hp e
      obtain ⟨u, M', hent, hcall, hrest⟩ := hr
      obtain ⟨ρ, hp⟩ := pass_rel hM hargs hq
      have hcal := hcall ρ w (c.args.map a.eval ++ vs) hp.args (hp.mrel hM hd hsr') (hp.glob hM hG) (fun b hb => hp.out b (.inr (by omega)))
      unfold Oper.wp
      rw [call_run ho hc he, hent]
      refine Calls.mono hcal ?_
      rintro e w' ⟨v', τ, rfl, hle, hv, hM'⟩
      simp only at hrest
      split at hrest
      · rename_i s1 p hs1 hp1
        obtain ⟨rfl, rfl⟩ := hrest
        obtain ⟨hMb, hfar⟩ := hp.back hM hle hM' hs1
        -- the result
        have hset : ∀ y ∈ s1, y.1 ≠ N := by
          intro y hy e
          obtain ⟨p', hp', h1, _⟩ := (backSets_mem hs1).2 y hy
          obtain ⟨_, _, _, t', l', h6⟩ := hp.ws p' hp'
          have := hM.dead hN
          rw [← e, h1, h6] at this
          cases this
        have plain : p.2 = [] → AVRel σ p.1 v' → next (a.put o.dst v') w' := by
          intro e1 e2
          refine h σ v' w' (Sg.le_refl _) (fun _ _ => rfl) (fun _ => hN) e2 ?_
          rw [e1, List.append_nil]
          exact hMb
        have fresh : ∀ b y L, q.2.1.length ≤ b → mget M' b = y → (∀ t c, y ≠ .cell t c) → (y.live = true → y.wr = true) → τ b = some L → p.2 = [(N, y)] → AVRel (sgSet σ N L) p.1 v' → next (a.put o.dst v') w' := by
          intro b y L hb hm hy hyw hL e1 e2
          refine h (sgSet σ N L) v' w' (sgSet_le hN) (fun c hc => sgSet_ne _ _ _ _ hc) (fun hn => absurd rfl (hn (N, y) (by rw [e1]; simp))) e2 ?_
          rw [e1, puts_append]
          refine hMb.adopt hN (fun hw => Nat.le_trans hM.kept.size (hfar b L hb (by rw [hm]; exact hw) hL)) hM' hm hL hy hyw fun hw c K hlive hK => ?_
          have hlo := hfar b L hb (by rw [hm]; exact hw) hL
          -- an old block lies below
          have hlt : K.blk < w.heap.size := by
            by_cases hc : mget (puts M s1) c = mget M c
            · rw [hc] at hlive
              exact (hM.blk c).live_lt hlive hK
            · rw [mget_puts] at hc
              cases hls : lastSet s1 c with
              | none => rw [hls] at hc; exact absurd rfl hc
              | some y =>
                obtain ⟨p', hp', h1, _⟩ := (backSets_mem hs1).2 _ (lastSet_some hls)
                obtain ⟨_, _, _, t', l2, h6⟩ := hp.ws p' hp'
                simp only at h1
                subst h1
                exact hM.rw_lt h6 hK
          omega
        unfold backVal at hp1
        split at hp1
        · rename_i x
          split at hp1
          · rename_i b k n es
            simp only [cond_eq_ite, Nat.ble_eq] at hp1
            split at hp1
            · rename_i hb
              split at hp1
              · rename_i t l' hm
                cases hp1
                obtain ⟨L, cap, hL, he', hrest'⟩ := hv
                exact fresh b _ L hb hm (fun _ _ e => by cases e) (fun _ => rfl) hL rfl ⟨L, cap, sgSet_self _ _ _, he', hrest'⟩
              · cases hp1
            · cases hp1
          · rename_i b
            simp only [cond_eq_ite, Nat.ble_eq] at hp1
            split at hp1
            · rename_i hb
              split at hp1
              · rename_i t τ' xs hm
                cases hp1
                obtain ⟨L, hL, hrest'⟩ := hv
                exact fresh b _ L hb hm (fun _ _ e => by cases e) (fun hl => by cases xs with | nil => cases hl | cons _ _ => rfl) hL rfl ⟨L, sgSet_self _ _ _, hrest'⟩
              · cases hp1
            · cases hp1
          · rename_i f' b
            simp only [cond_eq_ite, Nat.ble_eq] at hp1
            split at hp1
            · rename_i hb
              split at hp1
              · rename_i t l' hm
                cases hp1
                obtain ⟨vs', he', hps⟩ := hv
                cases hvl : vs'.toList with
                | nil => rw [hvl] at hps; exact hps.elim
                | cons v1 vr =>
                  rw [hvl] at hps
                  obtain ⟨⟨L, hL, hv1⟩, hps'⟩ := hps
                  exact fresh b _ L hb hm (fun _ _ e => by cases e) (fun _ => rfl) hL rfl ⟨vs', he', by rw [hvl]; exact ⟨⟨L, sgSet_self _ _ _, hv1⟩, by cases vr with | nil => trivial | cons _ _ => exact hps'.elim⟩⟩
              · cases hp1
            · cases hp1
          · simp only [cond_eq_ite] at hp1
            split at hp1
            · rename_i hdv
              cases hp1
              exact plain rfl (dataV_rel hdv hv)
            · cases hp1
        · cases hp1
        · cases hp1
          exact plain rfl (by obtain ⟨vs', h1, h2⟩ := hv; exact ⟨vs', h1, dataVs_rel rfl h2⟩)
        · rename_i x r
          simp only [cond_eq_ite] at hp1
          split at hp1
          · rename_i hr1
            obtain ⟨vs', h1, h2⟩ := hv
            cases hvl : vs'.toList with
            | nil => rw [hvl] at h2; exact h2.elim
            | cons v1 vr =>
              rw [hvl] at h2
              obtain ⟨h3, h4⟩ := h2
              split at hp1
              · rename_i b k n es
                simp only [Nat.ble_eq] at hp1
                split at hp1
                · rename_i hb
                  split at hp1
                  · rename_i t l' hm
                    cases hp1
                    obtain ⟨L, cap, hL, he', hrest'⟩ := h3
                    exact fresh b _ L hb hm (fun _ _ e => by cases e) (fun _ => rfl) hL rfl ⟨vs', h1, by rw [hvl]; exact ⟨⟨L, cap, sgSet_self _ _ _, he', hrest'⟩, dataVs_rel hr1 h4⟩⟩
                  · cases hp1
                · cases hp1
              · rename_i b
                simp only [Nat.ble_eq] at hp1
                split at hp1
                · rename_i hb
                  split at hp1
                  · rename_i t τ' xs hm
                    cases hp1
                    obtain ⟨L, hL, hrest'⟩ := h3
                    exact fresh b _ L hb hm (fun _ _ e => by cases e) (fun hl => by cases xs with | nil => cases hl | cons _ _ => rfl) hL rfl ⟨vs', h1, by rw [hvl]; exact ⟨⟨L, sgSet_self _ _ _, hrest'⟩, dataVs_rel hr1 h4⟩⟩
                  · cases hp1
                · cases hp1
              · split at hp1
                · rename_i hdv
                  cases hp1
                  exact plain rfl ⟨vs', h1, by rw [hvl]; exact ⟨dataV_rel hdv h3, dataVs_rel hr1 h4⟩⟩
                · cases hp1
          · split at hp1
            · rename_i b y _
              simp only [Bool.and_eq_true, Nat.ble_eq] at hp1
              split at hp1
              · rename_i hb
                obtain ⟨hx, hy, hb⟩ := hb
                split at hp1
                · rename_i t τ' xs hm
                  cases hp1
                  obtain ⟨vs', h1, h2⟩ := hv
                  cases hvl : vs'.toList with
                  | nil => rw [hvl] at h2; exact h2.elim
                  | cons v1 vr =>
                    rw [hvl] at h2
                    obtain ⟨h3, h4⟩ := h2
                    cases vr with
                    | nil => exact h4.elim
                    | cons v2 vr =>
                      obtain ⟨⟨L, hL, hrest'⟩, h6⟩ := h4
                      exact fresh b _ L hb hm (fun _ _ e => by cases e) (fun hl => by cases xs with | nil => cases hl | cons _ _ => rfl) hL rfl ⟨vs', h1, by rw [hvl]; exact ⟨dataV_rel hx h3, ⟨L, sgSet_self _ _ _, hrest'⟩, dataVs_rel (l := [y]) (by simpa using hy) h6⟩⟩
                · cases hp1
              · cases hp1
            · cases hp1
      · exact hrest.elim
    · exact hr.elim
theorem builtin_ok {c : Call} {b : Builtin} {l : List AV} {v : AV} {s : Sets} (ho : o.op = .call c) (hc : c.callee = .builtin b) (hl : opdVs T c.args.toList = some l)
    (hr : Reach P G gb (evBuiltin P EQ b c.argTypes.toList l M N) v s) (hT : TRel σ T a) (hM : MRel w0 W σ M w) (hN : σ N = none)
    (h : Goes w0 W σ M N a o.dst next v s) : o.wp P a w next Q := by
  obtain ⟨callee, args, argTypes⟩ := c
  simp only at hc
  subst hc
  obtain ⟨argl⟩ := args
  obtain ⟨tyl⟩ := argTypes
  simp only at hl hr
  have hargs := opdVs_rel hT hl
  have hexec : ∀ (v' : Value) (w' : World), (builtin b tyl.toArray o.type ((argl.toArray.map fun | .const _ => true | _ => false)) (argl.map a.eval).toArray).run P w = .ok (.value v') w' → (execOp a.eval o).run P w = .ok (.value v') w' := by
    intro v' w' hrun
    unfold execOp
    simp only [ho, resolve, invoke, Sem.run_bind, Sem.run_pure, Result.andThen_ok]
    rw [show Array.map a.eval { toList := argl } = (argl.map a.eval).toArray from by simp]
    exact hrun
  unfold evBuiltin at hr
  split at hr
  · -- len
    rename_i t x
    cases hargl : argl.map a.eval with
    | nil => rw [hargl] at hargs; exact hargs.elim
    | cons u r =>
      rw [hargl] at hargs
      obtain ⟨h1, h2⟩ := hargs
      cases r with
      | cons _ _ => exact h2.elim
      | nil =>
        have lenrun : ∀ (n : Nat), n ≤ 9223372036854775807 → (Builtin.len_ #[t] o.type #[u]).run P w = .ok (goInt n) w → v = aint .i64 n → s = [] → o.wp P a w next Q := by
          intro n hn hrun hv hs
          subst hv
          subst hs
          refine h.value hM hN (v' := goInt n) (hexec _ _ ?_) ⟨rfl, by simp only [D.ok, inR, Bool.and_eq_true, decide_eq_true_eq]; omega⟩
          rw [hargl]
          simp [builtin, hrun]
        split at hr
        · rename_i st hu
          obtain ⟨rfl, rfl⟩ := hr
          obtain ⟨e, hok⟩ := h1
          change u = .string st at e
          subst e
          exact lenrun _ hok (by simp [Builtin.len_, underlying_run hu]) rfl rfl
        · rename_i e b k n es hu
          obtain ⟨rfl, rfl⟩ := hr
          obtain ⟨L, cap, _, rfl, _, hml, _⟩ := h1
          exact lenrun _ (by simp only [maxLen] at hml; omega) (by simp [Builtin.len_, underlying_run hu]) rfl rfl
        · rename_i e hu
          obtain ⟨rfl, rfl⟩ := hr
          have e : u = .slice none 0 0 := h1
          subst e
          exact lenrun 0 (by omega) (by simp [Builtin.len_, underlying_run hu]) rfl rfl
        · rename_i e b k hu
          split at hr
          · rename_i own τ xs hm
            obtain ⟨rfl, rfl⟩ := hr
            obtain ⟨L, hL, hv⟩ := h1
            have hB := hM.blk b
            rw [hm] at hB
            obtain ⟨L', g1, g2, _⟩ := hB.elems
            rw [hL] at g1
            cases g1
            cases k with
            | none =>
              rcases hv with ⟨h0, rfl⟩ | ⟨cap, rfl, _, hml, _⟩
              · exact lenrun 0 (by omega) (by simp [Builtin.len_, underlying_run hu]) (by simp only [lenK, ← g2, h0]) rfl
              · exact lenrun L.n (by simp only [maxLen] at hml; omega) (by simp [Builtin.len_, underlying_run hu]) (by simp only [lenK, ← g2]) rfl
            | some m =>
              obtain ⟨_, _, cap, rfl, _, hml⟩ := hv
              exact lenrun m (by simp only [maxLen] at hml; omega) (by simp [Builtin.len_, underlying_run hu]) rfl rfl
          · exact hr.elim
        · rename_i n hu
          rcases hr with ⟨hb, rfl, rfl⟩ | ⟨_, hf⟩
          · exact lenrun _ (by simp only [Nat.ble_eq, roomD] at hb; omega) (by simp [Builtin.len_, underlying_run hu]) rfl rfl
          · exact hf.elim
        · exact hr.elim
  · -- max
    rename_i k x r
    split at hr
    · rename_i y hy
      obtain ⟨rfl, rfl⟩ := hr
      cases hargl : argl.map a.eval with
      | nil => rw [hargl] at hargs; exact hargs.elim
      | cons u rest =>
        rw [hargl] at hargs
        obtain ⟨h1, h2⟩ := hargs
        obtain ⟨e, hok⟩ := h1
        change u = .int k x at e
        subst e
        have hm := maxL_run (P := P) (w := w) h2 hok hy
        refine h.value hM hN (v' := .int k y) (hexec _ _ ?_) ⟨rfl, hm.2⟩
        rw [hargl]
        simp [builtin, Builtin.max_, hm.1]
    · exact hr.elim
  · -- min
    rename_i k x r
    split at hr
    · rename_i y hy
      obtain ⟨rfl, rfl⟩ := hr
      cases hargl : argl.map a.eval with
      | nil => rw [hargl] at hargs; exact hargs.elim
      | cons u rest =>
        rw [hargl] at hargs
        obtain ⟨h1, h2⟩ := hargs
        obtain ⟨e, hok⟩ := h1
        change u = .int k x at e
        subst e
        have hm := minL_run (P := P) (w := w) h2 hok hy
        refine h.value hM hN (v' := .int k y) (hexec _ _ ?_) ⟨rfl, hm.2⟩
        rw [hargl]
        simp [builtin, Builtin.min_, hm.1]
    · exact hr.elim
  · -- append
    rename_i t t' sv xv
    simp only [cond_eq_ite, beq_iff_eq] at hr
    split at hr
    · rename_i ht
      subst ht
      cases argl with
      | nil => exact hargs.elim
      | cons sx r =>
        obtain ⟨h1, h2⟩ := hargs
        cases r with
        | nil => exact h2.elim
        | cons xx r =>
          obtain ⟨h2, h3⟩ := h2
          cases r with
          | nil =>
            split at hr
            · rename_i e hu
              split at hr
              · exact appendA_ok ho hu h1 h2 hr hM hN h
              · exact append_ok ho h1 h2 hr hM hN h
            · exact hr.elim
          | cons _ _ => exact h3.elim
    · exact hr.elim
  · exact hr.elim
theorem op_sound (hEQ : ∀ t, t ∈ EQ.eq → EqOK P t) {v : AV} {s : Sets} (hr : Reach P G gb (opR P G EQ o.op T M N) v s) (hT : TRel σ T a) (hM : MRel w0 W σ M w) (hG : Glob G gb W w0) (hN : σ N = none)
    (h : Goes w0 W σ M N a o.dst next v s) : o.wp P a w next Q := by
  cases ho : o.op <;> rw [ho] at hr
  case move x => exact move_ok (EQ := EQ) (.inl ho) hr hT hM hN h
  case assign x => exact move_ok (EQ := EQ) (.inr ho) hr hT hM hN h
  case pick c x y => exact pick_ok ho hr hT hM hN h
  case alloc t => exact alloc_ok ho hr hM hN h
  case box t x => exact box_ok ho hr hT hM hN h
  case build t ps => exact build_ok ho hr hT hM hN h
  case buildSlice t n ps => exact buildSlice_ok ho hr hT hM hN h
  case load t x => exact load_ok ho hr hT hM hG hN h
  case store t x y => exact store_ok ho hr hT hM hN h
  case nilCheck x => exact nilCheck_ok ho hr hT hM hN h
  case binOp op t x y u => exact binOp_ok hEQ ho hr hT hM hN h
  case unOp op t x => exact unOp_ok ho hr hT hM hN h
  case convert t u x => exact convert_ok ho hr hT hM hN h
  case makeFunc fn first caps => exact makeFunc_ok ho hr hT hM hN h
  case makeSlice t x y => exact makeSlice_ok ho hr hT hM hN h
  case slice t x lo hi mx => exact slice_ok ho hr hT hM hN h
  case fieldAddr t x f => exact fieldAddr_ok ho hr hT hM hN h
  case field t x f => exact field_ok ho hr hT hM hN h
  case indexAddr t x i => exact indexAddr_ok ho hr hT hM hN h
  case index t x i => exact index_ok ho hr hT hM hN h
  case extract x i => exact extract_ok ho hr hT hM hN h
  case call c =>
    simp only [opR] at hr
    split at hr
    · rename_i b hb
      split at hr
      · rename_i l hl
        exact builtin_ok ho hb hl hr hT hM hN h
      · exact hr.elim
    · rename_i g hg
      split at hr
      · rename_i f caps l hgv hl
        split at hr
        · rename_i fn hfn
          split at hr
          · exact call_ok ho hg hgv hl hr hT hM hG hN h
          · split at hr
            · simp only [cond_eq_ite] at hr
              split at hr
              · obtain ⟨u, hx, rfl, rfl⟩ := hr
                obtain ⟨vs, he, hcaps⟩ := opdV_rel hT hgv
                have hvs : vs = #[] := by
                  cases hv : vs.toList with
                  | nil => exact Array.ext' hv
                  | cons _ _ => rw [hv] at hcaps; exact hcaps.elim
                subst hvs
                obtain ⟨v', hrun, hv⟩ := hx σ (c.args.map a.eval) w (by rw [Array.toList_map]; exact opdVs_rel hT hl)
                refine h.value hM hN ?_ hv
                rw [call_run ho hg he]
                simpa using hrun
              · exact hr.elim
            · exact hr.elim
        · exact hr.elim
      · exact hr.elim
    · exact hr.elim
  all_goals exact hr.elim
theorem isNil_op {o : Op} (h : isNil o = true) : o = .assign (.const (.slice none 0 0)) ∨ o = .move (.const (.slice none 0 0)) := by
  unfold isNil at h
  split at h
  · exact .inl rfl
  · exact .inr rfl
  · cases h
theorem opO_sound (hEQ : ∀ t, t ∈ EQ.eq → EqOK P t) {v : AV} {s : Sets} (hr : Reach P G gb (opO P G EQ o T M N) v s) (hT : TRel σ T a) (hM : MRel w0 W σ M w) (hG : Glob G gb W w0) (hN : σ N = none)
    (h : Goes w0 W σ M N a o.dst next v s) : o.wp P a w next Q := by
  unfold opO at hr
  cases hn : isNil o.op with
  | false =>
    rw [hn] at hr
    exact op_sound hEQ hr hT hM hG hN h
  | true =>
    rw [hn] at hr
    simp only [cond_true] at hr
    split at hr
    · rename_i p hp
      obtain ⟨rfl, rfl⟩ := hr
      have hrun : (execOp a.eval o).run P w = .ok (.value (.slice none 0 0)) w := by
        unfold execOp
        rcases isNil_op hn with e | e <;> rw [e] <;> rfl
      unfold Oper.wp
      rw [hrun]
      refine h (sgSet σ N ⟨0, 0, 0, true, 0, p.2.len⟩) _ _ (sgSet_le hN) (fun b hb => sgSet_ne _ _ _ _ hb) (fun hp' => absurd rfl (hp' (N, .arr (some p.1) p.2 []) (by simp))) ⟨_, sgSet_self _ _ _, .inl ⟨rfl, rfl⟩⟩ ?_
      exact hM.put hN _ _ ⟨_, sgSet_self _ _ _, rfl, rfl, by simp [ET.flat], rfl, rfl, .inl rfl⟩ (fun _ _ _ _ _ => rfl) hM.kept (fun h => by cases h) (fun h => by cases h) (fun h => by cases h)
    · exact op_sound hEQ hr hT hM hG hN h
end
end Go.Ev

namespace Go.Ev
open Go
structure GOK (P : Program) (G : Nat → Option (List D)) (gb : Nat) (Γ : Nat → List AV → List Blk → (AV → List Blk → Ans) → Ans) (X : Nat → List AV → (AV → Ans) → Ans) : Prop where
  call : ∀ f as bs K r, Γ f as bs K = some r → ∃ v M, Enters P f ∧ CallsA P G gb f as bs v M ∧ K v M = some r
  ext : ∀ f as K r, X f as K = some r → ∃ v, ExtA P f as v ∧ K v = some r
def wantA (ops : List Oper) (o : Oper) (T : TS) : Option Bool :=
  match o.guard with
  | none => some true
  | some g => match dstOf ops g.1 with
    | none => none
    | some d => match tget T d with
      | .v (.c (.d (.bool b))) => some (b == g.2)
      | .tup [] => some false
      | _ => none
inductive Trace (P : Program) (G : Nat → Option (List D)) (gb : Nat) (EQ : Tab) (dr : Bool) (ops : List Oper) : List Oper → TS → List Blk → Nat → List Tr → TS → List Blk → Nat → Prop
  | nil {T M N} : Trace P G gb EQ dr ops [] T M N [] T M N
  | did {o r T M N v s tr T' M' N'} : wantA ops o T = some true → Reach P G gb (opO P G EQ o T M N) v s →
      Trace P G gb EQ dr ops r (setT T o.dst v) (puts M s) (nextN dr N s) tr T' M' N' → Trace P G gb EQ dr ops (o :: r) T M N (⟨true, v, s, readsOf o.op T⟩ :: tr) T' M' N'
  | skip {o r T M N tr T' M' N'} : wantA ops o T = some false → Trace P G gb EQ dr ops r (setT T o.dst undefA) M (nextN dr N []) tr T' M' N' → Trace P G gb EQ dr ops (o :: r) T M N (.skip :: tr) T' M' N'
section
variable {P : Program} {G : Nat → Option (List D)} {gb : Nat} {EQ : Tab} {Γ : Nat → List AV → List Blk → (AV → List Blk → Ans) → Ans} {X : Nat → List AV → (AV → Ans) → Ans}
theorem run_reach (hΓ : GOK P G gb Γ X) : ∀ (t : Tm) (K : AV → Sets → Ans) (r : Res), t.run Γ X K = some r → ∃ v s, Reach P G gb t v s ∧ K v s = some r
  | .fail, K, r, h => by cases h
  | .leaf v s, K, r, h => ⟨v, s, ⟨rfl, rfl⟩, h⟩
  | .br b x y, K, r, h => by
    cases b with
    | true => obtain ⟨v, s, h1, h2⟩ := run_reach hΓ x K r h; exact ⟨v, s, .inl ⟨rfl, h1⟩, h2⟩
    | false => obtain ⟨v, s, h1, h2⟩ := run_reach hΓ y K r h; exact ⟨v, s, .inr ⟨rfl, h1⟩, h2⟩
  | .call f as bs k, K, r, h => by
    obtain ⟨v, M, h1, h2, h3⟩ := hΓ.call f as bs _ r h
    obtain ⟨u, s, h4, h5⟩ := run_reach hΓ (k v M) K r h3
    exact ⟨u, s, ⟨v, M, h1, h2, h4⟩, h5⟩
  | .ext f as k, K, r, h => by
    obtain ⟨v, h1, h2⟩ := hΓ.ext f as _ r h
    obtain ⟨u, s, h4, h5⟩ := run_reach hΓ (k v) K r h2
    exact ⟨u, s, ⟨v, h1, h4⟩, h5⟩
theorem evOps_trace (hΓ : GOK P G gb Γ X) (dr : Bool) (ops : List Oper) : ∀ (l : List Oper) (T : TS) (M : List Blk) (N : Nat) (tr0 : List Tr) (K : TS → List Blk → Nat → List Tr → Ans) (r : Res),
    evOps P G EQ Γ X dr ops l T M N tr0 K = some r → ∃ tr T' M' N', Trace P G gb EQ dr ops l T M N tr T' M' N' ∧ K T' M' N' (tr.reverse ++ tr0) = some r
  | [], T, M, N, tr0, K, r, h => ⟨[], T, M, N, .nil, h⟩
  | o :: l, T, M, N, tr0, K, r, h => by
    unfold evOps at h
    split at h
    · rename_i hg
      obtain ⟨v, s, h1, h2⟩ := run_reach hΓ _ _ _ h
      obtain ⟨tr, T', M', N', h3, h4⟩ := evOps_trace hΓ dr ops l _ _ _ _ K r h2
      exact ⟨_, T', M', N', .did (by simp [wantA, hg]) h1 h3, by simpa using h4⟩
    · rename_i g hg
      split at h
      · cases h
      · rename_i d hd
        split at h
        · rename_i b hb
          cases b with
          | true =>
            have hT : tfix (abool true) T d = T := tfix_same hb
            simp only [cond_true, hT] at h
            split at h
            · rename_i hw
              obtain ⟨v, s, h1, h2⟩ := run_reach hΓ _ _ _ h
              obtain ⟨tr, T', M', N', h3, h4⟩ := evOps_trace hΓ dr ops l _ _ _ _ K r h2
              exact ⟨_, T', M', N', .did (by simp [wantA, hg, hd, hb, hw]) h1 h3, by simpa using h4⟩
            · rename_i hw
              obtain ⟨tr, T', M', N', h3, h4⟩ := evOps_trace hΓ dr ops l _ _ _ _ K r h
              exact ⟨_, T', M', N', .skip (by simp [wantA, hg, hd, hb, hw]) h3, by simpa using h4⟩
          | false =>
            have hT : tfix (abool false) T d = T := tfix_same hb
            simp only [cond_false, hT] at h
            split at h
            · rename_i hw
              obtain ⟨v, s, h1, h2⟩ := run_reach hΓ _ _ _ h
              obtain ⟨tr, T', M', N', h3, h4⟩ := evOps_trace hΓ dr ops l _ _ _ _ K r h2
              exact ⟨_, T', M', N', .did (by simp [wantA, hg, hd, hb, hw]) h1 h3, by simpa using h4⟩
            · rename_i hw
              obtain ⟨tr, T', M', N', h3, h4⟩ := evOps_trace hΓ dr ops l _ _ _ _ K r h
              exact ⟨_, T', M', N', .skip (by simp [wantA, hg, hd, hb, hw]) h3, by simpa using h4⟩
        · rename_i hb
          obtain ⟨tr, T', M', N', h3, h4⟩ := evOps_trace hΓ dr ops l _ _ _ _ K r h
          exact ⟨_, T', M', N', .skip (by simp [wantA, hg, hd, hb]) h3, by simpa using h4⟩
        · cases h
theorem wanted_of {ops : Array Oper} {o : Oper} {T : TS} {σ : Sg} {a : Act} {b : Bool} (hT : TRel σ T a) (h : wantA ops.toList o T = some b) : Region.wanted o (yielded ops a.tmps) = b := by
  unfold wantA at h
  unfold Region.wanted
  split at h
  · rename_i hg; cases h; rw [hg]
  · rename_i g hg
    rw [hg]
    obtain ⟨j, want⟩ := g
    simp only at h ⊢
    split at h
    · cases h
    · rename_i d hd
      have hd' : (ops[j]?).bind (·.dst) = some d := by simpa [dstOf] using hd
      have hv := hT.val d
      unfold yielded
      rw [hd']
      simp only [Option.bind_some]
      split at h
      · rename_i x hx
        rw [hx] at hv
        have hv' : a.tmps.getD d undef = .bool x := hv.1
        have : a.tmps[d]? = some (.bool x) := by
          cases ht : a.tmps[d]? with
          | none => rw [Array.getD_eq_getD_getElem?, ht] at hv'; cases hv'
          | some u => rw [Array.getD_eq_getD_getElem?, ht] at hv'; simp only [Option.getD_some] at hv'; rw [hv']
        rw [this]
        cases h
        cases x <;> cases want <;> rfl
      · rename_i hx
        rw [hx] at hv
        cases h
        obtain ⟨vs, h1, h2⟩ := hv
        cases ht : a.tmps[d]? with
        | none => rfl
        | some u =>
          rw [Array.getD_eq_getD_getElem?, ht] at h1
          simp only [Option.getD_some] at h1
          subst h1
          rfl
      · cases h
theorem undef_rel (σ : Sg) : AVRel σ undefA undef := ⟨#[], rfl, trivial⟩
theorem nextN_fresh {dr : Bool} {σ τ : Sg} {N : Nat} {s : Sets} (hN : ∀ b, N ≤ b → σ b = none) (h1 : ∀ b, b ≠ N → τ b = σ b) (h2 : (∀ p ∈ s, p.1 ≠ N) → τ N = none) : ∀ b, nextN dr N s ≤ b → τ b = none := by
  intro b hb
  by_cases e : b = N
  · subst e
    refine h2 fun p hp e => ?_
    have : s.any (fun x => x.1 == b) = true := List.any_eq_true.2 ⟨p, hp, by simp [e]⟩
    simp only [nextN, this, Bool.or_true, cond_true] at hb
    omega
  · rw [h1 b e]
    refine hN b ?_
    unfold nextN at hb
    cases h : (dr || s.any (fun x => x.1 == N)) <;> simp only [h, cond_true, cond_false] at hb <;> omega
theorem trace_seq (hEQ : ∀ t, t ∈ EQ.eq → EqOK P t) {dr : Bool} {ops : Array Oper} {w0 : World} {W : Nat → Prop} (hG : Glob G gb W w0) {Q : Exit → Act → World → Prop} {l : List Oper} {T T' : TS} {M M' : List Blk} {N N' : Nat} {tr : List Tr}
    (h : Trace P G gb EQ dr ops.toList l T M N tr T' M' N') : ∀ {σ : Sg} {a : Act} {w : World}, TRel σ T a → MRel w0 W σ M w → (∀ b, N ≤ b → σ b = none) →
      (∀ τ a' w', σ.le τ → TRel τ T' a' → MRel w0 W τ M' w' → (∀ b, N' ≤ b → τ b = none) → Q .normal a' w') → wpList P ops Q l a w := by
  induction h with
  | nil =>
    intro σ a w hT hM hN hQ
    exact hQ σ a w (Sg.le_refl _) hT hM hN
  | did hwant hr _ ih =>
    intro σ a w hT hM hN hQ
    unfold wpList
    rw [if_pos (wanted_of hT hwant)]
    refine .inl (opO_sound hEQ hr hT hM hG (hN _ (Nat.le_refl _)) ?_)
    intro τ v' w' hle h1 h2 hv hM'
    exact ih ((hT.mono hle).put _ hv) hM' (nextN_fresh hN h1 h2) fun υ a' w'' hle' => hQ υ a' w'' (Sg.le_trans hle hle')
  | skip hwant _ ih =>
    intro σ a w hT hM hN hQ
    unfold wpList
    rw [if_neg (by rw [wanted_of hT hwant]; simp)]
    exact ih (hT.put _ (undef_rel σ)) hM (nextN_fresh (s := []) hN (fun _ _ => rfl) (fun _ => hN _ (Nat.le_refl _))) hQ
end
end Go.Ev

