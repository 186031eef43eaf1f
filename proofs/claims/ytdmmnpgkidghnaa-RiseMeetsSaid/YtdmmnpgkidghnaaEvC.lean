/-
  The evaluator's operations are sound, one by one: the operations that call nothing.
-/
import Derived.Test.YtdmmnpgkidghnaaEvB
namespace Go.Ev
open Go

/-- What a call with the abstract arguments 'as' over the blocks 'bs' comes to. -/
def Wof (σ : Sg) (bs : List Blk) (k : Nat) : Prop := ∃ b L, (mget bs b).wr = true ∧ σ b = some L ∧ L.blk = k

def CallsA (P : Program) (G : Nat → Option (List D)) (gb : Nat) (f : Nat) (as : List AV) (bs : List Blk) (v : AV) (M' : List Blk) : Prop :=
  ∀ (σ : Sg) (w : World) (args : Array Value), AVRels σ as args.toList → MRel w (Wof σ bs) σ bs w → Glob G gb (Wof σ bs) w → (∀ b, bs.length ≤ b → σ b = none) →
    Calls P f args w fun e w' => ∃ v' τ, e = .returned v' ∧ σ.le τ ∧ AVRel τ v v' ∧ MRel w (Wof σ bs) τ M' w'

def Enters (P : Program) (f : Nat) : Prop := ∀ (args : Array Value) (w : World), (callFunc f args).run P w = .ok (.enter f args) w

def ExtA (P : Program) (f : Nat) (as : List AV) (v : AV) : Prop :=
  ∀ (σ : Sg) (args : Array Value) (w : World), AVRels σ as args.toList → ∃ v', (callFunc f args).run P w = .ok (.value v') w ∧ AVRel σ v v'

def Reach (P : Program) (G : Nat → Option (List D)) (gb : Nat) : Tm → AV → Sets → Prop
  | .fail, _, _ => False
  | .leaf v s, v', s' => v' = v ∧ s' = s
  | .br b x y, v, s => (b = true ∧ Reach P G gb x v s) ∨ (b = false ∧ Reach P G gb y v s)
  | .call f as bs k, v, s => ∃ u M, Enters P f ∧ CallsA P G gb f as bs u M ∧ Reach P G gb (k u M) v s
  | .ext f as k, v, s => ∃ u, ExtA P f as u ∧ Reach P G gb (k u) v s

/-- Equality of aggregates of these types is the equality of all cells. -/
def EqOK (P : Program) (t : TypeId) : Prop :=
  ∀ (z a b : List D) (x y : Operand) (w : World), zeroD P t = some z → fitsTo z a = true → fitsTo z b = true →
    (do eqGuard .eql t x y (.agg (a.map D.val).toArray) (.agg (b.map D.val).toArray); binOp .eql t (.agg (a.map D.val).toArray) (.agg (b.map D.val).toArray) : Sem Value).run P w = .ok (.bool (eqAll a b)) w ∧
    (do eqGuard .neq t x y (.agg (a.map D.val).toArray) (.agg (b.map D.val).toArray); binOp .neq t (.agg (a.map D.val).toArray) (.agg (b.map D.val).toArray) : Sem Value).run P w = .ok (.bool (!(eqAll a b))) w

section
variable {P : Program} {G : Nat → Option (List D)} {gb : Nat} {EQ : Tab} {w0 : World} {W : Nat → Prop} {σ : Sg} {a : Act} {w : World} {T : TS} {M : List Blk} {N : Nat} {o : Oper}
  {next : Act → World → Prop} {Q : Exit → Act → World → Prop}

/-- What must hold behind an operation. -/
def Goes (w0 : World) (W : Nat → Prop) (σ : Sg) (M : List Blk) (N : Nat) (a : Act) (d : Option Tmp) (next : Act → World → Prop) (v : AV) (s : Sets) : Prop :=
  ∀ τ v' w', σ.le τ → (∀ b, b ≠ N → τ b = σ b) → ((∀ p ∈ s, p.1 ≠ N) → τ N = none) → AVRel τ v v' → MRel w0 W τ (puts M s) w' → next (a.put d v') w'

theorem Goes.value {v : AV} {v' : Value} (h : Goes w0 W σ M N a o.dst next v []) (hM : MRel w0 W σ M w) (hN : σ N = none) (hrun : (execOp a.eval o).run P w = .ok (.value v') w) (hv : AVRel σ v v') : o.wp P a w next Q := by
  unfold Oper.wp
  rw [hrun]
  exact h σ v' w (Sg.le_refl σ) (fun _ _ => rfl) (fun _ => hN) hv hM

theorem underlying_run {t : TypeId} {d : TypeDesc} (h : P.underlying t = some d) (w : World) : (underlying t).run P w = .ok d w := by
  simp [underlying, program, Sem.run, h]

theorem typeInfo_run {t : TypeId} {i : TypeInfo} (h : P.info? t = some i) (w : World) : (typeInfo t).run P w = .ok i w := by
  simp [typeInfo, program, Sem.run, h]

theorem sizeOf_run {t : TypeId} {n : Nat} (h : sizeD P t = some n) (w : World) : (sizeOf t).run P w = .ok n w := by
  unfold sizeD at h
  cases hi : P.info? t with
  | none => rw [hi] at h; cases h
  | some i =>
    rw [hi] at h
    cases h
    simp [sizeOf, typeInfo_run hi]

theorem isAgg_run {t : TypeId} {b : Bool} (h : aggD P t = some b) (w : World) : (isAgg t).run P w = .ok b w := by
  unfold aggD at h
  cases hu : P.underlying t with
  | none => rw [hu] at h; cases h
  | some d =>
    rw [hu] at h
    simp only [isAgg, Sem.run_bind, underlying_run hu, Result.andThen_ok]
    cases d <;> cases h <;> rfl

theorem zero_run {t : TypeId} {l : List D} (h : zeroD P t = some l) (w : World) : ∃ z : Value, (zeroValue t).run P w = .ok z w ∧ (z.cells = (l.map D.val).toArray ∧ ∀ d ∈ l, d.ok) ∧ ∃ i, P.info? t = some i ∧ i.zero = some z := by
  unfold zeroD at h
  cases hi : P.info? t with
  | none => rw [hi] at h; cases h
  | some i =>
    rw [hi] at h
    simp only at h
    cases hz : i.zero with
    | none => rw [hz] at h; cases h
    | some z =>
      rw [hz] at h
      refine ⟨z, by simp [zeroValue, typeInfo_run hi, hz], ?_, i, rfl, hz⟩
      obtain ⟨e, o⟩ := toDs_val h
      exact ⟨by rw [← e], o⟩

theorem add_mk (b o n : Nat) : (⟨b, o, none⟩ : Addr).add n = ⟨b, o + n, none⟩ := by
  unfold Addr.add
  split
  · rename_i h; subst h; rfl
  · rfl

theorem take_drop_get {l : List D} {o n j : Nat} {d : D} (h : ((l.drop o).take n)[j]? = some d) : l[o + j]? = some d := by
  rw [List.getElem?_take] at h
  split at h
  · rw [List.getElem?_drop] at h; exact h
  · cases h

/-- A part of cells that are known, loaded. -/
theorem loadVar_run {t : TypeId} {l : List D} {B k : Nat} {v : V} (h : partD P t l k = some v) (hok : ∀ d ∈ l, d.ok) (o : Nat) (hc : ∀ j d, l[j]? = some d → w.cell? ⟨B, o + j, none⟩ = some d.val) :
    ∃ v', (loadVar t ⟨B, o + k, none⟩).run P w = .ok v' w ∧ VRel σ v v' := by
  unfold partD at h
  split at h
  · rename_i n ha hs
    simp only [cond_eq_ite, beq_iff_eq] at h
    split at h
    · rename_i hlen
      cases h
      refine ⟨.agg (((l.drop k).take n).map D.val).toArray, ?_, rfl, fun d hd => hok d (List.mem_of_mem_drop (List.mem_of_mem_take hd))⟩
      have hl := run_loadCells_list (P := P) w ⟨B, o + k, none⟩ (((l.drop k).take n).map D.val) (fun j v hj => by
        rw [List.getElem?_map] at hj
        cases hd : ((l.drop k).take n)[j]? with
        | none => rw [hd] at hj; cases hj
        | some d =>
          rw [hd] at hj
          cases hj
          rw [add_mk, Nat.add_assoc]
          exact hc (k + j) d (take_drop_get hd))
      rw [List.length_map, hlen] at hl
      simp only [loadVar, Sem.run_bind, isAgg_run ha, Result.andThen_ok, sizeOf_run hs, hl, if_true]
      rfl
    · cases h
  · rename_i n ha hs
    cases hd : l.drop k with
    | nil => rw [hd] at h; cases h
    | cons d r =>
      rw [hd] at h
      cases h
      have hk : l[k]? = some d := by
        have : (l.drop k)[0]? = some d := by rw [hd]; rfl
        rw [List.getElem?_drop] at this
        exact this
      refine ⟨d.val, ?_, rfl, hok d (List.mem_of_getElem? hk)⟩
      simp only [loadVar, Sem.run_bind, isAgg_run ha, Result.andThen_ok]
      simp only [Bool.false_eq_true, if_false, load, Sem.run, hc k d hk]
  · cases h

/-- A part of an aggregate. -/
theorem part_run {t : TypeId} {l : List D} {k : Nat} {v : V} (h : partD P t l k = some v) (hok : ∀ d ∈ l, d.ok) : ∃ v', (part t (l.map D.val).toArray k).run P w = .ok v' w ∧ VRel σ v v' := by
  unfold partD at h
  split at h
  · rename_i n ha hs
    simp only [cond_eq_ite, beq_iff_eq] at h
    split at h
    · cases h
      refine ⟨.agg (((l.drop k).take n).map D.val).toArray, ?_, rfl, fun d hd => hok d (List.mem_of_mem_drop (List.mem_of_mem_take hd))⟩
      simp only [part, Sem.run_bind, isAgg_run ha, Result.andThen_ok, sizeOf_run hs, if_true, Sem.run_pure]
      congr 2
      apply Array.ext'
      simp only [Array.toList_extract, List.map_take, List.map_drop]
      simp
    · cases h
  · rename_i n ha hs
    cases hd : l.drop k with
    | nil => rw [hd] at h; cases h
    | cons d r =>
      rw [hd] at h
      cases h
      have hk : l[k]? = some d := by
        have : (l.drop k)[0]? = some d := by rw [hd]; rfl
        rw [List.getElem?_drop] at this
        exact this
      refine ⟨d.val, ?_, rfl, hok d (List.mem_of_getElem? hk)⟩
      simp only [part, Sem.run_bind, isAgg_run ha, Result.andThen_ok, Bool.false_eq_true, if_false]
      simp [hk]
  · cases h

theorem take_all (l : List D) : (l.map D.val).toArray.toList.take l.length = l.map D.val := List.take_of_length_le (by simp)

theorem move_ok {x : Operand} {v : AV} {s : Sets} (ho : o.op = .move x ∨ o.op = .assign x) (hr : Reach P G gb (opR P G EQ (.move x) T M N) v s) (hT : TRel σ T a) (hM : MRel w0 W σ M w) (hN : σ N = none)
    (h : Goes w0 W σ M N a o.dst next v s) : o.wp P a w next Q := by
  simp only [opR] at hr
  split at hr
  · rename_i u hu
    obtain ⟨rfl, rfl⟩ := hr
    refine h.value hM hN (v' := a.eval x) ?_ (opdV_rel hT hu)
    unfold execOp
    rcases ho with ho | ho <;> rw [ho] <;> rfl
  · exact hr.elim

theorem pick_ok {c x y : Operand} {v : AV} {s : Sets} (ho : o.op = .pick c x y) (hr : Reach P G gb (opR P G EQ (.pick c x y) T M N) v s) (hT : TRel σ T a) (hM : MRel w0 W σ M w) (hN : σ N = none)
    (h : Goes w0 W σ M N a o.dst next v s) : o.wp P a w next Q := by
  simp only [opR] at hr
  split at hr
  · rename_i t va vb hc hx hy
    have hc' : a.eval c = .bool t := (opdV_rel hT hc).1
    have hrun : (execOp a.eval o).run P w = .ok (.value (if t then a.eval x else a.eval y)) w := by
      unfold execOp
      rw [ho]
      simp [hc', asBool]
    rcases hr with ⟨ht, rfl, rfl⟩ | ⟨ht, rfl, rfl⟩
    · subst ht
      exact h.value hM hN hrun (opdV_rel hT hx)
    · subst ht
      exact h.value hM hN hrun (opdV_rel hT hy)
  · exact hr.elim

theorem alloc_ok {t : TypeId} {v : AV} {s : Sets} (ho : o.op = .alloc t) (hr : Reach P G gb (opR P G EQ (.alloc t) T M N) v s) (hM : MRel w0 W σ M w) (hN : σ N = none)
    (h : Goes w0 W σ M N a o.dst next v s) : o.wp P a w next Q := by
  simp only [opR] at hr
  split at hr
  · rename_i l hl
    obtain ⟨rfl, rfl⟩ := hr
    obtain ⟨z, hz, ⟨hcells, hok⟩, _⟩ := zero_run (w := w) hl
    have hrun : (execOp a.eval o).run P w = .ok (.value (.pointer (some ⟨w.heap.size, 0, none⟩))) (w.alloc (.cells (l.map D.val).toArray t)) := by
      unfold execOp
      rw [ho]
      simp [Instr.alloc, hz, newVar, newRow, newObj, Sem.run, hcells]
    unfold Oper.wp
    rw [hrun]
    refine h (sgSet σ N ⟨w.heap.size, 0, (l.map D.val).toArray.size, true, 0, 0⟩) _ _ (sgSet_le hN) (fun b hb => sgSet_ne _ _ _ _ hb) (fun hp => absurd rfl (hp (N, .rw t l) (by simp))) ⟨_, sgSet_self _ _ _, rfl⟩ ?_
    exact hM.alloc hN t l _ (take_all l) hok _ rfl rfl rfl rfl
  · split at hr
    · rename_i e i hu hi
      split at hr
      · rename_i hz
        obtain ⟨rfl, rfl⟩ := hr
        have hrun : (execOp a.eval o).run P w = .ok (.value (.pointer (some ⟨w.heap.size, 0, none⟩))) (w.alloc (.cells #[.slice none 0 0] t)) := by
          unfold execOp
          rw [ho]
          simp [Instr.alloc, zeroValue, typeInfo_run hi, hz, newVar, newRow, newObj, Sem.run, Value.cells]
        unfold Oper.wp
        rw [hrun]
        refine h (sgSet σ N ⟨w.heap.size, 0, 1, true, 0, 0⟩) _ _ (sgSet_le hN) (fun b hb => sgSet_ne _ _ _ _ hb) (fun hp => absurd rfl (hp (N, .cell t .nilS) (by simp))) ⟨_, sgSet_self _ _ _, rfl⟩ ?_
        refine hM.new hN _ _ rfl (.cells #[.slice none 0 0] t) _ rfl rfl rfl rfl ⟨_, .slice none 0 0, sgSet_self _ _ _, rfl, rfl, rfl, ?_, rfl⟩
        rw [alloc_heap]
        simp
      · exact hr.elim
    · exact hr.elim

theorem box_ok {t : TypeId} {x : Operand} {v : AV} {s : Sets} (ho : o.op = .box t x) (hr : Reach P G gb (opR P G EQ (.box t x) T M N) v s) (hT : TRel σ T a) (hM : MRel w0 W σ M w) (hN : σ N = none)
    (h : Goes w0 W σ M N a o.dst next v s) : o.wp P a w next Q := by
  simp only [opR] at hr
  split at hr
  · rename_i u hu
    split at hr
    · rename_i l hl
      obtain ⟨rfl, rfl⟩ := hr
      obtain ⟨hcells, hok⟩ := cellsA_rel hl (opdV_rel hT hu)
      have hrun : (execOp a.eval o).run P w = .ok (.value (.pointer (some ⟨w.heap.size, 0, none⟩))) (w.alloc (.cells (l.map D.val).toArray t)) := by
        unfold execOp
        rw [ho]
        simp [Instr.box, newVar, newRow, newObj, Sem.run, hcells]
      unfold Oper.wp
      rw [hrun]
      refine h (sgSet σ N ⟨w.heap.size, 0, (l.map D.val).toArray.size, true, 0, 0⟩) _ _ (sgSet_le hN) (fun b hb => sgSet_ne _ _ _ _ hb) (fun hp => absurd rfl (hp (N, .rw t l) (by simp))) ⟨_, sgSet_self _ _ _, rfl⟩ ?_
      exact hM.alloc hN t l _ (take_all l) hok _ rfl rfl rfl rfl
    · exact hr.elim
  · exact hr.elim

theorem leafO_reach {x : Option V} {v : AV} {s : Sets} (h : Reach P G gb (leafO x) v s) : ∃ u, x = some u ∧ v = .v u ∧ s = [] := by
  cases x with
  | none => exact h.elim
  | some u => obtain ⟨rfl, rfl⟩ := h; exact ⟨u, rfl, rfl, rfl⟩

theorem Glob.now {w : World} (hG : Glob G gb W w0) (hk : Kept W w0 w) {g : Nat} {l : List D} (h : G g = some l) : (∀ d ∈ l, d.ok) ∧ ∀ j d, l[j]? = some d → w.cell? ⟨g, j, none⟩ = some d.val := by
  obtain ⟨h1, hok, h2⟩ := hG.cell g l h
  refine ⟨hok, fun j d hj => ?_⟩
  have hlt : g < w0.heap.size := Nat.lt_of_lt_of_le h1 hG.le
  rw [World.cell?_of_block (w := w0) (hk.block g hlt (fun hW => by have := hG.high g hW; omega))]
  exact h2 j d hj

theorem flat_get {τ : ET} {d : D} {j : Nat} : ∀ {xs : List τ.T} {i : Nat}, i < xs.length → (τ.cells (xs.getD i τ.z))[j]? = some d → (τ.flat xs)[i * τ.len + j]? = some d
  | [], _, hi, _ => by simp at hi
  | x :: r, 0, _, hj => by
    rw [show (x :: r).getD 0 τ.z = x from rfl] at hj
    have hlt : j < (τ.cells x).length := (List.getElem?_eq_some_iff.1 hj).1
    rw [Nat.zero_mul, Nat.zero_add, ET.flat, List.getElem?_append_left hlt]
    exact hj
  | x :: r, i + 1, hi, hj => by
    have ih := flat_get (xs := r) (i := i) (by simpa using hi) (by simpa using hj)
    rw [ET.flat, List.getElem?_append_right (by rw [cells_len, Nat.succ_mul]; omega), cells_len, Nat.succ_mul]
    rw [show i * τ.len + τ.len + j - τ.len = i * τ.len + j by omega]
    exact ih

theorem flat_mem {τ : ET} {d : D} {xs : List τ.T} {i : Nat} (hi : i < xs.length) (hd : d ∈ τ.cells (xs.getD i τ.z)) : d ∈ τ.flat xs := by
  obtain ⟨j, hj⟩ := List.getElem?_of_mem hd
  exact List.mem_of_getElem? (flat_get hi hj)

theorem load_ok {t : TypeId} {x : Operand} {v : AV} {s : Sets} (ho : o.op = .load t x) (hr : Reach P G gb (opR P G EQ (.load t x) T M N) v s) (hT : TRel σ T a) (hM : MRel w0 W σ M w) (hG : Glob G gb W w0) (hN : σ N = none)
    (h : Goes w0 W σ M N a o.dst next v s) : o.wp P a w next Q := by
  have key : ∀ (B k : Nat) (l : List D) (off : Nat), a.eval x = .pointer (some ⟨B, off + k, none⟩) → (∀ d ∈ l, d.ok) → (∀ j d, l[j]? = some d → w.cell? ⟨B, off + j, none⟩ = some d.val) → Reach P G gb (leafO (partD P t l k)) v s → o.wp P a w next Q := by
    intro B k l off he hok hc hr
    obtain ⟨u, hu, rfl, rfl⟩ := leafO_reach hr
    obtain ⟨v', hrun, hv⟩ := loadVar_run (σ := σ) hu hok off hc
    refine h.value hM hN (v' := v') ?_ hv
    unfold execOp
    rw [ho]
    simp [Instr.loadAt, Instr.sureAddr, he, hrun]
  simp only [opR] at hr
  split at hr
  · rename_i g
    split at hr
    · rename_i l hl
      exact key g 0 l 0 rfl (hG.now hM.kept hl).1 (fun j d hj => by rw [Nat.zero_add]; exact (hG.now hM.kept hl).2 j d hj) hr
    · exact hr.elim
  · split at hr
    · rename_i b k hb
      split at hr
      · rename_i t' c hm
        split at hr
        · rename_i ha
          obtain ⟨rfl, rfl⟩ := hr
          obtain ⟨L, hL, he⟩ := opdV_rel hT hb
          have hB := hM.blk b
          rw [hm] at hB
          obtain ⟨L', u, h1, h2, _, _, h5, h6⟩ := hB
          rw [hL] at h1
          cases h1
          refine h.value hM hN (v' := u) ?_ h6
          unfold execOp
          rw [ho]
          have hcell : w.cell? ⟨L.blk, L.off + 0, none⟩ = some u := by
            rw [cell_of_heap h5, h2]
            rfl
          simp only [Instr.loadAt, Instr.sureAddr, he, Sem.run_bind, Sem.run_pure, Result.andThen_ok, loadVar, isAgg_run ha]
          simp only [Bool.false_eq_true, if_false, load, Sem.run, hcell, Result.andThen]
        · exact hr.elim
      · split at hr
        · rename_i l hl
          obtain ⟨L, hL, he⟩ := opdV_rel hT hb
          obtain ⟨L', hL', hok, hc⟩ := (hM.blk b).cell hl
          rw [hL] at hL'
          cases hL'
          exact key L.blk k l L.off he hok hc hr
        · exact hr.elim
    · rename_i b i k hb
      split at hr
      · rename_i own τ xs hm
        obtain ⟨L, hL, he, hi⟩ := opdV_rel hT hb
        have hB := hM.blk b
        rw [hm] at hB
        obtain ⟨L', h1, h2, h3, _, hok, hc⟩ := hB.elems
        rw [hL] at h1
        cases h1
        rw [h2] at hi
        rw [← Nat.add_assoc, h3] at he
        refine key L.blk k (τ.cells (xs.getD i τ.z)) (L.off + i * τ.len) he (fun d hd => hok d (flat_mem hi hd)) (fun j d hj => ?_) hr
        rw [Nat.add_assoc]
        exact hc _ d (flat_get hi hj)
      · exact hr.elim
    · exact hr.elim

theorem splice_ok {l r : List D} {o : Nat} (hl : ∀ d ∈ l, d.ok) (hr : ∀ d ∈ r, d.ok) : ∀ d ∈ splice l o r, d.ok := by
  intro d hd
  simp only [splice, List.mem_append] at hd
  rcases hd with h | h | h
  · exact hl d (List.mem_of_mem_take h)
  · exact hr d h
  · exact hl d (List.mem_of_mem_drop h)

theorem splice_len {l r : List D} {o : Nat} (h : o + r.length ≤ l.length) : (splice l o r).length = l.length := by
  simp [splice]; omega

theorem flat_set {τ : ET} {y : τ.T} : ∀ {xs : List τ.T} {i : Nat}, i < xs.length → τ.flat (xs.set i y) = splice (τ.flat xs) (i * τ.len) (τ.cells y)
  | [], _, hi => by simp at hi
  | x :: r, 0, _ => by
    simp only [List.set_cons_zero, ET.flat, splice, Nat.zero_mul, List.take_zero, List.nil_append, Nat.zero_add]
    rw [cells_len, ← cells_len τ x, List.drop_left]
  | x :: r, i + 1, hi => by
    simp only [List.set_cons_succ, ET.flat]
    rw [flat_set (xs := r) (i := i) (by simpa using hi)]
    have e1 : (i + 1) * τ.len = (τ.cells x).length + i * τ.len := by rw [cells_len, Nat.succ_mul]; omega
    simp only [splice, e1]
    rw [List.take_length_add_append, Nat.add_assoc, List.drop_length_add_append]
    simp

theorem of_cells {τ : ET} {l : List D} {x : τ.T} (h : τ.of l = some x) : τ.cells x = l := by
  cases τ
  case site =>
    change of_site l = some x at h
    unfold of_site at h
    split at h
    · cases h; rfl
    · cases h
  case win =>
    change of_win l = some x at h
    unfold of_win at h
    split at h
    · cases h; rfl
    · cases h
  case vec =>
    change of_vec l = some x at h
    unfold of_vec at h
    split at h
    · cases h; rfl
    · cases h
  case frac =>
    change of_frac l = some x at h
    unfold of_frac at h
    split at h
    · cases h; rfl
    · cases h
  case placed =>
    change of_placed l = some x at h
    unfold of_placed at h
    split at h
    · cases h; rfl
    · cases h
  case view =>
    change of_view l = some x at h
    unfold of_view at h
    split at h
    · cases h; rfl
    · cases h
  case trk =>
    change of_trk l = some x at h
    unfold of_trk at h
    split at h
    · cases h; rfl
    · cases h
  case dir =>
    change of_dir l = some x at h
    unfold of_dir at h
    split at h
    · cases h; rfl
    · cases h
  case delay =>
    change of_delay l = some x at h
    unfold of_delay at h
    split at h
    · cases h; rfl
    · cases h
  case bool =>
    change of_bool l = some x at h
    unfold of_bool at h
    split at h
    · cases h; rfl
    · cases h
  case int =>
    change of_int l = some x at h
    unfold of_int at h
    split at h
    · cases h; rfl
    · cases h

theorem splice_parts {l m : List D} {i k : Nat} {cs : List D} (hm : ∀ j d, m[j]? = some d → l[i + j]? = some d) (hk : k + cs.length ≤ m.length) : splice l i (splice m k cs) = splice l (i + k) cs := by
  have em : m = (l.drop i).take m.length := by
    apply List.ext_getElem?
    intro j
    rw [List.getElem?_take]
    split
    · rename_i hj
      rw [List.getElem?_drop]
      have := hm j m[j] (List.getElem?_eq_getElem hj)
      rw [this, List.getElem?_eq_getElem hj]
    · rename_i hj
      exact List.getElem?_eq_none (by omega)
  have lm : (splice m k cs).length = m.length := splice_len hk
  unfold splice
  unfold splice at lm
  rw [lm]
  have e1 : l.take (i + k) = l.take i ++ m.take k := by
    rw [em, List.take_take, Nat.min_eq_left (by omega), List.take_add]
  have e2 : l.drop (i + k + cs.length) = m.drop (k + cs.length) ++ l.drop (i + m.length) := by
    have h1 : l.drop i = m ++ l.drop (i + m.length) := by
      conv => lhs; rw [← List.take_append_drop m.length (l.drop i)]
      rw [← em, List.drop_drop]
    rw [Nat.add_assoc, ← List.drop_drop, h1, List.drop_append_of_le_length (by omega)]
    try rw [List.drop_drop]
  rw [e1, e2]
  simp only [List.append_assoc]

/-- Cells written into a row. -/
theorem store_run {t : TypeId} {x y : Operand} {n : Nat} {u : AV} {cs l : List D} {ty B k : Nat} {cur : Array Value} (ho : o.op = .store t x y) (he : a.eval x = .pointer (some ⟨B, k, none⟩)) (hn : sizeD P t = some n) (hcs : cellsA u = some cs) (hu : AVRel σ u (a.eval y)) (hlen : cs.length = n) (hfit : k + n ≤ l.length)
    (h4 : w.heap[B]? = some (.cells cur ty (0, 0))) (h6 : cur.toList.take l.length = l.map D.val) :
    ∃ cur', (execOp a.eval o).run P w = .ok .skip (w.setRow B cur') ∧ cur'.size = cur.size ∧ cur'.toList.take (splice l k cs).length = (splice l k cs).map D.val ∧ (w.setRow B cur').heap[B]? = some (.cells cur' ty (0, 0)) := by
  obtain ⟨hcells, _⟩ := cellsA_rel hcs hu
  subst hlen
  have hll : l.length ≤ cur.size := by
    have := congrArg List.length h6
    simp at this
    omega
  have hst := run_storeCells_at (P := P) B k ty (cs.map D.val) 0 cur w h4 (by simp; omega) (by simp only [List.mem_map]; rintro v ⟨d, _, rfl⟩; exact oneCell_val d)
  simp only [Nat.add_zero, List.length_map] at hst
  refine ⟨(cur.toList.take k ++ cs.map D.val ++ cur.toList.drop (k + cs.length)).toArray, ?_, ?_, ?_, setRow_heap w B cur _ ty _ h4⟩
  · unfold execOp
    rw [ho]
    simp only [Instr.storeAt, Instr.sureAddr, he, storeVar, Sem.run_bind, sizeOf_run hn, Result.andThen_ok, Sem.run_pure, hcells]
    simp [hst]
  · simp only [List.size_toArray, List.length_append, List.length_take, List.length_drop, List.length_map, Array.length_toList]
    omega
  · rw [splice_len (by omega)]
    have e1 : cur.toList.take k = (l.take k).map D.val := by
      rw [List.map_take, ← h6, List.take_take, Nat.min_eq_left (by omega)]
    have e2 : (cur.toList.drop (k + cs.length)).take (l.length - (k + cs.length)) = (l.drop (k + cs.length)).map D.val := by
      rw [List.map_drop, ← h6, List.drop_take]
    rw [e1]
    simp only [splice, List.map_append, List.append_assoc]
    rw [List.take_append, List.take_of_length_le (by simp; omega)]
    congr 1
    rw [List.take_append, List.take_of_length_le (by simp; omega)]
    congr 1
    rw [← e2]
    congr 1
    simp
    omega

/-- A slice written into a cell. -/
theorem storeC_ok {t : TypeId} {x y : Operand} {b ty : Nat} {c c' : C} (ho : o.op = .store t x y) (hb : opdV T x = some (.v (.c (.ptr b 0)))) (hy : opdV T y = some (.v (.c c'))) (hm : mget M b = .cell ty c) (hn : sizeD P t = some 1) (h1c : ∀ v, CRel σ c' v → v.cells = #[v] ∧ v.oneCell' = true) (hT : TRel σ T a) (hM : MRel w0 W σ M w) (hN : σ N = none)
    (h : Goes w0 W σ M N a o.dst next undefA [(b, .cell ty c')]) : o.wp P a w next Q := by
  obtain ⟨L, hL, he⟩ := opdV_rel hT hb
  have hv : CRel σ c' (a.eval y) := opdV_rel hT hy
  obtain ⟨hcells, hone⟩ := h1c _ hv
  have hBb := hM.blk b
  rw [hm] at hBb
  obtain ⟨L', u, h1, h2, h3, h4, h5, h6⟩ := hBb
  rw [hL] at h1
  cases h1
  have hst := run_storeCells_at (P := P) L.blk 0 ty [a.eval y] 0 #[u] w h5 (by simp) (by simp [hone])
  have hrun : (execOp a.eval o).run P w = .ok .skip (w.setRow L.blk #[a.eval y]) := by
    unfold execOp
    rw [ho]
    simp only [Instr.storeAt, Instr.sureAddr, he, h2, Nat.zero_add, storeVar, Sem.run_bind, sizeOf_run hn, Result.andThen_ok, Sem.run_pure, hcells]
    simp at hst
    simp [hst]
  unfold Oper.wp
  rw [hrun]
  refine h σ _ _ (Sg.le_refl σ) (fun _ _ => rfl) (fun _ => hN) ⟨#[], rfl, trivial⟩ ?_
  refine hM.write (by rw [hm]; rfl) hL _ _ ⟨L, a.eval y, hL, h2, h3, h4, setRow_heap w L.blk #[u] _ ty _ h5, hv⟩ (fun k hk => setRow_other w L.blk k _ hk) (by simp) rfl rfl rfl

theorem store_ok {t : TypeId} {x y : Operand} {v : AV} {s : Sets} (ho : o.op = .store t x y) (hr : Reach P G gb (opR P G EQ (.store t x y) T M N) v s) (hT : TRel σ T a) (hM : MRel w0 W σ M w) (hN : σ N = none)
    (h : Goes w0 W σ M N a o.dst next v s) : o.wp P a w next Q := by
  simp only [opR] at hr
  split at hr
  · rename_i b k u hb hu
    split at hr
    · rename_i ty c hm
      split at hr
      · rename_i hn
        obtain ⟨rfl, rfl⟩ := hr
        exact storeC_ok ho hb hu hm hn (fun v hv => by have e : v = .slice none 0 0 := hv; subst e; exact ⟨rfl, rfl⟩) hT hM hN h
      · rename_i c' k' hn
        obtain ⟨rfl, rfl⟩ := hr
        refine storeC_ok ho hb hu hm hn (fun v hv => ?_) hT hM hN h
        obtain ⟨L, _, h2⟩ := hv
        cases k' with
        | none =>
          rcases h2 with ⟨_, rfl⟩ | ⟨cap, rfl, _⟩
          · exact ⟨rfl, rfl⟩
          · exact ⟨rfl, rfl⟩
        | some m =>
          obtain ⟨_, _, cap, rfl, _⟩ := h2
          exact ⟨rfl, rfl⟩
      · exact hr.elim
    · rename_i ty l hm
      split at hr
      · rename_i cs n hcs hn
        simp only [cond_eq_ite, Bool.and_eq_true, beq_iff_eq, Nat.ble_eq] at hr
        split at hr
        · rename_i hlen
          obtain ⟨rfl, rfl⟩ := hr
          obtain ⟨hlen, hfit⟩ := hlen
          obtain ⟨L, hL, he⟩ := opdV_rel hT hb
          have hBb := hM.blk b
          rw [hm] at hBb
          obtain ⟨L', cur, h1, h2, h3, h4, h5, hlok, h6⟩ := hBb
          rw [hL] at h1
          cases h1
          rw [h2, Nat.zero_add] at he
          obtain ⟨cur', hrun, hsz, htake, hat⟩ := store_run ho he hn hcs (opdV_rel hT hu) hlen hfit h4 h6
          unfold Oper.wp
          rw [hrun]
          refine h σ _ _ (Sg.le_refl σ) (fun _ _ => rfl) (fun _ => hN) ⟨#[], rfl, trivial⟩ ?_
          exact hM.store hm hL _ hat (by omega) htake (splice_ok hlok (cellsA_rel hcs (opdV_rel hT hu)).2) (fun k hk => setRow_other w L.blk k _ hk) (by simp) rfl rfl rfl
        · exact hr.elim
      · exact hr.elim
    · exact hr.elim
  · rename_i b i k u hb hu
    split at hr
    · rename_i ty τ xs hm
      split at hr
      · rename_i cs n hcs hn
        split at hr
        · rename_i y' hy'
          obtain ⟨rfl, rfl⟩ := hr
          simp only [cond_eq_ite, Bool.and_eq_true, beq_iff_eq, Nat.ble_eq] at hy'
          split at hy'
          · rename_i hlen
            obtain ⟨hlen, hfit⟩ := hlen
            obtain ⟨L, hL, he, hi⟩ := opdV_rel hT hb
            have hBb := hM.blk b
            rw [hm] at hBb
            obtain ⟨L', h1, h2, h3, hlok, h4, h5, h6⟩ := id hBb
            rw [hL] at h1
            cases h1
            rw [h2] at hi
            rw [h5, Nat.zero_add, h3] at he
            have hne : xs ≠ [] := fun e => by subst e; simp at hi
            rcases h6 with h6 | ⟨cur, h6, h7, h8⟩
            · exact absurd h6 hne
            have hcl : (τ.cells (xs.getD i τ.z)).length = τ.len := cells_len τ _
            have hfl : i * τ.len + τ.len ≤ (τ.flat xs).length := by
              rw [flat_len, ← Nat.succ_mul]
              exact Nat.mul_le_mul_right _ hi
            obtain ⟨cur', hrun, hsz, htake, hat⟩ := store_run (l := τ.flat xs) ho he hn hcs (opdV_rel hT hu) hlen (by omega) h6 h8
            have hsp : splice (τ.flat xs) (i * τ.len + k) cs = τ.flat (xs.set i y') := by
              rw [flat_set hi, of_cells hy']
              exact (splice_parts (fun j d hj => flat_get hi hj) (by rw [hcl, hlen]; exact hfit)).symm
            have hwr : (mget M b).wr = true := by
              rw [hm]
              cases xs with
              | nil => exact absurd rfl hne
              | cons _ _ => rfl
            unfold Oper.wp
            rw [hrun]
            refine h σ _ _ (Sg.le_refl σ) (fun _ _ => rfl) (fun _ => hN) ⟨#[], rfl, trivial⟩ ?_
            refine hM.write hwr hL _ _ ⟨L, hL, by rw [h2, List.length_set], h3, ?_, h4, h5, .inr ⟨cur', hat, by omega, ?_⟩⟩ (fun k hk => setRow_other w L.blk k _ hk) (by simp) rfl rfl rfl
            · rw [← hsp]
              exact splice_ok hlok (cellsA_rel hcs (opdV_rel hT hu)).2
            · rw [← hsp]
              exact htake
          · cases hy'
        · exact hr.elim
      · exact hr.elim
    · exact hr.elim
  · exact hr.elim

theorem nilCheck_ok {x : Operand} {v : AV} {s : Sets} (ho : o.op = .nilCheck x) (hr : Reach P G gb (opR P G EQ (.nilCheck x) T M N) v s) (hT : TRel σ T a) (hM : MRel w0 W σ M w) (hN : σ N = none)
    (h : Goes w0 W σ M N a o.dst next v s) : o.wp P a w next Q := by
  simp only [opR] at hr
  split at hr
  · rename_i b k hb
    obtain ⟨rfl, rfl⟩ := hr
    have hv := opdV_rel hT hb
    obtain ⟨L, hL, he⟩ := id hv
    refine h.value hM hN (v' := a.eval x) ?_ hv
    unfold execOp
    rw [ho]
    simp only [he]
    rfl
  · rename_i b i k hb
    obtain ⟨rfl, rfl⟩ := hr
    have hv := opdV_rel hT hb
    obtain ⟨L, hL, he, _⟩ := id hv
    refine h.value hM hN (v' := a.eval x) ?_ hv
    unfold execOp
    rw [ho]
    simp only [he]
    rfl
  · rename_i f l hb
    obtain ⟨rfl, rfl⟩ := hr
    have hv := opdV_rel hT hb
    obtain ⟨vs, he, _⟩ := id hv
    refine h.value hM hN (v' := a.eval x) ?_ hv
    unfold execOp
    rw [ho]
    simp only [he]
    rfl
  · exact hr.elim

theorem unOp_ok {op : UnOp} {t : TypeId} {x : Operand} {v : AV} {s : Sets} (ho : o.op = .unOp op t x) (hr : Reach P G gb (opR P G EQ (.unOp op t x) T M N) v s) (hT : TRel σ T a) (hM : MRel w0 W σ M w) (hN : σ N = none)
    (h : Goes w0 W σ M N a o.dst next v s) : o.wp P a w next Q := by
  simp only [opR] at hr
  split at hr
  · rename_i k n hx
    obtain ⟨rfl, rfl⟩ := hr
    have he : a.eval x = .int k n := (opdV_rel hT hx).1
    refine h.value hM hN (v' := .int k (wr k (0 - n))) ?_ ⟨rfl, wr_ok _ _⟩
    unfold execOp
    rw [ho]
    simp [Op.unary, he, Op.intArith, wr_eq]
  · rename_i b hx
    obtain ⟨rfl, rfl⟩ := hr
    have he : a.eval x = .bool b := (opdV_rel hT hx).1
    refine h.value hM hN (v' := .bool (!b)) ?_ ⟨rfl, trivial⟩
    unfold execOp
    rw [ho]
    simp [Op.unary, he]
  · exact hr.elim

theorem convert_ok {t u : TypeId} {x : Operand} {v : AV} {s : Sets} (ho : o.op = .convert t u x) (hr : Reach P G gb (opR P G EQ (.convert t u x) T M N) v s) (hT : TRel σ T a) (hM : MRel w0 W σ M w) (hN : σ N = none)
    (h : Goes w0 W σ M N a o.dst next v s) : o.wp P a w next Q := by
  simp only [opR] at hr
  split at hr
  · rename_i d k k' n h1 h2 hx
    obtain ⟨rfl, rfl⟩ := hr
    have he : a.eval x = .int k' n := (opdV_rel hT hx).1
    refine h.value hM hN (v' := .int k (wr k n)) ?_ ⟨rfl, wr_ok _ _⟩
    unfold execOp
    rw [ho]
    simp [convert, he, underlying_run h1, underlying_run h2, Conv.intToInt, wr_eq]
  · exact hr.elim

theorem extract_ok {x : Operand} {i : Nat} {v : AV} {s : Sets} (ho : o.op = .extract x i) (hr : Reach P G gb (opR P G EQ (.extract x i) T M N) v s) (hT : TRel σ T a) (hM : MRel w0 W σ M w) (hN : σ N = none)
    (h : Goes w0 W σ M N a o.dst next v s) : o.wp P a w next Q := by
  have get : ∀ (l : List V) (vs : List Value) (i : Nat) (u : V), VRels σ l vs → l[i]? = some u → ∃ v', vs[i]? = some v' ∧ VRel σ u v' := by
    intro l
    induction l with
    | nil => intro vs i u _ h; simp at h
    | cons x r ih =>
      intro vs i u hv hu
      cases vs with
      | nil => exact hv.elim
      | cons y s =>
        cases i with
        | zero => simp at hu; subst hu; exact ⟨y, rfl, hv.1⟩
        | succ i => exact ih s i u hv.2 (by simpa using hu)
  simp only [opR] at hr
  split at hr
  · rename_i l hx
    split at hr
    · rename_i u hu
      obtain ⟨rfl, rfl⟩ := hr
      obtain ⟨vs, he, hvs⟩ := opdV_rel hT hx
      obtain ⟨v', h1, h2⟩ := get l vs.toList i u hvs hu
      refine h.value hM hN (v' := v') ?_ h2
      unfold execOp
      rw [ho]
      have h1' : vs[i]? = some v' := by rw [← Array.getElem?_toList]; exact h1
      simp [he, Instr.extract, h1']
    · exact hr.elim
  · exact hr.elim

theorem fieldAddr_ok {t : TypeId} {x : Operand} {f : Nat} {v : AV} {s : Sets} (ho : o.op = .fieldAddr t x f) (hr : Reach P G gb (opR P G EQ (.fieldAddr t x f) T M N) v s) (hT : TRel σ T a) (hM : MRel w0 W σ M w) (hN : σ N = none)
    (h : Goes w0 W σ M N a o.dst next v s) : o.wp P a w next Q := by
  simp only [opR] at hr
  split at hr
  · rename_i fs b k h1 hx
    split at hr
    · rename_i fd hf
      split at hr
      · rename_i n hn
        obtain ⟨rfl, rfl⟩ := hr
        obtain ⟨L, hL, he⟩ := opdV_rel hT hx
        refine h.value hM hN (v' := .pointer (some ⟨L.blk, L.off + (k + fd.offset), none⟩)) ?_ ⟨L, hL, rfl⟩
        unfold execOp
        rw [ho]
        simp [Instr.fieldAt, underlying_run h1, hf, he, Instr.sureAddr, fieldPlace, sizeOf_run hn, add_mk, Nat.add_assoc]
      · exact hr.elim
    · exact hr.elim
  · rename_i fs b i k h1 hx
    split at hr
    · rename_i fd hf
      split at hr
      · rename_i n hn
        obtain ⟨rfl, rfl⟩ := hr
        obtain ⟨L, hL, he, hi⟩ := opdV_rel hT hx
        refine h.value hM hN (v' := .pointer (some ⟨L.blk, L.off + (i * L.es + (k + fd.offset)), none⟩)) ?_ ⟨L, hL, rfl, hi⟩
        unfold execOp
        rw [ho]
        simp [Instr.fieldAt, underlying_run h1, hf, he, Instr.sureAddr, fieldPlace, sizeOf_run hn, add_mk, Nat.add_assoc]
      · exact hr.elim
    · exact hr.elim
  · exact hr.elim

end
end Go.Ev
