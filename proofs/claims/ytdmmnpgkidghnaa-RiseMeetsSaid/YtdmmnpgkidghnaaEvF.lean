/-
  The evaluator's operations are sound, one by one: operators, len, max, min, append.
-/
import Derived.Test.YtdmmnpgkidghnaaEvE
namespace Go.Ev
open Go

section
variable {P : Program} {G : Nat → Option (List D)} {gb : Nat} {EQ : Tab} {w0 : World} {W : Nat → Prop} {σ : Sg} {a : Act} {w : World} {T : TS} {M : List Blk} {N : Nat} {o : Oper}
  {next : Act → World → Prop} {Q : Exit → Act → World → Prop}

theorem tmod_ok {k : IntKind} {x y : Int} (hx : inR k x = true) (hy : inR k y = true) : inR k (x.tmod y) = true := by
  have key : (0 ≤ x → 0 ≤ x.tmod y ∧ x.tmod y ≤ x) ∧ (x ≤ 0 → x ≤ x.tmod y ∧ x.tmod y ≤ 0) := by
    constructor
    · intro h
      exact ⟨Int.tmod_nonneg y h, by
        have h1 := Int.tmod_nonneg y h
        rcases Int.le_total 0 y with h2 | h2
        · rw [Int.tmod_eq_emod_of_nonneg h]
          by_cases e : y = 0
          · subst e; simp
          · have := Int.emod_nonneg x e
            have h3 := Int.mul_ediv_add_emod x y
            have h4 : 0 ≤ y * (x / y) := Int.mul_nonneg h2 (Int.ediv_nonneg h h2)
            omega
        · rw [Int.tmod_eq_emod_of_nonneg h]
          by_cases e : y = 0
          · subst e; simp
          · have h3 := Int.mul_ediv_add_emod x y
            have h4 : 0 ≤ y * (x / y) := by
              have h5 : x / y ≤ 0 := by
                have := Int.ediv_nonneg h (show 0 ≤ -y by omega)
                rw [Int.ediv_neg] at this
                omega
              have := Int.mul_nonneg (show 0 ≤ -y by omega) (show 0 ≤ -(x / y) by omega)
              rw [Int.neg_mul_neg] at this
              exact this
            omega⟩
    · intro h
      have hn : 0 ≤ -x := by omega
      have e : x.tmod y = -((-x).tmod y) := by rw [Int.neg_tmod, Int.neg_neg]
      have h1 := Int.tmod_nonneg y hn
      have h2 : (-x).tmod y ≤ -x := by
        rw [Int.tmod_eq_emod_of_nonneg hn]
        by_cases e : y = 0
        · subst e; simp
        · have h3 := Int.mul_ediv_add_emod (-x) y
          rcases Int.le_total 0 y with h2 | h2
          · have h4 : 0 ≤ y * (-x / y) := Int.mul_nonneg h2 (Int.ediv_nonneg hn h2)
            omega
          · have h4 : 0 ≤ y * (-x / y) := by
              have h5 : -x / y ≤ 0 := by
                have := Int.ediv_nonneg hn (show 0 ≤ -y by omega)
                rw [Int.ediv_neg] at this
                omega
              have := Int.mul_nonneg (show 0 ≤ -y by omega) (show 0 ≤ -(-x / y) by omega)
              rw [Int.neg_mul_neg] at this
              exact this
            omega
      omega
  cases k <;> simp only [inR, Bool.and_eq_true, decide_eq_true_eq] at hx hy ⊢ <;> (rcases Int.le_total 0 x with h | h; have := key.1 h; omega; have := key.2 h; omega)

theorem fdiv_ok {k : IntKind} {x : Int} (hx : inR k x = true) (n : Nat) : inR k (x.fdiv (2 ^ n)) = true := by
  have hp : (0 : Int) < 2 ^ n := Int.pow_pos (by omega)
  rw [Int.fdiv_eq_ediv_of_nonneg x (Int.le_of_lt hp)]
  have h1 := Int.mul_ediv_add_emod x (2 ^ n)
  have h2 := Int.emod_nonneg x (show (2 : Int) ^ n ≠ 0 by omega)
  have h3 := Int.emod_lt_of_pos x hp
  generalize (2 : Int) ^ n = p at *
  generalize x / p = q at *
  generalize x % p = r at *
  have key : (0 ≤ x → 0 ≤ q ∧ q ≤ x) ∧ (x < 0 → x ≤ q ∧ q < 0) := by
    constructor
    · intro h
      have hq : 0 ≤ q := by
        rcases Int.lt_or_le q 0 with h4 | h4
        · have := Int.mul_le_mul_of_nonneg_left (show q ≤ -1 by omega) (Int.le_of_lt hp)
          omega
        · exact h4
      have := Int.mul_le_mul_of_nonneg_right (show 1 ≤ p by omega) hq
      omega
    · intro h
      have hq : q < 0 := by
        rcases Int.lt_or_le q 0 with h4 | h4
        · exact h4
        · have := Int.mul_nonneg (Int.le_of_lt hp) h4
          omega
      have h5 := Int.mul_le_mul_of_nonneg_left (show q + 1 ≤ 0 by omega) (show 0 ≤ p - 1 by omega)
      have h6 : (p - 1) * (q + 1) = p * q + p - q - 1 := by rw [Int.sub_mul, Int.mul_add, Int.mul_one, Int.one_mul]; omega
      omega
  cases k <;> simp only [inR, Bool.and_eq_true, decide_eq_true_eq] at hx ⊢ <;> (rcases Int.lt_or_le x 0 with h | h; have := key.2 h; omega; have := key.1 h; omega)

theorem intBin_run {op : BinOp} {k : IntKind} {x y : Int} {v : AV} {s : Sets} (t : TypeId) (p q : Operand) (h1 : op ≠ .shl) (h2 : op ≠ .shr) (hx : inR k x = true) (hy : inR k y = true) (hr : Reach P G gb (intBin op k x y) v s) :
    s = [] ∧ ∃ d : D, v = .v (.c (.d d)) ∧ d.ok ∧ (do eqGuard op t p q (.int k x) (.int k y); binOp op t (.int k x) (.int k y) : Sem Value).run P w = .ok d.val w := by
  have hg : (eqGuard op t p q (.int k x) (.int k y)).run P w = .ok () w := by
    unfold eqGuard
    cases op <;> rfl
  simp only [Sem.run_bind, hg, Result.andThen_ok]
  cases op <;> simp only [intBin] at hr <;> try exact hr.elim
  case add => obtain ⟨rfl, rfl⟩ := hr; exact ⟨rfl, _, rfl, wr_ok _ _, by simp [binOp, Op.intArith, wr_eq, D.val]⟩
  case sub => obtain ⟨rfl, rfl⟩ := hr; exact ⟨rfl, _, rfl, wr_ok _ _, by simp [binOp, Op.intArith, wr_eq, D.val]⟩
  case mul => obtain ⟨rfl, rfl⟩ := hr; exact ⟨rfl, _, rfl, wr_ok _ _, by simp [binOp, Op.intArith, wr_eq, D.val]⟩
  case quo =>
    rcases hr with ⟨_, hf⟩ | ⟨hb, rfl, rfl⟩
    · exact hf.elim
    · have : ¬ y = 0 := by simpa using hb
      exact ⟨rfl, _, rfl, wr_ok _ _, by simp [binOp, Op.intDiv, wr_eq, this, D.val]⟩
  case rem =>
    rcases hr with ⟨_, hf⟩ | ⟨hb, rfl, rfl⟩
    · exact hf.elim
    · have : ¬ y = 0 := by simpa using hb
      exact ⟨rfl, _, rfl, tmod_ok hx hy, by simp [binOp, Op.intDiv, this, D.val]⟩
  case eql => obtain ⟨rfl, rfl⟩ := hr; exact ⟨rfl, _, rfl, trivial, by simp [binOp, Op.intCmp, D.val]⟩
  case neq => obtain ⟨rfl, rfl⟩ := hr; exact ⟨rfl, _, rfl, trivial, by simp [binOp, Op.intCmp, D.val]⟩
  case lss => obtain ⟨rfl, rfl⟩ := hr; exact ⟨rfl, _, rfl, trivial, by simp [binOp, Op.intCmp, D.val]⟩
  case leq => obtain ⟨rfl, rfl⟩ := hr; exact ⟨rfl, _, rfl, trivial, by simp [binOp, Op.intCmp, D.val]⟩
  case gtr => obtain ⟨rfl, rfl⟩ := hr; exact ⟨rfl, _, rfl, trivial, by simp [binOp, Op.intCmp, D.val]⟩
  case geq => obtain ⟨rfl, rfl⟩ := hr; exact ⟨rfl, _, rfl, trivial, by simp [binOp, Op.intCmp, D.val]⟩
  case and => obtain ⟨rfl, rfl⟩ := hr; exact ⟨rfl, _, rfl, wr_ok _ _, by simp only [binOp, Op.intBits, D.val, wr_eq]; simp⟩
  case or => obtain ⟨rfl, rfl⟩ := hr; exact ⟨rfl, _, rfl, wr_ok _ _, by simp only [binOp, Op.intBits, D.val, wr_eq]; simp⟩

theorem shiftBin_run {op : BinOp} {k k' : IntKind} {x y : Int} {v : AV} {s : Sets} (t : TypeId) (p q : Operand) (hop : op = .shl ∨ op = .shr) (hx : inR k x = true) (hr : Reach P G gb (shiftBin op k x y) v s) :
    s = [] ∧ ∃ d : D, v = .v (.c (.d d)) ∧ d.ok ∧ (do eqGuard op t p q (.int k x) (.int k' y); binOp op t (.int k x) (.int k' y) : Sem Value).run P w = .ok d.val w := by
  rcases hop with rfl | rfl
  · simp only [shiftBin] at hr
    rcases hr with ⟨_, hf⟩ | ⟨hb, rfl, rfl⟩
    · exact hf.elim
    · have : ¬ y < 0 := by simpa using hb
      exact ⟨rfl, _, rfl, wr_ok _ _, by simp [eqGuard, binOp, Op.shift, wr_eq, this, D.val]⟩
  · simp only [shiftBin] at hr
    rcases hr with ⟨_, hf⟩ | ⟨hb, rfl, rfl⟩
    · exact hf.elim
    · have : ¬ y < 0 := by simpa using hb
      exact ⟨rfl, _, rfl, fdiv_ok hx _, by simp [eqGuard, binOp, Op.shift, this, D.val]⟩

theorem bool_eq_run {t : TypeId} (hu : P.underlying t = some .bool) (x y : Bool) (p q : Operand) :
    (do eqGuard .eql t p q (.bool x) (.bool y); binOp .eql t (.bool x) (.bool y) : Sem Value).run P w = .ok (.bool (x == y)) w ∧
    (do eqGuard .neq t p q (.bool x) (.bool y); binOp .neq t (.bool x) (.bool y) : Sem Value).run P w = .ok (.bool (!(x == y))) w := by
  have h1 : (Op.equal t (.bool x) (.bool y)).run P w = .ok (x == y) w := by
    unfold Op.equal
    rw [show Op.maxDepth = 9999 + 1 from rfl]
    unfold Op.equalIn
    simp only [Sem.run_bind, underlying_run hu, Result.andThen_ok, Sem.run_pure]
  constructor
  · simp [eqGuard, binOp, h1]
  · simp [eqGuard, binOp, h1]

theorem str_eq_run {t : TypeId} (x y : ByteArray) (p q : Operand) :
    (do eqGuard .eql t p q (.string x) (.string y); binOp .eql t (.string x) (.string y) : Sem Value).run P w = .ok (.bool (x.data.toList == y.data.toList)) w ∧
    (do eqGuard .neq t p q (.string x) (.string y); binOp .neq t (.string x) (.string y) : Sem Value).run P w = .ok (.bool (!(x.data.toList == y.data.toList))) w := by
  rw [← ByteArray.toList_eq, ← ByteArray.toList_eq]
  exact ⟨rfl, rfl⟩

theorem binOp_ok {op : BinOp} {t u : TypeId} {x y : Operand} {v : AV} {s : Sets} (hEQ : ∀ t, t ∈ EQ.eq → EqOK P t) (ho : o.op = .binOp op t x y u) (hr : Reach P G gb (opR P G EQ (.binOp op t x y u) T M N) v s) (hT : TRel σ T a) (hM : MRel w0 W σ M w) (hN : σ N = none)
    (h : Goes w0 W σ M N a o.dst next v s) : o.wp P a w next Q := by
  have fin : ∀ (d : D), d.ok → s = [] → v = .v (.c (.d d)) → (do eqGuard op t x y (a.eval x) (a.eval y); binOp op t (a.eval x) (a.eval y) : Sem Value).run P w = .ok d.val w → o.wp P a w next Q := by
    intro d hok hs hv hrun
    subst hs
    subst hv
    refine h.value hM hN (v' := d.val) ?_ ⟨rfl, hok⟩
    unfold execOp
    rw [ho]
    simp only [Sem.run_bind] at hrun ⊢
    rw [hrun]
    rfl
  simp only [opR] at hr
  split at hr
  · rename_i vx vy hx hy
    have rx := opdV_rel hT hx
    have ry := opdV_rel hT hy
    unfold evBin at hr
    split at hr
    · rename_i k n k' n'
      obtain ⟨ex, ox⟩ := rx
      obtain ⟨ey, oy⟩ := ry
      split at hr
      · obtain ⟨hs, d, hv, hok, hrun⟩ := shiftBin_run (w := w) (k' := k') t x y (.inl rfl) ox hr
        exact fin d hok hs hv (by rw [ex, ey]; exact hrun)
      · obtain ⟨hs, d, hv, hok, hrun⟩ := shiftBin_run (w := w) (k' := k') t x y (.inr rfl) ox hr
        exact fin d hok hs hv (by rw [ex, ey]; exact hrun)
      · rename_i h1 h2
        simp only [cond_eq_ite, decide_eq_true_eq] at hr
        split at hr
        · rename_i hk
          subst hk
          obtain ⟨hs, d, hv, hok, hrun⟩ := intBin_run (w := w) t x y (fun e => h1 e) (fun e => h2 e) ox oy hr
          exact fin d hok hs hv (by rw [ex, ey]; exact hrun)
        · exact hr.elim
    · rename_i p q
      obtain ⟨ex, _⟩ := rx
      obtain ⟨ey, _⟩ := ry
      change a.eval x = .bool p at ex
      change a.eval y = .bool q at ey
      split at hr
      · rename_i hu
        obtain ⟨rfl, rfl⟩ := hr
        exact fin (.bool (p == q)) trivial rfl rfl (by rw [ex, ey]; exact (bool_eq_run hu p q x y).1)
      · rename_i hu
        obtain ⟨rfl, rfl⟩ := hr
        exact fin (.bool (!(p == q))) trivial rfl rfl (by rw [ex, ey]; exact (bool_eq_run hu p q x y).2)
      · exact hr.elim
    · rename_i p q
      obtain ⟨ex, _⟩ := rx
      obtain ⟨ey, _⟩ := ry
      change a.eval x = .string p at ex
      change a.eval y = .string q at ey
      split at hr
      · obtain ⟨rfl, rfl⟩ := hr
        exact fin (.bool (p.data.toList == q.data.toList)) trivial rfl rfl (by rw [ex, ey]; exact (str_eq_run p q x y).1)
      · obtain ⟨rfl, rfl⟩ := hr
        exact fin (.bool (!(p.data.toList == q.data.toList))) trivial rfl rfl (by rw [ex, ey]; exact (str_eq_run p q x y).2)
      · exact hr.elim
    · rename_i p q
      obtain ⟨ex, _⟩ := rx
      obtain ⟨ey, _⟩ := ry
      split at hr
      · rename_i z hz
        simp only [cond_eq_ite, Bool.and_eq_true] at hr
        split at hr
        · rename_i hc
          obtain ⟨ht, h1, h2⟩ := hc
          have ht' : t ∈ EQ.eq := by simpa using ht
          obtain ⟨e1, e2⟩ := hEQ t ht' z p q x y w hz h1 h2
          split at hr
          · obtain ⟨rfl, rfl⟩ := hr
            exact fin (.bool (eqAll p q)) trivial rfl rfl (by rw [ex, ey]; exact e1)
          · obtain ⟨rfl, rfl⟩ := hr
            exact fin (.bool (!(eqAll p q))) trivial rfl rfl (by rw [ex, ey]; exact e2)
          · exact hr.elim
        · exact hr.elim
      · exact hr.elim
    · exact hr.elim
  · exact hr.elim

theorem maxL_run {k : IntKind} : ∀ {r : List AV} {vs : List Value} {x y : Int}, AVRels σ r vs → inR k x = true → maxL k x r = some y → (vs.foldlM Builtin.max2 (.int k x)).run P w = .ok (.int k y) w ∧ inR k y = true
  | [], [], x, y, _, hx, h => by simp only [maxL, Option.some.injEq] at h; subst h; exact ⟨rfl, hx⟩
  | p :: r, u :: vs, x, y, ⟨h1, h2⟩, hx, h => by
    unfold maxL at h
    split at h
    · cases ‹_ = []›
    · rename_i k' z r' heq
      cases heq
      obtain ⟨e, oz⟩ := h1
      change u = .int k' z at e
      subst e
      simp only [cond_eq_ite, decide_eq_true_eq] at h
      split at h
      · rename_i ek
        subst ek
        simp only [List.foldlM_cons, Builtin.max2, Sem.run_bind, Sem.run_pure, Result.andThen_ok]
        exact maxL_run h2 (by split; exact oz; exact hx) h
      · cases h
    · cases h
  | [], _ :: _, _, _, hh, _, _ => hh.elim
  | _ :: _, [], _, _, hh, _, _ => hh.elim

theorem minL_run {k : IntKind} : ∀ {r : List AV} {vs : List Value} {x y : Int}, AVRels σ r vs → inR k x = true → minL k x r = some y → (vs.foldlM Builtin.min2 (.int k x)).run P w = .ok (.int k y) w ∧ inR k y = true
  | [], [], x, y, _, hx, h => by simp only [minL, Option.some.injEq] at h; subst h; exact ⟨rfl, hx⟩
  | p :: r, u :: vs, x, y, ⟨h1, h2⟩, hx, h => by
    unfold minL at h
    split at h
    · cases ‹_ = []›
    · rename_i k' z r' heq
      cases heq
      obtain ⟨e, oz⟩ := h1
      change u = .int k' z at e
      subst e
      simp only [cond_eq_ite, decide_eq_true_eq] at h
      split at h
      · rename_i ek
        subst ek
        simp only [List.foldlM_cons, Builtin.min2, Sem.run_bind, Sem.run_pure, Result.andThen_ok]
        exact minL_run h2 (by split; exact oz; exact hx) h
      · cases h
    · cases h
  | [], _ :: _, _, _, hh, _, _ => hh.elim
  | _ :: _, [], _, _, hh, _, _ => hh.elim

/-- What is appended: a slice that is read. -/
theorem srcD_rel {sz : Nat} {x : AV} {v : Value} {q : Nat × List D} (hM : MRel w0 W σ M w) (hv : AVRel σ x v) (h : srcD M sz x = some q) :
    q.2.length = q.1 * sz ∧ (∀ d ∈ q.2, d.ok) ∧ ((v = .slice none 0 0 ∧ q.1 = 0) ∨ ∃ ad c, v = .slice (some ad) q.1 c ∧ ∀ j d, q.2[j]? = some d → w.cell? (ad.add j) = some d.val) := by
  unfold srcD at h
  split at h
  · rename_i b k n es
    split at h
    · rename_i l hl
      simp only [cond_eq_ite, Bool.and_eq_true, beq_iff_eq] at h
      split at h
      · rename_i hc
        obtain ⟨rfl, hlen⟩ := hc
        cases h
        obtain ⟨L, cap, hL, he, _⟩ := hv
        obtain ⟨L', hL', hok, hc⟩ := (hM.blk b).cell hl
        rw [hL] at hL'
        cases hL'
        refine ⟨hlen, fun d hd => hok d (List.mem_of_mem_drop (List.mem_of_mem_take hd)), .inr ⟨_, cap, he, fun j d hj => ?_⟩⟩
        rw [add_mk, Nat.add_assoc]
        exact hc _ d (take_drop_get hj)
      · cases h
    · cases h
  · cases h
    exact ⟨by simp, by simp, .inl ⟨hv, rfl⟩⟩
  · cases h

theorem append_zero {t e : TypeId} {i : TypeInfo} (ht : P.underlying t = some (.slice e)) (hi : P.info? e = some i) (ty : TypeId) (b : Option Addr) (n cap : Nat) (hn : n ≤ cap) (x : Value) (hx : x = .slice none 0 0 ∨ ∃ ad c, x = .slice (some ad) 0 c) :
    (Builtin.append_ #[t, t] ty #[.slice b n cap, x]).run P w = .ok (.slice b n cap) w := by
  rcases hx with rfl | ⟨ad, c, rfl⟩
  · cases b <;> simp [Builtin.append_, underlying_run ht, sizeOf, typeInfo_run hi, Builtin.lenOf, Builtin.firstCells, hn, storeCells]
  · cases b <;> simp [Builtin.append_, underlying_run ht, sizeOf, typeInfo_run hi, Builtin.lenOf, Builtin.firstCells, hn, storeCells, loadCells, loadCellsFrom]

theorem append_ok {t : TypeId} {sx xx : Operand} {sv xv : AV} {v : AV} {s : Sets} (ho : o.op = .call { callee := .builtin .append, args := #[sx, xx], argTypes := #[t, t] })
    (hs : AVRel σ sv (a.eval sx)) (hx : AVRel σ xv (a.eval xx)) (hr : Reach P G gb (evAppend P t sv xv M N) v s) (hM : MRel w0 W σ M w) (hN : σ N = none)
    (h : Goes w0 W σ M N a o.dst next v s) : o.wp P a w next Q := by
  unfold evAppend at hr
  split at hr
  · rename_i e ht
    split at hr
    · exact hr.elim
    · rename_i i hi
      split at hr
      · rename_i src base z hsrc hbase hz
        obtain ⟨zv, _, ⟨hzc, _⟩, i', hi', hz'⟩ := zero_run (w := w) hz
        rw [hi] at hi'
        cases hi'
        obtain ⟨hsl, hso, hsv⟩ := srcD_rel hM hx hsrc
        have hexec : ∀ (v' : Value) (w' : World), (Builtin.append_ #[t, t] o.type #[a.eval sx, a.eval xx]).run P w = .ok v' w' → (execOp a.eval o).run P w = .ok (.value v') w' := by
          intro v' w' hrun
          unfold execOp
          simp only [ho, resolve, invoke, builtin, Sem.run_bind, Sem.run_pure, Result.andThen_ok, List.map_toArray, List.map_cons, List.map_nil, hrun]
        rcases hr with ⟨h0, rfl, rfl⟩ | ⟨h0, hr⟩
        · -- nothing is appended
          have h0' : src.1 = 0 := by simpa using h0
          rw [h0'] at hsv
          have hx0 : a.eval xx = .slice none 0 0 ∨ ∃ ad c, a.eval xx = .slice (some ad) 0 c := by
            rcases hsv with ⟨h1, _⟩ | ⟨ad, c, h1, _⟩
            · exact .inl h1
            · exact .inr ⟨ad, c, h1⟩
          have hcases : ∃ b n cap, a.eval sx = .slice b n cap ∧ n ≤ cap := by
            unfold baseD at hbase
            split at hbase
            · exact ⟨none, 0, 0, hs, Nat.le_refl _⟩
            · obtain ⟨L, cap, _, he, hc, _⟩ := hs
              exact ⟨_, _, cap, he, hc⟩
            · cases hbase
          obtain ⟨b, n, cap, he, hc⟩ := hcases
          have hrun := append_zero (P := P) (w := w) ht hi o.type b n cap hc _ hx0
          rw [← he] at hrun
          exact h.value hM hN (hexec _ _ hrun) hs
        · have h0' : 0 < src.1 := Nat.pos_of_ne_zero (by simpa using h0)
          rcases hr with ⟨hc, rfl, rfl⟩ | ⟨_, hf⟩
          · simp only [Bool.and_eq_true, beq_iff_eq, Nat.ble_eq, Nat.blt_eq] at hc
            obtain ⟨hsz, hzl, hroom, hby⟩ := hc
            rcases hsv with ⟨_, h1⟩ | ⟨ad, c, hxe, hcell⟩
            · omega
            have hnews : ∀ j u, (src.2.map D.val)[j]? = some u → w.cell? (ad.add j) = some u := by
              intro j u hj
              rw [List.getElem?_map] at hj
              cases hd : src.2[j]? with
              | none => rw [hd] at hj; cases hj
              | some d => rw [hd] at hj; cases hj; exact hcell j d hd
            have h1c : ∀ u ∈ src.2.map D.val, u.oneCell' = true := by
              simp only [List.mem_map]
              rintro u ⟨d, _, rfl⟩
              exact oneCell_val d
            have hbytes : (base.1 + src.1) * i.bytes ≤ 140737488355328 := by
              have := Nat.mul_le_mul hroom hby
              simp only [roomD] at this
              omega
            have hml : base.1 + src.1 ≤ maxLen := by simp only [maxLen, roomD] at *; omega
            have hzcs : zv.cells.size = i.size := by rw [hzc]; simp [hzl]
            -- a new row, grown
            have grown : ∀ (old : Nat) (olds : List D), (∀ d ∈ olds, d.ok) → olds.length = base.1 * i.size → base.2.1 = olds →
                ∀ ss, ss = base.2.2 → (∀ p ∈ ss, p.1 ≠ N ∧ p.2 = .dead) →
                (Builtin.append_ #[t, t] o.type #[a.eval sx, a.eval xx]).run P w = .ok (.slice (some ⟨w.heap.size, 0, none⟩) (base.1 + src.1) (grownCap w (base.1 + src.1) old e))
                  (w.drew.alloc (.cells ((olds.map D.val).toArray ++ (src.2.map D.val).toArray ++ Builtin.zeroCells zv.cells (grownCap w (base.1 + src.1) old e - (base.1 + src.1))) e)) → o.wp P a w next Q := by
              intro old olds hoo hol hb1 ss hss hdead hrun
              have hge := grownCap_ge w (base.1 + src.1) old e
              have hcm : grownCap w (base.1 + src.1) old e ≤ maxLen := grownCap_le_maxLen w (base.1 + src.1) old e hml
              generalize grownCap w (base.1 + src.1) old e = cap at *
              generalize hcur : ((olds.map D.val).toArray ++ (src.2.map D.val).toArray ++ Builtin.zeroCells zv.cells (cap - (base.1 + src.1))) = cur at *
              have hcs : cur.size = cap * i.size := by
                rw [← hcur]
                simp only [Array.size_append, List.size_toArray, List.length_map, size_zeroCells, hzcs, hol, hsl, ← Nat.add_mul]
                congr 1
                omega
              have htake : cur.toList.take (olds ++ src.2).length = (olds ++ src.2).map D.val := by
                rw [← hcur]
                simp only [Array.toList_append, List.map_append]
                rw [List.take_append_of_le_length (by simp)]
                exact List.take_of_length_le (by simp)
              unfold Oper.wp
              rw [hexec _ _ hrun]
              have hM' : MRel w0 W σ (puts M ss) w := hM.congr (fun b => by
                rw [mget_puts]
                clear hss
                induction ss with
                | nil => exact .inl rfl
                | cons p r ih =>
                  have ih' := ih (fun q hq => hdead q (by simp [hq]))
                  simp only [lastSet]
                  cases hls : lastSet r b with
                  | some y => rw [hls] at ih'; exact ih'
                  | none =>
                    by_cases hpb : p.1 = b
                    · simp only [hpb, if_true, Option.getD_some]; exact .inr (hdead p (by simp)).2
                    · simp [hpb])
              have hapok : ∀ d ∈ olds ++ src.2, d.ok := by simp only [List.mem_append]; rintro d (hd | hd); exact hoo d hd; exact hso d hd
              have hall := hM'.alloc hN e (olds ++ src.2) cur htake hapok (w.drew.alloc (.cells cur e)) rfl rfl rfl rfl
              refine h (sgSet σ N ⟨w.heap.size, 0, cur.size, true, 0, 0⟩) _ _ (sgSet_le hN) (fun b hb => sgSet_ne _ _ _ _ hb) (fun hp => absurd rfl (hp (N, .rw e (base.2.1 ++ src.2)) (by simp))) ⟨_, cap, sgSet_self _ _ _, rfl, hge, hml, fun _ _ => ⟨by rw [hcs]; exact Nat.le_refl _, hcm⟩⟩ ?_
              rw [hb1, ← hss]
              rw [puts_append]
              exact hall
            unfold baseD at hbase
            split at hbase
            · cases hbase
              have he : a.eval sx = .slice none 0 0 := hs
              have hr := run_append_nil (P := P) w t o.type e i zv ht hi hz' ad src.1 c (src.2.map D.val) (by simpa using hsl) hnews h0' (by simp only [maxLen, Nat.zero_add] at hml; omega) (by simp only [Nat.zero_add] at hbytes; omega)
              refine grown 0 [] (by simp) (by simp) rfl [] rfl (by simp) ?_
              rw [he, hxe]
              simpa using hr
            · rename_i b k n es
              split at hbase
              · rename_i ty l hm
                simp only [cond_eq_ite, Bool.and_eq_true, beq_iff_eq] at hbase
                split at hbase
                · rename_i hcc
                  obtain ⟨rfl, rfl, rfl, hll⟩ := hcc
                  cases hbase
                  simp only at *
                  obtain ⟨L, cap, hL, he, hnc, _, hown⟩ := hs
                  have hBb := hM.blk b
                  rw [hm] at hBb
                  obtain ⟨L', cur, h1, h2, h3, h4, h5, hlok, h6⟩ := id hBb
                  rw [hL] at h1
                  cases h1
                  obtain ⟨hcap, hcm⟩ := hown h3 rfl
                  rw [h2] at he
                  by_cases hfits : n + src.1 ≤ cap
                  · have hfit : n * i.size + (src.2.map D.val).length ≤ cur.size := by
                      rw [List.length_map, hsl, ← Nat.add_mul, h5]
                      exact Nat.le_trans (Nat.mul_le_mul_right _ hfits) hcap
                    have hr := run_append_room (P := P) w t o.type ty i ht hi L.blk n cap cur h4 ad src.1 c (src.2.map D.val) (by simpa using hsl) hnews h1c hfits hfit
                    have hst := hM.store hm hL (l' := l ++ src.2) (cur' := (cur.toList.take (n * i.size) ++ src.2.map D.val ++ cur.toList.drop (n * i.size + (src.2.map D.val).length)).toArray)
                      (w.setRow L.blk (cur.toList.take (n * i.size) ++ src.2.map D.val ++ cur.toList.drop (n * i.size + (src.2.map D.val).length)).toArray) (setRow_heap w L.blk cur _ ty _ h4)
                      (by simp only [List.size_toArray, List.length_append, List.length_take, List.length_drop, Array.length_toList]; omega)
                      (by
                        rw [← hll, h6, List.map_append]
                        simp only
                        rw [List.take_append_of_le_length (by simp)]
                        exact List.take_of_length_le (by simp))
                      (by simp only [List.mem_append]; rintro d (hd | hd); exact hlok d hd; exact hso d hd)
                      (fun k hk => setRow_other w L.blk k _ hk) (by simp) rfl rfl rfl
                    have hmv := hst.moved (N := N) (by rw [mget_mput, if_pos rfl]) hL hN
                    unfold Oper.wp
                    rw [hexec _ _ (by rw [he, hxe]; exact hr)]
                    refine h (sgSet σ N L) _ _ (sgSet_le hN) (fun b hb => sgSet_ne _ _ _ _ hb) (fun hp => absurd rfl (hp (N, .rw ty (l ++ src.2)) (by simp))) ⟨L, cap, sgSet_self _ _ _, by rw [h2], hfits, hml, fun _ _ => ⟨hcap, hcm⟩⟩ ?_
                    refine hmv.congr fun c => .inl ?_
                    show mget (mput (mput M b .dead) N _) c = _
                    rw [mget_mput, mget_mput, mget_mput, mget_mput, mget_mput]
                    split
                    · rfl
                    · split <;> rfl
                  · have holds : ∀ j u, (l.map D.val)[j]? = some u → w.cell? ((⟨L.blk, 0, none⟩ : Addr).add j) = some u := by
                      intro j u hj
                      rw [List.getElem?_map] at hj
                      cases hd : l[j]? with
                      | none => rw [hd] at hj; cases hj
                      | some d =>
                        rw [hd] at hj
                        cases hj
                        obtain ⟨L', hL', _, hc'⟩ := hBb.cell (l := l) rfl
                        rw [hL] at hL'
                        cases hL'
                        have := hc' j d hd
                        rw [h2] at this
                        rw [add_mk]
                        exact this
                    have hr := run_append_grow (P := P) w t o.type ty i zv ht hi hz' ⟨L.blk, 0, none⟩ n cap (l.map D.val) (by simpa using hll) holds ad src.1 c (src.2.map D.val) (by simpa using hsl) hnews (by omega) (by simp only [maxLen] at hml; omega) (growslice_fits (by omega) hbytes)
                    refine grown cap l hlok hll rfl [(b, .dead)] rfl (fun p hp => ?_) (by rw [he, hxe]; exact hr)
                    simp only [List.mem_singleton] at hp
                    subst hp
                    exact ⟨(fun e => by simp only at e; rw [e, hN] at hL; cases hL), rfl⟩
                · cases hbase
              · cases hbase
            · cases hbase
          · exact hf.elim
      · exact hr.elim
  · exact hr.elim

/-! ### Arrays of open length -/

theorem castL_eq {υ τ : ET} {xs : List υ.T} {ys : List τ.T} (h : castL υ τ xs = some ys) : τ.flat ys = υ.flat xs ∧ ys.length = xs.length ∧ υ.len = τ.len := by
  cases υ <;> cases τ <;> first | (cases h; done) | (cases h; exact ⟨rfl, rfl, rfl⟩)

theorem flat_app (τ : ET) : ∀ xs ys : List τ.T, τ.flat (xs ++ ys) = τ.flat xs ++ τ.flat ys
  | [], _ => rfl
  | x :: r, ys => by simp [ET.flat, flat_app τ r ys]

theorem flat_take (τ : ET) : ∀ (xs : List τ.T) (n : Nat), τ.flat (xs.take n) = (τ.flat xs).take (n * τ.len)
  | [], n => by simp [ET.flat]
  | x :: r, 0 => by simp [ET.flat]
  | x :: r, n + 1 => by
    rw [List.take_succ_cons, ET.flat, ET.flat, flat_take τ r n, Nat.succ_mul, Nat.add_comm (n * τ.len), ← cells_len τ x, List.take_length_add_append]

theorem takeK_get {τ : ET} {k : Option Nat} {xs : List τ.T} {j : Nat} {d : D} (h : (τ.flat (takeK k xs))[j]? = some d) : (τ.flat xs)[j]? = some d := by
  cases k with
  | none => exact h
  | some n =>
    simp only [takeK, flat_take] at h
    rw [List.getElem?_take] at h
    split at h
    · exact h
    · cases h

theorem takeK_ok {τ : ET} {k : Option Nat} {xs : List τ.T} (h : ∀ d ∈ τ.flat xs, d.ok) : ∀ d ∈ τ.flat (takeK k xs), d.ok := fun d hd => by
  obtain ⟨j, hj⟩ := List.getElem?_of_mem hd
  exact h d (List.mem_of_getElem? (takeK_get hj))

theorem srcA_rel {sz : Nat} {τ : ET} {x : AV} {v : Value} {ys : List τ.T} (hM : MRel w0 W σ M w) (hv : AVRel σ x v) (h : srcA M sz τ x = some ys) :
    (∀ d ∈ τ.flat ys, d.ok) ∧ ((v = .slice none 0 0 ∧ ys = []) ∨ ∃ ad c, v = .slice (some ad) ys.length c ∧ ∀ j d, (τ.flat ys)[j]? = some d → w.cell? (ad.add j) = some d.val) := by
  unfold srcA at h
  split at h
  · rename_i b k
    split at h
    · rename_i own υ xs hm
      obtain ⟨e1, e2, _⟩ := castL_eq h
      obtain ⟨L, hL, hv⟩ := hv
      have hB := hM.blk b
      rw [hm] at hB
      obtain ⟨L', g1, g2, g3, _, hok, hc⟩ := hB.elems
      rw [hL] at g1
      cases g1
      have hcell : ∀ j d, (τ.flat ys)[j]? = some d → w.cell? ((⟨L.blk, L.off, none⟩ : Addr).add j) = some d.val := by
        intro j d hj
        rw [e1] at hj
        rw [add_mk]
        exact hc j d (takeK_get hj)
      refine ⟨by rw [e1]; exact takeK_ok hok, ?_⟩
      cases k with
      | none =>
        rcases hv with ⟨h0, rfl⟩ | ⟨cap, rfl, _⟩
        · refine .inl ⟨rfl, List.eq_nil_of_length_eq_zero ?_⟩
          rw [e2]
          simp only [takeK]
          omega
        · refine .inr ⟨_, cap, ?_, hcell⟩
          rw [e2, g2]
          rfl
      | some m =>
        obtain ⟨_, h2, cap, rfl, _⟩ := hv
        refine .inr ⟨_, cap, ?_, hcell⟩
        rw [e2]
        simp only [takeK, List.length_take]
        rw [Nat.min_eq_left (by omega)]
    · cases h
  · rename_i b k n es
    split at h
    · rename_i l hl
      simp only [cond_eq_ite, Bool.and_eq_true, beq_iff_eq] at h
      split at h
      · rename_i hc
        obtain ⟨rfl, hlen⟩ := hc
        obtain ⟨hfl, hyl⟩ := ofs_flat h
        obtain ⟨L, cap, hL, he, _⟩ := hv
        obtain ⟨L', hL', hok, hc⟩ := (hM.blk b).cell hl
        rw [hL] at hL'
        cases hL'
        refine ⟨fun d hd => hok d (List.mem_of_mem_drop (List.mem_of_mem_take (by rw [hfl] at hd; exact hd))), .inr ⟨⟨L.blk, L.off + k, none⟩, cap, by rw [hyl]; exact he, fun j d hj => ?_⟩⟩
        rw [add_mk, Nat.add_assoc]
        rw [hfl] at hj
        exact hc _ d (take_drop_get hj)
      · cases h
    · cases h
  · cases h
    exact ⟨by simp [ET.flat], .inl ⟨hv, rfl⟩⟩
  · cases h

theorem appendA_ok {t e : TypeId} {τ : ET} {sx xx : Operand} {sv xv : AV} {v : AV} {s : Sets} (ho : o.op = .call { callee := .builtin .append, args := #[sx, xx], argTypes := #[t, t] }) (ht : P.underlying t = some (.slice e))
    (hs : AVRel σ sv (a.eval sx)) (hx : AVRel σ xv (a.eval xx)) (hr : Reach P G gb (evAppendA P e τ sv xv M N) v s) (hM : MRel w0 W σ M w) (hN : σ N = none)
    (h : Goes w0 W σ M N a o.dst next v s) : o.wp P a w next Q := by
  unfold evAppendA at hr
  split at hr
  · exact hr.elim
  · rename_i i hi
    split at hr
    · rename_i ys base z hys hbase hz
      obtain ⟨zv, _, ⟨hzc, _⟩, i', hi', hz'⟩ := zero_run (w := w) hz
      rw [hi] at hi'
      cases hi'
      obtain ⟨hso, hsv⟩ := srcA_rel hM hx hys
      have hexec : ∀ (v' : Value) (w' : World), (Builtin.append_ #[t, t] o.type #[a.eval sx, a.eval xx]).run P w = .ok v' w' → (execOp a.eval o).run P w = .ok (.value v') w' := by
        intro v' w' hrun
        unfold execOp
        simp only [ho, resolve, invoke, builtin, Sem.run_bind, Sem.run_pure, Result.andThen_ok, List.map_toArray, List.map_cons, List.map_nil, hrun]
      rcases hr with ⟨h0, rfl, rfl⟩ | ⟨h0, hr⟩
      · have h0' : ys.length = 0 := by simpa using h0
        rw [h0'] at hsv
        have hx0 : a.eval xx = .slice none 0 0 ∨ ∃ ad c, a.eval xx = .slice (some ad) 0 c := by
          rcases hsv with ⟨h1, _⟩ | ⟨ad, c, h1, _⟩
          · exact .inl h1
          · exact .inr ⟨ad, c, h1⟩
        have hcases : ∃ b n cap, a.eval sx = .slice b n cap ∧ n ≤ cap := by
          unfold baseA at hbase
          split at hbase
          · exact ⟨none, 0, 0, hs, Nat.le_refl _⟩
          · obtain ⟨L, _, hv⟩ := hs
            rcases hv with ⟨_, he⟩ | ⟨cap, he, hc, _⟩
            · exact ⟨none, 0, 0, he, Nat.le_refl _⟩
            · exact ⟨_, _, cap, he, hc⟩
          · cases hbase
        obtain ⟨b, n, cap, he, hc⟩ := hcases
        have hrun := append_zero (P := P) (w := w) ht hi o.type b n cap hc _ hx0
        rw [← he] at hrun
        exact h.value hM hN (hexec _ _ hrun) hs
      · have h0' : 0 < ys.length := Nat.pos_of_ne_zero (by simpa using h0)
        rcases hr with ⟨hc, rfl, rfl⟩ | ⟨_, hf⟩
        · simp only [Bool.and_eq_true, beq_iff_eq, Nat.ble_eq, Nat.blt_eq] at hc
          obtain ⟨hsz, hes, hzl, hroom, hby⟩ := hc
          rcases hsv with ⟨_, h1⟩ | ⟨ad, c, hxe, hcell⟩
          · rw [h1] at h0'; simp at h0'
          have hsl : (τ.flat ys).length = ys.length * i.size := by rw [flat_len, hes]
          have hnews : ∀ j u, ((τ.flat ys).map D.val)[j]? = some u → w.cell? (ad.add j) = some u := by
            intro j u hj
            rw [List.getElem?_map] at hj
            cases hd : (τ.flat ys)[j]? with
            | none => rw [hd] at hj; cases hj
            | some d => rw [hd] at hj; cases hj; exact hcell j d hd
          have h1c : ∀ u ∈ (τ.flat ys).map D.val, u.oneCell' = true := by
            simp only [List.mem_map]
            rintro u ⟨d, _, rfl⟩
            exact oneCell_val d
          have hbytes : (base.1.length + ys.length) * i.bytes ≤ 140737488355328 := by
            have := Nat.mul_le_mul hroom hby
            simp only [roomD] at this
            omega
          have hml : base.1.length + ys.length ≤ maxLen := by simp only [maxLen, roomD] at *; omega
          have hzcs : zv.cells.size = i.size := by rw [hzc]; simp [hzl]
          have hpos : ∀ {n : Nat}, (base.1 ++ ys).length = 0 → n = 0 := by intro n hn; simp at hn; rw [hn.2] at h0'; simp at h0'
          -- a new row, grown
          have grown : ∀ (old : Nat) (olds : List D), (∀ d ∈ olds, d.ok) → τ.flat base.1 = olds → ∀ ss, ss = base.2 → (∀ p ∈ ss, p.1 ≠ N ∧ p.2 = .dead) →
              (Builtin.append_ #[t, t] o.type #[a.eval sx, a.eval xx]).run P w = .ok (.slice (some ⟨w.heap.size, 0, none⟩) (base.1.length + ys.length) (grownCap w (base.1.length + ys.length) old e))
                (w.drew.alloc (.cells ((olds.map D.val).toArray ++ ((τ.flat ys).map D.val).toArray ++ Builtin.zeroCells zv.cells (grownCap w (base.1.length + ys.length) old e - (base.1.length + ys.length))) e)) → o.wp P a w next Q := by
            intro old olds hoo hol ss hss hdead hrun
            have hge := grownCap_ge w (base.1.length + ys.length) old e
            have hcm : grownCap w (base.1.length + ys.length) old e ≤ maxLen := grownCap_le_maxLen w (base.1.length + ys.length) old e hml
            generalize grownCap w (base.1.length + ys.length) old e = cap at *
            generalize hcur : ((olds.map D.val).toArray ++ ((τ.flat ys).map D.val).toArray ++ Builtin.zeroCells zv.cells (cap - (base.1.length + ys.length))) = cur at *
            have hfa : τ.flat (base.1 ++ ys) = olds ++ τ.flat ys := by rw [flat_app, hol]
            have holl : olds.length = base.1.length * i.size := by rw [← hol, flat_len, hes]
            have hcs : cur.size = cap * i.size := by
              rw [← hcur]
              simp only [Array.size_append, List.size_toArray, List.length_map, size_zeroCells, hzcs, holl, hsl, ← Nat.add_mul]
              congr 1
              omega
            have htake : cur.toList.take (τ.flat (base.1 ++ ys)).length = (τ.flat (base.1 ++ ys)).map D.val := by
              rw [← hcur, hfa]
              simp only [Array.toList_append, List.map_append]
              rw [List.take_append_of_le_length (by simp)]
              exact List.take_of_length_le (by simp)
            unfold Oper.wp
            rw [hexec _ _ hrun]
            have hM' : MRel w0 W σ (puts M ss) w := hM.congr (fun b => by
              rw [mget_puts]
              clear hss
              induction ss with
              | nil => exact .inl rfl
              | cons p r ih =>
                have ih' := ih (fun q hq => hdead q (by simp [hq]))
                simp only [lastSet]
                cases hls : lastSet r b with
                | some y => rw [hls] at ih'; exact ih'
                | none =>
                  by_cases hpb : p.1 = b
                  · simp only [hpb, if_true, Option.getD_some]; exact .inr (hdead p (by simp)).2
                  · simp [hpb])
            have hapok : ∀ d ∈ τ.flat (base.1 ++ ys), d.ok := by rw [hfa]; simp only [List.mem_append]; rintro d (hd | hd); exact hoo d hd; exact hso d hd
            have hall := hM'.allocA hN e τ (base.1 ++ ys) cur htake hapok (w.drew.alloc (.cells cur e)) rfl rfl rfl rfl
            refine h (sgSet σ N ⟨w.heap.size, 0, cur.size, true, (base.1 ++ ys).length, τ.len⟩) _ _ (sgSet_le hN) (fun b hb => sgSet_ne _ _ _ _ hb) (fun hp => absurd rfl (hp (N, .arr (some e) τ (base.1 ++ ys)) (by simp)))
              ⟨_, sgSet_self _ _ _, .inr ⟨cap, by simp only [List.length_append], by simp only [List.length_append]; exact hge, by simp only [List.length_append]; exact hml, fun _ => ⟨by rw [hcs, hes]; exact Nat.le_refl _, hcm, fun hn => hpos hn⟩⟩⟩ ?_
            rw [← hss, puts_append]
            exact hall
          unfold baseA at hbase
          split at hbase
          · cases hbase
            have he : a.eval sx = .slice none 0 0 := hs
            have hr := run_append_nil (P := P) w t o.type e i zv ht hi hz' ad ys.length c ((τ.flat ys).map D.val) (by simpa using hsl) hnews h0' (by simp only [maxLen, List.length_nil, Nat.zero_add] at hml; omega) (by simp only [List.length_nil, Nat.zero_add] at hbytes; omega)
            refine grown 0 [] (by simp) rfl [] rfl (by simp) ?_
            rw [he, hxe]
            simpa using hr
          · rename_i b
            split at hbase
            · rename_i ty υ xs hm
              simp only [cond_eq_ite, beq_iff_eq] at hbase
              split at hbase
              · rename_i hty
                subst hty
                split at hbase
                · rename_i xs' hxs'
                  cases hbase
                  simp only at *
                  obtain ⟨c1, c2, c3⟩ := castL_eq hxs'
                  have hBb := hM.blk b
                  rw [hm] at hBb
                  obtain ⟨L, hL, hn, hLes, hlok, hLown, hLoff, hmem⟩ := id hBb
                  obtain ⟨L', hL', hv⟩ := hs
                  rw [hL] at hL'
                  cases hL'
                  have hdd : ∀ p ∈ [(b, Blk.dead)], p.1 ≠ N ∧ p.2 = .dead := by
                    intro p hp
                    simp only [List.mem_singleton] at hp
                    subst hp
                    exact ⟨(fun e => by simp only at e; rw [e, hN] at hL; cases hL), rfl⟩
                  rcases hv with ⟨hn0, he⟩ | ⟨cap, he, hnc, _, hown⟩
                  · have hx0 : xs' = [] := List.eq_nil_of_length_eq_zero (by omega)
                    subst hx0
                    have hr := run_append_nil (P := P) w t o.type ty i zv ht hi hz' ad ys.length c ((τ.flat ys).map D.val) (by simpa using hsl) hnews h0' (by simp only [maxLen, List.length_nil, Nat.zero_add] at hml; omega) (by simp only [List.length_nil, Nat.zero_add] at hbytes; omega)
                    refine grown 0 [] (by simp) rfl [(b, .dead)] rfl hdd ?_
                    rw [he, hxe]
                    simpa using hr
                  obtain ⟨hcap, hcm, hc0⟩ := hown hLown
                  rw [hLoff] at he
                  rw [show L.n = xs'.length from by omega] at he hnc hc0
                  have hll : (τ.flat xs').length = xs'.length * i.size := by rw [flat_len, hes]
                  have hokx : ∀ d ∈ τ.flat xs', d.ok := by rw [c1]; exact hlok
                  by_cases hfits : xs'.length + ys.length ≤ cap
                  · have hne : xs ≠ [] := fun e => by subst e; have : xs'.length = 0 := by simpa using c2
                                                      have := hc0 this; omega
                    rcases hmem with hmem | ⟨cur, h4, h5, h6⟩
                    · exact absurd hmem hne
                    rw [← c1] at h6
                    have hfit : xs'.length * i.size + ((τ.flat ys).map D.val).length ≤ cur.size := by
                      rw [List.length_map, hsl, ← Nat.add_mul, h5]
                      refine Nat.le_trans (Nat.mul_le_mul_right _ hfits) ?_
                      rw [hes, ← c3, ← hLes]
                      exact hcap
                    have hr := run_append_room (P := P) w t o.type ty i ht hi L.blk xs'.length cap cur h4 ad ys.length c ((τ.flat ys).map D.val) (by simpa using hsl) hnews h1c hfits hfit
                    have hwr : (mget M b).wr = true := by
                      rw [hm]
                      cases xs with
                      | nil => exact absurd rfl hne
                      | cons _ _ => rfl
                    have htake : (cur.toList.take (xs'.length * i.size) ++ (τ.flat ys).map D.val ++ cur.toList.drop (xs'.length * i.size + ((τ.flat ys).map D.val).length)).toArray.toList.take (τ.flat (xs' ++ ys)).length = (τ.flat (xs' ++ ys)).map D.val := by
                      rw [flat_app, ← hll, h6, List.map_append]
                      simp only
                      rw [List.take_append_of_le_length (by simp)]
                      exact List.take_of_length_le (by simp)
                    have hapok : ∀ d ∈ τ.flat (xs' ++ ys), d.ok := by rw [flat_app]; simp only [List.mem_append]; rintro d (hd | hd); exact hokx d hd; exact hso d hd
                    have hcsz : (cur.toList.take (xs'.length * i.size) ++ (τ.flat ys).map D.val ++ cur.toList.drop (xs'.length * i.size + ((τ.flat ys).map D.val).length)).toArray.size = L.size := by
                      simp only [List.size_toArray, List.length_append, List.length_take, List.length_drop, Array.length_toList]
                      omega
                    have hst := hM.write hwr hL (.rw ty (τ.flat (xs' ++ ys)))
                      (w.setRow L.blk (cur.toList.take (xs'.length * i.size) ++ (τ.flat ys).map D.val ++ cur.toList.drop (xs'.length * i.size + ((τ.flat ys).map D.val).length)).toArray)
                      ⟨L, _, hL, hLoff, hLown, setRow_heap w L.blk cur _ ty _ h4, hcsz, hapok, htake⟩
                      (fun k hk => setRow_other w L.blk k _ hk) (by simp) rfl rfl rfl
                    have hmv := hst.movedTo (N := N) (b := b) (L' := { L with n := (xs' ++ ys).length, es := τ.len }) (by rw [mget_mput, if_pos rfl]; rfl) hL hN rfl (.arr (some ty) τ (xs' ++ ys))
                      ⟨_, sgSet_self _ _ _, rfl, rfl, hapok, hLown, hLoff, .inr ⟨_, setRow_heap w L.blk cur _ ty _ h4, hcsz, htake⟩⟩
                    unfold Oper.wp
                    rw [hexec _ _ (by rw [he, hxe]; exact hr)]
                    refine h (sgSet σ N { L with n := (xs' ++ ys).length, es := τ.len }) _ _ (sgSet_le hN) (fun b hb => sgSet_ne _ _ _ _ hb) (fun hp => absurd rfl (hp (N, .arr (some ty) τ (xs' ++ ys)) (by simp)))
                      ⟨_, sgSet_self _ _ _, .inr ⟨cap, by simp only [hLoff, List.length_append], by simp only [List.length_append]; exact hfits, by simp only [List.length_append]; exact hml, fun _ => ⟨?_, hcm, fun hn => hpos hn⟩⟩⟩ ?_
                    · simp only
                      rw [← c3, ← hLes]
                      exact hcap
                    · refine hmv.congr fun c => .inl ?_
                      show mget (mput (mput M b .dead) N _) c = _
                      rw [mget_mput, mget_mput, mget_mput, mget_mput, mget_mput]
                      split
                      · rfl
                      · split <;> rfl
                  · have holds : ∀ j u, ((τ.flat xs').map D.val)[j]? = some u → w.cell? ((⟨L.blk, 0, none⟩ : Addr).add j) = some u := by
                      intro j u hj
                      rw [List.getElem?_map] at hj
                      cases hd : (τ.flat xs')[j]? with
                      | none => rw [hd] at hj; cases hj
                      | some d =>
                        rw [hd] at hj
                        cases hj
                        obtain ⟨L', hL', _, _, _, _, hc'⟩ := hBb.elems
                        rw [hL] at hL'
                        cases hL'
                        rw [c1] at hd
                        have := hc' j d hd
                        rw [hLoff] at this
                        rw [add_mk]
                        exact this
                    have hr := run_append_grow (P := P) w t o.type ty i zv ht hi hz' ⟨L.blk, 0, none⟩ xs'.length cap ((τ.flat xs').map D.val) (by simpa using hll) holds ad ys.length c ((τ.flat ys).map D.val) (by simpa using hsl) hnews (by omega) (by simp only [maxLen] at hml; omega) (growslice_fits (by omega) hbytes)
                    exact grown cap (τ.flat xs') hokx rfl [(b, .dead)] rfl hdd (by rw [he, hxe]; exact hr)
                · cases hbase
              · cases hbase
            · cases hbase
          · cases hbase
        · exact hf.elim
    · exact hr.elim

end
end Go.Ev
