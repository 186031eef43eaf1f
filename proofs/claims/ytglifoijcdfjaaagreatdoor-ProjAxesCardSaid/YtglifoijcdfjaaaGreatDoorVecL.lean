/-
  Turns by their values; the laws of cross products, of what a turn keeps and of products of turns. No program here.
-/
import Derived.Test.YtglifoijcdfjaaaGreatDoorRat
namespace Go.Ev
open Go

/-! ### What the laws ask first -/

def smallOneB (f : Frac) : Bool := fracOkB f && (decide (f.num ≤ 1000) && (decide (-1000 ≤ f.num) && decide (f.den ≤ 20)))
def smallAns (K : AV → List Blk → Ans) : List Frac → Ans
  | [] => K (rB true) []
  | f :: r => bif checkF f != 0 then K (rB false) [] else bif decide (f.num > 1000) then K (rB false) [] else bif decide (f.num < -1000) then K (rB false) [] else bif decide (f.den > 20) then K (rB false) [] else smallAns K r
theorem smallAns_ok {K : AV → List Blk → Ans} : ∀ {l : List Frac}, smallAns K l = K (rB (l.all smallOneB)) []
  | [] => rfl
  | f :: r => by
    rw [smallAns, smallAns_ok, List.all_cons, smallOneB, checkF]
    cases fracOkB f with
    | false => rfl
    | true =>
      by_cases h1 : f.num ≤ 1000
      · by_cases h2 : -1000 ≤ f.num
        · by_cases h3 : f.den ≤ 20
          · rw [decide_eq_true h1, decide_eq_true h2, decide_eq_true h3, decide_eq_false (show ¬ f.num > 1000 by omega), decide_eq_false (show ¬ f.num < -1000 by omega), decide_eq_false (show ¬ f.den > 20 by omega)]; rfl
          · rw [decide_eq_true h1, decide_eq_true h2, decide_eq_false h3, decide_eq_false (show ¬ f.num > 1000 by omega), decide_eq_false (show ¬ f.num < -1000 by omega), decide_eq_true (show f.den > 20 by omega)]; rfl
        · rw [decide_eq_true h1, decide_eq_false h2, decide_eq_false (show ¬ f.num > 1000 by omega), decide_eq_true (show f.num < -1000 by omega)]; rfl
      · rw [decide_eq_false h1, decide_eq_true (show f.num > 1000 by omega)]; rfl
def smallB (v w : Vec) (t : Frac) : Bool := [v.x, v.y, v.z, w.x, w.y, w.z, t].all smallOneB

theorem small_sz {f : Frac} (h : smallOneB f = true) : Sz 1000 20 f := by
  simp only [smallOneB, Bool.and_eq_true, decide_eq_true_eq, fracOkB_iff] at h
  exact ⟨h.1, by rw [absI_eq]; omega, h.2.2.2⟩

structure SmallV (v : Vec) : Prop where
  x : Sz 1000 20 v.x
  y : Sz 1000 20 v.y
  z : Sz 1000 20 v.z
theorem SmallV.ok {v : Vec} (h : SmallV v) : VecOk v := ⟨h.x.ok, h.y.ok, h.z.ok⟩

theorem smallB_iff {v w : Vec} {t : Frac} (h : smallB v w t = true) : SmallV v ∧ SmallV w ∧ Sz 1000 20 t := by
  simp only [smallB, List.all_cons, List.all_nil, Bool.and_true, Bool.and_eq_true] at h
  exact ⟨⟨small_sz h.1, small_sz h.2.1, small_sz h.2.2.1⟩, ⟨small_sz h.2.2.2.1, small_sz h.2.2.2.2.1, small_sz h.2.2.2.2.2.1⟩, small_sz h.2.2.2.2.2.2⟩

/-- Some test holds. -/
def orT : List Bool → Ans → Ans → Ans
  | [], _, B => B
  | c :: r, A, B => bif c then A else orT r A B
/-- All tests hold. -/
def andT : List Bool → Ans → Ans → Ans
  | [], A, _ => A
  | c :: r, A, B => bif c then andT r A B else B
def errT (K : AV → List Blk → Ans) (e : Int) (more : Ans) : Ans := bif e == 0 then more else bif e == 16 then more else K (rB false) []

theorem orT_all {X A B : Ans} : ∀ {l : List Bool}, A = X → B = X → orT l A B = X
  | [], _, hb => hb
  | c :: r, ha, hb => by rw [orT, orT_all ha hb, ha]; cases c <;> rfl
theorem orT_none {A B : Ans} : ∀ {l : List Bool}, (∀ c ∈ l, c = false) → orT l A B = B
  | [], _ => rfl
  | c :: r, h => by rw [orT, h c (by simp), cond_false]; exact orT_none fun x hx => h x (List.mem_cons_of_mem _ hx)
theorem orT_any {A B : Ans} : ∀ {l : List Bool}, l.any id = true → orT l A B = A
  | [], h => by cases h
  | c :: r, h => by
    rw [orT]
    cases c with
    | true => rfl
    | false => exact orT_any (by simpa using h)
theorem orT_split {A B X : Ans} {l : List Bool} (h1 : l.any id = true → A = X) (h2 : (∀ c ∈ l, c = false) → B = X) : orT l A B = X := by
  cases h : l.any id with
  | true => rw [orT_any h]; exact h1 h
  | false =>
    have h' : ∀ c ∈ l, c = false := by simpa using h
    rw [orT_none h']; exact h2 h'
theorem andT_split {A B X : Ans} : ∀ {l : List Bool}, ((∀ c ∈ l, c = true) → A = X) → B = X → andT l A B = X
  | [], h1, _ => h1 (by simp)
  | c :: r, h1, h2 => by
    rw [andT]
    cases c with
    | false => exact h2
    | true => exact andT_split (fun h => h1 (by simpa using h)) h2
theorem errT_ok {K : AV → List Blk → Ans} {e : Int} {more : Ans} (h : e = 0 ∨ e = 16) : errT K e more = more := by
  unfold errT
  rcases h with rfl | rfl <;> rfl

theorem eq_cells {a b : Frac} (h : a = b) : eqAll a.cells b.cells = true := by rw [h]; exact eqAll_self ..
theorem eq_cellsV {a b : Vec} (h : a = b) : eqAll a.cells b.cells = true := by rw [h]; exact eqAll_self ..
theorem eq_cellsM {a b : Mat} (h : a = b) : eqAll a.cells b.cells = true := by rw [h]; exact eqAll_self ..

/-! ### Matrices by their values -/

theorem rowF_cases {v : Vec} {m : Mat} (hv : VecOk v) (hm : MatOk m) : (∃ r, rowF v m = (r, 0) ∧ VecOk r ∧ val r.x = dotQ v m.a ∧ val r.y = dotQ v m.b ∧ val r.z = dotQ v m.c) ∨ rowF v m = (vecZ, 16) := by
  have hx := dotF_cases hv hm.a
  have hy := dotF_cases hv hm.b
  have hz := dotF_cases hv hm.c
  rcases eachV_cases (x := dotF v m.a) (y := dotF v m.b) (z := dotF v m.c) (hx.imp (fun ⟨s, e, k, _⟩ => ⟨s, e, k⟩) id) (hy.imp (fun ⟨s, e, k, _⟩ => ⟨s, e, k⟩) id) (hz.imp (fun ⟨s, e, k, _⟩ => ⟨s, e, k⟩) id) with ⟨r, e, k, e1, e2, e3⟩ | e
  · refine .inl ⟨r, e, k, ?_, ?_, ?_⟩
    · rcases hx with ⟨s, e', _, h⟩ | e'
      · rw [e1] at e'; cases e'; exact h
      · rw [e1] at e'; simp at e'
    · rcases hy with ⟨s, e', _, h⟩ | e'
      · rw [e2] at e'; cases e'; exact h
      · rw [e2] at e'; simp at e'
    · rcases hz with ⟨s, e', _, h⟩ | e'
      · rw [e3] at e'; cases e'; exact h
      · rw [e3] at e'; simp at e'
  · exact .inr e

theorem dotQ_comm (v w : Vec) : dotQ v w = dotQ w v := by unfold dotQ; grind

theorem dotF_comm (v w : Vec) : dotF v w = dotF w v := by
  have h (a b : Frac) : mulF a b = mulF b a := by unfold mulF; rw [Bool.and_comm, Int.mul_comm a.num, Int.mul_comm a.den]
  unfold dotF
  rw [h v.x, h v.y, h v.z]

theorem applyF_cases {m : Mat} {v : Vec} (hm : MatOk m) (hv : VecOk v) : (∃ r, applyF m v = (r, 0) ∧ VecOk r ∧ val r.x = dotQ m.a v ∧ val r.y = dotQ m.b v ∧ val r.z = dotQ m.c v) ∨ applyF m v = (vecZ, 16) := by
  have := rowF_cases hv hm
  unfold rowF at this
  unfold applyF
  rw [dotF_comm m.a, dotF_comm m.b, dotF_comm m.c, dotQ_comm m.a, dotQ_comm m.b, dotQ_comm m.c]
  exact this

structure ProdQ (m c p : Mat) : Prop where
  ok : MatOk p
  ax : val p.a.x = dotQ m.a c.a
  ay : val p.a.y = dotQ m.a c.b
  az : val p.a.z = dotQ m.a c.c
  bx : val p.b.x = dotQ m.b c.a
  by' : val p.b.y = dotQ m.b c.b
  bz : val p.b.z = dotQ m.b c.c
  cx : val p.c.x = dotQ m.c c.a
  cy : val p.c.y = dotQ m.c c.b
  cz : val p.c.z = dotQ m.c c.c

theorem prodC_cases {m c : Mat} (hm : MatOk m) (hc : MatOk c) : (∃ p, prodC m c = (p, 0) ∧ ProdQ m c p) ∨ prodC m c = (matZ, 16) := by
  unfold prodC andG
  rcases rowF_cases hm.a hc with ⟨x, e1, k1, x1, x2, x3⟩ | e
  · rw [e1]
    rcases rowF_cases hm.b hc with ⟨y, e2, k2, y1, y2, y3⟩ | e
    · rw [e2]
      rcases rowF_cases hm.c hc with ⟨z, e3, k3, z1, z2, z3⟩ | e
      · rw [e3]
        exact .inl ⟨⟨x, y, z⟩, rfl, ⟨k1, k2, k3⟩, x1, x2, x3, y1, y2, y3, z1, z2, z3⟩
      · rw [e]; exact .inr rfl
    · rw [e]; exact .inr rfl
  · rw [e]; exact .inr rfl

theorem mat_eq {m n : Mat} (hm : MatOk m) (hn : MatOk n) (ax : val m.a.x = val n.a.x) (ay : val m.a.y = val n.a.y) (az : val m.a.z = val n.a.z) (bx : val m.b.x = val n.b.x) (by' : val m.b.y = val n.b.y) (bz : val m.b.z = val n.b.z)
    (cx : val m.c.x = val n.c.x) (cy : val m.c.y = val n.c.y) (cz : val m.c.z = val n.c.z) : m = n := by
  have h1 := vec_eq hm.a hn.a ax ay az
  have h2 := vec_eq hm.b hn.b bx by' bz
  have h3 := vec_eq hm.c hn.c cx cy cz
  cases m; cases n
  simp only at h1 h2 h3
  rw [h1, h2, h3]

theorem unit_ok : MatOk unitM := ⟨⟨one_ok, zero_ok, zero_ok⟩, ⟨zero_ok, one_ok, zero_ok⟩, ⟨zero_ok, zero_ok, one_ok⟩⟩

def detQ (m : Mat) : Rat := val m.a.x * (val m.b.y * val m.c.z - val m.b.z * val m.c.y) + val m.a.y * (val m.b.z * val m.c.x - val m.b.x * val m.c.z) + val m.a.z * (val m.b.x * val m.c.y - val m.b.y * val m.c.x)

theorem detF_cases {m : Mat} (hm : MatOk m) : (∃ d, detF m = (d, 0) ∧ FracOk d ∧ val d = detQ m) ∨ detF m = (fracZ, 16) := by
  unfold detF andG
  rcases crossF_cases hm.b hm.c with ⟨u, e, ku, _⟩ | e
  · obtain ⟨_, h1, h2, h3⟩ := cross_val hm.b hm.c e
    rw [e]
    rcases dotF_cases hm.a ku with ⟨s, e', k, h⟩ | e'
    · refine .inl ⟨s, e', k, ?_⟩
      rw [h, dotQ, h1, h2, h3, detQ]
    · exact .inr e'
  · rw [e]; exact .inr rfl

/-- A rotation, by its values. -/
structure RotQ (m : Mat) : Prop where
  ok : MatOk m
  aa : dotQ m.a m.a = 1
  ab : dotQ m.a m.b = 0
  ac : dotQ m.a m.c = 0
  bb : dotQ m.b m.b = 1
  bc : dotQ m.b m.c = 0
  cc : dotQ m.c m.c = 1
  det : detQ m = 1

theorem RotQ.is {m : Mat} (h : RotQ m) : isV m = (true, 0) ∨ isV m = (false, 16) := by
  unfold isV andG
  rw [matOkB_iff.2 h.ok]
  have hp : prodF m (flipM m) = prodC m m := rfl
  rw [hp]
  rcases prodC_cases h.ok h.ok with ⟨p, e, q⟩ | e
  · rw [e]
    have hu : p = unitM := by
      refine mat_eq q.ok unit_ok ?_ ?_ ?_ ?_ ?_ ?_ ?_ ?_ ?_
      · rw [q.ax, h.aa]; exact val_one.symm
      · rw [q.ay, h.ab]; exact val_zero.symm
      · rw [q.az, h.ac]; exact val_zero.symm
      · rw [q.bx, dotQ_comm, h.ab]; exact val_zero.symm
      · rw [q.by', h.bb]; exact val_one.symm
      · rw [q.bz, h.bc]; exact val_zero.symm
      · rw [q.cx, dotQ_comm, h.ac]; exact val_zero.symm
      · rw [q.cy, dotQ_comm, h.bc]; exact val_zero.symm
      · rw [q.cz, h.cc]; exact val_one.symm
    rcases detF_cases h.ok with ⟨d, e', kd, hd⟩ | e'
    · rw [e']
      have : d = oneF := val_inj kd one_ok (by rw [hd, h.det, val_one])
      subst this; subst hu
      simp only [beq_self_eq_true, cond_true, eqAll_self, Bool.and_self]
      exact .inl trivial
    · rw [e']; exact .inr rfl
  · rw [e]; exact .inr rfl

/-! ### Turns by their values -/

theorem sq_pos (τ : Rat) : 1 + τ * τ ≠ 0 := by
  have : 0 ≤ τ * τ := by
    rcases Rat.le_total (a := 0) (b := τ) with h | h
    · exact Rat.mul_nonneg h h
    · have : 0 ≤ (-τ) * (-τ) := Rat.mul_nonneg (by grind) (by grind)
      grind
  grind

structure PairQ (τ : Rat) (c s : Frac) : Prop where
  kc : FracOk c
  ks : FracOk s
  hc : val c * (1 + τ * τ) = 1 - τ * τ
  hs : val s * (1 + τ * τ) = 2 * τ

theorem PairQ.one {τ : Rat} {c s : Frac} (h : PairQ τ c s) : val c * val c + val s * val s = 1 := by
  have h1 := h.hc; have h2 := h.hs; have h3 := sq_pos τ
  grind

theorem pair_small {t : Frac} (ht : Sz 1000 1000 t) : ∃ c s, pairF t = ((c, s), 0) ∧ PairQ (val t) c s := by
  obtain ⟨q, e1, k1⟩ := ht.mul ht (by decide) (by decide)
  obtain ⟨lo, e2, k2⟩ := Sz.one.sub k1 (by decide) (by decide)
  obtain ⟨hi, e3, k3⟩ := Sz.one.add k1 (by decide) (by decide)
  have hp := hi_pos ht.ok e1 e3
  obtain ⟨c, e4, k4⟩ := k2.div k3 (by omega) (by decide) (by decide)
  obtain ⟨tw, e5, k5⟩ := ht.add ht (by decide) (by decide)
  obtain ⟨s, e6, k6⟩ := k5.div k3 (by omega) (by decide) (by decide)
  have v1 := (mul_val ht.ok ht.ok e1).2
  have v2 := (sub_val one_ok k1.ok e2).2
  have v3 := (add_val one_ok k1.ok e3).2
  have v4 := (div_val k2.ok k3.ok e4).2.2
  have v5 := (add_val ht.ok ht.ok e5).2
  have v6 := (div_val k5.ok k3.ok e6).2.2
  rw [val_one] at v2 v3
  refine ⟨c, s, ?_, k4.ok, k6.ok, ?_, ?_⟩
  · unfold pairF andG
    rw [e1]; simp only [beq_self_eq_true, cond_true]
    rw [e2, e3]; simp only [beq_self_eq_true, cond_true]
    rw [e4, e5]; simp only [beq_self_eq_true, cond_true]
    rw [e6]; rfl
  · rw [← v1, ← v3, v4, v2]
  · rw [← v1, ← v3, v6, v5]; grind

theorem turn_small {axis : Int} {t : Frac} (ht : Sz 1000 1000 t) (ha : 0 ≤ axis ∧ axis ≤ 2) : ∃ c s, turnF axis t = (turnOf axis c s, 0) ∧ PairQ (val t) c s := by
  obtain ⟨c, s, e, h⟩ := pair_small ht
  refine ⟨c, s, ?_, h⟩
  unfold turnF
  rw [fracOkB_iff.2 ht.ok, decide_eq_true ha.1, decide_eq_true ha.2, e]
  rfl

theorem turnOf_ok {axis : Int} {c s : Frac} (hc : FracOk c) (hs : FracOk s) : MatOk (turnOf axis c s) := by
  have hn := negR_ok hs
  unfold turnOf
  cases axis == 0 with
  | true => exact ⟨⟨one_ok, zero_ok, zero_ok⟩, ⟨zero_ok, hc, hn⟩, ⟨zero_ok, hs, hc⟩⟩
  | false =>
    cases axis == 1 with
    | true => exact ⟨⟨hc, zero_ok, hs⟩, ⟨zero_ok, one_ok, zero_ok⟩, ⟨hn, zero_ok, hc⟩⟩
    | false => exact ⟨⟨hc, hn, zero_ok⟩, ⟨hs, hc, zero_ok⟩, ⟨zero_ok, zero_ok, one_ok⟩⟩

theorem turn0 (c s : Frac) : turnOf 0 c s = ⟨⟨oneF, zeroF, zeroF⟩, ⟨zeroF, c, negR s⟩, ⟨zeroF, s, c⟩⟩ := rfl
theorem turn1 (c s : Frac) : turnOf 1 c s = ⟨⟨c, zeroF, s⟩, ⟨zeroF, oneF, zeroF⟩, ⟨negR s, zeroF, c⟩⟩ := rfl
theorem turn2 (c s : Frac) : turnOf 2 c s = ⟨⟨c, negR s, zeroF⟩, ⟨s, c, zeroF⟩, ⟨zeroF, zeroF, oneF⟩⟩ := rfl

theorem axis_cases {a : Int} (h : 0 ≤ a ∧ a ≤ 2) : a = 0 ∨ a = 1 ∨ a = 2 := by omega

theorem turn_rot {axis : Int} {τ : Rat} {c s : Frac} (ha : 0 ≤ axis ∧ axis ≤ 2) (h : PairQ τ c s) : RotQ (turnOf axis c s) := by
  have ok := turnOf_ok (axis := axis) h.kc h.ks
  have h1 := h.one
  have hn := val_neg h.ks
  rcases axis_cases ha with rfl | rfl | rfl
  · rw [turn0] at ok ⊢
    refine ⟨ok, ?_, ?_, ?_, ?_, ?_, ?_, ?_⟩ <;> simp only [dotQ, detQ, val_one, val_zero, hn] <;> grind
  · rw [turn1] at ok ⊢
    refine ⟨ok, ?_, ?_, ?_, ?_, ?_, ?_, ?_⟩ <;> simp only [dotQ, detQ, val_one, val_zero, hn] <;> grind
  · rw [turn2] at ok ⊢
    refine ⟨ok, ?_, ?_, ?_, ?_, ?_, ?_, ?_⟩ <;> simp only [dotQ, detQ, val_one, val_zero, hn] <;> grind

end Go.Ev
