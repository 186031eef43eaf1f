/-
  Laws of places: normals, sides, turns about the axis. No program here.
-/
import Derived.Test.YtckjflbbilideaaDoorGeo
namespace Go.Ev
open Go

/-! ### Values with bounded numbers -/

def BR (q : Rat) (B : Int) : Prop := ∃ N D, Rep q N D ∧ absI N ≤ B ∧ D ≤ B

theorem BR.mul {q q' : Rat} {B B' : Int} (h : BR q B) (h' : BR q' B') : BR (q * q') (B * B') := by
  obtain ⟨N, D, r, n, d⟩ := h
  obtain ⟨N', D', r', n', d'⟩ := h'
  have := r.pos; have := r'.pos
  refine ⟨_, _, r.mul r', ?_, mul_le (by omega) (by omega) d d'⟩
  rw [absI_mul]
  exact mul_le (absI_nn _) (absI_nn _) n n'
theorem BR.neg {q : Rat} {B : Int} (h : BR q B) : BR (-q) B := by
  obtain ⟨N, D, r, n, d⟩ := h
  refine ⟨-N, D, ⟨r.pos, ?_⟩, by rw [absI_neg]; exact n, d⟩
  rw [Rat.intCast_neg, ← r.val]
  grind
theorem BR.mono {q : Rat} {B B' : Int} (h : BR q B) (hb : B ≤ B') : BR q B' := by
  obtain ⟨N, D, r, n, d⟩ := h
  exact ⟨N, D, r, by omega, by omega⟩
theorem BR.int {k : Int} {B : Int} (h : absI k ≤ B) (hB : 1 ≤ B) : BR (k : Rat) B := ⟨k, 1, ⟨by omega, by rw [Rat.intCast_one]; grind⟩, h, hB⟩
theorem BR.inv {k : Int} {q : Rat} {B : Int} (hk : 0 < k) (hq : q * (k : Rat) = 1) (h : k ≤ B) : BR q B := ⟨1, k, ⟨hk, by rw [hq, Rat.intCast_one]⟩, by rw [absI_eq]; omega, h⟩
theorem BR.zero : BR 0 1 := ⟨0, 1, ⟨by omega, by rw [Rat.intCast_one, Rat.intCast_zero]; grind⟩, by decide, by decide⟩
theorem BR.one : BR 1 1 := ⟨1, 1, ⟨by omega, by rw [Rat.intCast_one]; grind⟩, by decide, by decide⟩
theorem BR.of {a : Frac} (h : FracOk a) : BR (val a) 1000000000000000000 := ⟨_, _, Rep.of h, by have := h.numlo; have := h.numhi; rw [absI_eq]; omega, h.denhi⟩

theorem add_br {a b : Frac} {B : Int} (ha : FracOk a) (hb : FracOk b) (h : BR (val a + val b) B) (hB : B ≤ 1000000000000000000) : ∃ c, addF a b = (c, 0) ∧ FracOk c ∧ val c = val a + val b := by
  obtain ⟨N, D, r, n, d⟩ := h
  exact add_fit ha hb r ⟨by omega, by omega⟩
theorem mul_br {a b : Frac} {B : Int} (ha : FracOk a) (hb : FracOk b) (h : BR (val a * val b) B) (hB : B ≤ 1000000000000000000) : ∃ c, mulF a b = (c, 0) ∧ FracOk c ∧ val c = val a * val b := by
  obtain ⟨N, D, r, n, d⟩ := h
  exact mul_fit ha hb r ⟨by omega, by omega⟩
theorem div_br {a : Frac} {k B : Int} (ha : FracOk a) (hk : 0 < k) (hk' : k ≤ 1000000) {q : Rat} (hq : q * (k : Rat) = val a) (h : BR q B) (hB : B ≤ 1000000000000000000) : ∃ c, divF a (wholeF k) = (c, 0) ∧ FracOk c ∧ val c = q := by
  obtain ⟨N, D, r, n, d⟩ := h
  exact div_fit ha hk (by omega) hq r ⟨by omega, by omega⟩

theorem dot_br {v w : Vec} (hv : VecOk v) (hw : VecOk w) {B : Int} (hB : B ≤ 1000000000000000000) (h1 : BR (val v.x * val w.x) B) (h2 : BR (val v.y * val w.y) B) (h3 : BR (val v.z * val w.z) B)
    (h4 : BR (val v.x * val w.x + val v.y * val w.y) B) (h5 : BR (dotQ v w) B) : ∃ s, dotF v w = (s, 0) ∧ FracOk s ∧ val s = dotQ v w := by
  obtain ⟨p, e1, k1, v1⟩ := mul_br hv.x hw.x h1 hB
  obtain ⟨q, e2, k2, v2⟩ := mul_br hv.y hw.y h2 hB
  obtain ⟨r, e3, k3, v3⟩ := mul_br hv.z hw.z h3 hB
  obtain ⟨s, e4, k4, v4⟩ := add_br k1 k2 (by rw [v1, v2]; exact h4) hB
  obtain ⟨t, e5, k5, v5⟩ := add_br k4 k3 (by rw [v4, v1, v2, v3]; exact h5) hB
  refine ⟨t, ?_, k5, by rw [v5, v4, v1, v2, v3]; rfl⟩
  unfold dotF andF
  rw [e1]; simp only [addF_nought k1, beq_self_eq_true, cond_true]
  rw [e2]; simp only [beq_self_eq_true, cond_true]
  rw [e4]; simp only [beq_self_eq_true, cond_true]
  rw [e3]; simp only [beq_self_eq_true, cond_true]
  rw [e5]; rfl

/-! ### Signs by values -/

def sgnQ (q : Rat) : Int := if q < 1 then -1 else if q = 1 then 0 else 1

theorem sgn1_val {m : Frac} (h : FracOk m) : sgn1 m = sgnQ (val m) := by
  have hv := val_mul h
  have hd := h.denlo
  have hp : (0 : Rat) < (m.den : Rat) := by exact_mod_cast (show 0 < m.den by omega)
  unfold sgn1 cmpI sgnQ
  rcases Int.lt_trichotomy m.num m.den with q | q | q
  · rw [decide_eq_false (show ¬ m.den < m.num by omega), show (m.num == m.den) = false by simp; omega]
    have hq : (m.num : Rat) < (m.den : Rat) := by exact_mod_cast q
    have : val m < 1 := by
      rcases Rat.le_total (a := 1) (b := val m) with h1 | h1
      · have := Rat.mul_le_mul_of_nonneg_right h1 (Rat.le_of_lt hp)
        grind
      · by_cases h2 : val m = 1
        · grind
        · grind
    rw [if_pos this]; rfl
  · have hne := den_ne h
    have : val m = 1 := by rw [q] at hv; grind
    rw [this, q]
    simp
  · rw [decide_eq_true q]
    have hq : (m.den : Rat) < (m.num : Rat) := by exact_mod_cast q
    have : ¬ val m < 1 ∧ val m ≠ 1 := by
      refine ⟨fun h1 => ?_, fun h1 => ?_⟩
      · have := Rat.mul_le_mul_of_nonneg_right (Rat.le_of_lt h1) (Rat.le_of_lt hp)
        grind
      · rw [h1] at hv; grind
    rw [if_neg this.1, if_neg this.2]; rfl

/-- The measure of a point. -/
def measQ (g : Globe) (q : Vec) : Rat := (val q.x / g.a) * (val q.x / g.a) + (val q.y / g.a) * (val q.y / g.a) + (val q.z / g.b) * (val q.z / g.b)

theorem GlobeOk.ane {g : Globe} (h : GlobeOk g) : (g.a : Rat) ≠ 0 := by have := h.alo; exact_mod_cast (show g.a ≠ 0 by omega)
theorem GlobeOk.bne {g : Globe} (h : GlobeOk g) : (g.b : Rat) ≠ 0 := by have := h.blo; exact_mod_cast (show g.b ≠ 0 by omega)

theorem inside_cases {g : Globe} {q : Vec} (hg : GlobeOk g) (hq : VecOk q) : insideV g q = (sgnQ (measQ g q), 0) ∨ insideV g q = (0, 16) := by
  have a1 := hg.alo; have a2 := hg.ahi; have b1 := hg.blo; have b2 := hg.bhi
  have na := hg.ane; have nb := hg.bne
  unfold insideV insideF andG
  rw [globeOkB_iff.2 hg, vecOkB_iff.2 hq]
  rcases over_cases hq (show 0 < g.a ∧ g.a ≤ 1000000 by omega) (show 0 < g.b ∧ g.b ≤ 1000000 by omega) with ⟨r, e, k, x, y, z⟩ | e
  · rw [e]
    simp only [cond_true, beq_self_eq_true]
    rw [dotV_ok k k]
    rcases dotF_cases k k with ⟨m, e', k', v⟩ | e'
    · rw [e']
      left
      simp only [cond_true, beq_self_eq_true]
      rw [sgn1_val k', v, dotQ, measQ, ← x, ← y, ← z]
      congr 2
      grind
    · rw [e']; exact .inr rfl
  · rw [e]; exact .inr rfl

theorem on_of {g : Globe} {q : Vec} {n : Int} (h : insideV g q = (n, 0)) : onV g q = (n == 0, 0) := by unfold onV; rw [h]; rfl
theorem on_err {g : Globe} {q : Vec} (h : insideV g q = (0, 16)) : onV g q = (false, 16) := by unfold onV; rw [h]; rfl

/-- The plane's measure: what is above it. -/
def planeQ (g : Globe) (p q : Vec) : Rat := (val p.x / g.a) * (val q.x / g.a) + (val p.y / g.a) * (val q.y / g.a) + (val p.z / g.b) * (val q.z / g.b)

theorem side_cases {g : Globe} {p q : Vec} (hg : GlobeOk g) (hp : VecOk p) (hq : VecOk q) (hon : onV g p = (true, 0)) : sideV g p q = (sgnQ (planeQ g p q), 0) ∨ sideV g p q = (0, 16) := by
  have na := hg.ane; have nb := hg.bne
  unfold sideV sideF andG
  rw [globeOkB_iff.2 hg, vecOkB_iff.2 hp, vecOkB_iff.2 hq, hon]
  simp only [Bool.and_self, cond_true, beq_self_eq_true]
  rcases normalV_cases hg hp with ⟨n, e, k, x, y, z⟩ | e
  · rw [e]
    simp only [cond_true, beq_self_eq_true]
    rw [dotV_ok k hq]
    rcases dotF_cases k hq with ⟨m, e', k', v⟩ | e'
    · rw [e']
      left
      simp only [cond_true, beq_self_eq_true]
      rw [sgn1_val k', v, dotQ, planeQ, ← x, ← y, ← z, Rat.intCast_mul, Rat.intCast_mul]
      congr 2
      grind
    · rw [e']; exact .inr rfl
  · rw [e]; exact .inr rfl

/-! ### Places -/

structure UnitQ (u : Frac) : Prop where
  c : BR (val (cosU u)) 800
  s : BR (val (sinU u)) 800
  one : val (cosU u) * val (cosU u) + val (sinU u) * val (sinU u) = 1

theorem unitQ {u : Frac} (h : Sz 20 20 u) : UnitQ u := by
  have q := uq h
  have i := q.i
  have h1 := i.r1; have h2 := i.p; have h3 := i.q
  exact ⟨⟨_, _, ⟨i.r0, q.hc⟩, by omega, h1⟩, ⟨_, _, ⟨i.r0, q.hs⟩, by omega, h1⟩, (q.pair h.ok).one⟩

theorem PlaceQ.ok {g : Globe} {s t : Frac} {v : Vec} (h : PlaceQ g s t v) : VecOk v := ⟨h.x.ok, h.y.ok, h.z.ok⟩

theorem PlaceQ.rel {g : Globe} {s t : Frac} {v : Vec} (h : PlaceQ g s t v) : val v.x / g.a = val (cosU s) * val (cosU t) ∧ val v.y / g.a = val (cosU s) * val (sinU t) ∧ val v.z / g.b = val (sinU s) := by
  have na := h.kg.ane; have nb := h.kg.bne
  rw [h.vx, h.vy, h.vz]
  refine ⟨?_, ?_, ?_⟩ <;> grind

theorem PlaceQ.over {g : Globe} {s t : Frac} {v : Vec} (h : PlaceQ g s t v) : ∃ r, overV v g.a g.b = (r, 0) ∧ VecOk r ∧ val r.x = val (cosU s) * val (cosU t) ∧ val r.y = val (cosU s) * val (sinU t) ∧ val r.z = val (sinU s) := by
  have a1 := h.kg.alo; have a2 := h.kg.ahi; have b1 := h.kg.blo; have b2 := h.kg.bhi
  have us := unitQ h.ks; have ut := unitQ h.kt
  have na := h.kg.ane; have nb := h.kg.bne
  obtain ⟨x, ex, kx, vx⟩ := div_br h.x.ok (k := g.a) (by omega) (by omega) (q := val (cosU s) * val (cosU t)) (by rw [h.vx]; grind) (us.c.mul ut.c) (by decide)
  obtain ⟨y, ey, ky, vy⟩ := div_br h.y.ok (k := g.a) (by omega) (by omega) (q := val (cosU s) * val (sinU t)) (by rw [h.vy]; grind) (us.c.mul ut.s) (by decide)
  obtain ⟨z, ez, kz, vz⟩ := div_br h.z.ok (k := g.b) (by omega) (by omega) (q := val (sinU s)) (by rw [h.vz]; grind) us.s (by decide)
  refine ⟨⟨x, y, z⟩, ?_, ⟨kx, ky, kz⟩, vx, vy, vz⟩
  unfold overV eachV
  rw [ex, ey, ez]
  rfl

theorem PlaceQ.inside {g : Globe} {s t : Frac} {v : Vec} (h : PlaceQ g s t v) : insideV g v = (0, 0) := by
  have us := unitQ h.ks; have ut := unitQ h.kt
  obtain ⟨r, e, k, x, y, z⟩ := h.over
  have o1 := us.one; have o2 := ut.one
  obtain ⟨m, em, km, vm⟩ := dot_br k k (B := 409600000000) (by decide) (by rw [x]; exact (us.c.mul ut.c).mul (us.c.mul ut.c)) (by rw [y]; exact (us.c.mul ut.s).mul (us.c.mul ut.s)) (by rw [z]; exact (us.s.mul us.s).mono (by decide))
    (by
      rw [x, y]
      have : val (cosU s) * val (cosU t) * (val (cosU s) * val (cosU t)) + val (cosU s) * val (sinU t) * (val (cosU s) * val (sinU t)) = val (cosU s) * val (cosU s) := by grind
      rw [this]; exact (us.c.mul us.c).mono (by decide))
    (by
      have : dotQ r r = 1 := by unfold dotQ; rw [x, y, z]; grind
      rw [this]; exact BR.one.mono (by decide))
  have v1 : val m = 1 := by rw [vm]; unfold dotQ; rw [x, y, z]; grind
  unfold insideV insideF andG
  rw [globeOkB_iff.2 h.kg, vecOkB_iff.2 h.ok, e]
  simp only [cond_true, beq_self_eq_true]
  rw [dotV_ok k k, em]
  simp only [cond_true, beq_self_eq_true]
  rw [sgn1_val km, v1]
  rfl
theorem PlaceQ.on {g : Globe} {s t : Frac} {v : Vec} (h : PlaceQ g s t v) : onV g v = (true, 0) := on_of h.inside

theorem PlaceQ.normal {g : Globe} {s t : Frac} {v : Vec} (h : PlaceQ g s t v) : ∃ n, normalV g v = (n, 0) ∧ VecOk n ∧ val n.x * (g.a : Rat) = val (cosU s) * val (cosU t) ∧ val n.y * (g.a : Rat) = val (cosU s) * val (sinU t) ∧ val n.z * (g.b : Rat) = val (sinU s) := by
  have a1 := h.kg.alo; have a2 := h.kg.ahi; have b1 := h.kg.blo; have b2 := h.kg.bhi
  have sa := sq_axis ⟨a1, a2⟩; have sb := sq_axis ⟨b1, b2⟩
  have us := unitQ h.ks; have ut := unitQ h.kt
  have na := h.kg.ane; have nb := h.kg.bne
  have ia : (1 / (g.a : Rat)) * (g.a : Rat) = 1 := Rat.div_mul_cancel na
  have ib : (1 / (g.b : Rat)) * (g.b : Rat) = 1 := Rat.div_mul_cancel nb
  obtain ⟨x, ex, kx, vx⟩ := div_br h.x.ok (k := g.a * g.a) sa.1 sa.2 (q := val (cosU s) * val (cosU t) * (1 / (g.a : Rat))) (by rw [h.vx, Rat.intCast_mul]; grind) ((us.c.mul ut.c).mul (BR.inv (by omega) ia a2)) (by decide)
  obtain ⟨y, ey, ky, vy⟩ := div_br h.y.ok (k := g.a * g.a) sa.1 sa.2 (q := val (cosU s) * val (sinU t) * (1 / (g.a : Rat))) (by rw [h.vy, Rat.intCast_mul]; grind) ((us.c.mul ut.s).mul (BR.inv (by omega) ia a2)) (by decide)
  obtain ⟨z, ez, kz, vz⟩ := div_br h.z.ok (k := g.b * g.b) sb.1 sb.2 (q := val (sinU s) * (1 / (g.b : Rat))) (by rw [h.vz, Rat.intCast_mul]; grind) (us.s.mul (BR.inv (by omega) ib b2)) (by decide)
  refine ⟨⟨x, y, z⟩, ?_, ⟨kx, ky, kz⟩, ?_, ?_, ?_⟩
  · unfold normalV overV eachV
    rw [globeOkB_iff.2 h.kg, vecOkB_iff.2 h.ok, ex, ey, ez]
    rfl
  · simp only; rw [vx]; grind
  · simp only; rw [vy]; grind
  · simp only; rw [vz]; grind

theorem PlaceQ.own {g : Globe} {s t : Frac} {v n : Vec} (h : PlaceQ g s t v) (e : normalV g v = (n, 0)) : dotV n v = (oneF, 0) := by
  have us := unitQ h.ks; have ut := unitQ h.kt
  have o1 := us.one; have o2 := ut.one
  have na := h.kg.ane; have nb := h.kg.bne
  obtain ⟨n', e', k, x, y, z⟩ := h.normal
  rw [e] at e'
  cases e'
  have vx := h.vx; have vy := h.vy; have vz := h.vz
  have px : val n.x * val v.x = (val (cosU s) * val (cosU t)) * (val (cosU s) * val (cosU t)) := by rw [vx]; grind
  have py : val n.y * val v.y = (val (cosU s) * val (sinU t)) * (val (cosU s) * val (sinU t)) := by rw [vy]; grind
  have pz : val n.z * val v.z = val (sinU s) * val (sinU s) := by rw [vz]; grind
  obtain ⟨m, em, km, vm⟩ := dot_br k h.ok (B := 409600000000) (by decide) (by rw [px]; exact (us.c.mul ut.c).mul (us.c.mul ut.c)) (by rw [py]; exact (us.c.mul ut.s).mul (us.c.mul ut.s)) (by rw [pz]; exact (us.s.mul us.s).mono (by decide))
    (by
      rw [px, py]
      have : val (cosU s) * val (cosU t) * (val (cosU s) * val (cosU t)) + val (cosU s) * val (sinU t) * (val (cosU s) * val (sinU t)) = val (cosU s) * val (cosU s) := by grind
      rw [this]; exact (us.c.mul us.c).mono (by decide))
    (by
      have : dotQ n v = 1 := by unfold dotQ; rw [px, py, pz]; grind
      rw [this]; exact BR.one.mono (by decide))
  have v1 : val m = 1 := by rw [vm]; unfold dotQ; rw [px, py, pz]; grind
  rw [dotV_ok k h.ok, em, val_inj km one_ok (by rw [v1, val_one])]

theorem PlaceQ.side {g : Globe} {s t : Frac} {v : Vec} (h : PlaceQ g s t v) : sideV g v v = (0, 0) := by
  obtain ⟨n, e, _⟩ := h.normal
  unfold sideV sideF andG
  rw [globeOkB_iff.2 h.kg, vecOkB_iff.2 h.ok, h.on, e]
  simp only [Bool.and_self, cond_true, beq_self_eq_true]
  rw [h.own e]
  rfl

/-! ### The law of normals -/

def normTail (K : AV → List Blk → Ans) (p n : Vec) (x y z : Frac × Int) : Ans :=
  chain K [(dotV n p).2 == 0, eqAll (dotV n p).1.cells oneF.cells, x.2 == 0, y.2 == 0, z.2 == 0, eqAll p.cells (Vec.mk x.1 y.1 z.1).cells, true]
def normMore (K : AV → List Blk → Ans) (g : Globe) (p n : Vec × Int) : Ans :=
  orT [p.2 != 0, n.2 != 0] (K (rB false) []) (normTail K p.1 n.1 (mulF n.1.x (wholeF (w64 (g.a * g.a)))) (mulF n.1.y (wholeF (w64 (g.a * g.a)))) (mulF n.1.z (wholeF (w64 (g.b * g.b)))))
def lawGeoidNormal (K : AV → List Blk → Ans) (g : Globe) (s t : Frac) : Ans :=
  orT [checkG g != 0, !placedB s t] (K (rB true) []) (normMore K g (atV g s t) (normalV g (atV g s t).1))

theorem given_place {g : Globe} {s t : Frac} (h1 : checkG g = 0) (h2 : placedB s t = true) : atV g s t = (placeV g s t, 0) ∧ PlaceQ g s t (placeV g s t) := by
  have hg : globeOkB g = true := by
    unfold checkG at h1
    cases hg : globeOkB g with
    | false => rw [hg] at h1; cases h1
    | true => rfl
  obtain ⟨ks, kt, _⟩ := placedB_iff h2
  refine ⟨?_, placeQ (globeOkB_iff.1 hg) ks kt⟩
  unfold atV
  rw [hg, h2]
  rfl

theorem lawGeoidNormal_ok {K : AV → List Blk → Ans} {g : Globe} {s t : Frac} : lawGeoidNormal K g s t = K (rB true) [] := by
  unfold lawGeoidNormal
  refine orT_split (fun _ => rfl) fun hs => ?_
  simp only [List.mem_cons, List.not_mem_nil, or_false, forall_eq_or_imp, forall_eq, Bool.not_eq_false', bne_eq_false_iff_eq] at hs
  obtain ⟨e, h⟩ := given_place hs.1 hs.2
  rw [e]
  obtain ⟨n, en, kn, x, y, z⟩ := h.normal
  simp only
  rw [en]
  unfold normMore
  rw [orT_none (by simp)]
  have a1 := h.kg.alo; have a2 := h.kg.ahi; have b1 := h.kg.blo; have b2 := h.kg.bhi
  have sa := sq_axis ⟨a1, a2⟩; have sb := sq_axis ⟨b1, b2⟩
  have wa : FracOk (wholeF (g.a * g.a)) := whole_ok (by omega) (by omega)
  have wb : FracOk (wholeF (g.b * g.b)) := whole_ok (by omega) (by omega)
  have va : val (wholeF (g.a * g.a)) = (g.a : Rat) * (g.a : Rat) := by rw [← Rat.intCast_mul]; exact whole_val _
  have vb : val (wholeF (g.b * g.b)) = (g.b : Rat) * (g.b : Rat) := by rw [← Rat.intCast_mul]; exact whole_val _
  rw [w64_id (n := g.a * g.a) (by omega), w64_id (n := g.b * g.b) (by omega)]
  have qx : val n.x * val (wholeF (g.a * g.a)) = val (placeV g s t).x := by rw [va, h.vx]; grind
  have qy : val n.y * val (wholeF (g.a * g.a)) = val (placeV g s t).y := by rw [va, h.vy]; grind
  have qz : val n.z * val (wholeF (g.b * g.b)) = val (placeV g s t).z := by rw [vb, h.vz]; grind
  obtain ⟨x', ex, kx, vx⟩ := mul_br kn.x wa (by rw [qx]; exact BR.of h.x.ok) (by decide)
  obtain ⟨y', ey, ky, vy⟩ := mul_br kn.y wa (by rw [qy]; exact BR.of h.y.ok) (by decide)
  obtain ⟨z', ez, kz, vz⟩ := mul_br kn.z wb (by rw [qz]; exact BR.of h.z.ok) (by decide)
  simp only
  rw [ex, ey, ez]
  unfold normTail
  rw [h.own en]
  refine chain_true fun b hb => ?_
  simp only [List.mem_cons, List.not_mem_nil, or_false] at hb
  rcases hb with rfl | rfl | rfl | rfl | rfl | rfl | rfl
  · rfl
  · exact eqAll_self ..
  · rfl
  · rfl
  · rfl
  · exact eq_cellsV (vec_eq h.ok ⟨kx, ky, kz⟩ (by simp only; rw [vx, qx]) (by simp only; rw [vy, qy]) (by simp only; rw [vz, qz]))
  · rfl

end Go.Ev
