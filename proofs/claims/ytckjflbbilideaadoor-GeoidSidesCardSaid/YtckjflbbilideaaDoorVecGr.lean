/-
  The law of products of turns. No program here.
-/
import Derived.Test.YtckjflbbilideaaDoorVecKe
namespace Go.Ev
open Go

def groupEnd (K : AV → List Blk → Ans) (axis other : Int) (p : Mat) (lo r : Frac × Int) : Ans :=
  orT [axis != other, r.2 != 0] (bif r.2 == 0 then K (rB true) [] else bif lo.1.num == 0 then K (rB true) [] else K (rB false) [])
    (chain K [(turnF axis r.1).2 == 0, eqAll (turnF axis r.1).1.cells p.cells, true])
def groupTail (K : AV → List Blk → Ans) (axis other : Int) (p : Mat) (st lo hi : Frac × Int) : Ans :=
  orT [st.2 != 0, lo.2 != 0, hi.2 != 0] (K (rB false) []) (groupEnd K axis other p lo (divF hi.1 lo.1))
def groupMore (K : AV → List Blk → Ans) (v : Vec) (axis other : Int) (s t : Frac) (m n p : Mat × Int) : Ans :=
  orT [m.2 != 0, n.2 != 0, p.2 != 0] (K (rB false) [])
    (andT [(applyV n.1 v).2 == 0, (applyV m.1 (applyV n.1 v).1).2 == 0, (applyV p.1 v).2 == 0, !eqAll (applyV m.1 (applyV n.1 v).1).1.cells (applyV p.1 v).1.cells] (K (rB false) [])
      (andT [(isV p.1).2 == 0, !(isV p.1).1] (K (rB false) []) (groupTail K axis other p.1 (mulF s t) (subF oneF (mulF s t).1) (addF s t))))
def lawVecGroup (K : AV → List Blk → Ans) (v : Vec) (axis other : Int) (s t : Frac) : Ans :=
  orT [!smallB v v s, !smallB v v t, decide (axis < 0), decide (axis > 2), decide (other < 0), decide (other > 2), decide (s.num > 20), decide (s.num < -20), decide (t.num > 20), decide (t.num < -20)] (K (rB true) [])
    (groupMore K v axis other s t (turnF axis s) (turnF other t) (prodM (turnF axis s).1 (turnF other t).1))

/-- Cosine and sine of a small parameter are small. -/
theorem PairQ.small {t c s : Frac} (ht : Sz 20 20 t) (h : PairQ (val t) c s) : Sz 800 800 c ∧ Sz 800 800 s := by
  have hv := val_mul ht.ok
  have hd := den_ne ht.ok
  have h1 := h.hc; have h2 := h.hs
  have hc : c.num * (t.den * t.den + t.num * t.num) = (t.den * t.den - t.num * t.num) * c.den := by
    refine of_val h.kc ?_
    rw [Rat.intCast_add, Rat.intCast_sub, Rat.intCast_mul, Rat.intCast_mul]
    grind
  have hs : s.num * (t.den * t.den + t.num * t.num) = (2 * (t.num * t.den)) * s.den := by
    refine of_val h.ks ?_
    rw [Rat.intCast_add, Rat.intCast_mul, Rat.intCast_mul, Rat.intCast_mul, Rat.intCast_mul]
    have : ((2 : Int) : Rat) = 2 := rfl
    grind
  have p1 := ht.dpos
  have q1 : t.den * t.den ≤ 20 * 20 := mul_le (by omega) (by omega) ht.den ht.den
  have q2 : absI t.num * absI t.num ≤ 20 * 20 := mul_le (absI_nn _) (absI_nn _) ht.num ht.num
  have q3 : absI t.num * absI t.den ≤ 20 * 20 := mul_le (absI_nn _) (absI_nn _) ht.num ht.dabs
  have q4 : 0 < t.den * t.den := Int.mul_pos p1 p1
  have q5 : t.num * t.num = absI t.num * absI t.num := by rw [← absI_mul, absI_eq]; have := sq_nn t.num; omega
  have q6 := sq_nn t.num
  obtain ⟨a1, a2⟩ := least h.kc (by omega) hc
  obtain ⟨b1, b2⟩ := least h.ks (by omega) hs
  refine ⟨⟨h.kc, ?_, by omega⟩, ⟨h.ks, ?_, by omega⟩⟩
  · rw [absI_eq] at a2 ⊢; rw [absI_eq] at a2; omega
  · rw [absI_mul, absI_mul] at b2
    rw [show absI 2 = 2 by decide] at b2
    omega

structure SzV (N D : Int) (v : Vec) : Prop where
  x : Sz N D v.x
  y : Sz N D v.y
  z : Sz N D v.z
structure SzM (N D : Int) (m : Mat) : Prop where
  a : SzV N D m.a
  b : SzV N D m.b
  c : SzV N D m.c
theorem SzM.flip {N D : Int} {m : Mat} (h : SzM N D m) : SzM N D (flipM m) := ⟨⟨h.a.x, h.b.x, h.c.x⟩, ⟨h.a.y, h.b.y, h.c.y⟩, ⟨h.a.z, h.b.z, h.c.z⟩⟩

theorem dot_800 {v w : Vec} (hv : SzV 800 800 v) (hw : SzV 800 800 w) : ∃ r, dotF v w = (r, 0) := by
  unfold dotF andF
  obtain ⟨p, e1, k1⟩ := hv.x.mul hw.x (by decide) (by decide)
  obtain ⟨q, e2, k2⟩ := hv.y.mul hw.y (by decide) (by decide)
  obtain ⟨r, e3, k3⟩ := hv.z.mul hw.z (by decide) (by decide)
  obtain ⟨s, e4, k4⟩ := k1.add k2 (by decide) (by decide)
  obtain ⟨t, e5, k5⟩ := k4.add k3 (by decide) (by decide)
  rw [e1]; simp only [addF_nought k1.ok, beq_self_eq_true, cond_true]
  rw [e2]; simp only [beq_self_eq_true, cond_true]
  rw [e4]; simp only [beq_self_eq_true, cond_true]
  rw [e3]; simp only [beq_self_eq_true, cond_true]
  rw [e5]
  exact ⟨t, rfl⟩

theorem row_800 {v : Vec} {m : Mat} (hv : SzV 800 800 v) (hm : SzM 800 800 m) : ∃ r, rowF v m = (r, 0) := by
  unfold rowF eachV
  obtain ⟨x, ex⟩ := dot_800 hv hm.a
  obtain ⟨y, ey⟩ := dot_800 hv hm.b
  obtain ⟨z, ez⟩ := dot_800 hv hm.c
  rw [ex, ey, ez]
  exact ⟨_, rfl⟩

theorem prod_800 {m n : Mat} (hm : SzM 800 800 m) (hn : SzM 800 800 n) : ∃ p, prodF m n = (p, 0) := by
  unfold prodF prodC andG
  obtain ⟨x, ex⟩ := row_800 hm.a hn.flip
  obtain ⟨y, ey⟩ := row_800 hm.b hn.flip
  obtain ⟨z, ez⟩ := row_800 hm.c hn.flip
  rw [ex, ey, ez]
  exact ⟨_, rfl⟩

theorem turn_800 {axis : Int} {c s : Frac} (hc : Sz 800 800 c) (hs : Sz 800 800 s) : SzM 800 800 (turnOf axis c s) := by
  have h0 : Sz 800 800 zeroF := Sz.zero.mono (by decide) (by decide)
  have h1 : Sz 800 800 oneF := Sz.one.mono (by decide) (by decide)
  have hn := hs.neg
  unfold turnOf
  cases axis == 0 with
  | true => exact ⟨⟨h1, h0, h0⟩, ⟨h0, hc, hn⟩, ⟨h0, hs, hc⟩⟩
  | false =>
    cases axis == 1 with
    | true => exact ⟨⟨hc, h0, hs⟩, ⟨h0, h1, h0⟩, ⟨hn, h0, hc⟩⟩
    | false => exact ⟨⟨hc, hn, h0⟩, ⟨hs, hc, h0⟩, ⟨h0, h0, h1⟩⟩

/-- The product of two rotations is one. -/
theorem prod_rot {m n p : Mat} (hm : RotQ m) (hn : RotQ n) (h : ProdQ m (flipM n) p) : RotQ p := by
  have a1 := hm.aa; have a2 := hm.ab; have a3 := hm.ac; have a4 := hm.bb; have a5 := hm.bc; have a6 := hm.cc; have a7 := hm.det
  have b1 := hn.aa; have b2 := hn.ab; have b3 := hn.ac; have b4 := hn.bb; have b5 := hn.bc; have b6 := hn.cc; have b7 := hn.det
  have c1 := h.ax; have c2 := h.ay; have c3 := h.az; have c4 := h.bx; have c5 := h.by'; have c6 := h.bz; have c7 := h.cx; have c8 := h.cy; have c9 := h.cz
  have ok := h.ok
  simp only [dotQ, flipM] at a1 a2 a3 a4 a5 a6 b1 b2 b3 b4 b5 b6 c1 c2 c3 c4 c5 c6 c7 c8 c9
  have key (u v : Vec) (x y z x' y' z' : Rat) (h1 : x = val u.x * val n.a.x + val u.y * val n.b.x + val u.z * val n.c.x) (h2 : y = val u.x * val n.a.y + val u.y * val n.b.y + val u.z * val n.c.y) (h3 : z = val u.x * val n.a.z + val u.y * val n.b.z + val u.z * val n.c.z)
      (h1' : x' = val v.x * val n.a.x + val v.y * val n.b.x + val v.z * val n.c.x) (h2' : y' = val v.x * val n.a.y + val v.y * val n.b.y + val v.z * val n.c.y) (h3' : z' = val v.x * val n.a.z + val v.y * val n.b.z + val v.z * val n.c.z) :
      x * x' + y * y' + z * z' = val u.x * val v.x + val u.y * val v.y + val u.z * val v.z := by
    subst h1 h2 h3 h1' h2' h3'
    clear a1 a2 a3 a4 a5 a6 a7 c1 c2 c3 c4 c5 c6 c7 c8 c9 b7
    generalize val u.x = u1 at *; generalize val u.y = u2 at *; generalize val u.z = u3 at *
    generalize val v.x = v1 at *; generalize val v.y = v2 at *; generalize val v.z = v3 at *
    grind
  refine ⟨ok, ?_, ?_, ?_, ?_, ?_, ?_, ?_⟩
  · exact (key m.a m.a _ _ _ _ _ _ c1 c2 c3 c1 c2 c3).trans a1
  · exact (key m.a m.b _ _ _ _ _ _ c1 c2 c3 c4 c5 c6).trans a2
  · exact (key m.a m.c _ _ _ _ _ _ c1 c2 c3 c7 c8 c9).trans a3
  · exact (key m.b m.b _ _ _ _ _ _ c4 c5 c6 c4 c5 c6).trans a4
  · exact (key m.b m.c _ _ _ _ _ _ c4 c5 c6 c7 c8 c9).trans a5
  · exact (key m.c m.c _ _ _ _ _ _ c7 c8 c9 c7 c8 c9).trans a6
  · have e : detQ p = detQ m * detQ n := by
      unfold detQ
      rw [c1, c2, c3, c4, c5, c6, c7, c8, c9]
      clear key a1 a2 a3 a4 a5 a6 a7 b1 b2 b3 b4 b5 b6 b7 c1 c2 c3 c4 c5 c6 c7 c8 c9 ok h hm hn
      grind
    rw [e, a7, b7]
    grind

theorem prodM_ok {m n : Mat} (hm : MatOk m) (hn : MatOk n) : prodM m n = prodF m n := by unfold prodM; rw [matOkB_iff.2 hm, matOkB_iff.2 hn]; rfl

theorem Sz.of20 {f : Frac} (h : Sz 1000 20 f) (h1 : ¬ f.num > 20) (h2 : ¬ f.num < -20) : Sz 20 20 f := ⟨h.ok, by rw [absI_eq]; omega, h.den⟩

theorem lawVecGroup_ok {K : AV → List Blk → Ans} {v : Vec} {axis other : Int} {s t : Frac} : lawVecGroup K v axis other s t = K (rB true) [] := by
  unfold lawVecGroup
  refine orT_split (fun _ => rfl) fun hs => ?_
  simp only [List.mem_cons, List.not_mem_nil, or_false, forall_eq_or_imp, forall_eq, Bool.not_eq_false', decide_eq_false_iff_not] at hs
  obtain ⟨g1, g2, g3, g4, g5, g6, g7, g8, g9, g10⟩ := hs
  obtain ⟨hv, _, hs⟩ := smallB_iff g1
  obtain ⟨_, _, ht⟩ := smallB_iff g2
  have hs := hs.of20 g7 g8
  have ht := ht.of20 g9 g10
  have kv := hv.ok
  have ha : 0 ≤ axis ∧ axis ≤ 2 := by omega
  have ho : 0 ≤ other ∧ other ≤ 2 := by omega
  obtain ⟨c, s', em, hp⟩ := turn_small (axis := axis) (hs.mono (by decide) (by decide)) ha
  obtain ⟨d, t', en, hq⟩ := turn_small (axis := other) (ht.mono (by decide) (by decide)) ho
  have rm := turn_rot ha hp
  have rn := turn_rot ho hq
  have km := rm.ok; have kn := rn.ok
  obtain ⟨p, ep⟩ := prod_800 (turn_800 (axis := axis) (hp.small hs).1 (hp.small hs).2) (turn_800 (axis := other) (hq.small ht).1 (hq.small ht).2)
  have hpq : ProdQ (turnOf axis c s') (flipM (turnOf other d t')) p := by
    rcases prodC_cases km (flip_ok kn) with ⟨p', e, h⟩ | e
    · rw [show prodC (turnOf axis c s') (flipM (turnOf other d t')) = prodF (turnOf axis c s') (turnOf other d t') from rfl, ep] at e
      cases e; exact h
    · rw [show prodC (turnOf axis c s') (flipM (turnOf other d t')) = prodF (turnOf axis c s') (turnOf other d t') from rfl, ep] at e
      simp at e
  have rp := prod_rot rm rn hpq
  have kp := rp.ok
  rw [em, en]
  simp only
  rw [prodM_ok km kn, ep]
  unfold groupMore
  rw [orT_none (by simp)]
  simp only
  refine andT_split (fun hall => ?_) (andT_split (fun hall => ?_) ?_)
  · exfalso
    simp only [List.mem_cons, List.not_mem_nil, or_false, forall_eq_or_imp, forall_eq, beq_iff_eq] at hall
    obtain ⟨z1, z2, z3, z4⟩ := hall
    rw [applyV_ok kn kv] at z1 z2 z4
    rw [applyV_ok kp kv] at z3 z4
    rcases applyF_cases kn kv with ⟨x, ex, kx, x1, x2, x3⟩ | e
    · rw [ex] at z2 z4
      simp only at z2 z4
      rw [applyV_ok km kx] at z2 z4
      rcases applyF_cases km kx with ⟨y, ey, ky, y1, y2, y3⟩ | e
      · rcases applyF_cases kp kv with ⟨z, ez, kz, w1, w2, w3⟩ | e
        · rw [ey, ez] at z4
          simp only at z4
          have : y = z := by
            refine vec_eq ky kz ?_ ?_ ?_
            · rw [y1, w1]; unfold dotQ; rw [x1, x2, x3, hpq.ax, hpq.ay, hpq.az]; simp only [dotQ, flipM]; grind
            · rw [y2, w2]; unfold dotQ; rw [x1, x2, x3, hpq.bx, hpq.by', hpq.bz]; simp only [dotQ, flipM]; grind
            · rw [y3, w3]; unfold dotQ; rw [x1, x2, x3, hpq.cx, hpq.cy, hpq.cz]; simp only [dotQ, flipM]; grind
          rw [this, eqAll_self] at z4
          cases z4
        · rw [e] at z3; simp at z3
      · rw [e] at z2; simp at z2
    · rw [e] at z1; simp at z1
  · exfalso
    simp only [List.mem_cons, List.not_mem_nil, or_false, forall_eq_or_imp, forall_eq, beq_iff_eq] at hall
    rcases rp.is with e | e
    · rw [e] at hall; simp at hall
    · rw [e] at hall; simp at hall
  · obtain ⟨st, e1, k1⟩ := hs.mul ht (by decide) (by decide)
    obtain ⟨lo, e2, k2⟩ := Sz.one.sub k1 (by decide) (by decide)
    obtain ⟨hi, e3, k3⟩ := hs.add ht (by decide) (by decide)
    have v1 := (mul_val hs.ok ht.ok e1).2
    have v2 := (sub_val one_ok k1.ok e2).2
    have v3 := (add_val hs.ok ht.ok e3).2
    rw [val_one] at v2
    unfold groupTail
    rw [e1]; simp only
    rw [e2, e3, orT_none (by simp)]
    simp only
    unfold groupEnd
    by_cases h0 : lo.num = 0
    · have : (divF hi lo).2 = 18 := by
        unfold divF
        rw [fracOkB_iff.2 k3.ok, fracOkB_iff.2 k2.ok, show (lo.num == 0) = true by simpa using h0]
        rfl
      rw [this, orT_any (by simp), show (lo.num == 0) = true by simpa using h0]
      rfl
    · obtain ⟨r, e4, k4⟩ := k3.div k2 h0 (by decide) (by decide)
      obtain ⟨kr, n0, v4⟩ := div_val k3.ok k2.ok e4
      rw [e4]
      refine orT_split (fun _ => rfl) fun hh => ?_
      simp only [List.mem_cons, List.not_mem_nil, or_false, forall_eq_or_imp, forall_eq, bne_eq_false_iff_eq] at hh
      obtain ⟨hax, _⟩ := hh
      subst hax
      have kr' : Sz 1000 1000 r := by
        have hvs := val_mul hs.ok; have hvt := val_mul ht.ok
        have hds := den_ne hs.ok; have hdt := den_ne ht.ok
        have p1 := hs.dpos; have p2 := ht.dpos
        have q1 : absI s.num * absI t.den ≤ 20 * 20 := mul_le (absI_nn _) (absI_nn _) hs.num ht.dabs
        have q2 : absI t.num * absI s.den ≤ 20 * 20 := mul_le (absI_nn _) (absI_nn _) ht.num hs.dabs
        have q3 : absI s.den * absI t.den ≤ 20 * 20 := mul_le (absI_nn _) (absI_nn _) hs.dabs ht.dabs
        have q4 : absI s.num * absI t.num ≤ 20 * 20 := mul_le (absI_nn _) (absI_nn _) hs.num ht.num
        rw [← absI_mul] at q1 q2 q3 q4
        have hr : r.num * (s.den * t.den - s.num * t.num) = (s.num * t.den + t.num * s.den) * r.den := by
          refine of_val kr ?_
          rw [Rat.intCast_add, Rat.intCast_sub, Rat.intCast_mul, Rat.intCast_mul, Rat.intCast_mul, Rat.intCast_mul]
          rw [v3, v2, v1] at v4
          grind
        have hne : s.den * t.den - s.num * t.num ≠ 0 := by
          intro h
          have h' : ((s.den * t.den - s.num * t.num : Int) : Rat) = 0 := by rw [h]; rfl
          rw [Rat.intCast_sub, Rat.intCast_mul, Rat.intCast_mul] at h'
          apply n0
          rw [v2, v1]
          grind
        have b1 := absI_add_le (s.num * t.den) (t.num * s.den)
        have b2 := absI_sub_le (s.den * t.den) (s.num * t.num)
        rcases Int.lt_or_le 0 (s.den * t.den - s.num * t.num) with hpos | hneg
        · obtain ⟨a1, a2⟩ := least kr hpos hr
          refine ⟨kr, by omega, ?_⟩
          rw [absI_of_pos hpos] at b2
          omega
        · obtain ⟨a1, a2⟩ := least kr (n := -(s.num * t.den + t.num * s.den)) (d := -(s.den * t.den - s.num * t.num)) (by omega) (by rw [Int.mul_neg, hr, Int.neg_mul])
          rw [absI_neg] at a2
          refine ⟨kr, by omega, ?_⟩
          rw [← absI_neg, absI_of_pos (show 0 < -(s.den * t.den - s.num * t.num) by omega)] at b2
          omega
      obtain ⟨c3, s3, e5, h3⟩ := turn_small (axis := axis) kr' ha
      rw [e5]
      have rr := turn_rot ha h3
      have hw : turnOf axis c3 s3 = p := by
        have f1 := hp.hc; have f2 := hp.hs; have f3 := hq.hc; have f4 := hq.hs; have f5 := h3.hc; have f6 := h3.hs
        have n1 := sq_pos (val s); have n2 := sq_pos (val t); have n3 := sq_pos (val r)
        have m1 := val_neg hp.ks; have m2 := val_neg hq.ks; have m3 := val_neg h3.ks
        have hC : val c3 = val c * val d - val s' * val t' := by
          rw [v2, v1] at n0
          rw [v3, v2, v1] at v4
          grind
        have hS : val s3 = val s' * val d + val c * val t' := by
          rw [v2, v1] at n0
          rw [v3, v2, v1] at v4
          grind
        refine mat_eq rr.ok kp ?_ ?_ ?_ ?_ ?_ ?_ ?_ ?_ ?_
        · rw [hpq.ax]; rcases axis_cases ha with rfl | rfl | rfl <;> simp only [turn0, turn1, turn2, flipM, dotQ, val_one, val_zero, m1, m2] <;> grind
        · rw [hpq.ay]; rcases axis_cases ha with rfl | rfl | rfl <;> simp only [turn0, turn1, turn2, flipM, dotQ, val_one, val_zero, m1, m2, m3] <;> grind
        · rw [hpq.az]; rcases axis_cases ha with rfl | rfl | rfl <;> simp only [turn0, turn1, turn2, flipM, dotQ, val_one, val_zero, m1, m2] <;> grind
        · rw [hpq.bx]; rcases axis_cases ha with rfl | rfl | rfl <;> simp only [turn0, turn1, turn2, flipM, dotQ, val_one, val_zero, m1, m2] <;> grind
        · rw [hpq.by']; rcases axis_cases ha with rfl | rfl | rfl <;> simp only [turn0, turn1, turn2, flipM, dotQ, val_one, val_zero, m1, m2] <;> grind
        · rw [hpq.bz]; rcases axis_cases ha with rfl | rfl | rfl <;> simp only [turn0, turn1, turn2, flipM, dotQ, val_one, val_zero, m1, m2, m3] <;> grind
        · rw [hpq.cx]; rcases axis_cases ha with rfl | rfl | rfl <;> simp only [turn0, turn1, turn2, flipM, dotQ, val_one, val_zero, m1, m2, m3] <;> grind
        · rw [hpq.cy]; rcases axis_cases ha with rfl | rfl | rfl <;> simp only [turn0, turn1, turn2, flipM, dotQ, val_one, val_zero, m1, m2] <;> grind
        · rw [hpq.cz]; rcases axis_cases ha with rfl | rfl | rfl <;> simp only [turn0, turn1, turn2, flipM, dotQ, val_one, val_zero, m1, m2] <;> grind
      refine chain_true fun b hb => ?_
      simp only [List.mem_cons, List.not_mem_nil, or_false] at hb
      rcases hb with rfl | rfl | rfl
      · rfl
      · exact eq_cellsM hw
      · rfl

end Go.Ev
