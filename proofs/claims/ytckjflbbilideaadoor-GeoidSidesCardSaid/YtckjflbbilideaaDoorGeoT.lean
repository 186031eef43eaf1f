/-
  The law of horizons: other places lie below. No program here.
-/
import Derived.Test.YtckjflbbilideaaDoorGeoL
namespace Go.Ev
open Go

def touchIn (K : AV → List Blk → Ans) (n side : Int × Int) : Ans := andT [n.2 == 0, side.2 == 0, decide (n.1 < 0), side.1 != -1] (K (rB false) []) (K (rB true) [])
def touchMore (K : AV → List Blk → Ans) (a b : Vec × Int) (own other n side : Int × Int) : Ans :=
  orT [a.2 != 0, b.2 != 0, own.2 != 0, own.1 != 0] (K (rB false) [])
    (andT [other.2 != 0, other.2 != 16] (K (rB false) [])
      (andT [other.2 == 0, !(eqAll a.1.cells b.1.cells == (other.1 == 0))] (K (rB false) [])
        (andT [other.2 == 0, decide (other.1 > 0)] (K (rB false) []) (touchIn K n side))))
def lawGeoidTouch (K : AV → List Blk → Ans) (g : Globe) (s t u v : Frac) (q : Vec) : Ans :=
  orT [checkG g != 0, !placedB s t, !placedB u v] (K (rB true) [])
    (touchMore K (atV g s t) (atV g u v) (sideV g (atV g s t).1 (atV g s t).1) (sideV g (atV g s t).1 (atV g u v).1) (insideV g q) (sideV g (atV g s t).1 q))

theorem cells_inj {a b : Vec} (h : eqAll a.cells b.cells = true) : a = b := by
  simp only [Vec.cells, eqAll, D.eq, Bool.and_eq_true, beq_iff_eq, and_true] at h
  obtain ⟨⟨a1, a2⟩, ⟨a3, a4⟩, ⟨a5, a6⟩⟩ := a
  obtain ⟨⟨b1, b2⟩, ⟨b3, b4⟩, ⟨b5, b6⟩⟩ := b
  simp only at h
  obtain ⟨h1, h2, h3, h4, h5, h6⟩ := h
  subst h1 h2 h3 h4 h5 h6
  rfl

theorem rat_sq (x : Rat) : 0 ≤ x * x := by
  rcases Rat.le_total (a := 0) (b := x) with h | h
  · exact Rat.mul_nonneg h h
  · have : 0 ≤ (-x) * (-x) := Rat.mul_nonneg (by grind) (by grind)
    grind
theorem rat_sq0 {x : Rat} (h : x * x = 0) : x = 0 := by grind

/-- Below the horizon of a point on the globe. -/
theorem below {a b c x y z m : Rat} (h1 : a * a + b * b + c * c = 1) (h2 : x * x + y * y + z * z = m) (hm : m ≤ 1) : a * x + b * y + c * z ≤ 1 ∧ (a * x + b * y + c * z = 1 → m = 1 ∧ a = x ∧ b = y ∧ c = z) := by
  have s1 := rat_sq (a - x); have s2 := rat_sq (b - y); have s3 := rat_sq (c - z)
  have e : (a - x) * (a - x) + (b - y) * (b - y) + (c - z) * (c - z) = 1 + m - 2 * (a * x + b * y + c * z) := by grind
  refine ⟨by grind, fun h => ?_⟩
  have z1 : (a - x) * (a - x) = 0 := by grind
  have z2 : (b - y) * (b - y) = 0 := by grind
  have z3 : (c - z) * (c - z) = 0 := by grind
  have w1 := rat_sq0 z1; have w2 := rat_sq0 z2; have w3 := rat_sq0 z3
  refine ⟨by grind, by grind, by grind, by grind⟩

theorem PlaceQ.meas {g : Globe} {s t : Frac} {v : Vec} (h : PlaceQ g s t v) : measQ g v = 1 := by
  obtain ⟨x, y, z⟩ := h.rel
  have o1 := (unitQ h.ks).one; have o2 := (unitQ h.kt).one
  unfold measQ
  rw [x, y, z]
  grind

theorem PlaceQ.eq {g : Globe} {s t u v : Frac} {a b : Vec} (h : PlaceQ g s t a) (h' : PlaceQ g u v b) (hx : val a.x / g.a = val b.x / g.a) (hy : val a.y / g.a = val b.y / g.a) (hz : val a.z / g.b = val b.z / g.b) : a = b := by
  have na := h.kg.ane; have nb := h.kg.bne
  exact vec_eq h.ok h'.ok (by grind) (by grind) (by grind)

theorem sgnQ_lt {q : Rat} (h : q < 1) : sgnQ q = -1 := by unfold sgnQ; rw [if_pos h]
theorem sgnQ_eq {q : Rat} (h : q = 1) : sgnQ q = 0 := by subst h; rfl
theorem sgnQ_neg {q : Rat} (h : sgnQ q < 0) : q < 1 := by
  unfold sgnQ at h
  split at h
  · assumption
  · split at h <;> omega

theorem lawGeoidTouch_ok {K : AV → List Blk → Ans} {g : Globe} {s t u v : Frac} {q : Vec} : lawGeoidTouch K g s t u v q = K (rB true) [] := by
  unfold lawGeoidTouch
  refine orT_split (fun _ => rfl) fun hs => ?_
  simp only [List.mem_cons, List.not_mem_nil, or_false, forall_eq_or_imp, forall_eq, Bool.not_eq_false', bne_eq_false_iff_eq] at hs
  obtain ⟨ea, ha⟩ := given_place hs.1 hs.2.1
  obtain ⟨eb, hb⟩ := given_place hs.1 hs.2.2
  rw [ea, eb]
  simp only
  rw [ha.side]
  unfold touchMore
  rw [orT_none (by simp)]
  have key := below (m := measQ g (placeV g u v)) ha.meas rfl (by rw [hb.meas]; exact Rat.le_refl)
  have hin : touchIn K (insideV g q) (sideV g (placeV g s t) q) = K (rB true) [] := by
    unfold touchIn
    refine andT_split (fun hall => ?_) rfl
    exfalso
    simp only [List.mem_cons, List.not_mem_nil, or_false, forall_eq_or_imp, forall_eq, beq_iff_eq, decide_eq_true_eq, bne_iff_ne, ne_eq] at hall
    obtain ⟨h1, h2, h3, h4⟩ := hall
    have hq : VecOk q := by
      cases hq : vecOkB q with
      | true => exact vecOkB_iff.1 hq
      | false =>
        unfold insideV at h1
        rw [globeOkB_iff.2 ha.kg, hq] at h1
        simp at h1
    rcases inside_cases ha.kg hq with e | e
    · rcases side_cases ha.kg ha.ok hq ha.on with e' | e'
      · rw [e] at h3
        rw [e'] at h4
        have hm := sgnQ_neg h3
        have k2 := below (m := measQ g q) ha.meas rfl (Rat.le_of_lt hm)
        have hp : planeQ g (placeV g s t) q < 1 := by
          by_cases h1' : planeQ g (placeV g s t) q = 1
          · have := (k2.2 h1').1; grind
          · have h5 : planeQ g (placeV g s t) q ≤ 1 := k2.1
            grind
        exact h4 (sgnQ_lt hp)
      · rw [e'] at h2; simp at h2
    · rw [e] at h1; simp at h1
  rcases side_cases ha.kg ha.ok hb.ok ha.on with e | e
  · rw [e]
    have hle : planeQ g (placeV g s t) (placeV g u v) ≤ 1 := key.1
    have heq : planeQ g (placeV g s t) (placeV g u v) = 1 ↔ placeV g s t = placeV g u v := by
      constructor
      · intro h
        obtain ⟨_, x, y, z⟩ := key.2 h
        exact ha.eq hb x y z
      · intro h
        rw [← h]
        exact ha.meas
    refine andT_split (fun hall => by simp at hall) (andT_split (fun hall => ?_) (andT_split (fun hall => ?_) hin))
    · exfalso
      simp only [List.mem_cons, List.not_mem_nil, or_false, forall_eq_or_imp, forall_eq, beq_self_eq_true, true_and, Bool.not_eq_true'] at hall
      by_cases h : placeV g s t = placeV g u v
      · rw [sgnQ_eq (heq.2 h), h, eqAll_self] at hall
        simp at hall
      · have hlt : planeQ g (placeV g s t) (placeV g u v) < 1 := by
          have : planeQ g (placeV g s t) (placeV g u v) ≠ 1 := fun h' => h (heq.1 h')
          grind
        rw [sgnQ_lt hlt] at hall
        have hne : eqAll (placeV g s t).cells (placeV g u v).cells = false := by
          cases hc : eqAll (placeV g s t).cells (placeV g u v).cells with
          | false => rfl
          | true => exact absurd (cells_inj hc) h
        rw [hne] at hall
        simp at hall
    · exfalso
      simp only [List.mem_cons, List.not_mem_nil, or_false, forall_eq_or_imp, forall_eq, beq_self_eq_true, true_and, decide_eq_true_eq] at hall
      by_cases h : planeQ g (placeV g s t) (placeV g u v) = 1
      · rw [sgnQ_eq h] at hall; omega
      · rw [sgnQ_lt (by grind)] at hall; omega
  · rw [e]
    refine andT_split (fun hall => by simp at hall) (andT_split (fun hall => by simp at hall) (andT_split (fun hall => by simp at hall) hin))

end Go.Ev
