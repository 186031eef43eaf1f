/-
  The law of points that are turned about the axis. No program here.
-/
import Derived.Test.YtckjflbbilideaaDoorGeoT
namespace Go.Ev
open Go

def turnedEnd (K : AV → List Blk → Ans) (a b c d : Int × Int) : Ans :=
  orT [a.2 != 0, b.2 != 0, a.1 == b.1] (orT [c.2 != 0, d.2 != 0, c.1 == d.1] (K (rB true) []) (K (rB false) [])) (K (rB false) [])
def turnedMore (K : AV → List Blk → Ans) (m : Mat × Int) (p x y : Vec × Int) (on : Bool × Int) (a b c d : Int × Int) : Ans :=
  orT [m.2 != 0, p.2 != 0, x.2 != 0] (K (rB false) [])
    (andT [on.2 == 0, !on.1] (K (rB false) []) (andT [on.2 != 0, on.2 != 16] (K (rB false) [])
      (orT [y.2 != 0, on.2 != 0] (K (rB true) []) (turnedEnd K a b c d))))
def turnedAll (K : AV → List Blk → Ans) (g : Globe) (q : Vec) (m : Mat × Int) (p : Vec × Int) : Ans :=
  turnedMore K m p (applyV m.1 p.1) (applyV m.1 q) (onV g (applyV m.1 p.1).1) (insideV g q) (insideV g (applyV m.1 q).1) (sideV g p.1 q) (sideV g (applyV m.1 p.1).1 (applyV m.1 q).1)
def lawGeoidTurned (K : AV → List Blk → Ans) (g : Globe) (s t w : Frac) (q : Vec) : Ans :=
  orT [checkG g != 0, !placedB s t, !paramB w, checkV q != 0] (K (rB true) []) (turnedAll K g q (turnF 2 w) (atV g s t))

theorem BR.sum {u v : Frac} (ha : UQ u (cosU u) (sinU u)) (hb : UQ v (cosU v) (sinU v)) : BR (val (cosU u) * val (cosU v) - val (sinU u) * val (sinU v)) 1280000 ∧ BR (val (sinU u) * val (cosU v) + val (cosU u) * val (sinU v)) 1280000 := by
  have i := ha.i; have j := hb.i
  have r1 : Rep (val (cosU u)) _ _ := ⟨i.r0, ha.hc⟩
  have r2 : Rep (val (sinU u)) _ _ := ⟨i.r0, ha.hs⟩
  have r3 : Rep (val (cosU v)) _ _ := ⟨j.r0, hb.hc⟩
  have r4 : Rep (val (sinU v)) _ _ := ⟨j.r0, hb.hs⟩
  have i0 := i.r0; have i1 := i.r1; have i2 := i.p; have i3 := i.q
  have j0 := j.r0; have j1 := j.r1; have j2 := j.p; have j3 := j.q
  generalize u.den * u.den + u.num * u.num = R at *
  generalize u.den * u.den - u.num * u.num = P at *
  generalize 2 * u.num * u.den = Q at *
  generalize v.den * v.den + v.num * v.num = R' at *
  generalize v.den * v.den - v.num * v.num = P' at *
  generalize 2 * v.num * v.den = Q' at *
  have d1 : R * R' ≤ 800 * 800 := mul_le (by omega) (by omega) i1 j1
  have d2 : absI P * absI P' ≤ 800 * 800 := mul_le (absI_nn _) (absI_nn _) (by omega) (by omega)
  have d3 : absI Q * absI Q' ≤ 800 * 800 := mul_le (absI_nn _) (absI_nn _) (by omega) (by omega)
  have d4 : absI Q * absI P' ≤ 800 * 800 := mul_le (absI_nn _) (absI_nn _) (by omega) (by omega)
  have d5 : absI P * absI Q' ≤ 800 * 800 := mul_le (absI_nn _) (absI_nn _) (by omega) (by omega)
  rw [← absI_mul] at d2 d3 d4 d5
  have v1 := r1.val; have v2 := r2.val; have v3 := r3.val; have v4 := r4.val
  refine ⟨⟨P * P' - Q * Q', R * R', ⟨Int.mul_pos i0 j0, ?_⟩, ?_, by omega⟩, ⟨Q * P' + P * Q', R * R', ⟨Int.mul_pos i0 j0, ?_⟩, ?_, by omega⟩⟩
  · simp only [Rat.intCast_mul, Rat.intCast_sub]; grind
  · have := absI_sub_le (P * P') (Q * Q'); omega
  · simp only [Rat.intCast_mul, Rat.intCast_add]; grind
  · have := absI_add_le (Q * P') (P * Q'); omega

theorem turn_param {w : Frac} (h : Sz 20 20 w) : turnF 2 w = (turnOf 2 (cosU w) (sinU w), 0) := by
  obtain ⟨c, s, e, hp⟩ := turn_small (axis := 2) (h.mono (by decide) (by decide)) (by omega)
  obtain ⟨e1, e2⟩ := hp.uniq ((uq h).pair h.ok)
  rw [e, e1, e2]

/-- A place that is turned. -/
theorem PlaceQ.turned {g : Globe} {s t w : Frac} {p : Vec} (h : PlaceQ g s t p) (hw : Sz 20 20 w) : ∃ x, applyF (turnOf 2 (cosU w) (sinU w)) p = (x, 0) ∧ VecOk x := by
  have us := unitQ h.ks; have ut := unitQ h.kt; have uw := unitQ hw
  have qw := uq hw
  have hn := val_neg qw.ks.ok
  obtain ⟨b1, b2⟩ := BR.sum qw h.ut
  have a1 := h.kg.alo; have a2 := h.kg.ahi; have c1 := h.kg.blo; have c2 := h.kg.bhi
  have ga : BR (g.a : Rat) 1000 := BR.int (by rw [absI_eq]; omega) (by decide)
  have gb : BR (g.b : Rat) 1000 := BR.int (by rw [absI_eq]; omega) (by decide)
  have km : MatOk (turnOf 2 (cosU w) (sinU w)) := turnOf_ok qw.kc.ok qw.ks.ok
  have vx := h.vx; have vy := h.vy; have vz := h.vz
  have ka := km.a; have kb := km.b; have kc := km.c
  rw [turn2] at ka kb kc
  simp only at ka kb kc
  obtain ⟨x, ex, kx, _⟩ := dot_br ka h.ok (B := 1024000000000) (by decide)
    (by simp only; rw [vx]; exact (uw.c.mul ((ga.mul us.c).mul ut.c)).mono (by decide))
    (by simp only; rw [vy, hn]; exact (uw.s.neg.mul ((ga.mul us.c).mul ut.s)).mono (by decide))
    (by simp only; rw [val_zero]; have : (0 : Rat) * val p.z = 0 := by grind
        rw [this]; exact BR.zero.mono (by decide))
    (by
      simp only; rw [vx, vy, hn]
      have : val (cosU w) * ((g.a : Rat) * val (cosU s) * val (cosU t)) + -val (sinU w) * ((g.a : Rat) * val (cosU s) * val (sinU t)) = ((g.a : Rat) * val (cosU s)) * (val (cosU w) * val (cosU t) - val (sinU w) * val (sinU t)) := by grind
      rw [this]; exact ((ga.mul us.c).mul b1).mono (by decide))
    (by
      unfold dotQ; simp only; rw [vx, vy, hn, val_zero]
      have : val (cosU w) * ((g.a : Rat) * val (cosU s) * val (cosU t)) + -val (sinU w) * ((g.a : Rat) * val (cosU s) * val (sinU t)) + 0 * val p.z = ((g.a : Rat) * val (cosU s)) * (val (cosU w) * val (cosU t) - val (sinU w) * val (sinU t)) := by grind
      rw [this]; exact ((ga.mul us.c).mul b1).mono (by decide))
  obtain ⟨y, ey, ky, _⟩ := dot_br kb h.ok (B := 1024000000000) (by decide)
    (by simp only; rw [vx]; exact (uw.s.mul ((ga.mul us.c).mul ut.c)).mono (by decide))
    (by simp only; rw [vy]; exact (uw.c.mul ((ga.mul us.c).mul ut.s)).mono (by decide))
    (by simp only; rw [val_zero]; have : (0 : Rat) * val p.z = 0 := by grind
        rw [this]; exact BR.zero.mono (by decide))
    (by
      simp only; rw [vx, vy]
      have : val (sinU w) * ((g.a : Rat) * val (cosU s) * val (cosU t)) + val (cosU w) * ((g.a : Rat) * val (cosU s) * val (sinU t)) = ((g.a : Rat) * val (cosU s)) * (val (sinU w) * val (cosU t) + val (cosU w) * val (sinU t)) := by grind
      rw [this]; exact ((ga.mul us.c).mul b2).mono (by decide))
    (by
      unfold dotQ; simp only; rw [vx, vy, val_zero]
      have : val (sinU w) * ((g.a : Rat) * val (cosU s) * val (cosU t)) + val (cosU w) * ((g.a : Rat) * val (cosU s) * val (sinU t)) + 0 * val p.z = ((g.a : Rat) * val (cosU s)) * (val (sinU w) * val (cosU t) + val (cosU w) * val (sinU t)) := by grind
      rw [this]; exact ((ga.mul us.c).mul b2).mono (by decide))
  obtain ⟨z, ez, kz, _⟩ := dot_br kc h.ok (B := 1024000000000) (by decide)
    (by simp only; rw [val_zero]; have : (0 : Rat) * val p.x = 0 := by grind
        rw [this]; exact BR.zero.mono (by decide))
    (by simp only; rw [val_zero]; have : (0 : Rat) * val p.y = 0 := by grind
        rw [this]; exact BR.zero.mono (by decide))
    (by simp only; rw [val_one, vz]; have : (1 : Rat) * ((g.b : Rat) * val (sinU s)) = (g.b : Rat) * val (sinU s) := by grind
        rw [this]; exact (gb.mul us.s).mono (by decide))
    (by simp only; rw [val_zero]; have : (0 : Rat) * val p.x + 0 * val p.y = 0 := by grind
        rw [this]; exact BR.zero.mono (by decide))
    (by unfold dotQ; simp only; rw [val_zero, val_one, vz]; have : (0 : Rat) * val p.x + 0 * val p.y + 1 * ((g.b : Rat) * val (sinU s)) = (g.b : Rat) * val (sinU s) := by grind
        rw [this]; exact (gb.mul us.s).mono (by decide))
  refine ⟨⟨x, y, z⟩, ?_, kx, ky, kz⟩
  unfold applyF
  rw [turn2]
  unfold eachV
  simp only [ex, ey, ez]
  rfl

theorem lawGeoidTurned_ok {K : AV → List Blk → Ans} {g : Globe} {s t w : Frac} {q : Vec} : lawGeoidTurned K g s t w q = K (rB true) [] := by
  unfold lawGeoidTurned
  refine orT_split (fun _ => rfl) fun hs => ?_
  simp only [List.mem_cons, List.not_mem_nil, or_false, forall_eq_or_imp, forall_eq, Bool.not_eq_false', bne_eq_false_iff_eq] at hs
  obtain ⟨h1, h2, h3, h4⟩ := hs
  obtain ⟨ep, hp⟩ := given_place h1 h2
  have kw := paramB_iff.1 h3
  have kq : VecOk q := by
    unfold checkV at h4
    cases hq : vecOkB q with
    | true => exact vecOkB_iff.1 hq
    | false => rw [hq] at h4; cases h4
  have qw := uq kw
  have hn := val_neg qw.ks.ok
  have o1 := (unitQ kw).one
  have na := hp.kg.ane; have nb := hp.kg.bne
  rw [ep, turn_param kw]
  unfold turnedAll
  have km : MatOk (turnOf 2 (cosU w) (sinU w)) := turnOf_ok qw.kc.ok qw.ks.ok
  simp only
  rw [applyV_ok km hp.ok, applyV_ok km kq]
  obtain ⟨x, ex, kx⟩ := hp.turned kw
  have vx : val x.x = val (cosU w) * val (placeV g s t).x - val (sinU w) * val (placeV g s t).y ∧ val x.y = val (sinU w) * val (placeV g s t).x + val (cosU w) * val (placeV g s t).y ∧ val x.z = val (placeV g s t).z := by
    rcases applyF_cases km hp.ok with ⟨x', e, _, a1, a2, a3⟩ | e
    · rw [ex] at e
      cases e
      rw [a1, a2, a3, turn2]
      simp only [dotQ, hn, val_zero, val_one]
      refine ⟨?_, ?_, ?_⟩ <;> grind
    · rw [ex] at e; simp at e
  obtain ⟨x1, x2, x3⟩ := vx
  have mx : measQ g x = 1 := by
    rw [← hp.meas]
    unfold measQ
    rw [x1, x2, x3]
    grind
  rw [ex]
  unfold turnedMore
  rw [orT_none (by simp)]
  simp only
  rcases inside_cases hp.kg kx with e | e
  · have hon : onV g x = (true, 0) := by rw [on_of e, sgnQ_eq mx]; rfl
    rw [hon]
    refine andT_split (fun hall => by simp at hall) (andT_split (fun hall => by simp at hall) (orT_split (fun _ => rfl) fun hh => ?_))
    simp only [List.mem_cons, List.not_mem_nil, or_false, forall_eq_or_imp, forall_eq, bne_eq_false_iff_eq] at hh
    rcases applyF_cases km kq with ⟨y, ey, ky, y1, y2, y3⟩ | e'
    · rw [ey]
      rw [turn2] at y1 y2 y3
      simp only [dotQ, hn, val_zero, val_one] at y1 y2 y3
      have my : measQ g y = measQ g q := by
        unfold measQ
        rw [y1, y2, y3]
        grind
      have py : planeQ g x y = planeQ g (placeV g s t) q := by
        unfold planeQ
        rw [y1, y2, y3, x1, x2, x3]
        grind
      unfold turnedEnd
      have e1 : orT [(insideV g q).2 != 0, (insideV g y).2 != 0, (insideV g q).1 == (insideV g y).1] (K (rB true) []) (K (rB false) []) = K (rB true) [] := by
        rcases inside_cases hp.kg kq with f1 | f1
        · rcases inside_cases hp.kg ky with f2 | f2
          · rw [f1, f2, my]; exact orT_any (by simp)
          · rw [f2]; exact orT_any (by simp)
        · rw [f1]; exact orT_any (by simp)
      have e2 : orT [(sideV g (placeV g s t) q).2 != 0, (sideV g x y).2 != 0, (sideV g (placeV g s t) q).1 == (sideV g x y).1] (K (rB true) []) (K (rB false) []) = K (rB true) [] := by
        rcases side_cases hp.kg hp.ok kq hp.on with f1 | f1
        · rcases side_cases hp.kg kx ky hon with f2 | f2
          · rw [f1, f2, py]; exact orT_any (by simp)
          · rw [f2]; exact orT_any (by simp)
        · rw [f1]; exact orT_any (by simp)
      rw [e2]
      exact e1
    · rw [e'] at hh; simp at hh
  · rw [on_err e]
    refine andT_split (fun hall => by simp at hall) (andT_split (fun hall => by simp at hall) (orT_split (fun _ => rfl) fun hh => ?_))
    simp at hh

end Go.Ev
