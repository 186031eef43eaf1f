/-
  The law of cross products. No program here.
-/
import Derived.Test.YtmiibelbmikieaaDoorVecL
namespace Go.Ev
open Go

def crossTail (K : AV → List Blk → Ans) (x y z det : Frac × Int) (fl : Mat × Int) (tu : Frac × Int) : Ans :=
  orT [x.2 != 0, y.2 != 0, z.2 != 0, det.2 != 0, fl.2 != 0, tu.2 != 0]
    (errT K x.2 (errT K y.2 (errT K z.2 (bif fl.2 == 0 then K (rB true) [] else K (rB false) []))))
    (chain K [eqAll x.1.cells zeroF.cells, eqAll y.1.cells zeroF.cells, eqAll z.1.cells det.1.cells, eqAll tu.1.cells det.1.cells, true])
def crossMore (K : AV → List Blk → Ans) (v w u : Vec) (c d : Vec × Int) : Ans :=
  orT [c.2 != 0, d.2 != 0, !eqAll c.1.cells (negV d.1).cells] (K (rB false) [])
    (crossTail K (dotV c.1 v) (dotV c.1 w) (dotV u c.1) (detV ⟨u, v, w⟩) (flipV ⟨u, v, w⟩) (detV (flipV ⟨u, v, w⟩).1))
def lawVecCross (K : AV → List Blk → Ans) (v w u : Vec) : Ans := orT [!smallB v w oneF, !smallB u u oneF] (K (rB true) []) (crossMore K v w u (crossV v w) (crossV w v))

theorem cross_no_err {v w : Vec} (hv : SmallV v) (hw : SmallV w) : ∃ u, crossF v w = (u, 0) := by
  unfold crossF eachV
  obtain ⟨x, ex⟩ := cross_small hv.y hw.z hv.z hw.y (by decide) (by decide) (by decide) (by decide)
  obtain ⟨y, ey⟩ := cross_small hv.z hw.x hv.x hw.z (by decide) (by decide) (by decide) (by decide)
  obtain ⟨z, ez⟩ := cross_small hv.x hw.y hv.y hw.x (by decide) (by decide) (by decide) (by decide)
  rw [ex, ey, ez]
  exact ⟨_, rfl⟩

theorem err_of {v w : Vec} (hv : VecOk v) (hw : VecOk w) : (dotF v w).2 = 0 ∨ (dotF v w).2 = 16 := by
  rcases dotF_cases hv hw with ⟨s, e, _⟩ | e <;> rw [e]
  · exact .inl rfl
  · exact .inr rfl

theorem lawVecCross_ok {K : AV → List Blk → Ans} {v w u : Vec} : lawVecCross K v w u = K (rB true) [] := by
  unfold lawVecCross
  refine orT_split (fun _ => rfl) fun hs => ?_
  simp only [List.mem_cons, List.not_mem_nil, or_false, forall_eq_or_imp, forall_eq, Bool.not_eq_false'] at hs
  obtain ⟨hv, hw, _⟩ := smallB_iff hs.1
  obtain ⟨hu, _, _⟩ := smallB_iff hs.2
  have kv := hv.ok; have kw := hw.ok; have ku := hu.ok
  have km : MatOk ⟨u, v, w⟩ := ⟨ku, kv, kw⟩
  obtain ⟨c, ec⟩ := cross_no_err hv hw
  obtain ⟨d, ed⟩ := cross_no_err hw hv
  obtain ⟨kc, c1, c2, c3⟩ := cross_val kv kw ec
  obtain ⟨kd, d1, d2, d3⟩ := cross_val kw kv ed
  have hneg : c = negV d := by
    refine vec_eq kc (negV_ok kd) ?_ ?_ ?_
    · rw [show (negV d).x = negR d.x from rfl, val_neg kd.x, c1, d1]; grind
    · rw [show (negV d).y = negR d.y from rfl, val_neg kd.y, c2, d2]; grind
    · rw [show (negV d).z = negR d.z from rfl, val_neg kd.z, c3, d3]; grind
  unfold crossMore
  rw [crossV_ok kv kw, crossV_ok kw kv, ec, ed]
  simp only
  rw [orT_none (by rw [← hneg, eqAll_self]; simp), dotV_ok kc kv, dotV_ok kc kw, dotV_ok ku kc]
  have ef : flipV ⟨u, v, w⟩ = (flipM ⟨u, v, w⟩, 0) := by unfold flipV; rw [matOkB_iff.2 km]; rfl
  have kf := flip_ok km
  have e1 : detV ⟨u, v, w⟩ = detF ⟨u, v, w⟩ := by unfold detV; rw [matOkB_iff.2 km]; rfl
  have e2 : detV (flipM ⟨u, v, w⟩) = detF (flipM ⟨u, v, w⟩) := by unfold detV; rw [matOkB_iff.2 kf]; rfl
  have e3 : detF ⟨u, v, w⟩ = dotF u c := by unfold detF andG; rw [ec]; rfl
  rw [ef, e1, e2, e3]
  unfold crossTail
  refine orT_split (fun _ => ?_) fun hn => ?_
  · rw [errT_ok (err_of kc kv), errT_ok (err_of kc kw), errT_ok (err_of ku kc)]
    rfl
  · simp only [List.mem_cons, List.not_mem_nil, or_false, forall_eq_or_imp, forall_eq, bne_eq_false_iff_eq] at hn
    obtain ⟨h1, h2, h3, _, _, h6⟩ := hn
    refine chain_true fun b hb => ?_
    have x0 : (dotF c v).1 = zeroF := by
      rcases dotF_cases kc kv with ⟨s, e, k, hv'⟩ | e
      · rw [e]; exact val_inj k zero_ok (by rw [hv', dotQ, c1, c2, c3, val_zero]; grind)
      · rw [e] at h1; cases h1
    have y0 : (dotF c w).1 = zeroF := by
      rcases dotF_cases kc kw with ⟨s, e, k, hv'⟩ | e
      · rw [e]; exact val_inj k zero_ok (by rw [hv', dotQ, c1, c2, c3, val_zero]; grind)
      · rw [e] at h2; cases h2
    have t0 : (detF (flipM ⟨u, v, w⟩)).1 = (dotF u c).1 := by
      rcases detF_cases kf with ⟨s, e, k, hv'⟩ | e
      · rcases dotF_cases ku kc with ⟨s', e', k', hv''⟩ | e'
        · rw [e, e']; exact val_inj k k' (by rw [hv', hv'', dotQ, c1, c2, c3, detQ]; simp only [flipM]; grind)
        · rw [e'] at h3; cases h3
      · rw [e] at h6; cases h6
    simp only [List.mem_cons, List.not_mem_nil, or_false] at hb
    rcases hb with rfl | rfl | rfl | rfl | rfl
    · exact eq_cells x0
    · exact eq_cells y0
    · exact eqAll_self ..
    · exact eq_cells t0
    · rfl

end Go.Ev
