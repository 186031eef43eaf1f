/-
  The law of what a turn keeps. No program here.
-/
import Derived.Test.YtckjflbbilideaaDoorVecL
namespace Go.Ev
open Go

def keptTail (K : AV → List Blk → Ans) (v : Vec) (a : Mat × Int) (b : Bool × Int) (c d : Vec × Int) (e f : Frac × Int) (g : Mat × Int) (h : Vec × Int) : Ans :=
  orT [a.2 != 0, b.2 != 0, c.2 != 0, d.2 != 0, e.2 != 0, f.2 != 0, g.2 != 0, h.2 != 0]
    (bif a.2 == 0 then errT K b.2 (K (rB true) []) else K (rB false) [])
    (chain K [b.1, eqAll e.1.cells f.1.cells, eqAll h.1.cells v.cells, true])
def keptMore (K : AV → List Blk → Ans) (v w : Vec) (a : Mat × Int) : Ans :=
  keptTail K v a (isV a.1) (applyV a.1 v) (applyV a.1 w) (dotV v w) (dotV (applyV a.1 v).1 (applyV a.1 w).1) (flipV a.1) (applyV (flipV a.1).1 (applyV a.1 v).1)
def lawVecKept (K : AV → List Blk → Ans) (v w : Vec) (axis : Int) (t : Frac) : Ans :=
  orT [!smallB v w t, decide (axis < 0), decide (axis > 2), decide (t.num > 20), decide (t.num < -20)] (K (rB true) []) (keptMore K v w (turnF axis t))

theorem applyV_ok {m : Mat} {v : Vec} (hm : MatOk m) (hv : VecOk v) : applyV m v = applyF m v := by unfold applyV; rw [matOkB_iff.2 hm, vecOkB_iff.2 hv]; rfl
theorem flipV_ok {m : Mat} (hm : MatOk m) : flipV m = (flipM m, 0) := by unfold flipV; rw [matOkB_iff.2 hm]; rfl

theorem lawVecKept_ok {K : AV → List Blk → Ans} {v w : Vec} {axis : Int} {t : Frac} : lawVecKept K v w axis t = K (rB true) [] := by
  unfold lawVecKept
  refine orT_split (fun _ => rfl) fun hs => ?_
  simp only [List.mem_cons, List.not_mem_nil, or_false, forall_eq_or_imp, forall_eq, Bool.not_eq_false', decide_eq_false_iff_not] at hs
  obtain ⟨hs, ha1, ha2, _, _⟩ := hs
  obtain ⟨hv, hw, ht⟩ := smallB_iff hs
  have kv := hv.ok; have kw := hw.ok
  have ha : 0 ≤ axis ∧ axis ≤ 2 := by omega
  obtain ⟨c, s, em, hp⟩ := turn_small (axis := axis) (ht.mono (by decide) (by decide)) ha
  have hr := turn_rot ha hp
  have h1 := hp.one
  have hn := val_neg hp.ks
  have km := hr.ok
  unfold keptMore
  rw [em]
  unfold keptTail
  refine orT_split (fun _ => ?_) fun hz => ?_
  · rcases hr.is with e | e <;> rw [e] <;> rfl
  · simp only [List.mem_cons, List.not_mem_nil, or_false, forall_eq_or_imp, forall_eq, bne_eq_false_iff_eq] at hz
    obtain ⟨_, z2, z3, z4, z5, z6, _, z8⟩ := hz
    simp only [flipV_ok km] at z8 ⊢
    rw [applyV_ok km kv] at z3 z6 z8 ⊢
    rw [applyV_ok km kw] at z4 z6 ⊢
    rw [dotV_ok kv kw] at z5 ⊢
    rcases applyF_cases km kv with ⟨p, ep, kp, p1, p2, p3⟩ | e
    · rcases applyF_cases km kw with ⟨q, eq', kq, q1, q2, q3⟩ | e
      · rw [ep] at z6 z8 ⊢
        rw [eq'] at z6 ⊢
        simp only at z6 z8 ⊢
        rw [dotV_ok kp kq] at z6 ⊢
        have kf := flip_ok km
        rw [applyV_ok kf kp] at z8 ⊢
        have hx : (dotF v w).1 = (dotF p q).1 := by
          rcases dotF_cases kv kw with ⟨x, ex, kx, vx⟩ | e
          · rcases dotF_cases kp kq with ⟨y, ey, ky, vy⟩ | e
            · rw [ex, ey]
              refine val_inj kx ky ?_
              rw [vx, vy]
              unfold dotQ
              rw [p1, p2, p3, q1, q2, q3]
              rcases axis_cases ha with rfl | rfl | rfl
              · simp only [turn0, dotQ, val_one, val_zero, hn]; grind
              · simp only [turn1, dotQ, val_one, val_zero, hn]; grind
              · simp only [turn2, dotQ, val_one, val_zero, hn]; grind
            · rw [e] at z6; cases z6
          · rw [e] at z5; cases z5
        have hu : (applyF (flipM (turnOf axis c s)) p).1 = v := by
          rcases applyF_cases kf kp with ⟨u, eu, ku, u1, u2, u3⟩ | e
          · rw [eu]
            refine vec_eq ku kv ?_ ?_ ?_
            · rw [u1]; unfold dotQ; rw [p1, p2, p3]
              rcases axis_cases ha with rfl | rfl | rfl
              · simp only [turn0, flipM, dotQ, val_one, val_zero, hn]; grind
              · simp only [turn1, flipM, dotQ, val_one, val_zero, hn]; grind
              · simp only [turn2, flipM, dotQ, val_one, val_zero, hn]; grind
            · rw [u2]; unfold dotQ; rw [p1, p2, p3]
              rcases axis_cases ha with rfl | rfl | rfl
              · simp only [turn0, flipM, dotQ, val_one, val_zero, hn]; grind
              · simp only [turn1, flipM, dotQ, val_one, val_zero, hn]; grind
              · simp only [turn2, flipM, dotQ, val_one, val_zero, hn]; grind
            · rw [u3]; unfold dotQ; rw [p1, p2, p3]
              rcases axis_cases ha with rfl | rfl | rfl
              · simp only [turn0, flipM, dotQ, val_one, val_zero, hn]; grind
              · simp only [turn1, flipM, dotQ, val_one, val_zero, hn]; grind
              · simp only [turn2, flipM, dotQ, val_one, val_zero, hn]; grind
          · rw [e] at z8; cases z8
        refine chain_true fun b hb => ?_
        simp only [List.mem_cons, List.not_mem_nil, or_false] at hb
        rcases hb with rfl | rfl | rfl | rfl
        · rcases hr.is with e | e
          · rw [e]
          · rw [e] at z2; cases z2
        · exact eq_cells hx
        · exact eq_cellsV hu
        · rfl
      · rw [e] at z4; cases z4
    · rw [e] at z3; cases z3

end Go.Ev
