/-
  The law TrackAlong as a plain function. No program here.
-/
import Derived.Test.YtdgegcaljelohaaVec
import Derived.Test.YtdgegcaljelohaaTrackApartM
namespace Go.Ev
open Go

section
variable (K : AV → List Blk → Ans)

def alongLast (sum : Vec × Int) (x y b al : Span × Int) : Ans :=
  bif sum.2 != 0 then yes K else bif x.2 != 0 then yes K else bif y.2 != 0 then yes K else bif b.2 != 0 then yes K else bif al.2 != 0 then yes K else bif commonB b.1 al.1 then yes K else nay K

def alongFirst (d : Dir × Int) (z : Span × Int) (cont : Ans) : Ans := bif d.2 != 0 then nay K else bif z.2 != 0 then nay K else bif !(eqAll z.1.cells d.1.z.cells) then nay K else cont

def lawTrackAlong (s : Source) (tick : Int) (v w : Vec) : Ans :=
  bif !(fitB s tick) then yes K else bif bothV v w != 0 then yes K else
  alongFirst K (atS s tick) (alongS (atS s tick).1 ⟨⟨0, 1⟩, ⟨0, 1⟩, ⟨1, 1⟩⟩)
    (alongLast K (addV v w) (alongS (atS s tick).1 v) (alongS (atS s tick).1 w) (addS (alongS (atS s tick).1 v).1 (alongS (atS s tick).1 w).1) (alongS (atS s tick).1 (addV v w).1))
end

theorem ofS_zero : ofS ⟨0, 1⟩ = (⟨0, 0⟩, 0) := by decide +kernel
theorem ofS_one : ofS ⟨1, 1⟩ = (⟨1000000, 1000000⟩, 0) := by decide +kernel

theorem mulS_zero {a : Span} (ha : Unit1 a) : mulS a ⟨0, 0⟩ = (⟨0, 0⟩, 0) := by
  unfold mulS
  rw [unit_valid ha]
  simp only [Int.mul_zero]
  decide +kernel

theorem mulS_one {a : Span} (ha : Unit1 a) : mulS a ⟨1000000, 1000000⟩ = (a, 0) := by
  have hv := unit_valid ha
  unfold Unit1 at ha
  unfold mulS
  have v2 : spanValid ⟨1000000, 1000000⟩ = true := by decide
  rw [hv, v2]
  simp only [Bool.and_self, cond_true]
  have e1 : min4 (a.lo * 1000000) (a.lo * 1000000) (a.hi * 1000000) (a.hi * 1000000) = a.lo * 1000000 := by
    unfold min4
    repeat' split
    all_goals omega
  have e2 : max4 (a.lo * 1000000) (a.lo * 1000000) (a.hi * 1000000) (a.hi * 1000000) = a.hi * 1000000 := by
    unfold max4
    repeat' split
    all_goals omega
  rw [e1, e2]
  have e3 : (⟨a.lo * 1000000 / 1000000, -(-(a.hi * 1000000) / 1000000)⟩ : Span) = a := by
    cases a
    simp only [Span.mk.injEq]
    omega
  unfold rangedS
  rw [e3, hv]
  rfl

theorem along_axis (ra dec tick : Int) : alongS (dirS ra dec tick) ⟨⟨0, 1⟩, ⟨0, 1⟩, ⟨1, 1⟩⟩ = ((dirS ra dec tick).z, 0) := by
  have u := dirS_unit ra dec tick
  have hv : [(dirS ra dec tick).x, (dirS ra dec tick).y, (dirS ra dec tick).z].all spanValid = true := by
    simp [unit_valid u.1, unit_valid u.2.1, unit_valid u.2.2]
  have hk : vecOkB ⟨⟨0, 1⟩, ⟨0, 1⟩, ⟨1, 1⟩⟩ = true := by decide +kernel
  unfold alongS
  rw [hv, hk]
  simp only [cond_true, ofS_zero, ofS_one, bne_self_eq_false, cond_false, prodsS, mulS_zero u.1, mulS_zero u.2.1, mulS_one u.2.2, beq_self_eq_true]
  have a0 : addS spanZ ⟨0, 0⟩ = (⟨0, 0⟩, 0) := by decide +kernel
  have a1 : addS ⟨0, 0⟩ ⟨0, 0⟩ = (⟨0, 0⟩, 0) := by decide +kernel
  have a2 : addS ⟨0, 0⟩ (dirS ra dec tick).z = ((dirS ra dec tick).z, 0) := by
    have := u.2.2
    unfold Unit1 at this
    have h := addS_some (a := ⟨0, 0⟩) (b := (dirS ra dec tick).z) (by decide) (by omega)
    rw [h]
    simp
  simp only [a0, a1, a2, beq_self_eq_true, cond_true]

theorem eachV_ok {x y z : Frac × Int} (h : (eachV x y z).2 = 0) : x.2 = 0 ∧ y.2 = 0 ∧ z.2 = 0 ∧ (eachV x y z).1 = ⟨x.1, y.1, z.1⟩ := by
  unfold eachV at h ⊢
  by_cases a : x.2 = 0
  · by_cases b : y.2 = 0
    · by_cases c : z.2 = 0
      · rw [a, b, c]; exact ⟨rfl, rfl, rfl, rfl⟩
      · rw [a, b, show (z.2 != 0) = true by simpa using c] at h
        simp only [bne_self_eq_false, cond_false, cond_true] at h
        exact absurd h c
    · rw [a, show (y.2 != 0) = true by simpa using b] at h
      simp only [bne_self_eq_false, cond_false, cond_true] at h
      exact absurd h b
  · rw [show (x.2 != 0) = true by simpa using a] at h
    simp only [cond_true] at h
    exact absurd h a

theorem addF_val {a b : Frac} (ha : FracOk a) (hb : FracOk b) (h : (addF a b).2 = 0) : FracOk (addF a b).1 ∧ (addF a b).1.num * (a.den * b.den) = (a.num * b.den + b.num * a.den) * (addF a b).1.den := by
  have a1 := ha.denlo
  have b1 := hb.denlo
  have e : addF a b = fracOf (a.num * b.den + b.num * a.den) (a.den * b.den) := by
    unfold addF
    rw [fracOkB_iff.2 ha, fracOkB_iff.2 hb]
    rfl
  rw [e] at h ⊢
  exact frac_val (Int.mul_pos (by omega) (by omega)) (by rw [← h])

theorem lawTrackAlong_ok {K : AV → List Blk → Ans} {s : Source} {tick : Int} {v w : Vec} : lawTrackAlong K s tick v w = yes K := by
  unfold lawTrackAlong
  cases h1 : fitB s tick with
  | false => rfl
  | true =>
    obtain ⟨os, ht⟩ := fitB_ok h1
    unfold bothV checkV
    cases h2 : vecOkB v with
    | false => rfl
    | true =>
      cases h3 : vecOkB w with
      | false => rfl
      | true =>
        have ov := vecOkB_iff.1 h2
        have ow := vecOkB_iff.1 h3
        rw [atS_ok os (by omega)]
        simp only
        rw [along_axis]
        have u := dirS_unit s.ra s.dec tick
        simp only [Bool.not_true, cond_true, bne_self_eq_false, cond_false]
        unfold alongFirst
        simp only [eqAll_self, Bool.not_true, bne_self_eq_false, cond_false]
        generalize dirS s.ra s.dec tick = d at *
        unfold alongLast
        by_cases e1 : (addV v w).2 = 0
        · by_cases e2 : (alongS d v).2 = 0
          · by_cases e3 : (alongS d w).2 = 0
            · by_cases e4 : (addS (alongS d v).1 (alongS d w).1).2 = 0
              · by_cases e5 : (alongS d (addV v w).1).2 = 0
                · have hc : commonB (addS (alongS d v).1 (alongS d w).1).1 (alongS d (addV v w).1).1 = true := by
                    have ev : addV v w = eachV (addF v.x w.x) (addF v.y w.y) (addF v.z w.z) := by unfold addV; rw [h2, h3]; rfl
                    rw [ev] at e1
                    obtain ⟨q1, q2, q3, q4⟩ := eachV_ok e1
                    rw [← ev] at q4
                    obtain ⟨o1, f1⟩ := addF_val ov.x ow.x q1
                    obtain ⟨o2, f2⟩ := addF_val ov.y ow.y q2
                    obtain ⟨o3, f3⟩ := addF_val ov.z ow.z q3
                    have os' : VecOk (addV v w).1 := by rw [q4]; exact ⟨o1, o2, o3⟩
                    have ux := u.1
                    have uy := u.2.1
                    have uz := u.2.2
                    unfold Unit1 at ux uy uz
                    have k1 := along_enc (a := d.x.lo) (b := d.y.lo) (c := d.z.lo) ov (fst_of e2) (by omega) (by omega) (by omega)
                    have k2 := along_enc (a := d.x.lo) (b := d.y.lo) (c := d.z.lo) ow (fst_of e3) (by omega) (by omega) (by omega)
                    have k3 := along_enc (a := d.x.lo) (b := d.y.lo) (c := d.z.lo) os' (fst_of e5) (by omega) (by omega) (by omega)
                    rw [q4] at k3 ⊢
                    simp only at k3
                    rw [q4] at e5
                    have vx := ov.x.denlo
                    have vy := ov.y.denlo
                    have vz := ov.z.denlo
                    have wx := ow.x.denlo
                    have wy := ow.y.denlo
                    have wz := ow.z.denlo
                    have sx := o1.denlo
                    have sy := o2.denlo
                    have sz := o3.denlo
                    have hdv : 0 < v.x.den * (v.y.den * v.z.den) := Int.mul_pos (by omega) (Int.mul_pos (by omega) (by omega))
                    have hdw : 0 < w.x.den * (w.y.den * w.z.den) := Int.mul_pos (by omega) (Int.mul_pos (by omega) (by omega))
                    have hds : 0 < (addF v.x w.x).1.den * ((addF v.y w.y).1.den * (addF v.z w.z).1.den) := Int.mul_pos (by omega) (Int.mul_pos (by omega) (by omega))
                    have m1 := Enc.scale (c := w.x.den * (w.y.den * w.z.den)) (by omega) k1
                    have m2 := Enc.scale (c := v.x.den * (v.y.den * v.z.den)) (by omega) k2
                    rw [Int.mul_comm (w.x.den * (w.y.den * w.z.den))] at m2
                    have m12 := m1.add m2 (fst_of e4)
                    have n1 := Enc.scale (c := (addF v.x w.x).1.den * ((addF v.y w.y).1.den * (addF v.z w.z).1.den)) (by omega) m12
                    have n3 := Enc.scale (c := v.x.den * (v.y.den * v.z.den) * (w.x.den * (w.y.den * w.z.den))) (Int.le_of_lt (Int.mul_pos hdv hdw)) k3
                    rw [Int.mul_comm ((addF v.x w.x).1.den * ((addF v.y w.y).1.den * (addF v.z w.z).1.den))] at n3
                    rw [commonB_iff]
                    refine Enc.common (Int.mul_pos (Int.mul_pos hdv hdw) hds) n1 n3 ?_
                    generalize (addF v.x w.x).1.num = sxn at *
                    generalize (addF v.x w.x).1.den = sxd at *
                    generalize (addF v.y w.y).1.num = syn at *
                    generalize (addF v.y w.y).1.den = syd at *
                    generalize (addF v.z w.z).1.num = szn at *
                    generalize (addF v.z w.z).1.den = szd at *
                    have g1 : sxn * (v.x.den * w.x.den) - (v.x.num * w.x.den + w.x.num * v.x.den) * sxd = 0 := by omega
                    have g2 : syn * (v.y.den * w.y.den) - (v.y.num * w.y.den + w.y.num * v.y.den) * syd = 0 := by omega
                    have g3 : szn * (v.z.den * w.z.den) - (v.z.num * w.z.den + w.z.num * v.z.den) * szd = 0 := by omega
                    have key : ((d.x.lo * v.x.num * (v.y.den * v.z.den) + d.y.lo * v.y.num * (v.x.den * v.z.den) + d.z.lo * v.z.num * (v.x.den * v.y.den)) * (w.x.den * (w.y.den * w.z.den)) + (d.x.lo * w.x.num * (w.y.den * w.z.den) + d.y.lo * w.y.num * (w.x.den * w.z.den) + d.z.lo * w.z.num * (w.x.den * w.y.den)) * (v.x.den * (v.y.den * v.z.den))) * (sxd * (syd * szd)) - (d.x.lo * sxn * (syd * szd) + d.y.lo * syn * (sxd * szd) + d.z.lo * szn * (sxd * syd)) * (v.x.den * (v.y.den * v.z.den) * (w.x.den * (w.y.den * w.z.den))) =
                        -(d.x.lo * (syd * szd) * (v.y.den * v.z.den) * (w.y.den * w.z.den)) * (sxn * (v.x.den * w.x.den) - (v.x.num * w.x.den + w.x.num * v.x.den) * sxd) - (d.y.lo * (sxd * szd) * (v.x.den * v.z.den) * (w.x.den * w.z.den)) * (syn * (v.y.den * w.y.den) - (v.y.num * w.y.den + w.y.num * v.y.den) * syd) - (d.z.lo * (sxd * syd) * (v.x.den * v.y.den) * (w.x.den * w.y.den)) * (szn * (v.z.den * w.z.den) - (v.z.num * w.z.den + w.z.num * v.z.den) * szd) := by grind
                    rw [key, g1, g2, g3]
                    have := Int.mul_pos (Int.mul_pos hdv hdw) hds
                    unfold Abs
                    simp only [Int.mul_zero, Int.sub_zero]
                    omega
                  rw [e1, e2, e3, e4, e5, hc]
                  rfl
                · rw [e1, e2, e3, e4, show ((alongS d (addV v w).1).2 != 0) = true by simpa using e5]; rfl
              · rw [e1, e2, e3, show ((addS (alongS d v).1 (alongS d w).1).2 != 0) = true by simpa using e4]; rfl
            · rw [e1, e2, show ((alongS d w).2 != 0) = true by simpa using e3]; rfl
          · rw [e1, show ((alongS d v).2 != 0) = true by simpa using e2]; rfl
        · rw [show ((addV v w).2 != 0) = true by simpa using e1]; rfl

end Go.Ev
