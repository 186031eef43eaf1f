/-
  Dot products of directions and vectors. No program here.
-/
import Derived.Test.YtglifoijcdfjaaaGreatDoorVecA
import Derived.Test.YtglifoijcdfjaaaGreatDoorTrack
namespace Go.Ev
open Go

/-! ### Along a vector -/

def alongS (d : Dir) (v : Vec) : Span × Int :=
  bif [d.x, d.y, d.z].all spanValid then (bif vecOkB v then (bif (ofS v.x).2 != 0 then (spanZ, (ofS v.x).2) else bif (ofS v.y).2 != 0 then (spanZ, (ofS v.y).2) else bif (ofS v.z).2 != 0 then (spanZ, (ofS v.z).2) else
    prodsS spanZ [(d.x, (ofS v.x).1), (d.y, (ofS v.y).1), (d.z, (ofS v.z).1)]) else (spanZ, 8)) else (spanZ, 8)
def alongAns (K : AV → List Blk → Ans) (d : Dir) (v : Vec) : Ans :=
  validAns (K (rSpanE (spanZ, 8)) []) (bif checkV v != 0 then K (rSpanE (spanZ, 8)) [] else
    bif (ofS v.x).2 != 0 then K (rSpanE (spanZ, (ofS v.x).2)) [] else bif (ofS v.y).2 != 0 then K (rSpanE (spanZ, (ofS v.y).2)) [] else bif (ofS v.z).2 != 0 then K (rSpanE (spanZ, (ofS v.z).2)) [] else
    prodsAns K spanZ [(d.x, (ofS v.x).1), (d.y, (ofS v.y).1), (d.z, (ofS v.z).1)]) [d.x, d.y, d.z]
theorem alongAns_ok {K : AV → List Blk → Ans} {d : Dir} {v : Vec} : alongAns K d v = K (rSpanE (alongS d v)) [] := by
  unfold alongAns alongS checkV
  rw [validAns_ok, prodsAns_ok]
  cases [d.x, d.y, d.z].all spanValid with
  | false => rfl
  | true =>
    cases vecOkB v with
    | false => rfl
    | true =>
      cases (ofS v.x).2 != 0 <;> cases (ofS v.y).2 != 0 <;> cases (ofS v.z).2 != 0 <;> rfl

theorem ofS_enc {f : Frac} (hf : FracOk f) (h : (ofS f).2 = 0) : Enc (ofS f).1 (f.num * 1000000) f.den := by
  have f1 := hf.denlo
  unfold ofS at h ⊢
  rw [fracOkB_iff.2 hf] at h ⊢
  simp only [cond_true] at h ⊢
  unfold rangedS at h ⊢
  cases hv : spanValid (aroundS f) with
  | false => rw [hv] at h; simp at h
  | true => exact ⟨(le_floor (by omega)).1 (Int.le_refl _), (ceil_le (by omega)).1 (Int.le_refl _)⟩

theorem prodsS_some {sum a b : Span} {r : List (Span × Span)} (h : (prodsS sum ((a, b) :: r)).2 = 0) : ∃ p s, mulS a b = (p, 0) ∧ addS sum p = (s, 0) ∧ prodsS sum ((a, b) :: r) = prodsS s r := by
  rw [prodsS] at h ⊢
  simp only at h ⊢
  by_cases e1 : (mulS a b).2 = 0
  · by_cases e2 : (addS sum (mulS a b).1).2 = 0
    · rw [e1, e2] at h ⊢
      simp only [beq_self_eq_true, cond_true] at h ⊢
      exact ⟨(mulS a b).1, (addS sum (mulS a b).1).1, by rw [← e1], by rw [← e2], rfl⟩
    · rw [e1, show ((addS sum (mulS a b).1).2 == 0) = false by simpa using e2] at h
      simp only [beq_self_eq_true, cond_true, cond_false] at h
      exact absurd h e2
  · rw [show ((mulS a b).2 == 0) = false by simpa using e1] at h
    simp only [cond_false] at h
    exact absurd h e1

/-- What is enclosed along a vector. -/
theorem along_enc {d : Dir} {v : Vec} (hv : VecOk v) {p : Span} (h : alongS d v = (p, 0)) {a b c : Int} (ha : d.x.lo ≤ a ∧ a ≤ d.x.hi) (hb : d.y.lo ≤ b ∧ b ≤ d.y.hi) (hc : d.z.lo ≤ c ∧ c ≤ d.z.hi) :
    Enc p (a * v.x.num * (v.y.den * v.z.den) + b * v.y.num * (v.x.den * v.z.den) + c * v.z.num * (v.x.den * v.y.den)) (v.x.den * (v.y.den * v.z.den)) := by
  have x1 := hv.x.denlo
  have y1 := hv.y.denlo
  have z1 := hv.z.denlo
  unfold alongS at h
  cases h0 : [d.x, d.y, d.z].all spanValid with
  | false => rw [h0] at h; simp at h
  | true =>
    rw [h0, cond_true, vecOkB_iff.2 hv, cond_true] at h
    by_cases e1 : (ofS v.x).2 = 0
    · by_cases e2 : (ofS v.y).2 = 0
      · by_cases e3 : (ofS v.z).2 = 0
        · rw [e1, e2, e3] at h
          simp only [bne_self_eq_false, cond_false] at h
          obtain ⟨p1, s1, m1, a1, q1⟩ := prodsS_some (by rw [h])
          rw [q1] at h
          obtain ⟨p2, s2, m2, a2, q2⟩ := prodsS_some (by rw [h])
          rw [q2] at h
          obtain ⟨p3, s3, m3, a3, q3⟩ := prodsS_some (by rw [h])
          rw [q3] at h
          simp only [prodsS, Prod.mk.injEq, and_true] at h
          subst h
          have k1 := Enc.mul (d := 1) (by decide) (by omega) (show Enc d.x a 1 by unfold Enc; omega) (ofS_enc hv.x e1) m1
          have k2 := Enc.mul (d := 1) (by decide) (by omega) (show Enc d.y b 1 by unfold Enc; omega) (ofS_enc hv.y e2) m2
          have k3 := Enc.mul (d := 1) (by decide) (by omega) (show Enc d.z c 1 by unfold Enc; omega) (ofS_enc hv.z e3) m3
          have j1 : Enc p1 (a * v.x.num) v.x.den := Enc.unscale (c := 1000000) (by decide) (by rw [Int.one_mul] at k1; rwa [← Int.mul_assoc] at k1)
          have j2 : Enc p2 (b * v.y.num) v.y.den := Enc.unscale (c := 1000000) (by decide) (by rw [Int.one_mul] at k2; rwa [← Int.mul_assoc] at k2)
          have j3 : Enc p3 (c * v.z.num) v.z.den := Enc.unscale (c := 1000000) (by decide) (by rw [Int.one_mul] at k3; rwa [← Int.mul_assoc] at k3)
          have l1 := Enc.scale (c := v.y.den * v.z.den) (Int.le_of_lt (Int.mul_pos (by omega) (by omega))) j1
          have l2 := Enc.scale (c := v.x.den * v.z.den) (Int.le_of_lt (Int.mul_pos (by omega) (by omega))) j2
          have l3 := Enc.scale (c := v.x.den * v.y.den) (Int.le_of_lt (Int.mul_pos (by omega) (by omega))) j3
          rw [show v.y.den * (v.x.den * v.z.den) = v.x.den * (v.y.den * v.z.den) by grind] at l2
          rw [show v.z.den * (v.x.den * v.y.den) = v.x.den * (v.y.den * v.z.den) by grind] at l3
          have z0 : Enc spanZ 0 (v.x.den * (v.y.den * v.z.den)) := by unfold Enc spanZ; simp
          have r := ((z0.add l1 a1).add l2 a2).add l3 a3
          rwa [Int.zero_add] at r
        · rw [e1, e2, show ((ofS v.z).2 != 0) = true by simpa using e3] at h
          simp only [bne_self_eq_false, cond_false, cond_true, Prod.mk.injEq] at h
          exact absurd h.2 e3
      · rw [e1, show ((ofS v.y).2 != 0) = true by simpa using e2] at h
        simp only [bne_self_eq_false, cond_false, cond_true, Prod.mk.injEq] at h
        exact absurd h.2 e2
    · rw [show ((ofS v.x).2 != 0) = true by simpa using e1] at h
      simp only [cond_true, Prod.mk.injEq] at h
      exact absurd h.2 e1

end Go.Ev
