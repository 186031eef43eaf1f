/-
  Vectors of fractions: sums; dot products of directions and vectors. No program here.
-/
import Derived.Test.YtdgegcaljelohaaFracRef
import Derived.Test.YtdgegcaljelohaaTrack
namespace Go.Ev
open Go

def vecOkB (v : Vec) : Bool := fracOkB v.x && (fracOkB v.y && fracOkB v.z)
def checkV (v : Vec) : Int := bif vecOkB v then 0 else 8
def checkVRaw (v : Vec) : Int := bif checkF v.x != 0 then 8 else bif checkF v.y != 0 then 8 else bif checkF v.z != 0 then 8 else 0
def checkVRef (v : Vec) : Int := bif bothE v.x v.y != 0 then 8 else bif checkF v.z != 0 then 8 else 0
def bothV (v w : Vec) : Int := bif checkV v != 0 then 8 else checkV w

theorem checkVRaw_ok (v : Vec) : checkVRaw v = checkV v := by
  unfold checkVRaw checkV vecOkB checkF
  cases fracOkB v.x <;> cases fracOkB v.y <;> cases fracOkB v.z <;> rfl
theorem checkVRef_ok (v : Vec) : checkVRef v = checkV v := by
  unfold checkVRef checkV vecOkB bothE checkF
  cases fracOkB v.x <;> cases fracOkB v.y <;> cases fracOkB v.z <;> rfl

structure VecOk (v : Vec) : Prop where
  x : FracOk v.x
  y : FracOk v.y
  z : FracOk v.z

theorem vecOkB_iff {v : Vec} : vecOkB v = true ↔ VecOk v := by
  unfold vecOkB
  simp only [Bool.and_eq_true, fracOkB_iff]
  exact ⟨fun h => ⟨h.1, h.2.1, h.2.2⟩, fun h => ⟨h.x, h.y, h.z⟩⟩

/-- Three coordinates, each with an error. -/
def eachV (x y z : Frac × Int) : Vec × Int := bif x.2 != 0 then (vecZ, x.2) else bif y.2 != 0 then (vecZ, y.2) else bif z.2 != 0 then (vecZ, z.2) else (⟨x.1, y.1, z.1⟩, 0)
def eachAns (K : AV → List Blk → Ans) (x y z : Frac × Int) : Ans := bif x.2 != 0 then K (rVecE (vecZ, x.2)) [] else bif y.2 != 0 then K (rVecE (vecZ, y.2)) [] else bif z.2 != 0 then K (rVecE (vecZ, z.2)) [] else K (rVecE (⟨x.1, y.1, z.1⟩, 0)) []
theorem eachAns_ok {K : AV → List Blk → Ans} {x y z : Frac × Int} : eachAns K x y z = K (rVecE (eachV x y z)) [] := by
  unfold eachAns eachV
  cases x.2 != 0 <;> cases y.2 != 0 <;> cases z.2 != 0 <;> rfl

def addV (v w : Vec) : Vec × Int := bif vecOkB v && vecOkB w then eachV (addF v.x w.x) (addF v.y w.y) (addF v.z w.z) else (vecZ, 8)
def twiceAns (e : Int) (bad ok : Ans) (more : Ans) : Ans := bif e != 0 then (bif e != 0 then bad else ok) else more
def addVAns (K : AV → List Blk → Ans) (v w : Vec) : Ans :=
  twiceAns (checkV v) (K (rVecE (vecZ, checkV v)) []) (eachAns K (addF v.x w.x) (addF v.y w.y) (addF v.z w.z))
    (twiceAns (checkV w) (K (rVecE (vecZ, checkV w)) []) (eachAns K (addF v.x w.x) (addF v.y w.y) (addF v.z w.z)) (eachAns K (addF v.x w.x) (addF v.y w.y) (addF v.z w.z)))
theorem addVAns_ok {K : AV → List Blk → Ans} {v w : Vec} : addVAns K v w = K (rVecE (addV v w)) [] := by
  unfold addVAns addV checkV twiceAns
  cases vecOkB v with
  | false => rfl
  | true =>
    cases vecOkB w with
    | false => rfl
    | true => rw [eachAns_ok]; rfl

def addAns (K : AV → List Blk → Ans) (a b : Frac) : Ans := bif bothE a b != 0 then K (rFracE (fracZ, bothE a b)) [] else bif fracOkB a && fracOkB b then K (rFracE (fracOf (a.num * b.den + b.num * a.den) (a.den * b.den))) [] else none
theorem addAns_ok {K : AV → List Blk → Ans} {a b : Frac} : addAns K a b = K (rFracE (addF a b)) [] := by
  unfold addAns addF
  rw [bothE_eq]
  cases fracOkB a && fracOkB b <;> rfl

theorem frac_val {n d : Int} (hd : 0 < d) {x : Frac} (h : fracOf n d = (x, 0)) : FracOk x ∧ x.num * d = n * x.den := by
  have hg : 0 < gcdI n d := gcdI_pos (by omega)
  obtain ⟨n', hn⟩ : gcdI n d ∣ n := gcdI_dvd_left ..
  obtain ⟨d', hd'⟩ : gcdI n d ∣ d := gcdI_dvd_right ..
  have hc : Int.gcd n' d' = 1 := by
    have e : gcdI (gcdI n d * n') (gcdI n d * d') = gcdI n d := by rw [← hn, ← hd']
    generalize gcdI n d = k at *
    rw [gcdI_eq] at e
    rw [Int.gcd_mul_left, Int.natCast_mul, show ((k.natAbs : Nat) : Int) = k by omega] at e
    have : ((Int.gcd n' d' : Nat) : Int) = 1 := Int.eq_of_mul_eq_mul_left (a := k) (by omega) (by omega)
    omega
  rw [fracOf_red hg hn hd' hc] at h
  generalize gcdI n d = k at *
  have hd0 : 0 < d' := by
    rcases Int.lt_or_le 0 d' with q | q
    · exact q
    · have := Int.mul_le_mul_of_nonneg_left q (show 0 ≤ k by omega)
      omega
  unfold cutF at h
  cases hb : decide (absI n' ≤ 1000000000000000000) && decide (d' ≤ 1000000000000000000) with
  | false => rw [hb] at h; simp at h
  | true =>
    rw [hb] at h
    simp only [cond_true, Prod.mk.injEq, and_true] at h
    subst h
    simp only [Bool.and_eq_true, decide_eq_true_eq] at hb
    unfold absI at hb
    refine ⟨⟨by simp only; omega, hb.2, by simp only; omega, by simp only; omega, hc⟩, ?_⟩
    simp only
    rw [hn, hd']
    grind

theorem fst_of {α : Type} {x : α × Int} (h : x.2 = 0) : x = (x.1, 0) := by cases x; simp only at h; rw [h]

/-! ### Along a vector -/

def alongS (d : Dir) (v : Vec) : Span × Int :=
  bif [d.x, d.y, d.z].all spanValid then (bif vecOkB v then (bif (ofS v.x).2 != 0 then (spanZ, (ofS v.x).2) else bif (ofS v.y).2 != 0 then (spanZ, (ofS v.y).2) else bif (ofS v.z).2 != 0 then (spanZ, (ofS v.z).2) else
    prodsS spanZ [(d.x, (ofS v.x).1), (d.y, (ofS v.y).1), (d.z, (ofS v.z).1)]) else (spanZ, 8)) else (spanZ, 8)
def alongAns (K : AV → List Blk → Ans) (d : Dir) (v : Vec) : Ans :=
  validAns (K (rSpanE (spanZ, 8)) []) (bif checkV v != 0 then K (rSpanE (spanZ, 8)) [] else
    bif (ofS v.x).2 != 0 then K (rSpanE (spanZ, (ofS v.x).2)) [] else bif (ofS v.y).2 != 0 then K (rSpanE (spanZ, (ofS v.y).2)) [] else bif (ofS v.z).2 != 0 then K (rSpanE (spanZ, (ofS v.z).2)) [] else
    prodsAns K spanZ [(d.x, (ofS v.x).1), (d.y, (ofS v.y).1), (d.z, (ofS v.z).1)]) [d.x, d.y, d.z]
theorem alongAns_ok {K : AV → List Blk → Ans} {d : Dir} {v : Vec} : alongAns K d v = K (rSpanE (alongS d v)) [] := by
  unfold alongAns alongS checkV
  rw [validAns_ok, prodsAns_ok]
  cases [d.x, d.y, d.z].all spanValid with
  | false => rfl
  | true =>
    cases vecOkB v with
    | false => rfl
    | true =>
      cases (ofS v.x).2 != 0 <;> cases (ofS v.y).2 != 0 <;> cases (ofS v.z).2 != 0 <;> rfl

theorem ofS_enc {f : Frac} (hf : FracOk f) (h : (ofS f).2 = 0) : Enc (ofS f).1 (f.num * 1000000) f.den := by
  have f1 := hf.denlo
  unfold ofS at h ⊢
  rw [fracOkB_iff.2 hf] at h ⊢
  simp only [cond_true] at h ⊢
  unfold rangedS at h ⊢
  cases hv : spanValid (aroundS f) with
  | false => rw [hv] at h; simp at h
  | true => exact ⟨(le_floor (by omega)).1 (Int.le_refl _), (ceil_le (by omega)).1 (Int.le_refl _)⟩

theorem prodsS_some {sum a b : Span} {r : List (Span × Span)} (h : (prodsS sum ((a, b) :: r)).2 = 0) : ∃ p s, mulS a b = (p, 0) ∧ addS sum p = (s, 0) ∧ prodsS sum ((a, b) :: r) = prodsS s r := by
  rw [prodsS] at h ⊢
  simp only at h ⊢
  by_cases e1 : (mulS a b).2 = 0
  · by_cases e2 : (addS sum (mulS a b).1).2 = 0
    · rw [e1, e2] at h ⊢
      simp only [beq_self_eq_true, cond_true] at h ⊢
      exact ⟨(mulS a b).1, (addS sum (mulS a b).1).1, by rw [← e1], by rw [← e2], rfl⟩
    · rw [e1, show ((addS sum (mulS a b).1).2 == 0) = false by simpa using e2] at h
      simp only [beq_self_eq_true, cond_true, cond_false] at h
      exact absurd h e2
  · rw [show ((mulS a b).2 == 0) = false by simpa using e1] at h
    simp only [cond_false] at h
    exact absurd h e1

/-- What is enclosed along a vector. -/
theorem along_enc {d : Dir} {v : Vec} (hv : VecOk v) {p : Span} (h : alongS d v = (p, 0)) {a b c : Int} (ha : d.x.lo ≤ a ∧ a ≤ d.x.hi) (hb : d.y.lo ≤ b ∧ b ≤ d.y.hi) (hc : d.z.lo ≤ c ∧ c ≤ d.z.hi) :
    Enc p (a * v.x.num * (v.y.den * v.z.den) + b * v.y.num * (v.x.den * v.z.den) + c * v.z.num * (v.x.den * v.y.den)) (v.x.den * (v.y.den * v.z.den)) := by
  have x1 := hv.x.denlo
  have y1 := hv.y.denlo
  have z1 := hv.z.denlo
  unfold alongS at h
  cases h0 : [d.x, d.y, d.z].all spanValid with
  | false => rw [h0] at h; simp at h
  | true =>
    rw [h0, cond_true, vecOkB_iff.2 hv, cond_true] at h
    by_cases e1 : (ofS v.x).2 = 0
    · by_cases e2 : (ofS v.y).2 = 0
      · by_cases e3 : (ofS v.z).2 = 0
        · rw [e1, e2, e3] at h
          simp only [bne_self_eq_false, cond_false] at h
          obtain ⟨p1, s1, m1, a1, q1⟩ := prodsS_some (by rw [h])
          rw [q1] at h
          obtain ⟨p2, s2, m2, a2, q2⟩ := prodsS_some (by rw [h])
          rw [q2] at h
          obtain ⟨p3, s3, m3, a3, q3⟩ := prodsS_some (by rw [h])
          rw [q3] at h
          simp only [prodsS, Prod.mk.injEq, and_true] at h
          subst h
          have k1 := Enc.mul (d := 1) (by decide) (by omega) (show Enc d.x a 1 by unfold Enc; omega) (ofS_enc hv.x e1) m1
          have k2 := Enc.mul (d := 1) (by decide) (by omega) (show Enc d.y b 1 by unfold Enc; omega) (ofS_enc hv.y e2) m2
          have k3 := Enc.mul (d := 1) (by decide) (by omega) (show Enc d.z c 1 by unfold Enc; omega) (ofS_enc hv.z e3) m3
          have j1 : Enc p1 (a * v.x.num) v.x.den := Enc.unscale (c := 1000000) (by decide) (by rw [Int.one_mul] at k1; rwa [← Int.mul_assoc] at k1)
          have j2 : Enc p2 (b * v.y.num) v.y.den := Enc.unscale (c := 1000000) (by decide) (by rw [Int.one_mul] at k2; rwa [← Int.mul_assoc] at k2)
          have j3 : Enc p3 (c * v.z.num) v.z.den := Enc.unscale (c := 1000000) (by decide) (by rw [Int.one_mul] at k3; rwa [← Int.mul_assoc] at k3)
          have l1 := Enc.scale (c := v.y.den * v.z.den) (Int.le_of_lt (Int.mul_pos (by omega) (by omega))) j1
          have l2 := Enc.scale (c := v.x.den * v.z.den) (Int.le_of_lt (Int.mul_pos (by omega) (by omega))) j2
          have l3 := Enc.scale (c := v.x.den * v.y.den) (Int.le_of_lt (Int.mul_pos (by omega) (by omega))) j3
          rw [show v.y.den * (v.x.den * v.z.den) = v.x.den * (v.y.den * v.z.den) by grind] at l2
          rw [show v.z.den * (v.x.den * v.y.den) = v.x.den * (v.y.den * v.z.den) by grind] at l3
          have z0 : Enc spanZ 0 (v.x.den * (v.y.den * v.z.den)) := by unfold Enc spanZ; simp
          have r := ((z0.add l1 a1).add l2 a2).add l3 a3
          rwa [Int.zero_add] at r
        · rw [e1, e2, show ((ofS v.z).2 != 0) = true by simpa using e3] at h
          simp only [bne_self_eq_false, cond_false, cond_true, Prod.mk.injEq] at h
          exact absurd h.2 e3
      · rw [e1, show ((ofS v.y).2 != 0) = true by simpa using e2] at h
        simp only [bne_self_eq_false, cond_false, cond_true, Prod.mk.injEq] at h
        exact absurd h.2 e2
    · rw [show ((ofS v.x).2 != 0) = true by simpa using e1] at h
      simp only [cond_true, Prod.mk.injEq] at h
      exact absurd h.2 e1

end Go.Ev
