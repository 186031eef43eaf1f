/-
  Projections: axes, projections, squares; the laws ProjSquare and ProjKeeps. No program here.
-/
import Derived.Test.YtglifoijcdfjaaaDoorProjA
namespace Go.Ev
open Go

structure FrameD where
  u : Dir
  v : Dir
  w : Dir
def FrameD.cells (f : FrameD) : List D := [.int .i64 f.u.x.lo, .int .i64 f.u.x.hi, .int .i64 f.u.y.lo, .int .i64 f.u.y.hi, .int .i64 f.u.z.lo, .int .i64 f.u.z.hi,
  .int .i64 f.v.x.lo, .int .i64 f.v.x.hi, .int .i64 f.v.y.lo, .int .i64 f.v.y.hi, .int .i64 f.v.z.lo, .int .i64 f.v.z.hi,
  .int .i64 f.w.x.lo, .int .i64 f.w.x.hi, .int .i64 f.w.y.lo, .int .i64 f.w.y.hi, .int .i64 f.w.z.lo, .int .i64 f.w.z.hi]
def frameZ : FrameD := ⟨dirZ, dirZ, dirZ⟩
def rFrameE (r : FrameD × Int) : AV := .tup [.agg r.1.cells, .c (.d (.int .i64 r.2))]

def axesS (ra dec tick : Int) : FrameD := ⟨axU ra tick, axV ra dec tick, dirS ra dec tick⟩
def axesV (s : Source) (tick : Int) : FrameD × Int := bif (atS s tick).2 == 0 then (axesS s.ra s.dec tick, 0) else (frameZ, (atS s tick).2)
def axesAns (K : AV → List Blk → Ans) (s : Source) (tick : Int) : Ans :=
  bif (atS s tick).2 != 0 then K (rFrameE (frameZ, (atS s tick).2)) [] else
  bif (mulS (sinT s.dec) (cosT (w64 (s.ra - tick)))).2 != 0 then K (rFrameE (frameZ, (mulS (sinT s.dec) (cosT (w64 (s.ra - tick)))).2)) [] else
  bif (mulS (sinT s.dec) (sinT (w64 (s.ra - tick)))).2 != 0 then K (rFrameE (frameZ, (mulS (sinT s.dec) (sinT (w64 (s.ra - tick)))).2)) [] else
  K (rFrameE (⟨⟨negRaw (sinT (w64 (s.ra - tick))), cosT (w64 (s.ra - tick)), spanZ⟩,
    ⟨negRaw (mulS (sinT s.dec) (cosT (w64 (s.ra - tick)))).1, negRaw (mulS (sinT s.dec) (sinT (w64 (s.ra - tick)))).1, cosT s.dec⟩, (atS s tick).1⟩, 0)) []

theorem atS_some {s : Source} {tick : Int} (h : (atS s tick).2 = 0) : SrcOk s ∧ (-1000000 ≤ tick ∧ tick ≤ 1000000) ∧ (atS s tick).1 = dirS s.ra s.dec tick := by
  unfold atS at h ⊢
  cases h1 : checkSrc s != 0 with
  | true => rw [h1] at h; simp at h
  | false =>
    rw [h1] at h
    simp only [cond_false] at h ⊢
    by_cases h2 : tick < -1000000
    · rw [decide_eq_true h2] at h; simp at h
    · rw [decide_eq_false h2] at h ⊢
      by_cases h3 : 1000000 < tick
      · rw [decide_eq_true h3] at h; simp at h
      · rw [decide_eq_false h3]
        exact ⟨checkSrc_iff.1 (by simpa using h1), by omega, rfl⟩

theorem axesAns_ok {K : AV → List Blk → Ans} {s : Source} {tick : Int} : axesAns K s tick = K (rFrameE (axesV s tick)) [] := by
  unfold axesAns axesV
  cases h : (atS s tick).2 == 0 with
  | false => simp only [bne, h, Bool.not_false, cond_true, cond_false]
  | true =>
    simp only [bne, h, Bool.not_true, cond_false, cond_true]
    obtain ⟨hs, ht, hd⟩ := atS_some (by simpa using h)
    have r1 := hs.ra0; have r2 := hs.ra1
    rw [w64_id (n := s.ra - tick) (by omega)]
    have p1 := prod_q (sinT_unit s.dec) (cosT_unit (s.ra - tick)) (sinT_q _) (cosT_q _)
    have p2 := prod_q (sinT_unit s.dec) (sinT_unit (s.ra - tick)) (sinT_q _) (sinT_q _)
    rw [p1.2.1, p2.2.1, negRaw_ok (sinT_q (s.ra - tick)).ok, negRaw_ok p1.1.ok, negRaw_ok p2.1.ok, hd]
    rfl

/-! ### Projections -/

def eachD (x y z : Span × Int) : Dir × Int := bif x.2 != 0 then (dirZ, x.2) else bif y.2 != 0 then (dirZ, y.2) else bif z.2 != 0 then (dirZ, z.2) else (⟨x.1, y.1, z.1⟩, 0)
def eachDAns (K : AV → List Blk → Ans) (x y z : Span × Int) : Ans :=
  bif !eqAll [.int .i64 x.2, .int .i64 y.2, .int .i64 z.2] [.int .i64 0, .int .i64 0, .int .i64 0] then
    (bif x.2 != 0 then K (rDirE (dirZ, x.2)) [] else bif y.2 != 0 then K (rDirE (dirZ, y.2)) [] else bif z.2 != 0 then K (rDirE (dirZ, z.2)) [] else K (rDirE (⟨x.1, y.1, z.1⟩, 0)) [])
  else K (rDirE (⟨x.1, y.1, z.1⟩, 0)) []
theorem eachDAns_ok {K : AV → List Blk → Ans} {x y z : Span × Int} : eachDAns K x y z = K (rDirE (eachD x y z)) [] := by
  unfold eachDAns eachD
  simp only [eqAll, D.eq, Bool.and_true]
  cases hx : x.2 == 0 <;> cases hy : y.2 == 0 <;> cases hz : z.2 == 0 <;> simp [bne, hx, hy, hz] <;> simp_all
def projF (v : Vec) (f : FrameD) : Dir × Int := eachD (alongS f.u v) (alongS f.v v) (alongS f.w v)
def projV (v : Vec) (s : Source) (tick : Int) : Dir × Int := bif (axesV s tick).2 == 0 then projF v (axesV s tick).1 else (dirZ, (axesV s tick).2)
def projAns (K : AV → List Blk → Ans) (v : Vec) (s : Source) (tick : Int) : Ans :=
  bif (axesV s tick).2 != 0 then K (rDirE (dirZ, (axesV s tick).2)) [] else eachDAns K (alongS (axesV s tick).1.u v) (alongS (axesV s tick).1.v v) (alongS (axesV s tick).1.w v)
theorem projAns_ok {K : AV → List Blk → Ans} {v : Vec} {s : Source} {tick : Int} : projAns K v s tick = K (rDirE (projV v s tick)) [] := by
  unfold projAns projV projF
  rw [eachDAns_ok]
  cases h : (axesV s tick).2 == 0 <;> simp [bne, h]

def normV (v : Vec) : Span × Int := bif (dotV v v).2 == 0 then ofS (dotV v v).1 else (spanZ, (dotV v v).2)
def normAns (K : AV → List Blk → Ans) (v : Vec) : Ans := bif (dotV v v).2 != 0 then K (rSpanE (spanZ, (dotV v v).2)) [] else K (rSpanE (ofS (dotV v v).1)) []
theorem normAns_ok {K : AV → List Blk → Ans} {v : Vec} : normAns K v = K (rSpanE (normV v)) [] := by
  unfold normAns normV
  cases h : (dotV v v).2 == 0 <;> simp [bne, h]

/-! ### What the laws ask first -/

def tickB (t : Int) : Bool := bif decide (t ≥ -1000000) then decide (t ≤ 1000000) else false
def fit8B (s : Source) (tick : Int) : Bool := bif decide ((s.name.size : Int) ≤ 200) then bif checkSrc s == 0 then tickB tick else false else false
theorem fit8B_ok {s : Source} {tick : Int} (h : fit8B s tick = true) : axesV s tick = (axesS s.ra s.dec tick, 0) := by
  unfold fit8B at h
  cases h1 : decide ((s.name.size : Int) ≤ 200) with
  | false => rw [h1] at h; cases h
  | true =>
    rw [h1] at h
    cases h2 : checkSrc s == 0 with
    | false => rw [h2] at h; cases h
    | true =>
      rw [h2] at h
      simp only [cond_true, tickB] at h
      by_cases h3 : tick ≥ -1000000
      · rw [decide_eq_true h3, cond_true, decide_eq_true_eq] at h
        unfold axesV
        rw [atS_ok (checkSrc_iff.1 (by simpa using h2)) ⟨by omega, h⟩]
        rfl
      · rw [decide_eq_false h3] at h; cases h

def ofI (n : Int) : Span := ⟨1000000 * n, 1000000 * n⟩
theorem ofI_q (n : Int) : SQ (ofI n) (n : Rat) ∨ spanValid (ofI n) = false := by
  cases h : spanValid (ofI n) with
  | false => exact .inr rfl
  | true =>
    left
    refine ⟨h, ?_⟩
    unfold EncQ ofI
    simp only [Rat.intCast_mul]
    have e1 : ((1000000 : Int) : Rat) = 1000000 := rfl
    rw [e1]
    refine ⟨?_, ?_⟩ <;> grind

/-! ### The law of squares -/

section
variable (K : AV → List Blk → Ans)
def sqStep (d : Span × Int) (want : Int) (more : Ans) : Ans :=
  bif d.2 != 0 then K (rB false) [] else bif !commonB d.1 (ofI want) then K (rB false) [] else bif decide (w64 (d.1.hi - d.1.lo) > 20) then K (rB false) [] else more
def squareMore (f : FrameD) : Ans :=
  sqStep K (dotS f.u f.u) 1 (sqStep K (dotS f.u f.v) 0 (sqStep K (dotS f.u f.w) 0 (sqStep K (dotS f.v f.v) 1 (sqStep K (dotS f.v f.w) 0 (sqStep K (dotS f.w f.w) 1 (K (rB true) []))))))
def lawProjSquare (s : Source) (tick : Int) : Ans :=
  bif !fit8B s tick then K (rB true) [] else bif (axesV s tick).2 != 0 then K (rB false) [] else squareMore K (axesV s tick).1
end

theorem unit_neg {a : Span} (h : Unit1 a) : Unit1 (negS a) := by unfold Unit1 negS at *; simp only; omega
theorem unit_zero : Unit1 spanZ := by unfold Unit1 spanZ; simp
theorem width_neg (a : Span) : (negS a).hi - (negS a).lo = a.hi - a.lo := by unfold negS; simp only; omega

structure Thin (d : Dir) (m n k : Int) : Prop where
  u : Unit1 d.x ∧ Unit1 d.y ∧ Unit1 d.z
  x : d.x.hi - d.x.lo ≤ m
  y : d.y.hi - d.y.lo ≤ n
  z : d.z.hi - d.z.lo ≤ k

theorem axU_thin (ra tick : Int) : Thin (axU ra tick) 1 1 0 := by
  have h1 := sinT_width (ra - tick); have h2 := cosT_width (ra - tick)
  refine ⟨⟨unit_neg (sinT_unit _), cosT_unit _, unit_zero⟩, ?_, h2, by show spanZ.hi - spanZ.lo ≤ 0; decide⟩
  show (negS (sinT (ra - tick))).hi - (negS (sinT (ra - tick))).lo ≤ 1
  rw [width_neg]; exact h1
theorem axV_thin (ra dec tick : Int) : Thin (axV ra dec tick) 3 3 1 := by
  obtain ⟨p, hp, up⟩ := mulS_unit (sinT_unit dec) (cosT_unit (ra - tick))
  obtain ⟨q, hq, uq⟩ := mulS_unit (sinT_unit dec) (sinT_unit (ra - tick))
  have w1 := mulS_width (sinT_unit dec) (cosT_unit (ra - tick)) hp
  have w2 := mulS_width (sinT_unit dec) (sinT_unit (ra - tick)) hq
  have h0 := sinT_width dec; have h1 := sinT_width (ra - tick); have h2 := cosT_width (ra - tick)
  have e1 : (axV ra dec tick).x = negS p := by unfold axV; rw [hp]
  have e2 : (axV ra dec tick).y = negS q := by unfold axV; rw [hq]
  refine ⟨⟨by rw [e1]; exact unit_neg up, by rw [e2]; exact unit_neg uq, cosT_unit _⟩, ?_, ?_, cosT_width dec⟩
  · rw [e1, width_neg]; omega
  · rw [e2, width_neg]; omega
theorem dirS_thin (ra dec tick : Int) : Thin (dirS ra dec tick) 3 3 1 := by
  obtain ⟨h1, h2, h3⟩ := dirS_width ra dec tick
  exact ⟨dirS_unit ra dec tick, h1, h2, h3⟩

theorem sqStep_ok {K : AV → List Blk → Ans} {a b : Dir} {m n k m' n' k' want : Int} {more : Ans} {x y z x' y' z' : Rat} (ha : Thin a m n k) (hb : Thin b m' n' k') (qa : DQ a x y z) (qb : DQ b x' y' z') (hw : m + m' + n + n' + k + k' + 3 ≤ 20)
    (hk : want = 0 ∨ want = 1) (e1 : (x * x' + y * y' + z * z') * 1000000 < (want : Rat) * 1000000 + 1) (e2 : (want : Rat) * 1000000 < (x * x' + y * y' + z * z') * 1000000 + 1) : sqStep K (dotS a b) want more = more := by
  obtain ⟨p, q, r, hp, hq, hr, up, uq, ur, hd⟩ := dotS_unit ha.u hb.u
  have w1 := mulS_width ha.u.1 hb.u.1 hp
  have w2 := mulS_width ha.u.2.1 hb.u.2.1 hq
  have w3 := mulS_width ha.u.2.2 hb.u.2.2 hr
  have a1 := ha.x; have a2 := ha.y; have a3 := ha.z
  have b1 := hb.x; have b2 := hb.y; have b3 := hb.z
  rcases dot_q qa qb with ⟨s, hs, qs⟩ | hs
  · rw [hd] at hs
    cases hs
    have hv : SQ (ofI want) (want : Rat) := by
      rcases ofI_q want with h | h
      · exact h
      · rcases hk with rfl | rfl
        · exact absurd h (by decide)
        · exact absurd h (by decide)
    have hc := qs.enc.common hv.enc e1 e2
    unfold Unit1 at up uq ur
    unfold sqStep
    rw [hd]
    simp only [bne_self_eq_false, cond_false]
    rw [hc, w64_id (by omega), decide_eq_false (by omega)]
    rfl
  · rw [hd] at hs; simp at hs

theorem tiny_small : tiny * 1000000000000 < 1 ∧ 0 ≤ tiny := by unfold tiny; decide +kernel
theorem sq_le_one (k : Int) : sQ k * sQ k ≤ 2 ∧ cQ k * cQ k ≤ 2 := by
  have h := pythQ k
  have t := tiny_small
  have h1 : 0 ≤ sQ k * sQ k := by
    rcases Rat.le_total (a := 0) (b := sQ k) with q | q
    · exact Rat.mul_nonneg q q
    · have : 0 ≤ (-sQ k) * (-sQ k) := Rat.mul_nonneg (by grind) (by grind)
      grind
  have h2 : 0 ≤ cQ k * cQ k := by
    rcases Rat.le_total (a := 0) (b := cQ k) with q | q
    · exact Rat.mul_nonneg q q
    · have : 0 ≤ (-cQ k) * (-cQ k) := Rat.mul_nonneg (by grind) (by grind)
      grind
  generalize sQ k * sQ k = A at *
  generalize cQ k * cQ k = B at *
  obtain ⟨t1, t2⟩ := t
  constructor <;> grind
theorem rsq (x : Rat) : 0 ≤ x * x := by
  rcases Rat.le_total (a := 0) (b := x) with q | q
  · exact Rat.mul_nonneg q q
  · have : 0 ≤ (-x) * (-x) := Rat.mul_nonneg (by grind) (by grind)
    grind

/-- A small part of a bounded number. -/
theorem small_part {P X B : Rat} (h1 : -tiny ≤ P) (h2 : P ≤ tiny) (h0 : 0 ≤ X) (hB : X ≤ B) : -(tiny * B) ≤ P * X ∧ P * X ≤ tiny * B := by
  have t := tiny_small.2
  have a1 := Rat.mul_le_mul_of_nonneg_right h2 h0
  have a2 := Rat.mul_le_mul_of_nonneg_right h1 h0
  have a3 := Rat.mul_le_mul_of_nonneg_left hB t
  constructor <;> grind

theorem lawProjSquare_ok {K : AV → List Blk → Ans} {s : Source} {tick : Int} : lawProjSquare K s tick = K (rB true) [] := by
  unfold lawProjSquare
  cases hf : fit8B s tick with
  | false => rfl
  | true =>
    rw [fit8B_ok hf]
    simp only [Bool.not_true, cond_false, bne_self_eq_false]
    unfold squareMore axesS
    simp only
    have tU := axU_thin s.ra tick; have tV := axV_thin s.ra s.dec tick; have tW := dirS_thin s.ra s.dec tick
    have qU := axU_q s.ra tick; have qV := axV_q s.ra s.dec tick; have qW := dirS_q s.ra s.dec tick
    have p1 := pythQ (s.ra - tick); have p2 := pythQ s.dec
    have u1 := sq_le_one s.dec
    have c1 : ((1 : Int) : Rat) = 1 := rfl
    have c0 : ((0 : Int) : Rat) = 0 := rfl
    have t := tiny_small
    have n1 := rsq (sQ s.dec); have n2 := rsq (cQ s.dec)
    generalize sQ (s.ra - tick) = b at *
    generalize cQ (s.ra - tick) = a at *
    generalize sQ s.dec = d at *
    generalize cQ s.dec = c at *
    obtain ⟨t1, t2⟩ := t
    have z1 := small_part p1.1 p1.2 n1 u1.1
    have z2 := small_part p1.1 p1.2 n2 u1.2
    have cd : -(2 : Rat) ≤ c * d ∧ c * d ≤ 2 := by
      have := rsq (c + d); have := rsq (c - d)
      constructor <;> grind
    have z3 : -(tiny * 6) ≤ (b * b + a * a - 1) * (c * d) ∧ (b * b + a * a - 1) * (c * d) ≤ tiny * 6 := by
      have q := small_part (X := c * d + 2) (B := 4) p1.1 p1.2 (by grind) (by grind)
      have q' := small_part (X := 2) (B := 2) p1.1 p1.2 (by decide +kernel) Rat.le_refl
      constructor <;> grind
    rw [sqStep_ok tU tU qU qU (by decide) (.inr rfl) (by rw [c1]; grind) (by rw [c1]; grind),
      sqStep_ok tU tV qU qV (by decide) (.inl rfl) (by rw [c0]; grind) (by rw [c0]; grind),
      sqStep_ok tU tW qU qW (by decide) (.inl rfl) (by rw [c0]; grind) (by rw [c0]; grind),
      sqStep_ok tV tV qV qV (by decide) (.inr rfl) (by rw [c1]; grind) (by rw [c1]; grind),
      sqStep_ok tV tW qV qW (by decide) (.inl rfl) (by rw [c0]; grind) (by rw [c0]; grind),
      sqStep_ok tW tW qW qW (by decide) (.inr rfl) (by rw [c1]; grind) (by rw [c1]; grind)]

/-! ### The law of what is kept -/

section
variable (K : AV → List Blk → Ans)
def keepSq (h : Span × Int) (n : Span) : Ans := bif h.2 == 16 then K (rB true) [] else bif h.2 == 0 then (bif commonB h.1 n then K (rB true) [] else K (rB false) []) else K (rB false) []
def keepEnd (d : Dir × Int) (n : Span × Int) : Ans := orT [d.2 != 0, n.2 != 0] (errT K d.2 (errT K n.2 (K (rB true) []))) (keepSq K (dotS d.1 d.1) n.1)
def keepUp (p : Dir × Int) (more : Ans) : Ans := andT [p.2 == 0, !eqAll p.1.x.cells (ofI 0).cells] (K (rB false) []) (andT [p.2 != 0, p.2 != 16] (K (rB false) []) more)
def lawProjKeeps (v : Vec) (s : Source) (tick : Int) : Ans :=
  orT [!fit8B s tick, checkV v != 0] (K (rB true) []) (keepUp K (projV ⟨zeroF, zeroF, v.z⟩ s tick) (keepEnd K (projV v s tick) (normV v)))
end

theorem mulS_nought {a : Span} (ha : spanValid a = true) : mulS a ⟨0, 0⟩ = (⟨0, 0⟩, 0) := by
  unfold mulS
  rw [ha]
  simp only [Int.mul_zero]
  decide +kernel
theorem ofS_nought : ofS zeroF = (⟨0, 0⟩, 0) := by decide +kernel
theorem addS_nought : addS spanZ ⟨0, 0⟩ = (spanZ, 0) := by decide +kernel

theorem up_zero {z : Frac} (ra tick : Int) (hz : FracOk z) : alongS (axU ra tick) ⟨zeroF, zeroF, z⟩ = (spanZ, 0) ∨ alongS (axU ra tick) ⟨zeroF, zeroF, z⟩ = (spanZ, 16) := by
  have q := axU_q ra tick
  have hv : [(axU ra tick).x, (axU ra tick).y, (axU ra tick).z].all spanValid = true := by simp [q.x.ok, q.y.ok, q.z.ok]
  have kv : vecOkB ⟨zeroF, zeroF, z⟩ = true := vecOkB_iff.2 ⟨zero_ok, zero_ok, hz⟩
  unfold alongS
  rw [hv, kv, ofS_nought]
  simp only [cond_true, bne_self_eq_false, cond_false]
  rcases of_q hz with ⟨r, e, k⟩ | e
  · left
    rw [e]
    simp only [bne_self_eq_false, cond_false]
    have m3 : mulS (axU ra tick).z r = (⟨0, 0⟩, 0) := by rw [show (axU ra tick).z = ⟨0, 0⟩ from rfl, mulS_comm]; exact mulS_nought k.ok
    simp [prodsS, mulS_nought q.x.ok, mulS_nought q.y.ok, m3, addS_nought]
  · right; rw [e]; rfl

theorem proj_q {v : Vec} (hv : VecOk v) (ra dec tick : Int) : (∃ d, projF v (axesS ra dec tick) = (d, 0) ∧ alongS (axU ra tick) v = (d.x, 0) ∧ DQ d (-sQ (ra - tick) * val v.x + cQ (ra - tick) * val v.y + 0 * val v.z)
    (-(sQ dec * cQ (ra - tick)) * val v.x + -(sQ dec * sQ (ra - tick)) * val v.y + cQ dec * val v.z) (cQ dec * cQ (ra - tick) * val v.x + cQ dec * sQ (ra - tick) * val v.y + sQ dec * val v.z)) ∨ projF v (axesS ra dec tick) = (dirZ, 16) := by
  unfold projF axesS eachD
  simp only
  rcases along_q (axU_q ra tick) hv with ⟨p, e1, q1⟩ | e1
  · rcases along_q (axV_q ra dec tick) hv with ⟨q, e2, q2⟩ | e2
    · rcases along_q (dirS_q ra dec tick) hv with ⟨r, e3, q3⟩ | e3
      · left
        rw [e1, e2, e3]
        exact ⟨⟨p, q, r⟩, rfl, rfl, q1, q2, q3⟩
      · right; rw [e1, e2, e3]; rfl
    · right; rw [e1, e2]; rfl
  · right; rw [e1]; rfl

theorem norm_q {v : Vec} (hv : VecOk v) : (∃ n, normV v = (n, 0) ∧ SQ n (dotQ v v)) ∨ normV v = (spanZ, 16) := by
  unfold normV
  rw [dotV_ok hv hv]
  rcases dotF_cases hv hv with ⟨m, e, k, h⟩ | e
  · rw [e]
    simp only [beq_self_eq_true, cond_true]
    rw [← h]
    exact of_q k
  · right; rw [e]; rfl

theorem keeps_bound {a b c d x y z : Rat} (p1 : -tiny ≤ b * b + a * a - 1) (p2 : b * b + a * a - 1 ≤ tiny) (r1 : -tiny ≤ d * d + c * c - 1) (r2 : d * d + c * c - 1 ≤ tiny) (hN : x * x + y * y + z * z ≤ 3000) :
    ((-b * x + a * y + 0 * z) * (-b * x + a * y + 0 * z) + (-(d * a) * x + -(d * b) * y + c * z) * (-(d * a) * x + -(d * b) * y + c * z) + (c * a * x + c * b * y + d * z) * (c * a * x + c * b * y + d * z)) * 1000000 < (x * x + y * y + z * z) * 1000000 + 1 ∧
    (x * x + y * y + z * z) * 1000000 < ((-b * x + a * y + 0 * z) * (-b * x + a * y + 0 * z) + (-(d * a) * x + -(d * b) * y + c * z) * (-(d * a) * x + -(d * b) * y + c * z) + (c * a * x + c * b * y + d * z) * (c * a * x + c * b * y + d * z)) * 1000000 + 1 := by
  have sx := rsq x; have sy := rsq y; have sz := rsq z
  have su := rsq (-b * x + a * y)
  have sh := rsq (a * x + b * y)
  obtain ⟨t1, t2⟩ := tiny_small
  have k1 := small_part (X := x * x + y * y) (B := 3000) p1 p2 (by grind) (by grind)
  have e1 : (-b * x + a * y) * (-b * x + a * y) + (a * x + b * y) * (a * x + b * y) = (x * x + y * y) + (b * b + a * a - 1) * (x * x + y * y) := by grind
  have hH : (a * x + b * y) * (a * x + b * y) ≤ 3001 := by grind
  have k2 := small_part (X := (a * x + b * y) * (a * x + b * y) + z * z) (B := 7000) r1 r2 (by grind) (by grind)
  have e2 : (-b * x + a * y + 0 * z) * (-b * x + a * y + 0 * z) + (-(d * a) * x + -(d * b) * y + c * z) * (-(d * a) * x + -(d * b) * y + c * z) + (c * a * x + c * b * y + d * z) * (c * a * x + c * b * y + d * z)
      = (x * x + y * y + z * z) + (b * b + a * a - 1) * (x * x + y * y) + (d * d + c * c - 1) * ((a * x + b * y) * (a * x + b * y) + z * z) := by grind
  rw [e2]
  generalize (b * b + a * a - 1) * (x * x + y * y) = A at *
  generalize (d * d + c * c - 1) * ((a * x + b * y) * (a * x + b * y) + z * z) = B at *
  generalize x * x + y * y + z * z = N at *
  constructor <;> grind

theorem lawProjKeeps_ok {K : AV → List Blk → Ans} {v : Vec} {s : Source} {tick : Int} : lawProjKeeps K v s tick = K (rB true) [] := by
  unfold lawProjKeeps
  refine orT_split (fun _ => rfl) fun hs => ?_
  simp only [List.mem_cons, List.not_mem_nil, or_false, forall_eq_or_imp, forall_eq, Bool.not_eq_false', bne_eq_false_iff_eq] at hs
  obtain ⟨hf, hc⟩ := hs
  have hv : VecOk v := by
    unfold checkV at hc
    cases hq : vecOkB v with
    | true => exact vecOkB_iff.1 hq
    | false => rw [hq] at hc; cases hc
  have ha := fit8B_ok hf
  have hP : ∀ w, projV w s tick = projF w (axesS s.ra s.dec tick) := fun w => by unfold projV; rw [ha]; rfl
  rw [hP, hP]
  have hend : keepEnd K (projF v (axesS s.ra s.dec tick)) (normV v) = K (rB true) [] := by
    unfold keepEnd
    rcases proj_q hv s.ra s.dec tick with ⟨d, e, _, q⟩ | e
    · rcases norm_q hv with ⟨n, en, qn⟩ | en
      · rw [e, en]
        refine orT_split (fun h => by simp at h) fun _ => ?_
        unfold keepSq
        rcases dot_q q q with ⟨h, eh, qh⟩ | eh
        · rw [eh]
          have hN : dotQ v v ≤ 3000 := by
            have h1 := qn.enc.2
            have h2 := (spanValid_iff.1 qn.ok)
            have h3 : (n.hi : Rat) ≤ ((3000000000 : Int) : Rat) := Rat.intCast_le_intCast.2 (by omega)
            have e3 : ((3000000000 : Int) : Rat) = 3000000000 := rfl
            rw [e3] at h3
            grind
          unfold dotQ at hN
          have p1 := pythQ (s.ra - tick); have p2 := pythQ s.dec
          have kb := keeps_bound p1.1 p1.2 p2.1 p2.2 hN
          have hcm := qh.enc.common qn.enc (by unfold dotQ; exact kb.1) (by unfold dotQ; exact kb.2)
          simp only
          rw [hcm]
          rfl
        · rw [eh]; rfl
      · rw [e, en]; exact orT_split (fun _ => rfl) fun h => by simp at h
    · rw [e]
      refine orT_split (fun _ => ?_) fun h => by simp at h
      rw [errT_ok (.inr rfl)]
      rcases norm_q hv with ⟨n, en, _⟩ | en
      · rw [en]; rfl
      · rw [en]; rfl
  unfold keepUp
  rw [hend]
  have ku : VecOk ⟨zeroF, zeroF, v.z⟩ := ⟨zero_ok, zero_ok, hv.z⟩
  rcases proj_q ku s.ra s.dec tick with ⟨d, e, e1, _⟩ | e
  · rw [e]
    refine andT_split (fun hall => ?_) (andT_split (fun hall => by simp at hall) rfl)
    exfalso
    rcases up_zero s.ra tick hv.z with e2 | e2
    · rw [e2] at e1
      have hx : d.x = spanZ := ((Prod.mk.inj e1).1).symm
      simp only [List.mem_cons, List.not_mem_nil, or_false, forall_eq_or_imp, forall_eq] at hall
      rw [hx] at hall
      exact absurd hall.2 (by decide)
    · rw [e2] at e1; simp at e1
  · rw [e]
    exact andT_split (fun hall => by simp at hall) (andT_split (fun hall => by simp at hall) rfl)

end Go.Ev
