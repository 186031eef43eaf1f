/-
  The law TrackApart as a plain function. No program here.
-/
import Derived.Test.YtdgegcaljelohaaTrack
namespace Go.Ev
open Go

def fitB (s : Source) (tick : Int) : Bool := bif !(decide (200 < (s.name.size : Int))) then bif checkSrc s == 0 then bif decide (-900000 ≤ tick) then decide (tick ≤ 900000) else false else false else false

theorem fitB_ok {s : Source} {tick : Int} (h : fitB s tick = true) : SrcOk s ∧ -900000 ≤ tick ∧ tick ≤ 900000 := by
  unfold fitB at h
  cases h1 : decide (200 < (s.name.size : Int)) with
  | true => rw [h1] at h; cases h
  | false =>
    rw [h1] at h
    simp only [Bool.not_false, cond_true] at h
    cases h2 : checkSrc s == 0 with
    | false => rw [h2] at h; cases h
    | true =>
      rw [h2, cond_true] at h
      cases h3 : decide (-900000 ≤ tick) with
      | false => rw [h3] at h; cases h
      | true =>
        rw [h3, cond_true] at h
        exact ⟨checkSrc_iff.1 (by simpa using h2), of_decide_eq_true h3, of_decide_eq_true h⟩

section
variable (K : AV → List Blk → Ans)

def apart1 (d f : Dir × Int) (x y z w : Span × Int) : Ans :=
  bif d.2 == 0 then bif f.2 == 0 then bif x.2 == 0 then bif y.2 == 0 then bif commonB x.1 y.1 then bif z.2 == 0 then bif eqAll y.1.cells z.1.cells then bif w.2 == 0 then bif eqAll w.1.cells y.1.cells then yes K else nay K else nay K else nay K else nay K else nay K else nay K else nay K else nay K else nay K

def lawTrackApart (a b : Source) (tick turn : Int) : Ans :=
  bif !(fitB a tick) then yes K else bif !(fitB b tick) then yes K else bif decide (turn < 0) then yes K else bif decide (720 ≤ turn) then yes K else
  apart1 K (atS a tick) (atS b tick) (dotS (atS a tick).1 (atS b tick).1) (apartS a b) (apartS b a) (apartS ⟨a.name, (w64 (a.ra + turn)).tmod 720, a.dec⟩ ⟨b.name, (w64 (b.ra + turn)).tmod 720, b.dec⟩)
end

theorem apartS_of {a b : Source} (ha : SrcOk a) (hb : SrcOk b) : apartS a b = prodsS spanZ [(sinT a.dec, sinT b.dec), ((mulS (cosT a.dec) (cosT b.dec)).1, cosT (a.ra - b.ra))] := by
  unfold apartS
  rw [checkSrc_iff.2 ha, checkSrc_iff.2 hb]
  rfl

theorem prodsS_swap {sum a b : Span} {r : List (Span × Span)} : prodsS sum ((a, b) :: r) = prodsS sum ((b, a) :: r) := by
  simp only [prodsS]
  rw [mulS_comm a b]

theorem dot_apart {a b : Source} (tick : Int) (ha : SrcOk a) (hb : SrcOk b) : ∃ x y, dotS (dirS a.ra a.dec tick) (dirS b.ra b.dec tick) = (x, 0) ∧ apartS a b = (y, 0) ∧ commonB x y = true := by
  have ua := dirS_unit a.ra a.dec tick
  have ub := dirS_unit b.ra b.dec tick
  have ea := dirS_enc a.ra a.dec tick
  have eb := dirS_enc b.ra b.dec tick
  have s := (sum720 (4 * (a.ra - tick)) (-(4 * (b.ra - tick)))).2
  unfold errC at s
  rw [CZ_neg (by omega), SZ_neg (by omega), show 4 * (a.ra - tick) + -(4 * (b.ra - tick)) = 4 * (a.ra - b.ra) by omega, Int.mul_neg] at s
  have eab := cosT_enc (a.ra - b.ra)
  have uab := cosT_unit (a.ra - b.ra)
  have ra : Abs (CZ 720 (4 * a.dec)) 18446744073709551616 := SZ_range (by omega) _
  have rb : Abs (CZ 720 (4 * b.dec)) 18446744073709551616 := SZ_range (by omega) _
  -- the dot product
  have hv : [(dirS a.ra a.dec tick).x, (dirS a.ra a.dec tick).y, (dirS a.ra a.dec tick).z, (dirS b.ra b.dec tick).x, (dirS b.ra b.dec tick).y, (dirS b.ra b.dec tick).z].all spanValid = true := by
    simp [unit_valid ua.1, unit_valid ua.2.1, unit_valid ua.2.2, unit_valid ub.1, unit_valid ub.2.1, unit_valid ub.2.2]
  obtain ⟨p, hp, up, hp2, hp3⟩ := prodsS_cons (sum := spanZ) (r := [((dirS a.ra a.dec tick).y, (dirS b.ra b.dec tick).y), ((dirS a.ra a.dec tick).z, (dirS b.ra b.dec tick).z)]) (by decide) ua.1 ub.1
  unfold Unit1 at up
  obtain ⟨q, hq, uq, hq2, hq3⟩ := prodsS_cons (sum := ⟨spanZ.lo + p.lo, spanZ.hi + p.hi⟩) (r := [((dirS a.ra a.dec tick).z, (dirS b.ra b.dec tick).z)]) (by simp only [spanZ]; omega) ua.2.1 ub.2.1
  unfold Unit1 at uq
  obtain ⟨r, hr, ur, hr2, hr3⟩ := prodsS_cons (sum := ⟨spanZ.lo + p.lo + q.lo, spanZ.hi + p.hi + q.hi⟩) (r := []) (by simp only [spanZ]; omega) ua.2.2 ub.2.2
  unfold Unit1 at ur
  have hx : dotS (dirS a.ra a.dec tick) (dirS b.ra b.dec tick) = (⟨spanZ.lo + p.lo + q.lo + r.lo, spanZ.hi + p.hi + q.hi + r.hi⟩, 0) := by
    unfold dotS
    rw [hv, hp3, hq3, hr3]
    rfl
  -- how far they are apart
  obtain ⟨f, hf, uf⟩ := mulS_unit (cosT_unit a.dec) (cosT_unit b.dec)
  obtain ⟨h, hh, uh, hh2, hh3⟩ := prodsS_cons (sum := spanZ) (r := [(f, cosT (a.ra - b.ra))]) (by decide) (sinT_unit a.dec) (sinT_unit b.dec)
  unfold Unit1 at uh
  obtain ⟨g, hg, ug, hg2, hg3⟩ := prodsS_cons (sum := ⟨spanZ.lo + h.lo, spanZ.hi + h.hi⟩) (r := []) (by simp only [spanZ]; omega) uf uab
  have hy : apartS a b = (⟨spanZ.lo + h.lo + g.lo, spanZ.hi + h.hi + g.hi⟩, 0) := by
    rw [apartS_of ha hb, hf, hh3, hg3]
    rfl
  refine ⟨_, _, hx, hy, ?_⟩
  rw [commonB_iff]
  have d2 : (0 : Int) < 18446744073709551616 * 18446744073709551616 := by decide
  have e1 := enc_times d2 d2 ea.1 eb.1 hp
  have e2 := enc_times d2 d2 ea.2.1 eb.2.1 hq
  have e3 := enc_times (by decide) (by decide) ea.2.2 eb.2.2 hr
  have e4 := enc_times (by decide) (by decide) (sinT_enc a.dec) (sinT_enc b.dec) hh
  have e5 := enc_times (by decide) (by decide) (cosT_enc a.dec) (cosT_enc b.dec) hf
  have e6 := enc_times d2 (by decide) e5 eab hg
  have e3' := Enc.scale (c := 18446744073709551616 * 18446744073709551616) (by decide) e3
  have e4' := Enc.scale (c := 18446744073709551616 * 18446744073709551616) (by decide) e4
  have e6' := Enc.scale (c := 18446744073709551616) (by decide) e6
  generalize CZ 720 (4 * a.dec) = A at *
  generalize CZ 720 (4 * b.dec) = B at *
  generalize SZ 720 (4 * a.dec) = A' at *
  generalize SZ 720 (4 * b.dec) = B' at *
  generalize CZ 720 (4 * (a.ra - tick)) = C at *
  generalize CZ 720 (4 * (b.ra - tick)) = E at *
  generalize SZ 720 (4 * (a.ra - tick)) = C' at *
  generalize SZ 720 (4 * (b.ra - tick)) = E' at *
  generalize CZ 720 (4 * (a.ra - b.ra)) = F at *
  have ab := (ra.mul rb).mul s
  have X : Enc (⟨spanZ.lo + p.lo + q.lo + r.lo, spanZ.hi + p.hi + q.hi + r.hi⟩ : Span) (A * C * (B * E) * 1000000 + A * C' * (B * E') * 1000000 + A' * B' * 1000000 * (18446744073709551616 * 18446744073709551616)) (18446744073709551616 * 18446744073709551616 * (18446744073709551616 * 18446744073709551616)) := by
    unfold Enc at *
    simp only [spanZ] at *
    omega
  have Y : Enc (⟨spanZ.lo + h.lo + g.lo, spanZ.hi + h.hi + g.hi⟩ : Span) (A' * B' * 1000000 * (18446744073709551616 * 18446744073709551616) + A * B * F * 1000000 * 18446744073709551616) (18446744073709551616 * 18446744073709551616 * (18446744073709551616 * 18446744073709551616)) := by
    unfold Enc at *
    simp only [spanZ] at *
    omega
  refine Enc.common (by decide) X Y ?_
  have e : A * C * (B * E) * 1000000 + A * C' * (B * E') * 1000000 + A' * B' * 1000000 * (18446744073709551616 * 18446744073709551616) - (A' * B' * 1000000 * (18446744073709551616 * 18446744073709551616) + A * B * F * 1000000 * 18446744073709551616) = -(A * B * (18446744073709551616 * F - (C * E - -(C' * E')))) * 1000000 := by grind
  rw [e]
  generalize A * B * (18446744073709551616 * F - (C * E - -(C' * E'))) = Z at *
  unfold Abs at *
  omega

theorem lawTrackApart_ok {K : AV → List Blk → Ans} {a b : Source} {tick turn : Int} : lawTrackApart K a b tick turn = yes K := by
  unfold lawTrackApart
  cases h1 : fitB a tick with
  | false => rfl
  | true =>
    cases h2 : fitB b tick with
    | false => rfl
    | true =>
      obtain ⟨oa, ht⟩ := fitB_ok h1
      obtain ⟨ob, _⟩ := fitB_ok h2
      by_cases h3 : turn < 0
      · rw [decide_eq_true h3]; rfl
      by_cases h4 : 720 ≤ turn
      · rw [decide_eq_false h3, decide_eq_true h4]; rfl
      rw [decide_eq_false h3, decide_eq_false h4]
      simp only [Bool.not_true, cond_false]
      obtain ⟨x, y, hx, hy, hc⟩ := dot_apart tick oa ob
      rw [atS_ok oa (by omega), atS_ok ob (by omega)]
      have hz : apartS b a = (y, 0) := by
        rw [← hy, apartS_of ob oa, apartS_of oa ob, mulS_comm (cosT b.dec), show b.ra - a.ra = -(a.ra - b.ra) by omega, cosT_neg]
        rw [prodsS_swap]
      have a0 := oa.ra0
      have a1 := oa.ra1
      have b0 := ob.ra0
      have b1 := ob.ra1
      rw [w64_id (n := a.ra + turn) (by omega), w64_id (n := b.ra + turn) (by omega), Int.tmod_eq_emod_of_nonneg (by omega), Int.tmod_eq_emod_of_nonneg (by omega)]
      have oa' : SrcOk ⟨a.name, (a.ra + turn) % 720, a.dec⟩ := ⟨by simp only; omega, by simp only; omega, oa.dec0, oa.dec1, oa.name⟩
      have ob' : SrcOk ⟨b.name, (b.ra + turn) % 720, b.dec⟩ := ⟨by simp only; omega, by simp only; omega, ob.dec0, ob.dec1, ob.name⟩
      have hw : apartS ⟨a.name, (a.ra + turn) % 720, a.dec⟩ ⟨b.name, (b.ra + turn) % 720, b.dec⟩ = (y, 0) := by
        rw [apartS_of oa' ob', ← hy, apartS_of oa ob]
        simp only
        rw [show (a.ra + turn) % 720 - (b.ra + turn) % 720 = (a.ra - b.ra) + 720 * ((b.ra + turn) / 720 - (a.ra + turn) / 720) by omega, cosT_whole]
      unfold apart1
      simp only [hx, hy, hz, hw, hc, eqAll_self]
      rfl

end Go.Ev
