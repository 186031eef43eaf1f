/-
  The law TrackCircle as a plain function. No program here.
-/
import Derived.Test.YtdgegcaljelohaaUnit2
import Derived.Test.YtdgegcaljelohaaTrackApartM
namespace Go.Ev
open Go

section
variable (K : AV → List Blk → Ans)

def tcEnd (d q p0 p1 p2 p4 : Dir) : Ans :=
  bif eqAll q.cells (Dir.cells ⟨d.y, negRaw d.x, d.z⟩) then bif eqAll p0.cells d.cells then bif eqAll p1.cells q.cells then bif eqAll p2.cells (Dir.cells ⟨negRaw d.x, negRaw d.y, d.z⟩) then bif eqAll p4.cells d.cells then yes K else nay K else nay K else nay K else nay K else nay K

def tcChain (d : Dir × Int) (one : Span × Int) (y q : Dir × Int) (pe : Int) (cont : Ans) : Ans :=
  bif d.2 != 0 then nay K else bif one.2 != 0 then nay K else bif decide (1000000 < one.1.lo) then nay K else bif decide (one.1.hi < 1000000) then nay K else bif decide (20 < w64 (one.1.hi - one.1.lo)) then nay K else
  bif y.2 != 0 then nay K else bif !(eqAll y.1.cells d.1.cells) then nay K else bif q.2 != 0 then nay K else bif pe != 0 then nay K else cont

def tcPath (s : Source) (tick : Int) (chain : Int → Ans → Ans) (fin : Dir → Dir → Dir → Dir → Ans) : Ans :=
  bif checkSrc s != 0 then chain (checkSrc s) (nay K) else bif decide (tick < -1000000) then chain 2 (nay K) else bif decide (1000000 < tick) then chain 2 (nay K) else
  bif decide (w64 (tick + w64 (180 * 4)) < -1000000) then chain 2 (nay K) else bif decide (1000000 < w64 (tick + w64 (180 * 4))) then chain 2 (nay K) else
  bif dirOn s.ra s.dec (w64 (tick + w64 (0 * 180))) then bif dirOn s.ra s.dec (w64 (tick + w64 (1 * 180))) then bif dirOn s.ra s.dec (w64 (tick + w64 (2 * 180))) then bif dirOn s.ra s.dec (w64 (tick + w64 (3 * 180))) then bif dirOn s.ra s.dec (w64 (tick + w64 (4 * 180))) then
    chain 0 (fin (dirS s.ra s.dec (w64 (tick + w64 (0 * 180)))) (dirS s.ra s.dec (w64 (tick + w64 (1 * 180)))) (dirS s.ra s.dec (w64 (tick + w64 (2 * 180)))) (dirS s.ra s.dec (w64 (tick + w64 (4 * 180)))))
  else none else none else none else none else none

def lawTrackCircle (s : Source) (tick : Int) : Ans :=
  bif !(fitB s tick) then yes K else
  tcPath K s tick (tcChain K (atS s tick) (dotS (atS s tick).1 (atS s tick).1) (atS s (w64 (tick + 720))) (atS s (w64 (tick + 180)))) (tcEnd K (atS s tick).1 (atS s (w64 (tick + 180))).1)
end

theorem lawTrackCircle_ok {K : AV → List Blk → Ans} {s : Source} {tick : Int} : lawTrackCircle K s tick = yes K := by
  unfold lawTrackCircle
  cases h1 : fitB s tick with
  | false => rfl
  | true =>
    obtain ⟨os, ht⟩ := fitB_ok h1
    have r0 := os.ra0
    have r1 := os.ra1
    have r2 := os.dec0
    have r3 := os.dec1
    obtain ⟨x, hx, x1, x2, x3, x4, x5⟩ := dir_square s.ra s.dec tick
    have u := dirS_unit s.ra s.dec tick
    have n1 : negRaw (dirS s.ra s.dec tick).x = negS (dirS s.ra s.dec tick).x := by
      have := u.1
      unfold Unit1 at this
      unfold negRaw negS
      rw [w64_id (by omega), w64_id (by omega)]
      congr 1 <;> omega
    have n2 : negRaw (dirS s.ra s.dec tick).y = negS (dirS s.ra s.dec tick).y := by
      have := u.2.1
      unfold Unit1 at this
      unfold negRaw negS
      rw [w64_id (by omega), w64_id (by omega)]
      congr 1 <;> omega
    have on : ∀ t : Int, -1000000 ≤ t → t ≤ 1000000 → dirOn s.ra s.dec t = true := fun t h3 h4 => by simp only [dirOn, Bool.and_eq_true, decide_eq_true_eq]; omega
    have t0 : w64 (tick + w64 (0 * 180)) = tick := by rw [w64_id (n := 0 * 180) (by omega), w64_id (by omega)]; omega
    have t1 : w64 (tick + w64 (1 * 180)) = tick + 180 := by rw [w64_id (n := 1 * 180) (by omega), w64_id (by omega)]; omega
    have t2 : w64 (tick + w64 (2 * 180)) = tick + 360 := by rw [w64_id (n := 2 * 180) (by omega), w64_id (by omega)]; omega
    have t3 : w64 (tick + w64 (3 * 180)) = tick + 540 := by rw [w64_id (n := 3 * 180) (by omega), w64_id (by omega)]; omega
    have t4 : w64 (tick + w64 (4 * 180)) = tick + 720 := by rw [w64_id (n := 4 * 180) (by omega), w64_id (by omega)]; omega
    have t5 : w64 (tick + w64 (180 * 4)) = tick + 720 := by rw [w64_id (n := 180 * 4) (by omega), w64_id (by omega)]; omega
    have y1 : dirS s.ra s.dec (tick + 720) = dirS s.ra s.dec tick := dirS_year s.ra s.dec tick 1
    unfold tcPath
    rw [checkSrc_iff.2 os, t0, t1, t2, t3, t4, t5, decide_eq_false (show ¬ tick < -1000000 by omega), decide_eq_false (show ¬ 1000000 < tick by omega), decide_eq_false (show ¬ tick + 720 < -1000000 by omega), decide_eq_false (show ¬ 1000000 < tick + 720 by omega),
      on tick (by omega) (by omega), on (tick + 180) (by omega) (by omega), on (tick + 360) (by omega) (by omega), on (tick + 540) (by omega) (by omega), on (tick + 720) (by omega) (by omega),
      w64_id (n := tick + 720) (by omega), w64_id (n := tick + 180) (by omega), atS_ok os (by omega), atS_ok os (tick := tick + 720) (by omega), atS_ok os (tick := tick + 180) (by omega)]
    unfold tcChain tcEnd
    simp only [hx, y1, dirS_quarter, dirS_half, n1, n2, eqAll_self]
    rw [decide_eq_false (show ¬ 1000000 < x.lo by omega), decide_eq_false (show ¬ x.hi < 1000000 by omega), w64_id (by omega), decide_eq_false (show ¬ 20 < x.hi - x.lo by omega)]
    rfl

end Go.Ev
