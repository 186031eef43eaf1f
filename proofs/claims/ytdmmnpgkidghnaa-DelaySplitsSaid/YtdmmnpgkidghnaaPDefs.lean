/-
  What the functions compute, as plain functions. Definitions only.
-/
import Derived.Test.YtdmmnpgkidghnaaSpec
namespace Go.Ev

def spanValid (a : Span) : Bool := bif decide (a.lo ≤ a.hi) then bif decide (-3000000000 ≤ a.lo) then decide (a.hi ≤ 3000000000) else false else false
def nearestW (n : Int) : Int := bif decide ((w64 (n + 500000)).tmod 1000000 < 0) then w64 (w64 ((w64 (n + 500000)).tdiv 1000000) - 1) else w64 ((w64 (n + 500000)).tdiv 1000000)
def partB (a : Span) : Bool := bif decide (a.lo ≤ a.hi) then bif decide (-500000 ≤ a.lo) then decide (a.hi < 500000) else false else false
def delaySplit (a : Span) : Delay × Int :=
  bif !(spanValid a) then (delayZ, 8) else
  bif nearestW a.hi != nearestW a.lo then (delayZ, 24) else
  (⟨nearestW a.lo, ⟨w64 (a.lo - w64 (nearestW a.lo * 1000000)), w64 (a.hi - w64 (nearestW a.lo * 1000000))⟩⟩, 0)
def delayJoin (d : Delay) : Span × Int :=
  bif !(spanValid d.part) then (spanZ, 8) else
  bif decide (d.part.lo < -500000) then (spanZ, 8) else
  bif decide (500000 ≤ d.part.hi) then (spanZ, 8) else
  bif decide (d.whole < -3001) then (spanZ, 16) else
  bif decide (3001 < d.whole) then (spanZ, 16) else
  bif !(spanValid ⟨w64 (d.part.lo + w64 (d.whole * 1000000)), w64 (d.part.hi + w64 (d.whole * 1000000))⟩) then (spanZ, 16) else
  (⟨w64 (d.part.lo + w64 (d.whole * 1000000)), w64 (d.part.hi + w64 (d.whole * 1000000))⟩, 0)
def clampW (n : Int) : Int := if (if n < 4000 then n else 4000) > -4000 then (if n < 4000 then n else 4000) else -4000
def refJoin (d : Delay) : Span × Int :=
  bif !(partB d.part) then (spanZ, 8) else
  bif !(spanValid ⟨w64 (d.part.lo + w64 (clampW d.whole * 1000000)), w64 (d.part.hi + w64 (clampW d.whole * 1000000))⟩) then (spanZ, 16) else
  (⟨w64 (d.part.lo + w64 (clampW d.whole * 1000000)), w64 (d.part.hi + w64 (clampW d.whole * 1000000))⟩, 0)
def lawDelaySplits (d : Span) (p : Delay) : Bool :=
  bif eqAll (delaySplit d).1.cells (delaySplit d).1.cells then
  bif (delaySplit d).2 == (delaySplit d).2 then
  bif eqAll (delayJoin p).1.cells (refJoin p).1.cells then (delayJoin p).2 == (refJoin p).2 else false else false else false

end Go.Ev
