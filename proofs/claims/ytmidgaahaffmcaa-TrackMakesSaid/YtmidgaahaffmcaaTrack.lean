/-
  Directions of sources: what the functions come to. No program here.
-/
import Derived.Test.YtmidgaahaffmcaaUnit
import Derived.Test.YtmidgaahaffmcaaName
namespace Go.Ev
open Go

def checkSrc (s : Source) : Int := bif !(namedB s.name) then 8 else bif decide (s.ra < 0) then 8 else bif decide (720 ≤ s.ra) then 8 else bif decide (s.dec < -180) then 8 else bif decide (180 < s.dec) then 8 else 0

structure SrcOk (s : Source) : Prop where
  ra0 : 0 ≤ s.ra
  ra1 : s.ra < 720
  dec0 : -180 ≤ s.dec
  dec1 : s.dec ≤ 180
  name : namedB s.name = true

theorem checkSrc_iff {s : Source} : checkSrc s = 0 ↔ SrcOk s := by
  unfold checkSrc
  cases hn : namedB s.name with
  | false => exact ⟨fun h => by simp at h, fun h => by rw [h.name] at hn; cases hn⟩
  | true =>
    simp only [Bool.not_true, cond_eq_ite, Bool.false_eq_true, if_false, decide_eq_true_eq]
    constructor
    · intro h
      split at h
      · omega
      split at h
      · omega
      split at h
      · omega
      split at h
      · omega
      exact ⟨by omega, by omega, by omega, by omega, hn⟩
    · intro h
      rw [if_neg (by have := h.ra0; omega), if_neg (by have := h.ra1; omega), if_neg (by have := h.dec0; omega), if_neg (by have := h.dec1; omega)]

theorem checkSrc_or (s : Source) : checkSrc s = 0 ∨ checkSrc s = 8 := by
  unfold checkSrc
  cases namedB s.name <;> cases decide (s.ra < 0) <;> cases decide (720 ≤ s.ra) <;> cases decide (s.dec < -180) <;> cases decide (180 < s.dec) <;> simp

def rSpan2 (r : Span × Span) : AV := .tup [.agg r.1.cells, .agg r.2.cells]

/-! ### The direction -/

def dirS (ra dec tick : Int) : Dir := ⟨(mulS (cosT dec) (cosT (ra - tick))).1, (mulS (cosT dec) (sinT (ra - tick))).1, sinT dec⟩
def dirOn (ra dec tick : Int) : Bool := decide (0 ≤ ra) && (decide (ra < 720) && (decide (-180 ≤ dec) && (decide (dec ≤ 180) && (decide (-1000000 ≤ tick) && decide (tick ≤ 1000000)))))

def dirAns (K : AV → List Blk → Ans) (ra dec tick : Int) : Ans :=
  bif (mulS (cosT dec) (cosT (w64 (ra - tick)))).2 != 0 then K (rDirE (dirZ, (mulS (cosT dec) (cosT (w64 (ra - tick)))).2)) [] else
  bif (mulS (cosT dec) (sinT (w64 (ra - tick)))).2 != 0 then K (rDirE (dirZ, (mulS (cosT dec) (sinT (w64 (ra - tick)))).2)) [] else
  K (rDirE (⟨(mulS (cosT dec) (cosT (w64 (ra - tick)))).1, (mulS (cosT dec) (sinT (w64 (ra - tick)))).1, sinT dec⟩, 0)) []

theorem dirAns_ok {K : AV → List Blk → Ans} {ra dec tick : Int} (h : dirOn ra dec tick = true) : dirAns K ra dec tick = K (rDirE (dirS ra dec tick, 0)) [] := by
  simp only [dirOn, Bool.and_eq_true, decide_eq_true_eq] at h
  unfold dirAns dirS
  rw [w64_id (by omega)]
  obtain ⟨p, hp, _⟩ := mulS_unit (cosT_unit dec) (cosT_unit (ra - tick))
  obtain ⟨q, hq, _⟩ := mulS_unit (cosT_unit dec) (sinT_unit (ra - tick))
  rw [hp, hq]
  rfl

def atAns (K : AV → List Blk → Ans) (s : Source) (tick : Int) : Ans :=
  bif checkSrc s != 0 then K (rDirE (dirZ, checkSrc s)) [] else bif decide (tick < -1000000) then K (rDirE (dirZ, 2)) [] else bif decide (1000000 < tick) then K (rDirE (dirZ, 2)) [] else
  bif dirOn s.ra s.dec tick then K (rDirE (dirS s.ra s.dec tick, 0)) [] else none

def atS (s : Source) (tick : Int) : Dir × Int := bif checkSrc s != 0 then (dirZ, 8) else bif decide (tick < -1000000) then (dirZ, 2) else bif decide (1000000 < tick) then (dirZ, 2) else (dirS s.ra s.dec tick, 0)

theorem atAns_ok {K : AV → List Blk → Ans} {s : Source} {tick : Int} : atAns K s tick = K (rDirE (atS s tick)) [] := by
  unfold atAns atS
  rcases checkSrc_or s with h | h
  · have ok := checkSrc_iff.1 h
    rw [h]
    by_cases h1 : tick < -1000000
    · rw [decide_eq_true h1]; rfl
    by_cases h2 : 1000000 < tick
    · rw [decide_eq_false h1, decide_eq_true h2]; rfl
    have := ok.ra0
    have := ok.ra1
    have := ok.dec0
    have := ok.dec1
    rw [decide_eq_false h1, decide_eq_false h2, show dirOn s.ra s.dec tick = true by simp only [dirOn, Bool.and_eq_true, decide_eq_true_eq]; omega]
    rfl
  · rw [h]; rfl

theorem atS_ok {s : Source} {tick : Int} (h : SrcOk s) (ht : -1000000 ≤ tick ∧ tick ≤ 1000000) : atS s tick = (dirS s.ra s.dec tick, 0) := by
  unfold atS
  rw [checkSrc_iff.2 h, decide_eq_false (by omega), decide_eq_false (by omega)]
  rfl

/-! ### Sums of products -/

def validAns (bad ok : Ans) : List Span → Ans
  | [] => ok
  | a :: r => bif decide (a.hi < a.lo) then bad else bif decide (a.lo < -3000000000) then bad else bif decide (3000000000 < a.hi) then bad else validAns bad ok r

theorem validAns_ok {bad ok : Ans} : ∀ l : List Span, validAns bad ok l = bif l.all spanValid then ok else bad
  | [] => rfl
  | a :: r => by
    rw [validAns, validAns_ok r, List.all_cons]
    cases hv : spanValid a with
    | true =>
      rw [spanValid_iff] at hv
      rw [decide_eq_false (by omega), decide_eq_false (by omega), decide_eq_false (by omega)]
      rfl
    | false =>
      have hn : ¬ (a.lo ≤ a.hi ∧ -3000000000 ≤ a.lo ∧ a.hi ≤ 3000000000) := fun hh => by rw [spanValid_iff.2 hh] at hv; cases hv
      by_cases h1 : a.hi < a.lo
      · rw [decide_eq_true h1]; rfl
      by_cases h2 : a.lo < -3000000000
      · rw [decide_eq_false h1, decide_eq_true h2]; rfl
      rw [decide_eq_false h1, decide_eq_false h2, decide_eq_true (by omega)]
      rfl

def prodsAns (K : AV → List Blk → Ans) : Span → List (Span × Span) → Ans
  | sum, [] => K (rSpanE (sum, 0)) []
  | sum, p :: r => bif (mulS p.1 p.2).2 == 0 then (bif (addS sum (mulS p.1 p.2).1).2 != 0 then K (rSpanE (spanZ, (addS sum (mulS p.1 p.2).1).2)) [] else prodsAns K (addS sum (mulS p.1 p.2).1).1 r)
    else (bif (mulS p.1 p.2).2 != 0 then K (rSpanE (spanZ, (mulS p.1 p.2).2)) [] else prodsAns K sum r)

def prodsS : Span → List (Span × Span) → Span × Int
  | sum, [] => (sum, 0)
  | sum, p :: r => bif (mulS p.1 p.2).2 == 0 then (bif (addS sum (mulS p.1 p.2).1).2 == 0 then prodsS (addS sum (mulS p.1 p.2).1).1 r else (spanZ, (addS sum (mulS p.1 p.2).1).2)) else (spanZ, (mulS p.1 p.2).2)

theorem prodsAns_ok {K : AV → List Blk → Ans} : ∀ (l : List (Span × Span)) (sum : Span), prodsAns K sum l = K (rSpanE (prodsS sum l)) []
  | [], _ => rfl
  | p :: r, sum => by
    rw [prodsAns, prodsS]
    cases h : (mulS p.1 p.2).2 == 0 with
    | true =>
      simp only [cond_true]
      cases h2 : (addS sum (mulS p.1 p.2).1).2 == 0 with
      | true => simp only [bne, h2, Bool.not_true, cond_false, cond_true]; exact prodsAns_ok r _
      | false => simp only [bne, h2, Bool.not_false, cond_false, cond_true]
    | false => simp only [bne, h, Bool.not_false, cond_false, cond_true]

def dotS (a b : Dir) : Span × Int := bif [a.x, a.y, a.z, b.x, b.y, b.z].all spanValid then prodsS spanZ [(a.x, b.x), (a.y, b.y), (a.z, b.z)] else (spanZ, 8)
def dotAns (K : AV → List Blk → Ans) (a b : Dir) : Ans := validAns (K (rSpanE (spanZ, 8)) []) (prodsAns K spanZ [(a.x, b.x), (a.y, b.y), (a.z, b.z)]) [a.x, a.y, a.z, b.x, b.y, b.z]

theorem dotAns_ok {K : AV → List Blk → Ans} {a b : Dir} : dotAns K a b = K (rSpanE (dotS a b)) [] := by
  unfold dotAns dotS
  rw [validAns_ok, prodsAns_ok]
  cases [a.x, a.y, a.z, b.x, b.y, b.z].all spanValid <;> rfl

def apartS (a b : Source) : Span × Int := bif checkSrc a != 0 then (spanZ, 8) else bif checkSrc b != 0 then (spanZ, 8) else
  prodsS spanZ [(sinT a.dec, sinT b.dec), ((mulS (cosT a.dec) (cosT b.dec)).1, cosT (a.ra - b.ra))]
def apartAns (K : AV → List Blk → Ans) (a b : Source) : Ans := bif checkSrc a != 0 then K (rSpanE (spanZ, checkSrc a)) [] else bif checkSrc b != 0 then K (rSpanE (spanZ, checkSrc b)) [] else
  bif (mulS (cosT a.dec) (cosT b.dec)).2 != 0 then K (rSpanE (spanZ, (mulS (cosT a.dec) (cosT b.dec)).2)) [] else
  prodsAns K spanZ [(sinT a.dec, sinT b.dec), ((mulS (cosT a.dec) (cosT b.dec)).1, cosT (w64 (a.ra - b.ra)))]

theorem apartAns_ok {K : AV → List Blk → Ans} {a b : Source} : apartAns K a b = K (rSpanE (apartS a b)) [] := by
  unfold apartAns apartS
  rcases checkSrc_or a with ha | ha
  · rcases checkSrc_or b with hb | hb
    · have oa := checkSrc_iff.1 ha
      have ob := checkSrc_iff.1 hb
      have := oa.ra0
      have := oa.ra1
      have := ob.ra0
      have := ob.ra1
      obtain ⟨p, hp, _⟩ := mulS_unit (cosT_unit a.dec) (cosT_unit b.dec)
      rw [ha, hb, hp, w64_id (by omega), prodsAns_ok]
      rfl
    · rw [ha, hb]; rfl
  · rw [ha]; rfl

/-- Products of enclosures of at most 1, added up. -/
theorem prodsS_cons {sum a b : Span} {r : List (Span × Span)} (hs : -100000000 ≤ sum.lo ∧ sum.lo ≤ sum.hi ∧ sum.hi ≤ 100000000) (ha : Unit1 a) (hb : Unit1 b) :
    ∃ p, mulS a b = (p, 0) ∧ Unit1 p ∧ addS sum p = (⟨sum.lo + p.lo, sum.hi + p.hi⟩, 0) ∧ prodsS sum ((a, b) :: r) = prodsS ⟨sum.lo + p.lo, sum.hi + p.hi⟩ r := by
  obtain ⟨p, hp, up⟩ := mulS_unit ha hb
  have h2 := addS_some (a := sum) (b := p) (by omega) (by unfold Unit1 at up; omega)
  refine ⟨p, hp, up, h2, ?_⟩
  rw [prodsS, hp]
  simp only [h2]
  rfl

theorem unit_valid {a : Span} (h : Unit1 a) : spanValid a = true := by
  rw [spanValid_iff]
  unfold Unit1 at h
  omega

theorem dirS_unit (ra dec tick : Int) : Unit1 (dirS ra dec tick).x ∧ Unit1 (dirS ra dec tick).y ∧ Unit1 (dirS ra dec tick).z := by
  obtain ⟨p, hp, up⟩ := mulS_unit (cosT_unit dec) (cosT_unit (ra - tick))
  obtain ⟨q, hq, uq⟩ := mulS_unit (cosT_unit dec) (sinT_unit (ra - tick))
  unfold dirS
  rw [hp, hq]
  exact ⟨up, uq, sinT_unit dec⟩

/-- What is enclosed in a direction's coordinates. -/
theorem dirS_enc (ra dec tick : Int) : Enc (dirS ra dec tick).x (CZ 720 (4 * dec) * CZ 720 (4 * (ra - tick)) * 1000000) (18446744073709551616 * 18446744073709551616) ∧ Enc (dirS ra dec tick).y (CZ 720 (4 * dec) * SZ 720 (4 * (ra - tick)) * 1000000) (18446744073709551616 * 18446744073709551616) ∧
    Enc (dirS ra dec tick).z (SZ 720 (4 * dec) * 1000000) 18446744073709551616 := by
  obtain ⟨p, hp, up⟩ := mulS_unit (cosT_unit dec) (cosT_unit (ra - tick))
  obtain ⟨q, hq, uq⟩ := mulS_unit (cosT_unit dec) (sinT_unit (ra - tick))
  unfold dirS
  refine ⟨?_, ?_, sinT_enc dec⟩
  · rw [hp]; exact enc_prod (cosT_enc dec) (cosT_enc _) hp
  · rw [hq]; exact enc_prod (cosT_enc dec) (sinT_enc _) hq

/-- The product of two enclosures at any scales. -/
theorem enc_times {a b p : Span} {x y d e : Int} (hd : 0 < d) (he : 0 < e) (ha : Enc a (x * 1000000) d) (hb : Enc b (y * 1000000) e) (h : mulS a b = (p, 0)) : Enc p (x * y * 1000000) (d * e) := by
  have := Enc.mul hd he ha hb h
  refine Enc.unscale (c := 1000000) (by decide) ?_
  rwa [show x * 1000000 * (y * 1000000) = x * y * 1000000 * 1000000 by grind] at this

end Go.Ev
