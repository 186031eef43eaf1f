/-
  Sines and cosines of parts of a turn, one by one. No program here.
  Sines and cosines of half degrees: the program's enclosures are the reference's. No program here.
  Directions, the reference's way. No program here.
  Paths of a source, value by value of their length; the law TrackMakes. No program here.
  Paths as contracts that hand back a new list; the law TrackMakes on them. No program here.
-/
import Derived.Test.YtmidgaahaffmcaaSinTab
import Derived.Test.YtmidgaahaffmcaaUnit
import Derived.Test.YtmidgaahaffmcaaTrack
import Derived.Test.YtmidgaahaffmcaaEvP
namespace Go.Ev
open Go

theorem angI_scale {w n c : Int} (hc : 0 < c) : angI (c * w) (c * n) = angI w n := by
  unfold angI
  rw [← Int.mul_assoc, Int.mul_comm 28976077832308491369 c, Int.mul_assoc, Int.mul_ediv_mul_of_pos _ _ hc]

theorem loI_scale {w n c : Int} (hc : 0 < c) : loI (c * w) (c * n) = loI w n := by
  have hle : ∀ x y : Int, c * x ≤ c * y ↔ x ≤ y := fun x y => ⟨fun h => Int.le_of_mul_le_mul_left h hc, fun h => Int.mul_le_mul_of_nonneg_left h (by omega)⟩
  have e1 : decide (2 * (c * w) ≤ c * n) = decide (2 * w ≤ n) := by
    apply decide_eq_decide.2
    rw [Int.mul_left_comm 2 c]
    exact hle _ _
  unfold loI
  rw [e1, ← Int.mul_sub, angI_scale hc, angI_scale hc]

theorem riseI_scale {w n c : Int} (hc : 0 < c) : riseI (c * w) (c * n) = riseI w n := by
  have heq : ∀ x y : Int, c * x = c * y ↔ x = y := fun x y => ⟨fun h => Int.eq_of_mul_eq_mul_left (by omega) h, fun h => by rw [h]⟩
  have e2 : (c * w == c * n) = (w == n) := beq_congr (heq _ _)
  have e3 : (c * w == 0) = (w == 0) := beq_congr (by have := heq w 0; simpa using this)
  have e4 : (3 * (c * w) == c * n) = (3 * w == n) := beq_congr (by rw [Int.mul_left_comm 3 c]; exact heq _ _)
  unfold riseI
  rw [e2, e3, e4, loI_scale hc]

/-- What is known of the enclosures of a sine and a cosine in the first quarter. -/
structure RiseOk (w n : Int) : Prop where
  eq : riseI w n = refI w n
  low : (riseI w n).lo * (riseI w n).lo / 1000000 + (riseI (n - w) n).lo * (riseI (n - w) n).lo / 1000000 ≤ 1000000
  high : 1000000 ≤ ((riseI w n).hi * (riseI w n).hi + 999999) / 1000000 + ((riseI (n - w) n).hi * (riseI (n - w) n).hi + 999999) / 1000000

theorem RiseOk.scale {w n c : Int} (hc : 0 < c) (h : RiseOk w n) : RiseOk (c * w) (c * n) := by
  refine ⟨?_, ?_, ?_⟩
  · rw [riseI_scale hc, refI_scale hc, h.eq]
  · rw [← Int.mul_sub, riseI_scale hc, riseI_scale hc]; exact h.low
  · rw [← Int.mul_sub, riseI_scale hc, riseI_scale hc]; exact h.high

instance (w n : Int) : Decidable (RiseOk w n) :=
  if h : riseI w n = refI w n ∧ (riseI w n).lo * (riseI w n).lo / 1000000 + (riseI (n - w) n).lo * (riseI (n - w) n).lo / 1000000 ≤ 1000000 ∧ 1000000 ≤ ((riseI w n).hi * (riseI w n).hi + 999999) / 1000000 + ((riseI (n - w) n).hi * (riseI (n - w) n).hi + 999999) / 1000000
  then isTrue ⟨h.1, h.2.1, h.2.2⟩ else isFalse fun k => h ⟨k.eq, k.low, k.high⟩

theorem riseOk_01 : RiseOk 0 1 := by decide +kernel
theorem riseOk_11 : RiseOk 1 1 := by decide +kernel
theorem riseOk_12 : RiseOk 1 2 := by decide +kernel
theorem riseOk_13 : RiseOk 1 3 := by decide +kernel
theorem riseOk_23 : RiseOk 2 3 := by decide +kernel

theorem riseOk_of_pair {w n : Int} (hw : 0 < w ∧ w < n) (h3 : 3 * w ≠ n) (h3' : 3 * (n - w) ≠ n) (h : PairOk w n) : RiseOk w n := by
  have e1 : riseI w n = ⟨loI w n, loI w n + 1⟩ := by
    unfold riseI
    rw [show (w == 0) = false by simp; omega, show (w == n) = false by simp; omega, show (3 * w == n) = false by simpa using h3]
    rfl
  have e2 : riseI (n - w) n = ⟨loI (n - w) n, loI (n - w) n + 1⟩ := by
    unfold riseI
    rw [show (n - w == 0) = false by simp; omega, show (n - w == n) = false by simp; omega, show (3 * (n - w) == n) = false by simpa using h3']
    rfl
  refine ⟨?_, ?_, ?_⟩
  · rw [e1]
    unfold refI stepS
    rw [show (n == w) = false by simp; omega, show (w == 0 || 3 * w == n) = false by simp; omega, h.sin]
    cases decide (2 * (n - w) ≤ n) <;> rfl
  · rw [e1, e2]; exact h.low
  · rw [e1, e2]; exact h.high

theorem quad_congr {r r' : Int → Span} {n : Int} (hn : 0 < n) (h : ∀ w, 0 ≤ w ∧ w ≤ n → r w = r' w) (u : Int) : quad r u n = quad r' u n := by
  obtain ⟨w, k, h1, h2, e | e | e | e⟩ := quad_cases hn u
  · rw [(quad_val ⟨h1, h2⟩).1 e, (quad_val ⟨h1, h2⟩).1 e, h _ (by omega)]
  · rw [(quad_val ⟨h1, h2⟩).2.1 e, (quad_val ⟨h1, h2⟩).2.1 e, h _ (by omega)]
  · rw [(quad_val ⟨h1, h2⟩).2.2.1 e, (quad_val ⟨h1, h2⟩).2.2.1 e, h _ (by omega)]
  · rw [(quad_val ⟨h1, h2⟩).2.2.2 e, (quad_val ⟨h1, h2⟩).2.2.2 e, h _ (by omega)]

end Go.Ev

namespace Go.Ev
open Go

def allC : Nat → Bool
  | 0 => true
  | w + 1 => bif Nat.beq (w + 1) 240 then allC w else bif pairC (w + 1) 720 then allC w else false
set_option maxRecDepth 100000 in
theorem all720 : allC 360 = true := by decide +kernel

theorem allC_one (n : Nat) : allC n = true → ∀ w, 1 ≤ w → w ≤ n → w ≠ 240 → pairC w 720 = true := by
  induction n with
  | zero => intro _ w h1 h2; omega
  | succ n ih =>
    intro h w h1 h2 h3
    rw [allC] at h
    cases hb : Nat.beq (n + 1) 240 with
    | true =>
      rw [hb] at h
      have : n + 1 = 240 := Nat.eq_of_beq_eq_true hb
      exact ih h w h1 (by omega) h3
    | false =>
      rw [hb] at h
      simp only [cond_false] at h
      cases hp : pairC (n + 1) 720 with
      | false => rw [hp] at h; cases h
      | true =>
        rw [hp] at h
        rcases Nat.lt_or_ge n w with q | q
        · obtain rfl := Nat.le_antisymm h2 q
          exact hp
        · exact ih h w h1 q h3

theorem riseOk720 {w : Int} (hw : 0 ≤ w ∧ w ≤ 720) : RiseOk w 720 := by
  by_cases h0 : w = 0
  · subst h0; exact riseOk_01.scale (c := 720) (by omega)
  by_cases h1 : w = 720
  · subst h1; exact riseOk_11.scale (c := 720) (by omega)
  by_cases h2 : w = 240
  · subst h2; exact riseOk_13.scale (c := 240) (by omega)
  by_cases h3 : w = 480
  · subst h3; exact riseOk_23.scale (c := 240) (by omega)
  refine riseOk_of_pair (by omega) (by omega) (by omega) ?_
  obtain ⟨m, rfl⟩ := Int.eq_ofNat_of_zero_le hw.1
  by_cases h4 : m ≤ 360
  · exact pairC_ok (n := 720) (by omega) (by omega) (allC_one 360 all720 m (by omega) h4 (by omega))
  · have k := pairC_ok (w := 720 - m) (n := 720) (by omega) (by omega) (allC_one 360 all720 (720 - m) (by omega) (by omega) (by omega))
    have k' := k.swap
    have e : ((720 : Nat) : Int) - ((720 - m : Nat) : Int) = (m : Int) := by omega
    rw [e] at k'
    exact k'

theorem turnR720 (u : Int) : turnR u 720 = turnS u 720 := by
  rw [turnR_quad, turnS_quad]
  exact quad_congr (by omega) (fun w hw => (riseOk720 hw).eq.symm) u
theorem cosR720 (k : Int) : cosR k 720 = (cosT k, 0) := by
  unfold cosR cosT
  rw [turnR720]
  rfl
theorem sinR720 (k : Int) : sinR k 720 = (sinT k, 0) := by
  unfold sinR sinT
  rw [turnR720]
  rfl

end Go.Ev

namespace Go.Ev
open Go

def tickB (t : Int) : Bool := bif decide (t ≥ -1000000) then decide (t ≤ 1000000) else false
def rDir (d : Dir) : AV := .v (.agg d.cells)
def sinesR (k : Int) : Span × Span := ((cosR k 720).1, (sinR k 720).1)
theorem sinesR_eq (k : Int) : sinesR k = (cosT k, sinT k) := by unfold sinesR; rw [cosR720, sinR720]

def dirR (ra dec tick : Int) : Dir := ⟨(mulS (cosT dec) (cosT (w64 (ra - tick)))).1, (mulS (cosT dec) (sinT (w64 (ra - tick)))).1, sinT dec⟩
theorem dirR_eq {s : Source} {tick : Int} (hs : SrcOk s) (ht : -1000000 ≤ tick ∧ tick ≤ 1000000) : dirR s.ra s.dec tick = dirS s.ra s.dec tick := by
  have r1 := hs.ra0; have r2 := hs.ra1
  unfold dirR dirS
  rw [w64_id (n := s.ra - tick) (by omega)]
def at6Ref (K : AV → List Blk → Ans) (s : Source) (tick : Int) : Ans := bif checkSrc s != 0 then K (rDirE (dirZ, checkSrc s)) [] else bif !tickB tick then K (rDirE (dirZ, 2)) [] else K (rDirE (dirR s.ra s.dec tick, 0)) []
theorem at6Ref_ok {K : AV → List Blk → Ans} {s : Source} {tick : Int} : at6Ref K s tick = K (rDirE (atS s tick)) [] := by
  unfold at6Ref
  rcases checkSrc_or s with h | h
  · rw [h]
    simp only [bne_self_eq_false, cond_false]
    unfold tickB atS
    rw [h]
    simp only [bne_self_eq_false, cond_false]
    by_cases h1 : tick < -1000000
    · rw [decide_eq_true h1, decide_eq_false (show ¬ tick ≥ -1000000 by omega)]; rfl
    · rw [decide_eq_false h1, decide_eq_true (show tick ≥ -1000000 by omega)]
      by_cases h2 : 1000000 < tick
      · rw [decide_eq_true h2, decide_eq_false (show ¬ tick ≤ 1000000 by omega)]; rfl
      · rw [decide_eq_false h2, decide_eq_true (show tick ≤ 1000000 by omega), dirR_eq (checkSrc_iff.1 h) (by omega)]; rfl
  · rw [h]; unfold atS; rw [h]; rfl


end Go.Ev

namespace Go.Ev
open Go

def tkAt (tick step : Int) (k : Nat) : Int := w64 (tick + w64 ((k : Int) * step))

def pathList (f : Nat → Dir) : Nat → Nat → List Dir
  | 0, _ => []
  | m + 1, k => f k :: pathList f m (k + 1)

/-- The directions are asked for one after the other. -/
def dirsOn (ra dec : Int) (t : Nat → Int) (more : Ans) : Nat → Nat → Ans
  | 0, _ => more
  | m + 1, k => bif dirOn ra dec (t k) then dirsOn ra dec t more m (k + 1) else none

def ticksAns (bad ok : Ans) : List Int → Ans
  | [] => ok
  | t :: r => bif decide (t < -1000000) then bad else bif decide (t > 1000000) then bad else ticksAns bad ok r

def mostI (m : Nat) : Int := ((m - 1 : Nat) : Int)

def progPath (s : Source) (tick step : Int) (m : Nat) (K1 : Option (List Dir) → Int → Ans) : Ans :=
  bif checkSrc s != 0 then K1 none (checkSrc s) else bif decide (step < 1) then K1 none 2 else bif decide (step > 720) then K1 none 2 else
  ticksAns (K1 none 2) (dirsOn s.ra s.dec (tkAt tick step) (K1 (some (pathList (fun k => dirS s.ra s.dec (tkAt tick step k)) m 0)) 0) m 0) [tick, w64 (tick + w64 (step * mostI m))]

def refPath (s : Source) (tick step : Int) (m : Nat) (K2 : Option (List Dir) → Int → Ans) : Ans :=
  bif checkSrc s != 0 then K2 none (checkSrc s) else bif decide (step < 1) then K2 none 2 else bif decide (step > 720) then K2 none 2 else bif !tickB tick then K2 none 2 else
  match m with
  | 0 => K2 none 0
  | m + 1 => bif !tickB (w64 (tick + w64 ((m : Int) * step))) then K2 none 2 else K2 (some (pathList (fun k => dirR s.ra s.dec (tkAt tick step k)) (m + 1) 0)) 0

def sameL (no yes : Ans) : List Dir → List Dir → Ans
  | a :: r, b :: q => bif !eqAll a.cells b.cells then no else sameL no yes r q
  | _, _ => yes
def sameAns (no yes : Ans) (c d : Option (List Dir)) : Ans := bif (c.getD []).length != (d.getD []).length then no else sameL no yes (c.getD []) (d.getD [])

def makesEnd (K : AV → List Blk → Ans) (s : Source) (tick : Int) (c : Option (List Dir)) (g : Int) (d : Option (List Dir)) (h : Int) : Ans :=
  bif checkSrc s == checkSrc s then (bif eqAll (atS s tick).1.cells (atS s tick).1.cells then (bif (atS s tick).2 == (atS s tick).2 then sameAns (K (rB false) []) (K (rB (g == h)) []) c d else K (rB false) []) else K (rB false) []) else K (rB false) []

def lawTrackMakes (K : AV → List Blk → Ans) (s : Source) (tick step : Int) (m : Nat) : Ans :=
  bif decide ((s.name.size : Int) > 200) then K (rB true) [] else progPath s tick step m fun c g => refPath s tick step m fun d h => makesEnd K s tick c g d h

def progPath0 (s : Source) (step many : Int) (K1 : Option (List Dir) → Int → Ans) : Ans :=
  bif checkSrc s != 0 then K1 none (checkSrc s) else bif decide (many < 0) then K1 none 4 else bif decide (many > 100) then K1 none 4 else
  bif decide (step < 1) then none else bif decide (step > 720) then none else none
def refPath0 (s : Source) (tick step many : Int) (K1 : Option (List Dir) → Int → Ans) : Ans :=
  bif checkSrc s != 0 then K1 none (checkSrc s) else bif decide (many < 0) then K1 none 4 else bif decide (many > 100) then K1 none 4 else
  bif decide (step < 1) then none else bif decide (step > 720) then none else bif !tickB tick then none else bif decide (many > 0) then (bif !tickB (w64 (tick + w64 (w64 (many - 1) * step))) then none else none) else none
def lawTrackMakes0 (K : AV → List Blk → Ans) (s : Source) (tick step many : Int) : Ans :=
  bif decide ((s.name.size : Int) > 200) then K (rB true) [] else progPath0 s step many fun c g => refPath0 s tick step many fun d h => makesEnd K s tick c g d h

theorem sameL_same {no yes : Ans} : ∀ (l : List Dir), sameL no yes l l = yes
  | [] => rfl
  | a :: r => by rw [sameL, eqAll_self]; exact sameL_same r

theorem makesEnd_ok {K : AV → List Blk → Ans} {s : Source} {tick : Int} {c d : Option (List Dir)} {g h : Int} (e : c.getD [] = d.getD []) (eg : g = h) : makesEnd K s tick c g d h = K (rB true) [] := by
  subst eg
  unfold makesEnd sameAns
  rw [e, sameL_same]
  simp [eqAll_self]

theorem dirsOn_ok {ra dec : Int} {t : Nat → Int} {more : Ans} : ∀ (m k : Nat), (∀ j, k ≤ j → j < k + m → dirOn ra dec (t j) = true) → dirsOn ra dec t more m k = more
  | 0, _, _ => rfl
  | m + 1, k, h => by
    rw [dirsOn, h k (by omega) (by omega), cond_true]
    exact dirsOn_ok m (k + 1) fun j h1 h2 => h j (by omega) (by omega)

theorem pathList_congr {f g : Nat → Dir} : ∀ (m k : Nat), (∀ j, k ≤ j → j < k + m → f j = g j) → pathList f m k = pathList g m k
  | 0, _, _ => rfl
  | m + 1, k, h => by rw [pathList, pathList, h k (by omega) (by omega), pathList_congr m (k + 1) fun j h1 h2 => h j (by omega) (by omega)]

theorem tick_out {t : Int} (h : tickB t = false) : t < -1000000 ∨ t > 1000000 := by
  unfold tickB at h
  by_cases h1 : t ≥ -1000000
  · rw [decide_eq_true h1] at h
    simp only [cond_true, decide_eq_false_iff_not] at h
    omega
  · omega
theorem tick_in {t : Int} (h : tickB t = true) : -1000000 ≤ t ∧ t ≤ 1000000 := by
  unfold tickB at h
  by_cases h1 : t ≥ -1000000
  · rw [decide_eq_true h1] at h
    simp only [cond_true, decide_eq_true_eq] at h
    omega
  · rw [decide_eq_false h1] at h; cases h

theorem tk_between {tick step : Int} {m j : Nat} (ht : -1000000 ≤ tick ∧ tick ≤ 1000000) (hs : 1 ≤ step ∧ step ≤ 720) (hm : m ≤ 100) (hj : j < m) (he : tick + (mostI m) * step ≤ 1000000) : tkAt tick step j = tick + j * step ∧ -1000000 ≤ tick + j * step ∧ tick + j * step ≤ 1000000 := by
  have h1 : (0 : Int) ≤ (j : Int) * step := Int.mul_nonneg (by omega) (by omega)
  have h2 : (j : Int) * step ≤ mostI m * step := Int.mul_le_mul_of_nonneg_right (by unfold mostI; omega) (by omega)
  unfold tkAt
  rw [w64_id (n := (j : Int) * step) (by omega), w64_id (n := tick + (j : Int) * step) (by omega)]
  omega

theorem lawTrackMakes_ok {K : AV → List Blk → Ans} {s : Source} {tick step : Int} {m : Nat} (hm : m ≤ 100) (h_t : -9223372036854775808 ≤ tick ∧ tick ≤ 9223372036854775807) : lawTrackMakes K s tick step m = K (rB true) [] := by
  unfold lawTrackMakes
  cases decide ((s.name.size : Int) > 200) with
  | true => rfl
  | false =>
    simp only [cond_false]
    unfold progPath
    rcases checkSrc_or s with hc | hc
    · have hs := checkSrc_iff.1 hc
      rw [hc]
      simp only [bne_self_eq_false, cond_false]
      by_cases s1 : step < 1
      · rw [decide_eq_true s1]
        unfold refPath
        rw [hc, decide_eq_true s1]
        exact makesEnd_ok rfl rfl
      · by_cases s2 : step > 720
        · rw [decide_eq_false s1, decide_eq_true s2]
          unfold refPath
          rw [hc, decide_eq_false s1, decide_eq_true s2]
          exact makesEnd_ok rfl rfl
        · rw [decide_eq_false s1, decide_eq_false s2]
          simp only [cond_false]
          have hM : 0 ≤ mostI m ∧ mostI m ≤ 99 := by unfold mostI; omega
          have hp : 0 ≤ mostI m * step ∧ mostI m * step ≤ 99 * 720 := ⟨Int.mul_nonneg (by omega) (by omega), Int.mul_le_mul (by omega) (by omega) (by omega) (by omega)⟩
          unfold ticksAns ticksAns ticksAns
          unfold refPath
          rw [hc, decide_eq_false s1, decide_eq_false s2]
          simp only [bne_self_eq_false, cond_false]
          cases h1 : tickB tick with
          | false =>
            rcases tick_out h1 with q | q
            · rw [decide_eq_true q]; exact makesEnd_ok rfl rfl
            · rw [decide_eq_true q, decide_eq_false (show ¬ tick < -1000000 by omega)]; exact makesEnd_ok rfl rfl
          | true =>
            have ht := tick_in h1
            rw [decide_eq_false (show ¬ tick < -1000000 by omega), decide_eq_false (show ¬ tick > 1000000 by omega)]
            simp only [cond_false, Bool.not_true]
            rw [Int.mul_comm step, w64_id (n := mostI m * step) (by omega), w64_id (n := tick + mostI m * step) (by omega), decide_eq_false (show ¬ tick + mostI m * step < -1000000 by omega)]
            simp only [cond_false]
            cases m with
            | zero =>
              rw [decide_eq_false (show ¬ tick + mostI 0 * step > 1000000 by unfold mostI; simp; omega)]
              exact makesEnd_ok rfl rfl
            | succ n =>
              simp only
              have en : mostI (n + 1) = (n : Int) := by unfold mostI; simp
              rw [en] at hp ⊢
              rw [w64_id (n := (n : Int) * step) (by omega), w64_id (n := tick + (n : Int) * step) (by omega)]
              by_cases q : tick + (n : Int) * step > 1000000
              · rw [decide_eq_true q]
                have : tickB (tick + (n : Int) * step) = false := by unfold tickB; rw [decide_eq_true (by omega), decide_eq_false (by omega)]; rfl
                rw [this]
                exact makesEnd_ok rfl rfl
              · have : tickB (tick + (n : Int) * step) = true := by unfold tickB; rw [decide_eq_true (by omega), decide_eq_true (by omega)]; rfl
                rw [decide_eq_false q, this]
                simp only [cond_false, Bool.not_true]
                have r0 := hs.ra0; have r1 := hs.ra1; have d0 := hs.dec0; have d1 := hs.dec1
                rw [dirsOn_ok (n + 1) 0 fun j _ hj => by
                  have b := tk_between (m := n + 1) (j := j) (step := step) ht (by omega) hm (by omega) (by rw [en]; omega)
                  unfold dirOn
                  rw [b.1]
                  simp only [Bool.and_eq_true, decide_eq_true_eq]
                  omega]
                refine makesEnd_ok ?_ rfl
                simp only [Option.getD_some]
                refine pathList_congr (n + 1) 0 fun j _ hj => ?_
                have b := tk_between (m := n + 1) (j := j) (step := step) ht (by omega) hm (by omega) (by rw [en]; omega)
                exact (dirR_eq hs (by rw [b.1]; omega)).symm
    · rw [hc]
      unfold refPath
      rw [hc]
      exact makesEnd_ok rfl rfl

theorem lawTrackMakes0_ok {K : AV → List Blk → Ans} {s : Source} {tick step many : Int} (hm : many < 0 ∨ many > 100) : lawTrackMakes0 K s tick step many = K (rB true) [] := by
  unfold lawTrackMakes0 progPath0 refPath0
  cases decide ((s.name.size : Int) > 200) with
  | true => rfl
  | false =>
    simp only [cond_false]
    rcases checkSrc_or s with hc | hc
    · rw [hc]
      simp only [bne_self_eq_false, cond_false]
      by_cases h : many < 0
      · rw [decide_eq_true h]; exact makesEnd_ok rfl rfl
      · rw [decide_eq_false h, decide_eq_true (show many > 100 by omega)]; exact makesEnd_ok rfl rfl
    · rw [hc]; exact makesEnd_ok rfl rfl

end Go.Ev

namespace Go.Ev
open Go

def cutAt (i : Nat) (M : List Blk) : List Blk := List.replicate i .dead ++ [mget M i]

theorem cutAt_get (i : Nat) (M : List Blk) (b : Nat) : mget (cutAt i M) b = mget M b ∨ mget (cutAt i M) b = .dead := by
  unfold cutAt
  rw [mget, gets_eq, List.getD_eq_getElem?_getD]
  rcases Nat.lt_trichotomy b i with h | h | h
  · right
    rw [List.getElem?_append_left (by simpa using h), List.getElem?_replicate, if_pos h]
    rfl
  · left
    subst h
    rw [List.getElem?_append_right (by simp)]
    simp
  · right
    rw [List.getElem?_eq_none (by simp; omega)]
    rfl

section
variable {P : Program} {G : Nat → Option (List D)} {gb : Nat} {EQ : List Nat} {Γ : Nat → List AV → List Blk → (AV → List Blk → Ans) → Ans} {X : Nat → List AV → (AV → Ans) → Ans} {Λ : Nat → TS → List Blk → Nat → LT}
theorem CallsA.ofEvCut (hΓ : GOK P G gb Γ X) (hEQ : ∀ t, t ∈ EQ → EqOK P t) (hm : P.follows .mixedOrders = true) {n f : Nat} {xs : List AV} {bs M : List Blk} {v : AV} (i : Nat)
    (hL : ∀ fn c, P.funcs[f]? = some fn → fn.body = some c → LOK P G gb Λ (loopsIn c)) (h : evFn P G EQ Γ X Λ n f xs bs (fun v M => some (.fin v (cutAt i M))) = some (.fin v M)) : CallsA P G gb f xs bs v M := by
  obtain ⟨v', M', h1, h2⟩ := evFn_sound hEQ hm hΓ hL h
  cases h2
  exact h1.drop fun b => cutAt_get i M' b
theorem CallsA.ofEvCutP (kp : Nat → List Nat) (hΓ : GOK P G gb Γ X) (hEQ : ∀ t, t ∈ EQ → EqOK P t) (hm : P.follows .mixedOrders = true) {n f : Nat} {xs : List AV} {bs M : List Blk} {v : AV} (i : Nat)
    (hL : ∀ fn c, P.funcs[f]? = some fn → fn.body = some c → LOK P G gb Λ (loopsIn c)) (h : evFnP P G EQ Γ X Λ kp n f xs bs (fun v M => some (.fin v (cutAt i M))) = some (.fin v M)) : CallsA P G gb f xs bs v M := by
  obtain ⟨v', M', h1, h2⟩ := evFnP_sound kp hEQ hm hΓ hL h
  cases h2
  exact h1.drop fun b => cutAt_get i M' b
end

def pathE (s : Source) (tick step many : Int) : Int :=
  bif checkSrc s != 0 then checkSrc s else bif decide (many < 0) || decide (many > 100) then 4 else bif decide (step < 1) || decide (step > 720) then 2 else
  bif tickB tick && tickB (tick + (many - 1) * step) || (tickB tick && many == 0) then 0 else 2
def pathD (s : Source) (tick step : Int) (m : Nat) : List Dir := pathList (fun k => dirS s.ra s.dec (tkAt tick step k)) m 0

def vSlice (i m : Nat) (g : Int) : AV := .tup [.c (.slice i 0 m 6), .c (.d (.int .i64 g))]
def vNil (g : Int) : AV := .tup [.c .nilS, .c (.d (.int .i64 g))]
def mSlice (ty i : Nat) (l : List Dir) : List Blk := List.replicate i .dead ++ [.rw ty (l.flatMap Dir.cells)]
def mNil (i : Nat) : List Blk := List.replicate i .dead ++ [.dead]

def progK (K : AV → List Blk → Ans) (ty m : Nat) (c : Option (List Dir)) (g : Int) : Ans := match c with
  | none => K (vNil g) (mNil 2)
  | some l => K (vSlice 2 m g) (mSlice ty 2 l)
def refK (K : AV → List Blk → Ans) (ty i m : Nat) (c : Option (List Dir)) (g : Int) : Ans := match c with
  | none => K (vNil g) (mNil i)
  | some l => K (vSlice i m g) (mSlice ty i l)

theorem pathE_zero {s : Source} {tick step : Int} {m : Nat} (hm : m ≤ 100) (h : pathE s tick step m = 0) : SrcOk s ∧ (1 ≤ step ∧ step ≤ 720) ∧ (-1000000 ≤ tick ∧ tick ≤ 1000000) ∧ tick + mostI m * step ≤ 1000000 := by
  unfold pathE at h
  rcases checkSrc_or s with hc | hc
  · rw [hc] at h
    simp only [bne_self_eq_false, cond_false] at h
    rw [decide_eq_false (show ¬ (m : Int) < 0 by omega), decide_eq_false (show ¬ (m : Int) > 100 by omega)] at h
    simp only [Bool.or_self, cond_false] at h
    by_cases s1 : step < 1
    · rw [decide_eq_true s1] at h; simp at h
    · by_cases s2 : step > 720
      · rw [decide_eq_true s2] at h; simp at h
      · rw [decide_eq_false s1, decide_eq_false s2] at h
        simp only [Bool.or_self, cond_false] at h
        cases h1 : tickB tick with
        | false => rw [h1] at h; simp at h
        | true =>
          have ht := tick_in h1
          refine ⟨checkSrc_iff.1 hc, by omega, ht, ?_⟩
          rw [h1] at h
          cases m with
          | zero => unfold mostI; simp; omega
          | succ n =>
            have en : mostI (n + 1) = (n : Int) := by unfold mostI; simp
            have e1 : ((n + 1 : Nat) : Int) - 1 = (n : Int) := by omega
            have e0 : (((n + 1 : Nat) : Int) == 0) = false := by simp; omega
            rw [e1, e0] at h
            cases h2 : tickB (tick + (n : Int) * step) with
            | false => rw [h2] at h; simp at h
            | true => rw [en]; exact (tick_in h2).2
  · rw [hc] at h; simp at h

theorem prog_path {s : Source} {tick step : Int} {m : Nat} (hm : m ≤ 100) (K1 : Option (List Dir) → Int → Ans) :
    progPath s tick step m K1 = bif pathE s tick step m == 0 then K1 (some (pathD s tick step m)) 0 else K1 none (pathE s tick step m) := by
  cases he : pathE s tick step m == 0 with
  | true =>
    obtain ⟨hs, hst, ht, hl⟩ := pathE_zero hm (by simpa using he)
    unfold progPath
    rw [checkSrc_iff.2 hs, decide_eq_false (show ¬ step < 1 by omega), decide_eq_false (show ¬ step > 720 by omega)]
    simp only [bne_self_eq_false, cond_false, cond_true]
    have hM : 0 ≤ mostI m ∧ mostI m ≤ 99 := by unfold mostI; omega
    have hp : 0 ≤ mostI m * step ∧ mostI m * step ≤ 99 * 720 := ⟨Int.mul_nonneg (by omega) (by omega), Int.mul_le_mul (by omega) (by omega) (by omega) (by omega)⟩
    unfold ticksAns ticksAns ticksAns
    rw [Int.mul_comm step, w64_id (n := mostI m * step) (by omega), w64_id (n := tick + mostI m * step) (by omega), decide_eq_false (show ¬ tick < -1000000 by omega), decide_eq_false (show ¬ tick > 1000000 by omega),
      decide_eq_false (show ¬ tick + mostI m * step < -1000000 by omega), decide_eq_false (show ¬ tick + mostI m * step > 1000000 by omega)]
    simp only [cond_false]
    have r0 := hs.ra0; have r1 := hs.ra1; have d0 := hs.dec0; have d1 := hs.dec1
    rw [dirsOn_ok m 0 fun j _ hj => by
      have b := tk_between (m := m) (j := j) (step := step) ht hst hm (by omega) hl
      unfold dirOn
      rw [b.1]
      simp only [Bool.and_eq_true, decide_eq_true_eq]
      omega]
    rfl
  | false =>
    simp only [cond_false]
    have hne : pathE s tick step m ≠ 0 := by simpa using he
    unfold progPath pathE at *
    rcases checkSrc_or s with hc | hc
    · rw [hc] at hne ⊢
      simp only [bne_self_eq_false, cond_false] at hne ⊢
      rw [decide_eq_false (show ¬ (m : Int) < 0 by omega), decide_eq_false (show ¬ (m : Int) > 100 by omega)] at hne ⊢
      simp only [Bool.or_self, cond_false] at hne ⊢
      by_cases s1 : step < 1
      · rw [decide_eq_true s1]; simp
      · by_cases s2 : step > 720
        · rw [decide_eq_false s1, decide_eq_true s2]; simp
        · rw [decide_eq_false s1, decide_eq_false s2] at hne ⊢
          simp only [Bool.or_self, cond_false] at hne ⊢
          have hM : 0 ≤ mostI m ∧ mostI m ≤ 99 := by unfold mostI; omega
          have hp : 0 ≤ mostI m * step ∧ mostI m * step ≤ 99 * 720 := ⟨Int.mul_nonneg (by omega) (by omega), Int.mul_le_mul (by omega) (by omega) (by omega) (by omega)⟩
          unfold ticksAns ticksAns ticksAns
          cases h1 : tickB tick with
          | false =>
            simp only [Bool.false_and, Bool.or_self, cond_false]
            rcases tick_out h1 with q | q
            · rw [decide_eq_true q]; rfl
            · rw [decide_eq_true q, decide_eq_false (show ¬ tick < -1000000 by omega)]; rfl
          | true =>
            rw [h1] at hne
            have ht := tick_in h1
            rw [Int.mul_comm step, w64_id (n := mostI m * step) (by omega), w64_id (n := tick + mostI m * step) (by omega), decide_eq_false (show ¬ tick < -1000000 by omega), decide_eq_false (show ¬ tick > 1000000 by omega), decide_eq_false (show ¬ tick + mostI m * step < -1000000 by omega)]
            simp only [cond_false]
            cases m with
            | zero => exfalso; apply hne; simp
            | succ n =>
              have en : mostI (n + 1) = (n : Int) := by unfold mostI; simp
              have e1 : ((n + 1 : Nat) : Int) - 1 = (n : Int) := by omega
              have e0 : (((n + 1 : Nat) : Int) == 0) = false := by simp; omega
              rw [e1, e0] at hne ⊢
              rw [en] at hp ⊢
              cases h2 : tickB (tick + (n : Int) * step) with
              | true => rw [h2] at hne; simp at hne
              | false =>
                rcases tick_out h2 with q | q
                · omega
                · rw [decide_eq_true q]; simp
    · rw [hc]; simp

theorem ref_path {s : Source} {tick step : Int} {m : Nat} (hm : m ≤ 100) (h_t : -9223372036854775808 ≤ tick ∧ tick ≤ 9223372036854775807) (K1 : Option (List Dir) → Int → Ans) :
    refPath s tick step m K1 = bif pathE s tick step m == 0 then K1 (bif m == 0 then none else some (pathD s tick step m)) 0 else K1 none (pathE s tick step m) := by
  cases he : pathE s tick step m == 0 with
  | true =>
    obtain ⟨hs, hst, ht, hl⟩ := pathE_zero hm (by simpa using he)
    unfold refPath
    rw [checkSrc_iff.2 hs, decide_eq_false (show ¬ step < 1 by omega), decide_eq_false (show ¬ step > 720 by omega)]
    have h1 : tickB tick = true := by unfold tickB; rw [decide_eq_true (by omega), decide_eq_true (by omega)]; rfl
    rw [h1]
    simp only [bne_self_eq_false, cond_false, cond_true, Bool.not_true]
    cases m with
    | zero => rfl
    | succ n =>
      have en : mostI (n + 1) = (n : Int) := by unfold mostI; simp
      have hp : 0 ≤ (n : Int) * step ∧ (n : Int) * step ≤ 99 * 720 := ⟨Int.mul_nonneg (by omega) (by omega), Int.mul_le_mul (by omega) (by omega) (by omega) (by omega)⟩
      simp only
      rw [w64_id (n := (n : Int) * step) (by omega), w64_id (n := tick + (n : Int) * step) (by omega)]
      rw [en] at hl
      have h2 : tickB (tick + (n : Int) * step) = true := by unfold tickB; rw [decide_eq_true (by omega), decide_eq_true (by omega)]; rfl
      rw [h2]
      simp only [Bool.not_true, cond_false]
      have e : pathList (fun k => dirR s.ra s.dec (tkAt tick step k)) (n + 1) 0 = pathD s tick step (n + 1) := by
        unfold pathD
        refine pathList_congr (n + 1) 0 fun j _ hj => ?_
        have b := tk_between (m := n + 1) (j := j) (step := step) ht hst hm (by omega) (by rw [en]; exact hl)
        exact dirR_eq hs (by rw [b.1]; omega)
      rw [e]
      rfl
  | false =>
    simp only [cond_false]
    have hne : pathE s tick step m ≠ 0 := by simpa using he
    unfold refPath pathE at *
    rcases checkSrc_or s with hc | hc
    · rw [hc] at hne ⊢
      simp only [bne_self_eq_false, cond_false] at hne ⊢
      rw [decide_eq_false (show ¬ (m : Int) < 0 by omega), decide_eq_false (show ¬ (m : Int) > 100 by omega)] at hne ⊢
      simp only [Bool.or_self, cond_false] at hne ⊢
      by_cases s1 : step < 1
      · rw [decide_eq_true s1]; simp
      · by_cases s2 : step > 720
        · rw [decide_eq_false s1, decide_eq_true s2]; simp
        · rw [decide_eq_false s1, decide_eq_false s2] at hne ⊢
          simp only [Bool.or_self, cond_false] at hne ⊢
          cases h1 : tickB tick with
          | false => simp
          | true =>
            rw [h1] at hne
            have ht := tick_in h1
            simp only [Bool.not_true, cond_false]
            cases m with
            | zero => exfalso; apply hne; simp
            | succ n =>
              have hp : 0 ≤ (n : Int) * step ∧ (n : Int) * step ≤ 99 * 720 := ⟨Int.mul_nonneg (by omega) (by omega), Int.mul_le_mul (by omega) (by omega) (by omega) (by omega)⟩
              have e1 : ((n + 1 : Nat) : Int) - 1 = (n : Int) := by omega
              have e0 : (((n + 1 : Nat) : Int) == 0) = false := by simp; omega
              rw [e1, e0] at hne ⊢
              simp only
              rw [w64_id (n := (n : Int) * step) (by omega), w64_id (n := tick + (n : Int) * step) (by omega)]
              cases h2 : tickB (tick + (n : Int) * step) with
              | true => rw [h2] at hne; simp at hne
              | false => simp
    · rw [hc]; simp

/-! ### The law on the contracts -/

def refL (s : Source) (tick step : Int) (m : Nat) : Option (List Dir) := match m with
  | 0 => none
  | n + 1 => some (pathD s tick step (n + 1))
def lawTM (K : AV → List Blk → Ans) (s : Source) (tick step : Int) (m : Nat) : Ans :=
  bif decide ((s.name.size : Int) > 200) then K (rB true) [] else
  bif pathE s tick step m == 0 then (bif pathE s tick step m == 0 then makesEnd K s tick (some (pathD s tick step m)) 0 (refL s tick step m) 0 else makesEnd K s tick (some (pathD s tick step m)) 0 none (pathE s tick step m))
  else (bif pathE s tick step m == 0 then makesEnd K s tick none (pathE s tick step m) (refL s tick step m) 0 else makesEnd K s tick none (pathE s tick step m) none (pathE s tick step m))
theorem lawTM_ok {K : AV → List Blk → Ans} {s : Source} {tick step : Int} {m : Nat} : lawTM K s tick step m = K (rB true) [] := by
  unfold lawTM
  cases decide ((s.name.size : Int) > 200) with
  | true => rfl
  | false =>
    simp only [cond_false]
    cases pathE s tick step m == 0 with
    | true =>
      refine makesEnd_ok ?_ rfl
      cases m <;> rfl
    | false => exact makesEnd_ok rfl rfl

end Go.Ev
