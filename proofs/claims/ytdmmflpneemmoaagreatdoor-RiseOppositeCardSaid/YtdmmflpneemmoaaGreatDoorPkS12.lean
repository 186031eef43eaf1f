/-
  All windows, by the program and by the reference. No condition.
  The reference's windows; comparing windows. No condition.
  Plain functions that mirror functions of the program, and that it computes them. No condition beyond those of the statements.
  The laws RiseAll and RiseStates. No condition.
  What a listed variable that is a fraction reads as: its two cells. No condition.
  The chapter's examples, what is fit, checks of windows; the law RiseSure. No condition.
  Opposite sources and lower limits; the law RiseOpposite. No condition.
-/
import Derived.Test.YtdmmflpneemmoaaGreatDoorPkS11
import Derived.ChangeSame
import Derived.ChangeArms
import Derived.FnData
import Derived.MakeChecks
import GoSem.ClaimJoined
set_option maxRecDepth 100000
namespace Go.Ev
open Go
theorem run_places (g : Globe) (l : List Site) (m : List Site) (hl : l.length ≤ 8) : ∀ (f n : Nat) (acc : List Vec), n ≤ l.length → l.length - n < f → acc.length = l.length →
    (run_array_Places_0 (l.length : Int) m (placedL g l) f (n : Int) acc).k = 0 ∧ (run_array_Places_0 (l.length : Int) m (placedL g l) f (n : Int) acc).m1 = acc.take n ++ (placesL g l).drop n := by
  intro f
  induction f with
  | zero => intro n acc _ h; omega
  | succ f ih =>
    intro n acc hn h ha
    rw [run_array_Places_0]
    by_cases h1 : n < l.length
    · simp only [nn_t, lt_t h1, lt_t (show n < (placedL g l).length by rw [placedL_len]; exact h1), lt_t (show n < acc.length by omega), Bool.and_self, cond_true, w64_up (show n < 9223372036854775807 by omega), Int.toNat_natCast]
      have := ih (n + 1) (acc.set n ((placedL g l).getD n (ET.z .placed)).at_) (by omega) (by omega) (by simp [ha])
      rw [take_set (by omega)] at this
      rw [drop_at (ET.z .vec) (show n < (placesL g l).length by rw [placesL_len]; exact h1), placesL_at g h1]
      refine ⟨this.1, this.2.trans ?_⟩
      rw [placedL_at g h1, List.append_assoc]
      rfl
    · simp only [lt_f h1, cond_false]
      rw [drop_all (show ¬ n < (placesL g l).length by rw [placesL_len]; exact h1), List.append_nil, List.take_of_length_le (by omega)]
      exact ⟨trivial, rfl⟩
theorem check_parts {g : Globe} {l : List Site} (h : checkA g l = 0) : checkG g = 0 ∧ stationsE l = 0 := by
  unfold checkA at h
  cases h3 : (checkG g != 0) with
  | true => rw [h3, cond_true] at h; rw [h] at h3; cases h3
  | false =>
    rw [h3, cond_false] at h
    cases h5 : (stationsE l != 0) with
    | true => rw [h5, cond_true] at h; rw [h] at h5; cases h5
    | false => exact ⟨eq0_of h3, eq0_of h5⟩
theorem m_placesA (g : Globe) (l : List Site) : m_array_Places g l = ⟨true, bif checkA g l == 0 then placesL g l else [], checkA g l⟩ := by
  unfold m_array_Places
  simp only [m_place, cond_true]
  cases h1 : (checkA g l != 0) with
  | true =>
    rw [show (checkA g l == 0) = false by simpa [bne] using h1]
    rfl
  | false =>
    have h0 := eq0_of h1
    have hl := (stations_ok (check_parts h0).2).1
    rw [h0]
    have e0 : (decide (0 ≤ (l.length : Int)) && (decide ((l.length : Int) ≤ 1048576) && (Nat.blt 0 6 && Nat.ble 48 4096))) = true := by
      rw [nn_t, dec_t (show (l.length : Int) ≤ 1048576 by omega)]; rfl
    obtain ⟨k1, k2⟩ := run_places g l l hl (2000 + (l.length + (List.replicate l.length (⟨⟨(0 : Int), (0 : Int)⟩, ⟨(0 : Int), (0 : Int)⟩, ⟨(0 : Int), (0 : Int)⟩⟩ : Vec)).length + (placedL g l).length)) 0 (List.replicate l.length (⟨⟨(0 : Int), (0 : Int)⟩, ⟨(0 : Int), (0 : Int)⟩, ⟨(0 : Int), (0 : Int)⟩⟩ : Vec)) (by omega) (by omega) (by simp)
    rw [show ((0 : Nat) : Int) = 0 from rfl] at k1 k2
    rw [List.take_zero, List.nil_append, List.drop_zero] at k2
    rw [placedL_len] at k1 k2
    unfold lp_array_Places_0
    simp only [beq_self_eq_true, cond_true, cond_false, placedL_len, decide_true, Bool.true_and, e0, Int.toNat_natCast, k1, k2, show Nat.beq 0 0 = true from rfl]
def limB (f : Frac) : Bool := fracOkB f && (decide (0 ≤ f.num) && (decide (f.num ≤ f.den) && decide (f.den ≤ 1000)))
theorem limB_ok {f : Frac} (h : limB f = true) : LimOk f := by
  unfold limB at h
  simp only [Bool.and_eq_true, decide_eq_true_eq, fracOkB_iff] at h
  exact ⟨h.1, h.2.1, h.2.2.1, h.2.2.2⟩
def lookE (g : Globe) (l : List Site) (s : Source) (lim : Frac) : Int := bif checkA g l != 0 then checkA g l else bif checkSrc s != 0 then checkSrc s else bif limB lim then 0 else 8
theorem m_look (g : Globe) (l : List Site) (s : Source) (lim : Frac) : m_rise_look g l s lim = ⟨true, bif lookE g l s lim == 0 then placesL g l else [], lookE g l s lim⟩ := by
  unfold m_rise_look lookE
  simp only [m_placesA, cond_true]
  cases h1 : (checkA g l != 0) with
  | true => simp only [cond_true]; rw [show (checkA g l == 0) = false by simpa [bne] using h1]; rfl
  | false =>
    rw [eq0_of h1]
    simp only [cond_false, beq_self_eq_true, cond_true]
    cases h2 : (checkSrc s != 0) with
    | true =>
      simp only [cond_true]
      rw [show (checkSrc s == 0) = false by simpa [bne] using h2]
      rfl
    | false =>
      simp only [cond_false]
      unfold limB
      rw [show (checkF ⟨lim.num, lim.den⟩ != 0) = !fracOkB lim by rw [bne, show (checkF ⟨lim.num, lim.den⟩ == 0) = fracOkB lim from check_ok lim], dlt lim.num, dlt lim.den, dlt 1000]
      cases fracOkB lim <;> cases decide (0 ≤ lim.num) <;> cases decide (lim.num ≤ lim.den) <;> cases decide (lim.den ≤ 1000) <;> rfl
theorem m_both (g : Globe) (l : List Site) (s : Source) : m_Q7_Both g l s = ⟨true, bif checkA g l != 0 then checkA g l else checkSrc s⟩ := by
  unfold m_Q7_Both
  simp only [m_checkRA, cond_true]
  cases checkA g l != 0 <;> rfl
theorem m_limit (lim : Frac) : m_Q7_Limit lim = ⟨true, limB lim⟩ := by
  unfold m_Q7_Limit limB
  rw [show (checkF ⟨lim.num, lim.den⟩ == 0) = fracOkB lim from check_ok lim]
  cases fracOkB lim <;> cases decide (0 ≤ lim.num) <;> cases decide (lim.num ≤ lim.den) <;> cases decide (lim.den ≤ 1000) <;> rfl
structure Fine (g : Globe) (l : List Site) (s : Source) (lim : Frac) : Prop where
  kg : GlobeOk g
  n : l.length ≤ 8
  v : ∀ x ∈ l, siteB x = true
  ks : SrcOk s
  kl : LimOk lim
  c : checkA g l = 0
  cs : checkSrc s = 0
  cl : limB lim = true
theorem fine {g : Globe} {l : List Site} {s : Source} {lim : Frac} (h : lookE g l s lim = 0) : Fine g l s lim := by
  unfold lookE at h
  cases h1 : (checkA g l != 0) with
  | true => rw [h1, cond_true] at h; rw [h] at h1; cases h1
  | false =>
    rw [h1, cond_false] at h
    cases h2 : (checkSrc s != 0) with
    | true => rw [h2, cond_true] at h; rw [h] at h2; cases h2
    | false =>
      rw [h2, cond_false] at h
      cases h3 : limB lim with
      | false => rw [h3] at h; cases h
      | true =>
        have c := eq0_of h1; have cs := eq0_of h2
        obtain ⟨k1, k2⟩ := check_parts c
        obtain ⟨k3, k4⟩ := stations_ok k2
        refine ⟨?_, k3, k4, checkSrc_iff.1 cs, limB_ok h3, c, cs, h3⟩
        unfold checkG at k1
        cases hg : globeOkB g with
        | false => rw [hg] at k1; cases k1
        | true => exact globeOkB_iff.1 hg
def viewsL (g : Globe) (l : List Site) (lim : Frac) : List View := l.map fun x => viewV g (placeV g x.s x.t) lim
theorem viewsL_len (g : Globe) (l : List Site) (lim : Frac) : (viewsL g l lim).length = l.length := List.length_map _
theorem viewsL_at (g : Globe) {l : List Site} (lim : Frac) {n : Nat} (h : n < l.length) : (viewsL g l lim).getD n (ET.z .view) = viewV g (placeV g (sAt l n).s (sAt l n).t) lim := by
  unfold viewsL
  rw [List.getD_eq_getElem?_getD, List.getElem?_map, List.getElem?_eq_getElem h, sAt, List.getD_eq_getElem?_getD, List.getElem?_eq_getElem h]
  rfl
theorem Fine.place {g : Globe} {l : List Site} {s : Source} {lim : Frac} (h : Fine g l s lim) {x : Site} (hx : x ∈ l) : PlaceQ g x.s x.t (placeV g x.s x.t) := (given_place (check_parts h.c).1 (site_placed (h.v x hx))).2
theorem Fine.view {g : Globe} {l : List Site} {s : Source} {lim : Frac} (h : Fine g l s lim) {x : Site} (hx : x ∈ l) : m_rise_viewOf g (placeV g x.s x.t) lim = ⟨true, viewV g (placeV g x.s x.t) lim, 0⟩ ∧ VOk (viewV g (placeV g x.s x.t) lim) := m_viewOf (h.place hx) h.kl
theorem Fine.views {g : Globe} {l : List Site} {s : Source} {lim : Frac} (h : Fine g l s lim) : ∀ v ∈ viewsL g l lim, VOk v := by
  intro v hv
  obtain ⟨x, hx, rfl⟩ := List.mem_map.1 hv
  exact (h.view hx).2
theorem run_views {g : Globe} {l : List Site} {s : Source} {lim : Frac} (h : Fine g l s lim) (a b c : Int) (m : List Site) (w : List Window) (r : Source) : ∀ (f n : Nat) (acc : List View), n ≤ l.length → l.length - n < f → acc.length = l.length →
    (run_rise_All_0 a b c (l.length : Int) m g r lim w (placesL g l) f (n : Int) acc).k = 1 ∧ (run_rise_All_0 a b c (l.length : Int) m g r lim w (placesL g l) f (n : Int) acc).m5 = acc.take n ++ (viewsL g l lim).drop n := by
  intro f
  induction f with
  | zero => intro n acc _ h; omega
  | succ f ih =>
    intro n acc hn hf ha
    rw [run_rise_All_0]
    have hl := h.n
    by_cases h1 : n < l.length
    · have hv := (h.view (sAt_mem h1)).1
      simp only [nn_t, lt_t h1, lt_t (show n < (placesL g l).length by rw [placesL_len]; exact h1), lt_t (show n < acc.length by omega), Bool.and_self, cond_true, w64_up (show n < 9223372036854775807 by omega), Int.toNat_natCast, placesL_at g h1, hv, bne_self_eq_false, cond_false]
      have := ih (n + 1) (acc.set n (viewV g (placeV g (sAt l n).s (sAt l n).t) lim)) (by omega) (by omega) (by simp [ha])
      rw [take_set (by omega)] at this
      rw [drop_at (ET.z .view) (show n < (viewsL g l lim).length by rw [viewsL_len]; exact h1), viewsL_at g lim h1]
      refine ⟨this.1, this.2.trans ?_⟩
      rw [List.append_assoc]
      rfl
    · simp only [lt_f h1, cond_false]
      rw [drop_all (show ¬ n < (viewsL g l lim).length by rw [viewsL_len]; exact h1), List.append_nil, List.take_of_length_le (by omega)]
      exact ⟨trivial, rfl⟩
def upN (g : Globe) (l : List Site) (s : Source) (fr : Int) (lim : Frac) (k : Nat) : Bool := upAll (viewsL g l lim) (dirS s.ra s.dec (fr + k))
theorem w64_last {n : Nat} (h : n < 1000) : w64 ((n : Int) - 1) = (n : Int) - 1 := w64_id (by omega)
theorem step_eq (up : Nat → Bool) (fr : Int) (n : Nat) (hu : up n = true) :
    (0 < (winsF up fr n).length ∧ ((winsF up fr n).getD ((winsF up fr n).length - 1) (ET.z .win)).too = fr + n ∧ (winsF up fr n).set ((winsF up fr n).length - 1) ⟨((winsF up fr n).getD ((winsF up fr n).length - 1) (ET.z .win)).frm, fr + n + 1⟩ = winsF up fr (n + 1)) ∨
    (winsF up fr n ++ [(⟨fr + n, fr + n + 1⟩ : Window)] = winsF up fr (n + 1) ∧ (0 < (winsF up fr n).length → ((winsF up fr n).getD ((winsF up fr n).length - 1) (ET.z .win)).too ≠ fr + n)) := by
  have e : winsF up fr (n + 1) = (stepR (fr + n) true (winsR up fr n)).reverse := by unfold winsF; rw [winsR, hu]
  rw [e]
  unfold winsF
  cases h : endsAt (winsR up fr n) (fr + n) with
  | true =>
    obtain ⟨_, h1, h2, h3⟩ := step_last h
    exact .inl ⟨h1, h2, h3⟩
  | false =>
    refine .inr ⟨step_new h, fun h1 => ?_⟩
    have := last_ends (R := winsR up fr n) (t := fr + n) (by simpa using h1)
    rw [h] at this
    exact beq_eq_false_iff_ne.1 this
theorem wins_skip {up : Nat → Bool} {fr : Int} {n : Nat} (hu : up n = false) : winsF up fr (n + 1) = winsF up fr n := by
  unfold winsF
  rw [winsR, hu]
  rfl
theorem ble_room {n : Nat} (h : n < 1000) : (Nat.blt 0 2 && ((2 == 2) && ((2 == 2) && (Nat.ble (n + 1) roomD && Nat.ble 16 4096)))) = true := by
  rw [room_le (show n + 1 ≤ 1048576 by omega)]; rfl
theorem run_wins {g : Globe} {l : List Site} {s : Source} {lim : Frac} (h : Fine g l s lim) {fr to : Int} (hf : -1000000 ≤ fr) (ht : to ≤ 1000000) (hd : to - fr ≤ 720) (a : Int) (m : List Site) (w : List Window) : ∀ (f n : Nat), fr + n ≤ to → to - fr - n < f →
    (run_rise_All_1 to a m s w (viewsL g l lim) f (fr + n) (winsF (upN g l s fr lim) fr n)).k = 1 ∧ (run_rise_All_1 to a m s w (viewsL g l lim) f (fr + n) (winsF (upN g l s fr lim) fr n)).m4 = winsF (upN g l s fr lim) fr (to - fr).toNat := by
  intro f
  induction f with
  | zero => intro n _ h; omega
  | succ f ih =>
    intro n hn hk
    rw [run_rise_All_1]
    by_cases h1 : fr + n < to
    · have hl := winsF_len (upN g l s fr lim) fr n
      have hu := m_upForAll (viewsL g l lim) h.views (by rw [viewsL_len]; exact h.n) h.ks (t := fr + n) (by omega)
      have e1 : w64 (fr + n + 1) = fr + ((n + 1 : Nat) : Int) := by rw [w64_id (by omega)]; omega
      have e2 : (fr : Int) + ((n + 1 : Nat) : Int) = fr + n + 1 := by omega
      have ih' := ih (n + 1) (by omega) (by omega)
      rw [dec_t h1, hu]
      simp only [cond_true, bne_self_eq_false, cond_false]
      change (bif !upN g l s fr lim n then _ else _ : R_rise_All_1).k = 1 ∧ (bif !upN g l s fr lim n then _ else _ : R_rise_All_1).m4 = _
      cases hb : upN g l s fr lim n with
      | false =>
        simp only [Bool.not_false, cond_true]
        rw [wins_skip hb] at ih'
        rw [e1]
        exact ih'
      | true =>
        simp only [Bool.not_true, cond_false]
        rw [w64_last (show (winsF (upN g l s fr lim) fr n).length < 1000 by omega), e1]
        rcases step_eq (upN g l s fr lim) fr n hb with ⟨q1, q2, q3⟩ | ⟨q1, q2⟩
        · have e3 : (((winsF (upN g l s fr lim) fr n).length : Int) - 1).toNat = (winsF (upN g l s fr lim) fr n).length - 1 := by omega
          rw [dec_t (show (0 : Int) ≤ ((winsF (upN g l s fr lim) fr n).length : Int) - 1 by omega), dec_t (show ((winsF (upN g l s fr lim) fr n).length : Int) - 1 < ((winsF (upN g l s fr lim) fr n).length : Int) by omega), e3, q2]
          simp only [Bool.and_self, cond_true, beq_self_eq_true]
          rw [w64_id (n := fr + n + 1) (by omega), q3]
          exact ih'
        · have e4 : (winsF (upN g l s fr lim) fr n ++ [(⟨fr + n, fr + ((n + 1 : Nat) : Int)⟩ : Window)]) = winsF (upN g l s fr lim) fr (n + 1) := by rw [e2]; exact q1
          by_cases c : 0 < (winsF (upN g l s fr lim) fr n).length
          · have e3 : (((winsF (upN g l s fr lim) fr n).length : Int) - 1).toNat = (winsF (upN g l s fr lim) fr n).length - 1 := by omega
            rw [dec_t (show (0 : Int) ≤ ((winsF (upN g l s fr lim) fr n).length : Int) - 1 by omega), dec_t (show ((winsF (upN g l s fr lim) fr n).length : Int) - 1 < ((winsF (upN g l s fr lim) fr n).length : Int) by omega), e3]
            rw [show (((winsF (upN g l s fr lim) fr n).getD ((winsF (upN g l s fr lim) fr n).length - 1) (ET.z .win)).too == fr + n) = false from beq_eq_false_iff_ne.2 (q2 c)]
            simp only [Bool.and_self, cond_true, cond_false, List.length_singleton]
            rw [ble_room (show (winsF (upN g l s fr lim) fr n).length < 1000 by omega), e4]
            exact ih'
          · rw [dec_f (show ¬ (0 : Int) ≤ ((winsF (upN g l s fr lim) fr n).length : Int) - 1 by omega)]
            simp only [cond_false, List.length_singleton]
            rw [ble_room (show (winsF (upN g l s fr lim) fr n).length < 1000 by omega), e4]
            exact ih'
    · have : (to - fr).toNat = n := by omega
      rw [dec_f h1, this]
      exact ⟨rfl, rfl⟩
def allE (g : Globe) (l : List Site) (s : Source) (fr to : Int) (lim : Frac) : List Window × Int :=
  bif lookE g l s lim != 0 then ([], lookE g l s lim) else bif !tickB fr then ([], 2) else bif !tickB to then ([], 2) else bif decide (to < fr) then ([], 2) else bif decide (720 < to - fr) then ([], 4) else (winsF (upN g l s fr lim) fr (to - fr).toNat, 0)
theorem m_tick (t : Int) : m_rise_tick t = ⟨true, tickB t⟩ := by
  unfold m_rise_tick tickB
  rw [show decide (-1000000 ≤ t) = decide (t ≥ -1000000) from rfl]
  cases decide (t ≥ -1000000) <;> rfl
theorem tick_iff {t : Int} : tickB t = true ↔ -1000000 ≤ t ∧ t ≤ 1000000 := by
  unfold tickB
  by_cases h : t ≥ -1000000
  · rw [dec_t h]; simp; omega
  · rw [dec_f h]; simp; omega
theorem m_allW (g : Globe) (l : List Site) (s : Source) (fr to : Int) (lim : Frac) : m_rise_All g l s fr to lim = ⟨true, (allE g l s fr to lim).1, (allE g l s fr to lim).2⟩ := by
  unfold m_rise_All allE
  simp only [m_look, m_tick, cond_true]
  cases h1 : (lookE g l s lim != 0) with
  | true => rfl
  | false =>
    have h := fine (eq0_of h1)
    have hl := h.n
    rw [eq0_of h1]
    simp only [cond_false, beq_self_eq_true, cond_true]
    cases h2 : tickB fr with
    | false => rfl
    | true =>
      cases h3 : tickB to with
      | false => rfl
      | true =>
        have t1 := tick_iff.1 h2; have t2 := tick_iff.1 h3
        simp only [Bool.not_true, cond_false]
        by_cases h4 : to < fr
        · rw [dec_t h4]; rfl
        · rw [dec_f h4, w64_id (n := to - fr) (by omega)]
          simp only [cond_false]
          by_cases h5 : 720 < to - fr
          · rw [dec_t h5]; rfl
          · rw [dec_f h5]
            have e0 : (decide (0 ≤ (l.length : Int)) && (decide ((l.length : Int) ≤ 1048576) && (Nat.blt 0 8 && Nat.ble 64 4096))) = true := by
              rw [nn_t, dec_t (show (l.length : Int) ≤ 1048576 by omega)]; rfl
            obtain ⟨k1, k2⟩ := run_views h fr to 0 l [] s (2000 + (l.length + ([] : List Window).length + (List.replicate l.length (⟨⟨⟨(0 : Int), (0 : Int)⟩, ⟨(0 : Int), (0 : Int)⟩, ⟨(0 : Int), (0 : Int)⟩⟩, ⟨(0 : Int), (0 : Int)⟩⟩ : View)).length + (placesL g l).length)) 0 (List.replicate l.length (⟨⟨⟨(0 : Int), (0 : Int)⟩, ⟨(0 : Int), (0 : Int)⟩, ⟨(0 : Int), (0 : Int)⟩⟩, ⟨(0 : Int), (0 : Int)⟩⟩ : View)) (by omega) (by omega) (by simp)
            rw [show ((0 : Nat) : Int) = 0 from rfl] at k1 k2
            rw [List.take_zero, List.nil_append, List.drop_zero] at k2
            rw [placesL_len] at k1 k2
            obtain ⟨j1, j2⟩ := run_wins h t1.1 t2.2 (by omega) 0 l [] (2000 + (l.length + ([] : List Window).length + (viewsL g l lim).length + ([] : List Window).length)) 0 (by omega) (by omega)
            rw [show fr + ((0 : Nat) : Int) = fr by omega, show winsF (upN g l s fr lim) fr 0 = [] from rfl] at j1 j2
            unfold lp_rise_All_0 lp_rise_All_1
            simp only [cond_false, placesL_len, decide_true, Bool.true_and, e0, Int.toNat_natCast, cond_true, k1, k2, j1, j2, show Nat.beq 1 0 = false from rfl, show Nat.beq 1 1 = true from rfl]
end Go.Ev

namespace Go.Ev
open Go
abbrev bAt (l : List Bool) (n : Nat) : Bool := l.getD n (ET.z .bool)
theorem bAt_set {l : List Bool} {n k : Nat} {b : Bool} (h : n < l.length) : bAt (l.set n b) k = bif Nat.beq k n then b else bAt l k := by
  unfold bAt
  rw [List.getD_eq_getElem?_getD, List.getD_eq_getElem?_getD, List.getElem?_set]
  by_cases c : n = k
  · subst c
    rw [if_pos rfl, if_pos h, Nat.beq_refl]
    rfl
  · rw [if_neg c, show Nat.beq k n = false from Bool.eq_false_iff.2 fun e => c (Nat.eq_of_beq_eq_true e).symm]
    rfl
theorem run_true (a : Int) (m : List Site) (g : Globe) (s : Source) (lim : Frac) (N : Nat) (hN : N ≤ 720) : ∀ (f n : Nat) (acc : List Bool), acc.length = N → n ≤ N → N - n < f → (∀ k, k < n → bAt acc k = true) →
    (run_Q7_All_0 a m g s lim f (n : Int) acc).k = 0 ∧ (run_Q7_All_0 a m g s lim f (n : Int) acc).m4.length = N ∧ ∀ k, k < N → bAt (run_Q7_All_0 a m g s lim f (n : Int) acc).m4 k = true := by
  intro f
  induction f with
  | zero => intro n acc _ _ h; omega
  | succ f ih =>
    intro n acc ha hn hk hacc
    rw [run_Q7_All_0]
    by_cases h1 : n < acc.length
    · simp only [nn_t, lt_t h1, Bool.and_self, cond_true, w64_up (show n < 9223372036854775807 by omega), Int.toNat_natCast]
      refine ih (n + 1) (acc.set n true) (by simp [ha]) (by omega) (by omega) fun k hkn => ?_
      rw [bAt_set h1]
      cases hb : Nat.beq k n with
      | true => rfl
      | false =>
        have : k ≠ n := fun e => by rw [e, Nat.beq_refl] at hb; cases hb
        exact hacc k (by omega)
    · simp only [lt_f h1, cond_false]
      exact ⟨trivial, ha, fun k hk2 => hacc k (by omega)⟩
theorem run_one {v : View} {s : Source} {fr : Int} (hf : -1000000 ≤ fr) (b : Int) (m : List Site) (g : Globe) (lim : Frac) (N : Nat) (hN : N ≤ 720) (hf2 : fr + N ≤ 1000000) : ∀ (f n : Nat) (acc : List Bool), acc.length = N → n ≤ N → N - n < f →
    (run_Q7_All_2 fr b m g s lim v.up v.bound f (n : Int) acc).k = 0 ∧ (run_Q7_All_2 fr b m g s lim v.up v.bound f (n : Int) acc).m4.length = N ∧
    ∀ k, k < N → bAt (run_Q7_All_2 fr b m g s lim v.up v.bound f (n : Int) acc).m4 k = (bAt acc k && (decide (k < n) || stateV v (dirR s.ra s.dec (fr + k)) == 1)) := by
  intro f
  induction f with
  | zero => intro n acc _ _ h; omega
  | succ f ih =>
    intro n acc ha hn hk
    rw [run_Q7_All_2]
    by_cases h1 : n < acc.length
    · have e1 : w64 (fr + (n : Int)) = fr + n := w64_id (by omega)
      simp only [nn_t, lt_t h1, Bool.and_self, cond_true, w64_up (show n < 9223372036854775807 by omega), Int.toNat_natCast, e1, m_stateR]
      have key : ∀ x : Bool, x = (bAt acc n && (stateV v (dirR s.ra s.dec (fr + n)) == 1)) →
          (run_Q7_All_2 fr b m g s lim v.up v.bound f ((n + 1 : Nat) : Int) (acc.set n x)).k = 0 ∧ (run_Q7_All_2 fr b m g s lim v.up v.bound f ((n + 1 : Nat) : Int) (acc.set n x)).m4.length = N ∧
          ∀ k, k < N → bAt (run_Q7_All_2 fr b m g s lim v.up v.bound f ((n + 1 : Nat) : Int) (acc.set n x)).m4 k = (bAt acc k && (decide (k < n) || stateV v (dirR s.ra s.dec (fr + k)) == 1)) := by
        intro x hx
        obtain ⟨i1, i2, i3⟩ := ih (n + 1) (acc.set n x) (by simp [ha]) (by omega) (by omega)
        refine ⟨i1, i2, fun k hkN => ?_⟩
        rw [i3 k hkN, bAt_set h1]
        cases hb : Nat.beq k n with
        | true =>
          have : k = n := Nat.eq_of_beq_eq_true hb
          subst this
          rw [dec_t (show k < k + 1 by omega), dec_f (show ¬ k < k by omega), cond_true, hx]
          simp
        | false =>
          have : k ≠ n := fun e => by rw [e, Nat.beq_refl] at hb; cases hb
          simp only [cond_false]
          by_cases c : k < n
          · rw [dec_t c, dec_t (show k < n + 1 by omega)]
          · rw [dec_f c, dec_f (show ¬ k < n + 1 by omega)]
      cases hb : bAt acc n with
      | true =>
        have hb' : acc.getD n (ET.z .bool) = true := hb
        rw [hb']
        simp only [cond_true]
        exact key _ (by rw [hb, Bool.true_and])
      | false =>
        have hb' : acc.getD n (ET.z .bool) = false := hb
        rw [hb']
        simp only [cond_false]
        exact key _ (by rw [hb, Bool.false_and])
    · simp only [lt_f h1, cond_false]
      refine ⟨trivial, ha, fun k hkN => ?_⟩
      rw [dec_t (show k < n by omega)]
      simp
theorem run_each {g : Globe} {l : List Site} {s : Source} {lim : Frac} (h : Fine g l s lim) {fr : Int} (hf : -1000000 ≤ fr) (N : Nat) (hN : N ≤ 720) (hf2 : fr + N ≤ 1000000) : ∀ (f n : Nat) (acc : List Bool), acc.length = N → n ≤ l.length → l.length - n < f →
    (run_Q7_All_1 fr l g s lim f (n : Int) acc).k = 0 ∧ (run_Q7_All_1 fr l g s lim f (n : Int) acc).m4.length = N ∧
    ∀ k, k < N → bAt (run_Q7_All_1 fr l g s lim f (n : Int) acc).m4 k = (bAt acc k && upAll ((viewsL g l lim).drop n) (dirS s.ra s.dec (fr + k))) := by
  intro f
  induction f with
  | zero => intro n acc _ _ h; omega
  | succ f ih =>
    intro n acc ha hn hk
    have hl := h.n
    rw [run_Q7_All_1]
    by_cases h1 : n < l.length
    · have hu := m_uprightR h.kg (h.v _ (sAt_mem h1)) lim
      obtain ⟨o1, o2, o3⟩ := run_one (v := viewV g (placeV g (sAt l n).s (sAt l n).t) lim) (s := s) hf (n : Int) l g lim N hN hf2 (2000 + (l.length + acc.length)) 0 acc ha (by omega) (by omega)
      rw [show ((0 : Nat) : Int) = 0 from rfl] at o1 o2 o3
      unfold lp_Q7_All_2
      simp only [nn_t, lt_t h1, Bool.and_self, cond_true, w64_up (show n < 9223372036854775807 by omega), Int.toNat_natCast, hu, o1, show Nat.beq 0 0 = true from rfl]
      obtain ⟨i1, i2, i3⟩ := ih (n + 1) _ o2 (by omega) (by omega)
      refine ⟨i1, i2, fun k hkN => ?_⟩
      rw [i3 k hkN, o3 k hkN, drop_at (ET.z .view) (show n < (viewsL g l lim).length by rw [viewsL_len]; exact h1), viewsL_at g lim h1, dec_f (show ¬ k < 0 by omega), dirR_eq h.ks (tick := fr + k) (by omega)]
      unfold upAll
      rw [List.all_cons, Bool.false_or, Bool.and_assoc]
    · simp only [lt_f h1, cond_false]
      refine ⟨trivial, ha, fun k hkN => ?_⟩
      rw [drop_all (show ¬ n < (viewsL g l lim).length by rw [viewsL_len]; exact h1)]
      simp [upAll]
theorem wins_congr {up up' : Nat → Bool} {fr : Int} : ∀ {n : Nat}, (∀ k, k < n → up k = up' k) → winsR up fr n = winsR up' fr n
  | 0, _ => rfl
  | n + 1, h => by rw [winsR, winsR, h n (by omega), wins_congr fun k hk => h k (by omega)]
theorem winsF_congr {up up' : Nat → Bool} {fr : Int} {n : Nat} (h : ∀ k, k < n → up k = up' k) : winsF up fr n = winsF up' fr n := by unfold winsF; rw [wins_congr h]
theorem ends_eq (up : Nat → Bool) (fr : Int) (n : Nat) : endsAt (winsR up fr n) (fr + n) = (decide (0 < n) && up (n - 1)) := (wins_inv up fr n).ends
theorem run_make {fr : Int} (hf : -1000000 ≤ fr) (m : List Site) (u : List Bool) (hN : u.length ≤ 720) (hf2 : fr + u.length ≤ 1000000) : ∀ (f n : Nat), n ≤ u.length → u.length - n < f →
    (run_Q7_All_3 fr m u f (n : Int) (winsF (bAt u) fr n)).k = 0 ∧ (run_Q7_All_3 fr m u f (n : Int) (winsF (bAt u) fr n)).m2 = winsF (bAt u) fr u.length := by
  intro f
  induction f with
  | zero => intro n _ h; omega
  | succ f ih =>
    intro n hn hk
    rw [run_Q7_All_3]
    by_cases h1 : n < u.length
    · have hl := winsF_len (bAt u) fr n
      have ih' := ih (n + 1) (by omega) (by omega)
      have e1 : w64 (fr + (n : Int)) = fr + n := w64_id (by omega)
      have e2 : w64 (fr + (n : Int) + 1) = fr + n + 1 := w64_id (by omega)
      simp only [nn_t, lt_t h1, Bool.and_self, cond_true, w64_up (show n < 9223372036854775807 by omega), Int.toNat_natCast, e1, e2]
      change (bif !bAt u n then _ else _ : R_Q7_All_3).k = 0 ∧ (bif !bAt u n then _ else _ : R_Q7_All_3).m2 = _
      cases hb : bAt u n with
      | false =>
        simp only [Bool.not_false, cond_true]
        rw [wins_skip hb] at ih'
        exact ih'
      | true =>
        simp only [Bool.not_true, cond_false]
        have he := ends_eq (bAt u) fr n
        have hlen : winsF (bAt u) fr n = (winsR (bAt u) fr n).reverse := rfl
        by_cases c0 : 0 < n
        · have e5 : w64 ((n : Int) - 1) = ((n - 1 : Nat) : Int) := by rw [w64_id (by omega)]; omega
          simp only [dec_t (show (0 : Int) < (n : Int) by omega), cond_true, e5, nn_t, lt_t (show n - 1 < u.length by omega), Bool.and_self, Int.toNat_natCast]
          change (bif bAt u (n - 1) then _ else _ : R_Q7_All_3).k = 0 ∧ (bif bAt u (n - 1) then _ else _ : R_Q7_All_3).m2 = _
          cases hb2 : bAt u (n - 1) with
          | true =>
            rw [dec_t c0, hb2] at he
            obtain ⟨_, q1, q2, q3⟩ := step_last he
            have e6 : winsF (bAt u) fr (n + 1) = (stepR (fr + n) true (winsR (bAt u) fr n)).reverse := by unfold winsF; rw [winsR, hb]
            rw [← e6] at q3
            rw [← hlen] at q1 q2 q3
            have e3 : (((winsF (bAt u) fr n).length : Int) - 1).toNat = (winsF (bAt u) fr n).length - 1 := by omega
            simp only [cond_true]
            rw [w64_last (show (winsF (bAt u) fr n).length < 1000 by omega), dec_t (show (0 : Int) ≤ ((winsF (bAt u) fr n).length : Int) - 1 by omega), dec_t (show ((winsF (bAt u) fr n).length : Int) - 1 < ((winsF (bAt u) fr n).length : Int) by omega), e3, q2, e2, q3]
            simp only [Bool.and_self, cond_true]
            exact ih'
          | false =>
            rw [dec_t c0, hb2] at he
            have q1 := step_new he
            have e6 : winsF (bAt u) fr (n + 1) = (stepR (fr + n) true (winsR (bAt u) fr n)).reverse := by unfold winsF; rw [winsR, hb]
            rw [← e6, ← hlen] at q1
            simp only [cond_false, List.length_singleton]
            rw [ble_room (show (winsF (bAt u) fr n).length < 1000 by omega), q1]
            exact ih'
        · rw [dec_f c0] at he
          have q1 := step_new he
          have e6 : winsF (bAt u) fr (n + 1) = (stepR (fr + n) true (winsR (bAt u) fr n)).reverse := by unfold winsF; rw [winsR, hb]
          rw [← e6, ← hlen] at q1
          simp only [dec_f (show ¬ (0 : Int) < (n : Int) by omega), cond_false, List.length_singleton]
          rw [ble_room (show (winsF (bAt u) fr n).length < 1000 by omega), q1]
          exact ih'
    · have : u.length = n := by omega
      simp only [lt_f h1, cond_false]
      rw [this]
      exact ⟨trivial, rfl⟩
theorem m_allR (g : Globe) (l : List Site) (s : Source) (fr to : Int) (lim : Frac) : m_Q7_All g l s fr to lim = ⟨true, (allE g l s fr to lim).1, (allE g l s fr to lim).2⟩ := by
  unfold m_Q7_All allE
  simp only [m_both, m_limit, cond_true]
  cases h1 : (lookE g l s lim != 0) with
  | true =>
    simp only [cond_true]
    unfold lookE at h1 ⊢
    cases h2 : (checkA g l != 0) with
    | true => simp only [cond_true]; rw [h2]; rfl
    | false =>
      rw [h2] at h1
      simp only [cond_false] at h1 ⊢
      cases h3 : (checkSrc s != 0) with
      | true => rfl
      | false =>
        rw [h3] at h1
        simp only [cond_false] at h1 ⊢
        cases h4 : limB lim with
        | true => rw [h4] at h1; cases h1
        | false => rfl
  | false =>
    have h := fine (eq0_of h1)
    have hl := h.n
    rw [h.c, h.cs, h.cl]
    simp only [bne_self_eq_false, cond_false, Bool.not_true]
    cases h2 : tickB fr with
    | false => rfl
    | true =>
      cases h3 : tickB to with
      | false => rfl
      | true =>
        have t1 := tick_iff.1 h2; have t2 := tick_iff.1 h3
        simp only [Bool.not_true, cond_false]
        by_cases h4 : to < fr
        · rw [dec_t h4]; rfl
        · rw [dec_f h4, w64_id (n := to - fr) (by omega)]
          simp only [cond_false]
          by_cases h5 : 720 < to - fr
          · rw [dec_t h5]; rfl
          · rw [dec_f h5]
            obtain ⟨N, hN⟩ := nat_of (show 0 ≤ to - fr by omega)
            rw [hN]
            have e0 : (decide (0 ≤ (N : Int)) && (decide ((N : Int) ≤ 1048576) && ((1 == 1) && (Nat.blt 0 1 && Nat.ble 1 4096)))) = true := by
              rw [nn_t, dec_t (show (N : Int) ≤ 1048576 by omega)]; rfl
            obtain ⟨a1, a2, a3⟩ := run_true fr l g s lim N (by omega) (2000 + (l.length + (List.replicate N (false : Bool)).length)) 0 (List.replicate N (false : Bool)) (by simp) (by omega) (by simp; omega) (fun k hk => by omega)
            rw [show ((0 : Nat) : Int) = 0 from rfl] at a1 a2 a3
            unfold lp_Q7_All_0 lp_Q7_All_1 lp_Q7_All_3
            simp only [cond_false, decide_true, Bool.true_and, e0, Int.toNat_natCast, cond_true, a1, show Nat.beq 0 0 = true from rfl]
            generalize hA : (run_Q7_All_0 fr l g s lim (2000 + (l.length + (List.replicate N (false : Bool)).length)) 0 (List.replicate N (false : Bool))).m4 = A at *
            obtain ⟨b1, b2, b3⟩ := run_each h t1.1 N (by omega) (by omega) (2000 + (l.length + A.length)) 0 A a2 (by omega) (by omega)
            rw [show ((0 : Nat) : Int) = 0 from rfl] at b1 b2 b3
            simp only [b1, show Nat.beq 0 0 = true from rfl, cond_true]
            generalize hB : (run_Q7_All_1 fr l g s lim (2000 + (l.length + A.length)) 0 A).m4 = B at *
            obtain ⟨c1, c2⟩ := run_make t1.1 l B (by omega) (by omega) (2000 + (l.length + B.length + ([] : List Window).length)) 0 (by omega) (by omega)
            rw [show ((0 : Nat) : Int) = 0 from rfl, show winsF (bAt B) fr 0 = [] from rfl] at c1 c2
            simp only [c1, c2, show Nat.beq 0 0 = true from rfl, cond_true]
            rw [b2, winsF_congr (up' := upN g l s fr lim) fun k hk => by rw [b3 k hk, a3 k hk, List.drop_zero, Bool.true_and]; rfl]
theorem eq_win (a b : Window) : eqAll [.int .i64 a.frm, .int .i64 a.too] [.int .i64 b.frm, .int .i64 b.too] = decide (a = b) := by
  obtain ⟨a1, a2⟩ := a
  obtain ⟨b1, b2⟩ := b
  rw [Bool.eq_iff_iff]
  simp [eqAll, D.eq]
theorem run_self (l : List Window) (p : Bool) (hl : l.length ≤ 1048576) : ∀ (f n : Nat), n ≤ l.length → l.length - n < f → (run_Q7_Same_0 p l l f (n : Int)).k = 1 := by
  intro f
  induction f with
  | zero => intro n _ h; omega
  | succ f ih =>
    intro n hn h
    rw [run_Q7_Same_0]
    by_cases h1 : n < l.length
    · simp only [nn_t, lt_t h1, Bool.and_self, cond_true, w64_up (show n < 9223372036854775807 by omega), Int.toNat_natCast]
      rw [eq_win, dec_t rfl]
      simp only [Bool.not_true, cond_false]
      exact ih (n + 1) (by omega) (by omega)
    · simp only [lt_f h1, cond_false]
theorem m_sameSelf (l : List Window) (hl : l.length ≤ 1048576) : m_Q7_Same l l = ⟨true, true⟩ := by
  unfold m_Q7_Same lp_Q7_Same_0
  have := run_self l false hl (2000 + (l.length + l.length)) 0 (by omega) (by omega)
  rw [show ((0 : Nat) : Int) = 0 from rfl] at this
  rw [this]
  simp only [bne_self_eq_false, cond_false]
  rfl
theorem all_len (g : Globe) (l : List Site) (s : Source) (fr to : Int) (lim : Frac) : (allE g l s fr to lim).1.length ≤ 720 := by
  unfold allE
  cases lookE g l s lim != 0 with
  | true => simp
  | false =>
    cases tickB fr with
    | false => simp
    | true =>
      cases tickB to with
      | false => simp
      | true =>
        by_cases h4 : to < fr
        · rw [dec_t h4]; simp
        · by_cases h5 : 720 < to - fr
          · rw [dec_f h4, dec_t h5]; simp
          · rw [dec_f h4, dec_f h5]
            simp only [cond_false, Bool.not_true]
            have := winsF_len (upN g l s fr lim) fr (to - fr).toNat
            omega
def stateE (g : Globe) (x : Site) (s : Source) (t : Int) (lim : Frac) : Int × Int :=
  bif lookE g [x] s lim != 0 then (0, lookE g [x] s lim) else bif !tickB t then (0, 2) else (stateV (viewV g (placeV g x.s x.t) lim) (dirS s.ra s.dec t), 0)
theorem at_tick {s : Source} (hs : SrcOk s) {t : Int} (h : tickB t = false) : atS s t = (dirZ, 2) := by
  unfold atS
  rw [checkSrc_iff.2 hs]
  unfold tickB at h
  by_cases h1 : t < -1000000
  · rw [decide_eq_true h1]; rfl
  · rw [decide_eq_false h1]
    rw [dec_t (show t ≥ -1000000 by omega)] at h
    simp only [cond_true, decide_eq_false_iff_not] at h
    rw [decide_eq_true (show 1000000 < t by omega)]
    rfl
theorem m_stateP (g : Globe) (x : Site) (s : Source) (t : Int) (lim : Frac) : m_rise_State g x s t lim = ⟨true, (stateE g x s t lim).1, (stateE g x s t lim).2⟩ := by
  unfold m_rise_State stateE
  simp only [m_look, cond_true]
  cases h1 : (lookE g [x] s lim != 0) with
  | true => rfl
  | false =>
    have h := fine (eq0_of h1)
    rw [eq0_of h1]
    simp only [cond_false, beq_self_eq_true, cond_true]
    cases h2 : tickB t with
    | false =>
      have e : atS ⟨s.name, s.ra, s.dec⟩ t = (dirZ, 2) := at_tick h.ks h2
      rw [e]
      rfl
    | true =>
      have e : atS ⟨s.name, s.ra, s.dec⟩ t = (dirS s.ra s.dec t, 0) := atS_ok h.ks (tick_iff.1 h2)
      obtain ⟨v1, v2⟩ := h.view (x := x) (by simp)
      rw [e]
      simp only [bne_self_eq_false, cond_false, Bool.not_true]
      have ep : (placesL g [x]).getD 0 (ET.z .vec) = placeV g x.s x.t := rfl
      rw [ep, v1, show ((placesL g [x]).length : Int) = 1 from rfl]
      simp only [cond_true, bne_self_eq_false, cond_false]
      rw [m_state v2 (dirS_unit s.ra s.dec t)]
      rfl
end Go.Ev

namespace Go.Ev
open Go Go.Proofs
structure O_W7_RiseStates where
  ok : Bool
  r0 : Bool
def m_W7_RiseStates (a0 : Globe) (a1 : Site) (a2 : Source) (a3 : Int) (a4 : Int) (a5 : Frac) : O_W7_RiseStates := bif (m_W7_long ([a1] : List Site) a2).ok then (bif (m_W7_long ([a1] : List Site) a2).r0 then ⟨true, true⟩ else (bif (m_W7_wide a3 a4).ok then (bif (m_W7_wide a3 a4).r0 then ⟨true, true⟩ else (bif (m_rise_State a0 a1 a2 a3 a5).ok then (bif (m_Q7_State a0 a1 a2 a3 a5).ok then (bif (m_rise_Windows a0 a1 a2 a3 a4 a5).ok then (bif (m_Q7_Windows a0 a1 a2 a3 a4 a5).ok then (bif ((m_rise_State a0 a1 a2 a3 a5).r0 == (m_Q7_State a0 a1 a2 a3 a5).r0) then (bif ((m_rise_State a0 a1 a2 a3 a5).r1 == (m_Q7_State a0 a1 a2 a3 a5).r1) then (bif (m_Q7_Same ((m_rise_Windows a0 a1 a2 a3 a4 a5).r0) ((m_Q7_Windows a0 a1 a2 a3 a4 a5).r0)).ok then (bif (m_Q7_Same ((m_rise_Windows a0 a1 a2 a3 a4 a5).r0) ((m_Q7_Windows a0 a1 a2 a3 a4 a5).r0)).r0 then ⟨true, ((m_rise_Windows a0 a1 a2 a3 a4 a5).r1 == (m_Q7_Windows a0 a1 a2 a3 a4 a5).r1)⟩ else ⟨true, false⟩) else ⟨false, false⟩) else ⟨true, false⟩) else ⟨true, false⟩) else ⟨false, false⟩) else ⟨false, false⟩) else ⟨false, false⟩) else ⟨false, false⟩)) else ⟨false, false⟩)) else ⟨false, false⟩
def F_W7_RiseStates (_a0 : Globe) (_a1 : Site) (_a2 : Source) (_a3 : Int) (_a4 : Int) (_a5 : Frac) (K : AV → List Blk → Ans) (r : O_W7_RiseStates) : Ans := bif r.ok then K (.v (.c (.d (.bool r.r0)))) [] else none
theorem e_W7_RiseStates (a0 : Globe) (a1 : Site) (a2 : Source) (a3 : Int) (a4 : Int) (a5 : Frac) (K : AV → List Blk → Ans) : evFn Tryz.prog GT EQT T_Q7_Same XT noL 80 5 [.v (.agg [.int .i64 a0.a, .int .i64 a0.b]), .v (.agg [.str a1.name, .int .i64 a1.s.num, .int .i64 a1.s.den, .int .i64 a1.t.num, .int .i64 a1.t.den]), .v (.agg [.str a2.name, .int .i64 a2.ra, .int .i64 a2.dec]), .v (.c (.d (.int .i64 a3))), .v (.c (.d (.int .i64 a4))), .v (.agg [.int .i64 a5.num, .int .i64 a5.den])] [] (fun v M => K (finR 0 v M).1 (finR 0 v M).2) = F_W7_RiseStates a0 a1 a2 a3 a4 a5 K (m_W7_RiseStates a0 a1 a2 a3 a4 a5) := by
  unfold m_W7_RiseStates
  refine Eq.trans ?_ (Eq.symm (pushT (pushT rfl (pushT (pushT rfl (pushT (pushT (pushT (pushT (pushT (pushT (pushT (pushT rfl rfl) rfl) rfl) rfl) rfl) rfl) rfl) rfl)) rfl)) rfl))
  kernel_rfl
theorem c_W7_RiseStates (a0 : Globe) (a1 : Site) (a2 : Source) (a3 : Int) (a4 : Int) (a5 : Frac) (hd : (m_W7_RiseStates a0 a1 a2 a3 a4 a5).ok = true) : CallsA Tryz.prog GT gbT 5 [.v (.agg [.int .i64 a0.a, .int .i64 a0.b]), .v (.agg [.str a1.name, .int .i64 a1.s.num, .int .i64 a1.s.den, .int .i64 a1.t.num, .int .i64 a1.t.den]), .v (.agg [.str a2.name, .int .i64 a2.ra, .int .i64 a2.dec]), .v (.c (.d (.int .i64 a3))), .v (.c (.d (.int .i64 a4))), .v (.agg [.int .i64 a5.num, .int .i64 a5.den])] [] (.v (.c (.d (.bool ((m_W7_RiseStates a0 a1 a2 a3 a4 a5).r0))))) [] := by
  refine CallsA.ofEvR g_Q7_Same hEQT hmT (n0 := 0) rfl (fun _ _ _ _ => LOKn.nil) ((e_W7_RiseStates a0 a1 a2 a3 a4 a5 (fun v M => some (Res.fin v M))).trans ?_)
  unfold F_W7_RiseStates
  rw [hd]
  rfl
def s_W7_RiseStates : List AV → List Blk → (AV → List Blk → Ans) → Ans := fun xs bs K => match xs, bs with
  | [.v (.agg [.int .i64 a0_0, .int .i64 a0_1]), .v (.agg [.str a1_0, .int .i64 a1_1, .int .i64 a1_2, .int .i64 a1_3, .int .i64 a1_4]), .v (.agg [.str a2_0, .int .i64 a2_1, .int .i64 a2_2]), .v (.c (.d (.int .i64 a3))), .v (.c (.d (.int .i64 a4))), .v (.agg [.int .i64 a5_0, .int .i64 a5_1])], [] => F_W7_RiseStates (⟨a0_0, a0_1⟩ : Globe) (⟨a1_0, ⟨a1_1, a1_2⟩, ⟨a1_3, a1_4⟩⟩ : Site) (⟨a2_0, a2_1, a2_2⟩ : Source) a3 a4 (⟨a5_0, a5_1⟩ : Frac) K (m_W7_RiseStates (⟨a0_0, a0_1⟩ : Globe) (⟨a1_0, ⟨a1_1, a1_2⟩, ⟨a1_3, a1_4⟩⟩ : Site) (⟨a2_0, a2_1, a2_2⟩ : Source) a3 a4 (⟨a5_0, a5_1⟩ : Frac))
  | _, _ => none
def T_W7_RiseStates : Nat → List AV → List Blk → (AV → List Blk → Ans) → Ans := upd T_Q7_Same 5 s_W7_RiseStates
theorem g_W7_RiseStates : GOK Tryz.prog GT gbT T_W7_RiseStates XT := by
  refine GOK.upd g_Q7_Same (fun args w => Tryz.call5 args w) fun xs bs K r h => ?_
  unfold s_W7_RiseStates at h
  split at h
  · unfold F_W7_RiseStates at h
    simp only [cond_eq_ite] at h
    split at h
    · rename_i hd
      exact ⟨_, _, c_W7_RiseStates _ _ _ _ _ _ hd, h⟩
    · cases h
  · cases h
structure O_W7_RiseAll where
  ok : Bool
  r0 : Bool
def m_W7_RiseAll (a0 : Globe) (a1 : List Site) (a2 : Source) (a3 : Int) (a4 : Int) (a5 : Frac) : O_W7_RiseAll := bif (m_W7_long a1 a2).ok then (bif (m_W7_long a1 a2).r0 then ⟨true, true⟩ else (bif (m_W7_wide a3 a4).ok then (bif (m_W7_wide a3 a4).r0 then ⟨true, true⟩ else (bif (m_rise_All a0 a1 a2 a3 a4 a5).ok then (bif (m_Q7_All a0 a1 a2 a3 a4 a5).ok then (bif (m_Q7_Same ((m_rise_All a0 a1 a2 a3 a4 a5).r0) ((m_Q7_All a0 a1 a2 a3 a4 a5).r0)).ok then (bif (m_Q7_Same ((m_rise_All a0 a1 a2 a3 a4 a5).r0) ((m_Q7_All a0 a1 a2 a3 a4 a5).r0)).r0 then ⟨true, ((m_rise_All a0 a1 a2 a3 a4 a5).r1 == (m_Q7_All a0 a1 a2 a3 a4 a5).r1)⟩ else ⟨true, false⟩) else ⟨false, false⟩) else ⟨false, false⟩) else ⟨false, false⟩)) else ⟨false, false⟩)) else ⟨false, false⟩
def F_W7_RiseAll (_a0 : Globe) (a1 : List Site) (_a2 : Source) (_a3 : Int) (_a4 : Int) (_a5 : Frac) (K : AV → List Blk → Ans) (r : O_W7_RiseAll) : Ans := bif r.ok then K (.v (.c (.d (.bool r.r0)))) [.arr none .site a1] else none
theorem e_W7_RiseAll (a0 : Globe) (a1 : List Site) (a2 : Source) (a3 : Int) (a4 : Int) (a5 : Frac) (K : AV → List Blk → Ans) : evFn Tryz.prog GT EQT T_W7_RiseStates XT noL 80 4 [.v (.agg [.int .i64 a0.a, .int .i64 a0.b]), .v (.c (.aslice 0 none)), .v (.agg [.str a2.name, .int .i64 a2.ra, .int .i64 a2.dec]), .v (.c (.d (.int .i64 a3))), .v (.c (.d (.int .i64 a4))), .v (.agg [.int .i64 a5.num, .int .i64 a5.den])] [.arr none .site a1] (fun v M => K (finR 1 v M).1 (finR 1 v M).2) = F_W7_RiseAll a0 a1 a2 a3 a4 a5 K (m_W7_RiseAll a0 a1 a2 a3 a4 a5) := by
  unfold m_W7_RiseAll
  refine Eq.trans ?_ (Eq.symm (pushT (pushT rfl (pushT (pushT rfl (pushT (pushT (pushT (pushT rfl rfl) rfl) rfl) rfl)) rfl)) rfl))
  kernel_rfl
theorem c_W7_RiseAll (a0 : Globe) (a1 : List Site) (a2 : Source) (a3 : Int) (a4 : Int) (a5 : Frac) (hd : (m_W7_RiseAll a0 a1 a2 a3 a4 a5).ok = true) : CallsA Tryz.prog GT gbT 4 [.v (.agg [.int .i64 a0.a, .int .i64 a0.b]), .v (.c (.aslice 0 none)), .v (.agg [.str a2.name, .int .i64 a2.ra, .int .i64 a2.dec]), .v (.c (.d (.int .i64 a3))), .v (.c (.d (.int .i64 a4))), .v (.agg [.int .i64 a5.num, .int .i64 a5.den])] [.arr none .site a1] (.v (.c (.d (.bool ((m_W7_RiseAll a0 a1 a2 a3 a4 a5).r0))))) [.arr none .site a1] := by
  refine CallsA.ofEvR g_W7_RiseStates hEQT hmT (n0 := 1) rfl (fun _ _ _ _ => LOKn.nil) ((e_W7_RiseAll a0 a1 a2 a3 a4 a5 (fun v M => some (Res.fin v M))).trans ?_)
  unfold F_W7_RiseAll
  rw [hd]
  rfl
end Go.Ev

namespace Go.Ev
open Go
theorem m_longA (l : List Site) (s : Source) (hl : l.length ≤ maxLen) : m_W7_long l s = ⟨true, greatB l || decide (200 < s.name.size)⟩ := by
  unfold m_W7_long
  rw [m_great l hl]
  by_cases c : 200 < s.name.size
  · rw [dec_t c, dec_t (show (200 : Int) < (s.name.size : Int) by omega)]
    cases greatB l <;> rfl
  · rw [dec_f c, dec_f (show ¬ (200 : Int) < (s.name.size : Int) by omega)]
    cases greatB l <;> rfl
theorem m_wide_ok (a b : Int) : (m_W7_wide a b).ok = true := by
  unfold m_W7_wide
  cases decide (-1000000 ≤ a) <;> cases decide (b ≤ 1000000) <;> cases decide (120 < w64 (b - a)) <;> rfl
theorem law_RiseAll (g : Globe) (l : List Site) (s : Source) (fr to : Int) (lim : Frac) (_ : ∀ d ∈ [D.int .i64 g.a, .int .i64 g.b], d.ok) (hl : (∀ d ∈ ET.flat .site l, d.ok) ∧ l.length ≤ maxLen) (_ : ∀ d ∈ [D.str s.name, .int .i64 s.ra, .int .i64 s.dec], d.ok) (_ : IntKind.i64.has fr) (_ : IntKind.i64.has to) (_ : ∀ d ∈ [D.int .i64 lim.num, .int .i64 lim.den], d.ok) :
    m_W7_RiseAll g l s fr to lim = ⟨true, true⟩ := by
  unfold m_W7_RiseAll
  have hs := m_sameSelf (allE g l s fr to lim).1 (by have := all_len g l s fr to lim; omega)
  simp only [m_longA l s hl.2, m_wide_ok, m_allW, m_allR, hs, cond_true, beq_self_eq_true]
  cases greatB l || decide (200 < s.name.size) with
  | true => rfl
  | false => cases (m_W7_wide fr to).r0 <;> rfl
end Go.Ev

namespace Go.Ev
open Go Go.ChangeShapes Go.ChangeShapes
theorem laid_frac {P : Program} {w : World} {n : String} {g t : Nat} {f0 f1 : Field} {a b : Int} (hg : P.globalNamed n = some g) (ht : (P.globals[g]?).map (·.type) = some t)
    (hu : P.underlying t = some (.struct #[f0, f1])) (o0 : f0.offset = 0) (o1 : f1.offset = 1) (u0 : P.underlying f0.type = some (.int .i64)) (u1 : P.underlying f1.type = some (.int .i64))
    (c0 : P.cellsOf f0.type = 1) (c1 : P.cellsOf f1.type = 1) (c : P.cellsOf t = 2) {r : List (String × DataW Unit)} {ps : List MemPlace}
    (h : DataW.LaidVars P w ((n, .agg [.lit (.int .i64 a), .lit (.int .i64 b)]) :: r) ps) :
    (w.cell? ⟨g, 0, none⟩ = some (.int .i64 a) ∧ w.cell? ⟨g, 1, none⟩ = some (.int .i64 b)) ∧ ∃ q, DataW.LaidVars P w r q := by
  obtain ⟨g', t', cs, fuel, p, q, hg', ht', hv, hd, hr, _⟩ := h
  obtain rfl := Option.some.inj (hg.symm.trans hg')
  obtain rfl := Option.some.inj (ht.symm.trans ht')
  obtain ⟨y0, y1, m, e, hl, h0, h1⟩ := trod_struct2 hu hd
  simp only [Prod.mk.injEq, DataW.agg.injEq, List.cons.injEq, and_true] at e
  obtain ⟨x0, e0, z0, _⟩ := DataW.trod_int u0 h0
  obtain ⟨x1, e1, z1, _⟩ := DataW.trod_int u1 h1
  subst z0 z1
  simp only [DataW.lit.injEq, Lit.int.injEq, true_and] at e
  obtain ⟨⟨rfl, rfl⟩, _⟩ := e
  rw [o0, c0] at e0
  rw [o1, c1] at e1
  obtain ⟨l⟩ := cs
  have k0 := World.var?_cell hg hv 0
  have k1 := World.var?_cell hg hv 1
  match l, hl, e0, e1 with
  | [c0', c1'], _, e0, e1 =>
    simp at e0 e1
    subst e0 e1
    exact ⟨⟨by simpa using k0, by simpa using k1⟩, q, hr⟩
  | [], hl, _, _ => rw [c] at hl; simp at hl
  | [_], hl, _, _ => rw [c] at hl; simp at hl
  | _ :: _ :: _ :: _, hl, _, _ => rw [c] at hl; simp at hl
end Go.Ev

namespace Go.Ev
open Go Go.Proofs
structure R_Q7_Check_0 where
  k : Nat
  p3 : Int
def run_Q7_Check_0 (p2 : Int) (m0 : List Window) : Nat → Int → R_Q7_Check_0
  | 0, p3 => ⟨2, p3⟩
  | n + 1, p3 => bif decide (p3 < (m0.length : Int)) then (bif (decide ((0 : Int) ≤ p3) && decide (p3 < (m0.length : Int))) then (bif (decide ((0 : Int) ≤ p3) && decide (p3 < (m0.length : Int))) then (bif decide ((m0.getD p3.toNat (ET.z .win)).too ≤ (m0.getD p3.toNat (ET.z .win)).frm) then ⟨0, p3⟩ else (bif decide ((0 : Int) < p3) then (bif (decide ((0 : Int) ≤ (w64 (p3 - (1 : Int)))) && decide ((w64 (p3 - (1 : Int))) < (m0.length : Int))) then (bif (decide ((0 : Int) ≤ p3) && decide (p3 < (m0.length : Int))) then (bif decide ((m0.getD p3.toNat (ET.z .win)).frm ≤ (m0.getD ((w64 (p3 - (1 : Int))).toNat) (ET.z .win)).too) then ⟨0, p3⟩ else run_Q7_Check_0 p2 m0 n (w64 (p3 + (1 : Int)))) else ⟨2, p3⟩) else ⟨2, p3⟩) else run_Q7_Check_0 p2 m0 n (w64 (p3 + (1 : Int))))) else ⟨2, p3⟩) else ⟨2, p3⟩) else ⟨1, p3⟩
def lp_Q7_Check_0 (p2 : Int) (m0 : List Window) (p3 : Int) : R_Q7_Check_0 := run_Q7_Check_0 p2 m0 (2000 + (m0.length)) p3
abbrev H_Q7_Check_0 (p2 : Int) (_m0 : List Window) (p3 : Int) : TS := headT [0, 2, 3] 42 [.v (.c (.aslice 0 none)), .v (.c (.d (.int .i64 p2))), .v (.c (.d (.int .i64 p3)))]
theorem b_Q7_Check_0 (p2 : Int) (m0 : List Window) (p3 : Int) : evCode Tryz.prog GT EQT T_Q7_Same XT noL 80 (loopB Tryz.prog 23 0) (H_Q7_Check_0 p2 m0 p3) [.arr none .win m0] 1 (normK 1 [0, 2, 3]) =
    bif decide (p3 < (m0.length : Int)) then (bif (decide ((0 : Int) ≤ p3) && decide (p3 < (m0.length : Int))) then (bif (decide ((0 : Int) ≤ p3) && decide (p3 < (m0.length : Int))) then (bif decide ((m0.getD p3.toNat (ET.z .win)).too ≤ (m0.getD p3.toNat (ET.z .win)).frm) then some (.st .ret (headT [0, 2, 3] 42 [.v (.c (.aslice 0 none)), .v (.c (.d (.int .i64 (8 : Int)))), .v (.c (.d (.int .i64 p3)))]) [.arr none .win m0] 1) else (bif decide ((0 : Int) < p3) then (bif (decide ((0 : Int) ≤ (w64 (p3 - (1 : Int)))) && decide ((w64 (p3 - (1 : Int))) < (m0.length : Int))) then (bif (decide ((0 : Int) ≤ p3) && decide (p3 < (m0.length : Int))) then (bif decide ((m0.getD p3.toNat (ET.z .win)).frm ≤ (m0.getD ((w64 (p3 - (1 : Int))).toNat) (ET.z .win)).too) then some (.st .ret (headT [0, 2, 3] 42 [.v (.c (.aslice 0 none)), .v (.c (.d (.int .i64 (8 : Int)))), .v (.c (.d (.int .i64 p3)))]) [.arr none .win m0] 1) else some (.st .normal (headT [0, 2, 3] 42 [.v (.c (.aslice 0 none)), .v (.c (.d (.int .i64 p2))), .v (.c (.d (.int .i64 (w64 (p3 + (1 : Int))))))]) [.arr none .win m0] 1)) else none) else none) else some (.st .normal (headT [0, 2, 3] 42 [.v (.c (.aslice 0 none)), .v (.c (.d (.int .i64 p2))), .v (.c (.d (.int .i64 (w64 (p3 + (1 : Int))))))]) [.arr none .win m0] 1))) else none) else none) else some (.st (.exit 0) (headT [0, 2, 3] 42 [.v (.c (.aslice 0 none)), .v (.c (.d (.int .i64 p2))), .v (.c (.d (.int .i64 p3)))]) [.arr none .win m0] 1) := by
  kernel_rfl
def o_Q7_Check_0 (p2 : Int) (m0 : List Window) (r : R_Q7_Check_0) : LT := .br (Nat.beq r.k 0) (.st .ret (headT [0, 2, 3] 42 [.v (.c (.aslice 0 none)), .v (.c (.d (.int .i64 (8 : Int)))), .v (.c (.d (.int .i64 r.p3)))]) [.arr none .win m0] 1) (.br (Nat.beq r.k 1) (.st (.exit 0) (headT [0, 2, 3] 42 [.v (.c (.aslice 0 none)), .v (.c (.d (.int .i64 p2))), .v (.c (.d (.int .i64 r.p3)))]) [.arr none .win m0] 1) (.no))
theorem r_Q7_Check_0 (p2 : Int) (m0 : List Window) : ∀ (n : Nat) (p3 : Int) (x : Ex) (T' : TS) (M' : List Blk) (N' : Nat), LReach (o_Q7_Check_0 p2 m0 (run_Q7_Check_0 p2 m0 n p3)) x T' M' N' → x ≠ .normal ∧ ∃ j, RoundsN Tryz.prog GT gbT 1 (loopB Tryz.prog 23 0) j (H_Q7_Check_0 p2 m0 p3) [.arr none .win m0] 1 x T' M' N' := by
  have hL : LOKn Tryz.prog GT gbT 1 noL (loopsIn (loopB Tryz.prog 23 0)) := fun _ _ _ _ _ _ _ _ _ h => h.elim
  intro n
  induction n with
  | zero =>
    intro p3 x T' M' N' hr
    exact False.elim (redF (redF hr))
  | succ n ih =>
    intro p3 x T' M' N'
    rw [run_Q7_Check_0]
    exact viaE (b_Q7_Check_0 p2 m0 p3) (condG (o := o_Q7_Check_0 p2 m0) (condG (o := o_Q7_Check_0 p2 m0) (condG (o := o_Q7_Check_0 p2 m0) (condG (o := o_Q7_Check_0 p2 m0) (fun he hr => stopN g_Q7_Same hEQT hmT hL he (by simp) (redT hr)) (condG (o := o_Q7_Check_0 p2 m0) (condG (o := o_Q7_Check_0 p2 m0) (condG (o := o_Q7_Check_0 p2 m0) (condG (o := o_Q7_Check_0 p2 m0) (fun he hr => stopN g_Q7_Same hEQT hmT hL he (by simp) (redT hr)) (fun he hr => goN g_Q7_Same hEQT hmT hL he (ih (w64 (p3 + (1 : Int))) x T' M' N' hr))) (fun _ hr => False.elim (redF (redF hr)))) (fun _ hr => False.elim (redF (redF hr)))) (fun he hr => goN g_Q7_Same hEQT hmT hL he (ih (w64 (p3 + (1 : Int))) x T' M' N' hr)))) (fun _ hr => False.elim (redF (redF hr)))) (fun _ hr => False.elim (redF (redF hr)))) (fun he hr => stopN g_Q7_Same hEQT hmT hL he (by simp) (redT (redF hr))))
def f_Q7_Check_0 : List AV → List Blk → LT := fun vs Ms => match vs, Ms with
  | [.v (.c (.aslice 0 none)), .v (.c (.d (.int .i64 p2))), .v (.c (.d (.int .i64 p3)))], [.arr none .win m0] => o_Q7_Check_0 p2 m0 (lp_Q7_Check_0 p2 m0 p3)
  | _, _ => .no
def L_Q7_Check_0 := LamN 4 42 1 [0, 2, 3] f_Q7_Check_0
theorem k_Q7_Check_0 : LOKbn Tryz.prog GT gbT 1 L_Q7_Check_0 (loopB Tryz.prog 23 0) := by
  refine LOKbn.lamN (by kernel_rfl) fun vs Ms x T' M' N' hr => ?_
  unfold f_Q7_Check_0 at hr
  split at hr
  · obtain ⟨q1, j, q2⟩ := r_Q7_Check_0 _ _ _ _ x T' M' N' hr
    exact ⟨q1, j, q2⟩
  · exact hr.elim
structure O_Q7_Check where
  ok : Bool
  r0 : Int
def m_Q7_Check (a0 : List Window) : O_Q7_Check := bif decide ((1000 : Int) < (a0.length : Int)) then ⟨true, (4 : Int)⟩ else (bif Nat.beq (lp_Q7_Check_0 (0 : Int) a0 (0 : Int)).k 0 then ⟨true, (8 : Int)⟩ else (bif Nat.beq (lp_Q7_Check_0 (0 : Int) a0 (0 : Int)).k 1 then ⟨true, (0 : Int)⟩ else ⟨false, 0⟩))
def F_Q7_Check (a0 : List Window) (K : AV → List Blk → Ans) (r : O_Q7_Check) : Ans := bif r.ok then K (.v (.c (.d (.int .i64 r.r0)))) [.arr none .win a0] else none
theorem e_Q7_Check (a0 : List Window) (K : AV → List Blk → Ans) : evFn Tryz.prog GT EQT T_Q7_Same XT (orL L_Q7_Check_0 noL) 80 23 [.v (.c (.aslice 0 none))] [.arr none .win a0] (fun v M => K (finR 1 v M).1 (finR 1 v M).2) = F_Q7_Check a0 K (m_Q7_Check a0) := by
  unfold m_Q7_Check
  refine Eq.trans ?_ (Eq.symm (pushT rfl (pushT rfl (pushT rfl rfl))))
  kernel_rfl
theorem lok_Q7_Check : ∀ fn c, Tryz.prog.funcs[23]? = some fn → fn.body = some c → LOKn Tryz.prog GT gbT 1 (orL L_Q7_Check_0 noL) (loopsIn c) := by
  refine LOKn.ofF fun b hb => ?_
  have e : loopsF Tryz.prog 23 = [loopB Tryz.prog 23 0] := by kernel_rfl
  rw [e] at hb
  simp only [List.mem_cons, List.not_mem_nil, or_false] at hb
  subst hb
  exact (LOKbn.or k_Q7_Check_0 (fun _ _ _ _ _ _ _ h => h.elim))
theorem c_Q7_Check (a0 : List Window) (hd : (m_Q7_Check a0).ok = true) : CallsA Tryz.prog GT gbT 23 [.v (.c (.aslice 0 none))] [.arr none .win a0] (.v (.c (.d (.int .i64 ((m_Q7_Check a0).r0))))) [.arr none .win a0] := by
  refine CallsA.ofEvR g_Q7_Same hEQT hmT (n0 := 1) rfl lok_Q7_Check ((e_Q7_Check a0 (fun v M => some (Res.fin v M))).trans ?_)
  unfold F_Q7_Check
  rw [hd]
  rfl
def s_Q7_Check : List AV → List Blk → (AV → List Blk → Ans) → Ans := fun xs bs K => match xs, bs with
  | [.v (.c (.aslice 0 none))], [.arr none .win a0] => F_Q7_Check a0 K (m_Q7_Check a0)
  | _, _ => none
def T_Q7_Check : Nat → List AV → List Blk → (AV → List Blk → Ans) → Ans := upd T_Q7_Same 23 s_Q7_Check
theorem g_Q7_Check : GOK Tryz.prog GT gbT T_Q7_Check XT := by
  refine GOK.upd g_Q7_Same (fun args w => Tryz.call23 args w) fun xs bs K r h => ?_
  unfold s_Q7_Check at h
  split at h
  · unfold F_Q7_Check at h
    simp only [cond_eq_ite] at h
    split at h
    · rename_i hd
      exact ⟨_, _, c_Q7_Check _ hd, h⟩
    · cases h
  · cases h
structure R_Q7_Has_0 where
  k : Nat
  p5 : Int
def run_Q7_Has_0 (p1 : Int) (p4 : Bool) (m0 : List Window) : Nat → Int → R_Q7_Has_0
  | 0, p5 => ⟨2, p5⟩
  | n + 1, p5 => bif decide (p5 < (m0.length : Int)) then (bif (decide ((0 : Int) ≤ p5) && decide (p5 < (m0.length : Int))) then (bif decide ((m0.getD p5.toNat (ET.z .win)).frm ≤ p1) then (bif (decide ((0 : Int) ≤ p5) && decide (p5 < (m0.length : Int))) then (bif decide (p1 < (m0.getD p5.toNat (ET.z .win)).too) then ⟨0, p5⟩ else run_Q7_Has_0 p1 p4 m0 n (w64 (p5 + (1 : Int)))) else ⟨2, p5⟩) else run_Q7_Has_0 p1 p4 m0 n (w64 (p5 + (1 : Int)))) else ⟨2, p5⟩) else ⟨1, p5⟩
def lp_Q7_Has_0 (p1 : Int) (p4 : Bool) (m0 : List Window) (p5 : Int) : R_Q7_Has_0 := run_Q7_Has_0 p1 p4 m0 (2000 + (m0.length)) p5
abbrev H_Q7_Has_0 (p1 : Int) (p4 : Bool) (_m0 : List Window) (p5 : Int) : TS := headT [0, 1, 4, 5] 28 [.v (.c (.aslice 0 none)), .v (.c (.d (.int .i64 p1))), .v (.c (.d (.bool p4))), .v (.c (.d (.int .i64 p5)))]
theorem b_Q7_Has_0 (p1 : Int) (p4 : Bool) (m0 : List Window) (p5 : Int) : evCode Tryz.prog GT EQT T_Q7_Check XT noL 80 (loopB Tryz.prog 15 0) (H_Q7_Has_0 p1 p4 m0 p5) [.arr none .win m0] 1 (normK 1 [0, 1, 4, 5]) =
    bif decide (p5 < (m0.length : Int)) then (bif (decide ((0 : Int) ≤ p5) && decide (p5 < (m0.length : Int))) then (bif decide ((m0.getD p5.toNat (ET.z .win)).frm ≤ p1) then (bif (decide ((0 : Int) ≤ p5) && decide (p5 < (m0.length : Int))) then (bif decide (p1 < (m0.getD p5.toNat (ET.z .win)).too) then some (.st .ret (headT [0, 1, 4, 5] 28 [.v (.c (.aslice 0 none)), .v (.c (.d (.int .i64 p1))), .v (.c (.d (.bool true))), .v (.c (.d (.int .i64 p5)))]) [.arr none .win m0] 1) else some (.st .normal (headT [0, 1, 4, 5] 28 [.v (.c (.aslice 0 none)), .v (.c (.d (.int .i64 p1))), .v (.c (.d (.bool p4))), .v (.c (.d (.int .i64 (w64 (p5 + (1 : Int))))))]) [.arr none .win m0] 1)) else none) else some (.st .normal (headT [0, 1, 4, 5] 28 [.v (.c (.aslice 0 none)), .v (.c (.d (.int .i64 p1))), .v (.c (.d (.bool p4))), .v (.c (.d (.int .i64 (w64 (p5 + (1 : Int))))))]) [.arr none .win m0] 1)) else none) else some (.st (.exit 0) (headT [0, 1, 4, 5] 28 [.v (.c (.aslice 0 none)), .v (.c (.d (.int .i64 p1))), .v (.c (.d (.bool p4))), .v (.c (.d (.int .i64 p5)))]) [.arr none .win m0] 1) := by
  kernel_rfl
def o_Q7_Has_0 (p1 : Int) (p4 : Bool) (m0 : List Window) (r : R_Q7_Has_0) : LT := .br (Nat.beq r.k 0) (.st .ret (headT [0, 1, 4, 5] 28 [.v (.c (.aslice 0 none)), .v (.c (.d (.int .i64 p1))), .v (.c (.d (.bool true))), .v (.c (.d (.int .i64 r.p5)))]) [.arr none .win m0] 1) (.br (Nat.beq r.k 1) (.st (.exit 0) (headT [0, 1, 4, 5] 28 [.v (.c (.aslice 0 none)), .v (.c (.d (.int .i64 p1))), .v (.c (.d (.bool p4))), .v (.c (.d (.int .i64 r.p5)))]) [.arr none .win m0] 1) (.no))
theorem r_Q7_Has_0 (p1 : Int) (p4 : Bool) (m0 : List Window) : ∀ (n : Nat) (p5 : Int) (x : Ex) (T' : TS) (M' : List Blk) (N' : Nat), LReach (o_Q7_Has_0 p1 p4 m0 (run_Q7_Has_0 p1 p4 m0 n p5)) x T' M' N' → x ≠ .normal ∧ ∃ j, RoundsN Tryz.prog GT gbT 1 (loopB Tryz.prog 15 0) j (H_Q7_Has_0 p1 p4 m0 p5) [.arr none .win m0] 1 x T' M' N' := by
  have hL : LOKn Tryz.prog GT gbT 1 noL (loopsIn (loopB Tryz.prog 15 0)) := fun _ _ _ _ _ _ _ _ _ h => h.elim
  intro n
  induction n with
  | zero =>
    intro p5 x T' M' N' hr
    exact False.elim (redF (redF hr))
  | succ n ih =>
    intro p5 x T' M' N'
    rw [run_Q7_Has_0]
    exact viaE (b_Q7_Has_0 p1 p4 m0 p5) (condG (o := o_Q7_Has_0 p1 p4 m0) (condG (o := o_Q7_Has_0 p1 p4 m0) (condG (o := o_Q7_Has_0 p1 p4 m0) (condG (o := o_Q7_Has_0 p1 p4 m0) (condG (o := o_Q7_Has_0 p1 p4 m0) (fun he hr => stopN g_Q7_Check hEQT hmT hL he (by simp) (redT hr)) (fun he hr => goN g_Q7_Check hEQT hmT hL he (ih (w64 (p5 + (1 : Int))) x T' M' N' hr))) (fun _ hr => False.elim (redF (redF hr)))) (fun he hr => goN g_Q7_Check hEQT hmT hL he (ih (w64 (p5 + (1 : Int))) x T' M' N' hr))) (fun _ hr => False.elim (redF (redF hr)))) (fun he hr => stopN g_Q7_Check hEQT hmT hL he (by simp) (redT (redF hr))))
def f_Q7_Has_0 : List AV → List Blk → LT := fun vs Ms => match vs, Ms with
  | [.v (.c (.aslice 0 none)), .v (.c (.d (.int .i64 p1))), .v (.c (.d (.bool p4))), .v (.c (.d (.int .i64 p5)))], [.arr none .win m0] => o_Q7_Has_0 p1 p4 m0 (lp_Q7_Has_0 p1 p4 m0 p5)
  | _, _ => .no
def L_Q7_Has_0 := LamN 2 28 1 [0, 1, 4, 5] f_Q7_Has_0
theorem k_Q7_Has_0 : LOKbn Tryz.prog GT gbT 1 L_Q7_Has_0 (loopB Tryz.prog 15 0) := by
  refine LOKbn.lamN (by kernel_rfl) fun vs Ms x T' M' N' hr => ?_
  unfold f_Q7_Has_0 at hr
  split at hr
  · obtain ⟨q1, j, q2⟩ := r_Q7_Has_0 _ _ _ _ _ x T' M' N' hr
    exact ⟨q1, j, q2⟩
  · exact hr.elim
structure O_Q7_Has where
  ok : Bool
  r0 : Bool
def m_Q7_Has (a0 : List Window) (a1 : Int) : O_Q7_Has := bif Nat.beq (lp_Q7_Has_0 a1 false a0 (0 : Int)).k 0 then ⟨true, true⟩ else (bif Nat.beq (lp_Q7_Has_0 a1 false a0 (0 : Int)).k 1 then ⟨true, false⟩ else ⟨false, false⟩)
def F_Q7_Has (a0 : List Window) (_a1 : Int) (K : AV → List Blk → Ans) (r : O_Q7_Has) : Ans := bif r.ok then K (.v (.c (.d (.bool r.r0)))) [.arr none .win a0] else none
theorem e_Q7_Has (a0 : List Window) (a1 : Int) (K : AV → List Blk → Ans) : evFn Tryz.prog GT EQT T_Q7_Check XT (orL L_Q7_Has_0 noL) 80 15 [.v (.c (.aslice 0 none)), .v (.c (.d (.int .i64 a1)))] [.arr none .win a0] (fun v M => K (finR 1 v M).1 (finR 1 v M).2) = F_Q7_Has a0 a1 K (m_Q7_Has a0 a1) := by
  unfold m_Q7_Has
  refine Eq.trans ?_ (Eq.symm (pushT rfl (pushT rfl rfl)))
  kernel_rfl
theorem lok_Q7_Has : ∀ fn c, Tryz.prog.funcs[15]? = some fn → fn.body = some c → LOKn Tryz.prog GT gbT 1 (orL L_Q7_Has_0 noL) (loopsIn c) := by
  refine LOKn.ofF fun b hb => ?_
  have e : loopsF Tryz.prog 15 = [loopB Tryz.prog 15 0] := by kernel_rfl
  rw [e] at hb
  simp only [List.mem_cons, List.not_mem_nil, or_false] at hb
  subst hb
  exact (LOKbn.or k_Q7_Has_0 (fun _ _ _ _ _ _ _ h => h.elim))
theorem c_Q7_Has (a0 : List Window) (a1 : Int) (hd : (m_Q7_Has a0 a1).ok = true) : CallsA Tryz.prog GT gbT 15 [.v (.c (.aslice 0 none)), .v (.c (.d (.int .i64 a1)))] [.arr none .win a0] (.v (.c (.d (.bool ((m_Q7_Has a0 a1).r0))))) [.arr none .win a0] := by
  refine CallsA.ofEvR g_Q7_Check hEQT hmT (n0 := 1) rfl lok_Q7_Has ((e_Q7_Has a0 a1 (fun v M => some (Res.fin v M))).trans ?_)
  unfold F_Q7_Has
  rw [hd]
  rfl
def s_Q7_Has : List AV → List Blk → (AV → List Blk → Ans) → Ans := fun xs bs K => match xs, bs with
  | [.v (.c (.aslice 0 none)), .v (.c (.d (.int .i64 a1)))], [.arr none .win a0] => F_Q7_Has a0 a1 K (m_Q7_Has a0 a1)
  | _, _ => none
def T_Q7_Has : Nat → List AV → List Blk → (AV → List Blk → Ans) → Ans := upd T_Q7_Check 15 s_Q7_Has
theorem g_Q7_Has : GOK Tryz.prog GT gbT T_Q7_Has XT := by
  refine GOK.upd g_Q7_Check (fun args w => Tryz.call15 args w) fun xs bs K r h => ?_
  unfold s_Q7_Has at h
  split at h
  · unfold F_Q7_Has at h
    simp only [cond_eq_ite] at h
    split at h
    · rename_i hd
      exact ⟨_, _, c_Q7_Has _ _ hd, h⟩
    · cases h
  · cases h
structure O_W7_given where
  ok : Bool
  r0 : Globe
  r1 : Site
  r2 : Source
def m_W7_given : O_W7_given := ⟨true, ⟨(1 : Int), (1 : Int)⟩, ⟨(ByteArray.mk #[97]), ⟨(0 : Int), 1⟩, ⟨(0 : Int), 1⟩⟩, ⟨(ByteArray.mk #[98]), (0 : Int), (0 : Int)⟩⟩
def F_W7_given (K : AV → List Blk → Ans) (r : O_W7_given) : Ans := bif r.ok then K (.tup [.agg [.int .i64 r.r0.a, .int .i64 r.r0.b], .agg [.str r.r1.name, .int .i64 r.r1.s.num, .int .i64 r.r1.s.den, .int .i64 r.r1.t.num, .int .i64 r.r1.t.den], .agg [.str r.r2.name, .int .i64 r.r2.ra, .int .i64 r.r2.dec]]) [] else none
theorem e_W7_given (K : AV → List Blk → Ans) : evFn Tryz.prog GT EQT T_Q7_Has XT noL 80 27 [] [] (fun v M => K (finR 0 v M).1 (finR 0 v M).2) = F_W7_given K (m_W7_given) := by
  kernel_rfl
theorem c_W7_given (hd : (m_W7_given).ok = true) : CallsA Tryz.prog GT gbT 27 [] [] (.tup [.agg [.int .i64 (((m_W7_given).r0).a), .int .i64 (((m_W7_given).r0).b)], .agg [.str (((m_W7_given).r1).name), .int .i64 ((((m_W7_given).r1).s).num), .int .i64 ((((m_W7_given).r1).s).den), .int .i64 ((((m_W7_given).r1).t).num), .int .i64 ((((m_W7_given).r1).t).den)], .agg [.str (((m_W7_given).r2).name), .int .i64 (((m_W7_given).r2).ra), .int .i64 (((m_W7_given).r2).dec)]]) [] := by
  refine CallsA.ofEvR g_Q7_Has hEQT hmT (n0 := 0) rfl (fun _ _ _ _ => LOKn.nil) ((e_W7_given (fun v M => some (Res.fin v M))).trans ?_)
  unfold F_W7_given
  rw [hd]
  rfl
def s_W7_given : List AV → List Blk → (AV → List Blk → Ans) → Ans := fun xs bs K => match xs, bs with
  | [], [] => F_W7_given K (m_W7_given)
  | _, _ => none
def T_W7_given : Nat → List AV → List Blk → (AV → List Blk → Ans) → Ans := upd T_Q7_Has 27 s_W7_given
theorem g_W7_given : GOK Tryz.prog GT gbT T_W7_given XT := by
  refine GOK.upd g_Q7_Has (fun args w => Tryz.call27 args w) fun xs bs K r h => ?_
  unfold s_W7_given at h
  split at h
  · unfold F_W7_given at h
    simp only [cond_eq_ite] at h
    split at h
    · rename_i hd
      exact ⟨_, _, c_W7_given hd, h⟩
    · cases h
  · cases h
structure O_W7_state where
  ok : Bool
  r0 : Int
def m_W7_state (a0 : Int) (a1 : Int) (a2 : Int) : O_W7_state := bif (m_W7_given).ok then (bif (m_rise_State ((m_W7_given).r0) ((m_W7_given).r1) ((m_W7_given).r2) a0 ⟨a1, a2⟩).ok then (bif ((m_rise_State ((m_W7_given).r0) ((m_W7_given).r1) ((m_W7_given).r2) a0 ⟨a1, a2⟩).r1 != (0 : Int)) then ⟨true, (9 : Int)⟩ else ⟨true, (m_rise_State ((m_W7_given).r0) ((m_W7_given).r1) ((m_W7_given).r2) a0 ⟨a1, a2⟩).r0⟩) else ⟨false, 0⟩) else ⟨false, 0⟩
def F_W7_state (_a0 : Int) (_a1 : Int) (_a2 : Int) (K : AV → List Blk → Ans) (r : O_W7_state) : Ans := bif r.ok then K (.v (.c (.d (.int .i64 r.r0)))) [] else none
theorem e_W7_state (a0 : Int) (a1 : Int) (a2 : Int) (K : AV → List Blk → Ans) : evFn Tryz.prog GT EQT T_W7_given XT noL 80 28 [.v (.c (.d (.int .i64 a0))), .v (.c (.d (.int .i64 a1))), .v (.c (.d (.int .i64 a2)))] [] (fun v M => K (finR 0 v M).1 (finR 0 v M).2) = F_W7_state a0 a1 a2 K (m_W7_state a0 a1 a2) := by
  unfold m_W7_state
  refine Eq.trans ?_ (Eq.symm (pushT (pushT (pushT rfl rfl) rfl) rfl))
  kernel_rfl
theorem c_W7_state (a0 : Int) (a1 : Int) (a2 : Int) (hd : (m_W7_state a0 a1 a2).ok = true) : CallsA Tryz.prog GT gbT 28 [.v (.c (.d (.int .i64 a0))), .v (.c (.d (.int .i64 a1))), .v (.c (.d (.int .i64 a2)))] [] (.v (.c (.d (.int .i64 ((m_W7_state a0 a1 a2).r0))))) [] := by
  refine CallsA.ofEvR g_W7_given hEQT hmT (n0 := 0) rfl (fun _ _ _ _ => LOKn.nil) ((e_W7_state a0 a1 a2 (fun v M => some (Res.fin v M))).trans ?_)
  unfold F_W7_state
  rw [hd]
  rfl
def s_W7_state : List AV → List Blk → (AV → List Blk → Ans) → Ans := fun xs bs K => match xs, bs with
  | [.v (.c (.d (.int .i64 a0))), .v (.c (.d (.int .i64 a1))), .v (.c (.d (.int .i64 a2)))], [] => F_W7_state a0 a1 a2 K (m_W7_state a0 a1 a2)
  | _, _ => none
def T_W7_state : Nat → List AV → List Blk → (AV → List Blk → Ans) → Ans := upd T_W7_given 28 s_W7_state
theorem g_W7_state : GOK Tryz.prog GT gbT T_W7_state XT := by
  refine GOK.upd g_W7_given (fun args w => Tryz.call28 args w) fun xs bs K r h => ?_
  unfold s_W7_state at h
  split at h
  · unfold F_W7_state at h
    simp only [cond_eq_ite] at h
    split at h
    · rename_i hd
      exact ⟨_, _, c_W7_state _ _ _ hd, h⟩
    · cases h
  · cases h
structure O_W7_alive where
  ok : Bool
  r0 : Bool
def m_W7_alive : O_W7_alive := bif (m_W7_given).ok then (bif (m_rise_Windows ((m_W7_given).r0) ((m_W7_given).r1) ((m_W7_given).r2) (0 : Int) (360 : Int) ⟨(2 : Int), (5 : Int)⟩).ok then (bif (m_W7_state (0 : Int) (1 : Int) (2 : Int)).ok then (bif ((m_W7_state (0 : Int) (1 : Int) (2 : Int)).r0 == (1 : Int)) then (bif (m_W7_state (0 : Int) (9 : Int) (10 : Int)).ok then (bif ((m_W7_state (0 : Int) (9 : Int) (10 : Int)).r0 == (1 : Int)) then (bif (m_W7_state (120 : Int) (1 : Int) (2 : Int)).ok then (bif ((m_W7_state (120 : Int) (1 : Int) (2 : Int)).r0 == (0 : Int)) then (bif (m_W7_state (120 : Int) (2 : Int) (5 : Int)).ok then (bif ((m_W7_state (120 : Int) (2 : Int) (5 : Int)).r0 == (1 : Int)) then (bif (m_W7_state (120 : Int) (3 : Int) (5 : Int)).ok then (bif ((m_W7_state (120 : Int) (3 : Int) (5 : Int)).r0 == (-1 : Int)) then (bif ((m_rise_Windows ((m_W7_given).r0) ((m_W7_given).r1) ((m_W7_given).r2) (0 : Int) (360 : Int) ⟨(2 : Int), (5 : Int)⟩).r1 == (0 : Int)) then (bif (m_Q7_Same ((m_rise_Windows ((m_W7_given).r0) ((m_W7_given).r1) ((m_W7_given).r2) (0 : Int) (360 : Int) ⟨(2 : Int), (5 : Int)⟩).r0) ([⟨(0 : Int), (133 : Int)⟩] : List Window)).ok then (bif (m_Q7_Same ((m_rise_Windows ((m_W7_given).r0) ((m_W7_given).r1) ((m_W7_given).r2) (0 : Int) (360 : Int) ⟨(2 : Int), (5 : Int)⟩).r0) ([⟨(0 : Int), (133 : Int)⟩] : List Window)).r0 then (bif (m_W7_state (200 : Int) (2 : Int) (5 : Int)).ok then ⟨true, ((m_W7_state (200 : Int) (2 : Int) (5 : Int)).r0 == (-1 : Int))⟩ else ⟨false, false⟩) else ⟨true, false⟩) else ⟨false, false⟩) else ⟨true, false⟩) else ⟨true, false⟩) else ⟨false, false⟩) else ⟨true, false⟩) else ⟨false, false⟩) else ⟨true, false⟩) else ⟨false, false⟩) else ⟨true, false⟩) else ⟨false, false⟩) else ⟨true, false⟩) else ⟨false, false⟩) else ⟨false, false⟩) else ⟨false, false⟩
def F_W7_alive (K : AV → List Blk → Ans) (r : O_W7_alive) : Ans := bif r.ok then K (.v (.c (.d (.bool r.r0)))) [] else none
theorem e_W7_alive (K : AV → List Blk → Ans) : evFn Tryz.prog GT EQT T_W7_state XT noL 80 9 [] [] (fun v M => K (finR 0 v M).1 (finR 0 v M).2) = F_W7_alive K (m_W7_alive) := by
  unfold m_W7_alive
  refine Eq.trans ?_ (Eq.symm (pushT (pushT (pushT (pushT (pushT (pushT (pushT (pushT (pushT (pushT (pushT (pushT (pushT (pushT (pushT (pushT rfl rfl) rfl) rfl) rfl) rfl) rfl) rfl) rfl) rfl) rfl) rfl) rfl) rfl) rfl) rfl) rfl))
  kernel_rfl
theorem c_W7_alive (hd : (m_W7_alive).ok = true) : CallsA Tryz.prog GT gbT 9 [] [] (.v (.c (.d (.bool ((m_W7_alive).r0))))) [] := by
  refine CallsA.ofEvR g_W7_state hEQT hmT (n0 := 0) rfl (fun _ _ _ _ => LOKn.nil) ((e_W7_alive (fun v M => some (Res.fin v M))).trans ?_)
  unfold F_W7_alive
  rw [hd]
  rfl
def s_W7_alive : List AV → List Blk → (AV → List Blk → Ans) → Ans := fun xs bs K => match xs, bs with
  | [], [] => F_W7_alive K (m_W7_alive)
  | _, _ => none
def T_W7_alive : Nat → List AV → List Blk → (AV → List Blk → Ans) → Ans := upd T_W7_state 9 s_W7_alive
theorem g_W7_alive : GOK Tryz.prog GT gbT T_W7_alive XT := by
  refine GOK.upd g_W7_state (fun args w => Tryz.call9 args w) fun xs bs K r h => ?_
  unfold s_W7_alive at h
  split at h
  · unfold F_W7_alive at h
    simp only [cond_eq_ite] at h
    split at h
    · rename_i hd
      exact ⟨_, _, c_W7_alive hd, h⟩
    · cases h
  · cases h
end Go.Ev

namespace Go.Ev
open Go Go.Proofs
structure O_W7_fit where
  ok : Bool
  r0 : Bool
def m_W7_fit (a0 : Globe) (a1 : List Site) (a2 : Source) (a3 : Int) (a4 : Frac) : O_W7_fit := bif (m_W7_long a1 a2).ok then (bif (!(m_W7_long a1 a2).r0) then (bif (m_Q7_Both a0 a1 a2).ok then (bif ((m_Q7_Both a0 a1 a2).r0 == (0 : Int)) then (bif (m_Q7_Limit a4).ok then (bif (m_Q7_Limit a4).r0 then (bif decide ((-900000 : Int) ≤ a3) then ⟨true, decide (a3 ≤ (900000 : Int))⟩ else ⟨true, false⟩) else ⟨true, false⟩) else ⟨false, false⟩) else ⟨true, false⟩) else ⟨false, false⟩) else ⟨true, false⟩) else ⟨false, false⟩
def F_W7_fit (_a0 : Globe) (a1 : List Site) (_a2 : Source) (_a3 : Int) (_a4 : Frac) (K : AV → List Blk → Ans) (r : O_W7_fit) : Ans := bif r.ok then K (.v (.c (.d (.bool r.r0)))) [.arr none .site a1] else none
theorem e_W7_fit (a0 : Globe) (a1 : List Site) (a2 : Source) (a3 : Int) (a4 : Frac) (K : AV → List Blk → Ans) : evFn Tryz.prog GT EQT T_W7_alive XT noL 80 8 [.v (.agg [.int .i64 a0.a, .int .i64 a0.b]), .v (.c (.aslice 0 none)), .v (.agg [.str a2.name, .int .i64 a2.ra, .int .i64 a2.dec]), .v (.c (.d (.int .i64 a3))), .v (.agg [.int .i64 a4.num, .int .i64 a4.den])] [.arr none .site a1] (fun v M => K (finR 1 v M).1 (finR 1 v M).2) = F_W7_fit a0 a1 a2 a3 a4 K (m_W7_fit a0 a1 a2 a3 a4) := by
  unfold m_W7_fit
  refine Eq.trans ?_ (Eq.symm (pushT (pushT (pushT (pushT (pushT (pushT (pushT rfl rfl) rfl) rfl) rfl) rfl) rfl) rfl))
  kernel_rfl
theorem c_W7_fit (a0 : Globe) (a1 : List Site) (a2 : Source) (a3 : Int) (a4 : Frac) (hd : (m_W7_fit a0 a1 a2 a3 a4).ok = true) : CallsA Tryz.prog GT gbT 8 [.v (.agg [.int .i64 a0.a, .int .i64 a0.b]), .v (.c (.aslice 0 none)), .v (.agg [.str a2.name, .int .i64 a2.ra, .int .i64 a2.dec]), .v (.c (.d (.int .i64 a3))), .v (.agg [.int .i64 a4.num, .int .i64 a4.den])] [.arr none .site a1] (.v (.c (.d (.bool ((m_W7_fit a0 a1 a2 a3 a4).r0))))) [.arr none .site a1] := by
  refine CallsA.ofEvR g_W7_alive hEQT hmT (n0 := 1) rfl (fun _ _ _ _ => LOKn.nil) ((e_W7_fit a0 a1 a2 a3 a4 (fun v M => some (Res.fin v M))).trans ?_)
  unfold F_W7_fit
  rw [hd]
  rfl
def s_W7_fit : List AV → List Blk → (AV → List Blk → Ans) → Ans := fun xs bs K => match xs, bs with
  | [.v (.agg [.int .i64 a0_0, .int .i64 a0_1]), .v (.c (.aslice 0 none)), .v (.agg [.str a2_0, .int .i64 a2_1, .int .i64 a2_2]), .v (.c (.d (.int .i64 a3))), .v (.agg [.int .i64 a4_0, .int .i64 a4_1])], [.arr none .site a1] => F_W7_fit (⟨a0_0, a0_1⟩ : Globe) a1 (⟨a2_0, a2_1, a2_2⟩ : Source) a3 (⟨a4_0, a4_1⟩ : Frac) K (m_W7_fit (⟨a0_0, a0_1⟩ : Globe) a1 (⟨a2_0, a2_1, a2_2⟩ : Source) a3 (⟨a4_0, a4_1⟩ : Frac))
  | _, _ => none
def T_W7_fit : Nat → List AV → List Blk → (AV → List Blk → Ans) → Ans := upd T_W7_alive 8 s_W7_fit
theorem g_W7_fit : GOK Tryz.prog GT gbT T_W7_fit XT := by
  refine GOK.upd g_W7_alive (fun args w => Tryz.call8 args w) fun xs bs K r h => ?_
  unfold s_W7_fit at h
  split at h
  · unfold F_W7_fit at h
    simp only [cond_eq_ite] at h
    split at h
    · rename_i hd
      exact ⟨_, _, c_W7_fit _ _ _ _ _ hd, h⟩
    · cases h
  · cases h
end Go.Ev

namespace Go.Ev
open Go Go.Proofs
structure R_W7_RiseSure_0 where
  k : Nat
  p15 : Int
def run_W7_RiseSure_0 (p3 : Int) (p4 : Int) (p12 : Bool) (q0 : Globe) (q1 : Site) (q2 : Source) (q3 : Frac) (m4 : List Window) : Nat → Int → R_W7_RiseSure_0
  | 0, p15 => ⟨2, p15⟩
  | n + 1, p15 => bif decide (p15 < (w64 (p3 + p4))) then (bif (m_rise_State q0 q1 q2 p15 q3).ok then (bif ((m_rise_State q0 q1 q2 p15 q3).r1 != (0 : Int)) then ⟨0, p15⟩ else (bif (m_Q7_Has m4 p15).ok then (bif (!(((m_rise_State q0 q1 q2 p15 q3).r0 == (1 : Int)) == (m_Q7_Has m4 p15).r0)) then ⟨0, p15⟩ else run_W7_RiseSure_0 p3 p4 p12 q0 q1 q2 q3 m4 n (w64 (p15 + (1 : Int)))) else ⟨2, p15⟩)) else ⟨2, p15⟩) else ⟨1, p15⟩
def lp_W7_RiseSure_0 (p3 : Int) (p4 : Int) (p12 : Bool) (q0 : Globe) (q1 : Site) (q2 : Source) (q3 : Frac) (m4 : List Window) (p15 : Int) : R_W7_RiseSure_0 := run_W7_RiseSure_0 p3 p4 p12 q0 q1 q2 q3 m4 (2000 + (m4.length)) p15
abbrev H_W7_RiseSure_0 (p3 : Int) (p4 : Int) (p12 : Bool) (_q0 : Globe) (_q1 : Site) (_q2 : Source) (_q3 : Frac) (_m4 : List Window) (p15 : Int) : TS := headT [3, 4, 6, 7, 8, 11, 12, 13, 15] 108 [.v (.c (.d (.int .i64 p3))), .v (.c (.d (.int .i64 p4))), .v (.c (.ptr 0 0)), .v (.c (.ptr 1 0)), .v (.c (.ptr 2 0)), .v (.c (.ptr 3 0)), .v (.c (.d (.bool p12))), .v (.c (.aslice 4 none)), .v (.c (.d (.int .i64 p15)))]
theorem b_W7_RiseSure_0 (p3 : Int) (p4 : Int) (p12 : Bool) (q0 : Globe) (q1 : Site) (q2 : Source) (q3 : Frac) (m4 : List Window) (p15 : Int) : evCode Tryz.prog GT EQT T_W7_fit XT noL 80 (loopB Tryz.prog 6 0) (H_W7_RiseSure_0 p3 p4 p12 q0 q1 q2 q3 m4 p15) [.rw 23 [.int .i64 q0.a, .int .i64 q0.b], .rw 36 [.str q1.name, .int .i64 q1.s.num, .int .i64 q1.s.den, .int .i64 q1.t.num, .int .i64 q1.t.den], .rw 26 [.str q2.name, .int .i64 q2.ra, .int .i64 q2.dec], .rw 28 [.int .i64 q3.num, .int .i64 q3.den], .arr (some 57) .win m4] 5 (normK 0 [3, 4, 6, 7, 8, 11, 12, 13, 15]) =
    bif decide (p15 < (w64 (p3 + p4))) then (bif (m_rise_State q0 q1 q2 p15 q3).ok then (bif ((m_rise_State q0 q1 q2 p15 q3).r1 != (0 : Int)) then some (.st .ret (headT [3, 4, 6, 7, 8, 11, 12, 13, 15] 108 [.v (.c (.d (.int .i64 p3))), .v (.c (.d (.int .i64 p4))), .v (.c (.ptr 0 0)), .v (.c (.ptr 1 0)), .v (.c (.ptr 2 0)), .v (.c (.ptr 3 0)), .v (.c (.d (.bool false))), .v (.c (.aslice 4 none)), .v (.c (.d (.int .i64 p15)))]) [.rw 23 [.int .i64 q0.a, .int .i64 q0.b], .rw 36 [.str q1.name, .int .i64 q1.s.num, .int .i64 q1.s.den, .int .i64 q1.t.num, .int .i64 q1.t.den], .rw 26 [.str q2.name, .int .i64 q2.ra, .int .i64 q2.dec], .rw 28 [.int .i64 q3.num, .int .i64 q3.den], .arr (some 57) .win m4] 5) else (bif (m_Q7_Has m4 p15).ok then (bif (!(((m_rise_State q0 q1 q2 p15 q3).r0 == (1 : Int)) == (m_Q7_Has m4 p15).r0)) then some (.st .ret (headT [3, 4, 6, 7, 8, 11, 12, 13, 15] 108 [.v (.c (.d (.int .i64 p3))), .v (.c (.d (.int .i64 p4))), .v (.c (.ptr 0 0)), .v (.c (.ptr 1 0)), .v (.c (.ptr 2 0)), .v (.c (.ptr 3 0)), .v (.c (.d (.bool false))), .v (.c (.aslice 4 none)), .v (.c (.d (.int .i64 p15)))]) [.rw 23 [.int .i64 q0.a, .int .i64 q0.b], .rw 36 [.str q1.name, .int .i64 q1.s.num, .int .i64 q1.s.den, .int .i64 q1.t.num, .int .i64 q1.t.den], .rw 26 [.str q2.name, .int .i64 q2.ra, .int .i64 q2.dec], .rw 28 [.int .i64 q3.num, .int .i64 q3.den], .arr (some 57) .win m4] 5) else some (.st .normal (headT [3, 4, 6, 7, 8, 11, 12, 13, 15] 108 [.v (.c (.d (.int .i64 p3))), .v (.c (.d (.int .i64 p4))), .v (.c (.ptr 0 0)), .v (.c (.ptr 1 0)), .v (.c (.ptr 2 0)), .v (.c (.ptr 3 0)), .v (.c (.d (.bool p12))), .v (.c (.aslice 4 none)), .v (.c (.d (.int .i64 (w64 (p15 + (1 : Int))))))]) [.rw 23 [.int .i64 q0.a, .int .i64 q0.b], .rw 36 [.str q1.name, .int .i64 q1.s.num, .int .i64 q1.s.den, .int .i64 q1.t.num, .int .i64 q1.t.den], .rw 26 [.str q2.name, .int .i64 q2.ra, .int .i64 q2.dec], .rw 28 [.int .i64 q3.num, .int .i64 q3.den], .arr (some 57) .win m4] 5)) else none)) else none) else some (.st (.exit 0) (headT [3, 4, 6, 7, 8, 11, 12, 13, 15] 108 [.v (.c (.d (.int .i64 p3))), .v (.c (.d (.int .i64 p4))), .v (.c (.ptr 0 0)), .v (.c (.ptr 1 0)), .v (.c (.ptr 2 0)), .v (.c (.ptr 3 0)), .v (.c (.d (.bool p12))), .v (.c (.aslice 4 none)), .v (.c (.d (.int .i64 p15)))]) [.rw 23 [.int .i64 q0.a, .int .i64 q0.b], .rw 36 [.str q1.name, .int .i64 q1.s.num, .int .i64 q1.s.den, .int .i64 q1.t.num, .int .i64 q1.t.den], .rw 26 [.str q2.name, .int .i64 q2.ra, .int .i64 q2.dec], .rw 28 [.int .i64 q3.num, .int .i64 q3.den], .arr (some 57) .win m4] 5) := by
  kernel_rfl
def o_W7_RiseSure_0 (p3 : Int) (p4 : Int) (p12 : Bool) (q0 : Globe) (q1 : Site) (q2 : Source) (q3 : Frac) (m4 : List Window) (r : R_W7_RiseSure_0) : LT := .br (Nat.beq r.k 0) (.st .ret (headT [3, 4, 6, 7, 8, 11, 12, 13, 15] 108 [.v (.c (.d (.int .i64 p3))), .v (.c (.d (.int .i64 p4))), .v (.c (.ptr 0 0)), .v (.c (.ptr 1 0)), .v (.c (.ptr 2 0)), .v (.c (.ptr 3 0)), .v (.c (.d (.bool false))), .v (.c (.aslice 4 none)), .v (.c (.d (.int .i64 r.p15)))]) [.rw 23 [.int .i64 q0.a, .int .i64 q0.b], .rw 36 [.str q1.name, .int .i64 q1.s.num, .int .i64 q1.s.den, .int .i64 q1.t.num, .int .i64 q1.t.den], .rw 26 [.str q2.name, .int .i64 q2.ra, .int .i64 q2.dec], .rw 28 [.int .i64 q3.num, .int .i64 q3.den], .arr (some 57) .win m4] 5) (.br (Nat.beq r.k 1) (.st (.exit 0) (headT [3, 4, 6, 7, 8, 11, 12, 13, 15] 108 [.v (.c (.d (.int .i64 p3))), .v (.c (.d (.int .i64 p4))), .v (.c (.ptr 0 0)), .v (.c (.ptr 1 0)), .v (.c (.ptr 2 0)), .v (.c (.ptr 3 0)), .v (.c (.d (.bool p12))), .v (.c (.aslice 4 none)), .v (.c (.d (.int .i64 r.p15)))]) [.rw 23 [.int .i64 q0.a, .int .i64 q0.b], .rw 36 [.str q1.name, .int .i64 q1.s.num, .int .i64 q1.s.den, .int .i64 q1.t.num, .int .i64 q1.t.den], .rw 26 [.str q2.name, .int .i64 q2.ra, .int .i64 q2.dec], .rw 28 [.int .i64 q3.num, .int .i64 q3.den], .arr (some 57) .win m4] 5) (.no))
theorem r_W7_RiseSure_0 (p3 : Int) (p4 : Int) (p12 : Bool) (q0 : Globe) (q1 : Site) (q2 : Source) (q3 : Frac) (m4 : List Window) : ∀ (n : Nat) (p15 : Int) (x : Ex) (T' : TS) (M' : List Blk) (N' : Nat), LReach (o_W7_RiseSure_0 p3 p4 p12 q0 q1 q2 q3 m4 (run_W7_RiseSure_0 p3 p4 p12 q0 q1 q2 q3 m4 n p15)) x T' M' N' → x ≠ .normal ∧ ∃ j, RoundsN Tryz.prog GT gbT 0 (loopB Tryz.prog 6 0) j (H_W7_RiseSure_0 p3 p4 p12 q0 q1 q2 q3 m4 p15) [.rw 23 [.int .i64 q0.a, .int .i64 q0.b], .rw 36 [.str q1.name, .int .i64 q1.s.num, .int .i64 q1.s.den, .int .i64 q1.t.num, .int .i64 q1.t.den], .rw 26 [.str q2.name, .int .i64 q2.ra, .int .i64 q2.dec], .rw 28 [.int .i64 q3.num, .int .i64 q3.den], .arr (some 57) .win m4] 5 x T' M' N' := by
  have hL : LOKn Tryz.prog GT gbT 0 noL (loopsIn (loopB Tryz.prog 6 0)) := fun _ _ _ _ _ _ _ _ _ h => h.elim
  intro n
  induction n with
  | zero =>
    intro p15 x T' M' N' hr
    exact False.elim (redF (redF hr))
  | succ n ih =>
    intro p15 x T' M' N'
    rw [run_W7_RiseSure_0]
    exact viaE (b_W7_RiseSure_0 p3 p4 p12 q0 q1 q2 q3 m4 p15) (condG (o := o_W7_RiseSure_0 p3 p4 p12 q0 q1 q2 q3 m4) (condG (o := o_W7_RiseSure_0 p3 p4 p12 q0 q1 q2 q3 m4) (condG (o := o_W7_RiseSure_0 p3 p4 p12 q0 q1 q2 q3 m4) (fun he hr => stopN g_W7_fit hEQT hmT hL he (by simp) (redT hr)) (condG (o := o_W7_RiseSure_0 p3 p4 p12 q0 q1 q2 q3 m4) (condG (o := o_W7_RiseSure_0 p3 p4 p12 q0 q1 q2 q3 m4) (fun he hr => stopN g_W7_fit hEQT hmT hL he (by simp) (redT hr)) (fun he hr => goN g_W7_fit hEQT hmT hL he (ih (w64 (p15 + (1 : Int))) x T' M' N' hr))) (fun _ hr => False.elim (redF (redF hr))))) (fun _ hr => False.elim (redF (redF hr)))) (fun he hr => stopN g_W7_fit hEQT hmT hL he (by simp) (redT (redF hr))))
def f_W7_RiseSure_0 : List AV → List Blk → LT := fun vs Ms => match vs, Ms with
  | [.v (.c (.d (.int .i64 p3))), .v (.c (.d (.int .i64 p4))), .v (.c (.ptr 0 0)), .v (.c (.ptr 1 0)), .v (.c (.ptr 2 0)), .v (.c (.ptr 3 0)), .v (.c (.d (.bool p12))), .v (.c (.aslice 4 none)), .v (.c (.d (.int .i64 p15)))], [.rw 23 [.int .i64 q0_0, .int .i64 q0_1], .rw 36 [.str q1_0, .int .i64 q1_1, .int .i64 q1_2, .int .i64 q1_3, .int .i64 q1_4], .rw 26 [.str q2_0, .int .i64 q2_1, .int .i64 q2_2], .rw 28 [.int .i64 q3_0, .int .i64 q3_1], .arr (some 57) .win m4] => o_W7_RiseSure_0 p3 p4 p12 (⟨q0_0, q0_1⟩ : Globe) (⟨q1_0, ⟨q1_1, q1_2⟩, ⟨q1_3, q1_4⟩⟩ : Site) (⟨q2_0, q2_1, q2_2⟩ : Source) (⟨q3_0, q3_1⟩ : Frac) m4 (lp_W7_RiseSure_0 p3 p4 p12 (⟨q0_0, q0_1⟩ : Globe) (⟨q1_0, ⟨q1_1, q1_2⟩, ⟨q1_3, q1_4⟩⟩ : Site) (⟨q2_0, q2_1, q2_2⟩ : Source) (⟨q3_0, q3_1⟩ : Frac) m4 p15)
  | _, _ => .no
def L_W7_RiseSure_0 := LamN 7 108 0 [3, 4, 6, 7, 8, 11, 12, 13, 15] f_W7_RiseSure_0
theorem k_W7_RiseSure_0 : LOKbn Tryz.prog GT gbT 0 L_W7_RiseSure_0 (loopB Tryz.prog 6 0) := by
  refine LOKbn.lamN (by kernel_rfl) fun vs Ms x T' M' N' hr => ?_
  unfold f_W7_RiseSure_0 at hr
  split at hr
  · obtain ⟨q1, j, q2⟩ := r_W7_RiseSure_0 _ _ _ _ _ _ _ _ _ _ x T' M' N' hr
    exact ⟨q1, j, q2⟩
  · exact hr.elim
structure O_W7_RiseSure where
  ok : Bool
  r0 : Bool
def m_W7_RiseSure (a0 : Globe) (a1 : Site) (a2 : Source) (a3 : Int) (a4 : Int) (a5 : Frac) : O_W7_RiseSure := bif (m_W7_fit a0 ([a1] : List Site) a2 a3 a5).ok then (bif (!(m_W7_fit a0 ([a1] : List Site) a2 a3 a5).r0) then (bif (m_W7_alive).ok then ⟨true, (m_W7_alive).r0⟩ else ⟨false, false⟩) else (bif decide (a4 < (0 : Int)) then (bif (m_W7_alive).ok then ⟨true, (m_W7_alive).r0⟩ else ⟨false, false⟩) else (bif decide ((60 : Int) < a4) then (bif (m_W7_alive).ok then ⟨true, (m_W7_alive).r0⟩ else ⟨false, false⟩) else (bif (m_rise_Windows a0 a1 a2 a3 (w64 (a3 + a4)) a5).ok then (bif ((m_rise_Windows a0 a1 a2 a3 (w64 (a3 + a4)) a5).r1 != (0 : Int)) then ⟨true, false⟩ else (bif (m_Q7_Check ((m_rise_Windows a0 a1 a2 a3 (w64 (a3 + a4)) a5).r0)).ok then (bif ((m_Q7_Check ((m_rise_Windows a0 a1 a2 a3 (w64 (a3 + a4)) a5).r0)).r0 != (0 : Int)) then ⟨true, false⟩ else (bif Nat.beq (lp_W7_RiseSure_0 a3 a4 false a0 a1 a2 a5 ((m_rise_Windows a0 a1 a2 a3 (w64 (a3 + a4)) a5).r0) a3).k 0 then ⟨true, false⟩ else (bif Nat.beq (lp_W7_RiseSure_0 a3 a4 false a0 a1 a2 a5 ((m_rise_Windows a0 a1 a2 a3 (w64 (a3 + a4)) a5).r0) a3).k 1 then (bif ((((m_rise_Windows a0 a1 a2 a3 (w64 (a3 + a4)) a5).r0).length : Int) == (0 : Int)) then (bif (m_W7_alive).ok then ⟨true, (m_W7_alive).r0⟩ else ⟨false, false⟩) else (bif (decide ((0 : Int) ≤ (0 : Int)) && decide ((0 : Int) < (((m_rise_Windows a0 a1 a2 a3 (w64 (a3 + a4)) a5).r0).length : Int))) then (bif decide (a3 ≤ ((((m_rise_Windows a0 a1 a2 a3 (w64 (a3 + a4)) a5).r0)).getD 0 (ET.z .win)).frm) then (bif (decide ((0 : Int) ≤ (w64 ((((m_rise_Windows a0 a1 a2 a3 (w64 (a3 + a4)) a5).r0).length : Int) - (1 : Int)))) && decide ((w64 ((((m_rise_Windows a0 a1 a2 a3 (w64 (a3 + a4)) a5).r0).length : Int) - (1 : Int))) < (((m_rise_Windows a0 a1 a2 a3 (w64 (a3 + a4)) a5).r0).length : Int))) then (bif decide (((((m_rise_Windows a0 a1 a2 a3 (w64 (a3 + a4)) a5).r0)).getD ((w64 ((((m_rise_Windows a0 a1 a2 a3 (w64 (a3 + a4)) a5).r0).length : Int) - (1 : Int))).toNat) (ET.z .win)).too ≤ (w64 (a3 + a4))) then (bif (m_W7_alive).ok then ⟨true, (m_W7_alive).r0⟩ else ⟨false, false⟩) else ⟨true, false⟩) else ⟨false, false⟩) else ⟨true, false⟩) else ⟨false, false⟩)) else ⟨false, false⟩))) else ⟨false, false⟩)) else ⟨false, false⟩)))) else ⟨false, false⟩
def F_W7_RiseSure (_a0 : Globe) (_a1 : Site) (_a2 : Source) (_a3 : Int) (_a4 : Int) (_a5 : Frac) (K : AV → List Blk → Ans) (r : O_W7_RiseSure) : Ans := bif r.ok then K (.v (.c (.d (.bool r.r0)))) [] else none
theorem e_W7_RiseSure (a0 : Globe) (a1 : Site) (a2 : Source) (a3 : Int) (a4 : Int) (a5 : Frac) (K : AV → List Blk → Ans) : evFn Tryz.prog GT EQT T_W7_fit XT (orL L_W7_RiseSure_0 noL) 80 6 [.v (.agg [.int .i64 a0.a, .int .i64 a0.b]), .v (.agg [.str a1.name, .int .i64 a1.s.num, .int .i64 a1.s.den, .int .i64 a1.t.num, .int .i64 a1.t.den]), .v (.agg [.str a2.name, .int .i64 a2.ra, .int .i64 a2.dec]), .v (.c (.d (.int .i64 a3))), .v (.c (.d (.int .i64 a4))), .v (.agg [.int .i64 a5.num, .int .i64 a5.den])] [] (fun v M => K (finR 0 v M).1 (finR 0 v M).2) = F_W7_RiseSure a0 a1 a2 a3 a4 a5 K (m_W7_RiseSure a0 a1 a2 a3 a4 a5) := by
  unfold m_W7_RiseSure
  refine Eq.trans ?_ (Eq.symm (pushT (pushT (pushT rfl rfl) (pushT (pushT rfl rfl) (pushT (pushT rfl rfl) (pushT (pushT rfl (pushT (pushT rfl (pushT rfl (pushT (pushT (pushT rfl rfl) (pushT (pushT (pushT (pushT (pushT rfl rfl) rfl) rfl) rfl) rfl)) rfl))) rfl)) rfl)))) rfl))
  kernel_rfl
theorem lok_W7_RiseSure : ∀ fn c, Tryz.prog.funcs[6]? = some fn → fn.body = some c → LOKn Tryz.prog GT gbT 0 (orL L_W7_RiseSure_0 noL) (loopsIn c) := by
  refine LOKn.ofF fun b hb => ?_
  have e : loopsF Tryz.prog 6 = [loopB Tryz.prog 6 0] := by kernel_rfl
  rw [e] at hb
  simp only [List.mem_cons, List.not_mem_nil, or_false] at hb
  subst hb
  exact (LOKbn.or k_W7_RiseSure_0 (fun _ _ _ _ _ _ _ h => h.elim))
theorem c_W7_RiseSure (a0 : Globe) (a1 : Site) (a2 : Source) (a3 : Int) (a4 : Int) (a5 : Frac) (hd : (m_W7_RiseSure a0 a1 a2 a3 a4 a5).ok = true) : CallsA Tryz.prog GT gbT 6 [.v (.agg [.int .i64 a0.a, .int .i64 a0.b]), .v (.agg [.str a1.name, .int .i64 a1.s.num, .int .i64 a1.s.den, .int .i64 a1.t.num, .int .i64 a1.t.den]), .v (.agg [.str a2.name, .int .i64 a2.ra, .int .i64 a2.dec]), .v (.c (.d (.int .i64 a3))), .v (.c (.d (.int .i64 a4))), .v (.agg [.int .i64 a5.num, .int .i64 a5.den])] [] (.v (.c (.d (.bool ((m_W7_RiseSure a0 a1 a2 a3 a4 a5).r0))))) [] := by
  refine CallsA.ofEvR g_W7_fit hEQT hmT (n0 := 0) rfl lok_W7_RiseSure ((e_W7_RiseSure a0 a1 a2 a3 a4 a5 (fun v M => some (Res.fin v M))).trans ?_)
  unfold F_W7_RiseSure
  rw [hd]
  rfl
def s_W7_RiseSure : List AV → List Blk → (AV → List Blk → Ans) → Ans := fun xs bs K => match xs, bs with
  | [.v (.agg [.int .i64 a0_0, .int .i64 a0_1]), .v (.agg [.str a1_0, .int .i64 a1_1, .int .i64 a1_2, .int .i64 a1_3, .int .i64 a1_4]), .v (.agg [.str a2_0, .int .i64 a2_1, .int .i64 a2_2]), .v (.c (.d (.int .i64 a3))), .v (.c (.d (.int .i64 a4))), .v (.agg [.int .i64 a5_0, .int .i64 a5_1])], [] => F_W7_RiseSure (⟨a0_0, a0_1⟩ : Globe) (⟨a1_0, ⟨a1_1, a1_2⟩, ⟨a1_3, a1_4⟩⟩ : Site) (⟨a2_0, a2_1, a2_2⟩ : Source) a3 a4 (⟨a5_0, a5_1⟩ : Frac) K (m_W7_RiseSure (⟨a0_0, a0_1⟩ : Globe) (⟨a1_0, ⟨a1_1, a1_2⟩, ⟨a1_3, a1_4⟩⟩ : Site) (⟨a2_0, a2_1, a2_2⟩ : Source) a3 a4 (⟨a5_0, a5_1⟩ : Frac))
  | _, _ => none
def T_W7_RiseSure : Nat → List AV → List Blk → (AV → List Blk → Ans) → Ans := upd T_W7_fit 6 s_W7_RiseSure
theorem g_W7_RiseSure : GOK Tryz.prog GT gbT T_W7_RiseSure XT := by
  refine GOK.upd g_W7_fit (fun args w => Tryz.call6 args w) fun xs bs K r h => ?_
  unfold s_W7_RiseSure at h
  split at h
  · unfold F_W7_RiseSure at h
    simp only [cond_eq_ite] at h
    split at h
    · rename_i hd
      exact ⟨_, _, c_W7_RiseSure _ _ _ _ _ _ hd, h⟩
    · cases h
  · cases h
structure O_W7_RiseOpposite where
  ok : Bool
  r0 : Bool
def m_W7_RiseOpposite (a0 : Globe) (a1 : Site) (a2 : Source) (a3 : Int) (a4 : Frac) (a5 : Frac) : O_W7_RiseOpposite := bif (m_W7_fit a0 ([a1] : List Site) a2 a3 a4).ok then (bif (!(m_W7_fit a0 ([a1] : List Site) a2 a3 a4).r0) then (bif (m_W7_alive).ok then ⟨true, (m_W7_alive).r0⟩ else ⟨false, false⟩) else (bif (m_Q7_Limit a5).ok then (bif (!(m_Q7_Limit a5).r0) then (bif (m_W7_alive).ok then ⟨true, (m_W7_alive).r0⟩ else ⟨false, false⟩) else (bif (m_rise_State a0 a1 a2 a3 a4).ok then (bif (m_rise_State a0 a1 a2 (w64 (a3 + (720 : Int))) a4).ok then (bif (m_rise_State a0 a1 a2 a3 a5).ok then (bif (m_rise_State a0 a1 ⟨a2.name, ((w64 (a2.ra + (360 : Int))).tmod (720 : Int)), (w64 ((0 : Int) - a2.dec))⟩ a3 a5).ok then (bif ((m_rise_State a0 a1 a2 a3 a4).r1 != (0 : Int)) then ⟨true, false⟩ else (bif ((m_rise_State a0 a1 a2 (w64 (a3 + (720 : Int))) a4).r1 != (0 : Int)) then ⟨true, false⟩ else (bif ((m_rise_State a0 a1 a2 a3 a5).r1 != (0 : Int)) then ⟨true, false⟩ else (bif ((m_rise_State a0 a1 ⟨a2.name, ((w64 (a2.ra + (360 : Int))).tmod (720 : Int)), (w64 ((0 : Int) - a2.dec))⟩ a3 a5).r1 != (0 : Int)) then ⟨true, false⟩ else (bif ((m_rise_State a0 a1 a2 a3 a4).r0 != (m_rise_State a0 a1 a2 (w64 (a3 + (720 : Int))) a4).r0) then ⟨true, false⟩ else (bif ((m_rise_State a0 a1 a2 a3 a4).r0 == (1 : Int)) then (bif ((m_rise_State a0 a1 ⟨a2.name, ((w64 (a2.ra + (360 : Int))).tmod (720 : Int)), (w64 ((0 : Int) - a2.dec))⟩ a3 a5).r0 != (-1 : Int)) then ⟨true, false⟩ else (bif (!(lessN ⟨a4.num, a4.den⟩ ⟨a5.num, a5.den⟩)) then (bif ((m_rise_State a0 a1 a2 a3 a5).r0 != (1 : Int)) then ⟨true, false⟩ else (bif ((m_rise_State a0 a1 a2 a3 a4).r0 != (1 : Int)) then (bif (m_W7_alive).ok then ⟨true, (m_W7_alive).r0⟩ else ⟨false, false⟩) else (bif ((m_rise_State a0 a1 a2 a3 a5).r0 != (-1 : Int)) then (bif (m_W7_alive).ok then ⟨true, (m_W7_alive).r0⟩ else ⟨false, false⟩) else (bif (lessN ⟨a4.num, a4.den⟩ ⟨a5.num, a5.den⟩) then (bif (m_W7_alive).ok then ⟨true, (m_W7_alive).r0⟩ else ⟨false, false⟩) else ⟨true, false⟩)))) else (bif ((m_rise_State a0 a1 a2 a3 a4).r0 != (1 : Int)) then (bif (m_W7_alive).ok then ⟨true, (m_W7_alive).r0⟩ else ⟨false, false⟩) else (bif ((m_rise_State a0 a1 a2 a3 a5).r0 != (-1 : Int)) then (bif (m_W7_alive).ok then ⟨true, (m_W7_alive).r0⟩ else ⟨false, false⟩) else (bif (lessN ⟨a4.num, a4.den⟩ ⟨a5.num, a5.den⟩) then (bif (m_W7_alive).ok then ⟨true, (m_W7_alive).r0⟩ else ⟨false, false⟩) else ⟨true, false⟩))))) else (bif ((m_rise_State a0 a1 a2 a3 a4).r0 != (1 : Int)) then (bif (m_W7_alive).ok then ⟨true, (m_W7_alive).r0⟩ else ⟨false, false⟩) else (bif ((m_rise_State a0 a1 a2 a3 a5).r0 != (-1 : Int)) then (bif (m_W7_alive).ok then ⟨true, (m_W7_alive).r0⟩ else ⟨false, false⟩) else (bif (lessN ⟨a4.num, a4.den⟩ ⟨a5.num, a5.den⟩) then (bif (m_W7_alive).ok then ⟨true, (m_W7_alive).r0⟩ else ⟨false, false⟩) else ⟨true, false⟩))))))))) else ⟨false, false⟩) else ⟨false, false⟩) else ⟨false, false⟩) else ⟨false, false⟩)) else ⟨false, false⟩)) else ⟨false, false⟩
def F_W7_RiseOpposite (_a0 : Globe) (_a1 : Site) (_a2 : Source) (_a3 : Int) (_a4 : Frac) (_a5 : Frac) (K : AV → List Blk → Ans) (r : O_W7_RiseOpposite) : Ans := bif r.ok then K (.v (.c (.d (.bool r.r0)))) [] else none
theorem e_W7_RiseOpposite (a0 : Globe) (a1 : Site) (a2 : Source) (a3 : Int) (a4 : Frac) (a5 : Frac) (K : AV → List Blk → Ans) : evFn Tryz.prog GT EQT T_W7_RiseSure XT noL 80 7 [.v (.agg [.int .i64 a0.a, .int .i64 a0.b]), .v (.agg [.str a1.name, .int .i64 a1.s.num, .int .i64 a1.s.den, .int .i64 a1.t.num, .int .i64 a1.t.den]), .v (.agg [.str a2.name, .int .i64 a2.ra, .int .i64 a2.dec]), .v (.c (.d (.int .i64 a3))), .v (.agg [.int .i64 a4.num, .int .i64 a4.den]), .v (.agg [.int .i64 a5.num, .int .i64 a5.den])] [] (fun v M => K (finR 0 v M).1 (finR 0 v M).2) = F_W7_RiseOpposite a0 a1 a2 a3 a4 a5 K (m_W7_RiseOpposite a0 a1 a2 a3 a4 a5) := by
  unfold m_W7_RiseOpposite
  refine Eq.trans ?_ (Eq.symm (pushT (pushT (pushT rfl rfl) (pushT (pushT (pushT rfl rfl) (pushT (pushT (pushT (pushT (pushT rfl (pushT rfl (pushT rfl (pushT rfl (pushT rfl (pushT (pushT rfl (pushT (pushT rfl (pushT (pushT rfl rfl) (pushT (pushT rfl rfl) (pushT (pushT rfl rfl) rfl)))) (pushT (pushT rfl rfl) (pushT (pushT rfl rfl) (pushT (pushT rfl rfl) rfl))))) (pushT (pushT rfl rfl) (pushT (pushT rfl rfl) (pushT (pushT rfl rfl) rfl))))))))) rfl) rfl) rfl) rfl)) rfl)) rfl))
  kernel_rfl
theorem c_W7_RiseOpposite (a0 : Globe) (a1 : Site) (a2 : Source) (a3 : Int) (a4 : Frac) (a5 : Frac) (hd : (m_W7_RiseOpposite a0 a1 a2 a3 a4 a5).ok = true) : CallsA Tryz.prog GT gbT 7 [.v (.agg [.int .i64 a0.a, .int .i64 a0.b]), .v (.agg [.str a1.name, .int .i64 a1.s.num, .int .i64 a1.s.den, .int .i64 a1.t.num, .int .i64 a1.t.den]), .v (.agg [.str a2.name, .int .i64 a2.ra, .int .i64 a2.dec]), .v (.c (.d (.int .i64 a3))), .v (.agg [.int .i64 a4.num, .int .i64 a4.den]), .v (.agg [.int .i64 a5.num, .int .i64 a5.den])] [] (.v (.c (.d (.bool ((m_W7_RiseOpposite a0 a1 a2 a3 a4 a5).r0))))) [] := by
  refine CallsA.ofEvR g_W7_RiseSure hEQT hmT (n0 := 0) rfl (fun _ _ _ _ => LOKn.nil) ((e_W7_RiseOpposite a0 a1 a2 a3 a4 a5 (fun v M => some (Res.fin v M))).trans ?_)
  unfold F_W7_RiseOpposite
  rw [hd]
  rfl
end Go.Ev

namespace Go.Ev
open Go
theorem m_alive : m_W7_alive = ⟨true, true⟩ := by kernel_rfl
theorem m_long (l : List Site) (s : Source) (hl : l.length ≤ maxLen) : m_W7_long l s = ⟨true, greatB l || decide (200 < s.name.size)⟩ := by
  unfold m_W7_long
  rw [m_great l hl]
  by_cases c : 200 < s.name.size
  · rw [dec_t c, dec_t (show (200 : Int) < (s.name.size : Int) by omega)]
    cases greatB l <;> rfl
  · rw [dec_f c, dec_f (show ¬ (200 : Int) < (s.name.size : Int) by omega)]
    cases greatB l <;> rfl
def fit7 (g : Globe) (l : List Site) (s : Source) (t : Int) (lim : Frac) : Bool := !(greatB l || decide (200 < s.name.size)) && (lookE g l s lim == 0 && (decide (-900000 ≤ t) && decide (t ≤ 900000)))
theorem look_parts (g : Globe) (l : List Site) (s : Source) (lim : Frac) : (lookE g l s lim == 0) = (((bif checkA g l != 0 then checkA g l else checkSrc s) == 0) && limB lim) := by
  unfold lookE
  cases h1 : (checkA g l != 0) with
  | true =>
    simp only [cond_true]
    rw [show (checkA g l == 0) = false by simpa [bne] using h1]
    rfl
  | false =>
    simp only [cond_false]
    cases h2 : (checkSrc s != 0) with
    | true =>
      simp only [cond_true]
      rw [show (checkSrc s == 0) = false by simpa [bne] using h2]
      rfl
    | false =>
      rw [eq0_of h2]
      cases limB lim <;> rfl
theorem m_fit (g : Globe) (l : List Site) (s : Source) (t : Int) (lim : Frac) (hl : l.length ≤ maxLen) : m_W7_fit g l s t lim = ⟨true, fit7 g l s t lim⟩ := by
  unfold m_W7_fit fit7
  rw [look_parts]
  simp only [m_long l s hl, m_both, m_limit, cond_true]
  cases greatB l || decide (200 < s.name.size) with
  | true => rfl
  | false =>
    cases (bif checkA g l != 0 then checkA g l else checkSrc s) == 0 with
    | false => rfl
    | true => cases limB lim <;> cases decide (-900000 ≤ t) <;> cases decide (t ≤ 900000) <;> rfl
theorem fit7_ok {g : Globe} {l : List Site} {s : Source} {t : Int} {lim : Frac} (h : fit7 g l s t lim = true) : lookE g l s lim = 0 ∧ -900000 ≤ t ∧ t ≤ 900000 := by
  unfold fit7 at h
  simp only [Bool.and_eq_true, decide_eq_true_eq, beq_iff_eq] at h
  exact ⟨h.2.1, h.2.2.1, h.2.2.2⟩
abbrev wAt (l : List Window) (n : Nat) : Window := l.getD n (ET.z .win)
theorem wAt_left {a b : List Window} {n : Nat} (h : n < a.length) : wAt (a ++ b) n = wAt a n := by
  unfold wAt
  rw [List.getD_eq_getElem?_getD, List.getD_eq_getElem?_getD, List.getElem?_append_left h]
theorem wAt_last {a : List Window} {w : Window} : wAt (a ++ [w]) a.length = w := by
  unfold wAt
  rw [List.getD_eq_getElem?_getD, List.getElem?_append_right (by simp)]
  simp
structure Good (F : List Window) (n : Nat) : Prop where
  one : (wAt F n).frm < (wAt F n).too
  two : 0 < n → (wAt F (n - 1)).too < (wAt F n).frm
theorem desc_good : ∀ {R : List Window} {hi : Int}, Desc hi R → ∀ n, n < R.length → Good R.reverse n
  | [], _, _, n, h => by simp at h
  | w :: r, hi, ⟨d1, d2, d3⟩, n, h => by
    have ih := desc_good d3
    rw [List.reverse_cons]
    simp only [List.length_cons] at h
    by_cases c : n < r.length
    · have q := ih n c
      refine ⟨by rw [wAt_left (by simpa using c)]; exact q.one, fun h0 => ?_⟩
      rw [wAt_left (n := n) (by simpa using c), wAt_left (n := n - 1) (by rw [List.length_reverse]; omega)]
      exact q.two h0
    · have e : n = r.reverse.length := by rw [List.length_reverse]; omega
      refine ⟨by rw [e, wAt_last]; exact d1, fun h0 => ?_⟩
      cases r with
      | nil => simp at e; omega
      | cons v q =>
        have e2 : n - 1 = q.reverse.length := by rw [e]; simp
        rw [e2, e, wAt_last, wAt_left (by simp), List.reverse_cons, wAt_last]
        have := d3.2.1
        omega
theorem run_good (F : List Window) (p : Int) (hl : F.length ≤ 1000) (hg : ∀ n, n < F.length → Good F n) : ∀ (f n : Nat), n ≤ F.length → F.length - n < f → (run_Q7_Check_0 p F f (n : Int)).k = 1 := by
  intro f
  induction f with
  | zero => intro n _ h; omega
  | succ f ih =>
    intro n hn h
    rw [run_Q7_Check_0]
    by_cases h1 : n < F.length
    · have q := hg n h1
      have q1 := q.one
      simp only [nn_t, lt_t h1, Bool.and_self, cond_true, w64_up (show n < 9223372036854775807 by omega), Int.toNat_natCast]
      rw [dec_f (show ¬ (F.getD n (ET.z .win)).too ≤ (F.getD n (ET.z .win)).frm by have : (F.getD n (ET.z .win)).frm < (F.getD n (ET.z .win)).too := q1; omega)]
      simp only [cond_false]
      by_cases c0 : 0 < n
      · have e5 : w64 ((n : Int) - 1) = ((n - 1 : Nat) : Int) := by rw [w64_id (by omega)]; omega
        have q2 : (F.getD (n - 1) (ET.z .win)).too < (F.getD n (ET.z .win)).frm := q.two c0
        simp only [dec_t (show (0 : Int) < (n : Int) by omega), cond_true, e5, nn_t, lt_t (show n - 1 < F.length by omega), Bool.and_self, Int.toNat_natCast, dec_f (show ¬ (F.getD n (ET.z .win)).frm ≤ (F.getD (n - 1) (ET.z .win)).too by omega), cond_false]
        exact ih (n + 1) (by omega) (by omega)
      · simp only [dec_f (show ¬ (0 : Int) < (n : Int) by omega), cond_false]
        exact ih (n + 1) (by omega) (by omega)
    · simp only [lt_f h1, cond_false]
theorem m_checkGood (F : List Window) (hl : F.length ≤ 1000) (hg : ∀ n, n < F.length → Good F n) : m_Q7_Check F = ⟨true, 0⟩ := by
  unfold m_Q7_Check lp_Q7_Check_0
  rw [dec_f (show ¬ (1000 : Int) < (F.length : Int) by omega)]
  have := run_good F 0 hl hg (2000 + F.length) 0 (by omega) (by omega)
  rw [show ((0 : Nat) : Int) = 0 from rfl] at this
  rw [this]
  rfl
def hasF (F : List Window) (t : Int) : Bool := F.any fun w => decide (w.frm ≤ t) && decide (t < w.too)
theorem run_has (F : List Window) (t : Int) (p : Bool) (hl : F.length ≤ 1048576) : ∀ (f n : Nat), n ≤ F.length → F.length - n < f → (run_Q7_Has_0 t p F f (n : Int)).k = bif hasF (F.drop n) t then 0 else 1 := by
  intro f
  induction f with
  | zero => intro n _ h; omega
  | succ f ih =>
    intro n hn h
    rw [run_Q7_Has_0]
    by_cases h1 : n < F.length
    · have i := ih (n + 1) (by omega) (by omega)
      simp only [nn_t, lt_t h1, Bool.and_self, cond_true, w64_up (show n < 9223372036854775807 by omega), Int.toNat_natCast]
      rw [drop_at (ET.z .win) h1]
      unfold hasF at i ⊢
      rw [List.any_cons]
      cases decide ((F.getD n (ET.z .win)).frm ≤ t) <;> cases decide (t < (F.getD n (ET.z .win)).too) <;> first | exact i | rfl
    · simp only [lt_f h1, cond_false]
      rw [drop_all h1]
      rfl
theorem m_has (F : List Window) (t : Int) (hl : F.length ≤ 1048576) : m_Q7_Has F t = ⟨true, hasF F t⟩ := by
  unfold m_Q7_Has lp_Q7_Has_0
  have := run_has F t false hl (2000 + F.length) 0 (by omega) (by omega)
  rw [show ((0 : Nat) : Int) = 0 from rfl, List.drop_zero] at this
  rw [this]
  cases hasF F t <;> rfl
theorem hasF_iff {R : List Window} {t : Int} : hasF R.reverse t = true ↔ hasR R t := by
  unfold hasF hasR
  rw [List.any_eq_true]
  constructor
  · rintro ⟨w, h, h1⟩
    simp only [Bool.and_eq_true, decide_eq_true_eq] at h1
    exact ⟨w, List.mem_reverse.1 h, h1⟩
  · rintro ⟨w, h, h1⟩
    exact ⟨w, List.mem_reverse.2 h, by simpa using h1⟩
theorem wins_has (up : Nat → Bool) (fr : Int) {n k : Nat} (h : k < n) : hasF (winsF up fr n) (fr + k) = up k := by
  have q := (wins_inv up fr n).has (fr + k)
  unfold winsF
  cases hu : up k with
  | true => exact hasF_iff.2 (q.2 ⟨k, h, rfl, hu⟩)
  | false =>
    refine Bool.eq_false_iff.2 fun e => ?_
    obtain ⟨j, _, h2, h3⟩ := q.1 (hasF_iff.1 e)
    have : j = k := by omega
    rw [this, hu] at h3
    cases h3
theorem wins_good (up : Nat → Bool) (fr : Int) (N : Nat) : ∀ n, n < (winsF up fr N).length → Good (winsF up fr N) n := fun n h => desc_good (wins_inv up fr N).desc n (by unfold winsF at h; simpa using h)
theorem wins_first (up : Nat → Bool) (fr : Int) (N : Nat) (h : 0 < (winsF up fr N).length) : fr ≤ (wAt (winsF up fr N) 0).frm := by
  refine (wins_inv up fr N).low _ ?_
  have : wAt (winsF up fr N) 0 ∈ winsF up fr N := by
    unfold wAt
    rw [List.getD_eq_getElem?_getD, List.getElem?_eq_getElem h]
    exact List.getElem_mem h
  exact List.mem_reverse.1 this
theorem wins_end (up : Nat → Bool) (fr : Int) (N : Nat) (h : 0 < (winsF up fr N).length) : (wAt (winsF up fr N) ((winsF up fr N).length - 1)).too ≤ fr + N := by
  have d := (wins_inv up fr N).desc
  unfold winsF at h ⊢
  cases hR : winsR up fr N with
  | nil => rw [hR] at h; simp at h
  | cons w r =>
    rw [hR] at d
    rw [List.reverse_cons, show (r.reverse ++ [w]).length - 1 = r.reverse.length by simp, wAt_last]
    exact d.2.1
theorem state_in {g : Globe} {x : Site} {s : Source} {t : Int} {lim : Frac} (h : lookE g [x] s lim = 0) (ht : -1000000 ≤ t ∧ t ≤ 1000000) : stateE g x s t lim = (stateV (viewV g (placeV g x.s x.t) lim) (dirS s.ra s.dec t), 0) := by
  unfold stateE
  rw [h, tick_iff.2 ht]
  rfl
theorem up_one (g : Globe) (x : Site) (s : Source) (fr : Int) (lim : Frac) (k : Nat) : upN g [x] s fr lim k = (stateV (viewV g (placeV g x.s x.t) lim) (dirS s.ra s.dec (fr + k)) == 1) := by
  unfold upN upAll viewsL
  simp
theorem all_in {g : Globe} {l : List Site} {s : Source} {fr : Int} {lim : Frac} (h : lookE g l s lim = 0) (hf : -900000 ≤ fr ∧ fr ≤ 900000) {N : Nat} (hN : N ≤ 60) : allE g l s fr (fr + N) lim = (winsF (upN g l s fr lim) fr N, 0) := by
  unfold allE
  rw [h, tick_iff.2 (show -1000000 ≤ fr ∧ fr ≤ 1000000 by omega), tick_iff.2 (show -1000000 ≤ fr + N ∧ fr + N ≤ 1000000 by omega), dec_f (show ¬ fr + N < fr by omega), dec_f (show ¬ 720 < fr + N - fr by omega), show (fr + (N : Int) - fr).toNat = N by omega]
  rfl
theorem run_sure {g : Globe} {x : Site} {s : Source} {fr : Int} {lim : Frac} (h : lookE g [x] s lim = 0) (hf : -900000 ≤ fr ∧ fr ≤ 900000) {N : Nat} (hN : N ≤ 60) (p : Bool) : ∀ (f n : Nat), n ≤ N → N - n < f →
    (run_W7_RiseSure_0 fr (N : Int) p g x s lim (winsF (upN g [x] s fr lim) fr N) f (fr + n)).k = 1 := by
  intro f
  induction f with
  | zero => intro n _ h; omega
  | succ f ih =>
    intro n hn hk
    have hl := winsF_len (upN g [x] s fr lim) fr N
    rw [run_W7_RiseSure_0, w64_id (n := fr + N) (by omega)]
    by_cases h1 : n < N
    · rw [dec_t (show fr + (n : Int) < fr + N by omega), m_stateP, state_in h (show -1000000 ≤ fr + (n : Int) ∧ fr + (n : Int) ≤ 1000000 by omega), m_has _ _ (by omega), wins_has _ _ h1, up_one]
      simp only [cond_true, bne_self_eq_false, cond_false, beq_self_eq_true, Bool.not_true]
      rw [show w64 (fr + (n : Int) + 1) = fr + ((n + 1 : Nat) : Int) by rw [w64_id (by omega)]; omega]
      exact ih (n + 1) (by omega) (by omega)
    · rw [dec_f (show ¬ fr + (n : Int) < fr + N by omega)]
      rfl
theorem law_RiseSure (g : Globe) (x : Site) (s : Source) (fr many : Int) (lim : Frac) (_ : ∀ d ∈ [D.int .i64 g.a, .int .i64 g.b], d.ok) (_ : ∀ d ∈ [D.str x.name, .int .i64 x.s.num, .int .i64 x.s.den, .int .i64 x.t.num, .int .i64 x.t.den], d.ok) (_ : ∀ d ∈ [D.str s.name, .int .i64 s.ra, .int .i64 s.dec], d.ok) (_ : IntKind.i64.has fr) (_ : IntKind.i64.has many) (_ : ∀ d ∈ [D.int .i64 lim.num, .int .i64 lim.den], d.ok) :
    m_W7_RiseSure g x s fr many lim = ⟨true, true⟩ := by
  unfold m_W7_RiseSure m_rise_Windows
  simp only [m_fit g [x] s fr lim (by simp [maxLen]), m_alive, m_allW, cond_true]
  cases hf : fit7 g [x] s fr lim with
  | false => rfl
  | true =>
    obtain ⟨h0, h1⟩ := fit7_ok hf
    by_cases c1 : many < 0
    · rw [dec_t c1]; rfl
    by_cases c2 : 60 < many
    · rw [dec_f c1, dec_t c2]; rfl
    rw [dec_f c1, dec_f c2]
    obtain ⟨N, rfl⟩ := nat_of (show 0 ≤ many by omega)
    rw [w64_id (n := fr + N) (by omega), all_in h0 h1 (show N ≤ 60 by omega)]
    have hl := winsF_len (upN g [x] s fr lim) fr N
    have hs := run_sure h0 h1 (show N ≤ 60 by omega) false (2000 + (winsF (upN g [x] s fr lim) fr N).length) 0 (by omega) (by omega)
    rw [show fr + ((0 : Nat) : Int) = fr by omega] at hs
    unfold lp_W7_RiseSure_0
    simp only [Bool.not_true, cond_false, bne_self_eq_false, m_checkGood _ (show (winsF (upN g [x] s fr lim) fr N).length ≤ 1000 by omega) (wins_good _ fr N), cond_true, hs, show Nat.beq 1 0 = false from rfl, show Nat.beq 1 1 = true from rfl]
    by_cases c3 : 0 < (winsF (upN g [x] s fr lim) fr N).length
    · have f1 := wins_first (upN g [x] s fr lim) fr N c3
      have f2 := wins_end (upN g [x] s fr lim) fr N c3
      rw [show (((winsF (upN g [x] s fr lim) fr N).length : Int) == 0) = false from beq_eq_false_iff_ne.2 (by omega), w64_last (show (winsF (upN g [x] s fr lim) fr N).length < 1000 by omega), dec_t (show (0 : Int) < ((winsF (upN g [x] s fr lim) fr N).length : Int) by omega),
        dec_t (show fr ≤ ((winsF (upN g [x] s fr lim) fr N).getD 0 (ET.z .win)).frm from f1), dec_t (show (0 : Int) ≤ ((winsF (upN g [x] s fr lim) fr N).length : Int) - 1 by omega), dec_t (show ((winsF (upN g [x] s fr lim) fr N).length : Int) - 1 < ((winsF (upN g [x] s fr lim) fr N).length : Int) by omega),
        show (((winsF (upN g [x] s fr lim) fr N).length : Int) - 1).toNat = (winsF (upN g [x] s fr lim) fr N).length - 1 by omega, dec_t (show ((winsF (upN g [x] s fr lim) fr N).getD ((winsF (upN g [x] s fr lim) fr N).length - 1) (ET.z .win)).too ≤ fr + N from f2)]
      rfl
    · have e0 : (winsF (upN g [x] s fr lim) fr N).length = 0 := by omega
      rw [e0]
      rfl
end Go.Ev

namespace Go.Ev
open Go
theorem cosT_half (k : Int) : cosT (k + 360) = negS (cosT k) := by
  rw [show k + 360 = (k + 180) + 180 by omega, cosT_quarter, sinT_quarter]
theorem sinT_half (k : Int) : sinT (k + 360) = negS (sinT k) := by
  rw [show k + 360 = (k + 180) + 180 by omega, sinT_quarter, cosT_quarter]
def oppRa (ra : Int) : Int := (ra + 360).tmod 720
theorem oppRa_spec {ra : Int} (h0 : 0 ≤ ra) (h1 : ra < 720) : 0 ≤ oppRa ra ∧ oppRa ra < 720 ∧ ∃ m : Int, oppRa ra = ra + 360 + 720 * m := by
  unfold oppRa
  rw [Int.tmod_eq_emod_of_nonneg (by omega)]
  refine ⟨by omega, by omega, -((ra + 360) / 720), ?_⟩
  have := Int.emod_add_mul_ediv (ra + 360) 720
  rw [Int.mul_neg]
  omega
def negDir (d : Dir) : Dir := ⟨negS d.x, negS d.y, negS d.z⟩
theorem dirS_opp {ra : Int} (h0 : 0 ≤ ra) (h1 : ra < 720) (dec t : Int) : dirS (oppRa ra) (-dec) t = negDir (dirS ra dec t) := by
  obtain ⟨_, _, m, e⟩ := oppRa_spec h0 h1
  have e1 : oppRa ra - t = (ra - t + 360) + 720 * m := by omega
  unfold dirS negDir
  rw [e1, cosT_whole, sinT_whole, cosT_half, sinT_half, cosT_neg, sinT_neg, mulS_negS, mulS_negS]
def negP (r : Span × Int) : Span × Int := (negS r.1, r.2)
theorem ranged_neg (a : Span) : rangedS (negS a) = negP (rangedS a) := by
  unfold rangedS
  rw [spanValid_negS]
  cases spanValid a <;> rfl
theorem add_neg (a b : Span) : addS (negS a) (negS b) = negP (addS a b) := by
  unfold addS
  rw [spanValid_negS, spanValid_negS]
  cases spanValid a && spanValid b with
  | false => rfl
  | true =>
    simp only [cond_true]
    rw [← ranged_neg]
    simp only [negS, Int.neg_add]
theorem prods_neg : ∀ (l : List (Span × Span)) (s : Span), prodsS (negS s) (l.map fun p => (negS p.1, p.2)) = negP (prodsS s l)
  | [], _ => rfl
  | (a, b) :: r, s => by
    have ih := prods_neg r (addS s (mulS a b).1).1
    rw [List.map_cons, prodsS, prodsS]
    simp only [mulS_negS_left, add_neg, negP]
    cases (mulS a b).2 == 0 with
    | false => rfl
    | true =>
      cases (addS s (mulS a b).1).2 == 0 with
      | false => rfl
      | true => exact ih
theorem along_neg (d : Dir) (u : Vec) : alongS (negDir d) u = negP (alongS d u) := by
  unfold alongS
  have hv : [(negDir d).x, (negDir d).y, (negDir d).z].all spanValid = [d.x, d.y, d.z].all spanValid := by simp [negDir, spanValid_negS]
  rw [hv]
  cases [d.x, d.y, d.z].all spanValid with
  | false => rfl
  | true =>
    cases vecOkB u with
    | false => rfl
    | true =>
      simp only [cond_true]
      cases h1 : (ofS u.x).2 != 0 with
      | true => rfl
      | false =>
        cases h2 : (ofS u.y).2 != 0 with
        | true => rfl
        | false =>
          cases h3 : (ofS u.z).2 != 0 with
          | true => rfl
          | false => exact prods_neg [(d.x, (ofS u.x).1), (d.y, (ofS u.y).1), (d.z, (ofS u.z).1)] spanZ
theorem stI_one {l q b : Span} (h : stI l q b = 1) : 0 < l.lo ∧ b.hi < q.lo := by
  unfold stI at h
  by_cases c1 : 0 < l.lo
  · by_cases c2 : b.hi < q.lo
    · exact ⟨c1, c2⟩
    · rw [dec_t c1, dec_f c2] at h
      cases h3 : decide (l.hi < 0) <;> cases h4 : decide (q.hi < b.lo) <;> rw [h3, h4] at h <;> simp at h
  · rw [dec_f c1] at h
    cases h3 : decide (l.hi < 0) <;> cases h4 : decide (q.hi < b.lo) <;> rw [h3, h4] at h <;> simp at h
theorem st_up {l q b : Span} (h1 : 0 < l.lo) (h2 : b.hi < q.lo) : stI l q b = 1 := by
  unfold stI
  rw [dec_t h1, dec_t h2]
  rfl
theorem st_down {l q b : Span} (h1 : ¬ 0 < l.lo) (h2 : l.hi < 0) : stI l q b = -1 := by
  unfold stI
  rw [dec_f h1, dec_t h2]
  rfl
theorem state_opp {v w : View} (hv : VOk v) (hu : w.up = v.up) {d : Dir} (hd : Unit1 d.x ∧ Unit1 d.y ∧ Unit1 d.z) (h : stateV v d = 1) : stateV w (negDir d) = -1 := by
  obtain ⟨l, el, tl⟩ := along_unit hd hv.ok hv.x hv.y hv.z
  unfold stateV at h ⊢
  rw [el] at h
  have q := (stI_one h).1
  unfold Three at tl
  simp only at q
  rw [hu, along_neg, el]
  exact st_down (by simp only [negP, negS]; omega) (by simp only [negP, negS]; omega)
theorem state_low {v w : View} (hu : w.up = v.up) (hb : w.bound.hi ≤ v.bound.hi) {d : Dir} (h : stateV v d = 1) : stateV w d = 1 := by
  unfold stateV at h ⊢
  obtain ⟨h1, h2⟩ := stI_one h
  rw [hu]
  exact st_up h1 (by omega)
theorem around_mono {f h : Frac} (hf : FracOk f) (hh : FracOk h) (e : val f ≤ val h) : (aroundS f).hi ≤ (aroundS h).hi := by
  have d1 := hf.denlo; have d2 := hh.denlo
  have e1 := val_mul hf; have e2 := val_mul hh
  have p1 : (0 : Rat) ≤ (f.den : Rat) := by exact_mod_cast (show 0 ≤ f.den by omega)
  have p2 : (0 : Rat) ≤ (h.den : Rat) := by exact_mod_cast (show 0 ≤ h.den by omega)
  have k1 := Rat.mul_le_mul_of_nonneg_right (Rat.mul_le_mul_of_nonneg_right e p1) p2
  have k2 : ((f.num * h.den : Int) : Rat) ≤ ((h.num * f.den : Int) : Rat) := by
    rw [Rat.intCast_mul, Rat.intCast_mul, ← e1, ← e2]
    grind
  have k : f.num * h.den ≤ h.num * f.den := by exact_mod_cast k2
  unfold aroundS
  simp only
  rw [ceil_le (by omega)]
  have c := (ceil_le (n := h.num * 1000000) (d := h.den) (x := -(-(h.num * 1000000) / h.den)) (by omega)).1 (Int.le_refl _)
  generalize -(-(h.num * 1000000) / h.den) = X at *
  have s1 : f.num * 1000000 * h.den ≤ X * f.den * h.den := by
    have := Int.mul_le_mul_of_nonneg_right c (show 0 ≤ f.den by omega)
    have e3 : f.num * 1000000 * h.den = 1000000 * (f.num * h.den) := by grind
    have e4 : h.num * 1000000 * f.den = 1000000 * (h.num * f.den) := by grind
    have e5 : X * f.den * h.den = X * h.den * f.den := by grind
    omega
  exact Int.le_of_mul_le_mul_right s1 (by omega)
theorem mul_hi {a b : Span} (ha : Unit1 a) (hb : Unit1 b) (a0 : 0 ≤ a.lo) (b0 : 0 ≤ b.lo) : (mulS a b).1.hi = -(-(a.hi * b.hi) / 1000000) := by
  obtain ⟨p, e, _⟩ := mulS_unit ha hb
  have e' := e
  unfold Unit1 at ha hb
  unfold mulS at e
  rw [unit_valid ha, unit_valid hb] at e
  simp only [Bool.and_self, cond_true] at e
  have hp := rangedS_ok e
  rw [e', hp]
  simp only
  have m1 : a.lo * b.lo ≤ a.hi * b.hi := mul_le a0 b0 ha.2.1 hb.2.1
  have m2 : a.lo * b.hi ≤ a.hi * b.hi := mul_le a0 (by omega) ha.2.1 (Int.le_refl _)
  have m3 : a.hi * b.lo ≤ a.hi * b.hi := mul_le (by omega) b0 (Int.le_refl _) hb.2.1
  have h2 := le_max4 (a.lo * b.lo) (a.lo * b.hi) (a.hi * b.lo) (a.hi * b.hi)
  have h4 := max4_one (p := a.lo * b.lo) (q := a.lo * b.hi) (r := a.hi * b.lo) (s := a.hi * b.hi)
  rw [show max4 (a.lo * b.lo) (a.lo * b.hi) (a.hi * b.lo) (a.hi * b.hi) = a.hi * b.hi by omega]
theorem around_nn {f : Frac} (hf : FracOk f) (h : 0 ≤ val f) : 0 ≤ (aroundS f).lo := by
  have d1 := hf.denlo
  have p1 : (0 : Rat) ≤ (f.den : Rat) := by exact_mod_cast (show 0 ≤ f.den by omega)
  have k1 := Rat.mul_le_mul_of_nonneg_right h p1
  rw [val_mul hf] at k1
  have k2 : ((0 : Int) : Rat) ≤ (f.num : Rat) := by
    have e0 : ((0 : Int) : Rat) = 0 := rfl
    rw [e0]; grind
  have k : 0 ≤ f.num := by exact_mod_cast k2
  unfold aroundS
  exact Int.ediv_nonneg (by omega) (by omega)
theorem bound_mono {g : Globe} {s t : Frac} {p : Vec} (h : PlaceQ g s t p) {lim low : Frac} (hl : LimOk lim) (hw : LimOk low) (e : low.num * lim.den ≤ lim.num * low.den) : (viewV g p low).bound.hi ≤ (viewV g p lim).bound.hi := by
  obtain ⟨n, U⟩ := up_q h
  obtain ⟨q, eq, kq, q0, q1, vq, r0, _⟩ := lim_q hl
  obtain ⟨q', eq', kq', q0', q1', vq', r0', _⟩ := lim_q hw
  obtain ⟨e1, u1⟩ := of_unit kq ⟨one_pos q0, q1⟩
  obtain ⟨e1', u1'⟩ := of_unit kq' ⟨one_pos q0', q1'⟩
  obtain ⟨e2, u2⟩ := of_unit U.nok ⟨one_pos U.n0, U.n1⟩
  have d1 := hl.ok.denlo; have d2 := hw.ok.denlo
  have v1 := val_mul hl.ok; have v2 := val_mul hw.ok
  have c1 := den_ne hl.ok; have c2 := den_ne hw.ok
  have hle : val low ≤ val lim := by
    apply Rat.not_lt.1
    intro c
    have p1 : (0 : Rat) < (lim.den : Rat) * (low.den : Rat) := Rat.mul_pos (by exact_mod_cast (show 0 < lim.den by omega)) (by exact_mod_cast (show 0 < low.den by omega))
    have := Rat.mul_pos (show 0 < val low - val lim by grind) p1
    have k : ((low.num * lim.den : Int) : Rat) ≤ ((lim.num * low.den : Int) : Rat) := by exact_mod_cast e
    rw [Rat.intCast_mul, Rat.intCast_mul, ← v1, ← v2] at k
    grind
  have hsq : val q' ≤ val q := by
    rw [vq, vq']
    have a1 := Rat.mul_le_mul_of_nonneg_left hle r0'
    have a2 := Rat.mul_le_mul_of_nonneg_right hle r0
    grind
  have m := around_mono kq' kq hsq
  have n0 := around_nn U.nok U.n0
  have ub := u2
  unfold Unit1 at ub
  unfold viewV
  simp only
  rw [eq, eq', U.dot, e1, e1', e2, mul_hi u1 u2 (around_nn kq q0) n0, mul_hi u1' u2 (around_nn kq' q0') n0]
  have : (aroundS q').hi * (aroundS n).hi ≤ (aroundS q).hi * (aroundS n).hi := Int.mul_le_mul_of_nonneg_right m (by omega)
  omega
theorem look_src {g : Globe} {l : List Site} {s s' : Source} {lim lim' : Frac} (h : lookE g l s lim = 0) (hs : checkSrc s' = 0) (hl : limB lim' = true) : lookE g l s' lim' = 0 := by
  unfold lookE
  rw [(fine h).c, hs, hl]
  rfl
theorem law_RiseOpposite (g : Globe) (x : Site) (s : Source) (t : Int) (lim low : Frac) (_ : ∀ d ∈ [D.int .i64 g.a, .int .i64 g.b], d.ok) (_ : ∀ d ∈ [D.str x.name, .int .i64 x.s.num, .int .i64 x.s.den, .int .i64 x.t.num, .int .i64 x.t.den], d.ok) (_ : ∀ d ∈ [D.str s.name, .int .i64 s.ra, .int .i64 s.dec], d.ok) (_ : IntKind.i64.has t) (_ : ∀ d ∈ [D.int .i64 lim.num, .int .i64 lim.den], d.ok) (_ : ∀ d ∈ [D.int .i64 low.num, .int .i64 low.den], d.ok) :
    m_W7_RiseOpposite g x s t lim low = ⟨true, true⟩ := by
  unfold m_W7_RiseOpposite
  simp only [m_fit g [x] s t lim (by simp [maxLen]), m_alive, m_stateP, m_limit, cond_true]
  cases hf : fit7 g [x] s t lim with
  | false => rfl
  | true =>
    cases hw : limB low with
    | false => rfl
    | true =>
      obtain ⟨h0, t1, t2⟩ := fit7_ok hf
      have F := fine h0
      have hs := F.ks
      have r0 := hs.ra0; have r1 := hs.ra1; have c0 := hs.dec0; have c1 := hs.dec1
      obtain ⟨o0, o1, _⟩ := oppRa_spec r0 r1
      have e1 : w64 (t + 720) = t + 720 := w64_id (by omega)
      have e2 : (w64 (s.ra + 360)).tmod 720 = oppRa s.ra := by rw [w64_id (by omega)]; rfl
      have e3 : w64 (0 - s.dec) = -s.dec := by rw [w64_id (by omega)]; omega
      have hs' : SrcOk ⟨s.name, oppRa s.ra, -s.dec⟩ := ⟨o0, o1, by simp only; omega, by simp only; omega, hs.name⟩
      have l1 : lookE g [x] s low = 0 := look_src h0 F.cs hw
      have l2 : lookE g [x] ⟨s.name, oppRa s.ra, -s.dec⟩ low = 0 := look_src h0 (checkSrc_iff.2 hs') hw
      have hp := F.place (x := x) (by simp)
      have hv := (F.view (x := x) (by simp)).2
      rw [e1, e2, e3, state_in h0 (t := t) (by omega), state_in h0 (t := t + 720) (by omega), state_in l1 (t := t) (by omega), state_in l2 (t := t) (by omega)]
      rw [show t + 720 = t + 720 * 1 by omega, dirS_year]
      simp only
      rw [dirS_opp r0 r1]
      simp only [Bool.not_true, cond_false, bne_self_eq_false]
      have hd := dirS_unit s.ra s.dec t
      generalize dirS s.ra s.dec t = d at *
      by_cases c : stateV (viewV g (placeV g x.s x.t) lim) d = 1
      · rw [c, state_opp (w := viewV g (placeV g x.s x.t) low) hv rfl hd c]
        have hL := F.kl; have hW := limB_ok hw
        have a1 := hL.ok.denlo; have a2 := hL.ok.denhi; have b1 := hW.ok.denlo; have b2 := hW.ok.denhi
        have el : lessN ⟨lim.num, lim.den⟩ ⟨low.num, low.den⟩ = decide (lim.num * low.den < low.num * lim.den) := lessN_ok (a := lim) (b := low) (by omega) (by omega) (by omega) (by omega)
        rw [el]
        by_cases k : lim.num * low.den < low.num * lim.den
        · rw [dec_t k]
          cases hx : (stateV (viewV g (placeV g x.s x.t) low) d != -1) <;> rfl
        · rw [dec_f k, state_low (v := viewV g (placeV g x.s x.t) lim) (w := viewV g (placeV g x.s x.t) low) rfl (bound_mono hp hL hW (by omega)) c]
          rfl
      · rw [show (stateV (viewV g (placeV g x.s x.t) lim) d == 1) = false from beq_eq_false_iff_ne.2 c, show (stateV (viewV g (placeV g x.s x.t) lim) d != 1) = true by rw [bne, beq_eq_false_iff_ne.2 c]; rfl]
        rfl
end Go.Ev

