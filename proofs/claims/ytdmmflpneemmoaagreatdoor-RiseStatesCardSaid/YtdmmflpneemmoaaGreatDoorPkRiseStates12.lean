/-
  All windows, by the program and by the reference. No condition.
  The reference's windows; comparing windows. No condition.
  Plain functions that mirror functions of the program, and that it computes them. No condition beyond those of the statements.
  The laws RiseAll and RiseStates. No condition.
  What a listed variable that is a fraction reads as: its two cells. No condition.
-/
import Derived.Test.YtdmmflpneemmoaaGreatDoorPkRiseStates11
import Derived.ChangeSame
import Derived.ChangeArms
import Derived.FnData
import Derived.MakeChecks
import GoSem.ClaimJoined
namespace Go.Ev

open Go

theorem run_places (g : Globe) (l : List Site) (m : List Site) (hl : l.length ≤ 8) : ∀ (f n : Nat) (acc : List Vec), n ≤ l.length → l.length - n < f → acc.length = l.length →
    (run_array_Places_0 (l.length : Int) m (placedL g l) f (n : Int) acc).k = 0 ∧ (run_array_Places_0 (l.length : Int) m (placedL g l) f (n : Int) acc).m1 = acc.take n ++ (placesL g l).drop n := by
  intro f
  induction f with
  | zero => intro n acc _ h; omega
  | succ f ih =>
    intro n acc hn h ha
    rw [run_array_Places_0]
    by_cases h1 : n < l.length
    · simp only [nn_t, lt_t h1, lt_t (show n < (placedL g l).length by rw [placedL_len]; exact h1), lt_t (show n < acc.length by omega), Bool.and_self, cond_true, w64_up (show n < 9223372036854775807 by omega), Int.toNat_natCast]
      have := ih (n + 1) (acc.set n ((placedL g l).getD n (ET.z .placed)).at_) (by omega) (by omega) (by simp [ha])
      rw [take_set (by omega)] at this
      rw [drop_at (ET.z .vec) (show n < (placesL g l).length by rw [placesL_len]; exact h1), placesL_at g h1]
      refine ⟨this.1, this.2.trans ?_⟩
      rw [placedL_at g h1, List.append_assoc]
      rfl
    · simp only [lt_f h1, cond_false]
      rw [drop_all (show ¬ n < (placesL g l).length by rw [placesL_len]; exact h1), List.append_nil, List.take_of_length_le (by omega)]
      exact ⟨trivial, rfl⟩

theorem check_parts {g : Globe} {l : List Site} (h : checkA g l = 0) : checkG g = 0 ∧ stationsE l = 0 := by
  unfold checkA at h
  cases h3 : (checkG g != 0) with
  | true => rw [h3, cond_true] at h; rw [h] at h3; cases h3
  | false =>
    rw [h3, cond_false] at h
    cases h5 : (stationsE l != 0) with
    | true => rw [h5, cond_true] at h; rw [h] at h5; cases h5
    | false => exact ⟨eq0_of h3, eq0_of h5⟩

theorem m_placesA (g : Globe) (l : List Site) : m_array_Places g l = ⟨true, bif checkA g l == 0 then placesL g l else [], checkA g l⟩ := by
  unfold m_array_Places
  simp only [m_place, cond_true]
  cases h1 : (checkA g l != 0) with
  | true =>
    rw [show (checkA g l == 0) = false by simpa [bne] using h1]
    rfl
  | false =>
    have h0 := eq0_of h1
    have hl := (stations_ok (check_parts h0).2).1
    rw [h0]
    have e0 : (decide (0 ≤ (l.length : Int)) && (decide ((l.length : Int) ≤ 1048576) && (Nat.blt 0 6 && Nat.ble 48 4096))) = true := by
      rw [nn_t, dec_t (show (l.length : Int) ≤ 1048576 by omega)]; rfl
    obtain ⟨k1, k2⟩ := run_places g l l hl (2000 + (l.length + (List.replicate l.length (⟨⟨(0 : Int), (0 : Int)⟩, ⟨(0 : Int), (0 : Int)⟩, ⟨(0 : Int), (0 : Int)⟩⟩ : Vec)).length + (placedL g l).length)) 0 (List.replicate l.length (⟨⟨(0 : Int), (0 : Int)⟩, ⟨(0 : Int), (0 : Int)⟩, ⟨(0 : Int), (0 : Int)⟩⟩ : Vec)) (by omega) (by omega) (by simp)
    rw [show ((0 : Nat) : Int) = 0 from rfl] at k1 k2
    rw [List.take_zero, List.nil_append, List.drop_zero] at k2
    rw [placedL_len] at k1 k2
    unfold lp_array_Places_0
    simp only [beq_self_eq_true, cond_true, cond_false, placedL_len, decide_true, Bool.true_and, e0, Int.toNat_natCast, k1, k2, show Nat.beq 0 0 = true from rfl]

def limB (f : Frac) : Bool := fracOkB f && (decide (0 ≤ f.num) && (decide (f.num ≤ f.den) && decide (f.den ≤ 1000)))

theorem limB_ok {f : Frac} (h : limB f = true) : LimOk f := by
  unfold limB at h
  simp only [Bool.and_eq_true, decide_eq_true_eq, fracOkB_iff] at h
  exact ⟨h.1, h.2.1, h.2.2.1, h.2.2.2⟩

def lookE (g : Globe) (l : List Site) (s : Source) (lim : Frac) : Int := bif checkA g l != 0 then checkA g l else bif checkSrc s != 0 then checkSrc s else bif limB lim then 0 else 8

theorem m_look (g : Globe) (l : List Site) (s : Source) (lim : Frac) : m_rise_look g l s lim = ⟨true, bif lookE g l s lim == 0 then placesL g l else [], lookE g l s lim⟩ := by
  unfold m_rise_look lookE
  simp only [m_placesA, cond_true]
  cases h1 : (checkA g l != 0) with
  | true => simp only [cond_true]; rw [show (checkA g l == 0) = false by simpa [bne] using h1]; rfl
  | false =>
    rw [eq0_of h1]
    simp only [cond_false, beq_self_eq_true, cond_true]
    cases h2 : (checkSrc s != 0) with
    | true =>
      simp only [cond_true]
      rw [show (checkSrc s == 0) = false by simpa [bne] using h2]
      rfl
    | false =>
      simp only [cond_false]
      unfold limB
      rw [show (checkF ⟨lim.num, lim.den⟩ != 0) = !fracOkB lim by rw [bne, show (checkF ⟨lim.num, lim.den⟩ == 0) = fracOkB lim from check_ok lim], dlt lim.num, dlt lim.den, dlt 1000]
      cases fracOkB lim <;> cases decide (0 ≤ lim.num) <;> cases decide (lim.num ≤ lim.den) <;> cases decide (lim.den ≤ 1000) <;> rfl

theorem m_both (g : Globe) (l : List Site) (s : Source) : m_Q7_Both g l s = ⟨true, bif checkA g l != 0 then checkA g l else checkSrc s⟩ := by
  unfold m_Q7_Both
  simp only [m_checkRA, cond_true]
  cases checkA g l != 0 <;> rfl

theorem m_limit (lim : Frac) : m_Q7_Limit lim = ⟨true, limB lim⟩ := by
  unfold m_Q7_Limit limB
  rw [show (checkF ⟨lim.num, lim.den⟩ == 0) = fracOkB lim from check_ok lim]
  cases fracOkB lim <;> cases decide (0 ≤ lim.num) <;> cases decide (lim.num ≤ lim.den) <;> cases decide (lim.den ≤ 1000) <;> rfl

structure Fine (g : Globe) (l : List Site) (s : Source) (lim : Frac) : Prop where
  kg : GlobeOk g
  n : l.length ≤ 8
  v : ∀ x ∈ l, siteB x = true
  ks : SrcOk s
  kl : LimOk lim
  c : checkA g l = 0
  cs : checkSrc s = 0
  cl : limB lim = true

theorem fine {g : Globe} {l : List Site} {s : Source} {lim : Frac} (h : lookE g l s lim = 0) : Fine g l s lim := by
  unfold lookE at h
  cases h1 : (checkA g l != 0) with
  | true => rw [h1, cond_true] at h; rw [h] at h1; cases h1
  | false =>
    rw [h1, cond_false] at h
    cases h2 : (checkSrc s != 0) with
    | true => rw [h2, cond_true] at h; rw [h] at h2; cases h2
    | false =>
      rw [h2, cond_false] at h
      cases h3 : limB lim with
      | false => rw [h3] at h; cases h
      | true =>
        have c := eq0_of h1; have cs := eq0_of h2
        obtain ⟨k1, k2⟩ := check_parts c
        obtain ⟨k3, k4⟩ := stations_ok k2
        refine ⟨?_, k3, k4, checkSrc_iff.1 cs, limB_ok h3, c, cs, h3⟩
        unfold checkG at k1
        cases hg : globeOkB g with
        | false => rw [hg] at k1; cases k1
        | true => exact globeOkB_iff.1 hg

def viewsL (g : Globe) (l : List Site) (lim : Frac) : List View := l.map fun x => viewV g (placeV g x.s x.t) lim

theorem viewsL_len (g : Globe) (l : List Site) (lim : Frac) : (viewsL g l lim).length = l.length := List.length_map _

theorem viewsL_at (g : Globe) {l : List Site} (lim : Frac) {n : Nat} (h : n < l.length) : (viewsL g l lim).getD n (ET.z .view) = viewV g (placeV g (sAt l n).s (sAt l n).t) lim := by
  unfold viewsL
  rw [List.getD_eq_getElem?_getD, List.getElem?_map, List.getElem?_eq_getElem h, sAt, List.getD_eq_getElem?_getD, List.getElem?_eq_getElem h]
  rfl

theorem Fine.place {g : Globe} {l : List Site} {s : Source} {lim : Frac} (h : Fine g l s lim) {x : Site} (hx : x ∈ l) : PlaceQ g x.s x.t (placeV g x.s x.t) := (given_place (check_parts h.c).1 (site_placed (h.v x hx))).2

theorem Fine.view {g : Globe} {l : List Site} {s : Source} {lim : Frac} (h : Fine g l s lim) {x : Site} (hx : x ∈ l) : m_rise_viewOf g (placeV g x.s x.t) lim = ⟨true, viewV g (placeV g x.s x.t) lim, 0⟩ ∧ VOk (viewV g (placeV g x.s x.t) lim) := m_viewOf (h.place hx) h.kl

theorem Fine.views {g : Globe} {l : List Site} {s : Source} {lim : Frac} (h : Fine g l s lim) : ∀ v ∈ viewsL g l lim, VOk v := by
  intro v hv
  obtain ⟨x, hx, rfl⟩ := List.mem_map.1 hv
  exact (h.view hx).2

theorem run_views {g : Globe} {l : List Site} {s : Source} {lim : Frac} (h : Fine g l s lim) (a b c : Int) (m : List Site) (w : List Window) (r : Source) : ∀ (f n : Nat) (acc : List View), n ≤ l.length → l.length - n < f → acc.length = l.length →
    (run_rise_All_0 a b c (l.length : Int) m g r lim w (placesL g l) f (n : Int) acc).k = 1 ∧ (run_rise_All_0 a b c (l.length : Int) m g r lim w (placesL g l) f (n : Int) acc).m5 = acc.take n ++ (viewsL g l lim).drop n := by
  intro f
  induction f with
  | zero => intro n acc _ h; omega
  | succ f ih =>
    intro n acc hn hf ha
    rw [run_rise_All_0]
    have hl := h.n
    by_cases h1 : n < l.length
    · have hv := (h.view (sAt_mem h1)).1
      simp only [nn_t, lt_t h1, lt_t (show n < (placesL g l).length by rw [placesL_len]; exact h1), lt_t (show n < acc.length by omega), Bool.and_self, cond_true, w64_up (show n < 9223372036854775807 by omega), Int.toNat_natCast, placesL_at g h1, hv, bne_self_eq_false, cond_false]
      have := ih (n + 1) (acc.set n (viewV g (placeV g (sAt l n).s (sAt l n).t) lim)) (by omega) (by omega) (by simp [ha])
      rw [take_set (by omega)] at this
      rw [drop_at (ET.z .view) (show n < (viewsL g l lim).length by rw [viewsL_len]; exact h1), viewsL_at g lim h1]
      refine ⟨this.1, this.2.trans ?_⟩
      rw [List.append_assoc]
      rfl
    · simp only [lt_f h1, cond_false]
      rw [drop_all (show ¬ n < (viewsL g l lim).length by rw [viewsL_len]; exact h1), List.append_nil, List.take_of_length_le (by omega)]
      exact ⟨trivial, rfl⟩

def upN (g : Globe) (l : List Site) (s : Source) (fr : Int) (lim : Frac) (k : Nat) : Bool := upAll (viewsL g l lim) (dirS s.ra s.dec (fr + k))

theorem w64_last {n : Nat} (h : n < 1000) : w64 ((n : Int) - 1) = (n : Int) - 1 := w64_id (by omega)

theorem step_eq (up : Nat → Bool) (fr : Int) (n : Nat) (hu : up n = true) :
    (0 < (winsF up fr n).length ∧ ((winsF up fr n).getD ((winsF up fr n).length - 1) (ET.z .win)).too = fr + n ∧ (winsF up fr n).set ((winsF up fr n).length - 1) ⟨((winsF up fr n).getD ((winsF up fr n).length - 1) (ET.z .win)).frm, fr + n + 1⟩ = winsF up fr (n + 1)) ∨
    (winsF up fr n ++ [(⟨fr + n, fr + n + 1⟩ : Window)] = winsF up fr (n + 1) ∧ (0 < (winsF up fr n).length → ((winsF up fr n).getD ((winsF up fr n).length - 1) (ET.z .win)).too ≠ fr + n)) := by
  have e : winsF up fr (n + 1) = (stepR (fr + n) true (winsR up fr n)).reverse := by unfold winsF; rw [winsR, hu]
  rw [e]
  unfold winsF
  cases h : endsAt (winsR up fr n) (fr + n) with
  | true =>
    obtain ⟨_, h1, h2, h3⟩ := step_last h
    exact .inl ⟨h1, h2, h3⟩
  | false =>
    refine .inr ⟨step_new h, fun h1 => ?_⟩
    have := last_ends (R := winsR up fr n) (t := fr + n) (by simpa using h1)
    rw [h] at this
    exact beq_eq_false_iff_ne.1 this

theorem wins_skip {up : Nat → Bool} {fr : Int} {n : Nat} (hu : up n = false) : winsF up fr (n + 1) = winsF up fr n := by
  unfold winsF
  rw [winsR, hu]
  rfl

theorem ble_room {n : Nat} (h : n < 1000) : (Nat.blt 0 2 && ((2 == 2) && ((2 == 2) && (Nat.ble (n + 1) roomD && Nat.ble 16 4096)))) = true := by
  rw [room_le (show n + 1 ≤ 1048576 by omega)]; rfl

theorem run_wins {g : Globe} {l : List Site} {s : Source} {lim : Frac} (h : Fine g l s lim) {fr to : Int} (hf : -1000000 ≤ fr) (ht : to ≤ 1000000) (hd : to - fr ≤ 720) (a : Int) (m : List Site) (w : List Window) : ∀ (f n : Nat), fr + n ≤ to → to - fr - n < f →
    (run_rise_All_1 to a m s w (viewsL g l lim) f (fr + n) (winsF (upN g l s fr lim) fr n)).k = 1 ∧ (run_rise_All_1 to a m s w (viewsL g l lim) f (fr + n) (winsF (upN g l s fr lim) fr n)).m4 = winsF (upN g l s fr lim) fr (to - fr).toNat := by
  intro f
  induction f with
  | zero => intro n _ h; omega
  | succ f ih =>
    intro n hn hk
    rw [run_rise_All_1]
    by_cases h1 : fr + n < to
    · have hl := winsF_len (upN g l s fr lim) fr n
      have hu := m_upForAll (viewsL g l lim) h.views (by rw [viewsL_len]; exact h.n) h.ks (t := fr + n) (by omega)
      have e1 : w64 (fr + n + 1) = fr + ((n + 1 : Nat) : Int) := by rw [w64_id (by omega)]; omega
      have e2 : (fr : Int) + ((n + 1 : Nat) : Int) = fr + n + 1 := by omega
      have ih' := ih (n + 1) (by omega) (by omega)
      rw [dec_t h1, hu]
      simp only [cond_true, bne_self_eq_false, cond_false]
      change (bif !upN g l s fr lim n then _ else _ : R_rise_All_1).k = 1 ∧ (bif !upN g l s fr lim n then _ else _ : R_rise_All_1).m4 = _
      cases hb : upN g l s fr lim n with
      | false =>
        simp only [Bool.not_false, cond_true]
        rw [wins_skip hb] at ih'
        rw [e1]
        exact ih'
      | true =>
        simp only [Bool.not_true, cond_false]
        rw [w64_last (show (winsF (upN g l s fr lim) fr n).length < 1000 by omega), e1]
        rcases step_eq (upN g l s fr lim) fr n hb with ⟨q1, q2, q3⟩ | ⟨q1, q2⟩
        · have e3 : (((winsF (upN g l s fr lim) fr n).length : Int) - 1).toNat = (winsF (upN g l s fr lim) fr n).length - 1 := by omega
          rw [dec_t (show (0 : Int) ≤ ((winsF (upN g l s fr lim) fr n).length : Int) - 1 by omega), dec_t (show ((winsF (upN g l s fr lim) fr n).length : Int) - 1 < ((winsF (upN g l s fr lim) fr n).length : Int) by omega), e3, q2]
          simp only [Bool.and_self, cond_true, beq_self_eq_true]
          rw [w64_id (n := fr + n + 1) (by omega), q3]
          exact ih'
        · have e4 : (winsF (upN g l s fr lim) fr n ++ [(⟨fr + n, fr + ((n + 1 : Nat) : Int)⟩ : Window)]) = winsF (upN g l s fr lim) fr (n + 1) := by rw [e2]; exact q1
          by_cases c : 0 < (winsF (upN g l s fr lim) fr n).length
          · have e3 : (((winsF (upN g l s fr lim) fr n).length : Int) - 1).toNat = (winsF (upN g l s fr lim) fr n).length - 1 := by omega
            rw [dec_t (show (0 : Int) ≤ ((winsF (upN g l s fr lim) fr n).length : Int) - 1 by omega), dec_t (show ((winsF (upN g l s fr lim) fr n).length : Int) - 1 < ((winsF (upN g l s fr lim) fr n).length : Int) by omega), e3]
            rw [show (((winsF (upN g l s fr lim) fr n).getD ((winsF (upN g l s fr lim) fr n).length - 1) (ET.z .win)).too == fr + n) = false from beq_eq_false_iff_ne.2 (q2 c)]
            simp only [Bool.and_self, cond_true, cond_false, List.length_singleton]
            rw [ble_room (show (winsF (upN g l s fr lim) fr n).length < 1000 by omega), e4]
            exact ih'
          · rw [dec_f (show ¬ (0 : Int) ≤ ((winsF (upN g l s fr lim) fr n).length : Int) - 1 by omega)]
            simp only [cond_false, List.length_singleton]
            rw [ble_room (show (winsF (upN g l s fr lim) fr n).length < 1000 by omega), e4]
            exact ih'
    · have : (to - fr).toNat = n := by omega
      rw [dec_f h1, this]
      exact ⟨rfl, rfl⟩

def allE (g : Globe) (l : List Site) (s : Source) (fr to : Int) (lim : Frac) : List Window × Int :=
  bif lookE g l s lim != 0 then ([], lookE g l s lim) else bif !tickB fr then ([], 2) else bif !tickB to then ([], 2) else bif decide (to < fr) then ([], 2) else bif decide (720 < to - fr) then ([], 4) else (winsF (upN g l s fr lim) fr (to - fr).toNat, 0)

theorem m_tick (t : Int) : m_rise_tick t = ⟨true, tickB t⟩ := by
  unfold m_rise_tick tickB
  rw [show decide (-1000000 ≤ t) = decide (t ≥ -1000000) from rfl]
  cases decide (t ≥ -1000000) <;> rfl

theorem tick_iff {t : Int} : tickB t = true ↔ -1000000 ≤ t ∧ t ≤ 1000000 := by
  unfold tickB
  by_cases h : t ≥ -1000000
  · rw [dec_t h]; simp; omega
  · rw [dec_f h]; simp; omega

theorem m_allW (g : Globe) (l : List Site) (s : Source) (fr to : Int) (lim : Frac) : m_rise_All g l s fr to lim = ⟨true, (allE g l s fr to lim).1, (allE g l s fr to lim).2⟩ := by
  unfold m_rise_All allE
  simp only [m_look, m_tick, cond_true]
  cases h1 : (lookE g l s lim != 0) with
  | true => rfl
  | false =>
    have h := fine (eq0_of h1)
    have hl := h.n
    rw [eq0_of h1]
    simp only [cond_false, beq_self_eq_true, cond_true]
    cases h2 : tickB fr with
    | false => rfl
    | true =>
      cases h3 : tickB to with
      | false => rfl
      | true =>
        have t1 := tick_iff.1 h2; have t2 := tick_iff.1 h3
        simp only [Bool.not_true, cond_false]
        by_cases h4 : to < fr
        · rw [dec_t h4]; rfl
        · rw [dec_f h4, w64_id (n := to - fr) (by omega)]
          simp only [cond_false]
          by_cases h5 : 720 < to - fr
          · rw [dec_t h5]; rfl
          · rw [dec_f h5]
            have e0 : (decide (0 ≤ (l.length : Int)) && (decide ((l.length : Int) ≤ 1048576) && (Nat.blt 0 8 && Nat.ble 64 4096))) = true := by
              rw [nn_t, dec_t (show (l.length : Int) ≤ 1048576 by omega)]; rfl
            obtain ⟨k1, k2⟩ := run_views h fr to 0 l [] s (2000 + (l.length + ([] : List Window).length + (List.replicate l.length (⟨⟨⟨(0 : Int), (0 : Int)⟩, ⟨(0 : Int), (0 : Int)⟩, ⟨(0 : Int), (0 : Int)⟩⟩, ⟨(0 : Int), (0 : Int)⟩⟩ : View)).length + (placesL g l).length)) 0 (List.replicate l.length (⟨⟨⟨(0 : Int), (0 : Int)⟩, ⟨(0 : Int), (0 : Int)⟩, ⟨(0 : Int), (0 : Int)⟩⟩, ⟨(0 : Int), (0 : Int)⟩⟩ : View)) (by omega) (by omega) (by simp)
            rw [show ((0 : Nat) : Int) = 0 from rfl] at k1 k2
            rw [List.take_zero, List.nil_append, List.drop_zero] at k2
            rw [placesL_len] at k1 k2
            obtain ⟨j1, j2⟩ := run_wins h t1.1 t2.2 (by omega) 0 l [] (2000 + (l.length + ([] : List Window).length + (viewsL g l lim).length + ([] : List Window).length)) 0 (by omega) (by omega)
            rw [show fr + ((0 : Nat) : Int) = fr by omega, show winsF (upN g l s fr lim) fr 0 = [] from rfl] at j1 j2
            unfold lp_rise_All_0 lp_rise_All_1
            simp only [cond_false, beq_self_eq_true, placesL_len, decide_true, Bool.true_and, e0, Int.toNat_natCast, cond_true, k1, k2, j1, j2, show Nat.beq 1 0 = false from rfl, show Nat.beq 1 1 = true from rfl]

end Go.Ev

namespace Go.Ev

open Go

abbrev bAt (l : List Bool) (n : Nat) : Bool := l.getD n (ET.z .bool)

theorem bAt_set {l : List Bool} {n k : Nat} {b : Bool} (h : n < l.length) : bAt (l.set n b) k = bif Nat.beq k n then b else bAt l k := by
  unfold bAt
  rw [List.getD_eq_getElem?_getD, List.getD_eq_getElem?_getD, List.getElem?_set]
  by_cases c : n = k
  · subst c
    rw [if_pos rfl, if_pos h, Nat.beq_refl]
    rfl
  · rw [if_neg c, show Nat.beq k n = false from Bool.eq_false_iff.2 fun e => c (Nat.eq_of_beq_eq_true e).symm]
    rfl

theorem run_true (a : Int) (m : List Site) (g : Globe) (s : Source) (lim : Frac) (N : Nat) (hN : N ≤ 720) : ∀ (f n : Nat) (acc : List Bool), acc.length = N → n ≤ N → N - n < f → (∀ k, k < n → bAt acc k = true) →
    (run_Q7_All_0 a m g s lim f (n : Int) acc).k = 0 ∧ (run_Q7_All_0 a m g s lim f (n : Int) acc).m4.length = N ∧ ∀ k, k < N → bAt (run_Q7_All_0 a m g s lim f (n : Int) acc).m4 k = true := by
  intro f
  induction f with
  | zero => intro n acc _ _ h; omega
  | succ f ih =>
    intro n acc ha hn hk hacc
    rw [run_Q7_All_0]
    by_cases h1 : n < acc.length
    · simp only [nn_t, lt_t h1, Bool.and_self, cond_true, w64_up (show n < 9223372036854775807 by omega), Int.toNat_natCast]
      refine ih (n + 1) (acc.set n true) (by simp [ha]) (by omega) (by omega) fun k hkn => ?_
      rw [bAt_set h1]
      cases hb : Nat.beq k n with
      | true => rfl
      | false =>
        have : k ≠ n := fun e => by rw [e, Nat.beq_refl] at hb; cases hb
        exact hacc k (by omega)
    · simp only [lt_f h1, cond_false]
      exact ⟨trivial, ha, fun k hk2 => hacc k (by omega)⟩

theorem run_one {v : View} {s : Source} {fr : Int} (hf : -1000000 ≤ fr) (b : Int) (m : List Site) (g : Globe) (lim : Frac) (N : Nat) (hN : N ≤ 720) (hf2 : fr + N ≤ 1000000) : ∀ (f n : Nat) (acc : List Bool), acc.length = N → n ≤ N → N - n < f →
    (run_Q7_All_2 fr b m g s lim v.up v.bound f (n : Int) acc).k = 0 ∧ (run_Q7_All_2 fr b m g s lim v.up v.bound f (n : Int) acc).m4.length = N ∧
    ∀ k, k < N → bAt (run_Q7_All_2 fr b m g s lim v.up v.bound f (n : Int) acc).m4 k = (bAt acc k && (decide (k < n) || stateV v (dirR s.ra s.dec (fr + k)) == 1)) := by
  intro f
  induction f with
  | zero => intro n acc _ _ h; omega
  | succ f ih =>
    intro n acc ha hn hk
    rw [run_Q7_All_2]
    by_cases h1 : n < acc.length
    · have e1 : w64 (fr + (n : Int)) = fr + n := w64_id (by omega)
      simp only [nn_t, lt_t h1, Bool.and_self, cond_true, w64_up (show n < 9223372036854775807 by omega), Int.toNat_natCast, e1, m_stateR]
      have key : ∀ x : Bool, x = (bAt acc n && (stateV v (dirR s.ra s.dec (fr + n)) == 1)) →
          (run_Q7_All_2 fr b m g s lim v.up v.bound f ((n + 1 : Nat) : Int) (acc.set n x)).k = 0 ∧ (run_Q7_All_2 fr b m g s lim v.up v.bound f ((n + 1 : Nat) : Int) (acc.set n x)).m4.length = N ∧
          ∀ k, k < N → bAt (run_Q7_All_2 fr b m g s lim v.up v.bound f ((n + 1 : Nat) : Int) (acc.set n x)).m4 k = (bAt acc k && (decide (k < n) || stateV v (dirR s.ra s.dec (fr + k)) == 1)) := by
        intro x hx
        obtain ⟨i1, i2, i3⟩ := ih (n + 1) (acc.set n x) (by simp [ha]) (by omega) (by omega)
        refine ⟨i1, i2, fun k hkN => ?_⟩
        rw [i3 k hkN, bAt_set h1]
        cases hb : Nat.beq k n with
        | true =>
          have : k = n := Nat.eq_of_beq_eq_true hb
          subst this
          rw [dec_t (show k < k + 1 by omega), dec_f (show ¬ k < k by omega), cond_true, hx]
          simp
        | false =>
          have : k ≠ n := fun e => by rw [e, Nat.beq_refl] at hb; cases hb
          simp only [cond_false]
          by_cases c : k < n
          · rw [dec_t c, dec_t (show k < n + 1 by omega)]
          · rw [dec_f c, dec_f (show ¬ k < n + 1 by omega)]
      cases hb : bAt acc n with
      | true =>
        have hb' : acc.getD n (ET.z .bool) = true := hb
        rw [hb']
        simp only [cond_true]
        exact key _ (by rw [hb, Bool.true_and])
      | false =>
        have hb' : acc.getD n (ET.z .bool) = false := hb
        rw [hb']
        simp only [cond_false]
        exact key _ (by rw [hb, Bool.false_and])
    · simp only [lt_f h1, cond_false]
      refine ⟨trivial, ha, fun k hkN => ?_⟩
      rw [dec_t (show k < n by omega)]
      simp

theorem run_each {g : Globe} {l : List Site} {s : Source} {lim : Frac} (h : Fine g l s lim) {fr : Int} (hf : -1000000 ≤ fr) (N : Nat) (hN : N ≤ 720) (hf2 : fr + N ≤ 1000000) : ∀ (f n : Nat) (acc : List Bool), acc.length = N → n ≤ l.length → l.length - n < f →
    (run_Q7_All_1 fr l g s lim f (n : Int) acc).k = 0 ∧ (run_Q7_All_1 fr l g s lim f (n : Int) acc).m4.length = N ∧
    ∀ k, k < N → bAt (run_Q7_All_1 fr l g s lim f (n : Int) acc).m4 k = (bAt acc k && upAll ((viewsL g l lim).drop n) (dirS s.ra s.dec (fr + k))) := by
  intro f
  induction f with
  | zero => intro n acc _ _ h; omega
  | succ f ih =>
    intro n acc ha hn hk
    have hl := h.n
    rw [run_Q7_All_1]
    by_cases h1 : n < l.length
    · have hu := m_uprightR h.kg (h.v _ (sAt_mem h1)) lim
      obtain ⟨o1, o2, o3⟩ := run_one (v := viewV g (placeV g (sAt l n).s (sAt l n).t) lim) (s := s) hf (n : Int) l g lim N hN hf2 (2000 + (l.length + acc.length)) 0 acc ha (by omega) (by omega)
      rw [show ((0 : Nat) : Int) = 0 from rfl] at o1 o2 o3
      unfold lp_Q7_All_2
      simp only [nn_t, lt_t h1, Bool.and_self, cond_true, w64_up (show n < 9223372036854775807 by omega), Int.toNat_natCast, hu, o1, show Nat.beq 0 0 = true from rfl]
      obtain ⟨i1, i2, i3⟩ := ih (n + 1) _ o2 (by omega) (by omega)
      refine ⟨i1, i2, fun k hkN => ?_⟩
      rw [i3 k hkN, o3 k hkN, drop_at (ET.z .view) (show n < (viewsL g l lim).length by rw [viewsL_len]; exact h1), viewsL_at g lim h1, dec_f (show ¬ k < 0 by omega), dirR_eq h.ks (tick := fr + k) (by omega)]
      unfold upAll
      rw [List.all_cons, Bool.false_or, Bool.and_assoc]
    · simp only [lt_f h1, cond_false]
      refine ⟨trivial, ha, fun k hkN => ?_⟩
      rw [drop_all (show ¬ n < (viewsL g l lim).length by rw [viewsL_len]; exact h1)]
      simp [upAll]

theorem wins_congr {up up' : Nat → Bool} {fr : Int} : ∀ {n : Nat}, (∀ k, k < n → up k = up' k) → winsR up fr n = winsR up' fr n
  | 0, _ => rfl
  | n + 1, h => by rw [winsR, winsR, h n (by omega), wins_congr fun k hk => h k (by omega)]

theorem winsF_congr {up up' : Nat → Bool} {fr : Int} {n : Nat} (h : ∀ k, k < n → up k = up' k) : winsF up fr n = winsF up' fr n := by unfold winsF; rw [wins_congr h]

theorem ends_eq (up : Nat → Bool) (fr : Int) (n : Nat) : endsAt (winsR up fr n) (fr + n) = (decide (0 < n) && up (n - 1)) := (wins_inv up fr n).ends

theorem run_make {fr : Int} (hf : -1000000 ≤ fr) (m : List Site) (u : List Bool) (hN : u.length ≤ 720) (hf2 : fr + u.length ≤ 1000000) : ∀ (f n : Nat), n ≤ u.length → u.length - n < f →
    (run_Q7_All_3 fr m u f (n : Int) (winsF (bAt u) fr n)).k = 0 ∧ (run_Q7_All_3 fr m u f (n : Int) (winsF (bAt u) fr n)).m2 = winsF (bAt u) fr u.length := by
  intro f
  induction f with
  | zero => intro n _ h; omega
  | succ f ih =>
    intro n hn hk
    rw [run_Q7_All_3]
    by_cases h1 : n < u.length
    · have hl := winsF_len (bAt u) fr n
      have ih' := ih (n + 1) (by omega) (by omega)
      have e1 : w64 (fr + (n : Int)) = fr + n := w64_id (by omega)
      have e2 : w64 (fr + (n : Int) + 1) = fr + n + 1 := w64_id (by omega)
      simp only [nn_t, lt_t h1, Bool.and_self, cond_true, w64_up (show n < 9223372036854775807 by omega), Int.toNat_natCast, e1, e2]
      change (bif !bAt u n then _ else _ : R_Q7_All_3).k = 0 ∧ (bif !bAt u n then _ else _ : R_Q7_All_3).m2 = _
      cases hb : bAt u n with
      | false =>
        simp only [Bool.not_false, cond_true]
        rw [wins_skip hb] at ih'
        exact ih'
      | true =>
        simp only [Bool.not_true, cond_false]
        have he := ends_eq (bAt u) fr n
        have hlen : winsF (bAt u) fr n = (winsR (bAt u) fr n).reverse := rfl
        by_cases c0 : 0 < n
        · have e5 : w64 ((n : Int) - 1) = ((n - 1 : Nat) : Int) := by rw [w64_id (by omega)]; omega
          simp only [dec_t (show (0 : Int) < (n : Int) by omega), cond_true, e5, nn_t, lt_t (show n - 1 < u.length by omega), Bool.and_self, Int.toNat_natCast]
          change (bif bAt u (n - 1) then _ else _ : R_Q7_All_3).k = 0 ∧ (bif bAt u (n - 1) then _ else _ : R_Q7_All_3).m2 = _
          cases hb2 : bAt u (n - 1) with
          | true =>
            rw [dec_t c0, hb2] at he
            obtain ⟨_, q1, q2, q3⟩ := step_last he
            have e6 : winsF (bAt u) fr (n + 1) = (stepR (fr + n) true (winsR (bAt u) fr n)).reverse := by unfold winsF; rw [winsR, hb]
            rw [← e6] at q3
            rw [← hlen] at q1 q2 q3
            have e3 : (((winsF (bAt u) fr n).length : Int) - 1).toNat = (winsF (bAt u) fr n).length - 1 := by omega
            simp only [cond_true]
            rw [w64_last (show (winsF (bAt u) fr n).length < 1000 by omega), dec_t (show (0 : Int) ≤ ((winsF (bAt u) fr n).length : Int) - 1 by omega), dec_t (show ((winsF (bAt u) fr n).length : Int) - 1 < ((winsF (bAt u) fr n).length : Int) by omega), e3, q2, e2, q3]
            simp only [Bool.and_self, cond_true]
            exact ih'
          | false =>
            rw [dec_t c0, hb2] at he
            have q1 := step_new he
            have e6 : winsF (bAt u) fr (n + 1) = (stepR (fr + n) true (winsR (bAt u) fr n)).reverse := by unfold winsF; rw [winsR, hb]
            rw [← e6, ← hlen] at q1
            simp only [cond_false, List.length_singleton]
            rw [ble_room (show (winsF (bAt u) fr n).length < 1000 by omega), q1]
            exact ih'
        · rw [dec_f c0] at he
          have q1 := step_new he
          have e6 : winsF (bAt u) fr (n + 1) = (stepR (fr + n) true (winsR (bAt u) fr n)).reverse := by unfold winsF; rw [winsR, hb]
          rw [← e6, ← hlen] at q1
          simp only [dec_f (show ¬ (0 : Int) < (n : Int) by omega), cond_false, List.length_singleton]
          rw [ble_room (show (winsF (bAt u) fr n).length < 1000 by omega), q1]
          exact ih'
    · have : u.length = n := by omega
      simp only [lt_f h1, cond_false]
      rw [this]
      exact ⟨trivial, rfl⟩

theorem m_allR (g : Globe) (l : List Site) (s : Source) (fr to : Int) (lim : Frac) : m_Q7_All g l s fr to lim = ⟨true, (allE g l s fr to lim).1, (allE g l s fr to lim).2⟩ := by
  unfold m_Q7_All allE
  simp only [m_both, m_limit, cond_true]
  cases h1 : (lookE g l s lim != 0) with
  | true =>
    simp only [cond_true]
    unfold lookE at h1 ⊢
    cases h2 : (checkA g l != 0) with
    | true => simp only [cond_true]; rw [h2]; rfl
    | false =>
      rw [h2] at h1
      simp only [cond_false] at h1 ⊢
      cases h3 : (checkSrc s != 0) with
      | true => rfl
      | false =>
        rw [h3] at h1
        simp only [cond_false] at h1 ⊢
        cases h4 : limB lim with
        | true => rw [h4] at h1; cases h1
        | false => rfl
  | false =>
    have h := fine (eq0_of h1)
    have hl := h.n
    rw [h.c, h.cs, h.cl]
    simp only [bne_self_eq_false, cond_false, Bool.not_true]
    cases h2 : tickB fr with
    | false => rfl
    | true =>
      cases h3 : tickB to with
      | false => rfl
      | true =>
        have t1 := tick_iff.1 h2; have t2 := tick_iff.1 h3
        simp only [Bool.not_true, cond_false]
        by_cases h4 : to < fr
        · rw [dec_t h4]; rfl
        · rw [dec_f h4, w64_id (n := to - fr) (by omega)]
          simp only [cond_false]
          by_cases h5 : 720 < to - fr
          · rw [dec_t h5]; rfl
          · rw [dec_f h5]
            obtain ⟨N, hN⟩ := nat_of (show 0 ≤ to - fr by omega)
            rw [hN]
            have e0 : (decide (0 ≤ (N : Int)) && (decide ((N : Int) ≤ 1048576) && ((1 == 1) && (Nat.blt 0 1 && Nat.ble 1 4096)))) = true := by
              rw [nn_t, dec_t (show (N : Int) ≤ 1048576 by omega)]; rfl
            obtain ⟨a1, a2, a3⟩ := run_true fr l g s lim N (by omega) (2000 + (l.length + (List.replicate N (false : Bool)).length)) 0 (List.replicate N (false : Bool)) (by simp) (by omega) (by simp; omega) (fun k hk => by omega)
            rw [show ((0 : Nat) : Int) = 0 from rfl] at a1 a2 a3
            unfold lp_Q7_All_0 lp_Q7_All_1 lp_Q7_All_3
            simp only [cond_false, decide_true, Bool.true_and, e0, Int.toNat_natCast, cond_true, a1, show Nat.beq 0 0 = true from rfl]
            generalize hA : (run_Q7_All_0 fr l g s lim (2000 + (l.length + (List.replicate N (false : Bool)).length)) 0 (List.replicate N (false : Bool))).m4 = A at *
            obtain ⟨b1, b2, b3⟩ := run_each h t1.1 N (by omega) (by omega) (2000 + (l.length + A.length)) 0 A a2 (by omega) (by omega)
            rw [show ((0 : Nat) : Int) = 0 from rfl] at b1 b2 b3
            simp only [b1, show Nat.beq 0 0 = true from rfl, cond_true]
            generalize hB : (run_Q7_All_1 fr l g s lim (2000 + (l.length + A.length)) 0 A).m4 = B at *
            obtain ⟨c1, c2⟩ := run_make t1.1 l B (by omega) (by omega) (2000 + (l.length + B.length + ([] : List Window).length)) 0 (by omega) (by omega)
            rw [show ((0 : Nat) : Int) = 0 from rfl, show winsF (bAt B) fr 0 = [] from rfl] at c1 c2
            simp only [c1, c2, show Nat.beq 0 0 = true from rfl, cond_true]
            rw [b2, winsF_congr (up' := upN g l s fr lim) fun k hk => by rw [b3 k hk, a3 k hk, List.drop_zero, Bool.true_and]; rfl]

theorem eq_win (a b : Window) : eqAll [.int .i64 a.frm, .int .i64 a.too] [.int .i64 b.frm, .int .i64 b.too] = decide (a = b) := by
  obtain ⟨a1, a2⟩ := a
  obtain ⟨b1, b2⟩ := b
  rw [Bool.eq_iff_iff]
  simp [eqAll, D.eq]

theorem run_self (l : List Window) (p : Bool) (hl : l.length ≤ 1048576) : ∀ (f n : Nat), n ≤ l.length → l.length - n < f → (run_Q7_Same_0 p l l f (n : Int)).k = 1 := by
  intro f
  induction f with
  | zero => intro n _ h; omega
  | succ f ih =>
    intro n hn h
    rw [run_Q7_Same_0]
    by_cases h1 : n < l.length
    · simp only [nn_t, lt_t h1, Bool.and_self, cond_true, w64_up (show n < 9223372036854775807 by omega), Int.toNat_natCast]
      rw [eq_win, dec_t rfl]
      simp only [Bool.not_true, cond_false]
      exact ih (n + 1) (by omega) (by omega)
    · simp only [lt_f h1, cond_false]

theorem m_sameSelf (l : List Window) (hl : l.length ≤ 1048576) : m_Q7_Same l l = ⟨true, true⟩ := by
  unfold m_Q7_Same lp_Q7_Same_0
  have := run_self l false hl (2000 + (l.length + l.length)) 0 (by omega) (by omega)
  rw [show ((0 : Nat) : Int) = 0 from rfl] at this
  rw [this]
  simp only [bne_self_eq_false, cond_false]
  rfl

theorem all_len (g : Globe) (l : List Site) (s : Source) (fr to : Int) (lim : Frac) : (allE g l s fr to lim).1.length ≤ 720 := by
  unfold allE
  cases lookE g l s lim != 0 with
  | true => simp
  | false =>
    cases tickB fr with
    | false => simp
    | true =>
      cases tickB to with
      | false => simp
      | true =>
        by_cases h4 : to < fr
        · rw [dec_t h4]; simp
        · by_cases h5 : 720 < to - fr
          · rw [dec_f h4, dec_t h5]; simp
          · rw [dec_f h4, dec_f h5]
            simp only [cond_false, Bool.not_true]
            have := winsF_len (upN g l s fr lim) fr (to - fr).toNat
            omega

def stateE (g : Globe) (x : Site) (s : Source) (t : Int) (lim : Frac) : Int × Int :=
  bif lookE g [x] s lim != 0 then (0, lookE g [x] s lim) else bif !tickB t then (0, 2) else (stateV (viewV g (placeV g x.s x.t) lim) (dirS s.ra s.dec t), 0)

theorem at_tick {s : Source} (hs : SrcOk s) {t : Int} (h : tickB t = false) : atS s t = (dirZ, 2) := by
  unfold atS
  rw [checkSrc_iff.2 hs]
  unfold tickB at h
  by_cases h1 : t < -1000000
  · rw [decide_eq_true h1]; rfl
  · rw [decide_eq_false h1]
    rw [dec_t (show t ≥ -1000000 by omega)] at h
    simp only [cond_true, decide_eq_false_iff_not] at h
    rw [decide_eq_true (show 1000000 < t by omega)]
    rfl

theorem m_stateP (g : Globe) (x : Site) (s : Source) (t : Int) (lim : Frac) : m_rise_State g x s t lim = ⟨true, (stateE g x s t lim).1, (stateE g x s t lim).2⟩ := by
  unfold m_rise_State stateE
  simp only [m_look, cond_true]
  cases h1 : (lookE g [x] s lim != 0) with
  | true => rfl
  | false =>
    have h := fine (eq0_of h1)
    rw [eq0_of h1]
    simp only [cond_false, beq_self_eq_true, cond_true]
    cases h2 : tickB t with
    | false =>
      have e : atS ⟨s.name, s.ra, s.dec⟩ t = (dirZ, 2) := at_tick h.ks h2
      rw [e]
      rfl
    | true =>
      have e : atS ⟨s.name, s.ra, s.dec⟩ t = (dirS s.ra s.dec t, 0) := atS_ok h.ks (tick_iff.1 h2)
      obtain ⟨v1, v2⟩ := h.view (x := x) (by simp)
      rw [e]
      simp only [bne_self_eq_false, cond_false, Bool.not_true]
      have ep : (placesL g [x]).getD 0 (ET.z .vec) = placeV g x.s x.t := rfl
      rw [ep, v1, show ((placesL g [x]).length : Int) = 1 from rfl]
      simp only [cond_true, bne_self_eq_false, cond_false]
      rw [m_state v2 (dirS_unit s.ra s.dec t)]
      rfl

theorem m_statePR (g : Globe) (x : Site) (s : Source) (t : Int) (lim : Frac) : m_Q7_State g x s t lim = ⟨true, (stateE g x s t lim).1, (stateE g x s t lim).2⟩ := by
  unfold m_Q7_State stateE
  simp only [m_both, m_limit, cond_true]
  cases h1 : (lookE g [x] s lim != 0) with
  | true =>
    simp only [cond_true]
    unfold lookE at h1 ⊢
    cases h2 : (checkA g [x] != 0) with
    | true => simp only [cond_true]; rw [h2]; rfl
    | false =>
      rw [h2] at h1
      simp only [cond_false] at h1 ⊢
      cases h3 : (checkSrc s != 0) with
      | true => rfl
      | false =>
        rw [h3] at h1
        simp only [cond_false] at h1 ⊢
        cases h4 : limB lim with
        | true => rw [h4] at h1; cases h1
        | false => rfl
  | false =>
    have h := fine (eq0_of h1)
    rw [h.c, h.cs, h.cl]
    simp only [bne_self_eq_false, cond_false, Bool.not_true]
    cases h2 : tickB t with
    | false => rfl
    | true =>
      have hu := m_uprightR h.kg (h.v x (by simp)) lim
      rw [hu]
      simp only [Bool.not_true, cond_false, cond_true]
      rw [m_stateR, dirR_eq h.ks (tick_iff.1 h2)]
      rfl

end Go.Ev

namespace Go.Ev

open Go Go.Proofs

structure O_W7_RiseStates where
  ok : Bool
  r0 : Bool

def m_W7_RiseStates (a0 : Globe) (a1 : Site) (a2 : Source) (a3 : Int) (a4 : Int) (a5 : Frac) : O_W7_RiseStates := bif (m_W7_long ([a1] : List Site) a2).ok then (bif (m_W7_long ([a1] : List Site) a2).r0 then ⟨true, true⟩ else (bif (m_W7_wide a3 a4).ok then (bif (m_W7_wide a3 a4).r0 then ⟨true, true⟩ else (bif (m_rise_State a0 a1 a2 a3 a5).ok then (bif (m_Q7_State a0 a1 a2 a3 a5).ok then (bif (m_rise_Windows a0 a1 a2 a3 a4 a5).ok then (bif (m_Q7_Windows a0 a1 a2 a3 a4 a5).ok then (bif ((m_rise_State a0 a1 a2 a3 a5).r0 == (m_Q7_State a0 a1 a2 a3 a5).r0) then (bif ((m_rise_State a0 a1 a2 a3 a5).r1 == (m_Q7_State a0 a1 a2 a3 a5).r1) then (bif (m_Q7_Same ((m_rise_Windows a0 a1 a2 a3 a4 a5).r0) ((m_Q7_Windows a0 a1 a2 a3 a4 a5).r0)).ok then (bif (m_Q7_Same ((m_rise_Windows a0 a1 a2 a3 a4 a5).r0) ((m_Q7_Windows a0 a1 a2 a3 a4 a5).r0)).r0 then ⟨true, ((m_rise_Windows a0 a1 a2 a3 a4 a5).r1 == (m_Q7_Windows a0 a1 a2 a3 a4 a5).r1)⟩ else ⟨true, false⟩) else ⟨false, false⟩) else ⟨true, false⟩) else ⟨true, false⟩) else ⟨false, false⟩) else ⟨false, false⟩) else ⟨false, false⟩) else ⟨false, false⟩)) else ⟨false, false⟩)) else ⟨false, false⟩

def F_W7_RiseStates (a0 : Globe) (a1 : Site) (a2 : Source) (a3 : Int) (a4 : Int) (a5 : Frac) (K : AV → List Blk → Ans) (r : O_W7_RiseStates) : Ans := bif r.ok then K (.v (.c (.d (.bool r.r0)))) [] else none

set_option maxRecDepth 100000 in
theorem e_W7_RiseStates (a0 : Globe) (a1 : Site) (a2 : Source) (a3 : Int) (a4 : Int) (a5 : Frac) (K : AV → List Blk → Ans) : evFn Tryz.prog GT EQT T_Q7_Same XT noL 80 5 [.v (.agg [.int .i64 a0.a, .int .i64 a0.b]), .v (.agg [.str a1.name, .int .i64 a1.s.num, .int .i64 a1.s.den, .int .i64 a1.t.num, .int .i64 a1.t.den]), .v (.agg [.str a2.name, .int .i64 a2.ra, .int .i64 a2.dec]), .v (.c (.d (.int .i64 a3))), .v (.c (.d (.int .i64 a4))), .v (.agg [.int .i64 a5.num, .int .i64 a5.den])] [] (fun v M => K (finR 0 v M).1 (finR 0 v M).2) = F_W7_RiseStates a0 a1 a2 a3 a4 a5 K (m_W7_RiseStates a0 a1 a2 a3 a4 a5) := by
  unfold m_W7_RiseStates
  refine Eq.trans ?_ (Eq.symm (pushT (pushT rfl (pushT (pushT rfl (pushT (pushT (pushT (pushT (pushT (pushT (pushT (pushT rfl rfl) rfl) rfl) rfl) rfl) rfl) rfl) rfl)) rfl)) rfl))
  kernel_rfl

theorem c_W7_RiseStates (a0 : Globe) (a1 : Site) (a2 : Source) (a3 : Int) (a4 : Int) (a5 : Frac) (hd : (m_W7_RiseStates a0 a1 a2 a3 a4 a5).ok = true) : CallsA Tryz.prog GT gbT 5 [.v (.agg [.int .i64 a0.a, .int .i64 a0.b]), .v (.agg [.str a1.name, .int .i64 a1.s.num, .int .i64 a1.s.den, .int .i64 a1.t.num, .int .i64 a1.t.den]), .v (.agg [.str a2.name, .int .i64 a2.ra, .int .i64 a2.dec]), .v (.c (.d (.int .i64 a3))), .v (.c (.d (.int .i64 a4))), .v (.agg [.int .i64 a5.num, .int .i64 a5.den])] [] (.v (.c (.d (.bool ((m_W7_RiseStates a0 a1 a2 a3 a4 a5).r0))))) [] := by
  refine CallsA.ofEvR g_Q7_Same hEQT hmT (n0 := 0) rfl (fun _ _ _ _ => LOKn.nil) ((e_W7_RiseStates a0 a1 a2 a3 a4 a5 (fun v M => some (Res.fin v M))).trans ?_)
  unfold F_W7_RiseStates
  rw [hd]
  rfl

structure O_W7_RiseAll where
  ok : Bool
  r0 : Bool

end Go.Ev

namespace Go.Ev

open Go

theorem m_long (l : List Site) (s : Source) (hl : l.length ≤ maxLen) : m_W7_long l s = ⟨true, greatB l || decide (200 < s.name.size)⟩ := by
  unfold m_W7_long
  rw [m_great l hl]
  by_cases c : 200 < s.name.size
  · rw [dec_t c, dec_t (show (200 : Int) < (s.name.size : Int) by omega)]
    cases greatB l <;> rfl
  · rw [dec_f c, dec_f (show ¬ (200 : Int) < (s.name.size : Int) by omega)]
    cases greatB l <;> rfl

theorem m_wide_ok (a b : Int) : (m_W7_wide a b).ok = true := by
  unfold m_W7_wide
  cases decide (-1000000 ≤ a) <;> cases decide (b ≤ 1000000) <;> cases decide (120 < w64 (b - a)) <;> rfl

theorem law_RiseStates (g : Globe) (x : Site) (s : Source) (fr to : Int) (lim : Frac) (_ : ∀ d ∈ [D.int .i64 g.a, .int .i64 g.b], d.ok) (_ : ∀ d ∈ [D.str x.name, .int .i64 x.s.num, .int .i64 x.s.den, .int .i64 x.t.num, .int .i64 x.t.den], d.ok) (_ : ∀ d ∈ [D.str s.name, .int .i64 s.ra, .int .i64 s.dec], d.ok) (_ : IntKind.i64.has fr) (_ : IntKind.i64.has to) (_ : ∀ d ∈ [D.int .i64 lim.num, .int .i64 lim.den], d.ok) :
    m_W7_RiseStates g x s fr to lim = ⟨true, true⟩ := by
  unfold m_W7_RiseStates m_rise_Windows m_Q7_Windows
  have hs := m_sameSelf (allE g [x] s fr to lim).1 (by have := all_len g [x] s fr to lim; omega)
  simp only [m_long [x] s (by simp [maxLen]), m_wide_ok, m_allW, m_allR, m_stateP, m_statePR, hs, cond_true, beq_self_eq_true]
  cases greatB [x] || decide (200 < s.name.size) with
  | true => rfl
  | false => cases (m_W7_wide fr to).r0 <;> rfl

end Go.Ev

namespace Go.Ev

open Go Go.ChangeShapes Go.ChangeShapes

theorem laid_frac {P : Program} {w : World} {n : String} {g t : Nat} {f0 f1 : Field} {a b : Int} (hg : P.globalNamed n = some g) (ht : (P.globals[g]?).map (·.type) = some t)
    (hu : P.underlying t = some (.struct #[f0, f1])) (o0 : f0.offset = 0) (o1 : f1.offset = 1) (u0 : P.underlying f0.type = some (.int .i64)) (u1 : P.underlying f1.type = some (.int .i64))
    (c0 : P.cellsOf f0.type = 1) (c1 : P.cellsOf f1.type = 1) (c : P.cellsOf t = 2) {r : List (String × DataW Unit)} {ps : List MemPlace}
    (h : DataW.LaidVars P w ((n, .agg [.lit (.int .i64 a), .lit (.int .i64 b)]) :: r) ps) :
    (w.cell? ⟨g, 0, none⟩ = some (.int .i64 a) ∧ w.cell? ⟨g, 1, none⟩ = some (.int .i64 b)) ∧ ∃ q, DataW.LaidVars P w r q := by
  obtain ⟨g', t', cs, fuel, p, q, hg', ht', hv, hd, hr, _⟩ := h
  obtain rfl := Option.some.inj (hg.symm.trans hg')
  obtain rfl := Option.some.inj (ht.symm.trans ht')
  obtain ⟨y0, y1, m, e, hl, h0, h1⟩ := trod_struct2 hu hd
  simp only [Prod.mk.injEq, DataW.agg.injEq, List.cons.injEq, and_true] at e
  obtain ⟨x0, e0, z0, _⟩ := DataW.trod_int u0 h0
  obtain ⟨x1, e1, z1, _⟩ := DataW.trod_int u1 h1
  subst z0 z1
  simp only [DataW.lit.injEq, Lit.int.injEq, true_and] at e
  obtain ⟨⟨rfl, rfl⟩, _⟩ := e
  rw [o0, c0] at e0
  rw [o1, c1] at e1
  obtain ⟨l⟩ := cs
  have k0 := World.var?_cell hg hv 0
  have k1 := World.var?_cell hg hv 1
  match l, hl, e0, e1 with
  | [c0', c1'], _, e0, e1 =>
    simp at e0 e1
    subst e0 e1
    exact ⟨⟨by simpa using k0, by simpa using k1⟩, q, hr⟩
  | [], hl, _, _ => rw [c] at hl; simp at hl
  | [_], hl, _, _ => rw [c] at hl; simp at hl
  | _ :: _ :: _ :: _, hl, _, _ => rw [c] at hl; simp at hl

end Go.Ev

