/-
  Arrays of stations as plain functions: which are valid, their places, their baselines; the program's and the reference's are the same. No condition.
  Baselines of arrays and their projections as plain functions: the program's and the reference's are the same. No condition.
  Baselines that close: opposite ones are opposite, two in a row sum to the third. No condition.
  Plain functions that mirror functions of the program, and that it computes them. No condition beyond those of the statements.
  Delays of baselines: which rates are valid, which errors come first; the program's and the reference's are the same. No condition.
  Delays that close around triangles; the law DelayCloses. No condition.
  Tables of delays with clocks; clocks that are alike, and clocks that are all later. No condition.
-/
import Derived.Test.YtifoghbobjlcfaaGreatPkK10
set_option maxRecDepth 100000
namespace Go.Ev
open Go
theorem w64_up {n : Nat} (h : n < 9223372036854775807) : w64 ((n : Int) + 1) = ((n + 1 : Nat) : Int) := by simp only [w64, wr]; omega
theorem room_le {n : Nat} (h : n ≤ 1048576) : Nat.ble n roomD = true := by rw [Nat.ble_eq]; exact h
abbrev sAt (l : List Site) (n : Nat) : Site := l.getD n (ET.z .site)
theorem drop_at {α : Type} {l : List α} {n : Nat} (z : α) (h : n < l.length) : l.drop n = l.getD n z :: l.drop (n + 1) := by
  rw [List.drop_eq_getElem_cons h]
  congr 1
  rw [List.getD_eq_getElem?_getD, List.getElem?_eq_getElem h]
  rfl
theorem drop_all {α : Type} {l : List α} {n : Nat} (h : ¬ n < l.length) : l.drop n = [] := List.drop_eq_nil_of_le (by omega)
theorem run_great (l : List Site) (p : Bool) (hl : l.length ≤ maxLen) : ∀ (f n : Nat), n ≤ l.length → l.length - n < f → (run_Q4_Great_0 p l f (n : Int)).k = bif (l.drop n).any (fun x => decide (100 < x.name.size)) then 0 else 1 := by
  intro f
  induction f with
  | zero => intro n _ h; omega
  | succ f ih =>
    intro n hn h
    rw [run_Q4_Great_0]
    simp only [maxLen] at hl
    by_cases h1 : n < l.length
    · simp only [nn_t, lt_t h1, Bool.and_self, cond_true, w64_up (show n < 9223372036854775807 by omega), Int.toNat_natCast]
      rw [drop_at (ET.z .site) h1, List.any_cons]
      by_cases c : 100 < (sAt l n).name.size
      · rw [dec_t (show (100 : Int) < ((sAt l n).name.size : Int) by omega), dec_t c]; rfl
      · rw [dec_f (show ¬ (100 : Int) < ((sAt l n).name.size : Int) by omega), dec_f c]
        simp only [cond_false, Bool.false_or]
        exact ih (n + 1) (by omega) (by omega)
    · simp only [lt_f h1, cond_false]
      rw [drop_all h1]
      rfl
def greatB (l : List Site) : Bool := l.any (fun x => decide (100 < x.name.size)) || decide (20 < l.length)
theorem m_great (l : List Site) (hl : l.length ≤ maxLen) : m_Q4_Great l = ⟨true, greatB l⟩ := by
  unfold m_Q4_Great lp_Q4_Great_0 greatB
  have := run_great l false hl (2000 + l.length) 0 (by omega) (by omega)
  rw [show ((0 : Nat) : Int) = 0 from rfl, List.drop_zero] at this
  rw [this]
  cases l.any (fun x => decide (100 < x.name.size)) with
  | true => rfl
  | false =>
    by_cases c : 20 < l.length
    · rw [dec_t c, dec_t (show (20 : Int) < (l.length : Int) by omega)]; rfl
    · rw [dec_f c, dec_f (show ¬ (20 : Int) < (l.length : Int) by omega)]; rfl
def siteB (x : Site) : Bool := namedB x.name && placedB x.s x.t
theorem run_valid (x : Site) (p : Bool) (hs : x.name.size ≤ 40) : ∀ (f m : Nat) (i : Int), 0 ≤ i → i + m = x.name.size → m < f → (run_array_valid_0 p (x.name.size : Int) x f i).k = bif restOk x.name i m then 1 else 0 := by
  intro f
  induction f with
  | zero => intro m i _ _ h; omega
  | succ f ih =>
    intro m i h0 h1 h2
    rw [run_array_valid_0]
    change (bif decide (i < (x.name.size : Int)) then (bif (decide (0 ≤ i) && decide (i < (x.name.size : Int))) then nameStep (byteAt x.name i) ⟨0, i⟩ (run_array_valid_0 p (x.name.size : Int) x f (w64 (i + 1))) else ⟨2, i⟩) else ⟨1, i⟩ : R_array_valid_0).k = _
    cases m with
    | zero => rw [dec_f (show ¬ i < (x.name.size : Int) by omega)]; rfl
    | succ m =>
      rw [dec_t (show i < (x.name.size : Int) by omega), dec_t h0, nameStep_eq, restOk, show w64 (i + 1) = i + 1 by simp only [w64, wr]; omega]
      simp only [Bool.and_self, cond_true]
      cases byteOk (byteAt x.name i) with
      | false => rfl
      | true =>
        simp only [cond_true]
        exact ih m (i + 1) (by omega) (by omega) (by omega)
theorem at_one (s t : Frac) : ((atV ⟨1, 1⟩ s t).2 == (0 : Int)) = placedB s t := by
  unfold atV
  rw [show globeOkB ⟨1, 1⟩ = true by decide]
  cases placedB s t <;> rfl
theorem m_valid (x : Site) : m_array_valid x = ⟨true, siteB x⟩ := by
  unfold m_array_valid siteB namedB lp_array_valid_0
  by_cases h1 : (x.name.size : Int) < 1
  · rw [dec_t h1]; rfl
  by_cases h2 : 40 < (x.name.size : Int)
  · rw [dec_f h1, dec_t h2]; rfl
  rw [dec_f h1, dec_f h2, dec_t (show (0 : Int) < (x.name.size : Int) by omega)]
  simp only [Int.le_refl, decide_true, Bool.and_self, cond_true, cond_false, at_one]
  cases decide (byteAt x.name 0 < 97) with
  | true => rfl
  | false =>
    cases decide (122 < byteAt x.name 0) with
    | true => rfl
    | false =>
      simp only [cond_false]
      rw [run_valid x false (by omega) _ x.name.size 0 (by omega) (by omega) (by omega)]
      cases restOk x.name 0 x.name.size <;> rfl
theorem m_validR (x : Site) : m_Q4_Valid x = ⟨true, siteB x⟩ := by
  unfold m_Q4_Valid siteB
  cases namedB x.name <;> rfl
def stationsE (l : List Site) : Int := bif decide (8 < l.length) then 4 else bif l.all siteB then 0 else 8
theorem run_stations (l : List Site) (p : Int) (hl : l.length ≤ 8) : ∀ (f n : Nat), n ≤ l.length → l.length - n < f → (run_array_stations_0 p (l.length : Int) l f (n : Int)).k = bif (l.drop n).all siteB then 1 else 0 := by
  intro f
  induction f with
  | zero => intro n _ h; omega
  | succ f ih =>
    intro n hn h
    rw [run_array_stations_0]
    by_cases h1 : n < l.length
    · simp only [nn_t, lt_t h1, Bool.and_self, cond_true, w64_up (show n < 9223372036854775807 by omega), Int.toNat_natCast, m_valid]
      rw [drop_at (ET.z .site) h1, List.all_cons]
      cases siteB (sAt l n) with
      | false => rfl
      | true =>
        simp only [Bool.not_true, cond_false, Bool.true_and]
        exact ih (n + 1) (by omega) (by omega)
    · simp only [lt_f h1, cond_false]
      rw [drop_all h1]
      rfl
theorem m_stations (l : List Site) : m_array_stations l = ⟨true, stationsE l⟩ := by
  unfold m_array_stations stationsE lp_array_stations_0
  by_cases h : 8 < l.length
  · rw [dec_t h, dec_t (show (8 : Int) < (l.length : Int) by omega)]; rfl
  · rw [dec_f h, dec_f (show ¬ (8 : Int) < (l.length : Int) by omega)]
    have := run_stations l 0 (by omega) (2000 + l.length) 0 (by omega) (by omega)
    rw [show ((0 : Nat) : Int) = 0 from rfl, List.drop_zero] at this
    simp only [cond_false]
    rw [this]
    cases l.all siteB <;> rfl
theorem stations_ok {l : List Site} (h : stationsE l = 0) : l.length ≤ 8 ∧ ∀ x ∈ l, siteB x = true := by
  unfold stationsE at h
  by_cases h1 : 8 < l.length
  · rw [dec_t h1] at h; cases h
  · rw [dec_f h1] at h
    refine ⟨by omega, ?_⟩
    cases h2 : l.all siteB with
    | false => rw [h2] at h; cases h
    | true => exact List.all_eq_true.1 h2
theorem site_placed {x : Site} (h : siteB x = true) : placedB x.s x.t = true := by
  unfold siteB at h
  simp only [Bool.and_eq_true] at h
  exact h.2
def placedL (g : Globe) (l : List Site) : List Placed := l.map fun x => ⟨x, placeV g x.s x.t⟩
def placesL (g : Globe) (l : List Site) : List Vec := l.map fun x => placeV g x.s x.t
theorem placedL_len (g : Globe) (l : List Site) : (placedL g l).length = l.length := List.length_map _
theorem placesL_len (g : Globe) (l : List Site) : (placesL g l).length = l.length := List.length_map _
theorem placedL_at (g : Globe) {l : List Site} {n : Nat} (h : n < l.length) : (placedL g l).getD n (ET.z .placed) = ⟨sAt l n, placeV g (sAt l n).s (sAt l n).t⟩ := by
  unfold placedL
  rw [List.getD_eq_getElem?_getD, List.getElem?_map, List.getElem?_eq_getElem h, sAt, List.getD_eq_getElem?_getD, List.getElem?_eq_getElem h]
  rfl
theorem placesL_at (g : Globe) {l : List Site} {n : Nat} (h : n < l.length) : (placesL g l).getD n (ET.z .vec) = placeV g (sAt l n).s (sAt l n).t := by
  unfold placesL
  rw [List.getD_eq_getElem?_getD, List.getElem?_map, List.getElem?_eq_getElem h, sAt, List.getD_eq_getElem?_getD, List.getElem?_eq_getElem h]
  rfl
theorem sAt_mem {l : List Site} {n : Nat} (h : n < l.length) : sAt l n ∈ l := by
  rw [sAt, List.getD_eq_getElem?_getD, List.getElem?_eq_getElem h]
  exact List.getElem_mem h
theorem at_valid {g : Globe} {x : Site} (hg : checkG g = 0) (hx : siteB x = true) : atV g x.s x.t = (placeV g x.s x.t, 0) := by
  unfold atV
  rw [site_placed hx]
  unfold checkG at hg
  cases h : globeOkB g with
  | false => rw [h] at hg; cases hg
  | true => rfl
theorem take_set {α : Type} : ∀ {l : List α} {n : Nat} {y : α}, n < l.length → (l.set n y).take (n + 1) = l.take n ++ [y]
  | [], _, _, h => by simp at h
  | _ :: _, 0, _, _ => by simp
  | x :: l, n + 1, y, h => by
    simp only [List.set_cons_succ, List.take_succ_cons, List.cons_append]
    rw [take_set (by simpa using h)]
theorem run_place (g : Globe) (l : List Site) (q : Int) (hg : checkG g = 0) (hl : l.length ≤ 8) (hv : ∀ x ∈ l, siteB x = true) : ∀ (f n : Nat) (acc : List Placed), n ≤ l.length → l.length - n < f → acc.length = l.length →
    (run_array_place_0 (l.length : Int) l g q f (n : Int) acc).k = 1 ∧ (run_array_place_0 (l.length : Int) l g q f (n : Int) acc).m5 = acc.take n ++ (placedL g l).drop n := by
  intro f
  induction f with
  | zero => intro n acc _ h; omega
  | succ f ih =>
    intro n acc hn h ha
    rw [run_array_place_0]
    by_cases h1 : n < l.length
    · simp only [nn_t, lt_t h1, lt_t (show n < acc.length by omega), Bool.and_self, cond_true, w64_up (show n < 9223372036854775807 by omega), Int.toNat_natCast, at_valid hg (hv _ (sAt_mem h1))]
      have := ih (n + 1) (acc.set n ⟨sAt l n, placeV g (sAt l n).s (sAt l n).t⟩) (by omega) (by omega) (by simp [ha])
      rw [take_set (by omega)] at this
      rw [drop_at (ET.z .placed) (show n < (placedL g l).length by rw [placedL_len]; exact h1), placedL_at g h1]
      refine ⟨this.1, this.2.trans ?_⟩
      rw [List.append_assoc]
      rfl
    · simp only [lt_f h1, cond_false]
      rw [drop_all (show ¬ n < (placedL g l).length by rw [placedL_len]; exact h1), List.append_nil, List.take_of_length_le (by omega)]
      exact ⟨trivial, rfl⟩
def dupL (g : Globe) (l : List Site) : Bool := dupP (placedL g l)
def checkA (g : Globe) (l : List Site) : Int := bif checkG g != 0 then checkG g else bif stationsE l != 0 then stationsE l else bif dupL g l then 14 else 0
theorem nat_of {i : Int} (h : 0 ≤ i) : ∃ n : Nat, i = n := ⟨i.toNat, by omega⟩
theorem eq0_of {n : Int} (h : (n != 0) = false) : n = 0 := by simpa using h
theorem m_place (g : Globe) (l : List Site) : m_array_place g l = ⟨true, bif checkA g l == 0 then placedL g l else [], checkA g l⟩ := by
  unfold m_array_place checkA m0_array_place
  simp only [m_stations, cond_true]
  cases h1 : (checkG g != 0) with
  | true =>
    simp only [cond_true]
    rw [show (checkG g == 0) = false by simpa [bne] using h1]
    rfl
  | false =>
    cases h2 : (stationsE l != 0) with
    | true =>
      simp only [cond_true, cond_false]
      rw [show (stationsE l == 0) = false by simpa [bne] using h2]
      rfl
    | false =>
      obtain ⟨hl, hv⟩ := stations_ok (eq0_of h2)
      have e0 : (decide (0 ≤ (l.length : Int)) && (decide ((l.length : Int) ≤ 1048576) && ((11 == 11) && (Nat.blt 0 11 && Nat.ble 96 4096)))) = true := by
        rw [nn_t, dec_t (show (l.length : Int) ≤ 1048576 by omega)]; rfl
      unfold lp_array_place_0
      obtain ⟨k1, k2⟩ := run_place g l 0 (eq0_of h1) hl hv (2000 + (l.length + (List.replicate l.length (⟨⟨ByteArray.empty, ⟨(0 : Int), (0 : Int)⟩, ⟨(0 : Int), (0 : Int)⟩⟩, ⟨⟨(0 : Int), (0 : Int)⟩, ⟨(0 : Int), (0 : Int)⟩, ⟨(0 : Int), (0 : Int)⟩⟩⟩ : Placed)).length)) 0 (List.replicate l.length (⟨⟨ByteArray.empty, ⟨(0 : Int), (0 : Int)⟩, ⟨(0 : Int), (0 : Int)⟩⟩, ⟨⟨(0 : Int), (0 : Int)⟩, ⟨(0 : Int), (0 : Int)⟩, ⟨(0 : Int), (0 : Int)⟩⟩⟩ : Placed)) (by omega) (by omega) (by simp)
      rw [show ((0 : Nat) : Int) = 0 from rfl] at k1 k2
      rw [List.take_zero, List.nil_append, List.drop_zero] at k2
      simp only [cond_false, decide_true, Bool.true_and, e0, cond_true, k1, k2, show Nat.beq 1 0 = false from rfl, show Nat.beq 1 1 = true from rfl]
      unfold dupL
      cases dupP (placedL g l) <;> rfl
theorem placeR_valid {g : Globe} {x : Site} (hx : siteB x = true) : placeR g x.s x.t = placeV g x.s x.t := by
  have := site_placed hx
  unfold placedB at this
  simp only [Bool.and_eq_true] at this
  exact placeR_eq (paramB_iff.1 this.1) (paramB_iff.1 this.2.1)
theorem run_all (g : Globe) (l : List Site) (hl : l.length ≤ 8) (hv : ∀ x ∈ l, siteB x = true) : ∀ (f n : Nat) (o : List Vec), n ≤ l.length → l.length - n < f → o.length + (l.length - n) ≤ 1000 →
    (run_Q4_all_0 l g f (n : Int) o).k = 0 ∧ (run_Q4_all_0 l g f (n : Int) o).m2 = o ++ (placesL g l).drop n := by
  intro f
  induction f with
  | zero => intro n o _ h; omega
  | succ f ih =>
    intro n o hn h ho
    rw [run_Q4_all_0]
    by_cases h1 : n < l.length
    · simp only [nn_t, lt_t h1, Bool.and_self, cond_true, w64_up (show n < 9223372036854775807 by omega), Int.toNat_natCast, placeR_valid (hv _ (sAt_mem h1)), List.length_singleton, room_le (show o.length + 1 ≤ 1048576 by omega)]
      rw [drop_at (ET.z .vec) (show n < (placesL g l).length by rw [placesL_len]; exact h1), placesL_at g h1]
      obtain ⟨k1, k2⟩ := ih (n + 1) (o ++ [placeV g (sAt l n).s (sAt l n).t]) (by omega) (by omega) (by simp; omega)
      refine ⟨k1, k2.trans ?_⟩
      rw [List.append_assoc]
      rfl
    · simp only [lt_f h1, cond_false]
      rw [drop_all (show ¬ n < (placesL g l).length by rw [placesL_len]; exact h1), List.append_nil]
      exact ⟨trivial, rfl⟩
theorem m_all (g : Globe) (l : List Site) (h : stationsE l = 0) : m_Q4_all g l = ⟨true, placesL g l⟩ := by
  obtain ⟨hl, hv⟩ := stations_ok h
  unfold m_Q4_all lp_Q4_all_0
  obtain ⟨k1, k2⟩ := run_all g l hl hv (2000 + (l.length + ([] : List Vec).length)) 0 [] (by omega) (by omega) (by simp; omega)
  rw [show ((0 : Nat) : Int) = 0 from rfl] at k1 k2
  rw [k1, k2]
  rfl
theorem run_checkS (g : Globe) (l : List Site) (p : Int) (hl : l.length ≤ 8) : ∀ (f n : Nat), n ≤ l.length → l.length - n < f → (run_Q4_Check_0 p l g f (n : Int)).k = bif (l.drop n).all siteB then 1 else 0 := by
  intro f
  induction f with
  | zero => intro n _ h; omega
  | succ f ih =>
    intro n hn h
    rw [run_Q4_Check_0]
    by_cases h1 : n < l.length
    · simp only [nn_t, lt_t h1, Bool.and_self, cond_true, w64_up (show n < 9223372036854775807 by omega), Int.toNat_natCast, m_validR]
      rw [drop_at (ET.z .site) h1, List.all_cons]
      cases siteB (sAt l n) with
      | false => rfl
      | true =>
        simp only [Bool.not_true, cond_false, Bool.true_and]
        exact ih (n + 1) (by omega) (by omega)
    · simp only [lt_f h1, cond_false]
      rw [drop_all h1]
      rfl
theorem eq_vec (a b : Vec) : eqAll [.int .i64 a.x.num, .int .i64 a.x.den, .int .i64 a.y.num, .int .i64 a.y.den, .int .i64 a.z.num, .int .i64 a.z.den] [.int .i64 b.x.num, .int .i64 b.x.den, .int .i64 b.y.num, .int .i64 b.y.den, .int .i64 b.z.num, .int .i64 b.z.den] = decide (a = b) := by
  obtain ⟨⟨a1, a2⟩, ⟨a3, a4⟩, ⟨a5, a6⟩⟩ := a
  obtain ⟨⟨b1, b2⟩, ⟨b3, b4⟩, ⟨b5, b6⟩⟩ := b
  rw [Bool.eq_iff_iff]
  simp [eqAll, D.eq, and_assoc]
theorem dup_at (g : Globe) {l : List Site} {i j : Nat} (hi : i < l.length) (hj : j < l.length) : dupAt (placedL g l) i j = (decide ((sAt l i).name.data.toList = (sAt l j).name.data.toList) || decide (placeV g (sAt l i).s (sAt l i).t = placeV g (sAt l j).s (sAt l j).t)) := by
  unfold dupAt
  rw [eq_vec, placedL_at g hi, placedL_at g hj]
  simp only
  by_cases c : (sAt l i).name.data.toList = (sAt l j).name.data.toList
  · rw [show ((sAt l i).name.data.toList == (sAt l j).name.data.toList) = true by simpa using c, dec_t c]; rfl
  · rw [show ((sAt l i).name.data.toList == (sAt l j).name.data.toList) = false by simpa using c, dec_f c]; rfl
theorem run_pair2 (g : Globe) (l : List Site) (p : Int) (hl : l.length ≤ 8) (i : Nat) (hi : i < l.length) : ∀ (f n : Nat), n ≤ i → i - n < f → (run_Q4_Check_2 p (i : Int) l (placesL g l) f (n : Int)).k = bif (List.range' n (i - n)).any (fun k => dupAt (placedL g l) k i) then 0 else 1 := by
  intro f
  induction f with
  | zero => intro n _ h; omega
  | succ f ih =>
    intro n hn h
    rw [run_Q4_Check_2]
    by_cases h1 : n < i
    · simp only [nn_t, lt_t h1, lt_t hi, lt_t (show n < l.length by omega), lt_t (show i < (placesL g l).length by rw [placesL_len]; exact hi), lt_t (show n < (placesL g l).length by rw [placesL_len]; omega), Bool.and_self, cond_true, w64_up (show n < 9223372036854775807 by omega), Int.toNat_natCast]
      rw [eq_vec, placesL_at g hi, placesL_at g (show n < l.length by omega), show i - n = (i - (n + 1)) + 1 by omega, List.range'_succ, List.any_cons, dup_at g (show n < l.length by omega) hi]
      by_cases c : (sAt l n).name.data.toList = (sAt l i).name.data.toList
      · rw [show ((sAt l i).name.data.toList == (sAt l n).name.data.toList) = true by simpa using c.symm, dec_t c]; rfl
      · rw [show ((sAt l i).name.data.toList == (sAt l n).name.data.toList) = false from beq_eq_false_iff_ne.2 fun e => c e.symm, dec_f c]
        simp only [cond_false, Bool.false_or]
        by_cases d : placeV g (sAt l n).s (sAt l n).t = placeV g (sAt l i).s (sAt l i).t
        · rw [dec_t d, dec_t d.symm]; rfl
        · rw [dec_f d, dec_f (fun e => d e.symm)]
          simp only [cond_false, Bool.false_or]
          exact ih (n + 1) (by omega) (by omega)
    · simp only [lt_f h1, cond_false]
      rw [show i - n = 0 by omega]
      rfl
theorem run_pair1 (g : Globe) (l : List Site) (p : Int) (hl : l.length ≤ 8) : ∀ (f n : Nat), n ≤ l.length → l.length - n < f → (run_Q4_Check_1 p l (placesL g l) f (n : Int)).k = bif (List.range' n (l.length - n)).any (fun j => (List.range j).any fun k => dupAt (placedL g l) k j) then 0 else 1 := by
  intro f
  induction f with
  | zero => intro n _ h; omega
  | succ f ih =>
    intro n hn h
    rw [run_Q4_Check_1]
    by_cases h1 : n < l.length
    · have := run_pair2 g l p hl n h1 (2000 + (l.length + (placesL g l).length)) 0 (by omega) (by omega)
      rw [show ((0 : Nat) : Int) = 0 from rfl, Nat.sub_zero, ← List.range_eq_range'] at this
      unfold lp_Q4_Check_2
      simp only [lt_t h1, cond_true, this, w64_up (show n < 9223372036854775807 by omega)]
      rw [show l.length - n = (l.length - (n + 1)) + 1 by omega, List.range'_succ, List.any_cons]
      cases (List.range n).any (fun k => dupAt (placedL g l) k n) with
      | true => rfl
      | false =>
        simp only [cond_false, Bool.false_or, show Nat.beq 1 0 = false from rfl, show Nat.beq 1 1 = true from rfl, cond_true]
        exact ih (n + 1) (by omega) (by omega)
    · simp only [lt_f h1, cond_false]
      rw [show l.length - n = 0 by omega]
      rfl
theorem m_checkRA (g : Globe) (l : List Site) : m_Q4_Check g l = ⟨true, checkA g l⟩ := by
  unfold m_Q4_Check checkA
  cases h1 : (checkG g != 0) with
  | true => rfl
  | false =>
    simp only [cond_false]
    by_cases h2 : 8 < l.length
    · rw [dec_t (show (8 : Int) < (l.length : Int) by omega), show stationsE l = 4 by unfold stationsE; rw [dec_t h2]; rfl]
      rfl
    · rw [dec_f (show ¬ (8 : Int) < (l.length : Int) by omega)]
      unfold lp_Q4_Check_0 lp_Q4_Check_1
      have hs := run_checkS g l 0 (by omega) (2000 + l.length) 0 (by omega) (by omega)
      rw [show ((0 : Nat) : Int) = 0 from rfl, List.drop_zero] at hs
      simp only [cond_false, hs]
      cases h3 : l.all siteB with
      | false =>
        rw [show stationsE l = 8 by unfold stationsE; rw [dec_f h2, h3]; rfl]
        rfl
      | true =>
        have h4 : stationsE l = 0 := by unfold stationsE; rw [dec_f h2, h3]; rfl
        have hp := run_pair1 g l 0 (by omega) (2000 + (l.length + (placesL g l).length)) 0 (by omega) (by omega)
        rw [show ((0 : Nat) : Int) = 0 from rfl, Nat.sub_zero, ← List.range_eq_range'] at hp
        simp only [m_all g l h4, h4, cond_true, show Nat.beq 1 0 = false from rfl, show Nat.beq 1 1 = true from rfl, cond_false, bne_self_eq_false, hp]
        unfold dupL dupP
        rw [placedL_len]
        cases (List.range l.length).any (fun j => (List.range j).any fun i => dupAt (placedL g l) i j) <;> rfl
end Go.Ev

namespace Go.Ev
open Go
theorem m_placesR (g : Globe) (l : List Site) : m_Q4_Places g l = ⟨true, bif checkA g l == 0 then placesL g l else [], checkA g l⟩ := by
  unfold m_Q4_Places
  simp only [m_checkRA, cond_true]
  cases h1 : (checkA g l != 0) with
  | true => rw [show (checkA g l == 0) = false by simpa [bne] using h1]; rfl
  | false =>
    have h2 := eq0_of h1
    have h4 : stationsE l = 0 := by
      unfold checkA at h2
      cases h3 : (checkG g != 0) with
      | true => rw [h3, cond_true] at h2; rw [h2] at h3; cases h3
      | false =>
        rw [h3, cond_false] at h2
        cases h5 : (stationsE l != 0) with
        | true => rw [h5, cond_true] at h2; rw [h2] at h5; cases h5
        | false => exact eq0_of h5
    rw [m_all g l h4, h2]
    rfl
def lineA (g : Globe) (l : List Site) (i j : Int) : Vec × Int :=
  bif checkA g l != 0 then (vecZ, checkA g l) else
  bif decide (0 ≤ i) && (decide (i < (l.length : Int)) && (decide (0 ≤ j) && decide (j < (l.length : Int)))) then subV (placeV g (sAt l j.toNat).s (sAt l j.toNat).t) (placeV g (sAt l i.toNat).s (sAt l i.toNat).t) else (vecZ, 2)
theorem m_line (g : Globe) (l : List Site) (i j : Int) : m_array_Line g l i j = ⟨true, (lineA g l i j).1, (lineA g l i j).2⟩ := by
  unfold m_array_Line lineA
  simp only [m_place, cond_true]
  cases h1 : (checkA g l != 0) with
  | true => rfl
  | false =>
    rw [eq0_of h1]
    simp only [beq_self_eq_true, cond_true, cond_false, placedL_len]
    by_cases c1 : 0 ≤ i
    · by_cases c2 : i < (l.length : Int)
      · by_cases c3 : 0 ≤ j
        · by_cases c4 : j < (l.length : Int)
          · obtain ⟨n, rfl⟩ := nat_of c1
            obtain ⟨m, rfl⟩ := nat_of c3
            simp only [dec_t c1, dec_t c2, dec_t c3, dec_t c4, dec_f (show ¬ (n : Int) < 0 by omega), dec_f (show ¬ (m : Int) < 0 by omega), dec_f (show ¬ (l.length : Int) ≤ (n : Int) by omega), dec_f (show ¬ (l.length : Int) ≤ (m : Int) by omega), Bool.and_self, cond_true, cond_false, Int.toNat_natCast, placedL_at g (show n < l.length by omega), placedL_at g (show m < l.length by omega)]
          · simp only [dec_t c1, dec_t c2, dec_t c3, dec_f c4, dec_f (show ¬ i < 0 by omega), dec_f (show ¬ j < 0 by omega), dec_f (show ¬ (l.length : Int) ≤ i by omega), dec_t (show (l.length : Int) ≤ j by omega), Bool.and_false, cond_true, cond_false]
            rfl
        · simp only [dec_t c1, dec_t c2, dec_f c3, dec_f (show ¬ i < 0 by omega), dec_t (show j < 0 by omega), dec_f (show ¬ (l.length : Int) ≤ i by omega), Bool.and_false, Bool.false_and, cond_true, cond_false]
          rfl
      · simp only [dec_t c1, dec_f c2, dec_f (show ¬ i < 0 by omega), dec_t (show (l.length : Int) ≤ i by omega), Bool.and_false, Bool.false_and, cond_true, cond_false]
        rfl
    · simp only [dec_f c1, dec_t (show i < 0 by omega), Bool.false_and, cond_true, cond_false]
      rfl
theorem m_lineR (g : Globe) (l : List Site) (i j : Int) : m_Q4_Line g l i j = ⟨true, (lineA g l i j).1, (lineA g l i j).2⟩ := by
  unfold m_Q4_Line lineA
  simp only [m_placesR, cond_true]
  cases h1 : (checkA g l != 0) with
  | true => rfl
  | false =>
    rw [eq0_of h1]
    simp only [beq_self_eq_true, cond_true, cond_false, placesL_len]
    by_cases c1 : 0 ≤ i
    · by_cases c3 : 0 ≤ j
      · by_cases c2 : i < (l.length : Int)
        · by_cases c4 : j < (l.length : Int)
          · obtain ⟨n, rfl⟩ := nat_of c1
            obtain ⟨m, rfl⟩ := nat_of c3
            simp only [dec_t c1, dec_t c2, dec_t c3, dec_t c4, dec_f (show ¬ (n : Int) < 0 by omega), dec_f (show ¬ (m : Int) < 0 by omega), dec_f (show ¬ (l.length : Int) ≤ (n : Int) by omega), dec_f (show ¬ (l.length : Int) ≤ (m : Int) by omega), Bool.and_self, cond_true, cond_false, Int.toNat_natCast, placesL_at g (show n < l.length by omega), placesL_at g (show m < l.length by omega)]
          · simp only [dec_t c1, dec_t c2, dec_t c3, dec_f c4, dec_f (show ¬ i < 0 by omega), dec_f (show ¬ j < 0 by omega), dec_f (show ¬ (l.length : Int) ≤ i by omega), dec_t (show (l.length : Int) ≤ j by omega), Bool.and_false, cond_true, cond_false]
            rfl
        · simp only [dec_t c1, dec_f c2, dec_f (show ¬ i < 0 by omega), dec_f (show ¬ j < 0 by omega), dec_t (show (l.length : Int) ≤ i by omega), Bool.and_false, Bool.false_and, cond_true, cond_false]
          rfl
      · simp only [dec_t c1, dec_f c3, dec_f (show ¬ i < 0 by omega), dec_t (show j < 0 by omega), Bool.and_false, Bool.false_and, cond_true, cond_false]
        rfl
    · simp only [dec_f c1, dec_t (show i < 0 by omega), Bool.false_and, cond_true, cond_false]
      rfl
def plineA (g : Globe) (l : List Site) (i j : Int) (s : Source) (t : Int) : Dir × Int :=
  bif (lineA g l i j).2 != 0 then (dirZ, (lineA g l i j).2) else projV (lineA g l i j).1 s t
theorem m_pline (g : Globe) (l : List Site) (i j : Int) (s : Source) (t : Int) : m_proj_Line g l i j s t = ⟨true, (plineA g l i j s t).1, (plineA g l i j s t).2⟩ := by
  unfold m_proj_Line plineA
  simp only [m_line, cond_true]
  cases (lineA g l i j).2 != 0 <;> rfl
theorem m_plineR (g : Globe) (l : List Site) (i j : Int) (s : Source) (t : Int) : m_Q8_Line g l i j s t = ⟨true, (plineA g l i j s t).1, (plineA g l i j s t).2⟩ := by
  unfold m_Q8_Line plineA
  simp only [m_lineR, cond_true]
  cases (lineA g l i j).2 != 0 <;> rfl
end Go.Ev

namespace Go.Ev
open Go
abbrev pAt (g : Globe) (l : List Site) (n : Nat) : Vec := placeV g (sAt l n).s (sAt l n).t
theorem check_parts {g : Globe} {l : List Site} (h : checkA g l = 0) : checkG g = 0 ∧ stationsE l = 0 := by
  unfold checkA at h
  cases h3 : (checkG g != 0) with
  | true => rw [h3, cond_true] at h; rw [h] at h3; cases h3
  | false =>
    rw [h3, cond_false] at h
    cases h5 : (stationsE l != 0) with
    | true => rw [h5, cond_true] at h; rw [h] at h5; cases h5
    | false => exact ⟨eq0_of h3, eq0_of h5⟩
theorem pAt_q {g : Globe} {l : List Site} (h : checkA g l = 0) {n : Nat} (hn : n < l.length) : PlaceQ g (sAt l n).s (sAt l n).t (pAt g l n) := by
  obtain ⟨h1, h2⟩ := check_parts h
  exact (given_place h1 (site_placed ((stations_ok h2).2 _ (sAt_mem hn)))).2
theorem line_q {g : Globe} {l : List Site} (h : checkA g l = 0) {n m : Nat} (hn : n < l.length) (hm : m < l.length) : ∃ v, lineA g l (n : Int) (m : Int) = (v, 0) ∧ VecOk v ∧
    val v.x = val (pAt g l m).x - val (pAt g l n).x ∧ val v.y = val (pAt g l m).y - val (pAt g l n).y ∧ val v.z = val (pAt g l m).z - val (pAt g l n).z := by
  have qn := pAt_q h hn; have qm := pAt_q h hm
  obtain ⟨x, ex, _⟩ := qm.x.sub qn.x (by decide) (by decide)
  obtain ⟨y, ey, _⟩ := qm.y.sub qn.y (by decide) (by decide)
  obtain ⟨z, ez, _⟩ := qm.z.sub qn.z (by decide) (by decide)
  have vx := sub_val qm.x.ok qn.x.ok ex
  have vy := sub_val qm.y.ok qn.y.ok ey
  have vz := sub_val qm.z.ok qn.z.ok ez
  refine ⟨⟨x, y, z⟩, ?_, ⟨vx.1, vy.1, vz.1⟩, vx.2, vy.2, vz.2⟩
  unfold lineA
  rw [h, dec_t (show (0 : Int) ≤ (n : Int) by omega), dec_t (show (n : Int) < (l.length : Int) by omega), dec_t (show (0 : Int) ≤ (m : Int) by omega), dec_t (show (m : Int) < (l.length : Int) by omega)]
  simp only [bne_self_eq_false, cond_false, Bool.and_self, cond_true, Int.toNat_natCast]
  unfold subV eachV
  rw [vecOkB_iff.2 qn.ok, vecOkB_iff.2 qm.ok, ex, ey, ez]
  rfl
structure PQ (v : Vec) (s : Source) (t : Int) (r : Dir × Int) : Prop where
  c : (∃ d, r = (d, 0) ∧ DQ d (-sQ (s.ra - t) * val v.x + cQ (s.ra - t) * val v.y + 0 * val v.z)
    (-(sQ s.dec * cQ (s.ra - t)) * val v.x + -(sQ s.dec * sQ (s.ra - t)) * val v.y + cQ s.dec * val v.z) (cQ s.dec * cQ (s.ra - t) * val v.x + cQ s.dec * sQ (s.ra - t) * val v.y + sQ s.dec * val v.z)) ∨ r = (dirZ, 16)
end Go.Ev

namespace Go.Ev
open Go Go.Proofs
structure O_delay_Drift where
  ok : Bool
  r0 : Span
  r1 : Int
structure O_Q9_delay where
  ok : Bool
  r0 : Span
  r1 : Int
structure O_Q9_Of where
  ok : Bool
  r0 : Span
  r1 : Int
structure O_Q9_Drift where
  ok : Bool
  r0 : Span
  r1 : Int
end Go.Ev

namespace Go.Ev
open Go
theorem cmpI_lt0 (x y : Int) : decide (cmpI x y < 0) = decide (x < y) := by
  unfold cmpI
  by_cases h : y < x
  · rw [dec_t h, dec_f (show ¬ x < y by omega)]; rfl
  · rw [dec_f h]
    by_cases k : x = y
    · rw [show (x == y) = true by simpa using k, dec_f (show ¬ x < y by omega)]; rfl
    · rw [show (x == y) = false by simpa using k, dec_t (show x < y by omega)]; rfl
theorem cmpI_le (x y : Int) : decide (cmpI x y ≤ 0) = decide (x ≤ y) := by
  unfold cmpI
  by_cases h : y < x
  · rw [dec_t h, dec_f (show ¬ x ≤ y by omega)]; rfl
  · rw [dec_f h]
    by_cases k : x = y
    · rw [show (x == y) = true by simpa using k, dec_t (show x ≤ y by omega)]; rfl
    · rw [show (x == y) = false by simpa using k, dec_t (show x ≤ y by omega)]; rfl
def betweenB (f : Frac) (a b : Int) : Bool := fracOkB f && (decide (a * f.den ≤ f.num) && decide (f.num ≤ b * f.den))
theorem m_between (f : Frac) {a b : Int} (ha : fracOkB ⟨a, 1⟩ = true) (hb : fracOkB ⟨b, 1⟩ = true) : m_delay_between f a b = ⟨true, betweenB f a b⟩ := by
  unfold m_delay_between cmpF betweenB
  rw [ha, hb]
  cases fracOkB f with
  | false => rfl
  | true =>
    unfold orderI
    simp only [Bool.and_self, cond_true, bne_self_eq_false, cond_false, beq_self_eq_true, Bool.true_and, Int.mul_one, cmpI_lt0, cmpI_le]
    by_cases h : f.num < a * f.den
    · rw [dec_t h, dec_f (show ¬ a * f.den ≤ f.num by omega)]; rfl
    · rw [dec_f h, dec_t (show a * f.den ≤ f.num by omega)]; rfl
def rateB (f : Frac) : Bool := bif decide (f.num < 1) then false else betweenB f 0 1000
def readyE (g : Globe) (l : List Site) (s : Source) (r : Frac) : Int := bif checkA g l != 0 then checkA g l else bif checkSrc s != 0 then checkSrc s else bif rateB r then 0 else 8
theorem m_checkP (g : Globe) (l : List Site) : m_array_Check g l = ⟨true, checkA g l⟩ := by
  unfold m_array_Check
  simp only [m_place, cond_true]
theorem m_ready (g : Globe) (l : List Site) (s : Source) (r : Frac) : m_delay_check g l s r = ⟨true, readyE g l s r⟩ := by
  unfold m_delay_check readyE rateB
  simp only [m_checkP, m_between r (a := 0) (b := 1000) (by decide) (by decide), cond_true]
  cases (checkA g l != 0) with
  | true => rfl
  | false =>
    cases h : (checkSrc s != 0) with
    | true => simp only [cond_true, cond_false]
    | false =>
      simp only [cond_false]
      cases decide (r.num < 1) with
      | true => rfl
      | false => cases betweenB r 0 1000 <;> rfl
theorem m_rate (r : Frac) : m_Q9_Rate r = ⟨true, rateB r⟩ := by
  unfold m_Q9_Rate rateB betweenB
  change (bif (checkF r == 0) then (bif decide (0 < r.num) then ⟨true, !(lessN ⟨1000, 1⟩ r)⟩ else ⟨true, false⟩) else ⟨true, false⟩ : O_Q9_Rate) = _
  unfold checkF
  cases h : fracOkB r with
  | false => cases decide (r.num < 1) <;> rfl
  | true =>
    have ok := fracOkB_iff.1 h
    have h1 := ok.denlo; have h2 := ok.denhi
    rw [lessN_ok (a := ⟨1000, 1⟩) (b := r) (by decide) (by decide) (by omega) (by omega)]
    simp only [cond_true, beq_self_eq_true, Bool.true_and, Int.mul_one]
    by_cases c : r.num < 1
    · rw [dec_t c, dec_f (show ¬ 0 < r.num by omega)]; rfl
    · rw [dec_f c, dec_t (show 0 < r.num by omega), dec_t (show 0 * r.den ≤ r.num by omega)]
      by_cases d : r.num ≤ 1000 * r.den
      · rw [dec_t d, dec_f (show ¬ 1000 * r.den < r.num by omega)]; rfl
      · rw [dec_f d, dec_t (show 1000 * r.den < r.num by omega)]; rfl
theorem m_both (g : Globe) (l : List Site) (s : Source) : m_Q7_Both g l s = ⟨true, bif checkA g l != 0 then checkA g l else checkSrc s⟩ := by
  unfold m_Q7_Both
  simp only [m_checkRA, cond_true]
  cases (checkA g l != 0) <;> rfl
theorem m_readyR (g : Globe) (l : List Site) (s : Source) (r : Frac) : m_Q9_Ready g l s r = ⟨true, readyE g l s r⟩ := by
  unfold m_Q9_Ready readyE
  simp only [m_both, m_rate, cond_true]
  cases h : (checkA g l != 0) with
  | true => simp only [cond_true, h]
  | false =>
    simp only [cond_false]
    cases (checkSrc s != 0) with
    | true => rfl
    | false => cases rateB r <;> rfl
theorem m_greatD (l : List Site) (s : Source) (hl : l.length ≤ maxLen) : m_Q9_Great l s = ⟨true, greatB l || decide ((200 : Int) < (s.name.size : Int))⟩ := by
  unfold m_Q9_Great
  simp only [m_great l hl, cond_true]
  cases greatB l <;> rfl
def delayV (g : Globe) (l : List Site) (i j : Int) (s : Source) (t : Int) (r : Frac) : Span × Int :=
  bif (plineA g l i j s t).2 != 0 then (spanZ, (plineA g l i j s t).2) else bif (ofS r).2 != 0 then (spanZ, (ofS r).2) else mulS (plineA g l i j s t).1.z (ofS r).1
def ofV (g : Globe) (l : List Site) (i j : Int) (s : Source) (t : Int) (r : Frac) : Span × Int := bif readyE g l s r != 0 then (spanZ, readyE g l s r) else delayV g l i j s t r
theorem m_of (g : Globe) (l : List Site) (i j : Int) (s : Source) (t : Int) (r : Frac) : m_delay_Of g l i j s t r = ⟨true, (ofV g l i j s t r).1, (ofV g l i j s t r).2⟩ := by
  unfold m_delay_Of ofV delayV
  simp only [m_ready, m_pline, cond_true]
  cases (readyE g l s r != 0) with
  | true => rfl
  | false =>
    cases ((plineA g l i j s t).2 != 0) with
    | true => rfl
    | false => cases h : ((ofS r).2 != 0) <;> simp only [cond_false, cond_true] <;> rfl
theorem ready_parts {g : Globe} {l : List Site} {s : Source} {r : Frac} (h : readyE g l s r = 0) : checkA g l = 0 ∧ checkSrc s = 0 ∧ rateB r = true := by
  unfold readyE at h
  cases h1 : (checkA g l != 0) with
  | true => rw [h1, cond_true] at h; rw [h] at h1; cases h1
  | false =>
    rw [h1, cond_false] at h
    cases h2 : (checkSrc s != 0) with
    | true => rw [h2, cond_true] at h; rw [h] at h2; cases h2
    | false =>
      rw [h2, cond_false] at h
      cases h3 : rateB r with
      | false => rw [h3] at h; cases h
      | true => exact ⟨eq0_of h1, eq0_of h2, rfl⟩
def driftP (l : List Site) (i j t d : Int) : Prop := 0 ≤ i ∧ i < (l.length : Int) ∧ 0 ≤ j ∧ j < (l.length : Int) ∧ -720 ≤ d ∧ d ≤ 720 ∧ -1000000 ≤ t ∧ t ≤ 1000000 ∧ -1000000 ≤ w64 (t + d) ∧ w64 (t + d) ≤ 1000000
instance (l : List Site) (i j t d : Int) : Decidable (driftP l i j t d) := by unfold driftP; infer_instance
end Go.Ev

namespace Go.Ev
open Go Go.Proofs
structure O_W9_DelayCloses where
  ok : Bool
  r0 : Bool
end Go.Ev

namespace Go.Ev
open Go
theorem m_aliveD : m_W9_alive = ⟨true, true⟩ := by kernel_rfl
def fit9 (g : Globe) (l : List Site) (s : Source) (t : Int) (r : Frac) : Bool :=
  bif !(greatB l || decide ((200 : Int) < (s.name.size : Int))) then bif readyE g l s r == 0 then bif decide (-900000 ≤ t) then decide (t ≤ 900000) else false else false else false
theorem m_fitD (g : Globe) (l : List Site) (s : Source) (t : Int) (r : Frac) (hl : l.length ≤ maxLen) : m_W9_fit g l s t r = ⟨true, fit9 g l s t r⟩ := by
  unfold m_W9_fit fit9
  simp only [m_greatD l s hl, m_readyR, cond_true]
  cases greatB l || decide ((200 : Int) < (s.name.size : Int)) with
  | true => rfl
  | false =>
    cases readyE g l s r == 0 with
    | false => rfl
    | true => cases decide (-900000 ≤ t) <;> rfl
theorem fit9_ok {g : Globe} {l : List Site} {s : Source} {t : Int} {r : Frac} (h : fit9 g l s t r = true) : readyE g l s r = 0 ∧ -900000 ≤ t ∧ t ≤ 900000 := by
  unfold fit9 at h
  cases h1 : (greatB l || decide ((200 : Int) < (s.name.size : Int))) with
  | true => rw [h1] at h; cases h
  | false =>
    cases h2 : (readyE g l s r == 0) with
    | false => rw [h1, h2] at h; cases h
    | true =>
      by_cases c : -900000 ≤ t
      · rw [h1, h2, dec_t c] at h
        exact ⟨by simpa using h2, c, by simpa using h⟩
      · rw [h1, h2, dec_f c] at h; cases h
theorem axes_ok {s : Source} {t : Int} (h : checkSrc s = 0) (ht : -1000000 ≤ t ∧ t ≤ 1000000) : axesV s t = (axesS s.ra s.dec t, 0) := by
  unfold axesV
  rw [atS_ok (checkSrc_iff.1 h) ht]
  rfl
def wQ (s : Source) (t : Int) (v : Vec) : Rat := cQ s.dec * cQ (s.ra - t) * val v.x + cQ s.dec * sQ (s.ra - t) * val v.y + sQ s.dec * val v.z
theorem pline_v {g : Globe} {l : List Site} {i j : Int} {s : Source} {t : Int} {v : Vec} (h : checkSrc s = 0) (ht : -1000000 ≤ t ∧ t ≤ 1000000) (e : lineA g l i j = (v, 0)) : plineA g l i j s t = projF v (axesS s.ra s.dec t) := by
  unfold plineA projV
  rw [e, axes_ok h ht]
  rfl
def delayF (p : Dir × Int) (r : Frac) : Span × Int := bif p.2 != 0 then (spanZ, p.2) else bif (ofS r).2 != 0 then (spanZ, (ofS r).2) else mulS p.1.z (ofS r).1
theorem delayF_q {v : Vec} (hv : VecOk v) {r : Frac} (hr : FracOk r) (s : Source) (t : Int) : (∃ p, delayF (projF v (axesS s.ra s.dec t)) r = (p, 0) ∧ SQ p (wQ s t v * val r)) ∨ delayF (projF v (axesS s.ra s.dec t)) r = (spanZ, 16) := by
  unfold delayF
  rcases proj_q hv s.ra s.dec t with ⟨d, e, _, q⟩ | e
  · rw [e]
    rcases of_q hr with ⟨R, e2, q2⟩ | e2
    · rw [e2]
      simp only [bne_self_eq_false, cond_false]
      rcases mulS_cases q.z.ok q2.ok with ⟨p, e3, v3⟩ | e3
      · exact .inl ⟨p, e3, v3, q.z.enc.mul q2.enc e3⟩
      · exact .inr e3
    · rw [e2]
      exact .inr rfl
  · rw [e]
    exact .inr rfl
theorem rate_ok {r : Frac} (h : rateB r = true) : FracOk r := by
  unfold rateB betweenB at h
  cases h1 : decide (r.num < 1) with
  | true => rw [h1] at h; cases h
  | false =>
    rw [h1] at h
    simp only [cond_false, Bool.and_eq_true] at h
    exact fracOkB_iff.1 h.1
end Go.Ev

namespace Go.Ev
open Go Go.Proofs
structure O_Q9_Clock where
  ok : Bool
  r0 : Bool
def m_Q9_Clock (a0 : Frac) : O_Q9_Clock := bif ((checkF ⟨a0.num, a0.den⟩) != (0 : Int)) then ⟨true, false⟩ else (bif (!(lessN ⟨(1000 : Int), 1⟩ ⟨a0.num, a0.den⟩)) then ⟨true, (!(lessN ⟨a0.num, a0.den⟩ ⟨(-1000 : Int), 1⟩))⟩ else ⟨true, false⟩)
def F_Q9_Clock (_a0 : Frac) (K : AV → List Blk → Ans) (r : O_Q9_Clock) : Ans := bif r.ok then K (.v (.c (.d (.bool r.r0)))) [] else none
theorem e_Q9_Clock (a0 : Frac) (K : AV → List Blk → Ans) : evFn Tryz.prog GT EQT T_W9_fit XT noL 80 17 [.v (.agg [.int .i64 a0.num, .int .i64 a0.den])] [] (fun v M => K (finR 0 v M).1 (finR 0 v M).2) = F_Q9_Clock a0 K (m_Q9_Clock a0) := by
  unfold m_Q9_Clock
  refine Eq.trans ?_ (Eq.symm (pushT rfl (pushT rfl rfl)))
  kernel_rfl
theorem c_Q9_Clock (a0 : Frac) (hd : (m_Q9_Clock a0).ok = true) : CallsA Tryz.prog GT gbT 17 [.v (.agg [.int .i64 a0.num, .int .i64 a0.den])] [] (.v (.c (.d (.bool ((m_Q9_Clock a0).r0))))) [] := by
  refine CallsA.ofEvR g_W9_fit hEQT hmT (n0 := 0) rfl (fun _ _ _ _ => LOKn.nil) ((e_Q9_Clock a0 (fun v M => some (Res.fin v M))).trans ?_)
  unfold F_Q9_Clock
  rw [hd]
  rfl
def s_Q9_Clock : List AV → List Blk → (AV → List Blk → Ans) → Ans := fun xs bs K => match xs, bs with
  | [.v (.agg [.int .i64 a0_0, .int .i64 a0_1])], [] => F_Q9_Clock (⟨a0_0, a0_1⟩ : Frac) K (m_Q9_Clock (⟨a0_0, a0_1⟩ : Frac))
  | _, _ => none
def T_Q9_Clock : Nat → List AV → List Blk → (AV → List Blk → Ans) → Ans := upd T_W9_fit 17 s_Q9_Clock
theorem g_Q9_Clock : GOK Tryz.prog GT gbT T_Q9_Clock XT := by
  refine GOK.upd g_W9_fit (fun args w => Tryz.call17 args w) fun xs bs K r h => ?_
  unfold s_Q9_Clock at h
  split at h
  · unfold F_Q9_Clock at h
    simp only [cond_eq_ite] at h
    split at h
    · rename_i hd
      exact ⟨_, _, c_Q9_Clock _ hd, h⟩
    · cases h
  · cases h
structure R_Q9_Clocks_0 where
  k : Nat
  p5 : Int
def run_Q9_Clocks_0 (p1 : Int) (p4 : Bool) (m0 : List Frac) : Nat → Int → R_Q9_Clocks_0
  | 0, p5 => ⟨2, p5⟩
  | n + 1, p5 => bif decide (p5 < (m0.length : Int)) then (bif (decide ((0 : Int) ≤ p5) && decide (p5 < (m0.length : Int))) then (bif (m_Q9_Clock (m0.getD p5.toNat (ET.z .frac))).ok then (bif (!(m_Q9_Clock (m0.getD p5.toNat (ET.z .frac))).r0) then ⟨0, p5⟩ else run_Q9_Clocks_0 p1 p4 m0 n (w64 (p5 + (1 : Int)))) else ⟨2, p5⟩) else ⟨2, p5⟩) else ⟨1, p5⟩
def lp_Q9_Clocks_0 (p1 : Int) (p4 : Bool) (m0 : List Frac) (p5 : Int) : R_Q9_Clocks_0 := run_Q9_Clocks_0 p1 p4 m0 (2000 + (m0.length)) p5
abbrev H_Q9_Clocks_0 (p1 : Int) (p4 : Bool) (_m0 : List Frac) (p5 : Int) : TS := headT [0, 1, 4, 5] 22 [.v (.c (.aslice 0 none)), .v (.c (.d (.int .i64 p1))), .v (.c (.d (.bool p4))), .v (.c (.d (.int .i64 p5)))]
theorem b_Q9_Clocks_0 (p1 : Int) (p4 : Bool) (m0 : List Frac) (p5 : Int) : evCode Tryz.prog GT EQT T_Q9_Clock XT noL 80 (loopB Tryz.prog 16 0) (H_Q9_Clocks_0 p1 p4 m0 p5) [.arr none .frac m0] 1 (normK 1 [0, 1, 4, 5]) =
    bif decide (p5 < (m0.length : Int)) then (bif (decide ((0 : Int) ≤ p5) && decide (p5 < (m0.length : Int))) then (bif (m_Q9_Clock (m0.getD p5.toNat (ET.z .frac))).ok then (bif (!(m_Q9_Clock (m0.getD p5.toNat (ET.z .frac))).r0) then some (.st .ret (headT [0, 1, 4, 5] 22 [.v (.c (.aslice 0 none)), .v (.c (.d (.int .i64 p1))), .v (.c (.d (.bool false))), .v (.c (.d (.int .i64 p5)))]) [.arr none .frac m0] 1) else some (.st .normal (headT [0, 1, 4, 5] 22 [.v (.c (.aslice 0 none)), .v (.c (.d (.int .i64 p1))), .v (.c (.d (.bool p4))), .v (.c (.d (.int .i64 (w64 (p5 + (1 : Int))))))]) [.arr none .frac m0] 1)) else none) else none) else some (.st (.exit 0) (headT [0, 1, 4, 5] 22 [.v (.c (.aslice 0 none)), .v (.c (.d (.int .i64 p1))), .v (.c (.d (.bool p4))), .v (.c (.d (.int .i64 p5)))]) [.arr none .frac m0] 1) := by
  kernel_rfl
def o_Q9_Clocks_0 (p1 : Int) (p4 : Bool) (m0 : List Frac) (r : R_Q9_Clocks_0) : LT := .br (Nat.beq r.k 0) (.st .ret (headT [0, 1, 4, 5] 22 [.v (.c (.aslice 0 none)), .v (.c (.d (.int .i64 p1))), .v (.c (.d (.bool false))), .v (.c (.d (.int .i64 r.p5)))]) [.arr none .frac m0] 1) (.br (Nat.beq r.k 1) (.st (.exit 0) (headT [0, 1, 4, 5] 22 [.v (.c (.aslice 0 none)), .v (.c (.d (.int .i64 p1))), .v (.c (.d (.bool p4))), .v (.c (.d (.int .i64 r.p5)))]) [.arr none .frac m0] 1) (.no))
theorem r_Q9_Clocks_0 (p1 : Int) (p4 : Bool) (m0 : List Frac) : ∀ (n : Nat) (p5 : Int) (x : Ex) (T' : TS) (M' : List Blk) (N' : Nat), LReach (o_Q9_Clocks_0 p1 p4 m0 (run_Q9_Clocks_0 p1 p4 m0 n p5)) x T' M' N' → x ≠ .normal ∧ ∃ j, RoundsN Tryz.prog GT gbT 1 (loopB Tryz.prog 16 0) j (H_Q9_Clocks_0 p1 p4 m0 p5) [.arr none .frac m0] 1 x T' M' N' := by
  have hL : LOKn Tryz.prog GT gbT 1 noL (loopsIn (loopB Tryz.prog 16 0)) := fun _ _ _ _ _ _ _ _ _ h => h.elim
  intro n
  induction n with
  | zero =>
    intro p5 x T' M' N' hr
    exact False.elim (redF (redF hr))
  | succ n ih =>
    intro p5 x T' M' N'
    rw [run_Q9_Clocks_0]
    exact viaE (b_Q9_Clocks_0 p1 p4 m0 p5) (condG (o := o_Q9_Clocks_0 p1 p4 m0) (condG (o := o_Q9_Clocks_0 p1 p4 m0) (condG (o := o_Q9_Clocks_0 p1 p4 m0) (condG (o := o_Q9_Clocks_0 p1 p4 m0) (fun he hr => stopN g_Q9_Clock hEQT hmT hL he (by simp) (redT hr)) (fun he hr => goN g_Q9_Clock hEQT hmT hL he (ih (w64 (p5 + (1 : Int))) x T' M' N' hr))) (fun _ hr => False.elim (redF (redF hr)))) (fun _ hr => False.elim (redF (redF hr)))) (fun he hr => stopN g_Q9_Clock hEQT hmT hL he (by simp) (redT (redF hr))))
def f_Q9_Clocks_0 : List AV → List Blk → LT := fun vs Ms => match vs, Ms with
  | [.v (.c (.aslice 0 none)), .v (.c (.d (.int .i64 p1))), .v (.c (.d (.bool p4))), .v (.c (.d (.int .i64 p5)))], [.arr none .frac m0] => o_Q9_Clocks_0 p1 p4 m0 (lp_Q9_Clocks_0 p1 p4 m0 p5)
  | _, _ => .no
def L_Q9_Clocks_0 := LamN 2 22 1 [0, 1, 4, 5] f_Q9_Clocks_0
theorem k_Q9_Clocks_0 : LOKbn Tryz.prog GT gbT 1 L_Q9_Clocks_0 (loopB Tryz.prog 16 0) := by
  refine LOKbn.lamN (by kernel_rfl) fun vs Ms x T' M' N' hr => ?_
  unfold f_Q9_Clocks_0 at hr
  split at hr
  · obtain ⟨q1, j, q2⟩ := r_Q9_Clocks_0 _ _ _ _ _ x T' M' N' hr
    exact ⟨q1, j, q2⟩
  · exact hr.elim
structure O_Q9_Clocks where
  ok : Bool
  r0 : Bool
def m_Q9_Clocks (a0 : List Frac) (a1 : Int) : O_Q9_Clocks := bif Nat.beq (lp_Q9_Clocks_0 a1 false a0 (0 : Int)).k 0 then ⟨true, false⟩ else (bif Nat.beq (lp_Q9_Clocks_0 a1 false a0 (0 : Int)).k 1 then ⟨true, ((a0.length : Int) == a1)⟩ else ⟨false, false⟩)
def F_Q9_Clocks (a0 : List Frac) (_a1 : Int) (K : AV → List Blk → Ans) (r : O_Q9_Clocks) : Ans := bif r.ok then K (.v (.c (.d (.bool r.r0)))) [.arr none .frac a0] else none
theorem e_Q9_Clocks (a0 : List Frac) (a1 : Int) (K : AV → List Blk → Ans) : evFn Tryz.prog GT EQT T_Q9_Clock XT (orL L_Q9_Clocks_0 noL) 80 16 [.v (.c (.aslice 0 none)), .v (.c (.d (.int .i64 a1)))] [.arr none .frac a0] (fun v M => K (finR 1 v M).1 (finR 1 v M).2) = F_Q9_Clocks a0 a1 K (m_Q9_Clocks a0 a1) := by
  unfold m_Q9_Clocks
  refine Eq.trans ?_ (Eq.symm (pushT rfl (pushT rfl rfl)))
  kernel_rfl
theorem lok_Q9_Clocks : ∀ fn c, Tryz.prog.funcs[16]? = some fn → fn.body = some c → LOKn Tryz.prog GT gbT 1 (orL L_Q9_Clocks_0 noL) (loopsIn c) := by
  refine LOKn.ofF fun b hb => ?_
  have e : loopsF Tryz.prog 16 = [loopB Tryz.prog 16 0] := by kernel_rfl
  rw [e] at hb
  simp only [List.mem_cons, List.not_mem_nil, or_false] at hb
  subst hb
  exact (LOKbn.or k_Q9_Clocks_0 (fun _ _ _ _ _ _ _ h => h.elim))
theorem c_Q9_Clocks (a0 : List Frac) (a1 : Int) (hd : (m_Q9_Clocks a0 a1).ok = true) : CallsA Tryz.prog GT gbT 16 [.v (.c (.aslice 0 none)), .v (.c (.d (.int .i64 a1)))] [.arr none .frac a0] (.v (.c (.d (.bool ((m_Q9_Clocks a0 a1).r0))))) [.arr none .frac a0] := by
  refine CallsA.ofEvR g_Q9_Clock hEQT hmT (n0 := 1) rfl lok_Q9_Clocks ((e_Q9_Clocks a0 a1 (fun v M => some (Res.fin v M))).trans ?_)
  unfold F_Q9_Clocks
  rw [hd]
  rfl
def s_Q9_Clocks : List AV → List Blk → (AV → List Blk → Ans) → Ans := fun xs bs K => match xs, bs with
  | [.v (.c (.aslice 0 none)), .v (.c (.d (.int .i64 a1)))], [.arr none .frac a0] => F_Q9_Clocks a0 a1 K (m_Q9_Clocks a0 a1)
  | _, _ => none
def T_Q9_Clocks : Nat → List AV → List Blk → (AV → List Blk → Ans) → Ans := upd T_Q9_Clock 16 s_Q9_Clocks
theorem g_Q9_Clocks : GOK Tryz.prog GT gbT T_Q9_Clocks XT := by
  refine GOK.upd g_Q9_Clock (fun args w => Tryz.call16 args w) fun xs bs K r h => ?_
  unfold s_Q9_Clocks at h
  split at h
  · unfold F_Q9_Clocks at h
    simp only [cond_eq_ite] at h
    split at h
    · rename_i hd
      exact ⟨_, _, c_Q9_Clocks _ _ hd, h⟩
    · cases h
  · cases h
structure R_Q9_Same_0 where
  k : Nat
  p5 : Int
def run_Q9_Same_0 (p4 : Bool) (m0 : List Delay) (m1 : List Delay) : Nat → Int → R_Q9_Same_0
  | 0, p5 => ⟨2, p5⟩
  | n + 1, p5 => bif decide (p5 < (m0.length : Int)) then (bif (decide ((0 : Int) ≤ p5) && decide (p5 < (m0.length : Int))) then (bif (decide ((0 : Int) ≤ p5) && decide (p5 < (m1.length : Int))) then (bif (!(eqAll [.int .i64 ((m0.getD p5.toNat (ET.z .delay)).whole), .int .i64 (((m0.getD p5.toNat (ET.z .delay)).part).lo), .int .i64 (((m0.getD p5.toNat (ET.z .delay)).part).hi)] [.int .i64 ((m1.getD p5.toNat (ET.z .delay)).whole), .int .i64 (((m1.getD p5.toNat (ET.z .delay)).part).lo), .int .i64 (((m1.getD p5.toNat (ET.z .delay)).part).hi)])) then ⟨0, p5⟩ else run_Q9_Same_0 p4 m0 m1 n (w64 (p5 + (1 : Int)))) else ⟨2, p5⟩) else ⟨2, p5⟩) else ⟨1, p5⟩
def lp_Q9_Same_0 (p4 : Bool) (m0 : List Delay) (m1 : List Delay) (p5 : Int) : R_Q9_Same_0 := run_Q9_Same_0 p4 m0 m1 (2000 + (m0.length + m1.length)) p5
abbrev H_Q9_Same_0 (p4 : Bool) (_m0 : List Delay) (_m1 : List Delay) (p5 : Int) : TS := headT [0, 1, 4, 5] 26 [.v (.c (.aslice 0 none)), .v (.c (.aslice 1 none)), .v (.c (.d (.bool p4))), .v (.c (.d (.int .i64 p5)))]
theorem b_Q9_Same_0 (p4 : Bool) (m0 : List Delay) (m1 : List Delay) (p5 : Int) : evCode Tryz.prog GT EQT T_Q9_Clocks XT noL 80 (loopB Tryz.prog 20 0) (H_Q9_Same_0 p4 m0 m1 p5) [.arr none .delay m0, .arr none .delay m1] 2 (normK 2 [0, 1, 4, 5]) =
    bif decide (p5 < (m0.length : Int)) then (bif (decide ((0 : Int) ≤ p5) && decide (p5 < (m0.length : Int))) then (bif (decide ((0 : Int) ≤ p5) && decide (p5 < (m1.length : Int))) then (bif (!(eqAll [.int .i64 ((m0.getD p5.toNat (ET.z .delay)).whole), .int .i64 (((m0.getD p5.toNat (ET.z .delay)).part).lo), .int .i64 (((m0.getD p5.toNat (ET.z .delay)).part).hi)] [.int .i64 ((m1.getD p5.toNat (ET.z .delay)).whole), .int .i64 (((m1.getD p5.toNat (ET.z .delay)).part).lo), .int .i64 (((m1.getD p5.toNat (ET.z .delay)).part).hi)])) then some (.st .ret (headT [0, 1, 4, 5] 26 [.v (.c (.aslice 0 none)), .v (.c (.aslice 1 none)), .v (.c (.d (.bool false))), .v (.c (.d (.int .i64 p5)))]) [.arr none .delay m0, .arr none .delay m1] 2) else some (.st .normal (headT [0, 1, 4, 5] 26 [.v (.c (.aslice 0 none)), .v (.c (.aslice 1 none)), .v (.c (.d (.bool p4))), .v (.c (.d (.int .i64 (w64 (p5 + (1 : Int))))))]) [.arr none .delay m0, .arr none .delay m1] 2)) else none) else none) else some (.st (.exit 0) (headT [0, 1, 4, 5] 26 [.v (.c (.aslice 0 none)), .v (.c (.aslice 1 none)), .v (.c (.d (.bool p4))), .v (.c (.d (.int .i64 p5)))]) [.arr none .delay m0, .arr none .delay m1] 2) := by
  kernel_rfl
def o_Q9_Same_0 (p4 : Bool) (m0 : List Delay) (m1 : List Delay) (r : R_Q9_Same_0) : LT := .br (Nat.beq r.k 0) (.st .ret (headT [0, 1, 4, 5] 26 [.v (.c (.aslice 0 none)), .v (.c (.aslice 1 none)), .v (.c (.d (.bool false))), .v (.c (.d (.int .i64 r.p5)))]) [.arr none .delay m0, .arr none .delay m1] 2) (.br (Nat.beq r.k 1) (.st (.exit 0) (headT [0, 1, 4, 5] 26 [.v (.c (.aslice 0 none)), .v (.c (.aslice 1 none)), .v (.c (.d (.bool p4))), .v (.c (.d (.int .i64 r.p5)))]) [.arr none .delay m0, .arr none .delay m1] 2) (.no))
theorem r_Q9_Same_0 (p4 : Bool) (m0 : List Delay) (m1 : List Delay) : ∀ (n : Nat) (p5 : Int) (x : Ex) (T' : TS) (M' : List Blk) (N' : Nat), LReach (o_Q9_Same_0 p4 m0 m1 (run_Q9_Same_0 p4 m0 m1 n p5)) x T' M' N' → x ≠ .normal ∧ ∃ j, RoundsN Tryz.prog GT gbT 2 (loopB Tryz.prog 20 0) j (H_Q9_Same_0 p4 m0 m1 p5) [.arr none .delay m0, .arr none .delay m1] 2 x T' M' N' := by
  have hL : LOKn Tryz.prog GT gbT 2 noL (loopsIn (loopB Tryz.prog 20 0)) := fun _ _ _ _ _ _ _ _ _ h => h.elim
  intro n
  induction n with
  | zero =>
    intro p5 x T' M' N' hr
    exact False.elim (redF (redF hr))
  | succ n ih =>
    intro p5 x T' M' N'
    rw [run_Q9_Same_0]
    exact viaE (b_Q9_Same_0 p4 m0 m1 p5) (condG (o := o_Q9_Same_0 p4 m0 m1) (condG (o := o_Q9_Same_0 p4 m0 m1) (condG (o := o_Q9_Same_0 p4 m0 m1) (condG (o := o_Q9_Same_0 p4 m0 m1) (fun he hr => stopN g_Q9_Clocks hEQT hmT hL he (by simp) (redT hr)) (fun he hr => goN g_Q9_Clocks hEQT hmT hL he (ih (w64 (p5 + (1 : Int))) x T' M' N' hr))) (fun _ hr => False.elim (redF (redF hr)))) (fun _ hr => False.elim (redF (redF hr)))) (fun he hr => stopN g_Q9_Clocks hEQT hmT hL he (by simp) (redT (redF hr))))
def f_Q9_Same_0 : List AV → List Blk → LT := fun vs Ms => match vs, Ms with
  | [.v (.c (.aslice 0 none)), .v (.c (.aslice 1 none)), .v (.c (.d (.bool p4))), .v (.c (.d (.int .i64 p5)))], [.arr none .delay m0, .arr none .delay m1] => o_Q9_Same_0 p4 m0 m1 (lp_Q9_Same_0 p4 m0 m1 p5)
  | _, _ => .no
def L_Q9_Same_0 := LamN 4 26 2 [0, 1, 4, 5] f_Q9_Same_0
theorem k_Q9_Same_0 : LOKbn Tryz.prog GT gbT 2 L_Q9_Same_0 (loopB Tryz.prog 20 0) := by
  refine LOKbn.lamN (by kernel_rfl) fun vs Ms x T' M' N' hr => ?_
  unfold f_Q9_Same_0 at hr
  split at hr
  · obtain ⟨q1, j, q2⟩ := r_Q9_Same_0 _ _ _ _ _ x T' M' N' hr
    exact ⟨q1, j, q2⟩
  · exact hr.elim
structure O_Q9_Same where
  ok : Bool
  r0 : Bool
def m_Q9_Same (a0 : List Delay) (a1 : List Delay) : O_Q9_Same := bif ((a0.length : Int) != (a1.length : Int)) then ⟨true, false⟩ else (bif Nat.beq (lp_Q9_Same_0 false a0 a1 (0 : Int)).k 0 then ⟨true, false⟩ else (bif Nat.beq (lp_Q9_Same_0 false a0 a1 (0 : Int)).k 1 then ⟨true, true⟩ else ⟨false, false⟩))
def F_Q9_Same (a0 : List Delay) (a1 : List Delay) (K : AV → List Blk → Ans) (r : O_Q9_Same) : Ans := bif r.ok then K (.v (.c (.d (.bool r.r0)))) [.arr none .delay a0, .arr none .delay a1] else none
theorem e_Q9_Same (a0 : List Delay) (a1 : List Delay) (K : AV → List Blk → Ans) : evFn Tryz.prog GT EQT T_Q9_Clocks XT (orL L_Q9_Same_0 noL) 80 20 [.v (.c (.aslice 0 none)), .v (.c (.aslice 1 none))] [.arr none .delay a0, .arr none .delay a1] (fun v M => K (finR 2 v M).1 (finR 2 v M).2) = F_Q9_Same a0 a1 K (m_Q9_Same a0 a1) := by
  unfold m_Q9_Same
  refine Eq.trans ?_ (Eq.symm (pushT rfl (pushT rfl (pushT rfl rfl))))
  kernel_rfl
theorem lok_Q9_Same : ∀ fn c, Tryz.prog.funcs[20]? = some fn → fn.body = some c → LOKn Tryz.prog GT gbT 2 (orL L_Q9_Same_0 noL) (loopsIn c) := by
  refine LOKn.ofF fun b hb => ?_
  have e : loopsF Tryz.prog 20 = [loopB Tryz.prog 20 0] := by kernel_rfl
  rw [e] at hb
  simp only [List.mem_cons, List.not_mem_nil, or_false] at hb
  subst hb
  exact (LOKbn.or k_Q9_Same_0 (fun _ _ _ _ _ _ _ h => h.elim))
theorem c_Q9_Same (a0 : List Delay) (a1 : List Delay) (hd : (m_Q9_Same a0 a1).ok = true) : CallsA Tryz.prog GT gbT 20 [.v (.c (.aslice 0 none)), .v (.c (.aslice 1 none))] [.arr none .delay a0, .arr none .delay a1] (.v (.c (.d (.bool ((m_Q9_Same a0 a1).r0))))) [.arr none .delay a0, .arr none .delay a1] := by
  refine CallsA.ofEvR g_Q9_Clocks hEQT hmT (n0 := 2) rfl lok_Q9_Same ((e_Q9_Same a0 a1 (fun v M => some (Res.fin v M))).trans ?_)
  unfold F_Q9_Same
  rw [hd]
  rfl
def s_Q9_Same : List AV → List Blk → (AV → List Blk → Ans) → Ans := fun xs bs K => match xs, bs with
  | [.v (.c (.aslice 0 none)), .v (.c (.aslice 1 none))], [.arr none .delay a0, .arr none .delay a1] => F_Q9_Same a0 a1 K (m_Q9_Same a0 a1)
  | _, _ => none
def T_Q9_Same : Nat → List AV → List Blk → (AV → List Blk → Ans) → Ans := upd T_Q9_Clocks 20 s_Q9_Same
theorem g_Q9_Same : GOK Tryz.prog GT gbT T_Q9_Same XT := by
  refine GOK.upd g_Q9_Clocks (fun args w => Tryz.call20 args w) fun xs bs K r h => ?_
  unfold s_Q9_Same at h
  split at h
  · unfold F_Q9_Same at h
    simp only [cond_eq_ite] at h
    split at h
    · rename_i hd
      exact ⟨_, _, c_Q9_Same _ _ hd, h⟩
    · cases h
  · cases h
structure R_delay_Table_0 where
  k : Nat
  p39 : Int
def run_delay_Table_0 (p4 : Int) (p13 : Int) (p38 : Int) (m0 : List Site) (m1 : List Frac) (q2 : Globe) (q3 : Source) (q4 : Frac) (m5 : List Delay) : Nat → Int → R_delay_Table_0
  | 0, p39 => ⟨2, p39⟩
  | n + 1, p39 => bif decide (p39 < p38) then (bif (decide ((0 : Int) ≤ p39) && decide (p39 < (m1.length : Int))) then (bif (m_delay_between (m1.getD p39.toNat (ET.z .frac)) (-1000 : Int) (1000 : Int)).ok then (bif (!(m_delay_between (m1.getD p39.toNat (ET.z .frac)) (-1000 : Int) (1000 : Int)).r0) then ⟨0, p39⟩ else run_delay_Table_0 p4 p13 p38 m0 m1 q2 q3 q4 m5 n (w64 (p39 + (1 : Int)))) else ⟨2, p39⟩) else ⟨2, p39⟩) else ⟨1, p39⟩
def lp_delay_Table_0 (p4 : Int) (p13 : Int) (p38 : Int) (m0 : List Site) (m1 : List Frac) (q2 : Globe) (q3 : Source) (q4 : Frac) (m5 : List Delay) (p39 : Int) : R_delay_Table_0 := run_delay_Table_0 p4 p13 p38 m0 m1 q2 q3 q4 m5 (2000 + (m0.length + m1.length + m5.length)) p39
abbrev H_delay_Table_0 (p4 : Int) (p13 : Int) (p38 : Int) (_m0 : List Site) (_m1 : List Frac) (_q2 : Globe) (_q3 : Source) (_q4 : Frac) (_m5 : List Delay) (p39 : Int) : TS := headT [1, 2, 4, 6, 9, 11, 12, 13, 37, 38, 39] 116 [.v (.c (.aslice 0 none)), .v (.c (.aslice 1 none)), .v (.c (.d (.int .i64 p4))), .v (.c (.ptr 2 0)), .v (.c (.ptr 3 0)), .v (.c (.ptr 4 0)), .v (.c (.aslice 5 none)), .v (.c (.d (.int .i64 p13))), .v (.c (.aslice 1 none)), .v (.c (.d (.int .i64 p38))), .v (.c (.d (.int .i64 p39)))]
theorem b_delay_Table_0 (p4 : Int) (p13 : Int) (p38 : Int) (m0 : List Site) (m1 : List Frac) (q2 : Globe) (q3 : Source) (q4 : Frac) (m5 : List Delay) (p39 : Int) : evCode Tryz.prog GT EQT (inl Tryz.prog GT EQT XT [31] T_Q9_Same 150 2) XT noL 150 (loopB Tryz.prog 18 0) (H_delay_Table_0 p4 p13 p38 m0 m1 q2 q3 q4 m5 p39) [.arr none .site m0, .arr none .frac m1, .rw 23 [.int .i64 q2.a, .int .i64 q2.b], .rw 26 [.str q3.name, .int .i64 q3.ra, .int .i64 q3.dec], .rw 28 [.int .i64 q4.num, .int .i64 q4.den], .arr (some 53) .delay m5] 6 (normK 2 [1, 2, 4, 6, 9, 11, 12, 13, 37, 38, 39]) =
    bif decide (p39 < p38) then (bif (decide ((0 : Int) ≤ p39) && decide (p39 < (m1.length : Int))) then (bif (m_delay_between (m1.getD p39.toNat (ET.z .frac)) (-1000 : Int) (1000 : Int)).ok then (bif (!(m_delay_between (m1.getD p39.toNat (ET.z .frac)) (-1000 : Int) (1000 : Int)).r0) then some (.st .ret (headT [1, 2, 4, 6, 9, 11, 12, 13, 37, 38, 39] 116 [.v (.c (.aslice 0 none)), .v (.c (.aslice 1 none)), .v (.c (.d (.int .i64 p4))), .v (.c (.ptr 2 0)), .v (.c (.ptr 3 0)), .v (.c (.ptr 4 0)), .v (.c (.aslice 5 none)), .v (.c (.d (.int .i64 (8 : Int)))), .v (.c (.aslice 1 none)), .v (.c (.d (.int .i64 p38))), .v (.c (.d (.int .i64 p39)))]) [.arr none .site m0, .arr none .frac m1, .rw 23 [.int .i64 q2.a, .int .i64 q2.b], .rw 26 [.str q3.name, .int .i64 q3.ra, .int .i64 q3.dec], .rw 28 [.int .i64 q4.num, .int .i64 q4.den], .arr (some 53) .delay ([] : List Delay)] 6) else some (.st .normal (headT [1, 2, 4, 6, 9, 11, 12, 13, 37, 38, 39] 116 [.v (.c (.aslice 0 none)), .v (.c (.aslice 1 none)), .v (.c (.d (.int .i64 p4))), .v (.c (.ptr 2 0)), .v (.c (.ptr 3 0)), .v (.c (.ptr 4 0)), .v (.c (.aslice 5 none)), .v (.c (.d (.int .i64 p13))), .v (.c (.aslice 1 none)), .v (.c (.d (.int .i64 p38))), .v (.c (.d (.int .i64 (w64 (p39 + (1 : Int))))))]) [.arr none .site m0, .arr none .frac m1, .rw 23 [.int .i64 q2.a, .int .i64 q2.b], .rw 26 [.str q3.name, .int .i64 q3.ra, .int .i64 q3.dec], .rw 28 [.int .i64 q4.num, .int .i64 q4.den], .arr (some 53) .delay m5] 6)) else none) else none) else some (.st (.exit 0) (headT [1, 2, 4, 6, 9, 11, 12, 13, 37, 38, 39] 116 [.v (.c (.aslice 0 none)), .v (.c (.aslice 1 none)), .v (.c (.d (.int .i64 p4))), .v (.c (.ptr 2 0)), .v (.c (.ptr 3 0)), .v (.c (.ptr 4 0)), .v (.c (.aslice 5 none)), .v (.c (.d (.int .i64 p13))), .v (.c (.aslice 1 none)), .v (.c (.d (.int .i64 p38))), .v (.c (.d (.int .i64 p39)))]) [.arr none .site m0, .arr none .frac m1, .rw 23 [.int .i64 q2.a, .int .i64 q2.b], .rw 26 [.str q3.name, .int .i64 q3.ra, .int .i64 q3.dec], .rw 28 [.int .i64 q4.num, .int .i64 q4.den], .arr (some 53) .delay m5] 6) := by
  kernel_rfl
def o_delay_Table_0 (p4 : Int) (p13 : Int) (p38 : Int) (m0 : List Site) (m1 : List Frac) (q2 : Globe) (q3 : Source) (q4 : Frac) (m5 : List Delay) (r : R_delay_Table_0) : LT := .br (Nat.beq r.k 0) (.st .ret (headT [1, 2, 4, 6, 9, 11, 12, 13, 37, 38, 39] 116 [.v (.c (.aslice 0 none)), .v (.c (.aslice 1 none)), .v (.c (.d (.int .i64 p4))), .v (.c (.ptr 2 0)), .v (.c (.ptr 3 0)), .v (.c (.ptr 4 0)), .v (.c (.aslice 5 none)), .v (.c (.d (.int .i64 (8 : Int)))), .v (.c (.aslice 1 none)), .v (.c (.d (.int .i64 p38))), .v (.c (.d (.int .i64 r.p39)))]) [.arr none .site m0, .arr none .frac m1, .rw 23 [.int .i64 q2.a, .int .i64 q2.b], .rw 26 [.str q3.name, .int .i64 q3.ra, .int .i64 q3.dec], .rw 28 [.int .i64 q4.num, .int .i64 q4.den], .arr (some 53) .delay ([] : List Delay)] 6) (.br (Nat.beq r.k 1) (.st (.exit 0) (headT [1, 2, 4, 6, 9, 11, 12, 13, 37, 38, 39] 116 [.v (.c (.aslice 0 none)), .v (.c (.aslice 1 none)), .v (.c (.d (.int .i64 p4))), .v (.c (.ptr 2 0)), .v (.c (.ptr 3 0)), .v (.c (.ptr 4 0)), .v (.c (.aslice 5 none)), .v (.c (.d (.int .i64 p13))), .v (.c (.aslice 1 none)), .v (.c (.d (.int .i64 p38))), .v (.c (.d (.int .i64 r.p39)))]) [.arr none .site m0, .arr none .frac m1, .rw 23 [.int .i64 q2.a, .int .i64 q2.b], .rw 26 [.str q3.name, .int .i64 q3.ra, .int .i64 q3.dec], .rw 28 [.int .i64 q4.num, .int .i64 q4.den], .arr (some 53) .delay m5] 6) (.no))
theorem r_delay_Table_0 (p4 : Int) (p13 : Int) (p38 : Int) (m0 : List Site) (m1 : List Frac) (q2 : Globe) (q3 : Source) (q4 : Frac) (m5 : List Delay) : ∀ (n : Nat) (p39 : Int) (x : Ex) (T' : TS) (M' : List Blk) (N' : Nat), LReach (o_delay_Table_0 p4 p13 p38 m0 m1 q2 q3 q4 m5 (run_delay_Table_0 p4 p13 p38 m0 m1 q2 q3 q4 m5 n p39)) x T' M' N' → x ≠ .normal ∧ ∃ j, RoundsN Tryz.prog GT gbT 2 (loopB Tryz.prog 18 0) j (H_delay_Table_0 p4 p13 p38 m0 m1 q2 q3 q4 m5 p39) [.arr none .site m0, .arr none .frac m1, .rw 23 [.int .i64 q2.a, .int .i64 q2.b], .rw 26 [.str q3.name, .int .i64 q3.ra, .int .i64 q3.dec], .rw 28 [.int .i64 q4.num, .int .i64 q4.den], .arr (some 53) .delay m5] 6 x T' M' N' := by
  have hL : LOKn Tryz.prog GT gbT 2 noL (loopsIn (loopB Tryz.prog 18 0)) := fun _ _ _ _ _ _ _ _ _ h => h.elim
  intro n
  induction n with
  | zero =>
    intro p39 x T' M' N' hr
    exact False.elim (redF (redF hr))
  | succ n ih =>
    intro p39 x T' M' N'
    rw [run_delay_Table_0]
    exact viaE (b_delay_Table_0 p4 p13 p38 m0 m1 q2 q3 q4 m5 p39) (condG (o := o_delay_Table_0 p4 p13 p38 m0 m1 q2 q3 q4 m5) (condG (o := o_delay_Table_0 p4 p13 p38 m0 m1 q2 q3 q4 m5) (condG (o := o_delay_Table_0 p4 p13 p38 m0 m1 q2 q3 q4 m5) (condG (o := o_delay_Table_0 p4 p13 p38 m0 m1 q2 q3 q4 m5) (fun he hr => stopN (g_Q9_Same.inl hEQT hmT (fun f hf => by simp only [List.mem_cons, List.not_mem_nil, or_false] at hf; subst hf; exact (fun args w => Tryz.call31 args w)) 150 2) hEQT hmT hL he (by simp) (redT hr)) (fun he hr => goN (g_Q9_Same.inl hEQT hmT (fun f hf => by simp only [List.mem_cons, List.not_mem_nil, or_false] at hf; subst hf; exact (fun args w => Tryz.call31 args w)) 150 2) hEQT hmT hL he (ih (w64 (p39 + (1 : Int))) x T' M' N' hr))) (fun _ hr => False.elim (redF (redF hr)))) (fun _ hr => False.elim (redF (redF hr)))) (fun he hr => stopN (g_Q9_Same.inl hEQT hmT (fun f hf => by simp only [List.mem_cons, List.not_mem_nil, or_false] at hf; subst hf; exact (fun args w => Tryz.call31 args w)) 150 2) hEQT hmT hL he (by simp) (redT (redF hr))))
def f_delay_Table_0 : List AV → List Blk → LT := fun vs Ms => match vs, Ms with
  | [.v (.c (.aslice 0 none)), .v (.c (.aslice 1 none)), .v (.c (.d (.int .i64 p4))), .v (.c (.ptr 2 0)), .v (.c (.ptr 3 0)), .v (.c (.ptr 4 0)), .v (.c (.aslice 5 none)), .v (.c (.d (.int .i64 p13))), .v (.c (.aslice 1 none)), .v (.c (.d (.int .i64 p38))), .v (.c (.d (.int .i64 p39)))], [.arr none .site m0, .arr none .frac m1, .rw 23 [.int .i64 q2_0, .int .i64 q2_1], .rw 26 [.str q3_0, .int .i64 q3_1, .int .i64 q3_2], .rw 28 [.int .i64 q4_0, .int .i64 q4_1], .arr (some 53) .delay m5] => o_delay_Table_0 p4 p13 p38 m0 m1 (⟨q2_0, q2_1⟩ : Globe) (⟨q3_0, q3_1, q3_2⟩ : Source) (⟨q4_0, q4_1⟩ : Frac) m5 (lp_delay_Table_0 p4 p13 p38 m0 m1 (⟨q2_0, q2_1⟩ : Globe) (⟨q3_0, q3_1, q3_2⟩ : Source) (⟨q4_0, q4_1⟩ : Frac) m5 p39)
  | _, _ => .no
def L_delay_Table_0 := LamN 7 116 2 [1, 2, 4, 6, 9, 11, 12, 13, 37, 38, 39] f_delay_Table_0
theorem k_delay_Table_0 : LOKbn Tryz.prog GT gbT 2 L_delay_Table_0 (loopB Tryz.prog 18 0) := by
  refine LOKbn.lamN (by kernel_rfl) fun vs Ms x T' M' N' hr => ?_
  unfold f_delay_Table_0 at hr
  split at hr
  · obtain ⟨q1, j, q2⟩ := r_delay_Table_0 _ _ _ _ _ _ _ _ _ _ _ x T' M' N' hr
    exact ⟨q1, j, q2⟩
  · exact hr.elim
structure R_delay_Table_1 where
  k : Nat
  p56 : Int
  m6 : List Delay
def run_delay_Table_1 (p4 : Int) (p13 : Int) (p55 : Int) (m0 : List Site) (m1 : List Frac) (q2 : Globe) (q3 : Source) (q4 : Frac) (m5 : List Delay) : Nat → Int → List Delay → R_delay_Table_1
  | 0, p56, m6 => ⟨6, p56, m6⟩
  | n + 1, p56, m6 => bif decide (p56 < p55) then (bif (m_delay_Of q2 m0 (0 : Int) p56 q3 p4 q4).ok then (bif ((m_delay_Of q2 m0 (0 : Int) p56 q3 p4 q4).r1 != (0 : Int)) then ⟨0, p56, m6⟩ else (bif (decide ((0 : Int) ≤ p56) && decide (p56 < (m1.length : Int))) then (bif (decide ((0 : Int) ≤ (0 : Int)) && decide ((0 : Int) < (m1.length : Int))) then (bif ((subF ⟨((m1.getD p56.toNat (ET.z .frac)).num), ((m1.getD p56.toNat (ET.z .frac)).den)⟩ ⟨((m1.getD 0 (ET.z .frac)).num), ((m1.getD 0 (ET.z .frac)).den)⟩).2 != (0 : Int)) then ⟨1, p56, m6⟩ else (bif ((ofS ⟨(((subF ⟨((m1.getD p56.toNat (ET.z .frac)).num), ((m1.getD p56.toNat (ET.z .frac)).den)⟩ ⟨((m1.getD 0 (ET.z .frac)).num), ((m1.getD 0 (ET.z .frac)).den)⟩).1).num), (((subF ⟨((m1.getD p56.toNat (ET.z .frac)).num), ((m1.getD p56.toNat (ET.z .frac)).den)⟩ ⟨((m1.getD 0 (ET.z .frac)).num), ((m1.getD 0 (ET.z .frac)).den)⟩).1).den)⟩).2 != (0 : Int)) then ⟨2, p56, m6⟩ else (bif ((addS ⟨(((m_delay_Of q2 m0 (0 : Int) p56 q3 p4 q4).r0).lo), (((m_delay_Of q2 m0 (0 : Int) p56 q3 p4 q4).r0).hi)⟩ ⟨(((ofS ⟨(((subF ⟨((m1.getD p56.toNat (ET.z .frac)).num), ((m1.getD p56.toNat (ET.z .frac)).den)⟩ ⟨((m1.getD 0 (ET.z .frac)).num), ((m1.getD 0 (ET.z .frac)).den)⟩).1).num), (((subF ⟨((m1.getD p56.toNat (ET.z .frac)).num), ((m1.getD p56.toNat (ET.z .frac)).den)⟩ ⟨((m1.getD 0 (ET.z .frac)).num), ((m1.getD 0 (ET.z .frac)).den)⟩).1).den)⟩).1).lo), (((ofS ⟨(((subF ⟨((m1.getD p56.toNat (ET.z .frac)).num), ((m1.getD p56.toNat (ET.z .frac)).den)⟩ ⟨((m1.getD 0 (ET.z .frac)).num), ((m1.getD 0 (ET.z .frac)).den)⟩).1).num), (((subF ⟨((m1.getD p56.toNat (ET.z .frac)).num), ((m1.getD p56.toNat (ET.z .frac)).den)⟩ ⟨((m1.getD 0 (ET.z .frac)).num), ((m1.getD 0 (ET.z .frac)).den)⟩).1).den)⟩).1).hi)⟩).2 != (0 : Int)) then ⟨3, p56, m6⟩ else (bif (m_delay_Split ((addS ⟨(((m_delay_Of q2 m0 (0 : Int) p56 q3 p4 q4).r0).lo), (((m_delay_Of q2 m0 (0 : Int) p56 q3 p4 q4).r0).hi)⟩ ⟨(((ofS ⟨(((subF ⟨((m1.getD p56.toNat (ET.z .frac)).num), ((m1.getD p56.toNat (ET.z .frac)).den)⟩ ⟨((m1.getD 0 (ET.z .frac)).num), ((m1.getD 0 (ET.z .frac)).den)⟩).1).num), (((subF ⟨((m1.getD p56.toNat (ET.z .frac)).num), ((m1.getD p56.toNat (ET.z .frac)).den)⟩ ⟨((m1.getD 0 (ET.z .frac)).num), ((m1.getD 0 (ET.z .frac)).den)⟩).1).den)⟩).1).lo), (((ofS ⟨(((subF ⟨((m1.getD p56.toNat (ET.z .frac)).num), ((m1.getD p56.toNat (ET.z .frac)).den)⟩ ⟨((m1.getD 0 (ET.z .frac)).num), ((m1.getD 0 (ET.z .frac)).den)⟩).1).num), (((subF ⟨((m1.getD p56.toNat (ET.z .frac)).num), ((m1.getD p56.toNat (ET.z .frac)).den)⟩ ⟨((m1.getD 0 (ET.z .frac)).num), ((m1.getD 0 (ET.z .frac)).den)⟩).1).den)⟩).1).hi)⟩).1)).ok then (bif (decide ((0 : Int) ≤ p56) && decide (p56 < (m6.length : Int))) then (bif ((m_delay_Split ((addS ⟨(((m_delay_Of q2 m0 (0 : Int) p56 q3 p4 q4).r0).lo), (((m_delay_Of q2 m0 (0 : Int) p56 q3 p4 q4).r0).hi)⟩ ⟨(((ofS ⟨(((subF ⟨((m1.getD p56.toNat (ET.z .frac)).num), ((m1.getD p56.toNat (ET.z .frac)).den)⟩ ⟨((m1.getD 0 (ET.z .frac)).num), ((m1.getD 0 (ET.z .frac)).den)⟩).1).num), (((subF ⟨((m1.getD p56.toNat (ET.z .frac)).num), ((m1.getD p56.toNat (ET.z .frac)).den)⟩ ⟨((m1.getD 0 (ET.z .frac)).num), ((m1.getD 0 (ET.z .frac)).den)⟩).1).den)⟩).1).lo), (((ofS ⟨(((subF ⟨((m1.getD p56.toNat (ET.z .frac)).num), ((m1.getD p56.toNat (ET.z .frac)).den)⟩ ⟨((m1.getD 0 (ET.z .frac)).num), ((m1.getD 0 (ET.z .frac)).den)⟩).1).num), (((subF ⟨((m1.getD p56.toNat (ET.z .frac)).num), ((m1.getD p56.toNat (ET.z .frac)).den)⟩ ⟨((m1.getD 0 (ET.z .frac)).num), ((m1.getD 0 (ET.z .frac)).den)⟩).1).den)⟩).1).hi)⟩).1)).r1 != (0 : Int)) then ⟨4, p56, m6⟩ else run_delay_Table_1 p4 p13 p55 m0 m1 q2 q3 q4 m5 n (w64 (p56 + (1 : Int))) (m6.set p56.toNat ((m_delay_Split ((addS ⟨(((m_delay_Of q2 m0 (0 : Int) p56 q3 p4 q4).r0).lo), (((m_delay_Of q2 m0 (0 : Int) p56 q3 p4 q4).r0).hi)⟩ ⟨(((ofS ⟨(((subF ⟨((m1.getD p56.toNat (ET.z .frac)).num), ((m1.getD p56.toNat (ET.z .frac)).den)⟩ ⟨((m1.getD 0 (ET.z .frac)).num), ((m1.getD 0 (ET.z .frac)).den)⟩).1).num), (((subF ⟨((m1.getD p56.toNat (ET.z .frac)).num), ((m1.getD p56.toNat (ET.z .frac)).den)⟩ ⟨((m1.getD 0 (ET.z .frac)).num), ((m1.getD 0 (ET.z .frac)).den)⟩).1).den)⟩).1).lo), (((ofS ⟨(((subF ⟨((m1.getD p56.toNat (ET.z .frac)).num), ((m1.getD p56.toNat (ET.z .frac)).den)⟩ ⟨((m1.getD 0 (ET.z .frac)).num), ((m1.getD 0 (ET.z .frac)).den)⟩).1).num), (((subF ⟨((m1.getD p56.toNat (ET.z .frac)).num), ((m1.getD p56.toNat (ET.z .frac)).den)⟩ ⟨((m1.getD 0 (ET.z .frac)).num), ((m1.getD 0 (ET.z .frac)).den)⟩).1).den)⟩).1).hi)⟩).1)).r0))) else ⟨6, p56, m6⟩) else ⟨6, p56, m6⟩)))) else ⟨6, p56, m6⟩) else ⟨6, p56, m6⟩)) else ⟨6, p56, m6⟩) else ⟨5, p56, m6⟩
def lp_delay_Table_1 (p4 : Int) (p13 : Int) (p55 : Int) (m0 : List Site) (m1 : List Frac) (q2 : Globe) (q3 : Source) (q4 : Frac) (m5 : List Delay) (p56 : Int) (m6 : List Delay) : R_delay_Table_1 := run_delay_Table_1 p4 p13 p55 m0 m1 q2 q3 q4 m5 (2000 + (m0.length + m1.length + m5.length + m6.length)) p56 m6
abbrev H_delay_Table_1 (p4 : Int) (p13 : Int) (p55 : Int) (_m0 : List Site) (_m1 : List Frac) (_q2 : Globe) (_q3 : Source) (_q4 : Frac) (_m5 : List Delay) (p56 : Int) (_m6 : List Delay) : TS := headT [1, 2, 4, 6, 9, 11, 12, 13, 17, 55, 56] 116 [.v (.c (.aslice 0 none)), .v (.c (.aslice 1 none)), .v (.c (.d (.int .i64 p4))), .v (.c (.ptr 2 0)), .v (.c (.ptr 3 0)), .v (.c (.ptr 4 0)), .v (.c (.aslice 5 none)), .v (.c (.d (.int .i64 p13))), .v (.c (.aslice 6 none)), .v (.c (.d (.int .i64 p55))), .v (.c (.d (.int .i64 p56)))]
theorem b_delay_Table_1 (p4 : Int) (p13 : Int) (p55 : Int) (m0 : List Site) (m1 : List Frac) (q2 : Globe) (q3 : Source) (q4 : Frac) (m5 : List Delay) (p56 : Int) (m6 : List Delay) : evCode Tryz.prog GT EQT (inl Tryz.prog GT EQT XT [31] T_Q9_Same 150 2) XT noL 150 (loopB Tryz.prog 18 1) (H_delay_Table_1 p4 p13 p55 m0 m1 q2 q3 q4 m5 p56 m6) [.arr none .site m0, .arr none .frac m1, .rw 23 [.int .i64 q2.a, .int .i64 q2.b], .rw 26 [.str q3.name, .int .i64 q3.ra, .int .i64 q3.dec], .rw 28 [.int .i64 q4.num, .int .i64 q4.den], .arr (some 53) .delay m5, .arr (some 53) .delay m6] 7 (normK 2 [1, 2, 4, 6, 9, 11, 12, 13, 17, 55, 56]) =
    bif decide (p56 < p55) then (bif (m_delay_Of q2 m0 (0 : Int) p56 q3 p4 q4).ok then (bif ((m_delay_Of q2 m0 (0 : Int) p56 q3 p4 q4).r1 != (0 : Int)) then some (.st .ret (headT [1, 2, 4, 6, 9, 11, 12, 13, 17, 55, 56] 116 [.v (.c (.aslice 0 none)), .v (.c (.aslice 1 none)), .v (.c (.d (.int .i64 p4))), .v (.c (.ptr 2 0)), .v (.c (.ptr 3 0)), .v (.c (.ptr 4 0)), .v (.c (.aslice 5 none)), .v (.c (.d (.int .i64 ((m_delay_Of q2 m0 (0 : Int) p56 q3 p4 q4).r1)))), .v (.c (.aslice 6 none)), .v (.c (.d (.int .i64 p55))), .v (.c (.d (.int .i64 p56)))]) [.arr none .site m0, .arr none .frac m1, .rw 23 [.int .i64 q2.a, .int .i64 q2.b], .rw 26 [.str q3.name, .int .i64 q3.ra, .int .i64 q3.dec], .rw 28 [.int .i64 q4.num, .int .i64 q4.den], .arr (some 53) .delay ([] : List Delay), .arr (some 53) .delay m6] 7) else (bif (decide ((0 : Int) ≤ p56) && decide (p56 < (m1.length : Int))) then (bif (decide ((0 : Int) ≤ (0 : Int)) && decide ((0 : Int) < (m1.length : Int))) then (bif ((subF ⟨((m1.getD p56.toNat (ET.z .frac)).num), ((m1.getD p56.toNat (ET.z .frac)).den)⟩ ⟨((m1.getD 0 (ET.z .frac)).num), ((m1.getD 0 (ET.z .frac)).den)⟩).2 != (0 : Int)) then some (.st .ret (headT [1, 2, 4, 6, 9, 11, 12, 13, 17, 55, 56] 116 [.v (.c (.aslice 0 none)), .v (.c (.aslice 1 none)), .v (.c (.d (.int .i64 p4))), .v (.c (.ptr 2 0)), .v (.c (.ptr 3 0)), .v (.c (.ptr 4 0)), .v (.c (.aslice 5 none)), .v (.c (.d (.int .i64 ((subF ⟨((m1.getD p56.toNat (ET.z .frac)).num), ((m1.getD p56.toNat (ET.z .frac)).den)⟩ ⟨((m1.getD 0 (ET.z .frac)).num), ((m1.getD 0 (ET.z .frac)).den)⟩).2)))), .v (.c (.aslice 6 none)), .v (.c (.d (.int .i64 p55))), .v (.c (.d (.int .i64 p56)))]) [.arr none .site m0, .arr none .frac m1, .rw 23 [.int .i64 q2.a, .int .i64 q2.b], .rw 26 [.str q3.name, .int .i64 q3.ra, .int .i64 q3.dec], .rw 28 [.int .i64 q4.num, .int .i64 q4.den], .arr (some 53) .delay ([] : List Delay), .arr (some 53) .delay m6] 7) else (bif ((ofS ⟨(((subF ⟨((m1.getD p56.toNat (ET.z .frac)).num), ((m1.getD p56.toNat (ET.z .frac)).den)⟩ ⟨((m1.getD 0 (ET.z .frac)).num), ((m1.getD 0 (ET.z .frac)).den)⟩).1).num), (((subF ⟨((m1.getD p56.toNat (ET.z .frac)).num), ((m1.getD p56.toNat (ET.z .frac)).den)⟩ ⟨((m1.getD 0 (ET.z .frac)).num), ((m1.getD 0 (ET.z .frac)).den)⟩).1).den)⟩).2 != (0 : Int)) then some (.st .ret (headT [1, 2, 4, 6, 9, 11, 12, 13, 17, 55, 56] 116 [.v (.c (.aslice 0 none)), .v (.c (.aslice 1 none)), .v (.c (.d (.int .i64 p4))), .v (.c (.ptr 2 0)), .v (.c (.ptr 3 0)), .v (.c (.ptr 4 0)), .v (.c (.aslice 5 none)), .v (.c (.d (.int .i64 ((ofS ⟨(((subF ⟨((m1.getD p56.toNat (ET.z .frac)).num), ((m1.getD p56.toNat (ET.z .frac)).den)⟩ ⟨((m1.getD 0 (ET.z .frac)).num), ((m1.getD 0 (ET.z .frac)).den)⟩).1).num), (((subF ⟨((m1.getD p56.toNat (ET.z .frac)).num), ((m1.getD p56.toNat (ET.z .frac)).den)⟩ ⟨((m1.getD 0 (ET.z .frac)).num), ((m1.getD 0 (ET.z .frac)).den)⟩).1).den)⟩).2)))), .v (.c (.aslice 6 none)), .v (.c (.d (.int .i64 p55))), .v (.c (.d (.int .i64 p56)))]) [.arr none .site m0, .arr none .frac m1, .rw 23 [.int .i64 q2.a, .int .i64 q2.b], .rw 26 [.str q3.name, .int .i64 q3.ra, .int .i64 q3.dec], .rw 28 [.int .i64 q4.num, .int .i64 q4.den], .arr (some 53) .delay ([] : List Delay), .arr (some 53) .delay m6] 7) else (bif ((addS ⟨(((m_delay_Of q2 m0 (0 : Int) p56 q3 p4 q4).r0).lo), (((m_delay_Of q2 m0 (0 : Int) p56 q3 p4 q4).r0).hi)⟩ ⟨(((ofS ⟨(((subF ⟨((m1.getD p56.toNat (ET.z .frac)).num), ((m1.getD p56.toNat (ET.z .frac)).den)⟩ ⟨((m1.getD 0 (ET.z .frac)).num), ((m1.getD 0 (ET.z .frac)).den)⟩).1).num), (((subF ⟨((m1.getD p56.toNat (ET.z .frac)).num), ((m1.getD p56.toNat (ET.z .frac)).den)⟩ ⟨((m1.getD 0 (ET.z .frac)).num), ((m1.getD 0 (ET.z .frac)).den)⟩).1).den)⟩).1).lo), (((ofS ⟨(((subF ⟨((m1.getD p56.toNat (ET.z .frac)).num), ((m1.getD p56.toNat (ET.z .frac)).den)⟩ ⟨((m1.getD 0 (ET.z .frac)).num), ((m1.getD 0 (ET.z .frac)).den)⟩).1).num), (((subF ⟨((m1.getD p56.toNat (ET.z .frac)).num), ((m1.getD p56.toNat (ET.z .frac)).den)⟩ ⟨((m1.getD 0 (ET.z .frac)).num), ((m1.getD 0 (ET.z .frac)).den)⟩).1).den)⟩).1).hi)⟩).2 != (0 : Int)) then some (.st .ret (headT [1, 2, 4, 6, 9, 11, 12, 13, 17, 55, 56] 116 [.v (.c (.aslice 0 none)), .v (.c (.aslice 1 none)), .v (.c (.d (.int .i64 p4))), .v (.c (.ptr 2 0)), .v (.c (.ptr 3 0)), .v (.c (.ptr 4 0)), .v (.c (.aslice 5 none)), .v (.c (.d (.int .i64 ((addS ⟨(((m_delay_Of q2 m0 (0 : Int) p56 q3 p4 q4).r0).lo), (((m_delay_Of q2 m0 (0 : Int) p56 q3 p4 q4).r0).hi)⟩ ⟨(((ofS ⟨(((subF ⟨((m1.getD p56.toNat (ET.z .frac)).num), ((m1.getD p56.toNat (ET.z .frac)).den)⟩ ⟨((m1.getD 0 (ET.z .frac)).num), ((m1.getD 0 (ET.z .frac)).den)⟩).1).num), (((subF ⟨((m1.getD p56.toNat (ET.z .frac)).num), ((m1.getD p56.toNat (ET.z .frac)).den)⟩ ⟨((m1.getD 0 (ET.z .frac)).num), ((m1.getD 0 (ET.z .frac)).den)⟩).1).den)⟩).1).lo), (((ofS ⟨(((subF ⟨((m1.getD p56.toNat (ET.z .frac)).num), ((m1.getD p56.toNat (ET.z .frac)).den)⟩ ⟨((m1.getD 0 (ET.z .frac)).num), ((m1.getD 0 (ET.z .frac)).den)⟩).1).num), (((subF ⟨((m1.getD p56.toNat (ET.z .frac)).num), ((m1.getD p56.toNat (ET.z .frac)).den)⟩ ⟨((m1.getD 0 (ET.z .frac)).num), ((m1.getD 0 (ET.z .frac)).den)⟩).1).den)⟩).1).hi)⟩).2)))), .v (.c (.aslice 6 none)), .v (.c (.d (.int .i64 p55))), .v (.c (.d (.int .i64 p56)))]) [.arr none .site m0, .arr none .frac m1, .rw 23 [.int .i64 q2.a, .int .i64 q2.b], .rw 26 [.str q3.name, .int .i64 q3.ra, .int .i64 q3.dec], .rw 28 [.int .i64 q4.num, .int .i64 q4.den], .arr (some 53) .delay ([] : List Delay), .arr (some 53) .delay m6] 7) else (bif (m_delay_Split ((addS ⟨(((m_delay_Of q2 m0 (0 : Int) p56 q3 p4 q4).r0).lo), (((m_delay_Of q2 m0 (0 : Int) p56 q3 p4 q4).r0).hi)⟩ ⟨(((ofS ⟨(((subF ⟨((m1.getD p56.toNat (ET.z .frac)).num), ((m1.getD p56.toNat (ET.z .frac)).den)⟩ ⟨((m1.getD 0 (ET.z .frac)).num), ((m1.getD 0 (ET.z .frac)).den)⟩).1).num), (((subF ⟨((m1.getD p56.toNat (ET.z .frac)).num), ((m1.getD p56.toNat (ET.z .frac)).den)⟩ ⟨((m1.getD 0 (ET.z .frac)).num), ((m1.getD 0 (ET.z .frac)).den)⟩).1).den)⟩).1).lo), (((ofS ⟨(((subF ⟨((m1.getD p56.toNat (ET.z .frac)).num), ((m1.getD p56.toNat (ET.z .frac)).den)⟩ ⟨((m1.getD 0 (ET.z .frac)).num), ((m1.getD 0 (ET.z .frac)).den)⟩).1).num), (((subF ⟨((m1.getD p56.toNat (ET.z .frac)).num), ((m1.getD p56.toNat (ET.z .frac)).den)⟩ ⟨((m1.getD 0 (ET.z .frac)).num), ((m1.getD 0 (ET.z .frac)).den)⟩).1).den)⟩).1).hi)⟩).1)).ok then (bif (decide ((0 : Int) ≤ p56) && decide (p56 < (m6.length : Int))) then (bif ((m_delay_Split ((addS ⟨(((m_delay_Of q2 m0 (0 : Int) p56 q3 p4 q4).r0).lo), (((m_delay_Of q2 m0 (0 : Int) p56 q3 p4 q4).r0).hi)⟩ ⟨(((ofS ⟨(((subF ⟨((m1.getD p56.toNat (ET.z .frac)).num), ((m1.getD p56.toNat (ET.z .frac)).den)⟩ ⟨((m1.getD 0 (ET.z .frac)).num), ((m1.getD 0 (ET.z .frac)).den)⟩).1).num), (((subF ⟨((m1.getD p56.toNat (ET.z .frac)).num), ((m1.getD p56.toNat (ET.z .frac)).den)⟩ ⟨((m1.getD 0 (ET.z .frac)).num), ((m1.getD 0 (ET.z .frac)).den)⟩).1).den)⟩).1).lo), (((ofS ⟨(((subF ⟨((m1.getD p56.toNat (ET.z .frac)).num), ((m1.getD p56.toNat (ET.z .frac)).den)⟩ ⟨((m1.getD 0 (ET.z .frac)).num), ((m1.getD 0 (ET.z .frac)).den)⟩).1).num), (((subF ⟨((m1.getD p56.toNat (ET.z .frac)).num), ((m1.getD p56.toNat (ET.z .frac)).den)⟩ ⟨((m1.getD 0 (ET.z .frac)).num), ((m1.getD 0 (ET.z .frac)).den)⟩).1).den)⟩).1).hi)⟩).1)).r1 != (0 : Int)) then some (.st .ret (headT [1, 2, 4, 6, 9, 11, 12, 13, 17, 55, 56] 116 [.v (.c (.aslice 0 none)), .v (.c (.aslice 1 none)), .v (.c (.d (.int .i64 p4))), .v (.c (.ptr 2 0)), .v (.c (.ptr 3 0)), .v (.c (.ptr 4 0)), .v (.c (.aslice 5 none)), .v (.c (.d (.int .i64 ((m_delay_Split ((addS ⟨(((m_delay_Of q2 m0 (0 : Int) p56 q3 p4 q4).r0).lo), (((m_delay_Of q2 m0 (0 : Int) p56 q3 p4 q4).r0).hi)⟩ ⟨(((ofS ⟨(((subF ⟨((m1.getD p56.toNat (ET.z .frac)).num), ((m1.getD p56.toNat (ET.z .frac)).den)⟩ ⟨((m1.getD 0 (ET.z .frac)).num), ((m1.getD 0 (ET.z .frac)).den)⟩).1).num), (((subF ⟨((m1.getD p56.toNat (ET.z .frac)).num), ((m1.getD p56.toNat (ET.z .frac)).den)⟩ ⟨((m1.getD 0 (ET.z .frac)).num), ((m1.getD 0 (ET.z .frac)).den)⟩).1).den)⟩).1).lo), (((ofS ⟨(((subF ⟨((m1.getD p56.toNat (ET.z .frac)).num), ((m1.getD p56.toNat (ET.z .frac)).den)⟩ ⟨((m1.getD 0 (ET.z .frac)).num), ((m1.getD 0 (ET.z .frac)).den)⟩).1).num), (((subF ⟨((m1.getD p56.toNat (ET.z .frac)).num), ((m1.getD p56.toNat (ET.z .frac)).den)⟩ ⟨((m1.getD 0 (ET.z .frac)).num), ((m1.getD 0 (ET.z .frac)).den)⟩).1).den)⟩).1).hi)⟩).1)).r1)))), .v (.c (.aslice 6 none)), .v (.c (.d (.int .i64 p55))), .v (.c (.d (.int .i64 p56)))]) [.arr none .site m0, .arr none .frac m1, .rw 23 [.int .i64 q2.a, .int .i64 q2.b], .rw 26 [.str q3.name, .int .i64 q3.ra, .int .i64 q3.dec], .rw 28 [.int .i64 q4.num, .int .i64 q4.den], .arr (some 53) .delay ([] : List Delay), .arr (some 53) .delay (m6.set p56.toNat ((m_delay_Split ((addS ⟨(((m_delay_Of q2 m0 (0 : Int) p56 q3 p4 q4).r0).lo), (((m_delay_Of q2 m0 (0 : Int) p56 q3 p4 q4).r0).hi)⟩ ⟨(((ofS ⟨(((subF ⟨((m1.getD p56.toNat (ET.z .frac)).num), ((m1.getD p56.toNat (ET.z .frac)).den)⟩ ⟨((m1.getD 0 (ET.z .frac)).num), ((m1.getD 0 (ET.z .frac)).den)⟩).1).num), (((subF ⟨((m1.getD p56.toNat (ET.z .frac)).num), ((m1.getD p56.toNat (ET.z .frac)).den)⟩ ⟨((m1.getD 0 (ET.z .frac)).num), ((m1.getD 0 (ET.z .frac)).den)⟩).1).den)⟩).1).lo), (((ofS ⟨(((subF ⟨((m1.getD p56.toNat (ET.z .frac)).num), ((m1.getD p56.toNat (ET.z .frac)).den)⟩ ⟨((m1.getD 0 (ET.z .frac)).num), ((m1.getD 0 (ET.z .frac)).den)⟩).1).num), (((subF ⟨((m1.getD p56.toNat (ET.z .frac)).num), ((m1.getD p56.toNat (ET.z .frac)).den)⟩ ⟨((m1.getD 0 (ET.z .frac)).num), ((m1.getD 0 (ET.z .frac)).den)⟩).1).den)⟩).1).hi)⟩).1)).r0))] 7) else some (.st .normal (headT [1, 2, 4, 6, 9, 11, 12, 13, 17, 55, 56] 116 [.v (.c (.aslice 0 none)), .v (.c (.aslice 1 none)), .v (.c (.d (.int .i64 p4))), .v (.c (.ptr 2 0)), .v (.c (.ptr 3 0)), .v (.c (.ptr 4 0)), .v (.c (.aslice 5 none)), .v (.c (.d (.int .i64 p13))), .v (.c (.aslice 6 none)), .v (.c (.d (.int .i64 p55))), .v (.c (.d (.int .i64 (w64 (p56 + (1 : Int))))))]) [.arr none .site m0, .arr none .frac m1, .rw 23 [.int .i64 q2.a, .int .i64 q2.b], .rw 26 [.str q3.name, .int .i64 q3.ra, .int .i64 q3.dec], .rw 28 [.int .i64 q4.num, .int .i64 q4.den], .arr (some 53) .delay m5, .arr (some 53) .delay (m6.set p56.toNat ((m_delay_Split ((addS ⟨(((m_delay_Of q2 m0 (0 : Int) p56 q3 p4 q4).r0).lo), (((m_delay_Of q2 m0 (0 : Int) p56 q3 p4 q4).r0).hi)⟩ ⟨(((ofS ⟨(((subF ⟨((m1.getD p56.toNat (ET.z .frac)).num), ((m1.getD p56.toNat (ET.z .frac)).den)⟩ ⟨((m1.getD 0 (ET.z .frac)).num), ((m1.getD 0 (ET.z .frac)).den)⟩).1).num), (((subF ⟨((m1.getD p56.toNat (ET.z .frac)).num), ((m1.getD p56.toNat (ET.z .frac)).den)⟩ ⟨((m1.getD 0 (ET.z .frac)).num), ((m1.getD 0 (ET.z .frac)).den)⟩).1).den)⟩).1).lo), (((ofS ⟨(((subF ⟨((m1.getD p56.toNat (ET.z .frac)).num), ((m1.getD p56.toNat (ET.z .frac)).den)⟩ ⟨((m1.getD 0 (ET.z .frac)).num), ((m1.getD 0 (ET.z .frac)).den)⟩).1).num), (((subF ⟨((m1.getD p56.toNat (ET.z .frac)).num), ((m1.getD p56.toNat (ET.z .frac)).den)⟩ ⟨((m1.getD 0 (ET.z .frac)).num), ((m1.getD 0 (ET.z .frac)).den)⟩).1).den)⟩).1).hi)⟩).1)).r0))] 7)) else none) else none)))) else none) else none)) else none) else some (.st (.exit 2) (headT [1, 2, 4, 6, 9, 11, 12, 13, 17, 55, 56] 116 [.v (.c (.aslice 0 none)), .v (.c (.aslice 1 none)), .v (.c (.d (.int .i64 p4))), .v (.c (.ptr 2 0)), .v (.c (.ptr 3 0)), .v (.c (.ptr 4 0)), .v (.c (.aslice 5 none)), .v (.c (.d (.int .i64 p13))), .v (.c (.aslice 6 none)), .v (.c (.d (.int .i64 p55))), .v (.c (.d (.int .i64 p56)))]) [.arr none .site m0, .arr none .frac m1, .rw 23 [.int .i64 q2.a, .int .i64 q2.b], .rw 26 [.str q3.name, .int .i64 q3.ra, .int .i64 q3.dec], .rw 28 [.int .i64 q4.num, .int .i64 q4.den], .arr (some 53) .delay m5, .arr (some 53) .delay m6] 7) := by
  kernel_rfl
def o_delay_Table_1 (p4 : Int) (p13 : Int) (p55 : Int) (m0 : List Site) (m1 : List Frac) (q2 : Globe) (q3 : Source) (q4 : Frac) (m5 : List Delay) (r : R_delay_Table_1) : LT := .br (Nat.beq r.k 0) (.st .ret (headT [1, 2, 4, 6, 9, 11, 12, 13, 17, 55, 56] 116 [.v (.c (.aslice 0 none)), .v (.c (.aslice 1 none)), .v (.c (.d (.int .i64 p4))), .v (.c (.ptr 2 0)), .v (.c (.ptr 3 0)), .v (.c (.ptr 4 0)), .v (.c (.aslice 5 none)), .v (.c (.d (.int .i64 ((m_delay_Of q2 m0 (0 : Int) r.p56 q3 p4 q4).r1)))), .v (.c (.aslice 6 none)), .v (.c (.d (.int .i64 p55))), .v (.c (.d (.int .i64 r.p56)))]) [.arr none .site m0, .arr none .frac m1, .rw 23 [.int .i64 q2.a, .int .i64 q2.b], .rw 26 [.str q3.name, .int .i64 q3.ra, .int .i64 q3.dec], .rw 28 [.int .i64 q4.num, .int .i64 q4.den], .arr (some 53) .delay ([] : List Delay), .arr (some 53) .delay r.m6] 7) (.br (Nat.beq r.k 1) (.st .ret (headT [1, 2, 4, 6, 9, 11, 12, 13, 17, 55, 56] 116 [.v (.c (.aslice 0 none)), .v (.c (.aslice 1 none)), .v (.c (.d (.int .i64 p4))), .v (.c (.ptr 2 0)), .v (.c (.ptr 3 0)), .v (.c (.ptr 4 0)), .v (.c (.aslice 5 none)), .v (.c (.d (.int .i64 ((subF ⟨((m1.getD r.p56.toNat (ET.z .frac)).num), ((m1.getD r.p56.toNat (ET.z .frac)).den)⟩ ⟨((m1.getD 0 (ET.z .frac)).num), ((m1.getD 0 (ET.z .frac)).den)⟩).2)))), .v (.c (.aslice 6 none)), .v (.c (.d (.int .i64 p55))), .v (.c (.d (.int .i64 r.p56)))]) [.arr none .site m0, .arr none .frac m1, .rw 23 [.int .i64 q2.a, .int .i64 q2.b], .rw 26 [.str q3.name, .int .i64 q3.ra, .int .i64 q3.dec], .rw 28 [.int .i64 q4.num, .int .i64 q4.den], .arr (some 53) .delay ([] : List Delay), .arr (some 53) .delay r.m6] 7) (.br (Nat.beq r.k 2) (.st .ret (headT [1, 2, 4, 6, 9, 11, 12, 13, 17, 55, 56] 116 [.v (.c (.aslice 0 none)), .v (.c (.aslice 1 none)), .v (.c (.d (.int .i64 p4))), .v (.c (.ptr 2 0)), .v (.c (.ptr 3 0)), .v (.c (.ptr 4 0)), .v (.c (.aslice 5 none)), .v (.c (.d (.int .i64 ((ofS ⟨(((subF ⟨((m1.getD r.p56.toNat (ET.z .frac)).num), ((m1.getD r.p56.toNat (ET.z .frac)).den)⟩ ⟨((m1.getD 0 (ET.z .frac)).num), ((m1.getD 0 (ET.z .frac)).den)⟩).1).num), (((subF ⟨((m1.getD r.p56.toNat (ET.z .frac)).num), ((m1.getD r.p56.toNat (ET.z .frac)).den)⟩ ⟨((m1.getD 0 (ET.z .frac)).num), ((m1.getD 0 (ET.z .frac)).den)⟩).1).den)⟩).2)))), .v (.c (.aslice 6 none)), .v (.c (.d (.int .i64 p55))), .v (.c (.d (.int .i64 r.p56)))]) [.arr none .site m0, .arr none .frac m1, .rw 23 [.int .i64 q2.a, .int .i64 q2.b], .rw 26 [.str q3.name, .int .i64 q3.ra, .int .i64 q3.dec], .rw 28 [.int .i64 q4.num, .int .i64 q4.den], .arr (some 53) .delay ([] : List Delay), .arr (some 53) .delay r.m6] 7) (.br (Nat.beq r.k 3) (.st .ret (headT [1, 2, 4, 6, 9, 11, 12, 13, 17, 55, 56] 116 [.v (.c (.aslice 0 none)), .v (.c (.aslice 1 none)), .v (.c (.d (.int .i64 p4))), .v (.c (.ptr 2 0)), .v (.c (.ptr 3 0)), .v (.c (.ptr 4 0)), .v (.c (.aslice 5 none)), .v (.c (.d (.int .i64 ((addS ⟨(((m_delay_Of q2 m0 (0 : Int) r.p56 q3 p4 q4).r0).lo), (((m_delay_Of q2 m0 (0 : Int) r.p56 q3 p4 q4).r0).hi)⟩ ⟨(((ofS ⟨(((subF ⟨((m1.getD r.p56.toNat (ET.z .frac)).num), ((m1.getD r.p56.toNat (ET.z .frac)).den)⟩ ⟨((m1.getD 0 (ET.z .frac)).num), ((m1.getD 0 (ET.z .frac)).den)⟩).1).num), (((subF ⟨((m1.getD r.p56.toNat (ET.z .frac)).num), ((m1.getD r.p56.toNat (ET.z .frac)).den)⟩ ⟨((m1.getD 0 (ET.z .frac)).num), ((m1.getD 0 (ET.z .frac)).den)⟩).1).den)⟩).1).lo), (((ofS ⟨(((subF ⟨((m1.getD r.p56.toNat (ET.z .frac)).num), ((m1.getD r.p56.toNat (ET.z .frac)).den)⟩ ⟨((m1.getD 0 (ET.z .frac)).num), ((m1.getD 0 (ET.z .frac)).den)⟩).1).num), (((subF ⟨((m1.getD r.p56.toNat (ET.z .frac)).num), ((m1.getD r.p56.toNat (ET.z .frac)).den)⟩ ⟨((m1.getD 0 (ET.z .frac)).num), ((m1.getD 0 (ET.z .frac)).den)⟩).1).den)⟩).1).hi)⟩).2)))), .v (.c (.aslice 6 none)), .v (.c (.d (.int .i64 p55))), .v (.c (.d (.int .i64 r.p56)))]) [.arr none .site m0, .arr none .frac m1, .rw 23 [.int .i64 q2.a, .int .i64 q2.b], .rw 26 [.str q3.name, .int .i64 q3.ra, .int .i64 q3.dec], .rw 28 [.int .i64 q4.num, .int .i64 q4.den], .arr (some 53) .delay ([] : List Delay), .arr (some 53) .delay r.m6] 7) (.br (Nat.beq r.k 4) (.st .ret (headT [1, 2, 4, 6, 9, 11, 12, 13, 17, 55, 56] 116 [.v (.c (.aslice 0 none)), .v (.c (.aslice 1 none)), .v (.c (.d (.int .i64 p4))), .v (.c (.ptr 2 0)), .v (.c (.ptr 3 0)), .v (.c (.ptr 4 0)), .v (.c (.aslice 5 none)), .v (.c (.d (.int .i64 ((m_delay_Split ((addS ⟨(((m_delay_Of q2 m0 (0 : Int) r.p56 q3 p4 q4).r0).lo), (((m_delay_Of q2 m0 (0 : Int) r.p56 q3 p4 q4).r0).hi)⟩ ⟨(((ofS ⟨(((subF ⟨((m1.getD r.p56.toNat (ET.z .frac)).num), ((m1.getD r.p56.toNat (ET.z .frac)).den)⟩ ⟨((m1.getD 0 (ET.z .frac)).num), ((m1.getD 0 (ET.z .frac)).den)⟩).1).num), (((subF ⟨((m1.getD r.p56.toNat (ET.z .frac)).num), ((m1.getD r.p56.toNat (ET.z .frac)).den)⟩ ⟨((m1.getD 0 (ET.z .frac)).num), ((m1.getD 0 (ET.z .frac)).den)⟩).1).den)⟩).1).lo), (((ofS ⟨(((subF ⟨((m1.getD r.p56.toNat (ET.z .frac)).num), ((m1.getD r.p56.toNat (ET.z .frac)).den)⟩ ⟨((m1.getD 0 (ET.z .frac)).num), ((m1.getD 0 (ET.z .frac)).den)⟩).1).num), (((subF ⟨((m1.getD r.p56.toNat (ET.z .frac)).num), ((m1.getD r.p56.toNat (ET.z .frac)).den)⟩ ⟨((m1.getD 0 (ET.z .frac)).num), ((m1.getD 0 (ET.z .frac)).den)⟩).1).den)⟩).1).hi)⟩).1)).r1)))), .v (.c (.aslice 6 none)), .v (.c (.d (.int .i64 p55))), .v (.c (.d (.int .i64 r.p56)))]) [.arr none .site m0, .arr none .frac m1, .rw 23 [.int .i64 q2.a, .int .i64 q2.b], .rw 26 [.str q3.name, .int .i64 q3.ra, .int .i64 q3.dec], .rw 28 [.int .i64 q4.num, .int .i64 q4.den], .arr (some 53) .delay ([] : List Delay), .arr (some 53) .delay (r.m6.set r.p56.toNat ((m_delay_Split ((addS ⟨(((m_delay_Of q2 m0 (0 : Int) r.p56 q3 p4 q4).r0).lo), (((m_delay_Of q2 m0 (0 : Int) r.p56 q3 p4 q4).r0).hi)⟩ ⟨(((ofS ⟨(((subF ⟨((m1.getD r.p56.toNat (ET.z .frac)).num), ((m1.getD r.p56.toNat (ET.z .frac)).den)⟩ ⟨((m1.getD 0 (ET.z .frac)).num), ((m1.getD 0 (ET.z .frac)).den)⟩).1).num), (((subF ⟨((m1.getD r.p56.toNat (ET.z .frac)).num), ((m1.getD r.p56.toNat (ET.z .frac)).den)⟩ ⟨((m1.getD 0 (ET.z .frac)).num), ((m1.getD 0 (ET.z .frac)).den)⟩).1).den)⟩).1).lo), (((ofS ⟨(((subF ⟨((m1.getD r.p56.toNat (ET.z .frac)).num), ((m1.getD r.p56.toNat (ET.z .frac)).den)⟩ ⟨((m1.getD 0 (ET.z .frac)).num), ((m1.getD 0 (ET.z .frac)).den)⟩).1).num), (((subF ⟨((m1.getD r.p56.toNat (ET.z .frac)).num), ((m1.getD r.p56.toNat (ET.z .frac)).den)⟩ ⟨((m1.getD 0 (ET.z .frac)).num), ((m1.getD 0 (ET.z .frac)).den)⟩).1).den)⟩).1).hi)⟩).1)).r0))] 7) (.br (Nat.beq r.k 5) (.st (.exit 2) (headT [1, 2, 4, 6, 9, 11, 12, 13, 17, 55, 56] 116 [.v (.c (.aslice 0 none)), .v (.c (.aslice 1 none)), .v (.c (.d (.int .i64 p4))), .v (.c (.ptr 2 0)), .v (.c (.ptr 3 0)), .v (.c (.ptr 4 0)), .v (.c (.aslice 5 none)), .v (.c (.d (.int .i64 p13))), .v (.c (.aslice 6 none)), .v (.c (.d (.int .i64 p55))), .v (.c (.d (.int .i64 r.p56)))]) [.arr none .site m0, .arr none .frac m1, .rw 23 [.int .i64 q2.a, .int .i64 q2.b], .rw 26 [.str q3.name, .int .i64 q3.ra, .int .i64 q3.dec], .rw 28 [.int .i64 q4.num, .int .i64 q4.den], .arr (some 53) .delay m5, .arr (some 53) .delay r.m6] 7) (.no))))))
theorem r_delay_Table_1 (p4 : Int) (p13 : Int) (p55 : Int) (m0 : List Site) (m1 : List Frac) (q2 : Globe) (q3 : Source) (q4 : Frac) (m5 : List Delay) : ∀ (n : Nat) (p56 : Int) (m6 : List Delay) (x : Ex) (T' : TS) (M' : List Blk) (N' : Nat), LReach (o_delay_Table_1 p4 p13 p55 m0 m1 q2 q3 q4 m5 (run_delay_Table_1 p4 p13 p55 m0 m1 q2 q3 q4 m5 n p56 m6)) x T' M' N' → x ≠ .normal ∧ ∃ j, RoundsN Tryz.prog GT gbT 2 (loopB Tryz.prog 18 1) j (H_delay_Table_1 p4 p13 p55 m0 m1 q2 q3 q4 m5 p56 m6) [.arr none .site m0, .arr none .frac m1, .rw 23 [.int .i64 q2.a, .int .i64 q2.b], .rw 26 [.str q3.name, .int .i64 q3.ra, .int .i64 q3.dec], .rw 28 [.int .i64 q4.num, .int .i64 q4.den], .arr (some 53) .delay m5, .arr (some 53) .delay m6] 7 x T' M' N' := by
  have hL : LOKn Tryz.prog GT gbT 2 noL (loopsIn (loopB Tryz.prog 18 1)) := fun _ _ _ _ _ _ _ _ _ h => h.elim
  intro n
  induction n with
  | zero =>
    intro p56 m6 x T' M' N' hr
    exact False.elim (redF (redF (redF (redF (redF (redF hr))))))
  | succ n ih =>
    intro p56 m6 x T' M' N'
    rw [run_delay_Table_1]
    exact viaE (b_delay_Table_1 p4 p13 p55 m0 m1 q2 q3 q4 m5 p56 m6) (condG (o := o_delay_Table_1 p4 p13 p55 m0 m1 q2 q3 q4 m5) (condG (o := o_delay_Table_1 p4 p13 p55 m0 m1 q2 q3 q4 m5) (condG (o := o_delay_Table_1 p4 p13 p55 m0 m1 q2 q3 q4 m5) (fun he hr => stopN (g_Q9_Same.inl hEQT hmT (fun f hf => by simp only [List.mem_cons, List.not_mem_nil, or_false] at hf; subst hf; exact (fun args w => Tryz.call31 args w)) 150 2) hEQT hmT hL he (by simp) (redT hr)) (condG (o := o_delay_Table_1 p4 p13 p55 m0 m1 q2 q3 q4 m5) (condG (o := o_delay_Table_1 p4 p13 p55 m0 m1 q2 q3 q4 m5) (condG (o := o_delay_Table_1 p4 p13 p55 m0 m1 q2 q3 q4 m5) (fun he hr => stopN (g_Q9_Same.inl hEQT hmT (fun f hf => by simp only [List.mem_cons, List.not_mem_nil, or_false] at hf; subst hf; exact (fun args w => Tryz.call31 args w)) 150 2) hEQT hmT hL he (by simp) (redT (redF hr))) (condG (o := o_delay_Table_1 p4 p13 p55 m0 m1 q2 q3 q4 m5) (fun he hr => stopN (g_Q9_Same.inl hEQT hmT (fun f hf => by simp only [List.mem_cons, List.not_mem_nil, or_false] at hf; subst hf; exact (fun args w => Tryz.call31 args w)) 150 2) hEQT hmT hL he (by simp) (redT (redF (redF hr)))) (condG (o := o_delay_Table_1 p4 p13 p55 m0 m1 q2 q3 q4 m5) (fun he hr => stopN (g_Q9_Same.inl hEQT hmT (fun f hf => by simp only [List.mem_cons, List.not_mem_nil, or_false] at hf; subst hf; exact (fun args w => Tryz.call31 args w)) 150 2) hEQT hmT hL he (by simp) (redT (redF (redF (redF hr))))) (condG (o := o_delay_Table_1 p4 p13 p55 m0 m1 q2 q3 q4 m5) (condG (o := o_delay_Table_1 p4 p13 p55 m0 m1 q2 q3 q4 m5) (condG (o := o_delay_Table_1 p4 p13 p55 m0 m1 q2 q3 q4 m5) (fun he hr => stopN (g_Q9_Same.inl hEQT hmT (fun f hf => by simp only [List.mem_cons, List.not_mem_nil, or_false] at hf; subst hf; exact (fun args w => Tryz.call31 args w)) 150 2) hEQT hmT hL he (by simp) (redT (redF (redF (redF (redF hr)))))) (fun he hr => goN (g_Q9_Same.inl hEQT hmT (fun f hf => by simp only [List.mem_cons, List.not_mem_nil, or_false] at hf; subst hf; exact (fun args w => Tryz.call31 args w)) 150 2) hEQT hmT hL he (ih (w64 (p56 + (1 : Int))) (m6.set p56.toNat ((m_delay_Split ((addS ⟨(((m_delay_Of q2 m0 (0 : Int) p56 q3 p4 q4).r0).lo), (((m_delay_Of q2 m0 (0 : Int) p56 q3 p4 q4).r0).hi)⟩ ⟨(((ofS ⟨(((subF ⟨((m1.getD p56.toNat (ET.z .frac)).num), ((m1.getD p56.toNat (ET.z .frac)).den)⟩ ⟨((m1.getD 0 (ET.z .frac)).num), ((m1.getD 0 (ET.z .frac)).den)⟩).1).num), (((subF ⟨((m1.getD p56.toNat (ET.z .frac)).num), ((m1.getD p56.toNat (ET.z .frac)).den)⟩ ⟨((m1.getD 0 (ET.z .frac)).num), ((m1.getD 0 (ET.z .frac)).den)⟩).1).den)⟩).1).lo), (((ofS ⟨(((subF ⟨((m1.getD p56.toNat (ET.z .frac)).num), ((m1.getD p56.toNat (ET.z .frac)).den)⟩ ⟨((m1.getD 0 (ET.z .frac)).num), ((m1.getD 0 (ET.z .frac)).den)⟩).1).num), (((subF ⟨((m1.getD p56.toNat (ET.z .frac)).num), ((m1.getD p56.toNat (ET.z .frac)).den)⟩ ⟨((m1.getD 0 (ET.z .frac)).num), ((m1.getD 0 (ET.z .frac)).den)⟩).1).den)⟩).1).hi)⟩).1)).r0)) x T' M' N' hr))) (fun _ hr => False.elim (redF (redF (redF (redF (redF (redF hr)))))))) (fun _ hr => False.elim (redF (redF (redF (redF (redF (redF hr))))))))))) (fun _ hr => False.elim (redF (redF (redF (redF (redF (redF hr)))))))) (fun _ hr => False.elim (redF (redF (redF (redF (redF (redF hr))))))))) (fun _ hr => False.elim (redF (redF (redF (redF (redF (redF hr)))))))) (fun he hr => stopN (g_Q9_Same.inl hEQT hmT (fun f hf => by simp only [List.mem_cons, List.not_mem_nil, or_false] at hf; subst hf; exact (fun args w => Tryz.call31 args w)) 150 2) hEQT hmT hL he (by simp) (redT (redF (redF (redF (redF (redF hr))))))))
def f_delay_Table_1 : List AV → List Blk → LT := fun vs Ms => match vs, Ms with
  | [.v (.c (.aslice 0 none)), .v (.c (.aslice 1 none)), .v (.c (.d (.int .i64 p4))), .v (.c (.ptr 2 0)), .v (.c (.ptr 3 0)), .v (.c (.ptr 4 0)), .v (.c (.aslice 5 none)), .v (.c (.d (.int .i64 p13))), .v (.c (.aslice 6 none)), .v (.c (.d (.int .i64 p55))), .v (.c (.d (.int .i64 p56)))], [.arr none .site m0, .arr none .frac m1, .rw 23 [.int .i64 q2_0, .int .i64 q2_1], .rw 26 [.str q3_0, .int .i64 q3_1, .int .i64 q3_2], .rw 28 [.int .i64 q4_0, .int .i64 q4_1], .arr (some 53) .delay m5, .arr (some 53) .delay m6] => o_delay_Table_1 p4 p13 p55 m0 m1 (⟨q2_0, q2_1⟩ : Globe) (⟨q3_0, q3_1, q3_2⟩ : Source) (⟨q4_0, q4_1⟩ : Frac) m5 (lp_delay_Table_1 p4 p13 p55 m0 m1 (⟨q2_0, q2_1⟩ : Globe) (⟨q3_0, q3_1, q3_2⟩ : Source) (⟨q4_0, q4_1⟩ : Frac) m5 p56 m6)
  | _, _ => .no
def L_delay_Table_1 := LamN 16 116 2 [1, 2, 4, 6, 9, 11, 12, 13, 17, 55, 56] f_delay_Table_1
theorem k_delay_Table_1 : LOKbn Tryz.prog GT gbT 2 L_delay_Table_1 (loopB Tryz.prog 18 1) := by
  refine LOKbn.lamN (by kernel_rfl) fun vs Ms x T' M' N' hr => ?_
  unfold f_delay_Table_1 at hr
  split at hr
  · obtain ⟨q1, j, q2⟩ := r_delay_Table_1 _ _ _ _ _ _ _ _ _ _ _ _ x T' M' N' hr
    exact ⟨q1, j, q2⟩
  · exact hr.elim
structure O_delay_Table where
  ok : Bool
  r0 : List Delay
  r1 : Int
def m_delay_Table (a0 : Globe) (a1 : List Site) (a2 : List Frac) (a3 : Source) (a4 : Int) (a5 : Frac) : O_delay_Table := bif (m_delay_check a0 a1 a3 a5).ok then (bif ((m_delay_check a0 a1 a3 a5).r0 != (0 : Int)) then ⟨true, ([] : List Delay), (m_delay_check a0 a1 a3 a5).r0⟩ else (bif ((a2.length : Int) != (a1.length : Int)) then ⟨true, ([] : List Delay), (8 : Int)⟩ else (bif Nat.beq (lp_delay_Table_0 a4 (0 : Int) (a2.length : Int) a1 a2 a0 a3 a5 ([] : List Delay) (0 : Int)).k 0 then ⟨true, ([] : List Delay), (8 : Int)⟩ else (bif Nat.beq (lp_delay_Table_0 a4 (0 : Int) (a2.length : Int) a1 a2 a0 a3 a5 ([] : List Delay) (0 : Int)).k 1 then (bif decide (a4 < (-1000000 : Int)) then ⟨true, ([] : List Delay), (2 : Int)⟩ else (bif decide ((1000000 : Int) < a4) then ⟨true, ([] : List Delay), (2 : Int)⟩ else (bif (decide ((a1.length : Int) = (a1.length : Int)) && (decide (0 ≤ (a1.length : Int)) && (decide ((a1.length : Int) ≤ 1048576) && ((3 == 3) && (Nat.blt 0 3 && Nat.ble 24 4096))))) then (bif Nat.beq (lp_delay_Table_1 a4 (0 : Int) (a1.length : Int) a1 a2 a0 a3 a5 ([] : List Delay) (0 : Int) (List.replicate a1.length (⟨(0 : Int), ⟨(0 : Int), (0 : Int)⟩⟩ : Delay))).k 0 then ⟨true, ([] : List Delay), (m_delay_Of a0 a1 (0 : Int) ((lp_delay_Table_1 a4 (0 : Int) (a1.length : Int) a1 a2 a0 a3 a5 ([] : List Delay) (0 : Int) (List.replicate a1.length (⟨(0 : Int), ⟨(0 : Int), (0 : Int)⟩⟩ : Delay))).p56) a3 a4 a5).r1⟩ else (bif Nat.beq (lp_delay_Table_1 a4 (0 : Int) (a1.length : Int) a1 a2 a0 a3 a5 ([] : List Delay) (0 : Int) (List.replicate a1.length (⟨(0 : Int), ⟨(0 : Int), (0 : Int)⟩⟩ : Delay))).k 1 then ⟨true, ([] : List Delay), (subF ⟨((a2.getD ((lp_delay_Table_1 a4 (0 : Int) (a1.length : Int) a1 a2 a0 a3 a5 ([] : List Delay) (0 : Int) (List.replicate a1.length (⟨(0 : Int), ⟨(0 : Int), (0 : Int)⟩⟩ : Delay))).p56).toNat (ET.z .frac)).num), ((a2.getD ((lp_delay_Table_1 a4 (0 : Int) (a1.length : Int) a1 a2 a0 a3 a5 ([] : List Delay) (0 : Int) (List.replicate a1.length (⟨(0 : Int), ⟨(0 : Int), (0 : Int)⟩⟩ : Delay))).p56).toNat (ET.z .frac)).den)⟩ ⟨((a2.getD 0 (ET.z .frac)).num), ((a2.getD 0 (ET.z .frac)).den)⟩).2⟩ else (bif Nat.beq (lp_delay_Table_1 a4 (0 : Int) (a1.length : Int) a1 a2 a0 a3 a5 ([] : List Delay) (0 : Int) (List.replicate a1.length (⟨(0 : Int), ⟨(0 : Int), (0 : Int)⟩⟩ : Delay))).k 2 then ⟨true, ([] : List Delay), (ofS ⟨(((subF ⟨((a2.getD ((lp_delay_Table_1 a4 (0 : Int) (a1.length : Int) a1 a2 a0 a3 a5 ([] : List Delay) (0 : Int) (List.replicate a1.length (⟨(0 : Int), ⟨(0 : Int), (0 : Int)⟩⟩ : Delay))).p56).toNat (ET.z .frac)).num), ((a2.getD ((lp_delay_Table_1 a4 (0 : Int) (a1.length : Int) a1 a2 a0 a3 a5 ([] : List Delay) (0 : Int) (List.replicate a1.length (⟨(0 : Int), ⟨(0 : Int), (0 : Int)⟩⟩ : Delay))).p56).toNat (ET.z .frac)).den)⟩ ⟨((a2.getD 0 (ET.z .frac)).num), ((a2.getD 0 (ET.z .frac)).den)⟩).1).num), (((subF ⟨((a2.getD ((lp_delay_Table_1 a4 (0 : Int) (a1.length : Int) a1 a2 a0 a3 a5 ([] : List Delay) (0 : Int) (List.replicate a1.length (⟨(0 : Int), ⟨(0 : Int), (0 : Int)⟩⟩ : Delay))).p56).toNat (ET.z .frac)).num), ((a2.getD ((lp_delay_Table_1 a4 (0 : Int) (a1.length : Int) a1 a2 a0 a3 a5 ([] : List Delay) (0 : Int) (List.replicate a1.length (⟨(0 : Int), ⟨(0 : Int), (0 : Int)⟩⟩ : Delay))).p56).toNat (ET.z .frac)).den)⟩ ⟨((a2.getD 0 (ET.z .frac)).num), ((a2.getD 0 (ET.z .frac)).den)⟩).1).den)⟩).2⟩ else (bif Nat.beq (lp_delay_Table_1 a4 (0 : Int) (a1.length : Int) a1 a2 a0 a3 a5 ([] : List Delay) (0 : Int) (List.replicate a1.length (⟨(0 : Int), ⟨(0 : Int), (0 : Int)⟩⟩ : Delay))).k 3 then ⟨true, ([] : List Delay), (addS ⟨(((m_delay_Of a0 a1 (0 : Int) ((lp_delay_Table_1 a4 (0 : Int) (a1.length : Int) a1 a2 a0 a3 a5 ([] : List Delay) (0 : Int) (List.replicate a1.length (⟨(0 : Int), ⟨(0 : Int), (0 : Int)⟩⟩ : Delay))).p56) a3 a4 a5).r0).lo), (((m_delay_Of a0 a1 (0 : Int) ((lp_delay_Table_1 a4 (0 : Int) (a1.length : Int) a1 a2 a0 a3 a5 ([] : List Delay) (0 : Int) (List.replicate a1.length (⟨(0 : Int), ⟨(0 : Int), (0 : Int)⟩⟩ : Delay))).p56) a3 a4 a5).r0).hi)⟩ ⟨(((ofS ⟨(((subF ⟨((a2.getD ((lp_delay_Table_1 a4 (0 : Int) (a1.length : Int) a1 a2 a0 a3 a5 ([] : List Delay) (0 : Int) (List.replicate a1.length (⟨(0 : Int), ⟨(0 : Int), (0 : Int)⟩⟩ : Delay))).p56).toNat (ET.z .frac)).num), ((a2.getD ((lp_delay_Table_1 a4 (0 : Int) (a1.length : Int) a1 a2 a0 a3 a5 ([] : List Delay) (0 : Int) (List.replicate a1.length (⟨(0 : Int), ⟨(0 : Int), (0 : Int)⟩⟩ : Delay))).p56).toNat (ET.z .frac)).den)⟩ ⟨((a2.getD 0 (ET.z .frac)).num), ((a2.getD 0 (ET.z .frac)).den)⟩).1).num), (((subF ⟨((a2.getD ((lp_delay_Table_1 a4 (0 : Int) (a1.length : Int) a1 a2 a0 a3 a5 ([] : List Delay) (0 : Int) (List.replicate a1.length (⟨(0 : Int), ⟨(0 : Int), (0 : Int)⟩⟩ : Delay))).p56).toNat (ET.z .frac)).num), ((a2.getD ((lp_delay_Table_1 a4 (0 : Int) (a1.length : Int) a1 a2 a0 a3 a5 ([] : List Delay) (0 : Int) (List.replicate a1.length (⟨(0 : Int), ⟨(0 : Int), (0 : Int)⟩⟩ : Delay))).p56).toNat (ET.z .frac)).den)⟩ ⟨((a2.getD 0 (ET.z .frac)).num), ((a2.getD 0 (ET.z .frac)).den)⟩).1).den)⟩).1).lo), (((ofS ⟨(((subF ⟨((a2.getD ((lp_delay_Table_1 a4 (0 : Int) (a1.length : Int) a1 a2 a0 a3 a5 ([] : List Delay) (0 : Int) (List.replicate a1.length (⟨(0 : Int), ⟨(0 : Int), (0 : Int)⟩⟩ : Delay))).p56).toNat (ET.z .frac)).num), ((a2.getD ((lp_delay_Table_1 a4 (0 : Int) (a1.length : Int) a1 a2 a0 a3 a5 ([] : List Delay) (0 : Int) (List.replicate a1.length (⟨(0 : Int), ⟨(0 : Int), (0 : Int)⟩⟩ : Delay))).p56).toNat (ET.z .frac)).den)⟩ ⟨((a2.getD 0 (ET.z .frac)).num), ((a2.getD 0 (ET.z .frac)).den)⟩).1).num), (((subF ⟨((a2.getD ((lp_delay_Table_1 a4 (0 : Int) (a1.length : Int) a1 a2 a0 a3 a5 ([] : List Delay) (0 : Int) (List.replicate a1.length (⟨(0 : Int), ⟨(0 : Int), (0 : Int)⟩⟩ : Delay))).p56).toNat (ET.z .frac)).num), ((a2.getD ((lp_delay_Table_1 a4 (0 : Int) (a1.length : Int) a1 a2 a0 a3 a5 ([] : List Delay) (0 : Int) (List.replicate a1.length (⟨(0 : Int), ⟨(0 : Int), (0 : Int)⟩⟩ : Delay))).p56).toNat (ET.z .frac)).den)⟩ ⟨((a2.getD 0 (ET.z .frac)).num), ((a2.getD 0 (ET.z .frac)).den)⟩).1).den)⟩).1).hi)⟩).2⟩ else (bif Nat.beq (lp_delay_Table_1 a4 (0 : Int) (a1.length : Int) a1 a2 a0 a3 a5 ([] : List Delay) (0 : Int) (List.replicate a1.length (⟨(0 : Int), ⟨(0 : Int), (0 : Int)⟩⟩ : Delay))).k 4 then ⟨true, ([] : List Delay), (m_delay_Split ((addS ⟨(((m_delay_Of a0 a1 (0 : Int) ((lp_delay_Table_1 a4 (0 : Int) (a1.length : Int) a1 a2 a0 a3 a5 ([] : List Delay) (0 : Int) (List.replicate a1.length (⟨(0 : Int), ⟨(0 : Int), (0 : Int)⟩⟩ : Delay))).p56) a3 a4 a5).r0).lo), (((m_delay_Of a0 a1 (0 : Int) ((lp_delay_Table_1 a4 (0 : Int) (a1.length : Int) a1 a2 a0 a3 a5 ([] : List Delay) (0 : Int) (List.replicate a1.length (⟨(0 : Int), ⟨(0 : Int), (0 : Int)⟩⟩ : Delay))).p56) a3 a4 a5).r0).hi)⟩ ⟨(((ofS ⟨(((subF ⟨((a2.getD ((lp_delay_Table_1 a4 (0 : Int) (a1.length : Int) a1 a2 a0 a3 a5 ([] : List Delay) (0 : Int) (List.replicate a1.length (⟨(0 : Int), ⟨(0 : Int), (0 : Int)⟩⟩ : Delay))).p56).toNat (ET.z .frac)).num), ((a2.getD ((lp_delay_Table_1 a4 (0 : Int) (a1.length : Int) a1 a2 a0 a3 a5 ([] : List Delay) (0 : Int) (List.replicate a1.length (⟨(0 : Int), ⟨(0 : Int), (0 : Int)⟩⟩ : Delay))).p56).toNat (ET.z .frac)).den)⟩ ⟨((a2.getD 0 (ET.z .frac)).num), ((a2.getD 0 (ET.z .frac)).den)⟩).1).num), (((subF ⟨((a2.getD ((lp_delay_Table_1 a4 (0 : Int) (a1.length : Int) a1 a2 a0 a3 a5 ([] : List Delay) (0 : Int) (List.replicate a1.length (⟨(0 : Int), ⟨(0 : Int), (0 : Int)⟩⟩ : Delay))).p56).toNat (ET.z .frac)).num), ((a2.getD ((lp_delay_Table_1 a4 (0 : Int) (a1.length : Int) a1 a2 a0 a3 a5 ([] : List Delay) (0 : Int) (List.replicate a1.length (⟨(0 : Int), ⟨(0 : Int), (0 : Int)⟩⟩ : Delay))).p56).toNat (ET.z .frac)).den)⟩ ⟨((a2.getD 0 (ET.z .frac)).num), ((a2.getD 0 (ET.z .frac)).den)⟩).1).den)⟩).1).lo), (((ofS ⟨(((subF ⟨((a2.getD ((lp_delay_Table_1 a4 (0 : Int) (a1.length : Int) a1 a2 a0 a3 a5 ([] : List Delay) (0 : Int) (List.replicate a1.length (⟨(0 : Int), ⟨(0 : Int), (0 : Int)⟩⟩ : Delay))).p56).toNat (ET.z .frac)).num), ((a2.getD ((lp_delay_Table_1 a4 (0 : Int) (a1.length : Int) a1 a2 a0 a3 a5 ([] : List Delay) (0 : Int) (List.replicate a1.length (⟨(0 : Int), ⟨(0 : Int), (0 : Int)⟩⟩ : Delay))).p56).toNat (ET.z .frac)).den)⟩ ⟨((a2.getD 0 (ET.z .frac)).num), ((a2.getD 0 (ET.z .frac)).den)⟩).1).num), (((subF ⟨((a2.getD ((lp_delay_Table_1 a4 (0 : Int) (a1.length : Int) a1 a2 a0 a3 a5 ([] : List Delay) (0 : Int) (List.replicate a1.length (⟨(0 : Int), ⟨(0 : Int), (0 : Int)⟩⟩ : Delay))).p56).toNat (ET.z .frac)).num), ((a2.getD ((lp_delay_Table_1 a4 (0 : Int) (a1.length : Int) a1 a2 a0 a3 a5 ([] : List Delay) (0 : Int) (List.replicate a1.length (⟨(0 : Int), ⟨(0 : Int), (0 : Int)⟩⟩ : Delay))).p56).toNat (ET.z .frac)).den)⟩ ⟨((a2.getD 0 (ET.z .frac)).num), ((a2.getD 0 (ET.z .frac)).den)⟩).1).den)⟩).1).hi)⟩).1)).r1⟩ else (bif Nat.beq (lp_delay_Table_1 a4 (0 : Int) (a1.length : Int) a1 a2 a0 a3 a5 ([] : List Delay) (0 : Int) (List.replicate a1.length (⟨(0 : Int), ⟨(0 : Int), (0 : Int)⟩⟩ : Delay))).k 5 then ⟨true, ((lp_delay_Table_1 a4 (0 : Int) (a1.length : Int) a1 a2 a0 a3 a5 ([] : List Delay) (0 : Int) (List.replicate a1.length (⟨(0 : Int), ⟨(0 : Int), (0 : Int)⟩⟩ : Delay))).m6), (0 : Int)⟩ else ⟨false, [], 0⟩)))))) else ⟨false, [], 0⟩))) else ⟨false, [], 0⟩)))) else ⟨false, [], 0⟩
def F_delay_Table (_a0 : Globe) (a1 : List Site) (a2 : List Frac) (_a3 : Source) (_a4 : Int) (_a5 : Frac) (K : AV → List Blk → Ans) (r : O_delay_Table) : Ans := bif r.ok then K (.tup [.c (.aslice 2 none), .c (.d (.int .i64 r.r1))]) [.arr none .site a1, .arr none .frac a2, .arr (some 53) .delay r.r0] else none
theorem e_delay_Table (a0 : Globe) (a1 : List Site) (a2 : List Frac) (a3 : Source) (a4 : Int) (a5 : Frac) (K : AV → List Blk → Ans) : evFn Tryz.prog GT EQT (inl Tryz.prog GT EQT XT [31] T_Q9_Same 150 2) XT (orL L_delay_Table_1 (orL L_delay_Table_0 noL)) 150 18 [.v (.agg [.int .i64 a0.a, .int .i64 a0.b]), .v (.c (.aslice 0 none)), .v (.c (.aslice 1 none)), .v (.agg [.str a3.name, .int .i64 a3.ra, .int .i64 a3.dec]), .v (.c (.d (.int .i64 a4))), .v (.agg [.int .i64 a5.num, .int .i64 a5.den])] [.arr none .site a1, .arr none .frac a2] (fun v M => K (finR 2 v M).1 (finR 2 v M).2) = F_delay_Table a0 a1 a2 a3 a4 a5 K (m_delay_Table a0 a1 a2 a3 a4 a5) := by
  unfold m_delay_Table
  refine Eq.trans ?_ (Eq.symm (pushT (pushT rfl (pushT rfl (pushT rfl (pushT (pushT rfl (pushT rfl (pushT (pushT rfl (pushT rfl (pushT rfl (pushT rfl (pushT rfl (pushT rfl rfl)))))) rfl))) rfl)))) rfl))
  kernel_rfl
theorem lok_delay_Table : ∀ fn c, Tryz.prog.funcs[18]? = some fn → fn.body = some c → LOKn Tryz.prog GT gbT 2 (orL L_delay_Table_1 (orL L_delay_Table_0 noL)) (loopsIn c) := by
  refine LOKn.ofF fun b hb => ?_
  have e : loopsF Tryz.prog 18 = [loopB Tryz.prog 18 0, loopB Tryz.prog 18 1] := by kernel_rfl
  rw [e] at hb
  simp only [List.mem_cons, List.not_mem_nil, or_false] at hb
  rcases hb with rfl | rfl
  · exact (LOKbn.or (LOKbn.lamN_other (by kernel_rfl)) (LOKbn.or k_delay_Table_0 (fun _ _ _ _ _ _ _ h => h.elim)))
  · exact (LOKbn.or k_delay_Table_1 (LOKbn.or (LOKbn.lamN_other (by kernel_rfl)) (fun _ _ _ _ _ _ _ h => h.elim)))
theorem c_delay_Table (a0 : Globe) (a1 : List Site) (a2 : List Frac) (a3 : Source) (a4 : Int) (a5 : Frac) (hd : (m_delay_Table a0 a1 a2 a3 a4 a5).ok = true) : CallsA Tryz.prog GT gbT 18 [.v (.agg [.int .i64 a0.a, .int .i64 a0.b]), .v (.c (.aslice 0 none)), .v (.c (.aslice 1 none)), .v (.agg [.str a3.name, .int .i64 a3.ra, .int .i64 a3.dec]), .v (.c (.d (.int .i64 a4))), .v (.agg [.int .i64 a5.num, .int .i64 a5.den])] [.arr none .site a1, .arr none .frac a2] (.tup [.c (.aslice 2 none), .c (.d (.int .i64 ((m_delay_Table a0 a1 a2 a3 a4 a5).r1)))]) [.arr none .site a1, .arr none .frac a2, .arr (some 53) .delay ((m_delay_Table a0 a1 a2 a3 a4 a5).r0)] := by
  refine CallsA.ofEvR (g_Q9_Same.inl hEQT hmT (fun f hf => by simp only [List.mem_cons, List.not_mem_nil, or_false] at hf; subst hf; exact (fun args w => Tryz.call31 args w)) 150 2) hEQT hmT (n0 := 2) rfl lok_delay_Table ((e_delay_Table a0 a1 a2 a3 a4 a5 (fun v M => some (Res.fin v M))).trans ?_)
  unfold F_delay_Table
  rw [hd]
  rfl
def s_delay_Table : List AV → List Blk → (AV → List Blk → Ans) → Ans := fun xs bs K => match xs, bs with
  | [.v (.agg [.int .i64 a0_0, .int .i64 a0_1]), .v (.c (.aslice 0 none)), .v (.c (.aslice 1 none)), .v (.agg [.str a3_0, .int .i64 a3_1, .int .i64 a3_2]), .v (.c (.d (.int .i64 a4))), .v (.agg [.int .i64 a5_0, .int .i64 a5_1])], [.arr none .site a1, .arr none .frac a2] => F_delay_Table (⟨a0_0, a0_1⟩ : Globe) a1 a2 (⟨a3_0, a3_1, a3_2⟩ : Source) a4 (⟨a5_0, a5_1⟩ : Frac) K (m_delay_Table (⟨a0_0, a0_1⟩ : Globe) a1 a2 (⟨a3_0, a3_1, a3_2⟩ : Source) a4 (⟨a5_0, a5_1⟩ : Frac))
  | _, _ => none
def T_delay_Table : Nat → List AV → List Blk → (AV → List Blk → Ans) → Ans := upd T_Q9_Same 18 s_delay_Table
theorem g_delay_Table : GOK Tryz.prog GT gbT T_delay_Table XT := by
  refine GOK.upd g_Q9_Same (fun args w => Tryz.call18 args w) fun xs bs K r h => ?_
  unfold s_delay_Table at h
  split at h
  · unfold F_delay_Table at h
    simp only [cond_eq_ite] at h
    split at h
    · rename_i hd
      exact ⟨_, _, c_delay_Table _ _ _ _ _ _ hd, h⟩
    · cases h
  · cases h
structure O_W9_proj where
  ok : Bool
  r0 : Dir
  r1 : Bool
def m_W9_proj (a0 : Globe) (a1 : List Site) (a2 : Source) (a3 : Int) : O_W9_proj := bif (m_Q8_Line a0 a1 (0 : Int) (0 : Int) a2 a3).ok then (bif ((m_Q8_Line a0 a1 (0 : Int) (0 : Int) a2 a3).r1 == (0 : Int)) then ⟨true, (m_Q8_Line a0 a1 (0 : Int) (0 : Int) a2 a3).r0, eqAll [.int .i64 ((((m_Q8_Line a0 a1 (0 : Int) (0 : Int) a2 a3).r0).x).lo), .int .i64 ((((m_Q8_Line a0 a1 (0 : Int) (0 : Int) a2 a3).r0).x).hi), .int .i64 ((((m_Q8_Line a0 a1 (0 : Int) (0 : Int) a2 a3).r0).y).lo), .int .i64 ((((m_Q8_Line a0 a1 (0 : Int) (0 : Int) a2 a3).r0).y).hi), .int .i64 ((((m_Q8_Line a0 a1 (0 : Int) (0 : Int) a2 a3).r0).z).lo), .int .i64 ((((m_Q8_Line a0 a1 (0 : Int) (0 : Int) a2 a3).r0).z).hi)] [.int .i64 (0 : Int), .int .i64 (0 : Int), .int .i64 (0 : Int), .int .i64 (0 : Int), .int .i64 (0 : Int), .int .i64 (0 : Int)]⟩ else ⟨true, (m_Q8_Line a0 a1 (0 : Int) (0 : Int) a2 a3).r0, false⟩) else ⟨false, ⟨⟨0, 0⟩, ⟨0, 0⟩, ⟨0, 0⟩⟩, false⟩
def F_W9_proj (_a0 : Globe) (a1 : List Site) (_a2 : Source) (_a3 : Int) (K : AV → List Blk → Ans) (r : O_W9_proj) : Ans := bif r.ok then K (.tup [.agg [.int .i64 r.r0.x.lo, .int .i64 r.r0.x.hi, .int .i64 r.r0.y.lo, .int .i64 r.r0.y.hi, .int .i64 r.r0.z.lo, .int .i64 r.r0.z.hi], .c (.d (.bool r.r1))]) [.arr none .site a1] else none
theorem e_W9_proj (a0 : Globe) (a1 : List Site) (a2 : Source) (a3 : Int) (K : AV → List Blk → Ans) : evFn Tryz.prog GT EQT T_delay_Table XT noL 80 22 [.v (.agg [.int .i64 a0.a, .int .i64 a0.b]), .v (.c (.aslice 0 none)), .v (.agg [.str a2.name, .int .i64 a2.ra, .int .i64 a2.dec]), .v (.c (.d (.int .i64 a3)))] [.arr none .site a1] (fun v M => K (finR 1 v M).1 (finR 1 v M).2) = F_W9_proj a0 a1 a2 a3 K (m_W9_proj a0 a1 a2 a3) := by
  unfold m_W9_proj
  refine Eq.trans ?_ (Eq.symm (pushT (pushT rfl rfl) rfl))
  kernel_rfl
theorem c_W9_proj (a0 : Globe) (a1 : List Site) (a2 : Source) (a3 : Int) (hd : (m_W9_proj a0 a1 a2 a3).ok = true) : CallsA Tryz.prog GT gbT 22 [.v (.agg [.int .i64 a0.a, .int .i64 a0.b]), .v (.c (.aslice 0 none)), .v (.agg [.str a2.name, .int .i64 a2.ra, .int .i64 a2.dec]), .v (.c (.d (.int .i64 a3)))] [.arr none .site a1] (.tup [.agg [.int .i64 ((((m_W9_proj a0 a1 a2 a3).r0).x).lo), .int .i64 ((((m_W9_proj a0 a1 a2 a3).r0).x).hi), .int .i64 ((((m_W9_proj a0 a1 a2 a3).r0).y).lo), .int .i64 ((((m_W9_proj a0 a1 a2 a3).r0).y).hi), .int .i64 ((((m_W9_proj a0 a1 a2 a3).r0).z).lo), .int .i64 ((((m_W9_proj a0 a1 a2 a3).r0).z).hi)], .c (.d (.bool ((m_W9_proj a0 a1 a2 a3).r1)))]) [.arr none .site a1] := by
  refine CallsA.ofEvR g_delay_Table hEQT hmT (n0 := 1) rfl (fun _ _ _ _ => LOKn.nil) ((e_W9_proj a0 a1 a2 a3 (fun v M => some (Res.fin v M))).trans ?_)
  unfold F_W9_proj
  rw [hd]
  rfl
def s_W9_proj : List AV → List Blk → (AV → List Blk → Ans) → Ans := fun xs bs K => match xs, bs with
  | [.v (.agg [.int .i64 a0_0, .int .i64 a0_1]), .v (.c (.aslice 0 none)), .v (.agg [.str a2_0, .int .i64 a2_1, .int .i64 a2_2]), .v (.c (.d (.int .i64 a3)))], [.arr none .site a1] => F_W9_proj (⟨a0_0, a0_1⟩ : Globe) a1 (⟨a2_0, a2_1, a2_2⟩ : Source) a3 K (m_W9_proj (⟨a0_0, a0_1⟩ : Globe) a1 (⟨a2_0, a2_1, a2_2⟩ : Source) a3)
  | _, _ => none
def T_W9_proj : Nat → List AV → List Blk → (AV → List Blk → Ans) → Ans := upd T_delay_Table 22 s_W9_proj
theorem g_W9_proj : GOK Tryz.prog GT gbT T_W9_proj XT := by
  refine GOK.upd g_delay_Table (fun args w => Tryz.call22 args w) fun xs bs K r h => ?_
  unfold s_W9_proj at h
  split at h
  · unfold F_W9_proj at h
    simp only [cond_eq_ite] at h
    split at h
    · rename_i hd
      exact ⟨_, _, c_W9_proj _ _ _ _ hd, h⟩
    · cases h
  · cases h
end Go.Ev

namespace Go.Ev
open Go
abbrev cAt (l : List Frac) (n : Nat) : Frac := l.getD n (ET.z .frac)
theorem span_eta (a : Span) : (⟨a.lo, a.hi⟩ : Span) = a := rfl
theorem frac_eta (a : Frac) : (⟨a.num, a.den⟩ : Frac) = a := rfl
def clockB (f : Frac) : Bool := betweenB f (-1000) 1000
theorem m_betweenC (f : Frac) : m_delay_between f (-1000) 1000 = ⟨true, clockB f⟩ := m_between f (by decide) (by decide)
theorem m_clock (f : Frac) : m_Q9_Clock f = ⟨true, clockB f⟩ := by
  unfold m_Q9_Clock clockB betweenB
  change (bif (checkF f != 0) then ⟨true, false⟩ else (bif !(lessN ⟨1000, 1⟩ f) then ⟨true, !(lessN f ⟨-1000, 1⟩)⟩ else ⟨true, false⟩) : O_Q9_Clock) = _
  unfold checkF
  cases h : fracOkB f with
  | false => rfl
  | true =>
    have ok := fracOkB_iff.1 h
    have h1 := ok.denlo; have h2 := ok.denhi
    rw [lessN_ok (a := ⟨1000, 1⟩) (b := f) (by decide) (by decide) (by omega) (by omega), lessN_ok (a := f) (b := ⟨-1000, 1⟩) (by omega) (by omega) (by decide) (by decide)]
    simp only [cond_true, bne_self_eq_false, cond_false, Bool.true_and, Int.mul_one]
    by_cases c : 1000 * f.den < f.num
    · rw [dec_t c, dec_f (show ¬ f.num ≤ 1000 * f.den by omega), Bool.and_false]; rfl
    · rw [dec_f c, dec_t (show f.num ≤ 1000 * f.den by omega)]
      by_cases d : f.num < -1000 * f.den
      · rw [dec_t d, dec_f (show ¬ -1000 * f.den ≤ f.num by omega)]; rfl
      · rw [dec_f d, dec_t (show -1000 * f.den ≤ f.num by omega)]; rfl
theorem clock_ok {f : Frac} (h : clockB f = true) : FracOk f := by
  unfold clockB betweenB at h
  simp only [Bool.and_eq_true] at h
  exact fracOkB_iff.1 h.1
theorem run_clocksR (c : List Frac) (p1 : Int) (p4 : Bool) (hl : c.length ≤ maxLen) : ∀ (f n : Nat), n ≤ c.length → c.length - n < f → (run_Q9_Clocks_0 p1 p4 c f (n : Int)).k = bif (c.drop n).all clockB then 1 else 0 := by
  intro f
  induction f with
  | zero => intro n _ h; omega
  | succ f ih =>
    intro n hn h
    rw [run_Q9_Clocks_0]
    simp only [maxLen] at hl
    by_cases h1 : n < c.length
    · simp only [nn_t, lt_t h1, Bool.and_self, cond_true, w64_up (show n < 9223372036854775807 by omega), Int.toNat_natCast, m_clock]
      rw [drop_at (ET.z .frac) h1, List.all_cons]
      cases clockB (cAt c n) with
      | false => rfl
      | true => exact ih (n + 1) (by omega) (by omega)
    · simp only [lt_f h1, cond_false]
      rw [drop_all h1]
      rfl
theorem m_clocksR (c : List Frac) (n : Int) (hl : c.length ≤ maxLen) : m_Q9_Clocks c n = ⟨true, c.all clockB && ((c.length : Int) == n)⟩ := by
  unfold m_Q9_Clocks lp_Q9_Clocks_0
  have := run_clocksR c n false hl (2000 + c.length) 0 (by omega) (by omega)
  rw [show ((0 : Nat) : Int) = 0 from rfl, List.drop_zero] at this
  rw [this]
  cases c.all clockB <;> rfl
theorem run_clocksP (g : Globe) (l : List Site) (c : List Frac) (s : Source) (t : Int) (r : Frac) (p : Int) (m5 : List Delay) (hl : c.length ≤ maxLen) : ∀ (f n : Nat), n ≤ c.length → c.length - n < f → (run_delay_Table_0 t p (c.length : Int) l c g s r m5 f (n : Int)).k = bif (c.drop n).all clockB then 1 else 0 := by
  intro f
  induction f with
  | zero => intro n _ h; omega
  | succ f ih =>
    intro n hn h
    rw [run_delay_Table_0]
    simp only [maxLen] at hl
    by_cases h1 : n < c.length
    · simp only [nn_t, lt_t h1, Bool.and_self, cond_true, w64_up (show n < 9223372036854775807 by omega), Int.toNat_natCast, m_betweenC]
      rw [drop_at (ET.z .frac) h1, List.all_cons]
      cases clockB (cAt c n) with
      | false => rfl
      | true => exact ih (n + 1) (by omega) (by omega)
    · simp only [lt_f h1, cond_false]
      rw [drop_all h1]
      rfl
def entryV (a : Span × Int) (q : Frac × Int) : Delay × Int :=
  bif a.2 != 0 then (delayZ, a.2) else bif q.2 != 0 then (delayZ, q.2) else bif (ofS q.1).2 != 0 then (delayZ, (ofS q.1).2) else bif (addS a.1 (ofS q.1).1).2 != 0 then (delayZ, (addS a.1 (ofS q.1).1).2) else splitV (addS a.1 (ofS q.1).1).1
def entV (g : Globe) (l : List Site) (c : List Frac) (s : Source) (t : Int) (r : Frac) (n : Nat) : Delay × Int := entryV (ofV g l 0 (n : Int) s t r) (subF (cAt c n) (cAt c 0))
def tabN (ent : Nat → Delay × Int) : Nat → Nat → List Delay × Int
  | _, 0 => ([], 0)
  | n, d + 1 => bif (ent n).2 != 0 then ([], (ent n).2) else bif (tabN ent (n + 1) d).2 != 0 then ([], (tabN ent (n + 1) d).2) else ((ent n).1 :: (tabN ent (n + 1) d).1, 0)
def outT (g : Globe) (l : List Site) (c : List Frac) (s : Source) (t : Int) (r : Frac) (R : R_delay_Table_1) : O_delay_Table :=
  bif Nat.beq R.k 0 then ⟨true, [], (ofV g l 0 R.p56 s t r).2⟩ else bif Nat.beq R.k 1 then ⟨true, [], (subF (cAt c R.p56.toNat) (cAt c 0)).2⟩ else
  bif Nat.beq R.k 2 then ⟨true, [], (ofS (subF (cAt c R.p56.toNat) (cAt c 0)).1).2⟩ else bif Nat.beq R.k 3 then ⟨true, [], (addS (ofV g l 0 R.p56 s t r).1 (ofS (subF (cAt c R.p56.toNat) (cAt c 0)).1).1).2⟩ else
  bif Nat.beq R.k 4 then ⟨true, [], (splitV (addS (ofV g l 0 R.p56 s t r).1 (ofS (subF (cAt c R.p56.toNat) (cAt c 0)).1).1).1).2⟩ else bif Nat.beq R.k 5 then ⟨true, R.m6, 0⟩ else ⟨false, [], 0⟩
theorem tab_end {ent : Nat → Delay × Int} {n : Nat} (d : Nat) {e : Int} (h : ent n = (delayZ, e)) (he : (e != 0) = true) : tabN ent n (d + 1) = ([], e) := by
  rw [tabN, h]
  simp only [he, cond_true]
theorem run_table (g : Globe) (l : List Site) (c : List Frac) (s : Source) (t : Int) (r : Frac) (hc : c.length = l.length) (hl : l.length ≤ 8) (p : Int) (m5 : List Delay) : ∀ (f n : Nat) (acc : List Delay), n ≤ l.length → l.length - n < f → acc.length = l.length →
    outT g l c s t r (run_delay_Table_1 t p (l.length : Int) l c g s r m5 f (n : Int) acc) = ⟨true, bif (tabN (entV g l c s t r) n (l.length - n)).2 != 0 then [] else acc.take n ++ (tabN (entV g l c s t r) n (l.length - n)).1, (tabN (entV g l c s t r) n (l.length - n)).2⟩ := by
  intro f
  induction f with
  | zero => intro n acc _ h; omega
  | succ f ih =>
    intro n acc hn h ha
    rw [run_delay_Table_1]
    by_cases h1 : n < l.length
    · obtain ⟨d, hd⟩ : ∃ d, l.length - n = d + 1 := ⟨l.length - n - 1, by omega⟩
      have hd' : l.length - (n + 1) = d := by omega
      rw [hd]
      simp only [lt_t h1, cond_true, m_of, nn_t, lt_t (show n < c.length by omega), lt_t (show n < acc.length by omega), Bool.and_self, Int.toNat_natCast, m_split, span_eta, frac_eta, w64_up (show n < 9223372036854775807 by omega), dec_t (show (0 : Int) ≤ 0 by omega), dec_t (show (0 : Int) < (c.length : Int) by omega)]
      cases k1 : ((ofV g l 0 (n : Int) s t r).2 != 0) with
      | true =>
        rw [tab_end d (e := (ofV g l 0 (n : Int) s t r).2) (by unfold entV entryV; rw [k1]; rfl) k1]
        simp only [k1, cond_true]
        rfl
      | false =>
      cases k2 : ((subF (cAt c n) (cAt c 0)).2 != 0) with
      | true =>
        rw [tab_end d (e := (subF (cAt c n) (cAt c 0)).2) (by unfold entV entryV; rw [k1, k2]; rfl) k2]
        simp only [k2, cond_true, cond_false]
        rfl
      | false =>
      cases k3 : ((ofS (subF (cAt c n) (cAt c 0)).1).2 != 0) with
      | true =>
        rw [tab_end d (e := (ofS (subF (cAt c n) (cAt c 0)).1).2) (by unfold entV entryV; rw [k1, k2, k3]; rfl) k3]
        simp only [k3, cond_true, cond_false]
        rfl
      | false =>
      cases k4 : ((addS (ofV g l 0 (n : Int) s t r).1 (ofS (subF (cAt c n) (cAt c 0)).1).1).2 != 0) with
      | true =>
        rw [tab_end d (e := (addS (ofV g l 0 (n : Int) s t r).1 (ofS (subF (cAt c n) (cAt c 0)).1).1).2) (by unfold entV entryV; rw [k1, k2, k3, k4]; rfl) k4]
        simp only [k4, cond_true, cond_false]
        rfl
      | false =>
        have e : entV g l c s t r n = splitV (addS (ofV g l 0 (n : Int) s t r).1 (ofS (subF (cAt c n) (cAt c 0)).1).1).1 := by unfold entV entryV; rw [k1, k2, k3, k4]; rfl
        simp only [cond_false]
        cases k5 : ((splitV (addS (ofV g l 0 (n : Int) s t r).1 (ofS (subF (cAt c n) (cAt c 0)).1).1).1).2 != 0) with
        | true =>
          rw [tabN, e]
          simp only [k5, cond_true]
          rfl
        | false =>
          have ih' := ih (n + 1) (acc.set n (splitV (addS (ofV g l 0 (n : Int) s t r).1 (ofS (subF (cAt c n) (cAt c 0)).1).1).1).1) (by omega) (by omega) (by rw [List.length_set]; exact ha)
          rw [hd', take_set (show n < acc.length by omega)] at ih'
          rw [tabN, e]
          simp only [k5, cond_false]
          refine ih'.trans ?_
          cases k6 : ((tabN (entV g l c s t r) (n + 1) d).2 != 0) with
          | true => simp only [cond_true, k6]
          | false =>
            have e0 := eq0_of k6
            simp only [cond_false, bne_self_eq_false, List.append_assoc, List.singleton_append, e0]
    · obtain rfl : n = l.length := by omega
      rw [dec_f (show ¬ (l.length : Int) < (l.length : Int) by omega)]
      simp only [cond_false, Nat.sub_self, tabN, bne_self_eq_false, List.append_nil]
      rw [List.take_of_length_le (by omega)]
      rfl
theorem tabN_zero {ent : Nat → Delay × Int} : ∀ (d n : Nat), (tabN ent n d).2 ≠ 0 → (tabN ent n d).1 = []
  | 0, n, h => rfl
  | d + 1, n, h => by
    rw [tabN] at h ⊢
    cases h1 : (ent n).2 != 0 with
    | true => rfl
    | false =>
      cases h2 : (tabN ent (n + 1) d).2 != 0 with
      | true => rfl
      | false => rw [h1, h2] at h; exact (h rfl).elim
theorem tabN_ok {ent : Nat → Delay × Int} : ∀ (d n : Nat), (tabN ent n d).2 = 0 → (tabN ent n d).1.length = d ∧ ∀ k, k < d → ent (n + k) = ((tabN ent n d).1.getD k (ET.z .delay), 0)
  | 0, n, _ => ⟨rfl, fun k h => by omega⟩
  | d + 1, n, h => by
    rw [tabN] at h ⊢
    cases h1 : (ent n).2 != 0 with
    | true => rw [h1] at h; rw [show (ent n).2 = 0 from h] at h1; cases h1
    | false =>
      rw [h1] at h
      cases h2 : (tabN ent (n + 1) d).2 != 0 with
      | true => rw [h2] at h; rw [show (tabN ent (n + 1) d).2 = 0 from h] at h2; cases h2
      | false =>
        obtain ⟨i1, i2⟩ := tabN_ok d (n + 1) (eq0_of h2)
        simp only [cond_false]
        refine ⟨by rw [List.length_cons, i1], fun k hk => ?_⟩
        cases k with
        | zero => rw [Nat.add_zero, List.getD_cons_zero]; exact Prod.ext rfl (eq0_of h1)
        | succ k =>
          rw [List.getD_cons_succ, show n + (k + 1) = n + 1 + k by omega]
          exact i2 k (by omega)
theorem tabN_same {ent ent' : Nat → Delay × Int} : ∀ (d n : Nat), (∀ k, n ≤ k → k < n + d → ent k = ent' k) → tabN ent n d = tabN ent' n d
  | 0, _, _ => rfl
  | d + 1, n, h => by rw [tabN, tabN, h n (by omega) (by omega), tabN_same d (n + 1) fun k h1 h2 => h k (by omega) (by omega)]
theorem tabN_err {ent : Nat → Delay × Int} : ∀ (d n : Nat), (tabN ent n d).2 = 0 ∨ ∃ k, n ≤ k ∧ k < n + d ∧ (tabN ent n d).2 = (ent k).2
  | 0, _ => .inl rfl
  | d + 1, n => by
    rw [tabN]
    cases (ent n).2 != 0 with
    | true => exact .inr ⟨n, by omega, by omega, rfl⟩
    | false =>
      cases h2 : (tabN ent (n + 1) d).2 != 0 with
      | true =>
        rcases tabN_err d (n + 1) with h | ⟨k, k1, k2, k3⟩
        · rw [h] at h2; cases h2
        · exact .inr ⟨k, by omega, by omega, k3⟩
      | false => exact .inl rfl
def tableV (g : Globe) (l : List Site) (c : List Frac) (s : Source) (t : Int) (r : Frac) : List Delay × Int := tabN (entV g l c s t r) 0 l.length
theorem ready_len {g : Globe} {l : List Site} {s : Source} {r : Frac} (h : readyE g l s r = 0) : l.length ≤ 8 := (stations_ok (check_parts (ready_parts h).1).2).1
theorem m_table {g : Globe} {l : List Site} {c : List Frac} {s : Source} {t : Int} {r : Frac} (h : readyE g l s r = 0) (hc : c.length = l.length) (hk : c.all clockB = true) (ht : -1000000 ≤ t ∧ t ≤ 1000000) :
    m_delay_Table g l c s t r = ⟨true, (tableV g l c s t r).1, (tableV g l c s t r).2⟩ := by
  have hl := ready_len h
  have k0 := run_clocksP g l c s t r 0 [] (by simp only [maxLen]; omega) (2000 + (l.length + c.length + ([] : List Delay).length)) 0 (by omega) (by simp only [List.length_nil]; omega)
  rw [show ((0 : Nat) : Int) = 0 from rfl, List.drop_zero, hk] at k0
  have k1 := run_table g l c s t r hc hl 0 [] (2000 + (l.length + c.length + ([] : List Delay).length + (List.replicate l.length (⟨0, ⟨0, 0⟩⟩ : Delay)).length)) 0 (List.replicate l.length ⟨0, ⟨0, 0⟩⟩) (by omega) (by omega) (List.length_replicate ..)
  rw [show ((0 : Nat) : Int) = 0 from rfl, Nat.sub_zero, List.take_zero, List.nil_append] at k1
  unfold m_delay_Table
  simp only [m_ready, h, cond_true, bne_self_eq_false, cond_false, show ((c.length : Int) != (l.length : Int)) = false by simp [hc], lp_delay_Table_0, lp_delay_Table_1, k0, dec_f (show ¬ t < -1000000 by omega), dec_f (show ¬ 1000000 < t by omega), dec_t (show (0 : Int) ≤ (l.length : Int) by omega), dec_t (show (l.length : Int) ≤ 1048576 by omega), m_of, m_split, span_eta, frac_eta]
  refine Eq.trans ?_ (k1.trans ?_)
  · rfl
  · unfold tableV
    cases k2 : ((tabN (entV g l c s t r) 0 l.length).2 != 0) with
    | true => rw [tabN_zero l.length 0 (by simpa using k2)]; rfl
    | false => rfl
end Go.Ev

