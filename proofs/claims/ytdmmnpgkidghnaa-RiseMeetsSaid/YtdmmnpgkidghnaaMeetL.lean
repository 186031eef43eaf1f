/-
  Windows: checks, meets and next times as plain functions; the program's and the reference's are the same. No condition.
-/
import Derived.Test.YtdmmnpgkidghnaaMtI
namespace Go.Ev
open Go

abbrev wAt (l : List Window) (n : Nat) : Window := l.getD n (ET.z .win)

def badAt (l : List Window) (n : Nat) : Bool := decide ((wAt l n).too ≤ (wAt l n).frm) || (decide (0 < n) && decide ((wAt l n).frm ≤ (wAt l (n - 1)).too))

/-- Some window from the n-th on is bad. -/
def badFrom (l : List Window) (n : Nat) : Bool := (List.range' n (l.length - n)).any (badAt l)

theorem badFrom_step {l : List Window} {n : Nat} (h : n < l.length) : badFrom l n = (badAt l n || badFrom l (n + 1)) := by
  unfold badFrom
  rw [show l.length - n = (l.length - (n + 1)) + 1 by omega, List.range'_succ, List.any_cons]

theorem badFrom_end {l : List Window} {n : Nat} (h : ¬ n < l.length) : badFrom l n = false := by
  unfold badFrom
  rw [show l.length - n = 0 by omega]
  rfl

def checkW (l : List Window) : Int := bif decide (1000 < l.length) then 4 else bif badFrom l 0 then 8 else 0

theorem run_check (l : List Window) (p : Int) (hl : l.length ≤ 1000) : ∀ (f n : Nat), l.length - n < f → (run_rise_Check_0 p (l.length : Int) l f (n : Int)).k = bif badFrom l n then 0 else 1 := by
  intro f
  induction f with
  | zero => intro n h; omega
  | succ f ih =>
    intro n h
    rw [run_rise_Check_0]
    by_cases h1 : n < l.length
    · simp only [nn_t, Bool.and_self, lt_t h1, cond_true, w64_nat (show n < 4611686018427387904 by omega), Int.toNat_natCast]
      rw [badFrom_step h1]
      by_cases c1 : (wAt l n).too ≤ (wAt l n).frm
      · simp only [dec_t c1, cond_true, badAt, Bool.true_or]
      · simp only [dec_f c1, cond_false, badAt, Bool.false_or]
        by_cases c0 : 0 < n
        · simp only [nn_t, Bool.and_self, w64_pred c0 (show n < 4611686018427387904 by omega), dec_t (show (0 : Int) < (n : Int) by omega), lt_t (show n - 1 < l.length by omega), cond_true, Int.toNat_natCast, dec_t c0, Bool.true_and]
          by_cases c2 : (wAt l n).frm ≤ (wAt l (n - 1)).too
          · simp only [dec_t c2, cond_true, Bool.true_or]
          · simp only [dec_f c2, cond_false, Bool.false_or]
            exact ih (n + 1) (by omega)
        · simp only [dec_f (show ¬ (0 : Int) < (n : Int) by omega), cond_false, dec_f c0, Bool.false_and, Bool.false_or]
          exact ih (n + 1) (by omega)
    · simp only [lt_f h1, cond_false]
      rw [badFrom_end h1]
      rfl

theorem m_check (l : List Window) : m_rise_Check l = ⟨true, checkW l⟩ := by
  unfold m_rise_Check checkW lp_rise_Check_0
  by_cases h : 1000 < l.length
  · rw [dec_t (show (1000 : Int) < (l.length : Int) by omega), dec_t h]; rfl
  · rw [dec_f (show ¬ (1000 : Int) < (l.length : Int) by omega), dec_f h]
    have := run_check l 0 (by omega) (2000 + l.length) 0 (by omega)
    simp only [cond_false]
    rw [show ((0 : Nat) : Int) = 0 from rfl] at this
    rw [this]
    cases badFrom l 0 <;> rfl

theorem run_checkR (l : List Window) (p : Int) (hl : l.length ≤ 1000) : ∀ (f n : Nat), l.length - n < f → (run_fringeref07_Check_0 p l f (n : Int)).k = bif badFrom l n then 0 else 1 := by
  intro f
  induction f with
  | zero => intro n h; omega
  | succ f ih =>
    intro n h
    rw [run_fringeref07_Check_0]
    by_cases h1 : n < l.length
    · simp only [nn_t, Bool.and_self, lt_t h1, cond_true, w64_nat (show n < 4611686018427387904 by omega), Int.toNat_natCast]
      rw [badFrom_step h1]
      by_cases c1 : (wAt l n).too ≤ (wAt l n).frm
      · simp only [dec_t c1, cond_true, badAt, Bool.true_or]
      · simp only [dec_f c1, cond_false, badAt, Bool.false_or]
        by_cases c0 : 0 < n
        · simp only [nn_t, Bool.and_self, w64_pred c0 (show n < 4611686018427387904 by omega), dec_t (show (0 : Int) < (n : Int) by omega), lt_t (show n - 1 < l.length by omega), cond_true, Int.toNat_natCast, dec_t c0, Bool.true_and]
          by_cases c2 : (wAt l n).frm ≤ (wAt l (n - 1)).too
          · simp only [dec_t c2, cond_true, Bool.true_or]
          · simp only [dec_f c2, cond_false, Bool.false_or]
            exact ih (n + 1) (by omega)
        · simp only [dec_f (show ¬ (0 : Int) < (n : Int) by omega), cond_false, dec_f c0, Bool.false_and, Bool.false_or]
          exact ih (n + 1) (by omega)
    · simp only [lt_f h1, cond_false]
      rw [badFrom_end h1]
      rfl

theorem m_checkR (l : List Window) : m_fringeref07_Check l = ⟨true, checkW l⟩ := by
  unfold m_fringeref07_Check checkW lp_fringeref07_Check_0
  by_cases h : 1000 < l.length
  · rw [dec_t (show (1000 : Int) < (l.length : Int) by omega), dec_t h]; rfl
  · rw [dec_f (show ¬ (1000 : Int) < (l.length : Int) by omega), dec_f h]
    have := run_checkR l 0 (by omega) (2000 + l.length) 0 (by omega)
    simp only [cond_false]
    rw [show ((0 : Nat) : Int) = 0 from rfl] at this
    rw [this]
    cases badFrom l 0 <;> rfl

/-! ### Valid windows -/

/-- Windows in order, apart. -/
def Okw : List Window → Prop
  | [] => True
  | [x] => x.frm < x.too
  | x :: y :: r => x.frm < x.too ∧ x.too < y.frm ∧ Okw (y :: r)

theorem okw_of : ∀ (l : List Window), (∀ n, n < l.length → badAt l n = false) → Okw l
  | [], _ => trivial
  | [x], h => by
    have := h 0 (by simp)
    simp [badAt, wAt] at this
    exact this
  | x :: y :: r, h => by
    have h0 := h 0 (by simp)
    have h1 := h 1 (by simp)
    simp [badAt, wAt] at h0 h1
    refine ⟨h0, h1.2, okw_of (y :: r) fun n hn => ?_⟩
    cases n with
    | zero => simp [badAt, wAt]; exact h1.1
    | succ n =>
      have h2 := h (n + 2) (by simpa using hn)
      simpa [badAt, wAt] using h2

theorem okw_check {l : List Window} (h : checkW l = 0) : l.length ≤ 1000 ∧ Okw l := by
  unfold checkW at h
  by_cases h1 : 1000 < l.length
  · rw [dec_t h1] at h; cases h
  · rw [dec_f h1] at h
    refine ⟨by omega, okw_of l fun n hn => ?_⟩
    cases hb : badFrom l 0 with
    | true => rw [hb] at h; cases h
    | false =>
      unfold badFrom at hb
      rw [List.any_eq_false] at hb
      simpa using hb n (by simp [List.mem_range']; omega)

theorem Okw.tail {x : Window} {l : List Window} (h : Okw (x :: l)) : Okw l := by
  cases l with
  | nil => trivial
  | cons y r => exact h.2.2

theorem Okw.head {x : Window} {l : List Window} (h : Okw (x :: l)) : x.frm < x.too := by
  cases l with
  | nil => exact h
  | cons y r => exact h.1

theorem Okw.later : ∀ {l : List Window} {x : Window}, Okw (x :: l) → ∀ y ∈ l, x.too < y.frm
  | [], _, _, y, hy => by cases hy
  | z :: r, x, h, y, hy => by
    rcases List.mem_cons.1 hy with rfl | hy
    · exact h.2.1
    · have h1 := h.2.1
      have h2 := Okw.head h.2.2
      have h3 := Okw.later h.2.2 y hy
      omega

/-! ### Meets -/

def wmax (x y : Int) : Int := if y > x then y else x
def wmin (x y : Int) : Int := if y < x then y else x

/-- What two windows have in common. -/
def inter (x y : Window) : List Window := bif decide (wmax x.frm y.frm < wmin x.too y.too) then [⟨wmax x.frm y.frm, wmin x.too y.too⟩] else []

theorem inter_apart {x y : Window} (h : x.too < y.frm) : inter x y = [] ∧ inter y x = [] := by
  constructor
  · unfold inter
    rw [dec_f (by unfold wmax wmin; split <;> split <;> omega)]
    rfl
  · unfold inter
    rw [dec_f (by unfold wmax wmin; split <;> split <;> omega)]
    rfl

def nestW (a b : List Window) : List Window := a.flatMap fun x => b.flatMap (inter x)

/-- One step of the meet: the pair in front. -/
theorem nest_step {x y : Window} {a b : List Window} (ha : Okw (x :: a)) (hb : Okw (y :: b)) :
    nestW (x :: a) (y :: b) = inter x y ++ (if x.too < y.too then nestW a (y :: b) else nestW (x :: a) b) := by
  by_cases h : x.too < y.too
  · rw [if_pos h]
    unfold nestW
    rw [List.flatMap_cons, List.flatMap_cons]
    have : b.flatMap (inter x) = [] := by
      rw [List.flatMap_eq_nil_iff]
      intro z hz
      have := hb.later z hz
      exact (inter_apart (by omega)).1
    rw [this, List.append_nil]
  · rw [if_neg h]
    unfold nestW
    rw [List.flatMap_cons, List.flatMap_cons, List.flatMap_cons, List.append_assoc]
    have key : ∀ l : List Window, (∀ z ∈ l, x.too < z.frm) → l.flatMap (fun x => (y :: b).flatMap (inter x)) = l.flatMap fun x => b.flatMap (inter x) := by
      intro l
      induction l with
      | nil => intro _; rfl
      | cons z r ih =>
        intro hz
        have h1 := hz z (by simp)
        rw [List.flatMap_cons, List.flatMap_cons, List.flatMap_cons, (inter_apart (show y.too < z.frm by omega)).2, List.nil_append, ih fun w hw => hz w (by simp [hw])]
    rw [key a ha.later]

theorem nest_nil (a : List Window) : nestW a [] = [] := by
  unfold nestW
  rw [List.flatMap_eq_nil_iff]
  intro z _
  rfl

theorem drop_cons {l : List Window} {n : Nat} (h : n < l.length) : l.drop n = wAt l n :: l.drop (n + 1) := by
  rw [List.drop_eq_getElem_cons h]
  congr 1
  rw [wAt, List.getD_eq_getElem?_getD, List.getElem?_eq_getElem h]
  rfl

theorem Okw.drop {l : List Window} (h : Okw l) : ∀ n, Okw (l.drop n)
  | 0 => by simpa using h
  | n + 1 => by
    by_cases hn : n < l.length
    · have := Okw.drop h n
      rw [drop_cons hn] at this
      exact this.tail
    · rw [List.drop_eq_nil_of_le (by omega)]
      trivial

theorem room_t {n : Nat} (h : n ≤ 1048576) : Nat.ble n roomD = true := by rw [Nat.ble_eq]; exact h

theorem run_meet (a b : List Window) (ha : Okw a) (hb : Okw b) (hla : a.length ≤ 1000) (hlb : b.length ≤ 1000) : ∀ (f i j : Nat) (o : List Window), i ≤ a.length → j ≤ b.length → (a.length - i) + (b.length - j) < f → o.length + (a.length - i) + (b.length - j) ≤ 1048576 →
    (run_rise_Meet_0 a b f (i : Int) (j : Int) o).k = 0 ∧ (run_rise_Meet_0 a b f (i : Int) (j : Int) o).m2 = o ++ nestW (a.drop i) (b.drop j) := by
  intro f
  induction f with
  | zero => intro i j o _ _ h; omega
  | succ f ih =>
    intro i j o hi hj h ho
    rw [run_rise_Meet_0]
    by_cases h1 : i < a.length
    · by_cases h2 : j < b.length
      · simp only [nn_t, Bool.and_self, lt_t h1, lt_t h2, cond_true, w64_nat (show i < 4611686018427387904 by omega), w64_nat (show j < 4611686018427387904 by omega), Int.toNat_natCast, List.length_singleton]
        rw [drop_cons h1, drop_cons h2]
        have oa := ha.drop i
        have ob := hb.drop j
        rw [drop_cons h1] at oa
        rw [drop_cons h2] at ob
        rw [nest_step oa ob]
        have fin : ∀ (o' : List Window), o'.length ≤ o.length + 1 →
            (bif decide ((wAt a i).too < (wAt b j).too) then run_rise_Meet_0 a b f ((i + 1 : Nat) : Int) (j : Int) o' else run_rise_Meet_0 a b f (i : Int) ((j + 1 : Nat) : Int) o').k = 0 ∧
            (bif decide ((wAt a i).too < (wAt b j).too) then run_rise_Meet_0 a b f ((i + 1 : Nat) : Int) (j : Int) o' else run_rise_Meet_0 a b f (i : Int) ((j + 1 : Nat) : Int) o').m2 = o' ++ (if (wAt a i).too < (wAt b j).too then nestW (a.drop (i + 1)) (wAt b j :: b.drop (j + 1)) else nestW (wAt a i :: a.drop (i + 1)) (b.drop (j + 1))) := by
          intro o' ho'
          by_cases c : (wAt a i).too < (wAt b j).too
          · rw [dec_t c, if_pos c, ← drop_cons h2]
            exact ih (i + 1) j o' (by omega) (by omega) (by omega) (by omega)
          · rw [dec_f c, if_neg c, ← drop_cons h1]
            exact ih i (j + 1) o' (by omega) (by omega) (by omega) (by omega)
        by_cases c : wmax (wAt a i).frm (wAt b j).frm < wmin (wAt a i).too (wAt b j).too
        · have c' := c
          unfold wmax wmin at c'
          rw [show inter (wAt a i) (wAt b j) = [⟨wmax (wAt a i).frm (wAt b j).frm, wmin (wAt a i).too (wAt b j).too⟩] by unfold inter; rw [dec_t c]; rfl]
          rw [dec_t c', room_t (show o.length + 1 ≤ 1048576 by omega), ← List.append_assoc]
          exact fin _ (by simp)
        · have c' := c
          unfold wmax wmin at c'
          rw [show inter (wAt a i) (wAt b j) = [] by unfold inter; rw [dec_f c]; rfl, List.nil_append]
          rw [dec_f c']
          exact fin o (by omega)
      · simp only [lt_t h1, lt_f h2, cond_true, cond_false, List.drop_eq_nil_of_le (show b.length ≤ j by omega), nest_nil, List.append_nil, and_self]
    · simp only [lt_f h1, cond_false, List.drop_eq_nil_of_le (show a.length ≤ i by omega), nestW, List.flatMap_nil, List.append_nil, and_self]

/-- What the meet returns. -/
def meetW (a b : List Window) : List Window × Int :=
  bif checkW a != 0 then ([], checkW a) else bif checkW b != 0 then ([], checkW b) else bif decide (1000 < (nestW a b).length) then ([], 4) else (nestW a b, 0)

theorem ne0_of {n : Int} (h : ¬ (n != 0) = true) : n = 0 := by simpa using h

theorem m_meet (a b : List Window) : m_rise_Meet a b = ⟨true, (meetW a b).1, (meetW a b).2⟩ := by
  unfold m_rise_Meet meetW
  simp only [m_check, cond_true]
  cases h1 : (checkW a != 0) with
  | true => rfl
  | false =>
    cases h2 : (checkW b != 0) with
    | true => rfl
    | false =>
      obtain ⟨la, oa⟩ := okw_check (ne0_of (by rw [h1]; simp))
      obtain ⟨lb, ob⟩ := okw_check (ne0_of (by rw [h2]; simp))
      simp only [cond_false]
      unfold lp_rise_Meet_0
      obtain ⟨k1, k2⟩ := run_meet a b oa ob la lb (2000 + (a.length + b.length + ([] : List Window).length)) 0 0 [] (by omega) (by omega) (by omega) (by simp; omega)
      rw [show ((0 : Nat) : Int) = 0 from rfl] at k1 k2
      rw [k1, k2]
      simp only [List.nil_append, List.drop_zero]
      by_cases c : 1000 < (nestW a b).length
      · rw [dec_t c, dec_t (show (1000 : Int) < ((nestW a b).length : Int) by omega)]; rfl
      · rw [dec_f c, dec_f (show ¬ (1000 : Int) < ((nestW a b).length : Int) by omega)]; rfl

theorem inter_len (x y : Window) : (inter x y).length ≤ 1 := by
  unfold inter
  cases decide (wmax x.frm y.frm < wmin x.too y.too) <;> simp

theorem run_meet1 (a b : List Window) (i : Nat) (hi : i < a.length) (hlb : b.length ≤ 1000) : ∀ (f j : Nat) (o : List Window), j ≤ b.length → b.length - j < f → o.length + (b.length - j) ≤ 1048576 →
    (run_fringeref07_Meet_1 (i : Int) a b f (j : Int) o).k = 0 ∧ (run_fringeref07_Meet_1 (i : Int) a b f (j : Int) o).m2 = o ++ (b.drop j).flatMap (inter (wAt a i)) := by
  intro f
  induction f with
  | zero => intro j o _ h; omega
  | succ f ih =>
    intro j o hj h ho
    rw [run_fringeref07_Meet_1]
    by_cases h2 : j < b.length
    · simp only [nn_t, Bool.and_self, lt_t h2, lt_t hi, cond_true, w64_nat (show j < 4611686018427387904 by omega), Int.toNat_natCast, List.length_singleton]
      rw [drop_cons h2, List.flatMap_cons]
      by_cases c : wmax (wAt a i).frm (wAt b j).frm < wmin (wAt a i).too (wAt b j).too
      · have c' := c
        unfold wmax wmin at c'
        rw [show inter (wAt a i) (wAt b j) = [⟨wmax (wAt a i).frm (wAt b j).frm, wmin (wAt a i).too (wAt b j).too⟩] by unfold inter; rw [dec_t c]; rfl]
        rw [dec_t c', room_t (show o.length + 1 ≤ 1048576 by omega), ← List.append_assoc]
        exact ih (j + 1) _ (by omega) (by omega) (by simp; omega)
      · have c' := c
        unfold wmax wmin at c'
        rw [show inter (wAt a i) (wAt b j) = [] by unfold inter; rw [dec_f c]; rfl, List.nil_append, dec_f c']
        exact ih (j + 1) o (by omega) (by omega) (by omega)
    · simp only [lt_f h2, cond_false, List.drop_eq_nil_of_le (show b.length ≤ j by omega), List.flatMap_nil, List.append_nil, and_self]

theorem flat_inter_len (x : Window) : ∀ l : List Window, (l.flatMap (inter x)).length ≤ l.length
  | [] => by simp
  | y :: r => by
    rw [List.flatMap_cons, List.length_append, List.length_cons]
    have := flat_inter_len x r
    have := inter_len x y
    omega

theorem run_meet0 (a b : List Window) (hla : a.length ≤ 1000) (hlb : b.length ≤ 1000) : ∀ (f i : Nat) (o : List Window), i ≤ a.length → a.length - i < f → o.length + (a.length - i) * b.length ≤ 1000000 →
    (run_fringeref07_Meet_0 a b f (i : Int) o).k = 0 ∧ (run_fringeref07_Meet_0 a b f (i : Int) o).m2 = o ++ nestW (a.drop i) b := by
  intro f
  induction f with
  | zero => intro i o _ h; omega
  | succ f ih =>
    intro i o hi h ho
    rw [run_fringeref07_Meet_0]
    by_cases h1 : i < a.length
    · have e : a.length - i = (a.length - (i + 1)) + 1 := by omega
      rw [e, Nat.add_mul, Nat.one_mul] at ho
      unfold lp_fringeref07_Meet_1
      obtain ⟨k1, k2⟩ := run_meet1 a b i h1 hlb (2000 + (a.length + b.length + o.length)) 0 o (by omega) (by omega) (by omega)
      rw [show ((0 : Nat) : Int) = 0 from rfl] at k1 k2
      simp only [lt_t h1, cond_true, k1, k2, w64_nat (show i < 4611686018427387904 by omega), List.drop_zero]
      have hl := flat_inter_len (wAt a i) b
      obtain ⟨m1, m2⟩ := ih (i + 1) (o ++ b.flatMap (inter (wAt a i))) (by omega) (by omega) (by rw [List.length_append]; omega)
      refine ⟨m1, ?_⟩
      refine m2.trans ?_
      rw [drop_cons h1]
      unfold nestW
      rw [List.flatMap_cons, List.append_assoc]
    · simp only [lt_f h1, cond_false, List.drop_eq_nil_of_le (show a.length ≤ i by omega), nestW, List.flatMap_nil, List.append_nil, and_self]

theorem m_meetR (a b : List Window) : m_fringeref07_Meet a b = ⟨true, (meetW a b).1, (meetW a b).2⟩ := by
  unfold m_fringeref07_Meet meetW
  simp only [m_checkR, cond_true]
  cases h1 : (checkW a != 0) with
  | true => rfl
  | false =>
    cases h2 : (checkW b != 0) with
    | true => rfl
    | false =>
      obtain ⟨la, _⟩ := okw_check (ne0_of (by rw [h1]; simp))
      obtain ⟨lb, _⟩ := okw_check (ne0_of (by rw [h2]; simp))
      simp only [cond_false]
      unfold lp_fringeref07_Meet_0
      have hm : a.length * b.length ≤ 1000 * 1000 := Nat.mul_le_mul la lb
      obtain ⟨k1, k2⟩ := run_meet0 a b la lb (2000 + (a.length + b.length + ([] : List Window).length)) 0 [] (by omega) (by omega) (by simp; omega)
      rw [show ((0 : Nat) : Int) = 0 from rfl] at k1 k2
      rw [k1, k2]
      simp only [List.nil_append, List.drop_zero]
      by_cases c : 1000 < (nestW a b).length
      · rw [dec_t c, dec_t (show (1000 : Int) < ((nestW a b).length : Int) by omega)]; rfl
      · rw [dec_f c, dec_f (show ¬ (1000 : Int) < ((nestW a b).length : Int) by omega)]; rfl

/-! ### The next time -/

/-- The two loops end alike: the same end, at the same window. -/
theorem run_next (l : List Window) (p1 p2 p6 p7 q6 q7 : Int) (hl : l.length ≤ 1000) : ∀ (f n : Nat), l.length - n < f →
    ((run_rise_Next_0 p1 p2 p6 p7 (l.length : Int) l f (n : Int)).k = 0 ∨ (run_rise_Next_0 p1 p2 p6 p7 (l.length : Int) l f (n : Int)).k = 1) ∧
    (run_fringeref07_Next_0 p1 p2 q6 q7 l f (n : Int)).k = (run_rise_Next_0 p1 p2 p6 p7 (l.length : Int) l f (n : Int)).k ∧
    (run_fringeref07_Next_0 p1 p2 q6 q7 l f (n : Int)).p8 = (run_rise_Next_0 p1 p2 p6 p7 (l.length : Int) l f (n : Int)).p21 := by
  intro f
  induction f with
  | zero => intro n h; omega
  | succ f ih =>
    intro n h
    rw [run_rise_Next_0, run_fringeref07_Next_0]
    by_cases h1 : n < l.length
    · simp only [nn_t, Bool.and_self, lt_t h1, cond_true, w64_nat (show n < 4611686018427387904 by omega), Int.toNat_natCast]
      have := ih (n + 1) (by omega)
      cases decide ((if (l.getD n (ET.z .win)).frm > p1 then (l.getD n (ET.z .win)).frm else p1) < (l.getD n (ET.z .win)).too) with
      | false => exact this
      | true =>
        simp only [cond_true]
        cases decide (wu64 p2 ≤ wu64 (wu64 (l.getD n (ET.z .win)).too - wu64 (if (l.getD n (ET.z .win)).frm > p1 then (l.getD n (ET.z .win)).frm else p1))) with
        | true => exact ⟨.inl rfl, rfl, rfl⟩
        | false => exact this
    · simp only [lt_f h1, cond_false]
      exact ⟨.inr trivial, trivial, trivial⟩

theorem m_next (l : List Window) (at_ len : Int) : (m_rise_Next l at_ len).ok = true ∧ (m_fringeref07_Next l at_ len).ok = true ∧ (m_fringeref07_Next l at_ len).r0 = (m_rise_Next l at_ len).r0 ∧ (m_fringeref07_Next l at_ len).r1 = (m_rise_Next l at_ len).r1 := by
  unfold m_rise_Next m_fringeref07_Next
  simp only [m_check, m_checkR, cond_true]
  cases h1 : (checkW l != 0) with
  | true => exact ⟨rfl, rfl, rfl, rfl⟩
  | false =>
    cases decide (len < 1) with
    | true => exact ⟨rfl, rfl, rfl, rfl⟩
    | false =>
      obtain ⟨la, _⟩ := okw_check (ne0_of (by rw [h1]; simp))
      simp only [cond_false]
      unfold lp_rise_Next_0 lp_fringeref07_Next_0
      obtain ⟨k1, k2, k3⟩ := run_next l at_ len 0 0 0 0 la (2000 + l.length) 0 (by omega)
      rw [show ((0 : Nat) : Int) = 0 from rfl] at k1 k2 k3
      rw [k2, k3]
      rcases k1 with k1 | k1 <;> rw [k1] <;> exact ⟨rfl, rfl, rfl, rfl⟩

/-! ### Comparing -/

theorem eq_win (x y : Window) : eqAll [.int .i64 x.frm, .int .i64 x.too] [.int .i64 y.frm, .int .i64 y.too] = decide (x = y) := by
  cases x; cases y
  simp [eqAll, D.eq, Window.mk.injEq]
  rfl

theorem run_same (p : Bool) (a b : List Window) (hab : a.length = b.length) (hl : a.length < 4611686018427387904) : ∀ (f n : Nat), a.length - n < f →
    (run_fringeref07_Same_0 p a b f (n : Int)).k = if a.drop n = b.drop n then 1 else 0 := by
  intro f
  induction f with
  | zero => intro n h; omega
  | succ f ih =>
    intro n h
    rw [run_fringeref07_Same_0]
    by_cases h1 : n < a.length
    · simp only [nn_t, Bool.and_self, lt_t h1, lt_t (show n < b.length by omega), cond_true, w64_nat (show n < 4611686018427387904 by omega), Int.toNat_natCast]
      rw [drop_cons h1, drop_cons (show n < b.length by omega), eq_win]
      by_cases c : wAt a n = wAt b n
      · rw [dec_t c]
        simp only [Bool.not_true, cond_false, c, List.cons.injEq, true_and]
        exact ih (n + 1) (by omega)
      · rw [dec_f c]
        simp only [Bool.not_false, cond_true, List.cons.injEq, c, false_and, if_false]
    · simp only [lt_f h1, cond_false]
      rw [List.drop_eq_nil_of_le (by omega), List.drop_eq_nil_of_le (by omega), if_pos rfl]

theorem m_same (a b : List Window) (hl : a.length < 4611686018427387904) : m_fringeref07_Same a b = ⟨true, decide (a = b)⟩ := by
  unfold m_fringeref07_Same lp_fringeref07_Same_0
  by_cases h : a.length = b.length
  · rw [show ((a.length : Int) != (b.length : Int)) = false by simp [h]]
    have := run_same false a b h hl (2000 + (a.length + b.length)) 0 (by omega)
    rw [show ((0 : Nat) : Int) = 0 from rfl, List.drop_zero, List.drop_zero] at this
    simp only [cond_false]
    rw [this]
    by_cases c : a = b
    · rw [if_pos c, dec_t c]; rfl
    · rw [if_neg c, dec_f c]; rfl
  · rw [show ((a.length : Int) != (b.length : Int)) = true by simp; omega, dec_f (fun e => h (by rw [e]))]
    rfl

theorem meet_len (a b : List Window) : (meetW a b).1.length ≤ 1000 := by
  unfold meetW
  cases checkW a != 0 with
  | true => simp
  | false =>
    cases checkW b != 0 with
    | true => simp
    | false =>
      by_cases c : 1000 < (nestW a b).length
      · rw [dec_t c]; simp
      · rw [dec_f c]; simp; omega

/-! ### The law -/

theorem law_RiseMeets (a b : List Window) (at_ len : Int) : m_fringelaw07_RiseMeets a b at_ len = ⟨true, true⟩ := by
  unfold m_fringelaw07_RiseMeets
  have great : ∀ l : List Window, (m_fringeref07_Great l).ok = true ∧ ((m_fringeref07_Great l).r0 = false → l.length ≤ 1010) := by
    intro l
    unfold m_fringeref07_Great
    by_cases h1 : 40 < l.length
    · rw [dec_t (show (40 : Int) < (l.length : Int) by omega)]
      by_cases h2 : l.length ≤ 1000
      · rw [dec_t (show (l.length : Int) ≤ 1000 by omega)]; exact ⟨rfl, fun _ => by omega⟩
      · rw [dec_f (show ¬ (l.length : Int) ≤ 1000 by omega)]
        exact ⟨rfl, fun h => by have := of_decide_eq_false h; omega⟩
    · exact ⟨by rw [dec_f (show ¬ (40 : Int) < (l.length : Int) by omega)]; rfl, fun _ => by omega⟩
  obtain ⟨g1, g2⟩ := great a
  obtain ⟨g3, g4⟩ := great b
  rw [g1, g3]
  simp only [cond_true]
  cases h1 : (m_fringeref07_Great a).r0 with
  | true => rfl
  | false =>
    cases h2 : (m_fringeref07_Great b).r0 with
    | true => rfl
    | false =>
      have la := g2 h1
      obtain ⟨n1, n2, n3, n4⟩ := m_next a at_ len
      have hs : m_fringeref07_Same (meetW a b).1 (meetW a b).1 = ⟨true, true⟩ := by rw [m_same _ _ (by have := meet_len a b; omega), dec_t rfl]
      have hs2 : m_fringeref07_Same a a = ⟨true, true⟩ := by rw [m_same _ _ (by omega), dec_t rfl]
      simp only [cond_false, m_check, m_checkR, m_meet, m_meetR, hs, n1, n2, n3, n4, cond_true, beq_self_eq_true, List.nil_append, hs2]
      cases hz : (a.length == 0) with
      | true =>
        have : a = [] := by simpa using hz
        subst this
        rfl
      | false =>
        rw [room_t (show ([] : List Window).length + a.length ≤ 1048576 by simp; omega)]
        rfl

end Go.Ev
