/-
  The chapter's examples, what is fit, checks of windows. No condition.
  Plain functions that mirror functions of the program, and that it computes them. No condition beyond those of the statements.
  Nothing is said here.
  Windows: checks and meets as plain functions. No condition.
  Windows that are valid are told by their ticks; what two have in common. No program here.
  Windows for two stations, and the next time; the law RiseTogether. No condition.
  What a listed variable that is a fraction reads as: its two cells. No condition.
-/
import Derived.Test.YtlmjaedhcphglaaGreatDoorPkS10
import Derived.ChangeSame
import Derived.ChangeArms
import Derived.FnData
import Derived.MakeChecks
import GoSem.ClaimJoined
set_option maxRecDepth 100000
namespace Go.Ev
open Go
theorem m_alive : m_W7_alive = ⟨true, true⟩ := by kernel_rfl
theorem m_long (l : List Site) (s : Source) (hl : l.length ≤ maxLen) : m_W7_long l s = ⟨true, greatB l || decide (200 < s.name.size)⟩ := by
  unfold m_W7_long
  rw [m_great l hl]
  by_cases c : 200 < s.name.size
  · rw [dec_t c, dec_t (show (200 : Int) < (s.name.size : Int) by omega)]
    cases greatB l <;> rfl
  · rw [dec_f c, dec_f (show ¬ (200 : Int) < (s.name.size : Int) by omega)]
    cases greatB l <;> rfl
def fit7 (g : Globe) (l : List Site) (s : Source) (t : Int) (lim : Frac) : Bool := !(greatB l || decide (200 < s.name.size)) && (lookE g l s lim == 0 && (decide (-900000 ≤ t) && decide (t ≤ 900000)))
theorem look_parts (g : Globe) (l : List Site) (s : Source) (lim : Frac) : (lookE g l s lim == 0) = (((bif checkA g l != 0 then checkA g l else checkSrc s) == 0) && limB lim) := by
  unfold lookE
  cases h1 : (checkA g l != 0) with
  | true =>
    simp only [cond_true]
    rw [show (checkA g l == 0) = false by simpa [bne] using h1]
    rfl
  | false =>
    simp only [cond_false]
    cases h2 : (checkSrc s != 0) with
    | true =>
      simp only [cond_true]
      rw [show (checkSrc s == 0) = false by simpa [bne] using h2]
      rfl
    | false =>
      rw [eq0_of h2]
      cases limB lim <;> rfl
theorem m_fit (g : Globe) (l : List Site) (s : Source) (t : Int) (lim : Frac) (hl : l.length ≤ maxLen) : m_W7_fit g l s t lim = ⟨true, fit7 g l s t lim⟩ := by
  unfold m_W7_fit fit7
  rw [look_parts]
  simp only [m_long l s hl, m_both, m_limit, cond_true]
  cases greatB l || decide (200 < s.name.size) with
  | true => rfl
  | false =>
    cases (bif checkA g l != 0 then checkA g l else checkSrc s) == 0 with
    | false => rfl
    | true => cases limB lim <;> cases decide (-900000 ≤ t) <;> cases decide (t ≤ 900000) <;> rfl
theorem fit7_ok {g : Globe} {l : List Site} {s : Source} {t : Int} {lim : Frac} (h : fit7 g l s t lim = true) : lookE g l s lim = 0 ∧ -900000 ≤ t ∧ t ≤ 900000 := by
  unfold fit7 at h
  simp only [Bool.and_eq_true, decide_eq_true_eq, beq_iff_eq] at h
  exact ⟨h.2.1, h.2.2.1, h.2.2.2⟩
abbrev wAt (l : List Window) (n : Nat) : Window := l.getD n (ET.z .win)
theorem wAt_left {a b : List Window} {n : Nat} (h : n < a.length) : wAt (a ++ b) n = wAt a n := by
  unfold wAt
  rw [List.getD_eq_getElem?_getD, List.getD_eq_getElem?_getD, List.getElem?_append_left h]
theorem wAt_last {a : List Window} {w : Window} : wAt (a ++ [w]) a.length = w := by
  unfold wAt
  rw [List.getD_eq_getElem?_getD, List.getElem?_append_right (by simp)]
  simp
structure Good (F : List Window) (n : Nat) : Prop where
  one : (wAt F n).frm < (wAt F n).too
  two : 0 < n → (wAt F (n - 1)).too < (wAt F n).frm
theorem desc_good : ∀ {R : List Window} {hi : Int}, Desc hi R → ∀ n, n < R.length → Good R.reverse n
  | [], _, _, n, h => by simp at h
  | w :: r, hi, ⟨d1, d2, d3⟩, n, h => by
    have ih := desc_good d3
    rw [List.reverse_cons]
    simp only [List.length_cons] at h
    by_cases c : n < r.length
    · have q := ih n c
      refine ⟨by rw [wAt_left (by simpa using c)]; exact q.one, fun h0 => ?_⟩
      rw [wAt_left (n := n) (by simpa using c), wAt_left (n := n - 1) (by rw [List.length_reverse]; omega)]
      exact q.two h0
    · have e : n = r.reverse.length := by rw [List.length_reverse]; omega
      refine ⟨by rw [e, wAt_last]; exact d1, fun h0 => ?_⟩
      cases r with
      | nil => simp at e; omega
      | cons v q =>
        have e2 : n - 1 = q.reverse.length := by rw [e]; simp
        rw [e2, e, wAt_last, wAt_left (by simp), List.reverse_cons, wAt_last]
        have := d3.2.1
        omega
def hasF (F : List Window) (t : Int) : Bool := F.any fun w => decide (w.frm ≤ t) && decide (t < w.too)
theorem run_has (F : List Window) (t : Int) (p : Bool) (hl : F.length ≤ 1048576) : ∀ (f n : Nat), n ≤ F.length → F.length - n < f → (run_Q7_Has_0 t p F f (n : Int)).k = bif hasF (F.drop n) t then 0 else 1 := by
  intro f
  induction f with
  | zero => intro n _ h; omega
  | succ f ih =>
    intro n hn h
    rw [run_Q7_Has_0]
    by_cases h1 : n < F.length
    · have i := ih (n + 1) (by omega) (by omega)
      simp only [nn_t, lt_t h1, Bool.and_self, cond_true, w64_up (show n < 9223372036854775807 by omega), Int.toNat_natCast]
      rw [drop_at (ET.z .win) h1]
      unfold hasF at i ⊢
      rw [List.any_cons]
      cases decide ((F.getD n (ET.z .win)).frm ≤ t) <;> cases decide (t < (F.getD n (ET.z .win)).too) <;> first | exact i | rfl
    · simp only [lt_f h1, cond_false]
      rw [drop_all h1]
      rfl
theorem m_has (F : List Window) (t : Int) (hl : F.length ≤ 1048576) : m_Q7_Has F t = ⟨true, hasF F t⟩ := by
  unfold m_Q7_Has lp_Q7_Has_0
  have := run_has F t false hl (2000 + F.length) 0 (by omega) (by omega)
  rw [show ((0 : Nat) : Int) = 0 from rfl, List.drop_zero] at this
  rw [this]
  cases hasF F t <;> rfl
theorem hasF_iff {R : List Window} {t : Int} : hasF R.reverse t = true ↔ hasR R t := by
  unfold hasF hasR
  rw [List.any_eq_true]
  constructor
  · rintro ⟨w, h, h1⟩
    simp only [Bool.and_eq_true, decide_eq_true_eq] at h1
    exact ⟨w, List.mem_reverse.1 h, h1⟩
  · rintro ⟨w, h, h1⟩
    exact ⟨w, List.mem_reverse.2 h, by simpa using h1⟩
theorem wins_good (up : Nat → Bool) (fr : Int) (N : Nat) : ∀ n, n < (winsF up fr N).length → Good (winsF up fr N) n := fun n h => desc_good (wins_inv up fr N).desc n (by unfold winsF at h; simpa using h)
theorem all_in {g : Globe} {l : List Site} {s : Source} {fr : Int} {lim : Frac} (h : lookE g l s lim = 0) (hf : -900000 ≤ fr ∧ fr ≤ 900000) {N : Nat} (hN : N ≤ 60) : allE g l s fr (fr + N) lim = (winsF (upN g l s fr lim) fr N, 0) := by
  unfold allE
  rw [h, tick_iff.2 (show -1000000 ≤ fr ∧ fr ≤ 1000000 by omega), tick_iff.2 (show -1000000 ≤ fr + N ∧ fr + N ≤ 1000000 by omega), dec_f (show ¬ fr + N < fr by omega), dec_f (show ¬ 720 < fr + N - fr by omega), show (fr + (N : Int) - fr).toNat = N by omega]
  rfl
end Go.Ev

namespace Go.Ev
open Go Go.Proofs
structure R_rise_Check_0 where
  k : Nat
  p10 : Int
def run_rise_Check_0 (p2 : Int) (p9 : Int) (m0 : List Window) : Nat → Int → R_rise_Check_0
  | 0, p10 => ⟨2, p10⟩
  | n + 1, p10 => bif decide (p10 < p9) then (bif (decide ((0 : Int) ≤ p10) && decide (p10 < (m0.length : Int))) then (bif decide ((m0.getD p10.toNat (ET.z .win)).too ≤ (m0.getD p10.toNat (ET.z .win)).frm) then ⟨0, p10⟩ else (bif decide ((0 : Int) < p10) then (bif (decide ((0 : Int) ≤ (w64 (p10 - (1 : Int)))) && decide ((w64 (p10 - (1 : Int))) < (m0.length : Int))) then (bif decide ((m0.getD p10.toNat (ET.z .win)).frm ≤ (m0.getD ((w64 (p10 - (1 : Int))).toNat) (ET.z .win)).too) then ⟨0, p10⟩ else run_rise_Check_0 p2 p9 m0 n (w64 (p10 + (1 : Int)))) else ⟨2, p10⟩) else run_rise_Check_0 p2 p9 m0 n (w64 (p10 + (1 : Int))))) else ⟨2, p10⟩) else ⟨1, p10⟩
def lp_rise_Check_0 (p2 : Int) (p9 : Int) (m0 : List Window) (p10 : Int) : R_rise_Check_0 := run_rise_Check_0 p2 p9 m0 (2000 + (m0.length)) p10
abbrev H_rise_Check_0 (p2 : Int) (p9 : Int) (_m0 : List Window) (p10 : Int) : TS := headT [0, 2, 8, 9, 10] 36 [.v (.c (.aslice 0 none)), .v (.c (.d (.int .i64 p2))), .v (.c (.aslice 0 none)), .v (.c (.d (.int .i64 p9))), .v (.c (.d (.int .i64 p10)))]
theorem b_rise_Check_0 (p2 : Int) (p9 : Int) (m0 : List Window) (p10 : Int) : evCode Tryz.prog GT EQT T_W7_fit XT noL 80 (loopB Tryz.prog 22 0) (H_rise_Check_0 p2 p9 m0 p10) [.arr none .win m0] 1 (normK 1 [0, 2, 8, 9, 10]) =
    bif decide (p10 < p9) then (bif (decide ((0 : Int) ≤ p10) && decide (p10 < (m0.length : Int))) then (bif decide ((m0.getD p10.toNat (ET.z .win)).too ≤ (m0.getD p10.toNat (ET.z .win)).frm) then some (.st .ret (headT [0, 2, 8, 9, 10] 36 [.v (.c (.aslice 0 none)), .v (.c (.d (.int .i64 (8 : Int)))), .v (.c (.aslice 0 none)), .v (.c (.d (.int .i64 p9))), .v (.c (.d (.int .i64 p10)))]) [.arr none .win m0] 1) else (bif decide ((0 : Int) < p10) then (bif (decide ((0 : Int) ≤ (w64 (p10 - (1 : Int)))) && decide ((w64 (p10 - (1 : Int))) < (m0.length : Int))) then (bif decide ((m0.getD p10.toNat (ET.z .win)).frm ≤ (m0.getD ((w64 (p10 - (1 : Int))).toNat) (ET.z .win)).too) then some (.st .ret (headT [0, 2, 8, 9, 10] 36 [.v (.c (.aslice 0 none)), .v (.c (.d (.int .i64 (8 : Int)))), .v (.c (.aslice 0 none)), .v (.c (.d (.int .i64 p9))), .v (.c (.d (.int .i64 p10)))]) [.arr none .win m0] 1) else some (.st .normal (headT [0, 2, 8, 9, 10] 36 [.v (.c (.aslice 0 none)), .v (.c (.d (.int .i64 p2))), .v (.c (.aslice 0 none)), .v (.c (.d (.int .i64 p9))), .v (.c (.d (.int .i64 (w64 (p10 + (1 : Int))))))]) [.arr none .win m0] 1)) else none) else some (.st .normal (headT [0, 2, 8, 9, 10] 36 [.v (.c (.aslice 0 none)), .v (.c (.d (.int .i64 p2))), .v (.c (.aslice 0 none)), .v (.c (.d (.int .i64 p9))), .v (.c (.d (.int .i64 (w64 (p10 + (1 : Int))))))]) [.arr none .win m0] 1))) else none) else some (.st (.exit 0) (headT [0, 2, 8, 9, 10] 36 [.v (.c (.aslice 0 none)), .v (.c (.d (.int .i64 p2))), .v (.c (.aslice 0 none)), .v (.c (.d (.int .i64 p9))), .v (.c (.d (.int .i64 p10)))]) [.arr none .win m0] 1) := by
  kernel_rfl
def o_rise_Check_0 (p2 : Int) (p9 : Int) (m0 : List Window) (r : R_rise_Check_0) : LT := .br (Nat.beq r.k 0) (.st .ret (headT [0, 2, 8, 9, 10] 36 [.v (.c (.aslice 0 none)), .v (.c (.d (.int .i64 (8 : Int)))), .v (.c (.aslice 0 none)), .v (.c (.d (.int .i64 p9))), .v (.c (.d (.int .i64 r.p10)))]) [.arr none .win m0] 1) (.br (Nat.beq r.k 1) (.st (.exit 0) (headT [0, 2, 8, 9, 10] 36 [.v (.c (.aslice 0 none)), .v (.c (.d (.int .i64 p2))), .v (.c (.aslice 0 none)), .v (.c (.d (.int .i64 p9))), .v (.c (.d (.int .i64 r.p10)))]) [.arr none .win m0] 1) (.no))
theorem r_rise_Check_0 (p2 : Int) (p9 : Int) (m0 : List Window) : ∀ (n : Nat) (p10 : Int) (x : Ex) (T' : TS) (M' : List Blk) (N' : Nat), LReach (o_rise_Check_0 p2 p9 m0 (run_rise_Check_0 p2 p9 m0 n p10)) x T' M' N' → x ≠ .normal ∧ ∃ j, RoundsN Tryz.prog GT gbT 1 (loopB Tryz.prog 22 0) j (H_rise_Check_0 p2 p9 m0 p10) [.arr none .win m0] 1 x T' M' N' := by
  have hL : LOKn Tryz.prog GT gbT 1 noL (loopsIn (loopB Tryz.prog 22 0)) := fun _ _ _ _ _ _ _ _ _ h => h.elim
  intro n
  induction n with
  | zero =>
    intro p10 x T' M' N' hr
    exact False.elim (redF (redF hr))
  | succ n ih =>
    intro p10 x T' M' N'
    rw [run_rise_Check_0]
    exact viaE (b_rise_Check_0 p2 p9 m0 p10) (condG (o := o_rise_Check_0 p2 p9 m0) (condG (o := o_rise_Check_0 p2 p9 m0) (condG (o := o_rise_Check_0 p2 p9 m0) (fun he hr => stopN g_W7_fit hEQT hmT hL he (by simp) (redT hr)) (condG (o := o_rise_Check_0 p2 p9 m0) (condG (o := o_rise_Check_0 p2 p9 m0) (condG (o := o_rise_Check_0 p2 p9 m0) (fun he hr => stopN g_W7_fit hEQT hmT hL he (by simp) (redT hr)) (fun he hr => goN g_W7_fit hEQT hmT hL he (ih (w64 (p10 + (1 : Int))) x T' M' N' hr))) (fun _ hr => False.elim (redF (redF hr)))) (fun he hr => goN g_W7_fit hEQT hmT hL he (ih (w64 (p10 + (1 : Int))) x T' M' N' hr)))) (fun _ hr => False.elim (redF (redF hr)))) (fun he hr => stopN g_W7_fit hEQT hmT hL he (by simp) (redT (redF hr))))
def f_rise_Check_0 : List AV → List Blk → LT := fun vs Ms => match vs, Ms with
  | [.v (.c (.aslice 0 none)), .v (.c (.d (.int .i64 p2))), .v (.c (.aslice 0 none)), .v (.c (.d (.int .i64 p9))), .v (.c (.d (.int .i64 p10)))], [.arr none .win m0] => o_rise_Check_0 p2 p9 m0 (lp_rise_Check_0 p2 p9 m0 p10)
  | _, _ => .no
def L_rise_Check_0 := LamN 4 36 1 [0, 2, 8, 9, 10] f_rise_Check_0
theorem k_rise_Check_0 : LOKbn Tryz.prog GT gbT 1 L_rise_Check_0 (loopB Tryz.prog 22 0) := by
  refine LOKbn.lamN (by kernel_rfl) fun vs Ms x T' M' N' hr => ?_
  unfold f_rise_Check_0 at hr
  split at hr
  · obtain ⟨q1, j, q2⟩ := r_rise_Check_0 _ _ _ _ _ x T' M' N' hr
    exact ⟨q1, j, q2⟩
  · exact hr.elim
structure O_rise_Check where
  ok : Bool
  r0 : Int
def m_rise_Check (a0 : List Window) : O_rise_Check := bif decide ((1000 : Int) < (a0.length : Int)) then ⟨true, (4 : Int)⟩ else (bif Nat.beq (lp_rise_Check_0 (0 : Int) (a0.length : Int) a0 (0 : Int)).k 0 then ⟨true, (8 : Int)⟩ else (bif Nat.beq (lp_rise_Check_0 (0 : Int) (a0.length : Int) a0 (0 : Int)).k 1 then ⟨true, (0 : Int)⟩ else ⟨false, 0⟩))
def F_rise_Check (a0 : List Window) (K : AV → List Blk → Ans) (r : O_rise_Check) : Ans := bif r.ok then K (.v (.c (.d (.int .i64 r.r0)))) [.arr none .win a0] else none
theorem e_rise_Check (a0 : List Window) (K : AV → List Blk → Ans) : evFn Tryz.prog GT EQT T_W7_fit XT (orL L_rise_Check_0 noL) 80 22 [.v (.c (.aslice 0 none))] [.arr none .win a0] (fun v M => K (finR 1 v M).1 (finR 1 v M).2) = F_rise_Check a0 K (m_rise_Check a0) := by
  unfold m_rise_Check
  refine Eq.trans ?_ (Eq.symm (pushT rfl (pushT rfl (pushT rfl rfl))))
  kernel_rfl
theorem lok_rise_Check : ∀ fn c, Tryz.prog.funcs[22]? = some fn → fn.body = some c → LOKn Tryz.prog GT gbT 1 (orL L_rise_Check_0 noL) (loopsIn c) := by
  refine LOKn.ofF fun b hb => ?_
  have e : loopsF Tryz.prog 22 = [loopB Tryz.prog 22 0] := by kernel_rfl
  rw [e] at hb
  simp only [List.mem_cons, List.not_mem_nil, or_false] at hb
  subst hb
  exact (LOKbn.or k_rise_Check_0 (fun _ _ _ _ _ _ _ h => h.elim))
theorem c_rise_Check (a0 : List Window) (hd : (m_rise_Check a0).ok = true) : CallsA Tryz.prog GT gbT 22 [.v (.c (.aslice 0 none))] [.arr none .win a0] (.v (.c (.d (.int .i64 ((m_rise_Check a0).r0))))) [.arr none .win a0] := by
  refine CallsA.ofEvR g_W7_fit hEQT hmT (n0 := 1) rfl lok_rise_Check ((e_rise_Check a0 (fun v M => some (Res.fin v M))).trans ?_)
  unfold F_rise_Check
  rw [hd]
  rfl
def s_rise_Check : List AV → List Blk → (AV → List Blk → Ans) → Ans := fun xs bs K => match xs, bs with
  | [.v (.c (.aslice 0 none))], [.arr none .win a0] => F_rise_Check a0 K (m_rise_Check a0)
  | _, _ => none
def T_rise_Check : Nat → List AV → List Blk → (AV → List Blk → Ans) → Ans := upd T_W7_fit 22 s_rise_Check
theorem g_rise_Check : GOK Tryz.prog GT gbT T_rise_Check XT := by
  refine GOK.upd g_W7_fit (fun args w => Tryz.call22 args w) fun xs bs K r h => ?_
  unfold s_rise_Check at h
  split at h
  · unfold F_rise_Check at h
    simp only [cond_eq_ite] at h
    split at h
    · rename_i hd
      exact ⟨_, _, c_rise_Check _ hd, h⟩
    · cases h
  · cases h
structure R_rise_Meet_0 where
  k : Nat
  p9 : Int
  p10 : Int
  m2 : List Window
def run_rise_Meet_0 (m0 : List Window) (m1 : List Window) : Nat → Int → Int → List Window → R_rise_Meet_0
  | 0, p9, p10, m2 => ⟨1, p9, p10, m2⟩
  | n + 1, p9, p10, m2 => bif decide (p9 < (m0.length : Int)) then (bif decide (p10 < (m1.length : Int)) then (bif (decide ((0 : Int) ≤ p9) && decide (p9 < (m0.length : Int))) then (bif (decide ((0 : Int) ≤ p10) && decide (p10 < (m1.length : Int))) then (bif (decide ((0 : Int) ≤ p9) && decide (p9 < (m0.length : Int))) then (bif (decide ((0 : Int) ≤ p10) && decide (p10 < (m1.length : Int))) then (bif decide ((if (m1.getD p10.toNat (ET.z .win)).frm > (m0.getD p9.toNat (ET.z .win)).frm then (m1.getD p10.toNat (ET.z .win)).frm else (m0.getD p9.toNat (ET.z .win)).frm) < (if (m1.getD p10.toNat (ET.z .win)).too < (m0.getD p9.toNat (ET.z .win)).too then (m1.getD p10.toNat (ET.z .win)).too else (m0.getD p9.toNat (ET.z .win)).too)) then (bif (([⟨(if (m1.getD p10.toNat (ET.z .win)).frm > (m0.getD p9.toNat (ET.z .win)).frm then (m1.getD p10.toNat (ET.z .win)).frm else (m0.getD p9.toNat (ET.z .win)).frm), (if (m1.getD p10.toNat (ET.z .win)).too < (m0.getD p9.toNat (ET.z .win)).too then (m1.getD p10.toNat (ET.z .win)).too else (m0.getD p9.toNat (ET.z .win)).too)⟩] : List Window).length == 0) then (bif (decide ((0 : Int) ≤ p9) && decide (p9 < (m0.length : Int))) then (bif (decide ((0 : Int) ≤ p10) && decide (p10 < (m1.length : Int))) then (bif decide ((m0.getD p9.toNat (ET.z .win)).too < (m1.getD p10.toNat (ET.z .win)).too) then run_rise_Meet_0 m0 m1 n (w64 (p9 + (1 : Int))) p10 m2 else run_rise_Meet_0 m0 m1 n p9 (w64 (p10 + (1 : Int))) m2) else ⟨1, p9, p10, m2⟩) else ⟨1, p9, p10, m2⟩) else (bif (Nat.blt 0 2 && ((2 == 2) && ((2 == 2) && (Nat.ble (m2.length + ([⟨(if (m1.getD p10.toNat (ET.z .win)).frm > (m0.getD p9.toNat (ET.z .win)).frm then (m1.getD p10.toNat (ET.z .win)).frm else (m0.getD p9.toNat (ET.z .win)).frm), (if (m1.getD p10.toNat (ET.z .win)).too < (m0.getD p9.toNat (ET.z .win)).too then (m1.getD p10.toNat (ET.z .win)).too else (m0.getD p9.toNat (ET.z .win)).too)⟩] : List Window).length) roomD && Nat.ble 16 4096)))) then (bif (decide ((0 : Int) ≤ p9) && decide (p9 < (m0.length : Int))) then (bif (decide ((0 : Int) ≤ p10) && decide (p10 < (m1.length : Int))) then (bif decide ((m0.getD p9.toNat (ET.z .win)).too < (m1.getD p10.toNat (ET.z .win)).too) then run_rise_Meet_0 m0 m1 n (w64 (p9 + (1 : Int))) p10 (m2 ++ ([⟨(if (m1.getD p10.toNat (ET.z .win)).frm > (m0.getD p9.toNat (ET.z .win)).frm then (m1.getD p10.toNat (ET.z .win)).frm else (m0.getD p9.toNat (ET.z .win)).frm), (if (m1.getD p10.toNat (ET.z .win)).too < (m0.getD p9.toNat (ET.z .win)).too then (m1.getD p10.toNat (ET.z .win)).too else (m0.getD p9.toNat (ET.z .win)).too)⟩] : List Window)) else run_rise_Meet_0 m0 m1 n p9 (w64 (p10 + (1 : Int))) (m2 ++ ([⟨(if (m1.getD p10.toNat (ET.z .win)).frm > (m0.getD p9.toNat (ET.z .win)).frm then (m1.getD p10.toNat (ET.z .win)).frm else (m0.getD p9.toNat (ET.z .win)).frm), (if (m1.getD p10.toNat (ET.z .win)).too < (m0.getD p9.toNat (ET.z .win)).too then (m1.getD p10.toNat (ET.z .win)).too else (m0.getD p9.toNat (ET.z .win)).too)⟩] : List Window))) else ⟨1, p9, p10, m2⟩) else ⟨1, p9, p10, m2⟩) else ⟨1, p9, p10, m2⟩)) else (bif (decide ((0 : Int) ≤ p9) && decide (p9 < (m0.length : Int))) then (bif (decide ((0 : Int) ≤ p10) && decide (p10 < (m1.length : Int))) then (bif decide ((m0.getD p9.toNat (ET.z .win)).too < (m1.getD p10.toNat (ET.z .win)).too) then run_rise_Meet_0 m0 m1 n (w64 (p9 + (1 : Int))) p10 m2 else run_rise_Meet_0 m0 m1 n p9 (w64 (p10 + (1 : Int))) m2) else ⟨1, p9, p10, m2⟩) else ⟨1, p9, p10, m2⟩)) else ⟨1, p9, p10, m2⟩) else ⟨1, p9, p10, m2⟩) else ⟨1, p9, p10, m2⟩) else ⟨1, p9, p10, m2⟩) else ⟨0, p9, p10, m2⟩) else ⟨0, p9, p10, m2⟩
def lp_rise_Meet_0 (m0 : List Window) (m1 : List Window) (p9 : Int) (p10 : Int) (m2 : List Window) : R_rise_Meet_0 := run_rise_Meet_0 m0 m1 (2000 + (m0.length + m1.length + m2.length)) p9 p10 m2
abbrev H_rise_Meet_0 (_m0 : List Window) (_m1 : List Window) (p9 : Int) (p10 : Int) (_m2 : List Window) : TS := headT [0, 1, 8, 9, 10] 83 [.v (.c (.aslice 0 none)), .v (.c (.aslice 1 none)), .v (.c (.aslice 2 none)), .v (.c (.d (.int .i64 p9))), .v (.c (.d (.int .i64 p10)))]
theorem b_rise_Meet_0 (m0 : List Window) (m1 : List Window) (p9 : Int) (p10 : Int) (m2 : List Window) : evCode Tryz.prog GT EQT T_rise_Check XT noL 80 (loopB Tryz.prog 8 0) (H_rise_Meet_0 m0 m1 p9 p10 m2) [.arr none .win m0, .arr none .win m1, .arr (some 52) .win m2] 3 (normK 2 [0, 1, 8, 9, 10]) =
    bif decide (p9 < (m0.length : Int)) then (bif decide (p10 < (m1.length : Int)) then (bif (decide ((0 : Int) ≤ p9) && decide (p9 < (m0.length : Int))) then (bif (decide ((0 : Int) ≤ p10) && decide (p10 < (m1.length : Int))) then (bif (decide ((0 : Int) ≤ p9) && decide (p9 < (m0.length : Int))) then (bif (decide ((0 : Int) ≤ p10) && decide (p10 < (m1.length : Int))) then (bif decide ((if (m1.getD p10.toNat (ET.z .win)).frm > (m0.getD p9.toNat (ET.z .win)).frm then (m1.getD p10.toNat (ET.z .win)).frm else (m0.getD p9.toNat (ET.z .win)).frm) < (if (m1.getD p10.toNat (ET.z .win)).too < (m0.getD p9.toNat (ET.z .win)).too then (m1.getD p10.toNat (ET.z .win)).too else (m0.getD p9.toNat (ET.z .win)).too)) then (bif (([⟨(if (m1.getD p10.toNat (ET.z .win)).frm > (m0.getD p9.toNat (ET.z .win)).frm then (m1.getD p10.toNat (ET.z .win)).frm else (m0.getD p9.toNat (ET.z .win)).frm), (if (m1.getD p10.toNat (ET.z .win)).too < (m0.getD p9.toNat (ET.z .win)).too then (m1.getD p10.toNat (ET.z .win)).too else (m0.getD p9.toNat (ET.z .win)).too)⟩] : List Window).length == 0) then (bif (decide ((0 : Int) ≤ p9) && decide (p9 < (m0.length : Int))) then (bif (decide ((0 : Int) ≤ p10) && decide (p10 < (m1.length : Int))) then (bif decide ((m0.getD p9.toNat (ET.z .win)).too < (m1.getD p10.toNat (ET.z .win)).too) then some (.st .normal (headT [0, 1, 8, 9, 10] 83 [.v (.c (.aslice 0 none)), .v (.c (.aslice 1 none)), .v (.c (.aslice 2 none)), .v (.c (.d (.int .i64 (w64 (p9 + (1 : Int)))))), .v (.c (.d (.int .i64 p10)))]) [.arr none .win m0, .arr none .win m1, .arr (some 52) .win m2] 3) else some (.st .normal (headT [0, 1, 8, 9, 10] 83 [.v (.c (.aslice 0 none)), .v (.c (.aslice 1 none)), .v (.c (.aslice 2 none)), .v (.c (.d (.int .i64 p9))), .v (.c (.d (.int .i64 (w64 (p10 + (1 : Int))))))]) [.arr none .win m0, .arr none .win m1, .arr (some 52) .win m2] 3)) else none) else none) else (bif (Nat.blt 0 2 && ((2 == 2) && ((2 == 2) && (Nat.ble (m2.length + ([⟨(if (m1.getD p10.toNat (ET.z .win)).frm > (m0.getD p9.toNat (ET.z .win)).frm then (m1.getD p10.toNat (ET.z .win)).frm else (m0.getD p9.toNat (ET.z .win)).frm), (if (m1.getD p10.toNat (ET.z .win)).too < (m0.getD p9.toNat (ET.z .win)).too then (m1.getD p10.toNat (ET.z .win)).too else (m0.getD p9.toNat (ET.z .win)).too)⟩] : List Window).length) roomD && Nat.ble 16 4096)))) then (bif (decide ((0 : Int) ≤ p9) && decide (p9 < (m0.length : Int))) then (bif (decide ((0 : Int) ≤ p10) && decide (p10 < (m1.length : Int))) then (bif decide ((m0.getD p9.toNat (ET.z .win)).too < (m1.getD p10.toNat (ET.z .win)).too) then some (.st .normal (headT [0, 1, 8, 9, 10] 83 [.v (.c (.aslice 0 none)), .v (.c (.aslice 1 none)), .v (.c (.aslice 2 none)), .v (.c (.d (.int .i64 (w64 (p9 + (1 : Int)))))), .v (.c (.d (.int .i64 p10)))]) [.arr none .win m0, .arr none .win m1, .arr (some 52) .win (m2 ++ ([⟨(if (m1.getD p10.toNat (ET.z .win)).frm > (m0.getD p9.toNat (ET.z .win)).frm then (m1.getD p10.toNat (ET.z .win)).frm else (m0.getD p9.toNat (ET.z .win)).frm), (if (m1.getD p10.toNat (ET.z .win)).too < (m0.getD p9.toNat (ET.z .win)).too then (m1.getD p10.toNat (ET.z .win)).too else (m0.getD p9.toNat (ET.z .win)).too)⟩] : List Window))] 3) else some (.st .normal (headT [0, 1, 8, 9, 10] 83 [.v (.c (.aslice 0 none)), .v (.c (.aslice 1 none)), .v (.c (.aslice 2 none)), .v (.c (.d (.int .i64 p9))), .v (.c (.d (.int .i64 (w64 (p10 + (1 : Int))))))]) [.arr none .win m0, .arr none .win m1, .arr (some 52) .win (m2 ++ ([⟨(if (m1.getD p10.toNat (ET.z .win)).frm > (m0.getD p9.toNat (ET.z .win)).frm then (m1.getD p10.toNat (ET.z .win)).frm else (m0.getD p9.toNat (ET.z .win)).frm), (if (m1.getD p10.toNat (ET.z .win)).too < (m0.getD p9.toNat (ET.z .win)).too then (m1.getD p10.toNat (ET.z .win)).too else (m0.getD p9.toNat (ET.z .win)).too)⟩] : List Window))] 3)) else none) else none) else none)) else (bif (decide ((0 : Int) ≤ p9) && decide (p9 < (m0.length : Int))) then (bif (decide ((0 : Int) ≤ p10) && decide (p10 < (m1.length : Int))) then (bif decide ((m0.getD p9.toNat (ET.z .win)).too < (m1.getD p10.toNat (ET.z .win)).too) then some (.st .normal (headT [0, 1, 8, 9, 10] 83 [.v (.c (.aslice 0 none)), .v (.c (.aslice 1 none)), .v (.c (.aslice 2 none)), .v (.c (.d (.int .i64 (w64 (p9 + (1 : Int)))))), .v (.c (.d (.int .i64 p10)))]) [.arr none .win m0, .arr none .win m1, .arr (some 52) .win m2] 3) else some (.st .normal (headT [0, 1, 8, 9, 10] 83 [.v (.c (.aslice 0 none)), .v (.c (.aslice 1 none)), .v (.c (.aslice 2 none)), .v (.c (.d (.int .i64 p9))), .v (.c (.d (.int .i64 (w64 (p10 + (1 : Int))))))]) [.arr none .win m0, .arr none .win m1, .arr (some 52) .win m2] 3)) else none) else none)) else none) else none) else none) else none) else some (.st (.exit 0) (headT [0, 1, 8, 9, 10] 83 [.v (.c (.aslice 0 none)), .v (.c (.aslice 1 none)), .v (.c (.aslice 2 none)), .v (.c (.d (.int .i64 p9))), .v (.c (.d (.int .i64 p10)))]) [.arr none .win m0, .arr none .win m1, .arr (some 52) .win m2] 3)) else some (.st (.exit 0) (headT [0, 1, 8, 9, 10] 83 [.v (.c (.aslice 0 none)), .v (.c (.aslice 1 none)), .v (.c (.aslice 2 none)), .v (.c (.d (.int .i64 p9))), .v (.c (.d (.int .i64 p10)))]) [.arr none .win m0, .arr none .win m1, .arr (some 52) .win m2] 3) := by
  kernel_rfl
def o_rise_Meet_0 (m0 : List Window) (m1 : List Window) (r : R_rise_Meet_0) : LT := .br (Nat.beq r.k 0) (.st (.exit 0) (headT [0, 1, 8, 9, 10] 83 [.v (.c (.aslice 0 none)), .v (.c (.aslice 1 none)), .v (.c (.aslice 2 none)), .v (.c (.d (.int .i64 r.p9))), .v (.c (.d (.int .i64 r.p10)))]) [.arr none .win m0, .arr none .win m1, .arr (some 52) .win r.m2] 3) (.no)
theorem r_rise_Meet_0 (m0 : List Window) (m1 : List Window) : ∀ (n : Nat) (p9 : Int) (p10 : Int) (m2 : List Window) (x : Ex) (T' : TS) (M' : List Blk) (N' : Nat), LReach (o_rise_Meet_0 m0 m1 (run_rise_Meet_0 m0 m1 n p9 p10 m2)) x T' M' N' → x ≠ .normal ∧ ∃ j, RoundsN Tryz.prog GT gbT 2 (loopB Tryz.prog 8 0) j (H_rise_Meet_0 m0 m1 p9 p10 m2) [.arr none .win m0, .arr none .win m1, .arr (some 52) .win m2] 3 x T' M' N' := by
  have hL : LOKn Tryz.prog GT gbT 2 noL (loopsIn (loopB Tryz.prog 8 0)) := fun _ _ _ _ _ _ _ _ _ h => h.elim
  intro n
  induction n with
  | zero =>
    intro p9 p10 m2 x T' M' N' hr
    exact False.elim (redF hr)
  | succ n ih =>
    intro p9 p10 m2 x T' M' N'
    rw [run_rise_Meet_0]
    exact viaE (b_rise_Meet_0 m0 m1 p9 p10 m2) (condG (o := o_rise_Meet_0 m0 m1) (condG (o := o_rise_Meet_0 m0 m1) (condG (o := o_rise_Meet_0 m0 m1) (condG (o := o_rise_Meet_0 m0 m1) (condG (o := o_rise_Meet_0 m0 m1) (condG (o := o_rise_Meet_0 m0 m1) (condG (o := o_rise_Meet_0 m0 m1) (condG (o := o_rise_Meet_0 m0 m1) (condG (o := o_rise_Meet_0 m0 m1) (condG (o := o_rise_Meet_0 m0 m1) (condG (o := o_rise_Meet_0 m0 m1) (fun he hr => goN g_rise_Check hEQT hmT hL he (ih (w64 (p9 + (1 : Int))) p10 m2 x T' M' N' hr)) (fun he hr => goN g_rise_Check hEQT hmT hL he (ih p9 (w64 (p10 + (1 : Int))) m2 x T' M' N' hr))) (fun _ hr => False.elim (redF hr))) (fun _ hr => False.elim (redF hr))) (condG (o := o_rise_Meet_0 m0 m1) (condG (o := o_rise_Meet_0 m0 m1) (condG (o := o_rise_Meet_0 m0 m1) (condG (o := o_rise_Meet_0 m0 m1) (fun he hr => goN g_rise_Check hEQT hmT hL he (ih (w64 (p9 + (1 : Int))) p10 (m2 ++ ([⟨(if (m1.getD p10.toNat (ET.z .win)).frm > (m0.getD p9.toNat (ET.z .win)).frm then (m1.getD p10.toNat (ET.z .win)).frm else (m0.getD p9.toNat (ET.z .win)).frm), (if (m1.getD p10.toNat (ET.z .win)).too < (m0.getD p9.toNat (ET.z .win)).too then (m1.getD p10.toNat (ET.z .win)).too else (m0.getD p9.toNat (ET.z .win)).too)⟩] : List Window)) x T' M' N' hr)) (fun he hr => goN g_rise_Check hEQT hmT hL he (ih p9 (w64 (p10 + (1 : Int))) (m2 ++ ([⟨(if (m1.getD p10.toNat (ET.z .win)).frm > (m0.getD p9.toNat (ET.z .win)).frm then (m1.getD p10.toNat (ET.z .win)).frm else (m0.getD p9.toNat (ET.z .win)).frm), (if (m1.getD p10.toNat (ET.z .win)).too < (m0.getD p9.toNat (ET.z .win)).too then (m1.getD p10.toNat (ET.z .win)).too else (m0.getD p9.toNat (ET.z .win)).too)⟩] : List Window)) x T' M' N' hr))) (fun _ hr => False.elim (redF hr))) (fun _ hr => False.elim (redF hr))) (fun _ hr => False.elim (redF hr)))) (condG (o := o_rise_Meet_0 m0 m1) (condG (o := o_rise_Meet_0 m0 m1) (condG (o := o_rise_Meet_0 m0 m1) (fun he hr => goN g_rise_Check hEQT hmT hL he (ih (w64 (p9 + (1 : Int))) p10 m2 x T' M' N' hr)) (fun he hr => goN g_rise_Check hEQT hmT hL he (ih p9 (w64 (p10 + (1 : Int))) m2 x T' M' N' hr))) (fun _ hr => False.elim (redF hr))) (fun _ hr => False.elim (redF hr)))) (fun _ hr => False.elim (redF hr))) (fun _ hr => False.elim (redF hr))) (fun _ hr => False.elim (redF hr))) (fun _ hr => False.elim (redF hr))) (fun he hr => stopN g_rise_Check hEQT hmT hL he (by simp) (redT hr))) (fun he hr => stopN g_rise_Check hEQT hmT hL he (by simp) (redT hr)))
def f_rise_Meet_0 : List AV → List Blk → LT := fun vs Ms => match vs, Ms with
  | [.v (.c (.aslice 0 none)), .v (.c (.aslice 1 none)), .v (.c (.aslice 2 none)), .v (.c (.d (.int .i64 p9))), .v (.c (.d (.int .i64 p10)))], [.arr none .win m0, .arr none .win m1, .arr (some 52) .win m2] => o_rise_Meet_0 m0 m1 (lp_rise_Meet_0 m0 m1 p9 p10 m2)
  | _, _ => .no
def L_rise_Meet_0 := LamN 9 83 2 [0, 1, 8, 9, 10] f_rise_Meet_0
theorem k_rise_Meet_0 : LOKbn Tryz.prog GT gbT 2 L_rise_Meet_0 (loopB Tryz.prog 8 0) := by
  refine LOKbn.lamN (by kernel_rfl) fun vs Ms x T' M' N' hr => ?_
  unfold f_rise_Meet_0 at hr
  split at hr
  · obtain ⟨q1, j, q2⟩ := r_rise_Meet_0 _ _ _ _ _ _ x T' M' N' hr
    exact ⟨q1, j, q2⟩
  · exact hr.elim
structure O_rise_Meet where
  ok : Bool
  r0 : List Window
  r1 : Int
def m_rise_Meet (a0 : List Window) (a1 : List Window) : O_rise_Meet := bif (m_rise_Check a0).ok then (bif ((m_rise_Check a0).r0 != (0 : Int)) then ⟨true, ([] : List Window), (m_rise_Check a0).r0⟩ else (bif (m_rise_Check a1).ok then (bif ((m_rise_Check a1).r0 != (0 : Int)) then ⟨true, ([] : List Window), (m_rise_Check a1).r0⟩ else (bif Nat.beq (lp_rise_Meet_0 a0 a1 (0 : Int) (0 : Int) ([] : List Window)).k 0 then (bif decide ((1000 : Int) < (((lp_rise_Meet_0 a0 a1 (0 : Int) (0 : Int) ([] : List Window)).m2).length : Int)) then ⟨true, ([] : List Window), (4 : Int)⟩ else ⟨true, ((lp_rise_Meet_0 a0 a1 (0 : Int) (0 : Int) ([] : List Window)).m2), (0 : Int)⟩) else ⟨false, [], 0⟩)) else ⟨false, [], 0⟩)) else ⟨false, [], 0⟩
def F_rise_Meet (a0 : List Window) (a1 : List Window) (K : AV → List Blk → Ans) (r : O_rise_Meet) : Ans := bif r.ok then K (.tup [.c (.aslice 2 none), .c (.d (.int .i64 r.r1))]) [.arr none .win a0, .arr none .win a1, .arr (some 52) .win r.r0] else none
theorem e_rise_Meet (a0 : List Window) (a1 : List Window) (K : AV → List Blk → Ans) : evFn Tryz.prog GT EQT T_rise_Check XT (orL L_rise_Meet_0 noL) 80 8 [.v (.c (.aslice 0 none)), .v (.c (.aslice 1 none))] [.arr none .win a0, .arr none .win a1] (fun v M => K (finR 2 v M).1 (finR 2 v M).2) = F_rise_Meet a0 a1 K (m_rise_Meet a0 a1) := by
  unfold m_rise_Meet
  refine Eq.trans ?_ (Eq.symm (pushT (pushT rfl (pushT (pushT rfl (pushT (pushT rfl rfl) rfl)) rfl)) rfl))
  kernel_rfl
theorem lok_rise_Meet : ∀ fn c, Tryz.prog.funcs[8]? = some fn → fn.body = some c → LOKn Tryz.prog GT gbT 2 (orL L_rise_Meet_0 noL) (loopsIn c) := by
  refine LOKn.ofF fun b hb => ?_
  have e : loopsF Tryz.prog 8 = [loopB Tryz.prog 8 0] := by kernel_rfl
  rw [e] at hb
  simp only [List.mem_cons, List.not_mem_nil, or_false] at hb
  subst hb
  exact (LOKbn.or k_rise_Meet_0 (fun _ _ _ _ _ _ _ h => h.elim))
theorem c_rise_Meet (a0 : List Window) (a1 : List Window) (hd : (m_rise_Meet a0 a1).ok = true) : CallsA Tryz.prog GT gbT 8 [.v (.c (.aslice 0 none)), .v (.c (.aslice 1 none))] [.arr none .win a0, .arr none .win a1] (.tup [.c (.aslice 2 none), .c (.d (.int .i64 ((m_rise_Meet a0 a1).r1)))]) [.arr none .win a0, .arr none .win a1, .arr (some 52) .win ((m_rise_Meet a0 a1).r0)] := by
  refine CallsA.ofEvR g_rise_Check hEQT hmT (n0 := 2) rfl lok_rise_Meet ((e_rise_Meet a0 a1 (fun v M => some (Res.fin v M))).trans ?_)
  unfold F_rise_Meet
  rw [hd]
  rfl
def s_rise_Meet : List AV → List Blk → (AV → List Blk → Ans) → Ans := fun xs bs K => match xs, bs with
  | [.v (.c (.aslice 0 none)), .v (.c (.aslice 1 none))], [.arr none .win a0, .arr none .win a1] => F_rise_Meet a0 a1 K (m_rise_Meet a0 a1)
  | _, _ => none
def T_rise_Meet : Nat → List AV → List Blk → (AV → List Blk → Ans) → Ans := upd T_rise_Check 8 s_rise_Meet
theorem g_rise_Meet : GOK Tryz.prog GT gbT T_rise_Meet XT := by
  refine GOK.upd g_rise_Check (fun args w => Tryz.call8 args w) fun xs bs K r h => ?_
  unfold s_rise_Meet at h
  split at h
  · unfold F_rise_Meet at h
    simp only [cond_eq_ite] at h
    split at h
    · rename_i hd
      exact ⟨_, _, c_rise_Meet _ _ hd, h⟩
    · cases h
  · cases h
structure R_rise_Next_0 where
  k : Nat
  p21 : Int
def run_rise_Next_0 (p1 : Int) (p2 : Int) (p6 : Int) (p7 : Int) (p20 : Int) (m0 : List Window) : Nat → Int → R_rise_Next_0
  | 0, p21 => ⟨2, p21⟩
  | n + 1, p21 => bif decide (p21 < p20) then (bif (decide ((0 : Int) ≤ p21) && decide (p21 < (m0.length : Int))) then (bif decide ((if (m0.getD p21.toNat (ET.z .win)).frm > p1 then (m0.getD p21.toNat (ET.z .win)).frm else p1) < (m0.getD p21.toNat (ET.z .win)).too) then (bif decide ((wu64 p2) ≤ (wu64 ((wu64 ((m0.getD p21.toNat (ET.z .win)).too)) - (wu64 (if (m0.getD p21.toNat (ET.z .win)).frm > p1 then (m0.getD p21.toNat (ET.z .win)).frm else p1))))) then ⟨0, p21⟩ else run_rise_Next_0 p1 p2 p6 p7 p20 m0 n (w64 (p21 + (1 : Int)))) else run_rise_Next_0 p1 p2 p6 p7 p20 m0 n (w64 (p21 + (1 : Int)))) else ⟨2, p21⟩) else ⟨1, p21⟩
def lp_rise_Next_0 (p1 : Int) (p2 : Int) (p6 : Int) (p7 : Int) (p20 : Int) (m0 : List Window) (p21 : Int) : R_rise_Next_0 := run_rise_Next_0 p1 p2 p6 p7 p20 m0 (2000 + (m0.length)) p21
abbrev H_rise_Next_0 (p1 : Int) (p2 : Int) (p6 : Int) (p7 : Int) (p20 : Int) (_m0 : List Window) (p21 : Int) : TS := headT [1, 2, 6, 7, 19, 20, 21] 46 [.v (.c (.d (.int .i64 p1))), .v (.c (.d (.int .i64 p2))), .v (.c (.d (.int .i64 p6))), .v (.c (.d (.int .i64 p7))), .v (.c (.aslice 0 none)), .v (.c (.d (.int .i64 p20))), .v (.c (.d (.int .i64 p21)))]
theorem b_rise_Next_0 (p1 : Int) (p2 : Int) (p6 : Int) (p7 : Int) (p20 : Int) (m0 : List Window) (p21 : Int) : evCode Tryz.prog GT EQT T_rise_Meet XT noL 80 (loopB Tryz.prog 10 0) (H_rise_Next_0 p1 p2 p6 p7 p20 m0 p21) [.arr none .win m0] 1 (normK 1 [1, 2, 6, 7, 19, 20, 21]) =
    bif decide (p21 < p20) then (bif (decide ((0 : Int) ≤ p21) && decide (p21 < (m0.length : Int))) then (bif decide ((if (m0.getD p21.toNat (ET.z .win)).frm > p1 then (m0.getD p21.toNat (ET.z .win)).frm else p1) < (m0.getD p21.toNat (ET.z .win)).too) then (bif decide ((wu64 p2) ≤ (wu64 ((wu64 ((m0.getD p21.toNat (ET.z .win)).too)) - (wu64 (if (m0.getD p21.toNat (ET.z .win)).frm > p1 then (m0.getD p21.toNat (ET.z .win)).frm else p1))))) then some (.st .ret (headT [1, 2, 6, 7, 19, 20, 21] 46 [.v (.c (.d (.int .i64 p1))), .v (.c (.d (.int .i64 p2))), .v (.c (.d (.int .i64 (if (m0.getD p21.toNat (ET.z .win)).frm > p1 then (m0.getD p21.toNat (ET.z .win)).frm else p1)))), .v (.c (.d (.int .i64 (0 : Int)))), .v (.c (.aslice 0 none)), .v (.c (.d (.int .i64 p20))), .v (.c (.d (.int .i64 p21)))]) [.arr none .win m0] 1) else some (.st .normal (headT [1, 2, 6, 7, 19, 20, 21] 46 [.v (.c (.d (.int .i64 p1))), .v (.c (.d (.int .i64 p2))), .v (.c (.d (.int .i64 p6))), .v (.c (.d (.int .i64 p7))), .v (.c (.aslice 0 none)), .v (.c (.d (.int .i64 p20))), .v (.c (.d (.int .i64 (w64 (p21 + (1 : Int))))))]) [.arr none .win m0] 1)) else some (.st .normal (headT [1, 2, 6, 7, 19, 20, 21] 46 [.v (.c (.d (.int .i64 p1))), .v (.c (.d (.int .i64 p2))), .v (.c (.d (.int .i64 p6))), .v (.c (.d (.int .i64 p7))), .v (.c (.aslice 0 none)), .v (.c (.d (.int .i64 p20))), .v (.c (.d (.int .i64 (w64 (p21 + (1 : Int))))))]) [.arr none .win m0] 1)) else none) else some (.st (.exit 0) (headT [1, 2, 6, 7, 19, 20, 21] 46 [.v (.c (.d (.int .i64 p1))), .v (.c (.d (.int .i64 p2))), .v (.c (.d (.int .i64 p6))), .v (.c (.d (.int .i64 p7))), .v (.c (.aslice 0 none)), .v (.c (.d (.int .i64 p20))), .v (.c (.d (.int .i64 p21)))]) [.arr none .win m0] 1) := by
  kernel_rfl
def o_rise_Next_0 (p1 : Int) (p2 : Int) (p6 : Int) (p7 : Int) (p20 : Int) (m0 : List Window) (r : R_rise_Next_0) : LT := .br (Nat.beq r.k 0) (.st .ret (headT [1, 2, 6, 7, 19, 20, 21] 46 [.v (.c (.d (.int .i64 p1))), .v (.c (.d (.int .i64 p2))), .v (.c (.d (.int .i64 (if (m0.getD r.p21.toNat (ET.z .win)).frm > p1 then (m0.getD r.p21.toNat (ET.z .win)).frm else p1)))), .v (.c (.d (.int .i64 (0 : Int)))), .v (.c (.aslice 0 none)), .v (.c (.d (.int .i64 p20))), .v (.c (.d (.int .i64 r.p21)))]) [.arr none .win m0] 1) (.br (Nat.beq r.k 1) (.st (.exit 0) (headT [1, 2, 6, 7, 19, 20, 21] 46 [.v (.c (.d (.int .i64 p1))), .v (.c (.d (.int .i64 p2))), .v (.c (.d (.int .i64 p6))), .v (.c (.d (.int .i64 p7))), .v (.c (.aslice 0 none)), .v (.c (.d (.int .i64 p20))), .v (.c (.d (.int .i64 r.p21)))]) [.arr none .win m0] 1) (.no))
theorem r_rise_Next_0 (p1 : Int) (p2 : Int) (p6 : Int) (p7 : Int) (p20 : Int) (m0 : List Window) : ∀ (n : Nat) (p21 : Int) (x : Ex) (T' : TS) (M' : List Blk) (N' : Nat), LReach (o_rise_Next_0 p1 p2 p6 p7 p20 m0 (run_rise_Next_0 p1 p2 p6 p7 p20 m0 n p21)) x T' M' N' → x ≠ .normal ∧ ∃ j, RoundsN Tryz.prog GT gbT 1 (loopB Tryz.prog 10 0) j (H_rise_Next_0 p1 p2 p6 p7 p20 m0 p21) [.arr none .win m0] 1 x T' M' N' := by
  have hL : LOKn Tryz.prog GT gbT 1 noL (loopsIn (loopB Tryz.prog 10 0)) := fun _ _ _ _ _ _ _ _ _ h => h.elim
  intro n
  induction n with
  | zero =>
    intro p21 x T' M' N' hr
    exact False.elim (redF (redF hr))
  | succ n ih =>
    intro p21 x T' M' N'
    rw [run_rise_Next_0]
    exact viaE (b_rise_Next_0 p1 p2 p6 p7 p20 m0 p21) (condG (o := o_rise_Next_0 p1 p2 p6 p7 p20 m0) (condG (o := o_rise_Next_0 p1 p2 p6 p7 p20 m0) (condG (o := o_rise_Next_0 p1 p2 p6 p7 p20 m0) (condG (o := o_rise_Next_0 p1 p2 p6 p7 p20 m0) (fun he hr => stopN g_rise_Meet hEQT hmT hL he (by simp) (redT hr)) (fun he hr => goN g_rise_Meet hEQT hmT hL he (ih (w64 (p21 + (1 : Int))) x T' M' N' hr))) (fun he hr => goN g_rise_Meet hEQT hmT hL he (ih (w64 (p21 + (1 : Int))) x T' M' N' hr))) (fun _ hr => False.elim (redF (redF hr)))) (fun he hr => stopN g_rise_Meet hEQT hmT hL he (by simp) (redT (redF hr))))
def f_rise_Next_0 : List AV → List Blk → LT := fun vs Ms => match vs, Ms with
  | [.v (.c (.d (.int .i64 p1))), .v (.c (.d (.int .i64 p2))), .v (.c (.d (.int .i64 p6))), .v (.c (.d (.int .i64 p7))), .v (.c (.aslice 0 none)), .v (.c (.d (.int .i64 p20))), .v (.c (.d (.int .i64 p21)))], [.arr none .win m0] => o_rise_Next_0 p1 p2 p6 p7 p20 m0 (lp_rise_Next_0 p1 p2 p6 p7 p20 m0 p21)
  | _, _ => .no
def L_rise_Next_0 := LamN 7 46 1 [1, 2, 6, 7, 19, 20, 21] f_rise_Next_0
theorem k_rise_Next_0 : LOKbn Tryz.prog GT gbT 1 L_rise_Next_0 (loopB Tryz.prog 10 0) := by
  refine LOKbn.lamN (by kernel_rfl) fun vs Ms x T' M' N' hr => ?_
  unfold f_rise_Next_0 at hr
  split at hr
  · obtain ⟨q1, j, q2⟩ := r_rise_Next_0 _ _ _ _ _ _ _ _ x T' M' N' hr
    exact ⟨q1, j, q2⟩
  · exact hr.elim
structure O_rise_Next where
  ok : Bool
  r0 : Int
  r1 : Int
def m_rise_Next (a0 : List Window) (a1 : Int) (a2 : Int) : O_rise_Next := bif (m_rise_Check a0).ok then (bif ((m_rise_Check a0).r0 != (0 : Int)) then ⟨true, (0 : Int), (m_rise_Check a0).r0⟩ else (bif decide (a2 < (1 : Int)) then ⟨true, (0 : Int), (2 : Int)⟩ else (bif Nat.beq (lp_rise_Next_0 a1 a2 (0 : Int) (0 : Int) (a0.length : Int) a0 (0 : Int)).k 0 then ⟨true, (if (a0.getD ((lp_rise_Next_0 a1 a2 (0 : Int) (0 : Int) (a0.length : Int) a0 (0 : Int)).p21).toNat (ET.z .win)).frm > a1 then (a0.getD ((lp_rise_Next_0 a1 a2 (0 : Int) (0 : Int) (a0.length : Int) a0 (0 : Int)).p21).toNat (ET.z .win)).frm else a1), (0 : Int)⟩ else (bif Nat.beq (lp_rise_Next_0 a1 a2 (0 : Int) (0 : Int) (a0.length : Int) a0 (0 : Int)).k 1 then ⟨true, (0 : Int), (6 : Int)⟩ else ⟨false, 0, 0⟩)))) else ⟨false, 0, 0⟩
def F_rise_Next (a0 : List Window) (_a1 : Int) (_a2 : Int) (K : AV → List Blk → Ans) (r : O_rise_Next) : Ans := bif r.ok then K (.tup [.c (.d (.int .i64 r.r0)), .c (.d (.int .i64 r.r1))]) [.arr none .win a0] else none
theorem e_rise_Next (a0 : List Window) (a1 : Int) (a2 : Int) (K : AV → List Blk → Ans) : evFn Tryz.prog GT EQT T_rise_Meet XT (orL L_rise_Next_0 noL) 80 10 [.v (.c (.aslice 0 none)), .v (.c (.d (.int .i64 a1))), .v (.c (.d (.int .i64 a2)))] [.arr none .win a0] (fun v M => K (finR 1 v M).1 (finR 1 v M).2) = F_rise_Next a0 a1 a2 K (m_rise_Next a0 a1 a2) := by
  unfold m_rise_Next
  refine Eq.trans ?_ (Eq.symm (pushT (pushT rfl (pushT rfl (pushT rfl (pushT rfl rfl)))) rfl))
  kernel_rfl
theorem lok_rise_Next : ∀ fn c, Tryz.prog.funcs[10]? = some fn → fn.body = some c → LOKn Tryz.prog GT gbT 1 (orL L_rise_Next_0 noL) (loopsIn c) := by
  refine LOKn.ofF fun b hb => ?_
  have e : loopsF Tryz.prog 10 = [loopB Tryz.prog 10 0] := by kernel_rfl
  rw [e] at hb
  simp only [List.mem_cons, List.not_mem_nil, or_false] at hb
  subst hb
  exact (LOKbn.or k_rise_Next_0 (fun _ _ _ _ _ _ _ h => h.elim))
theorem c_rise_Next (a0 : List Window) (a1 : Int) (a2 : Int) (hd : (m_rise_Next a0 a1 a2).ok = true) : CallsA Tryz.prog GT gbT 10 [.v (.c (.aslice 0 none)), .v (.c (.d (.int .i64 a1))), .v (.c (.d (.int .i64 a2)))] [.arr none .win a0] (.tup [.c (.d (.int .i64 ((m_rise_Next a0 a1 a2).r0))), .c (.d (.int .i64 ((m_rise_Next a0 a1 a2).r1)))]) [.arr none .win a0] := by
  refine CallsA.ofEvR g_rise_Meet hEQT hmT (n0 := 1) rfl lok_rise_Next ((e_rise_Next a0 a1 a2 (fun v M => some (Res.fin v M))).trans ?_)
  unfold F_rise_Next
  rw [hd]
  rfl
def s_rise_Next : List AV → List Blk → (AV → List Blk → Ans) → Ans := fun xs bs K => match xs, bs with
  | [.v (.c (.aslice 0 none)), .v (.c (.d (.int .i64 a1))), .v (.c (.d (.int .i64 a2)))], [.arr none .win a0] => F_rise_Next a0 a1 a2 K (m_rise_Next a0 a1 a2)
  | _, _ => none
def T_rise_Next : Nat → List AV → List Blk → (AV → List Blk → Ans) → Ans := upd T_rise_Meet 10 s_rise_Next
theorem g_rise_Next : GOK Tryz.prog GT gbT T_rise_Next XT := by
  refine GOK.upd g_rise_Meet (fun args w => Tryz.call10 args w) fun xs bs K r h => ?_
  unfold s_rise_Next at h
  split at h
  · unfold F_rise_Next at h
    simp only [cond_eq_ite] at h
    split at h
    · rename_i hd
      exact ⟨_, _, c_rise_Next _ _ _ hd, h⟩
    · cases h
  · cases h
end Go.Ev

namespace Go.Ev
end Go.Ev

namespace Go.Ev
open Go
def badAt (l : List Window) (n : Nat) : Bool := decide ((wAt l n).too ≤ (wAt l n).frm) || (decide (0 < n) && decide ((wAt l n).frm ≤ (wAt l (n - 1)).too))
def badFrom (l : List Window) (n : Nat) : Bool := (List.range' n (l.length - n)).any (badAt l)
theorem badFrom_step {l : List Window} {n : Nat} (h : n < l.length) : badFrom l n = (badAt l n || badFrom l (n + 1)) := by
  unfold badFrom
  rw [show l.length - n = (l.length - (n + 1)) + 1 by omega, List.range'_succ, List.any_cons]
theorem badFrom_end {l : List Window} {n : Nat} (h : ¬ n < l.length) : badFrom l n = false := by
  unfold badFrom
  rw [show l.length - n = 0 by omega]
  rfl
def checkW (l : List Window) : Int := bif decide (1000 < l.length) then 4 else bif badFrom l 0 then 8 else 0
theorem run_check (l : List Window) (p : Int) (hl : l.length ≤ 1000) : ∀ (f n : Nat), l.length - n < f → (run_rise_Check_0 p (l.length : Int) l f (n : Int)).k = bif badFrom l n then 0 else 1 := by
  intro f
  induction f with
  | zero => intro n h; omega
  | succ f ih =>
    intro n h
    rw [run_rise_Check_0]
    by_cases h1 : n < l.length
    · simp only [nn_t, Bool.and_self, lt_t h1, cond_true, w64_nat (show n < 4611686018427387904 by omega), Int.toNat_natCast]
      rw [badFrom_step h1]
      by_cases c1 : (wAt l n).too ≤ (wAt l n).frm
      · simp only [dec_t c1, cond_true, badAt, Bool.true_or]
      · simp only [dec_f c1, cond_false, badAt, Bool.false_or]
        by_cases c0 : 0 < n
        · simp only [nn_t, Bool.and_self, w64_pred c0 (show n < 4611686018427387904 by omega), dec_t (show (0 : Int) < (n : Int) by omega), lt_t (show n - 1 < l.length by omega), cond_true, Int.toNat_natCast, dec_t c0, Bool.true_and]
          by_cases c2 : (wAt l n).frm ≤ (wAt l (n - 1)).too
          · simp only [dec_t c2, cond_true, Bool.true_or]
          · simp only [dec_f c2, cond_false, Bool.false_or]
            exact ih (n + 1) (by omega)
        · simp only [dec_f (show ¬ (0 : Int) < (n : Int) by omega), cond_false, dec_f c0, Bool.false_and, Bool.false_or]
          exact ih (n + 1) (by omega)
    · simp only [lt_f h1, cond_false]
      rw [badFrom_end h1]
      rfl
theorem m_check (l : List Window) : m_rise_Check l = ⟨true, checkW l⟩ := by
  unfold m_rise_Check checkW lp_rise_Check_0
  by_cases h : 1000 < l.length
  · rw [dec_t (show (1000 : Int) < (l.length : Int) by omega), dec_t h]; rfl
  · rw [dec_f (show ¬ (1000 : Int) < (l.length : Int) by omega), dec_f h]
    have := run_check l 0 (by omega) (2000 + l.length) 0 (by omega)
    simp only [cond_false]
    rw [show ((0 : Nat) : Int) = 0 from rfl] at this
    rw [this]
    cases badFrom l 0 <;> rfl
def Okw : List Window → Prop
  | [] => True
  | [x] => x.frm < x.too
  | x :: y :: r => x.frm < x.too ∧ x.too < y.frm ∧ Okw (y :: r)
theorem okw_of : ∀ (l : List Window), (∀ n, n < l.length → badAt l n = false) → Okw l
  | [], _ => trivial
  | [x], h => by
    have := h 0 (by simp)
    simp [badAt, wAt] at this
    exact this
  | x :: y :: r, h => by
    have h0 := h 0 (by simp)
    have h1 := h 1 (by simp)
    simp [badAt, wAt] at h0 h1
    refine ⟨h0, h1.2, okw_of (y :: r) fun n hn => ?_⟩
    cases n with
    | zero => simp [badAt, wAt]; exact h1.1
    | succ n =>
      have h2 := h (n + 2) (by simpa using hn)
      simpa [badAt, wAt] using h2
theorem okw_check {l : List Window} (h : checkW l = 0) : l.length ≤ 1000 ∧ Okw l := by
  unfold checkW at h
  by_cases h1 : 1000 < l.length
  · rw [dec_t h1] at h; cases h
  · rw [dec_f h1] at h
    refine ⟨by omega, okw_of l fun n hn => ?_⟩
    cases hb : badFrom l 0 with
    | true => rw [hb] at h; cases h
    | false =>
      unfold badFrom at hb
      rw [List.any_eq_false] at hb
      simpa using hb n (by simp [List.mem_range']; omega)
theorem Okw.tail {x : Window} {l : List Window} (h : Okw (x :: l)) : Okw l := by
  cases l with
  | nil => trivial
  | cons y r => exact h.2.2
theorem Okw.head {x : Window} {l : List Window} (h : Okw (x :: l)) : x.frm < x.too := by
  cases l with
  | nil => exact h
  | cons y r => exact h.1
theorem Okw.later : ∀ {l : List Window} {x : Window}, Okw (x :: l) → ∀ y ∈ l, x.too < y.frm
  | [], _, _, y, hy => by cases hy
  | z :: r, x, h, y, hy => by
    rcases List.mem_cons.1 hy with rfl | hy
    · exact h.2.1
    · have h1 := h.2.1
      have h2 := Okw.head h.2.2
      have h3 := Okw.later h.2.2 y hy
      omega
def wmax (x y : Int) : Int := if y > x then y else x
def wmin (x y : Int) : Int := if y < x then y else x
def inter (x y : Window) : List Window := bif decide (wmax x.frm y.frm < wmin x.too y.too) then [⟨wmax x.frm y.frm, wmin x.too y.too⟩] else []
theorem inter_apart {x y : Window} (h : x.too < y.frm) : inter x y = [] ∧ inter y x = [] := by
  constructor
  · unfold inter
    rw [dec_f (by unfold wmax wmin; split <;> split <;> omega)]
    rfl
  · unfold inter
    rw [dec_f (by unfold wmax wmin; split <;> split <;> omega)]
    rfl
def nestW (a b : List Window) : List Window := a.flatMap fun x => b.flatMap (inter x)
theorem nest_step {x y : Window} {a b : List Window} (ha : Okw (x :: a)) (hb : Okw (y :: b)) :
    nestW (x :: a) (y :: b) = inter x y ++ (if x.too < y.too then nestW a (y :: b) else nestW (x :: a) b) := by
  by_cases h : x.too < y.too
  · rw [if_pos h]
    unfold nestW
    rw [List.flatMap_cons, List.flatMap_cons]
    have : b.flatMap (inter x) = [] := by
      rw [List.flatMap_eq_nil_iff]
      intro z hz
      have := hb.later z hz
      exact (inter_apart (by omega)).1
    rw [this, List.append_nil]
  · rw [if_neg h]
    unfold nestW
    rw [List.flatMap_cons, List.flatMap_cons, List.flatMap_cons, List.append_assoc]
    have key : ∀ l : List Window, (∀ z ∈ l, x.too < z.frm) → l.flatMap (fun x => (y :: b).flatMap (inter x)) = l.flatMap fun x => b.flatMap (inter x) := by
      intro l
      induction l with
      | nil => intro _; rfl
      | cons z r ih =>
        intro hz
        have h1 := hz z (by simp)
        rw [List.flatMap_cons, List.flatMap_cons, List.flatMap_cons, (inter_apart (show y.too < z.frm by omega)).2, List.nil_append, ih fun w hw => hz w (by simp [hw])]
    rw [key a ha.later]
theorem nest_nil (a : List Window) : nestW a [] = [] := by
  unfold nestW
  rw [List.flatMap_eq_nil_iff]
  intro z _
  rfl
theorem drop_cons {l : List Window} {n : Nat} (h : n < l.length) : l.drop n = wAt l n :: l.drop (n + 1) := by
  rw [List.drop_eq_getElem_cons h]
  congr 1
  rw [wAt, List.getD_eq_getElem?_getD, List.getElem?_eq_getElem h]
  rfl
theorem Okw.drop {l : List Window} (h : Okw l) : ∀ n, Okw (l.drop n)
  | 0 => by simpa using h
  | n + 1 => by
    by_cases hn : n < l.length
    · have := Okw.drop h n
      rw [drop_cons hn] at this
      exact this.tail
    · rw [List.drop_eq_nil_of_le (by omega)]
      trivial
theorem room_t {n : Nat} (h : n ≤ 1048576) : Nat.ble n roomD = true := by rw [Nat.ble_eq]; exact h
theorem run_meet (a b : List Window) (ha : Okw a) (hb : Okw b) (hla : a.length ≤ 1000) (hlb : b.length ≤ 1000) : ∀ (f i j : Nat) (o : List Window), i ≤ a.length → j ≤ b.length → (a.length - i) + (b.length - j) < f → o.length + (a.length - i) + (b.length - j) ≤ 1048576 →
    (run_rise_Meet_0 a b f (i : Int) (j : Int) o).k = 0 ∧ (run_rise_Meet_0 a b f (i : Int) (j : Int) o).m2 = o ++ nestW (a.drop i) (b.drop j) := by
  intro f
  induction f with
  | zero => intro i j o _ _ h; omega
  | succ f ih =>
    intro i j o hi hj h ho
    rw [run_rise_Meet_0]
    by_cases h1 : i < a.length
    · by_cases h2 : j < b.length
      · simp only [nn_t, Bool.and_self, lt_t h1, lt_t h2, cond_true, w64_nat (show i < 4611686018427387904 by omega), w64_nat (show j < 4611686018427387904 by omega), Int.toNat_natCast, List.length_singleton]
        rw [drop_cons h1, drop_cons h2]
        have oa := ha.drop i
        have ob := hb.drop j
        rw [drop_cons h1] at oa
        rw [drop_cons h2] at ob
        rw [nest_step oa ob]
        have fin : ∀ (o' : List Window), o'.length ≤ o.length + 1 →
            (bif decide ((wAt a i).too < (wAt b j).too) then run_rise_Meet_0 a b f ((i + 1 : Nat) : Int) (j : Int) o' else run_rise_Meet_0 a b f (i : Int) ((j + 1 : Nat) : Int) o').k = 0 ∧
            (bif decide ((wAt a i).too < (wAt b j).too) then run_rise_Meet_0 a b f ((i + 1 : Nat) : Int) (j : Int) o' else run_rise_Meet_0 a b f (i : Int) ((j + 1 : Nat) : Int) o').m2 = o' ++ (if (wAt a i).too < (wAt b j).too then nestW (a.drop (i + 1)) (wAt b j :: b.drop (j + 1)) else nestW (wAt a i :: a.drop (i + 1)) (b.drop (j + 1))) := by
          intro o' ho'
          by_cases c : (wAt a i).too < (wAt b j).too
          · rw [dec_t c, if_pos c, ← drop_cons h2]
            exact ih (i + 1) j o' (by omega) (by omega) (by omega) (by omega)
          · rw [dec_f c, if_neg c, ← drop_cons h1]
            exact ih i (j + 1) o' (by omega) (by omega) (by omega) (by omega)
        by_cases c : wmax (wAt a i).frm (wAt b j).frm < wmin (wAt a i).too (wAt b j).too
        · have c' := c
          unfold wmax wmin at c'
          rw [show inter (wAt a i) (wAt b j) = [⟨wmax (wAt a i).frm (wAt b j).frm, wmin (wAt a i).too (wAt b j).too⟩] by unfold inter; rw [dec_t c]; rfl]
          rw [dec_t c', room_t (show o.length + 1 ≤ 1048576 by omega), ← List.append_assoc]
          exact fin _ (by simp)
        · have c' := c
          unfold wmax wmin at c'
          rw [show inter (wAt a i) (wAt b j) = [] by unfold inter; rw [dec_f c]; rfl, List.nil_append]
          rw [dec_f c']
          exact fin o (by omega)
      · simp only [lt_t h1, lt_f h2, cond_true, cond_false, List.drop_eq_nil_of_le (show b.length ≤ j by omega), nest_nil, List.append_nil, and_self]
    · simp only [lt_f h1, cond_false, List.drop_eq_nil_of_le (show a.length ≤ i by omega), nestW, List.flatMap_nil, List.append_nil, and_self]
def meetW (a b : List Window) : List Window × Int :=
  bif checkW a != 0 then ([], checkW a) else bif checkW b != 0 then ([], checkW b) else bif decide (1000 < (nestW a b).length) then ([], 4) else (nestW a b, 0)
theorem ne0_of {n : Int} (h : ¬ (n != 0) = true) : n = 0 := by simpa using h
theorem m_meet (a b : List Window) : m_rise_Meet a b = ⟨true, (meetW a b).1, (meetW a b).2⟩ := by
  unfold m_rise_Meet meetW
  simp only [m_check, cond_true]
  cases h1 : (checkW a != 0) with
  | true => rfl
  | false =>
    cases h2 : (checkW b != 0) with
    | true => rfl
    | false =>
      obtain ⟨la, oa⟩ := okw_check (ne0_of (by rw [h1]; simp))
      obtain ⟨lb, ob⟩ := okw_check (ne0_of (by rw [h2]; simp))
      simp only [cond_false]
      unfold lp_rise_Meet_0
      obtain ⟨k1, k2⟩ := run_meet a b oa ob la lb (2000 + (a.length + b.length + ([] : List Window).length)) 0 0 [] (by omega) (by omega) (by omega) (by simp; omega)
      rw [show ((0 : Nat) : Int) = 0 from rfl] at k1 k2
      rw [k1, k2]
      simp only [List.nil_append, List.drop_zero]
      by_cases c : 1000 < (nestW a b).length
      · rw [dec_t c, dec_t (show (1000 : Int) < ((nestW a b).length : Int) by omega)]; rfl
      · rw [dec_f c, dec_f (show ¬ (1000 : Int) < ((nestW a b).length : Int) by omega)]; rfl
theorem eq_win (x y : Window) : eqAll [.int .i64 x.frm, .int .i64 x.too] [.int .i64 y.frm, .int .i64 y.too] = decide (x = y) := by
  cases x; cases y
  simp [eqAll, D.eq, Window.mk.injEq]
  rfl
theorem run_same (p : Bool) (a b : List Window) (hab : a.length = b.length) (hl : a.length < 4611686018427387904) : ∀ (f n : Nat), a.length - n < f →
    (run_Q7_Same_0 p a b f (n : Int)).k = if a.drop n = b.drop n then 1 else 0 := by
  intro f
  induction f with
  | zero => intro n h; omega
  | succ f ih =>
    intro n h
    rw [run_Q7_Same_0]
    by_cases h1 : n < a.length
    · simp only [nn_t, Bool.and_self, lt_t h1, lt_t (show n < b.length by omega), cond_true, w64_nat (show n < 4611686018427387904 by omega), Int.toNat_natCast]
      rw [drop_cons h1, drop_cons (show n < b.length by omega), eq_win]
      by_cases c : wAt a n = wAt b n
      · rw [dec_t c]
        simp only [Bool.not_true, cond_false, c, List.cons.injEq, true_and]
        exact ih (n + 1) (by omega)
      · rw [dec_f c]
        simp only [Bool.not_false, cond_true, List.cons.injEq, c, false_and, if_false]
    · simp only [lt_f h1, cond_false]
      rw [List.drop_eq_nil_of_le (by omega), List.drop_eq_nil_of_le (by omega), if_pos rfl]
theorem m_same (a b : List Window) (hl : a.length < 4611686018427387904) : m_Q7_Same a b = ⟨true, decide (a = b)⟩ := by
  unfold m_Q7_Same lp_Q7_Same_0
  by_cases h : a.length = b.length
  · rw [show ((a.length : Int) != (b.length : Int)) = false by simp [h]]
    have := run_same false a b h hl (2000 + (a.length + b.length)) 0 (by omega)
    rw [show ((0 : Nat) : Int) = 0 from rfl, List.drop_zero, List.drop_zero] at this
    simp only [cond_false]
    rw [this]
    by_cases c : a = b
    · rw [if_pos c, dec_t c]; rfl
    · rw [if_neg c, dec_f c]; rfl
  · rw [show ((a.length : Int) != (b.length : Int)) = true by simp; omega, dec_f (fun e => h (by rw [e]))]
    rfl
end Go.Ev

namespace Go.Ev
open Go
theorem hasF_cons (w : Window) (r : List Window) (t : Int) : hasF (w :: r) t = true ↔ (w.frm ≤ t ∧ t < w.too) ∨ hasF r t = true := by
  unfold hasF
  rw [List.any_cons, Bool.or_eq_true, Bool.and_eq_true, decide_eq_true_eq, decide_eq_true_eq]
theorem hasF_mem {l : List Window} {t : Int} : hasF l t = true ↔ ∃ w ∈ l, w.frm ≤ t ∧ t < w.too := by
  unfold hasF
  rw [List.any_eq_true]
  constructor
  · rintro ⟨w, h, h1⟩
    exact ⟨w, h, by simpa using h1⟩
  · rintro ⟨w, h, h1⟩
    exact ⟨w, h, by simpa using h1⟩
theorem Okw.cons {w : Window} : ∀ {l : List Window}, w.frm < w.too → (∀ z ∈ l, w.too < z.frm) → Okw l → Okw (w :: l)
  | [], h, _, _ => h
  | z :: r, h, h1, h2 => ⟨h, h1 z (by simp), h2⟩
theorem Okw.mem : ∀ {l : List Window}, Okw l → ∀ w ∈ l, w.frm < w.too
  | [], _, w, h => by cases h
  | x :: r, h, w, hw => by
    rcases List.mem_cons.1 hw with rfl | hw
    · exact h.head
    · exact Okw.mem h.tail w hw
theorem Okw.gap : ∀ {l : List Window}, Okw l → ∀ w ∈ l, hasF l w.too = false
  | [], _, w, h => by cases h
  | x :: r, h, w, hw => by
    refine Bool.eq_false_iff.2 fun e => ?_
    rw [hasF_cons] at e
    have hx := h.head
    rcases List.mem_cons.1 hw with rfl | hw
    · rcases e with e | e
      · omega
      · obtain ⟨z, hz, h1, _⟩ := hasF_mem.1 e
        have := h.later z hz
        omega
    · have hl := h.later w hw
      have hm := Okw.mem h.tail w hw
      rcases e with e | e
      · omega
      · rw [Okw.gap h.tail w hw] at e
        cases e
theorem okw_same : ∀ {a b : List Window}, Okw a → Okw b → (∀ t, hasF a t = true ↔ hasF b t = true) → a = b
  | [], [], _, _, _ => rfl
  | [], y :: s, _, hb, h => by
    have := (h y.frm).2 ((hasF_cons _ _ _).2 (.inl ⟨by omega, hb.head⟩))
    simp [hasF] at this
  | x :: r, [], ha, _, h => by
    have := (h x.frm).1 ((hasF_cons _ _ _).2 (.inl ⟨by omega, ha.head⟩))
    simp [hasF] at this
  | x :: r, y :: s, ha, hb, h => by
    have low : ∀ {x : Window} {r : List Window}, Okw (x :: r) → ∀ t, hasF (x :: r) t = true → x.frm ≤ t := by
      intro x r ho t ht
      rcases (hasF_cons _ _ _).1 ht with e | e
      · exact e.1
      · obtain ⟨z, hz, h1, _⟩ := hasF_mem.1 e
        have := ho.later z hz
        have := ho.head
        omega
    have h1 : y.frm ≤ x.frm := low hb _ ((h x.frm).1 ((hasF_cons _ _ _).2 (.inl ⟨by omega, ha.head⟩)))
    have h2 : x.frm ≤ y.frm := low ha _ ((h y.frm).2 ((hasF_cons _ _ _).2 (.inl ⟨by omega, hb.head⟩)))
    have hx := ha.head
    have hy := hb.head
    have g1 := ha.gap x (by simp)
    have g2 := hb.gap y (by simp)
    have h3 : ¬ x.too < y.too := fun c => by
      have := (h x.too).2 ((hasF_cons _ _ _).2 (.inl ⟨by omega, c⟩))
      rw [g1] at this; cases this
    have h4 : ¬ y.too < x.too := fun c => by
      have := (h y.too).1 ((hasF_cons _ _ _).2 (.inl ⟨by omega, c⟩))
      rw [g2] at this; cases this
    have e : x = y := by
      cases x; cases y
      simp only [Window.mk.injEq]
      exact ⟨by simp only at h1 h2; omega, by simp only at h3 h4; omega⟩
    subst e
    have tails : ∀ {u v : List Window}, Okw (x :: u) → (∀ t, hasF (x :: u) t = true → hasF (x :: v) t = true) → ∀ t, hasF u t = true → hasF v t = true := by
      intro u v hu huv t ht
      rcases (hasF_cons _ _ _).1 (huv t ((hasF_cons _ _ _).2 (.inr ht))) with e | e
      · obtain ⟨z, hz, q1, _⟩ := hasF_mem.1 ht
        have := hu.later z hz
        omega
      · exact e
    rw [okw_same ha.tail hb.tail fun t => ⟨tails ha (fun t => (h t).1) t, tails hb (fun t => (h t).2) t⟩]
theorem inter_mem {x y w : Window} : w ∈ inter x y ↔ wmax x.frm y.frm < wmin x.too y.too ∧ w = ⟨wmax x.frm y.frm, wmin x.too y.too⟩ := by
  unfold inter
  by_cases c : wmax x.frm y.frm < wmin x.too y.too
  · rw [dec_t c]; simp [c]
  · rw [dec_f c]; simp [c]
theorem nest_mem {a b : List Window} {w : Window} : w ∈ nestW a b ↔ ∃ x ∈ a, ∃ y ∈ b, w ∈ inter x y := by
  unfold nestW
  simp only [List.mem_flatMap]
theorem nest_has (a b : List Window) (t : Int) : hasF (nestW a b) t = true ↔ hasF a t = true ∧ hasF b t = true := by
  constructor
  · intro h
    obtain ⟨w, hw, h1, h2⟩ := hasF_mem.1 h
    obtain ⟨x, hx, y, hy, h3⟩ := nest_mem.1 hw
    obtain ⟨_, rfl⟩ := inter_mem.1 h3
    simp only [wmax, wmin] at h1 h2
    split at h1 <;> split at h2 <;> exact ⟨hasF_mem.2 ⟨x, hx, by omega, by omega⟩, hasF_mem.2 ⟨y, hy, by omega, by omega⟩⟩
  · rintro ⟨h1, h2⟩
    obtain ⟨x, hx, h3, h4⟩ := hasF_mem.1 h1
    obtain ⟨y, hy, h5, h6⟩ := hasF_mem.1 h2
    have e1 : wmax x.frm y.frm ≤ t := by unfold wmax; split <;> omega
    have e2 : t < wmin x.too y.too := by unfold wmin; split <;> omega
    exact hasF_mem.2 ⟨⟨wmax x.frm y.frm, wmin x.too y.too⟩, nest_mem.2 ⟨x, hx, y, hy, inter_mem.2 ⟨by omega, rfl⟩⟩, e1, e2⟩
theorem okw_inter {x y : Window} {l : List Window} (hl : Okw l) (h : ∀ z ∈ l, wmin x.too y.too < z.frm) : Okw (inter x y ++ l) := by
  unfold inter
  by_cases c : wmax x.frm y.frm < wmin x.too y.too
  · rw [dec_t c]
    exact Okw.cons c h hl
  · rw [dec_f c]
    exact hl
theorem okw_nest : ∀ (n : Nat) {a b : List Window}, a.length + b.length ≤ n → Okw a → Okw b → Okw (nestW a b)
  | 0, [], [], _, _, _ => trivial
  | 0, _ :: _, _, h, _, _ => by simp at h
  | 0, [], _ :: _, h, _, _ => by simp at h
  | n + 1, [], b, _, _, _ => by simp [nestW]; trivial
  | n + 1, a, [], _, _, _ => by rw [nest_nil]; trivial
  | n + 1, x :: r, y :: s, h, ha, hb => by
    rw [nest_step ha hb]
    simp only [List.length_cons] at h
    by_cases c : x.too < y.too
    · rw [if_pos c]
      refine okw_inter (okw_nest n (by simp only [List.length_cons]; omega) ha.tail hb) fun z hz => ?_
      obtain ⟨u, hu, v, hv, h1⟩ := nest_mem.1 hz
      obtain ⟨_, rfl⟩ := inter_mem.1 h1
      have := ha.later u hu
      simp only [wmax, wmin]
      split <;> split <;> omega
    · rw [if_neg c]
      refine okw_inter (okw_nest n (by simp only [List.length_cons]; omega) ha hb.tail) fun z hz => ?_
      obtain ⟨u, hu, v, hv, h1⟩ := nest_mem.1 hz
      obtain ⟨_, rfl⟩ := inter_mem.1 h1
      have := hb.later v hv
      simp only [wmax, wmin]
      split <;> split <;> omega
theorem desc_okw : ∀ {R : List Window} {hi : Int} (acc : List Window), Desc hi R → Okw acc → (∀ z ∈ acc, hi < z.frm) → Okw (R.reverseAux acc)
  | [], _, _, _, h, _ => h
  | w :: r, hi, acc, ⟨h1, h2, h3⟩, h, ha => by
    rw [List.reverseAux]
    refine desc_okw (w :: acc) h3 (Okw.cons h1 (fun z hz => by have := ha z hz; omega) h) fun z hz => ?_
    rcases List.mem_cons.1 hz with rfl | hz
    · omega
    · have := ha z hz
      omega
theorem wins_okw (up : Nat → Bool) (fr : Int) (n : Nat) : Okw (winsF up fr n) := by
  exact desc_okw [] (wins_inv up fr n).desc trivial (by simp)
theorem winsF_has (up : Nat → Bool) (fr : Int) (n : Nat) (t : Int) : hasF (winsF up fr n) t = true ↔ ∃ k, k < n ∧ t = fr + k ∧ up k = true := by
  unfold winsF
  rw [hasF_iff]
  exact (wins_inv up fr n).has t
theorem wins_meet (u v : Nat → Bool) (fr : Int) (n : Nat) : nestW (winsF u fr n) (winsF v fr n) = winsF (fun k => u k && v k) fr n := by
  refine okw_same (okw_nest _ (Nat.le_refl _) (wins_okw u fr n) (wins_okw v fr n)) (wins_okw _ fr n) fun t => ?_
  rw [nest_has, winsF_has, winsF_has, winsF_has]
  constructor
  · rintro ⟨⟨k, h1, h2, h3⟩, j, h4, h5, h6⟩
    obtain rfl : j = k := by omega
    exact ⟨j, h1, h2, by simp [h3, h6]⟩
  · rintro ⟨k, h1, h2, h3⟩
    simp only [Bool.and_eq_true] at h3
    exact ⟨⟨k, h1, h2, h3.1⟩, k, h1, h2, h3.2⟩
theorem checkW_of {l : List Window} (h : l.length ≤ 1000) (hg : ∀ n, n < l.length → Good l n) : checkW l = 0 := by
  have hb : badFrom l 0 = false := by
    unfold badFrom
    rw [List.any_eq_false]
    intro n hn
    have hn' : n < l.length := by simp [List.mem_range'] at hn; omega
    have q := hg n hn'
    have q1 := q.one
    unfold badAt
    rw [dec_f (show ¬ (wAt l n).too ≤ (wAt l n).frm by omega)]
    by_cases c : 0 < n
    · have q2 := q.two c
      rw [dec_f (show ¬ (wAt l n).frm ≤ (wAt l (n - 1)).too by omega)]
      simp
    · rw [dec_f c]
      simp
  unfold checkW
  rw [dec_f (show ¬ 1000 < l.length by omega), hb]
  rfl
def longF (l : List Window) (len : Int) : Option Window := l.find? fun w => decide (len ≤ w.too - w.frm)
def wholeW (l : List Window) (t : Int) (n : Nat) : Bool := (List.range' 0 n).all fun k => hasF l (t + k)
theorem whole_iff {l : List Window} (h : Okw l) {t : Int} {n : Nat} (hn : 0 < n) : wholeW l t n = true ↔ ∃ w ∈ l, w.frm ≤ t ∧ t + n ≤ w.too := by
  unfold wholeW
  rw [List.all_eq_true]
  constructor
  · intro hk
    have h0 := hk 0 (by simp [List.mem_range']; omega)
    rw [show t + ((0 : Nat) : Int) = t by omega] at h0
    obtain ⟨w, hw, h1, h2⟩ := hasF_mem.1 h0
    refine ⟨w, hw, h1, ?_⟩
    have : ∀ k : Nat, k ≤ n → 0 < k → t + k ≤ w.too := by
      intro k
      induction k with
      | zero => intro _ h; omega
      | succ k ih =>
        intro h3 _
        by_cases c : k = 0
        · subst c; omega
        · have h4 := ih (by omega) (by omega)
          by_cases e : t + (k : Int) = w.too
          · have h5 := hk k (by simp [List.mem_range']; omega)
            rw [e, h.gap w hw] at h5
            cases h5
          · omega
    exact this n (Nat.le_refl _) hn
  · rintro ⟨w, hw, h1, h2⟩ k hk
    simp [List.mem_range'] at hk
    exact hasF_mem.2 ⟨w, hw, by omega, by omega⟩
theorem long_some : ∀ {l : List Window} (_ : Okw l) {len : Int} {w : Window}, longF l len = some w → w ∈ l ∧ len ≤ w.too - w.frm ∧ ∀ v ∈ l, len ≤ v.too - v.frm → w.frm ≤ v.frm
  | [], _, _, _, h => by simp [longF] at h
  | x :: r, ho, len, w, h => by
    unfold longF at h
    rw [List.find?_cons] at h
    by_cases c : len ≤ x.too - x.frm
    · rw [dec_t c] at h
      cases h
      refine ⟨by simp, c, fun v hv _ => ?_⟩
      rcases List.mem_cons.1 hv with rfl | hv
      · omega
      · have := ho.later v hv
        have := ho.head
        omega
    · rw [dec_f c] at h
      obtain ⟨h1, h2, h3⟩ := long_some (l := r) ho.tail h
      refine ⟨by simp [h1], h2, fun v hv hl => ?_⟩
      rcases List.mem_cons.1 hv with rfl | hv
      · omega
      · exact h3 v hv hl
theorem long_none {l : List Window} {len : Int} (h : longF l len = none) : ∀ w ∈ l, w.too - w.frm < len := by
  unfold longF at h
  rw [List.find?_eq_none] at h
  intro w hw
  have := h w hw
  simp at this
  omega
end Go.Ev

namespace Go.Ev
open Go Go.Proofs
structure R_W7_RiseTogether_1 where
  k : Nat
  p26 : Bool
  p27 : Int
def run_W7_RiseTogether_1 (p3 : Int) (p4 : Int) (p6 : Int) (p23 : Int) (p24 : Int) (p25 : Int) (m0 : List Site) (q1 : Source) (m2 : List Window) : Nat → Bool → Int → R_W7_RiseTogether_1
  | 0, p26, p27 => ⟨1, p26, p27⟩
  | n + 1, p26, p27 => bif decide (p27 < p6) then (bif p26 then (bif (m_Q7_Has m2 (w64 (p25 + p27))).ok then run_W7_RiseTogether_1 p3 p4 p6 p23 p24 p25 m0 q1 m2 n ((m_Q7_Has m2 (w64 (p25 + p27))).r0) (w64 (p27 + (1 : Int))) else ⟨1, p26, p27⟩) else ⟨0, p26, p27⟩) else ⟨0, p26, p27⟩
def lp_W7_RiseTogether_1 (p3 : Int) (p4 : Int) (p6 : Int) (p23 : Int) (p24 : Int) (p25 : Int) (m0 : List Site) (q1 : Source) (m2 : List Window) (p26 : Bool) (p27 : Int) : R_W7_RiseTogether_1 := run_W7_RiseTogether_1 p3 p4 p6 p23 p24 p25 m0 q1 m2 (2000 + (m0.length + m2.length)) p26 p27
abbrev H_W7_RiseTogether_1 (p3 : Int) (p4 : Int) (p6 : Int) (p23 : Int) (p24 : Int) (p25 : Int) (_m0 : List Site) (_q1 : Source) (_m2 : List Window) (p26 : Bool) (p27 : Int) : TS := headT [3, 4, 6, 9, 21, 23, 24, 25, 26, 27] 173 [.v (.c (.d (.int .i64 p3))), .v (.c (.d (.int .i64 p4))), .v (.c (.d (.int .i64 p6))), .v (.c (.ptr 1 0)), .v (.c (.aslice 2 none)), .v (.c (.d (.int .i64 p23))), .v (.c (.d (.int .i64 p24))), .v (.c (.d (.int .i64 p25))), .v (.c (.d (.bool p26))), .v (.c (.d (.int .i64 p27)))]
theorem b_W7_RiseTogether_1 (p3 : Int) (p4 : Int) (p6 : Int) (p23 : Int) (p24 : Int) (p25 : Int) (m0 : List Site) (q1 : Source) (m2 : List Window) (p26 : Bool) (p27 : Int) : evCode Tryz.prog GT EQT T_rise_Next XT noL 80 (loopB Tryz.prog 3 1) (H_W7_RiseTogether_1 p3 p4 p6 p23 p24 p25 m0 q1 m2 p26 p27) [.arr none .site m0, .rw 26 [.str q1.name, .int .i64 q1.ra, .int .i64 q1.dec], .arr (some 52) .win m2] 3 (normK 1 [3, 4, 6, 9, 21, 23, 24, 25, 26, 27]) =
    bif decide (p27 < p6) then (bif p26 then (bif (m_Q7_Has m2 (w64 (p25 + p27))).ok then some (.st .normal (headT [3, 4, 6, 9, 21, 23, 24, 25, 26, 27] 173 [.v (.c (.d (.int .i64 p3))), .v (.c (.d (.int .i64 p4))), .v (.c (.d (.int .i64 p6))), .v (.c (.ptr 1 0)), .v (.c (.aslice 2 none)), .v (.c (.d (.int .i64 p23))), .v (.c (.d (.int .i64 p24))), .v (.c (.d (.int .i64 p25))), .v (.c (.d (.bool ((m_Q7_Has m2 (w64 (p25 + p27))).r0)))), .v (.c (.d (.int .i64 (w64 (p27 + (1 : Int))))))]) [.arr none .site m0, .rw 26 [.str q1.name, .int .i64 q1.ra, .int .i64 q1.dec], .arr (some 52) .win m2] 3) else none) else some (.st (.exit 2) (headT [3, 4, 6, 9, 21, 23, 24, 25, 26, 27] 173 [.v (.c (.d (.int .i64 p3))), .v (.c (.d (.int .i64 p4))), .v (.c (.d (.int .i64 p6))), .v (.c (.ptr 1 0)), .v (.c (.aslice 2 none)), .v (.c (.d (.int .i64 p23))), .v (.c (.d (.int .i64 p24))), .v (.c (.d (.int .i64 p25))), .v (.c (.d (.bool p26))), .v (.c (.d (.int .i64 p27)))]) [.arr none .site m0, .rw 26 [.str q1.name, .int .i64 q1.ra, .int .i64 q1.dec], .arr (some 52) .win m2] 3)) else some (.st (.exit 2) (headT [3, 4, 6, 9, 21, 23, 24, 25, 26, 27] 173 [.v (.c (.d (.int .i64 p3))), .v (.c (.d (.int .i64 p4))), .v (.c (.d (.int .i64 p6))), .v (.c (.ptr 1 0)), .v (.c (.aslice 2 none)), .v (.c (.d (.int .i64 p23))), .v (.c (.d (.int .i64 p24))), .v (.c (.d (.int .i64 p25))), .v (.c (.d (.bool p26))), .v (.c (.d (.int .i64 p27)))]) [.arr none .site m0, .rw 26 [.str q1.name, .int .i64 q1.ra, .int .i64 q1.dec], .arr (some 52) .win m2] 3) := by
  kernel_rfl
def o_W7_RiseTogether_1 (p3 : Int) (p4 : Int) (p6 : Int) (p23 : Int) (p24 : Int) (p25 : Int) (m0 : List Site) (q1 : Source) (m2 : List Window) (r : R_W7_RiseTogether_1) : LT := .br (Nat.beq r.k 0) (.st (.exit 2) (headT [3, 4, 6, 9, 21, 23, 24, 25, 26, 27] 173 [.v (.c (.d (.int .i64 p3))), .v (.c (.d (.int .i64 p4))), .v (.c (.d (.int .i64 p6))), .v (.c (.ptr 1 0)), .v (.c (.aslice 2 none)), .v (.c (.d (.int .i64 p23))), .v (.c (.d (.int .i64 p24))), .v (.c (.d (.int .i64 p25))), .v (.c (.d (.bool r.p26))), .v (.c (.d (.int .i64 r.p27)))]) [.arr none .site m0, .rw 26 [.str q1.name, .int .i64 q1.ra, .int .i64 q1.dec], .arr (some 52) .win m2] 3) (.no)
theorem r_W7_RiseTogether_1 (p3 : Int) (p4 : Int) (p6 : Int) (p23 : Int) (p24 : Int) (p25 : Int) (m0 : List Site) (q1 : Source) (m2 : List Window) : ∀ (n : Nat) (p26 : Bool) (p27 : Int) (x : Ex) (T' : TS) (M' : List Blk) (N' : Nat), LReach (o_W7_RiseTogether_1 p3 p4 p6 p23 p24 p25 m0 q1 m2 (run_W7_RiseTogether_1 p3 p4 p6 p23 p24 p25 m0 q1 m2 n p26 p27)) x T' M' N' → x ≠ .normal ∧ ∃ j, RoundsN Tryz.prog GT gbT 1 (loopB Tryz.prog 3 1) j (H_W7_RiseTogether_1 p3 p4 p6 p23 p24 p25 m0 q1 m2 p26 p27) [.arr none .site m0, .rw 26 [.str q1.name, .int .i64 q1.ra, .int .i64 q1.dec], .arr (some 52) .win m2] 3 x T' M' N' := by
  have hL : LOKn Tryz.prog GT gbT 1 noL (loopsIn (loopB Tryz.prog 3 1)) := fun _ _ _ _ _ _ _ _ _ h => h.elim
  intro n
  induction n with
  | zero =>
    intro p26 p27 x T' M' N' hr
    exact False.elim (redF hr)
  | succ n ih =>
    intro p26 p27 x T' M' N'
    rw [run_W7_RiseTogether_1]
    exact viaE (b_W7_RiseTogether_1 p3 p4 p6 p23 p24 p25 m0 q1 m2 p26 p27) (condG (o := o_W7_RiseTogether_1 p3 p4 p6 p23 p24 p25 m0 q1 m2) (condG (o := o_W7_RiseTogether_1 p3 p4 p6 p23 p24 p25 m0 q1 m2) (condG (o := o_W7_RiseTogether_1 p3 p4 p6 p23 p24 p25 m0 q1 m2) (fun he hr => goN g_rise_Next hEQT hmT hL he (ih ((m_Q7_Has m2 (w64 (p25 + p27))).r0) (w64 (p27 + (1 : Int))) x T' M' N' hr)) (fun _ hr => False.elim (redF hr))) (fun he hr => stopN g_rise_Next hEQT hmT hL he (by simp) (redT hr))) (fun he hr => stopN g_rise_Next hEQT hmT hL he (by simp) (redT hr)))
def f_W7_RiseTogether_1 : List AV → List Blk → LT := fun vs Ms => match vs, Ms with
  | [.v (.c (.d (.int .i64 p3))), .v (.c (.d (.int .i64 p4))), .v (.c (.d (.int .i64 p6))), .v (.c (.ptr 1 0)), .v (.c (.aslice 2 none)), .v (.c (.d (.int .i64 p23))), .v (.c (.d (.int .i64 p24))), .v (.c (.d (.int .i64 p25))), .v (.c (.d (.bool p26))), .v (.c (.d (.int .i64 p27)))], [.arr none .site m0, .rw 26 [.str q1_0, .int .i64 q1_1, .int .i64 q1_2], .arr (some 52) .win m2] => o_W7_RiseTogether_1 p3 p4 p6 p23 p24 p25 m0 (⟨q1_0, q1_1, q1_2⟩ : Source) m2 (lp_W7_RiseTogether_1 p3 p4 p6 p23 p24 p25 m0 (⟨q1_0, q1_1, q1_2⟩ : Source) m2 p26 p27)
  | _, _ => .no
def L_W7_RiseTogether_1 := LamN 15 173 1 [3, 4, 6, 9, 21, 23, 24, 25, 26, 27] f_W7_RiseTogether_1
theorem k_W7_RiseTogether_1 : LOKbn Tryz.prog GT gbT 1 L_W7_RiseTogether_1 (loopB Tryz.prog 3 1) := by
  refine LOKbn.lamN (by kernel_rfl) fun vs Ms x T' M' N' hr => ?_
  unfold f_W7_RiseTogether_1 at hr
  split at hr
  · obtain ⟨q1, j, q2⟩ := r_W7_RiseTogether_1 _ _ _ _ _ _ _ _ _ _ _ _ x T' M' N' hr
    exact ⟨q1, j, q2⟩
  · exact hr.elim
structure R_W7_RiseTogether_0 where
  k : Nat
  p25 : Int
def run_W7_RiseTogether_0 (p3 : Int) (p4 : Int) (p6 : Int) (p23 : Int) (p24 : Int) (m0 : List Site) (q1 : Source) (m2 : List Window) : Nat → Int → R_W7_RiseTogether_0
  | 0, p25 => ⟨3, p25⟩
  | n + 1, p25 => bif decide (p25 < (w64 (p3 + p4))) then (bif Nat.beq (lp_W7_RiseTogether_1 p3 p4 p6 p23 p24 p25 m0 q1 m2 true (0 : Int)).k 0 then (bif ((lp_W7_RiseTogether_1 p3 p4 p6 p23 p24 p25 m0 q1 m2 true (0 : Int)).p26) then (bif (p24 == (0 : Int)) then (bif (p23 == p25) then (bif (m_W7_alive).ok then ⟨0, p25⟩ else ⟨3, p25⟩) else ⟨1, p25⟩) else ⟨1, p25⟩) else run_W7_RiseTogether_0 p3 p4 p6 p23 p24 m0 q1 m2 n (w64 (p25 + (1 : Int)))) else ⟨3, p25⟩) else ⟨2, p25⟩
def lp_W7_RiseTogether_0 (p3 : Int) (p4 : Int) (p6 : Int) (p23 : Int) (p24 : Int) (m0 : List Site) (q1 : Source) (m2 : List Window) (p25 : Int) : R_W7_RiseTogether_0 := run_W7_RiseTogether_0 p3 p4 p6 p23 p24 m0 q1 m2 (2000 + (m0.length + m2.length)) p25
abbrev H_W7_RiseTogether_0 (p3 : Int) (p4 : Int) (p6 : Int) (p23 : Int) (p24 : Int) (_m0 : List Site) (_q1 : Source) (_m2 : List Window) (p25 : Int) : TS := headT [3, 4, 6, 9, 14, 21, 23, 24, 25] 173 [.v (.c (.d (.int .i64 p3))), .v (.c (.d (.int .i64 p4))), .v (.c (.d (.int .i64 p6))), .v (.c (.ptr 1 0)), .any, .v (.c (.aslice 2 none)), .v (.c (.d (.int .i64 p23))), .v (.c (.d (.int .i64 p24))), .v (.c (.d (.int .i64 p25)))]
theorem b_W7_RiseTogether_0 (p3 : Int) (p4 : Int) (p6 : Int) (p23 : Int) (p24 : Int) (m0 : List Site) (q1 : Source) (m2 : List Window) (p25 : Int) : evCode Tryz.prog GT EQT T_rise_Next XT (orL L_W7_RiseTogether_1 noL) 80 (loopB Tryz.prog 3 0) (H_W7_RiseTogether_0 p3 p4 p6 p23 p24 m0 q1 m2 p25) [.arr none .site m0, .rw 26 [.str q1.name, .int .i64 q1.ra, .int .i64 q1.dec], .arr (some 52) .win m2] 3 (normK 1 [3, 4, 6, 9, 14, 21, 23, 24, 25]) =
    bif decide (p25 < (w64 (p3 + p4))) then (bif Nat.beq (lp_W7_RiseTogether_1 p3 p4 p6 p23 p24 p25 m0 q1 m2 true (0 : Int)).k 0 then (bif ((lp_W7_RiseTogether_1 p3 p4 p6 p23 p24 p25 m0 q1 m2 true (0 : Int)).p26) then (bif (p24 == (0 : Int)) then (bif (p23 == p25) then (bif (m_W7_alive).ok then some (.st .ret (headT [3, 4, 6, 9, 14, 21, 23, 24, 25] 173 [.v (.c (.d (.int .i64 p3))), .v (.c (.d (.int .i64 p4))), .v (.c (.d (.int .i64 p6))), .v (.c (.ptr 1 0)), .v (.c (.d (.bool ((m_W7_alive).r0)))), .v (.c (.aslice 2 none)), .v (.c (.d (.int .i64 p23))), .v (.c (.d (.int .i64 p24))), .v (.c (.d (.int .i64 p25)))]) [.arr none .site m0, .rw 26 [.str q1.name, .int .i64 q1.ra, .int .i64 q1.dec], .arr (some 52) .win m2] 3) else none) else some (.st .ret (headT [3, 4, 6, 9, 14, 21, 23, 24, 25] 173 [.v (.c (.d (.int .i64 p3))), .v (.c (.d (.int .i64 p4))), .v (.c (.d (.int .i64 p6))), .v (.c (.ptr 1 0)), .v (.c (.d (.bool false))), .v (.c (.aslice 2 none)), .v (.c (.d (.int .i64 p23))), .v (.c (.d (.int .i64 p24))), .v (.c (.d (.int .i64 p25)))]) [.arr none .site m0, .rw 26 [.str q1.name, .int .i64 q1.ra, .int .i64 q1.dec], .arr (some 52) .win m2] 3)) else some (.st .ret (headT [3, 4, 6, 9, 14, 21, 23, 24, 25] 173 [.v (.c (.d (.int .i64 p3))), .v (.c (.d (.int .i64 p4))), .v (.c (.d (.int .i64 p6))), .v (.c (.ptr 1 0)), .v (.c (.d (.bool false))), .v (.c (.aslice 2 none)), .v (.c (.d (.int .i64 p23))), .v (.c (.d (.int .i64 p24))), .v (.c (.d (.int .i64 p25)))]) [.arr none .site m0, .rw 26 [.str q1.name, .int .i64 q1.ra, .int .i64 q1.dec], .arr (some 52) .win m2] 3)) else some (.st .normal (headT [3, 4, 6, 9, 14, 21, 23, 24, 25] 173 [.v (.c (.d (.int .i64 p3))), .v (.c (.d (.int .i64 p4))), .v (.c (.d (.int .i64 p6))), .v (.c (.ptr 1 0)), .any, .v (.c (.aslice 2 none)), .v (.c (.d (.int .i64 p23))), .v (.c (.d (.int .i64 p24))), .v (.c (.d (.int .i64 (w64 (p25 + (1 : Int))))))]) [.arr none .site m0, .rw 26 [.str q1.name, .int .i64 q1.ra, .int .i64 q1.dec], .arr (some 52) .win m2] 3)) else none) else some (.st (.exit 0) (headT [3, 4, 6, 9, 14, 21, 23, 24, 25] 173 [.v (.c (.d (.int .i64 p3))), .v (.c (.d (.int .i64 p4))), .v (.c (.d (.int .i64 p6))), .v (.c (.ptr 1 0)), .any, .v (.c (.aslice 2 none)), .v (.c (.d (.int .i64 p23))), .v (.c (.d (.int .i64 p24))), .v (.c (.d (.int .i64 p25)))]) [.arr none .site m0, .rw 26 [.str q1.name, .int .i64 q1.ra, .int .i64 q1.dec], .arr (some 52) .win m2] 3) := by
  kernel_rfl
def o_W7_RiseTogether_0 (p3 : Int) (p4 : Int) (p6 : Int) (p23 : Int) (p24 : Int) (m0 : List Site) (q1 : Source) (m2 : List Window) (r : R_W7_RiseTogether_0) : LT := .br (Nat.beq r.k 0) (.st .ret (headT [3, 4, 6, 9, 14, 21, 23, 24, 25] 173 [.v (.c (.d (.int .i64 p3))), .v (.c (.d (.int .i64 p4))), .v (.c (.d (.int .i64 p6))), .v (.c (.ptr 1 0)), .v (.c (.d (.bool ((m_W7_alive).r0)))), .v (.c (.aslice 2 none)), .v (.c (.d (.int .i64 p23))), .v (.c (.d (.int .i64 p24))), .v (.c (.d (.int .i64 r.p25)))]) [.arr none .site m0, .rw 26 [.str q1.name, .int .i64 q1.ra, .int .i64 q1.dec], .arr (some 52) .win m2] 3) (.br (Nat.beq r.k 1) (.st .ret (headT [3, 4, 6, 9, 14, 21, 23, 24, 25] 173 [.v (.c (.d (.int .i64 p3))), .v (.c (.d (.int .i64 p4))), .v (.c (.d (.int .i64 p6))), .v (.c (.ptr 1 0)), .v (.c (.d (.bool false))), .v (.c (.aslice 2 none)), .v (.c (.d (.int .i64 p23))), .v (.c (.d (.int .i64 p24))), .v (.c (.d (.int .i64 r.p25)))]) [.arr none .site m0, .rw 26 [.str q1.name, .int .i64 q1.ra, .int .i64 q1.dec], .arr (some 52) .win m2] 3) (.br (Nat.beq r.k 2) (.st (.exit 0) (headT [3, 4, 6, 9, 14, 21, 23, 24, 25] 173 [.v (.c (.d (.int .i64 p3))), .v (.c (.d (.int .i64 p4))), .v (.c (.d (.int .i64 p6))), .v (.c (.ptr 1 0)), .any, .v (.c (.aslice 2 none)), .v (.c (.d (.int .i64 p23))), .v (.c (.d (.int .i64 p24))), .v (.c (.d (.int .i64 r.p25)))]) [.arr none .site m0, .rw 26 [.str q1.name, .int .i64 q1.ra, .int .i64 q1.dec], .arr (some 52) .win m2] 3) (.no)))
theorem r_W7_RiseTogether_0 (p3 : Int) (p4 : Int) (p6 : Int) (p23 : Int) (p24 : Int) (m0 : List Site) (q1 : Source) (m2 : List Window) : ∀ (n : Nat) (p25 : Int) (x : Ex) (T' : TS) (M' : List Blk) (N' : Nat), LReach (o_W7_RiseTogether_0 p3 p4 p6 p23 p24 m0 q1 m2 (run_W7_RiseTogether_0 p3 p4 p6 p23 p24 m0 q1 m2 n p25)) x T' M' N' → x ≠ .normal ∧ ∃ j, RoundsN Tryz.prog GT gbT 1 (loopB Tryz.prog 3 0) j (H_W7_RiseTogether_0 p3 p4 p6 p23 p24 m0 q1 m2 p25) [.arr none .site m0, .rw 26 [.str q1.name, .int .i64 q1.ra, .int .i64 q1.dec], .arr (some 52) .win m2] 3 x T' M' N' := by
  have hL : LOKn Tryz.prog GT gbT 1 (orL L_W7_RiseTogether_1 noL) (loopsIn (loopB Tryz.prog 3 0)) := by
    intro b hb
    have e : loopsIn (loopB Tryz.prog 3 0) = [loopB Tryz.prog 3 1] := by kernel_rfl
    rw [e] at hb
    simp only [List.mem_cons, List.not_mem_nil, or_false] at hb
    subst hb
    exact (LOKbn.or k_W7_RiseTogether_1 (fun _ _ _ _ _ _ _ h => h.elim))
  intro n
  induction n with
  | zero =>
    intro p25 x T' M' N' hr
    exact False.elim (redF (redF (redF hr)))
  | succ n ih =>
    intro p25 x T' M' N'
    rw [run_W7_RiseTogether_0]
    exact viaE (b_W7_RiseTogether_0 p3 p4 p6 p23 p24 m0 q1 m2 p25) (condG (o := o_W7_RiseTogether_0 p3 p4 p6 p23 p24 m0 q1 m2) (condG (o := o_W7_RiseTogether_0 p3 p4 p6 p23 p24 m0 q1 m2) (condG (o := o_W7_RiseTogether_0 p3 p4 p6 p23 p24 m0 q1 m2) (condG (o := o_W7_RiseTogether_0 p3 p4 p6 p23 p24 m0 q1 m2) (condG (o := o_W7_RiseTogether_0 p3 p4 p6 p23 p24 m0 q1 m2) (condG (o := o_W7_RiseTogether_0 p3 p4 p6 p23 p24 m0 q1 m2) (fun he hr => stopN g_rise_Next hEQT hmT hL he (by simp) (redT hr)) (fun _ hr => False.elim (redF (redF (redF hr))))) (fun he hr => stopN g_rise_Next hEQT hmT hL he (by simp) (redT (redF hr)))) (fun he hr => stopN g_rise_Next hEQT hmT hL he (by simp) (redT (redF hr)))) (fun he hr => goN g_rise_Next hEQT hmT hL he (ih (w64 (p25 + (1 : Int))) x T' M' N' hr))) (fun _ hr => False.elim (redF (redF (redF hr))))) (fun he hr => stopN g_rise_Next hEQT hmT hL he (by simp) (redT (redF (redF hr)))))
def f_W7_RiseTogether_0 : List AV → List Blk → LT := fun vs Ms => match vs, Ms with
  | [.v (.c (.d (.int .i64 p3))), .v (.c (.d (.int .i64 p4))), .v (.c (.d (.int .i64 p6))), .v (.c (.ptr 1 0)), _, .v (.c (.aslice 2 none)), .v (.c (.d (.int .i64 p23))), .v (.c (.d (.int .i64 p24))), .v (.c (.d (.int .i64 p25)))], [.arr none .site m0, .rw 26 [.str q1_0, .int .i64 q1_1, .int .i64 q1_2], .arr (some 52) .win m2] => o_W7_RiseTogether_0 p3 p4 p6 p23 p24 m0 (⟨q1_0, q1_1, q1_2⟩ : Source) m2 (lp_W7_RiseTogether_0 p3 p4 p6 p23 p24 m0 (⟨q1_0, q1_1, q1_2⟩ : Source) m2 p25)
  | _, _ => .no
def L_W7_RiseTogether_0 := LamN 11 173 1 [3, 4, 6, 9, 14, 21, 23, 24, 25] f_W7_RiseTogether_0
theorem k_W7_RiseTogether_0 : LOKbn Tryz.prog GT gbT 1 L_W7_RiseTogether_0 (loopB Tryz.prog 3 0) := by
  refine LOKbn.lamN (by kernel_rfl) fun vs Ms x T' M' N' hr => ?_
  unfold f_W7_RiseTogether_0 at hr
  split at hr
  · obtain ⟨q1, j, q2⟩ := r_W7_RiseTogether_0 _ _ _ _ _ _ _ _ _ _ x T' M' N' hr
    exact ⟨q1, j, RoundsN.pre (Shifts.less (head_less (by exact ⟨.inl rfl, .inl rfl, .inl rfl, .inl rfl, .inr rfl, .inl rfl, .inl rfl, .inl rfl, .inl rfl, trivial⟩)) (fun _ => .inl rfl) (Nat.le_refl _)) q2⟩
  · exact hr.elim
structure O_W7_RiseTogether where
  ok : Bool
  r0 : Bool
def m_W7_RiseTogether (a0 : Globe) (a1 : List Site) (a2 : Source) (a3 : Int) (a4 : Int) (a5 : Frac) (a6 : Int) : O_W7_RiseTogether := bif (m_W7_fit a0 a1 a2 a3 a5).ok then (bif (!(m_W7_fit a0 a1 a2 a3 a5).r0) then (bif (m_W7_alive).ok then ⟨true, (m_W7_alive).r0⟩ else ⟨false, false⟩) else (bif decide ((a1.length : Int) < (2 : Int)) then (bif (m_W7_alive).ok then ⟨true, (m_W7_alive).r0⟩ else ⟨false, false⟩) else (bif decide (a4 < (0 : Int)) then (bif (m_W7_alive).ok then ⟨true, (m_W7_alive).r0⟩ else ⟨false, false⟩) else (bif decide ((60 : Int) < a4) then (bif (m_W7_alive).ok then ⟨true, (m_W7_alive).r0⟩ else ⟨false, false⟩) else (bif decide (a6 < (1 : Int)) then (bif (m_W7_alive).ok then ⟨true, (m_W7_alive).r0⟩ else ⟨false, false⟩) else (bif decide ((100 : Int) < a6) then (bif (m_W7_alive).ok then ⟨true, (m_W7_alive).r0⟩ else ⟨false, false⟩) else (bif (decide ((0 : Int) ≤ (0 : Int)) && decide ((0 : Int) < (a1.length : Int))) then (bif (m_rise_Windows a0 (a1.getD 0 (ET.z .site)) a2 a3 (w64 (a3 + a4)) a5).ok then (bif (decide ((0 : Int) ≤ (1 : Int)) && decide ((1 : Int) < (a1.length : Int))) then (bif (m_rise_Windows a0 (a1.getD 1 (ET.z .site)) a2 a3 (w64 (a3 + a4)) a5).ok then (bif (Nat.blt 0 2 && Nat.ble 2 a1.length) then (bif (m_rise_All a0 (a1.take 2) a2 a3 (w64 (a3 + a4)) a5).ok then (bif (m_rise_Meet ((m_rise_Windows a0 (a1.getD 0 (ET.z .site)) a2 a3 (w64 (a3 + a4)) a5).r0) ((m_rise_Windows a0 (a1.getD 1 (ET.z .site)) a2 a3 (w64 (a3 + a4)) a5).r0)).ok then (bif ((m_rise_Windows a0 (a1.getD 0 (ET.z .site)) a2 a3 (w64 (a3 + a4)) a5).r1 != (0 : Int)) then ⟨true, false⟩ else (bif ((m_rise_Windows a0 (a1.getD 1 (ET.z .site)) a2 a3 (w64 (a3 + a4)) a5).r1 != (0 : Int)) then ⟨true, false⟩ else (bif ((m_rise_All a0 (a1.take 2) a2 a3 (w64 (a3 + a4)) a5).r1 != (0 : Int)) then ⟨true, false⟩ else (bif ((m_rise_Meet ((m_rise_Windows a0 (a1.getD 0 (ET.z .site)) a2 a3 (w64 (a3 + a4)) a5).r0) ((m_rise_Windows a0 (a1.getD 1 (ET.z .site)) a2 a3 (w64 (a3 + a4)) a5).r0)).r1 != (0 : Int)) then ⟨true, false⟩ else (bif (m_Q7_Same ((m_rise_All a0 (a1.take 2) a2 a3 (w64 (a3 + a4)) a5).r0) ((m_rise_Meet ((m_rise_Windows a0 (a1.getD 0 (ET.z .site)) a2 a3 (w64 (a3 + a4)) a5).r0) ((m_rise_Windows a0 (a1.getD 1 (ET.z .site)) a2 a3 (w64 (a3 + a4)) a5).r0)).r0)).ok then (bif (!(m_Q7_Same ((m_rise_All a0 (a1.take 2) a2 a3 (w64 (a3 + a4)) a5).r0) ((m_rise_Meet ((m_rise_Windows a0 (a1.getD 0 (ET.z .site)) a2 a3 (w64 (a3 + a4)) a5).r0) ((m_rise_Windows a0 (a1.getD 1 (ET.z .site)) a2 a3 (w64 (a3 + a4)) a5).r0)).r0)).r0) then ⟨true, false⟩ else (bif (m_rise_Next ((m_rise_Meet ((m_rise_Windows a0 (a1.getD 0 (ET.z .site)) a2 a3 (w64 (a3 + a4)) a5).r0) ((m_rise_Windows a0 (a1.getD 1 (ET.z .site)) a2 a3 (w64 (a3 + a4)) a5).r0)).r0) a3 a6).ok then (bif Nat.beq (lp_W7_RiseTogether_0 a3 a4 a6 ((m_rise_Next ((m_rise_Meet ((m_rise_Windows a0 (a1.getD 0 (ET.z .site)) a2 a3 (w64 (a3 + a4)) a5).r0) ((m_rise_Windows a0 (a1.getD 1 (ET.z .site)) a2 a3 (w64 (a3 + a4)) a5).r0)).r0) a3 a6).r0) ((m_rise_Next ((m_rise_Meet ((m_rise_Windows a0 (a1.getD 0 (ET.z .site)) a2 a3 (w64 (a3 + a4)) a5).r0) ((m_rise_Windows a0 (a1.getD 1 (ET.z .site)) a2 a3 (w64 (a3 + a4)) a5).r0)).r0) a3 a6).r1) a1 a2 ((m_rise_Meet ((m_rise_Windows a0 (a1.getD 0 (ET.z .site)) a2 a3 (w64 (a3 + a4)) a5).r0) ((m_rise_Windows a0 (a1.getD 1 (ET.z .site)) a2 a3 (w64 (a3 + a4)) a5).r0)).r0) a3).k 0 then ⟨true, (m_W7_alive).r0⟩ else (bif Nat.beq (lp_W7_RiseTogether_0 a3 a4 a6 ((m_rise_Next ((m_rise_Meet ((m_rise_Windows a0 (a1.getD 0 (ET.z .site)) a2 a3 (w64 (a3 + a4)) a5).r0) ((m_rise_Windows a0 (a1.getD 1 (ET.z .site)) a2 a3 (w64 (a3 + a4)) a5).r0)).r0) a3 a6).r0) ((m_rise_Next ((m_rise_Meet ((m_rise_Windows a0 (a1.getD 0 (ET.z .site)) a2 a3 (w64 (a3 + a4)) a5).r0) ((m_rise_Windows a0 (a1.getD 1 (ET.z .site)) a2 a3 (w64 (a3 + a4)) a5).r0)).r0) a3 a6).r1) a1 a2 ((m_rise_Meet ((m_rise_Windows a0 (a1.getD 0 (ET.z .site)) a2 a3 (w64 (a3 + a4)) a5).r0) ((m_rise_Windows a0 (a1.getD 1 (ET.z .site)) a2 a3 (w64 (a3 + a4)) a5).r0)).r0) a3).k 1 then ⟨true, false⟩ else (bif Nat.beq (lp_W7_RiseTogether_0 a3 a4 a6 ((m_rise_Next ((m_rise_Meet ((m_rise_Windows a0 (a1.getD 0 (ET.z .site)) a2 a3 (w64 (a3 + a4)) a5).r0) ((m_rise_Windows a0 (a1.getD 1 (ET.z .site)) a2 a3 (w64 (a3 + a4)) a5).r0)).r0) a3 a6).r0) ((m_rise_Next ((m_rise_Meet ((m_rise_Windows a0 (a1.getD 0 (ET.z .site)) a2 a3 (w64 (a3 + a4)) a5).r0) ((m_rise_Windows a0 (a1.getD 1 (ET.z .site)) a2 a3 (w64 (a3 + a4)) a5).r0)).r0) a3 a6).r1) a1 a2 ((m_rise_Meet ((m_rise_Windows a0 (a1.getD 0 (ET.z .site)) a2 a3 (w64 (a3 + a4)) a5).r0) ((m_rise_Windows a0 (a1.getD 1 (ET.z .site)) a2 a3 (w64 (a3 + a4)) a5).r0)).r0) a3).k 2 then (bif (((m_rise_Next ((m_rise_Meet ((m_rise_Windows a0 (a1.getD 0 (ET.z .site)) a2 a3 (w64 (a3 + a4)) a5).r0) ((m_rise_Windows a0 (a1.getD 1 (ET.z .site)) a2 a3 (w64 (a3 + a4)) a5).r0)).r0) a3 a6).r1) == (6 : Int)) then (bif ((checkSrc ⟨a2.name, a2.ra, a2.dec⟩) == (0 : Int)) then (bif (m_W7_alive).ok then ⟨true, (m_W7_alive).r0⟩ else ⟨false, false⟩) else ⟨true, false⟩) else ⟨true, false⟩) else ⟨false, false⟩))) else ⟨false, false⟩)) else ⟨false, false⟩))))) else ⟨false, false⟩) else ⟨false, false⟩) else ⟨false, false⟩) else ⟨false, false⟩) else ⟨false, false⟩) else ⟨false, false⟩) else ⟨false, false⟩))))))) else ⟨false, false⟩
def F_W7_RiseTogether (_a0 : Globe) (a1 : List Site) (_a2 : Source) (_a3 : Int) (_a4 : Int) (_a5 : Frac) (_a6 : Int) (K : AV → List Blk → Ans) (r : O_W7_RiseTogether) : Ans := bif r.ok then K (.v (.c (.d (.bool r.r0)))) [.arr none .site a1] else none
theorem e_W7_RiseTogether (a0 : Globe) (a1 : List Site) (a2 : Source) (a3 : Int) (a4 : Int) (a5 : Frac) (a6 : Int) (K : AV → List Blk → Ans) : evFn Tryz.prog GT EQT T_rise_Next XT (orL L_W7_RiseTogether_0 (orL L_W7_RiseTogether_1 noL)) 80 3 [.v (.agg [.int .i64 a0.a, .int .i64 a0.b]), .v (.c (.aslice 0 none)), .v (.agg [.str a2.name, .int .i64 a2.ra, .int .i64 a2.dec]), .v (.c (.d (.int .i64 a3))), .v (.c (.d (.int .i64 a4))), .v (.agg [.int .i64 a5.num, .int .i64 a5.den]), .v (.c (.d (.int .i64 a6)))] [.arr none .site a1] (fun v M => K (finR 1 v M).1 (finR 1 v M).2) = F_W7_RiseTogether a0 a1 a2 a3 a4 a5 a6 K (m_W7_RiseTogether a0 a1 a2 a3 a4 a5 a6) := by
  unfold m_W7_RiseTogether
  refine Eq.trans ?_ (Eq.symm (pushT (pushT (pushT rfl rfl) (pushT (pushT rfl rfl) (pushT (pushT rfl rfl) (pushT (pushT rfl rfl) (pushT (pushT rfl rfl) (pushT (pushT rfl rfl) (pushT (pushT (pushT (pushT (pushT (pushT (pushT (pushT rfl (pushT rfl (pushT rfl (pushT rfl (pushT (pushT rfl (pushT (pushT rfl (pushT rfl (pushT (pushT (pushT (pushT rfl rfl) rfl) rfl) rfl))) rfl)) rfl))))) rfl) rfl) rfl) rfl) rfl) rfl) rfl))))))) rfl))
  kernel_rfl
theorem lok_W7_RiseTogether : ∀ fn c, Tryz.prog.funcs[3]? = some fn → fn.body = some c → LOKn Tryz.prog GT gbT 1 (orL L_W7_RiseTogether_0 (orL L_W7_RiseTogether_1 noL)) (loopsIn c) := by
  refine LOKn.ofF fun b hb => ?_
  have e : loopsF Tryz.prog 3 = [loopB Tryz.prog 3 0, loopB Tryz.prog 3 1] := by kernel_rfl
  rw [e] at hb
  simp only [List.mem_cons, List.not_mem_nil, or_false] at hb
  rcases hb with rfl | rfl
  · exact (LOKbn.or k_W7_RiseTogether_0 (LOKbn.or (LOKbn.lamN_other (by kernel_rfl)) (fun _ _ _ _ _ _ _ h => h.elim)))
  · exact (LOKbn.or (LOKbn.lamN_other (by kernel_rfl)) (LOKbn.or k_W7_RiseTogether_1 (fun _ _ _ _ _ _ _ h => h.elim)))
theorem c_W7_RiseTogether (a0 : Globe) (a1 : List Site) (a2 : Source) (a3 : Int) (a4 : Int) (a5 : Frac) (a6 : Int) (hd : (m_W7_RiseTogether a0 a1 a2 a3 a4 a5 a6).ok = true) : CallsA Tryz.prog GT gbT 3 [.v (.agg [.int .i64 a0.a, .int .i64 a0.b]), .v (.c (.aslice 0 none)), .v (.agg [.str a2.name, .int .i64 a2.ra, .int .i64 a2.dec]), .v (.c (.d (.int .i64 a3))), .v (.c (.d (.int .i64 a4))), .v (.agg [.int .i64 a5.num, .int .i64 a5.den]), .v (.c (.d (.int .i64 a6)))] [.arr none .site a1] (.v (.c (.d (.bool ((m_W7_RiseTogether a0 a1 a2 a3 a4 a5 a6).r0))))) [.arr none .site a1] := by
  refine CallsA.ofEvR g_rise_Next hEQT hmT (n0 := 1) rfl lok_W7_RiseTogether ((e_W7_RiseTogether a0 a1 a2 a3 a4 a5 a6 (fun v M => some (Res.fin v M))).trans ?_)
  unfold F_W7_RiseTogether
  rw [hd]
  rfl
end Go.Ev

namespace Go.Ev
open Go
theorem run_nextP (l : List Window) (at_ : Int) (L : Nat) (p6 p7 : Int) (hl : l.length ≤ 1000) (hL : L ≤ 100) (hw : ∀ w ∈ l, at_ ≤ w.frm ∧ w.frm < w.too ∧ -2000000 ≤ w.frm ∧ w.too ≤ 2000000) : ∀ (f n : Nat), n ≤ l.length → l.length - n < f →
    (∀ w, longF (l.drop n) (L : Int) = some w → (run_rise_Next_0 at_ (L : Int) p6 p7 (l.length : Int) l f (n : Int)).k = 0 ∧ wAt l (run_rise_Next_0 at_ (L : Int) p6 p7 (l.length : Int) l f (n : Int)).p21.toNat = w) ∧
    (longF (l.drop n) (L : Int) = none → (run_rise_Next_0 at_ (L : Int) p6 p7 (l.length : Int) l f (n : Int)).k = 1) := by
  intro f
  induction f with
  | zero => intro n _ h; omega
  | succ f ih =>
    intro n hn h
    rw [run_rise_Next_0]
    by_cases h1 : n < l.length
    · have hm : wAt l n ∈ l := by
        unfold wAt
        rw [List.getD_eq_getElem?_getD, List.getElem?_eq_getElem h1]
        exact List.getElem_mem h1
      obtain ⟨b1, b2, b3, b4⟩ := hw _ hm
      have es : (if (l.getD n (ET.z .win)).frm > at_ then (l.getD n (ET.z .win)).frm else at_) = (wAt l n).frm := by
        have b1' : at_ ≤ (l.getD n (ET.z .win)).frm := b1
        by_cases c : (l.getD n (ET.z .win)).frm > at_
        · rw [if_pos c]
        · rw [if_neg c]; show at_ = (l.getD n (ET.z .win)).frm; omega
      have el : decide (wu64 (L : Int) ≤ wu64 (wu64 (l.getD n (ET.z .win)).too - wu64 (wAt l n).frm)) = decide ((L : Int) ≤ (wAt l n).too - (wAt l n).frm) := by
        have e1 : wu64 (L : Int) = L := by simp only [wu64, wr]; omega
        have e2 : wu64 (wu64 (wAt l n).too - wu64 (wAt l n).frm) = (wAt l n).too - (wAt l n).frm := by simp only [wu64, wr]; omega
        show decide (wu64 (L : Int) ≤ wu64 (wu64 (wAt l n).too - wu64 (wAt l n).frm)) = _
        rw [e1, e2]
      simp only [nn_t, lt_t h1, Bool.and_self, cond_true, w64_nat (show n < 4611686018427387904 by omega), Int.toNat_natCast, es, el, dec_t (show (wAt l n).frm < (l.getD n (ET.z .win)).too from b2)]
      have ed : longF (l.drop n) (L : Int) = bif decide ((L : Int) ≤ (wAt l n).too - (wAt l n).frm) then some (wAt l n) else longF (l.drop (n + 1)) (L : Int) := by
        rw [drop_cons h1]
        unfold longF
        rw [List.find?_cons]
        cases decide ((L : Int) ≤ (wAt l n).too - (wAt l n).frm) <;> rfl
      rw [ed]
      cases decide ((L : Int) ≤ (wAt l n).too - (wAt l n).frm) with
      | true =>
        simp only [cond_true]
        exact ⟨fun w hw => by cases hw; exact ⟨trivial, rfl⟩, fun h => by cases h⟩
      | false =>
        simp only [cond_false]
        exact ih (n + 1) (by omega) (by omega)
    · simp only [lt_f h1, cond_false]
      rw [List.drop_eq_nil_of_le (by omega)]
      exact ⟨fun w hw => by simp [longF] at hw, fun _ => by trivial⟩
theorem m_nextP (l : List Window) (at_ : Int) (L : Nat) (hl : l.length ≤ 1000) (hc : checkW l = 0) (h1 : 1 ≤ L) (hL : L ≤ 100) (hw : ∀ w ∈ l, at_ ≤ w.frm ∧ w.frm < w.too ∧ -2000000 ≤ w.frm ∧ w.too ≤ 2000000) :
    (∀ w, longF l (L : Int) = some w → m_rise_Next l at_ (L : Int) = ⟨true, w.frm, 0⟩) ∧ (longF l (L : Int) = none → m_rise_Next l at_ (L : Int) = ⟨true, 0, 6⟩) := by
  obtain ⟨k1, k2⟩ := run_nextP l at_ L 0 0 hl hL hw (2000 + l.length) 0 (by omega) (by omega)
  rw [show ((0 : Nat) : Int) = 0 from rfl, List.drop_zero] at k1 k2
  unfold m_rise_Next lp_rise_Next_0
  simp only [m_check, hc, cond_true, bne_self_eq_false, cond_false, dec_f (show ¬ (L : Int) < 1 by omega)]
  refine ⟨fun w h => ?_, fun h => ?_⟩
  · obtain ⟨e1, e2⟩ := k1 w h
    have hm : w ∈ l := List.mem_of_find?_eq_some h
    have hb := (hw w hm).1
    rw [e1]
    have e3 : (l.getD (run_rise_Next_0 at_ (L : Int) 0 0 (l.length : Int) l (2000 + l.length) 0).p21.toNat (ET.z .win)) = w := e2
    rw [e3]
    by_cases c : w.frm > at_
    · rw [if_pos c]; rfl
    · rw [if_neg c, show at_ = w.frm by omega]; rfl
  · rw [k2 h]
    rfl
theorem run_tog1 (fr many at_ e t : Int) (L : Nat) (l : List Site) (s : Source) (m : List Window) (hm : m.length ≤ 1000) (hL : L ≤ 100) (ht : -2000000 ≤ t ∧ t ≤ 2000000) : ∀ (f k : Nat) (b : Bool), k ≤ L → L - k < f →
    (run_W7_RiseTogether_1 fr many (L : Int) at_ e t l s m f b (k : Int)).k = 0 ∧ (run_W7_RiseTogether_1 fr many (L : Int) at_ e t l s m f b (k : Int)).p26 = (b && (List.range' k (L - k)).all fun j => hasF m (t + j)) := by
  intro f
  induction f with
  | zero => intro k _ _ h; omega
  | succ f ih =>
    intro k b hk h
    rw [run_W7_RiseTogether_1]
    by_cases h1 : k < L
    · rw [dec_t (show (k : Int) < (L : Int) by omega)]
      cases b with
      | false => exact ⟨rfl, rfl⟩
      | true =>
        have i := ih (k + 1) (hasF m (t + k)) (by omega) (by omega)
        simp only [cond_true, w64_keep (n := t + (k : Int)) (by omega) (by omega), m_has m (t + k) (by omega), w64_nat (show k < 4611686018427387904 by omega)]
        refine ⟨i.1, i.2.trans ?_⟩
        rw [show L - k = (L - (k + 1)) + 1 by omega, List.range'_succ, List.all_cons, Bool.true_and]
    · rw [dec_f (show ¬ (k : Int) < (L : Int) by omega), show L - k = 0 by omega]
      cases b <;> exact ⟨rfl, rfl⟩
theorem lp_tog1 (fr many at_ e t : Int) (L : Nat) (l : List Site) (s : Source) (m : List Window) (hm : m.length ≤ 1000) (hL : L ≤ 100) (ht : -2000000 ≤ t ∧ t ≤ 2000000) :
    (lp_W7_RiseTogether_1 fr many (L : Int) at_ e t l s m true 0).k = 0 ∧ (lp_W7_RiseTogether_1 fr many (L : Int) at_ e t l s m true 0).p26 = wholeW m t L := by
  have h := run_tog1 fr many at_ e t L l s m hm hL ht (2000 + (l.length + m.length)) 0 true (by omega) (by omega)
  rw [show ((0 : Nat) : Int) = 0 from rfl, Bool.true_and, Nat.sub_zero] at h
  exact h
theorem run_tog0 {fr : Int} {N L : Nat} (hf : -900000 ≤ fr ∧ fr ≤ 900000) (hN : N ≤ 60) (hL : L ≤ 100) (l : List Site) (s : Source) (m : List Window) (hm : m.length ≤ 1000) (j : Nat) (hj : j < N) (hw : wholeW m (fr + j) L = true) (hb : ∀ i, i < j → wholeW m (fr + i) L = false) : ∀ (f n : Nat), n ≤ j → j - n < f →
    (run_W7_RiseTogether_0 fr (N : Int) (L : Int) (fr + j) 0 l s m f (fr + n)).k = 0 := by
  intro f
  induction f with
  | zero => intro n _ h; omega
  | succ f ih =>
    intro n hn h
    obtain ⟨e1, e2⟩ := lp_tog1 fr (N : Int) (fr + j) 0 (fr + n) L l s m hm hL (by omega)
    rw [run_W7_RiseTogether_0, w64_keep (n := fr + (N : Int)) (by omega) (by omega), dec_t (show fr + (n : Int) < fr + N by omega), e1, e2]
    by_cases c : n = j
    · subst c
      rw [hw, beq_self_eq_true, beq_self_eq_true, m_alive]
      rfl
    · rw [hb n (by omega)]
      simp only [show Nat.beq 0 0 = true from rfl, cond_true, cond_false]
      rw [show w64 (fr + (n : Int) + 1) = fr + ((n + 1 : Nat) : Int) by rw [w64_keep (by omega) (by omega)]; omega]
      exact ih (n + 1) (by omega) (by omega)
theorem run_tog0n {fr : Int} {N L : Nat} (hf : -900000 ≤ fr ∧ fr ≤ 900000) (hN : N ≤ 60) (hL : L ≤ 100) (l : List Site) (s : Source) (m : List Window) (hm : m.length ≤ 1000) (a e : Int) (hb : ∀ i, i < N → wholeW m (fr + i) L = false) : ∀ (f n : Nat), n ≤ N → N - n < f →
    (run_W7_RiseTogether_0 fr (N : Int) (L : Int) a e l s m f (fr + n)).k = 2 := by
  intro f
  induction f with
  | zero => intro n _ h; omega
  | succ f ih =>
    intro n hn h
    obtain ⟨e1, e2⟩ := lp_tog1 fr (N : Int) a e (fr + n) L l s m hm hL (by omega)
    rw [run_W7_RiseTogether_0, w64_keep (n := fr + (N : Int)) (by omega) (by omega)]
    by_cases c : n < N
    · rw [dec_t (show fr + (n : Int) < fr + N by omega), e1, e2, hb n c]
      simp only [show Nat.beq 0 0 = true from rfl, cond_true, cond_false]
      rw [show w64 (fr + (n : Int) + 1) = fr + ((n + 1 : Nat) : Int) by rw [w64_keep (by omega) (by omega)]; omega]
      exact ih (n + 1) (by omega) (by omega)
    · rw [dec_f (show ¬ fr + (n : Int) < fr + N by omega)]
      rfl
theorem look_one {g : Globe} {l : List Site} {s : Source} {lim : Frac} (h : lookE g l s lim = 0) {x : Site} (hx : x ∈ l) : lookE g [x] s lim = 0 := by
  have f := fine h
  have hp := check_parts f.c
  have hs := stations_ok hp.2
  have c : checkA g [x] = 0 := by
    unfold checkA
    rw [hp.1, show stationsE [x] = 0 by unfold stationsE; simp [hs.2 x hx]]
    rfl
  unfold lookE at h ⊢
  rw [f.c] at h
  rw [c]
  exact h
theorem look_two {g : Globe} {x y : Site} {r : List Site} {s : Source} {lim : Frac} (h : lookE g (x :: y :: r) s lim = 0) : lookE g [x, y] s lim = 0 := by
  have f := fine h
  have hp := check_parts f.c
  have hs := stations_ok hp.2
  have hd : dupL g (x :: y :: r) = false := by
    have := f.c
    unfold checkA at this
    rw [hp.1, hp.2] at this
    cases hd : dupL g (x :: y :: r) with
    | false => rfl
    | true => rw [hd] at this; cases this
  have h01 : dupAt (placedL g (x :: y :: r)) 0 1 = false := by
    cases k : dupAt (placedL g (x :: y :: r)) 0 1 with
    | false => rfl
    | true =>
      unfold dupL at hd
      rw [dupP_true (i := 0) (j := 1) (by omega) (by rw [placedL_len]; simp) k] at hd
      cases hd
  have hd2 : dupL g [x, y] = false := by
    have e : dupAt (placedL g [x, y]) 0 1 = dupAt (placedL g (x :: y :: r)) 0 1 := rfl
    have e2 : dupP (placedL g [x, y]) = ((dupAt (placedL g [x, y]) 0 1 || false) || false) := rfl
    unfold dupL
    rw [e2, e, h01]
    rfl
  have c : checkA g [x, y] = 0 := by
    unfold checkA
    rw [hp.1, hd2, show stationsE [x, y] = 0 by unfold stationsE; simp [hs.2 x (by simp), hs.2 y (by simp)]]
    rfl
  unfold lookE at h ⊢
  rw [f.c] at h
  rw [c]
  exact h
theorem up_two (g : Globe) (x y : Site) (s : Source) (fr : Int) (lim : Frac) : upN g [x, y] s fr lim = fun k => upN g [x] s fr lim k && upN g [y] s fr lim k := by
  funext k
  unfold upN upAll viewsL
  simp
theorem law_RiseTogether (g : Globe) (l : List Site) (s : Source) (fr many : Int) (lim : Frac) (length : Int) (_ : ∀ d ∈ [D.int .i64 g.a, .int .i64 g.b], d.ok) (hl : (∀ d ∈ ET.flat .site l, d.ok) ∧ l.length ≤ maxLen) (_ : ∀ d ∈ [D.str s.name, .int .i64 s.ra, .int .i64 s.dec], d.ok) (_ : IntKind.i64.has fr) (_ : IntKind.i64.has many) (_ : ∀ d ∈ [D.int .i64 lim.num, .int .i64 lim.den], d.ok) (_ : IntKind.i64.has length) :
    m_W7_RiseTogether g l s fr many lim length = ⟨true, true⟩ := by
  unfold m_W7_RiseTogether m_rise_Windows
  simp only [m_fit g l s fr lim hl.2, m_alive, m_allW, cond_true]
  cases hf : fit7 g l s fr lim with
  | false => rfl
  | true =>
  obtain ⟨h0, h1⟩ := fit7_ok hf
  by_cases c0 : l.length < 2
  · rw [dec_t (show (l.length : Int) < 2 by omega)]; rfl
  by_cases c1 : many < 0
  · rw [dec_f (show ¬ (l.length : Int) < 2 by omega), dec_t c1]; rfl
  by_cases c2 : 60 < many
  · rw [dec_f (show ¬ (l.length : Int) < 2 by omega), dec_f c1, dec_t c2]; rfl
  by_cases c3 : length < 1
  · rw [dec_f (show ¬ (l.length : Int) < 2 by omega), dec_f c1, dec_f c2, dec_t c3]; rfl
  by_cases c4 : 100 < length
  · rw [dec_f (show ¬ (l.length : Int) < 2 by omega), dec_f c1, dec_f c2, dec_f c3, dec_t c4]; rfl
  rw [dec_f (show ¬ (l.length : Int) < 2 by omega), dec_f c1, dec_f c2, dec_f c3, dec_f c4]
  obtain ⟨N, rfl⟩ := nat_of (show 0 ≤ many by omega)
  obtain ⟨L, rfl⟩ := nat_of (show 0 ≤ length by omega)
  match l, c0, h0 with
  | [], c0, _ => exact absurd (show ([] : List Site).length < 2 by simp) c0
  | [_], c0, _ => exact absurd (show [_].length < 2 by simp) c0
  | x :: y :: r, _, h0 =>
  have hN : N ≤ 60 := by omega
  have ea := all_in (look_one h0 (x := x) (by simp)) h1 hN
  have eb := all_in (look_one h0 (x := y) (by simp)) h1 hN
  have ec := all_in (look_two h0) h1 hN
  have la := winsF_len (upN g [x] s fr lim) fr N
  have lb := winsF_len (upN g [y] s fr lim) fr N
  have lc := winsF_len (upN g [x, y] s fr lim) fr N
  have em : meetW (winsF (upN g [x] s fr lim) fr N) (winsF (upN g [y] s fr lim) fr N) = (winsF (upN g [x, y] s fr lim) fr N, 0) := by
    unfold meetW
    rw [checkW_of (by omega) (wins_good _ fr N), checkW_of (by omega) (wins_good _ fr N), wins_meet, ← up_two, dec_f (by omega)]
    rfl
  have hcs : (checkSrc ⟨s.name, s.ra, s.dec⟩ == 0) = true := by
    have f := (fine h0).cs
    exact beq_iff_eq.2 f
  simp only [w64_keep (n := fr + (N : Int)) (by omega) (by omega), show (x :: y :: r).getD 0 (ET.z .site) = x from rfl, show (x :: y :: r).getD 1 (ET.z .site) = y from rfl, show (x :: y :: r).take 2 = [x, y] from rfl, ea, eb, ec, m_meet, em, m_same _ _ (show (winsF (upN g [x, y] s fr lim) fr N).length < 4611686018427387904 by omega), hcs]
  have kc := checkW_of (l := winsF (upN g [x, y] s fr lim) fr N) (by omega) (wins_good _ fr N)
  have ko := wins_okw (upN g [x, y] s fr lim) fr N
  have kh := winsF_has (upN g [x, y] s fr lim) fr N
  generalize winsF (upN g [x, y] s fr lim) fr N = m at *
  have bound : ∀ w ∈ m, fr ≤ w.frm ∧ w.frm < w.too ∧ w.too ≤ fr + N := by
    intro w hw
    have q := ko.mem w hw
    obtain ⟨k, k1, k2, _⟩ := (kh w.frm).1 (hasF_mem.2 ⟨w, hw, by omega, q⟩)
    obtain ⟨k', k1', k2', _⟩ := (kh (w.too - 1)).1 (hasF_mem.2 ⟨w, hw, by omega, by omega⟩)
    exact ⟨by omega, q, by omega⟩
  have hL : 1 ≤ L ∧ L ≤ 100 := by omega
  obtain ⟨n1, n2⟩ := m_nextP m fr L (by omega) kc hL.1 hL.2 (fun w hw => by have := bound w hw; omega)
  have len2 : decide ((0 : Int) < ((x :: y :: r).length : Int)) = true ∧ decide ((1 : Int) < ((x :: y :: r).length : Int)) = true ∧ Nat.ble 2 (x :: y :: r).length = true := ⟨dec_t (by simp; omega), dec_t (by simp; omega), by rw [Nat.ble_eq]; simp⟩
  rw [len2.1, len2.2.1, len2.2.2]
  cases hlg : longF m (L : Int) with
  | some w =>
    obtain ⟨w1, w2, w3⟩ := long_some ko hlg
    obtain ⟨b1, b2, b3⟩ := bound w w1
    obtain ⟨j, hj⟩ := nat_of (show 0 ≤ w.frm - fr by omega)
    have ew : w.frm = fr + j := by omega
    have run := run_tog0 h1 hN hL.2 (x :: y :: r) s m (by omega) j (by omega) ((whole_iff ko (by omega)).2 ⟨w, w1, by omega, by omega⟩) (fun i hi => by
      cases k : wholeW m (fr + i) L with
      | false => rfl
      | true =>
        obtain ⟨v, v1, v2, v3⟩ := (whole_iff ko (by omega)).1 k
        have := w3 v v1 (by omega)
        omega) (2000 + ((x :: y :: r).length + m.length)) 0 (by omega) (by omega)
    rw [show fr + ((0 : Nat) : Int) = fr by omega, ← ew] at run
    simp only [n1 w hlg, lp_W7_RiseTogether_0, run]
    rfl
  | none =>
    have run := run_tog0n h1 hN hL.2 (x :: y :: r) s m (by omega) 0 6 (fun i hi => by
      cases k : wholeW m (fr + i) L with
      | false => rfl
      | true =>
        obtain ⟨v, v1, v2, v3⟩ := (whole_iff ko (by omega)).1 k
        have := long_none hlg v v1
        omega) (2000 + ((x :: y :: r).length + m.length)) 0 (by omega) (by omega)
    rw [show fr + ((0 : Nat) : Int) = fr by omega] at run
    simp only [n2 hlg, lp_W7_RiseTogether_0, run]
    rfl
end Go.Ev

namespace Go.Ev
open Go Go.ChangeShapes Go.ChangeShapes
theorem laid_frac {P : Program} {w : World} {n : String} {g t : Nat} {f0 f1 : Field} {a b : Int} (hg : P.globalNamed n = some g) (ht : (P.globals[g]?).map (·.type) = some t)
    (hu : P.underlying t = some (.struct #[f0, f1])) (o0 : f0.offset = 0) (o1 : f1.offset = 1) (u0 : P.underlying f0.type = some (.int .i64)) (u1 : P.underlying f1.type = some (.int .i64))
    (c0 : P.cellsOf f0.type = 1) (c1 : P.cellsOf f1.type = 1) (c : P.cellsOf t = 2) {r : List (String × DataW Unit)} {ps : List MemPlace}
    (h : DataW.LaidVars P w ((n, .agg [.lit (.int .i64 a), .lit (.int .i64 b)]) :: r) ps) :
    (w.cell? ⟨g, 0, none⟩ = some (.int .i64 a) ∧ w.cell? ⟨g, 1, none⟩ = some (.int .i64 b)) ∧ ∃ q, DataW.LaidVars P w r q := by
  obtain ⟨g', t', cs, fuel, p, q, hg', ht', hv, hd, hr, _⟩ := h
  obtain rfl := Option.some.inj (hg.symm.trans hg')
  obtain rfl := Option.some.inj (ht.symm.trans ht')
  obtain ⟨y0, y1, m, e, hl, h0, h1⟩ := trod_struct2 hu hd
  simp only [Prod.mk.injEq, DataW.agg.injEq, List.cons.injEq, and_true] at e
  obtain ⟨x0, e0, z0, _⟩ := DataW.trod_int u0 h0
  obtain ⟨x1, e1, z1, _⟩ := DataW.trod_int u1 h1
  subst z0 z1
  simp only [DataW.lit.injEq, Lit.int.injEq, true_and] at e
  obtain ⟨⟨rfl, rfl⟩, _⟩ := e
  rw [o0, c0] at e0
  rw [o1, c1] at e1
  obtain ⟨l⟩ := cs
  have k0 := World.var?_cell hg hv 0
  have k1 := World.var?_cell hg hv 1
  match l, hl, e0, e1 with
  | [c0', c1'], _, e0, e1 =>
    simp at e0 e1
    subst e0 e1
    exact ⟨⟨by simpa using k0, by simpa using k1⟩, q, hr⟩
  | [], hl, _, _ => rw [c] at hl; simp at hl
  | [_], hl, _, _ => rw [c] at hl; simp at hl
  | _ :: _ :: _ :: _, hl, _, _ => rw [c] at hl; simp at hl
end Go.Ev

