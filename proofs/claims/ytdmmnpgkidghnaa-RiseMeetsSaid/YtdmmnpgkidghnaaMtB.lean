/-
  Plain functions that mirror functions of the program, and that it computes them. No condition beyond those of the statements.
-/
import Derived.Test.YtdmmnpgkidghnaaMtA
namespace Go.Ev
open Go Go.Proofs

structure R_fringeref07_Check_0 where
  k : Nat
  p3 : Int

def run_fringeref07_Check_0 (p2 : Int) (m0 : List Window) : Nat → Int → R_fringeref07_Check_0
  | 0, p3 => ⟨2, p3⟩
  | n + 1, p3 => bif decide (p3 < (m0.length : Int)) then (bif (decide ((0 : Int) ≤ p3) && decide (p3 < (m0.length : Int))) then (bif (decide ((0 : Int) ≤ p3) && decide (p3 < (m0.length : Int))) then (bif decide ((m0.getD p3.toNat (ET.z .win)).too ≤ (m0.getD p3.toNat (ET.z .win)).frm) then ⟨0, p3⟩ else (bif decide ((0 : Int) < p3) then (bif (decide ((0 : Int) ≤ (w64 (p3 - (1 : Int)))) && decide ((w64 (p3 - (1 : Int))) < (m0.length : Int))) then (bif (decide ((0 : Int) ≤ p3) && decide (p3 < (m0.length : Int))) then (bif decide ((m0.getD p3.toNat (ET.z .win)).frm ≤ (m0.getD ((w64 (p3 - (1 : Int))).toNat) (ET.z .win)).too) then ⟨0, p3⟩ else run_fringeref07_Check_0 p2 m0 n (w64 (p3 + (1 : Int)))) else ⟨2, p3⟩) else ⟨2, p3⟩) else run_fringeref07_Check_0 p2 m0 n (w64 (p3 + (1 : Int))))) else ⟨2, p3⟩) else ⟨2, p3⟩) else ⟨1, p3⟩

def lp_fringeref07_Check_0 (p2 : Int) (m0 : List Window) (p3 : Int) : R_fringeref07_Check_0 := run_fringeref07_Check_0 p2 m0 (2000 + (m0.length)) p3

abbrev H_fringeref07_Check_0 (p2 : Int) (m0 : List Window) (p3 : Int) : TS := headT [0, 2, 3] 42 [.v (.c (.aslice 0 none)), .v (.c (.d (.int .i64 p2))), .v (.c (.d (.int .i64 p3)))]

set_option maxRecDepth 100000 in
theorem b_fringeref07_Check_0 (p2 : Int) (m0 : List Window) (p3 : Int) : evCode Try.prog GT EQT T_rise_Check XT noL 80 (loopB Try.prog 15 0) (H_fringeref07_Check_0 p2 m0 p3) [.arr none .win m0] 1 (normK 1 [0, 2, 3]) =
    bif decide (p3 < (m0.length : Int)) then (bif (decide ((0 : Int) ≤ p3) && decide (p3 < (m0.length : Int))) then (bif (decide ((0 : Int) ≤ p3) && decide (p3 < (m0.length : Int))) then (bif decide ((m0.getD p3.toNat (ET.z .win)).too ≤ (m0.getD p3.toNat (ET.z .win)).frm) then some (.st .ret (headT [0, 2, 3] 42 [.v (.c (.aslice 0 none)), .v (.c (.d (.int .i64 (8 : Int)))), .v (.c (.d (.int .i64 p3)))]) [.arr none .win m0] 1) else (bif decide ((0 : Int) < p3) then (bif (decide ((0 : Int) ≤ (w64 (p3 - (1 : Int)))) && decide ((w64 (p3 - (1 : Int))) < (m0.length : Int))) then (bif (decide ((0 : Int) ≤ p3) && decide (p3 < (m0.length : Int))) then (bif decide ((m0.getD p3.toNat (ET.z .win)).frm ≤ (m0.getD ((w64 (p3 - (1 : Int))).toNat) (ET.z .win)).too) then some (.st .ret (headT [0, 2, 3] 42 [.v (.c (.aslice 0 none)), .v (.c (.d (.int .i64 (8 : Int)))), .v (.c (.d (.int .i64 p3)))]) [.arr none .win m0] 1) else some (.st .normal (headT [0, 2, 3] 42 [.v (.c (.aslice 0 none)), .v (.c (.d (.int .i64 p2))), .v (.c (.d (.int .i64 (w64 (p3 + (1 : Int))))))]) [.arr none .win m0] 1)) else none) else none) else some (.st .normal (headT [0, 2, 3] 42 [.v (.c (.aslice 0 none)), .v (.c (.d (.int .i64 p2))), .v (.c (.d (.int .i64 (w64 (p3 + (1 : Int))))))]) [.arr none .win m0] 1))) else none) else none) else some (.st (.exit 0) (headT [0, 2, 3] 42 [.v (.c (.aslice 0 none)), .v (.c (.d (.int .i64 p2))), .v (.c (.d (.int .i64 p3)))]) [.arr none .win m0] 1) := by
  kernel_rfl

def o_fringeref07_Check_0 (p2 : Int) (m0 : List Window) (r : R_fringeref07_Check_0) : LT := .br (Nat.beq r.k 0) (.st .ret (headT [0, 2, 3] 42 [.v (.c (.aslice 0 none)), .v (.c (.d (.int .i64 (8 : Int)))), .v (.c (.d (.int .i64 r.p3)))]) [.arr none .win m0] 1) (.br (Nat.beq r.k 1) (.st (.exit 0) (headT [0, 2, 3] 42 [.v (.c (.aslice 0 none)), .v (.c (.d (.int .i64 p2))), .v (.c (.d (.int .i64 r.p3)))]) [.arr none .win m0] 1) (.no))

set_option maxRecDepth 100000 in
theorem r_fringeref07_Check_0 (p2 : Int) (m0 : List Window) : ∀ (n : Nat) (p3 : Int) (x : Ex) (T' : TS) (M' : List Blk) (N' : Nat), LReach (o_fringeref07_Check_0 p2 m0 (run_fringeref07_Check_0 p2 m0 n p3)) x T' M' N' → x ≠ .normal ∧ ∃ j, RoundsN Try.prog GT gbT 1 (loopB Try.prog 15 0) j (H_fringeref07_Check_0 p2 m0 p3) [.arr none .win m0] 1 x T' M' N' := by
  have hL : LOKn Try.prog GT gbT 1 noL (loopsIn (loopB Try.prog 15 0)) := fun _ _ _ _ _ _ _ _ _ h => h.elim
  intro n
  induction n with
  | zero =>
    intro p3 x T' M' N' hr
    exact False.elim (redF (redF hr))
  | succ n ih =>
    intro p3 x T' M' N'
    rw [run_fringeref07_Check_0]
    exact viaE (b_fringeref07_Check_0 p2 m0 p3) (condG (o := o_fringeref07_Check_0 p2 m0) (condG (o := o_fringeref07_Check_0 p2 m0) (condG (o := o_fringeref07_Check_0 p2 m0) (condG (o := o_fringeref07_Check_0 p2 m0) (fun he hr => stopN g_rise_Check hEQT hmT hL he (by simp) (redT hr)) (condG (o := o_fringeref07_Check_0 p2 m0) (condG (o := o_fringeref07_Check_0 p2 m0) (condG (o := o_fringeref07_Check_0 p2 m0) (condG (o := o_fringeref07_Check_0 p2 m0) (fun he hr => stopN g_rise_Check hEQT hmT hL he (by simp) (redT hr)) (fun he hr => goN g_rise_Check hEQT hmT hL he (ih (w64 (p3 + (1 : Int))) x T' M' N' hr))) (fun _ hr => False.elim (redF (redF hr)))) (fun _ hr => False.elim (redF (redF hr)))) (fun he hr => goN g_rise_Check hEQT hmT hL he (ih (w64 (p3 + (1 : Int))) x T' M' N' hr)))) (fun _ hr => False.elim (redF (redF hr)))) (fun _ hr => False.elim (redF (redF hr)))) (fun he hr => stopN g_rise_Check hEQT hmT hL he (by simp) (redT (redF hr))))

def f_fringeref07_Check_0 : List AV → List Blk → LT := fun vs Ms => match vs, Ms with
  | [.v (.c (.aslice 0 none)), .v (.c (.d (.int .i64 p2))), .v (.c (.d (.int .i64 p3)))], [.arr none .win m0] => o_fringeref07_Check_0 p2 m0 (lp_fringeref07_Check_0 p2 m0 p3)
  | _, _ => .no

def L_fringeref07_Check_0 := LamN 4 42 1 [0, 2, 3] f_fringeref07_Check_0

set_option maxRecDepth 100000 in
theorem k_fringeref07_Check_0 : LOKbn Try.prog GT gbT 1 L_fringeref07_Check_0 (loopB Try.prog 15 0) := by
  refine LOKbn.lamN (by kernel_rfl) fun vs Ms x T' M' N' hr => ?_
  unfold f_fringeref07_Check_0 at hr
  split at hr
  · obtain ⟨q1, j, q2⟩ := r_fringeref07_Check_0 _ _ _ _ x T' M' N' hr
    exact ⟨q1, j, q2⟩
  · exact hr.elim

structure O_fringeref07_Check where
  ok : Bool
  r0 : Int

def m_fringeref07_Check (a0 : List Window) : O_fringeref07_Check := bif decide ((1000 : Int) < (a0.length : Int)) then ⟨true, (4 : Int)⟩ else (bif Nat.beq (lp_fringeref07_Check_0 (0 : Int) a0 (0 : Int)).k 0 then ⟨true, (8 : Int)⟩ else (bif Nat.beq (lp_fringeref07_Check_0 (0 : Int) a0 (0 : Int)).k 1 then ⟨true, (0 : Int)⟩ else ⟨false, 0⟩))

def F_fringeref07_Check (a0 : List Window) (K : AV → List Blk → Ans) (r : O_fringeref07_Check) : Ans := bif r.ok then K (.v (.c (.d (.int .i64 r.r0)))) [.arr none .win a0] else none

set_option maxRecDepth 100000 in
theorem w_fringeref07_Check (a0 : List Window) (K : AV → List Blk → Ans) : evFn Try.prog GT EQT T_rise_Check XT (orL L_fringeref07_Check_0 noL) 80 15 [.v (.c (.aslice 0 none))] [.arr none .win a0] (fun v M => K (finR 1 v M).1 (finR 1 v M).2) =
    bif decide ((1000 : Int) < (a0.length : Int)) then K (.v (.c (.d (.int .i64 (4 : Int))))) [.arr none .win a0] else (bif Nat.beq (lp_fringeref07_Check_0 (0 : Int) a0 (0 : Int)).k 0 then K (.v (.c (.d (.int .i64 (8 : Int))))) [.arr none .win a0] else (bif Nat.beq (lp_fringeref07_Check_0 (0 : Int) a0 (0 : Int)).k 1 then K (.v (.c (.d (.int .i64 (0 : Int))))) [.arr none .win a0] else none)) := by
  kernel_rfl

set_option maxRecDepth 100000 in
/-- fringeref07.Check -/
theorem e_fringeref07_Check (a0 : List Window) (K : AV → List Blk → Ans) : evFn Try.prog GT EQT T_rise_Check XT (orL L_fringeref07_Check_0 noL) 80 15 [.v (.c (.aslice 0 none))] [.arr none .win a0] (fun v M => K (finR 1 v M).1 (finR 1 v M).2) = F_fringeref07_Check a0 K (m_fringeref07_Check a0) := by
  refine (w_fringeref07_Check a0 K).trans ?_
  unfold m_fringeref07_Check
  exact (condF rfl (condF rfl (condF rfl rfl)))

set_option maxRecDepth 100000 in
theorem lok_fringeref07_Check : ∀ fn c, Try.prog.funcs[15]? = some fn → fn.body = some c → LOKn Try.prog GT gbT 1 (orL L_fringeref07_Check_0 noL) (loopsIn c) := by
  refine LOKn.ofF fun b hb => ?_
  have e : loopsF Try.prog 15 = [loopB Try.prog 15 0] := by kernel_rfl
  rw [e] at hb
  simp only [List.mem_cons, List.not_mem_nil, or_false] at hb
  subst hb
  exact (LOKbn.or k_fringeref07_Check_0 (fun _ _ _ _ _ _ _ h => h.elim))


theorem c_fringeref07_Check (a0 : List Window) (hd : (m_fringeref07_Check a0).ok = true) : CallsA Try.prog GT gbT 15 [.v (.c (.aslice 0 none))] [.arr none .win a0] (.v (.c (.d (.int .i64 ((m_fringeref07_Check a0).r0))))) [.arr none .win a0] := by
  refine CallsA.ofEvR g_rise_Check hEQT hmT (n0 := 1) rfl lok_fringeref07_Check ((e_fringeref07_Check a0 (fun v M => some (Res.fin v M))).trans ?_)
  unfold F_fringeref07_Check
  rw [hd]
  rfl

def s_fringeref07_Check : List AV → List Blk → (AV → List Blk → Ans) → Ans := fun xs bs K => match xs, bs with
  | [.v (.c (.aslice 0 none))], [.arr none .win a0] => F_fringeref07_Check a0 K (m_fringeref07_Check a0)
  | _, _ => none

def T_fringeref07_Check : Nat → List AV → List Blk → (AV → List Blk → Ans) → Ans := upd T_rise_Check 15 s_fringeref07_Check

theorem g_fringeref07_Check : GOK Try.prog GT gbT T_fringeref07_Check XT := by
  refine GOK.upd g_rise_Check (fun args w => Try.call15 args w) fun xs bs K r h => ?_
  unfold s_fringeref07_Check at h
  split at h
  · unfold F_fringeref07_Check at h
    simp only [cond_eq_ite] at h
    split at h
    · rename_i hd
      exact ⟨_, _, c_fringeref07_Check _ hd, h⟩
    · cases h
  · cases h

end Go.Ev
