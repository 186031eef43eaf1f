/-
  Plain functions that mirror functions of the program, and that it computes them. No condition beyond those of the statements.
-/
import Derived.Test.YtdmmnpgkidghnaaMtB
namespace Go.Ev
open Go Go.Proofs

structure R_rise_Meet_0 where
  k : Nat
  p9 : Int
  p10 : Int
  m2 : List Window

def run_rise_Meet_0 (m0 : List Window) (m1 : List Window) : Nat → Int → Int → List Window → R_rise_Meet_0
  | 0, p9, p10, m2 => ⟨1, p9, p10, m2⟩
  | n + 1, p9, p10, m2 => bif decide (p9 < (m0.length : Int)) then (bif decide (p10 < (m1.length : Int)) then (bif (decide ((0 : Int) ≤ p9) && decide (p9 < (m0.length : Int))) then (bif (decide ((0 : Int) ≤ p10) && decide (p10 < (m1.length : Int))) then (bif (decide ((0 : Int) ≤ p9) && decide (p9 < (m0.length : Int))) then (bif (decide ((0 : Int) ≤ p10) && decide (p10 < (m1.length : Int))) then (bif decide ((if (m1.getD p10.toNat (ET.z .win)).frm > (m0.getD p9.toNat (ET.z .win)).frm then (m1.getD p10.toNat (ET.z .win)).frm else (m0.getD p9.toNat (ET.z .win)).frm) < (if (m1.getD p10.toNat (ET.z .win)).too < (m0.getD p9.toNat (ET.z .win)).too then (m1.getD p10.toNat (ET.z .win)).too else (m0.getD p9.toNat (ET.z .win)).too)) then (bif (([⟨(if (m1.getD p10.toNat (ET.z .win)).frm > (m0.getD p9.toNat (ET.z .win)).frm then (m1.getD p10.toNat (ET.z .win)).frm else (m0.getD p9.toNat (ET.z .win)).frm), (if (m1.getD p10.toNat (ET.z .win)).too < (m0.getD p9.toNat (ET.z .win)).too then (m1.getD p10.toNat (ET.z .win)).too else (m0.getD p9.toNat (ET.z .win)).too)⟩] : List Window).length == 0) then (bif (decide ((0 : Int) ≤ p9) && decide (p9 < (m0.length : Int))) then (bif (decide ((0 : Int) ≤ p10) && decide (p10 < (m1.length : Int))) then (bif decide ((m0.getD p9.toNat (ET.z .win)).too < (m1.getD p10.toNat (ET.z .win)).too) then run_rise_Meet_0 m0 m1 n (w64 (p9 + (1 : Int))) p10 m2 else run_rise_Meet_0 m0 m1 n p9 (w64 (p10 + (1 : Int))) m2) else ⟨1, p9, p10, m2⟩) else ⟨1, p9, p10, m2⟩) else (bif (Nat.blt 0 2 && ((2 == 2) && ((2 == 2) && (Nat.ble (m2.length + ([⟨(if (m1.getD p10.toNat (ET.z .win)).frm > (m0.getD p9.toNat (ET.z .win)).frm then (m1.getD p10.toNat (ET.z .win)).frm else (m0.getD p9.toNat (ET.z .win)).frm), (if (m1.getD p10.toNat (ET.z .win)).too < (m0.getD p9.toNat (ET.z .win)).too then (m1.getD p10.toNat (ET.z .win)).too else (m0.getD p9.toNat (ET.z .win)).too)⟩] : List Window).length) roomD && Nat.ble 16 4096)))) then (bif (decide ((0 : Int) ≤ p9) && decide (p9 < (m0.length : Int))) then (bif (decide ((0 : Int) ≤ p10) && decide (p10 < (m1.length : Int))) then (bif decide ((m0.getD p9.toNat (ET.z .win)).too < (m1.getD p10.toNat (ET.z .win)).too) then run_rise_Meet_0 m0 m1 n (w64 (p9 + (1 : Int))) p10 (m2 ++ ([⟨(if (m1.getD p10.toNat (ET.z .win)).frm > (m0.getD p9.toNat (ET.z .win)).frm then (m1.getD p10.toNat (ET.z .win)).frm else (m0.getD p9.toNat (ET.z .win)).frm), (if (m1.getD p10.toNat (ET.z .win)).too < (m0.getD p9.toNat (ET.z .win)).too then (m1.getD p10.toNat (ET.z .win)).too else (m0.getD p9.toNat (ET.z .win)).too)⟩] : List Window)) else run_rise_Meet_0 m0 m1 n p9 (w64 (p10 + (1 : Int))) (m2 ++ ([⟨(if (m1.getD p10.toNat (ET.z .win)).frm > (m0.getD p9.toNat (ET.z .win)).frm then (m1.getD p10.toNat (ET.z .win)).frm else (m0.getD p9.toNat (ET.z .win)).frm), (if (m1.getD p10.toNat (ET.z .win)).too < (m0.getD p9.toNat (ET.z .win)).too then (m1.getD p10.toNat (ET.z .win)).too else (m0.getD p9.toNat (ET.z .win)).too)⟩] : List Window))) else ⟨1, p9, p10, m2⟩) else ⟨1, p9, p10, m2⟩) else ⟨1, p9, p10, m2⟩)) else (bif (decide ((0 : Int) ≤ p9) && decide (p9 < (m0.length : Int))) then (bif (decide ((0 : Int) ≤ p10) && decide (p10 < (m1.length : Int))) then (bif decide ((m0.getD p9.toNat (ET.z .win)).too < (m1.getD p10.toNat (ET.z .win)).too) then run_rise_Meet_0 m0 m1 n (w64 (p9 + (1 : Int))) p10 m2 else run_rise_Meet_0 m0 m1 n p9 (w64 (p10 + (1 : Int))) m2) else ⟨1, p9, p10, m2⟩) else ⟨1, p9, p10, m2⟩)) else ⟨1, p9, p10, m2⟩) else ⟨1, p9, p10, m2⟩) else ⟨1, p9, p10, m2⟩) else ⟨1, p9, p10, m2⟩) else ⟨0, p9, p10, m2⟩) else ⟨0, p9, p10, m2⟩

def lp_rise_Meet_0 (m0 : List Window) (m1 : List Window) (p9 : Int) (p10 : Int) (m2 : List Window) : R_rise_Meet_0 := run_rise_Meet_0 m0 m1 (2000 + (m0.length + m1.length + m2.length)) p9 p10 m2

abbrev H_rise_Meet_0 (m0 : List Window) (m1 : List Window) (p9 : Int) (p10 : Int) (m2 : List Window) : TS := headT [0, 1, 8, 9, 10] 83 [.v (.c (.aslice 0 none)), .v (.c (.aslice 1 none)), .v (.c (.aslice 2 none)), .v (.c (.d (.int .i64 p9))), .v (.c (.d (.int .i64 p10)))]

set_option maxRecDepth 100000 in
theorem b_rise_Meet_0 (m0 : List Window) (m1 : List Window) (p9 : Int) (p10 : Int) (m2 : List Window) : evCode Try.prog GT EQT T_fringeref07_Check XT noL 80 (loopB Try.prog 10 0) (H_rise_Meet_0 m0 m1 p9 p10 m2) [.arr none .win m0, .arr none .win m1, .arr (some 53) .win m2] 3 (normK 2 [0, 1, 8, 9, 10]) =
    bif decide (p9 < (m0.length : Int)) then (bif decide (p10 < (m1.length : Int)) then (bif (decide ((0 : Int) ≤ p9) && decide (p9 < (m0.length : Int))) then (bif (decide ((0 : Int) ≤ p10) && decide (p10 < (m1.length : Int))) then (bif (decide ((0 : Int) ≤ p9) && decide (p9 < (m0.length : Int))) then (bif (decide ((0 : Int) ≤ p10) && decide (p10 < (m1.length : Int))) then (bif decide ((if (m1.getD p10.toNat (ET.z .win)).frm > (m0.getD p9.toNat (ET.z .win)).frm then (m1.getD p10.toNat (ET.z .win)).frm else (m0.getD p9.toNat (ET.z .win)).frm) < (if (m1.getD p10.toNat (ET.z .win)).too < (m0.getD p9.toNat (ET.z .win)).too then (m1.getD p10.toNat (ET.z .win)).too else (m0.getD p9.toNat (ET.z .win)).too)) then (bif (([⟨(if (m1.getD p10.toNat (ET.z .win)).frm > (m0.getD p9.toNat (ET.z .win)).frm then (m1.getD p10.toNat (ET.z .win)).frm else (m0.getD p9.toNat (ET.z .win)).frm), (if (m1.getD p10.toNat (ET.z .win)).too < (m0.getD p9.toNat (ET.z .win)).too then (m1.getD p10.toNat (ET.z .win)).too else (m0.getD p9.toNat (ET.z .win)).too)⟩] : List Window).length == 0) then (bif (decide ((0 : Int) ≤ p9) && decide (p9 < (m0.length : Int))) then (bif (decide ((0 : Int) ≤ p10) && decide (p10 < (m1.length : Int))) then (bif decide ((m0.getD p9.toNat (ET.z .win)).too < (m1.getD p10.toNat (ET.z .win)).too) then some (.st .normal (headT [0, 1, 8, 9, 10] 83 [.v (.c (.aslice 0 none)), .v (.c (.aslice 1 none)), .v (.c (.aslice 2 none)), .v (.c (.d (.int .i64 (w64 (p9 + (1 : Int)))))), .v (.c (.d (.int .i64 p10)))]) [.arr none .win m0, .arr none .win m1, .arr (some 53) .win m2] 3) else some (.st .normal (headT [0, 1, 8, 9, 10] 83 [.v (.c (.aslice 0 none)), .v (.c (.aslice 1 none)), .v (.c (.aslice 2 none)), .v (.c (.d (.int .i64 p9))), .v (.c (.d (.int .i64 (w64 (p10 + (1 : Int))))))]) [.arr none .win m0, .arr none .win m1, .arr (some 53) .win m2] 3)) else none) else none) else (bif (Nat.blt 0 2 && ((2 == 2) && ((2 == 2) && (Nat.ble (m2.length + ([⟨(if (m1.getD p10.toNat (ET.z .win)).frm > (m0.getD p9.toNat (ET.z .win)).frm then (m1.getD p10.toNat (ET.z .win)).frm else (m0.getD p9.toNat (ET.z .win)).frm), (if (m1.getD p10.toNat (ET.z .win)).too < (m0.getD p9.toNat (ET.z .win)).too then (m1.getD p10.toNat (ET.z .win)).too else (m0.getD p9.toNat (ET.z .win)).too)⟩] : List Window).length) roomD && Nat.ble 16 4096)))) then (bif (decide ((0 : Int) ≤ p9) && decide (p9 < (m0.length : Int))) then (bif (decide ((0 : Int) ≤ p10) && decide (p10 < (m1.length : Int))) then (bif decide ((m0.getD p9.toNat (ET.z .win)).too < (m1.getD p10.toNat (ET.z .win)).too) then some (.st .normal (headT [0, 1, 8, 9, 10] 83 [.v (.c (.aslice 0 none)), .v (.c (.aslice 1 none)), .v (.c (.aslice 2 none)), .v (.c (.d (.int .i64 (w64 (p9 + (1 : Int)))))), .v (.c (.d (.int .i64 p10)))]) [.arr none .win m0, .arr none .win m1, .arr (some 53) .win (m2 ++ ([⟨(if (m1.getD p10.toNat (ET.z .win)).frm > (m0.getD p9.toNat (ET.z .win)).frm then (m1.getD p10.toNat (ET.z .win)).frm else (m0.getD p9.toNat (ET.z .win)).frm), (if (m1.getD p10.toNat (ET.z .win)).too < (m0.getD p9.toNat (ET.z .win)).too then (m1.getD p10.toNat (ET.z .win)).too else (m0.getD p9.toNat (ET.z .win)).too)⟩] : List Window))] 3) else some (.st .normal (headT [0, 1, 8, 9, 10] 83 [.v (.c (.aslice 0 none)), .v (.c (.aslice 1 none)), .v (.c (.aslice 2 none)), .v (.c (.d (.int .i64 p9))), .v (.c (.d (.int .i64 (w64 (p10 + (1 : Int))))))]) [.arr none .win m0, .arr none .win m1, .arr (some 53) .win (m2 ++ ([⟨(if (m1.getD p10.toNat (ET.z .win)).frm > (m0.getD p9.toNat (ET.z .win)).frm then (m1.getD p10.toNat (ET.z .win)).frm else (m0.getD p9.toNat (ET.z .win)).frm), (if (m1.getD p10.toNat (ET.z .win)).too < (m0.getD p9.toNat (ET.z .win)).too then (m1.getD p10.toNat (ET.z .win)).too else (m0.getD p9.toNat (ET.z .win)).too)⟩] : List Window))] 3)) else none) else none) else none)) else (bif (decide ((0 : Int) ≤ p9) && decide (p9 < (m0.length : Int))) then (bif (decide ((0 : Int) ≤ p10) && decide (p10 < (m1.length : Int))) then (bif decide ((m0.getD p9.toNat (ET.z .win)).too < (m1.getD p10.toNat (ET.z .win)).too) then some (.st .normal (headT [0, 1, 8, 9, 10] 83 [.v (.c (.aslice 0 none)), .v (.c (.aslice 1 none)), .v (.c (.aslice 2 none)), .v (.c (.d (.int .i64 (w64 (p9 + (1 : Int)))))), .v (.c (.d (.int .i64 p10)))]) [.arr none .win m0, .arr none .win m1, .arr (some 53) .win m2] 3) else some (.st .normal (headT [0, 1, 8, 9, 10] 83 [.v (.c (.aslice 0 none)), .v (.c (.aslice 1 none)), .v (.c (.aslice 2 none)), .v (.c (.d (.int .i64 p9))), .v (.c (.d (.int .i64 (w64 (p10 + (1 : Int))))))]) [.arr none .win m0, .arr none .win m1, .arr (some 53) .win m2] 3)) else none) else none)) else none) else none) else none) else none) else some (.st (.exit 0) (headT [0, 1, 8, 9, 10] 83 [.v (.c (.aslice 0 none)), .v (.c (.aslice 1 none)), .v (.c (.aslice 2 none)), .v (.c (.d (.int .i64 p9))), .v (.c (.d (.int .i64 p10)))]) [.arr none .win m0, .arr none .win m1, .arr (some 53) .win m2] 3)) else some (.st (.exit 0) (headT [0, 1, 8, 9, 10] 83 [.v (.c (.aslice 0 none)), .v (.c (.aslice 1 none)), .v (.c (.aslice 2 none)), .v (.c (.d (.int .i64 p9))), .v (.c (.d (.int .i64 p10)))]) [.arr none .win m0, .arr none .win m1, .arr (some 53) .win m2] 3) := by
  kernel_rfl

def o_rise_Meet_0 (m0 : List Window) (m1 : List Window) (r : R_rise_Meet_0) : LT := .br (Nat.beq r.k 0) (.st (.exit 0) (headT [0, 1, 8, 9, 10] 83 [.v (.c (.aslice 0 none)), .v (.c (.aslice 1 none)), .v (.c (.aslice 2 none)), .v (.c (.d (.int .i64 r.p9))), .v (.c (.d (.int .i64 r.p10)))]) [.arr none .win m0, .arr none .win m1, .arr (some 53) .win r.m2] 3) (.no)

set_option maxRecDepth 100000 in
theorem r_rise_Meet_0 (m0 : List Window) (m1 : List Window) : ∀ (n : Nat) (p9 : Int) (p10 : Int) (m2 : List Window) (x : Ex) (T' : TS) (M' : List Blk) (N' : Nat), LReach (o_rise_Meet_0 m0 m1 (run_rise_Meet_0 m0 m1 n p9 p10 m2)) x T' M' N' → x ≠ .normal ∧ ∃ j, RoundsN Try.prog GT gbT 2 (loopB Try.prog 10 0) j (H_rise_Meet_0 m0 m1 p9 p10 m2) [.arr none .win m0, .arr none .win m1, .arr (some 53) .win m2] 3 x T' M' N' := by
  have hL : LOKn Try.prog GT gbT 2 noL (loopsIn (loopB Try.prog 10 0)) := fun _ _ _ _ _ _ _ _ _ h => h.elim
  intro n
  induction n with
  | zero =>
    intro p9 p10 m2 x T' M' N' hr
    exact False.elim (redF hr)
  | succ n ih =>
    intro p9 p10 m2 x T' M' N'
    rw [run_rise_Meet_0]
    exact viaE (b_rise_Meet_0 m0 m1 p9 p10 m2) (condG (o := o_rise_Meet_0 m0 m1) (condG (o := o_rise_Meet_0 m0 m1) (condG (o := o_rise_Meet_0 m0 m1) (condG (o := o_rise_Meet_0 m0 m1) (condG (o := o_rise_Meet_0 m0 m1) (condG (o := o_rise_Meet_0 m0 m1) (condG (o := o_rise_Meet_0 m0 m1) (condG (o := o_rise_Meet_0 m0 m1) (condG (o := o_rise_Meet_0 m0 m1) (condG (o := o_rise_Meet_0 m0 m1) (condG (o := o_rise_Meet_0 m0 m1) (fun he hr => goN g_fringeref07_Check hEQT hmT hL he (ih (w64 (p9 + (1 : Int))) p10 m2 x T' M' N' hr)) (fun he hr => goN g_fringeref07_Check hEQT hmT hL he (ih p9 (w64 (p10 + (1 : Int))) m2 x T' M' N' hr))) (fun _ hr => False.elim (redF hr))) (fun _ hr => False.elim (redF hr))) (condG (o := o_rise_Meet_0 m0 m1) (condG (o := o_rise_Meet_0 m0 m1) (condG (o := o_rise_Meet_0 m0 m1) (condG (o := o_rise_Meet_0 m0 m1) (fun he hr => goN g_fringeref07_Check hEQT hmT hL he (ih (w64 (p9 + (1 : Int))) p10 (m2 ++ ([⟨(if (m1.getD p10.toNat (ET.z .win)).frm > (m0.getD p9.toNat (ET.z .win)).frm then (m1.getD p10.toNat (ET.z .win)).frm else (m0.getD p9.toNat (ET.z .win)).frm), (if (m1.getD p10.toNat (ET.z .win)).too < (m0.getD p9.toNat (ET.z .win)).too then (m1.getD p10.toNat (ET.z .win)).too else (m0.getD p9.toNat (ET.z .win)).too)⟩] : List Window)) x T' M' N' hr)) (fun he hr => goN g_fringeref07_Check hEQT hmT hL he (ih p9 (w64 (p10 + (1 : Int))) (m2 ++ ([⟨(if (m1.getD p10.toNat (ET.z .win)).frm > (m0.getD p9.toNat (ET.z .win)).frm then (m1.getD p10.toNat (ET.z .win)).frm else (m0.getD p9.toNat (ET.z .win)).frm), (if (m1.getD p10.toNat (ET.z .win)).too < (m0.getD p9.toNat (ET.z .win)).too then (m1.getD p10.toNat (ET.z .win)).too else (m0.getD p9.toNat (ET.z .win)).too)⟩] : List Window)) x T' M' N' hr))) (fun _ hr => False.elim (redF hr))) (fun _ hr => False.elim (redF hr))) (fun _ hr => False.elim (redF hr)))) (condG (o := o_rise_Meet_0 m0 m1) (condG (o := o_rise_Meet_0 m0 m1) (condG (o := o_rise_Meet_0 m0 m1) (fun he hr => goN g_fringeref07_Check hEQT hmT hL he (ih (w64 (p9 + (1 : Int))) p10 m2 x T' M' N' hr)) (fun he hr => goN g_fringeref07_Check hEQT hmT hL he (ih p9 (w64 (p10 + (1 : Int))) m2 x T' M' N' hr))) (fun _ hr => False.elim (redF hr))) (fun _ hr => False.elim (redF hr)))) (fun _ hr => False.elim (redF hr))) (fun _ hr => False.elim (redF hr))) (fun _ hr => False.elim (redF hr))) (fun _ hr => False.elim (redF hr))) (fun he hr => stopN g_fringeref07_Check hEQT hmT hL he (by simp) (redT hr))) (fun he hr => stopN g_fringeref07_Check hEQT hmT hL he (by simp) (redT hr)))

def f_rise_Meet_0 : List AV → List Blk → LT := fun vs Ms => match vs, Ms with
  | [.v (.c (.aslice 0 none)), .v (.c (.aslice 1 none)), .v (.c (.aslice 2 none)), .v (.c (.d (.int .i64 p9))), .v (.c (.d (.int .i64 p10)))], [.arr none .win m0, .arr none .win m1, .arr (some 53) .win m2] => o_rise_Meet_0 m0 m1 (lp_rise_Meet_0 m0 m1 p9 p10 m2)
  | _, _ => .no

def L_rise_Meet_0 := LamN 9 83 2 [0, 1, 8, 9, 10] f_rise_Meet_0

set_option maxRecDepth 100000 in
theorem k_rise_Meet_0 : LOKbn Try.prog GT gbT 2 L_rise_Meet_0 (loopB Try.prog 10 0) := by
  refine LOKbn.lamN (by kernel_rfl) fun vs Ms x T' M' N' hr => ?_
  unfold f_rise_Meet_0 at hr
  split at hr
  · obtain ⟨q1, j, q2⟩ := r_rise_Meet_0 _ _ _ _ _ _ x T' M' N' hr
    exact ⟨q1, j, q2⟩
  · exact hr.elim

structure O_rise_Meet where
  ok : Bool
  r0 : List Window
  r1 : Int

def m_rise_Meet (a0 : List Window) (a1 : List Window) : O_rise_Meet := bif (m_rise_Check a0).ok then (bif ((m_rise_Check a0).r0 != (0 : Int)) then ⟨true, ([] : List Window), (m_rise_Check a0).r0⟩ else (bif (m_rise_Check a1).ok then (bif ((m_rise_Check a1).r0 != (0 : Int)) then ⟨true, ([] : List Window), (m_rise_Check a1).r0⟩ else (bif Nat.beq (lp_rise_Meet_0 a0 a1 (0 : Int) (0 : Int) ([] : List Window)).k 0 then (bif decide ((1000 : Int) < (((lp_rise_Meet_0 a0 a1 (0 : Int) (0 : Int) ([] : List Window)).m2).length : Int)) then ⟨true, ([] : List Window), (4 : Int)⟩ else ⟨true, ((lp_rise_Meet_0 a0 a1 (0 : Int) (0 : Int) ([] : List Window)).m2), (0 : Int)⟩) else ⟨false, [], 0⟩)) else ⟨false, [], 0⟩)) else ⟨false, [], 0⟩

def F_rise_Meet (a0 : List Window) (a1 : List Window) (K : AV → List Blk → Ans) (r : O_rise_Meet) : Ans := bif r.ok then K (.tup [.c (.aslice 2 none), .c (.d (.int .i64 r.r1))]) [.arr none .win a0, .arr none .win a1, .arr (some 53) .win r.r0] else none

set_option maxRecDepth 100000 in
theorem w_rise_Meet (a0 : List Window) (a1 : List Window) (K : AV → List Blk → Ans) : evFn Try.prog GT EQT T_fringeref07_Check XT (orL L_rise_Meet_0 noL) 80 10 [.v (.c (.aslice 0 none)), .v (.c (.aslice 1 none))] [.arr none .win a0, .arr none .win a1] (fun v M => K (finR 2 v M).1 (finR 2 v M).2) =
    bif (m_rise_Check a0).ok then (bif ((m_rise_Check a0).r0 != (0 : Int)) then K (.tup [.c (.aslice 2 none), .c (.d (.int .i64 ((m_rise_Check a0).r0)))]) [.arr none .win a0, .arr none .win a1, .arr (some 53) .win ([] : List Window)] else (bif (m_rise_Check a1).ok then (bif ((m_rise_Check a1).r0 != (0 : Int)) then K (.tup [.c (.aslice 2 none), .c (.d (.int .i64 ((m_rise_Check a1).r0)))]) [.arr none .win a0, .arr none .win a1, .arr (some 53) .win ([] : List Window)] else (bif Nat.beq (lp_rise_Meet_0 a0 a1 (0 : Int) (0 : Int) ([] : List Window)).k 0 then (bif decide ((1000 : Int) < (((lp_rise_Meet_0 a0 a1 (0 : Int) (0 : Int) ([] : List Window)).m2).length : Int)) then K (.tup [.c (.aslice 2 none), .c (.d (.int .i64 (4 : Int)))]) [.arr none .win a0, .arr none .win a1, .arr (some 53) .win ([] : List Window)] else K (.tup [.c (.aslice 2 none), .c (.d (.int .i64 (0 : Int)))]) [.arr none .win a0, .arr none .win a1, .arr (some 53) .win ((lp_rise_Meet_0 a0 a1 (0 : Int) (0 : Int) ([] : List Window)).m2)]) else none)) else none)) else none := by
  kernel_rfl

set_option maxRecDepth 100000 in
/-- rise.Meet -/
theorem e_rise_Meet (a0 : List Window) (a1 : List Window) (K : AV → List Blk → Ans) : evFn Try.prog GT EQT T_fringeref07_Check XT (orL L_rise_Meet_0 noL) 80 10 [.v (.c (.aslice 0 none)), .v (.c (.aslice 1 none))] [.arr none .win a0, .arr none .win a1] (fun v M => K (finR 2 v M).1 (finR 2 v M).2) = F_rise_Meet a0 a1 K (m_rise_Meet a0 a1) := by
  refine (w_rise_Meet a0 a1 K).trans ?_
  unfold m_rise_Meet
  exact (condF (condF rfl (condF (condF rfl (condF (condF rfl rfl) rfl)) rfl)) rfl)

set_option maxRecDepth 100000 in
theorem lok_rise_Meet : ∀ fn c, Try.prog.funcs[10]? = some fn → fn.body = some c → LOKn Try.prog GT gbT 2 (orL L_rise_Meet_0 noL) (loopsIn c) := by
  refine LOKn.ofF fun b hb => ?_
  have e : loopsF Try.prog 10 = [loopB Try.prog 10 0] := by kernel_rfl
  rw [e] at hb
  simp only [List.mem_cons, List.not_mem_nil, or_false] at hb
  subst hb
  exact (LOKbn.or k_rise_Meet_0 (fun _ _ _ _ _ _ _ h => h.elim))


theorem c_rise_Meet (a0 : List Window) (a1 : List Window) (hd : (m_rise_Meet a0 a1).ok = true) : CallsA Try.prog GT gbT 10 [.v (.c (.aslice 0 none)), .v (.c (.aslice 1 none))] [.arr none .win a0, .arr none .win a1] (.tup [.c (.aslice 2 none), .c (.d (.int .i64 ((m_rise_Meet a0 a1).r1)))]) [.arr none .win a0, .arr none .win a1, .arr (some 53) .win ((m_rise_Meet a0 a1).r0)] := by
  refine CallsA.ofEvR g_fringeref07_Check hEQT hmT (n0 := 2) rfl lok_rise_Meet ((e_rise_Meet a0 a1 (fun v M => some (Res.fin v M))).trans ?_)
  unfold F_rise_Meet
  rw [hd]
  rfl

def s_rise_Meet : List AV → List Blk → (AV → List Blk → Ans) → Ans := fun xs bs K => match xs, bs with
  | [.v (.c (.aslice 0 none)), .v (.c (.aslice 1 none))], [.arr none .win a0, .arr none .win a1] => F_rise_Meet a0 a1 K (m_rise_Meet a0 a1)
  | _, _ => none

def T_rise_Meet : Nat → List AV → List Blk → (AV → List Blk → Ans) → Ans := upd T_fringeref07_Check 10 s_rise_Meet

theorem g_rise_Meet : GOK Try.prog GT gbT T_rise_Meet XT := by
  refine GOK.upd g_fringeref07_Check (fun args w => Try.call10 args w) fun xs bs K r h => ?_
  unfold s_rise_Meet at h
  split at h
  · unfold F_rise_Meet at h
    simp only [cond_eq_ite] at h
    split at h
    · rename_i hd
      exact ⟨_, _, c_rise_Meet _ _ hd, h⟩
    · cases h
  · cases h

end Go.Ev
