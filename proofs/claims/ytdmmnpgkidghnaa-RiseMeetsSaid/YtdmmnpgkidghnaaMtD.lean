/-
  Plain functions that mirror functions of the program, and that it computes them. No condition beyond those of the statements.
-/
import Derived.Test.YtdmmnpgkidghnaaMtC
namespace Go.Ev
open Go Go.Proofs

structure R_fringeref07_Meet_1 where
  k : Nat
  p8 : Int
  m2 : List Window

def run_fringeref07_Meet_1 (p7 : Int) (m0 : List Window) (m1 : List Window) : Nat → Int → List Window → R_fringeref07_Meet_1
  | 0, p8, m2 => ⟨1, p8, m2⟩
  | n + 1, p8, m2 => bif decide (p8 < (m1.length : Int)) then (bif (decide ((0 : Int) ≤ p7) && decide (p7 < (m0.length : Int))) then (bif (decide ((0 : Int) ≤ p8) && decide (p8 < (m1.length : Int))) then (bif (decide ((0 : Int) ≤ p7) && decide (p7 < (m0.length : Int))) then (bif (decide ((0 : Int) ≤ p8) && decide (p8 < (m1.length : Int))) then (bif decide ((if (m1.getD p8.toNat (ET.z .win)).frm > (m0.getD p7.toNat (ET.z .win)).frm then (m1.getD p8.toNat (ET.z .win)).frm else (m0.getD p7.toNat (ET.z .win)).frm) < (if (m1.getD p8.toNat (ET.z .win)).too < (m0.getD p7.toNat (ET.z .win)).too then (m1.getD p8.toNat (ET.z .win)).too else (m0.getD p7.toNat (ET.z .win)).too)) then (bif (([⟨(if (m1.getD p8.toNat (ET.z .win)).frm > (m0.getD p7.toNat (ET.z .win)).frm then (m1.getD p8.toNat (ET.z .win)).frm else (m0.getD p7.toNat (ET.z .win)).frm), (if (m1.getD p8.toNat (ET.z .win)).too < (m0.getD p7.toNat (ET.z .win)).too then (m1.getD p8.toNat (ET.z .win)).too else (m0.getD p7.toNat (ET.z .win)).too)⟩] : List Window).length == 0) then run_fringeref07_Meet_1 p7 m0 m1 n (w64 (p8 + (1 : Int))) m2 else (bif (Nat.blt 0 2 && ((2 == 2) && ((2 == 2) && (Nat.ble (m2.length + ([⟨(if (m1.getD p8.toNat (ET.z .win)).frm > (m0.getD p7.toNat (ET.z .win)).frm then (m1.getD p8.toNat (ET.z .win)).frm else (m0.getD p7.toNat (ET.z .win)).frm), (if (m1.getD p8.toNat (ET.z .win)).too < (m0.getD p7.toNat (ET.z .win)).too then (m1.getD p8.toNat (ET.z .win)).too else (m0.getD p7.toNat (ET.z .win)).too)⟩] : List Window).length) roomD && Nat.ble 16 4096)))) then run_fringeref07_Meet_1 p7 m0 m1 n (w64 (p8 + (1 : Int))) (m2 ++ ([⟨(if (m1.getD p8.toNat (ET.z .win)).frm > (m0.getD p7.toNat (ET.z .win)).frm then (m1.getD p8.toNat (ET.z .win)).frm else (m0.getD p7.toNat (ET.z .win)).frm), (if (m1.getD p8.toNat (ET.z .win)).too < (m0.getD p7.toNat (ET.z .win)).too then (m1.getD p8.toNat (ET.z .win)).too else (m0.getD p7.toNat (ET.z .win)).too)⟩] : List Window)) else ⟨1, p8, m2⟩)) else run_fringeref07_Meet_1 p7 m0 m1 n (w64 (p8 + (1 : Int))) m2) else ⟨1, p8, m2⟩) else ⟨1, p8, m2⟩) else ⟨1, p8, m2⟩) else ⟨1, p8, m2⟩) else ⟨0, p8, m2⟩

def lp_fringeref07_Meet_1 (p7 : Int) (m0 : List Window) (m1 : List Window) (p8 : Int) (m2 : List Window) : R_fringeref07_Meet_1 := run_fringeref07_Meet_1 p7 m0 m1 (2000 + (m0.length + m1.length + m2.length)) p8 m2

abbrev H_fringeref07_Meet_1 (p7 : Int) (m0 : List Window) (m1 : List Window) (p8 : Int) (m2 : List Window) : TS := headT [0, 1, 6, 7, 8] 68 [.v (.c (.aslice 0 none)), .v (.c (.aslice 1 none)), .v (.c (.aslice 2 none)), .v (.c (.d (.int .i64 p7))), .v (.c (.d (.int .i64 p8)))]

set_option maxRecDepth 100000 in
theorem b_fringeref07_Meet_1 (p7 : Int) (m0 : List Window) (m1 : List Window) (p8 : Int) (m2 : List Window) : evCode Try.prog GT EQT T_rise_Meet XT noL 80 (loopB Try.prog 11 1) (H_fringeref07_Meet_1 p7 m0 m1 p8 m2) [.arr none .win m0, .arr none .win m1, .arr (some 53) .win m2] 3 (normK 2 [0, 1, 6, 7, 8]) =
    bif decide (p8 < (m1.length : Int)) then (bif (decide ((0 : Int) ≤ p7) && decide (p7 < (m0.length : Int))) then (bif (decide ((0 : Int) ≤ p8) && decide (p8 < (m1.length : Int))) then (bif (decide ((0 : Int) ≤ p7) && decide (p7 < (m0.length : Int))) then (bif (decide ((0 : Int) ≤ p8) && decide (p8 < (m1.length : Int))) then (bif decide ((if (m1.getD p8.toNat (ET.z .win)).frm > (m0.getD p7.toNat (ET.z .win)).frm then (m1.getD p8.toNat (ET.z .win)).frm else (m0.getD p7.toNat (ET.z .win)).frm) < (if (m1.getD p8.toNat (ET.z .win)).too < (m0.getD p7.toNat (ET.z .win)).too then (m1.getD p8.toNat (ET.z .win)).too else (m0.getD p7.toNat (ET.z .win)).too)) then (bif (([⟨(if (m1.getD p8.toNat (ET.z .win)).frm > (m0.getD p7.toNat (ET.z .win)).frm then (m1.getD p8.toNat (ET.z .win)).frm else (m0.getD p7.toNat (ET.z .win)).frm), (if (m1.getD p8.toNat (ET.z .win)).too < (m0.getD p7.toNat (ET.z .win)).too then (m1.getD p8.toNat (ET.z .win)).too else (m0.getD p7.toNat (ET.z .win)).too)⟩] : List Window).length == 0) then some (.st .normal (headT [0, 1, 6, 7, 8] 68 [.v (.c (.aslice 0 none)), .v (.c (.aslice 1 none)), .v (.c (.aslice 2 none)), .v (.c (.d (.int .i64 p7))), .v (.c (.d (.int .i64 (w64 (p8 + (1 : Int))))))]) [.arr none .win m0, .arr none .win m1, .arr (some 53) .win m2] 3) else (bif (Nat.blt 0 2 && ((2 == 2) && ((2 == 2) && (Nat.ble (m2.length + ([⟨(if (m1.getD p8.toNat (ET.z .win)).frm > (m0.getD p7.toNat (ET.z .win)).frm then (m1.getD p8.toNat (ET.z .win)).frm else (m0.getD p7.toNat (ET.z .win)).frm), (if (m1.getD p8.toNat (ET.z .win)).too < (m0.getD p7.toNat (ET.z .win)).too then (m1.getD p8.toNat (ET.z .win)).too else (m0.getD p7.toNat (ET.z .win)).too)⟩] : List Window).length) roomD && Nat.ble 16 4096)))) then some (.st .normal (headT [0, 1, 6, 7, 8] 68 [.v (.c (.aslice 0 none)), .v (.c (.aslice 1 none)), .v (.c (.aslice 2 none)), .v (.c (.d (.int .i64 p7))), .v (.c (.d (.int .i64 (w64 (p8 + (1 : Int))))))]) [.arr none .win m0, .arr none .win m1, .arr (some 53) .win (m2 ++ ([⟨(if (m1.getD p8.toNat (ET.z .win)).frm > (m0.getD p7.toNat (ET.z .win)).frm then (m1.getD p8.toNat (ET.z .win)).frm else (m0.getD p7.toNat (ET.z .win)).frm), (if (m1.getD p8.toNat (ET.z .win)).too < (m0.getD p7.toNat (ET.z .win)).too then (m1.getD p8.toNat (ET.z .win)).too else (m0.getD p7.toNat (ET.z .win)).too)⟩] : List Window))] 3) else none)) else some (.st .normal (headT [0, 1, 6, 7, 8] 68 [.v (.c (.aslice 0 none)), .v (.c (.aslice 1 none)), .v (.c (.aslice 2 none)), .v (.c (.d (.int .i64 p7))), .v (.c (.d (.int .i64 (w64 (p8 + (1 : Int))))))]) [.arr none .win m0, .arr none .win m1, .arr (some 53) .win m2] 3)) else none) else none) else none) else none) else some (.st (.exit 2) (headT [0, 1, 6, 7, 8] 68 [.v (.c (.aslice 0 none)), .v (.c (.aslice 1 none)), .v (.c (.aslice 2 none)), .v (.c (.d (.int .i64 p7))), .v (.c (.d (.int .i64 p8)))]) [.arr none .win m0, .arr none .win m1, .arr (some 53) .win m2] 3) := by
  kernel_rfl

def o_fringeref07_Meet_1 (p7 : Int) (m0 : List Window) (m1 : List Window) (r : R_fringeref07_Meet_1) : LT := .br (Nat.beq r.k 0) (.st (.exit 2) (headT [0, 1, 6, 7, 8] 68 [.v (.c (.aslice 0 none)), .v (.c (.aslice 1 none)), .v (.c (.aslice 2 none)), .v (.c (.d (.int .i64 p7))), .v (.c (.d (.int .i64 r.p8)))]) [.arr none .win m0, .arr none .win m1, .arr (some 53) .win r.m2] 3) (.no)

set_option maxRecDepth 100000 in
theorem r_fringeref07_Meet_1 (p7 : Int) (m0 : List Window) (m1 : List Window) : ∀ (n : Nat) (p8 : Int) (m2 : List Window) (x : Ex) (T' : TS) (M' : List Blk) (N' : Nat), LReach (o_fringeref07_Meet_1 p7 m0 m1 (run_fringeref07_Meet_1 p7 m0 m1 n p8 m2)) x T' M' N' → x ≠ .normal ∧ ∃ j, RoundsN Try.prog GT gbT 2 (loopB Try.prog 11 1) j (H_fringeref07_Meet_1 p7 m0 m1 p8 m2) [.arr none .win m0, .arr none .win m1, .arr (some 53) .win m2] 3 x T' M' N' := by
  have hL : LOKn Try.prog GT gbT 2 noL (loopsIn (loopB Try.prog 11 1)) := fun _ _ _ _ _ _ _ _ _ h => h.elim
  intro n
  induction n with
  | zero =>
    intro p8 m2 x T' M' N' hr
    exact False.elim (redF hr)
  | succ n ih =>
    intro p8 m2 x T' M' N'
    rw [run_fringeref07_Meet_1]
    exact viaE (b_fringeref07_Meet_1 p7 m0 m1 p8 m2) (condG (o := o_fringeref07_Meet_1 p7 m0 m1) (condG (o := o_fringeref07_Meet_1 p7 m0 m1) (condG (o := o_fringeref07_Meet_1 p7 m0 m1) (condG (o := o_fringeref07_Meet_1 p7 m0 m1) (condG (o := o_fringeref07_Meet_1 p7 m0 m1) (condG (o := o_fringeref07_Meet_1 p7 m0 m1) (condG (o := o_fringeref07_Meet_1 p7 m0 m1) (fun he hr => goN g_rise_Meet hEQT hmT hL he (ih (w64 (p8 + (1 : Int))) m2 x T' M' N' hr)) (condG (o := o_fringeref07_Meet_1 p7 m0 m1) (fun he hr => goN g_rise_Meet hEQT hmT hL he (ih (w64 (p8 + (1 : Int))) (m2 ++ ([⟨(if (m1.getD p8.toNat (ET.z .win)).frm > (m0.getD p7.toNat (ET.z .win)).frm then (m1.getD p8.toNat (ET.z .win)).frm else (m0.getD p7.toNat (ET.z .win)).frm), (if (m1.getD p8.toNat (ET.z .win)).too < (m0.getD p7.toNat (ET.z .win)).too then (m1.getD p8.toNat (ET.z .win)).too else (m0.getD p7.toNat (ET.z .win)).too)⟩] : List Window)) x T' M' N' hr)) (fun _ hr => False.elim (redF hr)))) (fun he hr => goN g_rise_Meet hEQT hmT hL he (ih (w64 (p8 + (1 : Int))) m2 x T' M' N' hr))) (fun _ hr => False.elim (redF hr))) (fun _ hr => False.elim (redF hr))) (fun _ hr => False.elim (redF hr))) (fun _ hr => False.elim (redF hr))) (fun he hr => stopN g_rise_Meet hEQT hmT hL he (by simp) (redT hr)))

def f_fringeref07_Meet_1 : List AV → List Blk → LT := fun vs Ms => match vs, Ms with
  | [.v (.c (.aslice 0 none)), .v (.c (.aslice 1 none)), .v (.c (.aslice 2 none)), .v (.c (.d (.int .i64 p7))), .v (.c (.d (.int .i64 p8)))], [.arr none .win m0, .arr none .win m1, .arr (some 53) .win m2] => o_fringeref07_Meet_1 p7 m0 m1 (lp_fringeref07_Meet_1 p7 m0 m1 p8 m2)
  | _, _ => .no

def L_fringeref07_Meet_1 := LamN 10 68 2 [0, 1, 6, 7, 8] f_fringeref07_Meet_1

set_option maxRecDepth 100000 in
theorem k_fringeref07_Meet_1 : LOKbn Try.prog GT gbT 2 L_fringeref07_Meet_1 (loopB Try.prog 11 1) := by
  refine LOKbn.lamN (by kernel_rfl) fun vs Ms x T' M' N' hr => ?_
  unfold f_fringeref07_Meet_1 at hr
  split at hr
  · obtain ⟨q1, j, q2⟩ := r_fringeref07_Meet_1 _ _ _ _ _ _ x T' M' N' hr
    exact ⟨q1, j, q2⟩
  · exact hr.elim

structure R_fringeref07_Meet_0 where
  k : Nat
  p7 : Int
  m2 : List Window

def run_fringeref07_Meet_0 (m0 : List Window) (m1 : List Window) : Nat → Int → List Window → R_fringeref07_Meet_0
  | 0, p7, m2 => ⟨1, p7, m2⟩
  | n + 1, p7, m2 => bif decide (p7 < (m0.length : Int)) then (bif Nat.beq (lp_fringeref07_Meet_1 p7 m0 m1 (0 : Int) m2).k 0 then run_fringeref07_Meet_0 m0 m1 n (w64 (p7 + (1 : Int))) ((lp_fringeref07_Meet_1 p7 m0 m1 (0 : Int) m2).m2) else ⟨1, p7, m2⟩) else ⟨0, p7, m2⟩

def lp_fringeref07_Meet_0 (m0 : List Window) (m1 : List Window) (p7 : Int) (m2 : List Window) : R_fringeref07_Meet_0 := run_fringeref07_Meet_0 m0 m1 (2000 + (m0.length + m1.length + m2.length)) p7 m2

abbrev H_fringeref07_Meet_0 (m0 : List Window) (m1 : List Window) (p7 : Int) (m2 : List Window) : TS := headT [0, 1, 6, 7] 68 [.v (.c (.aslice 0 none)), .v (.c (.aslice 1 none)), .v (.c (.aslice 2 none)), .v (.c (.d (.int .i64 p7)))]

set_option maxRecDepth 100000 in
theorem b_fringeref07_Meet_0 (m0 : List Window) (m1 : List Window) (p7 : Int) (m2 : List Window) : evCode Try.prog GT EQT T_rise_Meet XT (orL L_fringeref07_Meet_1 noL) 80 (loopB Try.prog 11 0) (H_fringeref07_Meet_0 m0 m1 p7 m2) [.arr none .win m0, .arr none .win m1, .arr (some 53) .win m2] 3 (normK 2 [0, 1, 6, 7]) =
    bif decide (p7 < (m0.length : Int)) then (bif Nat.beq (lp_fringeref07_Meet_1 p7 m0 m1 (0 : Int) m2).k 0 then some (.st .normal (headT [0, 1, 6, 7] 68 [.v (.c (.aslice 0 none)), .v (.c (.aslice 1 none)), .v (.c (.aslice 2 none)), .v (.c (.d (.int .i64 (w64 (p7 + (1 : Int))))))]) [.arr none .win m0, .arr none .win m1, .arr (some 53) .win ((lp_fringeref07_Meet_1 p7 m0 m1 (0 : Int) m2).m2)] 3) else none) else some (.st (.exit 0) (headT [0, 1, 6, 7] 68 [.v (.c (.aslice 0 none)), .v (.c (.aslice 1 none)), .v (.c (.aslice 2 none)), .v (.c (.d (.int .i64 p7)))]) [.arr none .win m0, .arr none .win m1, .arr (some 53) .win m2] 3) := by
  kernel_rfl

def o_fringeref07_Meet_0 (m0 : List Window) (m1 : List Window) (r : R_fringeref07_Meet_0) : LT := .br (Nat.beq r.k 0) (.st (.exit 0) (headT [0, 1, 6, 7] 68 [.v (.c (.aslice 0 none)), .v (.c (.aslice 1 none)), .v (.c (.aslice 2 none)), .v (.c (.d (.int .i64 r.p7)))]) [.arr none .win m0, .arr none .win m1, .arr (some 53) .win r.m2] 3) (.no)

set_option maxRecDepth 100000 in
theorem r_fringeref07_Meet_0 (m0 : List Window) (m1 : List Window) : ∀ (n : Nat) (p7 : Int) (m2 : List Window) (x : Ex) (T' : TS) (M' : List Blk) (N' : Nat), LReach (o_fringeref07_Meet_0 m0 m1 (run_fringeref07_Meet_0 m0 m1 n p7 m2)) x T' M' N' → x ≠ .normal ∧ ∃ j, RoundsN Try.prog GT gbT 2 (loopB Try.prog 11 0) j (H_fringeref07_Meet_0 m0 m1 p7 m2) [.arr none .win m0, .arr none .win m1, .arr (some 53) .win m2] 3 x T' M' N' := by
  have hL : LOKn Try.prog GT gbT 2 (orL L_fringeref07_Meet_1 noL) (loopsIn (loopB Try.prog 11 0)) := by
    intro b hb
    have e : loopsIn (loopB Try.prog 11 0) = [loopB Try.prog 11 1] := by kernel_rfl
    rw [e] at hb
    simp only [List.mem_cons, List.not_mem_nil, or_false] at hb
    subst hb
    exact (LOKbn.or k_fringeref07_Meet_1 (fun _ _ _ _ _ _ _ h => h.elim))
  intro n
  induction n with
  | zero =>
    intro p7 m2 x T' M' N' hr
    exact False.elim (redF hr)
  | succ n ih =>
    intro p7 m2 x T' M' N'
    rw [run_fringeref07_Meet_0]
    exact viaE (b_fringeref07_Meet_0 m0 m1 p7 m2) (condG (o := o_fringeref07_Meet_0 m0 m1) (condG (o := o_fringeref07_Meet_0 m0 m1) (fun he hr => goN g_rise_Meet hEQT hmT hL he (ih (w64 (p7 + (1 : Int))) ((lp_fringeref07_Meet_1 p7 m0 m1 (0 : Int) m2).m2) x T' M' N' hr)) (fun _ hr => False.elim (redF hr))) (fun he hr => stopN g_rise_Meet hEQT hmT hL he (by simp) (redT hr)))

def f_fringeref07_Meet_0 : List AV → List Blk → LT := fun vs Ms => match vs, Ms with
  | [.v (.c (.aslice 0 none)), .v (.c (.aslice 1 none)), .v (.c (.aslice 2 none)), .v (.c (.d (.int .i64 p7)))], [.arr none .win m0, .arr none .win m1, .arr (some 53) .win m2] => o_fringeref07_Meet_0 m0 m1 (lp_fringeref07_Meet_0 m0 m1 p7 m2)
  | _, _ => .no

def L_fringeref07_Meet_0 := LamN 7 68 2 [0, 1, 6, 7] f_fringeref07_Meet_0

set_option maxRecDepth 100000 in
theorem k_fringeref07_Meet_0 : LOKbn Try.prog GT gbT 2 L_fringeref07_Meet_0 (loopB Try.prog 11 0) := by
  refine LOKbn.lamN (by kernel_rfl) fun vs Ms x T' M' N' hr => ?_
  unfold f_fringeref07_Meet_0 at hr
  split at hr
  · obtain ⟨q1, j, q2⟩ := r_fringeref07_Meet_0 _ _ _ _ _ x T' M' N' hr
    exact ⟨q1, j, q2⟩
  · exact hr.elim

structure O_fringeref07_Meet where
  ok : Bool
  r0 : List Window
  r1 : Int

def m_fringeref07_Meet (a0 : List Window) (a1 : List Window) : O_fringeref07_Meet := bif (m_fringeref07_Check a0).ok then (bif ((m_fringeref07_Check a0).r0 != (0 : Int)) then (bif (m_fringeref07_Check a0).ok then ⟨true, ([] : List Window), (m_fringeref07_Check a0).r0⟩ else ⟨false, [], 0⟩) else (bif (m_fringeref07_Check a1).ok then (bif ((m_fringeref07_Check a1).r0 != (0 : Int)) then (bif (m_fringeref07_Check a1).ok then ⟨true, ([] : List Window), (m_fringeref07_Check a1).r0⟩ else ⟨false, [], 0⟩) else (bif Nat.beq (lp_fringeref07_Meet_0 a0 a1 (0 : Int) ([] : List Window)).k 0 then (bif decide ((1000 : Int) < (((lp_fringeref07_Meet_0 a0 a1 (0 : Int) ([] : List Window)).m2).length : Int)) then ⟨true, ([] : List Window), (4 : Int)⟩ else ⟨true, ((lp_fringeref07_Meet_0 a0 a1 (0 : Int) ([] : List Window)).m2), (0 : Int)⟩) else ⟨false, [], 0⟩)) else ⟨false, [], 0⟩)) else ⟨false, [], 0⟩

def F_fringeref07_Meet (a0 : List Window) (a1 : List Window) (K : AV → List Blk → Ans) (r : O_fringeref07_Meet) : Ans := bif r.ok then K (.tup [.c (.aslice 2 none), .c (.d (.int .i64 r.r1))]) [.arr none .win a0, .arr none .win a1, .arr (some 53) .win r.r0] else none

set_option maxRecDepth 100000 in
theorem w_fringeref07_Meet (a0 : List Window) (a1 : List Window) (K : AV → List Blk → Ans) : evFn Try.prog GT EQT T_rise_Meet XT (orL L_fringeref07_Meet_0 (orL L_fringeref07_Meet_1 noL)) 80 11 [.v (.c (.aslice 0 none)), .v (.c (.aslice 1 none))] [.arr none .win a0, .arr none .win a1] (fun v M => K (finR 2 v M).1 (finR 2 v M).2) =
    bif (m_fringeref07_Check a0).ok then (bif ((m_fringeref07_Check a0).r0 != (0 : Int)) then (bif (m_fringeref07_Check a0).ok then K (.tup [.c (.aslice 2 none), .c (.d (.int .i64 ((m_fringeref07_Check a0).r0)))]) [.arr none .win a0, .arr none .win a1, .arr (some 53) .win ([] : List Window)] else none) else (bif (m_fringeref07_Check a1).ok then (bif ((m_fringeref07_Check a1).r0 != (0 : Int)) then (bif (m_fringeref07_Check a1).ok then K (.tup [.c (.aslice 2 none), .c (.d (.int .i64 ((m_fringeref07_Check a1).r0)))]) [.arr none .win a0, .arr none .win a1, .arr (some 53) .win ([] : List Window)] else none) else (bif Nat.beq (lp_fringeref07_Meet_0 a0 a1 (0 : Int) ([] : List Window)).k 0 then (bif decide ((1000 : Int) < (((lp_fringeref07_Meet_0 a0 a1 (0 : Int) ([] : List Window)).m2).length : Int)) then K (.tup [.c (.aslice 2 none), .c (.d (.int .i64 (4 : Int)))]) [.arr none .win a0, .arr none .win a1, .arr (some 53) .win ([] : List Window)] else K (.tup [.c (.aslice 2 none), .c (.d (.int .i64 (0 : Int)))]) [.arr none .win a0, .arr none .win a1, .arr (some 53) .win ((lp_fringeref07_Meet_0 a0 a1 (0 : Int) ([] : List Window)).m2)]) else none)) else none)) else none := by
  kernel_rfl

set_option maxRecDepth 100000 in
/-- fringeref07.Meet -/
theorem e_fringeref07_Meet (a0 : List Window) (a1 : List Window) (K : AV → List Blk → Ans) : evFn Try.prog GT EQT T_rise_Meet XT (orL L_fringeref07_Meet_0 (orL L_fringeref07_Meet_1 noL)) 80 11 [.v (.c (.aslice 0 none)), .v (.c (.aslice 1 none))] [.arr none .win a0, .arr none .win a1] (fun v M => K (finR 2 v M).1 (finR 2 v M).2) = F_fringeref07_Meet a0 a1 K (m_fringeref07_Meet a0 a1) := by
  refine (w_fringeref07_Meet a0 a1 K).trans ?_
  unfold m_fringeref07_Meet
  exact (condF (condF (condF rfl rfl) (condF (condF (condF rfl rfl) (condF (condF rfl rfl) rfl)) rfl)) rfl)

set_option maxRecDepth 100000 in
theorem lok_fringeref07_Meet : ∀ fn c, Try.prog.funcs[11]? = some fn → fn.body = some c → LOKn Try.prog GT gbT 2 (orL L_fringeref07_Meet_0 (orL L_fringeref07_Meet_1 noL)) (loopsIn c) := by
  refine LOKn.ofF fun b hb => ?_
  have e : loopsF Try.prog 11 = [loopB Try.prog 11 0, loopB Try.prog 11 1] := by kernel_rfl
  rw [e] at hb
  simp only [List.mem_cons, List.not_mem_nil, or_false] at hb
  rcases hb with rfl | rfl
  · exact (LOKbn.or k_fringeref07_Meet_0 (LOKbn.or (LOKbn.lamN_other (by kernel_rfl)) (fun _ _ _ _ _ _ _ h => h.elim)))
  · exact (LOKbn.or (LOKbn.lamN_other (by kernel_rfl)) (LOKbn.or k_fringeref07_Meet_1 (fun _ _ _ _ _ _ _ h => h.elim)))


theorem c_fringeref07_Meet (a0 : List Window) (a1 : List Window) (hd : (m_fringeref07_Meet a0 a1).ok = true) : CallsA Try.prog GT gbT 11 [.v (.c (.aslice 0 none)), .v (.c (.aslice 1 none))] [.arr none .win a0, .arr none .win a1] (.tup [.c (.aslice 2 none), .c (.d (.int .i64 ((m_fringeref07_Meet a0 a1).r1)))]) [.arr none .win a0, .arr none .win a1, .arr (some 53) .win ((m_fringeref07_Meet a0 a1).r0)] := by
  refine CallsA.ofEvR g_rise_Meet hEQT hmT (n0 := 2) rfl lok_fringeref07_Meet ((e_fringeref07_Meet a0 a1 (fun v M => some (Res.fin v M))).trans ?_)
  unfold F_fringeref07_Meet
  rw [hd]
  rfl

def s_fringeref07_Meet : List AV → List Blk → (AV → List Blk → Ans) → Ans := fun xs bs K => match xs, bs with
  | [.v (.c (.aslice 0 none)), .v (.c (.aslice 1 none))], [.arr none .win a0, .arr none .win a1] => F_fringeref07_Meet a0 a1 K (m_fringeref07_Meet a0 a1)
  | _, _ => none

def T_fringeref07_Meet : Nat → List AV → List Blk → (AV → List Blk → Ans) → Ans := upd T_rise_Meet 11 s_fringeref07_Meet

theorem g_fringeref07_Meet : GOK Try.prog GT gbT T_fringeref07_Meet XT := by
  refine GOK.upd g_rise_Meet (fun args w => Try.call11 args w) fun xs bs K r h => ?_
  unfold s_fringeref07_Meet at h
  split at h
  · unfold F_fringeref07_Meet at h
    simp only [cond_eq_ite] at h
    split at h
    · rename_i hd
      exact ⟨_, _, c_fringeref07_Meet _ _ hd, h⟩
    · cases h
  · cases h

end Go.Ev
