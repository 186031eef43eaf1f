/-
  Plain functions that mirror functions of the program, and that it computes them. No condition beyond those of the statements.
-/
import Derived.Test.YtdmmnpgkidghnaaMtE
namespace Go.Ev
open Go Go.Proofs

structure R_fringeref07_Next_0 where
  k : Nat
  p8 : Int

def run_fringeref07_Next_0 (p1 : Int) (p2 : Int) (p6 : Int) (p7 : Int) (m0 : List Window) : Nat → Int → R_fringeref07_Next_0
  | 0, p8 => ⟨2, p8⟩
  | n + 1, p8 => bif decide (p8 < (m0.length : Int)) then (bif (decide ((0 : Int) ≤ p8) && decide (p8 < (m0.length : Int))) then (bif (decide ((0 : Int) ≤ p8) && decide (p8 < (m0.length : Int))) then (bif decide ((if (m0.getD p8.toNat (ET.z .win)).frm > p1 then (m0.getD p8.toNat (ET.z .win)).frm else p1) < (m0.getD p8.toNat (ET.z .win)).too) then (bif (decide ((0 : Int) ≤ p8) && decide (p8 < (m0.length : Int))) then (bif decide ((wu64 p2) ≤ (wu64 ((wu64 ((m0.getD p8.toNat (ET.z .win)).too)) - (wu64 (if (m0.getD p8.toNat (ET.z .win)).frm > p1 then (m0.getD p8.toNat (ET.z .win)).frm else p1))))) then ⟨0, p8⟩ else run_fringeref07_Next_0 p1 p2 p6 p7 m0 n (w64 (p8 + (1 : Int)))) else ⟨2, p8⟩) else run_fringeref07_Next_0 p1 p2 p6 p7 m0 n (w64 (p8 + (1 : Int)))) else ⟨2, p8⟩) else ⟨2, p8⟩) else ⟨1, p8⟩

def lp_fringeref07_Next_0 (p1 : Int) (p2 : Int) (p6 : Int) (p7 : Int) (m0 : List Window) (p8 : Int) : R_fringeref07_Next_0 := run_fringeref07_Next_0 p1 p2 p6 p7 m0 (2000 + (m0.length)) p8

abbrev H_fringeref07_Next_0 (p1 : Int) (p2 : Int) (p6 : Int) (p7 : Int) (m0 : List Window) (p8 : Int) : TS := headT [0, 1, 2, 6, 7, 8] 52 [.v (.c (.aslice 0 none)), .v (.c (.d (.int .i64 p1))), .v (.c (.d (.int .i64 p2))), .v (.c (.d (.int .i64 p6))), .v (.c (.d (.int .i64 p7))), .v (.c (.d (.int .i64 p8)))]

set_option maxRecDepth 100000 in
theorem b_fringeref07_Next_0 (p1 : Int) (p2 : Int) (p6 : Int) (p7 : Int) (m0 : List Window) (p8 : Int) : evCode Try.prog GT EQT T_rise_Next XT noL 80 (loopB Try.prog 13 0) (H_fringeref07_Next_0 p1 p2 p6 p7 m0 p8) [.arr none .win m0] 1 (normK 1 [0, 1, 2, 6, 7, 8]) =
    bif decide (p8 < (m0.length : Int)) then (bif (decide ((0 : Int) ≤ p8) && decide (p8 < (m0.length : Int))) then (bif (decide ((0 : Int) ≤ p8) && decide (p8 < (m0.length : Int))) then (bif decide ((if (m0.getD p8.toNat (ET.z .win)).frm > p1 then (m0.getD p8.toNat (ET.z .win)).frm else p1) < (m0.getD p8.toNat (ET.z .win)).too) then (bif (decide ((0 : Int) ≤ p8) && decide (p8 < (m0.length : Int))) then (bif decide ((wu64 p2) ≤ (wu64 ((wu64 ((m0.getD p8.toNat (ET.z .win)).too)) - (wu64 (if (m0.getD p8.toNat (ET.z .win)).frm > p1 then (m0.getD p8.toNat (ET.z .win)).frm else p1))))) then some (.st .ret (headT [0, 1, 2, 6, 7, 8] 52 [.v (.c (.aslice 0 none)), .v (.c (.d (.int .i64 p1))), .v (.c (.d (.int .i64 p2))), .v (.c (.d (.int .i64 (if (m0.getD p8.toNat (ET.z .win)).frm > p1 then (m0.getD p8.toNat (ET.z .win)).frm else p1)))), .v (.c (.d (.int .i64 (0 : Int)))), .v (.c (.d (.int .i64 p8)))]) [.arr none .win m0] 1) else some (.st .normal (headT [0, 1, 2, 6, 7, 8] 52 [.v (.c (.aslice 0 none)), .v (.c (.d (.int .i64 p1))), .v (.c (.d (.int .i64 p2))), .v (.c (.d (.int .i64 p6))), .v (.c (.d (.int .i64 p7))), .v (.c (.d (.int .i64 (w64 (p8 + (1 : Int))))))]) [.arr none .win m0] 1)) else none) else some (.st .normal (headT [0, 1, 2, 6, 7, 8] 52 [.v (.c (.aslice 0 none)), .v (.c (.d (.int .i64 p1))), .v (.c (.d (.int .i64 p2))), .v (.c (.d (.int .i64 p6))), .v (.c (.d (.int .i64 p7))), .v (.c (.d (.int .i64 (w64 (p8 + (1 : Int))))))]) [.arr none .win m0] 1)) else none) else none) else some (.st (.exit 0) (headT [0, 1, 2, 6, 7, 8] 52 [.v (.c (.aslice 0 none)), .v (.c (.d (.int .i64 p1))), .v (.c (.d (.int .i64 p2))), .v (.c (.d (.int .i64 p6))), .v (.c (.d (.int .i64 p7))), .v (.c (.d (.int .i64 p8)))]) [.arr none .win m0] 1) := by
  kernel_rfl

def o_fringeref07_Next_0 (p1 : Int) (p2 : Int) (p6 : Int) (p7 : Int) (m0 : List Window) (r : R_fringeref07_Next_0) : LT := .br (Nat.beq r.k 0) (.st .ret (headT [0, 1, 2, 6, 7, 8] 52 [.v (.c (.aslice 0 none)), .v (.c (.d (.int .i64 p1))), .v (.c (.d (.int .i64 p2))), .v (.c (.d (.int .i64 (if (m0.getD r.p8.toNat (ET.z .win)).frm > p1 then (m0.getD r.p8.toNat (ET.z .win)).frm else p1)))), .v (.c (.d (.int .i64 (0 : Int)))), .v (.c (.d (.int .i64 r.p8)))]) [.arr none .win m0] 1) (.br (Nat.beq r.k 1) (.st (.exit 0) (headT [0, 1, 2, 6, 7, 8] 52 [.v (.c (.aslice 0 none)), .v (.c (.d (.int .i64 p1))), .v (.c (.d (.int .i64 p2))), .v (.c (.d (.int .i64 p6))), .v (.c (.d (.int .i64 p7))), .v (.c (.d (.int .i64 r.p8)))]) [.arr none .win m0] 1) (.no))

set_option maxRecDepth 100000 in
theorem r_fringeref07_Next_0 (p1 : Int) (p2 : Int) (p6 : Int) (p7 : Int) (m0 : List Window) : ∀ (n : Nat) (p8 : Int) (x : Ex) (T' : TS) (M' : List Blk) (N' : Nat), LReach (o_fringeref07_Next_0 p1 p2 p6 p7 m0 (run_fringeref07_Next_0 p1 p2 p6 p7 m0 n p8)) x T' M' N' → x ≠ .normal ∧ ∃ j, RoundsN Try.prog GT gbT 1 (loopB Try.prog 13 0) j (H_fringeref07_Next_0 p1 p2 p6 p7 m0 p8) [.arr none .win m0] 1 x T' M' N' := by
  have hL : LOKn Try.prog GT gbT 1 noL (loopsIn (loopB Try.prog 13 0)) := fun _ _ _ _ _ _ _ _ _ h => h.elim
  intro n
  induction n with
  | zero =>
    intro p8 x T' M' N' hr
    exact False.elim (redF (redF hr))
  | succ n ih =>
    intro p8 x T' M' N'
    rw [run_fringeref07_Next_0]
    exact viaE (b_fringeref07_Next_0 p1 p2 p6 p7 m0 p8) (condG (o := o_fringeref07_Next_0 p1 p2 p6 p7 m0) (condG (o := o_fringeref07_Next_0 p1 p2 p6 p7 m0) (condG (o := o_fringeref07_Next_0 p1 p2 p6 p7 m0) (condG (o := o_fringeref07_Next_0 p1 p2 p6 p7 m0) (condG (o := o_fringeref07_Next_0 p1 p2 p6 p7 m0) (condG (o := o_fringeref07_Next_0 p1 p2 p6 p7 m0) (fun he hr => stopN g_rise_Next hEQT hmT hL he (by simp) (redT hr)) (fun he hr => goN g_rise_Next hEQT hmT hL he (ih (w64 (p8 + (1 : Int))) x T' M' N' hr))) (fun _ hr => False.elim (redF (redF hr)))) (fun he hr => goN g_rise_Next hEQT hmT hL he (ih (w64 (p8 + (1 : Int))) x T' M' N' hr))) (fun _ hr => False.elim (redF (redF hr)))) (fun _ hr => False.elim (redF (redF hr)))) (fun he hr => stopN g_rise_Next hEQT hmT hL he (by simp) (redT (redF hr))))

def f_fringeref07_Next_0 : List AV → List Blk → LT := fun vs Ms => match vs, Ms with
  | [.v (.c (.aslice 0 none)), .v (.c (.d (.int .i64 p1))), .v (.c (.d (.int .i64 p2))), .v (.c (.d (.int .i64 p6))), .v (.c (.d (.int .i64 p7))), .v (.c (.d (.int .i64 p8)))], [.arr none .win m0] => o_fringeref07_Next_0 p1 p2 p6 p7 m0 (lp_fringeref07_Next_0 p1 p2 p6 p7 m0 p8)
  | _, _ => .no

def L_fringeref07_Next_0 := LamN 6 52 1 [0, 1, 2, 6, 7, 8] f_fringeref07_Next_0

set_option maxRecDepth 100000 in
theorem k_fringeref07_Next_0 : LOKbn Try.prog GT gbT 1 L_fringeref07_Next_0 (loopB Try.prog 13 0) := by
  refine LOKbn.lamN (by kernel_rfl) fun vs Ms x T' M' N' hr => ?_
  unfold f_fringeref07_Next_0 at hr
  split at hr
  · obtain ⟨q1, j, q2⟩ := r_fringeref07_Next_0 _ _ _ _ _ _ _ x T' M' N' hr
    exact ⟨q1, j, q2⟩
  · exact hr.elim

structure O_fringeref07_Next where
  ok : Bool
  r0 : Int
  r1 : Int

def m_fringeref07_Next (a0 : List Window) (a1 : Int) (a2 : Int) : O_fringeref07_Next := bif (m_fringeref07_Check a0).ok then (bif ((m_fringeref07_Check a0).r0 != (0 : Int)) then (bif (m_fringeref07_Check a0).ok then ⟨true, (0 : Int), (m_fringeref07_Check a0).r0⟩ else ⟨false, 0, 0⟩) else (bif decide (a2 < (1 : Int)) then ⟨true, (0 : Int), (2 : Int)⟩ else (bif Nat.beq (lp_fringeref07_Next_0 a1 a2 (0 : Int) (0 : Int) a0 (0 : Int)).k 0 then ⟨true, (if (a0.getD ((lp_fringeref07_Next_0 a1 a2 (0 : Int) (0 : Int) a0 (0 : Int)).p8).toNat (ET.z .win)).frm > a1 then (a0.getD ((lp_fringeref07_Next_0 a1 a2 (0 : Int) (0 : Int) a0 (0 : Int)).p8).toNat (ET.z .win)).frm else a1), (0 : Int)⟩ else (bif Nat.beq (lp_fringeref07_Next_0 a1 a2 (0 : Int) (0 : Int) a0 (0 : Int)).k 1 then ⟨true, (0 : Int), (6 : Int)⟩ else ⟨false, 0, 0⟩)))) else ⟨false, 0, 0⟩

def F_fringeref07_Next (a0 : List Window) (a1 : Int) (a2 : Int) (K : AV → List Blk → Ans) (r : O_fringeref07_Next) : Ans := bif r.ok then K (.tup [.c (.d (.int .i64 r.r0)), .c (.d (.int .i64 r.r1))]) [.arr none .win a0] else none

set_option maxRecDepth 100000 in
theorem w_fringeref07_Next (a0 : List Window) (a1 : Int) (a2 : Int) (K : AV → List Blk → Ans) : evFn Try.prog GT EQT T_rise_Next XT (orL L_fringeref07_Next_0 noL) 80 13 [.v (.c (.aslice 0 none)), .v (.c (.d (.int .i64 a1))), .v (.c (.d (.int .i64 a2)))] [.arr none .win a0] (fun v M => K (finR 1 v M).1 (finR 1 v M).2) =
    bif (m_fringeref07_Check a0).ok then (bif ((m_fringeref07_Check a0).r0 != (0 : Int)) then (bif (m_fringeref07_Check a0).ok then K (.tup [.c (.d (.int .i64 (0 : Int))), .c (.d (.int .i64 ((m_fringeref07_Check a0).r0)))]) [.arr none .win a0] else none) else (bif decide (a2 < (1 : Int)) then K (.tup [.c (.d (.int .i64 (0 : Int))), .c (.d (.int .i64 (2 : Int)))]) [.arr none .win a0] else (bif Nat.beq (lp_fringeref07_Next_0 a1 a2 (0 : Int) (0 : Int) a0 (0 : Int)).k 0 then K (.tup [.c (.d (.int .i64 (if (a0.getD ((lp_fringeref07_Next_0 a1 a2 (0 : Int) (0 : Int) a0 (0 : Int)).p8).toNat (ET.z .win)).frm > a1 then (a0.getD ((lp_fringeref07_Next_0 a1 a2 (0 : Int) (0 : Int) a0 (0 : Int)).p8).toNat (ET.z .win)).frm else a1))), .c (.d (.int .i64 (0 : Int)))]) [.arr none .win a0] else (bif Nat.beq (lp_fringeref07_Next_0 a1 a2 (0 : Int) (0 : Int) a0 (0 : Int)).k 1 then K (.tup [.c (.d (.int .i64 (0 : Int))), .c (.d (.int .i64 (6 : Int)))]) [.arr none .win a0] else none)))) else none := by
  kernel_rfl

set_option maxRecDepth 100000 in
/-- fringeref07.Next -/
theorem e_fringeref07_Next (a0 : List Window) (a1 : Int) (a2 : Int) (K : AV → List Blk → Ans) : evFn Try.prog GT EQT T_rise_Next XT (orL L_fringeref07_Next_0 noL) 80 13 [.v (.c (.aslice 0 none)), .v (.c (.d (.int .i64 a1))), .v (.c (.d (.int .i64 a2)))] [.arr none .win a0] (fun v M => K (finR 1 v M).1 (finR 1 v M).2) = F_fringeref07_Next a0 a1 a2 K (m_fringeref07_Next a0 a1 a2) := by
  refine (w_fringeref07_Next a0 a1 a2 K).trans ?_
  unfold m_fringeref07_Next
  exact (condF (condF (condF rfl rfl) (condF rfl (condF rfl (condF rfl rfl)))) rfl)

set_option maxRecDepth 100000 in
theorem lok_fringeref07_Next : ∀ fn c, Try.prog.funcs[13]? = some fn → fn.body = some c → LOKn Try.prog GT gbT 1 (orL L_fringeref07_Next_0 noL) (loopsIn c) := by
  refine LOKn.ofF fun b hb => ?_
  have e : loopsF Try.prog 13 = [loopB Try.prog 13 0] := by kernel_rfl
  rw [e] at hb
  simp only [List.mem_cons, List.not_mem_nil, or_false] at hb
  subst hb
  exact (LOKbn.or k_fringeref07_Next_0 (fun _ _ _ _ _ _ _ h => h.elim))


theorem c_fringeref07_Next (a0 : List Window) (a1 : Int) (a2 : Int) (hd : (m_fringeref07_Next a0 a1 a2).ok = true) : CallsA Try.prog GT gbT 13 [.v (.c (.aslice 0 none)), .v (.c (.d (.int .i64 a1))), .v (.c (.d (.int .i64 a2)))] [.arr none .win a0] (.tup [.c (.d (.int .i64 ((m_fringeref07_Next a0 a1 a2).r0))), .c (.d (.int .i64 ((m_fringeref07_Next a0 a1 a2).r1)))]) [.arr none .win a0] := by
  refine CallsA.ofEvR g_rise_Next hEQT hmT (n0 := 1) rfl lok_fringeref07_Next ((e_fringeref07_Next a0 a1 a2 (fun v M => some (Res.fin v M))).trans ?_)
  unfold F_fringeref07_Next
  rw [hd]
  rfl

def s_fringeref07_Next : List AV → List Blk → (AV → List Blk → Ans) → Ans := fun xs bs K => match xs, bs with
  | [.v (.c (.aslice 0 none)), .v (.c (.d (.int .i64 a1))), .v (.c (.d (.int .i64 a2)))], [.arr none .win a0] => F_fringeref07_Next a0 a1 a2 K (m_fringeref07_Next a0 a1 a2)
  | _, _ => none

def T_fringeref07_Next : Nat → List AV → List Blk → (AV → List Blk → Ans) → Ans := upd T_rise_Next 13 s_fringeref07_Next

theorem g_fringeref07_Next : GOK Try.prog GT gbT T_fringeref07_Next XT := by
  refine GOK.upd g_rise_Next (fun args w => Try.call13 args w) fun xs bs K r h => ?_
  unfold s_fringeref07_Next at h
  split at h
  · unfold F_fringeref07_Next at h
    simp only [cond_eq_ite] at h
    split at h
    · rename_i hd
      exact ⟨_, _, c_fringeref07_Next _ _ _ hd, h⟩
    · cases h
  · cases h

end Go.Ev
