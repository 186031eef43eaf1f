/-
  Plain functions that mirror functions of the program, and that it computes them. No condition beyond those of the statements.
-/
import Derived.Test.YtdmmnpgkidghnaaMtD
namespace Go.Ev
open Go Go.Proofs

structure R_rise_Next_0 where
  k : Nat
  p21 : Int

def run_rise_Next_0 (p1 : Int) (p2 : Int) (p6 : Int) (p7 : Int) (p20 : Int) (m0 : List Window) : Nat → Int → R_rise_Next_0
  | 0, p21 => ⟨2, p21⟩
  | n + 1, p21 => bif decide (p21 < p20) then (bif (decide ((0 : Int) ≤ p21) && decide (p21 < (m0.length : Int))) then (bif decide ((if (m0.getD p21.toNat (ET.z .win)).frm > p1 then (m0.getD p21.toNat (ET.z .win)).frm else p1) < (m0.getD p21.toNat (ET.z .win)).too) then (bif decide ((wu64 p2) ≤ (wu64 ((wu64 ((m0.getD p21.toNat (ET.z .win)).too)) - (wu64 (if (m0.getD p21.toNat (ET.z .win)).frm > p1 then (m0.getD p21.toNat (ET.z .win)).frm else p1))))) then ⟨0, p21⟩ else run_rise_Next_0 p1 p2 p6 p7 p20 m0 n (w64 (p21 + (1 : Int)))) else run_rise_Next_0 p1 p2 p6 p7 p20 m0 n (w64 (p21 + (1 : Int)))) else ⟨2, p21⟩) else ⟨1, p21⟩

def lp_rise_Next_0 (p1 : Int) (p2 : Int) (p6 : Int) (p7 : Int) (p20 : Int) (m0 : List Window) (p21 : Int) : R_rise_Next_0 := run_rise_Next_0 p1 p2 p6 p7 p20 m0 (2000 + (m0.length)) p21

abbrev H_rise_Next_0 (p1 : Int) (p2 : Int) (p6 : Int) (p7 : Int) (p20 : Int) (m0 : List Window) (p21 : Int) : TS := headT [1, 2, 6, 7, 19, 20, 21] 46 [.v (.c (.d (.int .i64 p1))), .v (.c (.d (.int .i64 p2))), .v (.c (.d (.int .i64 p6))), .v (.c (.d (.int .i64 p7))), .v (.c (.aslice 0 none)), .v (.c (.d (.int .i64 p20))), .v (.c (.d (.int .i64 p21)))]

set_option maxRecDepth 100000 in
theorem b_rise_Next_0 (p1 : Int) (p2 : Int) (p6 : Int) (p7 : Int) (p20 : Int) (m0 : List Window) (p21 : Int) : evCode Try.prog GT EQT T_fringeref07_Meet XT noL 80 (loopB Try.prog 12 0) (H_rise_Next_0 p1 p2 p6 p7 p20 m0 p21) [.arr none .win m0] 1 (normK 1 [1, 2, 6, 7, 19, 20, 21]) =
    bif decide (p21 < p20) then (bif (decide ((0 : Int) ≤ p21) && decide (p21 < (m0.length : Int))) then (bif decide ((if (m0.getD p21.toNat (ET.z .win)).frm > p1 then (m0.getD p21.toNat (ET.z .win)).frm else p1) < (m0.getD p21.toNat (ET.z .win)).too) then (bif decide ((wu64 p2) ≤ (wu64 ((wu64 ((m0.getD p21.toNat (ET.z .win)).too)) - (wu64 (if (m0.getD p21.toNat (ET.z .win)).frm > p1 then (m0.getD p21.toNat (ET.z .win)).frm else p1))))) then some (.st .ret (headT [1, 2, 6, 7, 19, 20, 21] 46 [.v (.c (.d (.int .i64 p1))), .v (.c (.d (.int .i64 p2))), .v (.c (.d (.int .i64 (if (m0.getD p21.toNat (ET.z .win)).frm > p1 then (m0.getD p21.toNat (ET.z .win)).frm else p1)))), .v (.c (.d (.int .i64 (0 : Int)))), .v (.c (.aslice 0 none)), .v (.c (.d (.int .i64 p20))), .v (.c (.d (.int .i64 p21)))]) [.arr none .win m0] 1) else some (.st .normal (headT [1, 2, 6, 7, 19, 20, 21] 46 [.v (.c (.d (.int .i64 p1))), .v (.c (.d (.int .i64 p2))), .v (.c (.d (.int .i64 p6))), .v (.c (.d (.int .i64 p7))), .v (.c (.aslice 0 none)), .v (.c (.d (.int .i64 p20))), .v (.c (.d (.int .i64 (w64 (p21 + (1 : Int))))))]) [.arr none .win m0] 1)) else some (.st .normal (headT [1, 2, 6, 7, 19, 20, 21] 46 [.v (.c (.d (.int .i64 p1))), .v (.c (.d (.int .i64 p2))), .v (.c (.d (.int .i64 p6))), .v (.c (.d (.int .i64 p7))), .v (.c (.aslice 0 none)), .v (.c (.d (.int .i64 p20))), .v (.c (.d (.int .i64 (w64 (p21 + (1 : Int))))))]) [.arr none .win m0] 1)) else none) else some (.st (.exit 0) (headT [1, 2, 6, 7, 19, 20, 21] 46 [.v (.c (.d (.int .i64 p1))), .v (.c (.d (.int .i64 p2))), .v (.c (.d (.int .i64 p6))), .v (.c (.d (.int .i64 p7))), .v (.c (.aslice 0 none)), .v (.c (.d (.int .i64 p20))), .v (.c (.d (.int .i64 p21)))]) [.arr none .win m0] 1) := by
  kernel_rfl

def o_rise_Next_0 (p1 : Int) (p2 : Int) (p6 : Int) (p7 : Int) (p20 : Int) (m0 : List Window) (r : R_rise_Next_0) : LT := .br (Nat.beq r.k 0) (.st .ret (headT [1, 2, 6, 7, 19, 20, 21] 46 [.v (.c (.d (.int .i64 p1))), .v (.c (.d (.int .i64 p2))), .v (.c (.d (.int .i64 (if (m0.getD r.p21.toNat (ET.z .win)).frm > p1 then (m0.getD r.p21.toNat (ET.z .win)).frm else p1)))), .v (.c (.d (.int .i64 (0 : Int)))), .v (.c (.aslice 0 none)), .v (.c (.d (.int .i64 p20))), .v (.c (.d (.int .i64 r.p21)))]) [.arr none .win m0] 1) (.br (Nat.beq r.k 1) (.st (.exit 0) (headT [1, 2, 6, 7, 19, 20, 21] 46 [.v (.c (.d (.int .i64 p1))), .v (.c (.d (.int .i64 p2))), .v (.c (.d (.int .i64 p6))), .v (.c (.d (.int .i64 p7))), .v (.c (.aslice 0 none)), .v (.c (.d (.int .i64 p20))), .v (.c (.d (.int .i64 r.p21)))]) [.arr none .win m0] 1) (.no))

set_option maxRecDepth 100000 in
theorem r_rise_Next_0 (p1 : Int) (p2 : Int) (p6 : Int) (p7 : Int) (p20 : Int) (m0 : List Window) : ∀ (n : Nat) (p21 : Int) (x : Ex) (T' : TS) (M' : List Blk) (N' : Nat), LReach (o_rise_Next_0 p1 p2 p6 p7 p20 m0 (run_rise_Next_0 p1 p2 p6 p7 p20 m0 n p21)) x T' M' N' → x ≠ .normal ∧ ∃ j, RoundsN Try.prog GT gbT 1 (loopB Try.prog 12 0) j (H_rise_Next_0 p1 p2 p6 p7 p20 m0 p21) [.arr none .win m0] 1 x T' M' N' := by
  have hL : LOKn Try.prog GT gbT 1 noL (loopsIn (loopB Try.prog 12 0)) := fun _ _ _ _ _ _ _ _ _ h => h.elim
  intro n
  induction n with
  | zero =>
    intro p21 x T' M' N' hr
    exact False.elim (redF (redF hr))
  | succ n ih =>
    intro p21 x T' M' N'
    rw [run_rise_Next_0]
    exact viaE (b_rise_Next_0 p1 p2 p6 p7 p20 m0 p21) (condG (o := o_rise_Next_0 p1 p2 p6 p7 p20 m0) (condG (o := o_rise_Next_0 p1 p2 p6 p7 p20 m0) (condG (o := o_rise_Next_0 p1 p2 p6 p7 p20 m0) (condG (o := o_rise_Next_0 p1 p2 p6 p7 p20 m0) (fun he hr => stopN g_fringeref07_Meet hEQT hmT hL he (by simp) (redT hr)) (fun he hr => goN g_fringeref07_Meet hEQT hmT hL he (ih (w64 (p21 + (1 : Int))) x T' M' N' hr))) (fun he hr => goN g_fringeref07_Meet hEQT hmT hL he (ih (w64 (p21 + (1 : Int))) x T' M' N' hr))) (fun _ hr => False.elim (redF (redF hr)))) (fun he hr => stopN g_fringeref07_Meet hEQT hmT hL he (by simp) (redT (redF hr))))

def f_rise_Next_0 : List AV → List Blk → LT := fun vs Ms => match vs, Ms with
  | [.v (.c (.d (.int .i64 p1))), .v (.c (.d (.int .i64 p2))), .v (.c (.d (.int .i64 p6))), .v (.c (.d (.int .i64 p7))), .v (.c (.aslice 0 none)), .v (.c (.d (.int .i64 p20))), .v (.c (.d (.int .i64 p21)))], [.arr none .win m0] => o_rise_Next_0 p1 p2 p6 p7 p20 m0 (lp_rise_Next_0 p1 p2 p6 p7 p20 m0 p21)
  | _, _ => .no

def L_rise_Next_0 := LamN 7 46 1 [1, 2, 6, 7, 19, 20, 21] f_rise_Next_0

set_option maxRecDepth 100000 in
theorem k_rise_Next_0 : LOKbn Try.prog GT gbT 1 L_rise_Next_0 (loopB Try.prog 12 0) := by
  refine LOKbn.lamN (by kernel_rfl) fun vs Ms x T' M' N' hr => ?_
  unfold f_rise_Next_0 at hr
  split at hr
  · obtain ⟨q1, j, q2⟩ := r_rise_Next_0 _ _ _ _ _ _ _ _ x T' M' N' hr
    exact ⟨q1, j, q2⟩
  · exact hr.elim

structure O_rise_Next where
  ok : Bool
  r0 : Int
  r1 : Int

def m_rise_Next (a0 : List Window) (a1 : Int) (a2 : Int) : O_rise_Next := bif (m_rise_Check a0).ok then (bif ((m_rise_Check a0).r0 != (0 : Int)) then ⟨true, (0 : Int), (m_rise_Check a0).r0⟩ else (bif decide (a2 < (1 : Int)) then ⟨true, (0 : Int), (2 : Int)⟩ else (bif Nat.beq (lp_rise_Next_0 a1 a2 (0 : Int) (0 : Int) (a0.length : Int) a0 (0 : Int)).k 0 then ⟨true, (if (a0.getD ((lp_rise_Next_0 a1 a2 (0 : Int) (0 : Int) (a0.length : Int) a0 (0 : Int)).p21).toNat (ET.z .win)).frm > a1 then (a0.getD ((lp_rise_Next_0 a1 a2 (0 : Int) (0 : Int) (a0.length : Int) a0 (0 : Int)).p21).toNat (ET.z .win)).frm else a1), (0 : Int)⟩ else (bif Nat.beq (lp_rise_Next_0 a1 a2 (0 : Int) (0 : Int) (a0.length : Int) a0 (0 : Int)).k 1 then ⟨true, (0 : Int), (6 : Int)⟩ else ⟨false, 0, 0⟩)))) else ⟨false, 0, 0⟩

def F_rise_Next (a0 : List Window) (a1 : Int) (a2 : Int) (K : AV → List Blk → Ans) (r : O_rise_Next) : Ans := bif r.ok then K (.tup [.c (.d (.int .i64 r.r0)), .c (.d (.int .i64 r.r1))]) [.arr none .win a0] else none

set_option maxRecDepth 100000 in
theorem w_rise_Next (a0 : List Window) (a1 : Int) (a2 : Int) (K : AV → List Blk → Ans) : evFn Try.prog GT EQT T_fringeref07_Meet XT (orL L_rise_Next_0 noL) 80 12 [.v (.c (.aslice 0 none)), .v (.c (.d (.int .i64 a1))), .v (.c (.d (.int .i64 a2)))] [.arr none .win a0] (fun v M => K (finR 1 v M).1 (finR 1 v M).2) =
    bif (m_rise_Check a0).ok then (bif ((m_rise_Check a0).r0 != (0 : Int)) then K (.tup [.c (.d (.int .i64 (0 : Int))), .c (.d (.int .i64 ((m_rise_Check a0).r0)))]) [.arr none .win a0] else (bif decide (a2 < (1 : Int)) then K (.tup [.c (.d (.int .i64 (0 : Int))), .c (.d (.int .i64 (2 : Int)))]) [.arr none .win a0] else (bif Nat.beq (lp_rise_Next_0 a1 a2 (0 : Int) (0 : Int) (a0.length : Int) a0 (0 : Int)).k 0 then K (.tup [.c (.d (.int .i64 (if (a0.getD ((lp_rise_Next_0 a1 a2 (0 : Int) (0 : Int) (a0.length : Int) a0 (0 : Int)).p21).toNat (ET.z .win)).frm > a1 then (a0.getD ((lp_rise_Next_0 a1 a2 (0 : Int) (0 : Int) (a0.length : Int) a0 (0 : Int)).p21).toNat (ET.z .win)).frm else a1))), .c (.d (.int .i64 (0 : Int)))]) [.arr none .win a0] else (bif Nat.beq (lp_rise_Next_0 a1 a2 (0 : Int) (0 : Int) (a0.length : Int) a0 (0 : Int)).k 1 then K (.tup [.c (.d (.int .i64 (0 : Int))), .c (.d (.int .i64 (6 : Int)))]) [.arr none .win a0] else none)))) else none := by
  kernel_rfl

set_option maxRecDepth 100000 in
/-- rise.Next -/
theorem e_rise_Next (a0 : List Window) (a1 : Int) (a2 : Int) (K : AV → List Blk → Ans) : evFn Try.prog GT EQT T_fringeref07_Meet XT (orL L_rise_Next_0 noL) 80 12 [.v (.c (.aslice 0 none)), .v (.c (.d (.int .i64 a1))), .v (.c (.d (.int .i64 a2)))] [.arr none .win a0] (fun v M => K (finR 1 v M).1 (finR 1 v M).2) = F_rise_Next a0 a1 a2 K (m_rise_Next a0 a1 a2) := by
  refine (w_rise_Next a0 a1 a2 K).trans ?_
  unfold m_rise_Next
  exact (condF (condF rfl (condF rfl (condF rfl (condF rfl rfl)))) rfl)

set_option maxRecDepth 100000 in
theorem lok_rise_Next : ∀ fn c, Try.prog.funcs[12]? = some fn → fn.body = some c → LOKn Try.prog GT gbT 1 (orL L_rise_Next_0 noL) (loopsIn c) := by
  refine LOKn.ofF fun b hb => ?_
  have e : loopsF Try.prog 12 = [loopB Try.prog 12 0] := by kernel_rfl
  rw [e] at hb
  simp only [List.mem_cons, List.not_mem_nil, or_false] at hb
  subst hb
  exact (LOKbn.or k_rise_Next_0 (fun _ _ _ _ _ _ _ h => h.elim))


theorem c_rise_Next (a0 : List Window) (a1 : Int) (a2 : Int) (hd : (m_rise_Next a0 a1 a2).ok = true) : CallsA Try.prog GT gbT 12 [.v (.c (.aslice 0 none)), .v (.c (.d (.int .i64 a1))), .v (.c (.d (.int .i64 a2)))] [.arr none .win a0] (.tup [.c (.d (.int .i64 ((m_rise_Next a0 a1 a2).r0))), .c (.d (.int .i64 ((m_rise_Next a0 a1 a2).r1)))]) [.arr none .win a0] := by
  refine CallsA.ofEvR g_fringeref07_Meet hEQT hmT (n0 := 1) rfl lok_rise_Next ((e_rise_Next a0 a1 a2 (fun v M => some (Res.fin v M))).trans ?_)
  unfold F_rise_Next
  rw [hd]
  rfl

def s_rise_Next : List AV → List Blk → (AV → List Blk → Ans) → Ans := fun xs bs K => match xs, bs with
  | [.v (.c (.aslice 0 none)), .v (.c (.d (.int .i64 a1))), .v (.c (.d (.int .i64 a2)))], [.arr none .win a0] => F_rise_Next a0 a1 a2 K (m_rise_Next a0 a1 a2)
  | _, _ => none

def T_rise_Next : Nat → List AV → List Blk → (AV → List Blk → Ans) → Ans := upd T_fringeref07_Meet 12 s_rise_Next

theorem g_rise_Next : GOK Try.prog GT gbT T_rise_Next XT := by
  refine GOK.upd g_fringeref07_Meet (fun args w => Try.call12 args w) fun xs bs K r h => ?_
  unfold s_rise_Next at h
  split at h
  · unfold F_rise_Next at h
    simp only [cond_eq_ite] at h
    split at h
    · rename_i hd
      exact ⟨_, _, c_rise_Next _ _ _ hd, h⟩
    · cases h
  · cases h

end Go.Ev
