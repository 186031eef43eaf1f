/-
  Plain functions that mirror functions of the program, and that it computes them. No condition beyond those of the statements.
-/
import Derived.Test.YtdmmnpgkidghnaaMtTab
namespace Go.Ev
open Go Go.Proofs

structure R_rise_Check_0 where
  k : Nat
  p10 : Int

def run_rise_Check_0 (p2 : Int) (p9 : Int) (m0 : List Window) : Nat → Int → R_rise_Check_0
  | 0, p10 => ⟨2, p10⟩
  | n + 1, p10 => bif decide (p10 < p9) then (bif (decide ((0 : Int) ≤ p10) && decide (p10 < (m0.length : Int))) then (bif decide ((m0.getD p10.toNat (ET.z .win)).too ≤ (m0.getD p10.toNat (ET.z .win)).frm) then ⟨0, p10⟩ else (bif decide ((0 : Int) < p10) then (bif (decide ((0 : Int) ≤ (w64 (p10 - (1 : Int)))) && decide ((w64 (p10 - (1 : Int))) < (m0.length : Int))) then (bif decide ((m0.getD p10.toNat (ET.z .win)).frm ≤ (m0.getD ((w64 (p10 - (1 : Int))).toNat) (ET.z .win)).too) then ⟨0, p10⟩ else run_rise_Check_0 p2 p9 m0 n (w64 (p10 + (1 : Int)))) else ⟨2, p10⟩) else run_rise_Check_0 p2 p9 m0 n (w64 (p10 + (1 : Int))))) else ⟨2, p10⟩) else ⟨1, p10⟩

def lp_rise_Check_0 (p2 : Int) (p9 : Int) (m0 : List Window) (p10 : Int) : R_rise_Check_0 := run_rise_Check_0 p2 p9 m0 (2000 + (m0.length)) p10

abbrev H_rise_Check_0 (p2 : Int) (p9 : Int) (m0 : List Window) (p10 : Int) : TS := headT [0, 2, 8, 9, 10] 36 [.v (.c (.aslice 0 none)), .v (.c (.d (.int .i64 p2))), .v (.c (.aslice 0 none)), .v (.c (.d (.int .i64 p9))), .v (.c (.d (.int .i64 p10)))]

set_option maxRecDepth 100000 in
theorem b_rise_Check_0 (p2 : Int) (p9 : Int) (m0 : List Window) (p10 : Int) : evCode Try.prog GT EQT T0 XT noL 80 (loopB Try.prog 14 0) (H_rise_Check_0 p2 p9 m0 p10) [.arr none .win m0] 1 (normK 1 [0, 2, 8, 9, 10]) =
    bif decide (p10 < p9) then (bif (decide ((0 : Int) ≤ p10) && decide (p10 < (m0.length : Int))) then (bif decide ((m0.getD p10.toNat (ET.z .win)).too ≤ (m0.getD p10.toNat (ET.z .win)).frm) then some (.st .ret (headT [0, 2, 8, 9, 10] 36 [.v (.c (.aslice 0 none)), .v (.c (.d (.int .i64 (8 : Int)))), .v (.c (.aslice 0 none)), .v (.c (.d (.int .i64 p9))), .v (.c (.d (.int .i64 p10)))]) [.arr none .win m0] 1) else (bif decide ((0 : Int) < p10) then (bif (decide ((0 : Int) ≤ (w64 (p10 - (1 : Int)))) && decide ((w64 (p10 - (1 : Int))) < (m0.length : Int))) then (bif decide ((m0.getD p10.toNat (ET.z .win)).frm ≤ (m0.getD ((w64 (p10 - (1 : Int))).toNat) (ET.z .win)).too) then some (.st .ret (headT [0, 2, 8, 9, 10] 36 [.v (.c (.aslice 0 none)), .v (.c (.d (.int .i64 (8 : Int)))), .v (.c (.aslice 0 none)), .v (.c (.d (.int .i64 p9))), .v (.c (.d (.int .i64 p10)))]) [.arr none .win m0] 1) else some (.st .normal (headT [0, 2, 8, 9, 10] 36 [.v (.c (.aslice 0 none)), .v (.c (.d (.int .i64 p2))), .v (.c (.aslice 0 none)), .v (.c (.d (.int .i64 p9))), .v (.c (.d (.int .i64 (w64 (p10 + (1 : Int))))))]) [.arr none .win m0] 1)) else none) else some (.st .normal (headT [0, 2, 8, 9, 10] 36 [.v (.c (.aslice 0 none)), .v (.c (.d (.int .i64 p2))), .v (.c (.aslice 0 none)), .v (.c (.d (.int .i64 p9))), .v (.c (.d (.int .i64 (w64 (p10 + (1 : Int))))))]) [.arr none .win m0] 1))) else none) else some (.st (.exit 0) (headT [0, 2, 8, 9, 10] 36 [.v (.c (.aslice 0 none)), .v (.c (.d (.int .i64 p2))), .v (.c (.aslice 0 none)), .v (.c (.d (.int .i64 p9))), .v (.c (.d (.int .i64 p10)))]) [.arr none .win m0] 1) := by
  kernel_rfl

def o_rise_Check_0 (p2 : Int) (p9 : Int) (m0 : List Window) (r : R_rise_Check_0) : LT := .br (Nat.beq r.k 0) (.st .ret (headT [0, 2, 8, 9, 10] 36 [.v (.c (.aslice 0 none)), .v (.c (.d (.int .i64 (8 : Int)))), .v (.c (.aslice 0 none)), .v (.c (.d (.int .i64 p9))), .v (.c (.d (.int .i64 r.p10)))]) [.arr none .win m0] 1) (.br (Nat.beq r.k 1) (.st (.exit 0) (headT [0, 2, 8, 9, 10] 36 [.v (.c (.aslice 0 none)), .v (.c (.d (.int .i64 p2))), .v (.c (.aslice 0 none)), .v (.c (.d (.int .i64 p9))), .v (.c (.d (.int .i64 r.p10)))]) [.arr none .win m0] 1) (.no))

set_option maxRecDepth 100000 in
theorem r_rise_Check_0 (p2 : Int) (p9 : Int) (m0 : List Window) : ∀ (n : Nat) (p10 : Int) (x : Ex) (T' : TS) (M' : List Blk) (N' : Nat), LReach (o_rise_Check_0 p2 p9 m0 (run_rise_Check_0 p2 p9 m0 n p10)) x T' M' N' → x ≠ .normal ∧ ∃ j, RoundsN Try.prog GT gbT 1 (loopB Try.prog 14 0) j (H_rise_Check_0 p2 p9 m0 p10) [.arr none .win m0] 1 x T' M' N' := by
  have hL : LOKn Try.prog GT gbT 1 noL (loopsIn (loopB Try.prog 14 0)) := fun _ _ _ _ _ _ _ _ _ h => h.elim
  intro n
  induction n with
  | zero =>
    intro p10 x T' M' N' hr
    exact False.elim (redF (redF hr))
  | succ n ih =>
    intro p10 x T' M' N'
    rw [run_rise_Check_0]
    exact viaE (b_rise_Check_0 p2 p9 m0 p10) (condG (o := o_rise_Check_0 p2 p9 m0) (condG (o := o_rise_Check_0 p2 p9 m0) (condG (o := o_rise_Check_0 p2 p9 m0) (fun he hr => stopN g0 hEQT hmT hL he (by simp) (redT hr)) (condG (o := o_rise_Check_0 p2 p9 m0) (condG (o := o_rise_Check_0 p2 p9 m0) (condG (o := o_rise_Check_0 p2 p9 m0) (fun he hr => stopN g0 hEQT hmT hL he (by simp) (redT hr)) (fun he hr => goN g0 hEQT hmT hL he (ih (w64 (p10 + (1 : Int))) x T' M' N' hr))) (fun _ hr => False.elim (redF (redF hr)))) (fun he hr => goN g0 hEQT hmT hL he (ih (w64 (p10 + (1 : Int))) x T' M' N' hr)))) (fun _ hr => False.elim (redF (redF hr)))) (fun he hr => stopN g0 hEQT hmT hL he (by simp) (redT (redF hr))))

def f_rise_Check_0 : List AV → List Blk → LT := fun vs Ms => match vs, Ms with
  | [.v (.c (.aslice 0 none)), .v (.c (.d (.int .i64 p2))), .v (.c (.aslice 0 none)), .v (.c (.d (.int .i64 p9))), .v (.c (.d (.int .i64 p10)))], [.arr none .win m0] => o_rise_Check_0 p2 p9 m0 (lp_rise_Check_0 p2 p9 m0 p10)
  | _, _ => .no

def L_rise_Check_0 := LamN 4 36 1 [0, 2, 8, 9, 10] f_rise_Check_0

set_option maxRecDepth 100000 in
theorem k_rise_Check_0 : LOKbn Try.prog GT gbT 1 L_rise_Check_0 (loopB Try.prog 14 0) := by
  refine LOKbn.lamN (by kernel_rfl) fun vs Ms x T' M' N' hr => ?_
  unfold f_rise_Check_0 at hr
  split at hr
  · obtain ⟨q1, j, q2⟩ := r_rise_Check_0 _ _ _ _ _ x T' M' N' hr
    exact ⟨q1, j, q2⟩
  · exact hr.elim

structure O_rise_Check where
  ok : Bool
  r0 : Int

def m_rise_Check (a0 : List Window) : O_rise_Check := bif decide ((1000 : Int) < (a0.length : Int)) then ⟨true, (4 : Int)⟩ else (bif Nat.beq (lp_rise_Check_0 (0 : Int) (a0.length : Int) a0 (0 : Int)).k 0 then ⟨true, (8 : Int)⟩ else (bif Nat.beq (lp_rise_Check_0 (0 : Int) (a0.length : Int) a0 (0 : Int)).k 1 then ⟨true, (0 : Int)⟩ else ⟨false, 0⟩))

def F_rise_Check (a0 : List Window) (K : AV → List Blk → Ans) (r : O_rise_Check) : Ans := bif r.ok then K (.v (.c (.d (.int .i64 r.r0)))) [.arr none .win a0] else none

set_option maxRecDepth 100000 in
theorem w_rise_Check (a0 : List Window) (K : AV → List Blk → Ans) : evFn Try.prog GT EQT T0 XT (orL L_rise_Check_0 noL) 80 14 [.v (.c (.aslice 0 none))] [.arr none .win a0] (fun v M => K (finR 1 v M).1 (finR 1 v M).2) =
    bif decide ((1000 : Int) < (a0.length : Int)) then K (.v (.c (.d (.int .i64 (4 : Int))))) [.arr none .win a0] else (bif Nat.beq (lp_rise_Check_0 (0 : Int) (a0.length : Int) a0 (0 : Int)).k 0 then K (.v (.c (.d (.int .i64 (8 : Int))))) [.arr none .win a0] else (bif Nat.beq (lp_rise_Check_0 (0 : Int) (a0.length : Int) a0 (0 : Int)).k 1 then K (.v (.c (.d (.int .i64 (0 : Int))))) [.arr none .win a0] else none)) := by
  kernel_rfl

set_option maxRecDepth 100000 in
/-- rise.Check -/
theorem e_rise_Check (a0 : List Window) (K : AV → List Blk → Ans) : evFn Try.prog GT EQT T0 XT (orL L_rise_Check_0 noL) 80 14 [.v (.c (.aslice 0 none))] [.arr none .win a0] (fun v M => K (finR 1 v M).1 (finR 1 v M).2) = F_rise_Check a0 K (m_rise_Check a0) := by
  refine (w_rise_Check a0 K).trans ?_
  unfold m_rise_Check
  exact (condF rfl (condF rfl (condF rfl rfl)))

set_option maxRecDepth 100000 in
theorem lok_rise_Check : ∀ fn c, Try.prog.funcs[14]? = some fn → fn.body = some c → LOKn Try.prog GT gbT 1 (orL L_rise_Check_0 noL) (loopsIn c) := by
  refine LOKn.ofF fun b hb => ?_
  have e : loopsF Try.prog 14 = [loopB Try.prog 14 0] := by kernel_rfl
  rw [e] at hb
  simp only [List.mem_cons, List.not_mem_nil, or_false] at hb
  subst hb
  exact (LOKbn.or k_rise_Check_0 (fun _ _ _ _ _ _ _ h => h.elim))


theorem c_rise_Check (a0 : List Window) (hd : (m_rise_Check a0).ok = true) : CallsA Try.prog GT gbT 14 [.v (.c (.aslice 0 none))] [.arr none .win a0] (.v (.c (.d (.int .i64 ((m_rise_Check a0).r0))))) [.arr none .win a0] := by
  refine CallsA.ofEvR g0 hEQT hmT (n0 := 1) rfl lok_rise_Check ((e_rise_Check a0 (fun v M => some (Res.fin v M))).trans ?_)
  unfold F_rise_Check
  rw [hd]
  rfl

def s_rise_Check : List AV → List Blk → (AV → List Blk → Ans) → Ans := fun xs bs K => match xs, bs with
  | [.v (.c (.aslice 0 none))], [.arr none .win a0] => F_rise_Check a0 K (m_rise_Check a0)
  | _, _ => none

def T_rise_Check : Nat → List AV → List Blk → (AV → List Blk → Ans) → Ans := upd T0 14 s_rise_Check

theorem g_rise_Check : GOK Try.prog GT gbT T_rise_Check XT := by
  refine GOK.upd g0 (fun args w => Try.call14 args w) fun xs bs K r h => ?_
  unfold s_rise_Check at h
  split at h
  · unfold F_rise_Check at h
    simp only [cond_eq_ite] at h
    split at h
    · rename_i hd
      exact ⟨_, _, c_rise_Check _ hd, h⟩
    · cases h
  · cases h

end Go.Ev
