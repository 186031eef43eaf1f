/-
  Plain functions that mirror functions of the program, and that it computes them. No condition beyond those of the statements.
-/
import Derived.Test.YtdmmnpgkidghnaaMtF
namespace Go.Ev
open Go Go.Proofs

structure R_fringeref07_Same_0 where
  k : Nat
  p5 : Int

def run_fringeref07_Same_0 (p4 : Bool) (m0 : List Window) (m1 : List Window) : Nat → Int → R_fringeref07_Same_0
  | 0, p5 => ⟨2, p5⟩
  | n + 1, p5 => bif decide (p5 < (m0.length : Int)) then (bif (decide ((0 : Int) ≤ p5) && decide (p5 < (m0.length : Int))) then (bif (decide ((0 : Int) ≤ p5) && decide (p5 < (m1.length : Int))) then (bif (!(eqAll [.int .i64 ((m0.getD p5.toNat (ET.z .win)).frm), .int .i64 ((m0.getD p5.toNat (ET.z .win)).too)] [.int .i64 ((m1.getD p5.toNat (ET.z .win)).frm), .int .i64 ((m1.getD p5.toNat (ET.z .win)).too)])) then ⟨0, p5⟩ else run_fringeref07_Same_0 p4 m0 m1 n (w64 (p5 + (1 : Int)))) else ⟨2, p5⟩) else ⟨2, p5⟩) else ⟨1, p5⟩

def lp_fringeref07_Same_0 (p4 : Bool) (m0 : List Window) (m1 : List Window) (p5 : Int) : R_fringeref07_Same_0 := run_fringeref07_Same_0 p4 m0 m1 (2000 + (m0.length + m1.length)) p5

abbrev H_fringeref07_Same_0 (p4 : Bool) (m0 : List Window) (m1 : List Window) (p5 : Int) : TS := headT [0, 1, 4, 5] 26 [.v (.c (.aslice 0 none)), .v (.c (.aslice 1 none)), .v (.c (.d (.bool p4))), .v (.c (.d (.int .i64 p5)))]

set_option maxRecDepth 100000 in
theorem b_fringeref07_Same_0 (p4 : Bool) (m0 : List Window) (m1 : List Window) (p5 : Int) : evCode Try.prog GT EQT T_fringeref07_Next XT noL 80 (loopB Try.prog 16 0) (H_fringeref07_Same_0 p4 m0 m1 p5) [.arr none .win m0, .arr none .win m1] 2 (normK 2 [0, 1, 4, 5]) =
    bif decide (p5 < (m0.length : Int)) then (bif (decide ((0 : Int) ≤ p5) && decide (p5 < (m0.length : Int))) then (bif (decide ((0 : Int) ≤ p5) && decide (p5 < (m1.length : Int))) then (bif (!(eqAll [.int .i64 ((m0.getD p5.toNat (ET.z .win)).frm), .int .i64 ((m0.getD p5.toNat (ET.z .win)).too)] [.int .i64 ((m1.getD p5.toNat (ET.z .win)).frm), .int .i64 ((m1.getD p5.toNat (ET.z .win)).too)])) then some (.st .ret (headT [0, 1, 4, 5] 26 [.v (.c (.aslice 0 none)), .v (.c (.aslice 1 none)), .v (.c (.d (.bool false))), .v (.c (.d (.int .i64 p5)))]) [.arr none .win m0, .arr none .win m1] 2) else some (.st .normal (headT [0, 1, 4, 5] 26 [.v (.c (.aslice 0 none)), .v (.c (.aslice 1 none)), .v (.c (.d (.bool p4))), .v (.c (.d (.int .i64 (w64 (p5 + (1 : Int))))))]) [.arr none .win m0, .arr none .win m1] 2)) else none) else none) else some (.st (.exit 0) (headT [0, 1, 4, 5] 26 [.v (.c (.aslice 0 none)), .v (.c (.aslice 1 none)), .v (.c (.d (.bool p4))), .v (.c (.d (.int .i64 p5)))]) [.arr none .win m0, .arr none .win m1] 2) := by
  kernel_rfl

def o_fringeref07_Same_0 (p4 : Bool) (m0 : List Window) (m1 : List Window) (r : R_fringeref07_Same_0) : LT := .br (Nat.beq r.k 0) (.st .ret (headT [0, 1, 4, 5] 26 [.v (.c (.aslice 0 none)), .v (.c (.aslice 1 none)), .v (.c (.d (.bool false))), .v (.c (.d (.int .i64 r.p5)))]) [.arr none .win m0, .arr none .win m1] 2) (.br (Nat.beq r.k 1) (.st (.exit 0) (headT [0, 1, 4, 5] 26 [.v (.c (.aslice 0 none)), .v (.c (.aslice 1 none)), .v (.c (.d (.bool p4))), .v (.c (.d (.int .i64 r.p5)))]) [.arr none .win m0, .arr none .win m1] 2) (.no))

set_option maxRecDepth 100000 in
theorem r_fringeref07_Same_0 (p4 : Bool) (m0 : List Window) (m1 : List Window) : ∀ (n : Nat) (p5 : Int) (x : Ex) (T' : TS) (M' : List Blk) (N' : Nat), LReach (o_fringeref07_Same_0 p4 m0 m1 (run_fringeref07_Same_0 p4 m0 m1 n p5)) x T' M' N' → x ≠ .normal ∧ ∃ j, RoundsN Try.prog GT gbT 2 (loopB Try.prog 16 0) j (H_fringeref07_Same_0 p4 m0 m1 p5) [.arr none .win m0, .arr none .win m1] 2 x T' M' N' := by
  have hL : LOKn Try.prog GT gbT 2 noL (loopsIn (loopB Try.prog 16 0)) := fun _ _ _ _ _ _ _ _ _ h => h.elim
  intro n
  induction n with
  | zero =>
    intro p5 x T' M' N' hr
    exact False.elim (redF (redF hr))
  | succ n ih =>
    intro p5 x T' M' N'
    rw [run_fringeref07_Same_0]
    exact viaE (b_fringeref07_Same_0 p4 m0 m1 p5) (condG (o := o_fringeref07_Same_0 p4 m0 m1) (condG (o := o_fringeref07_Same_0 p4 m0 m1) (condG (o := o_fringeref07_Same_0 p4 m0 m1) (condG (o := o_fringeref07_Same_0 p4 m0 m1) (fun he hr => stopN g_fringeref07_Next hEQT hmT hL he (by simp) (redT hr)) (fun he hr => goN g_fringeref07_Next hEQT hmT hL he (ih (w64 (p5 + (1 : Int))) x T' M' N' hr))) (fun _ hr => False.elim (redF (redF hr)))) (fun _ hr => False.elim (redF (redF hr)))) (fun he hr => stopN g_fringeref07_Next hEQT hmT hL he (by simp) (redT (redF hr))))

def f_fringeref07_Same_0 : List AV → List Blk → LT := fun vs Ms => match vs, Ms with
  | [.v (.c (.aslice 0 none)), .v (.c (.aslice 1 none)), .v (.c (.d (.bool p4))), .v (.c (.d (.int .i64 p5)))], [.arr none .win m0, .arr none .win m1] => o_fringeref07_Same_0 p4 m0 m1 (lp_fringeref07_Same_0 p4 m0 m1 p5)
  | _, _ => .no

def L_fringeref07_Same_0 := LamN 4 26 2 [0, 1, 4, 5] f_fringeref07_Same_0

set_option maxRecDepth 100000 in
theorem k_fringeref07_Same_0 : LOKbn Try.prog GT gbT 2 L_fringeref07_Same_0 (loopB Try.prog 16 0) := by
  refine LOKbn.lamN (by kernel_rfl) fun vs Ms x T' M' N' hr => ?_
  unfold f_fringeref07_Same_0 at hr
  split at hr
  · obtain ⟨q1, j, q2⟩ := r_fringeref07_Same_0 _ _ _ _ _ x T' M' N' hr
    exact ⟨q1, j, q2⟩
  · exact hr.elim

structure O_fringeref07_Same where
  ok : Bool
  r0 : Bool

def m_fringeref07_Same (a0 : List Window) (a1 : List Window) : O_fringeref07_Same := bif ((a0.length : Int) != (a1.length : Int)) then ⟨true, false⟩ else (bif Nat.beq (lp_fringeref07_Same_0 false a0 a1 (0 : Int)).k 0 then ⟨true, false⟩ else (bif Nat.beq (lp_fringeref07_Same_0 false a0 a1 (0 : Int)).k 1 then ⟨true, true⟩ else ⟨false, false⟩))

def F_fringeref07_Same (a0 : List Window) (a1 : List Window) (K : AV → List Blk → Ans) (r : O_fringeref07_Same) : Ans := bif r.ok then K (.v (.c (.d (.bool r.r0)))) [.arr none .win a0, .arr none .win a1] else none

set_option maxRecDepth 100000 in
theorem w_fringeref07_Same (a0 : List Window) (a1 : List Window) (K : AV → List Blk → Ans) : evFn Try.prog GT EQT T_fringeref07_Next XT (orL L_fringeref07_Same_0 noL) 80 16 [.v (.c (.aslice 0 none)), .v (.c (.aslice 1 none))] [.arr none .win a0, .arr none .win a1] (fun v M => K (finR 2 v M).1 (finR 2 v M).2) =
    bif ((a0.length : Int) != (a1.length : Int)) then K (.v (.c (.d (.bool false)))) [.arr none .win a0, .arr none .win a1] else (bif Nat.beq (lp_fringeref07_Same_0 false a0 a1 (0 : Int)).k 0 then K (.v (.c (.d (.bool false)))) [.arr none .win a0, .arr none .win a1] else (bif Nat.beq (lp_fringeref07_Same_0 false a0 a1 (0 : Int)).k 1 then K (.v (.c (.d (.bool true)))) [.arr none .win a0, .arr none .win a1] else none)) := by
  kernel_rfl

set_option maxRecDepth 100000 in
/-- fringeref07.Same -/
theorem e_fringeref07_Same (a0 : List Window) (a1 : List Window) (K : AV → List Blk → Ans) : evFn Try.prog GT EQT T_fringeref07_Next XT (orL L_fringeref07_Same_0 noL) 80 16 [.v (.c (.aslice 0 none)), .v (.c (.aslice 1 none))] [.arr none .win a0, .arr none .win a1] (fun v M => K (finR 2 v M).1 (finR 2 v M).2) = F_fringeref07_Same a0 a1 K (m_fringeref07_Same a0 a1) := by
  refine (w_fringeref07_Same a0 a1 K).trans ?_
  unfold m_fringeref07_Same
  exact (condF rfl (condF rfl (condF rfl rfl)))

set_option maxRecDepth 100000 in
theorem lok_fringeref07_Same : ∀ fn c, Try.prog.funcs[16]? = some fn → fn.body = some c → LOKn Try.prog GT gbT 2 (orL L_fringeref07_Same_0 noL) (loopsIn c) := by
  refine LOKn.ofF fun b hb => ?_
  have e : loopsF Try.prog 16 = [loopB Try.prog 16 0] := by kernel_rfl
  rw [e] at hb
  simp only [List.mem_cons, List.not_mem_nil, or_false] at hb
  subst hb
  exact (LOKbn.or k_fringeref07_Same_0 (fun _ _ _ _ _ _ _ h => h.elim))


theorem c_fringeref07_Same (a0 : List Window) (a1 : List Window) (hd : (m_fringeref07_Same a0 a1).ok = true) : CallsA Try.prog GT gbT 16 [.v (.c (.aslice 0 none)), .v (.c (.aslice 1 none))] [.arr none .win a0, .arr none .win a1] (.v (.c (.d (.bool ((m_fringeref07_Same a0 a1).r0))))) [.arr none .win a0, .arr none .win a1] := by
  refine CallsA.ofEvR g_fringeref07_Next hEQT hmT (n0 := 2) rfl lok_fringeref07_Same ((e_fringeref07_Same a0 a1 (fun v M => some (Res.fin v M))).trans ?_)
  unfold F_fringeref07_Same
  rw [hd]
  rfl

def s_fringeref07_Same : List AV → List Blk → (AV → List Blk → Ans) → Ans := fun xs bs K => match xs, bs with
  | [.v (.c (.aslice 0 none)), .v (.c (.aslice 1 none))], [.arr none .win a0, .arr none .win a1] => F_fringeref07_Same a0 a1 K (m_fringeref07_Same a0 a1)
  | _, _ => none

def T_fringeref07_Same : Nat → List AV → List Blk → (AV → List Blk → Ans) → Ans := upd T_fringeref07_Next 16 s_fringeref07_Same

theorem g_fringeref07_Same : GOK Try.prog GT gbT T_fringeref07_Same XT := by
  refine GOK.upd g_fringeref07_Next (fun args w => Try.call16 args w) fun xs bs K r h => ?_
  unfold s_fringeref07_Same at h
  split at h
  · unfold F_fringeref07_Same at h
    simp only [cond_eq_ite] at h
    split at h
    · rename_i hd
      exact ⟨_, _, c_fringeref07_Same _ _ hd, h⟩
    · cases h
  · cases h

end Go.Ev
