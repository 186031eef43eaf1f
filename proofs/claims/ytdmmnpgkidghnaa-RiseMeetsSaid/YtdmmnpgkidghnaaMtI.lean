/-
  Plain functions that mirror functions of the program, and that it computes them. No condition beyond those of the statements.
-/
import Derived.Test.YtdmmnpgkidghnaaMtH
namespace Go.Ev
open Go Go.Proofs

structure O_fringelaw07_RiseMeets where
  ok : Bool
  r0 : Bool

def m_fringelaw07_RiseMeets (a0 : List Window) (a1 : List Window) (a2 : Int) (a3 : Int) : O_fringelaw07_RiseMeets := bif (m_fringeref07_Great a0).ok then (bif (m_fringeref07_Great a0).r0 then ⟨true, true⟩ else (bif (m_fringeref07_Great a1).ok then (bif (m_fringeref07_Great a1).r0 then ⟨true, true⟩ else (bif (a0.length == 0) then (bif (m_rise_Meet a0 a1).ok then (bif (m_fringeref07_Meet a0 a1).ok then (bif (m_rise_Next a0 a2 a3).ok then (bif (m_fringeref07_Next a0 a2 a3).ok then (bif (m_rise_Check a0).ok then (bif (m_fringeref07_Check a0).ok then (bif ((m_rise_Check a0).r0 == (m_fringeref07_Check a0).r0) then (bif (m_fringeref07_Same ((m_rise_Meet a0 a1).r0) ((m_fringeref07_Meet a0 a1).r0)).ok then (bif (m_fringeref07_Same ((m_rise_Meet a0 a1).r0) ((m_fringeref07_Meet a0 a1).r0)).r0 then (bif ((m_rise_Meet a0 a1).r1 == (m_fringeref07_Meet a0 a1).r1) then (bif ((m_rise_Next a0 a2 a3).r0 == (m_fringeref07_Next a0 a2 a3).r0) then (bif ((m_rise_Next a0 a2 a3).r1 == (m_fringeref07_Next a0 a2 a3).r1) then (bif (m_fringeref07_Same a0 ([] : List Window)).ok then ⟨true, (m_fringeref07_Same a0 ([] : List Window)).r0⟩ else ⟨false, false⟩) else ⟨true, false⟩) else ⟨true, false⟩) else ⟨true, false⟩) else ⟨true, false⟩) else ⟨false, false⟩) else ⟨true, false⟩) else ⟨false, false⟩) else ⟨false, false⟩) else ⟨false, false⟩) else ⟨false, false⟩) else ⟨false, false⟩) else ⟨false, false⟩) else (bif (Nat.blt 0 2 && ((2 == 2) && ((2 == 2) && (Nat.ble (([] : List Window).length + a0.length) roomD && Nat.ble 16 4096)))) then (bif (m_rise_Meet a0 a1).ok then (bif (m_fringeref07_Meet a0 a1).ok then (bif (m_rise_Next a0 a2 a3).ok then (bif (m_fringeref07_Next a0 a2 a3).ok then (bif (m_rise_Check a0).ok then (bif (m_fringeref07_Check a0).ok then (bif ((m_rise_Check a0).r0 == (m_fringeref07_Check a0).r0) then (bif (m_fringeref07_Same ((m_rise_Meet a0 a1).r0) ((m_fringeref07_Meet a0 a1).r0)).ok then (bif (m_fringeref07_Same ((m_rise_Meet a0 a1).r0) ((m_fringeref07_Meet a0 a1).r0)).r0 then (bif ((m_rise_Meet a0 a1).r1 == (m_fringeref07_Meet a0 a1).r1) then (bif ((m_rise_Next a0 a2 a3).r0 == (m_fringeref07_Next a0 a2 a3).r0) then (bif ((m_rise_Next a0 a2 a3).r1 == (m_fringeref07_Next a0 a2 a3).r1) then (bif (m_fringeref07_Same a0 (([] : List Window) ++ a0)).ok then ⟨true, (m_fringeref07_Same a0 (([] : List Window) ++ a0)).r0⟩ else ⟨false, false⟩) else ⟨true, false⟩) else ⟨true, false⟩) else ⟨true, false⟩) else ⟨true, false⟩) else ⟨false, false⟩) else ⟨true, false⟩) else ⟨false, false⟩) else ⟨false, false⟩) else ⟨false, false⟩) else ⟨false, false⟩) else ⟨false, false⟩) else ⟨false, false⟩) else ⟨false, false⟩))) else ⟨false, false⟩)) else ⟨false, false⟩

def F_fringelaw07_RiseMeets (a0 : List Window) (a1 : List Window) (a2 : Int) (a3 : Int) (K : AV → List Blk → Ans) (r : O_fringelaw07_RiseMeets) : Ans := bif r.ok then K (.v (.c (.d (.bool r.r0)))) [.arr none .win a0, .arr none .win a1] else none

set_option maxRecDepth 100000 in
theorem w_fringelaw07_RiseMeets (a0 : List Window) (a1 : List Window) (a2 : Int) (a3 : Int) (K : AV → List Blk → Ans) : evFn Try.prog GT EQT T_fringeref07_Great XT noL 80 4 [.v (.c (.aslice 0 none)), .v (.c (.aslice 1 none)), .v (.c (.d (.int .i64 a2))), .v (.c (.d (.int .i64 a3)))] [.arr none .win a0, .arr none .win a1] (fun v M => K (finR 2 v M).1 (finR 2 v M).2) =
    bif (m_fringeref07_Great a0).ok then (bif (m_fringeref07_Great a0).r0 then K (.v (.c (.d (.bool true)))) [.arr none .win a0, .arr none .win a1] else (bif (m_fringeref07_Great a1).ok then (bif (m_fringeref07_Great a1).r0 then K (.v (.c (.d (.bool true)))) [.arr none .win a0, .arr none .win a1] else (bif (a0.length == 0) then (bif (m_rise_Meet a0 a1).ok then (bif (m_fringeref07_Meet a0 a1).ok then (bif (m_rise_Next a0 a2 a3).ok then (bif (m_fringeref07_Next a0 a2 a3).ok then (bif (m_rise_Check a0).ok then (bif (m_fringeref07_Check a0).ok then (bif ((m_rise_Check a0).r0 == (m_fringeref07_Check a0).r0) then (bif (m_fringeref07_Same ((m_rise_Meet a0 a1).r0) ((m_fringeref07_Meet a0 a1).r0)).ok then (bif (m_fringeref07_Same ((m_rise_Meet a0 a1).r0) ((m_fringeref07_Meet a0 a1).r0)).r0 then (bif ((m_rise_Meet a0 a1).r1 == (m_fringeref07_Meet a0 a1).r1) then (bif ((m_rise_Next a0 a2 a3).r0 == (m_fringeref07_Next a0 a2 a3).r0) then (bif ((m_rise_Next a0 a2 a3).r1 == (m_fringeref07_Next a0 a2 a3).r1) then (bif (m_fringeref07_Same a0 ([] : List Window)).ok then K (.v (.c (.d (.bool ((m_fringeref07_Same a0 ([] : List Window)).r0))))) [.arr none .win a0, .arr none .win a1] else none) else K (.v (.c (.d (.bool false)))) [.arr none .win a0, .arr none .win a1]) else K (.v (.c (.d (.bool false)))) [.arr none .win a0, .arr none .win a1]) else K (.v (.c (.d (.bool false)))) [.arr none .win a0, .arr none .win a1]) else K (.v (.c (.d (.bool false)))) [.arr none .win a0, .arr none .win a1]) else none) else K (.v (.c (.d (.bool false)))) [.arr none .win a0, .arr none .win a1]) else none) else none) else none) else none) else none) else none) else (bif (Nat.blt 0 2 && ((2 == 2) && ((2 == 2) && (Nat.ble (([] : List Window).length + a0.length) roomD && Nat.ble 16 4096)))) then (bif (m_rise_Meet a0 a1).ok then (bif (m_fringeref07_Meet a0 a1).ok then (bif (m_rise_Next a0 a2 a3).ok then (bif (m_fringeref07_Next a0 a2 a3).ok then (bif (m_rise_Check a0).ok then (bif (m_fringeref07_Check a0).ok then (bif ((m_rise_Check a0).r0 == (m_fringeref07_Check a0).r0) then (bif (m_fringeref07_Same ((m_rise_Meet a0 a1).r0) ((m_fringeref07_Meet a0 a1).r0)).ok then (bif (m_fringeref07_Same ((m_rise_Meet a0 a1).r0) ((m_fringeref07_Meet a0 a1).r0)).r0 then (bif ((m_rise_Meet a0 a1).r1 == (m_fringeref07_Meet a0 a1).r1) then (bif ((m_rise_Next a0 a2 a3).r0 == (m_fringeref07_Next a0 a2 a3).r0) then (bif ((m_rise_Next a0 a2 a3).r1 == (m_fringeref07_Next a0 a2 a3).r1) then (bif (m_fringeref07_Same a0 (([] : List Window) ++ a0)).ok then K (.v (.c (.d (.bool ((m_fringeref07_Same a0 (([] : List Window) ++ a0)).r0))))) [.arr none .win a0, .arr none .win a1] else none) else K (.v (.c (.d (.bool false)))) [.arr none .win a0, .arr none .win a1]) else K (.v (.c (.d (.bool false)))) [.arr none .win a0, .arr none .win a1]) else K (.v (.c (.d (.bool false)))) [.arr none .win a0, .arr none .win a1]) else K (.v (.c (.d (.bool false)))) [.arr none .win a0, .arr none .win a1]) else none) else K (.v (.c (.d (.bool false)))) [.arr none .win a0, .arr none .win a1]) else none) else none) else none) else none) else none) else none) else none))) else none)) else none := by
  kernel_rfl

set_option maxRecDepth 100000 in
/-- fringelaw07.RiseMeets -/
theorem e_fringelaw07_RiseMeets (a0 : List Window) (a1 : List Window) (a2 : Int) (a3 : Int) (K : AV → List Blk → Ans) : evFn Try.prog GT EQT T_fringeref07_Great XT noL 80 4 [.v (.c (.aslice 0 none)), .v (.c (.aslice 1 none)), .v (.c (.d (.int .i64 a2))), .v (.c (.d (.int .i64 a3)))] [.arr none .win a0, .arr none .win a1] (fun v M => K (finR 2 v M).1 (finR 2 v M).2) = F_fringelaw07_RiseMeets a0 a1 a2 a3 K (m_fringelaw07_RiseMeets a0 a1 a2 a3) := by
  refine (w_fringelaw07_RiseMeets a0 a1 a2 a3 K).trans ?_
  unfold m_fringelaw07_RiseMeets
  exact (condF (condF rfl (condF (condF rfl (condF (condF (condF (condF (condF (condF (condF (condF (condF (condF (condF (condF (condF (condF rfl rfl) rfl) rfl) rfl) rfl) rfl) rfl) rfl) rfl) rfl) rfl) rfl) rfl) (condF (condF (condF (condF (condF (condF (condF (condF (condF (condF (condF (condF (condF (condF rfl rfl) rfl) rfl) rfl) rfl) rfl) rfl) rfl) rfl) rfl) rfl) rfl) rfl) rfl))) rfl)) rfl)

theorem c_fringelaw07_RiseMeets (a0 : List Window) (a1 : List Window) (a2 : Int) (a3 : Int) (hd : (m_fringelaw07_RiseMeets a0 a1 a2 a3).ok = true) : CallsA Try.prog GT gbT 4 [.v (.c (.aslice 0 none)), .v (.c (.aslice 1 none)), .v (.c (.d (.int .i64 a2))), .v (.c (.d (.int .i64 a3)))] [.arr none .win a0, .arr none .win a1] (.v (.c (.d (.bool ((m_fringelaw07_RiseMeets a0 a1 a2 a3).r0))))) [.arr none .win a0, .arr none .win a1] := by
  refine CallsA.ofEvR g_fringeref07_Great hEQT hmT (n0 := 2) rfl (fun _ _ _ _ => LOKn.nil) ((e_fringelaw07_RiseMeets a0 a1 a2 a3 (fun v M => some (Res.fin v M))).trans ?_)
  unfold F_fringelaw07_RiseMeets
  rw [hd]
  rfl

def s_fringelaw07_RiseMeets : List AV → List Blk → (AV → List Blk → Ans) → Ans := fun xs bs K => match xs, bs with
  | [.v (.c (.aslice 0 none)), .v (.c (.aslice 1 none)), .v (.c (.d (.int .i64 a2))), .v (.c (.d (.int .i64 a3)))], [.arr none .win a0, .arr none .win a1] => F_fringelaw07_RiseMeets a0 a1 a2 a3 K (m_fringelaw07_RiseMeets a0 a1 a2 a3)
  | _, _ => none

def T_fringelaw07_RiseMeets : Nat → List AV → List Blk → (AV → List Blk → Ans) → Ans := upd T_fringeref07_Great 4 s_fringelaw07_RiseMeets

theorem g_fringelaw07_RiseMeets : GOK Try.prog GT gbT T_fringelaw07_RiseMeets XT := by
  refine GOK.upd g_fringeref07_Great (fun args w => Try.call4 args w) fun xs bs K r h => ?_
  unfold s_fringelaw07_RiseMeets at h
  split at h
  · unfold F_fringelaw07_RiseMeets at h
    simp only [cond_eq_ite] at h
    split at h
    · rename_i hd
      exact ⟨_, _, c_fringelaw07_RiseMeets _ _ _ _ hd, h⟩
    · cases h
  · cases h

end Go.Ev
