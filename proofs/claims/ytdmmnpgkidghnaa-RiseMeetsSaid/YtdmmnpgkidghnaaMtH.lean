/-
  Plain functions that mirror functions of the program, and that it computes them. No condition beyond those of the statements.
-/
import Derived.Test.YtdmmnpgkidghnaaMtG
namespace Go.Ev
open Go Go.Proofs

structure O_fringeref07_Great where
  ok : Bool
  r0 : Bool

def m_fringeref07_Great (a0 : List Window) : O_fringeref07_Great := bif decide ((40 : Int) < (a0.length : Int)) then (bif decide ((a0.length : Int) ≤ (1000 : Int)) then ⟨true, true⟩ else ⟨true, decide ((1010 : Int) < (a0.length : Int))⟩) else ⟨true, decide ((1010 : Int) < (a0.length : Int))⟩

def F_fringeref07_Great (a0 : List Window) (K : AV → List Blk → Ans) (r : O_fringeref07_Great) : Ans := bif r.ok then K (.v (.c (.d (.bool r.r0)))) [.arr none .win a0] else none

set_option maxRecDepth 100000 in
theorem w_fringeref07_Great (a0 : List Window) (K : AV → List Blk → Ans) : evFn Try.prog GT EQT T_fringeref07_Same XT noL 80 9 [.v (.c (.aslice 0 none))] [.arr none .win a0] (fun v M => K (finR 1 v M).1 (finR 1 v M).2) =
    bif decide ((40 : Int) < (a0.length : Int)) then (bif decide ((a0.length : Int) ≤ (1000 : Int)) then K (.v (.c (.d (.bool true)))) [.arr none .win a0] else K (.v (.c (.d (.bool (decide ((1010 : Int) < (a0.length : Int))))))) [.arr none .win a0]) else K (.v (.c (.d (.bool (decide ((1010 : Int) < (a0.length : Int))))))) [.arr none .win a0] := by
  kernel_rfl

set_option maxRecDepth 100000 in
/-- fringeref07.Great -/
theorem e_fringeref07_Great (a0 : List Window) (K : AV → List Blk → Ans) : evFn Try.prog GT EQT T_fringeref07_Same XT noL 80 9 [.v (.c (.aslice 0 none))] [.arr none .win a0] (fun v M => K (finR 1 v M).1 (finR 1 v M).2) = F_fringeref07_Great a0 K (m_fringeref07_Great a0) := by
  refine (w_fringeref07_Great a0 K).trans ?_
  unfold m_fringeref07_Great
  exact (condF (condF rfl rfl) rfl)

theorem c_fringeref07_Great (a0 : List Window) (hd : (m_fringeref07_Great a0).ok = true) : CallsA Try.prog GT gbT 9 [.v (.c (.aslice 0 none))] [.arr none .win a0] (.v (.c (.d (.bool ((m_fringeref07_Great a0).r0))))) [.arr none .win a0] := by
  refine CallsA.ofEvR g_fringeref07_Same hEQT hmT (n0 := 1) rfl (fun _ _ _ _ => LOKn.nil) ((e_fringeref07_Great a0 (fun v M => some (Res.fin v M))).trans ?_)
  unfold F_fringeref07_Great
  rw [hd]
  rfl

def s_fringeref07_Great : List AV → List Blk → (AV → List Blk → Ans) → Ans := fun xs bs K => match xs, bs with
  | [.v (.c (.aslice 0 none))], [.arr none .win a0] => F_fringeref07_Great a0 K (m_fringeref07_Great a0)
  | _, _ => none

def T_fringeref07_Great : Nat → List AV → List Blk → (AV → List Blk → Ans) → Ans := upd T_fringeref07_Same 9 s_fringeref07_Great

theorem g_fringeref07_Great : GOK Try.prog GT gbT T_fringeref07_Great XT := by
  refine GOK.upd g_fringeref07_Same (fun args w => Try.call9 args w) fun xs bs K r h => ?_
  unfold s_fringeref07_Great at h
  split at h
  · unfold F_fringeref07_Great at h
    simp only [cond_eq_ite] at h
    split at h
    · rename_i hd
      exact ⟨_, _, c_fringeref07_Great _ hd, h⟩
    · cases h
  · cases h

end Go.Ev
