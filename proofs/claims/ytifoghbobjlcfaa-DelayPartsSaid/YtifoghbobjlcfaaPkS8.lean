/-
  Plain functions that mirror functions of the program, and that it computes them. No condition beyond those of the statements.
  Nothing is said here.
  Delays in parts: whole samples and the rest. No condition.
  Joining parts; the law DelayParts. No condition.
-/
import Derived.Test.YtifoghbobjlcfaaPkS7
set_option maxRecDepth 100000
namespace Go.Ev
open Go Go.Proofs
structure O_Q9_Part where
  ok : Bool
  r0 : Bool
def m_Q9_Part (a0 : Span) : O_Q9_Part := bif decide (a0.lo ≤ a0.hi) then (bif decide ((-500000 : Int) ≤ a0.lo) then ⟨true, decide (a0.hi < (500000 : Int))⟩ else ⟨true, false⟩) else ⟨true, false⟩
def F_Q9_Part (_a0 : Span) (K : AV → List Blk → Ans) (r : O_Q9_Part) : Ans := bif r.ok then K (.v (.c (.d (.bool r.r0)))) [] else none
theorem e_Q9_Part (a0 : Span) (K : AV → List Blk → Ans) : evFn Try.prog GT EQT T_delay_Join XT noL 80 15 [.v (.agg [.int .i64 a0.lo, .int .i64 a0.hi])] [] (fun v M => K (finR 0 v M).1 (finR 0 v M).2) = F_Q9_Part a0 K (m_Q9_Part a0) := by
  unfold m_Q9_Part
  refine Eq.trans ?_ (Eq.symm (pushT (pushT rfl rfl) rfl))
  kernel_rfl
theorem c_Q9_Part (a0 : Span) (hd : (m_Q9_Part a0).ok = true) : CallsA Try.prog GT gbT 15 [.v (.agg [.int .i64 a0.lo, .int .i64 a0.hi])] [] (.v (.c (.d (.bool ((m_Q9_Part a0).r0))))) [] := by
  refine CallsA.ofEvR g_delay_Join hEQT hmT (n0 := 0) rfl (fun _ _ _ _ => LOKn.nil) ((e_Q9_Part a0 (fun v M => some (Res.fin v M))).trans ?_)
  unfold F_Q9_Part
  rw [hd]
  rfl
def s_Q9_Part : List AV → List Blk → (AV → List Blk → Ans) → Ans := fun xs bs K => match xs, bs with
  | [.v (.agg [.int .i64 a0_0, .int .i64 a0_1])], [] => F_Q9_Part (⟨a0_0, a0_1⟩ : Span) K (m_Q9_Part (⟨a0_0, a0_1⟩ : Span))
  | _, _ => none
def T_Q9_Part : Nat → List AV → List Blk → (AV → List Blk → Ans) → Ans := upd T_delay_Join 15 s_Q9_Part
theorem g_Q9_Part : GOK Try.prog GT gbT T_Q9_Part XT := by
  refine GOK.upd g_delay_Join (fun args w => Try.call15 args w) fun xs bs K r h => ?_
  unfold s_Q9_Part at h
  split at h
  · unfold F_Q9_Part at h
    simp only [cond_eq_ite] at h
    split at h
    · rename_i hd
      exact ⟨_, _, c_Q9_Part _ hd, h⟩
    · cases h
  · cases h
structure O_W9_alive where
  ok : Bool
  r0 : Bool
def m_W9_alive : O_W9_alive := bif (m_delay_Of ⟨(5 : Int), (5 : Int)⟩ ([⟨(ByteArray.mk #[97]), ⟨(0 : Int), (1 : Int)⟩, ⟨(0 : Int), (1 : Int)⟩⟩, ⟨(ByteArray.mk #[98]), ⟨(0 : Int), (1 : Int)⟩, ⟨(1 : Int), (1 : Int)⟩⟩] : List Site) (0 : Int) (1 : Int) ⟨(ByteArray.mk #[115]), (0 : Int), (0 : Int)⟩ (0 : Int) ⟨(3 : Int), (2 : Int)⟩).ok then (bif (m_delay_Split ((m_delay_Of ⟨(5 : Int), (5 : Int)⟩ ([⟨(ByteArray.mk #[97]), ⟨(0 : Int), (1 : Int)⟩, ⟨(0 : Int), (1 : Int)⟩⟩, ⟨(ByteArray.mk #[98]), ⟨(0 : Int), (1 : Int)⟩, ⟨(1 : Int), (1 : Int)⟩⟩] : List Site) (0 : Int) (1 : Int) ⟨(ByteArray.mk #[115]), (0 : Int), (0 : Int)⟩ (0 : Int) ⟨(3 : Int), (2 : Int)⟩).r0)).ok then (bif (m_delay_Split ⟨(1200000 : Int), (1400000 : Int)⟩).ok then (bif (m_delay_Split ⟨(1400000 : Int), (1600000 : Int)⟩).ok then (bif ((m_delay_Of ⟨(5 : Int), (5 : Int)⟩ ([⟨(ByteArray.mk #[97]), ⟨(0 : Int), (1 : Int)⟩, ⟨(0 : Int), (1 : Int)⟩⟩, ⟨(ByteArray.mk #[98]), ⟨(0 : Int), (1 : Int)⟩, ⟨(1 : Int), (1 : Int)⟩⟩] : List Site) (0 : Int) (1 : Int) ⟨(ByteArray.mk #[115]), (0 : Int), (0 : Int)⟩ (0 : Int) ⟨(3 : Int), (2 : Int)⟩).r1 == (0 : Int)) then (bif eqAll [.int .i64 (((m_delay_Of ⟨(5 : Int), (5 : Int)⟩ ([⟨(ByteArray.mk #[97]), ⟨(0 : Int), (1 : Int)⟩, ⟨(0 : Int), (1 : Int)⟩⟩, ⟨(ByteArray.mk #[98]), ⟨(0 : Int), (1 : Int)⟩, ⟨(1 : Int), (1 : Int)⟩⟩] : List Site) (0 : Int) (1 : Int) ⟨(ByteArray.mk #[115]), (0 : Int), (0 : Int)⟩ (0 : Int) ⟨(3 : Int), (2 : Int)⟩).r0).lo), .int .i64 (((m_delay_Of ⟨(5 : Int), (5 : Int)⟩ ([⟨(ByteArray.mk #[97]), ⟨(0 : Int), (1 : Int)⟩, ⟨(0 : Int), (1 : Int)⟩⟩, ⟨(ByteArray.mk #[98]), ⟨(0 : Int), (1 : Int)⟩, ⟨(1 : Int), (1 : Int)⟩⟩] : List Site) (0 : Int) (1 : Int) ⟨(ByteArray.mk #[115]), (0 : Int), (0 : Int)⟩ (0 : Int) ⟨(3 : Int), (2 : Int)⟩).r0).hi)] [.int .i64 (-7500000 : Int), .int .i64 (-7500000 : Int)] then (bif ((m_delay_Split ((m_delay_Of ⟨(5 : Int), (5 : Int)⟩ ([⟨(ByteArray.mk #[97]), ⟨(0 : Int), (1 : Int)⟩, ⟨(0 : Int), (1 : Int)⟩⟩, ⟨(ByteArray.mk #[98]), ⟨(0 : Int), (1 : Int)⟩, ⟨(1 : Int), (1 : Int)⟩⟩] : List Site) (0 : Int) (1 : Int) ⟨(ByteArray.mk #[115]), (0 : Int), (0 : Int)⟩ (0 : Int) ⟨(3 : Int), (2 : Int)⟩).r0)).r1 == (0 : Int)) then (bif eqAll [.int .i64 (((m_delay_Split ((m_delay_Of ⟨(5 : Int), (5 : Int)⟩ ([⟨(ByteArray.mk #[97]), ⟨(0 : Int), (1 : Int)⟩, ⟨(0 : Int), (1 : Int)⟩⟩, ⟨(ByteArray.mk #[98]), ⟨(0 : Int), (1 : Int)⟩, ⟨(1 : Int), (1 : Int)⟩⟩] : List Site) (0 : Int) (1 : Int) ⟨(ByteArray.mk #[115]), (0 : Int), (0 : Int)⟩ (0 : Int) ⟨(3 : Int), (2 : Int)⟩).r0)).r0).whole), .int .i64 ((((m_delay_Split ((m_delay_Of ⟨(5 : Int), (5 : Int)⟩ ([⟨(ByteArray.mk #[97]), ⟨(0 : Int), (1 : Int)⟩, ⟨(0 : Int), (1 : Int)⟩⟩, ⟨(ByteArray.mk #[98]), ⟨(0 : Int), (1 : Int)⟩, ⟨(1 : Int), (1 : Int)⟩⟩] : List Site) (0 : Int) (1 : Int) ⟨(ByteArray.mk #[115]), (0 : Int), (0 : Int)⟩ (0 : Int) ⟨(3 : Int), (2 : Int)⟩).r0)).r0).part).lo), .int .i64 ((((m_delay_Split ((m_delay_Of ⟨(5 : Int), (5 : Int)⟩ ([⟨(ByteArray.mk #[97]), ⟨(0 : Int), (1 : Int)⟩, ⟨(0 : Int), (1 : Int)⟩⟩, ⟨(ByteArray.mk #[98]), ⟨(0 : Int), (1 : Int)⟩, ⟨(1 : Int), (1 : Int)⟩⟩] : List Site) (0 : Int) (1 : Int) ⟨(ByteArray.mk #[115]), (0 : Int), (0 : Int)⟩ (0 : Int) ⟨(3 : Int), (2 : Int)⟩).r0)).r0).part).hi)] [.int .i64 (-7 : Int), .int .i64 (-500000 : Int), .int .i64 (-500000 : Int)] then (bif ((m_delay_Split ⟨(1200000 : Int), (1400000 : Int)⟩).r1 == (0 : Int)) then (bif eqAll [.int .i64 (((m_delay_Split ⟨(1200000 : Int), (1400000 : Int)⟩).r0).whole), .int .i64 ((((m_delay_Split ⟨(1200000 : Int), (1400000 : Int)⟩).r0).part).lo), .int .i64 ((((m_delay_Split ⟨(1200000 : Int), (1400000 : Int)⟩).r0).part).hi)] [.int .i64 (1 : Int), .int .i64 (200000 : Int), .int .i64 (400000 : Int)] then ⟨true, ((m_delay_Split ⟨(1400000 : Int), (1600000 : Int)⟩).r1 == (24 : Int))⟩ else ⟨true, false⟩) else ⟨true, false⟩) else ⟨true, false⟩) else ⟨true, false⟩) else ⟨true, false⟩) else ⟨true, false⟩) else ⟨false, false⟩) else ⟨false, false⟩) else ⟨false, false⟩) else ⟨false, false⟩
def F_W9_alive (K : AV → List Blk → Ans) (r : O_W9_alive) : Ans := bif r.ok then K (.v (.c (.d (.bool r.r0)))) [] else none
theorem e_W9_alive (K : AV → List Blk → Ans) : evFn Try.prog GT EQT (inl Try.prog GT EQT XT [5, 6] T_Q9_Part 150 3) XT noL 150 13 [] [] (fun v M => K (finR 0 v M).1 (finR 0 v M).2) = F_W9_alive K (m_W9_alive) := by
  unfold m_W9_alive
  refine Eq.trans ?_ (Eq.symm (pushT (pushT (pushT (pushT (pushT (pushT (pushT (pushT (pushT (pushT rfl rfl) rfl) rfl) rfl) rfl) rfl) rfl) rfl) rfl) rfl))
  kernel_rfl
theorem c_W9_alive (hd : (m_W9_alive).ok = true) : CallsA Try.prog GT gbT 13 [] [] (.v (.c (.d (.bool ((m_W9_alive).r0))))) [] := by
  refine CallsA.ofEvR (g_Q9_Part.inl hEQT hmT (fun f hf => by simp only [List.mem_cons, List.not_mem_nil, or_false] at hf; rcases hf with rfl | rfl; exact (fun args w => Try.call5 args w); exact (fun args w => Try.call6 args w)) 150 3) hEQT hmT (n0 := 0) rfl (fun _ _ _ _ => LOKn.nil) ((e_W9_alive (fun v M => some (Res.fin v M))).trans ?_)
  unfold F_W9_alive
  rw [hd]
  rfl
def s_W9_alive : List AV → List Blk → (AV → List Blk → Ans) → Ans := fun xs bs K => match xs, bs with
  | [], [] => F_W9_alive K (m_W9_alive)
  | _, _ => none
def T_W9_alive : Nat → List AV → List Blk → (AV → List Blk → Ans) → Ans := upd T_Q9_Part 13 s_W9_alive
theorem g_W9_alive : GOK Try.prog GT gbT T_W9_alive XT := by
  refine GOK.upd g_Q9_Part (fun args w => Try.call13 args w) fun xs bs K r h => ?_
  unfold s_W9_alive at h
  split at h
  · unfold F_W9_alive at h
    simp only [cond_eq_ite] at h
    split at h
    · rename_i hd
      exact ⟨_, _, c_W9_alive hd, h⟩
    · cases h
  · cases h
end Go.Ev

namespace Go.Ev
open Go Go.Proofs
structure O_W9_DelayParts where
  ok : Bool
  r0 : Bool
def m_W9_DelayParts (a0 : Span) (a1 : Delay) : O_W9_DelayParts := bif (!(spanValid ⟨a0.lo, a0.hi⟩)) then (bif (m_W9_alive).ok then ⟨true, (m_W9_alive).r0⟩ else ⟨false, false⟩) else (bif (m_delay_Split a0).ok then (bif ((m_delay_Split a0).r1 == (0 : Int)) then (bif (m_delay_Join ((m_delay_Split a0).r0)).ok then (bif ((m_delay_Join ((m_delay_Split a0).r0)).r1 != (0 : Int)) then ⟨true, false⟩ else (bif (!(eqAll [.int .i64 (((m_delay_Join ((m_delay_Split a0).r0)).r0).lo), .int .i64 (((m_delay_Join ((m_delay_Split a0).r0)).r0).hi)] [.int .i64 a0.lo, .int .i64 a0.hi])) then ⟨true, false⟩ else (bif (m_Q9_Part (((m_delay_Split a0).r0).part)).ok then (bif (!(m_Q9_Part (((m_delay_Split a0).r0).part)).r0) then ⟨true, false⟩ else (bif (m_delay_Join a1).ok then (bif ((m_delay_Join a1).r1 != (0 : Int)) then (bif (m_Q9_Part a1.part).ok then (bif (((m_delay_Join a1).r1 == (8 : Int)) == (!(m_Q9_Part a1.part).r0)) then (bif ((m_delay_Join a1).r1 == (8 : Int)) then (bif (m_W9_alive).ok then ⟨true, (m_W9_alive).r0⟩ else ⟨false, false⟩) else (bif ((m_delay_Join a1).r1 == (16 : Int)) then (bif (m_W9_alive).ok then ⟨true, (m_W9_alive).r0⟩ else ⟨false, false⟩) else ⟨true, false⟩)) else ⟨true, false⟩) else ⟨false, false⟩) else (bif (m_delay_Split ((m_delay_Join a1).r0)).ok then (bif ((m_delay_Split ((m_delay_Join a1).r0)).r1 == (0 : Int)) then (bif eqAll [.int .i64 (((m_delay_Split ((m_delay_Join a1).r0)).r0).whole), .int .i64 ((((m_delay_Split ((m_delay_Join a1).r0)).r0).part).lo), .int .i64 ((((m_delay_Split ((m_delay_Join a1).r0)).r0).part).hi)] [.int .i64 a1.whole, .int .i64 a1.part.lo, .int .i64 a1.part.hi] then (bif (m_W9_alive).ok then ⟨true, (m_W9_alive).r0⟩ else ⟨false, false⟩) else ⟨true, false⟩) else ⟨true, false⟩) else ⟨false, false⟩)) else ⟨false, false⟩)) else ⟨false, false⟩))) else ⟨false, false⟩) else (bif ((m_delay_Split a0).r1 != (24 : Int)) then ⟨true, false⟩ else (bif (a0.lo == a0.hi) then ⟨true, false⟩ else (bif (m_delay_Join a1).ok then (bif ((m_delay_Join a1).r1 != (0 : Int)) then (bif (m_Q9_Part a1.part).ok then (bif (((m_delay_Join a1).r1 == (8 : Int)) == (!(m_Q9_Part a1.part).r0)) then (bif ((m_delay_Join a1).r1 == (8 : Int)) then (bif (m_W9_alive).ok then ⟨true, (m_W9_alive).r0⟩ else ⟨false, false⟩) else (bif ((m_delay_Join a1).r1 == (16 : Int)) then (bif (m_W9_alive).ok then ⟨true, (m_W9_alive).r0⟩ else ⟨false, false⟩) else ⟨true, false⟩)) else ⟨true, false⟩) else ⟨false, false⟩) else (bif (m_delay_Split ((m_delay_Join a1).r0)).ok then (bif ((m_delay_Split ((m_delay_Join a1).r0)).r1 == (0 : Int)) then (bif eqAll [.int .i64 (((m_delay_Split ((m_delay_Join a1).r0)).r0).whole), .int .i64 ((((m_delay_Split ((m_delay_Join a1).r0)).r0).part).lo), .int .i64 ((((m_delay_Split ((m_delay_Join a1).r0)).r0).part).hi)] [.int .i64 a1.whole, .int .i64 a1.part.lo, .int .i64 a1.part.hi] then (bif (m_W9_alive).ok then ⟨true, (m_W9_alive).r0⟩ else ⟨false, false⟩) else ⟨true, false⟩) else ⟨true, false⟩) else ⟨false, false⟩)) else ⟨false, false⟩)))) else ⟨false, false⟩)
def F_W9_DelayParts (_a0 : Span) (_a1 : Delay) (K : AV → List Blk → Ans) (r : O_W9_DelayParts) : Ans := bif r.ok then K (.v (.c (.d (.bool r.r0)))) [] else none
theorem e_W9_DelayParts (a0 : Span) (a1 : Delay) (K : AV → List Blk → Ans) : evFn Try.prog GT EQT T_W9_alive XT noL 80 4 [.v (.agg [.int .i64 a0.lo, .int .i64 a0.hi]), .v (.agg [.int .i64 a1.whole, .int .i64 a1.part.lo, .int .i64 a1.part.hi])] [] (fun v M => K (finR 0 v M).1 (finR 0 v M).2) = F_W9_DelayParts a0 a1 K (m_W9_DelayParts a0 a1) := by
  unfold m_W9_DelayParts
  refine Eq.trans ?_ (Eq.symm (pushT (pushT rfl rfl) (pushT (pushT (pushT (pushT rfl (pushT rfl (pushT (pushT rfl (pushT (pushT (pushT (pushT (pushT (pushT rfl rfl) (pushT (pushT rfl rfl) rfl)) rfl) rfl) (pushT (pushT (pushT (pushT rfl rfl) rfl) rfl) rfl)) rfl)) rfl))) rfl) (pushT rfl (pushT rfl (pushT (pushT (pushT (pushT (pushT (pushT rfl rfl) (pushT (pushT rfl rfl) rfl)) rfl) rfl) (pushT (pushT (pushT (pushT rfl rfl) rfl) rfl) rfl)) rfl)))) rfl)))
  kernel_rfl
theorem c_W9_DelayParts (a0 : Span) (a1 : Delay) (hd : (m_W9_DelayParts a0 a1).ok = true) : CallsA Try.prog GT gbT 4 [.v (.agg [.int .i64 a0.lo, .int .i64 a0.hi]), .v (.agg [.int .i64 a1.whole, .int .i64 a1.part.lo, .int .i64 a1.part.hi])] [] (.v (.c (.d (.bool ((m_W9_DelayParts a0 a1).r0))))) [] := by
  refine CallsA.ofEvR g_W9_alive hEQT hmT (n0 := 0) rfl (fun _ _ _ _ => LOKn.nil) ((e_W9_DelayParts a0 a1 (fun v M => some (Res.fin v M))).trans ?_)
  unfold F_W9_DelayParts
  rw [hd]
  rfl
def s_W9_DelayParts : List AV → List Blk → (AV → List Blk → Ans) → Ans := fun xs bs K => match xs, bs with
  | [.v (.agg [.int .i64 a0_0, .int .i64 a0_1]), .v (.agg [.int .i64 a1_0, .int .i64 a1_1, .int .i64 a1_2])], [] => F_W9_DelayParts (⟨a0_0, a0_1⟩ : Span) (⟨a1_0, ⟨a1_1, a1_2⟩⟩ : Delay) K (m_W9_DelayParts (⟨a0_0, a0_1⟩ : Span) (⟨a1_0, ⟨a1_1, a1_2⟩⟩ : Delay))
  | _, _ => none
def T_W9_DelayParts : Nat → List AV → List Blk → (AV → List Blk → Ans) → Ans := upd T_W9_alive 4 s_W9_DelayParts
theorem g_W9_DelayParts : GOK Try.prog GT gbT T_W9_DelayParts XT := by
  refine GOK.upd g_W9_alive (fun args w => Try.call4 args w) fun xs bs K r h => ?_
  unfold s_W9_DelayParts at h
  split at h
  · unfold F_W9_DelayParts at h
    simp only [cond_eq_ite] at h
    split at h
    · rename_i hd
      exact ⟨_, _, c_W9_DelayParts _ _ hd, h⟩
    · cases h
  · cases h
end Go.Ev

namespace Go.Ev
open Go Go.Proofs
structure R_Q9_Same_0 where
  k : Nat
  p5 : Int
def run_Q9_Same_0 (p4 : Bool) (m0 : List Delay) (m1 : List Delay) : Nat → Int → R_Q9_Same_0
  | 0, p5 => ⟨2, p5⟩
  | n + 1, p5 => bif decide (p5 < (m0.length : Int)) then (bif (decide ((0 : Int) ≤ p5) && decide (p5 < (m0.length : Int))) then (bif (decide ((0 : Int) ≤ p5) && decide (p5 < (m1.length : Int))) then (bif (!(eqAll [.int .i64 ((m0.getD p5.toNat (ET.z .delay)).whole), .int .i64 (((m0.getD p5.toNat (ET.z .delay)).part).lo), .int .i64 (((m0.getD p5.toNat (ET.z .delay)).part).hi)] [.int .i64 ((m1.getD p5.toNat (ET.z .delay)).whole), .int .i64 (((m1.getD p5.toNat (ET.z .delay)).part).lo), .int .i64 (((m1.getD p5.toNat (ET.z .delay)).part).hi)])) then ⟨0, p5⟩ else run_Q9_Same_0 p4 m0 m1 n (w64 (p5 + (1 : Int)))) else ⟨2, p5⟩) else ⟨2, p5⟩) else ⟨1, p5⟩
def lp_Q9_Same_0 (p4 : Bool) (m0 : List Delay) (m1 : List Delay) (p5 : Int) : R_Q9_Same_0 := run_Q9_Same_0 p4 m0 m1 (2000 + (m0.length + m1.length)) p5
abbrev H_Q9_Same_0 (p4 : Bool) (_m0 : List Delay) (_m1 : List Delay) (p5 : Int) : TS := headT [0, 1, 4, 5] 26 [.v (.c (.aslice 0 none)), .v (.c (.aslice 1 none)), .v (.c (.d (.bool p4))), .v (.c (.d (.int .i64 p5)))]
theorem b_Q9_Same_0 (p4 : Bool) (m0 : List Delay) (m1 : List Delay) (p5 : Int) : evCode Try.prog GT EQT T_W9_DelayParts XT noL 80 (loopB Try.prog 8 0) (H_Q9_Same_0 p4 m0 m1 p5) [.arr none .delay m0, .arr none .delay m1] 2 (normK 2 [0, 1, 4, 5]) =
    bif decide (p5 < (m0.length : Int)) then (bif (decide ((0 : Int) ≤ p5) && decide (p5 < (m0.length : Int))) then (bif (decide ((0 : Int) ≤ p5) && decide (p5 < (m1.length : Int))) then (bif (!(eqAll [.int .i64 ((m0.getD p5.toNat (ET.z .delay)).whole), .int .i64 (((m0.getD p5.toNat (ET.z .delay)).part).lo), .int .i64 (((m0.getD p5.toNat (ET.z .delay)).part).hi)] [.int .i64 ((m1.getD p5.toNat (ET.z .delay)).whole), .int .i64 (((m1.getD p5.toNat (ET.z .delay)).part).lo), .int .i64 (((m1.getD p5.toNat (ET.z .delay)).part).hi)])) then some (.st .ret (headT [0, 1, 4, 5] 26 [.v (.c (.aslice 0 none)), .v (.c (.aslice 1 none)), .v (.c (.d (.bool false))), .v (.c (.d (.int .i64 p5)))]) [.arr none .delay m0, .arr none .delay m1] 2) else some (.st .normal (headT [0, 1, 4, 5] 26 [.v (.c (.aslice 0 none)), .v (.c (.aslice 1 none)), .v (.c (.d (.bool p4))), .v (.c (.d (.int .i64 (w64 (p5 + (1 : Int))))))]) [.arr none .delay m0, .arr none .delay m1] 2)) else none) else none) else some (.st (.exit 0) (headT [0, 1, 4, 5] 26 [.v (.c (.aslice 0 none)), .v (.c (.aslice 1 none)), .v (.c (.d (.bool p4))), .v (.c (.d (.int .i64 p5)))]) [.arr none .delay m0, .arr none .delay m1] 2) := by
  kernel_rfl
def o_Q9_Same_0 (p4 : Bool) (m0 : List Delay) (m1 : List Delay) (r : R_Q9_Same_0) : LT := .br (Nat.beq r.k 0) (.st .ret (headT [0, 1, 4, 5] 26 [.v (.c (.aslice 0 none)), .v (.c (.aslice 1 none)), .v (.c (.d (.bool false))), .v (.c (.d (.int .i64 r.p5)))]) [.arr none .delay m0, .arr none .delay m1] 2) (.br (Nat.beq r.k 1) (.st (.exit 0) (headT [0, 1, 4, 5] 26 [.v (.c (.aslice 0 none)), .v (.c (.aslice 1 none)), .v (.c (.d (.bool p4))), .v (.c (.d (.int .i64 r.p5)))]) [.arr none .delay m0, .arr none .delay m1] 2) (.no))
theorem r_Q9_Same_0 (p4 : Bool) (m0 : List Delay) (m1 : List Delay) : ∀ (n : Nat) (p5 : Int) (x : Ex) (T' : TS) (M' : List Blk) (N' : Nat), LReach (o_Q9_Same_0 p4 m0 m1 (run_Q9_Same_0 p4 m0 m1 n p5)) x T' M' N' → x ≠ .normal ∧ ∃ j, RoundsN Try.prog GT gbT 2 (loopB Try.prog 8 0) j (H_Q9_Same_0 p4 m0 m1 p5) [.arr none .delay m0, .arr none .delay m1] 2 x T' M' N' := by
  have hL : LOKn Try.prog GT gbT 2 noL (loopsIn (loopB Try.prog 8 0)) := fun _ _ _ _ _ _ _ _ _ h => h.elim
  intro n
  induction n with
  | zero =>
    intro p5 x T' M' N' hr
    exact False.elim (redF (redF hr))
  | succ n ih =>
    intro p5 x T' M' N'
    rw [run_Q9_Same_0]
    exact viaE (b_Q9_Same_0 p4 m0 m1 p5) (condG (o := o_Q9_Same_0 p4 m0 m1) (condG (o := o_Q9_Same_0 p4 m0 m1) (condG (o := o_Q9_Same_0 p4 m0 m1) (condG (o := o_Q9_Same_0 p4 m0 m1) (fun he hr => stopN g_W9_DelayParts hEQT hmT hL he (by simp) (redT hr)) (fun he hr => goN g_W9_DelayParts hEQT hmT hL he (ih (w64 (p5 + (1 : Int))) x T' M' N' hr))) (fun _ hr => False.elim (redF (redF hr)))) (fun _ hr => False.elim (redF (redF hr)))) (fun he hr => stopN g_W9_DelayParts hEQT hmT hL he (by simp) (redT (redF hr))))
def f_Q9_Same_0 : List AV → List Blk → LT := fun vs Ms => match vs, Ms with
  | [.v (.c (.aslice 0 none)), .v (.c (.aslice 1 none)), .v (.c (.d (.bool p4))), .v (.c (.d (.int .i64 p5)))], [.arr none .delay m0, .arr none .delay m1] => o_Q9_Same_0 p4 m0 m1 (lp_Q9_Same_0 p4 m0 m1 p5)
  | _, _ => .no
def L_Q9_Same_0 := LamN 4 26 2 [0, 1, 4, 5] f_Q9_Same_0
theorem k_Q9_Same_0 : LOKbn Try.prog GT gbT 2 L_Q9_Same_0 (loopB Try.prog 8 0) := by
  refine LOKbn.lamN (by kernel_rfl) fun vs Ms x T' M' N' hr => ?_
  unfold f_Q9_Same_0 at hr
  split at hr
  · obtain ⟨q1, j, q2⟩ := r_Q9_Same_0 _ _ _ _ _ x T' M' N' hr
    exact ⟨q1, j, q2⟩
  · exact hr.elim
structure O_Q9_Same where
  ok : Bool
  r0 : Bool
def m_Q9_Same (a0 : List Delay) (a1 : List Delay) : O_Q9_Same := bif ((a0.length : Int) != (a1.length : Int)) then ⟨true, false⟩ else (bif Nat.beq (lp_Q9_Same_0 false a0 a1 (0 : Int)).k 0 then ⟨true, false⟩ else (bif Nat.beq (lp_Q9_Same_0 false a0 a1 (0 : Int)).k 1 then ⟨true, true⟩ else ⟨false, false⟩))
def F_Q9_Same (a0 : List Delay) (a1 : List Delay) (K : AV → List Blk → Ans) (r : O_Q9_Same) : Ans := bif r.ok then K (.v (.c (.d (.bool r.r0)))) [.arr none .delay a0, .arr none .delay a1] else none
theorem e_Q9_Same (a0 : List Delay) (a1 : List Delay) (K : AV → List Blk → Ans) : evFn Try.prog GT EQT T_W9_DelayParts XT (orL L_Q9_Same_0 noL) 80 8 [.v (.c (.aslice 0 none)), .v (.c (.aslice 1 none))] [.arr none .delay a0, .arr none .delay a1] (fun v M => K (finR 2 v M).1 (finR 2 v M).2) = F_Q9_Same a0 a1 K (m_Q9_Same a0 a1) := by
  unfold m_Q9_Same
  refine Eq.trans ?_ (Eq.symm (pushT rfl (pushT rfl (pushT rfl rfl))))
  kernel_rfl
theorem lok_Q9_Same : ∀ fn c, Try.prog.funcs[8]? = some fn → fn.body = some c → LOKn Try.prog GT gbT 2 (orL L_Q9_Same_0 noL) (loopsIn c) := by
  refine LOKn.ofF fun b hb => ?_
  have e : loopsF Try.prog 8 = [loopB Try.prog 8 0] := by kernel_rfl
  rw [e] at hb
  simp only [List.mem_cons, List.not_mem_nil, or_false] at hb
  subst hb
  exact (LOKbn.or k_Q9_Same_0 (fun _ _ _ _ _ _ _ h => h.elim))
theorem c_Q9_Same (a0 : List Delay) (a1 : List Delay) (hd : (m_Q9_Same a0 a1).ok = true) : CallsA Try.prog GT gbT 8 [.v (.c (.aslice 0 none)), .v (.c (.aslice 1 none))] [.arr none .delay a0, .arr none .delay a1] (.v (.c (.d (.bool ((m_Q9_Same a0 a1).r0))))) [.arr none .delay a0, .arr none .delay a1] := by
  refine CallsA.ofEvR g_W9_DelayParts hEQT hmT (n0 := 2) rfl lok_Q9_Same ((e_Q9_Same a0 a1 (fun v M => some (Res.fin v M))).trans ?_)
  unfold F_Q9_Same
  rw [hd]
  rfl
def s_Q9_Same : List AV → List Blk → (AV → List Blk → Ans) → Ans := fun xs bs K => match xs, bs with
  | [.v (.c (.aslice 0 none)), .v (.c (.aslice 1 none))], [.arr none .delay a0, .arr none .delay a1] => F_Q9_Same a0 a1 K (m_Q9_Same a0 a1)
  | _, _ => none
def T_Q9_Same : Nat → List AV → List Blk → (AV → List Blk → Ans) → Ans := upd T_W9_DelayParts 8 s_Q9_Same
theorem g_Q9_Same : GOK Try.prog GT gbT T_Q9_Same XT := by
  refine GOK.upd g_W9_DelayParts (fun args w => Try.call8 args w) fun xs bs K r h => ?_
  unfold s_Q9_Same at h
  split at h
  · unfold F_Q9_Same at h
    simp only [cond_eq_ite] at h
    split at h
    · rename_i hd
      exact ⟨_, _, c_Q9_Same _ _ hd, h⟩
    · cases h
  · cases h
structure R_delay_Table_0 where
  k : Nat
  p39 : Int
def run_delay_Table_0 (p4 : Int) (p13 : Int) (p38 : Int) (m0 : List Site) (m1 : List Frac) (q2 : Globe) (q3 : Source) (q4 : Frac) (m5 : List Delay) : Nat → Int → R_delay_Table_0
  | 0, p39 => ⟨2, p39⟩
  | n + 1, p39 => bif decide (p39 < p38) then (bif (decide ((0 : Int) ≤ p39) && decide (p39 < (m1.length : Int))) then (bif (m_delay_between (m1.getD p39.toNat (ET.z .frac)) (-1000 : Int) (1000 : Int)).ok then (bif (!(m_delay_between (m1.getD p39.toNat (ET.z .frac)) (-1000 : Int) (1000 : Int)).r0) then ⟨0, p39⟩ else run_delay_Table_0 p4 p13 p38 m0 m1 q2 q3 q4 m5 n (w64 (p39 + (1 : Int)))) else ⟨2, p39⟩) else ⟨2, p39⟩) else ⟨1, p39⟩
def lp_delay_Table_0 (p4 : Int) (p13 : Int) (p38 : Int) (m0 : List Site) (m1 : List Frac) (q2 : Globe) (q3 : Source) (q4 : Frac) (m5 : List Delay) (p39 : Int) : R_delay_Table_0 := run_delay_Table_0 p4 p13 p38 m0 m1 q2 q3 q4 m5 (2000 + (m0.length + m1.length + m5.length)) p39
abbrev H_delay_Table_0 (p4 : Int) (p13 : Int) (p38 : Int) (_m0 : List Site) (_m1 : List Frac) (_q2 : Globe) (_q3 : Source) (_q4 : Frac) (_m5 : List Delay) (p39 : Int) : TS := headT [1, 2, 4, 6, 9, 11, 12, 13, 37, 38, 39] 116 [.v (.c (.aslice 0 none)), .v (.c (.aslice 1 none)), .v (.c (.d (.int .i64 p4))), .v (.c (.ptr 2 0)), .v (.c (.ptr 3 0)), .v (.c (.ptr 4 0)), .v (.c (.aslice 5 none)), .v (.c (.d (.int .i64 p13))), .v (.c (.aslice 1 none)), .v (.c (.d (.int .i64 p38))), .v (.c (.d (.int .i64 p39)))]
theorem b_delay_Table_0 (p4 : Int) (p13 : Int) (p38 : Int) (m0 : List Site) (m1 : List Frac) (q2 : Globe) (q3 : Source) (q4 : Frac) (m5 : List Delay) (p39 : Int) : evCode Try.prog GT EQT (inl Try.prog GT EQT XT [18] T_Q9_Same 150 2) XT noL 150 (loopB Try.prog 7 0) (H_delay_Table_0 p4 p13 p38 m0 m1 q2 q3 q4 m5 p39) [.arr none .site m0, .arr none .frac m1, .rw 23 [.int .i64 q2.a, .int .i64 q2.b], .rw 26 [.str q3.name, .int .i64 q3.ra, .int .i64 q3.dec], .rw 30 [.int .i64 q4.num, .int .i64 q4.den], .arr (some 41) .delay m5] 6 (normK 2 [1, 2, 4, 6, 9, 11, 12, 13, 37, 38, 39]) =
    bif decide (p39 < p38) then (bif (decide ((0 : Int) ≤ p39) && decide (p39 < (m1.length : Int))) then (bif (m_delay_between (m1.getD p39.toNat (ET.z .frac)) (-1000 : Int) (1000 : Int)).ok then (bif (!(m_delay_between (m1.getD p39.toNat (ET.z .frac)) (-1000 : Int) (1000 : Int)).r0) then some (.st .ret (headT [1, 2, 4, 6, 9, 11, 12, 13, 37, 38, 39] 116 [.v (.c (.aslice 0 none)), .v (.c (.aslice 1 none)), .v (.c (.d (.int .i64 p4))), .v (.c (.ptr 2 0)), .v (.c (.ptr 3 0)), .v (.c (.ptr 4 0)), .v (.c (.aslice 5 none)), .v (.c (.d (.int .i64 (8 : Int)))), .v (.c (.aslice 1 none)), .v (.c (.d (.int .i64 p38))), .v (.c (.d (.int .i64 p39)))]) [.arr none .site m0, .arr none .frac m1, .rw 23 [.int .i64 q2.a, .int .i64 q2.b], .rw 26 [.str q3.name, .int .i64 q3.ra, .int .i64 q3.dec], .rw 30 [.int .i64 q4.num, .int .i64 q4.den], .arr (some 41) .delay ([] : List Delay)] 6) else some (.st .normal (headT [1, 2, 4, 6, 9, 11, 12, 13, 37, 38, 39] 116 [.v (.c (.aslice 0 none)), .v (.c (.aslice 1 none)), .v (.c (.d (.int .i64 p4))), .v (.c (.ptr 2 0)), .v (.c (.ptr 3 0)), .v (.c (.ptr 4 0)), .v (.c (.aslice 5 none)), .v (.c (.d (.int .i64 p13))), .v (.c (.aslice 1 none)), .v (.c (.d (.int .i64 p38))), .v (.c (.d (.int .i64 (w64 (p39 + (1 : Int))))))]) [.arr none .site m0, .arr none .frac m1, .rw 23 [.int .i64 q2.a, .int .i64 q2.b], .rw 26 [.str q3.name, .int .i64 q3.ra, .int .i64 q3.dec], .rw 30 [.int .i64 q4.num, .int .i64 q4.den], .arr (some 41) .delay m5] 6)) else none) else none) else some (.st (.exit 0) (headT [1, 2, 4, 6, 9, 11, 12, 13, 37, 38, 39] 116 [.v (.c (.aslice 0 none)), .v (.c (.aslice 1 none)), .v (.c (.d (.int .i64 p4))), .v (.c (.ptr 2 0)), .v (.c (.ptr 3 0)), .v (.c (.ptr 4 0)), .v (.c (.aslice 5 none)), .v (.c (.d (.int .i64 p13))), .v (.c (.aslice 1 none)), .v (.c (.d (.int .i64 p38))), .v (.c (.d (.int .i64 p39)))]) [.arr none .site m0, .arr none .frac m1, .rw 23 [.int .i64 q2.a, .int .i64 q2.b], .rw 26 [.str q3.name, .int .i64 q3.ra, .int .i64 q3.dec], .rw 30 [.int .i64 q4.num, .int .i64 q4.den], .arr (some 41) .delay m5] 6) := by
  kernel_rfl
def o_delay_Table_0 (p4 : Int) (p13 : Int) (p38 : Int) (m0 : List Site) (m1 : List Frac) (q2 : Globe) (q3 : Source) (q4 : Frac) (m5 : List Delay) (r : R_delay_Table_0) : LT := .br (Nat.beq r.k 0) (.st .ret (headT [1, 2, 4, 6, 9, 11, 12, 13, 37, 38, 39] 116 [.v (.c (.aslice 0 none)), .v (.c (.aslice 1 none)), .v (.c (.d (.int .i64 p4))), .v (.c (.ptr 2 0)), .v (.c (.ptr 3 0)), .v (.c (.ptr 4 0)), .v (.c (.aslice 5 none)), .v (.c (.d (.int .i64 (8 : Int)))), .v (.c (.aslice 1 none)), .v (.c (.d (.int .i64 p38))), .v (.c (.d (.int .i64 r.p39)))]) [.arr none .site m0, .arr none .frac m1, .rw 23 [.int .i64 q2.a, .int .i64 q2.b], .rw 26 [.str q3.name, .int .i64 q3.ra, .int .i64 q3.dec], .rw 30 [.int .i64 q4.num, .int .i64 q4.den], .arr (some 41) .delay ([] : List Delay)] 6) (.br (Nat.beq r.k 1) (.st (.exit 0) (headT [1, 2, 4, 6, 9, 11, 12, 13, 37, 38, 39] 116 [.v (.c (.aslice 0 none)), .v (.c (.aslice 1 none)), .v (.c (.d (.int .i64 p4))), .v (.c (.ptr 2 0)), .v (.c (.ptr 3 0)), .v (.c (.ptr 4 0)), .v (.c (.aslice 5 none)), .v (.c (.d (.int .i64 p13))), .v (.c (.aslice 1 none)), .v (.c (.d (.int .i64 p38))), .v (.c (.d (.int .i64 r.p39)))]) [.arr none .site m0, .arr none .frac m1, .rw 23 [.int .i64 q2.a, .int .i64 q2.b], .rw 26 [.str q3.name, .int .i64 q3.ra, .int .i64 q3.dec], .rw 30 [.int .i64 q4.num, .int .i64 q4.den], .arr (some 41) .delay m5] 6) (.no))
theorem r_delay_Table_0 (p4 : Int) (p13 : Int) (p38 : Int) (m0 : List Site) (m1 : List Frac) (q2 : Globe) (q3 : Source) (q4 : Frac) (m5 : List Delay) : ∀ (n : Nat) (p39 : Int) (x : Ex) (T' : TS) (M' : List Blk) (N' : Nat), LReach (o_delay_Table_0 p4 p13 p38 m0 m1 q2 q3 q4 m5 (run_delay_Table_0 p4 p13 p38 m0 m1 q2 q3 q4 m5 n p39)) x T' M' N' → x ≠ .normal ∧ ∃ j, RoundsN Try.prog GT gbT 2 (loopB Try.prog 7 0) j (H_delay_Table_0 p4 p13 p38 m0 m1 q2 q3 q4 m5 p39) [.arr none .site m0, .arr none .frac m1, .rw 23 [.int .i64 q2.a, .int .i64 q2.b], .rw 26 [.str q3.name, .int .i64 q3.ra, .int .i64 q3.dec], .rw 30 [.int .i64 q4.num, .int .i64 q4.den], .arr (some 41) .delay m5] 6 x T' M' N' := by
  have hL : LOKn Try.prog GT gbT 2 noL (loopsIn (loopB Try.prog 7 0)) := fun _ _ _ _ _ _ _ _ _ h => h.elim
  intro n
  induction n with
  | zero =>
    intro p39 x T' M' N' hr
    exact False.elim (redF (redF hr))
  | succ n ih =>
    intro p39 x T' M' N'
    rw [run_delay_Table_0]
    exact viaE (b_delay_Table_0 p4 p13 p38 m0 m1 q2 q3 q4 m5 p39) (condG (o := o_delay_Table_0 p4 p13 p38 m0 m1 q2 q3 q4 m5) (condG (o := o_delay_Table_0 p4 p13 p38 m0 m1 q2 q3 q4 m5) (condG (o := o_delay_Table_0 p4 p13 p38 m0 m1 q2 q3 q4 m5) (condG (o := o_delay_Table_0 p4 p13 p38 m0 m1 q2 q3 q4 m5) (fun he hr => stopN (g_Q9_Same.inl hEQT hmT (fun f hf => by simp only [List.mem_cons, List.not_mem_nil, or_false] at hf; subst hf; exact (fun args w => Try.call18 args w)) 150 2) hEQT hmT hL he (by simp) (redT hr)) (fun he hr => goN (g_Q9_Same.inl hEQT hmT (fun f hf => by simp only [List.mem_cons, List.not_mem_nil, or_false] at hf; subst hf; exact (fun args w => Try.call18 args w)) 150 2) hEQT hmT hL he (ih (w64 (p39 + (1 : Int))) x T' M' N' hr))) (fun _ hr => False.elim (redF (redF hr)))) (fun _ hr => False.elim (redF (redF hr)))) (fun he hr => stopN (g_Q9_Same.inl hEQT hmT (fun f hf => by simp only [List.mem_cons, List.not_mem_nil, or_false] at hf; subst hf; exact (fun args w => Try.call18 args w)) 150 2) hEQT hmT hL he (by simp) (redT (redF hr))))
def f_delay_Table_0 : List AV → List Blk → LT := fun vs Ms => match vs, Ms with
  | [.v (.c (.aslice 0 none)), .v (.c (.aslice 1 none)), .v (.c (.d (.int .i64 p4))), .v (.c (.ptr 2 0)), .v (.c (.ptr 3 0)), .v (.c (.ptr 4 0)), .v (.c (.aslice 5 none)), .v (.c (.d (.int .i64 p13))), .v (.c (.aslice 1 none)), .v (.c (.d (.int .i64 p38))), .v (.c (.d (.int .i64 p39)))], [.arr none .site m0, .arr none .frac m1, .rw 23 [.int .i64 q2_0, .int .i64 q2_1], .rw 26 [.str q3_0, .int .i64 q3_1, .int .i64 q3_2], .rw 30 [.int .i64 q4_0, .int .i64 q4_1], .arr (some 41) .delay m5] => o_delay_Table_0 p4 p13 p38 m0 m1 (⟨q2_0, q2_1⟩ : Globe) (⟨q3_0, q3_1, q3_2⟩ : Source) (⟨q4_0, q4_1⟩ : Frac) m5 (lp_delay_Table_0 p4 p13 p38 m0 m1 (⟨q2_0, q2_1⟩ : Globe) (⟨q3_0, q3_1, q3_2⟩ : Source) (⟨q4_0, q4_1⟩ : Frac) m5 p39)
  | _, _ => .no
def L_delay_Table_0 := LamN 7 116 2 [1, 2, 4, 6, 9, 11, 12, 13, 37, 38, 39] f_delay_Table_0
theorem k_delay_Table_0 : LOKbn Try.prog GT gbT 2 L_delay_Table_0 (loopB Try.prog 7 0) := by
  refine LOKbn.lamN (by kernel_rfl) fun vs Ms x T' M' N' hr => ?_
  unfold f_delay_Table_0 at hr
  split at hr
  · obtain ⟨q1, j, q2⟩ := r_delay_Table_0 _ _ _ _ _ _ _ _ _ _ _ x T' M' N' hr
    exact ⟨q1, j, q2⟩
  · exact hr.elim
structure R_delay_Table_1 where
  k : Nat
  p56 : Int
  m6 : List Delay
def run_delay_Table_1 (p4 : Int) (p13 : Int) (p55 : Int) (m0 : List Site) (m1 : List Frac) (q2 : Globe) (q3 : Source) (q4 : Frac) (m5 : List Delay) : Nat → Int → List Delay → R_delay_Table_1
  | 0, p56, m6 => ⟨6, p56, m6⟩
  | n + 1, p56, m6 => bif decide (p56 < p55) then (bif (m_delay_Of q2 m0 (0 : Int) p56 q3 p4 q4).ok then (bif ((m_delay_Of q2 m0 (0 : Int) p56 q3 p4 q4).r1 != (0 : Int)) then ⟨0, p56, m6⟩ else (bif (decide ((0 : Int) ≤ p56) && decide (p56 < (m1.length : Int))) then (bif (decide ((0 : Int) ≤ (0 : Int)) && decide ((0 : Int) < (m1.length : Int))) then (bif ((subF ⟨((m1.getD p56.toNat (ET.z .frac)).num), ((m1.getD p56.toNat (ET.z .frac)).den)⟩ ⟨((m1.getD 0 (ET.z .frac)).num), ((m1.getD 0 (ET.z .frac)).den)⟩).2 != (0 : Int)) then ⟨1, p56, m6⟩ else (bif ((ofS ⟨(((subF ⟨((m1.getD p56.toNat (ET.z .frac)).num), ((m1.getD p56.toNat (ET.z .frac)).den)⟩ ⟨((m1.getD 0 (ET.z .frac)).num), ((m1.getD 0 (ET.z .frac)).den)⟩).1).num), (((subF ⟨((m1.getD p56.toNat (ET.z .frac)).num), ((m1.getD p56.toNat (ET.z .frac)).den)⟩ ⟨((m1.getD 0 (ET.z .frac)).num), ((m1.getD 0 (ET.z .frac)).den)⟩).1).den)⟩).2 != (0 : Int)) then ⟨2, p56, m6⟩ else (bif ((addS ⟨(((m_delay_Of q2 m0 (0 : Int) p56 q3 p4 q4).r0).lo), (((m_delay_Of q2 m0 (0 : Int) p56 q3 p4 q4).r0).hi)⟩ ⟨(((ofS ⟨(((subF ⟨((m1.getD p56.toNat (ET.z .frac)).num), ((m1.getD p56.toNat (ET.z .frac)).den)⟩ ⟨((m1.getD 0 (ET.z .frac)).num), ((m1.getD 0 (ET.z .frac)).den)⟩).1).num), (((subF ⟨((m1.getD p56.toNat (ET.z .frac)).num), ((m1.getD p56.toNat (ET.z .frac)).den)⟩ ⟨((m1.getD 0 (ET.z .frac)).num), ((m1.getD 0 (ET.z .frac)).den)⟩).1).den)⟩).1).lo), (((ofS ⟨(((subF ⟨((m1.getD p56.toNat (ET.z .frac)).num), ((m1.getD p56.toNat (ET.z .frac)).den)⟩ ⟨((m1.getD 0 (ET.z .frac)).num), ((m1.getD 0 (ET.z .frac)).den)⟩).1).num), (((subF ⟨((m1.getD p56.toNat (ET.z .frac)).num), ((m1.getD p56.toNat (ET.z .frac)).den)⟩ ⟨((m1.getD 0 (ET.z .frac)).num), ((m1.getD 0 (ET.z .frac)).den)⟩).1).den)⟩).1).hi)⟩).2 != (0 : Int)) then ⟨3, p56, m6⟩ else (bif (m_delay_Split ((addS ⟨(((m_delay_Of q2 m0 (0 : Int) p56 q3 p4 q4).r0).lo), (((m_delay_Of q2 m0 (0 : Int) p56 q3 p4 q4).r0).hi)⟩ ⟨(((ofS ⟨(((subF ⟨((m1.getD p56.toNat (ET.z .frac)).num), ((m1.getD p56.toNat (ET.z .frac)).den)⟩ ⟨((m1.getD 0 (ET.z .frac)).num), ((m1.getD 0 (ET.z .frac)).den)⟩).1).num), (((subF ⟨((m1.getD p56.toNat (ET.z .frac)).num), ((m1.getD p56.toNat (ET.z .frac)).den)⟩ ⟨((m1.getD 0 (ET.z .frac)).num), ((m1.getD 0 (ET.z .frac)).den)⟩).1).den)⟩).1).lo), (((ofS ⟨(((subF ⟨((m1.getD p56.toNat (ET.z .frac)).num), ((m1.getD p56.toNat (ET.z .frac)).den)⟩ ⟨((m1.getD 0 (ET.z .frac)).num), ((m1.getD 0 (ET.z .frac)).den)⟩).1).num), (((subF ⟨((m1.getD p56.toNat (ET.z .frac)).num), ((m1.getD p56.toNat (ET.z .frac)).den)⟩ ⟨((m1.getD 0 (ET.z .frac)).num), ((m1.getD 0 (ET.z .frac)).den)⟩).1).den)⟩).1).hi)⟩).1)).ok then (bif (decide ((0 : Int) ≤ p56) && decide (p56 < (m6.length : Int))) then (bif ((m_delay_Split ((addS ⟨(((m_delay_Of q2 m0 (0 : Int) p56 q3 p4 q4).r0).lo), (((m_delay_Of q2 m0 (0 : Int) p56 q3 p4 q4).r0).hi)⟩ ⟨(((ofS ⟨(((subF ⟨((m1.getD p56.toNat (ET.z .frac)).num), ((m1.getD p56.toNat (ET.z .frac)).den)⟩ ⟨((m1.getD 0 (ET.z .frac)).num), ((m1.getD 0 (ET.z .frac)).den)⟩).1).num), (((subF ⟨((m1.getD p56.toNat (ET.z .frac)).num), ((m1.getD p56.toNat (ET.z .frac)).den)⟩ ⟨((m1.getD 0 (ET.z .frac)).num), ((m1.getD 0 (ET.z .frac)).den)⟩).1).den)⟩).1).lo), (((ofS ⟨(((subF ⟨((m1.getD p56.toNat (ET.z .frac)).num), ((m1.getD p56.toNat (ET.z .frac)).den)⟩ ⟨((m1.getD 0 (ET.z .frac)).num), ((m1.getD 0 (ET.z .frac)).den)⟩).1).num), (((subF ⟨((m1.getD p56.toNat (ET.z .frac)).num), ((m1.getD p56.toNat (ET.z .frac)).den)⟩ ⟨((m1.getD 0 (ET.z .frac)).num), ((m1.getD 0 (ET.z .frac)).den)⟩).1).den)⟩).1).hi)⟩).1)).r1 != (0 : Int)) then ⟨4, p56, m6⟩ else run_delay_Table_1 p4 p13 p55 m0 m1 q2 q3 q4 m5 n (w64 (p56 + (1 : Int))) (m6.set p56.toNat ((m_delay_Split ((addS ⟨(((m_delay_Of q2 m0 (0 : Int) p56 q3 p4 q4).r0).lo), (((m_delay_Of q2 m0 (0 : Int) p56 q3 p4 q4).r0).hi)⟩ ⟨(((ofS ⟨(((subF ⟨((m1.getD p56.toNat (ET.z .frac)).num), ((m1.getD p56.toNat (ET.z .frac)).den)⟩ ⟨((m1.getD 0 (ET.z .frac)).num), ((m1.getD 0 (ET.z .frac)).den)⟩).1).num), (((subF ⟨((m1.getD p56.toNat (ET.z .frac)).num), ((m1.getD p56.toNat (ET.z .frac)).den)⟩ ⟨((m1.getD 0 (ET.z .frac)).num), ((m1.getD 0 (ET.z .frac)).den)⟩).1).den)⟩).1).lo), (((ofS ⟨(((subF ⟨((m1.getD p56.toNat (ET.z .frac)).num), ((m1.getD p56.toNat (ET.z .frac)).den)⟩ ⟨((m1.getD 0 (ET.z .frac)).num), ((m1.getD 0 (ET.z .frac)).den)⟩).1).num), (((subF ⟨((m1.getD p56.toNat (ET.z .frac)).num), ((m1.getD p56.toNat (ET.z .frac)).den)⟩ ⟨((m1.getD 0 (ET.z .frac)).num), ((m1.getD 0 (ET.z .frac)).den)⟩).1).den)⟩).1).hi)⟩).1)).r0))) else ⟨6, p56, m6⟩) else ⟨6, p56, m6⟩)))) else ⟨6, p56, m6⟩) else ⟨6, p56, m6⟩)) else ⟨6, p56, m6⟩) else ⟨5, p56, m6⟩
def lp_delay_Table_1 (p4 : Int) (p13 : Int) (p55 : Int) (m0 : List Site) (m1 : List Frac) (q2 : Globe) (q3 : Source) (q4 : Frac) (m5 : List Delay) (p56 : Int) (m6 : List Delay) : R_delay_Table_1 := run_delay_Table_1 p4 p13 p55 m0 m1 q2 q3 q4 m5 (2000 + (m0.length + m1.length + m5.length + m6.length)) p56 m6
abbrev H_delay_Table_1 (p4 : Int) (p13 : Int) (p55 : Int) (_m0 : List Site) (_m1 : List Frac) (_q2 : Globe) (_q3 : Source) (_q4 : Frac) (_m5 : List Delay) (p56 : Int) (_m6 : List Delay) : TS := headT [1, 2, 4, 6, 9, 11, 12, 13, 17, 55, 56] 116 [.v (.c (.aslice 0 none)), .v (.c (.aslice 1 none)), .v (.c (.d (.int .i64 p4))), .v (.c (.ptr 2 0)), .v (.c (.ptr 3 0)), .v (.c (.ptr 4 0)), .v (.c (.aslice 5 none)), .v (.c (.d (.int .i64 p13))), .v (.c (.aslice 6 none)), .v (.c (.d (.int .i64 p55))), .v (.c (.d (.int .i64 p56)))]
theorem b_delay_Table_1 (p4 : Int) (p13 : Int) (p55 : Int) (m0 : List Site) (m1 : List Frac) (q2 : Globe) (q3 : Source) (q4 : Frac) (m5 : List Delay) (p56 : Int) (m6 : List Delay) : evCode Try.prog GT EQT (inl Try.prog GT EQT XT [18] T_Q9_Same 150 2) XT noL 150 (loopB Try.prog 7 1) (H_delay_Table_1 p4 p13 p55 m0 m1 q2 q3 q4 m5 p56 m6) [.arr none .site m0, .arr none .frac m1, .rw 23 [.int .i64 q2.a, .int .i64 q2.b], .rw 26 [.str q3.name, .int .i64 q3.ra, .int .i64 q3.dec], .rw 30 [.int .i64 q4.num, .int .i64 q4.den], .arr (some 41) .delay m5, .arr (some 41) .delay m6] 7 (normK 2 [1, 2, 4, 6, 9, 11, 12, 13, 17, 55, 56]) =
    bif decide (p56 < p55) then (bif (m_delay_Of q2 m0 (0 : Int) p56 q3 p4 q4).ok then (bif ((m_delay_Of q2 m0 (0 : Int) p56 q3 p4 q4).r1 != (0 : Int)) then some (.st .ret (headT [1, 2, 4, 6, 9, 11, 12, 13, 17, 55, 56] 116 [.v (.c (.aslice 0 none)), .v (.c (.aslice 1 none)), .v (.c (.d (.int .i64 p4))), .v (.c (.ptr 2 0)), .v (.c (.ptr 3 0)), .v (.c (.ptr 4 0)), .v (.c (.aslice 5 none)), .v (.c (.d (.int .i64 ((m_delay_Of q2 m0 (0 : Int) p56 q3 p4 q4).r1)))), .v (.c (.aslice 6 none)), .v (.c (.d (.int .i64 p55))), .v (.c (.d (.int .i64 p56)))]) [.arr none .site m0, .arr none .frac m1, .rw 23 [.int .i64 q2.a, .int .i64 q2.b], .rw 26 [.str q3.name, .int .i64 q3.ra, .int .i64 q3.dec], .rw 30 [.int .i64 q4.num, .int .i64 q4.den], .arr (some 41) .delay ([] : List Delay), .arr (some 41) .delay m6] 7) else (bif (decide ((0 : Int) ≤ p56) && decide (p56 < (m1.length : Int))) then (bif (decide ((0 : Int) ≤ (0 : Int)) && decide ((0 : Int) < (m1.length : Int))) then (bif ((subF ⟨((m1.getD p56.toNat (ET.z .frac)).num), ((m1.getD p56.toNat (ET.z .frac)).den)⟩ ⟨((m1.getD 0 (ET.z .frac)).num), ((m1.getD 0 (ET.z .frac)).den)⟩).2 != (0 : Int)) then some (.st .ret (headT [1, 2, 4, 6, 9, 11, 12, 13, 17, 55, 56] 116 [.v (.c (.aslice 0 none)), .v (.c (.aslice 1 none)), .v (.c (.d (.int .i64 p4))), .v (.c (.ptr 2 0)), .v (.c (.ptr 3 0)), .v (.c (.ptr 4 0)), .v (.c (.aslice 5 none)), .v (.c (.d (.int .i64 ((subF ⟨((m1.getD p56.toNat (ET.z .frac)).num), ((m1.getD p56.toNat (ET.z .frac)).den)⟩ ⟨((m1.getD 0 (ET.z .frac)).num), ((m1.getD 0 (ET.z .frac)).den)⟩).2)))), .v (.c (.aslice 6 none)), .v (.c (.d (.int .i64 p55))), .v (.c (.d (.int .i64 p56)))]) [.arr none .site m0, .arr none .frac m1, .rw 23 [.int .i64 q2.a, .int .i64 q2.b], .rw 26 [.str q3.name, .int .i64 q3.ra, .int .i64 q3.dec], .rw 30 [.int .i64 q4.num, .int .i64 q4.den], .arr (some 41) .delay ([] : List Delay), .arr (some 41) .delay m6] 7) else (bif ((ofS ⟨(((subF ⟨((m1.getD p56.toNat (ET.z .frac)).num), ((m1.getD p56.toNat (ET.z .frac)).den)⟩ ⟨((m1.getD 0 (ET.z .frac)).num), ((m1.getD 0 (ET.z .frac)).den)⟩).1).num), (((subF ⟨((m1.getD p56.toNat (ET.z .frac)).num), ((m1.getD p56.toNat (ET.z .frac)).den)⟩ ⟨((m1.getD 0 (ET.z .frac)).num), ((m1.getD 0 (ET.z .frac)).den)⟩).1).den)⟩).2 != (0 : Int)) then some (.st .ret (headT [1, 2, 4, 6, 9, 11, 12, 13, 17, 55, 56] 116 [.v (.c (.aslice 0 none)), .v (.c (.aslice 1 none)), .v (.c (.d (.int .i64 p4))), .v (.c (.ptr 2 0)), .v (.c (.ptr 3 0)), .v (.c (.ptr 4 0)), .v (.c (.aslice 5 none)), .v (.c (.d (.int .i64 ((ofS ⟨(((subF ⟨((m1.getD p56.toNat (ET.z .frac)).num), ((m1.getD p56.toNat (ET.z .frac)).den)⟩ ⟨((m1.getD 0 (ET.z .frac)).num), ((m1.getD 0 (ET.z .frac)).den)⟩).1).num), (((subF ⟨((m1.getD p56.toNat (ET.z .frac)).num), ((m1.getD p56.toNat (ET.z .frac)).den)⟩ ⟨((m1.getD 0 (ET.z .frac)).num), ((m1.getD 0 (ET.z .frac)).den)⟩).1).den)⟩).2)))), .v (.c (.aslice 6 none)), .v (.c (.d (.int .i64 p55))), .v (.c (.d (.int .i64 p56)))]) [.arr none .site m0, .arr none .frac m1, .rw 23 [.int .i64 q2.a, .int .i64 q2.b], .rw 26 [.str q3.name, .int .i64 q3.ra, .int .i64 q3.dec], .rw 30 [.int .i64 q4.num, .int .i64 q4.den], .arr (some 41) .delay ([] : List Delay), .arr (some 41) .delay m6] 7) else (bif ((addS ⟨(((m_delay_Of q2 m0 (0 : Int) p56 q3 p4 q4).r0).lo), (((m_delay_Of q2 m0 (0 : Int) p56 q3 p4 q4).r0).hi)⟩ ⟨(((ofS ⟨(((subF ⟨((m1.getD p56.toNat (ET.z .frac)).num), ((m1.getD p56.toNat (ET.z .frac)).den)⟩ ⟨((m1.getD 0 (ET.z .frac)).num), ((m1.getD 0 (ET.z .frac)).den)⟩).1).num), (((subF ⟨((m1.getD p56.toNat (ET.z .frac)).num), ((m1.getD p56.toNat (ET.z .frac)).den)⟩ ⟨((m1.getD 0 (ET.z .frac)).num), ((m1.getD 0 (ET.z .frac)).den)⟩).1).den)⟩).1).lo), (((ofS ⟨(((subF ⟨((m1.getD p56.toNat (ET.z .frac)).num), ((m1.getD p56.toNat (ET.z .frac)).den)⟩ ⟨((m1.getD 0 (ET.z .frac)).num), ((m1.getD 0 (ET.z .frac)).den)⟩).1).num), (((subF ⟨((m1.getD p56.toNat (ET.z .frac)).num), ((m1.getD p56.toNat (ET.z .frac)).den)⟩ ⟨((m1.getD 0 (ET.z .frac)).num), ((m1.getD 0 (ET.z .frac)).den)⟩).1).den)⟩).1).hi)⟩).2 != (0 : Int)) then some (.st .ret (headT [1, 2, 4, 6, 9, 11, 12, 13, 17, 55, 56] 116 [.v (.c (.aslice 0 none)), .v (.c (.aslice 1 none)), .v (.c (.d (.int .i64 p4))), .v (.c (.ptr 2 0)), .v (.c (.ptr 3 0)), .v (.c (.ptr 4 0)), .v (.c (.aslice 5 none)), .v (.c (.d (.int .i64 ((addS ⟨(((m_delay_Of q2 m0 (0 : Int) p56 q3 p4 q4).r0).lo), (((m_delay_Of q2 m0 (0 : Int) p56 q3 p4 q4).r0).hi)⟩ ⟨(((ofS ⟨(((subF ⟨((m1.getD p56.toNat (ET.z .frac)).num), ((m1.getD p56.toNat (ET.z .frac)).den)⟩ ⟨((m1.getD 0 (ET.z .frac)).num), ((m1.getD 0 (ET.z .frac)).den)⟩).1).num), (((subF ⟨((m1.getD p56.toNat (ET.z .frac)).num), ((m1.getD p56.toNat (ET.z .frac)).den)⟩ ⟨((m1.getD 0 (ET.z .frac)).num), ((m1.getD 0 (ET.z .frac)).den)⟩).1).den)⟩).1).lo), (((ofS ⟨(((subF ⟨((m1.getD p56.toNat (ET.z .frac)).num), ((m1.getD p56.toNat (ET.z .frac)).den)⟩ ⟨((m1.getD 0 (ET.z .frac)).num), ((m1.getD 0 (ET.z .frac)).den)⟩).1).num), (((subF ⟨((m1.getD p56.toNat (ET.z .frac)).num), ((m1.getD p56.toNat (ET.z .frac)).den)⟩ ⟨((m1.getD 0 (ET.z .frac)).num), ((m1.getD 0 (ET.z .frac)).den)⟩).1).den)⟩).1).hi)⟩).2)))), .v (.c (.aslice 6 none)), .v (.c (.d (.int .i64 p55))), .v (.c (.d (.int .i64 p56)))]) [.arr none .site m0, .arr none .frac m1, .rw 23 [.int .i64 q2.a, .int .i64 q2.b], .rw 26 [.str q3.name, .int .i64 q3.ra, .int .i64 q3.dec], .rw 30 [.int .i64 q4.num, .int .i64 q4.den], .arr (some 41) .delay ([] : List Delay), .arr (some 41) .delay m6] 7) else (bif (m_delay_Split ((addS ⟨(((m_delay_Of q2 m0 (0 : Int) p56 q3 p4 q4).r0).lo), (((m_delay_Of q2 m0 (0 : Int) p56 q3 p4 q4).r0).hi)⟩ ⟨(((ofS ⟨(((subF ⟨((m1.getD p56.toNat (ET.z .frac)).num), ((m1.getD p56.toNat (ET.z .frac)).den)⟩ ⟨((m1.getD 0 (ET.z .frac)).num), ((m1.getD 0 (ET.z .frac)).den)⟩).1).num), (((subF ⟨((m1.getD p56.toNat (ET.z .frac)).num), ((m1.getD p56.toNat (ET.z .frac)).den)⟩ ⟨((m1.getD 0 (ET.z .frac)).num), ((m1.getD 0 (ET.z .frac)).den)⟩).1).den)⟩).1).lo), (((ofS ⟨(((subF ⟨((m1.getD p56.toNat (ET.z .frac)).num), ((m1.getD p56.toNat (ET.z .frac)).den)⟩ ⟨((m1.getD 0 (ET.z .frac)).num), ((m1.getD 0 (ET.z .frac)).den)⟩).1).num), (((subF ⟨((m1.getD p56.toNat (ET.z .frac)).num), ((m1.getD p56.toNat (ET.z .frac)).den)⟩ ⟨((m1.getD 0 (ET.z .frac)).num), ((m1.getD 0 (ET.z .frac)).den)⟩).1).den)⟩).1).hi)⟩).1)).ok then (bif (decide ((0 : Int) ≤ p56) && decide (p56 < (m6.length : Int))) then (bif ((m_delay_Split ((addS ⟨(((m_delay_Of q2 m0 (0 : Int) p56 q3 p4 q4).r0).lo), (((m_delay_Of q2 m0 (0 : Int) p56 q3 p4 q4).r0).hi)⟩ ⟨(((ofS ⟨(((subF ⟨((m1.getD p56.toNat (ET.z .frac)).num), ((m1.getD p56.toNat (ET.z .frac)).den)⟩ ⟨((m1.getD 0 (ET.z .frac)).num), ((m1.getD 0 (ET.z .frac)).den)⟩).1).num), (((subF ⟨((m1.getD p56.toNat (ET.z .frac)).num), ((m1.getD p56.toNat (ET.z .frac)).den)⟩ ⟨((m1.getD 0 (ET.z .frac)).num), ((m1.getD 0 (ET.z .frac)).den)⟩).1).den)⟩).1).lo), (((ofS ⟨(((subF ⟨((m1.getD p56.toNat (ET.z .frac)).num), ((m1.getD p56.toNat (ET.z .frac)).den)⟩ ⟨((m1.getD 0 (ET.z .frac)).num), ((m1.getD 0 (ET.z .frac)).den)⟩).1).num), (((subF ⟨((m1.getD p56.toNat (ET.z .frac)).num), ((m1.getD p56.toNat (ET.z .frac)).den)⟩ ⟨((m1.getD 0 (ET.z .frac)).num), ((m1.getD 0 (ET.z .frac)).den)⟩).1).den)⟩).1).hi)⟩).1)).r1 != (0 : Int)) then some (.st .ret (headT [1, 2, 4, 6, 9, 11, 12, 13, 17, 55, 56] 116 [.v (.c (.aslice 0 none)), .v (.c (.aslice 1 none)), .v (.c (.d (.int .i64 p4))), .v (.c (.ptr 2 0)), .v (.c (.ptr 3 0)), .v (.c (.ptr 4 0)), .v (.c (.aslice 5 none)), .v (.c (.d (.int .i64 ((m_delay_Split ((addS ⟨(((m_delay_Of q2 m0 (0 : Int) p56 q3 p4 q4).r0).lo), (((m_delay_Of q2 m0 (0 : Int) p56 q3 p4 q4).r0).hi)⟩ ⟨(((ofS ⟨(((subF ⟨((m1.getD p56.toNat (ET.z .frac)).num), ((m1.getD p56.toNat (ET.z .frac)).den)⟩ ⟨((m1.getD 0 (ET.z .frac)).num), ((m1.getD 0 (ET.z .frac)).den)⟩).1).num), (((subF ⟨((m1.getD p56.toNat (ET.z .frac)).num), ((m1.getD p56.toNat (ET.z .frac)).den)⟩ ⟨((m1.getD 0 (ET.z .frac)).num), ((m1.getD 0 (ET.z .frac)).den)⟩).1).den)⟩).1).lo), (((ofS ⟨(((subF ⟨((m1.getD p56.toNat (ET.z .frac)).num), ((m1.getD p56.toNat (ET.z .frac)).den)⟩ ⟨((m1.getD 0 (ET.z .frac)).num), ((m1.getD 0 (ET.z .frac)).den)⟩).1).num), (((subF ⟨((m1.getD p56.toNat (ET.z .frac)).num), ((m1.getD p56.toNat (ET.z .frac)).den)⟩ ⟨((m1.getD 0 (ET.z .frac)).num), ((m1.getD 0 (ET.z .frac)).den)⟩).1).den)⟩).1).hi)⟩).1)).r1)))), .v (.c (.aslice 6 none)), .v (.c (.d (.int .i64 p55))), .v (.c (.d (.int .i64 p56)))]) [.arr none .site m0, .arr none .frac m1, .rw 23 [.int .i64 q2.a, .int .i64 q2.b], .rw 26 [.str q3.name, .int .i64 q3.ra, .int .i64 q3.dec], .rw 30 [.int .i64 q4.num, .int .i64 q4.den], .arr (some 41) .delay ([] : List Delay), .arr (some 41) .delay (m6.set p56.toNat ((m_delay_Split ((addS ⟨(((m_delay_Of q2 m0 (0 : Int) p56 q3 p4 q4).r0).lo), (((m_delay_Of q2 m0 (0 : Int) p56 q3 p4 q4).r0).hi)⟩ ⟨(((ofS ⟨(((subF ⟨((m1.getD p56.toNat (ET.z .frac)).num), ((m1.getD p56.toNat (ET.z .frac)).den)⟩ ⟨((m1.getD 0 (ET.z .frac)).num), ((m1.getD 0 (ET.z .frac)).den)⟩).1).num), (((subF ⟨((m1.getD p56.toNat (ET.z .frac)).num), ((m1.getD p56.toNat (ET.z .frac)).den)⟩ ⟨((m1.getD 0 (ET.z .frac)).num), ((m1.getD 0 (ET.z .frac)).den)⟩).1).den)⟩).1).lo), (((ofS ⟨(((subF ⟨((m1.getD p56.toNat (ET.z .frac)).num), ((m1.getD p56.toNat (ET.z .frac)).den)⟩ ⟨((m1.getD 0 (ET.z .frac)).num), ((m1.getD 0 (ET.z .frac)).den)⟩).1).num), (((subF ⟨((m1.getD p56.toNat (ET.z .frac)).num), ((m1.getD p56.toNat (ET.z .frac)).den)⟩ ⟨((m1.getD 0 (ET.z .frac)).num), ((m1.getD 0 (ET.z .frac)).den)⟩).1).den)⟩).1).hi)⟩).1)).r0))] 7) else some (.st .normal (headT [1, 2, 4, 6, 9, 11, 12, 13, 17, 55, 56] 116 [.v (.c (.aslice 0 none)), .v (.c (.aslice 1 none)), .v (.c (.d (.int .i64 p4))), .v (.c (.ptr 2 0)), .v (.c (.ptr 3 0)), .v (.c (.ptr 4 0)), .v (.c (.aslice 5 none)), .v (.c (.d (.int .i64 p13))), .v (.c (.aslice 6 none)), .v (.c (.d (.int .i64 p55))), .v (.c (.d (.int .i64 (w64 (p56 + (1 : Int))))))]) [.arr none .site m0, .arr none .frac m1, .rw 23 [.int .i64 q2.a, .int .i64 q2.b], .rw 26 [.str q3.name, .int .i64 q3.ra, .int .i64 q3.dec], .rw 30 [.int .i64 q4.num, .int .i64 q4.den], .arr (some 41) .delay m5, .arr (some 41) .delay (m6.set p56.toNat ((m_delay_Split ((addS ⟨(((m_delay_Of q2 m0 (0 : Int) p56 q3 p4 q4).r0).lo), (((m_delay_Of q2 m0 (0 : Int) p56 q3 p4 q4).r0).hi)⟩ ⟨(((ofS ⟨(((subF ⟨((m1.getD p56.toNat (ET.z .frac)).num), ((m1.getD p56.toNat (ET.z .frac)).den)⟩ ⟨((m1.getD 0 (ET.z .frac)).num), ((m1.getD 0 (ET.z .frac)).den)⟩).1).num), (((subF ⟨((m1.getD p56.toNat (ET.z .frac)).num), ((m1.getD p56.toNat (ET.z .frac)).den)⟩ ⟨((m1.getD 0 (ET.z .frac)).num), ((m1.getD 0 (ET.z .frac)).den)⟩).1).den)⟩).1).lo), (((ofS ⟨(((subF ⟨((m1.getD p56.toNat (ET.z .frac)).num), ((m1.getD p56.toNat (ET.z .frac)).den)⟩ ⟨((m1.getD 0 (ET.z .frac)).num), ((m1.getD 0 (ET.z .frac)).den)⟩).1).num), (((subF ⟨((m1.getD p56.toNat (ET.z .frac)).num), ((m1.getD p56.toNat (ET.z .frac)).den)⟩ ⟨((m1.getD 0 (ET.z .frac)).num), ((m1.getD 0 (ET.z .frac)).den)⟩).1).den)⟩).1).hi)⟩).1)).r0))] 7)) else none) else none)))) else none) else none)) else none) else some (.st (.exit 2) (headT [1, 2, 4, 6, 9, 11, 12, 13, 17, 55, 56] 116 [.v (.c (.aslice 0 none)), .v (.c (.aslice 1 none)), .v (.c (.d (.int .i64 p4))), .v (.c (.ptr 2 0)), .v (.c (.ptr 3 0)), .v (.c (.ptr 4 0)), .v (.c (.aslice 5 none)), .v (.c (.d (.int .i64 p13))), .v (.c (.aslice 6 none)), .v (.c (.d (.int .i64 p55))), .v (.c (.d (.int .i64 p56)))]) [.arr none .site m0, .arr none .frac m1, .rw 23 [.int .i64 q2.a, .int .i64 q2.b], .rw 26 [.str q3.name, .int .i64 q3.ra, .int .i64 q3.dec], .rw 30 [.int .i64 q4.num, .int .i64 q4.den], .arr (some 41) .delay m5, .arr (some 41) .delay m6] 7) := by
  kernel_rfl
def o_delay_Table_1 (p4 : Int) (p13 : Int) (p55 : Int) (m0 : List Site) (m1 : List Frac) (q2 : Globe) (q3 : Source) (q4 : Frac) (m5 : List Delay) (r : R_delay_Table_1) : LT := .br (Nat.beq r.k 0) (.st .ret (headT [1, 2, 4, 6, 9, 11, 12, 13, 17, 55, 56] 116 [.v (.c (.aslice 0 none)), .v (.c (.aslice 1 none)), .v (.c (.d (.int .i64 p4))), .v (.c (.ptr 2 0)), .v (.c (.ptr 3 0)), .v (.c (.ptr 4 0)), .v (.c (.aslice 5 none)), .v (.c (.d (.int .i64 ((m_delay_Of q2 m0 (0 : Int) r.p56 q3 p4 q4).r1)))), .v (.c (.aslice 6 none)), .v (.c (.d (.int .i64 p55))), .v (.c (.d (.int .i64 r.p56)))]) [.arr none .site m0, .arr none .frac m1, .rw 23 [.int .i64 q2.a, .int .i64 q2.b], .rw 26 [.str q3.name, .int .i64 q3.ra, .int .i64 q3.dec], .rw 30 [.int .i64 q4.num, .int .i64 q4.den], .arr (some 41) .delay ([] : List Delay), .arr (some 41) .delay r.m6] 7) (.br (Nat.beq r.k 1) (.st .ret (headT [1, 2, 4, 6, 9, 11, 12, 13, 17, 55, 56] 116 [.v (.c (.aslice 0 none)), .v (.c (.aslice 1 none)), .v (.c (.d (.int .i64 p4))), .v (.c (.ptr 2 0)), .v (.c (.ptr 3 0)), .v (.c (.ptr 4 0)), .v (.c (.aslice 5 none)), .v (.c (.d (.int .i64 ((subF ⟨((m1.getD r.p56.toNat (ET.z .frac)).num), ((m1.getD r.p56.toNat (ET.z .frac)).den)⟩ ⟨((m1.getD 0 (ET.z .frac)).num), ((m1.getD 0 (ET.z .frac)).den)⟩).2)))), .v (.c (.aslice 6 none)), .v (.c (.d (.int .i64 p55))), .v (.c (.d (.int .i64 r.p56)))]) [.arr none .site m0, .arr none .frac m1, .rw 23 [.int .i64 q2.a, .int .i64 q2.b], .rw 26 [.str q3.name, .int .i64 q3.ra, .int .i64 q3.dec], .rw 30 [.int .i64 q4.num, .int .i64 q4.den], .arr (some 41) .delay ([] : List Delay), .arr (some 41) .delay r.m6] 7) (.br (Nat.beq r.k 2) (.st .ret (headT [1, 2, 4, 6, 9, 11, 12, 13, 17, 55, 56] 116 [.v (.c (.aslice 0 none)), .v (.c (.aslice 1 none)), .v (.c (.d (.int .i64 p4))), .v (.c (.ptr 2 0)), .v (.c (.ptr 3 0)), .v (.c (.ptr 4 0)), .v (.c (.aslice 5 none)), .v (.c (.d (.int .i64 ((ofS ⟨(((subF ⟨((m1.getD r.p56.toNat (ET.z .frac)).num), ((m1.getD r.p56.toNat (ET.z .frac)).den)⟩ ⟨((m1.getD 0 (ET.z .frac)).num), ((m1.getD 0 (ET.z .frac)).den)⟩).1).num), (((subF ⟨((m1.getD r.p56.toNat (ET.z .frac)).num), ((m1.getD r.p56.toNat (ET.z .frac)).den)⟩ ⟨((m1.getD 0 (ET.z .frac)).num), ((m1.getD 0 (ET.z .frac)).den)⟩).1).den)⟩).2)))), .v (.c (.aslice 6 none)), .v (.c (.d (.int .i64 p55))), .v (.c (.d (.int .i64 r.p56)))]) [.arr none .site m0, .arr none .frac m1, .rw 23 [.int .i64 q2.a, .int .i64 q2.b], .rw 26 [.str q3.name, .int .i64 q3.ra, .int .i64 q3.dec], .rw 30 [.int .i64 q4.num, .int .i64 q4.den], .arr (some 41) .delay ([] : List Delay), .arr (some 41) .delay r.m6] 7) (.br (Nat.beq r.k 3) (.st .ret (headT [1, 2, 4, 6, 9, 11, 12, 13, 17, 55, 56] 116 [.v (.c (.aslice 0 none)), .v (.c (.aslice 1 none)), .v (.c (.d (.int .i64 p4))), .v (.c (.ptr 2 0)), .v (.c (.ptr 3 0)), .v (.c (.ptr 4 0)), .v (.c (.aslice 5 none)), .v (.c (.d (.int .i64 ((addS ⟨(((m_delay_Of q2 m0 (0 : Int) r.p56 q3 p4 q4).r0).lo), (((m_delay_Of q2 m0 (0 : Int) r.p56 q3 p4 q4).r0).hi)⟩ ⟨(((ofS ⟨(((subF ⟨((m1.getD r.p56.toNat (ET.z .frac)).num), ((m1.getD r.p56.toNat (ET.z .frac)).den)⟩ ⟨((m1.getD 0 (ET.z .frac)).num), ((m1.getD 0 (ET.z .frac)).den)⟩).1).num), (((subF ⟨((m1.getD r.p56.toNat (ET.z .frac)).num), ((m1.getD r.p56.toNat (ET.z .frac)).den)⟩ ⟨((m1.getD 0 (ET.z .frac)).num), ((m1.getD 0 (ET.z .frac)).den)⟩).1).den)⟩).1).lo), (((ofS ⟨(((subF ⟨((m1.getD r.p56.toNat (ET.z .frac)).num), ((m1.getD r.p56.toNat (ET.z .frac)).den)⟩ ⟨((m1.getD 0 (ET.z .frac)).num), ((m1.getD 0 (ET.z .frac)).den)⟩).1).num), (((subF ⟨((m1.getD r.p56.toNat (ET.z .frac)).num), ((m1.getD r.p56.toNat (ET.z .frac)).den)⟩ ⟨((m1.getD 0 (ET.z .frac)).num), ((m1.getD 0 (ET.z .frac)).den)⟩).1).den)⟩).1).hi)⟩).2)))), .v (.c (.aslice 6 none)), .v (.c (.d (.int .i64 p55))), .v (.c (.d (.int .i64 r.p56)))]) [.arr none .site m0, .arr none .frac m1, .rw 23 [.int .i64 q2.a, .int .i64 q2.b], .rw 26 [.str q3.name, .int .i64 q3.ra, .int .i64 q3.dec], .rw 30 [.int .i64 q4.num, .int .i64 q4.den], .arr (some 41) .delay ([] : List Delay), .arr (some 41) .delay r.m6] 7) (.br (Nat.beq r.k 4) (.st .ret (headT [1, 2, 4, 6, 9, 11, 12, 13, 17, 55, 56] 116 [.v (.c (.aslice 0 none)), .v (.c (.aslice 1 none)), .v (.c (.d (.int .i64 p4))), .v (.c (.ptr 2 0)), .v (.c (.ptr 3 0)), .v (.c (.ptr 4 0)), .v (.c (.aslice 5 none)), .v (.c (.d (.int .i64 ((m_delay_Split ((addS ⟨(((m_delay_Of q2 m0 (0 : Int) r.p56 q3 p4 q4).r0).lo), (((m_delay_Of q2 m0 (0 : Int) r.p56 q3 p4 q4).r0).hi)⟩ ⟨(((ofS ⟨(((subF ⟨((m1.getD r.p56.toNat (ET.z .frac)).num), ((m1.getD r.p56.toNat (ET.z .frac)).den)⟩ ⟨((m1.getD 0 (ET.z .frac)).num), ((m1.getD 0 (ET.z .frac)).den)⟩).1).num), (((subF ⟨((m1.getD r.p56.toNat (ET.z .frac)).num), ((m1.getD r.p56.toNat (ET.z .frac)).den)⟩ ⟨((m1.getD 0 (ET.z .frac)).num), ((m1.getD 0 (ET.z .frac)).den)⟩).1).den)⟩).1).lo), (((ofS ⟨(((subF ⟨((m1.getD r.p56.toNat (ET.z .frac)).num), ((m1.getD r.p56.toNat (ET.z .frac)).den)⟩ ⟨((m1.getD 0 (ET.z .frac)).num), ((m1.getD 0 (ET.z .frac)).den)⟩).1).num), (((subF ⟨((m1.getD r.p56.toNat (ET.z .frac)).num), ((m1.getD r.p56.toNat (ET.z .frac)).den)⟩ ⟨((m1.getD 0 (ET.z .frac)).num), ((m1.getD 0 (ET.z .frac)).den)⟩).1).den)⟩).1).hi)⟩).1)).r1)))), .v (.c (.aslice 6 none)), .v (.c (.d (.int .i64 p55))), .v (.c (.d (.int .i64 r.p56)))]) [.arr none .site m0, .arr none .frac m1, .rw 23 [.int .i64 q2.a, .int .i64 q2.b], .rw 26 [.str q3.name, .int .i64 q3.ra, .int .i64 q3.dec], .rw 30 [.int .i64 q4.num, .int .i64 q4.den], .arr (some 41) .delay ([] : List Delay), .arr (some 41) .delay (r.m6.set r.p56.toNat ((m_delay_Split ((addS ⟨(((m_delay_Of q2 m0 (0 : Int) r.p56 q3 p4 q4).r0).lo), (((m_delay_Of q2 m0 (0 : Int) r.p56 q3 p4 q4).r0).hi)⟩ ⟨(((ofS ⟨(((subF ⟨((m1.getD r.p56.toNat (ET.z .frac)).num), ((m1.getD r.p56.toNat (ET.z .frac)).den)⟩ ⟨((m1.getD 0 (ET.z .frac)).num), ((m1.getD 0 (ET.z .frac)).den)⟩).1).num), (((subF ⟨((m1.getD r.p56.toNat (ET.z .frac)).num), ((m1.getD r.p56.toNat (ET.z .frac)).den)⟩ ⟨((m1.getD 0 (ET.z .frac)).num), ((m1.getD 0 (ET.z .frac)).den)⟩).1).den)⟩).1).lo), (((ofS ⟨(((subF ⟨((m1.getD r.p56.toNat (ET.z .frac)).num), ((m1.getD r.p56.toNat (ET.z .frac)).den)⟩ ⟨((m1.getD 0 (ET.z .frac)).num), ((m1.getD 0 (ET.z .frac)).den)⟩).1).num), (((subF ⟨((m1.getD r.p56.toNat (ET.z .frac)).num), ((m1.getD r.p56.toNat (ET.z .frac)).den)⟩ ⟨((m1.getD 0 (ET.z .frac)).num), ((m1.getD 0 (ET.z .frac)).den)⟩).1).den)⟩).1).hi)⟩).1)).r0))] 7) (.br (Nat.beq r.k 5) (.st (.exit 2) (headT [1, 2, 4, 6, 9, 11, 12, 13, 17, 55, 56] 116 [.v (.c (.aslice 0 none)), .v (.c (.aslice 1 none)), .v (.c (.d (.int .i64 p4))), .v (.c (.ptr 2 0)), .v (.c (.ptr 3 0)), .v (.c (.ptr 4 0)), .v (.c (.aslice 5 none)), .v (.c (.d (.int .i64 p13))), .v (.c (.aslice 6 none)), .v (.c (.d (.int .i64 p55))), .v (.c (.d (.int .i64 r.p56)))]) [.arr none .site m0, .arr none .frac m1, .rw 23 [.int .i64 q2.a, .int .i64 q2.b], .rw 26 [.str q3.name, .int .i64 q3.ra, .int .i64 q3.dec], .rw 30 [.int .i64 q4.num, .int .i64 q4.den], .arr (some 41) .delay m5, .arr (some 41) .delay r.m6] 7) (.no))))))
theorem r_delay_Table_1 (p4 : Int) (p13 : Int) (p55 : Int) (m0 : List Site) (m1 : List Frac) (q2 : Globe) (q3 : Source) (q4 : Frac) (m5 : List Delay) : ∀ (n : Nat) (p56 : Int) (m6 : List Delay) (x : Ex) (T' : TS) (M' : List Blk) (N' : Nat), LReach (o_delay_Table_1 p4 p13 p55 m0 m1 q2 q3 q4 m5 (run_delay_Table_1 p4 p13 p55 m0 m1 q2 q3 q4 m5 n p56 m6)) x T' M' N' → x ≠ .normal ∧ ∃ j, RoundsN Try.prog GT gbT 2 (loopB Try.prog 7 1) j (H_delay_Table_1 p4 p13 p55 m0 m1 q2 q3 q4 m5 p56 m6) [.arr none .site m0, .arr none .frac m1, .rw 23 [.int .i64 q2.a, .int .i64 q2.b], .rw 26 [.str q3.name, .int .i64 q3.ra, .int .i64 q3.dec], .rw 30 [.int .i64 q4.num, .int .i64 q4.den], .arr (some 41) .delay m5, .arr (some 41) .delay m6] 7 x T' M' N' := by
  have hL : LOKn Try.prog GT gbT 2 noL (loopsIn (loopB Try.prog 7 1)) := fun _ _ _ _ _ _ _ _ _ h => h.elim
  intro n
  induction n with
  | zero =>
    intro p56 m6 x T' M' N' hr
    exact False.elim (redF (redF (redF (redF (redF (redF hr))))))
  | succ n ih =>
    intro p56 m6 x T' M' N'
    rw [run_delay_Table_1]
    exact viaE (b_delay_Table_1 p4 p13 p55 m0 m1 q2 q3 q4 m5 p56 m6) (condG (o := o_delay_Table_1 p4 p13 p55 m0 m1 q2 q3 q4 m5) (condG (o := o_delay_Table_1 p4 p13 p55 m0 m1 q2 q3 q4 m5) (condG (o := o_delay_Table_1 p4 p13 p55 m0 m1 q2 q3 q4 m5) (fun he hr => stopN (g_Q9_Same.inl hEQT hmT (fun f hf => by simp only [List.mem_cons, List.not_mem_nil, or_false] at hf; subst hf; exact (fun args w => Try.call18 args w)) 150 2) hEQT hmT hL he (by simp) (redT hr)) (condG (o := o_delay_Table_1 p4 p13 p55 m0 m1 q2 q3 q4 m5) (condG (o := o_delay_Table_1 p4 p13 p55 m0 m1 q2 q3 q4 m5) (condG (o := o_delay_Table_1 p4 p13 p55 m0 m1 q2 q3 q4 m5) (fun he hr => stopN (g_Q9_Same.inl hEQT hmT (fun f hf => by simp only [List.mem_cons, List.not_mem_nil, or_false] at hf; subst hf; exact (fun args w => Try.call18 args w)) 150 2) hEQT hmT hL he (by simp) (redT (redF hr))) (condG (o := o_delay_Table_1 p4 p13 p55 m0 m1 q2 q3 q4 m5) (fun he hr => stopN (g_Q9_Same.inl hEQT hmT (fun f hf => by simp only [List.mem_cons, List.not_mem_nil, or_false] at hf; subst hf; exact (fun args w => Try.call18 args w)) 150 2) hEQT hmT hL he (by simp) (redT (redF (redF hr)))) (condG (o := o_delay_Table_1 p4 p13 p55 m0 m1 q2 q3 q4 m5) (fun he hr => stopN (g_Q9_Same.inl hEQT hmT (fun f hf => by simp only [List.mem_cons, List.not_mem_nil, or_false] at hf; subst hf; exact (fun args w => Try.call18 args w)) 150 2) hEQT hmT hL he (by simp) (redT (redF (redF (redF hr))))) (condG (o := o_delay_Table_1 p4 p13 p55 m0 m1 q2 q3 q4 m5) (condG (o := o_delay_Table_1 p4 p13 p55 m0 m1 q2 q3 q4 m5) (condG (o := o_delay_Table_1 p4 p13 p55 m0 m1 q2 q3 q4 m5) (fun he hr => stopN (g_Q9_Same.inl hEQT hmT (fun f hf => by simp only [List.mem_cons, List.not_mem_nil, or_false] at hf; subst hf; exact (fun args w => Try.call18 args w)) 150 2) hEQT hmT hL he (by simp) (redT (redF (redF (redF (redF hr)))))) (fun he hr => goN (g_Q9_Same.inl hEQT hmT (fun f hf => by simp only [List.mem_cons, List.not_mem_nil, or_false] at hf; subst hf; exact (fun args w => Try.call18 args w)) 150 2) hEQT hmT hL he (ih (w64 (p56 + (1 : Int))) (m6.set p56.toNat ((m_delay_Split ((addS ⟨(((m_delay_Of q2 m0 (0 : Int) p56 q3 p4 q4).r0).lo), (((m_delay_Of q2 m0 (0 : Int) p56 q3 p4 q4).r0).hi)⟩ ⟨(((ofS ⟨(((subF ⟨((m1.getD p56.toNat (ET.z .frac)).num), ((m1.getD p56.toNat (ET.z .frac)).den)⟩ ⟨((m1.getD 0 (ET.z .frac)).num), ((m1.getD 0 (ET.z .frac)).den)⟩).1).num), (((subF ⟨((m1.getD p56.toNat (ET.z .frac)).num), ((m1.getD p56.toNat (ET.z .frac)).den)⟩ ⟨((m1.getD 0 (ET.z .frac)).num), ((m1.getD 0 (ET.z .frac)).den)⟩).1).den)⟩).1).lo), (((ofS ⟨(((subF ⟨((m1.getD p56.toNat (ET.z .frac)).num), ((m1.getD p56.toNat (ET.z .frac)).den)⟩ ⟨((m1.getD 0 (ET.z .frac)).num), ((m1.getD 0 (ET.z .frac)).den)⟩).1).num), (((subF ⟨((m1.getD p56.toNat (ET.z .frac)).num), ((m1.getD p56.toNat (ET.z .frac)).den)⟩ ⟨((m1.getD 0 (ET.z .frac)).num), ((m1.getD 0 (ET.z .frac)).den)⟩).1).den)⟩).1).hi)⟩).1)).r0)) x T' M' N' hr))) (fun _ hr => False.elim (redF (redF (redF (redF (redF (redF hr)))))))) (fun _ hr => False.elim (redF (redF (redF (redF (redF (redF hr))))))))))) (fun _ hr => False.elim (redF (redF (redF (redF (redF (redF hr)))))))) (fun _ hr => False.elim (redF (redF (redF (redF (redF (redF hr))))))))) (fun _ hr => False.elim (redF (redF (redF (redF (redF (redF hr)))))))) (fun he hr => stopN (g_Q9_Same.inl hEQT hmT (fun f hf => by simp only [List.mem_cons, List.not_mem_nil, or_false] at hf; subst hf; exact (fun args w => Try.call18 args w)) 150 2) hEQT hmT hL he (by simp) (redT (redF (redF (redF (redF (redF hr))))))))
def f_delay_Table_1 : List AV → List Blk → LT := fun vs Ms => match vs, Ms with
  | [.v (.c (.aslice 0 none)), .v (.c (.aslice 1 none)), .v (.c (.d (.int .i64 p4))), .v (.c (.ptr 2 0)), .v (.c (.ptr 3 0)), .v (.c (.ptr 4 0)), .v (.c (.aslice 5 none)), .v (.c (.d (.int .i64 p13))), .v (.c (.aslice 6 none)), .v (.c (.d (.int .i64 p55))), .v (.c (.d (.int .i64 p56)))], [.arr none .site m0, .arr none .frac m1, .rw 23 [.int .i64 q2_0, .int .i64 q2_1], .rw 26 [.str q3_0, .int .i64 q3_1, .int .i64 q3_2], .rw 30 [.int .i64 q4_0, .int .i64 q4_1], .arr (some 41) .delay m5, .arr (some 41) .delay m6] => o_delay_Table_1 p4 p13 p55 m0 m1 (⟨q2_0, q2_1⟩ : Globe) (⟨q3_0, q3_1, q3_2⟩ : Source) (⟨q4_0, q4_1⟩ : Frac) m5 (lp_delay_Table_1 p4 p13 p55 m0 m1 (⟨q2_0, q2_1⟩ : Globe) (⟨q3_0, q3_1, q3_2⟩ : Source) (⟨q4_0, q4_1⟩ : Frac) m5 p56 m6)
  | _, _ => .no
def L_delay_Table_1 := LamN 16 116 2 [1, 2, 4, 6, 9, 11, 12, 13, 17, 55, 56] f_delay_Table_1
theorem k_delay_Table_1 : LOKbn Try.prog GT gbT 2 L_delay_Table_1 (loopB Try.prog 7 1) := by
  refine LOKbn.lamN (by kernel_rfl) fun vs Ms x T' M' N' hr => ?_
  unfold f_delay_Table_1 at hr
  split at hr
  · obtain ⟨q1, j, q2⟩ := r_delay_Table_1 _ _ _ _ _ _ _ _ _ _ _ _ x T' M' N' hr
    exact ⟨q1, j, q2⟩
  · exact hr.elim
structure O_delay_Table where
  ok : Bool
  r0 : List Delay
  r1 : Int
def m_delay_Table (a0 : Globe) (a1 : List Site) (a2 : List Frac) (a3 : Source) (a4 : Int) (a5 : Frac) : O_delay_Table := bif (m_delay_check a0 a1 a3 a5).ok then (bif ((m_delay_check a0 a1 a3 a5).r0 != (0 : Int)) then ⟨true, ([] : List Delay), (m_delay_check a0 a1 a3 a5).r0⟩ else (bif ((a2.length : Int) != (a1.length : Int)) then ⟨true, ([] : List Delay), (8 : Int)⟩ else (bif Nat.beq (lp_delay_Table_0 a4 (0 : Int) (a2.length : Int) a1 a2 a0 a3 a5 ([] : List Delay) (0 : Int)).k 0 then ⟨true, ([] : List Delay), (8 : Int)⟩ else (bif Nat.beq (lp_delay_Table_0 a4 (0 : Int) (a2.length : Int) a1 a2 a0 a3 a5 ([] : List Delay) (0 : Int)).k 1 then (bif decide (a4 < (-1000000 : Int)) then ⟨true, ([] : List Delay), (2 : Int)⟩ else (bif decide ((1000000 : Int) < a4) then ⟨true, ([] : List Delay), (2 : Int)⟩ else (bif (decide ((a1.length : Int) = (a1.length : Int)) && (decide (0 ≤ (a1.length : Int)) && (decide ((a1.length : Int) ≤ 1048576) && ((3 == 3) && (Nat.blt 0 3 && Nat.ble 24 4096))))) then (bif Nat.beq (lp_delay_Table_1 a4 (0 : Int) (a1.length : Int) a1 a2 a0 a3 a5 ([] : List Delay) (0 : Int) (List.replicate a1.length (⟨(0 : Int), ⟨(0 : Int), (0 : Int)⟩⟩ : Delay))).k 0 then ⟨true, ([] : List Delay), (m_delay_Of a0 a1 (0 : Int) ((lp_delay_Table_1 a4 (0 : Int) (a1.length : Int) a1 a2 a0 a3 a5 ([] : List Delay) (0 : Int) (List.replicate a1.length (⟨(0 : Int), ⟨(0 : Int), (0 : Int)⟩⟩ : Delay))).p56) a3 a4 a5).r1⟩ else (bif Nat.beq (lp_delay_Table_1 a4 (0 : Int) (a1.length : Int) a1 a2 a0 a3 a5 ([] : List Delay) (0 : Int) (List.replicate a1.length (⟨(0 : Int), ⟨(0 : Int), (0 : Int)⟩⟩ : Delay))).k 1 then ⟨true, ([] : List Delay), (subF ⟨((a2.getD ((lp_delay_Table_1 a4 (0 : Int) (a1.length : Int) a1 a2 a0 a3 a5 ([] : List Delay) (0 : Int) (List.replicate a1.length (⟨(0 : Int), ⟨(0 : Int), (0 : Int)⟩⟩ : Delay))).p56).toNat (ET.z .frac)).num), ((a2.getD ((lp_delay_Table_1 a4 (0 : Int) (a1.length : Int) a1 a2 a0 a3 a5 ([] : List Delay) (0 : Int) (List.replicate a1.length (⟨(0 : Int), ⟨(0 : Int), (0 : Int)⟩⟩ : Delay))).p56).toNat (ET.z .frac)).den)⟩ ⟨((a2.getD 0 (ET.z .frac)).num), ((a2.getD 0 (ET.z .frac)).den)⟩).2⟩ else (bif Nat.beq (lp_delay_Table_1 a4 (0 : Int) (a1.length : Int) a1 a2 a0 a3 a5 ([] : List Delay) (0 : Int) (List.replicate a1.length (⟨(0 : Int), ⟨(0 : Int), (0 : Int)⟩⟩ : Delay))).k 2 then ⟨true, ([] : List Delay), (ofS ⟨(((subF ⟨((a2.getD ((lp_delay_Table_1 a4 (0 : Int) (a1.length : Int) a1 a2 a0 a3 a5 ([] : List Delay) (0 : Int) (List.replicate a1.length (⟨(0 : Int), ⟨(0 : Int), (0 : Int)⟩⟩ : Delay))).p56).toNat (ET.z .frac)).num), ((a2.getD ((lp_delay_Table_1 a4 (0 : Int) (a1.length : Int) a1 a2 a0 a3 a5 ([] : List Delay) (0 : Int) (List.replicate a1.length (⟨(0 : Int), ⟨(0 : Int), (0 : Int)⟩⟩ : Delay))).p56).toNat (ET.z .frac)).den)⟩ ⟨((a2.getD 0 (ET.z .frac)).num), ((a2.getD 0 (ET.z .frac)).den)⟩).1).num), (((subF ⟨((a2.getD ((lp_delay_Table_1 a4 (0 : Int) (a1.length : Int) a1 a2 a0 a3 a5 ([] : List Delay) (0 : Int) (List.replicate a1.length (⟨(0 : Int), ⟨(0 : Int), (0 : Int)⟩⟩ : Delay))).p56).toNat (ET.z .frac)).num), ((a2.getD ((lp_delay_Table_1 a4 (0 : Int) (a1.length : Int) a1 a2 a0 a3 a5 ([] : List Delay) (0 : Int) (List.replicate a1.length (⟨(0 : Int), ⟨(0 : Int), (0 : Int)⟩⟩ : Delay))).p56).toNat (ET.z .frac)).den)⟩ ⟨((a2.getD 0 (ET.z .frac)).num), ((a2.getD 0 (ET.z .frac)).den)⟩).1).den)⟩).2⟩ else (bif Nat.beq (lp_delay_Table_1 a4 (0 : Int) (a1.length : Int) a1 a2 a0 a3 a5 ([] : List Delay) (0 : Int) (List.replicate a1.length (⟨(0 : Int), ⟨(0 : Int), (0 : Int)⟩⟩ : Delay))).k 3 then ⟨true, ([] : List Delay), (addS ⟨(((m_delay_Of a0 a1 (0 : Int) ((lp_delay_Table_1 a4 (0 : Int) (a1.length : Int) a1 a2 a0 a3 a5 ([] : List Delay) (0 : Int) (List.replicate a1.length (⟨(0 : Int), ⟨(0 : Int), (0 : Int)⟩⟩ : Delay))).p56) a3 a4 a5).r0).lo), (((m_delay_Of a0 a1 (0 : Int) ((lp_delay_Table_1 a4 (0 : Int) (a1.length : Int) a1 a2 a0 a3 a5 ([] : List Delay) (0 : Int) (List.replicate a1.length (⟨(0 : Int), ⟨(0 : Int), (0 : Int)⟩⟩ : Delay))).p56) a3 a4 a5).r0).hi)⟩ ⟨(((ofS ⟨(((subF ⟨((a2.getD ((lp_delay_Table_1 a4 (0 : Int) (a1.length : Int) a1 a2 a0 a3 a5 ([] : List Delay) (0 : Int) (List.replicate a1.length (⟨(0 : Int), ⟨(0 : Int), (0 : Int)⟩⟩ : Delay))).p56).toNat (ET.z .frac)).num), ((a2.getD ((lp_delay_Table_1 a4 (0 : Int) (a1.length : Int) a1 a2 a0 a3 a5 ([] : List Delay) (0 : Int) (List.replicate a1.length (⟨(0 : Int), ⟨(0 : Int), (0 : Int)⟩⟩ : Delay))).p56).toNat (ET.z .frac)).den)⟩ ⟨((a2.getD 0 (ET.z .frac)).num), ((a2.getD 0 (ET.z .frac)).den)⟩).1).num), (((subF ⟨((a2.getD ((lp_delay_Table_1 a4 (0 : Int) (a1.length : Int) a1 a2 a0 a3 a5 ([] : List Delay) (0 : Int) (List.replicate a1.length (⟨(0 : Int), ⟨(0 : Int), (0 : Int)⟩⟩ : Delay))).p56).toNat (ET.z .frac)).num), ((a2.getD ((lp_delay_Table_1 a4 (0 : Int) (a1.length : Int) a1 a2 a0 a3 a5 ([] : List Delay) (0 : Int) (List.replicate a1.length (⟨(0 : Int), ⟨(0 : Int), (0 : Int)⟩⟩ : Delay))).p56).toNat (ET.z .frac)).den)⟩ ⟨((a2.getD 0 (ET.z .frac)).num), ((a2.getD 0 (ET.z .frac)).den)⟩).1).den)⟩).1).lo), (((ofS ⟨(((subF ⟨((a2.getD ((lp_delay_Table_1 a4 (0 : Int) (a1.length : Int) a1 a2 a0 a3 a5 ([] : List Delay) (0 : Int) (List.replicate a1.length (⟨(0 : Int), ⟨(0 : Int), (0 : Int)⟩⟩ : Delay))).p56).toNat (ET.z .frac)).num), ((a2.getD ((lp_delay_Table_1 a4 (0 : Int) (a1.length : Int) a1 a2 a0 a3 a5 ([] : List Delay) (0 : Int) (List.replicate a1.length (⟨(0 : Int), ⟨(0 : Int), (0 : Int)⟩⟩ : Delay))).p56).toNat (ET.z .frac)).den)⟩ ⟨((a2.getD 0 (ET.z .frac)).num), ((a2.getD 0 (ET.z .frac)).den)⟩).1).num), (((subF ⟨((a2.getD ((lp_delay_Table_1 a4 (0 : Int) (a1.length : Int) a1 a2 a0 a3 a5 ([] : List Delay) (0 : Int) (List.replicate a1.length (⟨(0 : Int), ⟨(0 : Int), (0 : Int)⟩⟩ : Delay))).p56).toNat (ET.z .frac)).num), ((a2.getD ((lp_delay_Table_1 a4 (0 : Int) (a1.length : Int) a1 a2 a0 a3 a5 ([] : List Delay) (0 : Int) (List.replicate a1.length (⟨(0 : Int), ⟨(0 : Int), (0 : Int)⟩⟩ : Delay))).p56).toNat (ET.z .frac)).den)⟩ ⟨((a2.getD 0 (ET.z .frac)).num), ((a2.getD 0 (ET.z .frac)).den)⟩).1).den)⟩).1).hi)⟩).2⟩ else (bif Nat.beq (lp_delay_Table_1 a4 (0 : Int) (a1.length : Int) a1 a2 a0 a3 a5 ([] : List Delay) (0 : Int) (List.replicate a1.length (⟨(0 : Int), ⟨(0 : Int), (0 : Int)⟩⟩ : Delay))).k 4 then ⟨true, ([] : List Delay), (m_delay_Split ((addS ⟨(((m_delay_Of a0 a1 (0 : Int) ((lp_delay_Table_1 a4 (0 : Int) (a1.length : Int) a1 a2 a0 a3 a5 ([] : List Delay) (0 : Int) (List.replicate a1.length (⟨(0 : Int), ⟨(0 : Int), (0 : Int)⟩⟩ : Delay))).p56) a3 a4 a5).r0).lo), (((m_delay_Of a0 a1 (0 : Int) ((lp_delay_Table_1 a4 (0 : Int) (a1.length : Int) a1 a2 a0 a3 a5 ([] : List Delay) (0 : Int) (List.replicate a1.length (⟨(0 : Int), ⟨(0 : Int), (0 : Int)⟩⟩ : Delay))).p56) a3 a4 a5).r0).hi)⟩ ⟨(((ofS ⟨(((subF ⟨((a2.getD ((lp_delay_Table_1 a4 (0 : Int) (a1.length : Int) a1 a2 a0 a3 a5 ([] : List Delay) (0 : Int) (List.replicate a1.length (⟨(0 : Int), ⟨(0 : Int), (0 : Int)⟩⟩ : Delay))).p56).toNat (ET.z .frac)).num), ((a2.getD ((lp_delay_Table_1 a4 (0 : Int) (a1.length : Int) a1 a2 a0 a3 a5 ([] : List Delay) (0 : Int) (List.replicate a1.length (⟨(0 : Int), ⟨(0 : Int), (0 : Int)⟩⟩ : Delay))).p56).toNat (ET.z .frac)).den)⟩ ⟨((a2.getD 0 (ET.z .frac)).num), ((a2.getD 0 (ET.z .frac)).den)⟩).1).num), (((subF ⟨((a2.getD ((lp_delay_Table_1 a4 (0 : Int) (a1.length : Int) a1 a2 a0 a3 a5 ([] : List Delay) (0 : Int) (List.replicate a1.length (⟨(0 : Int), ⟨(0 : Int), (0 : Int)⟩⟩ : Delay))).p56).toNat (ET.z .frac)).num), ((a2.getD ((lp_delay_Table_1 a4 (0 : Int) (a1.length : Int) a1 a2 a0 a3 a5 ([] : List Delay) (0 : Int) (List.replicate a1.length (⟨(0 : Int), ⟨(0 : Int), (0 : Int)⟩⟩ : Delay))).p56).toNat (ET.z .frac)).den)⟩ ⟨((a2.getD 0 (ET.z .frac)).num), ((a2.getD 0 (ET.z .frac)).den)⟩).1).den)⟩).1).lo), (((ofS ⟨(((subF ⟨((a2.getD ((lp_delay_Table_1 a4 (0 : Int) (a1.length : Int) a1 a2 a0 a3 a5 ([] : List Delay) (0 : Int) (List.replicate a1.length (⟨(0 : Int), ⟨(0 : Int), (0 : Int)⟩⟩ : Delay))).p56).toNat (ET.z .frac)).num), ((a2.getD ((lp_delay_Table_1 a4 (0 : Int) (a1.length : Int) a1 a2 a0 a3 a5 ([] : List Delay) (0 : Int) (List.replicate a1.length (⟨(0 : Int), ⟨(0 : Int), (0 : Int)⟩⟩ : Delay))).p56).toNat (ET.z .frac)).den)⟩ ⟨((a2.getD 0 (ET.z .frac)).num), ((a2.getD 0 (ET.z .frac)).den)⟩).1).num), (((subF ⟨((a2.getD ((lp_delay_Table_1 a4 (0 : Int) (a1.length : Int) a1 a2 a0 a3 a5 ([] : List Delay) (0 : Int) (List.replicate a1.length (⟨(0 : Int), ⟨(0 : Int), (0 : Int)⟩⟩ : Delay))).p56).toNat (ET.z .frac)).num), ((a2.getD ((lp_delay_Table_1 a4 (0 : Int) (a1.length : Int) a1 a2 a0 a3 a5 ([] : List Delay) (0 : Int) (List.replicate a1.length (⟨(0 : Int), ⟨(0 : Int), (0 : Int)⟩⟩ : Delay))).p56).toNat (ET.z .frac)).den)⟩ ⟨((a2.getD 0 (ET.z .frac)).num), ((a2.getD 0 (ET.z .frac)).den)⟩).1).den)⟩).1).hi)⟩).1)).r1⟩ else (bif Nat.beq (lp_delay_Table_1 a4 (0 : Int) (a1.length : Int) a1 a2 a0 a3 a5 ([] : List Delay) (0 : Int) (List.replicate a1.length (⟨(0 : Int), ⟨(0 : Int), (0 : Int)⟩⟩ : Delay))).k 5 then ⟨true, ((lp_delay_Table_1 a4 (0 : Int) (a1.length : Int) a1 a2 a0 a3 a5 ([] : List Delay) (0 : Int) (List.replicate a1.length (⟨(0 : Int), ⟨(0 : Int), (0 : Int)⟩⟩ : Delay))).m6), (0 : Int)⟩ else ⟨false, [], 0⟩)))))) else ⟨false, [], 0⟩))) else ⟨false, [], 0⟩)))) else ⟨false, [], 0⟩
def F_delay_Table (_a0 : Globe) (a1 : List Site) (a2 : List Frac) (_a3 : Source) (_a4 : Int) (_a5 : Frac) (K : AV → List Blk → Ans) (r : O_delay_Table) : Ans := bif r.ok then K (.tup [.c (.aslice 2 none), .c (.d (.int .i64 r.r1))]) [.arr none .site a1, .arr none .frac a2, .arr (some 41) .delay r.r0] else none
theorem e_delay_Table (a0 : Globe) (a1 : List Site) (a2 : List Frac) (a3 : Source) (a4 : Int) (a5 : Frac) (K : AV → List Blk → Ans) : evFn Try.prog GT EQT (inl Try.prog GT EQT XT [18] T_Q9_Same 150 2) XT (orL L_delay_Table_1 (orL L_delay_Table_0 noL)) 150 7 [.v (.agg [.int .i64 a0.a, .int .i64 a0.b]), .v (.c (.aslice 0 none)), .v (.c (.aslice 1 none)), .v (.agg [.str a3.name, .int .i64 a3.ra, .int .i64 a3.dec]), .v (.c (.d (.int .i64 a4))), .v (.agg [.int .i64 a5.num, .int .i64 a5.den])] [.arr none .site a1, .arr none .frac a2] (fun v M => K (finR 2 v M).1 (finR 2 v M).2) = F_delay_Table a0 a1 a2 a3 a4 a5 K (m_delay_Table a0 a1 a2 a3 a4 a5) := by
  unfold m_delay_Table
  refine Eq.trans ?_ (Eq.symm (pushT (pushT rfl (pushT rfl (pushT rfl (pushT (pushT rfl (pushT rfl (pushT (pushT rfl (pushT rfl (pushT rfl (pushT rfl (pushT rfl (pushT rfl rfl)))))) rfl))) rfl)))) rfl))
  kernel_rfl
theorem lok_delay_Table : ∀ fn c, Try.prog.funcs[7]? = some fn → fn.body = some c → LOKn Try.prog GT gbT 2 (orL L_delay_Table_1 (orL L_delay_Table_0 noL)) (loopsIn c) := by
  refine LOKn.ofF fun b hb => ?_
  have e : loopsF Try.prog 7 = [loopB Try.prog 7 0, loopB Try.prog 7 1] := by kernel_rfl
  rw [e] at hb
  simp only [List.mem_cons, List.not_mem_nil, or_false] at hb
  rcases hb with rfl | rfl
  · exact (LOKbn.or (LOKbn.lamN_other (by kernel_rfl)) (LOKbn.or k_delay_Table_0 (fun _ _ _ _ _ _ _ h => h.elim)))
  · exact (LOKbn.or k_delay_Table_1 (LOKbn.or (LOKbn.lamN_other (by kernel_rfl)) (fun _ _ _ _ _ _ _ h => h.elim)))
theorem c_delay_Table (a0 : Globe) (a1 : List Site) (a2 : List Frac) (a3 : Source) (a4 : Int) (a5 : Frac) (hd : (m_delay_Table a0 a1 a2 a3 a4 a5).ok = true) : CallsA Try.prog GT gbT 7 [.v (.agg [.int .i64 a0.a, .int .i64 a0.b]), .v (.c (.aslice 0 none)), .v (.c (.aslice 1 none)), .v (.agg [.str a3.name, .int .i64 a3.ra, .int .i64 a3.dec]), .v (.c (.d (.int .i64 a4))), .v (.agg [.int .i64 a5.num, .int .i64 a5.den])] [.arr none .site a1, .arr none .frac a2] (.tup [.c (.aslice 2 none), .c (.d (.int .i64 ((m_delay_Table a0 a1 a2 a3 a4 a5).r1)))]) [.arr none .site a1, .arr none .frac a2, .arr (some 41) .delay ((m_delay_Table a0 a1 a2 a3 a4 a5).r0)] := by
  refine CallsA.ofEvR (g_Q9_Same.inl hEQT hmT (fun f hf => by simp only [List.mem_cons, List.not_mem_nil, or_false] at hf; subst hf; exact (fun args w => Try.call18 args w)) 150 2) hEQT hmT (n0 := 2) rfl lok_delay_Table ((e_delay_Table a0 a1 a2 a3 a4 a5 (fun v M => some (Res.fin v M))).trans ?_)
  unfold F_delay_Table
  rw [hd]
  rfl
theorem cn_delay_Table (a0 : Globe) (a3 : Source) (a4 : Int) (a5 : Frac) (hd : (m_delay_Table a0 ([] : List Site) ([] : List Frac) a3 a4 a5).ok = true) : CallsA Try.prog GT gbT 7 [.v (.agg [.int .i64 a0.a, .int .i64 a0.b]), .v (.c .nilS), .v (.c .nilS), .v (.agg [.str a3.name, .int .i64 a3.ra, .int .i64 a3.dec]), .v (.c (.d (.int .i64 a4))), .v (.agg [.int .i64 a5.num, .int .i64 a5.den])] [] (.tup [.c (.aslice 2 none), .c (.d (.int .i64 ((m_delay_Table a0 ([] : List Site) ([] : List Frac) a3 a4 a5).r1)))]) [.arr none .site ([] : List Site), .arr none .frac ([] : List Frac), .arr (some 41) .delay ((m_delay_Table a0 ([] : List Site) ([] : List Frac) a3 a4 a5).r0)] :=
  CallsA.nils [.site, .frac] (c_delay_Table a0 ([] : List Site) ([] : List Frac) a3 a4 a5 hd) ⟨.inl rfl, .inr ⟨rfl, 0, by decide, rfl⟩, .inr ⟨rfl, 1, by decide, rfl⟩, .inl rfl, .inl rfl, .inl rfl, trivial⟩
def s_delay_Table : List AV → List Blk → (AV → List Blk → Ans) → Ans := fun xs bs K => match xs, bs with
  | [.v (.agg [.int .i64 a0_0, .int .i64 a0_1]), .v (.c (.aslice 0 none)), .v (.c (.aslice 1 none)), .v (.agg [.str a3_0, .int .i64 a3_1, .int .i64 a3_2]), .v (.c (.d (.int .i64 a4))), .v (.agg [.int .i64 a5_0, .int .i64 a5_1])], [.arr none .site a1, .arr none .frac a2] => F_delay_Table (⟨a0_0, a0_1⟩ : Globe) a1 a2 (⟨a3_0, a3_1, a3_2⟩ : Source) a4 (⟨a5_0, a5_1⟩ : Frac) K (m_delay_Table (⟨a0_0, a0_1⟩ : Globe) a1 a2 (⟨a3_0, a3_1, a3_2⟩ : Source) a4 (⟨a5_0, a5_1⟩ : Frac))
  | [.v (.agg [.int .i64 a0_0, .int .i64 a0_1]), .v (.c .nilS), .v (.c .nilS), .v (.agg [.str a3_0, .int .i64 a3_1, .int .i64 a3_2]), .v (.c (.d (.int .i64 a4))), .v (.agg [.int .i64 a5_0, .int .i64 a5_1])], [] => F_delay_Table (⟨a0_0, a0_1⟩ : Globe) ([] : List Site) ([] : List Frac) (⟨a3_0, a3_1, a3_2⟩ : Source) a4 (⟨a5_0, a5_1⟩ : Frac) K (m_delay_Table (⟨a0_0, a0_1⟩ : Globe) ([] : List Site) ([] : List Frac) (⟨a3_0, a3_1, a3_2⟩ : Source) a4 (⟨a5_0, a5_1⟩ : Frac))
  | _, _ => none
def T_delay_Table : Nat → List AV → List Blk → (AV → List Blk → Ans) → Ans := upd T_Q9_Same 7 s_delay_Table
theorem g_delay_Table : GOK Try.prog GT gbT T_delay_Table XT := by
  refine GOK.upd g_Q9_Same (fun args w => Try.call7 args w) fun xs bs K r h => ?_
  unfold s_delay_Table at h
  split at h
  · unfold F_delay_Table at h
    simp only [cond_eq_ite] at h
    split at h
    · rename_i hd
      exact ⟨_, _, c_delay_Table _ _ _ _ _ _ hd, h⟩
    · cases h
  · unfold F_delay_Table at h
    simp only [cond_eq_ite] at h
    split at h
    · rename_i hd
      exact ⟨_, _, cn_delay_Table _ _ _ _ hd, h⟩
    · cases h
  · cases h
end Go.Ev

namespace Go.Ev
open Go Go.Proofs
structure O_W9_DelayNames where
  ok : Bool
  r0 : Bool
def m_W9_DelayNames : O_W9_DelayNames := ⟨true, true⟩
theorem c_W9_DelayNames (_ : (m_W9_DelayNames).ok = true) : CallsA Try.prog GT gbT 3 [] [] (.v (.c (.d (.bool (m_W9_DelayNames).r0)))) [] :=
  CallsA.ofEvR (n := 400) (Λ := noL) (Γ := (inl Try.prog GT EQT XT [5, 6] T_delay_Table 400 3)) (g_delay_Table.inl hEQT hmT (fun f hf => by simp only [List.mem_cons, List.not_mem_nil, or_false] at hf; rcases hf with rfl | rfl; exact (fun args w => Try.call5 args w); exact (fun args w => Try.call6 args w)) 400 3) hEQT hmT (n0 := 0) rfl (fun _ _ _ _ => LOKn.nil) (by kernel_rfl)
theorem law_DelayNames : m_W9_DelayNames = ⟨true, true⟩ := rfl
end Go.Ev

namespace Go.Ev
end Go.Ev

namespace Go.Ev
open Go
def nearN (n : Int) : Int := (n + 500000) / 1000000
theorem m_validD (a : Span) : m_delay_valid a = ⟨true, spanValid a⟩ := by
  unfold m_delay_valid spanValid
  cases decide (a.lo ≤ a.hi) <;> cases decide (-3000000000 ≤ a.lo) <;> rfl
theorem m_nearest {n : Int} (h : -4000000000 ≤ n ∧ n ≤ 4000000000) : m_delay_nearest n = ⟨true, nearN n⟩ := by
  have e : m_delay_nearest n = ⟨true, floorRaw (w64 (n + 500000)) 1000000⟩ := by
    unfold m_delay_nearest floorRaw
    cases decide ((w64 (n + 500000)).tmod 1000000 < 0) <;> rfl
  rw [e, w64_keep (by omega) (by omega), floorRaw_ok (by omega) (by omega)]
  rfl
theorem nearN_spec (n : Int) : nearN n * 1000000 ≤ n + 500000 ∧ n + 500000 < nearN n * 1000000 + 1000000 := by unfold nearN; omega
def splitV (a : Span) : Delay × Int :=
  bif !(spanValid a) then (delayZ, 8) else bif nearN a.hi != nearN a.lo then (delayZ, 24) else (⟨nearN a.lo, ⟨a.lo - nearN a.lo * 1000000, a.hi - nearN a.lo * 1000000⟩⟩, 0)
theorem m_split (a : Span) : m_delay_Split a = ⟨true, (splitV a).1, (splitV a).2⟩ := by
  unfold m_delay_Split splitV
  simp only [m_validD, cond_true]
  cases h : spanValid a with
  | false => rfl
  | true =>
    have h' := spanValid_iff.1 h
    have s1 := nearN_spec a.lo
    simp only [Bool.not_true, cond_false, m_nearest (n := a.lo) (by omega), m_nearest (n := a.hi) (by omega), cond_true]
    cases (nearN a.hi != nearN a.lo) with
    | true => rfl
    | false =>
      simp only [cond_false]
      rw [w64_keep (n := nearN a.lo * 1000000) (by omega) (by omega), w64_keep (n := a.lo - nearN a.lo * 1000000) (by omega) (by omega), w64_keep (n := a.hi - nearN a.lo * 1000000) (by omega) (by omega)]
theorem split_ok {a : Span} {d : Delay} (h : splitV a = (d, 0)) : spanValid a = true ∧ d = ⟨nearN a.lo, ⟨a.lo - nearN a.lo * 1000000, a.hi - nearN a.lo * 1000000⟩⟩ ∧ nearN a.hi = nearN a.lo := by
  unfold splitV at h
  cases h1 : spanValid a with
  | false => rw [h1] at h; cases h
  | true =>
    rw [h1] at h
    cases h2 : (nearN a.hi != nearN a.lo) with
    | true => rw [h2] at h; cases h
    | false =>
      rw [h2] at h
      cases h
      exact ⟨rfl, rfl, by simpa using h2⟩
theorem split_err (a : Span) : (splitV a).2 = 0 ∨ (splitV a).2 = 8 ∨ (splitV a).2 = 24 := by
  unfold splitV
  cases spanValid a with
  | false => exact .inr (.inl rfl)
  | true =>
    cases (nearN a.hi != nearN a.lo) with
    | true => exact .inr (.inr rfl)
    | false => exact .inl rfl
theorem split_valid {a : Span} (h : spanValid a = true) : (splitV a).2 = 0 ∨ (splitV a).2 = 24 := by
  rcases split_err a with k | k | k
  · exact .inl k
  · unfold splitV at k
    rw [h] at k
    cases h2 : (nearN a.hi != nearN a.lo) with
    | true => rw [h2] at k; cases k
    | false => rw [h2] at k; cases k
  · exact .inr k
theorem eq_delay (a b : Delay) : eqAll [.int .i64 a.whole, .int .i64 a.part.lo, .int .i64 a.part.hi] [.int .i64 b.whole, .int .i64 b.part.lo, .int .i64 b.part.hi] = decide (a = b) := by
  obtain ⟨x, y, z⟩ := a; obtain ⟨u, v, w⟩ := b
  simp [eqAll, D.eq, Delay.mk.injEq, Span.mk.injEq]
  rfl
end Go.Ev

namespace Go.Ev
open Go
theorem m_aliveD : m_W9_alive = ⟨true, true⟩ := by kernel_rfl
def partP (a : Span) : Bool := bif decide (a.lo ≤ a.hi) then bif decide (-500000 ≤ a.lo) then decide (a.hi < 500000) else false else false
theorem partP_iff {a : Span} : partP a = true ↔ a.lo ≤ a.hi ∧ -500000 ≤ a.lo ∧ a.hi < 500000 := by
  unfold partP
  by_cases h1 : a.lo ≤ a.hi <;> by_cases h2 : -500000 ≤ a.lo <;> by_cases h3 : a.hi < 500000 <;> simp [h1, h2, h3]
theorem m_part (a : Span) : m_Q9_Part a = ⟨true, partP a⟩ := by
  unfold m_Q9_Part partP
  cases decide (a.lo ≤ a.hi) <;> cases decide (-500000 ≤ a.lo) <;> rfl
def joinV (d : Delay) : Span × Int :=
  bif !(partP d.part) then (spanZ, 8) else if d.whole < -3001 ∨ 3001 < d.whole then (spanZ, 16) else
  bif !(spanValid ⟨d.part.lo + d.whole * 1000000, d.part.hi + d.whole * 1000000⟩) then (spanZ, 16) else (⟨d.part.lo + d.whole * 1000000, d.part.hi + d.whole * 1000000⟩, 0)
theorem m_join (d : Delay) : m_delay_Join d = ⟨true, (joinV d).1, (joinV d).2⟩ := by
  unfold m_delay_Join joinV
  simp only [m_validD, cond_true]
  cases hp : partP d.part with
  | false =>
    have hn : ¬ (d.part.lo ≤ d.part.hi ∧ -500000 ≤ d.part.lo ∧ d.part.hi < 500000) := fun h => by rw [partP_iff.2 h] at hp; cases hp
    cases hv : spanValid d.part with
    | false => rfl
    | true =>
      have h := spanValid_iff.1 hv
      by_cases h1 : d.part.lo < -500000
      · rw [dec_t h1]; rfl
      · rw [dec_f h1, dec_t (show 500000 ≤ d.part.hi by omega)]; rfl
  | true =>
    have h := partP_iff.1 hp
    have hv : spanValid d.part = true := spanValid_iff.2 ⟨by omega, by omega, by omega⟩
    rw [hv, dec_f (show ¬ d.part.lo < -500000 by omega), dec_f (show ¬ 500000 ≤ d.part.hi by omega)]
    simp only [Bool.not_true, cond_false]
    by_cases h1 : d.whole < -3001
    · rw [dec_t h1, if_pos (.inl h1)]; rfl
    · rw [dec_f h1]
      by_cases h2 : 3001 < d.whole
      · rw [dec_t h2, if_pos (.inr h2)]; rfl
      · rw [dec_f h2, if_neg (by omega), w64_keep (n := d.whole * 1000000) (by omega) (by omega), w64_keep (n := d.part.lo + d.whole * 1000000) (by omega) (by omega), w64_keep (n := d.part.hi + d.whole * 1000000) (by omega) (by omega)]
        simp only [cond_false]
        cases spanValid ⟨d.part.lo + d.whole * 1000000, d.part.hi + d.whole * 1000000⟩ <;> rfl
theorem join_split {a : Span} {d : Delay} (h : splitV a = (d, 0)) : joinV d = (a, 0) ∧ partP d.part = true := by
  obtain ⟨h1, rfl, h2⟩ := split_ok h
  have h' := spanValid_iff.1 h1
  have s1 := nearN_spec a.lo
  have s2 := nearN_spec a.hi
  rw [h2] at s2
  have hp : partP ⟨a.lo - nearN a.lo * 1000000, a.hi - nearN a.lo * 1000000⟩ = true := partP_iff.2 ⟨by simp only; omega, by simp only; omega, by simp only; omega⟩
  refine ⟨?_, hp⟩
  unfold joinV
  simp only
  rw [hp, if_neg (by omega), show a.lo - nearN a.lo * 1000000 + nearN a.lo * 1000000 = a.lo by omega, show a.hi - nearN a.lo * 1000000 + nearN a.lo * 1000000 = a.hi by omega, h1]
  rfl
theorem split_join {a : Span} {d : Delay} (h : joinV d = (a, 0)) : splitV a = (d, 0) := by
  unfold joinV at h
  cases hp : partP d.part with
  | false => rw [hp] at h; cases h
  | true =>
    have h' := partP_iff.1 hp
    rw [hp] at h
    by_cases c : d.whole < -3001 ∨ 3001 < d.whole
    · rw [if_pos c] at h; cases h
    · rw [if_neg c] at h
      cases hv : spanValid ⟨d.part.lo + d.whole * 1000000, d.part.hi + d.whole * 1000000⟩ with
      | false => rw [hv] at h; cases h
      | true =>
        rw [hv] at h
        cases h
        have e1 : nearN (d.part.lo + d.whole * 1000000) = d.whole := by unfold nearN; omega
        have e2 : nearN (d.part.hi + d.whole * 1000000) = d.whole := by unfold nearN; omega
        unfold splitV
        rw [hv]
        simp only [e1, e2, bne_self_eq_false, cond_false, Bool.not_true]
        obtain ⟨w, lo, hi⟩ := d
        simp only [Prod.mk.injEq, Delay.mk.injEq, Span.mk.injEq, and_true, true_and]
        exact ⟨by omega, by omega⟩
theorem join_err (d : Delay) : ((joinV d).2 = 0 ∧ partP d.part = true) ∨ ((joinV d).2 = 8 ∧ partP d.part = false) ∨ ((joinV d).2 = 16 ∧ partP d.part = true) := by
  unfold joinV
  cases hp : partP d.part with
  | false => exact .inr (.inl ⟨rfl, rfl⟩)
  | true =>
    simp only [Bool.not_true, cond_false]
    by_cases c : d.whole < -3001 ∨ 3001 < d.whole
    · rw [if_pos c]; exact .inr (.inr ⟨rfl, trivial⟩)
    · rw [if_neg c]
      cases spanValid ⟨d.part.lo + d.whole * 1000000, d.part.hi + d.whole * 1000000⟩ with
      | false => exact .inr (.inr ⟨rfl, trivial⟩)
      | true => exact .inl ⟨rfl, trivial⟩
theorem split_one {a : Span} (h : spanValid a = true) (e : a.lo = a.hi) : (splitV a).2 = 0 := by
  unfold splitV
  rw [h, e]
  simp
theorem eq_spanP (a : Span) : eqAll [.int .i64 a.lo, .int .i64 a.hi] [.int .i64 a.lo, .int .i64 a.hi] = true := by simp [eqAll, D.eq]
theorem eta_span (a : Span) : (⟨a.lo, a.hi⟩ : Span) = a := rfl
theorem law_DelayParts (d : Span) (p : Delay) (_ : ∀ x ∈ [D.int .i64 d.lo, .int .i64 d.hi], x.ok) (_ : ∀ x ∈ [D.int .i64 p.whole, .int .i64 p.part.lo, .int .i64 p.part.hi], x.ok) :
    m_W9_DelayParts d p = ⟨true, true⟩ := by
  unfold m_W9_DelayParts
  simp only [m_split, m_join, m_part, m_aliveD, cond_true, eta_span]
  cases hv : spanValid d with
  | false => rfl
  | true =>
  have first : ((splitV d).2 = 0 ∧ joinV (splitV d).1 = (d, 0) ∧ partP (splitV d).1.part = true) ∨ ((splitV d).2 = 24 ∧ (d.lo == d.hi) = false) := by
    rcases split_valid hv with e | e
    · exact .inl ⟨e, join_split (Prod.ext rfl e)⟩
    · refine .inr ⟨e, ?_⟩
      by_cases c : d.lo = d.hi
      · rw [split_one hv c] at e; cases e
      · exact beq_eq_false_iff_ne.2 c
  have second : ((joinV p).2 = 0 ∧ splitV (joinV p).1 = (p, 0)) ∨ ((joinV p).2 = 8 ∧ partP p.part = false) ∨ ((joinV p).2 = 16 ∧ partP p.part = true) := by
    rcases join_err p with ⟨a, _⟩ | h | h
    · exact .inl ⟨a, split_join (Prod.ext rfl a)⟩
    · exact .inr (.inl h)
    · exact .inr (.inr h)
  rcases first with ⟨e1, e2, e3⟩ | ⟨e1, e2⟩
  · rw [e1, e2, e3]
    rcases second with ⟨a, b⟩ | ⟨a, b⟩ | ⟨a, b⟩
    · rw [a, b]; simp only [eq_spanP, eq_delay]; rfl
    · rw [a, b]; simp only [eq_spanP]; rfl
    · rw [a, b]; simp only [eq_spanP]; rfl
  · rw [e1, e2]
    rcases second with ⟨a, b⟩ | ⟨a, b⟩ | ⟨a, b⟩
    · rw [a, b]; simp only [eq_delay]; rfl
    · rw [a, b]; rfl
    · rw [a, b]; rfl
end Go.Ev

