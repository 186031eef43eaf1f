/-
  Plain functions that mirror functions of the program, and that it computes them. No condition beyond those of the statements.
  Delays of baselines: which rates are valid, which errors come first; the program's and the reference's are the same. No condition.
  Delays that close around triangles; the law DelayCloses. No condition.
-/
import Derived.Test.YtifoghbobjlcfaaGreatPkC10
set_option maxRecDepth 100000
namespace Go.Ev
open Go Go.Proofs
structure O_delay_valid where
  ok : Bool
  r0 : Bool
def m_delay_valid (a0 : Span) : O_delay_valid := bif decide (a0.lo ≤ a0.hi) then (bif decide ((-3000000000 : Int) ≤ a0.lo) then ⟨true, decide (a0.hi ≤ (3000000000 : Int))⟩ else ⟨true, false⟩) else ⟨true, false⟩
def F_delay_valid (_a0 : Span) (K : AV → List Blk → Ans) (r : O_delay_valid) : Ans := bif r.ok then K (.v (.c (.d (.bool r.r0)))) [] else none
theorem e_delay_valid (a0 : Span) (K : AV → List Blk → Ans) : evFn Tryz.prog GT EQT T_Q9_Ready XT noL 80 53 [.v (.agg [.int .i64 a0.lo, .int .i64 a0.hi])] [] (fun v M => K (finR 0 v M).1 (finR 0 v M).2) = F_delay_valid a0 K (m_delay_valid a0) := by
  unfold m_delay_valid
  refine Eq.trans ?_ (Eq.symm (pushT (pushT rfl rfl) rfl))
  kernel_rfl
theorem c_delay_valid (a0 : Span) (hd : (m_delay_valid a0).ok = true) : CallsA Tryz.prog GT gbT 53 [.v (.agg [.int .i64 a0.lo, .int .i64 a0.hi])] [] (.v (.c (.d (.bool ((m_delay_valid a0).r0))))) [] := by
  refine CallsA.ofEvR g_Q9_Ready hEQT hmT (n0 := 0) rfl (fun _ _ _ _ => LOKn.nil) ((e_delay_valid a0 (fun v M => some (Res.fin v M))).trans ?_)
  unfold F_delay_valid
  rw [hd]
  rfl
def s_delay_valid : List AV → List Blk → (AV → List Blk → Ans) → Ans := fun xs bs K => match xs, bs with
  | [.v (.agg [.int .i64 a0_0, .int .i64 a0_1])], [] => F_delay_valid (⟨a0_0, a0_1⟩ : Span) K (m_delay_valid (⟨a0_0, a0_1⟩ : Span))
  | _, _ => none
def T_delay_valid : Nat → List AV → List Blk → (AV → List Blk → Ans) → Ans := upd T_Q9_Ready 53 s_delay_valid
theorem g_delay_valid : GOK Tryz.prog GT gbT T_delay_valid XT := by
  refine GOK.upd g_Q9_Ready (fun args w => Tryz.call53 args w) fun xs bs K r h => ?_
  unfold s_delay_valid at h
  split at h
  · unfold F_delay_valid at h
    simp only [cond_eq_ite] at h
    split at h
    · rename_i hd
      exact ⟨_, _, c_delay_valid _ hd, h⟩
    · cases h
  · cases h
structure O_delay_nearest where
  ok : Bool
  r0 : Int
def m_delay_nearest (a0 : Int) : O_delay_nearest := bif decide (((w64 (a0 + (500000 : Int))).tmod (1000000 : Int)) < (0 : Int)) then ⟨true, (w64 ((w64 ((w64 (a0 + (500000 : Int))).tdiv (1000000 : Int))) - (1 : Int)))⟩ else ⟨true, (w64 ((w64 (a0 + (500000 : Int))).tdiv (1000000 : Int)))⟩
def F_delay_nearest (_a0 : Int) (K : AV → List Blk → Ans) (r : O_delay_nearest) : Ans := bif r.ok then K (.v (.c (.d (.int .i64 r.r0)))) [] else none
theorem e_delay_nearest (a0 : Int) (K : AV → List Blk → Ans) : evFn Tryz.prog GT EQT T_delay_valid XT noL 80 54 [.v (.c (.d (.int .i64 a0)))] [] (fun v M => K (finR 0 v M).1 (finR 0 v M).2) = F_delay_nearest a0 K (m_delay_nearest a0) := by
  unfold m_delay_nearest
  refine Eq.trans ?_ (Eq.symm (pushT rfl rfl))
  kernel_rfl
theorem c_delay_nearest (a0 : Int) (hd : (m_delay_nearest a0).ok = true) : CallsA Tryz.prog GT gbT 54 [.v (.c (.d (.int .i64 a0)))] [] (.v (.c (.d (.int .i64 ((m_delay_nearest a0).r0))))) [] := by
  refine CallsA.ofEvR g_delay_valid hEQT hmT (n0 := 0) rfl (fun _ _ _ _ => LOKn.nil) ((e_delay_nearest a0 (fun v M => some (Res.fin v M))).trans ?_)
  unfold F_delay_nearest
  rw [hd]
  rfl
def s_delay_nearest : List AV → List Blk → (AV → List Blk → Ans) → Ans := fun xs bs K => match xs, bs with
  | [.v (.c (.d (.int .i64 a0)))], [] => F_delay_nearest a0 K (m_delay_nearest a0)
  | _, _ => none
def T_delay_nearest : Nat → List AV → List Blk → (AV → List Blk → Ans) → Ans := upd T_delay_valid 54 s_delay_nearest
theorem g_delay_nearest : GOK Tryz.prog GT gbT T_delay_nearest XT := by
  refine GOK.upd g_delay_valid (fun args w => Tryz.call54 args w) fun xs bs K r h => ?_
  unfold s_delay_nearest at h
  split at h
  · unfold F_delay_nearest at h
    simp only [cond_eq_ite] at h
    split at h
    · rename_i hd
      exact ⟨_, _, c_delay_nearest _ hd, h⟩
    · cases h
  · cases h
structure O_delay_Split where
  ok : Bool
  r0 : Delay
  r1 : Int
def m_delay_Split (a0 : Span) : O_delay_Split := bif (m_delay_valid a0).ok then (bif (!(m_delay_valid a0).r0) then ⟨true, ⟨(0 : Int), ⟨(0 : Int), (0 : Int)⟩⟩, (8 : Int)⟩ else (bif (m_delay_nearest a0.lo).ok then (bif (m_delay_nearest a0.hi).ok then (bif ((m_delay_nearest a0.hi).r0 != (m_delay_nearest a0.lo).r0) then ⟨true, ⟨(0 : Int), ⟨(0 : Int), (0 : Int)⟩⟩, (24 : Int)⟩ else ⟨true, ⟨(m_delay_nearest a0.lo).r0, ⟨(w64 (a0.lo - (w64 ((m_delay_nearest a0.lo).r0 * (1000000 : Int))))), (w64 (a0.hi - (w64 ((m_delay_nearest a0.lo).r0 * (1000000 : Int)))))⟩⟩, (0 : Int)⟩) else ⟨false, ⟨0, ⟨0, 0⟩⟩, 0⟩) else ⟨false, ⟨0, ⟨0, 0⟩⟩, 0⟩)) else ⟨false, ⟨0, ⟨0, 0⟩⟩, 0⟩
def F_delay_Split (_a0 : Span) (K : AV → List Blk → Ans) (r : O_delay_Split) : Ans := bif r.ok then K (.tup [.agg [.int .i64 r.r0.whole, .int .i64 r.r0.part.lo, .int .i64 r.r0.part.hi], .c (.d (.int .i64 r.r1))]) [] else none
theorem e_delay_Split (a0 : Span) (K : AV → List Blk → Ans) : evFn Tryz.prog GT EQT T_delay_nearest XT noL 80 21 [.v (.agg [.int .i64 a0.lo, .int .i64 a0.hi])] [] (fun v M => K (finR 0 v M).1 (finR 0 v M).2) = F_delay_Split a0 K (m_delay_Split a0) := by
  unfold m_delay_Split
  refine Eq.trans ?_ (Eq.symm (pushT (pushT rfl (pushT (pushT (pushT rfl rfl) rfl) rfl)) rfl))
  kernel_rfl
theorem c_delay_Split (a0 : Span) (hd : (m_delay_Split a0).ok = true) : CallsA Tryz.prog GT gbT 21 [.v (.agg [.int .i64 a0.lo, .int .i64 a0.hi])] [] (.tup [.agg [.int .i64 (((m_delay_Split a0).r0).whole), .int .i64 ((((m_delay_Split a0).r0).part).lo), .int .i64 ((((m_delay_Split a0).r0).part).hi)], .c (.d (.int .i64 ((m_delay_Split a0).r1)))]) [] := by
  refine CallsA.ofEvR g_delay_nearest hEQT hmT (n0 := 0) rfl (fun _ _ _ _ => LOKn.nil) ((e_delay_Split a0 (fun v M => some (Res.fin v M))).trans ?_)
  unfold F_delay_Split
  rw [hd]
  rfl
def s_delay_Split : List AV → List Blk → (AV → List Blk → Ans) → Ans := fun xs bs K => match xs, bs with
  | [.v (.agg [.int .i64 a0_0, .int .i64 a0_1])], [] => F_delay_Split (⟨a0_0, a0_1⟩ : Span) K (m_delay_Split (⟨a0_0, a0_1⟩ : Span))
  | _, _ => none
def T_delay_Split : Nat → List AV → List Blk → (AV → List Blk → Ans) → Ans := upd T_delay_nearest 21 s_delay_Split
theorem g_delay_Split : GOK Tryz.prog GT gbT T_delay_Split XT := by
  refine GOK.upd g_delay_nearest (fun args w => Tryz.call21 args w) fun xs bs K r h => ?_
  unfold s_delay_Split at h
  split at h
  · unfold F_delay_Split at h
    simp only [cond_eq_ite] at h
    split at h
    · rename_i hd
      exact ⟨_, _, c_delay_Split _ hd, h⟩
    · cases h
  · cases h
structure O_W9_alive where
  ok : Bool
  r0 : Bool
def m_W9_alive : O_W9_alive := bif (m_delay_Of ⟨(5 : Int), (5 : Int)⟩ ([⟨(ByteArray.mk #[97]), ⟨(0 : Int), (1 : Int)⟩, ⟨(0 : Int), (1 : Int)⟩⟩, ⟨(ByteArray.mk #[98]), ⟨(0 : Int), (1 : Int)⟩, ⟨(1 : Int), (1 : Int)⟩⟩] : List Site) (0 : Int) (1 : Int) ⟨(ByteArray.mk #[115]), (0 : Int), (0 : Int)⟩ (0 : Int) ⟨(3 : Int), (2 : Int)⟩).ok then (bif (m_delay_Split ((m_delay_Of ⟨(5 : Int), (5 : Int)⟩ ([⟨(ByteArray.mk #[97]), ⟨(0 : Int), (1 : Int)⟩, ⟨(0 : Int), (1 : Int)⟩⟩, ⟨(ByteArray.mk #[98]), ⟨(0 : Int), (1 : Int)⟩, ⟨(1 : Int), (1 : Int)⟩⟩] : List Site) (0 : Int) (1 : Int) ⟨(ByteArray.mk #[115]), (0 : Int), (0 : Int)⟩ (0 : Int) ⟨(3 : Int), (2 : Int)⟩).r0)).ok then (bif (m_delay_Split ⟨(1200000 : Int), (1400000 : Int)⟩).ok then (bif (m_delay_Split ⟨(1400000 : Int), (1600000 : Int)⟩).ok then (bif ((m_delay_Of ⟨(5 : Int), (5 : Int)⟩ ([⟨(ByteArray.mk #[97]), ⟨(0 : Int), (1 : Int)⟩, ⟨(0 : Int), (1 : Int)⟩⟩, ⟨(ByteArray.mk #[98]), ⟨(0 : Int), (1 : Int)⟩, ⟨(1 : Int), (1 : Int)⟩⟩] : List Site) (0 : Int) (1 : Int) ⟨(ByteArray.mk #[115]), (0 : Int), (0 : Int)⟩ (0 : Int) ⟨(3 : Int), (2 : Int)⟩).r1 == (0 : Int)) then (bif eqAll [.int .i64 (((m_delay_Of ⟨(5 : Int), (5 : Int)⟩ ([⟨(ByteArray.mk #[97]), ⟨(0 : Int), (1 : Int)⟩, ⟨(0 : Int), (1 : Int)⟩⟩, ⟨(ByteArray.mk #[98]), ⟨(0 : Int), (1 : Int)⟩, ⟨(1 : Int), (1 : Int)⟩⟩] : List Site) (0 : Int) (1 : Int) ⟨(ByteArray.mk #[115]), (0 : Int), (0 : Int)⟩ (0 : Int) ⟨(3 : Int), (2 : Int)⟩).r0).lo), .int .i64 (((m_delay_Of ⟨(5 : Int), (5 : Int)⟩ ([⟨(ByteArray.mk #[97]), ⟨(0 : Int), (1 : Int)⟩, ⟨(0 : Int), (1 : Int)⟩⟩, ⟨(ByteArray.mk #[98]), ⟨(0 : Int), (1 : Int)⟩, ⟨(1 : Int), (1 : Int)⟩⟩] : List Site) (0 : Int) (1 : Int) ⟨(ByteArray.mk #[115]), (0 : Int), (0 : Int)⟩ (0 : Int) ⟨(3 : Int), (2 : Int)⟩).r0).hi)] [.int .i64 (-7500000 : Int), .int .i64 (-7500000 : Int)] then (bif ((m_delay_Split ((m_delay_Of ⟨(5 : Int), (5 : Int)⟩ ([⟨(ByteArray.mk #[97]), ⟨(0 : Int), (1 : Int)⟩, ⟨(0 : Int), (1 : Int)⟩⟩, ⟨(ByteArray.mk #[98]), ⟨(0 : Int), (1 : Int)⟩, ⟨(1 : Int), (1 : Int)⟩⟩] : List Site) (0 : Int) (1 : Int) ⟨(ByteArray.mk #[115]), (0 : Int), (0 : Int)⟩ (0 : Int) ⟨(3 : Int), (2 : Int)⟩).r0)).r1 == (0 : Int)) then (bif eqAll [.int .i64 (((m_delay_Split ((m_delay_Of ⟨(5 : Int), (5 : Int)⟩ ([⟨(ByteArray.mk #[97]), ⟨(0 : Int), (1 : Int)⟩, ⟨(0 : Int), (1 : Int)⟩⟩, ⟨(ByteArray.mk #[98]), ⟨(0 : Int), (1 : Int)⟩, ⟨(1 : Int), (1 : Int)⟩⟩] : List Site) (0 : Int) (1 : Int) ⟨(ByteArray.mk #[115]), (0 : Int), (0 : Int)⟩ (0 : Int) ⟨(3 : Int), (2 : Int)⟩).r0)).r0).whole), .int .i64 ((((m_delay_Split ((m_delay_Of ⟨(5 : Int), (5 : Int)⟩ ([⟨(ByteArray.mk #[97]), ⟨(0 : Int), (1 : Int)⟩, ⟨(0 : Int), (1 : Int)⟩⟩, ⟨(ByteArray.mk #[98]), ⟨(0 : Int), (1 : Int)⟩, ⟨(1 : Int), (1 : Int)⟩⟩] : List Site) (0 : Int) (1 : Int) ⟨(ByteArray.mk #[115]), (0 : Int), (0 : Int)⟩ (0 : Int) ⟨(3 : Int), (2 : Int)⟩).r0)).r0).part).lo), .int .i64 ((((m_delay_Split ((m_delay_Of ⟨(5 : Int), (5 : Int)⟩ ([⟨(ByteArray.mk #[97]), ⟨(0 : Int), (1 : Int)⟩, ⟨(0 : Int), (1 : Int)⟩⟩, ⟨(ByteArray.mk #[98]), ⟨(0 : Int), (1 : Int)⟩, ⟨(1 : Int), (1 : Int)⟩⟩] : List Site) (0 : Int) (1 : Int) ⟨(ByteArray.mk #[115]), (0 : Int), (0 : Int)⟩ (0 : Int) ⟨(3 : Int), (2 : Int)⟩).r0)).r0).part).hi)] [.int .i64 (-7 : Int), .int .i64 (-500000 : Int), .int .i64 (-500000 : Int)] then (bif ((m_delay_Split ⟨(1200000 : Int), (1400000 : Int)⟩).r1 == (0 : Int)) then (bif eqAll [.int .i64 (((m_delay_Split ⟨(1200000 : Int), (1400000 : Int)⟩).r0).whole), .int .i64 ((((m_delay_Split ⟨(1200000 : Int), (1400000 : Int)⟩).r0).part).lo), .int .i64 ((((m_delay_Split ⟨(1200000 : Int), (1400000 : Int)⟩).r0).part).hi)] [.int .i64 (1 : Int), .int .i64 (200000 : Int), .int .i64 (400000 : Int)] then ⟨true, ((m_delay_Split ⟨(1400000 : Int), (1600000 : Int)⟩).r1 == (24 : Int))⟩ else ⟨true, false⟩) else ⟨true, false⟩) else ⟨true, false⟩) else ⟨true, false⟩) else ⟨true, false⟩) else ⟨true, false⟩) else ⟨false, false⟩) else ⟨false, false⟩) else ⟨false, false⟩) else ⟨false, false⟩
def F_W9_alive (K : AV → List Blk → Ans) (r : O_W9_alive) : Ans := bif r.ok then K (.v (.c (.d (.bool r.r0)))) [] else none
theorem e_W9_alive (K : AV → List Blk → Ans) : evFn Tryz.prog GT EQT (inl Tryz.prog GT EQT XT [34, 35] T_delay_Split 150 3) XT noL 150 12 [] [] (fun v M => K (finR 0 v M).1 (finR 0 v M).2) = F_W9_alive K (m_W9_alive) := by
  unfold m_W9_alive
  refine Eq.trans ?_ (Eq.symm (pushT (pushT (pushT (pushT (pushT (pushT (pushT (pushT (pushT (pushT rfl rfl) rfl) rfl) rfl) rfl) rfl) rfl) rfl) rfl) rfl))
  kernel_rfl
theorem c_W9_alive (hd : (m_W9_alive).ok = true) : CallsA Tryz.prog GT gbT 12 [] [] (.v (.c (.d (.bool ((m_W9_alive).r0))))) [] := by
  refine CallsA.ofEvR (g_delay_Split.inl hEQT hmT (fun f hf => by simp only [List.mem_cons, List.not_mem_nil, or_false] at hf; rcases hf with rfl | rfl; exact (fun args w => Tryz.call34 args w); exact (fun args w => Tryz.call35 args w)) 150 3) hEQT hmT (n0 := 0) rfl (fun _ _ _ _ => LOKn.nil) ((e_W9_alive (fun v M => some (Res.fin v M))).trans ?_)
  unfold F_W9_alive
  rw [hd]
  rfl
def s_W9_alive : List AV → List Blk → (AV → List Blk → Ans) → Ans := fun xs bs K => match xs, bs with
  | [], [] => F_W9_alive K (m_W9_alive)
  | _, _ => none
def T_W9_alive : Nat → List AV → List Blk → (AV → List Blk → Ans) → Ans := upd T_delay_Split 12 s_W9_alive
theorem g_W9_alive : GOK Tryz.prog GT gbT T_W9_alive XT := by
  refine GOK.upd g_delay_Split (fun args w => Tryz.call12 args w) fun xs bs K r h => ?_
  unfold s_W9_alive at h
  split at h
  · unfold F_W9_alive at h
    simp only [cond_eq_ite] at h
    split at h
    · rename_i hd
      exact ⟨_, _, c_W9_alive hd, h⟩
    · cases h
  · cases h
structure O_W9_fit where
  ok : Bool
  r0 : Bool
def m_W9_fit (a0 : Globe) (a1 : List Site) (a2 : Source) (a3 : Int) (a4 : Frac) : O_W9_fit := bif (m_Q9_Great a1 a2).ok then (bif (!(m_Q9_Great a1 a2).r0) then (bif (m_Q9_Ready a0 a1 a2 a4).ok then (bif ((m_Q9_Ready a0 a1 a2 a4).r0 == (0 : Int)) then (bif decide ((-900000 : Int) ≤ a3) then ⟨true, decide (a3 ≤ (900000 : Int))⟩ else ⟨true, false⟩) else ⟨true, false⟩) else ⟨false, false⟩) else ⟨true, false⟩) else ⟨false, false⟩
def F_W9_fit (_a0 : Globe) (a1 : List Site) (_a2 : Source) (_a3 : Int) (_a4 : Frac) (K : AV → List Blk → Ans) (r : O_W9_fit) : Ans := bif r.ok then K (.v (.c (.d (.bool r.r0)))) [.arr none .site a1] else none
theorem e_W9_fit (a0 : Globe) (a1 : List Site) (a2 : Source) (a3 : Int) (a4 : Frac) (K : AV → List Blk → Ans) : evFn Tryz.prog GT EQT T_W9_alive XT noL 80 11 [.v (.agg [.int .i64 a0.a, .int .i64 a0.b]), .v (.c (.aslice 0 none)), .v (.agg [.str a2.name, .int .i64 a2.ra, .int .i64 a2.dec]), .v (.c (.d (.int .i64 a3))), .v (.agg [.int .i64 a4.num, .int .i64 a4.den])] [.arr none .site a1] (fun v M => K (finR 1 v M).1 (finR 1 v M).2) = F_W9_fit a0 a1 a2 a3 a4 K (m_W9_fit a0 a1 a2 a3 a4) := by
  unfold m_W9_fit
  refine Eq.trans ?_ (Eq.symm (pushT (pushT (pushT (pushT (pushT rfl rfl) rfl) rfl) rfl) rfl))
  kernel_rfl
theorem c_W9_fit (a0 : Globe) (a1 : List Site) (a2 : Source) (a3 : Int) (a4 : Frac) (hd : (m_W9_fit a0 a1 a2 a3 a4).ok = true) : CallsA Tryz.prog GT gbT 11 [.v (.agg [.int .i64 a0.a, .int .i64 a0.b]), .v (.c (.aslice 0 none)), .v (.agg [.str a2.name, .int .i64 a2.ra, .int .i64 a2.dec]), .v (.c (.d (.int .i64 a3))), .v (.agg [.int .i64 a4.num, .int .i64 a4.den])] [.arr none .site a1] (.v (.c (.d (.bool ((m_W9_fit a0 a1 a2 a3 a4).r0))))) [.arr none .site a1] := by
  refine CallsA.ofEvR g_W9_alive hEQT hmT (n0 := 1) rfl (fun _ _ _ _ => LOKn.nil) ((e_W9_fit a0 a1 a2 a3 a4 (fun v M => some (Res.fin v M))).trans ?_)
  unfold F_W9_fit
  rw [hd]
  rfl
def s_W9_fit : List AV → List Blk → (AV → List Blk → Ans) → Ans := fun xs bs K => match xs, bs with
  | [.v (.agg [.int .i64 a0_0, .int .i64 a0_1]), .v (.c (.aslice 0 none)), .v (.agg [.str a2_0, .int .i64 a2_1, .int .i64 a2_2]), .v (.c (.d (.int .i64 a3))), .v (.agg [.int .i64 a4_0, .int .i64 a4_1])], [.arr none .site a1] => F_W9_fit (⟨a0_0, a0_1⟩ : Globe) a1 (⟨a2_0, a2_1, a2_2⟩ : Source) a3 (⟨a4_0, a4_1⟩ : Frac) K (m_W9_fit (⟨a0_0, a0_1⟩ : Globe) a1 (⟨a2_0, a2_1, a2_2⟩ : Source) a3 (⟨a4_0, a4_1⟩ : Frac))
  | _, _ => none
def T_W9_fit : Nat → List AV → List Blk → (AV → List Blk → Ans) → Ans := upd T_W9_alive 11 s_W9_fit
theorem g_W9_fit : GOK Tryz.prog GT gbT T_W9_fit XT := by
  refine GOK.upd g_W9_alive (fun args w => Tryz.call11 args w) fun xs bs K r h => ?_
  unfold s_W9_fit at h
  split at h
  · unfold F_W9_fit at h
    simp only [cond_eq_ite] at h
    split at h
    · rename_i hd
      exact ⟨_, _, c_W9_fit _ _ _ _ _ hd, h⟩
    · cases h
  · cases h
end Go.Ev

namespace Go.Ev
open Go Go.Proofs
structure O_delay_Drift where
  ok : Bool
  r0 : Span
  r1 : Int
def m_delay_Drift (a0 : Globe) (a1 : List Site) (a2 : Int) (a3 : Int) (a4 : Source) (a5 : Int) (a6 : Int) (a7 : Frac) : O_delay_Drift := bif (m_delay_check a0 a1 a4 a7).ok then (bif ((m_delay_check a0 a1 a4 a7).r0 != (0 : Int)) then ⟨true, ⟨(0 : Int), (0 : Int)⟩, (m_delay_check a0 a1 a4 a7).r0⟩ else (bif decide (a2 < (0 : Int)) then ⟨true, ⟨(0 : Int), (0 : Int)⟩, (2 : Int)⟩ else (bif decide ((a1.length : Int) ≤ a2) then ⟨true, ⟨(0 : Int), (0 : Int)⟩, (2 : Int)⟩ else (bif decide (a3 < (0 : Int)) then ⟨true, ⟨(0 : Int), (0 : Int)⟩, (2 : Int)⟩ else (bif decide ((a1.length : Int) ≤ a3) then ⟨true, ⟨(0 : Int), (0 : Int)⟩, (2 : Int)⟩ else (bif decide (a6 < (-720 : Int)) then ⟨true, ⟨(0 : Int), (0 : Int)⟩, (2 : Int)⟩ else (bif decide ((720 : Int) < a6) then ⟨true, ⟨(0 : Int), (0 : Int)⟩, (2 : Int)⟩ else (bif decide (a5 < (-1000000 : Int)) then ⟨true, ⟨(0 : Int), (0 : Int)⟩, (2 : Int)⟩ else (bif decide ((1000000 : Int) < a5) then ⟨true, ⟨(0 : Int), (0 : Int)⟩, (2 : Int)⟩ else (bif decide ((w64 (a5 + a6)) < (-1000000 : Int)) then ⟨true, ⟨(0 : Int), (0 : Int)⟩, (2 : Int)⟩ else (bif decide ((1000000 : Int) < (w64 (a5 + a6))) then ⟨true, ⟨(0 : Int), (0 : Int)⟩, (2 : Int)⟩ else (bif (m_delay_Of a0 a1 a2 a3 a4 (w64 (a5 + a6)) a7).ok then (bif ((m_delay_Of a0 a1 a2 a3 a4 (w64 (a5 + a6)) a7).r1 != (0 : Int)) then ⟨true, ⟨(0 : Int), (0 : Int)⟩, (m_delay_Of a0 a1 a2 a3 a4 (w64 (a5 + a6)) a7).r1⟩ else (bif (m_delay_Of a0 a1 a2 a3 a4 a5 a7).ok then (bif ((m_delay_Of a0 a1 a2 a3 a4 a5 a7).r1 != (0 : Int)) then ⟨true, ⟨(0 : Int), (0 : Int)⟩, (m_delay_Of a0 a1 a2 a3 a4 a5 a7).r1⟩ else ⟨true, (subS ⟨(((m_delay_Of a0 a1 a2 a3 a4 (w64 (a5 + a6)) a7).r0).lo), (((m_delay_Of a0 a1 a2 a3 a4 (w64 (a5 + a6)) a7).r0).hi)⟩ ⟨(((m_delay_Of a0 a1 a2 a3 a4 a5 a7).r0).lo), (((m_delay_Of a0 a1 a2 a3 a4 a5 a7).r0).hi)⟩).1, (subS ⟨(((m_delay_Of a0 a1 a2 a3 a4 (w64 (a5 + a6)) a7).r0).lo), (((m_delay_Of a0 a1 a2 a3 a4 (w64 (a5 + a6)) a7).r0).hi)⟩ ⟨(((m_delay_Of a0 a1 a2 a3 a4 a5 a7).r0).lo), (((m_delay_Of a0 a1 a2 a3 a4 a5 a7).r0).hi)⟩).2⟩) else ⟨false, ⟨0, 0⟩, 0⟩)) else ⟨false, ⟨0, 0⟩, 0⟩)))))))))))) else ⟨false, ⟨0, 0⟩, 0⟩
def F_delay_Drift (_a0 : Globe) (a1 : List Site) (_a2 : Int) (_a3 : Int) (_a4 : Source) (_a5 : Int) (_a6 : Int) (_a7 : Frac) (K : AV → List Blk → Ans) (r : O_delay_Drift) : Ans := bif r.ok then K (.tup [.agg [.int .i64 r.r0.lo, .int .i64 r.r0.hi], .c (.d (.int .i64 r.r1))]) [.arr none .site a1] else none
theorem e_delay_Drift (a0 : Globe) (a1 : List Site) (a2 : Int) (a3 : Int) (a4 : Source) (a5 : Int) (a6 : Int) (a7 : Frac) (K : AV → List Blk → Ans) : evFn Tryz.prog GT EQT (inl Tryz.prog GT EQT XT [31] T_W9_fit 120 2) XT noL 120 9 [.v (.agg [.int .i64 a0.a, .int .i64 a0.b]), .v (.c (.aslice 0 none)), .v (.c (.d (.int .i64 a2))), .v (.c (.d (.int .i64 a3))), .v (.agg [.str a4.name, .int .i64 a4.ra, .int .i64 a4.dec]), .v (.c (.d (.int .i64 a5))), .v (.c (.d (.int .i64 a6))), .v (.agg [.int .i64 a7.num, .int .i64 a7.den])] [.arr none .site a1] (fun v M => K (finR 1 v M).1 (finR 1 v M).2) = F_delay_Drift a0 a1 a2 a3 a4 a5 a6 a7 K (m_delay_Drift a0 a1 a2 a3 a4 a5 a6 a7) := by
  unfold m_delay_Drift
  refine Eq.trans ?_ (Eq.symm (pushT (pushT rfl (pushT rfl (pushT rfl (pushT rfl (pushT rfl (pushT rfl (pushT rfl (pushT rfl (pushT rfl (pushT rfl (pushT rfl (pushT (pushT rfl (pushT (pushT rfl rfl) rfl)) rfl)))))))))))) rfl))
  kernel_rfl
theorem c_delay_Drift (a0 : Globe) (a1 : List Site) (a2 : Int) (a3 : Int) (a4 : Source) (a5 : Int) (a6 : Int) (a7 : Frac) (hd : (m_delay_Drift a0 a1 a2 a3 a4 a5 a6 a7).ok = true) : CallsA Tryz.prog GT gbT 9 [.v (.agg [.int .i64 a0.a, .int .i64 a0.b]), .v (.c (.aslice 0 none)), .v (.c (.d (.int .i64 a2))), .v (.c (.d (.int .i64 a3))), .v (.agg [.str a4.name, .int .i64 a4.ra, .int .i64 a4.dec]), .v (.c (.d (.int .i64 a5))), .v (.c (.d (.int .i64 a6))), .v (.agg [.int .i64 a7.num, .int .i64 a7.den])] [.arr none .site a1] (.tup [.agg [.int .i64 (((m_delay_Drift a0 a1 a2 a3 a4 a5 a6 a7).r0).lo), .int .i64 (((m_delay_Drift a0 a1 a2 a3 a4 a5 a6 a7).r0).hi)], .c (.d (.int .i64 ((m_delay_Drift a0 a1 a2 a3 a4 a5 a6 a7).r1)))]) [.arr none .site a1] := by
  refine CallsA.ofEvR (g_W9_fit.inl hEQT hmT (fun f hf => by simp only [List.mem_cons, List.not_mem_nil, or_false] at hf; subst hf; exact (fun args w => Tryz.call31 args w)) 120 2) hEQT hmT (n0 := 1) rfl (fun _ _ _ _ => LOKn.nil) ((e_delay_Drift a0 a1 a2 a3 a4 a5 a6 a7 (fun v M => some (Res.fin v M))).trans ?_)
  unfold F_delay_Drift
  rw [hd]
  rfl
def s_delay_Drift : List AV → List Blk → (AV → List Blk → Ans) → Ans := fun xs bs K => match xs, bs with
  | [.v (.agg [.int .i64 a0_0, .int .i64 a0_1]), .v (.c (.aslice 0 none)), .v (.c (.d (.int .i64 a2))), .v (.c (.d (.int .i64 a3))), .v (.agg [.str a4_0, .int .i64 a4_1, .int .i64 a4_2]), .v (.c (.d (.int .i64 a5))), .v (.c (.d (.int .i64 a6))), .v (.agg [.int .i64 a7_0, .int .i64 a7_1])], [.arr none .site a1] => F_delay_Drift (⟨a0_0, a0_1⟩ : Globe) a1 a2 a3 (⟨a4_0, a4_1, a4_2⟩ : Source) a5 a6 (⟨a7_0, a7_1⟩ : Frac) K (m_delay_Drift (⟨a0_0, a0_1⟩ : Globe) a1 a2 a3 (⟨a4_0, a4_1, a4_2⟩ : Source) a5 a6 (⟨a7_0, a7_1⟩ : Frac))
  | _, _ => none
def T_delay_Drift : Nat → List AV → List Blk → (AV → List Blk → Ans) → Ans := upd T_W9_fit 9 s_delay_Drift
theorem g_delay_Drift : GOK Tryz.prog GT gbT T_delay_Drift XT := by
  refine GOK.upd g_W9_fit (fun args w => Tryz.call9 args w) fun xs bs K r h => ?_
  unfold s_delay_Drift at h
  split at h
  · unfold F_delay_Drift at h
    simp only [cond_eq_ite] at h
    split at h
    · rename_i hd
      exact ⟨_, _, c_delay_Drift _ _ _ _ _ _ _ _ hd, h⟩
    · cases h
  · cases h
structure O_Q9_delay where
  ok : Bool
  r0 : Span
  r1 : Int
def m_Q9_delay (a0 : Globe) (a1 : List Site) (a2 : Int) (a3 : Int) (a4 : Source) (a5 : Int) (a6 : Frac) : O_Q9_delay := bif (m_Q8_Line a0 a1 a2 a3 a4 a5).ok then (bif ((m_Q8_Line a0 a1 a2 a3 a4 a5).r1 != (0 : Int)) then ⟨true, ⟨(0 : Int), (0 : Int)⟩, (m_Q8_Line a0 a1 a2 a3 a4 a5).r1⟩ else (bif ((ofS ⟨a6.num, a6.den⟩).2 != (0 : Int)) then ⟨true, ⟨(0 : Int), (0 : Int)⟩, (ofS ⟨a6.num, a6.den⟩).2⟩ else ⟨true, (mulS ⟨((((m_Q8_Line a0 a1 a2 a3 a4 a5).r0).z).lo), ((((m_Q8_Line a0 a1 a2 a3 a4 a5).r0).z).hi)⟩ ⟨(((ofS ⟨a6.num, a6.den⟩).1).lo), (((ofS ⟨a6.num, a6.den⟩).1).hi)⟩).1, (mulS ⟨((((m_Q8_Line a0 a1 a2 a3 a4 a5).r0).z).lo), ((((m_Q8_Line a0 a1 a2 a3 a4 a5).r0).z).hi)⟩ ⟨(((ofS ⟨a6.num, a6.den⟩).1).lo), (((ofS ⟨a6.num, a6.den⟩).1).hi)⟩).2⟩)) else ⟨false, ⟨0, 0⟩, 0⟩
def F_Q9_delay (_a0 : Globe) (a1 : List Site) (_a2 : Int) (_a3 : Int) (_a4 : Source) (_a5 : Int) (_a6 : Frac) (K : AV → List Blk → Ans) (r : O_Q9_delay) : Ans := bif r.ok then K (.tup [.agg [.int .i64 r.r0.lo, .int .i64 r.r0.hi], .c (.d (.int .i64 r.r1))]) [.arr none .site a1] else none
theorem e_Q9_delay (a0 : Globe) (a1 : List Site) (a2 : Int) (a3 : Int) (a4 : Source) (a5 : Int) (a6 : Frac) (K : AV → List Blk → Ans) : evFn Tryz.prog GT EQT T_delay_Drift XT noL 80 30 [.v (.agg [.int .i64 a0.a, .int .i64 a0.b]), .v (.c (.aslice 0 none)), .v (.c (.d (.int .i64 a2))), .v (.c (.d (.int .i64 a3))), .v (.agg [.str a4.name, .int .i64 a4.ra, .int .i64 a4.dec]), .v (.c (.d (.int .i64 a5))), .v (.agg [.int .i64 a6.num, .int .i64 a6.den])] [.arr none .site a1] (fun v M => K (finR 1 v M).1 (finR 1 v M).2) = F_Q9_delay a0 a1 a2 a3 a4 a5 a6 K (m_Q9_delay a0 a1 a2 a3 a4 a5 a6) := by
  unfold m_Q9_delay
  refine Eq.trans ?_ (Eq.symm (pushT (pushT rfl (pushT rfl rfl)) rfl))
  kernel_rfl
theorem c_Q9_delay (a0 : Globe) (a1 : List Site) (a2 : Int) (a3 : Int) (a4 : Source) (a5 : Int) (a6 : Frac) (hd : (m_Q9_delay a0 a1 a2 a3 a4 a5 a6).ok = true) : CallsA Tryz.prog GT gbT 30 [.v (.agg [.int .i64 a0.a, .int .i64 a0.b]), .v (.c (.aslice 0 none)), .v (.c (.d (.int .i64 a2))), .v (.c (.d (.int .i64 a3))), .v (.agg [.str a4.name, .int .i64 a4.ra, .int .i64 a4.dec]), .v (.c (.d (.int .i64 a5))), .v (.agg [.int .i64 a6.num, .int .i64 a6.den])] [.arr none .site a1] (.tup [.agg [.int .i64 (((m_Q9_delay a0 a1 a2 a3 a4 a5 a6).r0).lo), .int .i64 (((m_Q9_delay a0 a1 a2 a3 a4 a5 a6).r0).hi)], .c (.d (.int .i64 ((m_Q9_delay a0 a1 a2 a3 a4 a5 a6).r1)))]) [.arr none .site a1] := by
  refine CallsA.ofEvR g_delay_Drift hEQT hmT (n0 := 1) rfl (fun _ _ _ _ => LOKn.nil) ((e_Q9_delay a0 a1 a2 a3 a4 a5 a6 (fun v M => some (Res.fin v M))).trans ?_)
  unfold F_Q9_delay
  rw [hd]
  rfl
def s_Q9_delay : List AV → List Blk → (AV → List Blk → Ans) → Ans := fun xs bs K => match xs, bs with
  | [.v (.agg [.int .i64 a0_0, .int .i64 a0_1]), .v (.c (.aslice 0 none)), .v (.c (.d (.int .i64 a2))), .v (.c (.d (.int .i64 a3))), .v (.agg [.str a4_0, .int .i64 a4_1, .int .i64 a4_2]), .v (.c (.d (.int .i64 a5))), .v (.agg [.int .i64 a6_0, .int .i64 a6_1])], [.arr none .site a1] => F_Q9_delay (⟨a0_0, a0_1⟩ : Globe) a1 a2 a3 (⟨a4_0, a4_1, a4_2⟩ : Source) a5 (⟨a6_0, a6_1⟩ : Frac) K (m_Q9_delay (⟨a0_0, a0_1⟩ : Globe) a1 a2 a3 (⟨a4_0, a4_1, a4_2⟩ : Source) a5 (⟨a6_0, a6_1⟩ : Frac))
  | _, _ => none
def T_Q9_delay : Nat → List AV → List Blk → (AV → List Blk → Ans) → Ans := upd T_delay_Drift 30 s_Q9_delay
theorem g_Q9_delay : GOK Tryz.prog GT gbT T_Q9_delay XT := by
  refine GOK.upd g_delay_Drift (fun args w => Tryz.call30 args w) fun xs bs K r h => ?_
  unfold s_Q9_delay at h
  split at h
  · unfold F_Q9_delay at h
    simp only [cond_eq_ite] at h
    split at h
    · rename_i hd
      exact ⟨_, _, c_Q9_delay _ _ _ _ _ _ _ hd, h⟩
    · cases h
  · cases h
structure O_Q9_Of where
  ok : Bool
  r0 : Span
  r1 : Int
def m_Q9_Of (a0 : Globe) (a1 : List Site) (a2 : Int) (a3 : Int) (a4 : Source) (a5 : Int) (a6 : Frac) : O_Q9_Of := bif (m_Q9_Ready a0 a1 a4 a6).ok then (bif ((m_Q9_Ready a0 a1 a4 a6).r0 != (0 : Int)) then ⟨true, ⟨(0 : Int), (0 : Int)⟩, (m_Q9_Ready a0 a1 a4 a6).r0⟩ else (bif decide (a2 < (0 : Int)) then ⟨true, ⟨(0 : Int), (0 : Int)⟩, (2 : Int)⟩ else (bif decide (a3 < (0 : Int)) then ⟨true, ⟨(0 : Int), (0 : Int)⟩, (2 : Int)⟩ else (bif decide ((a1.length : Int) ≤ a2) then ⟨true, ⟨(0 : Int), (0 : Int)⟩, (2 : Int)⟩ else (bif decide ((a1.length : Int) ≤ a3) then ⟨true, ⟨(0 : Int), (0 : Int)⟩, (2 : Int)⟩ else (bif (!(tickB a5)) then ⟨true, ⟨(0 : Int), (0 : Int)⟩, (2 : Int)⟩ else (bif (m_Q9_delay a0 a1 a2 a3 a4 a5 a6).ok then ⟨true, (m_Q9_delay a0 a1 a2 a3 a4 a5 a6).r0, (m_Q9_delay a0 a1 a2 a3 a4 a5 a6).r1⟩ else ⟨false, ⟨0, 0⟩, 0⟩))))))) else ⟨false, ⟨0, 0⟩, 0⟩
def F_Q9_Of (_a0 : Globe) (a1 : List Site) (_a2 : Int) (_a3 : Int) (_a4 : Source) (_a5 : Int) (_a6 : Frac) (K : AV → List Blk → Ans) (r : O_Q9_Of) : Ans := bif r.ok then K (.tup [.agg [.int .i64 r.r0.lo, .int .i64 r.r0.hi], .c (.d (.int .i64 r.r1))]) [.arr none .site a1] else none
theorem e_Q9_Of (a0 : Globe) (a1 : List Site) (a2 : Int) (a3 : Int) (a4 : Source) (a5 : Int) (a6 : Frac) (K : AV → List Blk → Ans) : evFn Tryz.prog GT EQT T_Q9_delay XT noL 80 8 [.v (.agg [.int .i64 a0.a, .int .i64 a0.b]), .v (.c (.aslice 0 none)), .v (.c (.d (.int .i64 a2))), .v (.c (.d (.int .i64 a3))), .v (.agg [.str a4.name, .int .i64 a4.ra, .int .i64 a4.dec]), .v (.c (.d (.int .i64 a5))), .v (.agg [.int .i64 a6.num, .int .i64 a6.den])] [.arr none .site a1] (fun v M => K (finR 1 v M).1 (finR 1 v M).2) = F_Q9_Of a0 a1 a2 a3 a4 a5 a6 K (m_Q9_Of a0 a1 a2 a3 a4 a5 a6) := by
  unfold m_Q9_Of
  refine Eq.trans ?_ (Eq.symm (pushT (pushT rfl (pushT rfl (pushT rfl (pushT rfl (pushT rfl (pushT rfl (pushT rfl rfl))))))) rfl))
  kernel_rfl
theorem c_Q9_Of (a0 : Globe) (a1 : List Site) (a2 : Int) (a3 : Int) (a4 : Source) (a5 : Int) (a6 : Frac) (hd : (m_Q9_Of a0 a1 a2 a3 a4 a5 a6).ok = true) : CallsA Tryz.prog GT gbT 8 [.v (.agg [.int .i64 a0.a, .int .i64 a0.b]), .v (.c (.aslice 0 none)), .v (.c (.d (.int .i64 a2))), .v (.c (.d (.int .i64 a3))), .v (.agg [.str a4.name, .int .i64 a4.ra, .int .i64 a4.dec]), .v (.c (.d (.int .i64 a5))), .v (.agg [.int .i64 a6.num, .int .i64 a6.den])] [.arr none .site a1] (.tup [.agg [.int .i64 (((m_Q9_Of a0 a1 a2 a3 a4 a5 a6).r0).lo), .int .i64 (((m_Q9_Of a0 a1 a2 a3 a4 a5 a6).r0).hi)], .c (.d (.int .i64 ((m_Q9_Of a0 a1 a2 a3 a4 a5 a6).r1)))]) [.arr none .site a1] := by
  refine CallsA.ofEvR g_Q9_delay hEQT hmT (n0 := 1) rfl (fun _ _ _ _ => LOKn.nil) ((e_Q9_Of a0 a1 a2 a3 a4 a5 a6 (fun v M => some (Res.fin v M))).trans ?_)
  unfold F_Q9_Of
  rw [hd]
  rfl
def s_Q9_Of : List AV → List Blk → (AV → List Blk → Ans) → Ans := fun xs bs K => match xs, bs with
  | [.v (.agg [.int .i64 a0_0, .int .i64 a0_1]), .v (.c (.aslice 0 none)), .v (.c (.d (.int .i64 a2))), .v (.c (.d (.int .i64 a3))), .v (.agg [.str a4_0, .int .i64 a4_1, .int .i64 a4_2]), .v (.c (.d (.int .i64 a5))), .v (.agg [.int .i64 a6_0, .int .i64 a6_1])], [.arr none .site a1] => F_Q9_Of (⟨a0_0, a0_1⟩ : Globe) a1 a2 a3 (⟨a4_0, a4_1, a4_2⟩ : Source) a5 (⟨a6_0, a6_1⟩ : Frac) K (m_Q9_Of (⟨a0_0, a0_1⟩ : Globe) a1 a2 a3 (⟨a4_0, a4_1, a4_2⟩ : Source) a5 (⟨a6_0, a6_1⟩ : Frac))
  | _, _ => none
def T_Q9_Of : Nat → List AV → List Blk → (AV → List Blk → Ans) → Ans := upd T_Q9_delay 8 s_Q9_Of
theorem g_Q9_Of : GOK Tryz.prog GT gbT T_Q9_Of XT := by
  refine GOK.upd g_Q9_delay (fun args w => Tryz.call8 args w) fun xs bs K r h => ?_
  unfold s_Q9_Of at h
  split at h
  · unfold F_Q9_Of at h
    simp only [cond_eq_ite] at h
    split at h
    · rename_i hd
      exact ⟨_, _, c_Q9_Of _ _ _ _ _ _ _ hd, h⟩
    · cases h
  · cases h
structure O_Q9_Drift where
  ok : Bool
  r0 : Span
  r1 : Int
def m_Q9_Drift (a0 : Globe) (a1 : List Site) (a2 : Int) (a3 : Int) (a4 : Source) (a5 : Int) (a6 : Int) (a7 : Frac) : O_Q9_Drift := bif (m_Q9_Ready a0 a1 a4 a7).ok then (bif ((m_Q9_Ready a0 a1 a4 a7).r0 != (0 : Int)) then ⟨true, ⟨(0 : Int), (0 : Int)⟩, (m_Q9_Ready a0 a1 a4 a7).r0⟩ else (bif decide (a2 < (0 : Int)) then ⟨true, ⟨(0 : Int), (0 : Int)⟩, (2 : Int)⟩ else (bif decide (a3 < (0 : Int)) then ⟨true, ⟨(0 : Int), (0 : Int)⟩, (2 : Int)⟩ else (bif decide ((a1.length : Int) ≤ a2) then ⟨true, ⟨(0 : Int), (0 : Int)⟩, (2 : Int)⟩ else (bif decide ((a1.length : Int) ≤ a3) then ⟨true, ⟨(0 : Int), (0 : Int)⟩, (2 : Int)⟩ else (bif decide (a6 < (-720 : Int)) then ⟨true, ⟨(0 : Int), (0 : Int)⟩, (2 : Int)⟩ else (bif decide ((720 : Int) < a6) then ⟨true, ⟨(0 : Int), (0 : Int)⟩, (2 : Int)⟩ else (bif (!(tickB a5)) then ⟨true, ⟨(0 : Int), (0 : Int)⟩, (2 : Int)⟩ else (bif (!(tickB (w64 (a5 + a6)))) then ⟨true, ⟨(0 : Int), (0 : Int)⟩, (2 : Int)⟩ else (bif (m_Q9_delay a0 a1 a2 a3 a4 (w64 (a5 + a6)) a7).ok then (bif ((m_Q9_delay a0 a1 a2 a3 a4 (w64 (a5 + a6)) a7).r1 != (0 : Int)) then ⟨true, ⟨(0 : Int), (0 : Int)⟩, (m_Q9_delay a0 a1 a2 a3 a4 (w64 (a5 + a6)) a7).r1⟩ else (bif (m_Q9_delay a0 a1 a2 a3 a4 a5 a7).ok then (bif ((m_Q9_delay a0 a1 a2 a3 a4 a5 a7).r1 != (0 : Int)) then ⟨true, ⟨(0 : Int), (0 : Int)⟩, (m_Q9_delay a0 a1 a2 a3 a4 a5 a7).r1⟩ else ⟨true, (subS ⟨(((m_Q9_delay a0 a1 a2 a3 a4 (w64 (a5 + a6)) a7).r0).lo), (((m_Q9_delay a0 a1 a2 a3 a4 (w64 (a5 + a6)) a7).r0).hi)⟩ ⟨(((m_Q9_delay a0 a1 a2 a3 a4 a5 a7).r0).lo), (((m_Q9_delay a0 a1 a2 a3 a4 a5 a7).r0).hi)⟩).1, (subS ⟨(((m_Q9_delay a0 a1 a2 a3 a4 (w64 (a5 + a6)) a7).r0).lo), (((m_Q9_delay a0 a1 a2 a3 a4 (w64 (a5 + a6)) a7).r0).hi)⟩ ⟨(((m_Q9_delay a0 a1 a2 a3 a4 a5 a7).r0).lo), (((m_Q9_delay a0 a1 a2 a3 a4 a5 a7).r0).hi)⟩).2⟩) else ⟨false, ⟨0, 0⟩, 0⟩)) else ⟨false, ⟨0, 0⟩, 0⟩)))))))))) else ⟨false, ⟨0, 0⟩, 0⟩
def F_Q9_Drift (_a0 : Globe) (a1 : List Site) (_a2 : Int) (_a3 : Int) (_a4 : Source) (_a5 : Int) (_a6 : Int) (_a7 : Frac) (K : AV → List Blk → Ans) (r : O_Q9_Drift) : Ans := bif r.ok then K (.tup [.agg [.int .i64 r.r0.lo, .int .i64 r.r0.hi], .c (.d (.int .i64 r.r1))]) [.arr none .site a1] else none
theorem e_Q9_Drift (a0 : Globe) (a1 : List Site) (a2 : Int) (a3 : Int) (a4 : Source) (a5 : Int) (a6 : Int) (a7 : Frac) (K : AV → List Blk → Ans) : evFn Tryz.prog GT EQT T_Q9_Of XT noL 80 10 [.v (.agg [.int .i64 a0.a, .int .i64 a0.b]), .v (.c (.aslice 0 none)), .v (.c (.d (.int .i64 a2))), .v (.c (.d (.int .i64 a3))), .v (.agg [.str a4.name, .int .i64 a4.ra, .int .i64 a4.dec]), .v (.c (.d (.int .i64 a5))), .v (.c (.d (.int .i64 a6))), .v (.agg [.int .i64 a7.num, .int .i64 a7.den])] [.arr none .site a1] (fun v M => K (finR 1 v M).1 (finR 1 v M).2) = F_Q9_Drift a0 a1 a2 a3 a4 a5 a6 a7 K (m_Q9_Drift a0 a1 a2 a3 a4 a5 a6 a7) := by
  unfold m_Q9_Drift
  refine Eq.trans ?_ (Eq.symm (pushT (pushT rfl (pushT rfl (pushT rfl (pushT rfl (pushT rfl (pushT rfl (pushT rfl (pushT rfl (pushT rfl (pushT (pushT rfl (pushT (pushT rfl rfl) rfl)) rfl)))))))))) rfl))
  kernel_rfl
theorem c_Q9_Drift (a0 : Globe) (a1 : List Site) (a2 : Int) (a3 : Int) (a4 : Source) (a5 : Int) (a6 : Int) (a7 : Frac) (hd : (m_Q9_Drift a0 a1 a2 a3 a4 a5 a6 a7).ok = true) : CallsA Tryz.prog GT gbT 10 [.v (.agg [.int .i64 a0.a, .int .i64 a0.b]), .v (.c (.aslice 0 none)), .v (.c (.d (.int .i64 a2))), .v (.c (.d (.int .i64 a3))), .v (.agg [.str a4.name, .int .i64 a4.ra, .int .i64 a4.dec]), .v (.c (.d (.int .i64 a5))), .v (.c (.d (.int .i64 a6))), .v (.agg [.int .i64 a7.num, .int .i64 a7.den])] [.arr none .site a1] (.tup [.agg [.int .i64 (((m_Q9_Drift a0 a1 a2 a3 a4 a5 a6 a7).r0).lo), .int .i64 (((m_Q9_Drift a0 a1 a2 a3 a4 a5 a6 a7).r0).hi)], .c (.d (.int .i64 ((m_Q9_Drift a0 a1 a2 a3 a4 a5 a6 a7).r1)))]) [.arr none .site a1] := by
  refine CallsA.ofEvR g_Q9_Of hEQT hmT (n0 := 1) rfl (fun _ _ _ _ => LOKn.nil) ((e_Q9_Drift a0 a1 a2 a3 a4 a5 a6 a7 (fun v M => some (Res.fin v M))).trans ?_)
  unfold F_Q9_Drift
  rw [hd]
  rfl
def s_Q9_Drift : List AV → List Blk → (AV → List Blk → Ans) → Ans := fun xs bs K => match xs, bs with
  | [.v (.agg [.int .i64 a0_0, .int .i64 a0_1]), .v (.c (.aslice 0 none)), .v (.c (.d (.int .i64 a2))), .v (.c (.d (.int .i64 a3))), .v (.agg [.str a4_0, .int .i64 a4_1, .int .i64 a4_2]), .v (.c (.d (.int .i64 a5))), .v (.c (.d (.int .i64 a6))), .v (.agg [.int .i64 a7_0, .int .i64 a7_1])], [.arr none .site a1] => F_Q9_Drift (⟨a0_0, a0_1⟩ : Globe) a1 a2 a3 (⟨a4_0, a4_1, a4_2⟩ : Source) a5 a6 (⟨a7_0, a7_1⟩ : Frac) K (m_Q9_Drift (⟨a0_0, a0_1⟩ : Globe) a1 a2 a3 (⟨a4_0, a4_1, a4_2⟩ : Source) a5 a6 (⟨a7_0, a7_1⟩ : Frac))
  | _, _ => none
def T_Q9_Drift : Nat → List AV → List Blk → (AV → List Blk → Ans) → Ans := upd T_Q9_Of 10 s_Q9_Drift
theorem g_Q9_Drift : GOK Tryz.prog GT gbT T_Q9_Drift XT := by
  refine GOK.upd g_Q9_Of (fun args w => Tryz.call10 args w) fun xs bs K r h => ?_
  unfold s_Q9_Drift at h
  split at h
  · unfold F_Q9_Drift at h
    simp only [cond_eq_ite] at h
    split at h
    · rename_i hd
      exact ⟨_, _, c_Q9_Drift _ _ _ _ _ _ _ _ hd, h⟩
    · cases h
  · cases h
end Go.Ev

namespace Go.Ev
open Go
theorem bif_if {α : Type} {p : Prop} [Decidable p] (x y : α) : (bif decide p then x else y) = if p then x else y := by
  by_cases h : p <;> simp [h]
theorem or_if {α : Type} {p q : Prop} [Decidable p] [Decidable q] (x y : α) : (if p then x else if q then x else y) = if p ∨ q then x else y := by
  by_cases h : p <;> by_cases k : q <;> simp [h, k]
theorem cmpI_lt0 (x y : Int) : decide (cmpI x y < 0) = decide (x < y) := by
  unfold cmpI
  by_cases h : y < x
  · rw [dec_t h, dec_f (show ¬ x < y by omega)]; rfl
  · rw [dec_f h]
    by_cases k : x = y
    · rw [show (x == y) = true by simpa using k, dec_f (show ¬ x < y by omega)]; rfl
    · rw [show (x == y) = false by simpa using k, dec_t (show x < y by omega)]; rfl
theorem cmpI_le (x y : Int) : decide (cmpI x y ≤ 0) = decide (x ≤ y) := by
  unfold cmpI
  by_cases h : y < x
  · rw [dec_t h, dec_f (show ¬ x ≤ y by omega)]; rfl
  · rw [dec_f h]
    by_cases k : x = y
    · rw [show (x == y) = true by simpa using k, dec_t (show x ≤ y by omega)]; rfl
    · rw [show (x == y) = false by simpa using k, dec_t (show x ≤ y by omega)]; rfl
def betweenB (f : Frac) (a b : Int) : Bool := fracOkB f && (decide (a * f.den ≤ f.num) && decide (f.num ≤ b * f.den))
theorem m_between (f : Frac) {a b : Int} (ha : fracOkB ⟨a, 1⟩ = true) (hb : fracOkB ⟨b, 1⟩ = true) : m_delay_between f a b = ⟨true, betweenB f a b⟩ := by
  unfold m_delay_between cmpF betweenB
  rw [ha, hb]
  cases fracOkB f with
  | false => rfl
  | true =>
    unfold orderI
    simp only [Bool.and_self, cond_true, bne_self_eq_false, cond_false, beq_self_eq_true, Bool.true_and, Int.mul_one, cmpI_lt0, cmpI_le]
    by_cases h : f.num < a * f.den
    · rw [dec_t h, dec_f (show ¬ a * f.den ≤ f.num by omega)]; rfl
    · rw [dec_f h, dec_t (show a * f.den ≤ f.num by omega)]; rfl
def rateB (f : Frac) : Bool := bif decide (f.num < 1) then false else betweenB f 0 1000
def readyE (g : Globe) (l : List Site) (s : Source) (r : Frac) : Int := bif checkA g l != 0 then checkA g l else bif checkSrc s != 0 then checkSrc s else bif rateB r then 0 else 8
theorem m_checkP (g : Globe) (l : List Site) : m_array_Check g l = ⟨true, checkA g l⟩ := by
  unfold m_array_Check
  simp only [m_place, cond_true]
theorem m_ready (g : Globe) (l : List Site) (s : Source) (r : Frac) : m_delay_check g l s r = ⟨true, readyE g l s r⟩ := by
  unfold m_delay_check readyE rateB
  simp only [m_checkP, m_between r (a := 0) (b := 1000) (by decide) (by decide), cond_true]
  cases (checkA g l != 0) with
  | true => rfl
  | false =>
    cases h : (checkSrc s != 0) with
    | true => simp only [cond_true, cond_false]
    | false =>
      simp only [cond_false]
      cases decide (r.num < 1) with
      | true => rfl
      | false => cases betweenB r 0 1000 <;> rfl
theorem m_rate (r : Frac) : m_Q9_Rate r = ⟨true, rateB r⟩ := by
  unfold m_Q9_Rate rateB betweenB
  change (bif (checkF r == 0) then (bif decide (0 < r.num) then ⟨true, !(lessN ⟨1000, 1⟩ r)⟩ else ⟨true, false⟩) else ⟨true, false⟩ : O_Q9_Rate) = _
  unfold checkF
  cases h : fracOkB r with
  | false => cases decide (r.num < 1) <;> rfl
  | true =>
    have ok := fracOkB_iff.1 h
    have h1 := ok.denlo; have h2 := ok.denhi
    rw [lessN_ok (a := ⟨1000, 1⟩) (b := r) (by decide) (by decide) (by omega) (by omega)]
    simp only [cond_true, beq_self_eq_true, Bool.true_and, Int.mul_one]
    by_cases c : r.num < 1
    · rw [dec_t c, dec_f (show ¬ 0 < r.num by omega)]; rfl
    · rw [dec_f c, dec_t (show 0 < r.num by omega), dec_t (show 0 * r.den ≤ r.num by omega)]
      by_cases d : r.num ≤ 1000 * r.den
      · rw [dec_t d, dec_f (show ¬ 1000 * r.den < r.num by omega)]; rfl
      · rw [dec_f d, dec_t (show 1000 * r.den < r.num by omega)]; rfl
theorem m_both (g : Globe) (l : List Site) (s : Source) : m_Q7_Both g l s = ⟨true, bif checkA g l != 0 then checkA g l else checkSrc s⟩ := by
  unfold m_Q7_Both
  simp only [m_checkRA, cond_true]
  cases (checkA g l != 0) <;> rfl
theorem m_readyR (g : Globe) (l : List Site) (s : Source) (r : Frac) : m_Q9_Ready g l s r = ⟨true, readyE g l s r⟩ := by
  unfold m_Q9_Ready readyE
  simp only [m_both, m_rate, cond_true]
  cases h : (checkA g l != 0) with
  | true => simp only [cond_true, h]
  | false =>
    simp only [cond_false]
    cases (checkSrc s != 0) with
    | true => rfl
    | false => cases rateB r <;> rfl
theorem m_greatD (l : List Site) (s : Source) (hl : l.length ≤ maxLen) : m_Q9_Great l s = ⟨true, greatB l || decide ((200 : Int) < (s.name.size : Int))⟩ := by
  unfold m_Q9_Great
  simp only [m_great l hl, cond_true]
  cases greatB l <;> rfl
def delayV (g : Globe) (l : List Site) (i j : Int) (s : Source) (t : Int) (r : Frac) : Span × Int :=
  bif (plineA g l i j s t).2 != 0 then (spanZ, (plineA g l i j s t).2) else bif (ofS r).2 != 0 then (spanZ, (ofS r).2) else mulS (plineA g l i j s t).1.z (ofS r).1
def ofV (g : Globe) (l : List Site) (i j : Int) (s : Source) (t : Int) (r : Frac) : Span × Int := bif readyE g l s r != 0 then (spanZ, readyE g l s r) else delayV g l i j s t r
theorem m_of (g : Globe) (l : List Site) (i j : Int) (s : Source) (t : Int) (r : Frac) : m_delay_Of g l i j s t r = ⟨true, (ofV g l i j s t r).1, (ofV g l i j s t r).2⟩ := by
  unfold m_delay_Of ofV delayV
  simp only [m_ready, m_pline, cond_true]
  cases (readyE g l s r != 0) with
  | true => rfl
  | false =>
    cases ((plineA g l i j s t).2 != 0) with
    | true => rfl
    | false => cases h : ((ofS r).2 != 0) <;> simp only [cond_false, cond_true] <;> rfl
theorem ready_parts {g : Globe} {l : List Site} {s : Source} {r : Frac} (h : readyE g l s r = 0) : checkA g l = 0 ∧ checkSrc s = 0 ∧ rateB r = true := by
  unfold readyE at h
  cases h1 : (checkA g l != 0) with
  | true => rw [h1, cond_true] at h; rw [h] at h1; cases h1
  | false =>
    rw [h1, cond_false] at h
    cases h2 : (checkSrc s != 0) with
    | true => rw [h2, cond_true] at h; rw [h] at h2; cases h2
    | false =>
      rw [h2, cond_false] at h
      cases h3 : rateB r with
      | false => rw [h3] at h; cases h
      | true => exact ⟨eq0_of h1, eq0_of h2, rfl⟩
def driftP (l : List Site) (i j t d : Int) : Prop := 0 ≤ i ∧ i < (l.length : Int) ∧ 0 ≤ j ∧ j < (l.length : Int) ∧ -720 ≤ d ∧ d ≤ 720 ∧ -1000000 ≤ t ∧ t ≤ 1000000 ∧ -1000000 ≤ w64 (t + d) ∧ w64 (t + d) ≤ 1000000
instance (l : List Site) (i j t d : Int) : Decidable (driftP l i j t d) := by unfold driftP; infer_instance
def driftV (g : Globe) (l : List Site) (i j : Int) (s : Source) (t d : Int) (r : Frac) : Span × Int :=
  bif readyE g l s r != 0 then (spanZ, readyE g l s r) else if driftP l i j t d then
  (bif (delayV g l i j s (w64 (t + d)) r).2 != 0 then (spanZ, (delayV g l i j s (w64 (t + d)) r).2) else bif (delayV g l i j s t r).2 != 0 then (spanZ, (delayV g l i j s t r).2) else subS (delayV g l i j s (w64 (t + d)) r).1 (delayV g l i j s t r).1) else (spanZ, 2)
theorem m_drift (g : Globe) (l : List Site) (i j : Int) (s : Source) (t d : Int) (r : Frac) : m_delay_Drift g l i j s t d r = ⟨true, (driftV g l i j s t d r).1, (driftV g l i j s t d r).2⟩ := by
  unfold m_delay_Drift driftV
  simp only [m_ready, m_of, cond_true]
  cases h : (readyE g l s r != 0) with
  | true => rfl
  | false =>
    have e : ∀ t, ofV g l i j s t r = delayV g l i j s t r := fun t => by unfold ofV; rw [h]; rfl
    simp only [cond_false, bif_if, or_if, e]
    by_cases c : driftP l i j t d
    · rw [if_pos c, if_neg (by unfold driftP at c; omega)]
      cases ((delayV g l i j s (w64 (t + d)) r).2 != 0) with
      | true => rfl
      | false => cases ((delayV g l i j s t r).2 != 0) <;> rfl
    · rw [if_neg c, if_pos (by unfold driftP at c; omega)]
      rfl
end Go.Ev

namespace Go.Ev
open Go Go.Proofs
structure O_W9_DelayCloses where
  ok : Bool
  r0 : Bool
def m_W9_DelayCloses (a0 : Globe) (a1 : List Site) (a2 : Int) (a3 : Int) (a4 : Int) (a5 : Source) (a6 : Int) (a7 : Frac) : O_W9_DelayCloses := bif (m_W9_fit a0 a1 a5 a6 a7).ok then (bif (!(m_W9_fit a0 a1 a5 a6 a7).r0) then (bif (m_W9_alive).ok then ⟨true, (m_W9_alive).r0⟩ else ⟨false, false⟩) else (bif decide (a2 < (0 : Int)) then (bif (m_W9_alive).ok then ⟨true, (m_W9_alive).r0⟩ else ⟨false, false⟩) else (bif decide (a3 < (0 : Int)) then (bif (m_W9_alive).ok then ⟨true, (m_W9_alive).r0⟩ else ⟨false, false⟩) else (bif decide (a4 < (0 : Int)) then (bif (m_W9_alive).ok then ⟨true, (m_W9_alive).r0⟩ else ⟨false, false⟩) else (bif decide ((a1.length : Int) ≤ a2) then (bif (m_W9_alive).ok then ⟨true, (m_W9_alive).r0⟩ else ⟨false, false⟩) else (bif decide ((a1.length : Int) ≤ a3) then (bif (m_W9_alive).ok then ⟨true, (m_W9_alive).r0⟩ else ⟨false, false⟩) else (bif decide ((a1.length : Int) ≤ a4) then (bif (m_W9_alive).ok then ⟨true, (m_W9_alive).r0⟩ else ⟨false, false⟩) else (bif (m_delay_Of a0 a1 a2 a3 a5 a6 a7).ok then (bif (m_delay_Of a0 a1 a3 a4 a5 a6 a7).ok then (bif (m_delay_Of a0 a1 a2 a4 a5 a6 a7).ok then (bif (m_delay_Of a0 a1 a3 a2 a5 a6 a7).ok then (bif (m_delay_Drift a0 a1 a2 a3 a5 a6 (720 : Int) a7).ok then (bif ((m_delay_Of a0 a1 a2 a3 a5 a6 a7).r1 != (m_delay_Of a0 a1 a3 a2 a5 a6 a7).r1) then ⟨true, false⟩ else (bif ((m_delay_Of a0 a1 a2 a3 a5 a6 a7).r1 == (0 : Int)) then (bif (!(eqAll [.int .i64 (((m_delay_Of a0 a1 a3 a2 a5 a6 a7).r0).lo), .int .i64 (((m_delay_Of a0 a1 a3 a2 a5 a6 a7).r0).hi)] [.int .i64 ((negRaw ⟨(((m_delay_Of a0 a1 a2 a3 a5 a6 a7).r0).lo), (((m_delay_Of a0 a1 a2 a3 a5 a6 a7).r0).hi)⟩).lo), .int .i64 ((negRaw ⟨(((m_delay_Of a0 a1 a2 a3 a5 a6 a7).r0).lo), (((m_delay_Of a0 a1 a2 a3 a5 a6 a7).r0).hi)⟩).hi)])) then ⟨true, false⟩ else (bif ((m_delay_Drift a0 a1 a2 a3 a5 a6 (720 : Int) a7).r1 == (0 : Int)) then (bif decide ((0 : Int) < ((m_delay_Drift a0 a1 a2 a3 a5 a6 (720 : Int) a7).r0).lo) then ⟨true, false⟩ else (bif decide (((m_delay_Drift a0 a1 a2 a3 a5 a6 (720 : Int) a7).r0).hi < (0 : Int)) then ⟨true, false⟩ else (bif ((m_delay_Drift a0 a1 a2 a3 a5 a6 (720 : Int) a7).r1 != (0 : Int)) then (bif ((m_delay_Drift a0 a1 a2 a3 a5 a6 (720 : Int) a7).r1 != (16 : Int)) then ⟨true, false⟩ else (bif ((m_delay_Of a0 a1 a2 a3 a5 a6 a7).r1 != (0 : Int)) then (bif ((m_delay_Of a0 a1 a2 a3 a5 a6 a7).r1 == (0 : Int)) then (bif ((m_delay_Of a0 a1 a3 a4 a5 a6 a7).r1 == (0 : Int)) then (bif ((m_delay_Of a0 a1 a2 a4 a5 a6 a7).r1 == (0 : Int)) then (bif (m_W9_alive).ok then ⟨true, (m_W9_alive).r0⟩ else ⟨false, false⟩) else (bif ((m_delay_Of a0 a1 a2 a4 a5 a6 a7).r1 == (16 : Int)) then (bif (m_W9_alive).ok then ⟨true, (m_W9_alive).r0⟩ else ⟨false, false⟩) else ⟨true, false⟩)) else (bif ((m_delay_Of a0 a1 a3 a4 a5 a6 a7).r1 == (16 : Int)) then (bif ((m_delay_Of a0 a1 a2 a4 a5 a6 a7).r1 == (0 : Int)) then (bif (m_W9_alive).ok then ⟨true, (m_W9_alive).r0⟩ else ⟨false, false⟩) else (bif ((m_delay_Of a0 a1 a2 a4 a5 a6 a7).r1 == (16 : Int)) then (bif (m_W9_alive).ok then ⟨true, (m_W9_alive).r0⟩ else ⟨false, false⟩) else ⟨true, false⟩)) else ⟨true, false⟩)) else (bif ((m_delay_Of a0 a1 a2 a3 a5 a6 a7).r1 == (16 : Int)) then (bif ((m_delay_Of a0 a1 a3 a4 a5 a6 a7).r1 == (0 : Int)) then (bif ((m_delay_Of a0 a1 a2 a4 a5 a6 a7).r1 == (0 : Int)) then (bif (m_W9_alive).ok then ⟨true, (m_W9_alive).r0⟩ else ⟨false, false⟩) else (bif ((m_delay_Of a0 a1 a2 a4 a5 a6 a7).r1 == (16 : Int)) then (bif (m_W9_alive).ok then ⟨true, (m_W9_alive).r0⟩ else ⟨false, false⟩) else ⟨true, false⟩)) else (bif ((m_delay_Of a0 a1 a3 a4 a5 a6 a7).r1 == (16 : Int)) then (bif ((m_delay_Of a0 a1 a2 a4 a5 a6 a7).r1 == (0 : Int)) then (bif (m_W9_alive).ok then ⟨true, (m_W9_alive).r0⟩ else ⟨false, false⟩) else (bif ((m_delay_Of a0 a1 a2 a4 a5 a6 a7).r1 == (16 : Int)) then (bif (m_W9_alive).ok then ⟨true, (m_W9_alive).r0⟩ else ⟨false, false⟩) else ⟨true, false⟩)) else ⟨true, false⟩)) else ⟨true, false⟩)) else (bif ((m_delay_Of a0 a1 a3 a4 a5 a6 a7).r1 != (0 : Int)) then (bif ((m_delay_Of a0 a1 a2 a3 a5 a6 a7).r1 == (0 : Int)) then (bif ((m_delay_Of a0 a1 a3 a4 a5 a6 a7).r1 == (0 : Int)) then (bif ((m_delay_Of a0 a1 a2 a4 a5 a6 a7).r1 == (0 : Int)) then (bif (m_W9_alive).ok then ⟨true, (m_W9_alive).r0⟩ else ⟨false, false⟩) else (bif ((m_delay_Of a0 a1 a2 a4 a5 a6 a7).r1 == (16 : Int)) then (bif (m_W9_alive).ok then ⟨true, (m_W9_alive).r0⟩ else ⟨false, false⟩) else ⟨true, false⟩)) else (bif ((m_delay_Of a0 a1 a3 a4 a5 a6 a7).r1 == (16 : Int)) then (bif ((m_delay_Of a0 a1 a2 a4 a5 a6 a7).r1 == (0 : Int)) then (bif (m_W9_alive).ok then ⟨true, (m_W9_alive).r0⟩ else ⟨false, false⟩) else (bif ((m_delay_Of a0 a1 a2 a4 a5 a6 a7).r1 == (16 : Int)) then (bif (m_W9_alive).ok then ⟨true, (m_W9_alive).r0⟩ else ⟨false, false⟩) else ⟨true, false⟩)) else ⟨true, false⟩)) else (bif ((m_delay_Of a0 a1 a2 a3 a5 a6 a7).r1 == (16 : Int)) then (bif ((m_delay_Of a0 a1 a3 a4 a5 a6 a7).r1 == (0 : Int)) then (bif ((m_delay_Of a0 a1 a2 a4 a5 a6 a7).r1 == (0 : Int)) then (bif (m_W9_alive).ok then ⟨true, (m_W9_alive).r0⟩ else ⟨false, false⟩) else (bif ((m_delay_Of a0 a1 a2 a4 a5 a6 a7).r1 == (16 : Int)) then (bif (m_W9_alive).ok then ⟨true, (m_W9_alive).r0⟩ else ⟨false, false⟩) else ⟨true, false⟩)) else (bif ((m_delay_Of a0 a1 a3 a4 a5 a6 a7).r1 == (16 : Int)) then (bif ((m_delay_Of a0 a1 a2 a4 a5 a6 a7).r1 == (0 : Int)) then (bif (m_W9_alive).ok then ⟨true, (m_W9_alive).r0⟩ else ⟨false, false⟩) else (bif ((m_delay_Of a0 a1 a2 a4 a5 a6 a7).r1 == (16 : Int)) then (bif (m_W9_alive).ok then ⟨true, (m_W9_alive).r0⟩ else ⟨false, false⟩) else ⟨true, false⟩)) else ⟨true, false⟩)) else ⟨true, false⟩)) else (bif ((m_delay_Of a0 a1 a2 a4 a5 a6 a7).r1 != (0 : Int)) then (bif ((m_delay_Of a0 a1 a2 a3 a5 a6 a7).r1 == (0 : Int)) then (bif ((m_delay_Of a0 a1 a3 a4 a5 a6 a7).r1 == (0 : Int)) then (bif ((m_delay_Of a0 a1 a2 a4 a5 a6 a7).r1 == (0 : Int)) then (bif (m_W9_alive).ok then ⟨true, (m_W9_alive).r0⟩ else ⟨false, false⟩) else (bif ((m_delay_Of a0 a1 a2 a4 a5 a6 a7).r1 == (16 : Int)) then (bif (m_W9_alive).ok then ⟨true, (m_W9_alive).r0⟩ else ⟨false, false⟩) else ⟨true, false⟩)) else (bif ((m_delay_Of a0 a1 a3 a4 a5 a6 a7).r1 == (16 : Int)) then (bif ((m_delay_Of a0 a1 a2 a4 a5 a6 a7).r1 == (0 : Int)) then (bif (m_W9_alive).ok then ⟨true, (m_W9_alive).r0⟩ else ⟨false, false⟩) else (bif ((m_delay_Of a0 a1 a2 a4 a5 a6 a7).r1 == (16 : Int)) then (bif (m_W9_alive).ok then ⟨true, (m_W9_alive).r0⟩ else ⟨false, false⟩) else ⟨true, false⟩)) else ⟨true, false⟩)) else (bif ((m_delay_Of a0 a1 a2 a3 a5 a6 a7).r1 == (16 : Int)) then (bif ((m_delay_Of a0 a1 a3 a4 a5 a6 a7).r1 == (0 : Int)) then (bif ((m_delay_Of a0 a1 a2 a4 a5 a6 a7).r1 == (0 : Int)) then (bif (m_W9_alive).ok then ⟨true, (m_W9_alive).r0⟩ else ⟨false, false⟩) else (bif ((m_delay_Of a0 a1 a2 a4 a5 a6 a7).r1 == (16 : Int)) then (bif (m_W9_alive).ok then ⟨true, (m_W9_alive).r0⟩ else ⟨false, false⟩) else ⟨true, false⟩)) else (bif ((m_delay_Of a0 a1 a3 a4 a5 a6 a7).r1 == (16 : Int)) then (bif ((m_delay_Of a0 a1 a2 a4 a5 a6 a7).r1 == (0 : Int)) then (bif (m_W9_alive).ok then ⟨true, (m_W9_alive).r0⟩ else ⟨false, false⟩) else (bif ((m_delay_Of a0 a1 a2 a4 a5 a6 a7).r1 == (16 : Int)) then (bif (m_W9_alive).ok then ⟨true, (m_W9_alive).r0⟩ else ⟨false, false⟩) else ⟨true, false⟩)) else ⟨true, false⟩)) else ⟨true, false⟩)) else (bif ((addS ⟨(((m_delay_Of a0 a1 a2 a3 a5 a6 a7).r0).lo), (((m_delay_Of a0 a1 a2 a3 a5 a6 a7).r0).hi)⟩ ⟨(((m_delay_Of a0 a1 a3 a4 a5 a6 a7).r0).lo), (((m_delay_Of a0 a1 a3 a4 a5 a6 a7).r0).hi)⟩).2 != (0 : Int)) then (bif (m_W9_alive).ok then ⟨true, (m_W9_alive).r0⟩ else ⟨false, false⟩) else (bif (commonB ((addS ⟨(((m_delay_Of a0 a1 a2 a3 a5 a6 a7).r0).lo), (((m_delay_Of a0 a1 a2 a3 a5 a6 a7).r0).hi)⟩ ⟨(((m_delay_Of a0 a1 a3 a4 a5 a6 a7).r0).lo), (((m_delay_Of a0 a1 a3 a4 a5 a6 a7).r0).hi)⟩).1) ((m_delay_Of a0 a1 a2 a4 a5 a6 a7).r0)) then (bif (m_W9_alive).ok then ⟨true, (m_W9_alive).r0⟩ else ⟨false, false⟩) else ⟨true, false⟩)))))) else (bif ((m_delay_Of a0 a1 a2 a3 a5 a6 a7).r1 != (0 : Int)) then (bif ((m_delay_Of a0 a1 a2 a3 a5 a6 a7).r1 == (0 : Int)) then (bif ((m_delay_Of a0 a1 a3 a4 a5 a6 a7).r1 == (0 : Int)) then (bif ((m_delay_Of a0 a1 a2 a4 a5 a6 a7).r1 == (0 : Int)) then (bif (m_W9_alive).ok then ⟨true, (m_W9_alive).r0⟩ else ⟨false, false⟩) else (bif ((m_delay_Of a0 a1 a2 a4 a5 a6 a7).r1 == (16 : Int)) then (bif (m_W9_alive).ok then ⟨true, (m_W9_alive).r0⟩ else ⟨false, false⟩) else ⟨true, false⟩)) else (bif ((m_delay_Of a0 a1 a3 a4 a5 a6 a7).r1 == (16 : Int)) then (bif ((m_delay_Of a0 a1 a2 a4 a5 a6 a7).r1 == (0 : Int)) then (bif (m_W9_alive).ok then ⟨true, (m_W9_alive).r0⟩ else ⟨false, false⟩) else (bif ((m_delay_Of a0 a1 a2 a4 a5 a6 a7).r1 == (16 : Int)) then (bif (m_W9_alive).ok then ⟨true, (m_W9_alive).r0⟩ else ⟨false, false⟩) else ⟨true, false⟩)) else ⟨true, false⟩)) else (bif ((m_delay_Of a0 a1 a2 a3 a5 a6 a7).r1 == (16 : Int)) then (bif ((m_delay_Of a0 a1 a3 a4 a5 a6 a7).r1 == (0 : Int)) then (bif ((m_delay_Of a0 a1 a2 a4 a5 a6 a7).r1 == (0 : Int)) then (bif (m_W9_alive).ok then ⟨true, (m_W9_alive).r0⟩ else ⟨false, false⟩) else (bif ((m_delay_Of a0 a1 a2 a4 a5 a6 a7).r1 == (16 : Int)) then (bif (m_W9_alive).ok then ⟨true, (m_W9_alive).r0⟩ else ⟨false, false⟩) else ⟨true, false⟩)) else (bif ((m_delay_Of a0 a1 a3 a4 a5 a6 a7).r1 == (16 : Int)) then (bif ((m_delay_Of a0 a1 a2 a4 a5 a6 a7).r1 == (0 : Int)) then (bif (m_W9_alive).ok then ⟨true, (m_W9_alive).r0⟩ else ⟨false, false⟩) else (bif ((m_delay_Of a0 a1 a2 a4 a5 a6 a7).r1 == (16 : Int)) then (bif (m_W9_alive).ok then ⟨true, (m_W9_alive).r0⟩ else ⟨false, false⟩) else ⟨true, false⟩)) else ⟨true, false⟩)) else ⟨true, false⟩)) else (bif ((m_delay_Of a0 a1 a3 a4 a5 a6 a7).r1 != (0 : Int)) then (bif ((m_delay_Of a0 a1 a2 a3 a5 a6 a7).r1 == (0 : Int)) then (bif ((m_delay_Of a0 a1 a3 a4 a5 a6 a7).r1 == (0 : Int)) then (bif ((m_delay_Of a0 a1 a2 a4 a5 a6 a7).r1 == (0 : Int)) then (bif (m_W9_alive).ok then ⟨true, (m_W9_alive).r0⟩ else ⟨false, false⟩) else (bif ((m_delay_Of a0 a1 a2 a4 a5 a6 a7).r1 == (16 : Int)) then (bif (m_W9_alive).ok then ⟨true, (m_W9_alive).r0⟩ else ⟨false, false⟩) else ⟨true, false⟩)) else (bif ((m_delay_Of a0 a1 a3 a4 a5 a6 a7).r1 == (16 : Int)) then (bif ((m_delay_Of a0 a1 a2 a4 a5 a6 a7).r1 == (0 : Int)) then (bif (m_W9_alive).ok then ⟨true, (m_W9_alive).r0⟩ else ⟨false, false⟩) else (bif ((m_delay_Of a0 a1 a2 a4 a5 a6 a7).r1 == (16 : Int)) then (bif (m_W9_alive).ok then ⟨true, (m_W9_alive).r0⟩ else ⟨false, false⟩) else ⟨true, false⟩)) else ⟨true, false⟩)) else (bif ((m_delay_Of a0 a1 a2 a3 a5 a6 a7).r1 == (16 : Int)) then (bif ((m_delay_Of a0 a1 a3 a4 a5 a6 a7).r1 == (0 : Int)) then (bif ((m_delay_Of a0 a1 a2 a4 a5 a6 a7).r1 == (0 : Int)) then (bif (m_W9_alive).ok then ⟨true, (m_W9_alive).r0⟩ else ⟨false, false⟩) else (bif ((m_delay_Of a0 a1 a2 a4 a5 a6 a7).r1 == (16 : Int)) then (bif (m_W9_alive).ok then ⟨true, (m_W9_alive).r0⟩ else ⟨false, false⟩) else ⟨true, false⟩)) else (bif ((m_delay_Of a0 a1 a3 a4 a5 a6 a7).r1 == (16 : Int)) then (bif ((m_delay_Of a0 a1 a2 a4 a5 a6 a7).r1 == (0 : Int)) then (bif (m_W9_alive).ok then ⟨true, (m_W9_alive).r0⟩ else ⟨false, false⟩) else (bif ((m_delay_Of a0 a1 a2 a4 a5 a6 a7).r1 == (16 : Int)) then (bif (m_W9_alive).ok then ⟨true, (m_W9_alive).r0⟩ else ⟨false, false⟩) else ⟨true, false⟩)) else ⟨true, false⟩)) else ⟨true, false⟩)) else (bif ((m_delay_Of a0 a1 a2 a4 a5 a6 a7).r1 != (0 : Int)) then (bif ((m_delay_Of a0 a1 a2 a3 a5 a6 a7).r1 == (0 : Int)) then (bif ((m_delay_Of a0 a1 a3 a4 a5 a6 a7).r1 == (0 : Int)) then (bif ((m_delay_Of a0 a1 a2 a4 a5 a6 a7).r1 == (0 : Int)) then (bif (m_W9_alive).ok then ⟨true, (m_W9_alive).r0⟩ else ⟨false, false⟩) else (bif ((m_delay_Of a0 a1 a2 a4 a5 a6 a7).r1 == (16 : Int)) then (bif (m_W9_alive).ok then ⟨true, (m_W9_alive).r0⟩ else ⟨false, false⟩) else ⟨true, false⟩)) else (bif ((m_delay_Of a0 a1 a3 a4 a5 a6 a7).r1 == (16 : Int)) then (bif ((m_delay_Of a0 a1 a2 a4 a5 a6 a7).r1 == (0 : Int)) then (bif (m_W9_alive).ok then ⟨true, (m_W9_alive).r0⟩ else ⟨false, false⟩) else (bif ((m_delay_Of a0 a1 a2 a4 a5 a6 a7).r1 == (16 : Int)) then (bif (m_W9_alive).ok then ⟨true, (m_W9_alive).r0⟩ else ⟨false, false⟩) else ⟨true, false⟩)) else ⟨true, false⟩)) else (bif ((m_delay_Of a0 a1 a2 a3 a5 a6 a7).r1 == (16 : Int)) then (bif ((m_delay_Of a0 a1 a3 a4 a5 a6 a7).r1 == (0 : Int)) then (bif ((m_delay_Of a0 a1 a2 a4 a5 a6 a7).r1 == (0 : Int)) then (bif (m_W9_alive).ok then ⟨true, (m_W9_alive).r0⟩ else ⟨false, false⟩) else (bif ((m_delay_Of a0 a1 a2 a4 a5 a6 a7).r1 == (16 : Int)) then (bif (m_W9_alive).ok then ⟨true, (m_W9_alive).r0⟩ else ⟨false, false⟩) else ⟨true, false⟩)) else (bif ((m_delay_Of a0 a1 a3 a4 a5 a6 a7).r1 == (16 : Int)) then (bif ((m_delay_Of a0 a1 a2 a4 a5 a6 a7).r1 == (0 : Int)) then (bif (m_W9_alive).ok then ⟨true, (m_W9_alive).r0⟩ else ⟨false, false⟩) else (bif ((m_delay_Of a0 a1 a2 a4 a5 a6 a7).r1 == (16 : Int)) then (bif (m_W9_alive).ok then ⟨true, (m_W9_alive).r0⟩ else ⟨false, false⟩) else ⟨true, false⟩)) else ⟨true, false⟩)) else ⟨true, false⟩)) else (bif ((addS ⟨(((m_delay_Of a0 a1 a2 a3 a5 a6 a7).r0).lo), (((m_delay_Of a0 a1 a2 a3 a5 a6 a7).r0).hi)⟩ ⟨(((m_delay_Of a0 a1 a3 a4 a5 a6 a7).r0).lo), (((m_delay_Of a0 a1 a3 a4 a5 a6 a7).r0).hi)⟩).2 != (0 : Int)) then (bif (m_W9_alive).ok then ⟨true, (m_W9_alive).r0⟩ else ⟨false, false⟩) else (bif (commonB ((addS ⟨(((m_delay_Of a0 a1 a2 a3 a5 a6 a7).r0).lo), (((m_delay_Of a0 a1 a2 a3 a5 a6 a7).r0).hi)⟩ ⟨(((m_delay_Of a0 a1 a3 a4 a5 a6 a7).r0).lo), (((m_delay_Of a0 a1 a3 a4 a5 a6 a7).r0).hi)⟩).1) ((m_delay_Of a0 a1 a2 a4 a5 a6 a7).r0)) then (bif (m_W9_alive).ok then ⟨true, (m_W9_alive).r0⟩ else ⟨false, false⟩) else ⟨true, false⟩)))))))) else (bif ((m_delay_Drift a0 a1 a2 a3 a5 a6 (720 : Int) a7).r1 != (0 : Int)) then (bif ((m_delay_Drift a0 a1 a2 a3 a5 a6 (720 : Int) a7).r1 != (16 : Int)) then ⟨true, false⟩ else (bif ((m_delay_Of a0 a1 a2 a3 a5 a6 a7).r1 != (0 : Int)) then (bif ((m_delay_Of a0 a1 a2 a3 a5 a6 a7).r1 == (0 : Int)) then (bif ((m_delay_Of a0 a1 a3 a4 a5 a6 a7).r1 == (0 : Int)) then (bif ((m_delay_Of a0 a1 a2 a4 a5 a6 a7).r1 == (0 : Int)) then (bif (m_W9_alive).ok then ⟨true, (m_W9_alive).r0⟩ else ⟨false, false⟩) else (bif ((m_delay_Of a0 a1 a2 a4 a5 a6 a7).r1 == (16 : Int)) then (bif (m_W9_alive).ok then ⟨true, (m_W9_alive).r0⟩ else ⟨false, false⟩) else ⟨true, false⟩)) else (bif ((m_delay_Of a0 a1 a3 a4 a5 a6 a7).r1 == (16 : Int)) then (bif ((m_delay_Of a0 a1 a2 a4 a5 a6 a7).r1 == (0 : Int)) then (bif (m_W9_alive).ok then ⟨true, (m_W9_alive).r0⟩ else ⟨false, false⟩) else (bif ((m_delay_Of a0 a1 a2 a4 a5 a6 a7).r1 == (16 : Int)) then (bif (m_W9_alive).ok then ⟨true, (m_W9_alive).r0⟩ else ⟨false, false⟩) else ⟨true, false⟩)) else ⟨true, false⟩)) else (bif ((m_delay_Of a0 a1 a2 a3 a5 a6 a7).r1 == (16 : Int)) then (bif ((m_delay_Of a0 a1 a3 a4 a5 a6 a7).r1 == (0 : Int)) then (bif ((m_delay_Of a0 a1 a2 a4 a5 a6 a7).r1 == (0 : Int)) then (bif (m_W9_alive).ok then ⟨true, (m_W9_alive).r0⟩ else ⟨false, false⟩) else (bif ((m_delay_Of a0 a1 a2 a4 a5 a6 a7).r1 == (16 : Int)) then (bif (m_W9_alive).ok then ⟨true, (m_W9_alive).r0⟩ else ⟨false, false⟩) else ⟨true, false⟩)) else (bif ((m_delay_Of a0 a1 a3 a4 a5 a6 a7).r1 == (16 : Int)) then (bif ((m_delay_Of a0 a1 a2 a4 a5 a6 a7).r1 == (0 : Int)) then (bif (m_W9_alive).ok then ⟨true, (m_W9_alive).r0⟩ else ⟨false, false⟩) else (bif ((m_delay_Of a0 a1 a2 a4 a5 a6 a7).r1 == (16 : Int)) then (bif (m_W9_alive).ok then ⟨true, (m_W9_alive).r0⟩ else ⟨false, false⟩) else ⟨true, false⟩)) else ⟨true, false⟩)) else ⟨true, false⟩)) else (bif ((m_delay_Of a0 a1 a3 a4 a5 a6 a7).r1 != (0 : Int)) then (bif ((m_delay_Of a0 a1 a2 a3 a5 a6 a7).r1 == (0 : Int)) then (bif ((m_delay_Of a0 a1 a3 a4 a5 a6 a7).r1 == (0 : Int)) then (bif ((m_delay_Of a0 a1 a2 a4 a5 a6 a7).r1 == (0 : Int)) then (bif (m_W9_alive).ok then ⟨true, (m_W9_alive).r0⟩ else ⟨false, false⟩) else (bif ((m_delay_Of a0 a1 a2 a4 a5 a6 a7).r1 == (16 : Int)) then (bif (m_W9_alive).ok then ⟨true, (m_W9_alive).r0⟩ else ⟨false, false⟩) else ⟨true, false⟩)) else (bif ((m_delay_Of a0 a1 a3 a4 a5 a6 a7).r1 == (16 : Int)) then (bif ((m_delay_Of a0 a1 a2 a4 a5 a6 a7).r1 == (0 : Int)) then (bif (m_W9_alive).ok then ⟨true, (m_W9_alive).r0⟩ else ⟨false, false⟩) else (bif ((m_delay_Of a0 a1 a2 a4 a5 a6 a7).r1 == (16 : Int)) then (bif (m_W9_alive).ok then ⟨true, (m_W9_alive).r0⟩ else ⟨false, false⟩) else ⟨true, false⟩)) else ⟨true, false⟩)) else (bif ((m_delay_Of a0 a1 a2 a3 a5 a6 a7).r1 == (16 : Int)) then (bif ((m_delay_Of a0 a1 a3 a4 a5 a6 a7).r1 == (0 : Int)) then (bif ((m_delay_Of a0 a1 a2 a4 a5 a6 a7).r1 == (0 : Int)) then (bif (m_W9_alive).ok then ⟨true, (m_W9_alive).r0⟩ else ⟨false, false⟩) else (bif ((m_delay_Of a0 a1 a2 a4 a5 a6 a7).r1 == (16 : Int)) then (bif (m_W9_alive).ok then ⟨true, (m_W9_alive).r0⟩ else ⟨false, false⟩) else ⟨true, false⟩)) else (bif ((m_delay_Of a0 a1 a3 a4 a5 a6 a7).r1 == (16 : Int)) then (bif ((m_delay_Of a0 a1 a2 a4 a5 a6 a7).r1 == (0 : Int)) then (bif (m_W9_alive).ok then ⟨true, (m_W9_alive).r0⟩ else ⟨false, false⟩) else (bif ((m_delay_Of a0 a1 a2 a4 a5 a6 a7).r1 == (16 : Int)) then (bif (m_W9_alive).ok then ⟨true, (m_W9_alive).r0⟩ else ⟨false, false⟩) else ⟨true, false⟩)) else ⟨true, false⟩)) else ⟨true, false⟩)) else (bif ((m_delay_Of a0 a1 a2 a4 a5 a6 a7).r1 != (0 : Int)) then (bif ((m_delay_Of a0 a1 a2 a3 a5 a6 a7).r1 == (0 : Int)) then (bif ((m_delay_Of a0 a1 a3 a4 a5 a6 a7).r1 == (0 : Int)) then (bif ((m_delay_Of a0 a1 a2 a4 a5 a6 a7).r1 == (0 : Int)) then (bif (m_W9_alive).ok then ⟨true, (m_W9_alive).r0⟩ else ⟨false, false⟩) else (bif ((m_delay_Of a0 a1 a2 a4 a5 a6 a7).r1 == (16 : Int)) then (bif (m_W9_alive).ok then ⟨true, (m_W9_alive).r0⟩ else ⟨false, false⟩) else ⟨true, false⟩)) else (bif ((m_delay_Of a0 a1 a3 a4 a5 a6 a7).r1 == (16 : Int)) then (bif ((m_delay_Of a0 a1 a2 a4 a5 a6 a7).r1 == (0 : Int)) then (bif (m_W9_alive).ok then ⟨true, (m_W9_alive).r0⟩ else ⟨false, false⟩) else (bif ((m_delay_Of a0 a1 a2 a4 a5 a6 a7).r1 == (16 : Int)) then (bif (m_W9_alive).ok then ⟨true, (m_W9_alive).r0⟩ else ⟨false, false⟩) else ⟨true, false⟩)) else ⟨true, false⟩)) else (bif ((m_delay_Of a0 a1 a2 a3 a5 a6 a7).r1 == (16 : Int)) then (bif ((m_delay_Of a0 a1 a3 a4 a5 a6 a7).r1 == (0 : Int)) then (bif ((m_delay_Of a0 a1 a2 a4 a5 a6 a7).r1 == (0 : Int)) then (bif (m_W9_alive).ok then ⟨true, (m_W9_alive).r0⟩ else ⟨false, false⟩) else (bif ((m_delay_Of a0 a1 a2 a4 a5 a6 a7).r1 == (16 : Int)) then (bif (m_W9_alive).ok then ⟨true, (m_W9_alive).r0⟩ else ⟨false, false⟩) else ⟨true, false⟩)) else (bif ((m_delay_Of a0 a1 a3 a4 a5 a6 a7).r1 == (16 : Int)) then (bif ((m_delay_Of a0 a1 a2 a4 a5 a6 a7).r1 == (0 : Int)) then (bif (m_W9_alive).ok then ⟨true, (m_W9_alive).r0⟩ else ⟨false, false⟩) else (bif ((m_delay_Of a0 a1 a2 a4 a5 a6 a7).r1 == (16 : Int)) then (bif (m_W9_alive).ok then ⟨true, (m_W9_alive).r0⟩ else ⟨false, false⟩) else ⟨true, false⟩)) else ⟨true, false⟩)) else ⟨true, false⟩)) else (bif ((addS ⟨(((m_delay_Of a0 a1 a2 a3 a5 a6 a7).r0).lo), (((m_delay_Of a0 a1 a2 a3 a5 a6 a7).r0).hi)⟩ ⟨(((m_delay_Of a0 a1 a3 a4 a5 a6 a7).r0).lo), (((m_delay_Of a0 a1 a3 a4 a5 a6 a7).r0).hi)⟩).2 != (0 : Int)) then (bif (m_W9_alive).ok then ⟨true, (m_W9_alive).r0⟩ else ⟨false, false⟩) else (bif (commonB ((addS ⟨(((m_delay_Of a0 a1 a2 a3 a5 a6 a7).r0).lo), (((m_delay_Of a0 a1 a2 a3 a5 a6 a7).r0).hi)⟩ ⟨(((m_delay_Of a0 a1 a3 a4 a5 a6 a7).r0).lo), (((m_delay_Of a0 a1 a3 a4 a5 a6 a7).r0).hi)⟩).1) ((m_delay_Of a0 a1 a2 a4 a5 a6 a7).r0)) then (bif (m_W9_alive).ok then ⟨true, (m_W9_alive).r0⟩ else ⟨false, false⟩) else ⟨true, false⟩)))))) else (bif ((m_delay_Of a0 a1 a2 a3 a5 a6 a7).r1 != (0 : Int)) then (bif ((m_delay_Of a0 a1 a2 a3 a5 a6 a7).r1 == (0 : Int)) then (bif ((m_delay_Of a0 a1 a3 a4 a5 a6 a7).r1 == (0 : Int)) then (bif ((m_delay_Of a0 a1 a2 a4 a5 a6 a7).r1 == (0 : Int)) then (bif (m_W9_alive).ok then ⟨true, (m_W9_alive).r0⟩ else ⟨false, false⟩) else (bif ((m_delay_Of a0 a1 a2 a4 a5 a6 a7).r1 == (16 : Int)) then (bif (m_W9_alive).ok then ⟨true, (m_W9_alive).r0⟩ else ⟨false, false⟩) else ⟨true, false⟩)) else (bif ((m_delay_Of a0 a1 a3 a4 a5 a6 a7).r1 == (16 : Int)) then (bif ((m_delay_Of a0 a1 a2 a4 a5 a6 a7).r1 == (0 : Int)) then (bif (m_W9_alive).ok then ⟨true, (m_W9_alive).r0⟩ else ⟨false, false⟩) else (bif ((m_delay_Of a0 a1 a2 a4 a5 a6 a7).r1 == (16 : Int)) then (bif (m_W9_alive).ok then ⟨true, (m_W9_alive).r0⟩ else ⟨false, false⟩) else ⟨true, false⟩)) else ⟨true, false⟩)) else (bif ((m_delay_Of a0 a1 a2 a3 a5 a6 a7).r1 == (16 : Int)) then (bif ((m_delay_Of a0 a1 a3 a4 a5 a6 a7).r1 == (0 : Int)) then (bif ((m_delay_Of a0 a1 a2 a4 a5 a6 a7).r1 == (0 : Int)) then (bif (m_W9_alive).ok then ⟨true, (m_W9_alive).r0⟩ else ⟨false, false⟩) else (bif ((m_delay_Of a0 a1 a2 a4 a5 a6 a7).r1 == (16 : Int)) then (bif (m_W9_alive).ok then ⟨true, (m_W9_alive).r0⟩ else ⟨false, false⟩) else ⟨true, false⟩)) else (bif ((m_delay_Of a0 a1 a3 a4 a5 a6 a7).r1 == (16 : Int)) then (bif ((m_delay_Of a0 a1 a2 a4 a5 a6 a7).r1 == (0 : Int)) then (bif (m_W9_alive).ok then ⟨true, (m_W9_alive).r0⟩ else ⟨false, false⟩) else (bif ((m_delay_Of a0 a1 a2 a4 a5 a6 a7).r1 == (16 : Int)) then (bif (m_W9_alive).ok then ⟨true, (m_W9_alive).r0⟩ else ⟨false, false⟩) else ⟨true, false⟩)) else ⟨true, false⟩)) else ⟨true, false⟩)) else (bif ((m_delay_Of a0 a1 a3 a4 a5 a6 a7).r1 != (0 : Int)) then (bif ((m_delay_Of a0 a1 a2 a3 a5 a6 a7).r1 == (0 : Int)) then (bif ((m_delay_Of a0 a1 a3 a4 a5 a6 a7).r1 == (0 : Int)) then (bif ((m_delay_Of a0 a1 a2 a4 a5 a6 a7).r1 == (0 : Int)) then (bif (m_W9_alive).ok then ⟨true, (m_W9_alive).r0⟩ else ⟨false, false⟩) else (bif ((m_delay_Of a0 a1 a2 a4 a5 a6 a7).r1 == (16 : Int)) then (bif (m_W9_alive).ok then ⟨true, (m_W9_alive).r0⟩ else ⟨false, false⟩) else ⟨true, false⟩)) else (bif ((m_delay_Of a0 a1 a3 a4 a5 a6 a7).r1 == (16 : Int)) then (bif ((m_delay_Of a0 a1 a2 a4 a5 a6 a7).r1 == (0 : Int)) then (bif (m_W9_alive).ok then ⟨true, (m_W9_alive).r0⟩ else ⟨false, false⟩) else (bif ((m_delay_Of a0 a1 a2 a4 a5 a6 a7).r1 == (16 : Int)) then (bif (m_W9_alive).ok then ⟨true, (m_W9_alive).r0⟩ else ⟨false, false⟩) else ⟨true, false⟩)) else ⟨true, false⟩)) else (bif ((m_delay_Of a0 a1 a2 a3 a5 a6 a7).r1 == (16 : Int)) then (bif ((m_delay_Of a0 a1 a3 a4 a5 a6 a7).r1 == (0 : Int)) then (bif ((m_delay_Of a0 a1 a2 a4 a5 a6 a7).r1 == (0 : Int)) then (bif (m_W9_alive).ok then ⟨true, (m_W9_alive).r0⟩ else ⟨false, false⟩) else (bif ((m_delay_Of a0 a1 a2 a4 a5 a6 a7).r1 == (16 : Int)) then (bif (m_W9_alive).ok then ⟨true, (m_W9_alive).r0⟩ else ⟨false, false⟩) else ⟨true, false⟩)) else (bif ((m_delay_Of a0 a1 a3 a4 a5 a6 a7).r1 == (16 : Int)) then (bif ((m_delay_Of a0 a1 a2 a4 a5 a6 a7).r1 == (0 : Int)) then (bif (m_W9_alive).ok then ⟨true, (m_W9_alive).r0⟩ else ⟨false, false⟩) else (bif ((m_delay_Of a0 a1 a2 a4 a5 a6 a7).r1 == (16 : Int)) then (bif (m_W9_alive).ok then ⟨true, (m_W9_alive).r0⟩ else ⟨false, false⟩) else ⟨true, false⟩)) else ⟨true, false⟩)) else ⟨true, false⟩)) else (bif ((m_delay_Of a0 a1 a2 a4 a5 a6 a7).r1 != (0 : Int)) then (bif ((m_delay_Of a0 a1 a2 a3 a5 a6 a7).r1 == (0 : Int)) then (bif ((m_delay_Of a0 a1 a3 a4 a5 a6 a7).r1 == (0 : Int)) then (bif ((m_delay_Of a0 a1 a2 a4 a5 a6 a7).r1 == (0 : Int)) then (bif (m_W9_alive).ok then ⟨true, (m_W9_alive).r0⟩ else ⟨false, false⟩) else (bif ((m_delay_Of a0 a1 a2 a4 a5 a6 a7).r1 == (16 : Int)) then (bif (m_W9_alive).ok then ⟨true, (m_W9_alive).r0⟩ else ⟨false, false⟩) else ⟨true, false⟩)) else (bif ((m_delay_Of a0 a1 a3 a4 a5 a6 a7).r1 == (16 : Int)) then (bif ((m_delay_Of a0 a1 a2 a4 a5 a6 a7).r1 == (0 : Int)) then (bif (m_W9_alive).ok then ⟨true, (m_W9_alive).r0⟩ else ⟨false, false⟩) else (bif ((m_delay_Of a0 a1 a2 a4 a5 a6 a7).r1 == (16 : Int)) then (bif (m_W9_alive).ok then ⟨true, (m_W9_alive).r0⟩ else ⟨false, false⟩) else ⟨true, false⟩)) else ⟨true, false⟩)) else (bif ((m_delay_Of a0 a1 a2 a3 a5 a6 a7).r1 == (16 : Int)) then (bif ((m_delay_Of a0 a1 a3 a4 a5 a6 a7).r1 == (0 : Int)) then (bif ((m_delay_Of a0 a1 a2 a4 a5 a6 a7).r1 == (0 : Int)) then (bif (m_W9_alive).ok then ⟨true, (m_W9_alive).r0⟩ else ⟨false, false⟩) else (bif ((m_delay_Of a0 a1 a2 a4 a5 a6 a7).r1 == (16 : Int)) then (bif (m_W9_alive).ok then ⟨true, (m_W9_alive).r0⟩ else ⟨false, false⟩) else ⟨true, false⟩)) else (bif ((m_delay_Of a0 a1 a3 a4 a5 a6 a7).r1 == (16 : Int)) then (bif ((m_delay_Of a0 a1 a2 a4 a5 a6 a7).r1 == (0 : Int)) then (bif (m_W9_alive).ok then ⟨true, (m_W9_alive).r0⟩ else ⟨false, false⟩) else (bif ((m_delay_Of a0 a1 a2 a4 a5 a6 a7).r1 == (16 : Int)) then (bif (m_W9_alive).ok then ⟨true, (m_W9_alive).r0⟩ else ⟨false, false⟩) else ⟨true, false⟩)) else ⟨true, false⟩)) else ⟨true, false⟩)) else (bif ((addS ⟨(((m_delay_Of a0 a1 a2 a3 a5 a6 a7).r0).lo), (((m_delay_Of a0 a1 a2 a3 a5 a6 a7).r0).hi)⟩ ⟨(((m_delay_Of a0 a1 a3 a4 a5 a6 a7).r0).lo), (((m_delay_Of a0 a1 a3 a4 a5 a6 a7).r0).hi)⟩).2 != (0 : Int)) then (bif (m_W9_alive).ok then ⟨true, (m_W9_alive).r0⟩ else ⟨false, false⟩) else (bif (commonB ((addS ⟨(((m_delay_Of a0 a1 a2 a3 a5 a6 a7).r0).lo), (((m_delay_Of a0 a1 a2 a3 a5 a6 a7).r0).hi)⟩ ⟨(((m_delay_Of a0 a1 a3 a4 a5 a6 a7).r0).lo), (((m_delay_Of a0 a1 a3 a4 a5 a6 a7).r0).hi)⟩).1) ((m_delay_Of a0 a1 a2 a4 a5 a6 a7).r0)) then (bif (m_W9_alive).ok then ⟨true, (m_W9_alive).r0⟩ else ⟨false, false⟩) else ⟨true, false⟩)))))))) else (bif ((m_delay_Drift a0 a1 a2 a3 a5 a6 (720 : Int) a7).r1 == (0 : Int)) then (bif decide ((0 : Int) < ((m_delay_Drift a0 a1 a2 a3 a5 a6 (720 : Int) a7).r0).lo) then ⟨true, false⟩ else (bif decide (((m_delay_Drift a0 a1 a2 a3 a5 a6 (720 : Int) a7).r0).hi < (0 : Int)) then ⟨true, false⟩ else (bif ((m_delay_Drift a0 a1 a2 a3 a5 a6 (720 : Int) a7).r1 != (0 : Int)) then (bif ((m_delay_Drift a0 a1 a2 a3 a5 a6 (720 : Int) a7).r1 != (16 : Int)) then ⟨true, false⟩ else (bif ((m_delay_Of a0 a1 a2 a3 a5 a6 a7).r1 != (0 : Int)) then (bif ((m_delay_Of a0 a1 a2 a3 a5 a6 a7).r1 == (0 : Int)) then (bif ((m_delay_Of a0 a1 a3 a4 a5 a6 a7).r1 == (0 : Int)) then (bif ((m_delay_Of a0 a1 a2 a4 a5 a6 a7).r1 == (0 : Int)) then (bif (m_W9_alive).ok then ⟨true, (m_W9_alive).r0⟩ else ⟨false, false⟩) else (bif ((m_delay_Of a0 a1 a2 a4 a5 a6 a7).r1 == (16 : Int)) then (bif (m_W9_alive).ok then ⟨true, (m_W9_alive).r0⟩ else ⟨false, false⟩) else ⟨true, false⟩)) else (bif ((m_delay_Of a0 a1 a3 a4 a5 a6 a7).r1 == (16 : Int)) then (bif ((m_delay_Of a0 a1 a2 a4 a5 a6 a7).r1 == (0 : Int)) then (bif (m_W9_alive).ok then ⟨true, (m_W9_alive).r0⟩ else ⟨false, false⟩) else (bif ((m_delay_Of a0 a1 a2 a4 a5 a6 a7).r1 == (16 : Int)) then (bif (m_W9_alive).ok then ⟨true, (m_W9_alive).r0⟩ else ⟨false, false⟩) else ⟨true, false⟩)) else ⟨true, false⟩)) else (bif ((m_delay_Of a0 a1 a2 a3 a5 a6 a7).r1 == (16 : Int)) then (bif ((m_delay_Of a0 a1 a3 a4 a5 a6 a7).r1 == (0 : Int)) then (bif ((m_delay_Of a0 a1 a2 a4 a5 a6 a7).r1 == (0 : Int)) then (bif (m_W9_alive).ok then ⟨true, (m_W9_alive).r0⟩ else ⟨false, false⟩) else (bif ((m_delay_Of a0 a1 a2 a4 a5 a6 a7).r1 == (16 : Int)) then (bif (m_W9_alive).ok then ⟨true, (m_W9_alive).r0⟩ else ⟨false, false⟩) else ⟨true, false⟩)) else (bif ((m_delay_Of a0 a1 a3 a4 a5 a6 a7).r1 == (16 : Int)) then (bif ((m_delay_Of a0 a1 a2 a4 a5 a6 a7).r1 == (0 : Int)) then (bif (m_W9_alive).ok then ⟨true, (m_W9_alive).r0⟩ else ⟨false, false⟩) else (bif ((m_delay_Of a0 a1 a2 a4 a5 a6 a7).r1 == (16 : Int)) then (bif (m_W9_alive).ok then ⟨true, (m_W9_alive).r0⟩ else ⟨false, false⟩) else ⟨true, false⟩)) else ⟨true, false⟩)) else ⟨true, false⟩)) else (bif ((m_delay_Of a0 a1 a3 a4 a5 a6 a7).r1 != (0 : Int)) then (bif ((m_delay_Of a0 a1 a2 a3 a5 a6 a7).r1 == (0 : Int)) then (bif ((m_delay_Of a0 a1 a3 a4 a5 a6 a7).r1 == (0 : Int)) then (bif ((m_delay_Of a0 a1 a2 a4 a5 a6 a7).r1 == (0 : Int)) then (bif (m_W9_alive).ok then ⟨true, (m_W9_alive).r0⟩ else ⟨false, false⟩) else (bif ((m_delay_Of a0 a1 a2 a4 a5 a6 a7).r1 == (16 : Int)) then (bif (m_W9_alive).ok then ⟨true, (m_W9_alive).r0⟩ else ⟨false, false⟩) else ⟨true, false⟩)) else (bif ((m_delay_Of a0 a1 a3 a4 a5 a6 a7).r1 == (16 : Int)) then (bif ((m_delay_Of a0 a1 a2 a4 a5 a6 a7).r1 == (0 : Int)) then (bif (m_W9_alive).ok then ⟨true, (m_W9_alive).r0⟩ else ⟨false, false⟩) else (bif ((m_delay_Of a0 a1 a2 a4 a5 a6 a7).r1 == (16 : Int)) then (bif (m_W9_alive).ok then ⟨true, (m_W9_alive).r0⟩ else ⟨false, false⟩) else ⟨true, false⟩)) else ⟨true, false⟩)) else (bif ((m_delay_Of a0 a1 a2 a3 a5 a6 a7).r1 == (16 : Int)) then (bif ((m_delay_Of a0 a1 a3 a4 a5 a6 a7).r1 == (0 : Int)) then (bif ((m_delay_Of a0 a1 a2 a4 a5 a6 a7).r1 == (0 : Int)) then (bif (m_W9_alive).ok then ⟨true, (m_W9_alive).r0⟩ else ⟨false, false⟩) else (bif ((m_delay_Of a0 a1 a2 a4 a5 a6 a7).r1 == (16 : Int)) then (bif (m_W9_alive).ok then ⟨true, (m_W9_alive).r0⟩ else ⟨false, false⟩) else ⟨true, false⟩)) else (bif ((m_delay_Of a0 a1 a3 a4 a5 a6 a7).r1 == (16 : Int)) then (bif ((m_delay_Of a0 a1 a2 a4 a5 a6 a7).r1 == (0 : Int)) then (bif (m_W9_alive).ok then ⟨true, (m_W9_alive).r0⟩ else ⟨false, false⟩) else (bif ((m_delay_Of a0 a1 a2 a4 a5 a6 a7).r1 == (16 : Int)) then (bif (m_W9_alive).ok then ⟨true, (m_W9_alive).r0⟩ else ⟨false, false⟩) else ⟨true, false⟩)) else ⟨true, false⟩)) else ⟨true, false⟩)) else (bif ((m_delay_Of a0 a1 a2 a4 a5 a6 a7).r1 != (0 : Int)) then (bif ((m_delay_Of a0 a1 a2 a3 a5 a6 a7).r1 == (0 : Int)) then (bif ((m_delay_Of a0 a1 a3 a4 a5 a6 a7).r1 == (0 : Int)) then (bif ((m_delay_Of a0 a1 a2 a4 a5 a6 a7).r1 == (0 : Int)) then (bif (m_W9_alive).ok then ⟨true, (m_W9_alive).r0⟩ else ⟨false, false⟩) else (bif ((m_delay_Of a0 a1 a2 a4 a5 a6 a7).r1 == (16 : Int)) then (bif (m_W9_alive).ok then ⟨true, (m_W9_alive).r0⟩ else ⟨false, false⟩) else ⟨true, false⟩)) else (bif ((m_delay_Of a0 a1 a3 a4 a5 a6 a7).r1 == (16 : Int)) then (bif ((m_delay_Of a0 a1 a2 a4 a5 a6 a7).r1 == (0 : Int)) then (bif (m_W9_alive).ok then ⟨true, (m_W9_alive).r0⟩ else ⟨false, false⟩) else (bif ((m_delay_Of a0 a1 a2 a4 a5 a6 a7).r1 == (16 : Int)) then (bif (m_W9_alive).ok then ⟨true, (m_W9_alive).r0⟩ else ⟨false, false⟩) else ⟨true, false⟩)) else ⟨true, false⟩)) else (bif ((m_delay_Of a0 a1 a2 a3 a5 a6 a7).r1 == (16 : Int)) then (bif ((m_delay_Of a0 a1 a3 a4 a5 a6 a7).r1 == (0 : Int)) then (bif ((m_delay_Of a0 a1 a2 a4 a5 a6 a7).r1 == (0 : Int)) then (bif (m_W9_alive).ok then ⟨true, (m_W9_alive).r0⟩ else ⟨false, false⟩) else (bif ((m_delay_Of a0 a1 a2 a4 a5 a6 a7).r1 == (16 : Int)) then (bif (m_W9_alive).ok then ⟨true, (m_W9_alive).r0⟩ else ⟨false, false⟩) else ⟨true, false⟩)) else (bif ((m_delay_Of a0 a1 a3 a4 a5 a6 a7).r1 == (16 : Int)) then (bif ((m_delay_Of a0 a1 a2 a4 a5 a6 a7).r1 == (0 : Int)) then (bif (m_W9_alive).ok then ⟨true, (m_W9_alive).r0⟩ else ⟨false, false⟩) else (bif ((m_delay_Of a0 a1 a2 a4 a5 a6 a7).r1 == (16 : Int)) then (bif (m_W9_alive).ok then ⟨true, (m_W9_alive).r0⟩ else ⟨false, false⟩) else ⟨true, false⟩)) else ⟨true, false⟩)) else ⟨true, false⟩)) else (bif ((addS ⟨(((m_delay_Of a0 a1 a2 a3 a5 a6 a7).r0).lo), (((m_delay_Of a0 a1 a2 a3 a5 a6 a7).r0).hi)⟩ ⟨(((m_delay_Of a0 a1 a3 a4 a5 a6 a7).r0).lo), (((m_delay_Of a0 a1 a3 a4 a5 a6 a7).r0).hi)⟩).2 != (0 : Int)) then (bif (m_W9_alive).ok then ⟨true, (m_W9_alive).r0⟩ else ⟨false, false⟩) else (bif (commonB ((addS ⟨(((m_delay_Of a0 a1 a2 a3 a5 a6 a7).r0).lo), (((m_delay_Of a0 a1 a2 a3 a5 a6 a7).r0).hi)⟩ ⟨(((m_delay_Of a0 a1 a3 a4 a5 a6 a7).r0).lo), (((m_delay_Of a0 a1 a3 a4 a5 a6 a7).r0).hi)⟩).1) ((m_delay_Of a0 a1 a2 a4 a5 a6 a7).r0)) then (bif (m_W9_alive).ok then ⟨true, (m_W9_alive).r0⟩ else ⟨false, false⟩) else ⟨true, false⟩)))))) else (bif ((m_delay_Of a0 a1 a2 a3 a5 a6 a7).r1 != (0 : Int)) then (bif ((m_delay_Of a0 a1 a2 a3 a5 a6 a7).r1 == (0 : Int)) then (bif ((m_delay_Of a0 a1 a3 a4 a5 a6 a7).r1 == (0 : Int)) then (bif ((m_delay_Of a0 a1 a2 a4 a5 a6 a7).r1 == (0 : Int)) then (bif (m_W9_alive).ok then ⟨true, (m_W9_alive).r0⟩ else ⟨false, false⟩) else (bif ((m_delay_Of a0 a1 a2 a4 a5 a6 a7).r1 == (16 : Int)) then (bif (m_W9_alive).ok then ⟨true, (m_W9_alive).r0⟩ else ⟨false, false⟩) else ⟨true, false⟩)) else (bif ((m_delay_Of a0 a1 a3 a4 a5 a6 a7).r1 == (16 : Int)) then (bif ((m_delay_Of a0 a1 a2 a4 a5 a6 a7).r1 == (0 : Int)) then (bif (m_W9_alive).ok then ⟨true, (m_W9_alive).r0⟩ else ⟨false, false⟩) else (bif ((m_delay_Of a0 a1 a2 a4 a5 a6 a7).r1 == (16 : Int)) then (bif (m_W9_alive).ok then ⟨true, (m_W9_alive).r0⟩ else ⟨false, false⟩) else ⟨true, false⟩)) else ⟨true, false⟩)) else (bif ((m_delay_Of a0 a1 a2 a3 a5 a6 a7).r1 == (16 : Int)) then (bif ((m_delay_Of a0 a1 a3 a4 a5 a6 a7).r1 == (0 : Int)) then (bif ((m_delay_Of a0 a1 a2 a4 a5 a6 a7).r1 == (0 : Int)) then (bif (m_W9_alive).ok then ⟨true, (m_W9_alive).r0⟩ else ⟨false, false⟩) else (bif ((m_delay_Of a0 a1 a2 a4 a5 a6 a7).r1 == (16 : Int)) then (bif (m_W9_alive).ok then ⟨true, (m_W9_alive).r0⟩ else ⟨false, false⟩) else ⟨true, false⟩)) else (bif ((m_delay_Of a0 a1 a3 a4 a5 a6 a7).r1 == (16 : Int)) then (bif ((m_delay_Of a0 a1 a2 a4 a5 a6 a7).r1 == (0 : Int)) then (bif (m_W9_alive).ok then ⟨true, (m_W9_alive).r0⟩ else ⟨false, false⟩) else (bif ((m_delay_Of a0 a1 a2 a4 a5 a6 a7).r1 == (16 : Int)) then (bif (m_W9_alive).ok then ⟨true, (m_W9_alive).r0⟩ else ⟨false, false⟩) else ⟨true, false⟩)) else ⟨true, false⟩)) else ⟨true, false⟩)) else (bif ((m_delay_Of a0 a1 a3 a4 a5 a6 a7).r1 != (0 : Int)) then (bif ((m_delay_Of a0 a1 a2 a3 a5 a6 a7).r1 == (0 : Int)) then (bif ((m_delay_Of a0 a1 a3 a4 a5 a6 a7).r1 == (0 : Int)) then (bif ((m_delay_Of a0 a1 a2 a4 a5 a6 a7).r1 == (0 : Int)) then (bif (m_W9_alive).ok then ⟨true, (m_W9_alive).r0⟩ else ⟨false, false⟩) else (bif ((m_delay_Of a0 a1 a2 a4 a5 a6 a7).r1 == (16 : Int)) then (bif (m_W9_alive).ok then ⟨true, (m_W9_alive).r0⟩ else ⟨false, false⟩) else ⟨true, false⟩)) else (bif ((m_delay_Of a0 a1 a3 a4 a5 a6 a7).r1 == (16 : Int)) then (bif ((m_delay_Of a0 a1 a2 a4 a5 a6 a7).r1 == (0 : Int)) then (bif (m_W9_alive).ok then ⟨true, (m_W9_alive).r0⟩ else ⟨false, false⟩) else (bif ((m_delay_Of a0 a1 a2 a4 a5 a6 a7).r1 == (16 : Int)) then (bif (m_W9_alive).ok then ⟨true, (m_W9_alive).r0⟩ else ⟨false, false⟩) else ⟨true, false⟩)) else ⟨true, false⟩)) else (bif ((m_delay_Of a0 a1 a2 a3 a5 a6 a7).r1 == (16 : Int)) then (bif ((m_delay_Of a0 a1 a3 a4 a5 a6 a7).r1 == (0 : Int)) then (bif ((m_delay_Of a0 a1 a2 a4 a5 a6 a7).r1 == (0 : Int)) then (bif (m_W9_alive).ok then ⟨true, (m_W9_alive).r0⟩ else ⟨false, false⟩) else (bif ((m_delay_Of a0 a1 a2 a4 a5 a6 a7).r1 == (16 : Int)) then (bif (m_W9_alive).ok then ⟨true, (m_W9_alive).r0⟩ else ⟨false, false⟩) else ⟨true, false⟩)) else (bif ((m_delay_Of a0 a1 a3 a4 a5 a6 a7).r1 == (16 : Int)) then (bif ((m_delay_Of a0 a1 a2 a4 a5 a6 a7).r1 == (0 : Int)) then (bif (m_W9_alive).ok then ⟨true, (m_W9_alive).r0⟩ else ⟨false, false⟩) else (bif ((m_delay_Of a0 a1 a2 a4 a5 a6 a7).r1 == (16 : Int)) then (bif (m_W9_alive).ok then ⟨true, (m_W9_alive).r0⟩ else ⟨false, false⟩) else ⟨true, false⟩)) else ⟨true, false⟩)) else ⟨true, false⟩)) else (bif ((m_delay_Of a0 a1 a2 a4 a5 a6 a7).r1 != (0 : Int)) then (bif ((m_delay_Of a0 a1 a2 a3 a5 a6 a7).r1 == (0 : Int)) then (bif ((m_delay_Of a0 a1 a3 a4 a5 a6 a7).r1 == (0 : Int)) then (bif ((m_delay_Of a0 a1 a2 a4 a5 a6 a7).r1 == (0 : Int)) then (bif (m_W9_alive).ok then ⟨true, (m_W9_alive).r0⟩ else ⟨false, false⟩) else (bif ((m_delay_Of a0 a1 a2 a4 a5 a6 a7).r1 == (16 : Int)) then (bif (m_W9_alive).ok then ⟨true, (m_W9_alive).r0⟩ else ⟨false, false⟩) else ⟨true, false⟩)) else (bif ((m_delay_Of a0 a1 a3 a4 a5 a6 a7).r1 == (16 : Int)) then (bif ((m_delay_Of a0 a1 a2 a4 a5 a6 a7).r1 == (0 : Int)) then (bif (m_W9_alive).ok then ⟨true, (m_W9_alive).r0⟩ else ⟨false, false⟩) else (bif ((m_delay_Of a0 a1 a2 a4 a5 a6 a7).r1 == (16 : Int)) then (bif (m_W9_alive).ok then ⟨true, (m_W9_alive).r0⟩ else ⟨false, false⟩) else ⟨true, false⟩)) else ⟨true, false⟩)) else (bif ((m_delay_Of a0 a1 a2 a3 a5 a6 a7).r1 == (16 : Int)) then (bif ((m_delay_Of a0 a1 a3 a4 a5 a6 a7).r1 == (0 : Int)) then (bif ((m_delay_Of a0 a1 a2 a4 a5 a6 a7).r1 == (0 : Int)) then (bif (m_W9_alive).ok then ⟨true, (m_W9_alive).r0⟩ else ⟨false, false⟩) else (bif ((m_delay_Of a0 a1 a2 a4 a5 a6 a7).r1 == (16 : Int)) then (bif (m_W9_alive).ok then ⟨true, (m_W9_alive).r0⟩ else ⟨false, false⟩) else ⟨true, false⟩)) else (bif ((m_delay_Of a0 a1 a3 a4 a5 a6 a7).r1 == (16 : Int)) then (bif ((m_delay_Of a0 a1 a2 a4 a5 a6 a7).r1 == (0 : Int)) then (bif (m_W9_alive).ok then ⟨true, (m_W9_alive).r0⟩ else ⟨false, false⟩) else (bif ((m_delay_Of a0 a1 a2 a4 a5 a6 a7).r1 == (16 : Int)) then (bif (m_W9_alive).ok then ⟨true, (m_W9_alive).r0⟩ else ⟨false, false⟩) else ⟨true, false⟩)) else ⟨true, false⟩)) else ⟨true, false⟩)) else (bif ((addS ⟨(((m_delay_Of a0 a1 a2 a3 a5 a6 a7).r0).lo), (((m_delay_Of a0 a1 a2 a3 a5 a6 a7).r0).hi)⟩ ⟨(((m_delay_Of a0 a1 a3 a4 a5 a6 a7).r0).lo), (((m_delay_Of a0 a1 a3 a4 a5 a6 a7).r0).hi)⟩).2 != (0 : Int)) then (bif (m_W9_alive).ok then ⟨true, (m_W9_alive).r0⟩ else ⟨false, false⟩) else (bif (commonB ((addS ⟨(((m_delay_Of a0 a1 a2 a3 a5 a6 a7).r0).lo), (((m_delay_Of a0 a1 a2 a3 a5 a6 a7).r0).hi)⟩ ⟨(((m_delay_Of a0 a1 a3 a4 a5 a6 a7).r0).lo), (((m_delay_Of a0 a1 a3 a4 a5 a6 a7).r0).hi)⟩).1) ((m_delay_Of a0 a1 a2 a4 a5 a6 a7).r0)) then (bif (m_W9_alive).ok then ⟨true, (m_W9_alive).r0⟩ else ⟨false, false⟩) else ⟨true, false⟩)))))))) else (bif ((m_delay_Drift a0 a1 a2 a3 a5 a6 (720 : Int) a7).r1 != (0 : Int)) then (bif ((m_delay_Drift a0 a1 a2 a3 a5 a6 (720 : Int) a7).r1 != (16 : Int)) then ⟨true, false⟩ else (bif ((m_delay_Of a0 a1 a2 a3 a5 a6 a7).r1 != (0 : Int)) then (bif ((m_delay_Of a0 a1 a2 a3 a5 a6 a7).r1 == (0 : Int)) then (bif ((m_delay_Of a0 a1 a3 a4 a5 a6 a7).r1 == (0 : Int)) then (bif ((m_delay_Of a0 a1 a2 a4 a5 a6 a7).r1 == (0 : Int)) then (bif (m_W9_alive).ok then ⟨true, (m_W9_alive).r0⟩ else ⟨false, false⟩) else (bif ((m_delay_Of a0 a1 a2 a4 a5 a6 a7).r1 == (16 : Int)) then (bif (m_W9_alive).ok then ⟨true, (m_W9_alive).r0⟩ else ⟨false, false⟩) else ⟨true, false⟩)) else (bif ((m_delay_Of a0 a1 a3 a4 a5 a6 a7).r1 == (16 : Int)) then (bif ((m_delay_Of a0 a1 a2 a4 a5 a6 a7).r1 == (0 : Int)) then (bif (m_W9_alive).ok then ⟨true, (m_W9_alive).r0⟩ else ⟨false, false⟩) else (bif ((m_delay_Of a0 a1 a2 a4 a5 a6 a7).r1 == (16 : Int)) then (bif (m_W9_alive).ok then ⟨true, (m_W9_alive).r0⟩ else ⟨false, false⟩) else ⟨true, false⟩)) else ⟨true, false⟩)) else (bif ((m_delay_Of a0 a1 a2 a3 a5 a6 a7).r1 == (16 : Int)) then (bif ((m_delay_Of a0 a1 a3 a4 a5 a6 a7).r1 == (0 : Int)) then (bif ((m_delay_Of a0 a1 a2 a4 a5 a6 a7).r1 == (0 : Int)) then (bif (m_W9_alive).ok then ⟨true, (m_W9_alive).r0⟩ else ⟨false, false⟩) else (bif ((m_delay_Of a0 a1 a2 a4 a5 a6 a7).r1 == (16 : Int)) then (bif (m_W9_alive).ok then ⟨true, (m_W9_alive).r0⟩ else ⟨false, false⟩) else ⟨true, false⟩)) else (bif ((m_delay_Of a0 a1 a3 a4 a5 a6 a7).r1 == (16 : Int)) then (bif ((m_delay_Of a0 a1 a2 a4 a5 a6 a7).r1 == (0 : Int)) then (bif (m_W9_alive).ok then ⟨true, (m_W9_alive).r0⟩ else ⟨false, false⟩) else (bif ((m_delay_Of a0 a1 a2 a4 a5 a6 a7).r1 == (16 : Int)) then (bif (m_W9_alive).ok then ⟨true, (m_W9_alive).r0⟩ else ⟨false, false⟩) else ⟨true, false⟩)) else ⟨true, false⟩)) else ⟨true, false⟩)) else (bif ((m_delay_Of a0 a1 a3 a4 a5 a6 a7).r1 != (0 : Int)) then (bif ((m_delay_Of a0 a1 a2 a3 a5 a6 a7).r1 == (0 : Int)) then (bif ((m_delay_Of a0 a1 a3 a4 a5 a6 a7).r1 == (0 : Int)) then (bif ((m_delay_Of a0 a1 a2 a4 a5 a6 a7).r1 == (0 : Int)) then (bif (m_W9_alive).ok then ⟨true, (m_W9_alive).r0⟩ else ⟨false, false⟩) else (bif ((m_delay_Of a0 a1 a2 a4 a5 a6 a7).r1 == (16 : Int)) then (bif (m_W9_alive).ok then ⟨true, (m_W9_alive).r0⟩ else ⟨false, false⟩) else ⟨true, false⟩)) else (bif ((m_delay_Of a0 a1 a3 a4 a5 a6 a7).r1 == (16 : Int)) then (bif ((m_delay_Of a0 a1 a2 a4 a5 a6 a7).r1 == (0 : Int)) then (bif (m_W9_alive).ok then ⟨true, (m_W9_alive).r0⟩ else ⟨false, false⟩) else (bif ((m_delay_Of a0 a1 a2 a4 a5 a6 a7).r1 == (16 : Int)) then (bif (m_W9_alive).ok then ⟨true, (m_W9_alive).r0⟩ else ⟨false, false⟩) else ⟨true, false⟩)) else ⟨true, false⟩)) else (bif ((m_delay_Of a0 a1 a2 a3 a5 a6 a7).r1 == (16 : Int)) then (bif ((m_delay_Of a0 a1 a3 a4 a5 a6 a7).r1 == (0 : Int)) then (bif ((m_delay_Of a0 a1 a2 a4 a5 a6 a7).r1 == (0 : Int)) then (bif (m_W9_alive).ok then ⟨true, (m_W9_alive).r0⟩ else ⟨false, false⟩) else (bif ((m_delay_Of a0 a1 a2 a4 a5 a6 a7).r1 == (16 : Int)) then (bif (m_W9_alive).ok then ⟨true, (m_W9_alive).r0⟩ else ⟨false, false⟩) else ⟨true, false⟩)) else (bif ((m_delay_Of a0 a1 a3 a4 a5 a6 a7).r1 == (16 : Int)) then (bif ((m_delay_Of a0 a1 a2 a4 a5 a6 a7).r1 == (0 : Int)) then (bif (m_W9_alive).ok then ⟨true, (m_W9_alive).r0⟩ else ⟨false, false⟩) else (bif ((m_delay_Of a0 a1 a2 a4 a5 a6 a7).r1 == (16 : Int)) then (bif (m_W9_alive).ok then ⟨true, (m_W9_alive).r0⟩ else ⟨false, false⟩) else ⟨true, false⟩)) else ⟨true, false⟩)) else ⟨true, false⟩)) else (bif ((m_delay_Of a0 a1 a2 a4 a5 a6 a7).r1 != (0 : Int)) then (bif ((m_delay_Of a0 a1 a2 a3 a5 a6 a7).r1 == (0 : Int)) then (bif ((m_delay_Of a0 a1 a3 a4 a5 a6 a7).r1 == (0 : Int)) then (bif ((m_delay_Of a0 a1 a2 a4 a5 a6 a7).r1 == (0 : Int)) then (bif (m_W9_alive).ok then ⟨true, (m_W9_alive).r0⟩ else ⟨false, false⟩) else (bif ((m_delay_Of a0 a1 a2 a4 a5 a6 a7).r1 == (16 : Int)) then (bif (m_W9_alive).ok then ⟨true, (m_W9_alive).r0⟩ else ⟨false, false⟩) else ⟨true, false⟩)) else (bif ((m_delay_Of a0 a1 a3 a4 a5 a6 a7).r1 == (16 : Int)) then (bif ((m_delay_Of a0 a1 a2 a4 a5 a6 a7).r1 == (0 : Int)) then (bif (m_W9_alive).ok then ⟨true, (m_W9_alive).r0⟩ else ⟨false, false⟩) else (bif ((m_delay_Of a0 a1 a2 a4 a5 a6 a7).r1 == (16 : Int)) then (bif (m_W9_alive).ok then ⟨true, (m_W9_alive).r0⟩ else ⟨false, false⟩) else ⟨true, false⟩)) else ⟨true, false⟩)) else (bif ((m_delay_Of a0 a1 a2 a3 a5 a6 a7).r1 == (16 : Int)) then (bif ((m_delay_Of a0 a1 a3 a4 a5 a6 a7).r1 == (0 : Int)) then (bif ((m_delay_Of a0 a1 a2 a4 a5 a6 a7).r1 == (0 : Int)) then (bif (m_W9_alive).ok then ⟨true, (m_W9_alive).r0⟩ else ⟨false, false⟩) else (bif ((m_delay_Of a0 a1 a2 a4 a5 a6 a7).r1 == (16 : Int)) then (bif (m_W9_alive).ok then ⟨true, (m_W9_alive).r0⟩ else ⟨false, false⟩) else ⟨true, false⟩)) else (bif ((m_delay_Of a0 a1 a3 a4 a5 a6 a7).r1 == (16 : Int)) then (bif ((m_delay_Of a0 a1 a2 a4 a5 a6 a7).r1 == (0 : Int)) then (bif (m_W9_alive).ok then ⟨true, (m_W9_alive).r0⟩ else ⟨false, false⟩) else (bif ((m_delay_Of a0 a1 a2 a4 a5 a6 a7).r1 == (16 : Int)) then (bif (m_W9_alive).ok then ⟨true, (m_W9_alive).r0⟩ else ⟨false, false⟩) else ⟨true, false⟩)) else ⟨true, false⟩)) else ⟨true, false⟩)) else (bif ((addS ⟨(((m_delay_Of a0 a1 a2 a3 a5 a6 a7).r0).lo), (((m_delay_Of a0 a1 a2 a3 a5 a6 a7).r0).hi)⟩ ⟨(((m_delay_Of a0 a1 a3 a4 a5 a6 a7).r0).lo), (((m_delay_Of a0 a1 a3 a4 a5 a6 a7).r0).hi)⟩).2 != (0 : Int)) then (bif (m_W9_alive).ok then ⟨true, (m_W9_alive).r0⟩ else ⟨false, false⟩) else (bif (commonB ((addS ⟨(((m_delay_Of a0 a1 a2 a3 a5 a6 a7).r0).lo), (((m_delay_Of a0 a1 a2 a3 a5 a6 a7).r0).hi)⟩ ⟨(((m_delay_Of a0 a1 a3 a4 a5 a6 a7).r0).lo), (((m_delay_Of a0 a1 a3 a4 a5 a6 a7).r0).hi)⟩).1) ((m_delay_Of a0 a1 a2 a4 a5 a6 a7).r0)) then (bif (m_W9_alive).ok then ⟨true, (m_W9_alive).r0⟩ else ⟨false, false⟩) else ⟨true, false⟩)))))) else (bif ((m_delay_Of a0 a1 a2 a3 a5 a6 a7).r1 != (0 : Int)) then (bif ((m_delay_Of a0 a1 a2 a3 a5 a6 a7).r1 == (0 : Int)) then (bif ((m_delay_Of a0 a1 a3 a4 a5 a6 a7).r1 == (0 : Int)) then (bif ((m_delay_Of a0 a1 a2 a4 a5 a6 a7).r1 == (0 : Int)) then (bif (m_W9_alive).ok then ⟨true, (m_W9_alive).r0⟩ else ⟨false, false⟩) else (bif ((m_delay_Of a0 a1 a2 a4 a5 a6 a7).r1 == (16 : Int)) then (bif (m_W9_alive).ok then ⟨true, (m_W9_alive).r0⟩ else ⟨false, false⟩) else ⟨true, false⟩)) else (bif ((m_delay_Of a0 a1 a3 a4 a5 a6 a7).r1 == (16 : Int)) then (bif ((m_delay_Of a0 a1 a2 a4 a5 a6 a7).r1 == (0 : Int)) then (bif (m_W9_alive).ok then ⟨true, (m_W9_alive).r0⟩ else ⟨false, false⟩) else (bif ((m_delay_Of a0 a1 a2 a4 a5 a6 a7).r1 == (16 : Int)) then (bif (m_W9_alive).ok then ⟨true, (m_W9_alive).r0⟩ else ⟨false, false⟩) else ⟨true, false⟩)) else ⟨true, false⟩)) else (bif ((m_delay_Of a0 a1 a2 a3 a5 a6 a7).r1 == (16 : Int)) then (bif ((m_delay_Of a0 a1 a3 a4 a5 a6 a7).r1 == (0 : Int)) then (bif ((m_delay_Of a0 a1 a2 a4 a5 a6 a7).r1 == (0 : Int)) then (bif (m_W9_alive).ok then ⟨true, (m_W9_alive).r0⟩ else ⟨false, false⟩) else (bif ((m_delay_Of a0 a1 a2 a4 a5 a6 a7).r1 == (16 : Int)) then (bif (m_W9_alive).ok then ⟨true, (m_W9_alive).r0⟩ else ⟨false, false⟩) else ⟨true, false⟩)) else (bif ((m_delay_Of a0 a1 a3 a4 a5 a6 a7).r1 == (16 : Int)) then (bif ((m_delay_Of a0 a1 a2 a4 a5 a6 a7).r1 == (0 : Int)) then (bif (m_W9_alive).ok then ⟨true, (m_W9_alive).r0⟩ else ⟨false, false⟩) else (bif ((m_delay_Of a0 a1 a2 a4 a5 a6 a7).r1 == (16 : Int)) then (bif (m_W9_alive).ok then ⟨true, (m_W9_alive).r0⟩ else ⟨false, false⟩) else ⟨true, false⟩)) else ⟨true, false⟩)) else ⟨true, false⟩)) else (bif ((m_delay_Of a0 a1 a3 a4 a5 a6 a7).r1 != (0 : Int)) then (bif ((m_delay_Of a0 a1 a2 a3 a5 a6 a7).r1 == (0 : Int)) then (bif ((m_delay_Of a0 a1 a3 a4 a5 a6 a7).r1 == (0 : Int)) then (bif ((m_delay_Of a0 a1 a2 a4 a5 a6 a7).r1 == (0 : Int)) then (bif (m_W9_alive).ok then ⟨true, (m_W9_alive).r0⟩ else ⟨false, false⟩) else (bif ((m_delay_Of a0 a1 a2 a4 a5 a6 a7).r1 == (16 : Int)) then (bif (m_W9_alive).ok then ⟨true, (m_W9_alive).r0⟩ else ⟨false, false⟩) else ⟨true, false⟩)) else (bif ((m_delay_Of a0 a1 a3 a4 a5 a6 a7).r1 == (16 : Int)) then (bif ((m_delay_Of a0 a1 a2 a4 a5 a6 a7).r1 == (0 : Int)) then (bif (m_W9_alive).ok then ⟨true, (m_W9_alive).r0⟩ else ⟨false, false⟩) else (bif ((m_delay_Of a0 a1 a2 a4 a5 a6 a7).r1 == (16 : Int)) then (bif (m_W9_alive).ok then ⟨true, (m_W9_alive).r0⟩ else ⟨false, false⟩) else ⟨true, false⟩)) else ⟨true, false⟩)) else (bif ((m_delay_Of a0 a1 a2 a3 a5 a6 a7).r1 == (16 : Int)) then (bif ((m_delay_Of a0 a1 a3 a4 a5 a6 a7).r1 == (0 : Int)) then (bif ((m_delay_Of a0 a1 a2 a4 a5 a6 a7).r1 == (0 : Int)) then (bif (m_W9_alive).ok then ⟨true, (m_W9_alive).r0⟩ else ⟨false, false⟩) else (bif ((m_delay_Of a0 a1 a2 a4 a5 a6 a7).r1 == (16 : Int)) then (bif (m_W9_alive).ok then ⟨true, (m_W9_alive).r0⟩ else ⟨false, false⟩) else ⟨true, false⟩)) else (bif ((m_delay_Of a0 a1 a3 a4 a5 a6 a7).r1 == (16 : Int)) then (bif ((m_delay_Of a0 a1 a2 a4 a5 a6 a7).r1 == (0 : Int)) then (bif (m_W9_alive).ok then ⟨true, (m_W9_alive).r0⟩ else ⟨false, false⟩) else (bif ((m_delay_Of a0 a1 a2 a4 a5 a6 a7).r1 == (16 : Int)) then (bif (m_W9_alive).ok then ⟨true, (m_W9_alive).r0⟩ else ⟨false, false⟩) else ⟨true, false⟩)) else ⟨true, false⟩)) else ⟨true, false⟩)) else (bif ((m_delay_Of a0 a1 a2 a4 a5 a6 a7).r1 != (0 : Int)) then (bif ((m_delay_Of a0 a1 a2 a3 a5 a6 a7).r1 == (0 : Int)) then (bif ((m_delay_Of a0 a1 a3 a4 a5 a6 a7).r1 == (0 : Int)) then (bif ((m_delay_Of a0 a1 a2 a4 a5 a6 a7).r1 == (0 : Int)) then (bif (m_W9_alive).ok then ⟨true, (m_W9_alive).r0⟩ else ⟨false, false⟩) else (bif ((m_delay_Of a0 a1 a2 a4 a5 a6 a7).r1 == (16 : Int)) then (bif (m_W9_alive).ok then ⟨true, (m_W9_alive).r0⟩ else ⟨false, false⟩) else ⟨true, false⟩)) else (bif ((m_delay_Of a0 a1 a3 a4 a5 a6 a7).r1 == (16 : Int)) then (bif ((m_delay_Of a0 a1 a2 a4 a5 a6 a7).r1 == (0 : Int)) then (bif (m_W9_alive).ok then ⟨true, (m_W9_alive).r0⟩ else ⟨false, false⟩) else (bif ((m_delay_Of a0 a1 a2 a4 a5 a6 a7).r1 == (16 : Int)) then (bif (m_W9_alive).ok then ⟨true, (m_W9_alive).r0⟩ else ⟨false, false⟩) else ⟨true, false⟩)) else ⟨true, false⟩)) else (bif ((m_delay_Of a0 a1 a2 a3 a5 a6 a7).r1 == (16 : Int)) then (bif ((m_delay_Of a0 a1 a3 a4 a5 a6 a7).r1 == (0 : Int)) then (bif ((m_delay_Of a0 a1 a2 a4 a5 a6 a7).r1 == (0 : Int)) then (bif (m_W9_alive).ok then ⟨true, (m_W9_alive).r0⟩ else ⟨false, false⟩) else (bif ((m_delay_Of a0 a1 a2 a4 a5 a6 a7).r1 == (16 : Int)) then (bif (m_W9_alive).ok then ⟨true, (m_W9_alive).r0⟩ else ⟨false, false⟩) else ⟨true, false⟩)) else (bif ((m_delay_Of a0 a1 a3 a4 a5 a6 a7).r1 == (16 : Int)) then (bif ((m_delay_Of a0 a1 a2 a4 a5 a6 a7).r1 == (0 : Int)) then (bif (m_W9_alive).ok then ⟨true, (m_W9_alive).r0⟩ else ⟨false, false⟩) else (bif ((m_delay_Of a0 a1 a2 a4 a5 a6 a7).r1 == (16 : Int)) then (bif (m_W9_alive).ok then ⟨true, (m_W9_alive).r0⟩ else ⟨false, false⟩) else ⟨true, false⟩)) else ⟨true, false⟩)) else ⟨true, false⟩)) else (bif ((addS ⟨(((m_delay_Of a0 a1 a2 a3 a5 a6 a7).r0).lo), (((m_delay_Of a0 a1 a2 a3 a5 a6 a7).r0).hi)⟩ ⟨(((m_delay_Of a0 a1 a3 a4 a5 a6 a7).r0).lo), (((m_delay_Of a0 a1 a3 a4 a5 a6 a7).r0).hi)⟩).2 != (0 : Int)) then (bif (m_W9_alive).ok then ⟨true, (m_W9_alive).r0⟩ else ⟨false, false⟩) else (bif (commonB ((addS ⟨(((m_delay_Of a0 a1 a2 a3 a5 a6 a7).r0).lo), (((m_delay_Of a0 a1 a2 a3 a5 a6 a7).r0).hi)⟩ ⟨(((m_delay_Of a0 a1 a3 a4 a5 a6 a7).r0).lo), (((m_delay_Of a0 a1 a3 a4 a5 a6 a7).r0).hi)⟩).1) ((m_delay_Of a0 a1 a2 a4 a5 a6 a7).r0)) then (bif (m_W9_alive).ok then ⟨true, (m_W9_alive).r0⟩ else ⟨false, false⟩) else ⟨true, false⟩))))))))) else ⟨false, false⟩) else ⟨false, false⟩) else ⟨false, false⟩) else ⟨false, false⟩) else ⟨false, false⟩)))))))) else ⟨false, false⟩
def F_W9_DelayCloses (_a0 : Globe) (a1 : List Site) (_a2 : Int) (_a3 : Int) (_a4 : Int) (_a5 : Source) (_a6 : Int) (_a7 : Frac) (K : AV → List Blk → Ans) (r : O_W9_DelayCloses) : Ans := bif r.ok then K (.v (.c (.d (.bool r.r0)))) [.arr none .site a1] else none
theorem e_W9_DelayCloses (a0 : Globe) (a1 : List Site) (a2 : Int) (a3 : Int) (a4 : Int) (a5 : Source) (a6 : Int) (a7 : Frac) (K : AV → List Blk → Ans) : evFn Tryz.prog GT EQT T_Q9_Drift XT noL 200 4 [.v (.agg [.int .i64 a0.a, .int .i64 a0.b]), .v (.c (.aslice 0 none)), .v (.c (.d (.int .i64 a2))), .v (.c (.d (.int .i64 a3))), .v (.c (.d (.int .i64 a4))), .v (.agg [.str a5.name, .int .i64 a5.ra, .int .i64 a5.dec]), .v (.c (.d (.int .i64 a6))), .v (.agg [.int .i64 a7.num, .int .i64 a7.den])] [.arr none .site a1] (fun v M => K (finR 1 v M).1 (finR 1 v M).2) = F_W9_DelayCloses a0 a1 a2 a3 a4 a5 a6 a7 K (m_W9_DelayCloses a0 a1 a2 a3 a4 a5 a6 a7) := by
  unfold m_W9_DelayCloses
  refine Eq.trans ?_ (Eq.symm (pushT (pushT (pushT rfl rfl) (pushT (pushT rfl rfl) (pushT (pushT rfl rfl) (pushT (pushT rfl rfl) (pushT (pushT rfl rfl) (pushT (pushT rfl rfl) (pushT (pushT rfl rfl) (pushT (pushT (pushT (pushT (pushT (pushT rfl (pushT (pushT rfl (pushT (pushT rfl (pushT rfl (pushT (pushT rfl (pushT (pushT (pushT (pushT (pushT rfl rfl) (pushT (pushT rfl rfl) rfl)) (pushT (pushT (pushT rfl rfl) (pushT (pushT rfl rfl) rfl)) rfl)) (pushT (pushT (pushT (pushT rfl rfl) (pushT (pushT rfl rfl) rfl)) (pushT (pushT (pushT rfl rfl) (pushT (pushT rfl rfl) rfl)) rfl)) rfl)) (pushT (pushT (pushT (pushT (pushT rfl rfl) (pushT (pushT rfl rfl) rfl)) (pushT (pushT (pushT rfl rfl) (pushT (pushT rfl rfl) rfl)) rfl)) (pushT (pushT (pushT (pushT rfl rfl) (pushT (pushT rfl rfl) rfl)) (pushT (pushT (pushT rfl rfl) (pushT (pushT rfl rfl) rfl)) rfl)) rfl)) (pushT (pushT (pushT (pushT (pushT rfl rfl) (pushT (pushT rfl rfl) rfl)) (pushT (pushT (pushT rfl rfl) (pushT (pushT rfl rfl) rfl)) rfl)) (pushT (pushT (pushT (pushT rfl rfl) (pushT (pushT rfl rfl) rfl)) (pushT (pushT (pushT rfl rfl) (pushT (pushT rfl rfl) rfl)) rfl)) rfl)) (pushT (pushT rfl rfl) (pushT (pushT rfl rfl) rfl)))))) (pushT (pushT (pushT (pushT (pushT rfl rfl) (pushT (pushT rfl rfl) rfl)) (pushT (pushT (pushT rfl rfl) (pushT (pushT rfl rfl) rfl)) rfl)) (pushT (pushT (pushT (pushT rfl rfl) (pushT (pushT rfl rfl) rfl)) (pushT (pushT (pushT rfl rfl) (pushT (pushT rfl rfl) rfl)) rfl)) rfl)) (pushT (pushT (pushT (pushT (pushT rfl rfl) (pushT (pushT rfl rfl) rfl)) (pushT (pushT (pushT rfl rfl) (pushT (pushT rfl rfl) rfl)) rfl)) (pushT (pushT (pushT (pushT rfl rfl) (pushT (pushT rfl rfl) rfl)) (pushT (pushT (pushT rfl rfl) (pushT (pushT rfl rfl) rfl)) rfl)) rfl)) (pushT (pushT (pushT (pushT (pushT rfl rfl) (pushT (pushT rfl rfl) rfl)) (pushT (pushT (pushT rfl rfl) (pushT (pushT rfl rfl) rfl)) rfl)) (pushT (pushT (pushT (pushT rfl rfl) (pushT (pushT rfl rfl) rfl)) (pushT (pushT (pushT rfl rfl) (pushT (pushT rfl rfl) rfl)) rfl)) rfl)) (pushT (pushT rfl rfl) (pushT (pushT rfl rfl) rfl)))))))) (pushT (pushT rfl (pushT (pushT (pushT (pushT (pushT rfl rfl) (pushT (pushT rfl rfl) rfl)) (pushT (pushT (pushT rfl rfl) (pushT (pushT rfl rfl) rfl)) rfl)) (pushT (pushT (pushT (pushT rfl rfl) (pushT (pushT rfl rfl) rfl)) (pushT (pushT (pushT rfl rfl) (pushT (pushT rfl rfl) rfl)) rfl)) rfl)) (pushT (pushT (pushT (pushT (pushT rfl rfl) (pushT (pushT rfl rfl) rfl)) (pushT (pushT (pushT rfl rfl) (pushT (pushT rfl rfl) rfl)) rfl)) (pushT (pushT (pushT (pushT rfl rfl) (pushT (pushT rfl rfl) rfl)) (pushT (pushT (pushT rfl rfl) (pushT (pushT rfl rfl) rfl)) rfl)) rfl)) (pushT (pushT (pushT (pushT (pushT rfl rfl) (pushT (pushT rfl rfl) rfl)) (pushT (pushT (pushT rfl rfl) (pushT (pushT rfl rfl) rfl)) rfl)) (pushT (pushT (pushT (pushT rfl rfl) (pushT (pushT rfl rfl) rfl)) (pushT (pushT (pushT rfl rfl) (pushT (pushT rfl rfl) rfl)) rfl)) rfl)) (pushT (pushT rfl rfl) (pushT (pushT rfl rfl) rfl)))))) (pushT (pushT (pushT (pushT (pushT rfl rfl) (pushT (pushT rfl rfl) rfl)) (pushT (pushT (pushT rfl rfl) (pushT (pushT rfl rfl) rfl)) rfl)) (pushT (pushT (pushT (pushT rfl rfl) (pushT (pushT rfl rfl) rfl)) (pushT (pushT (pushT rfl rfl) (pushT (pushT rfl rfl) rfl)) rfl)) rfl)) (pushT (pushT (pushT (pushT (pushT rfl rfl) (pushT (pushT rfl rfl) rfl)) (pushT (pushT (pushT rfl rfl) (pushT (pushT rfl rfl) rfl)) rfl)) (pushT (pushT (pushT (pushT rfl rfl) (pushT (pushT rfl rfl) rfl)) (pushT (pushT (pushT rfl rfl) (pushT (pushT rfl rfl) rfl)) rfl)) rfl)) (pushT (pushT (pushT (pushT (pushT rfl rfl) (pushT (pushT rfl rfl) rfl)) (pushT (pushT (pushT rfl rfl) (pushT (pushT rfl rfl) rfl)) rfl)) (pushT (pushT (pushT (pushT rfl rfl) (pushT (pushT rfl rfl) rfl)) (pushT (pushT (pushT rfl rfl) (pushT (pushT rfl rfl) rfl)) rfl)) rfl)) (pushT (pushT rfl rfl) (pushT (pushT rfl rfl) rfl)))))))) (pushT (pushT rfl (pushT rfl (pushT (pushT rfl (pushT (pushT (pushT (pushT (pushT rfl rfl) (pushT (pushT rfl rfl) rfl)) (pushT (pushT (pushT rfl rfl) (pushT (pushT rfl rfl) rfl)) rfl)) (pushT (pushT (pushT (pushT rfl rfl) (pushT (pushT rfl rfl) rfl)) (pushT (pushT (pushT rfl rfl) (pushT (pushT rfl rfl) rfl)) rfl)) rfl)) (pushT (pushT (pushT (pushT (pushT rfl rfl) (pushT (pushT rfl rfl) rfl)) (pushT (pushT (pushT rfl rfl) (pushT (pushT rfl rfl) rfl)) rfl)) (pushT (pushT (pushT (pushT rfl rfl) (pushT (pushT rfl rfl) rfl)) (pushT (pushT (pushT rfl rfl) (pushT (pushT rfl rfl) rfl)) rfl)) rfl)) (pushT (pushT (pushT (pushT (pushT rfl rfl) (pushT (pushT rfl rfl) rfl)) (pushT (pushT (pushT rfl rfl) (pushT (pushT rfl rfl) rfl)) rfl)) (pushT (pushT (pushT (pushT rfl rfl) (pushT (pushT rfl rfl) rfl)) (pushT (pushT (pushT rfl rfl) (pushT (pushT rfl rfl) rfl)) rfl)) rfl)) (pushT (pushT rfl rfl) (pushT (pushT rfl rfl) rfl)))))) (pushT (pushT (pushT (pushT (pushT rfl rfl) (pushT (pushT rfl rfl) rfl)) (pushT (pushT (pushT rfl rfl) (pushT (pushT rfl rfl) rfl)) rfl)) (pushT (pushT (pushT (pushT rfl rfl) (pushT (pushT rfl rfl) rfl)) (pushT (pushT (pushT rfl rfl) (pushT (pushT rfl rfl) rfl)) rfl)) rfl)) (pushT (pushT (pushT (pushT (pushT rfl rfl) (pushT (pushT rfl rfl) rfl)) (pushT (pushT (pushT rfl rfl) (pushT (pushT rfl rfl) rfl)) rfl)) (pushT (pushT (pushT (pushT rfl rfl) (pushT (pushT rfl rfl) rfl)) (pushT (pushT (pushT rfl rfl) (pushT (pushT rfl rfl) rfl)) rfl)) rfl)) (pushT (pushT (pushT (pushT (pushT rfl rfl) (pushT (pushT rfl rfl) rfl)) (pushT (pushT (pushT rfl rfl) (pushT (pushT rfl rfl) rfl)) rfl)) (pushT (pushT (pushT (pushT rfl rfl) (pushT (pushT rfl rfl) rfl)) (pushT (pushT (pushT rfl rfl) (pushT (pushT rfl rfl) rfl)) rfl)) rfl)) (pushT (pushT rfl rfl) (pushT (pushT rfl rfl) rfl)))))))) (pushT (pushT rfl (pushT (pushT (pushT (pushT (pushT rfl rfl) (pushT (pushT rfl rfl) rfl)) (pushT (pushT (pushT rfl rfl) (pushT (pushT rfl rfl) rfl)) rfl)) (pushT (pushT (pushT (pushT rfl rfl) (pushT (pushT rfl rfl) rfl)) (pushT (pushT (pushT rfl rfl) (pushT (pushT rfl rfl) rfl)) rfl)) rfl)) (pushT (pushT (pushT (pushT (pushT rfl rfl) (pushT (pushT rfl rfl) rfl)) (pushT (pushT (pushT rfl rfl) (pushT (pushT rfl rfl) rfl)) rfl)) (pushT (pushT (pushT (pushT rfl rfl) (pushT (pushT rfl rfl) rfl)) (pushT (pushT (pushT rfl rfl) (pushT (pushT rfl rfl) rfl)) rfl)) rfl)) (pushT (pushT (pushT (pushT (pushT rfl rfl) (pushT (pushT rfl rfl) rfl)) (pushT (pushT (pushT rfl rfl) (pushT (pushT rfl rfl) rfl)) rfl)) (pushT (pushT (pushT (pushT rfl rfl) (pushT (pushT rfl rfl) rfl)) (pushT (pushT (pushT rfl rfl) (pushT (pushT rfl rfl) rfl)) rfl)) rfl)) (pushT (pushT rfl rfl) (pushT (pushT rfl rfl) rfl)))))) (pushT (pushT (pushT (pushT (pushT rfl rfl) (pushT (pushT rfl rfl) rfl)) (pushT (pushT (pushT rfl rfl) (pushT (pushT rfl rfl) rfl)) rfl)) (pushT (pushT (pushT (pushT rfl rfl) (pushT (pushT rfl rfl) rfl)) (pushT (pushT (pushT rfl rfl) (pushT (pushT rfl rfl) rfl)) rfl)) rfl)) (pushT (pushT (pushT (pushT (pushT rfl rfl) (pushT (pushT rfl rfl) rfl)) (pushT (pushT (pushT rfl rfl) (pushT (pushT rfl rfl) rfl)) rfl)) (pushT (pushT (pushT (pushT rfl rfl) (pushT (pushT rfl rfl) rfl)) (pushT (pushT (pushT rfl rfl) (pushT (pushT rfl rfl) rfl)) rfl)) rfl)) (pushT (pushT (pushT (pushT (pushT rfl rfl) (pushT (pushT rfl rfl) rfl)) (pushT (pushT (pushT rfl rfl) (pushT (pushT rfl rfl) rfl)) rfl)) (pushT (pushT (pushT (pushT rfl rfl) (pushT (pushT rfl rfl) rfl)) (pushT (pushT (pushT rfl rfl) (pushT (pushT rfl rfl) rfl)) rfl)) rfl)) (pushT (pushT rfl rfl) (pushT (pushT rfl rfl) rfl))))))))) rfl) rfl) rfl) rfl) rfl)))))))) rfl))
  kernel_rfl
theorem c_W9_DelayCloses (a0 : Globe) (a1 : List Site) (a2 : Int) (a3 : Int) (a4 : Int) (a5 : Source) (a6 : Int) (a7 : Frac) (hd : (m_W9_DelayCloses a0 a1 a2 a3 a4 a5 a6 a7).ok = true) : CallsA Tryz.prog GT gbT 4 [.v (.agg [.int .i64 a0.a, .int .i64 a0.b]), .v (.c (.aslice 0 none)), .v (.c (.d (.int .i64 a2))), .v (.c (.d (.int .i64 a3))), .v (.c (.d (.int .i64 a4))), .v (.agg [.str a5.name, .int .i64 a5.ra, .int .i64 a5.dec]), .v (.c (.d (.int .i64 a6))), .v (.agg [.int .i64 a7.num, .int .i64 a7.den])] [.arr none .site a1] (.v (.c (.d (.bool ((m_W9_DelayCloses a0 a1 a2 a3 a4 a5 a6 a7).r0))))) [.arr none .site a1] := by
  refine CallsA.ofEvR g_Q9_Drift hEQT hmT (n0 := 1) rfl (fun _ _ _ _ => LOKn.nil) ((e_W9_DelayCloses a0 a1 a2 a3 a4 a5 a6 a7 (fun v M => some (Res.fin v M))).trans ?_)
  unfold F_W9_DelayCloses
  rw [hd]
  rfl
end Go.Ev

namespace Go.Ev
open Go
theorem m_aliveD : m_W9_alive = ⟨true, true⟩ := by kernel_rfl
def fit9 (g : Globe) (l : List Site) (s : Source) (t : Int) (r : Frac) : Bool :=
  bif !(greatB l || decide ((200 : Int) < (s.name.size : Int))) then bif readyE g l s r == 0 then bif decide (-900000 ≤ t) then decide (t ≤ 900000) else false else false else false
theorem m_fitD (g : Globe) (l : List Site) (s : Source) (t : Int) (r : Frac) (hl : l.length ≤ maxLen) : m_W9_fit g l s t r = ⟨true, fit9 g l s t r⟩ := by
  unfold m_W9_fit fit9
  simp only [m_greatD l s hl, m_readyR, cond_true]
  cases greatB l || decide ((200 : Int) < (s.name.size : Int)) with
  | true => rfl
  | false =>
    cases readyE g l s r == 0 with
    | false => rfl
    | true => cases decide (-900000 ≤ t) <;> rfl
theorem fit9_ok {g : Globe} {l : List Site} {s : Source} {t : Int} {r : Frac} (h : fit9 g l s t r = true) : readyE g l s r = 0 ∧ -900000 ≤ t ∧ t ≤ 900000 := by
  unfold fit9 at h
  cases h1 : (greatB l || decide ((200 : Int) < (s.name.size : Int))) with
  | true => rw [h1] at h; cases h
  | false =>
    cases h2 : (readyE g l s r == 0) with
    | false => rw [h1, h2] at h; cases h
    | true =>
      by_cases c : -900000 ≤ t
      · rw [h1, h2, dec_t c] at h
        exact ⟨by simpa using h2, c, by simpa using h⟩
      · rw [h1, h2, dec_f c] at h; cases h
theorem axes_ok {s : Source} {t : Int} (h : checkSrc s = 0) (ht : -1000000 ≤ t ∧ t ≤ 1000000) : axesV s t = (axesS s.ra s.dec t, 0) := by
  unfold axesV
  rw [atS_ok (checkSrc_iff.1 h) ht]
  rfl
theorem axes_year (ra dec t : Int) : axesS ra dec (t + 720) = axesS ra dec t := by
  have e : ra - (t + 720) = (ra - t) + 720 * (-1) := by omega
  have d : dirS ra dec (t + 720) = dirS ra dec t := dirS_year ra dec t 1
  unfold axesS axU axV
  rw [e, sinT_whole, cosT_whole, d]
def wQ (s : Source) (t : Int) (v : Vec) : Rat := cQ s.dec * cQ (s.ra - t) * val v.x + cQ s.dec * sQ (s.ra - t) * val v.y + sQ s.dec * val v.z
theorem pline_v {g : Globe} {l : List Site} {i j : Int} {s : Source} {t : Int} {v : Vec} (h : checkSrc s = 0) (ht : -1000000 ≤ t ∧ t ≤ 1000000) (e : lineA g l i j = (v, 0)) : plineA g l i j s t = projF v (axesS s.ra s.dec t) := by
  unfold plineA projV
  rw [e, axes_ok h ht]
  rfl
def delayF (p : Dir × Int) (r : Frac) : Span × Int := bif p.2 != 0 then (spanZ, p.2) else bif (ofS r).2 != 0 then (spanZ, (ofS r).2) else mulS p.1.z (ofS r).1
theorem delayF_eq (g : Globe) (l : List Site) (i j : Int) (s : Source) (t : Int) (r : Frac) : delayV g l i j s t r = delayF (plineA g l i j s t) r := rfl
theorem delayF_neg (p : Dir × Int) (r : Frac) : delayF (negDir p.1, p.2) r = negP (delayF p r) := by
  unfold delayF
  simp only
  cases (p.2 != 0) with
  | true => rfl
  | false =>
    cases ((ofS r).2 != 0) with
    | true => rfl
    | false => exact mulS_negS_left _ _
theorem delayF_q {v : Vec} (hv : VecOk v) {r : Frac} (hr : FracOk r) (s : Source) (t : Int) : (∃ p, delayF (projF v (axesS s.ra s.dec t)) r = (p, 0) ∧ SQ p (wQ s t v * val r)) ∨ delayF (projF v (axesS s.ra s.dec t)) r = (spanZ, 16) := by
  unfold delayF
  rcases proj_q hv s.ra s.dec t with ⟨d, e, _, q⟩ | e
  · rw [e]
    rcases of_q hr with ⟨R, e2, q2⟩ | e2
    · rw [e2]
      simp only [bne_self_eq_false, cond_false]
      rcases mulS_cases q.z.ok q2.ok with ⟨p, e3, v3⟩ | e3
      · exact .inl ⟨p, e3, v3, q.z.enc.mul q2.enc e3⟩
      · exact .inr e3
    · rw [e2]
      exact .inr rfl
  · rw [e]
    exact .inr rfl
theorem rate_ok {r : Frac} (h : rateB r = true) : FracOk r := by
  unfold rateB betweenB at h
  cases h1 : decide (r.num < 1) with
  | true => rw [h1] at h; cases h
  | false =>
    rw [h1] at h
    simp only [cond_false, Bool.and_eq_true] at h
    exact fracOkB_iff.1 h.1
theorem sub_self_cases {p : Span} (h : spanValid p = true) : (∃ q, subS p p = (q, 0) ∧ q.lo ≤ 0 ∧ 0 ≤ q.hi) ∨ subS p p = (spanZ, 16) := by
  have h' := spanValid_iff.1 h
  unfold subS
  rw [h]
  simp only [Bool.and_self, cond_true]
  rcases ranged_cases ⟨p.lo - p.hi, p.hi - p.lo⟩ with ⟨e, _⟩ | e
  · exact .inl ⟨_, e, by simp only; omega, by simp only; omega⟩
  · exact .inr e
theorem eq_span (a : Span) : eqAll [.int .i64 a.lo, .int .i64 a.hi] [.int .i64 a.lo, .int .i64 a.hi] = true := by simp [eqAll, D.eq]
theorem law_DelayCloses (g : Globe) (l : List Site) (i j k : Int) (s : Source) (t : Int) (r : Frac) (_ : ∀ d ∈ [D.int .i64 g.a, .int .i64 g.b], d.ok) (hl : (∀ d ∈ ET.flat .site l, d.ok) ∧ l.length ≤ maxLen) (_ : IntKind.i64.has i) (_ : IntKind.i64.has j) (_ : IntKind.i64.has k) (_ : ∀ d ∈ [D.str s.name, .int .i64 s.ra, .int .i64 s.dec], d.ok) (_ : IntKind.i64.has t) (_ : ∀ d ∈ [D.int .i64 r.num, .int .i64 r.den], d.ok) :
    m_W9_DelayCloses g l i j k s t r = ⟨true, true⟩ := by
  unfold m_W9_DelayCloses
  simp only [m_fitD g l s t r hl.2, m_aliveD, m_of, m_drift, cond_true]
  cases hf : fit9 g l s t r with
  | false => rfl
  | true =>
  obtain ⟨h0, t0, t1⟩ := fit9_ok hf
  obtain ⟨hc, hs, hr⟩ := ready_parts h0
  by_cases i0 : i < 0
  · rw [dec_t i0]; rfl
  by_cases j0 : j < 0
  · rw [dec_f i0, dec_t j0]; rfl
  by_cases k0 : k < 0
  · rw [dec_f i0, dec_f j0, dec_t k0]; rfl
  by_cases i1 : (l.length : Int) ≤ i
  · rw [dec_f i0, dec_f j0, dec_f k0, dec_t i1]; rfl
  by_cases j1 : (l.length : Int) ≤ j
  · rw [dec_f i0, dec_f j0, dec_f k0, dec_f i1, dec_t j1]; rfl
  by_cases k1 : (l.length : Int) ≤ k
  · rw [dec_f i0, dec_f j0, dec_f k0, dec_f i1, dec_f j1, dec_t k1]; rfl
  rw [dec_f i0, dec_f j0, dec_f k0, dec_f i1, dec_f j1, dec_f k1]
  obtain ⟨a, rfl⟩ := nat_of (show 0 ≤ i by omega)
  obtain ⟨b, rfl⟩ := nat_of (show 0 ≤ j by omega)
  obtain ⟨c, rfl⟩ := nat_of (show 0 ≤ k by omega)
  obtain ⟨v1, e1, q1, x1, y1, z1⟩ := line_q hc (n := a) (m := b) (by omega) (by omega)
  obtain ⟨v2, e2, q2, x2, y2, z2⟩ := line_q hc (n := b) (m := c) (by omega) (by omega)
  obtain ⟨v3, e3, q3, x3, y3, z3⟩ := line_q hc (n := a) (m := c) (by omega) (by omega)
  obtain ⟨v4, e4, q4, x4, y4, z4⟩ := line_q hc (n := b) (m := a) (by omega) (by omega)
  have ev : v4 = negVec v1 := vec_eq q4 (negVec_ok q1) (by simp only [negVec, val_neg q1.x]; rw [x4, x1]; grind) (by simp only [negVec, val_neg q1.y]; rw [y4, y1]; grind) (by simp only [negVec, val_neg q1.z]; rw [z4, z1]; grind)
  rw [ev] at e4
  have ht : -1000000 ≤ t ∧ t ≤ 1000000 := by omega
  have o : ∀ i j, ofV g l i j s t r = delayF (plineA g l i j s t) r := fun i j => by unfold ofV; rw [h0]; rfl
  have d1 : driftV g l (a : Int) (b : Int) s t 720 r = bif (delayF (plineA g l a b s t) r).2 != 0 then (spanZ, (delayF (plineA g l a b s t) r).2) else subS (delayF (plineA g l a b s t) r).1 (delayF (plineA g l a b s t) r).1 := by
    unfold driftV
    have ew : w64 (t + 720) = t + 720 := w64_keep (by omega) (by omega)
    rw [h0, if_pos (show driftP l a b t 720 by unfold driftP; rw [ew]; omega), ew, delayF_eq, delayF_eq, pline_v hs (by omega) e1, pline_v hs ht e1, axes_year]
    simp only [bne_self_eq_false, cond_false]
    cases ((delayF (projF v1 (axesS s.ra s.dec t)) r).2 != 0) <;> rfl
  rw [d1, o, o, o, o, pline_v hs ht e1, pline_v hs ht e2, pline_v hs ht e3, pline_v hs ht e4, proj_neg q1, delayF_neg]
  have p1 := delayF_q q1 (rate_ok hr) s t; have p2 := delayF_q q2 (rate_ok hr) s t; have p3 := delayF_q q3 (rate_ok hr) s t
  generalize delayF (projF v1 (axesS s.ra s.dec t)) r = r1 at *
  generalize delayF (projF v2 (axesS s.ra s.dec t)) r = r2 at *
  generalize delayF (projF v3 (axesS s.ra s.dec t)) r = r3 at *
  rcases p1 with ⟨p1, rfl, u1⟩ | rfl
  · have en : negRaw p1 = negS p1 := negRaw_ok u1.ok
    simp only [negP, bne_self_eq_false, cond_false, beq_self_eq_true, cond_true, Bool.not_true]
    rw [en, eq_span]
    rcases sub_self_cases u1.ok with ⟨y, ey, l0, l1⟩ | ey
    · rw [ey]
      simp only [bne_self_eq_false, cond_false, beq_self_eq_true, cond_true, Bool.not_true, dec_f (show ¬ 0 < y.lo by omega), dec_f (show ¬ y.hi < 0 by omega)]
      rcases p2 with ⟨p2, rfl, u2⟩ | rfl
      · rcases p3 with ⟨p3, rfl, u3⟩ | rfl
        · have cz := sum_common u1 u2 u3 (by unfold wQ; rw [x1, x2, x3, y1, y2, y3, z1, z2, z3]; grind)
          simp only [bne_self_eq_false, cond_false]
          rcases cz with cz | cz
          · rw [cz]; rfl
          · rw [cz]; cases ((addS p1 p2).2 != 0) <;> rfl
        · rfl
      · rcases p3 with ⟨p3, rfl, u3⟩ | rfl <;> rfl
    · rw [ey]
      rcases p2 with ⟨p2, rfl, u2⟩ | rfl
      · rcases p3 with ⟨p3, rfl, u3⟩ | rfl
        · have cz := sum_common u1 u2 u3 (by unfold wQ; rw [x1, x2, x3, y1, y2, y3, z1, z2, z3]; grind)
          simp only [bne_self_eq_false, cond_false]
          rcases cz with cz | cz
          · rw [cz]; rfl
          · rw [cz]; cases ((addS p1 p2).2 != 0) <;> rfl
        · rfl
      · rcases p3 with ⟨p3, rfl, u3⟩ | rfl <;> rfl
  · rcases p2 with ⟨p2, rfl, u2⟩ | rfl <;> rcases p3 with ⟨p3, rfl, u3⟩ | rfl <;> rfl
end Go.Ev

