/-
  Contracts of functions: what each returns. No condition beyond those of the statements.
-/
import Derived.Test.YtdmmnpgkidghnaaPTab
namespace Go.Ev
open Go Go.Proofs

/-- delay.valid -/
def s_delay_valid : List AV → List Blk → (AV → List Blk → Ans) → Ans := fun xs bs K => match xs, bs with
  | [.v (.agg [.int .i64 lo, .int .i64 hi])], [] => K (rB (spanValid ⟨lo, hi⟩)) []
  | _, _ => none
set_option maxRecDepth 100000 in
theorem w_delay_valid (lo hi : Int) (K : AV → List Blk → Ans) : evFn Try.prog GT EQT T0 XT 60 17 [.v (.agg [.int .i64 lo, .int .i64 hi])] [] (fun v M => K v (M.take ([] : List Blk).length)) = K (rB (spanValid ⟨lo, hi⟩)) [] := by
  simp only [spanValid, pullK K]
  kernel_rfl
def T_delay_valid : Nat → List AV → List Blk → (AV → List Blk → Ans) → Ans := upd T0 17 s_delay_valid
theorem g_delay_valid : GOK Try.prog GT gbT T_delay_valid XT := by
  refine GOK.fn g0 hEQT hmT (fun args w => Try.call17 args w) ?_
  intro xs bs K r h
  unfold s_delay_valid at h
  split at h
  · exact ⟨60, (w_delay_valid _ _ K).trans h⟩
  · cases h


/-- fringeref05.Valid -/
def s_fringeref05_Valid : List AV → List Blk → (AV → List Blk → Ans) → Ans := fun xs bs K => match xs, bs with
  | [.v (.agg [.int .i64 lo, .int .i64 hi])], [] => K (rB (spanValid ⟨lo, hi⟩)) []
  | _, _ => none
set_option maxRecDepth 100000 in
theorem w_fringeref05_Valid (lo hi : Int) (K : AV → List Blk → Ans) : evFn Try.prog GT EQT T_delay_valid XT 60 19 [.v (.agg [.int .i64 lo, .int .i64 hi])] [] (fun v M => K v (M.take ([] : List Blk).length)) = K (rB (spanValid ⟨lo, hi⟩)) [] := by
  simp only [spanValid, pullK K]
  kernel_rfl
def T_fringeref05_Valid : Nat → List AV → List Blk → (AV → List Blk → Ans) → Ans := upd T_delay_valid 19 s_fringeref05_Valid
theorem g_fringeref05_Valid : GOK Try.prog GT gbT T_fringeref05_Valid XT := by
  refine GOK.fn g_delay_valid hEQT hmT (fun args w => Try.call19 args w) ?_
  intro xs bs K r h
  unfold s_fringeref05_Valid at h
  split at h
  · exact ⟨60, (w_fringeref05_Valid _ _ K).trans h⟩
  · cases h


/-- delay.nearest -/
def s_delay_nearest : List AV → List Blk → (AV → List Blk → Ans) → Ans := fun xs bs K => match xs, bs with
  | [.v (.c (.d (.int .i64 n)))], [] => K (rI (nearestW n)) []
  | _, _ => none
set_option maxRecDepth 100000 in
theorem w_delay_nearest (n : Int) (K : AV → List Blk → Ans) : evFn Try.prog GT EQT T_fringeref05_Valid XT 60 18 [.v (.c (.d (.int .i64 n)))] [] (fun v M => K v (M.take ([] : List Blk).length)) = K (rI (nearestW n)) [] := by
  simp only [nearestW, pullK K]
  kernel_rfl
def T_delay_nearest : Nat → List AV → List Blk → (AV → List Blk → Ans) → Ans := upd T_fringeref05_Valid 18 s_delay_nearest
theorem g_delay_nearest : GOK Try.prog GT gbT T_delay_nearest XT := by
  refine GOK.fn g_fringeref05_Valid hEQT hmT (fun args w => Try.call18 args w) ?_
  intro xs bs K r h
  unfold s_delay_nearest at h
  split at h
  · exact ⟨60, (w_delay_nearest _ K).trans h⟩
  · cases h


/-- fringeref09.nearest -/
def s_fringeref09_nearest : List AV → List Blk → (AV → List Blk → Ans) → Ans := fun xs bs K => match xs, bs with
  | [.v (.c (.d (.int .i64 n)))], [] => K (rI (nearestW n)) []
  | _, _ => none
set_option maxRecDepth 100000 in
theorem w_fringeref09_nearest (n : Int) (K : AV → List Blk → Ans) : evFn Try.prog GT EQT T_delay_nearest XT 60 20 [.v (.c (.d (.int .i64 n)))] [] (fun v M => K v (M.take ([] : List Blk).length)) = K (rI (nearestW n)) [] := by
  simp only [nearestW, pullK K]
  kernel_rfl
def T_fringeref09_nearest : Nat → List AV → List Blk → (AV → List Blk → Ans) → Ans := upd T_delay_nearest 20 s_fringeref09_nearest
theorem g_fringeref09_nearest : GOK Try.prog GT gbT T_fringeref09_nearest XT := by
  refine GOK.fn g_delay_nearest hEQT hmT (fun args w => Try.call20 args w) ?_
  intro xs bs K r h
  unfold s_fringeref09_nearest at h
  split at h
  · exact ⟨60, (w_fringeref09_nearest _ K).trans h⟩
  · cases h


/-- fringeref09.Part -/
def s_fringeref09_Part : List AV → List Blk → (AV → List Blk → Ans) → Ans := fun xs bs K => match xs, bs with
  | [.v (.agg [.int .i64 lo, .int .i64 hi])], [] => K (rB (partB ⟨lo, hi⟩)) []
  | _, _ => none
set_option maxRecDepth 100000 in
theorem w_fringeref09_Part (lo hi : Int) (K : AV → List Blk → Ans) : evFn Try.prog GT EQT T_fringeref09_nearest XT 60 21 [.v (.agg [.int .i64 lo, .int .i64 hi])] [] (fun v M => K v (M.take ([] : List Blk).length)) = K (rB (partB ⟨lo, hi⟩)) [] := by
  simp only [partB, pullK K]
  kernel_rfl
def T_fringeref09_Part : Nat → List AV → List Blk → (AV → List Blk → Ans) → Ans := upd T_fringeref09_nearest 21 s_fringeref09_Part
theorem g_fringeref09_Part : GOK Try.prog GT gbT T_fringeref09_Part XT := by
  refine GOK.fn g_fringeref09_nearest hEQT hmT (fun args w => Try.call21 args w) ?_
  intro xs bs K r h
  unfold s_fringeref09_Part at h
  split at h
  · exact ⟨60, (w_fringeref09_Part _ _ K).trans h⟩
  · cases h


/-- delay.Split -/
def s_delay_Split : List AV → List Blk → (AV → List Blk → Ans) → Ans := fun xs bs K => match xs, bs with
  | [.v (.agg [.int .i64 lo, .int .i64 hi])], [] => K (rDelayE (delaySplit ⟨lo, hi⟩)) []
  | _, _ => none
set_option maxRecDepth 100000 in
theorem w_delay_Split (lo hi : Int) (K : AV → List Blk → Ans) : evFn Try.prog GT EQT T_fringeref09_Part XT 60 5 [.v (.agg [.int .i64 lo, .int .i64 hi])] [] (fun v M => K v (M.take ([] : List Blk).length)) = K (rDelayE (delaySplit ⟨lo, hi⟩)) [] := by
  simp only [delaySplit, pullK K]
  kernel_rfl
def T_delay_Split : Nat → List AV → List Blk → (AV → List Blk → Ans) → Ans := upd T_fringeref09_Part 5 s_delay_Split
theorem g_delay_Split : GOK Try.prog GT gbT T_delay_Split XT := by
  refine GOK.fn g_fringeref09_Part hEQT hmT (fun args w => Try.call5 args w) ?_
  intro xs bs K r h
  unfold s_delay_Split at h
  split at h
  · exact ⟨60, (w_delay_Split _ _ K).trans h⟩
  · cases h


/-- fringeref09.Split -/
def s_fringeref09_Split : List AV → List Blk → (AV → List Blk → Ans) → Ans := fun xs bs K => match xs, bs with
  | [.v (.agg [.int .i64 lo, .int .i64 hi])], [] => K (rDelayE (delaySplit ⟨lo, hi⟩)) []
  | _, _ => none
set_option maxRecDepth 100000 in
theorem w_fringeref09_Split (lo hi : Int) (K : AV → List Blk → Ans) : evFn Try.prog GT EQT T_delay_Split XT 60 6 [.v (.agg [.int .i64 lo, .int .i64 hi])] [] (fun v M => K v (M.take ([] : List Blk).length)) = K (rDelayE (delaySplit ⟨lo, hi⟩)) [] := by
  simp only [delaySplit, pullK K]
  kernel_rfl
def T_fringeref09_Split : Nat → List AV → List Blk → (AV → List Blk → Ans) → Ans := upd T_delay_Split 6 s_fringeref09_Split
theorem g_fringeref09_Split : GOK Try.prog GT gbT T_fringeref09_Split XT := by
  refine GOK.fn g_delay_Split hEQT hmT (fun args w => Try.call6 args w) ?_
  intro xs bs K r h
  unfold s_fringeref09_Split at h
  split at h
  · exact ⟨60, (w_fringeref09_Split _ _ K).trans h⟩
  · cases h


/-- delay.Join -/
def s_delay_Join : List AV → List Blk → (AV → List Blk → Ans) → Ans := fun xs bs K => match xs, bs with
  | [.v (.agg [.int .i64 wh, .int .i64 lo, .int .i64 hi])], [] => K (rSpanE (delayJoin ⟨wh, ⟨lo, hi⟩⟩)) []
  | _, _ => none
set_option maxRecDepth 100000 in
theorem w_delay_Join (wh lo hi : Int) (K : AV → List Blk → Ans) : evFn Try.prog GT EQT T_fringeref09_Split XT 60 7 [.v (.agg [.int .i64 wh, .int .i64 lo, .int .i64 hi])] [] (fun v M => K v (M.take ([] : List Blk).length)) = K (rSpanE (delayJoin ⟨wh, ⟨lo, hi⟩⟩)) [] := by
  simp only [delayJoin, pullK K]
  kernel_rfl
def T_delay_Join : Nat → List AV → List Blk → (AV → List Blk → Ans) → Ans := upd T_fringeref09_Split 7 s_delay_Join
theorem g_delay_Join : GOK Try.prog GT gbT T_delay_Join XT := by
  refine GOK.fn g_fringeref09_Split hEQT hmT (fun args w => Try.call7 args w) ?_
  intro xs bs K r h
  unfold s_delay_Join at h
  split at h
  · exact ⟨60, (w_delay_Join _ _ _ K).trans h⟩
  · cases h


/-- fringeref09.Join -/
def s_fringeref09_Join : List AV → List Blk → (AV → List Blk → Ans) → Ans := fun xs bs K => match xs, bs with
  | [.v (.agg [.int .i64 wh, .int .i64 lo, .int .i64 hi])], [] => K (rSpanE (refJoin ⟨wh, ⟨lo, hi⟩⟩)) []
  | _, _ => none
set_option maxRecDepth 100000 in
theorem w_fringeref09_Join (wh lo hi : Int) (K : AV → List Blk → Ans) : evFn Try.prog GT EQT T_delay_Join XT 60 8 [.v (.agg [.int .i64 wh, .int .i64 lo, .int .i64 hi])] [] (fun v M => K v (M.take ([] : List Blk).length)) = K (rSpanE (refJoin ⟨wh, ⟨lo, hi⟩⟩)) [] := by
  simp only [refJoin, pullK K]
  kernel_rfl
def T_fringeref09_Join : Nat → List AV → List Blk → (AV → List Blk → Ans) → Ans := upd T_delay_Join 8 s_fringeref09_Join
theorem g_fringeref09_Join : GOK Try.prog GT gbT T_fringeref09_Join XT := by
  refine GOK.fn g_delay_Join hEQT hmT (fun args w => Try.call8 args w) ?_
  intro xs bs K r h
  unfold s_fringeref09_Join at h
  split at h
  · exact ⟨60, (w_fringeref09_Join _ _ _ K).trans h⟩
  · cases h


/-- fringelaw09.DelaySplits -/
def s_fringelaw09_DelaySplits : List AV → List Blk → (AV → List Blk → Ans) → Ans := fun xs bs K => match xs, bs with
  | [.v (.agg [.int .i64 lo, .int .i64 hi]), .v (.agg [.int .i64 wh, .int .i64 plo, .int .i64 phi])], [] => K (rB (lawDelaySplits ⟨lo, hi⟩ ⟨wh, ⟨plo, phi⟩⟩)) []
  | _, _ => none
set_option maxRecDepth 100000 in
theorem w_fringelaw09_DelaySplits (lo hi wh plo phi : Int) (K : AV → List Blk → Ans) : evFn Try.prog GT EQT T_fringeref09_Join XT 60 3 [.v (.agg [.int .i64 lo, .int .i64 hi]), .v (.agg [.int .i64 wh, .int .i64 plo, .int .i64 phi])] [] (fun v M => K v (M.take ([] : List Blk).length)) = K (rB (lawDelaySplits ⟨lo, hi⟩ ⟨wh, ⟨plo, phi⟩⟩)) [] := by
  simp only [lawDelaySplits, pullK K]
  kernel_rfl
def T_fringelaw09_DelaySplits : Nat → List AV → List Blk → (AV → List Blk → Ans) → Ans := upd T_fringeref09_Join 3 s_fringelaw09_DelaySplits
theorem g_fringelaw09_DelaySplits : GOK Try.prog GT gbT T_fringelaw09_DelaySplits XT := by
  refine GOK.fn g_fringeref09_Join hEQT hmT (fun args w => Try.call3 args w) ?_
  intro xs bs K r h
  unfold s_fringelaw09_DelaySplits at h
  split at h
  · exact ⟨60, (w_fringelaw09_DelaySplits _ _ _ _ _ K).trans h⟩
  · cases h


end Go.Ev
