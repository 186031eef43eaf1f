/-
  Contracts of functions: what each returns. No condition beyond those of the statements.
-/
import Derived.Test.YthnfmabjjndhhaaHoCC
namespace Go.Ev
open Go Go.Proofs

set_option maxRecDepth 100000 in
/-- sine.around -/
theorem w_sine_around (num den : Int) (K : AV → List Blk → Ans) : evFn Try.prog GT EQT T_fringeref05_Sign XT noL 60 45 [.v (.agg [.int .i64 num, .int .i64 den])] [] (fun v M => K v (M.take ([] : List Blk).length)) = bif decide (num < 0) then aroundAns K num den (w64 (0 - num)) else aroundAns K num den num := by
  simp only [aroundAns, aroundTail, pullK K]
  kernel_rfl
theorem c_sine_around (num den : Int) (hd : (fracOkB ⟨num, den⟩) = true) : CallsA Try.prog GT gbT 45 [.v (.agg [.int .i64 num, .int .i64 den])] [] (rSpanB (aroundB ⟨num, den⟩)) [] := by
  refine CallsA.ofOk fun hok => ?_
  have hw := w_sine_around num den (fun v M => some (Res.fin v M))
  refine CallsA.ofEv (Γ := T_fringeref05_Sign) (X := XT) (Λ := noL) (EQ := EQT) (n := 60) g_fringeref05_Sign hEQT hmT (fun _ _ _ _ => noL_ok _) (hw.trans ?_)
  have h_num := inR_i64 (hok (.int .i64 num) (by simp [datasL, datas]))
  have h_den := inR_i64 (hok (.int .i64 den) (by simp [datasL, datas]))
  clear hok hw
  have hk := fracOkB_iff.1 hd
  have h1 := hk.numlo
  have h2 := hk.numhi
  simp only at h1 h2
  by_cases hn : num < 0
  · rw [decide_eq_true hn, cond_true, w64_id (by omega)]
    exact aroundAns_ok (K := fun v M => some (Res.fin v M)) hk (by rw [absI_of_neg hn]; omega)
  · rw [decide_eq_false hn, cond_false]
    exact aroundAns_ok (K := fun v M => some (Res.fin v M)) hk (absI_of_nonneg (by omega)).symm
def s_sine_around : List AV → List Blk → (AV → List Blk → Ans) → Ans := fun xs bs K => match xs, bs with
  | [.v (.agg [.int .i64 num, .int .i64 den])], [] => bif fracOkB ⟨num, den⟩ then K (rSpanB (aroundB ⟨num, den⟩)) [] else none
  | _, _ => none
def T_sine_around : Nat → List AV → List Blk → (AV → List Blk → Ans) → Ans := upd T_fringeref05_Sign 45 s_sine_around
theorem g_sine_around : GOK Try.prog GT gbT T_sine_around XT := by
  refine GOK.upd g_fringeref05_Sign (fun args w => Try.call45 args w) fun xs bs K r h => ?_
  unfold s_sine_around at h
  split at h
  · simp only [cond_eq_ite] at h
    split at h
    · exact ⟨_, _, c_sine_around _ _ ‹_›, h⟩
    · cases h
  · cases h


set_option maxRecDepth 100000 in
/-- sine.Of -/
theorem w_sine_Of (num den : Int) (K : AV → List Blk → Ans) : evFn Try.prog GT EQT T_sine_around XT noL 60 19 [.v (.agg [.int .i64 num, .int .i64 den])] [] (fun v M => K v (M.take ([] : List Blk).length)) = bif checkF ⟨num, den⟩ != 0 then K (rSpanE (spanZ, 8)) [] else bif fracOkB ⟨num, den⟩ then (bif !(aroundB ⟨num, den⟩).2 then K (rSpanE (spanZ, 16)) [] else K (rSpanE (rangedS (aroundB ⟨num, den⟩).1)) []) else none := by
  kernel_rfl
theorem c_sine_Of (num den : Int) : CallsA Try.prog GT gbT 19 [.v (.agg [.int .i64 num, .int .i64 den])] [] (rSpanE (ofS ⟨num, den⟩)) [] := by
  refine CallsA.ofOk fun hok => ?_
  have hw := w_sine_Of num den (fun v M => some (Res.fin v M))
  refine CallsA.ofEv (Γ := T_sine_around) (X := XT) (Λ := noL) (EQ := EQT) (n := 60) g_sine_around hEQT hmT (fun _ _ _ _ => noL_ok _) (hw.trans ?_)
  have h_num := inR_i64 (hok (.int .i64 num) (by simp [datasL, datas]))
  have h_den := inR_i64 (hok (.int .i64 den) (by simp [datasL, datas]))
  clear hok hw
  exact sineOf_ok (K := fun v M => some (Res.fin v M))
def s_sine_Of : List AV → List Blk → (AV → List Blk → Ans) → Ans := fun xs bs K => match xs, bs with
  | [.v (.agg [.int .i64 num, .int .i64 den])], [] => K (rSpanE (ofS ⟨num, den⟩)) []
  | _, _ => none
def T_sine_Of : Nat → List AV → List Blk → (AV → List Blk → Ans) → Ans := upd T_sine_around 19 s_sine_Of
theorem g_sine_Of : GOK Try.prog GT gbT T_sine_Of XT := by
  refine GOK.upd g_sine_around (fun args w => Try.call19 args w) fun xs bs K r h => ?_
  unfold s_sine_Of at h
  split at h
  · exact ⟨_, _, c_sine_Of _ _, h⟩
  · cases h


set_option maxRecDepth 100000 in
/-- fringeref05.Of -/
theorem w_fringeref05_Of (num den : Int) (K : AV → List Blk → Ans) : evFn Try.prog GT EQT T_sine_Of XT noL 90 20 [.v (.agg [.int .i64 num, .int .i64 den])] [] (fun v M => K v (M.take ([] : List Blk).length)) = bif checkF ⟨num, den⟩ != 0 then K (rSpanE (spanZ, 8)) [] else bif decide (0 < den) then ofAns K num den else none := by
  kernel_rfl
theorem c_fringeref05_Of (num den : Int) : CallsA Try.prog GT gbT 20 [.v (.agg [.int .i64 num, .int .i64 den])] [] (rSpanE (ofS ⟨num, den⟩)) [] := by
  refine CallsA.ofOk fun hok => ?_
  have hw := w_fringeref05_Of num den (fun v M => some (Res.fin v M))
  refine CallsA.ofEv (Γ := T_sine_Of) (X := XT) (Λ := noL) (EQ := EQT) (n := 90) g_sine_Of hEQT hmT (fun _ _ _ _ => noL_ok _) (hw.trans ?_)
  have h_num := inR_i64 (hok (.int .i64 num) (by simp [datasL, datas]))
  have h_den := inR_i64 (hok (.int .i64 den) (by simp [datasL, datas]))
  clear hok hw
  exact refOf_ok (K := fun v M => some (Res.fin v M))
def s_fringeref05_Of : List AV → List Blk → (AV → List Blk → Ans) → Ans := fun xs bs K => match xs, bs with
  | [.v (.agg [.int .i64 num, .int .i64 den])], [] => K (rSpanE (ofS ⟨num, den⟩)) []
  | _, _ => none
def T_fringeref05_Of : Nat → List AV → List Blk → (AV → List Blk → Ans) → Ans := upd T_sine_Of 20 s_fringeref05_Of
theorem g_fringeref05_Of : GOK Try.prog GT gbT T_fringeref05_Of XT := by
  refine GOK.upd g_sine_Of (fun args w => Try.call20 args w) fun xs bs K r h => ?_
  unfold s_fringeref05_Of at h
  split at h
  · exact ⟨_, _, c_fringeref05_Of _ _, h⟩
  · cases h


set_option maxRecDepth 100000 in
/-- sine.Has -/
theorem w_sine_Has (lo hi num den : Int) (K : AV → List Blk → Ans) : evFn Try.prog GT EQT T_fringeref05_Of XT noL 60 21 [.v (.agg [.int .i64 lo, .int .i64 hi]), .v (.agg [.int .i64 num, .int .i64 den])] [] (fun v M => K v (M.take ([] : List Blk).length)) = hasAns K ⟨lo, hi⟩ ⟨num, den⟩ := by
  kernel_rfl
theorem c_sine_Has (lo hi num den : Int) : CallsA Try.prog GT gbT 21 [.v (.agg [.int .i64 lo, .int .i64 hi]), .v (.agg [.int .i64 num, .int .i64 den])] [] (rBoolE (hasS ⟨lo, hi⟩ ⟨num, den⟩)) [] := by
  refine CallsA.ofOk fun hok => ?_
  have hw := w_sine_Has lo hi num den (fun v M => some (Res.fin v M))
  refine CallsA.ofEv (Γ := T_fringeref05_Of) (X := XT) (Λ := noL) (EQ := EQT) (n := 60) g_fringeref05_Of hEQT hmT (fun _ _ _ _ => noL_ok _) (hw.trans ?_)
  have h_lo := inR_i64 (hok (.int .i64 lo) (by simp [datasL, datas]))
  have h_hi := inR_i64 (hok (.int .i64 hi) (by simp [datasL, datas]))
  have h_num := inR_i64 (hok (.int .i64 num) (by simp [datasL, datas]))
  have h_den := inR_i64 (hok (.int .i64 den) (by simp [datasL, datas]))
  clear hok hw
  exact hasAns_ok (K := fun v M => some (Res.fin v M))
def s_sine_Has : List AV → List Blk → (AV → List Blk → Ans) → Ans := fun xs bs K => match xs, bs with
  | [.v (.agg [.int .i64 lo, .int .i64 hi]), .v (.agg [.int .i64 num, .int .i64 den])], [] => K (rBoolE (hasS ⟨lo, hi⟩ ⟨num, den⟩)) []
  | _, _ => none
def T_sine_Has : Nat → List AV → List Blk → (AV → List Blk → Ans) → Ans := upd T_fringeref05_Of 21 s_sine_Has
theorem g_sine_Has : GOK Try.prog GT gbT T_sine_Has XT := by
  refine GOK.upd g_fringeref05_Of (fun args w => Try.call21 args w) fun xs bs K r h => ?_
  unfold s_sine_Has at h
  split at h
  · exact ⟨_, _, c_sine_Has _ _ _ _, h⟩
  · cases h


set_option maxRecDepth 100000 in
/-- fringeref05.Has -/
theorem w_fringeref05_Has (lo hi num den : Int) (K : AV → List Blk → Ans) : evFn Try.prog GT EQT T_sine_Has XT noL 60 22 [.v (.agg [.int .i64 lo, .int .i64 hi]), .v (.agg [.int .i64 num, .int .i64 den])] [] (fun v M => K v (M.take ([] : List Blk).length)) = K (rBoolE (hasRef ⟨lo, hi⟩ ⟨num, den⟩)) [] := by
  simp only [hasRef, pullK K]
  kernel_rfl
theorem c_fringeref05_Has (lo hi num den : Int) : CallsA Try.prog GT gbT 22 [.v (.agg [.int .i64 lo, .int .i64 hi]), .v (.agg [.int .i64 num, .int .i64 den])] [] (rBoolE (hasS ⟨lo, hi⟩ ⟨num, den⟩)) [] := by
  refine CallsA.ofOk fun hok => ?_
  have hw := w_fringeref05_Has lo hi num den (fun v M => some (Res.fin v M))
  refine CallsA.ofEv (Γ := T_sine_Has) (X := XT) (Λ := noL) (EQ := EQT) (n := 60) g_sine_Has hEQT hmT (fun _ _ _ _ => noL_ok _) (hw.trans ?_)
  have h_lo := inR_i64 (hok (.int .i64 lo) (by simp [datasL, datas]))
  have h_hi := inR_i64 (hok (.int .i64 hi) (by simp [datasL, datas]))
  have h_num := inR_i64 (hok (.int .i64 num) (by simp [datasL, datas]))
  have h_den := inR_i64 (hok (.int .i64 den) (by simp [datasL, datas]))
  clear hok hw
  refine congrArg (fun v => some (Res.fin v [])) ?_
  rw [hasRef_ok]
def s_fringeref05_Has : List AV → List Blk → (AV → List Blk → Ans) → Ans := fun xs bs K => match xs, bs with
  | [.v (.agg [.int .i64 lo, .int .i64 hi]), .v (.agg [.int .i64 num, .int .i64 den])], [] => K (rBoolE (hasS ⟨lo, hi⟩ ⟨num, den⟩)) []
  | _, _ => none
def T_fringeref05_Has : Nat → List AV → List Blk → (AV → List Blk → Ans) → Ans := upd T_sine_Has 22 s_fringeref05_Has
theorem g_fringeref05_Has : GOK Try.prog GT gbT T_fringeref05_Has XT := by
  refine GOK.upd g_sine_Has (fun args w => Try.call22 args w) fun xs bs K r h => ?_
  unfold s_fringeref05_Has at h
  split at h
  · exact ⟨_, _, c_fringeref05_Has _ _ _ _, h⟩
  · cases h


set_option maxRecDepth 100000 in
/-- fringeref01.Both -/
theorem w_fringeref01_Both (a b c d : Int) (K : AV → List Blk → Ans) : evFn Try.prog GT EQT T_fringeref05_Has XT noL 60 32 [.v (.agg [.int .i64 a, .int .i64 b]), .v (.agg [.int .i64 c, .int .i64 d])] [] (fun v M => K v (M.take ([] : List Blk).length)) = K (rI (bothE ⟨a, b⟩ ⟨c, d⟩)) [] := by
  simp only [bothE, pullK K]
  kernel_rfl
theorem c_fringeref01_Both (a b c d : Int) : CallsA Try.prog GT gbT 32 [.v (.agg [.int .i64 a, .int .i64 b]), .v (.agg [.int .i64 c, .int .i64 d])] [] (rI (bothE ⟨a, b⟩ ⟨c, d⟩)) [] := by
  refine CallsA.ofOk fun hok => ?_
  have hw := w_fringeref01_Both a b c d (fun v M => some (Res.fin v M))
  refine CallsA.ofEv (Γ := T_fringeref05_Has) (X := XT) (Λ := noL) (EQ := EQT) (n := 60) g_fringeref05_Has hEQT hmT (fun _ _ _ _ => noL_ok _) (hw.trans ?_)
  rfl
def s_fringeref01_Both : List AV → List Blk → (AV → List Blk → Ans) → Ans := fun xs bs K => match xs, bs with
  | [.v (.agg [.int .i64 a, .int .i64 b]), .v (.agg [.int .i64 c, .int .i64 d])], [] => K (rI (bothE ⟨a, b⟩ ⟨c, d⟩)) []
  | _, _ => none
def T_fringeref01_Both : Nat → List AV → List Blk → (AV → List Blk → Ans) → Ans := upd T_fringeref05_Has 32 s_fringeref01_Both
theorem g_fringeref01_Both : GOK Try.prog GT gbT T_fringeref01_Both XT := by
  refine GOK.upd g_fringeref05_Has (fun args w => Try.call32 args w) fun xs bs K r h => ?_
  unfold s_fringeref01_Both at h
  split at h
  · exact ⟨_, _, c_fringeref01_Both _ _ _ _, h⟩
  · cases h


set_option maxRecDepth 100000 in
/-- fringeref01.sum -/
theorem w_fringeref01_sum (a b c d e f g h : Int) (K : AV → List Blk → Ans) : evFn Try.prog GT EQT T_fringeref01_Both XT noL 60 52 [.v (.agg [.int .u64 a, .int .u64 b, .int .u64 c, .int .u64 d]), .v (.agg [.int .u64 e, .int .u64 f, .int .u64 g, .int .u64 h])] [] (fun v M => K v (M.take ([] : List Blk).length)) = K (rBig (sumBig ⟨a, b, c, d⟩ ⟨e, f, g, h⟩)) [] := by
  kernel_rfl
theorem c_fringeref01_sum (a b c d e f g h : Int) (hd : (sumOn ⟨a, b, c, d⟩ ⟨e, f, g, h⟩) = true) : CallsA Try.prog GT gbT 52 [.v (.agg [.int .u64 a, .int .u64 b, .int .u64 c, .int .u64 d]), .v (.agg [.int .u64 e, .int .u64 f, .int .u64 g, .int .u64 h])] [] (rBig (bigOf (valOf ⟨a, b, c, d⟩ + valOf ⟨e, f, g, h⟩))) [] := by
  refine CallsA.ofOk fun hok => ?_
  have hw := w_fringeref01_sum a b c d e f g h (fun v M => some (Res.fin v M))
  refine CallsA.ofEv (Γ := T_fringeref01_Both) (X := XT) (Λ := noL) (EQ := EQT) (n := 60) g_fringeref01_Both hEQT hmT (fun _ _ _ _ => noL_ok _) (hw.trans ?_)
  have h_a := inR_u64 (hok (.int .u64 a) (by simp [datasL, datas]))
  have h_b := inR_u64 (hok (.int .u64 b) (by simp [datasL, datas]))
  have h_c := inR_u64 (hok (.int .u64 c) (by simp [datasL, datas]))
  have h_d := inR_u64 (hok (.int .u64 d) (by simp [datasL, datas]))
  have h_e := inR_u64 (hok (.int .u64 e) (by simp [datasL, datas]))
  have h_f := inR_u64 (hok (.int .u64 f) (by simp [datasL, datas]))
  have h_g := inR_u64 (hok (.int .u64 g) (by simp [datasL, datas]))
  have h_h := inR_u64 (hok (.int .u64 h) (by simp [datasL, datas]))
  clear hok hw
  refine congrArg (fun v => some (Res.fin v [])) ?_
  rw [sumBig_ok hd]
def s_fringeref01_sum : List AV → List Blk → (AV → List Blk → Ans) → Ans := fun xs bs K => match xs, bs with
  | [.v (.agg [.int .u64 a, .int .u64 b, .int .u64 c, .int .u64 d]), .v (.agg [.int .u64 e, .int .u64 f, .int .u64 g, .int .u64 h])], [] => bif sumOn ⟨a, b, c, d⟩ ⟨e, f, g, h⟩ then K (rBig (bigOf (valOf ⟨a, b, c, d⟩ + valOf ⟨e, f, g, h⟩))) [] else none
  | _, _ => none
def T_fringeref01_sum : Nat → List AV → List Blk → (AV → List Blk → Ans) → Ans := upd T_fringeref01_Both 52 s_fringeref01_sum
theorem g_fringeref01_sum : GOK Try.prog GT gbT T_fringeref01_sum XT := by
  refine GOK.upd g_fringeref01_Both (fun args w => Try.call52 args w) fun xs bs K r h => ?_
  unfold s_fringeref01_sum at h
  split at h
  · simp only [cond_eq_ite] at h
    split at h
    · exact ⟨_, _, c_fringeref01_sum _ _ _ _ _ _ _ _ ‹_›, h⟩
    · cases h
  · cases h


set_option maxRecDepth 100000 in
/-- fringeref01.rest -/
theorem w_fringeref01_rest (a b c d e f g h : Int) (K : AV → List Blk → Ans) : evFn Try.prog GT EQT T_fringeref01_sum XT noL 60 54 [.v (.agg [.int .u64 a, .int .u64 b, .int .u64 c, .int .u64 d]), .v (.agg [.int .u64 e, .int .u64 f, .int .u64 g, .int .u64 h])] [] (fun v M => K v (M.take ([] : List Blk).length)) = K (rBig (restBig ⟨a, b, c, d⟩ ⟨e, f, g, h⟩)) [] := by
  kernel_rfl
theorem c_fringeref01_rest (a b c d e f g h : Int) (hd : (restOn ⟨a, b, c, d⟩ ⟨e, f, g, h⟩) = true) : CallsA Try.prog GT gbT 54 [.v (.agg [.int .u64 a, .int .u64 b, .int .u64 c, .int .u64 d]), .v (.agg [.int .u64 e, .int .u64 f, .int .u64 g, .int .u64 h])] [] (rBig (bigOf (valOf ⟨a, b, c, d⟩ - valOf ⟨e, f, g, h⟩))) [] := by
  refine CallsA.ofOk fun hok => ?_
  have hw := w_fringeref01_rest a b c d e f g h (fun v M => some (Res.fin v M))
  refine CallsA.ofEv (Γ := T_fringeref01_sum) (X := XT) (Λ := noL) (EQ := EQT) (n := 60) g_fringeref01_sum hEQT hmT (fun _ _ _ _ => noL_ok _) (hw.trans ?_)
  have h_a := inR_u64 (hok (.int .u64 a) (by simp [datasL, datas]))
  have h_b := inR_u64 (hok (.int .u64 b) (by simp [datasL, datas]))
  have h_c := inR_u64 (hok (.int .u64 c) (by simp [datasL, datas]))
  have h_d := inR_u64 (hok (.int .u64 d) (by simp [datasL, datas]))
  have h_e := inR_u64 (hok (.int .u64 e) (by simp [datasL, datas]))
  have h_f := inR_u64 (hok (.int .u64 f) (by simp [datasL, datas]))
  have h_g := inR_u64 (hok (.int .u64 g) (by simp [datasL, datas]))
  have h_h := inR_u64 (hok (.int .u64 h) (by simp [datasL, datas]))
  clear hok hw
  refine congrArg (fun v => some (Res.fin v [])) ?_
  rw [restBig_ok hd]
def s_fringeref01_rest : List AV → List Blk → (AV → List Blk → Ans) → Ans := fun xs bs K => match xs, bs with
  | [.v (.agg [.int .u64 a, .int .u64 b, .int .u64 c, .int .u64 d]), .v (.agg [.int .u64 e, .int .u64 f, .int .u64 g, .int .u64 h])], [] => bif restOn ⟨a, b, c, d⟩ ⟨e, f, g, h⟩ then K (rBig (bigOf (valOf ⟨a, b, c, d⟩ - valOf ⟨e, f, g, h⟩))) [] else none
  | _, _ => none
def T_fringeref01_rest : Nat → List AV → List Blk → (AV → List Blk → Ans) → Ans := upd T_fringeref01_sum 54 s_fringeref01_rest
theorem g_fringeref01_rest : GOK Try.prog GT gbT T_fringeref01_rest XT := by
  refine GOK.upd g_fringeref01_sum (fun args w => Try.call54 args w) fun xs bs K r h => ?_
  unfold s_fringeref01_rest at h
  split at h
  · simp only [cond_eq_ite] at h
    split at h
    · exact ⟨_, _, c_fringeref01_rest _ _ _ _ _ _ _ _ ‹_›, h⟩
    · cases h
  · cases h


set_option maxRecDepth 100000 in
/-- fringeref01.Neg -/
theorem w_fringeref01_Neg (a b : Int) (K : AV → List Blk → Ans) : evFn Try.prog GT EQT T_fringeref01_rest XT noL 60 57 [.v (.agg [.int .i64 a, .int .i64 b])] [] (fun v M => K v (M.take ([] : List Blk).length)) = K (rFrac ⟨w64 (0 - a), b⟩) [] := by
  kernel_rfl
theorem c_fringeref01_Neg (a b : Int) : CallsA Try.prog GT gbT 57 [.v (.agg [.int .i64 a, .int .i64 b])] [] (rFrac ⟨w64 (0 - a), b⟩) [] := by
  refine CallsA.ofOk fun hok => ?_
  have hw := w_fringeref01_Neg a b (fun v M => some (Res.fin v M))
  refine CallsA.ofEv (Γ := T_fringeref01_rest) (X := XT) (Λ := noL) (EQ := EQT) (n := 60) g_fringeref01_rest hEQT hmT (fun _ _ _ _ => noL_ok _) (hw.trans ?_)
  rfl
def s_fringeref01_Neg : List AV → List Blk → (AV → List Blk → Ans) → Ans := fun xs bs K => match xs, bs with
  | [.v (.agg [.int .i64 a, .int .i64 b])], [] => K (rFrac ⟨w64 (0 - a), b⟩) []
  | _, _ => none
def T_fringeref01_Neg : Nat → List AV → List Blk → (AV → List Blk → Ans) → Ans := upd T_fringeref01_rest 57 s_fringeref01_Neg
theorem g_fringeref01_Neg : GOK Try.prog GT gbT T_fringeref01_Neg XT := by
  refine GOK.upd g_fringeref01_rest (fun args w => Try.call57 args w) fun xs bs K r h => ?_
  unfold s_fringeref01_Neg at h
  split at h
  · exact ⟨_, _, c_fringeref01_Neg _ _, h⟩
  · cases h


set_option maxRecDepth 100000 in
/-- fringeref01.Add -/
theorem w_fringeref01_Add (a b c d : Int) (K : AV → List Blk → Ans) : evFn Try.prog GT EQT T_fringeref01_Neg XT noL 120 34 [.v (.agg [.int .i64 a, .int .i64 b]), .v (.agg [.int .i64 c, .int .i64 d])] [] (fun v M => K v (M.take ([] : List Blk).length)) = addRefAns K ⟨a, b⟩ ⟨c, d⟩ := by
  kernel_rfl
theorem c_fringeref01_Add (a b c d : Int) : CallsA Try.prog GT gbT 34 [.v (.agg [.int .i64 a, .int .i64 b]), .v (.agg [.int .i64 c, .int .i64 d])] [] (rFracE (addF ⟨a, b⟩ ⟨c, d⟩)) [] := by
  refine CallsA.ofOk fun hok => ?_
  have hw := w_fringeref01_Add a b c d (fun v M => some (Res.fin v M))
  refine CallsA.ofEv (Γ := T_fringeref01_Neg) (X := XT) (Λ := noL) (EQ := EQT) (n := 120) g_fringeref01_Neg hEQT hmT (fun _ _ _ _ => noL_ok _) (hw.trans ?_)
  have h_a := inR_i64 (hok (.int .i64 a) (by simp [datasL, datas]))
  have h_b := inR_i64 (hok (.int .i64 b) (by simp [datasL, datas]))
  have h_c := inR_i64 (hok (.int .i64 c) (by simp [datasL, datas]))
  have h_d := inR_i64 (hok (.int .i64 d) (by simp [datasL, datas]))
  clear hok hw
  exact addRefAns_ok (K := fun v M => some (Res.fin v M))
def s_fringeref01_Add : List AV → List Blk → (AV → List Blk → Ans) → Ans := fun xs bs K => match xs, bs with
  | [.v (.agg [.int .i64 a, .int .i64 b]), .v (.agg [.int .i64 c, .int .i64 d])], [] => K (rFracE (addF ⟨a, b⟩ ⟨c, d⟩)) []
  | _, _ => none
def T_fringeref01_Add : Nat → List AV → List Blk → (AV → List Blk → Ans) → Ans := upd T_fringeref01_Neg 34 s_fringeref01_Add
theorem g_fringeref01_Add : GOK Try.prog GT gbT T_fringeref01_Add XT := by
  refine GOK.upd g_fringeref01_Neg (fun args w => Try.call34 args w) fun xs bs K r h => ?_
  unfold s_fringeref01_Add at h
  split at h
  · exact ⟨_, _, c_fringeref01_Add _ _ _ _, h⟩
  · cases h


set_option maxRecDepth 100000 in
/-- fringeref01.Sub -/
theorem w_fringeref01_Sub (a b c d : Int) (K : AV → List Blk → Ans) : evFn Try.prog GT EQT T_fringeref01_Add XT noL 60 35 [.v (.agg [.int .i64 a, .int .i64 b]), .v (.agg [.int .i64 c, .int .i64 d])] [] (fun v M => K v (M.take ([] : List Blk).length)) = subRefAns K ⟨a, b⟩ ⟨c, d⟩ := by
  kernel_rfl
theorem c_fringeref01_Sub (a b c d : Int) : CallsA Try.prog GT gbT 35 [.v (.agg [.int .i64 a, .int .i64 b]), .v (.agg [.int .i64 c, .int .i64 d])] [] (rFracE (subF ⟨a, b⟩ ⟨c, d⟩)) [] := by
  refine CallsA.ofOk fun hok => ?_
  have hw := w_fringeref01_Sub a b c d (fun v M => some (Res.fin v M))
  refine CallsA.ofEv (Γ := T_fringeref01_Add) (X := XT) (Λ := noL) (EQ := EQT) (n := 60) g_fringeref01_Add hEQT hmT (fun _ _ _ _ => noL_ok _) (hw.trans ?_)
  have h_a := inR_i64 (hok (.int .i64 a) (by simp [datasL, datas]))
  have h_b := inR_i64 (hok (.int .i64 b) (by simp [datasL, datas]))
  have h_c := inR_i64 (hok (.int .i64 c) (by simp [datasL, datas]))
  have h_d := inR_i64 (hok (.int .i64 d) (by simp [datasL, datas]))
  clear hok hw
  exact subRefAns_ok (K := fun v M => some (Res.fin v M))
def s_fringeref01_Sub : List AV → List Blk → (AV → List Blk → Ans) → Ans := fun xs bs K => match xs, bs with
  | [.v (.agg [.int .i64 a, .int .i64 b]), .v (.agg [.int .i64 c, .int .i64 d])], [] => K (rFracE (subF ⟨a, b⟩ ⟨c, d⟩)) []
  | _, _ => none
def T_fringeref01_Sub : Nat → List AV → List Blk → (AV → List Blk → Ans) → Ans := upd T_fringeref01_Add 35 s_fringeref01_Sub
theorem g_fringeref01_Sub : GOK Try.prog GT gbT T_fringeref01_Sub XT := by
  refine GOK.upd g_fringeref01_Add (fun args w => Try.call35 args w) fun xs bs K r h => ?_
  unfold s_fringeref01_Sub at h
  split at h
  · exact ⟨_, _, c_fringeref01_Sub _ _ _ _, h⟩
  · cases h


set_option maxRecDepth 100000 in
/-- fringeref01.Mul -/
theorem w_fringeref01_Mul (a b c d : Int) (K : AV → List Blk → Ans) : evFn Try.prog GT EQT T_fringeref01_Sub XT noL 60 36 [.v (.agg [.int .i64 a, .int .i64 b]), .v (.agg [.int .i64 c, .int .i64 d])] [] (fun v M => K v (M.take ([] : List Blk).length)) = mulRefAns K ⟨a, b⟩ ⟨c, d⟩ := by
  kernel_rfl
theorem c_fringeref01_Mul (a b c d : Int) : CallsA Try.prog GT gbT 36 [.v (.agg [.int .i64 a, .int .i64 b]), .v (.agg [.int .i64 c, .int .i64 d])] [] (rFracE (mulF ⟨a, b⟩ ⟨c, d⟩)) [] := by
  refine CallsA.ofOk fun hok => ?_
  have hw := w_fringeref01_Mul a b c d (fun v M => some (Res.fin v M))
  refine CallsA.ofEv (Γ := T_fringeref01_Sub) (X := XT) (Λ := noL) (EQ := EQT) (n := 60) g_fringeref01_Sub hEQT hmT (fun _ _ _ _ => noL_ok _) (hw.trans ?_)
  have h_a := inR_i64 (hok (.int .i64 a) (by simp [datasL, datas]))
  have h_b := inR_i64 (hok (.int .i64 b) (by simp [datasL, datas]))
  have h_c := inR_i64 (hok (.int .i64 c) (by simp [datasL, datas]))
  have h_d := inR_i64 (hok (.int .i64 d) (by simp [datasL, datas]))
  clear hok hw
  exact mulRefAns_ok (K := fun v M => some (Res.fin v M))
def s_fringeref01_Mul : List AV → List Blk → (AV → List Blk → Ans) → Ans := fun xs bs K => match xs, bs with
  | [.v (.agg [.int .i64 a, .int .i64 b]), .v (.agg [.int .i64 c, .int .i64 d])], [] => K (rFracE (mulF ⟨a, b⟩ ⟨c, d⟩)) []
  | _, _ => none
def T_fringeref01_Mul : Nat → List AV → List Blk → (AV → List Blk → Ans) → Ans := upd T_fringeref01_Sub 36 s_fringeref01_Mul
theorem g_fringeref01_Mul : GOK Try.prog GT gbT T_fringeref01_Mul XT := by
  refine GOK.upd g_fringeref01_Sub (fun args w => Try.call36 args w) fun xs bs K r h => ?_
  unfold s_fringeref01_Mul at h
  split at h
  · exact ⟨_, _, c_fringeref01_Mul _ _ _ _, h⟩
  · cases h


set_option maxRecDepth 100000 in
/-- fringelaw05.alive -/
theorem w_fringelaw05_alive (K : AV → List Blk → Ans) : evFn Try.prog GT EQT (inl Try.prog GT EQT XT [28, 29, 30] T_fringeref01_Mul 60 3) XT noL 60 25 [] [] (fun v M => K v (M.take ([] : List Blk).length)) = K (rB true) [] := by
  kernel_rfl
theorem c_fringelaw05_alive : CallsA Try.prog GT gbT 25 [] [] (rB true) [] := by
  refine CallsA.ofOk fun hok => ?_
  have hw := w_fringelaw05_alive (fun v M => some (Res.fin v M))
  refine CallsA.ofEv (Γ := (inl Try.prog GT EQT XT [28, 29, 30] T_fringeref01_Mul 60 3)) (X := XT) (Λ := noL) (EQ := EQT) (n := 60) (g_fringeref01_Mul.inl hEQT hmT (fun f hf => by simp only [List.mem_cons, List.not_mem_nil, or_false] at hf; rcases hf with rfl | rfl | rfl <;> first | exact (fun args w => Try.call28 args w) | exact (fun args w => Try.call29 args w) | exact (fun args w => Try.call30 args w)) 60 3) hEQT hmT (fun _ _ _ _ => noL_ok _) (hw.trans ?_)
  rfl
def s_fringelaw05_alive : List AV → List Blk → (AV → List Blk → Ans) → Ans := fun xs bs K => match xs, bs with
  | [], [] => K (rB true) []
  | _, _ => none
def T_fringelaw05_alive : Nat → List AV → List Blk → (AV → List Blk → Ans) → Ans := upd T_fringeref01_Mul 25 s_fringelaw05_alive
theorem g_fringelaw05_alive : GOK Try.prog GT gbT T_fringelaw05_alive XT := by
  refine GOK.upd g_fringeref01_Mul (fun args w => Try.call25 args w) fun xs bs K r h => ?_
  unfold s_fringelaw05_alive at h
  split at h
  · exact ⟨_, _, c_fringelaw05_alive, h⟩
  · cases h


set_option maxRecDepth 100000 in
/-- fringelaw05.SineHolds -/
theorem w_fringelaw05_SineHolds (a b c d e f g h : Int) (K : AV → List Blk → Ans) : evFn Try.prog GT EQT T_fringelaw05_alive XT noL 120 8 [.v (.agg [.int .i64 a, .int .i64 b]), .v (.agg [.int .i64 c, .int .i64 d]), .v (.agg [.int .i64 e, .int .i64 f]), .v (.agg [.int .i64 g, .int .i64 h])] [] (fun v M => K v (M.take ([] : List Blk).length)) = lawSineHolds K ⟨a, b⟩ ⟨c, d⟩ ⟨e, f⟩ ⟨g, h⟩ := by
  kernel_rfl
theorem c_fringelaw05_SineHolds (a b c d e f g h : Int) : CallsA Try.prog GT gbT 8 [.v (.agg [.int .i64 a, .int .i64 b]), .v (.agg [.int .i64 c, .int .i64 d]), .v (.agg [.int .i64 e, .int .i64 f]), .v (.agg [.int .i64 g, .int .i64 h])] [] (rB true) [] := by
  refine CallsA.ofOk fun hok => ?_
  have hw := w_fringelaw05_SineHolds a b c d e f g h (fun v M => some (Res.fin v M))
  refine CallsA.ofEv (Γ := T_fringelaw05_alive) (X := XT) (Λ := noL) (EQ := EQT) (n := 120) g_fringelaw05_alive hEQT hmT (fun _ _ _ _ => noL_ok _) (hw.trans ?_)
  have h_a := inR_i64 (hok (.int .i64 a) (by simp [datasL, datas]))
  have h_b := inR_i64 (hok (.int .i64 b) (by simp [datasL, datas]))
  have h_c := inR_i64 (hok (.int .i64 c) (by simp [datasL, datas]))
  have h_d := inR_i64 (hok (.int .i64 d) (by simp [datasL, datas]))
  have h_e := inR_i64 (hok (.int .i64 e) (by simp [datasL, datas]))
  have h_f := inR_i64 (hok (.int .i64 f) (by simp [datasL, datas]))
  have h_g := inR_i64 (hok (.int .i64 g) (by simp [datasL, datas]))
  have h_h := inR_i64 (hok (.int .i64 h) (by simp [datasL, datas]))
  clear hok hw
  exact lawSineHolds_ok (K := fun v M => some (Res.fin v M))
def s_fringelaw05_SineHolds : List AV → List Blk → (AV → List Blk → Ans) → Ans := fun xs bs K => match xs, bs with
  | [.v (.agg [.int .i64 _, .int .i64 _]), .v (.agg [.int .i64 _, .int .i64 _]), .v (.agg [.int .i64 _, .int .i64 _]), .v (.agg [.int .i64 _, .int .i64 _])], [] => K (rB true) []
  | _, _ => none
def T_fringelaw05_SineHolds : Nat → List AV → List Blk → (AV → List Blk → Ans) → Ans := upd T_fringelaw05_alive 8 s_fringelaw05_SineHolds
theorem g_fringelaw05_SineHolds : GOK Try.prog GT gbT T_fringelaw05_SineHolds XT := by
  refine GOK.upd g_fringelaw05_alive (fun args w => Try.call8 args w) fun xs bs K r h => ?_
  unfold s_fringelaw05_SineHolds at h
  split at h
  · exact ⟨_, _, c_fringelaw05_SineHolds _ _ _ _ _ _ _ _, h⟩
  · cases h


end Go.Ev
