/-
  Contracts of functions: what each returns. No condition beyond those of the statements.
-/
import Derived.Test.YthnfmabjjndhhaaSuCC
namespace Go.Ev
open Go Go.Proofs

set_option maxRecDepth 100000 in
/-- fringeref05.Sub -/
theorem w_fringeref05_Sub (a b c d : Int) (K : AV → List Blk → Ans) : evFn Try.prog GT EQT T_sine_Sub XT noL 60 16 [.v (.agg [.int .i64 a, .int .i64 b]), .v (.agg [.int .i64 c, .int .i64 d])] [] (fun v M => K v (M.take ([] : List Blk).length)) = K (rSpanE (subRef ⟨a, b⟩ ⟨c, d⟩)) [] := by
  simp only [subRef, pullK K]
  kernel_rfl
theorem c_fringeref05_Sub (a b c d : Int) : CallsA Try.prog GT gbT 16 [.v (.agg [.int .i64 a, .int .i64 b]), .v (.agg [.int .i64 c, .int .i64 d])] [] (rSpanE (subS ⟨a, b⟩ ⟨c, d⟩)) [] := by
  refine CallsA.ofOk fun hok => ?_
  have hw := w_fringeref05_Sub a b c d (fun v M => some (Res.fin v M))
  refine CallsA.ofEv (Γ := T_sine_Sub) (X := XT) (Λ := noL) (EQ := EQT) (n := 60) g_sine_Sub hEQT hmT (fun _ _ _ _ => noL_ok _) (hw.trans ?_)
  have h_a := inR_i64 (hok (.int .i64 a) (by simp [datasL, datas]))
  have h_b := inR_i64 (hok (.int .i64 b) (by simp [datasL, datas]))
  have h_c := inR_i64 (hok (.int .i64 c) (by simp [datasL, datas]))
  have h_d := inR_i64 (hok (.int .i64 d) (by simp [datasL, datas]))
  clear hok hw
  refine congrArg (fun v => some (Res.fin v [])) ?_
  rw [subRef_ok]
def s_fringeref05_Sub : List AV → List Blk → (AV → List Blk → Ans) → Ans := fun xs bs K => match xs, bs with
  | [.v (.agg [.int .i64 a, .int .i64 b]), .v (.agg [.int .i64 c, .int .i64 d])], [] => K (rSpanE (subS ⟨a, b⟩ ⟨c, d⟩)) []
  | _, _ => none
def T_fringeref05_Sub : Nat → List AV → List Blk → (AV → List Blk → Ans) → Ans := upd T_sine_Sub 16 s_fringeref05_Sub
theorem g_fringeref05_Sub : GOK Try.prog GT gbT T_fringeref05_Sub XT := by
  refine GOK.upd g_sine_Sub (fun args w => Try.call16 args w) fun xs bs K r h => ?_
  unfold s_fringeref05_Sub at h
  split at h
  · exact ⟨_, _, c_fringeref05_Sub _ _ _ _, h⟩
  · cases h


set_option maxRecDepth 100000 in
/-- sine.Mul -/
theorem w_sine_Mul (a b c d : Int) (K : AV → List Blk → Ans) : evFn Try.prog GT EQT T_fringeref05_Sub XT noL 60 17 [.v (.agg [.int .i64 a, .int .i64 b]), .v (.agg [.int .i64 c, .int .i64 d])] [] (fun v M => K v (M.take ([] : List Blk).length)) = K (rSpanE (mulRaw' ⟨a, b⟩ ⟨c, d⟩)) [] := by
  simp only [mulRaw', pullK K]
  kernel_rfl
theorem c_sine_Mul (a b c d : Int) : CallsA Try.prog GT gbT 17 [.v (.agg [.int .i64 a, .int .i64 b]), .v (.agg [.int .i64 c, .int .i64 d])] [] (rSpanE (mulS ⟨a, b⟩ ⟨c, d⟩)) [] := by
  refine CallsA.ofOk fun hok => ?_
  have hw := w_sine_Mul a b c d (fun v M => some (Res.fin v M))
  refine CallsA.ofEv (Γ := T_fringeref05_Sub) (X := XT) (Λ := noL) (EQ := EQT) (n := 60) g_fringeref05_Sub hEQT hmT (fun _ _ _ _ => noL_ok _) (hw.trans ?_)
  have h_a := inR_i64 (hok (.int .i64 a) (by simp [datasL, datas]))
  have h_b := inR_i64 (hok (.int .i64 b) (by simp [datasL, datas]))
  have h_c := inR_i64 (hok (.int .i64 c) (by simp [datasL, datas]))
  have h_d := inR_i64 (hok (.int .i64 d) (by simp [datasL, datas]))
  clear hok hw
  refine congrArg (fun v => some (Res.fin v [])) ?_
  rw [mulRaw'_ok]
def s_sine_Mul : List AV → List Blk → (AV → List Blk → Ans) → Ans := fun xs bs K => match xs, bs with
  | [.v (.agg [.int .i64 a, .int .i64 b]), .v (.agg [.int .i64 c, .int .i64 d])], [] => K (rSpanE (mulS ⟨a, b⟩ ⟨c, d⟩)) []
  | _, _ => none
def T_sine_Mul : Nat → List AV → List Blk → (AV → List Blk → Ans) → Ans := upd T_fringeref05_Sub 17 s_sine_Mul
theorem g_sine_Mul : GOK Try.prog GT gbT T_sine_Mul XT := by
  refine GOK.upd g_fringeref05_Sub (fun args w => Try.call17 args w) fun xs bs K r h => ?_
  unfold s_sine_Mul at h
  split at h
  · exact ⟨_, _, c_sine_Mul _ _ _ _, h⟩
  · cases h


set_option maxRecDepth 100000 in
/-- fringeref05.Mul -/
theorem w_fringeref05_Mul (a b c d : Int) (K : AV → List Blk → Ans) : evFn Try.prog GT EQT T_sine_Mul XT noL 60 18 [.v (.agg [.int .i64 a, .int .i64 b]), .v (.agg [.int .i64 c, .int .i64 d])] [] (fun v M => K v (M.take ([] : List Blk).length)) = K (rSpanE (mulRaw' ⟨a, b⟩ ⟨c, d⟩)) [] := by
  simp only [mulRaw', pullK K]
  kernel_rfl
theorem c_fringeref05_Mul (a b c d : Int) : CallsA Try.prog GT gbT 18 [.v (.agg [.int .i64 a, .int .i64 b]), .v (.agg [.int .i64 c, .int .i64 d])] [] (rSpanE (mulS ⟨a, b⟩ ⟨c, d⟩)) [] := by
  refine CallsA.ofOk fun hok => ?_
  have hw := w_fringeref05_Mul a b c d (fun v M => some (Res.fin v M))
  refine CallsA.ofEv (Γ := T_sine_Mul) (X := XT) (Λ := noL) (EQ := EQT) (n := 60) g_sine_Mul hEQT hmT (fun _ _ _ _ => noL_ok _) (hw.trans ?_)
  have h_a := inR_i64 (hok (.int .i64 a) (by simp [datasL, datas]))
  have h_b := inR_i64 (hok (.int .i64 b) (by simp [datasL, datas]))
  have h_c := inR_i64 (hok (.int .i64 c) (by simp [datasL, datas]))
  have h_d := inR_i64 (hok (.int .i64 d) (by simp [datasL, datas]))
  clear hok hw
  refine congrArg (fun v => some (Res.fin v [])) ?_
  rw [mulRaw'_ok]
def s_fringeref05_Mul : List AV → List Blk → (AV → List Blk → Ans) → Ans := fun xs bs K => match xs, bs with
  | [.v (.agg [.int .i64 a, .int .i64 b]), .v (.agg [.int .i64 c, .int .i64 d])], [] => K (rSpanE (mulS ⟨a, b⟩ ⟨c, d⟩)) []
  | _, _ => none
def T_fringeref05_Mul : Nat → List AV → List Blk → (AV → List Blk → Ans) → Ans := upd T_sine_Mul 18 s_fringeref05_Mul
theorem g_fringeref05_Mul : GOK Try.prog GT gbT T_fringeref05_Mul XT := by
  refine GOK.upd g_sine_Mul (fun args w => Try.call18 args w) fun xs bs K r h => ?_
  unfold s_fringeref05_Mul at h
  split at h
  · exact ⟨_, _, c_fringeref05_Mul _ _ _ _, h⟩
  · cases h


set_option maxRecDepth 100000 in
/-- sine.Sign -/
theorem w_sine_Sign (a b : Int) (K : AV → List Blk → Ans) : evFn Try.prog GT EQT T_fringeref05_Mul XT noL 60 23 [.v (.agg [.int .i64 a, .int .i64 b])] [] (fun v M => K v (M.take ([] : List Blk).length)) = K (rIntE (signS ⟨a, b⟩)) [] := by
  simp only [signS, pullK K]
  kernel_rfl
theorem c_sine_Sign (a b : Int) : CallsA Try.prog GT gbT 23 [.v (.agg [.int .i64 a, .int .i64 b])] [] (rIntE (signS ⟨a, b⟩)) [] := by
  refine CallsA.ofOk fun hok => ?_
  have hw := w_sine_Sign a b (fun v M => some (Res.fin v M))
  refine CallsA.ofEv (Γ := T_fringeref05_Mul) (X := XT) (Λ := noL) (EQ := EQT) (n := 60) g_fringeref05_Mul hEQT hmT (fun _ _ _ _ => noL_ok _) (hw.trans ?_)
  rfl
def s_sine_Sign : List AV → List Blk → (AV → List Blk → Ans) → Ans := fun xs bs K => match xs, bs with
  | [.v (.agg [.int .i64 a, .int .i64 b])], [] => K (rIntE (signS ⟨a, b⟩)) []
  | _, _ => none
def T_sine_Sign : Nat → List AV → List Blk → (AV → List Blk → Ans) → Ans := upd T_fringeref05_Mul 23 s_sine_Sign
theorem g_sine_Sign : GOK Try.prog GT gbT T_sine_Sign XT := by
  refine GOK.upd g_fringeref05_Mul (fun args w => Try.call23 args w) fun xs bs K r h => ?_
  unfold s_sine_Sign at h
  split at h
  · exact ⟨_, _, c_sine_Sign _ _, h⟩
  · cases h


set_option maxRecDepth 100000 in
/-- fringeref05.Sign -/
theorem w_fringeref05_Sign (a b : Int) (K : AV → List Blk → Ans) : evFn Try.prog GT EQT T_sine_Sign XT noL 60 24 [.v (.agg [.int .i64 a, .int .i64 b])] [] (fun v M => K v (M.take ([] : List Blk).length)) = K (rIntE (signRef ⟨a, b⟩)) [] := by
  simp only [signRef, pullK K]
  kernel_rfl
theorem c_fringeref05_Sign (a b : Int) : CallsA Try.prog GT gbT 24 [.v (.agg [.int .i64 a, .int .i64 b])] [] (rIntE (signS ⟨a, b⟩)) [] := by
  refine CallsA.ofOk fun hok => ?_
  have hw := w_fringeref05_Sign a b (fun v M => some (Res.fin v M))
  refine CallsA.ofEv (Γ := T_sine_Sign) (X := XT) (Λ := noL) (EQ := EQT) (n := 60) g_sine_Sign hEQT hmT (fun _ _ _ _ => noL_ok _) (hw.trans ?_)
  have h_a := inR_i64 (hok (.int .i64 a) (by simp [datasL, datas]))
  have h_b := inR_i64 (hok (.int .i64 b) (by simp [datasL, datas]))
  clear hok hw
  refine congrArg (fun v => some (Res.fin v [])) ?_
  rw [signRef_ok]
def s_fringeref05_Sign : List AV → List Blk → (AV → List Blk → Ans) → Ans := fun xs bs K => match xs, bs with
  | [.v (.agg [.int .i64 a, .int .i64 b])], [] => K (rIntE (signS ⟨a, b⟩)) []
  | _, _ => none
def T_fringeref05_Sign : Nat → List AV → List Blk → (AV → List Blk → Ans) → Ans := upd T_sine_Sign 24 s_fringeref05_Sign
theorem g_fringeref05_Sign : GOK Try.prog GT gbT T_fringeref05_Sign XT := by
  refine GOK.upd g_sine_Sign (fun args w => Try.call24 args w) fun xs bs K r h => ?_
  unfold s_fringeref05_Sign at h
  split at h
  · exact ⟨_, _, c_fringeref05_Sign _ _, h⟩
  · cases h


set_option maxRecDepth 100000 in
/-- sine.around -/
theorem w_sine_around (num den : Int) (K : AV → List Blk → Ans) : evFn Try.prog GT EQT T_fringeref05_Sign XT noL 60 45 [.v (.agg [.int .i64 num, .int .i64 den])] [] (fun v M => K v (M.take ([] : List Blk).length)) = bif decide (num < 0) then aroundAns K num den (w64 (0 - num)) else aroundAns K num den num := by
  simp only [aroundAns, aroundTail, pullK K]
  kernel_rfl
theorem c_sine_around (num den : Int) (hd : (fracOkB ⟨num, den⟩) = true) : CallsA Try.prog GT gbT 45 [.v (.agg [.int .i64 num, .int .i64 den])] [] (rSpanB (aroundB ⟨num, den⟩)) [] := by
  refine CallsA.ofOk fun hok => ?_
  have hw := w_sine_around num den (fun v M => some (Res.fin v M))
  refine CallsA.ofEv (Γ := T_fringeref05_Sign) (X := XT) (Λ := noL) (EQ := EQT) (n := 60) g_fringeref05_Sign hEQT hmT (fun _ _ _ _ => noL_ok _) (hw.trans ?_)
  have h_num := inR_i64 (hok (.int .i64 num) (by simp [datasL, datas]))
  have h_den := inR_i64 (hok (.int .i64 den) (by simp [datasL, datas]))
  clear hok hw
  have hk := fracOkB_iff.1 hd
  have h1 := hk.numlo
  have h2 := hk.numhi
  simp only at h1 h2
  by_cases hn : num < 0
  · rw [decide_eq_true hn, cond_true, w64_id (by omega)]
    exact aroundAns_ok (K := fun v M => some (Res.fin v M)) hk (by rw [absI_of_neg hn]; omega)
  · rw [decide_eq_false hn, cond_false]
    exact aroundAns_ok (K := fun v M => some (Res.fin v M)) hk (absI_of_nonneg (by omega)).symm
def s_sine_around : List AV → List Blk → (AV → List Blk → Ans) → Ans := fun xs bs K => match xs, bs with
  | [.v (.agg [.int .i64 num, .int .i64 den])], [] => bif fracOkB ⟨num, den⟩ then K (rSpanB (aroundB ⟨num, den⟩)) [] else none
  | _, _ => none
def T_sine_around : Nat → List AV → List Blk → (AV → List Blk → Ans) → Ans := upd T_fringeref05_Sign 45 s_sine_around
theorem g_sine_around : GOK Try.prog GT gbT T_sine_around XT := by
  refine GOK.upd g_fringeref05_Sign (fun args w => Try.call45 args w) fun xs bs K r h => ?_
  unfold s_sine_around at h
  split at h
  · simp only [cond_eq_ite] at h
    split at h
    · exact ⟨_, _, c_sine_around _ _ ‹_›, h⟩
    · cases h
  · cases h


set_option maxRecDepth 100000 in
/-- sine.Of -/
theorem w_sine_Of (num den : Int) (K : AV → List Blk → Ans) : evFn Try.prog GT EQT T_sine_around XT noL 60 19 [.v (.agg [.int .i64 num, .int .i64 den])] [] (fun v M => K v (M.take ([] : List Blk).length)) = bif checkF ⟨num, den⟩ != 0 then K (rSpanE (spanZ, 8)) [] else bif fracOkB ⟨num, den⟩ then (bif !(aroundB ⟨num, den⟩).2 then K (rSpanE (spanZ, 16)) [] else K (rSpanE (rangedS (aroundB ⟨num, den⟩).1)) []) else none := by
  kernel_rfl
theorem c_sine_Of (num den : Int) : CallsA Try.prog GT gbT 19 [.v (.agg [.int .i64 num, .int .i64 den])] [] (rSpanE (ofS ⟨num, den⟩)) [] := by
  refine CallsA.ofOk fun hok => ?_
  have hw := w_sine_Of num den (fun v M => some (Res.fin v M))
  refine CallsA.ofEv (Γ := T_sine_around) (X := XT) (Λ := noL) (EQ := EQT) (n := 60) g_sine_around hEQT hmT (fun _ _ _ _ => noL_ok _) (hw.trans ?_)
  have h_num := inR_i64 (hok (.int .i64 num) (by simp [datasL, datas]))
  have h_den := inR_i64 (hok (.int .i64 den) (by simp [datasL, datas]))
  clear hok hw
  exact sineOf_ok (K := fun v M => some (Res.fin v M))
def s_sine_Of : List AV → List Blk → (AV → List Blk → Ans) → Ans := fun xs bs K => match xs, bs with
  | [.v (.agg [.int .i64 num, .int .i64 den])], [] => K (rSpanE (ofS ⟨num, den⟩)) []
  | _, _ => none
def T_sine_Of : Nat → List AV → List Blk → (AV → List Blk → Ans) → Ans := upd T_sine_around 19 s_sine_Of
theorem g_sine_Of : GOK Try.prog GT gbT T_sine_Of XT := by
  refine GOK.upd g_sine_around (fun args w => Try.call19 args w) fun xs bs K r h => ?_
  unfold s_sine_Of at h
  split at h
  · exact ⟨_, _, c_sine_Of _ _, h⟩
  · cases h


set_option maxRecDepth 100000 in
/-- fringeref05.Of -/
theorem w_fringeref05_Of (num den : Int) (K : AV → List Blk → Ans) : evFn Try.prog GT EQT T_sine_Of XT noL 90 20 [.v (.agg [.int .i64 num, .int .i64 den])] [] (fun v M => K v (M.take ([] : List Blk).length)) = bif checkF ⟨num, den⟩ != 0 then K (rSpanE (spanZ, 8)) [] else bif decide (0 < den) then ofAns K num den else none := by
  kernel_rfl
theorem c_fringeref05_Of (num den : Int) : CallsA Try.prog GT gbT 20 [.v (.agg [.int .i64 num, .int .i64 den])] [] (rSpanE (ofS ⟨num, den⟩)) [] := by
  refine CallsA.ofOk fun hok => ?_
  have hw := w_fringeref05_Of num den (fun v M => some (Res.fin v M))
  refine CallsA.ofEv (Γ := T_sine_Of) (X := XT) (Λ := noL) (EQ := EQT) (n := 90) g_sine_Of hEQT hmT (fun _ _ _ _ => noL_ok _) (hw.trans ?_)
  have h_num := inR_i64 (hok (.int .i64 num) (by simp [datasL, datas]))
  have h_den := inR_i64 (hok (.int .i64 den) (by simp [datasL, datas]))
  clear hok hw
  exact refOf_ok (K := fun v M => some (Res.fin v M))
def s_fringeref05_Of : List AV → List Blk → (AV → List Blk → Ans) → Ans := fun xs bs K => match xs, bs with
  | [.v (.agg [.int .i64 num, .int .i64 den])], [] => K (rSpanE (ofS ⟨num, den⟩)) []
  | _, _ => none
def T_fringeref05_Of : Nat → List AV → List Blk → (AV → List Blk → Ans) → Ans := upd T_sine_Of 20 s_fringeref05_Of
theorem g_fringeref05_Of : GOK Try.prog GT gbT T_fringeref05_Of XT := by
  refine GOK.upd g_sine_Of (fun args w => Try.call20 args w) fun xs bs K r h => ?_
  unfold s_fringeref05_Of at h
  split at h
  · exact ⟨_, _, c_fringeref05_Of _ _, h⟩
  · cases h


set_option maxRecDepth 100000 in
/-- sine.Has -/
theorem w_sine_Has (lo hi num den : Int) (K : AV → List Blk → Ans) : evFn Try.prog GT EQT T_fringeref05_Of XT noL 60 21 [.v (.agg [.int .i64 lo, .int .i64 hi]), .v (.agg [.int .i64 num, .int .i64 den])] [] (fun v M => K v (M.take ([] : List Blk).length)) = hasAns K ⟨lo, hi⟩ ⟨num, den⟩ := by
  kernel_rfl
theorem c_sine_Has (lo hi num den : Int) : CallsA Try.prog GT gbT 21 [.v (.agg [.int .i64 lo, .int .i64 hi]), .v (.agg [.int .i64 num, .int .i64 den])] [] (rBoolE (hasS ⟨lo, hi⟩ ⟨num, den⟩)) [] := by
  refine CallsA.ofOk fun hok => ?_
  have hw := w_sine_Has lo hi num den (fun v M => some (Res.fin v M))
  refine CallsA.ofEv (Γ := T_fringeref05_Of) (X := XT) (Λ := noL) (EQ := EQT) (n := 60) g_fringeref05_Of hEQT hmT (fun _ _ _ _ => noL_ok _) (hw.trans ?_)
  have h_lo := inR_i64 (hok (.int .i64 lo) (by simp [datasL, datas]))
  have h_hi := inR_i64 (hok (.int .i64 hi) (by simp [datasL, datas]))
  have h_num := inR_i64 (hok (.int .i64 num) (by simp [datasL, datas]))
  have h_den := inR_i64 (hok (.int .i64 den) (by simp [datasL, datas]))
  clear hok hw
  exact hasAns_ok (K := fun v M => some (Res.fin v M))
def s_sine_Has : List AV → List Blk → (AV → List Blk → Ans) → Ans := fun xs bs K => match xs, bs with
  | [.v (.agg [.int .i64 lo, .int .i64 hi]), .v (.agg [.int .i64 num, .int .i64 den])], [] => K (rBoolE (hasS ⟨lo, hi⟩ ⟨num, den⟩)) []
  | _, _ => none
def T_sine_Has : Nat → List AV → List Blk → (AV → List Blk → Ans) → Ans := upd T_fringeref05_Of 21 s_sine_Has
theorem g_sine_Has : GOK Try.prog GT gbT T_sine_Has XT := by
  refine GOK.upd g_fringeref05_Of (fun args w => Try.call21 args w) fun xs bs K r h => ?_
  unfold s_sine_Has at h
  split at h
  · exact ⟨_, _, c_sine_Has _ _ _ _, h⟩
  · cases h


set_option maxRecDepth 100000 in
/-- fringeref05.Has -/
theorem w_fringeref05_Has (lo hi num den : Int) (K : AV → List Blk → Ans) : evFn Try.prog GT EQT T_sine_Has XT noL 60 22 [.v (.agg [.int .i64 lo, .int .i64 hi]), .v (.agg [.int .i64 num, .int .i64 den])] [] (fun v M => K v (M.take ([] : List Blk).length)) = K (rBoolE (hasRef ⟨lo, hi⟩ ⟨num, den⟩)) [] := by
  simp only [hasRef, pullK K]
  kernel_rfl
theorem c_fringeref05_Has (lo hi num den : Int) : CallsA Try.prog GT gbT 22 [.v (.agg [.int .i64 lo, .int .i64 hi]), .v (.agg [.int .i64 num, .int .i64 den])] [] (rBoolE (hasS ⟨lo, hi⟩ ⟨num, den⟩)) [] := by
  refine CallsA.ofOk fun hok => ?_
  have hw := w_fringeref05_Has lo hi num den (fun v M => some (Res.fin v M))
  refine CallsA.ofEv (Γ := T_sine_Has) (X := XT) (Λ := noL) (EQ := EQT) (n := 60) g_sine_Has hEQT hmT (fun _ _ _ _ => noL_ok _) (hw.trans ?_)
  have h_lo := inR_i64 (hok (.int .i64 lo) (by simp [datasL, datas]))
  have h_hi := inR_i64 (hok (.int .i64 hi) (by simp [datasL, datas]))
  have h_num := inR_i64 (hok (.int .i64 num) (by simp [datasL, datas]))
  have h_den := inR_i64 (hok (.int .i64 den) (by simp [datasL, datas]))
  clear hok hw
  refine congrArg (fun v => some (Res.fin v [])) ?_
  rw [hasRef_ok]
def s_fringeref05_Has : List AV → List Blk → (AV → List Blk → Ans) → Ans := fun xs bs K => match xs, bs with
  | [.v (.agg [.int .i64 lo, .int .i64 hi]), .v (.agg [.int .i64 num, .int .i64 den])], [] => K (rBoolE (hasS ⟨lo, hi⟩ ⟨num, den⟩)) []
  | _, _ => none
def T_fringeref05_Has : Nat → List AV → List Blk → (AV → List Blk → Ans) → Ans := upd T_sine_Has 22 s_fringeref05_Has
theorem g_fringeref05_Has : GOK Try.prog GT gbT T_fringeref05_Has XT := by
  refine GOK.upd g_sine_Has (fun args w => Try.call22 args w) fun xs bs K r h => ?_
  unfold s_fringeref05_Has at h
  split at h
  · exact ⟨_, _, c_fringeref05_Has _ _ _ _, h⟩
  · cases h


set_option maxRecDepth 100000 in
/-- fringelaw05.alive -/
theorem w_fringelaw05_alive (K : AV → List Blk → Ans) : evFn Try.prog GT EQT (inl Try.prog GT EQT XT [28, 29, 30] T_fringeref05_Has 60 3) XT noL 60 25 [] [] (fun v M => K v (M.take ([] : List Blk).length)) = K (rB true) [] := by
  kernel_rfl
theorem c_fringelaw05_alive : CallsA Try.prog GT gbT 25 [] [] (rB true) [] := by
  refine CallsA.ofOk fun hok => ?_
  have hw := w_fringelaw05_alive (fun v M => some (Res.fin v M))
  refine CallsA.ofEv (Γ := (inl Try.prog GT EQT XT [28, 29, 30] T_fringeref05_Has 60 3)) (X := XT) (Λ := noL) (EQ := EQT) (n := 60) (g_fringeref05_Has.inl hEQT hmT (fun f hf => by simp only [List.mem_cons, List.not_mem_nil, or_false] at hf; rcases hf with rfl | rfl | rfl <;> first | exact (fun args w => Try.call28 args w) | exact (fun args w => Try.call29 args w) | exact (fun args w => Try.call30 args w)) 60 3) hEQT hmT (fun _ _ _ _ => noL_ok _) (hw.trans ?_)
  rfl
def s_fringelaw05_alive : List AV → List Blk → (AV → List Blk → Ans) → Ans := fun xs bs K => match xs, bs with
  | [], [] => K (rB true) []
  | _, _ => none
def T_fringelaw05_alive : Nat → List AV → List Blk → (AV → List Blk → Ans) → Ans := upd T_fringeref05_Has 25 s_fringelaw05_alive
theorem g_fringelaw05_alive : GOK Try.prog GT gbT T_fringelaw05_alive XT := by
  refine GOK.upd g_fringeref05_Has (fun args w => Try.call25 args w) fun xs bs K r h => ?_
  unfold s_fringelaw05_alive at h
  split at h
  · exact ⟨_, _, c_fringelaw05_alive, h⟩
  · cases h


set_option maxRecDepth 100000 in
/-- fringelaw05.common -/
theorem w_fringelaw05_common (a b c d : Int) (K : AV → List Blk → Ans) : evFn Try.prog GT EQT T_fringelaw05_alive XT noL 60 27 [.v (.agg [.int .i64 a, .int .i64 b]), .v (.agg [.int .i64 c, .int .i64 d])] [] (fun v M => K v (M.take ([] : List Blk).length)) = K (rB (commonB ⟨a, b⟩ ⟨c, d⟩)) [] := by
  simp only [commonB, pullK K]
  kernel_rfl
theorem c_fringelaw05_common (a b c d : Int) : CallsA Try.prog GT gbT 27 [.v (.agg [.int .i64 a, .int .i64 b]), .v (.agg [.int .i64 c, .int .i64 d])] [] (rB (commonB ⟨a, b⟩ ⟨c, d⟩)) [] := by
  refine CallsA.ofOk fun hok => ?_
  have hw := w_fringelaw05_common a b c d (fun v M => some (Res.fin v M))
  refine CallsA.ofEv (Γ := T_fringelaw05_alive) (X := XT) (Λ := noL) (EQ := EQT) (n := 60) g_fringelaw05_alive hEQT hmT (fun _ _ _ _ => noL_ok _) (hw.trans ?_)
  rfl
def s_fringelaw05_common : List AV → List Blk → (AV → List Blk → Ans) → Ans := fun xs bs K => match xs, bs with
  | [.v (.agg [.int .i64 a, .int .i64 b]), .v (.agg [.int .i64 c, .int .i64 d])], [] => K (rB (commonB ⟨a, b⟩ ⟨c, d⟩)) []
  | _, _ => none
def T_fringelaw05_common : Nat → List AV → List Blk → (AV → List Blk → Ans) → Ans := upd T_fringelaw05_alive 27 s_fringelaw05_common
theorem g_fringelaw05_common : GOK Try.prog GT gbT T_fringelaw05_common XT := by
  refine GOK.upd g_fringelaw05_alive (fun args w => Try.call27 args w) fun xs bs K r h => ?_
  unfold s_fringelaw05_common at h
  split at h
  · exact ⟨_, _, c_fringelaw05_common _ _ _ _, h⟩
  · cases h


end Go.Ev
