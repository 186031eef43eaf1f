/-
  Contracts of functions: what each returns. No condition beyond those of the statements.
-/
import Derived.Test.YthnfmabjjndhhaaSuCA
namespace Go.Ev
open Go Go.Proofs

set_option maxRecDepth 100000 in
/-- sine.Cos -/
theorem w_sine_Cos (k n : Int) (K : AV → List Blk → Ans) : evFn Try.prog GT EQT T_sine_turned XT noL 60 9 [.v (.c (.d (.int .i64 k))), .v (.c (.d (.int .i64 n)))] [] (fun v M => K v (M.take ([] : List Blk).length)) = cosAns K k n := by
  kernel_rfl
theorem c_sine_Cos (k n : Int) : CallsA Try.prog GT gbT 9 [.v (.c (.d (.int .i64 k))), .v (.c (.d (.int .i64 n)))] [] (rSpanE (cosS k n)) [] := by
  refine CallsA.ofOk fun hok => ?_
  have hw := w_sine_Cos k n (fun v M => some (Res.fin v M))
  refine CallsA.ofEv (Γ := T_sine_turned) (X := XT) (Λ := noL) (EQ := EQT) (n := 60) g_sine_turned hEQT hmT (fun _ _ _ _ => noL_ok _) (hw.trans ?_)
  have h_k := inR_i64 (hok (.int .i64 k) (by simp [datasL, datas]))
  have h_n := inR_i64 (hok (.int .i64 n) (by simp [datasL, datas]))
  clear hok hw
  exact cosAns_ok (K := fun v M => some (Res.fin v M))
def s_sine_Cos : List AV → List Blk → (AV → List Blk → Ans) → Ans := fun xs bs K => match xs, bs with
  | [.v (.c (.d (.int .i64 k))), .v (.c (.d (.int .i64 n)))], [] => K (rSpanE (cosS k n)) []
  | _, _ => none
def T_sine_Cos : Nat → List AV → List Blk → (AV → List Blk → Ans) → Ans := upd T_sine_turned 9 s_sine_Cos
theorem g_sine_Cos : GOK Try.prog GT gbT T_sine_Cos XT := by
  refine GOK.upd g_sine_turned (fun args w => Try.call9 args w) fun xs bs K r h => ?_
  unfold s_sine_Cos at h
  split at h
  · exact ⟨_, _, c_sine_Cos _ _, h⟩
  · cases h


set_option maxRecDepth 100000 in
/-- sine.Sin -/
theorem w_sine_Sin (k n : Int) (K : AV → List Blk → Ans) : evFn Try.prog GT EQT T_sine_Cos XT noL 60 11 [.v (.c (.d (.int .i64 k))), .v (.c (.d (.int .i64 n)))] [] (fun v M => K v (M.take ([] : List Blk).length)) = sinAns K k n := by
  kernel_rfl
theorem c_sine_Sin (k n : Int) : CallsA Try.prog GT gbT 11 [.v (.c (.d (.int .i64 k))), .v (.c (.d (.int .i64 n)))] [] (rSpanE (sinS k n)) [] := by
  refine CallsA.ofOk fun hok => ?_
  have hw := w_sine_Sin k n (fun v M => some (Res.fin v M))
  refine CallsA.ofEv (Γ := T_sine_Cos) (X := XT) (Λ := noL) (EQ := EQT) (n := 60) g_sine_Cos hEQT hmT (fun _ _ _ _ => noL_ok _) (hw.trans ?_)
  have h_k := inR_i64 (hok (.int .i64 k) (by simp [datasL, datas]))
  have h_n := inR_i64 (hok (.int .i64 n) (by simp [datasL, datas]))
  clear hok hw
  exact sinAns_ok (K := fun v M => some (Res.fin v M))
def s_sine_Sin : List AV → List Blk → (AV → List Blk → Ans) → Ans := fun xs bs K => match xs, bs with
  | [.v (.c (.d (.int .i64 k))), .v (.c (.d (.int .i64 n)))], [] => K (rSpanE (sinS k n)) []
  | _, _ => none
def T_sine_Sin : Nat → List AV → List Blk → (AV → List Blk → Ans) → Ans := upd T_sine_Cos 11 s_sine_Sin
theorem g_sine_Sin : GOK Try.prog GT gbT T_sine_Sin XT := by
  refine GOK.upd g_sine_Cos (fun args w => Try.call11 args w) fun xs bs K r h => ?_
  unfold s_sine_Sin at h
  split at h
  · exact ⟨_, _, c_sine_Sin _ _, h⟩
  · cases h


set_option maxRecDepth 100000 in
/-- frac.size -/
theorem w_frac_size (n : Int) (K : AV → List Blk → Ans) : evFn Try.prog GT EQT T_sine_Sin XT noL 60 61 [.v (.c (.d (.int .i64 n)))] [] (fun v M => K v (M.take ([] : List Blk).length)) = K (rU (sizeRaw n)) [] := by
  simp only [sizeRaw, pullK K]
  kernel_rfl
theorem c_frac_size (n : Int) : CallsA Try.prog GT gbT 61 [.v (.c (.d (.int .i64 n)))] [] (rU (absI n)) [] := by
  refine CallsA.ofOk fun hok => ?_
  have hw := w_frac_size n (fun v M => some (Res.fin v M))
  refine CallsA.ofEv (Γ := T_sine_Sin) (X := XT) (Λ := noL) (EQ := EQT) (n := 60) g_sine_Sin hEQT hmT (fun _ _ _ _ => noL_ok _) (hw.trans ?_)
  have h_n := inR_i64 (hok (.int .i64 n) (by simp [datasL, datas]))
  clear hok hw
  refine congrArg (fun v => some (Res.fin v [])) ?_
  rw [sizeRaw_ok h_n]
def s_frac_size : List AV → List Blk → (AV → List Blk → Ans) → Ans := fun xs bs K => match xs, bs with
  | [.v (.c (.d (.int .i64 n)))], [] => K (rU (absI n)) []
  | _, _ => none
def T_frac_size : Nat → List AV → List Blk → (AV → List Blk → Ans) → Ans := upd T_sine_Sin 61 s_frac_size
theorem g_frac_size : GOK Try.prog GT gbT T_frac_size XT := by
  refine GOK.upd g_sine_Sin (fun args w => Try.call61 args w) fun xs bs K r h => ?_
  unfold s_frac_size at h
  split at h
  · exact ⟨_, _, c_frac_size _, h⟩
  · cases h


set_option maxRecDepth 100000 in
/-- fringeref01.abs -/
theorem w_fringeref01_abs (n : Int) (K : AV → List Blk → Ans) : evFn Try.prog GT EQT T_frac_size XT noL 60 51 [.v (.c (.d (.int .i64 n)))] [] (fun v M => K v (M.take ([] : List Blk).length)) = K (rU (absRaw n)) [] := by
  simp only [absRaw, pullK K]
  kernel_rfl
theorem c_fringeref01_abs (n : Int) : CallsA Try.prog GT gbT 51 [.v (.c (.d (.int .i64 n)))] [] (rU (absI n)) [] := by
  refine CallsA.ofOk fun hok => ?_
  have hw := w_fringeref01_abs n (fun v M => some (Res.fin v M))
  refine CallsA.ofEv (Γ := T_frac_size) (X := XT) (Λ := noL) (EQ := EQT) (n := 60) g_frac_size hEQT hmT (fun _ _ _ _ => noL_ok _) (hw.trans ?_)
  have h_n := inR_i64 (hok (.int .i64 n) (by simp [datasL, datas]))
  clear hok hw
  refine congrArg (fun v => some (Res.fin v [])) ?_
  rw [absRaw_ok h_n]
def s_fringeref01_abs : List AV → List Blk → (AV → List Blk → Ans) → Ans := fun xs bs K => match xs, bs with
  | [.v (.c (.d (.int .i64 n)))], [] => K (rU (absI n)) []
  | _, _ => none
def T_fringeref01_abs : Nat → List AV → List Blk → (AV → List Blk → Ans) → Ans := upd T_frac_size 51 s_fringeref01_abs
theorem g_fringeref01_abs : GOK Try.prog GT gbT T_fringeref01_abs XT := by
  refine GOK.upd g_frac_size (fun args w => Try.call51 args w) fun xs bs K r h => ?_
  unfold s_fringeref01_abs at h
  split at h
  · exact ⟨_, _, c_fringeref01_abs _, h⟩
  · cases h


set_option maxRecDepth 100000 in
/-- frac.Check -/
theorem w_frac_Check (num den : Int) (K : AV → List Blk → Ans) : evFn Try.prog GT EQT T_fringeref01_abs XT noL 60 44 [.v (.agg [.int .i64 num, .int .i64 den])] [] (fun v M => K v (M.take ([] : List Blk).length)) = K (rI (checkRaw num den (absI den))) [] := by
  simp only [checkRaw, pullK K]
  kernel_rfl
theorem c_frac_Check (num den : Int) : CallsA Try.prog GT gbT 44 [.v (.agg [.int .i64 num, .int .i64 den])] [] (rI (checkF ⟨num, den⟩)) [] := by
  refine CallsA.ofOk fun hok => ?_
  have hw := w_frac_Check num den (fun v M => some (Res.fin v M))
  refine CallsA.ofEv (Γ := T_fringeref01_abs) (X := XT) (Λ := noL) (EQ := EQT) (n := 60) g_fringeref01_abs hEQT hmT (fun _ _ _ _ => noL_ok _) (hw.trans ?_)
  have h_num := inR_i64 (hok (.int .i64 num) (by simp [datasL, datas]))
  have h_den := inR_i64 (hok (.int .i64 den) (by simp [datasL, datas]))
  clear hok hw
  refine congrArg (fun v => some (Res.fin v [])) ?_
  rw [checkRaw_abs]
def s_frac_Check : List AV → List Blk → (AV → List Blk → Ans) → Ans := fun xs bs K => match xs, bs with
  | [.v (.agg [.int .i64 num, .int .i64 den])], [] => K (rI (checkF ⟨num, den⟩)) []
  | _, _ => none
def T_frac_Check : Nat → List AV → List Blk → (AV → List Blk → Ans) → Ans := upd T_fringeref01_abs 44 s_frac_Check
theorem g_frac_Check : GOK Try.prog GT gbT T_frac_Check XT := by
  refine GOK.upd g_fringeref01_abs (fun args w => Try.call44 args w) fun xs bs K r h => ?_
  unfold s_frac_Check at h
  split at h
  · exact ⟨_, _, c_frac_Check _ _, h⟩
  · cases h


set_option maxRecDepth 100000 in
/-- fringeref01.Check -/
theorem w_fringeref01_Check (num den : Int) (K : AV → List Blk → Ans) : evFn Try.prog GT EQT T_frac_Check XT noL 60 46 [.v (.agg [.int .i64 num, .int .i64 den])] [] (fun v M => K v (M.take ([] : List Blk).length)) = K (rI (checkRaw num den (wu64 den))) [] := by
  simp only [checkRaw, pullK K]
  kernel_rfl
theorem c_fringeref01_Check (num den : Int) : CallsA Try.prog GT gbT 46 [.v (.agg [.int .i64 num, .int .i64 den])] [] (rI (checkF ⟨num, den⟩)) [] := by
  refine CallsA.ofOk fun hok => ?_
  have hw := w_fringeref01_Check num den (fun v M => some (Res.fin v M))
  refine CallsA.ofEv (Γ := T_frac_Check) (X := XT) (Λ := noL) (EQ := EQT) (n := 60) g_frac_Check hEQT hmT (fun _ _ _ _ => noL_ok _) (hw.trans ?_)
  have h_num := inR_i64 (hok (.int .i64 num) (by simp [datasL, datas]))
  have h_den := inR_i64 (hok (.int .i64 den) (by simp [datasL, datas]))
  clear hok hw
  refine congrArg (fun v => some (Res.fin v [])) ?_
  rw [checkRaw_wu num den h_den.2]
def s_fringeref01_Check : List AV → List Blk → (AV → List Blk → Ans) → Ans := fun xs bs K => match xs, bs with
  | [.v (.agg [.int .i64 num, .int .i64 den])], [] => K (rI (checkF ⟨num, den⟩)) []
  | _, _ => none
def T_fringeref01_Check : Nat → List AV → List Blk → (AV → List Blk → Ans) → Ans := upd T_frac_Check 46 s_fringeref01_Check
theorem g_fringeref01_Check : GOK Try.prog GT gbT T_fringeref01_Check XT := by
  refine GOK.upd g_frac_Check (fun args w => Try.call46 args w) fun xs bs K r h => ?_
  unfold s_fringeref01_Check at h
  split at h
  · exact ⟨_, _, c_fringeref01_Check _ _, h⟩
  · cases h


set_option maxRecDepth 100000 in
/-- fringeref01.big -/
theorem w_fringeref01_big (n : Int) (K : AV → List Blk → Ans) : evFn Try.prog GT EQT T_fringeref01_Check XT noL 60 64 [.v (.c (.d (.int .u64 n)))] [] (fun v M => K v (M.take ([] : List Blk).length)) = K (rBig (bigRaw n)) [] := by
  kernel_rfl
theorem c_fringeref01_big (n : Int) : CallsA Try.prog GT gbT 64 [.v (.c (.d (.int .u64 n)))] [] (rBig (bigOf n)) [] := by
  refine CallsA.ofOk fun hok => ?_
  have hw := w_fringeref01_big n (fun v M => some (Res.fin v M))
  refine CallsA.ofEv (Γ := T_fringeref01_Check) (X := XT) (Λ := noL) (EQ := EQT) (n := 60) g_fringeref01_Check hEQT hmT (fun _ _ _ _ => noL_ok _) (hw.trans ?_)
  have h_n := inR_u64 (hok (.int .u64 n) (by simp [datasL, datas]))
  clear hok hw
  refine congrArg (fun v => some (Res.fin v [])) ?_
  rw [bigRaw_ok h_n]
def s_fringeref01_big : List AV → List Blk → (AV → List Blk → Ans) → Ans := fun xs bs K => match xs, bs with
  | [.v (.c (.d (.int .u64 n)))], [] => K (rBig (bigOf n)) []
  | _, _ => none
def T_fringeref01_big : Nat → List AV → List Blk → (AV → List Blk → Ans) → Ans := upd T_fringeref01_Check 64 s_fringeref01_big
theorem g_fringeref01_big : GOK Try.prog GT gbT T_fringeref01_big XT := by
  refine GOK.upd g_fringeref01_Check (fun args w => Try.call64 args w) fun xs bs K r h => ?_
  unfold s_fringeref01_big at h
  split at h
  · exact ⟨_, _, c_fringeref01_big _, h⟩
  · cases h


set_option maxRecDepth 100000 in
/-- fringeref01.Product -/
theorem w_fringeref01_Product (x y : Int) (K : AV → List Blk → Ans) : evFn Try.prog GT EQT T_fringeref01_big XT noL 60 50 [.v (.c (.d (.int .u64 x))), .v (.c (.d (.int .u64 y)))] [] (fun v M => K v (M.take ([] : List Blk).length)) = K (rBig (prodRaw (bigOf x) (bigOf y))) [] := by
  kernel_rfl
theorem c_fringeref01_Product (x y : Int) : CallsA Try.prog GT gbT 50 [.v (.c (.d (.int .u64 x))), .v (.c (.d (.int .u64 y)))] [] (rBig (bigOf (x * y))) [] := by
  refine CallsA.ofOk fun hok => ?_
  have hw := w_fringeref01_Product x y (fun v M => some (Res.fin v M))
  refine CallsA.ofEv (Γ := T_fringeref01_big) (X := XT) (Λ := noL) (EQ := EQT) (n := 60) g_fringeref01_big hEQT hmT (fun _ _ _ _ => noL_ok _) (hw.trans ?_)
  have h_x := inR_u64 (hok (.int .u64 x) (by simp [datasL, datas]))
  have h_y := inR_u64 (hok (.int .u64 y) (by simp [datasL, datas]))
  clear hok hw
  refine congrArg (fun v => some (Res.fin v [])) ?_
  rw [prodRaw_ok h_x h_y]
def s_fringeref01_Product : List AV → List Blk → (AV → List Blk → Ans) → Ans := fun xs bs K => match xs, bs with
  | [.v (.c (.d (.int .u64 x))), .v (.c (.d (.int .u64 y)))], [] => K (rBig (bigOf (x * y))) []
  | _, _ => none
def T_fringeref01_Product : Nat → List AV → List Blk → (AV → List Blk → Ans) → Ans := upd T_fringeref01_big 50 s_fringeref01_Product
theorem g_fringeref01_Product : GOK Try.prog GT gbT T_fringeref01_Product XT := by
  refine GOK.upd g_fringeref01_big (fun args w => Try.call50 args w) fun xs bs K r h => ?_
  unfold s_fringeref01_Product at h
  split at h
  · exact ⟨_, _, c_fringeref01_Product _ _, h⟩
  · cases h


set_option maxRecDepth 100000 in
/-- fringeref01.below -/
theorem w_fringeref01_below (a b c d e f g h : Int) (K : AV → List Blk → Ans) : evFn Try.prog GT EQT T_fringeref01_Product XT noL 80 53 [.v (.agg [.int .u64 a, .int .u64 b, .int .u64 c, .int .u64 d]), .v (.agg [.int .u64 e, .int .u64 f, .int .u64 g, .int .u64 h])] [] (fun v M => K v (M.take ([] : List Blk).length)) = K (rB (belowRaw ⟨a, b, c, d⟩ ⟨e, f, g, h⟩)) [] := by
  simp only [belowRaw, pullK K]
  kernel_rfl
theorem c_fringeref01_below (a b c d e f g h : Int) : CallsA Try.prog GT gbT 53 [.v (.agg [.int .u64 a, .int .u64 b, .int .u64 c, .int .u64 d]), .v (.agg [.int .u64 e, .int .u64 f, .int .u64 g, .int .u64 h])] [] (rB (belowRaw ⟨a, b, c, d⟩ ⟨e, f, g, h⟩)) [] := by
  refine CallsA.ofOk fun hok => ?_
  have hw := w_fringeref01_below a b c d e f g h (fun v M => some (Res.fin v M))
  refine CallsA.ofEv (Γ := T_fringeref01_Product) (X := XT) (Λ := noL) (EQ := EQT) (n := 80) g_fringeref01_Product hEQT hmT (fun _ _ _ _ => noL_ok _) (hw.trans ?_)
  rfl
def s_fringeref01_below : List AV → List Blk → (AV → List Blk → Ans) → Ans := fun xs bs K => match xs, bs with
  | [.v (.agg [.int .u64 a, .int .u64 b, .int .u64 c, .int .u64 d]), .v (.agg [.int .u64 e, .int .u64 f, .int .u64 g, .int .u64 h])], [] => K (rB (belowRaw ⟨a, b, c, d⟩ ⟨e, f, g, h⟩)) []
  | _, _ => none
def T_fringeref01_below : Nat → List AV → List Blk → (AV → List Blk → Ans) → Ans := upd T_fringeref01_Product 53 s_fringeref01_below
theorem g_fringeref01_below : GOK Try.prog GT gbT T_fringeref01_below XT := by
  refine GOK.upd g_fringeref01_Product (fun args w => Try.call53 args w) fun xs bs K r h => ?_
  unfold s_fringeref01_below at h
  split at h
  · exact ⟨_, _, c_fringeref01_below _ _ _ _ _ _ _ _, h⟩
  · cases h


set_option maxRecDepth 100000 in
/-- fringeref01.Small -/
theorem w_fringeref01_Small (a b c d : Int) (K : AV → List Blk → Ans) : evFn Try.prog GT EQT T_fringeref01_below XT noL 60 65 [.v (.agg [.int .u64 a, .int .u64 b, .int .u64 c, .int .u64 d])] [] (fun v M => K v (M.take ([] : List Blk).length)) = bif c == 0 then (bif d == 0 then K (rIB ((smallRaw ⟨a, b, c, d⟩).1, decide (borU (shlU b 32) a ≤ 1000000000000000000))) [] else K (rIB ((smallRaw ⟨a, b, c, d⟩).1, false)) []) else K (rIB ((smallRaw ⟨a, b, c, d⟩).1, false)) [] := by
  kernel_rfl
theorem c_fringeref01_Small (a b c d : Int) : CallsA Try.prog GT gbT 65 [.v (.agg [.int .u64 a, .int .u64 b, .int .u64 c, .int .u64 d])] [] (rIB (smallRaw ⟨a, b, c, d⟩)) [] := by
  refine CallsA.ofOk fun hok => ?_
  have hw := w_fringeref01_Small a b c d (fun v M => some (Res.fin v M))
  refine CallsA.ofEv (Γ := T_fringeref01_below) (X := XT) (Λ := noL) (EQ := EQT) (n := 60) g_fringeref01_below hEQT hmT (fun _ _ _ _ => noL_ok _) (hw.trans ?_)
  have h_a := inR_u64 (hok (.int .u64 a) (by simp [datasL, datas]))
  have h_b := inR_u64 (hok (.int .u64 b) (by simp [datasL, datas]))
  have h_c := inR_u64 (hok (.int .u64 c) (by simp [datasL, datas]))
  have h_d := inR_u64 (hok (.int .u64 d) (by simp [datasL, datas]))
  clear hok hw
  unfold smallRaw
  simp only
  cases c == 0 <;> cases d == 0 <;> rfl
def s_fringeref01_Small : List AV → List Blk → (AV → List Blk → Ans) → Ans := fun xs bs K => match xs, bs with
  | [.v (.agg [.int .u64 a, .int .u64 b, .int .u64 c, .int .u64 d])], [] => K (rIB (smallRaw ⟨a, b, c, d⟩)) []
  | _, _ => none
def T_fringeref01_Small : Nat → List AV → List Blk → (AV → List Blk → Ans) → Ans := upd T_fringeref01_below 65 s_fringeref01_Small
theorem g_fringeref01_Small : GOK Try.prog GT gbT T_fringeref01_Small XT := by
  refine GOK.upd g_fringeref01_below (fun args w => Try.call65 args w) fun xs bs K r h => ?_
  unfold s_fringeref01_Small at h
  split at h
  · exact ⟨_, _, c_fringeref01_Small _ _ _ _, h⟩
  · cases h


set_option maxRecDepth 100000 in
/-- fringeref01.lowest -/
theorem w_fringeref01_lowest (m : Bool) (a b c d e f g h : Int) (K : AV → List Blk → Ans) : evFn Try.prog GT EQT T_fringeref01_Small XT noL 60 56 [.v (.c (.d (.bool m))), .v (.agg [.int .u64 a, .int .u64 b, .int .u64 c, .int .u64 d]), .v (.agg [.int .u64 e, .int .u64 f, .int .u64 g, .int .u64 h])] [] (fun v M => K v (M.take ([] : List Blk).length)) = K (rFracE (lowestRaw m ⟨a, b, c, d⟩ ⟨e, f, g, h⟩)) [] := by
  simp only [lowestRaw, pullK K]
  kernel_rfl
theorem c_fringeref01_lowest (m : Bool) (a b c d e f g h : Int) : CallsA Try.prog GT gbT 56 [.v (.c (.d (.bool m))), .v (.agg [.int .u64 a, .int .u64 b, .int .u64 c, .int .u64 d]), .v (.agg [.int .u64 e, .int .u64 f, .int .u64 g, .int .u64 h])] [] (rFracE (lowestRaw m ⟨a, b, c, d⟩ ⟨e, f, g, h⟩)) [] := by
  refine CallsA.ofOk fun hok => ?_
  have hw := w_fringeref01_lowest m a b c d e f g h (fun v M => some (Res.fin v M))
  refine CallsA.ofEv (Γ := T_fringeref01_Small) (X := XT) (Λ := noL) (EQ := EQT) (n := 60) g_fringeref01_Small hEQT hmT (fun _ _ _ _ => noL_ok _) (hw.trans ?_)
  rfl
def s_fringeref01_lowest : List AV → List Blk → (AV → List Blk → Ans) → Ans := fun xs bs K => match xs, bs with
  | [.v (.c (.d (.bool m))), .v (.agg [.int .u64 a, .int .u64 b, .int .u64 c, .int .u64 d]), .v (.agg [.int .u64 e, .int .u64 f, .int .u64 g, .int .u64 h])], [] => K (rFracE (lowestRaw m ⟨a, b, c, d⟩ ⟨e, f, g, h⟩)) []
  | _, _ => none
def T_fringeref01_lowest : Nat → List AV → List Blk → (AV → List Blk → Ans) → Ans := upd T_fringeref01_Small 56 s_fringeref01_lowest
theorem g_fringeref01_lowest : GOK Try.prog GT gbT T_fringeref01_lowest XT := by
  refine GOK.upd g_fringeref01_Small (fun args w => Try.call56 args w) fun xs bs K r h => ?_
  unfold s_fringeref01_lowest at h
  split at h
  · exact ⟨_, _, c_fringeref01_lowest _ _ _ _ _ _ _ _ _, h⟩
  · cases h


set_option maxRecDepth 100000 in
/-- fringeref01.Make -/
theorem w_fringeref01_Make (num den : Int) (K : AV → List Blk → Ans) : evFn Try.prog GT EQT T_fringeref01_lowest XT noL 60 47 [.v (.c (.d (.int .i64 num))), .v (.c (.d (.int .i64 den)))] [] (fun v M => K v (M.take ([] : List Blk).length)) = makeAns K num den := by
  kernel_rfl
theorem c_fringeref01_Make (num den : Int) : CallsA Try.prog GT gbT 47 [.v (.c (.d (.int .i64 num))), .v (.c (.d (.int .i64 den)))] [] (rFracE (makeF num den)) [] := by
  refine CallsA.ofOk fun hok => ?_
  have hw := w_fringeref01_Make num den (fun v M => some (Res.fin v M))
  refine CallsA.ofEv (Γ := T_fringeref01_lowest) (X := XT) (Λ := noL) (EQ := EQT) (n := 60) g_fringeref01_lowest hEQT hmT (fun _ _ _ _ => noL_ok _) (hw.trans ?_)
  have h_num := inR_i64 (hok (.int .i64 num) (by simp [datasL, datas]))
  have h_den := inR_i64 (hok (.int .i64 den) (by simp [datasL, datas]))
  clear hok hw
  exact makeAns_ok (K := fun v M => some (Res.fin v M)) h_num h_den
def s_fringeref01_Make : List AV → List Blk → (AV → List Blk → Ans) → Ans := fun xs bs K => match xs, bs with
  | [.v (.c (.d (.int .i64 num))), .v (.c (.d (.int .i64 den)))], [] => K (rFracE (makeF num den)) []
  | _, _ => none
def T_fringeref01_Make : Nat → List AV → List Blk → (AV → List Blk → Ans) → Ans := upd T_fringeref01_lowest 47 s_fringeref01_Make
theorem g_fringeref01_Make : GOK Try.prog GT gbT T_fringeref01_Make XT := by
  refine GOK.upd g_fringeref01_lowest (fun args w => Try.call47 args w) fun xs bs K r h => ?_
  unfold s_fringeref01_Make at h
  split at h
  · exact ⟨_, _, c_fringeref01_Make _ _, h⟩
  · cases h


end Go.Ev
