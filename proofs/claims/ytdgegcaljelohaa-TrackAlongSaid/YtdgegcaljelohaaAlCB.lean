/-
  Contracts of functions: what each returns. No condition beyond those of the statements.
-/
import Derived.Test.YtdgegcaljelohaaAlCA
namespace Go.Ev
open Go Go.Proofs

set_option maxRecDepth 100000 in
/-- frac.size -/
theorem w_frac_size (n : Int) (K : AV → List Blk → Ans) : evFn Try.prog GT EQT T_sine_Sin XT noL 60 69 [.v (.c (.d (.int .i64 n)))] [] (fun v M => K v (M.take ([] : List Blk).length)) = K (rU (sizeRaw n)) [] := by
  simp only [sizeRaw, pullK K]
  kernel_rfl
theorem c_frac_size (n : Int) : CallsA Try.prog GT gbT 69 [.v (.c (.d (.int .i64 n)))] [] (rU (absI n)) [] := by
  refine CallsA.ofOk fun hok => ?_
  have hw := w_frac_size n (fun v M => some (Res.fin v M))
  refine CallsA.ofEv (Γ := T_sine_Sin) (X := XT) (Λ := noL) (EQ := EQT) (n := 60) g_sine_Sin hEQT hmT (fun _ _ _ _ => noL_ok _) (hw.trans ?_)
  have h_n := inR_i64 (hok (.int .i64 n) (by simp [datasL, datas]))
  clear hok hw
  refine congrArg (fun v => some (Res.fin v [])) ?_
  rw [sizeRaw_ok h_n]
def s_frac_size : List AV → List Blk → (AV → List Blk → Ans) → Ans := fun xs bs K => match xs, bs with
  | [.v (.c (.d (.int .i64 n)))], [] => K (rU (absI n)) []
  | _, _ => none
def T_frac_size : Nat → List AV → List Blk → (AV → List Blk → Ans) → Ans := upd T_sine_Sin 69 s_frac_size
theorem g_frac_size : GOK Try.prog GT gbT T_frac_size XT := by
  refine GOK.upd g_sine_Sin (fun args w => Try.call69 args w) fun xs bs K r h => ?_
  unfold s_frac_size at h
  split at h
  · exact ⟨_, _, c_frac_size _, h⟩
  · cases h


set_option maxRecDepth 100000 in
/-- fringeref01.abs -/
theorem w_fringeref01_abs (n : Int) (K : AV → List Blk → Ans) : evFn Try.prog GT EQT T_frac_size XT noL 60 73 [.v (.c (.d (.int .i64 n)))] [] (fun v M => K v (M.take ([] : List Blk).length)) = K (rU (absRaw n)) [] := by
  simp only [absRaw, pullK K]
  kernel_rfl
theorem c_fringeref01_abs (n : Int) : CallsA Try.prog GT gbT 73 [.v (.c (.d (.int .i64 n)))] [] (rU (absI n)) [] := by
  refine CallsA.ofOk fun hok => ?_
  have hw := w_fringeref01_abs n (fun v M => some (Res.fin v M))
  refine CallsA.ofEv (Γ := T_frac_size) (X := XT) (Λ := noL) (EQ := EQT) (n := 60) g_frac_size hEQT hmT (fun _ _ _ _ => noL_ok _) (hw.trans ?_)
  have h_n := inR_i64 (hok (.int .i64 n) (by simp [datasL, datas]))
  clear hok hw
  refine congrArg (fun v => some (Res.fin v [])) ?_
  rw [absRaw_ok h_n]
def s_fringeref01_abs : List AV → List Blk → (AV → List Blk → Ans) → Ans := fun xs bs K => match xs, bs with
  | [.v (.c (.d (.int .i64 n)))], [] => K (rU (absI n)) []
  | _, _ => none
def T_fringeref01_abs : Nat → List AV → List Blk → (AV → List Blk → Ans) → Ans := upd T_frac_size 73 s_fringeref01_abs
theorem g_fringeref01_abs : GOK Try.prog GT gbT T_fringeref01_abs XT := by
  refine GOK.upd g_frac_size (fun args w => Try.call73 args w) fun xs bs K r h => ?_
  unfold s_fringeref01_abs at h
  split at h
  · exact ⟨_, _, c_fringeref01_abs _, h⟩
  · cases h


set_option maxRecDepth 100000 in
/-- frac.Check -/
theorem w_frac_Check (num den : Int) (K : AV → List Blk → Ans) : evFn Try.prog GT EQT T_fringeref01_abs XT noL 60 58 [.v (.agg [.int .i64 num, .int .i64 den])] [] (fun v M => K v (M.take ([] : List Blk).length)) = K (rI (checkRaw num den (absI den))) [] := by
  simp only [checkRaw, pullK K]
  kernel_rfl
theorem c_frac_Check (num den : Int) : CallsA Try.prog GT gbT 58 [.v (.agg [.int .i64 num, .int .i64 den])] [] (rI (checkF ⟨num, den⟩)) [] := by
  refine CallsA.ofOk fun hok => ?_
  have hw := w_frac_Check num den (fun v M => some (Res.fin v M))
  refine CallsA.ofEv (Γ := T_fringeref01_abs) (X := XT) (Λ := noL) (EQ := EQT) (n := 60) g_fringeref01_abs hEQT hmT (fun _ _ _ _ => noL_ok _) (hw.trans ?_)
  have h_num := inR_i64 (hok (.int .i64 num) (by simp [datasL, datas]))
  have h_den := inR_i64 (hok (.int .i64 den) (by simp [datasL, datas]))
  clear hok hw
  refine congrArg (fun v => some (Res.fin v [])) ?_
  rw [checkRaw_abs]
def s_frac_Check : List AV → List Blk → (AV → List Blk → Ans) → Ans := fun xs bs K => match xs, bs with
  | [.v (.agg [.int .i64 num, .int .i64 den])], [] => K (rI (checkF ⟨num, den⟩)) []
  | _, _ => none
def T_frac_Check : Nat → List AV → List Blk → (AV → List Blk → Ans) → Ans := upd T_fringeref01_abs 58 s_frac_Check
theorem g_frac_Check : GOK Try.prog GT gbT T_frac_Check XT := by
  refine GOK.upd g_fringeref01_abs (fun args w => Try.call58 args w) fun xs bs K r h => ?_
  unfold s_frac_Check at h
  split at h
  · exact ⟨_, _, c_frac_Check _ _, h⟩
  · cases h


set_option maxRecDepth 100000 in
/-- fringeref01.Check -/
theorem w_fringeref01_Check (num den : Int) (K : AV → List Blk → Ans) : evFn Try.prog GT EQT T_frac_Check XT noL 60 61 [.v (.agg [.int .i64 num, .int .i64 den])] [] (fun v M => K v (M.take ([] : List Blk).length)) = K (rI (checkRaw num den (wu64 den))) [] := by
  simp only [checkRaw, pullK K]
  kernel_rfl
theorem c_fringeref01_Check (num den : Int) : CallsA Try.prog GT gbT 61 [.v (.agg [.int .i64 num, .int .i64 den])] [] (rI (checkF ⟨num, den⟩)) [] := by
  refine CallsA.ofOk fun hok => ?_
  have hw := w_fringeref01_Check num den (fun v M => some (Res.fin v M))
  refine CallsA.ofEv (Γ := T_frac_Check) (X := XT) (Λ := noL) (EQ := EQT) (n := 60) g_frac_Check hEQT hmT (fun _ _ _ _ => noL_ok _) (hw.trans ?_)
  have h_num := inR_i64 (hok (.int .i64 num) (by simp [datasL, datas]))
  have h_den := inR_i64 (hok (.int .i64 den) (by simp [datasL, datas]))
  clear hok hw
  refine congrArg (fun v => some (Res.fin v [])) ?_
  rw [checkRaw_wu num den h_den.2]
def s_fringeref01_Check : List AV → List Blk → (AV → List Blk → Ans) → Ans := fun xs bs K => match xs, bs with
  | [.v (.agg [.int .i64 num, .int .i64 den])], [] => K (rI (checkF ⟨num, den⟩)) []
  | _, _ => none
def T_fringeref01_Check : Nat → List AV → List Blk → (AV → List Blk → Ans) → Ans := upd T_frac_Check 61 s_fringeref01_Check
theorem g_fringeref01_Check : GOK Try.prog GT gbT T_fringeref01_Check XT := by
  refine GOK.upd g_frac_Check (fun args w => Try.call61 args w) fun xs bs K r h => ?_
  unfold s_fringeref01_Check at h
  split at h
  · exact ⟨_, _, c_fringeref01_Check _ _, h⟩
  · cases h


set_option maxRecDepth 100000 in
/-- fringeref01.big -/
theorem w_fringeref01_big (n : Int) (K : AV → List Blk → Ans) : evFn Try.prog GT EQT T_fringeref01_Check XT noL 60 95 [.v (.c (.d (.int .u64 n)))] [] (fun v M => K v (M.take ([] : List Blk).length)) = K (rBig (bigRaw n)) [] := by
  kernel_rfl
theorem c_fringeref01_big (n : Int) : CallsA Try.prog GT gbT 95 [.v (.c (.d (.int .u64 n)))] [] (rBig (bigOf n)) [] := by
  refine CallsA.ofOk fun hok => ?_
  have hw := w_fringeref01_big n (fun v M => some (Res.fin v M))
  refine CallsA.ofEv (Γ := T_fringeref01_Check) (X := XT) (Λ := noL) (EQ := EQT) (n := 60) g_fringeref01_Check hEQT hmT (fun _ _ _ _ => noL_ok _) (hw.trans ?_)
  have h_n := inR_u64 (hok (.int .u64 n) (by simp [datasL, datas]))
  clear hok hw
  refine congrArg (fun v => some (Res.fin v [])) ?_
  rw [bigRaw_ok h_n]
def s_fringeref01_big : List AV → List Blk → (AV → List Blk → Ans) → Ans := fun xs bs K => match xs, bs with
  | [.v (.c (.d (.int .u64 n)))], [] => K (rBig (bigOf n)) []
  | _, _ => none
def T_fringeref01_big : Nat → List AV → List Blk → (AV → List Blk → Ans) → Ans := upd T_fringeref01_Check 95 s_fringeref01_big
theorem g_fringeref01_big : GOK Try.prog GT gbT T_fringeref01_big XT := by
  refine GOK.upd g_fringeref01_Check (fun args w => Try.call95 args w) fun xs bs K r h => ?_
  unfold s_fringeref01_big at h
  split at h
  · exact ⟨_, _, c_fringeref01_big _, h⟩
  · cases h


set_option maxRecDepth 100000 in
/-- fringeref01.Product -/
theorem w_fringeref01_Product (x y : Int) (K : AV → List Blk → Ans) : evFn Try.prog GT EQT T_fringeref01_big XT noL 60 92 [.v (.c (.d (.int .u64 x))), .v (.c (.d (.int .u64 y)))] [] (fun v M => K v (M.take ([] : List Blk).length)) = K (rBig (prodRaw (bigOf x) (bigOf y))) [] := by
  kernel_rfl
theorem c_fringeref01_Product (x y : Int) : CallsA Try.prog GT gbT 92 [.v (.c (.d (.int .u64 x))), .v (.c (.d (.int .u64 y)))] [] (rBig (bigOf (x * y))) [] := by
  refine CallsA.ofOk fun hok => ?_
  have hw := w_fringeref01_Product x y (fun v M => some (Res.fin v M))
  refine CallsA.ofEv (Γ := T_fringeref01_big) (X := XT) (Λ := noL) (EQ := EQT) (n := 60) g_fringeref01_big hEQT hmT (fun _ _ _ _ => noL_ok _) (hw.trans ?_)
  have h_x := inR_u64 (hok (.int .u64 x) (by simp [datasL, datas]))
  have h_y := inR_u64 (hok (.int .u64 y) (by simp [datasL, datas]))
  clear hok hw
  refine congrArg (fun v => some (Res.fin v [])) ?_
  rw [prodRaw_ok h_x h_y]
def s_fringeref01_Product : List AV → List Blk → (AV → List Blk → Ans) → Ans := fun xs bs K => match xs, bs with
  | [.v (.c (.d (.int .u64 x))), .v (.c (.d (.int .u64 y)))], [] => K (rBig (bigOf (x * y))) []
  | _, _ => none
def T_fringeref01_Product : Nat → List AV → List Blk → (AV → List Blk → Ans) → Ans := upd T_fringeref01_big 92 s_fringeref01_Product
theorem g_fringeref01_Product : GOK Try.prog GT gbT T_fringeref01_Product XT := by
  refine GOK.upd g_fringeref01_big (fun args w => Try.call92 args w) fun xs bs K r h => ?_
  unfold s_fringeref01_Product at h
  split at h
  · exact ⟨_, _, c_fringeref01_Product _ _, h⟩
  · cases h


set_option maxRecDepth 100000 in
/-- fringeref01.Small -/
theorem w_fringeref01_Small (a b c d : Int) (K : AV → List Blk → Ans) : evFn Try.prog GT EQT T_fringeref01_Product XT noL 60 93 [.v (.agg [.int .u64 a, .int .u64 b, .int .u64 c, .int .u64 d])] [] (fun v M => K v (M.take ([] : List Blk).length)) = bif c == 0 then (bif d == 0 then K (rIB ((smallRaw ⟨a, b, c, d⟩).1, decide (borU (shlU b 32) a ≤ 1000000000000000000))) [] else K (rIB ((smallRaw ⟨a, b, c, d⟩).1, false)) []) else K (rIB ((smallRaw ⟨a, b, c, d⟩).1, false)) [] := by
  kernel_rfl
theorem c_fringeref01_Small (a b c d : Int) : CallsA Try.prog GT gbT 93 [.v (.agg [.int .u64 a, .int .u64 b, .int .u64 c, .int .u64 d])] [] (rIB (smallRaw ⟨a, b, c, d⟩)) [] := by
  refine CallsA.ofOk fun hok => ?_
  have hw := w_fringeref01_Small a b c d (fun v M => some (Res.fin v M))
  refine CallsA.ofEv (Γ := T_fringeref01_Product) (X := XT) (Λ := noL) (EQ := EQT) (n := 60) g_fringeref01_Product hEQT hmT (fun _ _ _ _ => noL_ok _) (hw.trans ?_)
  have h_a := inR_u64 (hok (.int .u64 a) (by simp [datasL, datas]))
  have h_b := inR_u64 (hok (.int .u64 b) (by simp [datasL, datas]))
  have h_c := inR_u64 (hok (.int .u64 c) (by simp [datasL, datas]))
  have h_d := inR_u64 (hok (.int .u64 d) (by simp [datasL, datas]))
  clear hok hw
  unfold smallRaw
  simp only
  cases c == 0 <;> cases d == 0 <;> rfl
def s_fringeref01_Small : List AV → List Blk → (AV → List Blk → Ans) → Ans := fun xs bs K => match xs, bs with
  | [.v (.agg [.int .u64 a, .int .u64 b, .int .u64 c, .int .u64 d])], [] => K (rIB (smallRaw ⟨a, b, c, d⟩)) []
  | _, _ => none
def T_fringeref01_Small : Nat → List AV → List Blk → (AV → List Blk → Ans) → Ans := upd T_fringeref01_Product 93 s_fringeref01_Small
theorem g_fringeref01_Small : GOK Try.prog GT gbT T_fringeref01_Small XT := by
  refine GOK.upd g_fringeref01_Product (fun args w => Try.call93 args w) fun xs bs K r h => ?_
  unfold s_fringeref01_Small at h
  split at h
  · exact ⟨_, _, c_fringeref01_Small _ _ _ _, h⟩
  · cases h


set_option maxRecDepth 100000 in
/-- sine.valid -/
theorem w_sine_valid (lo hi : Int) (K : AV → List Blk → Ans) : evFn Try.prog GT EQT T_fringeref01_Small XT noL 60 54 [.v (.agg [.int .i64 lo, .int .i64 hi])] [] (fun v M => K v (M.take ([] : List Blk).length)) = K (rB (spanValid ⟨lo, hi⟩)) [] := by
  simp only [spanValid, pullK K]
  kernel_rfl
theorem c_sine_valid (lo hi : Int) : CallsA Try.prog GT gbT 54 [.v (.agg [.int .i64 lo, .int .i64 hi])] [] (rB (spanValid ⟨lo, hi⟩)) [] := by
  refine CallsA.ofOk fun hok => ?_
  have hw := w_sine_valid lo hi (fun v M => some (Res.fin v M))
  refine CallsA.ofEv (Γ := T_fringeref01_Small) (X := XT) (Λ := noL) (EQ := EQT) (n := 60) g_fringeref01_Small hEQT hmT (fun _ _ _ _ => noL_ok _) (hw.trans ?_)
  rfl
def s_sine_valid : List AV → List Blk → (AV → List Blk → Ans) → Ans := fun xs bs K => match xs, bs with
  | [.v (.agg [.int .i64 lo, .int .i64 hi])], [] => K (rB (spanValid ⟨lo, hi⟩)) []
  | _, _ => none
def T_sine_valid : Nat → List AV → List Blk → (AV → List Blk → Ans) → Ans := upd T_fringeref01_Small 54 s_sine_valid
theorem g_sine_valid : GOK Try.prog GT gbT T_sine_valid XT := by
  refine GOK.upd g_fringeref01_Small (fun args w => Try.call54 args w) fun xs bs K r h => ?_
  unfold s_sine_valid at h
  split at h
  · exact ⟨_, _, c_sine_valid _ _, h⟩
  · cases h


set_option maxRecDepth 100000 in
/-- fringeref05.Valid -/
theorem w_fringeref05_Valid (lo hi : Int) (K : AV → List Blk → Ans) : evFn Try.prog GT EQT T_sine_valid XT noL 60 46 [.v (.agg [.int .i64 lo, .int .i64 hi])] [] (fun v M => K v (M.take ([] : List Blk).length)) = K (rB (spanValid ⟨lo, hi⟩)) [] := by
  simp only [spanValid, pullK K]
  kernel_rfl
theorem c_fringeref05_Valid (lo hi : Int) : CallsA Try.prog GT gbT 46 [.v (.agg [.int .i64 lo, .int .i64 hi])] [] (rB (spanValid ⟨lo, hi⟩)) [] := by
  refine CallsA.ofOk fun hok => ?_
  have hw := w_fringeref05_Valid lo hi (fun v M => some (Res.fin v M))
  refine CallsA.ofEv (Γ := T_sine_valid) (X := XT) (Λ := noL) (EQ := EQT) (n := 60) g_sine_valid hEQT hmT (fun _ _ _ _ => noL_ok _) (hw.trans ?_)
  rfl
def s_fringeref05_Valid : List AV → List Blk → (AV → List Blk → Ans) → Ans := fun xs bs K => match xs, bs with
  | [.v (.agg [.int .i64 lo, .int .i64 hi])], [] => K (rB (spanValid ⟨lo, hi⟩)) []
  | _, _ => none
def T_fringeref05_Valid : Nat → List AV → List Blk → (AV → List Blk → Ans) → Ans := upd T_sine_valid 46 s_fringeref05_Valid
theorem g_fringeref05_Valid : GOK Try.prog GT gbT T_fringeref05_Valid XT := by
  refine GOK.upd g_sine_valid (fun args w => Try.call46 args w) fun xs bs K r h => ?_
  unfold s_fringeref05_Valid at h
  split at h
  · exact ⟨_, _, c_fringeref05_Valid _ _, h⟩
  · cases h


set_option maxRecDepth 100000 in
/-- sine.ranged -/
theorem w_sine_ranged (lo hi : Int) (K : AV → List Blk → Ans) : evFn Try.prog GT EQT T_fringeref05_Valid XT noL 60 55 [.v (.agg [.int .i64 lo, .int .i64 hi])] [] (fun v M => K v (M.take ([] : List Blk).length)) = K (rSpanE (rangedS ⟨lo, hi⟩)) [] := by
  simp only [rangedS, pullK K]
  kernel_rfl
theorem c_sine_ranged (lo hi : Int) : CallsA Try.prog GT gbT 55 [.v (.agg [.int .i64 lo, .int .i64 hi])] [] (rSpanE (rangedS ⟨lo, hi⟩)) [] := by
  refine CallsA.ofOk fun hok => ?_
  have hw := w_sine_ranged lo hi (fun v M => some (Res.fin v M))
  refine CallsA.ofEv (Γ := T_fringeref05_Valid) (X := XT) (Λ := noL) (EQ := EQT) (n := 60) g_fringeref05_Valid hEQT hmT (fun _ _ _ _ => noL_ok _) (hw.trans ?_)
  rfl
def s_sine_ranged : List AV → List Blk → (AV → List Blk → Ans) → Ans := fun xs bs K => match xs, bs with
  | [.v (.agg [.int .i64 lo, .int .i64 hi])], [] => K (rSpanE (rangedS ⟨lo, hi⟩)) []
  | _, _ => none
def T_sine_ranged : Nat → List AV → List Blk → (AV → List Blk → Ans) → Ans := upd T_fringeref05_Valid 55 s_sine_ranged
theorem g_sine_ranged : GOK Try.prog GT gbT T_sine_ranged XT := by
  refine GOK.upd g_fringeref05_Valid (fun args w => Try.call55 args w) fun xs bs K r h => ?_
  unfold s_sine_ranged at h
  split at h
  · exact ⟨_, _, c_sine_ranged _ _, h⟩
  · cases h


set_option maxRecDepth 100000 in
/-- fringeref05.made -/
theorem w_fringeref05_made (lo hi : Int) (K : AV → List Blk → Ans) : evFn Try.prog GT EQT T_sine_ranged XT noL 60 47 [.v (.c (.d (.int .i64 lo))), .v (.c (.d (.int .i64 hi)))] [] (fun v M => K v (M.take ([] : List Blk).length)) = K (rSpanE (rangedS ⟨lo, hi⟩)) [] := by
  simp only [rangedS, pullK K]
  kernel_rfl
theorem c_fringeref05_made (lo hi : Int) : CallsA Try.prog GT gbT 47 [.v (.c (.d (.int .i64 lo))), .v (.c (.d (.int .i64 hi)))] [] (rSpanE (rangedS ⟨lo, hi⟩)) [] := by
  refine CallsA.ofOk fun hok => ?_
  have hw := w_fringeref05_made lo hi (fun v M => some (Res.fin v M))
  refine CallsA.ofEv (Γ := T_sine_ranged) (X := XT) (Λ := noL) (EQ := EQT) (n := 60) g_sine_ranged hEQT hmT (fun _ _ _ _ => noL_ok _) (hw.trans ?_)
  rfl
def s_fringeref05_made : List AV → List Blk → (AV → List Blk → Ans) → Ans := fun xs bs K => match xs, bs with
  | [.v (.c (.d (.int .i64 lo))), .v (.c (.d (.int .i64 hi)))], [] => K (rSpanE (rangedS ⟨lo, hi⟩)) []
  | _, _ => none
def T_fringeref05_made : Nat → List AV → List Blk → (AV → List Blk → Ans) → Ans := upd T_sine_ranged 47 s_fringeref05_made
theorem g_fringeref05_made : GOK Try.prog GT gbT T_fringeref05_made XT := by
  refine GOK.upd g_sine_ranged (fun args w => Try.call47 args w) fun xs bs K r h => ?_
  unfold s_fringeref05_made at h
  split at h
  · exact ⟨_, _, c_fringeref05_made _ _, h⟩
  · cases h


set_option maxRecDepth 100000 in
/-- sine.down -/
theorem w_sine_down (n : Int) (K : AV → List Blk → Ans) : evFn Try.prog GT EQT T_fringeref05_made XT noL 60 56 [.v (.c (.d (.int .i64 n)))] [] (fun v M => K v (M.take ([] : List Blk).length)) = K (rI (floorRaw n 1000000)) [] := by
  simp only [floorRaw, pullK K]
  kernel_rfl
theorem c_sine_down (n : Int) : CallsA Try.prog GT gbT 56 [.v (.c (.d (.int .i64 n)))] [] (rI (n / 1000000)) [] := by
  refine CallsA.ofOk fun hok => ?_
  have hw := w_sine_down n (fun v M => some (Res.fin v M))
  refine CallsA.ofEv (Γ := T_fringeref05_made) (X := XT) (Λ := noL) (EQ := EQT) (n := 60) g_fringeref05_made hEQT hmT (fun _ _ _ _ => noL_ok _) (hw.trans ?_)
  have h_n := inR_i64 (hok (.int .i64 n) (by simp [datasL, datas]))
  clear hok hw
  refine congrArg (fun v => some (Res.fin v [])) ?_
  rw [floorRaw_ok (by omega) h_n]
def s_sine_down : List AV → List Blk → (AV → List Blk → Ans) → Ans := fun xs bs K => match xs, bs with
  | [.v (.c (.d (.int .i64 n)))], [] => K (rI (n / 1000000)) []
  | _, _ => none
def T_sine_down : Nat → List AV → List Blk → (AV → List Blk → Ans) → Ans := upd T_fringeref05_made 56 s_sine_down
theorem g_sine_down : GOK Try.prog GT gbT T_sine_down XT := by
  refine GOK.upd g_fringeref05_made (fun args w => Try.call56 args w) fun xs bs K r h => ?_
  unfold s_sine_down at h
  split at h
  · exact ⟨_, _, c_sine_down _, h⟩
  · cases h


set_option maxRecDepth 100000 in
/-- fringeref05.down -/
theorem w_fringeref05_down (n d : Int) (K : AV → List Blk → Ans) : evFn Try.prog GT EQT T_sine_down XT noL 60 66 [.v (.c (.d (.int .i64 n))), .v (.c (.d (.int .i64 d)))] [] (fun v M => K v (M.take ([] : List Blk).length)) = bif d == 0 then none else bif d == 0 then none else (bif decide (n.tmod d < 0) then K (rI (w64 (w64 (n.tdiv d) - 1))) [] else K (rI (w64 (n.tdiv d))) []) := by
  kernel_rfl
theorem c_fringeref05_down (n d : Int) (hd : (decide (0 < d)) = true) : CallsA Try.prog GT gbT 66 [.v (.c (.d (.int .i64 n))), .v (.c (.d (.int .i64 d)))] [] (rI (n / d)) [] := by
  refine CallsA.ofOk fun hok => ?_
  have hw := w_fringeref05_down n d (fun v M => some (Res.fin v M))
  refine CallsA.ofEv (Γ := T_sine_down) (X := XT) (Λ := noL) (EQ := EQT) (n := 60) g_sine_down hEQT hmT (fun _ _ _ _ => noL_ok _) (hw.trans ?_)
  have h_n := inR_i64 (hok (.int .i64 n) (by simp [datasL, datas]))
  have h_d := inR_i64 (hok (.int .i64 d) (by simp [datasL, datas]))
  clear hok hw
  have hd0 := of_decide_eq_true hd
  have h := floorRaw_ok hd0 h_n
  rw [show (d == 0) = false by simp; omega]
  simp only [cond_false]
  rw [← h]
  unfold floorRaw
  cases decide (n.tmod d < 0) <;> rfl
def s_fringeref05_down : List AV → List Blk → (AV → List Blk → Ans) → Ans := fun xs bs K => match xs, bs with
  | [.v (.c (.d (.int .i64 n))), .v (.c (.d (.int .i64 d)))], [] => bif decide (0 < d) then K (rI (n / d)) [] else none
  | _, _ => none
def T_fringeref05_down : Nat → List AV → List Blk → (AV → List Blk → Ans) → Ans := upd T_sine_down 66 s_fringeref05_down
theorem g_fringeref05_down : GOK Try.prog GT gbT T_fringeref05_down XT := by
  refine GOK.upd g_sine_down (fun args w => Try.call66 args w) fun xs bs K r h => ?_
  unfold s_fringeref05_down at h
  split at h
  · simp only [cond_eq_ite] at h
    split at h
    · exact ⟨_, _, c_fringeref05_down _ _ ‹_›, h⟩
    · cases h
  · cases h


set_option maxRecDepth 100000 in
/-- fringeref05.Neg -/
theorem w_fringeref05_Neg (lo hi : Int) (K : AV → List Blk → Ans) : evFn Try.prog GT EQT T_fringeref05_down XT noL 60 21 [.v (.agg [.int .i64 lo, .int .i64 hi])] [] (fun v M => K v (M.take ([] : List Blk).length)) = K (rSpan (negRaw ⟨lo, hi⟩)) [] := by
  kernel_rfl
theorem c_fringeref05_Neg (lo hi : Int) : CallsA Try.prog GT gbT 21 [.v (.agg [.int .i64 lo, .int .i64 hi])] [] (rSpan (negRaw ⟨lo, hi⟩)) [] := by
  refine CallsA.ofOk fun hok => ?_
  have hw := w_fringeref05_Neg lo hi (fun v M => some (Res.fin v M))
  refine CallsA.ofEv (Γ := T_fringeref05_down) (X := XT) (Λ := noL) (EQ := EQT) (n := 60) g_fringeref05_down hEQT hmT (fun _ _ _ _ => noL_ok _) (hw.trans ?_)
  rfl
def s_fringeref05_Neg : List AV → List Blk → (AV → List Blk → Ans) → Ans := fun xs bs K => match xs, bs with
  | [.v (.agg [.int .i64 lo, .int .i64 hi])], [] => K (rSpan (negRaw ⟨lo, hi⟩)) []
  | _, _ => none
def T_fringeref05_Neg : Nat → List AV → List Blk → (AV → List Blk → Ans) → Ans := upd T_fringeref05_down 21 s_fringeref05_Neg
theorem g_fringeref05_Neg : GOK Try.prog GT gbT T_fringeref05_Neg XT := by
  refine GOK.upd g_fringeref05_down (fun args w => Try.call21 args w) fun xs bs K r h => ?_
  unfold s_fringeref05_Neg at h
  split at h
  · exact ⟨_, _, c_fringeref05_Neg _ _, h⟩
  · cases h


end Go.Ev
