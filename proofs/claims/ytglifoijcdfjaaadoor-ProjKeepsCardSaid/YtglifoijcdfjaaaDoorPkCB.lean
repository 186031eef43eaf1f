/-
  Contracts of functions: what each returns. No condition beyond those of the statements.
-/
import Derived.Test.YtglifoijcdfjaaaDoorPkCA
namespace Go.Ev
open Go Go.Proofs

set_option maxRecDepth 100000 in
/-- sine.down -/
theorem w_sine_down (n : Int) (K : AV → List Blk → Ans) : evFn Tryd.prog GT EQT T_sine_ranged XT noL 60 54 [.v (.c (.d (.int .i64 n)))] [] (fun v M => K v (M.take ([] : List Blk).length)) = K (rI (floorRaw n 1000000)) [] := by
  simp only [floorRaw, pullK K]
  kernel_rfl
set_option maxRecDepth 100000 in
theorem c_sine_down (n : Int) : CallsA Tryd.prog GT gbT 54 [.v (.c (.d (.int .i64 n)))] [] (rI (n / 1000000)) [] := by
  refine CallsA.ofOk fun hok => ?_
  have hw := w_sine_down n (fun v M => some (Res.fin v M))
  refine CallsA.ofEv (Γ := T_sine_ranged) (X := XT) (Λ := noL) (EQ := EQT) (n := 60) g_sine_ranged hEQT hmT (fun _ _ _ _ => noL_ok _) (hw.trans ?_)
  have h_n := inR_i64 (hok (.int .i64 n) (by simp [datasL, datas]))
  clear hok hw
  refine congrArg (fun v => some (Res.fin v [])) ?_
  rw [floorRaw_ok (by omega) h_n]
def s_sine_down : List AV → List Blk → (AV → List Blk → Ans) → Ans := fun xs bs K => match xs, bs with
  | [.v (.c (.d (.int .i64 n)))], [] => K (rI (n / 1000000)) []
  | _, _ => none
def T_sine_down : Nat → List AV → List Blk → (AV → List Blk → Ans) → Ans := upd T_sine_ranged 54 s_sine_down
theorem g_sine_down : GOK Tryd.prog GT gbT T_sine_down XT := by
  refine GOK.upd g_sine_ranged (fun args w => Tryd.call54 args w) fun xs bs K r h => ?_
  unfold s_sine_down at h
  split at h
  · exact ⟨_, _, c_sine_down _, h⟩
  · cases h


set_option maxRecDepth 100000 in
/-- sine.Add -/
theorem w_sine_Add (a b c d : Int) (K : AV → List Blk → Ans) : evFn Tryd.prog GT EQT T_sine_down XT noL 60 45 [.v (.agg [.int .i64 a, .int .i64 b]), .v (.agg [.int .i64 c, .int .i64 d])] [] (fun v M => K v (M.take ([] : List Blk).length)) = K (rSpanE (addRaw ⟨a, b⟩ ⟨c, d⟩)) [] := by
  simp only [addRaw, pullK K]
  kernel_rfl
set_option maxRecDepth 100000 in
theorem c_sine_Add (a b c d : Int) : CallsA Tryd.prog GT gbT 45 [.v (.agg [.int .i64 a, .int .i64 b]), .v (.agg [.int .i64 c, .int .i64 d])] [] (rSpanE (addS ⟨a, b⟩ ⟨c, d⟩)) [] := by
  refine CallsA.ofOk fun hok => ?_
  have hw := w_sine_Add a b c d (fun v M => some (Res.fin v M))
  refine CallsA.ofEv (Γ := T_sine_down) (X := XT) (Λ := noL) (EQ := EQT) (n := 60) g_sine_down hEQT hmT (fun _ _ _ _ => noL_ok _) (hw.trans ?_)
  have h_a := inR_i64 (hok (.int .i64 a) (by simp [datasL, datas]))
  have h_b := inR_i64 (hok (.int .i64 b) (by simp [datasL, datas]))
  have h_c := inR_i64 (hok (.int .i64 c) (by simp [datasL, datas]))
  have h_d := inR_i64 (hok (.int .i64 d) (by simp [datasL, datas]))
  clear hok hw
  refine congrArg (fun v => some (Res.fin v [])) ?_
  rw [addRaw_ok]
def s_sine_Add : List AV → List Blk → (AV → List Blk → Ans) → Ans := fun xs bs K => match xs, bs with
  | [.v (.agg [.int .i64 a, .int .i64 b]), .v (.agg [.int .i64 c, .int .i64 d])], [] => K (rSpanE (addS ⟨a, b⟩ ⟨c, d⟩)) []
  | _, _ => none
def T_sine_Add : Nat → List AV → List Blk → (AV → List Blk → Ans) → Ans := upd T_sine_down 45 s_sine_Add
theorem g_sine_Add : GOK Tryd.prog GT gbT T_sine_Add XT := by
  refine GOK.upd g_sine_down (fun args w => Tryd.call45 args w) fun xs bs K r h => ?_
  unfold s_sine_Add at h
  split at h
  · exact ⟨_, _, c_sine_Add _ _ _ _, h⟩
  · cases h


set_option maxRecDepth 100000 in
/-- sine.Mul -/
theorem w_sine_Mul (a b c d : Int) (K : AV → List Blk → Ans) : evFn Tryd.prog GT EQT T_sine_Add XT noL 60 32 [.v (.agg [.int .i64 a, .int .i64 b]), .v (.agg [.int .i64 c, .int .i64 d])] [] (fun v M => K v (M.take ([] : List Blk).length)) = K (rSpanE (mulRaw' ⟨a, b⟩ ⟨c, d⟩)) [] := by
  simp only [mulRaw', pullK K]
  kernel_rfl
set_option maxRecDepth 100000 in
theorem c_sine_Mul (a b c d : Int) : CallsA Tryd.prog GT gbT 32 [.v (.agg [.int .i64 a, .int .i64 b]), .v (.agg [.int .i64 c, .int .i64 d])] [] (rSpanE (mulS ⟨a, b⟩ ⟨c, d⟩)) [] := by
  refine CallsA.ofOk fun hok => ?_
  have hw := w_sine_Mul a b c d (fun v M => some (Res.fin v M))
  refine CallsA.ofEv (Γ := T_sine_Add) (X := XT) (Λ := noL) (EQ := EQT) (n := 60) g_sine_Add hEQT hmT (fun _ _ _ _ => noL_ok _) (hw.trans ?_)
  have h_a := inR_i64 (hok (.int .i64 a) (by simp [datasL, datas]))
  have h_b := inR_i64 (hok (.int .i64 b) (by simp [datasL, datas]))
  have h_c := inR_i64 (hok (.int .i64 c) (by simp [datasL, datas]))
  have h_d := inR_i64 (hok (.int .i64 d) (by simp [datasL, datas]))
  clear hok hw
  refine congrArg (fun v => some (Res.fin v [])) ?_
  rw [mulRaw'_ok]
def s_sine_Mul : List AV → List Blk → (AV → List Blk → Ans) → Ans := fun xs bs K => match xs, bs with
  | [.v (.agg [.int .i64 a, .int .i64 b]), .v (.agg [.int .i64 c, .int .i64 d])], [] => K (rSpanE (mulS ⟨a, b⟩ ⟨c, d⟩)) []
  | _, _ => none
def T_sine_Mul : Nat → List AV → List Blk → (AV → List Blk → Ans) → Ans := upd T_sine_Add 32 s_sine_Mul
theorem g_sine_Mul : GOK Tryd.prog GT gbT T_sine_Mul XT := by
  refine GOK.upd g_sine_Add (fun args w => Tryd.call32 args w) fun xs bs K r h => ?_
  unfold s_sine_Mul at h
  split at h
  · exact ⟨_, _, c_sine_Mul _ _ _ _, h⟩
  · cases h


set_option maxRecDepth 100000 in
/-- sine.around -/
theorem w_sine_around (num den : Int) (K : AV → List Blk → Ans) : evFn Tryd.prog GT EQT T_sine_Mul XT noL 60 42 [.v (.agg [.int .i64 num, .int .i64 den])] [] (fun v M => K v (M.take ([] : List Blk).length)) = bif decide (num < 0) then aroundAns K num den (w64 (0 - num)) else aroundAns K num den num := by
  simp only [aroundAns, aroundTail, pullK K]
  kernel_rfl
set_option maxRecDepth 100000 in
theorem c_sine_around (num den : Int) (hd : (fracOkB ⟨num, den⟩) = true) : CallsA Tryd.prog GT gbT 42 [.v (.agg [.int .i64 num, .int .i64 den])] [] (rSpanB (aroundB ⟨num, den⟩)) [] := by
  refine CallsA.ofOk fun hok => ?_
  have hw := w_sine_around num den (fun v M => some (Res.fin v M))
  refine CallsA.ofEv (Γ := T_sine_Mul) (X := XT) (Λ := noL) (EQ := EQT) (n := 60) g_sine_Mul hEQT hmT (fun _ _ _ _ => noL_ok _) (hw.trans ?_)
  have h_num := inR_i64 (hok (.int .i64 num) (by simp [datasL, datas]))
  have h_den := inR_i64 (hok (.int .i64 den) (by simp [datasL, datas]))
  clear hok hw
  have hk := fracOkB_iff.1 hd
  have h1 := hk.numlo
  have h2 := hk.numhi
  simp only at h1 h2
  by_cases hn : num < 0
  · rw [decide_eq_true hn, cond_true, w64_id (by omega)]
    exact aroundAns_ok (K := fun v M => some (Res.fin v M)) hk (by rw [absI_of_neg hn]; omega)
  · rw [decide_eq_false hn, cond_false]
    exact aroundAns_ok (K := fun v M => some (Res.fin v M)) hk (absI_of_nonneg (by omega)).symm
def s_sine_around : List AV → List Blk → (AV → List Blk → Ans) → Ans := fun xs bs K => match xs, bs with
  | [.v (.agg [.int .i64 num, .int .i64 den])], [] => bif fracOkB ⟨num, den⟩ then K (rSpanB (aroundB ⟨num, den⟩)) [] else none
  | _, _ => none
def T_sine_around : Nat → List AV → List Blk → (AV → List Blk → Ans) → Ans := upd T_sine_Mul 42 s_sine_around
theorem g_sine_around : GOK Tryd.prog GT gbT T_sine_around XT := by
  refine GOK.upd g_sine_Mul (fun args w => Tryd.call42 args w) fun xs bs K r h => ?_
  unfold s_sine_around at h
  split at h
  · simp only [cond_eq_ite] at h
    split at h
    · exact ⟨_, _, c_sine_around _ _ ‹_›, h⟩
    · cases h
  · cases h


set_option maxRecDepth 100000 in
/-- sine.Of -/
theorem w_sine_Of (num den : Int) (K : AV → List Blk → Ans) : evFn Tryd.prog GT EQT T_sine_around XT noL 60 25 [.v (.agg [.int .i64 num, .int .i64 den])] [] (fun v M => K v (M.take ([] : List Blk).length)) = bif checkF ⟨num, den⟩ != 0 then K (rSpanE (spanZ, 8)) [] else bif fracOkB ⟨num, den⟩ then (bif !(aroundB ⟨num, den⟩).2 then K (rSpanE (spanZ, 16)) [] else K (rSpanE (rangedS (aroundB ⟨num, den⟩).1)) []) else none := by
  kernel_rfl
set_option maxRecDepth 100000 in
theorem c_sine_Of (num den : Int) : CallsA Tryd.prog GT gbT 25 [.v (.agg [.int .i64 num, .int .i64 den])] [] (rSpanE (ofS ⟨num, den⟩)) [] := by
  refine CallsA.ofOk fun hok => ?_
  have hw := w_sine_Of num den (fun v M => some (Res.fin v M))
  refine CallsA.ofEv (Γ := T_sine_around) (X := XT) (Λ := noL) (EQ := EQT) (n := 60) g_sine_around hEQT hmT (fun _ _ _ _ => noL_ok _) (hw.trans ?_)
  have h_num := inR_i64 (hok (.int .i64 num) (by simp [datasL, datas]))
  have h_den := inR_i64 (hok (.int .i64 den) (by simp [datasL, datas]))
  clear hok hw
  exact sineOf_ok (K := fun v M => some (Res.fin v M))
def s_sine_Of : List AV → List Blk → (AV → List Blk → Ans) → Ans := fun xs bs K => match xs, bs with
  | [.v (.agg [.int .i64 num, .int .i64 den])], [] => K (rSpanE (ofS ⟨num, den⟩)) []
  | _, _ => none
def T_sine_Of : Nat → List AV → List Blk → (AV → List Blk → Ans) → Ans := upd T_sine_around 25 s_sine_Of
theorem g_sine_Of : GOK Tryd.prog GT gbT T_sine_Of XT := by
  refine GOK.upd g_sine_around (fun args w => Tryd.call25 args w) fun xs bs K r h => ?_
  unfold s_sine_Of at h
  split at h
  · exact ⟨_, _, c_sine_Of _ _, h⟩
  · cases h


set_option maxRecDepth 100000 in
/-- math/bits.Rem64 -/
theorem w_bits_Rem64 (hi lo y : Int) (K : AV → List Blk → Ans) : evFn Tryd.prog GT EQT T_sine_Of XT noL 60 87 [.v (.c (.d (.int .u64 hi))), .v (.c (.d (.int .u64 lo))), .v (.c (.d (.int .u64 y)))] [] (fun v M => K v (M.take ([] : List Blk).length)) = remAns K hi lo y := by
  kernel_rfl
set_option maxRecDepth 100000 in
theorem c_bits_Rem64 (hi lo y : Int) (hd : (decide (0 < y)) = true) : CallsA Tryd.prog GT gbT 87 [.v (.c (.d (.int .u64 hi))), .v (.c (.d (.int .u64 lo))), .v (.c (.d (.int .u64 y)))] [] (rU ((hi * 18446744073709551616 + lo) % y)) [] := by
  refine CallsA.ofOk fun hok => ?_
  have hw := w_bits_Rem64 hi lo y (fun v M => some (Res.fin v M))
  refine CallsA.ofEv (Γ := T_sine_Of) (X := XT) (Λ := noL) (EQ := EQT) (n := 60) g_sine_Of hEQT hmT (fun _ _ _ _ => noL_ok _) (hw.trans ?_)
  have h_hi := inR_u64 (hok (.int .u64 hi) (by simp [datasL, datas]))
  have h_lo := inR_u64 (hok (.int .u64 lo) (by simp [datasL, datas]))
  have h_y := inR_u64 (hok (.int .u64 y) (by simp [datasL, datas]))
  clear hok hw
  exact remAns_ok (K := fun v M => some (Res.fin v M)) h_hi.1 (of_decide_eq_true hd)
def s_bits_Rem64 : List AV → List Blk → (AV → List Blk → Ans) → Ans := fun xs bs K => match xs, bs with
  | [.v (.c (.d (.int .u64 hi))), .v (.c (.d (.int .u64 lo))), .v (.c (.d (.int .u64 y)))], [] => bif decide (0 < y) then K (rU ((hi * 18446744073709551616 + lo) % y)) [] else none
  | _, _ => none
def T_bits_Rem64 : Nat → List AV → List Blk → (AV → List Blk → Ans) → Ans := upd T_sine_Of 87 s_bits_Rem64
theorem g_bits_Rem64 : GOK Tryd.prog GT gbT T_bits_Rem64 XT := by
  refine GOK.upd g_sine_Of (fun args w => Tryd.call87 args w) fun xs bs K r h => ?_
  unfold s_bits_Rem64 at h
  split at h
  · simp only [cond_eq_ite] at h
    split at h
    · exact ⟨_, _, c_bits_Rem64 _ _ _ ‹_›, h⟩
    · cases h
  · cases h


set_option maxRecDepth 100000 in
/-- frac.wider -/
theorem w_frac_wider (a b c d : Int) (K : AV → List Blk → Ans) : evFn Tryd.prog GT EQT T_bits_Rem64 XT noL 60 85 [.v (.c (.d (.int .u64 a))), .v (.c (.d (.int .u64 b))), .v (.c (.d (.int .u64 c))), .v (.c (.d (.int .u64 d)))] [] (fun v M => K v (M.take ([] : List Blk).length)) = K (rI (widerRaw a b c d)) [] := by
  simp only [widerRaw, widerTail, pullK K]
  kernel_rfl
set_option maxRecDepth 100000 in
theorem c_frac_wider (a b c d : Int) : CallsA Tryd.prog GT gbT 85 [.v (.c (.d (.int .u64 a))), .v (.c (.d (.int .u64 b))), .v (.c (.d (.int .u64 c))), .v (.c (.d (.int .u64 d)))] [] (rI (cmpI (a * 18446744073709551616 + b) (c * 18446744073709551616 + d))) [] := by
  refine CallsA.ofOk fun hok => ?_
  have hw := w_frac_wider a b c d (fun v M => some (Res.fin v M))
  refine CallsA.ofEv (Γ := T_bits_Rem64) (X := XT) (Λ := noL) (EQ := EQT) (n := 60) g_bits_Rem64 hEQT hmT (fun _ _ _ _ => noL_ok _) (hw.trans ?_)
  have h_a := inR_u64 (hok (.int .u64 a) (by simp [datasL, datas]))
  have h_b := inR_u64 (hok (.int .u64 b) (by simp [datasL, datas]))
  have h_c := inR_u64 (hok (.int .u64 c) (by simp [datasL, datas]))
  have h_d := inR_u64 (hok (.int .u64 d) (by simp [datasL, datas]))
  clear hok hw
  refine congrArg (fun v => some (Res.fin v [])) ?_
  rw [widerRaw_ok h_b h_d]
def s_frac_wider : List AV → List Blk → (AV → List Blk → Ans) → Ans := fun xs bs K => match xs, bs with
  | [.v (.c (.d (.int .u64 a))), .v (.c (.d (.int .u64 b))), .v (.c (.d (.int .u64 c))), .v (.c (.d (.int .u64 d)))], [] => K (rI (cmpI (a * 18446744073709551616 + b) (c * 18446744073709551616 + d))) []
  | _, _ => none
def T_frac_wider : Nat → List AV → List Blk → (AV → List Blk → Ans) → Ans := upd T_bits_Rem64 85 s_frac_wider
theorem g_frac_wider : GOK Tryd.prog GT gbT T_frac_wider XT := by
  refine GOK.upd g_bits_Rem64 (fun args w => Tryd.call85 args w) fun xs bs K r h => ?_
  unfold s_frac_wider at h
  split at h
  · exact ⟨_, _, c_frac_wider _ _ _ _, h⟩
  · cases h


set_option maxRecDepth 100000 in
/-- frac.build -/
theorem w_frac_build (m : Bool) (n d : Int) (K : AV → List Blk → Ans) : evFn Tryd.prog GT EQT T_frac_wider XT noL 60 83 [.v (.c (.d (.bool m))), .v (.c (.d (.int .u64 n))), .v (.c (.d (.int .u64 d)))] [] (fun v M => K v (M.take ([] : List Blk).length)) = K (rFracE (buildRaw m n d)) [] := by
  simp only [buildRaw, pullK K]
  kernel_rfl
set_option maxRecDepth 100000 in
theorem c_frac_build (m : Bool) (n d : Int) : CallsA Tryd.prog GT gbT 83 [.v (.c (.d (.bool m))), .v (.c (.d (.int .u64 n))), .v (.c (.d (.int .u64 d)))] [] (rFracE (lowF m n d)) [] := by
  refine CallsA.ofOk fun hok => ?_
  have hw := w_frac_build m n d (fun v M => some (Res.fin v M))
  refine CallsA.ofEv (Γ := T_frac_wider) (X := XT) (Λ := noL) (EQ := EQT) (n := 60) g_frac_wider hEQT hmT (fun _ _ _ _ => noL_ok _) (hw.trans ?_)
  have h_n := inR_u64 (hok (.int .u64 n) (by simp [datasL, datas]))
  have h_d := inR_u64 (hok (.int .u64 d) (by simp [datasL, datas]))
  clear hok hw
  refine congrArg (fun v => some (Res.fin v [])) ?_
  rw [buildRaw_ok h_n.1 h_d.1]
def s_frac_build : List AV → List Blk → (AV → List Blk → Ans) → Ans := fun xs bs K => match xs, bs with
  | [.v (.c (.d (.bool m))), .v (.c (.d (.int .u64 n))), .v (.c (.d (.int .u64 d)))], [] => K (rFracE (lowF m n d)) []
  | _, _ => none
def T_frac_build : Nat → List AV → List Blk → (AV → List Blk → Ans) → Ans := upd T_frac_wider 83 s_frac_build
theorem g_frac_build : GOK Tryd.prog GT gbT T_frac_build XT := by
  refine GOK.upd g_frac_wider (fun args w => Tryd.call83 args w) fun xs bs K r h => ?_
  unfold s_frac_build at h
  split at h
  · exact ⟨_, _, c_frac_build _ _ _, h⟩
  · cases h


set_option maxRecDepth 100000 in
/-- frac.both -/
theorem w_frac_both (a b c d : Int) (K : AV → List Blk → Ans) : evFn Tryd.prog GT EQT T_frac_build XT noL 60 73 [.v (.agg [.int .i64 a, .int .i64 b]), .v (.agg [.int .i64 c, .int .i64 d])] [] (fun v M => K v (M.take ([] : List Blk).length)) = K (rI (bothE ⟨a, b⟩ ⟨c, d⟩)) [] := by
  simp only [bothE, pullK K]
  kernel_rfl
set_option maxRecDepth 100000 in
theorem c_frac_both (a b c d : Int) : CallsA Tryd.prog GT gbT 73 [.v (.agg [.int .i64 a, .int .i64 b]), .v (.agg [.int .i64 c, .int .i64 d])] [] (rI (bothE ⟨a, b⟩ ⟨c, d⟩)) [] := by
  refine CallsA.ofOk fun hok => ?_
  have hw := w_frac_both a b c d (fun v M => some (Res.fin v M))
  refine CallsA.ofEv (Γ := T_frac_build) (X := XT) (Λ := noL) (EQ := EQT) (n := 60) g_frac_build hEQT hmT (fun _ _ _ _ => noL_ok _) (hw.trans ?_)
  rfl
def s_frac_both : List AV → List Blk → (AV → List Blk → Ans) → Ans := fun xs bs K => match xs, bs with
  | [.v (.agg [.int .i64 a, .int .i64 b]), .v (.agg [.int .i64 c, .int .i64 d])], [] => K (rI (bothE ⟨a, b⟩ ⟨c, d⟩)) []
  | _, _ => none
def T_frac_both : Nat → List AV → List Blk → (AV → List Blk → Ans) → Ans := upd T_frac_build 73 s_frac_both
theorem g_frac_both : GOK Tryd.prog GT gbT T_frac_both XT := by
  refine GOK.upd g_frac_build (fun args w => Tryd.call73 args w) fun xs bs K r h => ?_
  unfold s_frac_both at h
  split at h
  · exact ⟨_, _, c_frac_both _ _ _ _, h⟩
  · cases h


set_option maxRecDepth 100000 in
/-- frac.sum -/
theorem w_frac_sum (a b c d : Int) (K : AV → List Blk → Ans) : evFn Tryd.prog GT EQT T_frac_both XT noL 120 75 [.v (.agg [.int .i64 a, .int .i64 b]), .v (.agg [.int .i64 c, .int .i64 d])] [] (fun v M => K v (M.take ([] : List Blk).length)) = sumAns K ⟨a, b⟩ ⟨c, d⟩ := by
  kernel_rfl
set_option maxRecDepth 100000 in
theorem c_frac_sum (a b c d : Int) (hd : (fracOkB ⟨a, b⟩ && fracOkB ⟨c, d⟩) = true) : CallsA Tryd.prog GT gbT 75 [.v (.agg [.int .i64 a, .int .i64 b]), .v (.agg [.int .i64 c, .int .i64 d])] [] (rFracE (fracOf (a * d + c * b) (b * d))) [] := by
  refine CallsA.ofOk fun hok => ?_
  have hw := w_frac_sum a b c d (fun v M => some (Res.fin v M))
  refine CallsA.ofEv (Γ := T_frac_both) (X := XT) (Λ := noL) (EQ := EQT) (n := 120) g_frac_both hEQT hmT (fun _ _ _ _ => noL_ok _) (hw.trans ?_)
  have h_a := inR_i64 (hok (.int .i64 a) (by simp [datasL, datas]))
  have h_b := inR_i64 (hok (.int .i64 b) (by simp [datasL, datas]))
  have h_c := inR_i64 (hok (.int .i64 c) (by simp [datasL, datas]))
  have h_d := inR_i64 (hok (.int .i64 d) (by simp [datasL, datas]))
  clear hok hw
  simp only [Bool.and_eq_true] at hd
  exact sumAns_ok (K := fun v M => some (Res.fin v M)) (fracOkB_iff.1 hd.1) (fracOkB_iff.1 hd.2)
def s_frac_sum : List AV → List Blk → (AV → List Blk → Ans) → Ans := fun xs bs K => match xs, bs with
  | [.v (.agg [.int .i64 a, .int .i64 b]), .v (.agg [.int .i64 c, .int .i64 d])], [] => bif fracOkB ⟨a, b⟩ && fracOkB ⟨c, d⟩ then K (rFracE (fracOf (a * d + c * b) (b * d))) [] else none
  | _, _ => none
def T_frac_sum : Nat → List AV → List Blk → (AV → List Blk → Ans) → Ans := upd T_frac_both 75 s_frac_sum
theorem g_frac_sum : GOK Tryd.prog GT gbT T_frac_sum XT := by
  refine GOK.upd g_frac_both (fun args w => Tryd.call75 args w) fun xs bs K r h => ?_
  unfold s_frac_sum at h
  split at h
  · simp only [cond_eq_ite] at h
    split at h
    · exact ⟨_, _, c_frac_sum _ _ _ _ ‹_›, h⟩
    · cases h
  · cases h


set_option maxRecDepth 100000 in
/-- frac.Add -/
theorem w_frac_Add (a b c d : Int) (K : AV → List Blk → Ans) : evFn Tryd.prog GT EQT T_frac_sum XT noL 60 57 [.v (.agg [.int .i64 a, .int .i64 b]), .v (.agg [.int .i64 c, .int .i64 d])] [] (fun v M => K v (M.take ([] : List Blk).length)) = addAns K ⟨a, b⟩ ⟨c, d⟩ := by
  kernel_rfl
set_option maxRecDepth 100000 in
theorem c_frac_Add (a b c d : Int) : CallsA Tryd.prog GT gbT 57 [.v (.agg [.int .i64 a, .int .i64 b]), .v (.agg [.int .i64 c, .int .i64 d])] [] (rFracE (addF ⟨a, b⟩ ⟨c, d⟩)) [] := by
  refine CallsA.ofOk fun hok => ?_
  have hw := w_frac_Add a b c d (fun v M => some (Res.fin v M))
  refine CallsA.ofEv (Γ := T_frac_sum) (X := XT) (Λ := noL) (EQ := EQT) (n := 60) g_frac_sum hEQT hmT (fun _ _ _ _ => noL_ok _) (hw.trans ?_)
  have h_a := inR_i64 (hok (.int .i64 a) (by simp [datasL, datas]))
  have h_b := inR_i64 (hok (.int .i64 b) (by simp [datasL, datas]))
  have h_c := inR_i64 (hok (.int .i64 c) (by simp [datasL, datas]))
  have h_d := inR_i64 (hok (.int .i64 d) (by simp [datasL, datas]))
  clear hok hw
  exact addAns_ok (K := fun v M => some (Res.fin v M))
def s_frac_Add : List AV → List Blk → (AV → List Blk → Ans) → Ans := fun xs bs K => match xs, bs with
  | [.v (.agg [.int .i64 a, .int .i64 b]), .v (.agg [.int .i64 c, .int .i64 d])], [] => K (rFracE (addF ⟨a, b⟩ ⟨c, d⟩)) []
  | _, _ => none
def T_frac_Add : Nat → List AV → List Blk → (AV → List Blk → Ans) → Ans := upd T_frac_sum 57 s_frac_Add
theorem g_frac_Add : GOK Tryd.prog GT gbT T_frac_Add XT := by
  refine GOK.upd g_frac_sum (fun args w => Tryd.call57 args w) fun xs bs K r h => ?_
  unfold s_frac_Add at h
  split at h
  · exact ⟨_, _, c_frac_Add _ _ _ _, h⟩
  · cases h


set_option maxRecDepth 100000 in
/-- frac.product -/
theorem w_frac_product (a b c d : Int) (K : AV → List Blk → Ans) : evFn Tryd.prog GT EQT T_frac_Add XT noL 120 74 [.v (.agg [.int .i64 a, .int .i64 b]), .v (.agg [.int .i64 c, .int .i64 d])] [] (fun v M => K v (M.take ([] : List Blk).length)) = prodAns K ⟨a, b⟩ ⟨c, d⟩ := by
  kernel_rfl
set_option maxRecDepth 100000 in
theorem c_frac_product (a b c d : Int) (hd : (fracOkB ⟨a, b⟩ && fracOkB ⟨c, d⟩) = true) : CallsA Tryd.prog GT gbT 74 [.v (.agg [.int .i64 a, .int .i64 b]), .v (.agg [.int .i64 c, .int .i64 d])] [] (rFracE (fracOf (a * c) (b * d))) [] := by
  refine CallsA.ofOk fun hok => ?_
  have hw := w_frac_product a b c d (fun v M => some (Res.fin v M))
  refine CallsA.ofEv (Γ := T_frac_Add) (X := XT) (Λ := noL) (EQ := EQT) (n := 120) g_frac_Add hEQT hmT (fun _ _ _ _ => noL_ok _) (hw.trans ?_)
  have h_a := inR_i64 (hok (.int .i64 a) (by simp [datasL, datas]))
  have h_b := inR_i64 (hok (.int .i64 b) (by simp [datasL, datas]))
  have h_c := inR_i64 (hok (.int .i64 c) (by simp [datasL, datas]))
  have h_d := inR_i64 (hok (.int .i64 d) (by simp [datasL, datas]))
  clear hok hw
  simp only [Bool.and_eq_true] at hd
  exact prodAns_ok (K := fun v M => some (Res.fin v M)) (fracOkB_iff.1 hd.1) (fracOkB_iff.1 hd.2)
def s_frac_product : List AV → List Blk → (AV → List Blk → Ans) → Ans := fun xs bs K => match xs, bs with
  | [.v (.agg [.int .i64 a, .int .i64 b]), .v (.agg [.int .i64 c, .int .i64 d])], [] => bif fracOkB ⟨a, b⟩ && fracOkB ⟨c, d⟩ then K (rFracE (fracOf (a * c) (b * d))) [] else none
  | _, _ => none
def T_frac_product : Nat → List AV → List Blk → (AV → List Blk → Ans) → Ans := upd T_frac_Add 74 s_frac_product
theorem g_frac_product : GOK Tryd.prog GT gbT T_frac_product XT := by
  refine GOK.upd g_frac_Add (fun args w => Tryd.call74 args w) fun xs bs K r h => ?_
  unfold s_frac_product at h
  split at h
  · simp only [cond_eq_ite] at h
    split at h
    · exact ⟨_, _, c_frac_product _ _ _ _ ‹_›, h⟩
    · cases h
  · cases h


set_option maxRecDepth 100000 in
/-- frac.Sub -/
theorem w_frac_Sub (a b c d : Int) (K : AV → List Blk → Ans) : evFn Tryd.prog GT EQT T_frac_product XT noL 60 68 [.v (.agg [.int .i64 a, .int .i64 b]), .v (.agg [.int .i64 c, .int .i64 d])] [] (fun v M => K v (M.take ([] : List Blk).length)) = subAns K ⟨a, b⟩ ⟨c, d⟩ := by
  kernel_rfl
set_option maxRecDepth 100000 in
theorem c_frac_Sub (a b c d : Int) : CallsA Tryd.prog GT gbT 68 [.v (.agg [.int .i64 a, .int .i64 b]), .v (.agg [.int .i64 c, .int .i64 d])] [] (rFracE (subF ⟨a, b⟩ ⟨c, d⟩)) [] := by
  refine CallsA.ofOk fun hok => ?_
  have hw := w_frac_Sub a b c d (fun v M => some (Res.fin v M))
  refine CallsA.ofEv (Γ := T_frac_product) (X := XT) (Λ := noL) (EQ := EQT) (n := 60) g_frac_product hEQT hmT (fun _ _ _ _ => noL_ok _) (hw.trans ?_)
  have h_a := inR_i64 (hok (.int .i64 a) (by simp [datasL, datas]))
  have h_b := inR_i64 (hok (.int .i64 b) (by simp [datasL, datas]))
  have h_c := inR_i64 (hok (.int .i64 c) (by simp [datasL, datas]))
  have h_d := inR_i64 (hok (.int .i64 d) (by simp [datasL, datas]))
  clear hok hw
  exact subAns_ok (K := fun v M => some (Res.fin v M))
def s_frac_Sub : List AV → List Blk → (AV → List Blk → Ans) → Ans := fun xs bs K => match xs, bs with
  | [.v (.agg [.int .i64 a, .int .i64 b]), .v (.agg [.int .i64 c, .int .i64 d])], [] => K (rFracE (subF ⟨a, b⟩ ⟨c, d⟩)) []
  | _, _ => none
def T_frac_Sub : Nat → List AV → List Blk → (AV → List Blk → Ans) → Ans := upd T_frac_product 68 s_frac_Sub
theorem g_frac_Sub : GOK Tryd.prog GT gbT T_frac_Sub XT := by
  refine GOK.upd g_frac_product (fun args w => Tryd.call68 args w) fun xs bs K r h => ?_
  unfold s_frac_Sub at h
  split at h
  · exact ⟨_, _, c_frac_Sub _ _ _ _, h⟩
  · cases h


set_option maxRecDepth 100000 in
/-- frac.Mul -/
theorem w_frac_Mul (a b c d : Int) (K : AV → List Blk → Ans) : evFn Tryd.prog GT EQT T_frac_Sub XT noL 60 56 [.v (.agg [.int .i64 a, .int .i64 b]), .v (.agg [.int .i64 c, .int .i64 d])] [] (fun v M => K v (M.take ([] : List Blk).length)) = mulAns K ⟨a, b⟩ ⟨c, d⟩ := by
  kernel_rfl
set_option maxRecDepth 100000 in
theorem c_frac_Mul (a b c d : Int) : CallsA Tryd.prog GT gbT 56 [.v (.agg [.int .i64 a, .int .i64 b]), .v (.agg [.int .i64 c, .int .i64 d])] [] (rFracE (mulF ⟨a, b⟩ ⟨c, d⟩)) [] := by
  refine CallsA.ofOk fun hok => ?_
  have hw := w_frac_Mul a b c d (fun v M => some (Res.fin v M))
  refine CallsA.ofEv (Γ := T_frac_Sub) (X := XT) (Λ := noL) (EQ := EQT) (n := 60) g_frac_Sub hEQT hmT (fun _ _ _ _ => noL_ok _) (hw.trans ?_)
  have h_a := inR_i64 (hok (.int .i64 a) (by simp [datasL, datas]))
  have h_b := inR_i64 (hok (.int .i64 b) (by simp [datasL, datas]))
  have h_c := inR_i64 (hok (.int .i64 c) (by simp [datasL, datas]))
  have h_d := inR_i64 (hok (.int .i64 d) (by simp [datasL, datas]))
  clear hok hw
  exact mulAns_ok (K := fun v M => some (Res.fin v M))
def s_frac_Mul : List AV → List Blk → (AV → List Blk → Ans) → Ans := fun xs bs K => match xs, bs with
  | [.v (.agg [.int .i64 a, .int .i64 b]), .v (.agg [.int .i64 c, .int .i64 d])], [] => K (rFracE (mulF ⟨a, b⟩ ⟨c, d⟩)) []
  | _, _ => none
def T_frac_Mul : Nat → List AV → List Blk → (AV → List Blk → Ans) → Ans := upd T_frac_Sub 56 s_frac_Mul
theorem g_frac_Mul : GOK Tryd.prog GT gbT T_frac_Mul XT := by
  refine GOK.upd g_frac_Sub (fun args w => Tryd.call56 args w) fun xs bs K r h => ?_
  unfold s_frac_Mul at h
  split at h
  · exact ⟨_, _, c_frac_Mul _ _ _ _, h⟩
  · cases h


set_option maxRecDepth 100000 in
/-- fringeref01.Both -/
theorem w_fringeref01_Both (a b c d : Int) (K : AV → List Blk → Ans) : evFn Tryd.prog GT EQT T_frac_Mul XT noL 60 21 [.v (.agg [.int .i64 a, .int .i64 b]), .v (.agg [.int .i64 c, .int .i64 d])] [] (fun v M => K v (M.take ([] : List Blk).length)) = K (rI (bothE ⟨a, b⟩ ⟨c, d⟩)) [] := by
  simp only [bothE, pullK K]
  kernel_rfl
set_option maxRecDepth 100000 in
theorem c_fringeref01_Both (a b c d : Int) : CallsA Tryd.prog GT gbT 21 [.v (.agg [.int .i64 a, .int .i64 b]), .v (.agg [.int .i64 c, .int .i64 d])] [] (rI (bothE ⟨a, b⟩ ⟨c, d⟩)) [] := by
  refine CallsA.ofOk fun hok => ?_
  have hw := w_fringeref01_Both a b c d (fun v M => some (Res.fin v M))
  refine CallsA.ofEv (Γ := T_frac_Mul) (X := XT) (Λ := noL) (EQ := EQT) (n := 60) g_frac_Mul hEQT hmT (fun _ _ _ _ => noL_ok _) (hw.trans ?_)
  rfl
def s_fringeref01_Both : List AV → List Blk → (AV → List Blk → Ans) → Ans := fun xs bs K => match xs, bs with
  | [.v (.agg [.int .i64 a, .int .i64 b]), .v (.agg [.int .i64 c, .int .i64 d])], [] => K (rI (bothE ⟨a, b⟩ ⟨c, d⟩)) []
  | _, _ => none
def T_fringeref01_Both : Nat → List AV → List Blk → (AV → List Blk → Ans) → Ans := upd T_frac_Mul 21 s_fringeref01_Both
theorem g_fringeref01_Both : GOK Tryd.prog GT gbT T_fringeref01_Both XT := by
  refine GOK.upd g_frac_Mul (fun args w => Tryd.call21 args w) fun xs bs K r h => ?_
  unfold s_fringeref01_Both at h
  split at h
  · exact ⟨_, _, c_fringeref01_Both _ _ _ _, h⟩
  · cases h


set_option maxRecDepth 100000 in
/-- vec.Check -/
theorem w_vec_Check (a b c d e f : Int) (K : AV → List Blk → Ans) : evFn Tryd.prog GT EQT (inl Tryd.prog GT EQT XT [72] T_fringeref01_Both 60 1) XT noL 60 55 [.v (.agg [.int .i64 a, .int .i64 b, .int .i64 c, .int .i64 d, .int .i64 e, .int .i64 f])] [] (fun v M => K v (M.take ([] : List Blk).length)) = K (rI (checkVRaw ⟨⟨a, b⟩, ⟨c, d⟩, ⟨e, f⟩⟩)) [] := by
  simp only [checkVRaw, pullK K]
  kernel_rfl
set_option maxRecDepth 100000 in
theorem c_vec_Check (a b c d e f : Int) : CallsA Tryd.prog GT gbT 55 [.v (.agg [.int .i64 a, .int .i64 b, .int .i64 c, .int .i64 d, .int .i64 e, .int .i64 f])] [] (rI (checkV ⟨⟨a, b⟩, ⟨c, d⟩, ⟨e, f⟩⟩)) [] := by
  refine CallsA.ofOk fun hok => ?_
  have hw := w_vec_Check a b c d e f (fun v M => some (Res.fin v M))
  refine CallsA.ofEv (Γ := (inl Tryd.prog GT EQT XT [72] T_fringeref01_Both 60 1)) (X := XT) (Λ := noL) (EQ := EQT) (n := 60) (g_fringeref01_Both.inl hEQT hmT (fun f hf => by simp only [List.mem_cons, List.not_mem_nil, or_false] at hf; subst hf; exact (fun args w => Tryd.call72 args w)) 60 1) hEQT hmT (fun _ _ _ _ => noL_ok _) (hw.trans ?_)
  have h_a := inR_i64 (hok (.int .i64 a) (by simp [datasL, datas]))
  have h_b := inR_i64 (hok (.int .i64 b) (by simp [datasL, datas]))
  have h_c := inR_i64 (hok (.int .i64 c) (by simp [datasL, datas]))
  have h_d := inR_i64 (hok (.int .i64 d) (by simp [datasL, datas]))
  have h_e := inR_i64 (hok (.int .i64 e) (by simp [datasL, datas]))
  have h_f := inR_i64 (hok (.int .i64 f) (by simp [datasL, datas]))
  clear hok hw
  refine congrArg (fun v => some (Res.fin v [])) ?_
  rw [checkVRaw_ok]
def s_vec_Check : List AV → List Blk → (AV → List Blk → Ans) → Ans := fun xs bs K => match xs, bs with
  | [.v (.agg [.int .i64 a, .int .i64 b, .int .i64 c, .int .i64 d, .int .i64 e, .int .i64 f])], [] => K (rI (checkV ⟨⟨a, b⟩, ⟨c, d⟩, ⟨e, f⟩⟩)) []
  | _, _ => none
def T_vec_Check : Nat → List AV → List Blk → (AV → List Blk → Ans) → Ans := upd T_fringeref01_Both 55 s_vec_Check
theorem g_vec_Check : GOK Tryd.prog GT gbT T_vec_Check XT := by
  refine GOK.upd g_fringeref01_Both (fun args w => Tryd.call55 args w) fun xs bs K r h => ?_
  unfold s_vec_Check at h
  split at h
  · exact ⟨_, _, c_vec_Check _ _ _ _ _ _, h⟩
  · cases h


set_option maxRecDepth 100000 in
/-- fringeref02.Check -/
theorem w_fringeref02_Check (a b c d e f : Int) (K : AV → List Blk → Ans) : evFn Tryd.prog GT EQT T_vec_Check XT noL 60 6 [.v (.agg [.int .i64 a, .int .i64 b, .int .i64 c, .int .i64 d, .int .i64 e, .int .i64 f])] [] (fun v M => K v (M.take ([] : List Blk).length)) = K (rI (checkVRef ⟨⟨a, b⟩, ⟨c, d⟩, ⟨e, f⟩⟩)) [] := by
  simp only [checkVRef, pullK K]
  kernel_rfl
set_option maxRecDepth 100000 in
theorem c_fringeref02_Check (a b c d e f : Int) : CallsA Tryd.prog GT gbT 6 [.v (.agg [.int .i64 a, .int .i64 b, .int .i64 c, .int .i64 d, .int .i64 e, .int .i64 f])] [] (rI (checkV ⟨⟨a, b⟩, ⟨c, d⟩, ⟨e, f⟩⟩)) [] := by
  refine CallsA.ofOk fun hok => ?_
  have hw := w_fringeref02_Check a b c d e f (fun v M => some (Res.fin v M))
  refine CallsA.ofEv (Γ := T_vec_Check) (X := XT) (Λ := noL) (EQ := EQT) (n := 60) g_vec_Check hEQT hmT (fun _ _ _ _ => noL_ok _) (hw.trans ?_)
  have h_a := inR_i64 (hok (.int .i64 a) (by simp [datasL, datas]))
  have h_b := inR_i64 (hok (.int .i64 b) (by simp [datasL, datas]))
  have h_c := inR_i64 (hok (.int .i64 c) (by simp [datasL, datas]))
  have h_d := inR_i64 (hok (.int .i64 d) (by simp [datasL, datas]))
  have h_e := inR_i64 (hok (.int .i64 e) (by simp [datasL, datas]))
  have h_f := inR_i64 (hok (.int .i64 f) (by simp [datasL, datas]))
  clear hok hw
  refine congrArg (fun v => some (Res.fin v [])) ?_
  rw [checkVRef_ok]
def s_fringeref02_Check : List AV → List Blk → (AV → List Blk → Ans) → Ans := fun xs bs K => match xs, bs with
  | [.v (.agg [.int .i64 a, .int .i64 b, .int .i64 c, .int .i64 d, .int .i64 e, .int .i64 f])], [] => K (rI (checkV ⟨⟨a, b⟩, ⟨c, d⟩, ⟨e, f⟩⟩)) []
  | _, _ => none
def T_fringeref02_Check : Nat → List AV → List Blk → (AV → List Blk → Ans) → Ans := upd T_vec_Check 6 s_fringeref02_Check
theorem g_fringeref02_Check : GOK Tryd.prog GT gbT T_fringeref02_Check XT := by
  refine GOK.upd g_vec_Check (fun args w => Tryd.call6 args w) fun xs bs K r h => ?_
  unfold s_fringeref02_Check at h
  split at h
  · exact ⟨_, _, c_fringeref02_Check _ _ _ _ _ _, h⟩
  · cases h


set_option maxRecDepth 100000 in
/-- vec.Sub -/
theorem w_vec_Sub (a b c d e f g h i j k l : Int) (K : AV → List Blk → Ans) : evFn Tryd.prog GT EQT (inl Tryd.prog GT EQT XT [38, 66, 40, 67] T_fringeref02_Check 120 3) XT noL 120 47 [.v (.agg [.int .i64 a, .int .i64 b, .int .i64 c, .int .i64 d, .int .i64 e, .int .i64 f]), .v (.agg [.int .i64 g, .int .i64 h, .int .i64 i, .int .i64 j, .int .i64 k, .int .i64 l])] [] (fun v M => K v (M.take ([] : List Blk).length)) = subVAns K ⟨⟨a, b⟩, ⟨c, d⟩, ⟨e, f⟩⟩ ⟨⟨g, h⟩, ⟨i, j⟩, ⟨k, l⟩⟩ := by
  kernel_rfl
set_option maxRecDepth 100000 in
theorem c_vec_Sub (a b c d e f g h i j k l : Int) : CallsA Tryd.prog GT gbT 47 [.v (.agg [.int .i64 a, .int .i64 b, .int .i64 c, .int .i64 d, .int .i64 e, .int .i64 f]), .v (.agg [.int .i64 g, .int .i64 h, .int .i64 i, .int .i64 j, .int .i64 k, .int .i64 l])] [] (rVecE (subV ⟨⟨a, b⟩, ⟨c, d⟩, ⟨e, f⟩⟩ ⟨⟨g, h⟩, ⟨i, j⟩, ⟨k, l⟩⟩)) [] := by
  refine CallsA.ofOk fun hok => ?_
  have hw := w_vec_Sub a b c d e f g h i j k l (fun v M => some (Res.fin v M))
  refine CallsA.ofEv (Γ := (inl Tryd.prog GT EQT XT [38, 66, 40, 67] T_fringeref02_Check 120 3)) (X := XT) (Λ := noL) (EQ := EQT) (n := 120) (g_fringeref02_Check.inl hEQT hmT (fun f hf => by simp only [List.mem_cons, List.not_mem_nil, or_false] at hf; rcases hf with rfl | rfl | rfl | rfl <;> first | exact (fun args w => Tryd.call38 args w) | exact (fun args w => Tryd.call66 args w) | exact (fun args w => Tryd.call40 args w) | exact (fun args w => Tryd.call67 args w)) 120 3) hEQT hmT (fun _ _ _ _ => noL_ok _) (hw.trans ?_)
  have h_a := inR_i64 (hok (.int .i64 a) (by simp [datasL, datas]))
  have h_b := inR_i64 (hok (.int .i64 b) (by simp [datasL, datas]))
  have h_c := inR_i64 (hok (.int .i64 c) (by simp [datasL, datas]))
  have h_d := inR_i64 (hok (.int .i64 d) (by simp [datasL, datas]))
  have h_e := inR_i64 (hok (.int .i64 e) (by simp [datasL, datas]))
  have h_f := inR_i64 (hok (.int .i64 f) (by simp [datasL, datas]))
  have h_g := inR_i64 (hok (.int .i64 g) (by simp [datasL, datas]))
  have h_h := inR_i64 (hok (.int .i64 h) (by simp [datasL, datas]))
  have h_i := inR_i64 (hok (.int .i64 i) (by simp [datasL, datas]))
  have h_j := inR_i64 (hok (.int .i64 j) (by simp [datasL, datas]))
  have h_k := inR_i64 (hok (.int .i64 k) (by simp [datasL, datas]))
  have h_l := inR_i64 (hok (.int .i64 l) (by simp [datasL, datas]))
  clear hok hw
  exact subVAns_ok (K := fun v M => some (Res.fin v M))
def s_vec_Sub : List AV → List Blk → (AV → List Blk → Ans) → Ans := fun xs bs K => match xs, bs with
  | [.v (.agg [.int .i64 a, .int .i64 b, .int .i64 c, .int .i64 d, .int .i64 e, .int .i64 f]), .v (.agg [.int .i64 g, .int .i64 h, .int .i64 i, .int .i64 j, .int .i64 k, .int .i64 l])], [] => K (rVecE (subV ⟨⟨a, b⟩, ⟨c, d⟩, ⟨e, f⟩⟩ ⟨⟨g, h⟩, ⟨i, j⟩, ⟨k, l⟩⟩)) []
  | _, _ => none
def T_vec_Sub : Nat → List AV → List Blk → (AV → List Blk → Ans) → Ans := upd T_fringeref02_Check 47 s_vec_Sub
theorem g_vec_Sub : GOK Tryd.prog GT gbT T_vec_Sub XT := by
  refine GOK.upd g_fringeref02_Check (fun args w => Tryd.call47 args w) fun xs bs K r h => ?_
  unfold s_vec_Sub at h
  split at h
  · exact ⟨_, _, c_vec_Sub _ _ _ _ _ _ _ _ _ _ _ _, h⟩
  · cases h


set_option maxRecDepth 100000 in
/-- vec.dot -/
theorem w_vec_dot (a b c d e f g h i j k l : Int) (K : AV → List Blk → Ans) : evFn Tryd.prog GT EQT T_vec_Sub XT noL 120 39 [.v (.agg [.int .i64 a, .int .i64 b, .int .i64 c, .int .i64 d, .int .i64 e, .int .i64 f]), .v (.agg [.int .i64 g, .int .i64 h, .int .i64 i, .int .i64 j, .int .i64 k, .int .i64 l])] [] (fun v M => K v (M.take ([] : List Blk).length)) = dotFAns K ⟨⟨a, b⟩, ⟨c, d⟩, ⟨e, f⟩⟩ ⟨⟨g, h⟩, ⟨i, j⟩, ⟨k, l⟩⟩ := by
  kernel_rfl
set_option maxRecDepth 100000 in
theorem c_vec_dot (a b c d e f g h i j k l : Int) : CallsA Tryd.prog GT gbT 39 [.v (.agg [.int .i64 a, .int .i64 b, .int .i64 c, .int .i64 d, .int .i64 e, .int .i64 f]), .v (.agg [.int .i64 g, .int .i64 h, .int .i64 i, .int .i64 j, .int .i64 k, .int .i64 l])] [] (rFracE (dotF ⟨⟨a, b⟩, ⟨c, d⟩, ⟨e, f⟩⟩ ⟨⟨g, h⟩, ⟨i, j⟩, ⟨k, l⟩⟩)) [] := by
  refine CallsA.ofOk fun hok => ?_
  have hw := w_vec_dot a b c d e f g h i j k l (fun v M => some (Res.fin v M))
  refine CallsA.ofEv (Γ := T_vec_Sub) (X := XT) (Λ := noL) (EQ := EQT) (n := 120) g_vec_Sub hEQT hmT (fun _ _ _ _ => noL_ok _) (hw.trans ?_)
  have h_a := inR_i64 (hok (.int .i64 a) (by simp [datasL, datas]))
  have h_b := inR_i64 (hok (.int .i64 b) (by simp [datasL, datas]))
  have h_c := inR_i64 (hok (.int .i64 c) (by simp [datasL, datas]))
  have h_d := inR_i64 (hok (.int .i64 d) (by simp [datasL, datas]))
  have h_e := inR_i64 (hok (.int .i64 e) (by simp [datasL, datas]))
  have h_f := inR_i64 (hok (.int .i64 f) (by simp [datasL, datas]))
  have h_g := inR_i64 (hok (.int .i64 g) (by simp [datasL, datas]))
  have h_h := inR_i64 (hok (.int .i64 h) (by simp [datasL, datas]))
  have h_i := inR_i64 (hok (.int .i64 i) (by simp [datasL, datas]))
  have h_j := inR_i64 (hok (.int .i64 j) (by simp [datasL, datas]))
  have h_k := inR_i64 (hok (.int .i64 k) (by simp [datasL, datas]))
  have h_l := inR_i64 (hok (.int .i64 l) (by simp [datasL, datas]))
  clear hok hw
  exact dotFAns_ok (K := fun v M => some (Res.fin v M))
def s_vec_dot : List AV → List Blk → (AV → List Blk → Ans) → Ans := fun xs bs K => match xs, bs with
  | [.v (.agg [.int .i64 a, .int .i64 b, .int .i64 c, .int .i64 d, .int .i64 e, .int .i64 f]), .v (.agg [.int .i64 g, .int .i64 h, .int .i64 i, .int .i64 j, .int .i64 k, .int .i64 l])], [] => K (rFracE (dotF ⟨⟨a, b⟩, ⟨c, d⟩, ⟨e, f⟩⟩ ⟨⟨g, h⟩, ⟨i, j⟩, ⟨k, l⟩⟩)) []
  | _, _ => none
def T_vec_dot : Nat → List AV → List Blk → (AV → List Blk → Ans) → Ans := upd T_vec_Sub 39 s_vec_dot
theorem g_vec_dot : GOK Tryd.prog GT gbT T_vec_dot XT := by
  refine GOK.upd g_vec_Sub (fun args w => Tryd.call39 args w) fun xs bs K r h => ?_
  unfold s_vec_dot at h
  split at h
  · exact ⟨_, _, c_vec_dot _ _ _ _ _ _ _ _ _ _ _ _, h⟩
  · cases h


set_option maxRecDepth 100000 in
/-- vec.Dot -/
theorem w_vec_Dot (a b c d e f g h i j k l : Int) (K : AV → List Blk → Ans) : evFn Tryd.prog GT EQT (inl Tryd.prog GT EQT XT [38, 40] T_vec_dot 120 2) XT noL 120 24 [.v (.agg [.int .i64 a, .int .i64 b, .int .i64 c, .int .i64 d, .int .i64 e, .int .i64 f]), .v (.agg [.int .i64 g, .int .i64 h, .int .i64 i, .int .i64 j, .int .i64 k, .int .i64 l])] [] (fun v M => K v (M.take ([] : List Blk).length)) = dotVAns K ⟨⟨a, b⟩, ⟨c, d⟩, ⟨e, f⟩⟩ ⟨⟨g, h⟩, ⟨i, j⟩, ⟨k, l⟩⟩ := by
  kernel_rfl
set_option maxRecDepth 100000 in
theorem c_vec_Dot (a b c d e f g h i j k l : Int) : CallsA Tryd.prog GT gbT 24 [.v (.agg [.int .i64 a, .int .i64 b, .int .i64 c, .int .i64 d, .int .i64 e, .int .i64 f]), .v (.agg [.int .i64 g, .int .i64 h, .int .i64 i, .int .i64 j, .int .i64 k, .int .i64 l])] [] (rFracE (dotV ⟨⟨a, b⟩, ⟨c, d⟩, ⟨e, f⟩⟩ ⟨⟨g, h⟩, ⟨i, j⟩, ⟨k, l⟩⟩)) [] := by
  refine CallsA.ofOk fun hok => ?_
  have hw := w_vec_Dot a b c d e f g h i j k l (fun v M => some (Res.fin v M))
  refine CallsA.ofEv (Γ := (inl Tryd.prog GT EQT XT [38, 40] T_vec_dot 120 2)) (X := XT) (Λ := noL) (EQ := EQT) (n := 120) (g_vec_dot.inl hEQT hmT (fun f hf => by simp only [List.mem_cons, List.not_mem_nil, or_false] at hf; rcases hf with rfl | rfl <;> first | exact (fun args w => Tryd.call38 args w) | exact (fun args w => Tryd.call40 args w)) 120 2) hEQT hmT (fun _ _ _ _ => noL_ok _) (hw.trans ?_)
  have h_a := inR_i64 (hok (.int .i64 a) (by simp [datasL, datas]))
  have h_b := inR_i64 (hok (.int .i64 b) (by simp [datasL, datas]))
  have h_c := inR_i64 (hok (.int .i64 c) (by simp [datasL, datas]))
  have h_d := inR_i64 (hok (.int .i64 d) (by simp [datasL, datas]))
  have h_e := inR_i64 (hok (.int .i64 e) (by simp [datasL, datas]))
  have h_f := inR_i64 (hok (.int .i64 f) (by simp [datasL, datas]))
  have h_g := inR_i64 (hok (.int .i64 g) (by simp [datasL, datas]))
  have h_h := inR_i64 (hok (.int .i64 h) (by simp [datasL, datas]))
  have h_i := inR_i64 (hok (.int .i64 i) (by simp [datasL, datas]))
  have h_j := inR_i64 (hok (.int .i64 j) (by simp [datasL, datas]))
  have h_k := inR_i64 (hok (.int .i64 k) (by simp [datasL, datas]))
  have h_l := inR_i64 (hok (.int .i64 l) (by simp [datasL, datas]))
  clear hok hw
  exact dotVAns_ok (K := fun v M => some (Res.fin v M))
def s_vec_Dot : List AV → List Blk → (AV → List Blk → Ans) → Ans := fun xs bs K => match xs, bs with
  | [.v (.agg [.int .i64 a, .int .i64 b, .int .i64 c, .int .i64 d, .int .i64 e, .int .i64 f]), .v (.agg [.int .i64 g, .int .i64 h, .int .i64 i, .int .i64 j, .int .i64 k, .int .i64 l])], [] => K (rFracE (dotV ⟨⟨a, b⟩, ⟨c, d⟩, ⟨e, f⟩⟩ ⟨⟨g, h⟩, ⟨i, j⟩, ⟨k, l⟩⟩)) []
  | _, _ => none
def T_vec_Dot : Nat → List AV → List Blk → (AV → List Blk → Ans) → Ans := upd T_vec_dot 24 s_vec_Dot
theorem g_vec_Dot : GOK Tryd.prog GT gbT T_vec_Dot XT := by
  refine GOK.upd g_vec_dot (fun args w => Tryd.call24 args w) fun xs bs K r h => ?_
  unfold s_vec_Dot at h
  split at h
  · exact ⟨_, _, c_vec_Dot _ _ _ _ _ _ _ _ _ _ _ _, h⟩
  · cases h


end Go.Ev
