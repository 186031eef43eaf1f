/-
  Contracts of functions: what each returns. No condition beyond those of the statements.
-/
import Derived.Test.YtglifoijcdfjaaaGreatDoorPyCA
namespace Go.Ev
open Go Go.Proofs

set_option maxRecDepth 100000 in
/-- frac.build -/
theorem w_frac_build (m : Bool) (n d : Int) (K : AV → List Blk → Ans) : evFn Tryz.prog GT EQT T_frac_wider XT noL 60 100 [.v (.c (.d (.bool m))), .v (.c (.d (.int .u64 n))), .v (.c (.d (.int .u64 d)))] [] (fun v M => K v (M.take ([] : List Blk).length)) = K (rFracE (buildRaw m n d)) [] := by
  simp only [buildRaw, pullK K]
  kernel_rfl
set_option maxRecDepth 100000 in
theorem c_frac_build (m : Bool) (n d : Int) : CallsA Tryz.prog GT gbT 100 [.v (.c (.d (.bool m))), .v (.c (.d (.int .u64 n))), .v (.c (.d (.int .u64 d)))] [] (rFracE (lowF m n d)) [] := by
  refine CallsA.ofOk fun hok => ?_
  have hw := w_frac_build m n d (fun v M => some (Res.fin v M))
  refine CallsA.ofEv (Γ := T_frac_wider) (X := XT) (Λ := noL) (EQ := EQT) (n := 60) g_frac_wider hEQT hmT (fun _ _ _ _ => noL_ok _) (hw.trans ?_)
  have h_n := inR_u64 (hok (.int .u64 n) (by simp [datasL, datas]))
  have h_d := inR_u64 (hok (.int .u64 d) (by simp [datasL, datas]))
  clear hok hw
  refine congrArg (fun v => some (Res.fin v [])) ?_
  rw [buildRaw_ok h_n.1 h_d.1]
def s_frac_build : List AV → List Blk → (AV → List Blk → Ans) → Ans := fun xs bs K => match xs, bs with
  | [.v (.c (.d (.bool m))), .v (.c (.d (.int .u64 n))), .v (.c (.d (.int .u64 d)))], [] => K (rFracE (lowF m n d)) []
  | _, _ => none
def T_frac_build : Nat → List AV → List Blk → (AV → List Blk → Ans) → Ans := upd T_frac_wider 100 s_frac_build
theorem g_frac_build : GOK Tryz.prog GT gbT T_frac_build XT := by
  refine GOK.upd g_frac_wider (fun args w => Tryz.call100 args w) fun xs bs K r h => ?_
  unfold s_frac_build at h
  split at h
  · exact ⟨_, _, c_frac_build _ _ _, h⟩
  · cases h


set_option maxRecDepth 100000 in
/-- frac.both -/
theorem w_frac_both (a b c d : Int) (K : AV → List Blk → Ans) : evFn Tryz.prog GT EQT T_frac_build XT noL 60 90 [.v (.agg [.int .i64 a, .int .i64 b]), .v (.agg [.int .i64 c, .int .i64 d])] [] (fun v M => K v (M.take ([] : List Blk).length)) = K (rI (bothE ⟨a, b⟩ ⟨c, d⟩)) [] := by
  simp only [bothE, pullK K]
  kernel_rfl
set_option maxRecDepth 100000 in
theorem c_frac_both (a b c d : Int) : CallsA Tryz.prog GT gbT 90 [.v (.agg [.int .i64 a, .int .i64 b]), .v (.agg [.int .i64 c, .int .i64 d])] [] (rI (bothE ⟨a, b⟩ ⟨c, d⟩)) [] := by
  refine CallsA.ofOk fun hok => ?_
  have hw := w_frac_both a b c d (fun v M => some (Res.fin v M))
  refine CallsA.ofEv (Γ := T_frac_build) (X := XT) (Λ := noL) (EQ := EQT) (n := 60) g_frac_build hEQT hmT (fun _ _ _ _ => noL_ok _) (hw.trans ?_)
  rfl
def s_frac_both : List AV → List Blk → (AV → List Blk → Ans) → Ans := fun xs bs K => match xs, bs with
  | [.v (.agg [.int .i64 a, .int .i64 b]), .v (.agg [.int .i64 c, .int .i64 d])], [] => K (rI (bothE ⟨a, b⟩ ⟨c, d⟩)) []
  | _, _ => none
def T_frac_both : Nat → List AV → List Blk → (AV → List Blk → Ans) → Ans := upd T_frac_build 90 s_frac_both
theorem g_frac_both : GOK Tryz.prog GT gbT T_frac_both XT := by
  refine GOK.upd g_frac_build (fun args w => Tryz.call90 args w) fun xs bs K r h => ?_
  unfold s_frac_both at h
  split at h
  · exact ⟨_, _, c_frac_both _ _ _ _, h⟩
  · cases h


set_option maxRecDepth 100000 in
/-- frac.sum -/
theorem w_frac_sum (a b c d : Int) (K : AV → List Blk → Ans) : evFn Tryz.prog GT EQT T_frac_both XT noL 120 92 [.v (.agg [.int .i64 a, .int .i64 b]), .v (.agg [.int .i64 c, .int .i64 d])] [] (fun v M => K v (M.take ([] : List Blk).length)) = sumAns K ⟨a, b⟩ ⟨c, d⟩ := by
  kernel_rfl
set_option maxRecDepth 100000 in
theorem c_frac_sum (a b c d : Int) (hd : (fracOkB ⟨a, b⟩ && fracOkB ⟨c, d⟩) = true) : CallsA Tryz.prog GT gbT 92 [.v (.agg [.int .i64 a, .int .i64 b]), .v (.agg [.int .i64 c, .int .i64 d])] [] (rFracE (fracOf (a * d + c * b) (b * d))) [] := by
  refine CallsA.ofOk fun hok => ?_
  have hw := w_frac_sum a b c d (fun v M => some (Res.fin v M))
  refine CallsA.ofEv (Γ := T_frac_both) (X := XT) (Λ := noL) (EQ := EQT) (n := 120) g_frac_both hEQT hmT (fun _ _ _ _ => noL_ok _) (hw.trans ?_)
  have h_a := inR_i64 (hok (.int .i64 a) (by simp [datasL, datas]))
  have h_b := inR_i64 (hok (.int .i64 b) (by simp [datasL, datas]))
  have h_c := inR_i64 (hok (.int .i64 c) (by simp [datasL, datas]))
  have h_d := inR_i64 (hok (.int .i64 d) (by simp [datasL, datas]))
  clear hok hw
  simp only [Bool.and_eq_true] at hd
  exact sumAns_ok (K := fun v M => some (Res.fin v M)) (fracOkB_iff.1 hd.1) (fracOkB_iff.1 hd.2)
def s_frac_sum : List AV → List Blk → (AV → List Blk → Ans) → Ans := fun xs bs K => match xs, bs with
  | [.v (.agg [.int .i64 a, .int .i64 b]), .v (.agg [.int .i64 c, .int .i64 d])], [] => bif fracOkB ⟨a, b⟩ && fracOkB ⟨c, d⟩ then K (rFracE (fracOf (a * d + c * b) (b * d))) [] else none
  | _, _ => none
def T_frac_sum : Nat → List AV → List Blk → (AV → List Blk → Ans) → Ans := upd T_frac_both 92 s_frac_sum
theorem g_frac_sum : GOK Tryz.prog GT gbT T_frac_sum XT := by
  refine GOK.upd g_frac_both (fun args w => Tryz.call92 args w) fun xs bs K r h => ?_
  unfold s_frac_sum at h
  split at h
  · simp only [cond_eq_ite] at h
    split at h
    · exact ⟨_, _, c_frac_sum _ _ _ _ ‹_›, h⟩
    · cases h
  · cases h


set_option maxRecDepth 100000 in
/-- frac.Add -/
theorem w_frac_Add (a b c d : Int) (K : AV → List Blk → Ans) : evFn Tryz.prog GT EQT T_frac_sum XT noL 60 70 [.v (.agg [.int .i64 a, .int .i64 b]), .v (.agg [.int .i64 c, .int .i64 d])] [] (fun v M => K v (M.take ([] : List Blk).length)) = addAns K ⟨a, b⟩ ⟨c, d⟩ := by
  kernel_rfl
set_option maxRecDepth 100000 in
theorem c_frac_Add (a b c d : Int) : CallsA Tryz.prog GT gbT 70 [.v (.agg [.int .i64 a, .int .i64 b]), .v (.agg [.int .i64 c, .int .i64 d])] [] (rFracE (addF ⟨a, b⟩ ⟨c, d⟩)) [] := by
  refine CallsA.ofOk fun hok => ?_
  have hw := w_frac_Add a b c d (fun v M => some (Res.fin v M))
  refine CallsA.ofEv (Γ := T_frac_sum) (X := XT) (Λ := noL) (EQ := EQT) (n := 60) g_frac_sum hEQT hmT (fun _ _ _ _ => noL_ok _) (hw.trans ?_)
  have h_a := inR_i64 (hok (.int .i64 a) (by simp [datasL, datas]))
  have h_b := inR_i64 (hok (.int .i64 b) (by simp [datasL, datas]))
  have h_c := inR_i64 (hok (.int .i64 c) (by simp [datasL, datas]))
  have h_d := inR_i64 (hok (.int .i64 d) (by simp [datasL, datas]))
  clear hok hw
  exact addAns_ok (K := fun v M => some (Res.fin v M))
def s_frac_Add : List AV → List Blk → (AV → List Blk → Ans) → Ans := fun xs bs K => match xs, bs with
  | [.v (.agg [.int .i64 a, .int .i64 b]), .v (.agg [.int .i64 c, .int .i64 d])], [] => K (rFracE (addF ⟨a, b⟩ ⟨c, d⟩)) []
  | _, _ => none
def T_frac_Add : Nat → List AV → List Blk → (AV → List Blk → Ans) → Ans := upd T_frac_sum 70 s_frac_Add
theorem g_frac_Add : GOK Tryz.prog GT gbT T_frac_Add XT := by
  refine GOK.upd g_frac_sum (fun args w => Tryz.call70 args w) fun xs bs K r h => ?_
  unfold s_frac_Add at h
  split at h
  · exact ⟨_, _, c_frac_Add _ _ _ _, h⟩
  · cases h


set_option maxRecDepth 100000 in
/-- frac.product -/
theorem w_frac_product (a b c d : Int) (K : AV → List Blk → Ans) : evFn Tryz.prog GT EQT T_frac_Add XT noL 120 91 [.v (.agg [.int .i64 a, .int .i64 b]), .v (.agg [.int .i64 c, .int .i64 d])] [] (fun v M => K v (M.take ([] : List Blk).length)) = prodAns K ⟨a, b⟩ ⟨c, d⟩ := by
  kernel_rfl
set_option maxRecDepth 100000 in
theorem c_frac_product (a b c d : Int) (hd : (fracOkB ⟨a, b⟩ && fracOkB ⟨c, d⟩) = true) : CallsA Tryz.prog GT gbT 91 [.v (.agg [.int .i64 a, .int .i64 b]), .v (.agg [.int .i64 c, .int .i64 d])] [] (rFracE (fracOf (a * c) (b * d))) [] := by
  refine CallsA.ofOk fun hok => ?_
  have hw := w_frac_product a b c d (fun v M => some (Res.fin v M))
  refine CallsA.ofEv (Γ := T_frac_Add) (X := XT) (Λ := noL) (EQ := EQT) (n := 120) g_frac_Add hEQT hmT (fun _ _ _ _ => noL_ok _) (hw.trans ?_)
  have h_a := inR_i64 (hok (.int .i64 a) (by simp [datasL, datas]))
  have h_b := inR_i64 (hok (.int .i64 b) (by simp [datasL, datas]))
  have h_c := inR_i64 (hok (.int .i64 c) (by simp [datasL, datas]))
  have h_d := inR_i64 (hok (.int .i64 d) (by simp [datasL, datas]))
  clear hok hw
  simp only [Bool.and_eq_true] at hd
  exact prodAns_ok (K := fun v M => some (Res.fin v M)) (fracOkB_iff.1 hd.1) (fracOkB_iff.1 hd.2)
def s_frac_product : List AV → List Blk → (AV → List Blk → Ans) → Ans := fun xs bs K => match xs, bs with
  | [.v (.agg [.int .i64 a, .int .i64 b]), .v (.agg [.int .i64 c, .int .i64 d])], [] => bif fracOkB ⟨a, b⟩ && fracOkB ⟨c, d⟩ then K (rFracE (fracOf (a * c) (b * d))) [] else none
  | _, _ => none
def T_frac_product : Nat → List AV → List Blk → (AV → List Blk → Ans) → Ans := upd T_frac_Add 91 s_frac_product
theorem g_frac_product : GOK Tryz.prog GT gbT T_frac_product XT := by
  refine GOK.upd g_frac_Add (fun args w => Tryz.call91 args w) fun xs bs K r h => ?_
  unfold s_frac_product at h
  split at h
  · simp only [cond_eq_ite] at h
    split at h
    · exact ⟨_, _, c_frac_product _ _ _ _ ‹_›, h⟩
    · cases h
  · cases h


set_option maxRecDepth 100000 in
/-- frac.Mul -/
theorem w_frac_Mul (a b c d : Int) (K : AV → List Blk → Ans) : evFn Tryz.prog GT EQT T_frac_product XT noL 60 69 [.v (.agg [.int .i64 a, .int .i64 b]), .v (.agg [.int .i64 c, .int .i64 d])] [] (fun v M => K v (M.take ([] : List Blk).length)) = mulAns K ⟨a, b⟩ ⟨c, d⟩ := by
  kernel_rfl
set_option maxRecDepth 100000 in
theorem c_frac_Mul (a b c d : Int) : CallsA Tryz.prog GT gbT 69 [.v (.agg [.int .i64 a, .int .i64 b]), .v (.agg [.int .i64 c, .int .i64 d])] [] (rFracE (mulF ⟨a, b⟩ ⟨c, d⟩)) [] := by
  refine CallsA.ofOk fun hok => ?_
  have hw := w_frac_Mul a b c d (fun v M => some (Res.fin v M))
  refine CallsA.ofEv (Γ := T_frac_product) (X := XT) (Λ := noL) (EQ := EQT) (n := 60) g_frac_product hEQT hmT (fun _ _ _ _ => noL_ok _) (hw.trans ?_)
  have h_a := inR_i64 (hok (.int .i64 a) (by simp [datasL, datas]))
  have h_b := inR_i64 (hok (.int .i64 b) (by simp [datasL, datas]))
  have h_c := inR_i64 (hok (.int .i64 c) (by simp [datasL, datas]))
  have h_d := inR_i64 (hok (.int .i64 d) (by simp [datasL, datas]))
  clear hok hw
  exact mulAns_ok (K := fun v M => some (Res.fin v M))
def s_frac_Mul : List AV → List Blk → (AV → List Blk → Ans) → Ans := fun xs bs K => match xs, bs with
  | [.v (.agg [.int .i64 a, .int .i64 b]), .v (.agg [.int .i64 c, .int .i64 d])], [] => K (rFracE (mulF ⟨a, b⟩ ⟨c, d⟩)) []
  | _, _ => none
def T_frac_Mul : Nat → List AV → List Blk → (AV → List Blk → Ans) → Ans := upd T_frac_product 69 s_frac_Mul
theorem g_frac_Mul : GOK Tryz.prog GT gbT T_frac_Mul XT := by
  refine GOK.upd g_frac_product (fun args w => Tryz.call69 args w) fun xs bs K r h => ?_
  unfold s_frac_Mul at h
  split at h
  · exact ⟨_, _, c_frac_Mul _ _ _ _, h⟩
  · cases h


set_option maxRecDepth 100000 in
/-- fringeref01.Both -/
theorem w_fringeref01_Both (a b c d : Int) (K : AV → List Blk → Ans) : evFn Tryz.prog GT EQT T_frac_Mul XT noL 60 67 [.v (.agg [.int .i64 a, .int .i64 b]), .v (.agg [.int .i64 c, .int .i64 d])] [] (fun v M => K v (M.take ([] : List Blk).length)) = K (rI (bothE ⟨a, b⟩ ⟨c, d⟩)) [] := by
  simp only [bothE, pullK K]
  kernel_rfl
set_option maxRecDepth 100000 in
theorem c_fringeref01_Both (a b c d : Int) : CallsA Tryz.prog GT gbT 67 [.v (.agg [.int .i64 a, .int .i64 b]), .v (.agg [.int .i64 c, .int .i64 d])] [] (rI (bothE ⟨a, b⟩ ⟨c, d⟩)) [] := by
  refine CallsA.ofOk fun hok => ?_
  have hw := w_fringeref01_Both a b c d (fun v M => some (Res.fin v M))
  refine CallsA.ofEv (Γ := T_frac_Mul) (X := XT) (Λ := noL) (EQ := EQT) (n := 60) g_frac_Mul hEQT hmT (fun _ _ _ _ => noL_ok _) (hw.trans ?_)
  rfl
def s_fringeref01_Both : List AV → List Blk → (AV → List Blk → Ans) → Ans := fun xs bs K => match xs, bs with
  | [.v (.agg [.int .i64 a, .int .i64 b]), .v (.agg [.int .i64 c, .int .i64 d])], [] => K (rI (bothE ⟨a, b⟩ ⟨c, d⟩)) []
  | _, _ => none
def T_fringeref01_Both : Nat → List AV → List Blk → (AV → List Blk → Ans) → Ans := upd T_frac_Mul 67 s_fringeref01_Both
theorem g_fringeref01_Both : GOK Tryz.prog GT gbT T_fringeref01_Both XT := by
  refine GOK.upd g_frac_Mul (fun args w => Tryz.call67 args w) fun xs bs K r h => ?_
  unfold s_fringeref01_Both at h
  split at h
  · exact ⟨_, _, c_fringeref01_Both _ _ _ _, h⟩
  · cases h


set_option maxRecDepth 100000 in
/-- fringeref01.sum -/
theorem w_fringeref01_sum (a b c d e f g h : Int) (K : AV → List Blk → Ans) : evFn Tryz.prog GT EQT T_fringeref01_Both XT noL 60 79 [.v (.agg [.int .u64 a, .int .u64 b, .int .u64 c, .int .u64 d]), .v (.agg [.int .u64 e, .int .u64 f, .int .u64 g, .int .u64 h])] [] (fun v M => K v (M.take ([] : List Blk).length)) = K (rBig (sumBig ⟨a, b, c, d⟩ ⟨e, f, g, h⟩)) [] := by
  kernel_rfl
set_option maxRecDepth 100000 in
theorem c_fringeref01_sum (a b c d e f g h : Int) (hd : (sumOn ⟨a, b, c, d⟩ ⟨e, f, g, h⟩) = true) : CallsA Tryz.prog GT gbT 79 [.v (.agg [.int .u64 a, .int .u64 b, .int .u64 c, .int .u64 d]), .v (.agg [.int .u64 e, .int .u64 f, .int .u64 g, .int .u64 h])] [] (rBig (bigOf (valOf ⟨a, b, c, d⟩ + valOf ⟨e, f, g, h⟩))) [] := by
  refine CallsA.ofOk fun hok => ?_
  have hw := w_fringeref01_sum a b c d e f g h (fun v M => some (Res.fin v M))
  refine CallsA.ofEv (Γ := T_fringeref01_Both) (X := XT) (Λ := noL) (EQ := EQT) (n := 60) g_fringeref01_Both hEQT hmT (fun _ _ _ _ => noL_ok _) (hw.trans ?_)
  have h_a := inR_u64 (hok (.int .u64 a) (by simp [datasL, datas]))
  have h_b := inR_u64 (hok (.int .u64 b) (by simp [datasL, datas]))
  have h_c := inR_u64 (hok (.int .u64 c) (by simp [datasL, datas]))
  have h_d := inR_u64 (hok (.int .u64 d) (by simp [datasL, datas]))
  have h_e := inR_u64 (hok (.int .u64 e) (by simp [datasL, datas]))
  have h_f := inR_u64 (hok (.int .u64 f) (by simp [datasL, datas]))
  have h_g := inR_u64 (hok (.int .u64 g) (by simp [datasL, datas]))
  have h_h := inR_u64 (hok (.int .u64 h) (by simp [datasL, datas]))
  clear hok hw
  refine congrArg (fun v => some (Res.fin v [])) ?_
  rw [sumBig_ok hd]
def s_fringeref01_sum : List AV → List Blk → (AV → List Blk → Ans) → Ans := fun xs bs K => match xs, bs with
  | [.v (.agg [.int .u64 a, .int .u64 b, .int .u64 c, .int .u64 d]), .v (.agg [.int .u64 e, .int .u64 f, .int .u64 g, .int .u64 h])], [] => bif sumOn ⟨a, b, c, d⟩ ⟨e, f, g, h⟩ then K (rBig (bigOf (valOf ⟨a, b, c, d⟩ + valOf ⟨e, f, g, h⟩))) [] else none
  | _, _ => none
def T_fringeref01_sum : Nat → List AV → List Blk → (AV → List Blk → Ans) → Ans := upd T_fringeref01_Both 79 s_fringeref01_sum
theorem g_fringeref01_sum : GOK Tryz.prog GT gbT T_fringeref01_sum XT := by
  refine GOK.upd g_fringeref01_Both (fun args w => Tryz.call79 args w) fun xs bs K r h => ?_
  unfold s_fringeref01_sum at h
  split at h
  · simp only [cond_eq_ite] at h
    split at h
    · exact ⟨_, _, c_fringeref01_sum _ _ _ _ _ _ _ _ ‹_›, h⟩
    · cases h
  · cases h


set_option maxRecDepth 100000 in
/-- fringeref01.rest -/
theorem w_fringeref01_rest (a b c d e f g h : Int) (K : AV → List Blk → Ans) : evFn Tryz.prog GT EQT T_fringeref01_sum XT noL 60 81 [.v (.agg [.int .u64 a, .int .u64 b, .int .u64 c, .int .u64 d]), .v (.agg [.int .u64 e, .int .u64 f, .int .u64 g, .int .u64 h])] [] (fun v M => K v (M.take ([] : List Blk).length)) = K (rBig (restBig ⟨a, b, c, d⟩ ⟨e, f, g, h⟩)) [] := by
  kernel_rfl
set_option maxRecDepth 100000 in
theorem c_fringeref01_rest (a b c d e f g h : Int) (hd : (restOn ⟨a, b, c, d⟩ ⟨e, f, g, h⟩) = true) : CallsA Tryz.prog GT gbT 81 [.v (.agg [.int .u64 a, .int .u64 b, .int .u64 c, .int .u64 d]), .v (.agg [.int .u64 e, .int .u64 f, .int .u64 g, .int .u64 h])] [] (rBig (bigOf (valOf ⟨a, b, c, d⟩ - valOf ⟨e, f, g, h⟩))) [] := by
  refine CallsA.ofOk fun hok => ?_
  have hw := w_fringeref01_rest a b c d e f g h (fun v M => some (Res.fin v M))
  refine CallsA.ofEv (Γ := T_fringeref01_sum) (X := XT) (Λ := noL) (EQ := EQT) (n := 60) g_fringeref01_sum hEQT hmT (fun _ _ _ _ => noL_ok _) (hw.trans ?_)
  have h_a := inR_u64 (hok (.int .u64 a) (by simp [datasL, datas]))
  have h_b := inR_u64 (hok (.int .u64 b) (by simp [datasL, datas]))
  have h_c := inR_u64 (hok (.int .u64 c) (by simp [datasL, datas]))
  have h_d := inR_u64 (hok (.int .u64 d) (by simp [datasL, datas]))
  have h_e := inR_u64 (hok (.int .u64 e) (by simp [datasL, datas]))
  have h_f := inR_u64 (hok (.int .u64 f) (by simp [datasL, datas]))
  have h_g := inR_u64 (hok (.int .u64 g) (by simp [datasL, datas]))
  have h_h := inR_u64 (hok (.int .u64 h) (by simp [datasL, datas]))
  clear hok hw
  refine congrArg (fun v => some (Res.fin v [])) ?_
  rw [restBig_ok hd]
def s_fringeref01_rest : List AV → List Blk → (AV → List Blk → Ans) → Ans := fun xs bs K => match xs, bs with
  | [.v (.agg [.int .u64 a, .int .u64 b, .int .u64 c, .int .u64 d]), .v (.agg [.int .u64 e, .int .u64 f, .int .u64 g, .int .u64 h])], [] => bif restOn ⟨a, b, c, d⟩ ⟨e, f, g, h⟩ then K (rBig (bigOf (valOf ⟨a, b, c, d⟩ - valOf ⟨e, f, g, h⟩))) [] else none
  | _, _ => none
def T_fringeref01_rest : Nat → List AV → List Blk → (AV → List Blk → Ans) → Ans := upd T_fringeref01_sum 81 s_fringeref01_rest
theorem g_fringeref01_rest : GOK Tryz.prog GT gbT T_fringeref01_rest XT := by
  refine GOK.upd g_fringeref01_sum (fun args w => Tryz.call81 args w) fun xs bs K r h => ?_
  unfold s_fringeref01_rest at h
  split at h
  · simp only [cond_eq_ite] at h
    split at h
    · exact ⟨_, _, c_fringeref01_rest _ _ _ _ _ _ _ _ ‹_›, h⟩
    · cases h
  · cases h


set_option maxRecDepth 100000 in
/-- fringeref01.Add -/
theorem w_fringeref01_Add (a b c d : Int) (K : AV → List Blk → Ans) : evFn Tryz.prog GT EQT T_fringeref01_rest XT noL 120 56 [.v (.agg [.int .i64 a, .int .i64 b]), .v (.agg [.int .i64 c, .int .i64 d])] [] (fun v M => K v (M.take ([] : List Blk).length)) = addRefAns K ⟨a, b⟩ ⟨c, d⟩ := by
  kernel_rfl
set_option maxRecDepth 100000 in
theorem c_fringeref01_Add (a b c d : Int) : CallsA Tryz.prog GT gbT 56 [.v (.agg [.int .i64 a, .int .i64 b]), .v (.agg [.int .i64 c, .int .i64 d])] [] (rFracE (addF ⟨a, b⟩ ⟨c, d⟩)) [] := by
  refine CallsA.ofOk fun hok => ?_
  have hw := w_fringeref01_Add a b c d (fun v M => some (Res.fin v M))
  refine CallsA.ofEv (Γ := T_fringeref01_rest) (X := XT) (Λ := noL) (EQ := EQT) (n := 120) g_fringeref01_rest hEQT hmT (fun _ _ _ _ => noL_ok _) (hw.trans ?_)
  have h_a := inR_i64 (hok (.int .i64 a) (by simp [datasL, datas]))
  have h_b := inR_i64 (hok (.int .i64 b) (by simp [datasL, datas]))
  have h_c := inR_i64 (hok (.int .i64 c) (by simp [datasL, datas]))
  have h_d := inR_i64 (hok (.int .i64 d) (by simp [datasL, datas]))
  clear hok hw
  exact addRefAns_ok (K := fun v M => some (Res.fin v M))
def s_fringeref01_Add : List AV → List Blk → (AV → List Blk → Ans) → Ans := fun xs bs K => match xs, bs with
  | [.v (.agg [.int .i64 a, .int .i64 b]), .v (.agg [.int .i64 c, .int .i64 d])], [] => K (rFracE (addF ⟨a, b⟩ ⟨c, d⟩)) []
  | _, _ => none
def T_fringeref01_Add : Nat → List AV → List Blk → (AV → List Blk → Ans) → Ans := upd T_fringeref01_rest 56 s_fringeref01_Add
theorem g_fringeref01_Add : GOK Tryz.prog GT gbT T_fringeref01_Add XT := by
  refine GOK.upd g_fringeref01_rest (fun args w => Tryz.call56 args w) fun xs bs K r h => ?_
  unfold s_fringeref01_Add at h
  split at h
  · exact ⟨_, _, c_fringeref01_Add _ _ _ _, h⟩
  · cases h


set_option maxRecDepth 100000 in
/-- fringeref01.Mul -/
theorem w_fringeref01_Mul (a b c d : Int) (K : AV → List Blk → Ans) : evFn Tryz.prog GT EQT T_fringeref01_Add XT noL 60 54 [.v (.agg [.int .i64 a, .int .i64 b]), .v (.agg [.int .i64 c, .int .i64 d])] [] (fun v M => K v (M.take ([] : List Blk).length)) = mulRefAns K ⟨a, b⟩ ⟨c, d⟩ := by
  kernel_rfl
set_option maxRecDepth 100000 in
theorem c_fringeref01_Mul (a b c d : Int) : CallsA Tryz.prog GT gbT 54 [.v (.agg [.int .i64 a, .int .i64 b]), .v (.agg [.int .i64 c, .int .i64 d])] [] (rFracE (mulF ⟨a, b⟩ ⟨c, d⟩)) [] := by
  refine CallsA.ofOk fun hok => ?_
  have hw := w_fringeref01_Mul a b c d (fun v M => some (Res.fin v M))
  refine CallsA.ofEv (Γ := T_fringeref01_Add) (X := XT) (Λ := noL) (EQ := EQT) (n := 60) g_fringeref01_Add hEQT hmT (fun _ _ _ _ => noL_ok _) (hw.trans ?_)
  have h_a := inR_i64 (hok (.int .i64 a) (by simp [datasL, datas]))
  have h_b := inR_i64 (hok (.int .i64 b) (by simp [datasL, datas]))
  have h_c := inR_i64 (hok (.int .i64 c) (by simp [datasL, datas]))
  have h_d := inR_i64 (hok (.int .i64 d) (by simp [datasL, datas]))
  clear hok hw
  exact mulRefAns_ok (K := fun v M => some (Res.fin v M))
def s_fringeref01_Mul : List AV → List Blk → (AV → List Blk → Ans) → Ans := fun xs bs K => match xs, bs with
  | [.v (.agg [.int .i64 a, .int .i64 b]), .v (.agg [.int .i64 c, .int .i64 d])], [] => K (rFracE (mulF ⟨a, b⟩ ⟨c, d⟩)) []
  | _, _ => none
def T_fringeref01_Mul : Nat → List AV → List Blk → (AV → List Blk → Ans) → Ans := upd T_fringeref01_Add 54 s_fringeref01_Mul
theorem g_fringeref01_Mul : GOK Tryz.prog GT gbT T_fringeref01_Mul XT := by
  refine GOK.upd g_fringeref01_Add (fun args w => Tryz.call54 args w) fun xs bs K r h => ?_
  unfold s_fringeref01_Mul at h
  split at h
  · exact ⟨_, _, c_fringeref01_Mul _ _ _ _, h⟩
  · cases h


set_option maxRecDepth 100000 in
/-- vec.Check -/
theorem w_vec_Check (a b c d e f : Int) (K : AV → List Blk → Ans) : evFn Tryz.prog GT EQT (inl Tryz.prog GT EQT XT [87] T_fringeref01_Mul 60 1) XT noL 60 65 [.v (.agg [.int .i64 a, .int .i64 b, .int .i64 c, .int .i64 d, .int .i64 e, .int .i64 f])] [] (fun v M => K v (M.take ([] : List Blk).length)) = K (rI (checkVRaw ⟨⟨a, b⟩, ⟨c, d⟩, ⟨e, f⟩⟩)) [] := by
  simp only [checkVRaw, pullK K]
  kernel_rfl
set_option maxRecDepth 100000 in
theorem c_vec_Check (a b c d e f : Int) : CallsA Tryz.prog GT gbT 65 [.v (.agg [.int .i64 a, .int .i64 b, .int .i64 c, .int .i64 d, .int .i64 e, .int .i64 f])] [] (rI (checkV ⟨⟨a, b⟩, ⟨c, d⟩, ⟨e, f⟩⟩)) [] := by
  refine CallsA.ofOk fun hok => ?_
  have hw := w_vec_Check a b c d e f (fun v M => some (Res.fin v M))
  refine CallsA.ofEv (Γ := (inl Tryz.prog GT EQT XT [87] T_fringeref01_Mul 60 1)) (X := XT) (Λ := noL) (EQ := EQT) (n := 60) (g_fringeref01_Mul.inl hEQT hmT (fun f hf => by simp only [List.mem_cons, List.not_mem_nil, or_false] at hf; subst hf; exact (fun args w => Tryz.call87 args w)) 60 1) hEQT hmT (fun _ _ _ _ => noL_ok _) (hw.trans ?_)
  have h_a := inR_i64 (hok (.int .i64 a) (by simp [datasL, datas]))
  have h_b := inR_i64 (hok (.int .i64 b) (by simp [datasL, datas]))
  have h_c := inR_i64 (hok (.int .i64 c) (by simp [datasL, datas]))
  have h_d := inR_i64 (hok (.int .i64 d) (by simp [datasL, datas]))
  have h_e := inR_i64 (hok (.int .i64 e) (by simp [datasL, datas]))
  have h_f := inR_i64 (hok (.int .i64 f) (by simp [datasL, datas]))
  clear hok hw
  refine congrArg (fun v => some (Res.fin v [])) ?_
  rw [checkVRaw_ok]
def s_vec_Check : List AV → List Blk → (AV → List Blk → Ans) → Ans := fun xs bs K => match xs, bs with
  | [.v (.agg [.int .i64 a, .int .i64 b, .int .i64 c, .int .i64 d, .int .i64 e, .int .i64 f])], [] => K (rI (checkV ⟨⟨a, b⟩, ⟨c, d⟩, ⟨e, f⟩⟩)) []
  | _, _ => none
def T_vec_Check : Nat → List AV → List Blk → (AV → List Blk → Ans) → Ans := upd T_fringeref01_Mul 65 s_vec_Check
theorem g_vec_Check : GOK Tryz.prog GT gbT T_vec_Check XT := by
  refine GOK.upd g_fringeref01_Mul (fun args w => Tryz.call65 args w) fun xs bs K r h => ?_
  unfold s_vec_Check at h
  split at h
  · exact ⟨_, _, c_vec_Check _ _ _ _ _ _, h⟩
  · cases h


set_option maxRecDepth 100000 in
/-- fringeref02.Check -/
theorem w_fringeref02_Check (a b c d e f : Int) (K : AV → List Blk → Ans) : evFn Tryz.prog GT EQT T_vec_Check XT noL 60 44 [.v (.agg [.int .i64 a, .int .i64 b, .int .i64 c, .int .i64 d, .int .i64 e, .int .i64 f])] [] (fun v M => K v (M.take ([] : List Blk).length)) = K (rI (checkVRef ⟨⟨a, b⟩, ⟨c, d⟩, ⟨e, f⟩⟩)) [] := by
  simp only [checkVRef, pullK K]
  kernel_rfl
set_option maxRecDepth 100000 in
theorem c_fringeref02_Check (a b c d e f : Int) : CallsA Tryz.prog GT gbT 44 [.v (.agg [.int .i64 a, .int .i64 b, .int .i64 c, .int .i64 d, .int .i64 e, .int .i64 f])] [] (rI (checkV ⟨⟨a, b⟩, ⟨c, d⟩, ⟨e, f⟩⟩)) [] := by
  refine CallsA.ofOk fun hok => ?_
  have hw := w_fringeref02_Check a b c d e f (fun v M => some (Res.fin v M))
  refine CallsA.ofEv (Γ := T_vec_Check) (X := XT) (Λ := noL) (EQ := EQT) (n := 60) g_vec_Check hEQT hmT (fun _ _ _ _ => noL_ok _) (hw.trans ?_)
  have h_a := inR_i64 (hok (.int .i64 a) (by simp [datasL, datas]))
  have h_b := inR_i64 (hok (.int .i64 b) (by simp [datasL, datas]))
  have h_c := inR_i64 (hok (.int .i64 c) (by simp [datasL, datas]))
  have h_d := inR_i64 (hok (.int .i64 d) (by simp [datasL, datas]))
  have h_e := inR_i64 (hok (.int .i64 e) (by simp [datasL, datas]))
  have h_f := inR_i64 (hok (.int .i64 f) (by simp [datasL, datas]))
  clear hok hw
  refine congrArg (fun v => some (Res.fin v [])) ?_
  rw [checkVRef_ok]
def s_fringeref02_Check : List AV → List Blk → (AV → List Blk → Ans) → Ans := fun xs bs K => match xs, bs with
  | [.v (.agg [.int .i64 a, .int .i64 b, .int .i64 c, .int .i64 d, .int .i64 e, .int .i64 f])], [] => K (rI (checkV ⟨⟨a, b⟩, ⟨c, d⟩, ⟨e, f⟩⟩)) []
  | _, _ => none
def T_fringeref02_Check : Nat → List AV → List Blk → (AV → List Blk → Ans) → Ans := upd T_vec_Check 44 s_fringeref02_Check
theorem g_fringeref02_Check : GOK Tryz.prog GT gbT T_fringeref02_Check XT := by
  refine GOK.upd g_vec_Check (fun args w => Tryz.call44 args w) fun xs bs K r h => ?_
  unfold s_fringeref02_Check at h
  split at h
  · exact ⟨_, _, c_fringeref02_Check _ _ _ _ _ _, h⟩
  · cases h


set_option maxRecDepth 100000 in
/-- fringeref02.Both -/
theorem w_fringeref02_Both (a b c d e f g h i j k l : Int) (K : AV → List Blk → Ans) : evFn Tryz.prog GT EQT T_fringeref02_Check XT noL 60 52 [.v (.agg [.int .i64 a, .int .i64 b, .int .i64 c, .int .i64 d, .int .i64 e, .int .i64 f]), .v (.agg [.int .i64 g, .int .i64 h, .int .i64 i, .int .i64 j, .int .i64 k, .int .i64 l])] [] (fun v M => K v (M.take ([] : List Blk).length)) = K (rI (bothV ⟨⟨a, b⟩, ⟨c, d⟩, ⟨e, f⟩⟩ ⟨⟨g, h⟩, ⟨i, j⟩, ⟨k, l⟩⟩)) [] := by
  simp only [bothV, pullK K]
  kernel_rfl
set_option maxRecDepth 100000 in
theorem c_fringeref02_Both (a b c d e f g h i j k l : Int) : CallsA Tryz.prog GT gbT 52 [.v (.agg [.int .i64 a, .int .i64 b, .int .i64 c, .int .i64 d, .int .i64 e, .int .i64 f]), .v (.agg [.int .i64 g, .int .i64 h, .int .i64 i, .int .i64 j, .int .i64 k, .int .i64 l])] [] (rI (bothV ⟨⟨a, b⟩, ⟨c, d⟩, ⟨e, f⟩⟩ ⟨⟨g, h⟩, ⟨i, j⟩, ⟨k, l⟩⟩)) [] := by
  refine CallsA.ofOk fun hok => ?_
  have hw := w_fringeref02_Both a b c d e f g h i j k l (fun v M => some (Res.fin v M))
  refine CallsA.ofEv (Γ := T_fringeref02_Check) (X := XT) (Λ := noL) (EQ := EQT) (n := 60) g_fringeref02_Check hEQT hmT (fun _ _ _ _ => noL_ok _) (hw.trans ?_)
  rfl
def s_fringeref02_Both : List AV → List Blk → (AV → List Blk → Ans) → Ans := fun xs bs K => match xs, bs with
  | [.v (.agg [.int .i64 a, .int .i64 b, .int .i64 c, .int .i64 d, .int .i64 e, .int .i64 f]), .v (.agg [.int .i64 g, .int .i64 h, .int .i64 i, .int .i64 j, .int .i64 k, .int .i64 l])], [] => K (rI (bothV ⟨⟨a, b⟩, ⟨c, d⟩, ⟨e, f⟩⟩ ⟨⟨g, h⟩, ⟨i, j⟩, ⟨k, l⟩⟩)) []
  | _, _ => none
def T_fringeref02_Both : Nat → List AV → List Blk → (AV → List Blk → Ans) → Ans := upd T_fringeref02_Check 52 s_fringeref02_Both
theorem g_fringeref02_Both : GOK Tryz.prog GT gbT T_fringeref02_Both XT := by
  refine GOK.upd g_fringeref02_Check (fun args w => Tryz.call52 args w) fun xs bs K r h => ?_
  unfold s_fringeref02_Both at h
  split at h
  · exact ⟨_, _, c_fringeref02_Both _ _ _ _ _ _ _ _ _ _ _ _, h⟩
  · cases h


set_option maxRecDepth 100000 in
/-- vec.dot -/
theorem w_vec_dot (a b c d e f g h i j k l : Int) (K : AV → List Blk → Ans) : evFn Tryz.prog GT EQT T_fringeref02_Both XT noL 120 48 [.v (.agg [.int .i64 a, .int .i64 b, .int .i64 c, .int .i64 d, .int .i64 e, .int .i64 f]), .v (.agg [.int .i64 g, .int .i64 h, .int .i64 i, .int .i64 j, .int .i64 k, .int .i64 l])] [] (fun v M => K v (M.take ([] : List Blk).length)) = dotFAns K ⟨⟨a, b⟩, ⟨c, d⟩, ⟨e, f⟩⟩ ⟨⟨g, h⟩, ⟨i, j⟩, ⟨k, l⟩⟩ := by
  kernel_rfl
set_option maxRecDepth 100000 in
theorem c_vec_dot (a b c d e f g h i j k l : Int) : CallsA Tryz.prog GT gbT 48 [.v (.agg [.int .i64 a, .int .i64 b, .int .i64 c, .int .i64 d, .int .i64 e, .int .i64 f]), .v (.agg [.int .i64 g, .int .i64 h, .int .i64 i, .int .i64 j, .int .i64 k, .int .i64 l])] [] (rFracE (dotF ⟨⟨a, b⟩, ⟨c, d⟩, ⟨e, f⟩⟩ ⟨⟨g, h⟩, ⟨i, j⟩, ⟨k, l⟩⟩)) [] := by
  refine CallsA.ofOk fun hok => ?_
  have hw := w_vec_dot a b c d e f g h i j k l (fun v M => some (Res.fin v M))
  refine CallsA.ofEv (Γ := T_fringeref02_Both) (X := XT) (Λ := noL) (EQ := EQT) (n := 120) g_fringeref02_Both hEQT hmT (fun _ _ _ _ => noL_ok _) (hw.trans ?_)
  have h_a := inR_i64 (hok (.int .i64 a) (by simp [datasL, datas]))
  have h_b := inR_i64 (hok (.int .i64 b) (by simp [datasL, datas]))
  have h_c := inR_i64 (hok (.int .i64 c) (by simp [datasL, datas]))
  have h_d := inR_i64 (hok (.int .i64 d) (by simp [datasL, datas]))
  have h_e := inR_i64 (hok (.int .i64 e) (by simp [datasL, datas]))
  have h_f := inR_i64 (hok (.int .i64 f) (by simp [datasL, datas]))
  have h_g := inR_i64 (hok (.int .i64 g) (by simp [datasL, datas]))
  have h_h := inR_i64 (hok (.int .i64 h) (by simp [datasL, datas]))
  have h_i := inR_i64 (hok (.int .i64 i) (by simp [datasL, datas]))
  have h_j := inR_i64 (hok (.int .i64 j) (by simp [datasL, datas]))
  have h_k := inR_i64 (hok (.int .i64 k) (by simp [datasL, datas]))
  have h_l := inR_i64 (hok (.int .i64 l) (by simp [datasL, datas]))
  clear hok hw
  exact dotFAns_ok (K := fun v M => some (Res.fin v M))
def s_vec_dot : List AV → List Blk → (AV → List Blk → Ans) → Ans := fun xs bs K => match xs, bs with
  | [.v (.agg [.int .i64 a, .int .i64 b, .int .i64 c, .int .i64 d, .int .i64 e, .int .i64 f]), .v (.agg [.int .i64 g, .int .i64 h, .int .i64 i, .int .i64 j, .int .i64 k, .int .i64 l])], [] => K (rFracE (dotF ⟨⟨a, b⟩, ⟨c, d⟩, ⟨e, f⟩⟩ ⟨⟨g, h⟩, ⟨i, j⟩, ⟨k, l⟩⟩)) []
  | _, _ => none
def T_vec_dot : Nat → List AV → List Blk → (AV → List Blk → Ans) → Ans := upd T_fringeref02_Both 48 s_vec_dot
theorem g_vec_dot : GOK Tryz.prog GT gbT T_vec_dot XT := by
  refine GOK.upd g_fringeref02_Both (fun args w => Tryz.call48 args w) fun xs bs K r h => ?_
  unfold s_vec_dot at h
  split at h
  · exact ⟨_, _, c_vec_dot _ _ _ _ _ _ _ _ _ _ _ _, h⟩
  · cases h


set_option maxRecDepth 100000 in
/-- vec.Dot -/
theorem w_vec_Dot (a b c d e f g h i j k l : Int) (K : AV → List Blk → Ans) : evFn Tryz.prog GT EQT (inl Tryz.prog GT EQT XT [47, 49] T_vec_dot 120 2) XT noL 120 23 [.v (.agg [.int .i64 a, .int .i64 b, .int .i64 c, .int .i64 d, .int .i64 e, .int .i64 f]), .v (.agg [.int .i64 g, .int .i64 h, .int .i64 i, .int .i64 j, .int .i64 k, .int .i64 l])] [] (fun v M => K v (M.take ([] : List Blk).length)) = dotVAns K ⟨⟨a, b⟩, ⟨c, d⟩, ⟨e, f⟩⟩ ⟨⟨g, h⟩, ⟨i, j⟩, ⟨k, l⟩⟩ := by
  kernel_rfl
set_option maxRecDepth 100000 in
theorem c_vec_Dot (a b c d e f g h i j k l : Int) : CallsA Tryz.prog GT gbT 23 [.v (.agg [.int .i64 a, .int .i64 b, .int .i64 c, .int .i64 d, .int .i64 e, .int .i64 f]), .v (.agg [.int .i64 g, .int .i64 h, .int .i64 i, .int .i64 j, .int .i64 k, .int .i64 l])] [] (rFracE (dotV ⟨⟨a, b⟩, ⟨c, d⟩, ⟨e, f⟩⟩ ⟨⟨g, h⟩, ⟨i, j⟩, ⟨k, l⟩⟩)) [] := by
  refine CallsA.ofOk fun hok => ?_
  have hw := w_vec_Dot a b c d e f g h i j k l (fun v M => some (Res.fin v M))
  refine CallsA.ofEv (Γ := (inl Tryz.prog GT EQT XT [47, 49] T_vec_dot 120 2)) (X := XT) (Λ := noL) (EQ := EQT) (n := 120) (g_vec_dot.inl hEQT hmT (fun f hf => by simp only [List.mem_cons, List.not_mem_nil, or_false] at hf; rcases hf with rfl | rfl <;> first | exact (fun args w => Tryz.call47 args w) | exact (fun args w => Tryz.call49 args w)) 120 2) hEQT hmT (fun _ _ _ _ => noL_ok _) (hw.trans ?_)
  have h_a := inR_i64 (hok (.int .i64 a) (by simp [datasL, datas]))
  have h_b := inR_i64 (hok (.int .i64 b) (by simp [datasL, datas]))
  have h_c := inR_i64 (hok (.int .i64 c) (by simp [datasL, datas]))
  have h_d := inR_i64 (hok (.int .i64 d) (by simp [datasL, datas]))
  have h_e := inR_i64 (hok (.int .i64 e) (by simp [datasL, datas]))
  have h_f := inR_i64 (hok (.int .i64 f) (by simp [datasL, datas]))
  have h_g := inR_i64 (hok (.int .i64 g) (by simp [datasL, datas]))
  have h_h := inR_i64 (hok (.int .i64 h) (by simp [datasL, datas]))
  have h_i := inR_i64 (hok (.int .i64 i) (by simp [datasL, datas]))
  have h_j := inR_i64 (hok (.int .i64 j) (by simp [datasL, datas]))
  have h_k := inR_i64 (hok (.int .i64 k) (by simp [datasL, datas]))
  have h_l := inR_i64 (hok (.int .i64 l) (by simp [datasL, datas]))
  clear hok hw
  exact dotVAns_ok (K := fun v M => some (Res.fin v M))
def s_vec_Dot : List AV → List Blk → (AV → List Blk → Ans) → Ans := fun xs bs K => match xs, bs with
  | [.v (.agg [.int .i64 a, .int .i64 b, .int .i64 c, .int .i64 d, .int .i64 e, .int .i64 f]), .v (.agg [.int .i64 g, .int .i64 h, .int .i64 i, .int .i64 j, .int .i64 k, .int .i64 l])], [] => K (rFracE (dotV ⟨⟨a, b⟩, ⟨c, d⟩, ⟨e, f⟩⟩ ⟨⟨g, h⟩, ⟨i, j⟩, ⟨k, l⟩⟩)) []
  | _, _ => none
def T_vec_Dot : Nat → List AV → List Blk → (AV → List Blk → Ans) → Ans := upd T_vec_dot 23 s_vec_Dot
theorem g_vec_Dot : GOK Tryz.prog GT gbT T_vec_Dot XT := by
  refine GOK.upd g_vec_dot (fun args w => Tryz.call23 args w) fun xs bs K r h => ?_
  unfold s_vec_Dot at h
  split at h
  · exact ⟨_, _, c_vec_Dot _ _ _ _ _ _ _ _ _ _ _ _, h⟩
  · cases h


set_option maxRecDepth 100000 in
/-- fringeref02.first -/
theorem w_fringeref02_first (a b c : Int) (K : AV → List Blk → Ans) : evFn Tryz.prog GT EQT T_vec_Dot XT noL 60 55 [.v (.c (.d (.int .i64 a))), .v (.c (.d (.int .i64 b))), .v (.c (.d (.int .i64 c)))] [] (fun v M => K v (M.take ([] : List Blk).length)) = K (rI (firstI a b c)) [] := by
  simp only [firstI, pullK K]
  kernel_rfl
set_option maxRecDepth 100000 in
theorem c_fringeref02_first (a b c : Int) : CallsA Tryz.prog GT gbT 55 [.v (.c (.d (.int .i64 a))), .v (.c (.d (.int .i64 b))), .v (.c (.d (.int .i64 c)))] [] (rI (firstI a b c)) [] := by
  refine CallsA.ofOk fun hok => ?_
  have hw := w_fringeref02_first a b c (fun v M => some (Res.fin v M))
  refine CallsA.ofEv (Γ := T_vec_Dot) (X := XT) (Λ := noL) (EQ := EQT) (n := 60) g_vec_Dot hEQT hmT (fun _ _ _ _ => noL_ok _) (hw.trans ?_)
  rfl
def s_fringeref02_first : List AV → List Blk → (AV → List Blk → Ans) → Ans := fun xs bs K => match xs, bs with
  | [.v (.c (.d (.int .i64 a))), .v (.c (.d (.int .i64 b))), .v (.c (.d (.int .i64 c)))], [] => K (rI (firstI a b c)) []
  | _, _ => none
def T_fringeref02_first : Nat → List AV → List Blk → (AV → List Blk → Ans) → Ans := upd T_vec_Dot 55 s_fringeref02_first
theorem g_fringeref02_first : GOK Tryz.prog GT gbT T_fringeref02_first XT := by
  refine GOK.upd g_vec_Dot (fun args w => Tryz.call55 args w) fun xs bs K r h => ?_
  unfold s_fringeref02_first at h
  split at h
  · exact ⟨_, _, c_fringeref02_first _ _ _, h⟩
  · cases h


set_option maxRecDepth 100000 in
/-- fringeref02.two -/
theorem w_fringeref02_two (a b c d e f g h : Int) (K : AV → List Blk → Ans) : evFn Tryz.prog GT EQT T_fringeref02_first XT noL 60 53 [.v (.agg [.int .i64 a, .int .i64 b]), .v (.agg [.int .i64 c, .int .i64 d]), .v (.agg [.int .i64 e, .int .i64 f]), .v (.agg [.int .i64 g, .int .i64 h])] [] (fun v M => K v (M.take ([] : List Blk).length)) = twoAns K ⟨a, b⟩ ⟨c, d⟩ ⟨e, f⟩ ⟨g, h⟩ := by
  kernel_rfl
set_option maxRecDepth 100000 in
theorem c_fringeref02_two (a b c d e f g h : Int) : CallsA Tryz.prog GT gbT 53 [.v (.agg [.int .i64 a, .int .i64 b]), .v (.agg [.int .i64 c, .int .i64 d]), .v (.agg [.int .i64 e, .int .i64 f]), .v (.agg [.int .i64 g, .int .i64 h])] [] (rFracE (twoF ⟨a, b⟩ ⟨c, d⟩ ⟨e, f⟩ ⟨g, h⟩)) [] := by
  refine CallsA.ofOk fun hok => ?_
  have hw := w_fringeref02_two a b c d e f g h (fun v M => some (Res.fin v M))
  refine CallsA.ofEv (Γ := T_fringeref02_first) (X := XT) (Λ := noL) (EQ := EQT) (n := 60) g_fringeref02_first hEQT hmT (fun _ _ _ _ => noL_ok _) (hw.trans ?_)
  have h_a := inR_i64 (hok (.int .i64 a) (by simp [datasL, datas]))
  have h_b := inR_i64 (hok (.int .i64 b) (by simp [datasL, datas]))
  have h_c := inR_i64 (hok (.int .i64 c) (by simp [datasL, datas]))
  have h_d := inR_i64 (hok (.int .i64 d) (by simp [datasL, datas]))
  have h_e := inR_i64 (hok (.int .i64 e) (by simp [datasL, datas]))
  have h_f := inR_i64 (hok (.int .i64 f) (by simp [datasL, datas]))
  have h_g := inR_i64 (hok (.int .i64 g) (by simp [datasL, datas]))
  have h_h := inR_i64 (hok (.int .i64 h) (by simp [datasL, datas]))
  clear hok hw
  exact twoAns_ok (K := fun v M => some (Res.fin v M))
def s_fringeref02_two : List AV → List Blk → (AV → List Blk → Ans) → Ans := fun xs bs K => match xs, bs with
  | [.v (.agg [.int .i64 a, .int .i64 b]), .v (.agg [.int .i64 c, .int .i64 d]), .v (.agg [.int .i64 e, .int .i64 f]), .v (.agg [.int .i64 g, .int .i64 h])], [] => K (rFracE (twoF ⟨a, b⟩ ⟨c, d⟩ ⟨e, f⟩ ⟨g, h⟩)) []
  | _, _ => none
def T_fringeref02_two : Nat → List AV → List Blk → (AV → List Blk → Ans) → Ans := upd T_fringeref02_first 53 s_fringeref02_two
theorem g_fringeref02_two : GOK Tryz.prog GT gbT T_fringeref02_two XT := by
  refine GOK.upd g_fringeref02_first (fun args w => Tryz.call53 args w) fun xs bs K r h => ?_
  unfold s_fringeref02_two at h
  split at h
  · exact ⟨_, _, c_fringeref02_two _ _ _ _ _ _ _ _, h⟩
  · cases h


set_option maxRecDepth 100000 in
/-- fringeref02.Dot -/
theorem w_fringeref02_Dot (a b c d e f g h i j k l : Int) (K : AV → List Blk → Ans) : evFn Tryz.prog GT EQT T_fringeref02_two XT noL 120 25 [.v (.agg [.int .i64 a, .int .i64 b, .int .i64 c, .int .i64 d, .int .i64 e, .int .i64 f]), .v (.agg [.int .i64 g, .int .i64 h, .int .i64 i, .int .i64 j, .int .i64 k, .int .i64 l])] [] (fun v M => K v (M.take ([] : List Blk).length)) = dotVRef K ⟨⟨a, b⟩, ⟨c, d⟩, ⟨e, f⟩⟩ ⟨⟨g, h⟩, ⟨i, j⟩, ⟨k, l⟩⟩ := by
  kernel_rfl
set_option maxRecDepth 100000 in
theorem c_fringeref02_Dot (a b c d e f g h i j k l : Int) : CallsA Tryz.prog GT gbT 25 [.v (.agg [.int .i64 a, .int .i64 b, .int .i64 c, .int .i64 d, .int .i64 e, .int .i64 f]), .v (.agg [.int .i64 g, .int .i64 h, .int .i64 i, .int .i64 j, .int .i64 k, .int .i64 l])] [] (rFracE (dotV ⟨⟨a, b⟩, ⟨c, d⟩, ⟨e, f⟩⟩ ⟨⟨g, h⟩, ⟨i, j⟩, ⟨k, l⟩⟩)) [] := by
  refine CallsA.ofOk fun hok => ?_
  have hw := w_fringeref02_Dot a b c d e f g h i j k l (fun v M => some (Res.fin v M))
  refine CallsA.ofEv (Γ := T_fringeref02_two) (X := XT) (Λ := noL) (EQ := EQT) (n := 120) g_fringeref02_two hEQT hmT (fun _ _ _ _ => noL_ok _) (hw.trans ?_)
  have h_a := inR_i64 (hok (.int .i64 a) (by simp [datasL, datas]))
  have h_b := inR_i64 (hok (.int .i64 b) (by simp [datasL, datas]))
  have h_c := inR_i64 (hok (.int .i64 c) (by simp [datasL, datas]))
  have h_d := inR_i64 (hok (.int .i64 d) (by simp [datasL, datas]))
  have h_e := inR_i64 (hok (.int .i64 e) (by simp [datasL, datas]))
  have h_f := inR_i64 (hok (.int .i64 f) (by simp [datasL, datas]))
  have h_g := inR_i64 (hok (.int .i64 g) (by simp [datasL, datas]))
  have h_h := inR_i64 (hok (.int .i64 h) (by simp [datasL, datas]))
  have h_i := inR_i64 (hok (.int .i64 i) (by simp [datasL, datas]))
  have h_j := inR_i64 (hok (.int .i64 j) (by simp [datasL, datas]))
  have h_k := inR_i64 (hok (.int .i64 k) (by simp [datasL, datas]))
  have h_l := inR_i64 (hok (.int .i64 l) (by simp [datasL, datas]))
  clear hok hw
  exact dotVRef_ok (K := fun v M => some (Res.fin v M))
def s_fringeref02_Dot : List AV → List Blk → (AV → List Blk → Ans) → Ans := fun xs bs K => match xs, bs with
  | [.v (.agg [.int .i64 a, .int .i64 b, .int .i64 c, .int .i64 d, .int .i64 e, .int .i64 f]), .v (.agg [.int .i64 g, .int .i64 h, .int .i64 i, .int .i64 j, .int .i64 k, .int .i64 l])], [] => K (rFracE (dotV ⟨⟨a, b⟩, ⟨c, d⟩, ⟨e, f⟩⟩ ⟨⟨g, h⟩, ⟨i, j⟩, ⟨k, l⟩⟩)) []
  | _, _ => none
def T_fringeref02_Dot : Nat → List AV → List Blk → (AV → List Blk → Ans) → Ans := upd T_fringeref02_two 25 s_fringeref02_Dot
theorem g_fringeref02_Dot : GOK Tryz.prog GT gbT T_fringeref02_Dot XT := by
  refine GOK.upd g_fringeref02_two (fun args w => Tryz.call25 args w) fun xs bs K r h => ?_
  unfold s_fringeref02_Dot at h
  split at h
  · exact ⟨_, _, c_fringeref02_Dot _ _ _ _ _ _ _ _ _ _ _ _, h⟩
  · cases h


set_option maxRecDepth 100000 in
/-- track.Along -/
theorem w_track_Along (a b c d e f g h i j k l : Int) (K : AV → List Blk → Ans) : evFn Tryz.prog GT EQT (inl Tryz.prog GT EQT XT [64, 66, 88] T_fringeref02_Dot 120 2) XT noL 120 42 [.v (.agg [.int .i64 a, .int .i64 b, .int .i64 c, .int .i64 d, .int .i64 e, .int .i64 f]), .v (.agg [.int .i64 g, .int .i64 h, .int .i64 i, .int .i64 j, .int .i64 k, .int .i64 l])] [] (fun v M => K v (M.take ([] : List Blk).length)) = alongAns K ⟨⟨a, b⟩, ⟨c, d⟩, ⟨e, f⟩⟩ ⟨⟨g, h⟩, ⟨i, j⟩, ⟨k, l⟩⟩ := by
  kernel_rfl
set_option maxRecDepth 100000 in
theorem c_track_Along (a b c d e f g h i j k l : Int) : CallsA Tryz.prog GT gbT 42 [.v (.agg [.int .i64 a, .int .i64 b, .int .i64 c, .int .i64 d, .int .i64 e, .int .i64 f]), .v (.agg [.int .i64 g, .int .i64 h, .int .i64 i, .int .i64 j, .int .i64 k, .int .i64 l])] [] (rSpanE (alongS ⟨⟨a, b⟩, ⟨c, d⟩, ⟨e, f⟩⟩ ⟨⟨g, h⟩, ⟨i, j⟩, ⟨k, l⟩⟩)) [] := by
  refine CallsA.ofOk fun hok => ?_
  have hw := w_track_Along a b c d e f g h i j k l (fun v M => some (Res.fin v M))
  refine CallsA.ofEv (Γ := (inl Tryz.prog GT EQT XT [64, 66, 88] T_fringeref02_Dot 120 2)) (X := XT) (Λ := noL) (EQ := EQT) (n := 120) (g_fringeref02_Dot.inl hEQT hmT (fun f hf => by simp only [List.mem_cons, List.not_mem_nil, or_false] at hf; rcases hf with rfl | rfl | rfl <;> first | exact (fun args w => Tryz.call64 args w) | exact (fun args w => Tryz.call66 args w) | exact (fun args w => Tryz.call88 args w)) 120 2) hEQT hmT (fun _ _ _ _ => noL_ok _) (hw.trans ?_)
  have h_a := inR_i64 (hok (.int .i64 a) (by simp [datasL, datas]))
  have h_b := inR_i64 (hok (.int .i64 b) (by simp [datasL, datas]))
  have h_c := inR_i64 (hok (.int .i64 c) (by simp [datasL, datas]))
  have h_d := inR_i64 (hok (.int .i64 d) (by simp [datasL, datas]))
  have h_e := inR_i64 (hok (.int .i64 e) (by simp [datasL, datas]))
  have h_f := inR_i64 (hok (.int .i64 f) (by simp [datasL, datas]))
  have h_g := inR_i64 (hok (.int .i64 g) (by simp [datasL, datas]))
  have h_h := inR_i64 (hok (.int .i64 h) (by simp [datasL, datas]))
  have h_i := inR_i64 (hok (.int .i64 i) (by simp [datasL, datas]))
  have h_j := inR_i64 (hok (.int .i64 j) (by simp [datasL, datas]))
  have h_k := inR_i64 (hok (.int .i64 k) (by simp [datasL, datas]))
  have h_l := inR_i64 (hok (.int .i64 l) (by simp [datasL, datas]))
  clear hok hw
  exact alongAns_ok (K := fun v M => some (Res.fin v M))
def s_track_Along : List AV → List Blk → (AV → List Blk → Ans) → Ans := fun xs bs K => match xs, bs with
  | [.v (.agg [.int .i64 a, .int .i64 b, .int .i64 c, .int .i64 d, .int .i64 e, .int .i64 f]), .v (.agg [.int .i64 g, .int .i64 h, .int .i64 i, .int .i64 j, .int .i64 k, .int .i64 l])], [] => K (rSpanE (alongS ⟨⟨a, b⟩, ⟨c, d⟩, ⟨e, f⟩⟩ ⟨⟨g, h⟩, ⟨i, j⟩, ⟨k, l⟩⟩)) []
  | _, _ => none
def T_track_Along : Nat → List AV → List Blk → (AV → List Blk → Ans) → Ans := upd T_fringeref02_Dot 42 s_track_Along
theorem g_track_Along : GOK Tryz.prog GT gbT T_track_Along XT := by
  refine GOK.upd g_fringeref02_Dot (fun args w => Tryz.call42 args w) fun xs bs K r h => ?_
  unfold s_track_Along at h
  split at h
  · exact ⟨_, _, c_track_Along _ _ _ _ _ _ _ _ _ _ _ _, h⟩
  · cases h


abbrev T_named (s : ByteArray) (i : Int) : TS := maskT [(0, .v (.c (.d (.str s)))), (24, aint .i64 (s.size : Int)), (25, aint .i64 i), (2, .any)] 50
abbrev B_named (s : ByteArray) (i : Int) : TS := maskT [(0, .v (.c (.d (.str s)))), (24, aint .i64 (s.size : Int)), (25, aint .i64 i), (2, abool false)] 50
def f_named (T : TS) (M : List Blk) (N : Nat) : LT := match tget T 0, tget T 24, tget T 25 with
  | .v (.c (.d (.str s))), .v (.c (.d (.int .i64 n))), .v (.c (.d (.int .i64 i))) =>
    bif i == 0 then .br (n == (s.size : Int) && decide ((s.size : Int) ≤ 1000)) (.br (restOk s 0 s.size) (.st (.exit 0) (maskT [] 50) M N) (.st .ret (maskT [(2, abool false)] 50) M N)) .no else .no
  | _, _, _ => .no
def L_named := LamG 4 50 f_named
set_option maxRecDepth 100000 in
theorem b_named (s : ByteArray) (i : Int) (M : List Blk) (N : Nat) : evCode Tryz.prog GT EQT T_track_Along XT noL 40 (loopB Tryz.prog 58 0) (T_named s i) M N (fun x T M N => some (.st x (forget [0, 24, 25, 2] T) M N)) =
    bif decide (i < (s.size : Int)) then (bif decide (0 ≤ i) && decide (i < (s.size : Int)) then nameStep (byteAt s i) (some (.st .ret (B_named s i) M N)) (some (.st .normal (T_named s (w64 (i + 1))) M N)) else none)
    else some (.st (.exit 0) (T_named s i) M N) := by kernel_rfl
set_option maxRecDepth 100000 in
theorem LL_named : ∀ fn c, Tryz.prog.funcs[58]? = some fn → fn.body = some c → LOK Tryz.prog GT gbT L_named (loopsIn c) := by
  refine LOK.ofF fun b hb => ?_
  have e : loopsF Tryz.prog 58 = [loopB Tryz.prog 58 0] := by kernel_rfl
  have k0 : loopKey (loopB Tryz.prog 58 0) = 4 := by kernel_rfl
  rw [e, List.mem_singleton] at hb
  subst hb
  unfold L_named
  rw [← k0]
  refine LOKb.lamG fun T M N x T' M' N' hl hr => ?_
  unfold f_named at hr
  split at hr
  · rename_i s n i h0 h1 h2
    simp only [cond_eq_ite, beq_iff_eq] at hr
    split at hr
    · rename_i hi
      subst hi
      obtain ⟨hc, hr2⟩ := Or.resolve_right hr (fun h => h.2.elim)
      simp only [Bool.and_eq_true, beq_iff_eq, decide_eq_true_eq] at hc
      obtain ⟨rfl, hs⟩ := hc
      have hless : Less (T_named s 0) T := less_of' hl (by simp only [List.mem_cons, List.not_mem_nil, or_false]; intro p hp; rcases hp with rfl | rfl | rfl | rfl; exact .inl h0; exact .inl h1; exact .inl h2; exact .inr rfl)
      have hh := name_rounds (c := loopB Tryz.prog 58 0) (M := M) (NN := N) g_track_Along hEQT hmT s hs (fun i => T_named s i) (maskT [] 50) (maskT [(2, abool false)] 50) (fun i => less_of (by kernel_rfl) (by simp)) (fun i => B_named s i) (fun i => less_of (by kernel_rfl) (by simp; kernel_rfl)) (fun i => (b_named s i M N)) s.size 0 (by omega) (by omega)
      rcases hr2 with ⟨hd, rfl, rfl, rfl, rfl⟩ | ⟨hd, rfl, rfl, rfl, rfl⟩
      · obtain ⟨k, hk⟩ := hh.1 hd
        exact ⟨by simp, k, hk.less hless⟩
      · obtain ⟨k, hk⟩ := hh.2 hd
        exact ⟨by simp, k, hk.less hless⟩
    · exact hr.elim
  · exact hr.elim

set_option maxRecDepth 100000 in
/-- track.named -/
theorem w_track_named (s : ByteArray) (K : AV → List Blk → Ans) : evFn Tryz.prog GT EQT T_track_Along XT L_named 60 58 [.v (.c (.d (.str s)))] [] (fun v M => K v (M.take ([] : List Blk).length)) = nameAns K s := by
  kernel_rfl
set_option maxRecDepth 100000 in
theorem c_track_named (s : ByteArray) : CallsA Tryz.prog GT gbT 58 [.v (.c (.d (.str s)))] [] (rB (namedB s)) [] := by
  refine CallsA.ofOk fun hok => ?_
  have hw := w_track_named s (fun v M => some (Res.fin v M))
  refine CallsA.ofEv (Γ := T_track_Along) (X := XT) (Λ := L_named) (EQ := EQT) (n := 60) g_track_Along hEQT hmT (LL_named) (hw.trans ?_)
  clear hok hw
  exact nameAns_ok (K := fun v M => some (Res.fin v M))
def s_track_named : List AV → List Blk → (AV → List Blk → Ans) → Ans := fun xs bs K => match xs, bs with
  | [.v (.c (.d (.str s)))], [] => K (rB (namedB s)) []
  | _, _ => none
def T_track_named : Nat → List AV → List Blk → (AV → List Blk → Ans) → Ans := upd T_track_Along 58 s_track_named
theorem g_track_named : GOK Tryz.prog GT gbT T_track_named XT := by
  refine GOK.upd g_track_Along (fun args w => Tryz.call58 args w) fun xs bs K r h => ?_
  unfold s_track_named at h
  split at h
  · exact ⟨_, _, c_track_named _, h⟩
  · cases h


abbrev T_Named (s : ByteArray) (i : Int) : TS := maskT [(0, .v (.c (.d (.str s)))), (3, aint .i64 i), (2, .any)] 56
abbrev B_Named (s : ByteArray) (i : Int) : TS := maskT [(0, .v (.c (.d (.str s)))), (3, aint .i64 i), (2, abool false)] 56
def f_Named (T : TS) (M : List Blk) (N : Nat) : LT := match tget T 0, tget T 3 with
  | .v (.c (.d (.str s))), .v (.c (.d (.int .i64 i))) =>
    bif i == 0 then .br (decide ((s.size : Int) ≤ 1000)) (.br (restOk s 0 s.size) (.st (.exit 0) (maskT [] 56) M N) (.st .ret (maskT [(2, abool false)] 56) M N)) .no else .no
  | _, _ => .no
def L_Named := LamG 4 56 f_Named
set_option maxRecDepth 100000 in
theorem b_Named (s : ByteArray) (i : Int) (M : List Blk) (N : Nat) : evCode Tryz.prog GT EQT T_track_named XT noL 40 (loopB Tryz.prog 61 0) (T_Named s i) M N (fun x T M N => some (.st x (forget [0, 3, 2] T) M N)) =
    bif decide (i < (s.size : Int)) then (bif decide (0 ≤ i) && decide (i < (s.size : Int)) then nameStepR (decide (0 ≤ i) && decide (i < (s.size : Int))) (byteAt s i) (some (.st .ret (B_Named s i) M N)) (some (.st .normal (T_Named s (w64 (i + 1))) M N)) else none)
    else some (.st (.exit 0) (T_Named s i) M N) := by kernel_rfl
set_option maxRecDepth 100000 in
theorem LL_Named : ∀ fn c, Tryz.prog.funcs[61]? = some fn → fn.body = some c → LOK Tryz.prog GT gbT L_Named (loopsIn c) := by
  refine LOK.ofF fun b hb => ?_
  have e : loopsF Tryz.prog 61 = [loopB Tryz.prog 61 0] := by kernel_rfl
  have k0 : loopKey (loopB Tryz.prog 61 0) = 4 := by kernel_rfl
  rw [e, List.mem_singleton] at hb
  subst hb
  unfold L_Named
  rw [← k0]
  refine LOKb.lamG fun T M N x T' M' N' hl hr => ?_
  unfold f_Named at hr
  split at hr
  · rename_i s i h0 h2
    simp only [cond_eq_ite, beq_iff_eq] at hr
    split at hr
    · rename_i hi
      subst hi
      obtain ⟨hs, hr2⟩ := Or.resolve_right hr (fun h => h.2.elim)
      simp only [decide_eq_true_eq] at hs
      have hless : Less (T_Named s 0) T := less_of' hl (by simp only [List.mem_cons, List.not_mem_nil, or_false]; intro p hp; rcases hp with rfl | rfl | rfl; exact .inl h0; exact .inl h2; exact .inr rfl)
      have hh := name_rounds (c := loopB Tryz.prog 61 0) (M := M) (NN := N) g_track_named hEQT hmT s hs (fun i => T_Named s i) (maskT [] 56) (maskT [(2, abool false)] 56) (fun i => less_of (by kernel_rfl) (by simp)) (fun i => B_Named s i) (fun i => less_of (by kernel_rfl) (by simp; kernel_rfl)) (fun i => (b_Named s i M N).trans (by rw [nameStepR_eq])) s.size 0 (by omega) (by omega)
      rcases hr2 with ⟨hd, rfl, rfl, rfl, rfl⟩ | ⟨hd, rfl, rfl, rfl, rfl⟩
      · obtain ⟨k, hk⟩ := hh.1 hd
        exact ⟨by simp, k, hk.less hless⟩
      · obtain ⟨k, hk⟩ := hh.2 hd
        exact ⟨by simp, k, hk.less hless⟩
    · exact hr.elim
  · exact hr.elim

set_option maxRecDepth 100000 in
/-- fringeref04.Named -/
theorem w_fringeref04_Named (s : ByteArray) (K : AV → List Blk → Ans) : evFn Tryz.prog GT EQT T_track_named XT L_Named 60 61 [.v (.c (.d (.str s)))] [] (fun v M => K v (M.take ([] : List Blk).length)) = nameAns' K s := by
  kernel_rfl
set_option maxRecDepth 100000 in
theorem c_fringeref04_Named (s : ByteArray) : CallsA Tryz.prog GT gbT 61 [.v (.c (.d (.str s)))] [] (rB (namedB s)) [] := by
  refine CallsA.ofOk fun hok => ?_
  have hw := w_fringeref04_Named s (fun v M => some (Res.fin v M))
  refine CallsA.ofEv (Γ := T_track_named) (X := XT) (Λ := L_Named) (EQ := EQT) (n := 60) g_track_named hEQT hmT (LL_Named) (hw.trans ?_)
  clear hok hw
  exact nameAns'_ok (K := fun v M => some (Res.fin v M))
def s_fringeref04_Named : List AV → List Blk → (AV → List Blk → Ans) → Ans := fun xs bs K => match xs, bs with
  | [.v (.c (.d (.str s)))], [] => K (rB (namedB s)) []
  | _, _ => none
def T_fringeref04_Named : Nat → List AV → List Blk → (AV → List Blk → Ans) → Ans := upd T_track_named 61 s_fringeref04_Named
theorem g_fringeref04_Named : GOK Tryz.prog GT gbT T_fringeref04_Named XT := by
  refine GOK.upd g_track_named (fun args w => Tryz.call61 args w) fun xs bs K r h => ?_
  unfold s_fringeref04_Named at h
  split at h
  · exact ⟨_, _, c_fringeref04_Named _, h⟩
  · cases h


set_option maxRecDepth 100000 in
/-- track.Check -/
theorem w_track_Check (nm : ByteArray) (ra dec : Int) (K : AV → List Blk → Ans) : evFn Tryz.prog GT EQT T_fringeref04_Named XT noL 60 27 [.v (.agg [.str nm, .int .i64 ra, .int .i64 dec])] [] (fun v M => K v (M.take ([] : List Blk).length)) = K (rI (checkSrc ⟨nm, ra, dec⟩)) [] := by
  simp only [checkSrc, pullK K]
  kernel_rfl
set_option maxRecDepth 100000 in
theorem c_track_Check (nm : ByteArray) (ra dec : Int) : CallsA Tryz.prog GT gbT 27 [.v (.agg [.str nm, .int .i64 ra, .int .i64 dec])] [] (rI (checkSrc ⟨nm, ra, dec⟩)) [] := by
  refine CallsA.ofOk fun hok => ?_
  have hw := w_track_Check nm ra dec (fun v M => some (Res.fin v M))
  refine CallsA.ofEv (Γ := T_fringeref04_Named) (X := XT) (Λ := noL) (EQ := EQT) (n := 60) g_fringeref04_Named hEQT hmT (fun _ _ _ _ => noL_ok _) (hw.trans ?_)
  rfl
def s_track_Check : List AV → List Blk → (AV → List Blk → Ans) → Ans := fun xs bs K => match xs, bs with
  | [.v (.agg [.str nm, .int .i64 ra, .int .i64 dec])], [] => K (rI (checkSrc ⟨nm, ra, dec⟩)) []
  | _, _ => none
def T_track_Check : Nat → List AV → List Blk → (AV → List Blk → Ans) → Ans := upd T_fringeref04_Named 27 s_track_Check
theorem g_track_Check : GOK Tryz.prog GT gbT T_track_Check XT := by
  refine GOK.upd g_fringeref04_Named (fun args w => Tryz.call27 args w) fun xs bs K r h => ?_
  unfold s_track_Check at h
  split at h
  · exact ⟨_, _, c_track_Check _ _ _, h⟩
  · cases h


set_option maxRecDepth 100000 in
/-- fringeref06.Check -/
theorem w_fringeref06_Check (nm : ByteArray) (ra dec : Int) (K : AV → List Blk → Ans) : evFn Tryz.prog GT EQT T_track_Check XT noL 60 35 [.v (.agg [.str nm, .int .i64 ra, .int .i64 dec])] [] (fun v M => K v (M.take ([] : List Blk).length)) = K (rI (checkSrc ⟨nm, ra, dec⟩)) [] := by
  simp only [checkSrc, pullK K]
  kernel_rfl
set_option maxRecDepth 100000 in
theorem c_fringeref06_Check (nm : ByteArray) (ra dec : Int) : CallsA Tryz.prog GT gbT 35 [.v (.agg [.str nm, .int .i64 ra, .int .i64 dec])] [] (rI (checkSrc ⟨nm, ra, dec⟩)) [] := by
  refine CallsA.ofOk fun hok => ?_
  have hw := w_fringeref06_Check nm ra dec (fun v M => some (Res.fin v M))
  refine CallsA.ofEv (Γ := T_track_Check) (X := XT) (Λ := noL) (EQ := EQT) (n := 60) g_track_Check hEQT hmT (fun _ _ _ _ => noL_ok _) (hw.trans ?_)
  rfl
def s_fringeref06_Check : List AV → List Blk → (AV → List Blk → Ans) → Ans := fun xs bs K => match xs, bs with
  | [.v (.agg [.str nm, .int .i64 ra, .int .i64 dec])], [] => K (rI (checkSrc ⟨nm, ra, dec⟩)) []
  | _, _ => none
def T_fringeref06_Check : Nat → List AV → List Blk → (AV → List Blk → Ans) → Ans := upd T_track_Check 35 s_fringeref06_Check
theorem g_fringeref06_Check : GOK Tryz.prog GT gbT T_fringeref06_Check XT := by
  refine GOK.upd g_track_Check (fun args w => Tryz.call35 args w) fun xs bs K r h => ?_
  unfold s_fringeref06_Check at h
  split at h
  · exact ⟨_, _, c_fringeref06_Check _ _ _, h⟩
  · cases h


set_option maxRecDepth 100000 in
/-- track.circle -/
theorem w_track_circle (h : Int) (K : AV → List Blk → Ans) : evFn Tryz.prog GT EQT T_fringeref06_Check XT noL 60 59 [.v (.c (.d (.int .i64 h)))] [] (fun v M => K v (M.take ([] : List Blk).length)) = K (rSpan2 (sinT h, cosT h)) [] := by
  kernel_rfl
set_option maxRecDepth 100000 in
theorem c_track_circle (h : Int) : CallsA Tryz.prog GT gbT 59 [.v (.c (.d (.int .i64 h)))] [] (rSpan2 (sinT h, cosT h)) [] := by
  refine CallsA.ofOk fun hok => ?_
  have hw := w_track_circle h (fun v M => some (Res.fin v M))
  refine CallsA.ofEv (Γ := T_fringeref06_Check) (X := XT) (Λ := noL) (EQ := EQT) (n := 60) g_fringeref06_Check hEQT hmT (fun _ _ _ _ => noL_ok _) (hw.trans ?_)
  rfl
def s_track_circle : List AV → List Blk → (AV → List Blk → Ans) → Ans := fun xs bs K => match xs, bs with
  | [.v (.c (.d (.int .i64 h)))], [] => K (rSpan2 (sinT h, cosT h)) []
  | _, _ => none
def T_track_circle : Nat → List AV → List Blk → (AV → List Blk → Ans) → Ans := upd T_fringeref06_Check 59 s_track_circle
theorem g_track_circle : GOK Tryz.prog GT gbT T_track_circle XT := by
  refine GOK.upd g_fringeref06_Check (fun args w => Tryz.call59 args w) fun xs bs K r h => ?_
  unfold s_track_circle at h
  split at h
  · exact ⟨_, _, c_track_circle _, h⟩
  · cases h


set_option maxRecDepth 100000 in
/-- track.direction -/
theorem w_track_direction (nm : ByteArray) (ra dec t : Int) (K : AV → List Blk → Ans) : evFn Tryz.prog GT EQT T_track_circle XT noL 60 29 [.v (.agg [.str nm, .int .i64 ra, .int .i64 dec]), .v (.c (.d (.int .i64 t)))] [] (fun v M => K v (M.take ([] : List Blk).length)) = dirAns K ra dec t := by
  kernel_rfl
set_option maxRecDepth 100000 in
theorem c_track_direction (nm : ByteArray) (ra dec t : Int) (hd : (dirOn ra dec t) = true) : CallsA Tryz.prog GT gbT 29 [.v (.agg [.str nm, .int .i64 ra, .int .i64 dec]), .v (.c (.d (.int .i64 t)))] [] (rDirE (dirS ra dec t, 0)) [] := by
  refine CallsA.ofOk fun hok => ?_
  have hw := w_track_direction nm ra dec t (fun v M => some (Res.fin v M))
  refine CallsA.ofEv (Γ := T_track_circle) (X := XT) (Λ := noL) (EQ := EQT) (n := 60) g_track_circle hEQT hmT (fun _ _ _ _ => noL_ok _) (hw.trans ?_)
  have h_ra := inR_i64 (hok (.int .i64 ra) (by simp [datasL, datas]))
  have h_dec := inR_i64 (hok (.int .i64 dec) (by simp [datasL, datas]))
  have h_t := inR_i64 (hok (.int .i64 t) (by simp [datasL, datas]))
  clear hok hw
  exact dirAns_ok (K := fun v M => some (Res.fin v M)) hd
def s_track_direction : List AV → List Blk → (AV → List Blk → Ans) → Ans := fun xs bs K => match xs, bs with
  | [.v (.agg [.str _, .int .i64 ra, .int .i64 dec]), .v (.c (.d (.int .i64 t)))], [] => bif dirOn ra dec t then K (rDirE (dirS ra dec t, 0)) [] else none
  | _, _ => none
def T_track_direction : Nat → List AV → List Blk → (AV → List Blk → Ans) → Ans := upd T_track_circle 29 s_track_direction
theorem g_track_direction : GOK Tryz.prog GT gbT T_track_direction XT := by
  refine GOK.upd g_track_circle (fun args w => Tryz.call29 args w) fun xs bs K r h => ?_
  unfold s_track_direction at h
  split at h
  · simp only [cond_eq_ite] at h
    split at h
    · exact ⟨_, _, c_track_direction _ _ _ _ ‹_›, h⟩
    · cases h
  · cases h


set_option maxRecDepth 100000 in
/-- track.At -/
theorem w_track_At (nm : ByteArray) (ra dec t : Int) (K : AV → List Blk → Ans) : evFn Tryz.prog GT EQT (inl Tryz.prog GT EQT XT [28] T_track_direction 60 1) XT noL 60 12 [.v (.agg [.str nm, .int .i64 ra, .int .i64 dec]), .v (.c (.d (.int .i64 t)))] [] (fun v M => K v (M.take ([] : List Blk).length)) = atAns K ⟨nm, ra, dec⟩ t := by
  kernel_rfl
set_option maxRecDepth 100000 in
theorem c_track_At (nm : ByteArray) (ra dec t : Int) : CallsA Tryz.prog GT gbT 12 [.v (.agg [.str nm, .int .i64 ra, .int .i64 dec]), .v (.c (.d (.int .i64 t)))] [] (rDirE (atS ⟨nm, ra, dec⟩ t)) [] := by
  refine CallsA.ofOk fun hok => ?_
  have hw := w_track_At nm ra dec t (fun v M => some (Res.fin v M))
  refine CallsA.ofEv (Γ := (inl Tryz.prog GT EQT XT [28] T_track_direction 60 1)) (X := XT) (Λ := noL) (EQ := EQT) (n := 60) (g_track_direction.inl hEQT hmT (fun f hf => by simp only [List.mem_cons, List.not_mem_nil, or_false] at hf; subst hf; exact (fun args w => Tryz.call28 args w)) 60 1) hEQT hmT (fun _ _ _ _ => noL_ok _) (hw.trans ?_)
  have h_ra := inR_i64 (hok (.int .i64 ra) (by simp [datasL, datas]))
  have h_dec := inR_i64 (hok (.int .i64 dec) (by simp [datasL, datas]))
  have h_t := inR_i64 (hok (.int .i64 t) (by simp [datasL, datas]))
  clear hok hw
  exact atAns_ok (K := fun v M => some (Res.fin v M))
def s_track_At : List AV → List Blk → (AV → List Blk → Ans) → Ans := fun xs bs K => match xs, bs with
  | [.v (.agg [.str nm, .int .i64 ra, .int .i64 dec]), .v (.c (.d (.int .i64 t)))], [] => K (rDirE (atS ⟨nm, ra, dec⟩ t)) []
  | _, _ => none
def T_track_At : Nat → List AV → List Blk → (AV → List Blk → Ans) → Ans := upd T_track_direction 12 s_track_At
theorem g_track_At : GOK Tryz.prog GT gbT T_track_At XT := by
  refine GOK.upd g_track_direction (fun args w => Tryz.call12 args w) fun xs bs K r h => ?_
  unfold s_track_At at h
  split at h
  · exact ⟨_, _, c_track_At _ _ _ _, h⟩
  · cases h


set_option maxRecDepth 100000 in
/-- fringeref05.times -/
theorem w_fringeref05_times (x y : Int) (K : AV → List Blk → Ans) : evFn Tryz.prog GT EQT T_track_At XT noL 60 107 [.v (.c (.d (.int .u64 x))), .v (.c (.d (.int .u64 y)))] [] (fun v M => K v (M.take ([] : List Blk).length)) = bif overOn (bigOf (x * y)) 100000000000000000 then K (rU (overSmall (x * y) 100000000000000000)) [] else none := by
  kernel_rfl
set_option maxRecDepth 100000 in
theorem c_fringeref05_times (x y : Int) : CallsA Tryz.prog GT gbT 107 [.v (.c (.d (.int .u64 x))), .v (.c (.d (.int .u64 y)))] [] (rU (timesI x y)) [] := by
  refine CallsA.ofOk fun hok => ?_
  have hw := w_fringeref05_times x y (fun v M => some (Res.fin v M))
  refine CallsA.ofEv (Γ := T_track_At) (X := XT) (Λ := noL) (EQ := EQT) (n := 60) g_track_At hEQT hmT (fun _ _ _ _ => noL_ok _) (hw.trans ?_)
  have h_x := inR_u64 (hok (.int .u64 x) (by simp [datasL, datas]))
  have h_y := inR_u64 (hok (.int .u64 y) (by simp [datasL, datas]))
  clear hok hw
  exact times_ok (K := fun v M => some (Res.fin v M)) h_x h_y
def s_fringeref05_times : List AV → List Blk → (AV → List Blk → Ans) → Ans := fun xs bs K => match xs, bs with
  | [.v (.c (.d (.int .u64 x))), .v (.c (.d (.int .u64 y)))], [] => K (rU (timesI x y)) []
  | _, _ => none
def T_fringeref05_times : Nat → List AV → List Blk → (AV → List Blk → Ans) → Ans := upd T_track_At 107 s_fringeref05_times
theorem g_fringeref05_times : GOK Tryz.prog GT gbT T_fringeref05_times XT := by
  refine GOK.upd g_track_At (fun args w => Tryz.call107 args w) fun xs bs K r h => ?_
  unfold s_fringeref05_times at h
  split at h
  · exact ⟨_, _, c_fringeref05_times _ _, h⟩
  · cases h


abbrev lv_series : List (Nat × IntKind) := [(7, .u64), (8, .u64), (9, .u64), (2, .u64), (10, .u64)]
def L_series := Lam1 3 40 0 lv_series seriesDom seriesFin
set_option maxRecDepth 100000 in
theorem b_series (sq s t k i : Int) (M : List Blk) (N : Nat) : evCode Tryz.prog GT EQT T_fringeref05_times XT noL 40 (loopB Tryz.prog 99 0) (mkT lv_series 40 [s, t, sq, k, i]) M N (fun x T M N => some (.st x (forget [7, 8, 9, 2, 10] T) M N)) =
    bif decide (i < 12) then (bif wu64 (k * wu64 (k + 1)) == 0 then none else bif i.tmod 2 == 0 then some (.st .normal (mkT lv_series 40 [wu64 (s - termI t sq k), termI t sq k, sq, wu64 (k + 2), wu64 (i + 1)]) M N) else some (.st .normal (mkT lv_series 40 [wu64 (s + termI t sq k), termI t sq k, sq, wu64 (k + 2), wu64 (i + 1)]) M N))
    else some (.st (.exit 0) (mkT lv_series 40 [s, t, sq, k, i]) M N) := by kernel_rfl
theorem l_series (s t sq k i : Int) : Less (mkT lv_series 40 [s]) (mkT lv_series 40 [s, t, sq, k, i]) := by
  have h : mkT lv_series 40 [s] = mkT (lv_series.take 1) 40 [s] := by kernel_rfl
  rw [h]
  exact less_mkT (by kernel_rfl) (by kernel_rfl)
set_option maxRecDepth 100000 in
theorem LL_series : ∀ fn c, Tryz.prog.funcs[99]? = some fn → fn.body = some c → LOK Tryz.prog GT gbT L_series (loopsIn c) := by
  refine LOK.ofF fun b hb => ?_
  have e : loopsF Tryz.prog 99 = [loopB Tryz.prog 99 0] := by kernel_rfl
  have k0 : loopKey (loopB Tryz.prog 99 0) = 3 := by kernel_rfl
  rw [e, List.mem_singleton] at hb
  subst hb
  unfold L_series
  rw [← k0]
  refine LOKb.lam1 (n := 40) (e := 0) (live := lv_series) fun xs M N hl hd => ?_
  match xs, hl with
  | [s, t, sq, k, i], _ =>
    simp only [seriesDom, serOn, Bool.and_eq_true, decide_eq_true_eq, beq_iff_eq] at hd
    obtain ⟨⟨h1, h2⟩, rfl⟩ := hd
    exact ref_rounds (c := loopB Tryz.prog 99 0) g_fringeref05_times hEQT hmT (fun s t k i => mkT lv_series 40 [s, t, sq, k, i]) (fun s => mkT lv_series 40 [s]) sq (fun s t k i => l_series s t sq k i) (fun s t k i => b_series sq s t k i M N) 12 s t k 0 (by omega) (by omega) h1 (by omega)

set_option maxRecDepth 100000 in
/-- fringeref05.series -/
theorem w_fringeref05_series (x y k : Int) (K : AV → List Blk → Ans) : evFn Tryz.prog GT EQT T_fringeref05_times XT L_series 60 99 [.v (.c (.d (.int .u64 x))), .v (.c (.d (.int .u64 y))), .v (.c (.d (.int .u64 k)))] [] (fun v M => K v (M.take ([] : List Blk).length)) = bif seriesDom [y, y, timesI x x, k, 0] then K (rU (serI 12 y y (timesI x x) k true)) [] else none := by
  kernel_rfl
set_option maxRecDepth 100000 in
theorem c_fringeref05_series (x y k : Int) (hd : (serOn k) = true) : CallsA Tryz.prog GT gbT 99 [.v (.c (.d (.int .u64 x))), .v (.c (.d (.int .u64 y))), .v (.c (.d (.int .u64 k)))] [] (rU (serI 12 y y (timesI x x) k true)) [] := by
  refine CallsA.ofOk fun hok => ?_
  have hw := w_fringeref05_series x y k (fun v M => some (Res.fin v M))
  refine CallsA.ofEv (Γ := T_fringeref05_times) (X := XT) (Λ := L_series) (EQ := EQT) (n := 60) g_fringeref05_times hEQT hmT (LL_series) (hw.trans ?_)
  have h_x := inR_u64 (hok (.int .u64 x) (by simp [datasL, datas]))
  have h_y := inR_u64 (hok (.int .u64 y) (by simp [datasL, datas]))
  have h_k := inR_u64 (hok (.int .u64 k) (by simp [datasL, datas]))
  clear hok hw
  have : seriesDom [y, y, timesI x x, k, 0] = true := by simp only [seriesDom, hd]; rfl
  rw [this]
  rfl
def s_fringeref05_series : List AV → List Blk → (AV → List Blk → Ans) → Ans := fun xs bs K => match xs, bs with
  | [.v (.c (.d (.int .u64 x))), .v (.c (.d (.int .u64 y))), .v (.c (.d (.int .u64 k)))], [] => bif serOn k then K (rU (serI 12 y y (timesI x x) k true)) [] else none
  | _, _ => none
def T_fringeref05_series : Nat → List AV → List Blk → (AV → List Blk → Ans) → Ans := upd T_fringeref05_times 99 s_fringeref05_series
theorem g_fringeref05_series : GOK Tryz.prog GT gbT T_fringeref05_series XT := by
  refine GOK.upd g_fringeref05_times (fun args w => Tryz.call99 args w) fun xs bs K r h => ?_
  unfold s_fringeref05_series at h
  split at h
  · simp only [cond_eq_ite] at h
    split at h
    · exact ⟨_, _, c_fringeref05_series _ _ _ ‹_›, h⟩
    · cases h
  · cases h


set_option maxRecDepth 100000 in
/-- fringeref05.eighth -/
theorem w_fringeref05_eighth (k n : Int) (K : AV → List Blk → Ans) : evFn Tryz.prog GT EQT T_fringeref05_series XT noL 60 84 [.v (.c (.d (.int .u64 k))), .v (.c (.d (.int .u64 n)))] [] (fun v M => K v (M.take ([] : List Blk).length)) = eighthAns K k n := by
  kernel_rfl
set_option maxRecDepth 100000 in
theorem c_fringeref05_eighth (k n : Int) (hd : (eighthOn k n) = true) : CallsA Tryz.prog GT gbT 84 [.v (.c (.d (.int .u64 k))), .v (.c (.d (.int .u64 n)))] [] (rUU (cosSer (partI k n), sinSer (partI k n))) [] := by
  refine CallsA.ofOk fun hok => ?_
  have hw := w_fringeref05_eighth k n (fun v M => some (Res.fin v M))
  refine CallsA.ofEv (Γ := T_fringeref05_series) (X := XT) (Λ := noL) (EQ := EQT) (n := 60) g_fringeref05_series hEQT hmT (fun _ _ _ _ => noL_ok _) (hw.trans ?_)
  have h_k := inR_u64 (hok (.int .u64 k) (by simp [datasL, datas]))
  have h_n := inR_u64 (hok (.int .u64 n) (by simp [datasL, datas]))
  clear hok hw
  exact eighthAns_ok (K := fun v M => some (Res.fin v M)) hd
def s_fringeref05_eighth : List AV → List Blk → (AV → List Blk → Ans) → Ans := fun xs bs K => match xs, bs with
  | [.v (.c (.d (.int .u64 k))), .v (.c (.d (.int .u64 n)))], [] => bif eighthOn k n then K (rUU (cosSer (partI k n), sinSer (partI k n))) [] else none
  | _, _ => none
def T_fringeref05_eighth : Nat → List AV → List Blk → (AV → List Blk → Ans) → Ans := upd T_fringeref05_series 84 s_fringeref05_eighth
theorem g_fringeref05_eighth : GOK Tryz.prog GT gbT T_fringeref05_eighth XT := by
  refine GOK.upd g_fringeref05_series (fun args w => Tryz.call84 args w) fun xs bs K r h => ?_
  unfold s_fringeref05_eighth at h
  split at h
  · simp only [cond_eq_ite] at h
    split at h
    · exact ⟨_, _, c_fringeref05_eighth _ _ ‹_›, h⟩
    · cases h
  · cases h


set_option maxRecDepth 100000 in
/-- fringeref05.exact -/
theorem w_fringeref05_exact (k n : Int) (s : Bool) (K : AV → List Blk → Ans) : evFn Tryz.prog GT EQT T_fringeref05_eighth XT noL 60 85 [.v (.c (.d (.int .i64 k))), .v (.c (.d (.int .i64 n))), .v (.c (.d (.bool s)))] [] (fun v M => K v (M.take ([] : List Blk).length)) = K (rB (exactI k n s)) [] := by
  simp only [exactI, pullK K]
  kernel_rfl
set_option maxRecDepth 100000 in
theorem c_fringeref05_exact (k n : Int) (s : Bool) : CallsA Tryz.prog GT gbT 85 [.v (.c (.d (.int .i64 k))), .v (.c (.d (.int .i64 n))), .v (.c (.d (.bool s)))] [] (rB (exactI k n s)) [] := by
  refine CallsA.ofOk fun hok => ?_
  have hw := w_fringeref05_exact k n s (fun v M => some (Res.fin v M))
  refine CallsA.ofEv (Γ := T_fringeref05_eighth) (X := XT) (Λ := noL) (EQ := EQT) (n := 60) g_fringeref05_eighth hEQT hmT (fun _ _ _ _ => noL_ok _) (hw.trans ?_)
  rfl
def s_fringeref05_exact : List AV → List Blk → (AV → List Blk → Ans) → Ans := fun xs bs K => match xs, bs with
  | [.v (.c (.d (.int .i64 k))), .v (.c (.d (.int .i64 n))), .v (.c (.d (.bool s)))], [] => K (rB (exactI k n s)) []
  | _, _ => none
def T_fringeref05_exact : Nat → List AV → List Blk → (AV → List Blk → Ans) → Ans := upd T_fringeref05_eighth 85 s_fringeref05_exact
theorem g_fringeref05_exact : GOK Tryz.prog GT gbT T_fringeref05_exact XT := by
  refine GOK.upd g_fringeref05_eighth (fun args w => Tryz.call85 args w) fun xs bs K r h => ?_
  unfold s_fringeref05_exact at h
  split at h
  · exact ⟨_, _, c_fringeref05_exact _ _ _, h⟩
  · cases h


set_option maxRecDepth 100000 in
/-- fringeref05.round -/
theorem w_fringeref05_round (n : Int) (K : AV → List Blk → Ans) : evFn Tryz.prog GT EQT T_fringeref05_exact XT noL 60 86 [.v (.c (.d (.int .i64 n)))] [] (fun v M => K v (M.take ([] : List Blk).length)) = K (rSpan ⟨n, n⟩) [] := by
  kernel_rfl
set_option maxRecDepth 100000 in
theorem c_fringeref05_round (n : Int) : CallsA Tryz.prog GT gbT 86 [.v (.c (.d (.int .i64 n)))] [] (rSpan ⟨n, n⟩) [] := by
  refine CallsA.ofOk fun hok => ?_
  have hw := w_fringeref05_round n (fun v M => some (Res.fin v M))
  refine CallsA.ofEv (Γ := T_fringeref05_exact) (X := XT) (Λ := noL) (EQ := EQT) (n := 60) g_fringeref05_exact hEQT hmT (fun _ _ _ _ => noL_ok _) (hw.trans ?_)
  rfl
def s_fringeref05_round : List AV → List Blk → (AV → List Blk → Ans) → Ans := fun xs bs K => match xs, bs with
  | [.v (.c (.d (.int .i64 n)))], [] => K (rSpan ⟨n, n⟩) []
  | _, _ => none
def T_fringeref05_round : Nat → List AV → List Blk → (AV → List Blk → Ans) → Ans := upd T_fringeref05_exact 86 s_fringeref05_round
theorem g_fringeref05_round : GOK Tryz.prog GT gbT T_fringeref05_round XT := by
  refine GOK.upd g_fringeref05_exact (fun args w => Tryz.call86 args w) fun xs bs K r h => ?_
  unfold s_fringeref05_round at h
  split at h
  · exact ⟨_, _, c_fringeref05_round _, h⟩
  · cases h


set_option maxRecDepth 100000 in
/-- fringeref05.quarter -/
theorem w_fringeref05_quarter (k n : Int) (K : AV → List Blk → Ans) : evFn Tryz.prog GT EQT T_fringeref05_round XT noL 60 63 [.v (.c (.d (.int .i64 k))), .v (.c (.d (.int .i64 n)))] [] (fun v M => K v (M.take ([] : List Blk).length)) = quarterAns K k n := by
  kernel_rfl
set_option maxRecDepth 100000 in
theorem c_fringeref05_quarter (k n : Int) (hd : (quarterOn k n) = true) : CallsA Tryz.prog GT gbT 63 [.v (.c (.d (.int .i64 k))), .v (.c (.d (.int .i64 n)))] [] (rSpan (refI (n - 4 * k) n)) [] := by
  refine CallsA.ofOk fun hok => ?_
  have hw := w_fringeref05_quarter k n (fun v M => some (Res.fin v M))
  refine CallsA.ofEv (Γ := T_fringeref05_round) (X := XT) (Λ := noL) (EQ := EQT) (n := 60) g_fringeref05_round hEQT hmT (fun _ _ _ _ => noL_ok _) (hw.trans ?_)
  have h_k := inR_i64 (hok (.int .i64 k) (by simp [datasL, datas]))
  have h_n := inR_i64 (hok (.int .i64 n) (by simp [datasL, datas]))
  clear hok hw
  exact quarterAns_ok (K := fun v M => some (Res.fin v M)) hd
def s_fringeref05_quarter : List AV → List Blk → (AV → List Blk → Ans) → Ans := fun xs bs K => match xs, bs with
  | [.v (.c (.d (.int .i64 k))), .v (.c (.d (.int .i64 n)))], [] => bif quarterOn k n then K (rSpan (refI (n - 4 * k) n)) [] else none
  | _, _ => none
def T_fringeref05_quarter : Nat → List AV → List Blk → (AV → List Blk → Ans) → Ans := upd T_fringeref05_round 63 s_fringeref05_quarter
theorem g_fringeref05_quarter : GOK Tryz.prog GT gbT T_fringeref05_quarter XT := by
  refine GOK.upd g_fringeref05_round (fun args w => Tryz.call63 args w) fun xs bs K r h => ?_
  unfold s_fringeref05_quarter at h
  split at h
  · simp only [cond_eq_ite] at h
    split at h
    · exact ⟨_, _, c_fringeref05_quarter _ _ ‹_›, h⟩
    · cases h
  · cases h


set_option maxRecDepth 100000 in
/-- fringeref05.Cosine -/
theorem w_fringeref05_Cosine (k n : Int) (K : AV → List Blk → Ans) : evFn Tryz.prog GT EQT T_fringeref05_quarter XT noL 60 38 [.v (.c (.d (.int .i64 k))), .v (.c (.d (.int .i64 n)))] [] (fun v M => K v (M.take ([] : List Blk).length)) = cosineAns K k n := by
  kernel_rfl
set_option maxRecDepth 100000 in
theorem c_fringeref05_Cosine (k n : Int) (hd : (cosineOn n) = true) : CallsA Tryz.prog GT gbT 38 [.v (.c (.d (.int .i64 k))), .v (.c (.d (.int .i64 n)))] [] (rSpan (turnR (4 * k + n) n)) [] := by
  refine CallsA.ofOk fun hok => ?_
  have hw := w_fringeref05_Cosine k n (fun v M => some (Res.fin v M))
  refine CallsA.ofEv (Γ := T_fringeref05_quarter) (X := XT) (Λ := noL) (EQ := EQT) (n := 60) g_fringeref05_quarter hEQT hmT (fun _ _ _ _ => noL_ok _) (hw.trans ?_)
  have h_k := inR_i64 (hok (.int .i64 k) (by simp [datasL, datas]))
  have h_n := inR_i64 (hok (.int .i64 n) (by simp [datasL, datas]))
  clear hok hw
  exact cosineAns_ok (K := fun v M => some (Res.fin v M)) hd
def s_fringeref05_Cosine : List AV → List Blk → (AV → List Blk → Ans) → Ans := fun xs bs K => match xs, bs with
  | [.v (.c (.d (.int .i64 k))), .v (.c (.d (.int .i64 n)))], [] => bif cosineOn n then K (rSpan (turnR (4 * k + n) n)) [] else none
  | _, _ => none
def T_fringeref05_Cosine : Nat → List AV → List Blk → (AV → List Blk → Ans) → Ans := upd T_fringeref05_quarter 38 s_fringeref05_Cosine
theorem g_fringeref05_Cosine : GOK Tryz.prog GT gbT T_fringeref05_Cosine XT := by
  refine GOK.upd g_fringeref05_quarter (fun args w => Tryz.call38 args w) fun xs bs K r h => ?_
  unfold s_fringeref05_Cosine at h
  split at h
  · simp only [cond_eq_ite] at h
    split at h
    · exact ⟨_, _, c_fringeref05_Cosine _ _ ‹_›, h⟩
    · cases h
  · cases h


set_option maxRecDepth 100000 in
/-- fringeref05.Cos -/
theorem w_fringeref05_Cos (k n : Int) (K : AV → List Blk → Ans) : evFn Tryz.prog GT EQT T_fringeref05_Cosine XT noL 60 17 [.v (.c (.d (.int .i64 k))), .v (.c (.d (.int .i64 n)))] [] (fun v M => K v (M.take ([] : List Blk).length)) = cosRAns K k n := by
  kernel_rfl
set_option maxRecDepth 100000 in
theorem c_fringeref05_Cos (k n : Int) : CallsA Tryz.prog GT gbT 17 [.v (.c (.d (.int .i64 k))), .v (.c (.d (.int .i64 n)))] [] (rSpanE (cosR k n)) [] := by
  refine CallsA.ofOk fun hok => ?_
  have hw := w_fringeref05_Cos k n (fun v M => some (Res.fin v M))
  refine CallsA.ofEv (Γ := T_fringeref05_Cosine) (X := XT) (Λ := noL) (EQ := EQT) (n := 60) g_fringeref05_Cosine hEQT hmT (fun _ _ _ _ => noL_ok _) (hw.trans ?_)
  have h_k := inR_i64 (hok (.int .i64 k) (by simp [datasL, datas]))
  have h_n := inR_i64 (hok (.int .i64 n) (by simp [datasL, datas]))
  clear hok hw
  exact cosRAns_ok (K := fun v M => some (Res.fin v M))
def s_fringeref05_Cos : List AV → List Blk → (AV → List Blk → Ans) → Ans := fun xs bs K => match xs, bs with
  | [.v (.c (.d (.int .i64 k))), .v (.c (.d (.int .i64 n)))], [] => K (rSpanE (cosR k n)) []
  | _, _ => none
def T_fringeref05_Cos : Nat → List AV → List Blk → (AV → List Blk → Ans) → Ans := upd T_fringeref05_Cosine 17 s_fringeref05_Cos
theorem g_fringeref05_Cos : GOK Tryz.prog GT gbT T_fringeref05_Cos XT := by
  refine GOK.upd g_fringeref05_Cosine (fun args w => Tryz.call17 args w) fun xs bs K r h => ?_
  unfold s_fringeref05_Cos at h
  split at h
  · exact ⟨_, _, c_fringeref05_Cos _ _, h⟩
  · cases h


set_option maxRecDepth 100000 in
/-- fringeref05.Sin -/
theorem w_fringeref05_Sin (k n : Int) (K : AV → List Blk → Ans) : evFn Tryz.prog GT EQT T_fringeref05_Cos XT noL 60 18 [.v (.c (.d (.int .i64 k))), .v (.c (.d (.int .i64 n)))] [] (fun v M => K v (M.take ([] : List Blk).length)) = sinRAns K k n := by
  kernel_rfl
set_option maxRecDepth 100000 in
theorem c_fringeref05_Sin (k n : Int) : CallsA Tryz.prog GT gbT 18 [.v (.c (.d (.int .i64 k))), .v (.c (.d (.int .i64 n)))] [] (rSpanE (sinR k n)) [] := by
  refine CallsA.ofOk fun hok => ?_
  have hw := w_fringeref05_Sin k n (fun v M => some (Res.fin v M))
  refine CallsA.ofEv (Γ := T_fringeref05_Cos) (X := XT) (Λ := noL) (EQ := EQT) (n := 60) g_fringeref05_Cos hEQT hmT (fun _ _ _ _ => noL_ok _) (hw.trans ?_)
  have h_k := inR_i64 (hok (.int .i64 k) (by simp [datasL, datas]))
  have h_n := inR_i64 (hok (.int .i64 n) (by simp [datasL, datas]))
  clear hok hw
  exact sinRAns_ok (K := fun v M => some (Res.fin v M))
def s_fringeref05_Sin : List AV → List Blk → (AV → List Blk → Ans) → Ans := fun xs bs K => match xs, bs with
  | [.v (.c (.d (.int .i64 k))), .v (.c (.d (.int .i64 n)))], [] => K (rSpanE (sinR k n)) []
  | _, _ => none
def T_fringeref05_Sin : Nat → List AV → List Blk → (AV → List Blk → Ans) → Ans := upd T_fringeref05_Cos 18 s_fringeref05_Sin
theorem g_fringeref05_Sin : GOK Tryz.prog GT gbT T_fringeref05_Sin XT := by
  refine GOK.upd g_fringeref05_Cos (fun args w => Tryz.call18 args w) fun xs bs K r h => ?_
  unfold s_fringeref05_Sin at h
  split at h
  · exact ⟨_, _, c_fringeref05_Sin _ _, h⟩
  · cases h


set_option maxRecDepth 100000 in
/-- proj.circle -/
theorem w_proj_circle (h : Int) (K : AV → List Blk → Ans) : evFn Tryz.prog GT EQT T_fringeref05_Sin XT noL 60 13 [.v (.c (.d (.int .i64 h)))] [] (fun v M => K v (M.take ([] : List Blk).length)) = K (rSpan2 (sinT h, cosT h)) [] := by
  kernel_rfl
set_option maxRecDepth 100000 in
theorem c_proj_circle (h : Int) : CallsA Tryz.prog GT gbT 13 [.v (.c (.d (.int .i64 h)))] [] (rSpan2 (sinT h, cosT h)) [] := by
  refine CallsA.ofOk fun hok => ?_
  have hw := w_proj_circle h (fun v M => some (Res.fin v M))
  refine CallsA.ofEv (Γ := T_fringeref05_Sin) (X := XT) (Λ := noL) (EQ := EQT) (n := 60) g_fringeref05_Sin hEQT hmT (fun _ _ _ _ => noL_ok _) (hw.trans ?_)
  rfl
def s_proj_circle : List AV → List Blk → (AV → List Blk → Ans) → Ans := fun xs bs K => match xs, bs with
  | [.v (.c (.d (.int .i64 h)))], [] => K (rSpan2 (sinT h, cosT h)) []
  | _, _ => none
def T_proj_circle : Nat → List AV → List Blk → (AV → List Blk → Ans) → Ans := upd T_fringeref05_Sin 13 s_proj_circle
theorem g_proj_circle : GOK Tryz.prog GT gbT T_proj_circle XT := by
  refine GOK.upd g_fringeref05_Sin (fun args w => Tryz.call13 args w) fun xs bs K r h => ?_
  unfold s_proj_circle at h
  split at h
  · exact ⟨_, _, c_proj_circle _, h⟩
  · cases h


set_option maxRecDepth 100000 in
/-- proj.opposite -/
theorem w_proj_opposite (a1 a2 : Int) (K : AV → List Blk → Ans) : evFn Tryz.prog GT EQT T_proj_circle XT noL 60 15 [.v (.agg [.int .i64 a1, .int .i64 a2])] [] (fun v M => K v (M.take ([] : List Blk).length)) = K (rSpan (negRaw ⟨a1, a2⟩)) [] := by
  kernel_rfl
set_option maxRecDepth 100000 in
theorem c_proj_opposite (a1 a2 : Int) : CallsA Tryz.prog GT gbT 15 [.v (.agg [.int .i64 a1, .int .i64 a2])] [] (rSpan (negRaw ⟨a1, a2⟩)) [] := by
  refine CallsA.ofOk fun hok => ?_
  have hw := w_proj_opposite a1 a2 (fun v M => some (Res.fin v M))
  refine CallsA.ofEv (Γ := T_proj_circle) (X := XT) (Λ := noL) (EQ := EQT) (n := 60) g_proj_circle hEQT hmT (fun _ _ _ _ => noL_ok _) (hw.trans ?_)
  rfl
def s_proj_opposite : List AV → List Blk → (AV → List Blk → Ans) → Ans := fun xs bs K => match xs, bs with
  | [.v (.agg [.int .i64 a1, .int .i64 a2])], [] => K (rSpan (negRaw ⟨a1, a2⟩)) []
  | _, _ => none
def T_proj_opposite : Nat → List AV → List Blk → (AV → List Blk → Ans) → Ans := upd T_proj_circle 15 s_proj_opposite
theorem g_proj_opposite : GOK Tryz.prog GT gbT T_proj_opposite XT := by
  refine GOK.upd g_proj_circle (fun args w => Tryz.call15 args w) fun xs bs K r h => ?_
  unfold s_proj_opposite at h
  split at h
  · exact ⟨_, _, c_proj_opposite _ _, h⟩
  · cases h


set_option maxRecDepth 100000 in
/-- proj.Axes -/
theorem w_proj_Axes (s1 : ByteArray) (s2 : Int) (s3 : Int) (t : Int) (K : AV → List Blk → Ans) : evFn Tryz.prog GT EQT T_proj_opposite XT noL 120 5 [.v (.agg [.str s1, .int .i64 s2, .int .i64 s3]), .v (.c (.d (.int .i64 t)))] [] (fun v M => K v (M.take ([] : List Blk).length)) = axesAns K ⟨s1, s2, s3⟩ t := by
  kernel_rfl
set_option maxRecDepth 100000 in
theorem c_proj_Axes (s1 : ByteArray) (s2 : Int) (s3 : Int) (t : Int) : CallsA Tryz.prog GT gbT 5 [.v (.agg [.str s1, .int .i64 s2, .int .i64 s3]), .v (.c (.d (.int .i64 t)))] [] (rFrameE (axesV ⟨s1, s2, s3⟩ t)) [] := by
  refine CallsA.ofOk fun hok => ?_
  have hw := w_proj_Axes s1 s2 s3 t (fun v M => some (Res.fin v M))
  refine CallsA.ofEv (Γ := T_proj_opposite) (X := XT) (Λ := noL) (EQ := EQT) (n := 120) g_proj_opposite hEQT hmT (fun _ _ _ _ => noL_ok _) (hw.trans ?_)
  have h_s2 := inR_i64 (hok (.int .i64 s2) (by simp [datasL, datas]))
  have h_s3 := inR_i64 (hok (.int .i64 s3) (by simp [datasL, datas]))
  have h_t := inR_i64 (hok (.int .i64 t) (by simp [datasL, datas]))
  clear hok hw
  exact axesAns_ok (K := fun v M => some (Res.fin v M))
def s_proj_Axes : List AV → List Blk → (AV → List Blk → Ans) → Ans := fun xs bs K => match xs, bs with
  | [.v (.agg [.str s1, .int .i64 s2, .int .i64 s3]), .v (.c (.d (.int .i64 t)))], [] => K (rFrameE (axesV ⟨s1, s2, s3⟩ t)) []
  | _, _ => none
def T_proj_Axes : Nat → List AV → List Blk → (AV → List Blk → Ans) → Ans := upd T_proj_opposite 5 s_proj_Axes
theorem g_proj_Axes : GOK Tryz.prog GT gbT T_proj_Axes XT := by
  refine GOK.upd g_proj_opposite (fun args w => Tryz.call5 args w) fun xs bs K r h => ?_
  unfold s_proj_Axes at h
  split at h
  · exact ⟨_, _, c_proj_Axes _ _ _ _, h⟩
  · cases h


set_option maxRecDepth 100000 in
/-- proj.Project -/
theorem w_proj_Project (v1 : Int) (v2 : Int) (v3 : Int) (v4 : Int) (v5 : Int) (v6 : Int) (s1 : ByteArray) (s2 : Int) (s3 : Int) (t : Int) (K : AV → List Blk → Ans) : evFn Tryz.prog GT EQT (inl Tryz.prog GT EQT XT [21] T_proj_Axes 150 2) XT noL 150 7 [.v (.agg [.int .i64 v1, .int .i64 v2, .int .i64 v3, .int .i64 v4, .int .i64 v5, .int .i64 v6]), .v (.agg [.str s1, .int .i64 s2, .int .i64 s3]), .v (.c (.d (.int .i64 t)))] [] (fun v M => K v (M.take ([] : List Blk).length)) = projAns K ⟨⟨v1, v2⟩, ⟨v3, v4⟩, ⟨v5, v6⟩⟩ ⟨s1, s2, s3⟩ t := by
  kernel_rfl
set_option maxRecDepth 100000 in
theorem c_proj_Project (v1 : Int) (v2 : Int) (v3 : Int) (v4 : Int) (v5 : Int) (v6 : Int) (s1 : ByteArray) (s2 : Int) (s3 : Int) (t : Int) : CallsA Tryz.prog GT gbT 7 [.v (.agg [.int .i64 v1, .int .i64 v2, .int .i64 v3, .int .i64 v4, .int .i64 v5, .int .i64 v6]), .v (.agg [.str s1, .int .i64 s2, .int .i64 s3]), .v (.c (.d (.int .i64 t)))] [] (rDirE (projV ⟨⟨v1, v2⟩, ⟨v3, v4⟩, ⟨v5, v6⟩⟩ ⟨s1, s2, s3⟩ t)) [] := by
  refine CallsA.ofOk fun hok => ?_
  have hw := w_proj_Project v1 v2 v3 v4 v5 v6 s1 s2 s3 t (fun v M => some (Res.fin v M))
  refine CallsA.ofEv (Γ := (inl Tryz.prog GT EQT XT [21] T_proj_Axes 150 2)) (X := XT) (Λ := noL) (EQ := EQT) (n := 150) (g_proj_Axes.inl hEQT hmT (fun f hf => by simp only [List.mem_cons, List.not_mem_nil, or_false] at hf; subst hf; exact (fun args w => Tryz.call21 args w)) 150 2) hEQT hmT (fun _ _ _ _ => noL_ok _) (hw.trans ?_)
  have h_v1 := inR_i64 (hok (.int .i64 v1) (by simp [datasL, datas]))
  have h_v2 := inR_i64 (hok (.int .i64 v2) (by simp [datasL, datas]))
  have h_v3 := inR_i64 (hok (.int .i64 v3) (by simp [datasL, datas]))
  have h_v4 := inR_i64 (hok (.int .i64 v4) (by simp [datasL, datas]))
  have h_v5 := inR_i64 (hok (.int .i64 v5) (by simp [datasL, datas]))
  have h_v6 := inR_i64 (hok (.int .i64 v6) (by simp [datasL, datas]))
  have h_s2 := inR_i64 (hok (.int .i64 s2) (by simp [datasL, datas]))
  have h_s3 := inR_i64 (hok (.int .i64 s3) (by simp [datasL, datas]))
  have h_t := inR_i64 (hok (.int .i64 t) (by simp [datasL, datas]))
  clear hok hw
  exact projAns_ok (K := fun v M => some (Res.fin v M))
def s_proj_Project : List AV → List Blk → (AV → List Blk → Ans) → Ans := fun xs bs K => match xs, bs with
  | [.v (.agg [.int .i64 v1, .int .i64 v2, .int .i64 v3, .int .i64 v4, .int .i64 v5, .int .i64 v6]), .v (.agg [.str s1, .int .i64 s2, .int .i64 s3]), .v (.c (.d (.int .i64 t)))], [] => K (rDirE (projV ⟨⟨v1, v2⟩, ⟨v3, v4⟩, ⟨v5, v6⟩⟩ ⟨s1, s2, s3⟩ t)) []
  | _, _ => none
def T_proj_Project : Nat → List AV → List Blk → (AV → List Blk → Ans) → Ans := upd T_proj_Axes 7 s_proj_Project
theorem g_proj_Project : GOK Tryz.prog GT gbT T_proj_Project XT := by
  refine GOK.upd g_proj_Axes (fun args w => Tryz.call7 args w) fun xs bs K r h => ?_
  unfold s_proj_Project at h
  split at h
  · exact ⟨_, _, c_proj_Project _ _ _ _ _ _ _ _ _ _, h⟩
  · cases h


end Go.Ev
