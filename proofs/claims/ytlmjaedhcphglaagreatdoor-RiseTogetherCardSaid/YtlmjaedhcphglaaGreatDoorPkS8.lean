/-
  Contracts of functions: what each returns. No condition beyond those of the statements.
  Plain functions that mirror functions of the program, and that it computes them. No condition beyond those of the statements.
  The iterator over the pairs of n stations: it hands each pair to the loop's body, or stops where the body says so. No condition.
-/
import Derived.Test.YtlmjaedhcphglaaGreatDoorPkS7
import Derived.RangeFuncNested
import Derived.RangeFuncBound
import Derived.RangeFuncCalls
import Derived.RangeFuncLeaves
import Derived.Shelf.Abstract
import Derived.WalkKit
import Derived.OwnWalkIn
import Derived.TacticsInMore
import Derived.LoopNIn
import Derived.LoopIn
import Derived.Test.YtlmjaedhcphglaaGreatDoorRows
set_option maxRecDepth 100000
namespace Go.Ev
open Go Go.Proofs
theorem w_Q1_Both (a b c d : Int) (K : AV → List Blk → Ans) : evFn Tryz.prog GT EQT T_frac_Mul XT noL 60 101 [.v (.agg [.int .i64 a, .int .i64 b]), .v (.agg [.int .i64 c, .int .i64 d])] [] (fun v M => K v (M.take ([] : List Blk).length)) = K (rI (bothE ⟨a, b⟩ ⟨c, d⟩)) [] := by
  simp only [bothE, pullK K]
  kernel_rfl
theorem c_Q1_Both (a b c d : Int) : CallsA Tryz.prog GT gbT 101 [.v (.agg [.int .i64 a, .int .i64 b]), .v (.agg [.int .i64 c, .int .i64 d])] [] (rI (bothE ⟨a, b⟩ ⟨c, d⟩)) [] := by
  refine CallsA.ofOk fun hok => ?_
  have hw := w_Q1_Both a b c d (fun v M => some (Res.fin v M))
  refine CallsA.ofEv (Γ := T_frac_Mul) (X := XT) (Λ := noL) (EQ := EQT) (n := 60) g_frac_Mul hEQT hmT (fun _ _ _ _ => noL_ok _) (hw.trans ?_)
  rfl
def s_Q1_Both : List AV → List Blk → (AV → List Blk → Ans) → Ans := fun xs bs K => match xs, bs with
  | [.v (.agg [.int .i64 a, .int .i64 b]), .v (.agg [.int .i64 c, .int .i64 d])], [] => K (rI (bothE ⟨a, b⟩ ⟨c, d⟩)) []
  | _, _ => none
def T_Q1_Both : Nat → List AV → List Blk → (AV → List Blk → Ans) → Ans := upd T_frac_Mul 101 s_Q1_Both
theorem g_Q1_Both : GOK Tryz.prog GT gbT T_Q1_Both XT := by
  refine GOK.upd g_frac_Mul (fun args w => Tryz.call101 args w) fun xs bs K r h => ?_
  unfold s_Q1_Both at h
  split at h
  · exact ⟨_, _, c_Q1_Both _ _ _ _, h⟩
  · cases h
theorem w_Q1_sum (a b c d e f g h : Int) (K : AV → List Blk → Ans) : evFn Tryz.prog GT EQT T_Q1_Both XT noL 60 111 [.v (.agg [.int .u64 a, .int .u64 b, .int .u64 c, .int .u64 d]), .v (.agg [.int .u64 e, .int .u64 f, .int .u64 g, .int .u64 h])] [] (fun v M => K v (M.take ([] : List Blk).length)) = K (rBig (sumBig ⟨a, b, c, d⟩ ⟨e, f, g, h⟩)) [] := by
  kernel_rfl
theorem c_Q1_sum (a b c d e f g h : Int) (hd : (sumOn ⟨a, b, c, d⟩ ⟨e, f, g, h⟩) = true) : CallsA Tryz.prog GT gbT 111 [.v (.agg [.int .u64 a, .int .u64 b, .int .u64 c, .int .u64 d]), .v (.agg [.int .u64 e, .int .u64 f, .int .u64 g, .int .u64 h])] [] (rBig (bigOf (valOf ⟨a, b, c, d⟩ + valOf ⟨e, f, g, h⟩))) [] := by
  refine CallsA.ofOk fun hok => ?_
  have hw := w_Q1_sum a b c d e f g h (fun v M => some (Res.fin v M))
  refine CallsA.ofEv (Γ := T_Q1_Both) (X := XT) (Λ := noL) (EQ := EQT) (n := 60) g_Q1_Both hEQT hmT (fun _ _ _ _ => noL_ok _) (hw.trans ?_)
  have h_a := inR_u64 (hok (.int .u64 a) (by simp [datasL, datas]))
  have h_b := inR_u64 (hok (.int .u64 b) (by simp [datasL, datas]))
  have h_c := inR_u64 (hok (.int .u64 c) (by simp [datasL, datas]))
  have h_d := inR_u64 (hok (.int .u64 d) (by simp [datasL, datas]))
  have h_e := inR_u64 (hok (.int .u64 e) (by simp [datasL, datas]))
  have h_f := inR_u64 (hok (.int .u64 f) (by simp [datasL, datas]))
  have h_g := inR_u64 (hok (.int .u64 g) (by simp [datasL, datas]))
  have h_h := inR_u64 (hok (.int .u64 h) (by simp [datasL, datas]))
  clear hok hw
  refine congrArg (fun v => some (Res.fin v [])) ?_
  rw [sumBig_ok hd]
def s_Q1_sum : List AV → List Blk → (AV → List Blk → Ans) → Ans := fun xs bs K => match xs, bs with
  | [.v (.agg [.int .u64 a, .int .u64 b, .int .u64 c, .int .u64 d]), .v (.agg [.int .u64 e, .int .u64 f, .int .u64 g, .int .u64 h])], [] => bif sumOn ⟨a, b, c, d⟩ ⟨e, f, g, h⟩ then K (rBig (bigOf (valOf ⟨a, b, c, d⟩ + valOf ⟨e, f, g, h⟩))) [] else none
  | _, _ => none
def T_Q1_sum : Nat → List AV → List Blk → (AV → List Blk → Ans) → Ans := upd T_Q1_Both 111 s_Q1_sum
theorem g_Q1_sum : GOK Tryz.prog GT gbT T_Q1_sum XT := by
  refine GOK.upd g_Q1_Both (fun args w => Tryz.call111 args w) fun xs bs K r h => ?_
  unfold s_Q1_sum at h
  split at h
  · simp only [cond_eq_ite] at h
    split at h
    · exact ⟨_, _, c_Q1_sum _ _ _ _ _ _ _ _ ‹_›, h⟩
    · cases h
  · cases h
theorem w_Q1_rest (a b c d e f g h : Int) (K : AV → List Blk → Ans) : evFn Tryz.prog GT EQT T_Q1_sum XT noL 60 112 [.v (.agg [.int .u64 a, .int .u64 b, .int .u64 c, .int .u64 d]), .v (.agg [.int .u64 e, .int .u64 f, .int .u64 g, .int .u64 h])] [] (fun v M => K v (M.take ([] : List Blk).length)) = K (rBig (restBig ⟨a, b, c, d⟩ ⟨e, f, g, h⟩)) [] := by
  kernel_rfl
theorem c_Q1_rest (a b c d e f g h : Int) (hd : (restOn ⟨a, b, c, d⟩ ⟨e, f, g, h⟩) = true) : CallsA Tryz.prog GT gbT 112 [.v (.agg [.int .u64 a, .int .u64 b, .int .u64 c, .int .u64 d]), .v (.agg [.int .u64 e, .int .u64 f, .int .u64 g, .int .u64 h])] [] (rBig (bigOf (valOf ⟨a, b, c, d⟩ - valOf ⟨e, f, g, h⟩))) [] := by
  refine CallsA.ofOk fun hok => ?_
  have hw := w_Q1_rest a b c d e f g h (fun v M => some (Res.fin v M))
  refine CallsA.ofEv (Γ := T_Q1_sum) (X := XT) (Λ := noL) (EQ := EQT) (n := 60) g_Q1_sum hEQT hmT (fun _ _ _ _ => noL_ok _) (hw.trans ?_)
  have h_a := inR_u64 (hok (.int .u64 a) (by simp [datasL, datas]))
  have h_b := inR_u64 (hok (.int .u64 b) (by simp [datasL, datas]))
  have h_c := inR_u64 (hok (.int .u64 c) (by simp [datasL, datas]))
  have h_d := inR_u64 (hok (.int .u64 d) (by simp [datasL, datas]))
  have h_e := inR_u64 (hok (.int .u64 e) (by simp [datasL, datas]))
  have h_f := inR_u64 (hok (.int .u64 f) (by simp [datasL, datas]))
  have h_g := inR_u64 (hok (.int .u64 g) (by simp [datasL, datas]))
  have h_h := inR_u64 (hok (.int .u64 h) (by simp [datasL, datas]))
  clear hok hw
  refine congrArg (fun v => some (Res.fin v [])) ?_
  rw [restBig_ok hd]
def s_Q1_rest : List AV → List Blk → (AV → List Blk → Ans) → Ans := fun xs bs K => match xs, bs with
  | [.v (.agg [.int .u64 a, .int .u64 b, .int .u64 c, .int .u64 d]), .v (.agg [.int .u64 e, .int .u64 f, .int .u64 g, .int .u64 h])], [] => bif restOn ⟨a, b, c, d⟩ ⟨e, f, g, h⟩ then K (rBig (bigOf (valOf ⟨a, b, c, d⟩ - valOf ⟨e, f, g, h⟩))) [] else none
  | _, _ => none
def T_Q1_rest : Nat → List AV → List Blk → (AV → List Blk → Ans) → Ans := upd T_Q1_sum 112 s_Q1_rest
theorem g_Q1_rest : GOK Tryz.prog GT gbT T_Q1_rest XT := by
  refine GOK.upd g_Q1_sum (fun args w => Tryz.call112 args w) fun xs bs K r h => ?_
  unfold s_Q1_rest at h
  split at h
  · simp only [cond_eq_ite] at h
    split at h
    · exact ⟨_, _, c_Q1_rest _ _ _ _ _ _ _ _ ‹_›, h⟩
    · cases h
  · cases h
theorem w_Q1_Neg (a b : Int) (K : AV → List Blk → Ans) : evFn Tryz.prog GT EQT T_Q1_rest XT noL 60 110 [.v (.agg [.int .i64 a, .int .i64 b])] [] (fun v M => K v (M.take ([] : List Blk).length)) = K (rFrac ⟨w64 (0 - a), b⟩) [] := by
  kernel_rfl
theorem c_Q1_Neg (a b : Int) : CallsA Tryz.prog GT gbT 110 [.v (.agg [.int .i64 a, .int .i64 b])] [] (rFrac ⟨w64 (0 - a), b⟩) [] := by
  refine CallsA.ofOk fun hok => ?_
  have hw := w_Q1_Neg a b (fun v M => some (Res.fin v M))
  refine CallsA.ofEv (Γ := T_Q1_rest) (X := XT) (Λ := noL) (EQ := EQT) (n := 60) g_Q1_rest hEQT hmT (fun _ _ _ _ => noL_ok _) (hw.trans ?_)
  rfl
def s_Q1_Neg : List AV → List Blk → (AV → List Blk → Ans) → Ans := fun xs bs K => match xs, bs with
  | [.v (.agg [.int .i64 a, .int .i64 b])], [] => K (rFrac ⟨w64 (0 - a), b⟩) []
  | _, _ => none
def T_Q1_Neg : Nat → List AV → List Blk → (AV → List Blk → Ans) → Ans := upd T_Q1_rest 110 s_Q1_Neg
theorem g_Q1_Neg : GOK Tryz.prog GT gbT T_Q1_Neg XT := by
  refine GOK.upd g_Q1_rest (fun args w => Tryz.call110 args w) fun xs bs K r h => ?_
  unfold s_Q1_Neg at h
  split at h
  · exact ⟨_, _, c_Q1_Neg _ _, h⟩
  · cases h
theorem w_Q1_Add (a b c d : Int) (K : AV → List Blk → Ans) : evFn Tryz.prog GT EQT T_Q1_Neg XT noL 120 98 [.v (.agg [.int .i64 a, .int .i64 b]), .v (.agg [.int .i64 c, .int .i64 d])] [] (fun v M => K v (M.take ([] : List Blk).length)) = addRefAns K ⟨a, b⟩ ⟨c, d⟩ := by
  kernel_rfl
theorem c_Q1_Add (a b c d : Int) : CallsA Tryz.prog GT gbT 98 [.v (.agg [.int .i64 a, .int .i64 b]), .v (.agg [.int .i64 c, .int .i64 d])] [] (rFracE (addF ⟨a, b⟩ ⟨c, d⟩)) [] := by
  refine CallsA.ofOk fun hok => ?_
  have hw := w_Q1_Add a b c d (fun v M => some (Res.fin v M))
  refine CallsA.ofEv (Γ := T_Q1_Neg) (X := XT) (Λ := noL) (EQ := EQT) (n := 120) g_Q1_Neg hEQT hmT (fun _ _ _ _ => noL_ok _) (hw.trans ?_)
  have h_a := inR_i64 (hok (.int .i64 a) (by simp [datasL, datas]))
  have h_b := inR_i64 (hok (.int .i64 b) (by simp [datasL, datas]))
  have h_c := inR_i64 (hok (.int .i64 c) (by simp [datasL, datas]))
  have h_d := inR_i64 (hok (.int .i64 d) (by simp [datasL, datas]))
  clear hok hw
  exact addRefAns_ok (K := fun v M => some (Res.fin v M))
def s_Q1_Add : List AV → List Blk → (AV → List Blk → Ans) → Ans := fun xs bs K => match xs, bs with
  | [.v (.agg [.int .i64 a, .int .i64 b]), .v (.agg [.int .i64 c, .int .i64 d])], [] => K (rFracE (addF ⟨a, b⟩ ⟨c, d⟩)) []
  | _, _ => none
def T_Q1_Add : Nat → List AV → List Blk → (AV → List Blk → Ans) → Ans := upd T_Q1_Neg 98 s_Q1_Add
theorem g_Q1_Add : GOK Tryz.prog GT gbT T_Q1_Add XT := by
  refine GOK.upd g_Q1_Neg (fun args w => Tryz.call98 args w) fun xs bs K r h => ?_
  unfold s_Q1_Add at h
  split at h
  · exact ⟨_, _, c_Q1_Add _ _ _ _, h⟩
  · cases h
theorem w_Q1_Sub (a b c d : Int) (K : AV → List Blk → Ans) : evFn Tryz.prog GT EQT T_Q1_Add XT noL 60 97 [.v (.agg [.int .i64 a, .int .i64 b]), .v (.agg [.int .i64 c, .int .i64 d])] [] (fun v M => K v (M.take ([] : List Blk).length)) = subRefAns K ⟨a, b⟩ ⟨c, d⟩ := by
  kernel_rfl
theorem c_Q1_Sub (a b c d : Int) : CallsA Tryz.prog GT gbT 97 [.v (.agg [.int .i64 a, .int .i64 b]), .v (.agg [.int .i64 c, .int .i64 d])] [] (rFracE (subF ⟨a, b⟩ ⟨c, d⟩)) [] := by
  refine CallsA.ofOk fun hok => ?_
  have hw := w_Q1_Sub a b c d (fun v M => some (Res.fin v M))
  refine CallsA.ofEv (Γ := T_Q1_Add) (X := XT) (Λ := noL) (EQ := EQT) (n := 60) g_Q1_Add hEQT hmT (fun _ _ _ _ => noL_ok _) (hw.trans ?_)
  have h_a := inR_i64 (hok (.int .i64 a) (by simp [datasL, datas]))
  have h_b := inR_i64 (hok (.int .i64 b) (by simp [datasL, datas]))
  have h_c := inR_i64 (hok (.int .i64 c) (by simp [datasL, datas]))
  have h_d := inR_i64 (hok (.int .i64 d) (by simp [datasL, datas]))
  clear hok hw
  exact subRefAns_ok (K := fun v M => some (Res.fin v M))
def s_Q1_Sub : List AV → List Blk → (AV → List Blk → Ans) → Ans := fun xs bs K => match xs, bs with
  | [.v (.agg [.int .i64 a, .int .i64 b]), .v (.agg [.int .i64 c, .int .i64 d])], [] => K (rFracE (subF ⟨a, b⟩ ⟨c, d⟩)) []
  | _, _ => none
def T_Q1_Sub : Nat → List AV → List Blk → (AV → List Blk → Ans) → Ans := upd T_Q1_Add 97 s_Q1_Sub
theorem g_Q1_Sub : GOK Tryz.prog GT gbT T_Q1_Sub XT := by
  refine GOK.upd g_Q1_Add (fun args w => Tryz.call97 args w) fun xs bs K r h => ?_
  unfold s_Q1_Sub at h
  split at h
  · exact ⟨_, _, c_Q1_Sub _ _ _ _, h⟩
  · cases h
theorem w_Q1_Mul (a b c d : Int) (K : AV → List Blk → Ans) : evFn Tryz.prog GT EQT T_Q1_Sub XT noL 60 83 [.v (.agg [.int .i64 a, .int .i64 b]), .v (.agg [.int .i64 c, .int .i64 d])] [] (fun v M => K v (M.take ([] : List Blk).length)) = mulRefAns K ⟨a, b⟩ ⟨c, d⟩ := by
  kernel_rfl
theorem c_Q1_Mul (a b c d : Int) : CallsA Tryz.prog GT gbT 83 [.v (.agg [.int .i64 a, .int .i64 b]), .v (.agg [.int .i64 c, .int .i64 d])] [] (rFracE (mulF ⟨a, b⟩ ⟨c, d⟩)) [] := by
  refine CallsA.ofOk fun hok => ?_
  have hw := w_Q1_Mul a b c d (fun v M => some (Res.fin v M))
  refine CallsA.ofEv (Γ := T_Q1_Sub) (X := XT) (Λ := noL) (EQ := EQT) (n := 60) g_Q1_Sub hEQT hmT (fun _ _ _ _ => noL_ok _) (hw.trans ?_)
  have h_a := inR_i64 (hok (.int .i64 a) (by simp [datasL, datas]))
  have h_b := inR_i64 (hok (.int .i64 b) (by simp [datasL, datas]))
  have h_c := inR_i64 (hok (.int .i64 c) (by simp [datasL, datas]))
  have h_d := inR_i64 (hok (.int .i64 d) (by simp [datasL, datas]))
  clear hok hw
  exact mulRefAns_ok (K := fun v M => some (Res.fin v M))
def s_Q1_Mul : List AV → List Blk → (AV → List Blk → Ans) → Ans := fun xs bs K => match xs, bs with
  | [.v (.agg [.int .i64 a, .int .i64 b]), .v (.agg [.int .i64 c, .int .i64 d])], [] => K (rFracE (mulF ⟨a, b⟩ ⟨c, d⟩)) []
  | _, _ => none
def T_Q1_Mul : Nat → List AV → List Blk → (AV → List Blk → Ans) → Ans := upd T_Q1_Sub 83 s_Q1_Mul
theorem g_Q1_Mul : GOK Tryz.prog GT gbT T_Q1_Mul XT := by
  refine GOK.upd g_Q1_Sub (fun args w => Tryz.call83 args w) fun xs bs K r h => ?_
  unfold s_Q1_Mul at h
  split at h
  · exact ⟨_, _, c_Q1_Mul _ _ _ _, h⟩
  · cases h
theorem w_Q1_Div (a b c d : Int) (K : AV → List Blk → Ans) : evFn Tryz.prog GT EQT T_Q1_Mul XT noL 60 100 [.v (.agg [.int .i64 a, .int .i64 b]), .v (.agg [.int .i64 c, .int .i64 d])] [] (fun v M => K v (M.take ([] : List Blk).length)) = divRefAns K ⟨a, b⟩ ⟨c, d⟩ := by
  kernel_rfl
theorem c_Q1_Div (a b c d : Int) : CallsA Tryz.prog GT gbT 100 [.v (.agg [.int .i64 a, .int .i64 b]), .v (.agg [.int .i64 c, .int .i64 d])] [] (rFracE (divF ⟨a, b⟩ ⟨c, d⟩)) [] := by
  refine CallsA.ofOk fun hok => ?_
  have hw := w_Q1_Div a b c d (fun v M => some (Res.fin v M))
  refine CallsA.ofEv (Γ := T_Q1_Mul) (X := XT) (Λ := noL) (EQ := EQT) (n := 60) g_Q1_Mul hEQT hmT (fun _ _ _ _ => noL_ok _) (hw.trans ?_)
  have h_a := inR_i64 (hok (.int .i64 a) (by simp [datasL, datas]))
  have h_b := inR_i64 (hok (.int .i64 b) (by simp [datasL, datas]))
  have h_c := inR_i64 (hok (.int .i64 c) (by simp [datasL, datas]))
  have h_d := inR_i64 (hok (.int .i64 d) (by simp [datasL, datas]))
  clear hok hw
  exact divRefAns_ok (K := fun v M => some (Res.fin v M))
def s_Q1_Div : List AV → List Blk → (AV → List Blk → Ans) → Ans := fun xs bs K => match xs, bs with
  | [.v (.agg [.int .i64 a, .int .i64 b]), .v (.agg [.int .i64 c, .int .i64 d])], [] => K (rFracE (divF ⟨a, b⟩ ⟨c, d⟩)) []
  | _, _ => none
def T_Q1_Div : Nat → List AV → List Blk → (AV → List Blk → Ans) → Ans := upd T_Q1_Mul 100 s_Q1_Div
theorem g_Q1_Div : GOK Tryz.prog GT gbT T_Q1_Div XT := by
  refine GOK.upd g_Q1_Mul (fun args w => Tryz.call100 args w) fun xs bs K r h => ?_
  unfold s_Q1_Div at h
  split at h
  · exact ⟨_, _, c_Q1_Div _ _ _ _, h⟩
  · cases h
theorem w_vec_Check (a b c d e f : Int) (K : AV → List Blk → Ans) : evFn Tryz.prog GT EQT (inl Tryz.prog GT EQT XT [69] T_Q1_Div 60 1) XT noL 60 73 [.v (.agg [.int .i64 a, .int .i64 b, .int .i64 c, .int .i64 d, .int .i64 e, .int .i64 f])] [] (fun v M => K v (M.take ([] : List Blk).length)) = K (rI (checkVRaw ⟨⟨a, b⟩, ⟨c, d⟩, ⟨e, f⟩⟩)) [] := by
  simp only [checkVRaw, pullK K]
  kernel_rfl
theorem c_vec_Check (a b c d e f : Int) : CallsA Tryz.prog GT gbT 73 [.v (.agg [.int .i64 a, .int .i64 b, .int .i64 c, .int .i64 d, .int .i64 e, .int .i64 f])] [] (rI (checkV ⟨⟨a, b⟩, ⟨c, d⟩, ⟨e, f⟩⟩)) [] := by
  refine CallsA.ofOk fun hok => ?_
  have hw := w_vec_Check a b c d e f (fun v M => some (Res.fin v M))
  refine CallsA.ofEv (Γ := (inl Tryz.prog GT EQT XT [69] T_Q1_Div 60 1)) (X := XT) (Λ := noL) (EQ := EQT) (n := 60) (g_Q1_Div.inl hEQT hmT (fun f hf => by simp only [List.mem_cons, List.not_mem_nil, or_false] at hf; subst hf; exact (fun args w => Tryz.call69 args w)) 60 1) hEQT hmT (fun _ _ _ _ => noL_ok _) (hw.trans ?_)
  have h_a := inR_i64 (hok (.int .i64 a) (by simp [datasL, datas]))
  have h_b := inR_i64 (hok (.int .i64 b) (by simp [datasL, datas]))
  have h_c := inR_i64 (hok (.int .i64 c) (by simp [datasL, datas]))
  have h_d := inR_i64 (hok (.int .i64 d) (by simp [datasL, datas]))
  have h_e := inR_i64 (hok (.int .i64 e) (by simp [datasL, datas]))
  have h_f := inR_i64 (hok (.int .i64 f) (by simp [datasL, datas]))
  clear hok hw
  refine congrArg (fun v => some (Res.fin v [])) ?_
  rw [checkVRaw_ok]
def s_vec_Check : List AV → List Blk → (AV → List Blk → Ans) → Ans := fun xs bs K => match xs, bs with
  | [.v (.agg [.int .i64 a, .int .i64 b, .int .i64 c, .int .i64 d, .int .i64 e, .int .i64 f])], [] => K (rI (checkV ⟨⟨a, b⟩, ⟨c, d⟩, ⟨e, f⟩⟩)) []
  | _, _ => none
def T_vec_Check : Nat → List AV → List Blk → (AV → List Blk → Ans) → Ans := upd T_Q1_Div 73 s_vec_Check
theorem g_vec_Check : GOK Tryz.prog GT gbT T_vec_Check XT := by
  refine GOK.upd g_Q1_Div (fun args w => Tryz.call73 args w) fun xs bs K r h => ?_
  unfold s_vec_Check at h
  split at h
  · exact ⟨_, _, c_vec_Check _ _ _ _ _ _, h⟩
  · cases h
theorem w_vec_Scale (a b c d e f g h : Int) (K : AV → List Blk → Ans) : evFn Tryz.prog GT EQT (inl Tryz.prog GT EQT XT [69, 70, 54, 71] T_vec_Check 120 3) XT noL 120 49 [.v (.agg [.int .i64 a, .int .i64 b, .int .i64 c, .int .i64 d, .int .i64 e, .int .i64 f]), .v (.agg [.int .i64 g, .int .i64 h])] [] (fun v M => K v (M.take ([] : List Blk).length)) = scaleAns K ⟨⟨a, b⟩, ⟨c, d⟩, ⟨e, f⟩⟩ ⟨g, h⟩ := by
  kernel_rfl
theorem c_vec_Scale (a b c d e f g h : Int) : CallsA Tryz.prog GT gbT 49 [.v (.agg [.int .i64 a, .int .i64 b, .int .i64 c, .int .i64 d, .int .i64 e, .int .i64 f]), .v (.agg [.int .i64 g, .int .i64 h])] [] (rVecE (scaleV ⟨⟨a, b⟩, ⟨c, d⟩, ⟨e, f⟩⟩ ⟨g, h⟩)) [] := by
  refine CallsA.ofOk fun hok => ?_
  have hw := w_vec_Scale a b c d e f g h (fun v M => some (Res.fin v M))
  refine CallsA.ofEv (Γ := (inl Tryz.prog GT EQT XT [69, 70, 54, 71] T_vec_Check 120 3)) (X := XT) (Λ := noL) (EQ := EQT) (n := 120) (g_vec_Check.inl hEQT hmT (fun f hf => by simp only [List.mem_cons, List.not_mem_nil, or_false] at hf; rcases hf with rfl | rfl | rfl | rfl; exact (fun args w => Tryz.call69 args w); exact (fun args w => Tryz.call70 args w); exact (fun args w => Tryz.call54 args w); exact (fun args w => Tryz.call71 args w)) 120 3) hEQT hmT (fun _ _ _ _ => noL_ok _) (hw.trans ?_)
  have h_a := inR_i64 (hok (.int .i64 a) (by simp [datasL, datas]))
  have h_b := inR_i64 (hok (.int .i64 b) (by simp [datasL, datas]))
  have h_c := inR_i64 (hok (.int .i64 c) (by simp [datasL, datas]))
  have h_d := inR_i64 (hok (.int .i64 d) (by simp [datasL, datas]))
  have h_e := inR_i64 (hok (.int .i64 e) (by simp [datasL, datas]))
  have h_f := inR_i64 (hok (.int .i64 f) (by simp [datasL, datas]))
  have h_g := inR_i64 (hok (.int .i64 g) (by simp [datasL, datas]))
  have h_h := inR_i64 (hok (.int .i64 h) (by simp [datasL, datas]))
  clear hok hw
  exact scaleAns_ok (K := fun v M => some (Res.fin v M))
def s_vec_Scale : List AV → List Blk → (AV → List Blk → Ans) → Ans := fun xs bs K => match xs, bs with
  | [.v (.agg [.int .i64 a, .int .i64 b, .int .i64 c, .int .i64 d, .int .i64 e, .int .i64 f]), .v (.agg [.int .i64 g, .int .i64 h])], [] => K (rVecE (scaleV ⟨⟨a, b⟩, ⟨c, d⟩, ⟨e, f⟩⟩ ⟨g, h⟩)) []
  | _, _ => none
def T_vec_Scale : Nat → List AV → List Blk → (AV → List Blk → Ans) → Ans := upd T_vec_Check 49 s_vec_Scale
theorem g_vec_Scale : GOK Tryz.prog GT gbT T_vec_Scale XT := by
  refine GOK.upd g_vec_Check (fun args w => Tryz.call49 args w) fun xs bs K r h => ?_
  unfold s_vec_Scale at h
  split at h
  · exact ⟨_, _, c_vec_Scale _ _ _ _ _ _ _ _, h⟩
  · cases h
theorem w_vec_dot (a b c d e f g h i j k l : Int) (K : AV → List Blk → Ans) : evFn Tryz.prog GT EQT T_vec_Scale XT noL 120 53 [.v (.agg [.int .i64 a, .int .i64 b, .int .i64 c, .int .i64 d, .int .i64 e, .int .i64 f]), .v (.agg [.int .i64 g, .int .i64 h, .int .i64 i, .int .i64 j, .int .i64 k, .int .i64 l])] [] (fun v M => K v (M.take ([] : List Blk).length)) = dotFAns K ⟨⟨a, b⟩, ⟨c, d⟩, ⟨e, f⟩⟩ ⟨⟨g, h⟩, ⟨i, j⟩, ⟨k, l⟩⟩ := by
  kernel_rfl
theorem c_vec_dot (a b c d e f g h i j k l : Int) : CallsA Tryz.prog GT gbT 53 [.v (.agg [.int .i64 a, .int .i64 b, .int .i64 c, .int .i64 d, .int .i64 e, .int .i64 f]), .v (.agg [.int .i64 g, .int .i64 h, .int .i64 i, .int .i64 j, .int .i64 k, .int .i64 l])] [] (rFracE (dotF ⟨⟨a, b⟩, ⟨c, d⟩, ⟨e, f⟩⟩ ⟨⟨g, h⟩, ⟨i, j⟩, ⟨k, l⟩⟩)) [] := by
  refine CallsA.ofOk fun hok => ?_
  have hw := w_vec_dot a b c d e f g h i j k l (fun v M => some (Res.fin v M))
  refine CallsA.ofEv (Γ := T_vec_Scale) (X := XT) (Λ := noL) (EQ := EQT) (n := 120) g_vec_Scale hEQT hmT (fun _ _ _ _ => noL_ok _) (hw.trans ?_)
  have h_a := inR_i64 (hok (.int .i64 a) (by simp [datasL, datas]))
  have h_b := inR_i64 (hok (.int .i64 b) (by simp [datasL, datas]))
  have h_c := inR_i64 (hok (.int .i64 c) (by simp [datasL, datas]))
  have h_d := inR_i64 (hok (.int .i64 d) (by simp [datasL, datas]))
  have h_e := inR_i64 (hok (.int .i64 e) (by simp [datasL, datas]))
  have h_f := inR_i64 (hok (.int .i64 f) (by simp [datasL, datas]))
  have h_g := inR_i64 (hok (.int .i64 g) (by simp [datasL, datas]))
  have h_h := inR_i64 (hok (.int .i64 h) (by simp [datasL, datas]))
  have h_i := inR_i64 (hok (.int .i64 i) (by simp [datasL, datas]))
  have h_j := inR_i64 (hok (.int .i64 j) (by simp [datasL, datas]))
  have h_k := inR_i64 (hok (.int .i64 k) (by simp [datasL, datas]))
  have h_l := inR_i64 (hok (.int .i64 l) (by simp [datasL, datas]))
  clear hok hw
  exact dotFAns_ok (K := fun v M => some (Res.fin v M))
def s_vec_dot : List AV → List Blk → (AV → List Blk → Ans) → Ans := fun xs bs K => match xs, bs with
  | [.v (.agg [.int .i64 a, .int .i64 b, .int .i64 c, .int .i64 d, .int .i64 e, .int .i64 f]), .v (.agg [.int .i64 g, .int .i64 h, .int .i64 i, .int .i64 j, .int .i64 k, .int .i64 l])], [] => K (rFracE (dotF ⟨⟨a, b⟩, ⟨c, d⟩, ⟨e, f⟩⟩ ⟨⟨g, h⟩, ⟨i, j⟩, ⟨k, l⟩⟩)) []
  | _, _ => none
def T_vec_dot : Nat → List AV → List Blk → (AV → List Blk → Ans) → Ans := upd T_vec_Scale 53 s_vec_dot
theorem g_vec_dot : GOK Tryz.prog GT gbT T_vec_dot XT := by
  refine GOK.upd g_vec_Scale (fun args w => Tryz.call53 args w) fun xs bs K r h => ?_
  unfold s_vec_dot at h
  split at h
  · exact ⟨_, _, c_vec_dot _ _ _ _ _ _ _ _ _ _ _ _, h⟩
  · cases h
theorem w_vec_Dot (a b c d e f g h i j k l : Int) (K : AV → List Blk → Ans) : evFn Tryz.prog GT EQT (inl Tryz.prog GT EQT XT [52, 54] T_vec_dot 120 2) XT noL 120 34 [.v (.agg [.int .i64 a, .int .i64 b, .int .i64 c, .int .i64 d, .int .i64 e, .int .i64 f]), .v (.agg [.int .i64 g, .int .i64 h, .int .i64 i, .int .i64 j, .int .i64 k, .int .i64 l])] [] (fun v M => K v (M.take ([] : List Blk).length)) = dotVAns K ⟨⟨a, b⟩, ⟨c, d⟩, ⟨e, f⟩⟩ ⟨⟨g, h⟩, ⟨i, j⟩, ⟨k, l⟩⟩ := by
  kernel_rfl
theorem c_vec_Dot (a b c d e f g h i j k l : Int) : CallsA Tryz.prog GT gbT 34 [.v (.agg [.int .i64 a, .int .i64 b, .int .i64 c, .int .i64 d, .int .i64 e, .int .i64 f]), .v (.agg [.int .i64 g, .int .i64 h, .int .i64 i, .int .i64 j, .int .i64 k, .int .i64 l])] [] (rFracE (dotV ⟨⟨a, b⟩, ⟨c, d⟩, ⟨e, f⟩⟩ ⟨⟨g, h⟩, ⟨i, j⟩, ⟨k, l⟩⟩)) [] := by
  refine CallsA.ofOk fun hok => ?_
  have hw := w_vec_Dot a b c d e f g h i j k l (fun v M => some (Res.fin v M))
  refine CallsA.ofEv (Γ := (inl Tryz.prog GT EQT XT [52, 54] T_vec_dot 120 2)) (X := XT) (Λ := noL) (EQ := EQT) (n := 120) (g_vec_dot.inl hEQT hmT (fun f hf => by simp only [List.mem_cons, List.not_mem_nil, or_false] at hf; rcases hf with rfl | rfl; exact (fun args w => Tryz.call52 args w); exact (fun args w => Tryz.call54 args w)) 120 2) hEQT hmT (fun _ _ _ _ => noL_ok _) (hw.trans ?_)
  have h_a := inR_i64 (hok (.int .i64 a) (by simp [datasL, datas]))
  have h_b := inR_i64 (hok (.int .i64 b) (by simp [datasL, datas]))
  have h_c := inR_i64 (hok (.int .i64 c) (by simp [datasL, datas]))
  have h_d := inR_i64 (hok (.int .i64 d) (by simp [datasL, datas]))
  have h_e := inR_i64 (hok (.int .i64 e) (by simp [datasL, datas]))
  have h_f := inR_i64 (hok (.int .i64 f) (by simp [datasL, datas]))
  have h_g := inR_i64 (hok (.int .i64 g) (by simp [datasL, datas]))
  have h_h := inR_i64 (hok (.int .i64 h) (by simp [datasL, datas]))
  have h_i := inR_i64 (hok (.int .i64 i) (by simp [datasL, datas]))
  have h_j := inR_i64 (hok (.int .i64 j) (by simp [datasL, datas]))
  have h_k := inR_i64 (hok (.int .i64 k) (by simp [datasL, datas]))
  have h_l := inR_i64 (hok (.int .i64 l) (by simp [datasL, datas]))
  clear hok hw
  exact dotVAns_ok (K := fun v M => some (Res.fin v M))
def s_vec_Dot : List AV → List Blk → (AV → List Blk → Ans) → Ans := fun xs bs K => match xs, bs with
  | [.v (.agg [.int .i64 a, .int .i64 b, .int .i64 c, .int .i64 d, .int .i64 e, .int .i64 f]), .v (.agg [.int .i64 g, .int .i64 h, .int .i64 i, .int .i64 j, .int .i64 k, .int .i64 l])], [] => K (rFracE (dotV ⟨⟨a, b⟩, ⟨c, d⟩, ⟨e, f⟩⟩ ⟨⟨g, h⟩, ⟨i, j⟩, ⟨k, l⟩⟩)) []
  | _, _ => none
def T_vec_Dot : Nat → List AV → List Blk → (AV → List Blk → Ans) → Ans := upd T_vec_dot 34 s_vec_Dot
theorem g_vec_Dot : GOK Tryz.prog GT gbT T_vec_Dot XT := by
  refine GOK.upd g_vec_dot (fun args w => Tryz.call34 args w) fun xs bs K r h => ?_
  unfold s_vec_Dot at h
  split at h
  · exact ⟨_, _, c_vec_Dot _ _ _ _ _ _ _ _ _ _ _ _, h⟩
  · cases h
theorem w_Q2_first (a b c : Int) (K : AV → List Blk → Ans) : evFn Tryz.prog GT EQT T_vec_Dot XT noL 60 99 [.v (.c (.d (.int .i64 a))), .v (.c (.d (.int .i64 b))), .v (.c (.d (.int .i64 c)))] [] (fun v M => K v (M.take ([] : List Blk).length)) = K (rI (firstI a b c)) [] := by
  simp only [firstI, pullK K]
  kernel_rfl
theorem c_Q2_first (a b c : Int) : CallsA Tryz.prog GT gbT 99 [.v (.c (.d (.int .i64 a))), .v (.c (.d (.int .i64 b))), .v (.c (.d (.int .i64 c)))] [] (rI (firstI a b c)) [] := by
  refine CallsA.ofOk fun hok => ?_
  have hw := w_Q2_first a b c (fun v M => some (Res.fin v M))
  refine CallsA.ofEv (Γ := T_vec_Dot) (X := XT) (Λ := noL) (EQ := EQT) (n := 60) g_vec_Dot hEQT hmT (fun _ _ _ _ => noL_ok _) (hw.trans ?_)
  rfl
def s_Q2_first : List AV → List Blk → (AV → List Blk → Ans) → Ans := fun xs bs K => match xs, bs with
  | [.v (.c (.d (.int .i64 a))), .v (.c (.d (.int .i64 b))), .v (.c (.d (.int .i64 c)))], [] => K (rI (firstI a b c)) []
  | _, _ => none
def T_Q2_first : Nat → List AV → List Blk → (AV → List Blk → Ans) → Ans := upd T_vec_Dot 99 s_Q2_first
theorem g_Q2_first : GOK Tryz.prog GT gbT T_Q2_first XT := by
  refine GOK.upd g_vec_Dot (fun args w => Tryz.call99 args w) fun xs bs K r h => ?_
  unfold s_Q2_first at h
  split at h
  · exact ⟨_, _, c_Q2_first _ _ _, h⟩
  · cases h
theorem w_track_Along (a b c d e f g h i j k l : Int) (K : AV → List Blk → Ans) : evFn Tryz.prog GT EQT (inl Tryz.prog GT EQT XT [77, 78, 93] T_Q2_first 120 2) XT noL 120 61 [.v (.agg [.int .i64 a, .int .i64 b, .int .i64 c, .int .i64 d, .int .i64 e, .int .i64 f]), .v (.agg [.int .i64 g, .int .i64 h, .int .i64 i, .int .i64 j, .int .i64 k, .int .i64 l])] [] (fun v M => K v (M.take ([] : List Blk).length)) = alongAns K ⟨⟨a, b⟩, ⟨c, d⟩, ⟨e, f⟩⟩ ⟨⟨g, h⟩, ⟨i, j⟩, ⟨k, l⟩⟩ := by
  kernel_rfl
theorem c_track_Along (a b c d e f g h i j k l : Int) : CallsA Tryz.prog GT gbT 61 [.v (.agg [.int .i64 a, .int .i64 b, .int .i64 c, .int .i64 d, .int .i64 e, .int .i64 f]), .v (.agg [.int .i64 g, .int .i64 h, .int .i64 i, .int .i64 j, .int .i64 k, .int .i64 l])] [] (rSpanE (alongS ⟨⟨a, b⟩, ⟨c, d⟩, ⟨e, f⟩⟩ ⟨⟨g, h⟩, ⟨i, j⟩, ⟨k, l⟩⟩)) [] := by
  refine CallsA.ofOk fun hok => ?_
  have hw := w_track_Along a b c d e f g h i j k l (fun v M => some (Res.fin v M))
  refine CallsA.ofEv (Γ := (inl Tryz.prog GT EQT XT [77, 78, 93] T_Q2_first 120 2)) (X := XT) (Λ := noL) (EQ := EQT) (n := 120) (g_Q2_first.inl hEQT hmT (fun f hf => by simp only [List.mem_cons, List.not_mem_nil, or_false] at hf; rcases hf with rfl | rfl | rfl; exact (fun args w => Tryz.call77 args w); exact (fun args w => Tryz.call78 args w); exact (fun args w => Tryz.call93 args w)) 120 2) hEQT hmT (fun _ _ _ _ => noL_ok _) (hw.trans ?_)
  have h_a := inR_i64 (hok (.int .i64 a) (by simp [datasL, datas]))
  have h_b := inR_i64 (hok (.int .i64 b) (by simp [datasL, datas]))
  have h_c := inR_i64 (hok (.int .i64 c) (by simp [datasL, datas]))
  have h_d := inR_i64 (hok (.int .i64 d) (by simp [datasL, datas]))
  have h_e := inR_i64 (hok (.int .i64 e) (by simp [datasL, datas]))
  have h_f := inR_i64 (hok (.int .i64 f) (by simp [datasL, datas]))
  have h_g := inR_i64 (hok (.int .i64 g) (by simp [datasL, datas]))
  have h_h := inR_i64 (hok (.int .i64 h) (by simp [datasL, datas]))
  have h_i := inR_i64 (hok (.int .i64 i) (by simp [datasL, datas]))
  have h_j := inR_i64 (hok (.int .i64 j) (by simp [datasL, datas]))
  have h_k := inR_i64 (hok (.int .i64 k) (by simp [datasL, datas]))
  have h_l := inR_i64 (hok (.int .i64 l) (by simp [datasL, datas]))
  clear hok hw
  exact alongAns_ok (K := fun v M => some (Res.fin v M))
def s_track_Along : List AV → List Blk → (AV → List Blk → Ans) → Ans := fun xs bs K => match xs, bs with
  | [.v (.agg [.int .i64 a, .int .i64 b, .int .i64 c, .int .i64 d, .int .i64 e, .int .i64 f]), .v (.agg [.int .i64 g, .int .i64 h, .int .i64 i, .int .i64 j, .int .i64 k, .int .i64 l])], [] => K (rSpanE (alongS ⟨⟨a, b⟩, ⟨c, d⟩, ⟨e, f⟩⟩ ⟨⟨g, h⟩, ⟨i, j⟩, ⟨k, l⟩⟩)) []
  | _, _ => none
def T_track_Along : Nat → List AV → List Blk → (AV → List Blk → Ans) → Ans := upd T_Q2_first 61 s_track_Along
theorem g_track_Along : GOK Tryz.prog GT gbT T_track_Along XT := by
  refine GOK.upd g_Q2_first (fun args w => Tryz.call61 args w) fun xs bs K r h => ?_
  unfold s_track_Along at h
  split at h
  · exact ⟨_, _, c_track_Along _ _ _ _ _ _ _ _ _ _ _ _, h⟩
  · cases h
abbrev T_named (s : ByteArray) (i : Int) : TS := maskT [(0, .v (.c (.d (.str s)))), (24, aint .i64 (s.size : Int)), (25, aint .i64 i), (2, .any)] 50
abbrev B_named (s : ByteArray) (i : Int) : TS := maskT [(0, .v (.c (.d (.str s)))), (24, aint .i64 (s.size : Int)), (25, aint .i64 i), (2, abool false)] 50
def f_named (T : TS) (M : List Blk) (N : Nat) : LT := match tget T 0, tget T 24, tget T 25 with
  | .v (.c (.d (.str s))), .v (.c (.d (.int .i64 n))), .v (.c (.d (.int .i64 i))) =>
    bif i == 0 then .br (n == (s.size : Int) && decide ((s.size : Int) ≤ 1000)) (.br (restOk s 0 s.size) (.st (.exit 0) (maskT [] 50) M N) (.st .ret (maskT [(2, abool false)] 50) M N)) .no else .no
  | _, _, _ => .no
def L_named := LamG 4 50 f_named
theorem b_named (s : ByteArray) (i : Int) (M : List Blk) (N : Nat) : evCode Tryz.prog GT EQT T_track_Along XT noL 40 (loopB Tryz.prog 45 0) (T_named s i) M N (fun x T M N => some (.st x (forget [0, 24, 25, 2] T) M N)) =
    bif decide (i < (s.size : Int)) then (bif decide (0 ≤ i) && decide (i < (s.size : Int)) then nameStep (byteAt s i) (some (.st .ret (B_named s i) M N)) (some (.st .normal (T_named s (w64 (i + 1))) M N)) else none)
    else some (.st (.exit 0) (T_named s i) M N) := by kernel_rfl
theorem LL_named : ∀ fn c, Tryz.prog.funcs[45]? = some fn → fn.body = some c → LOK Tryz.prog GT gbT L_named (loopsIn c) := by
  refine LOK.ofF fun b hb => ?_
  have e : loopsF Tryz.prog 45 = [loopB Tryz.prog 45 0] := by kernel_rfl
  have k0 : loopKey (loopB Tryz.prog 45 0) = 4 := by kernel_rfl
  rw [e, List.mem_singleton] at hb
  subst hb
  unfold L_named
  rw [← k0]
  refine LOKb.lamG fun T M N x T' M' N' hl hr => ?_
  unfold f_named at hr
  split at hr
  · rename_i s n i h0 h1 h2
    simp only [cond_eq_ite, beq_iff_eq] at hr
    split at hr
    · rename_i hi
      subst hi
      obtain ⟨hc, hr2⟩ := Or.resolve_right hr (fun h => h.2.elim)
      simp only [Bool.and_eq_true, beq_iff_eq, decide_eq_true_eq] at hc
      obtain ⟨rfl, hs⟩ := hc
      have hless : Less (T_named s 0) T := less_of' hl (by simp only [List.mem_cons, List.not_mem_nil, or_false]; intro p hp; rcases hp with rfl | rfl | rfl | rfl; exact .inl h0; exact .inl h1; exact .inl h2; exact .inr rfl)
      have hh := name_rounds (c := loopB Tryz.prog 45 0) (M := M) (NN := N) g_track_Along hEQT hmT s hs (fun i => T_named s i) (maskT [] 50) (maskT [(2, abool false)] 50) (fun i => less_of (by kernel_rfl) (by simp)) (fun i => B_named s i) (fun i => less_of (by kernel_rfl) (by simp; kernel_rfl)) (fun i => (b_named s i M N)) s.size 0 (by omega) (by omega)
      rcases hr2 with ⟨hd, rfl, rfl, rfl, rfl⟩ | ⟨hd, rfl, rfl, rfl, rfl⟩
      · obtain ⟨k, hk⟩ := hh.1 hd
        exact ⟨by simp, k, hk.less hless⟩
      · obtain ⟨k, hk⟩ := hh.2 hd
        exact ⟨by simp, k, hk.less hless⟩
    · exact hr.elim
  · exact hr.elim
theorem w_track_named (s : ByteArray) (K : AV → List Blk → Ans) : evFn Tryz.prog GT EQT T_track_Along XT L_named 60 45 [.v (.c (.d (.str s)))] [] (fun v M => K v (M.take ([] : List Blk).length)) = nameAns K s := by
  kernel_rfl
theorem c_track_named (s : ByteArray) : CallsA Tryz.prog GT gbT 45 [.v (.c (.d (.str s)))] [] (rB (namedB s)) [] := by
  refine CallsA.ofOk fun hok => ?_
  have hw := w_track_named s (fun v M => some (Res.fin v M))
  refine CallsA.ofEv (Γ := T_track_Along) (X := XT) (Λ := L_named) (EQ := EQT) (n := 60) g_track_Along hEQT hmT (LL_named) (hw.trans ?_)
  clear hok hw
  exact nameAns_ok (K := fun v M => some (Res.fin v M))
def s_track_named : List AV → List Blk → (AV → List Blk → Ans) → Ans := fun xs bs K => match xs, bs with
  | [.v (.c (.d (.str s)))], [] => K (rB (namedB s)) []
  | _, _ => none
def T_track_named : Nat → List AV → List Blk → (AV → List Blk → Ans) → Ans := upd T_track_Along 45 s_track_named
theorem g_track_named : GOK Tryz.prog GT gbT T_track_named XT := by
  refine GOK.upd g_track_Along (fun args w => Tryz.call45 args w) fun xs bs K r h => ?_
  unfold s_track_named at h
  split at h
  · exact ⟨_, _, c_track_named _, h⟩
  · cases h
abbrev T_Named (s : ByteArray) (i : Int) : TS := maskT [(0, .v (.c (.d (.str s)))), (3, aint .i64 i), (2, .any)] 56
abbrev B_Named (s : ByteArray) (i : Int) : TS := maskT [(0, .v (.c (.d (.str s)))), (3, aint .i64 i), (2, abool false)] 56
def f_Named (T : TS) (M : List Blk) (N : Nat) : LT := match tget T 0, tget T 3 with
  | .v (.c (.d (.str s))), .v (.c (.d (.int .i64 i))) =>
    bif i == 0 then .br (decide ((s.size : Int) ≤ 1000)) (.br (restOk s 0 s.size) (.st (.exit 0) (maskT [] 56) M N) (.st .ret (maskT [(2, abool false)] 56) M N)) .no else .no
  | _, _ => .no
def L_Named := LamG 4 56 f_Named
theorem b_Named (s : ByteArray) (i : Int) (M : List Blk) (N : Nat) : evCode Tryz.prog GT EQT T_track_named XT noL 40 (loopB Tryz.prog 23 0) (T_Named s i) M N (fun x T M N => some (.st x (forget [0, 3, 2] T) M N)) =
    bif decide (i < (s.size : Int)) then (bif decide (0 ≤ i) && decide (i < (s.size : Int)) then nameStepR (decide (0 ≤ i) && decide (i < (s.size : Int))) (byteAt s i) (some (.st .ret (B_Named s i) M N)) (some (.st .normal (T_Named s (w64 (i + 1))) M N)) else none)
    else some (.st (.exit 0) (T_Named s i) M N) := by kernel_rfl
theorem LL_Named : ∀ fn c, Tryz.prog.funcs[23]? = some fn → fn.body = some c → LOK Tryz.prog GT gbT L_Named (loopsIn c) := by
  refine LOK.ofF fun b hb => ?_
  have e : loopsF Tryz.prog 23 = [loopB Tryz.prog 23 0] := by kernel_rfl
  have k0 : loopKey (loopB Tryz.prog 23 0) = 4 := by kernel_rfl
  rw [e, List.mem_singleton] at hb
  subst hb
  unfold L_Named
  rw [← k0]
  refine LOKb.lamG fun T M N x T' M' N' hl hr => ?_
  unfold f_Named at hr
  split at hr
  · rename_i s i h0 h2
    simp only [cond_eq_ite, beq_iff_eq] at hr
    split at hr
    · rename_i hi
      subst hi
      obtain ⟨hs, hr2⟩ := Or.resolve_right hr (fun h => h.2.elim)
      simp only [decide_eq_true_eq] at hs
      have hless : Less (T_Named s 0) T := less_of' hl (by simp only [List.mem_cons, List.not_mem_nil, or_false]; intro p hp; rcases hp with rfl | rfl | rfl; exact .inl h0; exact .inl h2; exact .inr rfl)
      have hh := name_rounds (c := loopB Tryz.prog 23 0) (M := M) (NN := N) g_track_named hEQT hmT s hs (fun i => T_Named s i) (maskT [] 56) (maskT [(2, abool false)] 56) (fun i => less_of (by kernel_rfl) (by simp)) (fun i => B_Named s i) (fun i => less_of (by kernel_rfl) (by simp; kernel_rfl)) (fun i => (b_Named s i M N).trans (by rw [nameStepR_eq])) s.size 0 (by omega) (by omega)
      rcases hr2 with ⟨hd, rfl, rfl, rfl, rfl⟩ | ⟨hd, rfl, rfl, rfl, rfl⟩
      · obtain ⟨k, hk⟩ := hh.1 hd
        exact ⟨by simp, k, hk.less hless⟩
      · obtain ⟨k, hk⟩ := hh.2 hd
        exact ⟨by simp, k, hk.less hless⟩
    · exact hr.elim
  · exact hr.elim
theorem w_Q4_Named (s : ByteArray) (K : AV → List Blk → Ans) : evFn Tryz.prog GT EQT T_track_named XT L_Named 60 23 [.v (.c (.d (.str s)))] [] (fun v M => K v (M.take ([] : List Blk).length)) = nameAns' K s := by
  kernel_rfl
theorem c_Q4_Named (s : ByteArray) : CallsA Tryz.prog GT gbT 23 [.v (.c (.d (.str s)))] [] (rB (namedB s)) [] := by
  refine CallsA.ofOk fun hok => ?_
  have hw := w_Q4_Named s (fun v M => some (Res.fin v M))
  refine CallsA.ofEv (Γ := T_track_named) (X := XT) (Λ := L_Named) (EQ := EQT) (n := 60) g_track_named hEQT hmT (LL_Named) (hw.trans ?_)
  clear hok hw
  exact nameAns'_ok (K := fun v M => some (Res.fin v M))
def s_Q4_Named : List AV → List Blk → (AV → List Blk → Ans) → Ans := fun xs bs K => match xs, bs with
  | [.v (.c (.d (.str s)))], [] => K (rB (namedB s)) []
  | _, _ => none
def T_Q4_Named : Nat → List AV → List Blk → (AV → List Blk → Ans) → Ans := upd T_track_named 23 s_Q4_Named
theorem g_Q4_Named : GOK Tryz.prog GT gbT T_Q4_Named XT := by
  refine GOK.upd g_track_named (fun args w => Tryz.call23 args w) fun xs bs K r h => ?_
  unfold s_Q4_Named at h
  split at h
  · exact ⟨_, _, c_Q4_Named _, h⟩
  · cases h
theorem w_track_Check (nm : ByteArray) (ra dec : Int) (K : AV → List Blk → Ans) : evFn Tryz.prog GT EQT T_Q4_Named XT noL 60 30 [.v (.agg [.str nm, .int .i64 ra, .int .i64 dec])] [] (fun v M => K v (M.take ([] : List Blk).length)) = K (rI (checkSrc ⟨nm, ra, dec⟩)) [] := by
  simp only [checkSrc, pullK K]
  kernel_rfl
theorem c_track_Check (nm : ByteArray) (ra dec : Int) : CallsA Tryz.prog GT gbT 30 [.v (.agg [.str nm, .int .i64 ra, .int .i64 dec])] [] (rI (checkSrc ⟨nm, ra, dec⟩)) [] := by
  refine CallsA.ofOk fun hok => ?_
  have hw := w_track_Check nm ra dec (fun v M => some (Res.fin v M))
  refine CallsA.ofEv (Γ := T_Q4_Named) (X := XT) (Λ := noL) (EQ := EQT) (n := 60) g_Q4_Named hEQT hmT (fun _ _ _ _ => noL_ok _) (hw.trans ?_)
  rfl
def s_track_Check : List AV → List Blk → (AV → List Blk → Ans) → Ans := fun xs bs K => match xs, bs with
  | [.v (.agg [.str nm, .int .i64 ra, .int .i64 dec])], [] => K (rI (checkSrc ⟨nm, ra, dec⟩)) []
  | _, _ => none
def T_track_Check : Nat → List AV → List Blk → (AV → List Blk → Ans) → Ans := upd T_Q4_Named 30 s_track_Check
theorem g_track_Check : GOK Tryz.prog GT gbT T_track_Check XT := by
  refine GOK.upd g_Q4_Named (fun args w => Tryz.call30 args w) fun xs bs K r h => ?_
  unfold s_track_Check at h
  split at h
  · exact ⟨_, _, c_track_Check _ _ _, h⟩
  · cases h
theorem w_Q6_Check (nm : ByteArray) (ra dec : Int) (K : AV → List Blk → Ans) : evFn Tryz.prog GT EQT T_track_Check XT noL 60 12 [.v (.agg [.str nm, .int .i64 ra, .int .i64 dec])] [] (fun v M => K v (M.take ([] : List Blk).length)) = K (rI (checkSrc ⟨nm, ra, dec⟩)) [] := by
  simp only [checkSrc, pullK K]
  kernel_rfl
theorem c_Q6_Check (nm : ByteArray) (ra dec : Int) : CallsA Tryz.prog GT gbT 12 [.v (.agg [.str nm, .int .i64 ra, .int .i64 dec])] [] (rI (checkSrc ⟨nm, ra, dec⟩)) [] := by
  refine CallsA.ofOk fun hok => ?_
  have hw := w_Q6_Check nm ra dec (fun v M => some (Res.fin v M))
  refine CallsA.ofEv (Γ := T_track_Check) (X := XT) (Λ := noL) (EQ := EQT) (n := 60) g_track_Check hEQT hmT (fun _ _ _ _ => noL_ok _) (hw.trans ?_)
  rfl
def s_Q6_Check : List AV → List Blk → (AV → List Blk → Ans) → Ans := fun xs bs K => match xs, bs with
  | [.v (.agg [.str nm, .int .i64 ra, .int .i64 dec])], [] => K (rI (checkSrc ⟨nm, ra, dec⟩)) []
  | _, _ => none
def T_Q6_Check : Nat → List AV → List Blk → (AV → List Blk → Ans) → Ans := upd T_track_Check 12 s_Q6_Check
theorem g_Q6_Check : GOK Tryz.prog GT gbT T_Q6_Check XT := by
  refine GOK.upd g_track_Check (fun args w => Tryz.call12 args w) fun xs bs K r h => ?_
  unfold s_Q6_Check at h
  split at h
  · exact ⟨_, _, c_Q6_Check _ _ _, h⟩
  · cases h
theorem w_track_circle (h : Int) (K : AV → List Blk → Ans) : evFn Tryz.prog GT EQT T_Q6_Check XT noL 60 76 [.v (.c (.d (.int .i64 h)))] [] (fun v M => K v (M.take ([] : List Blk).length)) = K (rSpan2 (sinT h, cosT h)) [] := by
  kernel_rfl
theorem c_track_circle (h : Int) : CallsA Tryz.prog GT gbT 76 [.v (.c (.d (.int .i64 h)))] [] (rSpan2 (sinT h, cosT h)) [] := by
  refine CallsA.ofOk fun hok => ?_
  have hw := w_track_circle h (fun v M => some (Res.fin v M))
  refine CallsA.ofEv (Γ := T_Q6_Check) (X := XT) (Λ := noL) (EQ := EQT) (n := 60) g_Q6_Check hEQT hmT (fun _ _ _ _ => noL_ok _) (hw.trans ?_)
  rfl
def s_track_circle : List AV → List Blk → (AV → List Blk → Ans) → Ans := fun xs bs K => match xs, bs with
  | [.v (.c (.d (.int .i64 h)))], [] => K (rSpan2 (sinT h, cosT h)) []
  | _, _ => none
def T_track_circle : Nat → List AV → List Blk → (AV → List Blk → Ans) → Ans := upd T_Q6_Check 76 s_track_circle
theorem g_track_circle : GOK Tryz.prog GT gbT T_track_circle XT := by
  refine GOK.upd g_Q6_Check (fun args w => Tryz.call76 args w) fun xs bs K r h => ?_
  unfold s_track_circle at h
  split at h
  · exact ⟨_, _, c_track_circle _, h⟩
  · cases h
theorem w_track_direction (nm : ByteArray) (ra dec t : Int) (K : AV → List Blk → Ans) : evFn Tryz.prog GT EQT T_track_circle XT noL 60 60 [.v (.agg [.str nm, .int .i64 ra, .int .i64 dec]), .v (.c (.d (.int .i64 t)))] [] (fun v M => K v (M.take ([] : List Blk).length)) = dirAns K ra dec t := by
  kernel_rfl
theorem c_track_direction (nm : ByteArray) (ra dec t : Int) (hd : (dirOn ra dec t) = true) : CallsA Tryz.prog GT gbT 60 [.v (.agg [.str nm, .int .i64 ra, .int .i64 dec]), .v (.c (.d (.int .i64 t)))] [] (rDirE (dirS ra dec t, 0)) [] := by
  refine CallsA.ofOk fun hok => ?_
  have hw := w_track_direction nm ra dec t (fun v M => some (Res.fin v M))
  refine CallsA.ofEv (Γ := T_track_circle) (X := XT) (Λ := noL) (EQ := EQT) (n := 60) g_track_circle hEQT hmT (fun _ _ _ _ => noL_ok _) (hw.trans ?_)
  have h_ra := inR_i64 (hok (.int .i64 ra) (by simp [datasL, datas]))
  have h_dec := inR_i64 (hok (.int .i64 dec) (by simp [datasL, datas]))
  have h_t := inR_i64 (hok (.int .i64 t) (by simp [datasL, datas]))
  clear hok hw
  exact dirAns_ok (K := fun v M => some (Res.fin v M)) hd
def s_track_direction : List AV → List Blk → (AV → List Blk → Ans) → Ans := fun xs bs K => match xs, bs with
  | [.v (.agg [.str _, .int .i64 ra, .int .i64 dec]), .v (.c (.d (.int .i64 t)))], [] => bif dirOn ra dec t then K (rDirE (dirS ra dec t, 0)) [] else none
  | _, _ => none
def T_track_direction : Nat → List AV → List Blk → (AV → List Blk → Ans) → Ans := upd T_track_circle 60 s_track_direction
theorem g_track_direction : GOK Tryz.prog GT gbT T_track_direction XT := by
  refine GOK.upd g_track_circle (fun args w => Tryz.call60 args w) fun xs bs K r h => ?_
  unfold s_track_direction at h
  split at h
  · simp only [cond_eq_ite] at h
    split at h
    · exact ⟨_, _, c_track_direction _ _ _ _ ‹_›, h⟩
    · cases h
  · cases h
end Go.Ev

namespace Go.Ev
open Go Go.Proofs
theorem w_track_At (nm : ByteArray) (ra dec t : Int) (K : AV → List Blk → Ans) : evFn Tryz.prog GT EQT (inl Tryz.prog GT EQT XT [59] T_track_direction 60 1) XT noL 60 37 [.v (.agg [.str nm, .int .i64 ra, .int .i64 dec]), .v (.c (.d (.int .i64 t)))] [] (fun v M => K v (M.take ([] : List Blk).length)) = atAns K ⟨nm, ra, dec⟩ t := by
  kernel_rfl
theorem c_track_At (nm : ByteArray) (ra dec t : Int) : CallsA Tryz.prog GT gbT 37 [.v (.agg [.str nm, .int .i64 ra, .int .i64 dec]), .v (.c (.d (.int .i64 t)))] [] (rDirE (atS ⟨nm, ra, dec⟩ t)) [] := by
  refine CallsA.ofOk fun hok => ?_
  have hw := w_track_At nm ra dec t (fun v M => some (Res.fin v M))
  refine CallsA.ofEv (Γ := (inl Tryz.prog GT EQT XT [59] T_track_direction 60 1)) (X := XT) (Λ := noL) (EQ := EQT) (n := 60) (g_track_direction.inl hEQT hmT (fun f hf => by simp only [List.mem_cons, List.not_mem_nil, or_false] at hf; subst hf; exact (fun args w => Tryz.call59 args w)) 60 1) hEQT hmT (fun _ _ _ _ => noL_ok _) (hw.trans ?_)
  have h_ra := inR_i64 (hok (.int .i64 ra) (by simp [datasL, datas]))
  have h_dec := inR_i64 (hok (.int .i64 dec) (by simp [datasL, datas]))
  have h_t := inR_i64 (hok (.int .i64 t) (by simp [datasL, datas]))
  clear hok hw
  exact atAns_ok (K := fun v M => some (Res.fin v M))
def s_track_At : List AV → List Blk → (AV → List Blk → Ans) → Ans := fun xs bs K => match xs, bs with
  | [.v (.agg [.str nm, .int .i64 ra, .int .i64 dec]), .v (.c (.d (.int .i64 t)))], [] => K (rDirE (atS ⟨nm, ra, dec⟩ t)) []
  | _, _ => none
def T_track_At : Nat → List AV → List Blk → (AV → List Blk → Ans) → Ans := upd T_track_direction 37 s_track_At
theorem g_track_At : GOK Tryz.prog GT gbT T_track_At XT := by
  refine GOK.upd g_track_direction (fun args w => Tryz.call37 args w) fun xs bs K r h => ?_
  unfold s_track_At at h
  split at h
  · exact ⟨_, _, c_track_At _ _ _ _, h⟩
  · cases h
theorem w_Q1_Of (n : Int) (K : AV → List Blk → Ans) : evFn Tryz.prog GT EQT T_track_At XT noL 60 27 [.v (.c (.d (.int .i64 n)))] [] (fun v M => K v (M.take ([] : List Blk).length)) = K (rFrac ⟨n, 1⟩) [] := by
  kernel_rfl
theorem c_Q1_Of (n : Int) : CallsA Tryz.prog GT gbT 27 [.v (.c (.d (.int .i64 n)))] [] (rFrac ⟨n, 1⟩) [] := by
  refine CallsA.ofOk fun hok => ?_
  have hw := w_Q1_Of n (fun v M => some (Res.fin v M))
  refine CallsA.ofEv (Γ := T_track_At) (X := XT) (Λ := noL) (EQ := EQT) (n := 60) g_track_At hEQT hmT (fun _ _ _ _ => noL_ok _) (hw.trans ?_)
  rfl
def s_Q1_Of : List AV → List Blk → (AV → List Blk → Ans) → Ans := fun xs bs K => match xs, bs with
  | [.v (.c (.d (.int .i64 n)))], [] => K (rFrac ⟨n, 1⟩) []
  | _, _ => none
def T_Q1_Of : Nat → List AV → List Blk → (AV → List Blk → Ans) → Ans := upd T_track_At 27 s_Q1_Of
theorem g_Q1_Of : GOK Tryz.prog GT gbT T_Q1_Of XT := by
  refine GOK.upd g_track_At (fun args w => Tryz.call27 args w) fun xs bs K r h => ?_
  unfold s_Q1_Of at h
  split at h
  · exact ⟨_, _, c_Q1_Of _, h⟩
  · cases h
theorem w_Q2_Pair (t1 t2 : Int) (K : AV → List Blk → Ans) : evFn Tryz.prog GT EQT T_Q1_Of XT noL 100 82 [.v (.agg [.int .i64 t1, .int .i64 t2])] [] (fun v M => K v (M.take ([] : List Blk).length)) = K (rPair (pairR ⟨t1, t2⟩)) [] := by
  simp only [pairR, pullK K]
  kernel_rfl
theorem c_Q2_Pair (t1 t2 : Int) : CallsA Tryz.prog GT gbT 82 [.v (.agg [.int .i64 t1, .int .i64 t2])] [] (rPair (pairR ⟨t1, t2⟩)) [] := by
  refine CallsA.ofOk fun hok => ?_
  have hw := w_Q2_Pair t1 t2 (fun v M => some (Res.fin v M))
  refine CallsA.ofEv (Γ := T_Q1_Of) (X := XT) (Λ := noL) (EQ := EQT) (n := 100) g_Q1_Of hEQT hmT (fun _ _ _ _ => noL_ok _) (hw.trans ?_)
  rfl
def s_Q2_Pair : List AV → List Blk → (AV → List Blk → Ans) → Ans := fun xs bs K => match xs, bs with
  | [.v (.agg [.int .i64 t1, .int .i64 t2])], [] => K (rPair (pairR ⟨t1, t2⟩)) []
  | _, _ => none
def T_Q2_Pair : Nat → List AV → List Blk → (AV → List Blk → Ans) → Ans := upd T_Q1_Of 82 s_Q2_Pair
theorem g_Q2_Pair : GOK Tryz.prog GT gbT T_Q2_Pair XT := by
  refine GOK.upd g_Q1_Of (fun args w => Tryz.call82 args w) fun xs bs K r h => ?_
  unfold s_Q2_Pair at h
  split at h
  · exact ⟨_, _, c_Q2_Pair _ _, h⟩
  · cases h
theorem w_frac_Make (n d : Int) (K : AV → List Blk → Ans) : evFn Tryz.prog GT EQT T_Q2_Pair XT noL 60 48 [.v (.c (.d (.int .i64 n))), .v (.c (.d (.int .i64 d)))] [] (fun v M => K v (M.take ([] : List Blk).length)) = makePAns K n d := by
  kernel_rfl
theorem c_frac_Make (n d : Int) : CallsA Tryz.prog GT gbT 48 [.v (.c (.d (.int .i64 n))), .v (.c (.d (.int .i64 d)))] [] (rFracE (makeF n d)) [] := by
  refine CallsA.ofOk fun hok => ?_
  have hw := w_frac_Make n d (fun v M => some (Res.fin v M))
  refine CallsA.ofEv (Γ := T_Q2_Pair) (X := XT) (Λ := noL) (EQ := EQT) (n := 60) g_Q2_Pair hEQT hmT (fun _ _ _ _ => noL_ok _) (hw.trans ?_)
  have h_n := inR_i64 (hok (.int .i64 n) (by simp [datasL, datas]))
  have h_d := inR_i64 (hok (.int .i64 d) (by simp [datasL, datas]))
  clear hok hw
  exact makePAns_ok (K := fun v M => some (Res.fin v M)) h_n h_d
def s_frac_Make : List AV → List Blk → (AV → List Blk → Ans) → Ans := fun xs bs K => match xs, bs with
  | [.v (.c (.d (.int .i64 n))), .v (.c (.d (.int .i64 d)))], [] => K (rFracE (makeF n d)) []
  | _, _ => none
def T_frac_Make : Nat → List AV → List Blk → (AV → List Blk → Ans) → Ans := upd T_Q2_Pair 48 s_frac_Make
theorem g_frac_Make : GOK Tryz.prog GT gbT T_frac_Make XT := by
  refine GOK.upd g_Q2_Pair (fun args w => Tryz.call48 args w) fun xs bs K r h => ?_
  unfold s_frac_Make at h
  split at h
  · exact ⟨_, _, c_frac_Make _ _, h⟩
  · cases h
theorem w_geoid_Check (g1 g2 : Int) (K : AV → List Blk → Ans) : evFn Tryz.prog GT EQT T_frac_Make XT noL 60 64 [.v (.agg [.int .i64 g1, .int .i64 g2])] [] (fun v M => K v (M.take ([] : List Blk).length)) = K (rI (checkGRaw ⟨g1, g2⟩)) [] := by
  simp only [checkGRaw, pullK K]
  kernel_rfl
theorem c_geoid_Check (g1 g2 : Int) : CallsA Tryz.prog GT gbT 64 [.v (.agg [.int .i64 g1, .int .i64 g2])] [] (rI (checkG ⟨g1, g2⟩)) [] := by
  refine CallsA.ofOk fun hok => ?_
  have hw := w_geoid_Check g1 g2 (fun v M => some (Res.fin v M))
  refine CallsA.ofEv (Γ := T_frac_Make) (X := XT) (Λ := noL) (EQ := EQT) (n := 60) g_frac_Make hEQT hmT (fun _ _ _ _ => noL_ok _) (hw.trans ?_)
  have h_g1 := inR_i64 (hok (.int .i64 g1) (by simp [datasL, datas]))
  have h_g2 := inR_i64 (hok (.int .i64 g2) (by simp [datasL, datas]))
  clear hok hw
  refine congrArg (fun v => some (Res.fin v [])) ?_
  rw [checkGRaw_ok]
def s_geoid_Check : List AV → List Blk → (AV → List Blk → Ans) → Ans := fun xs bs K => match xs, bs with
  | [.v (.agg [.int .i64 g1, .int .i64 g2])], [] => K (rI (checkG ⟨g1, g2⟩)) []
  | _, _ => none
def T_geoid_Check : Nat → List AV → List Blk → (AV → List Blk → Ans) → Ans := upd T_frac_Make 64 s_geoid_Check
theorem g_geoid_Check : GOK Tryz.prog GT gbT T_geoid_Check XT := by
  refine GOK.upd g_frac_Make (fun args w => Tryz.call64 args w) fun xs bs K r h => ?_
  unfold s_geoid_Check at h
  split at h
  · exact ⟨_, _, c_geoid_Check _ _, h⟩
  · cases h
theorem w_geoid_param (f1 f2 : Int) (K : AV → List Blk → Ans) : evFn Tryz.prog GT EQT T_geoid_Check XT noL 60 85 [.v (.agg [.int .i64 f1, .int .i64 f2])] [] (fun v M => K v (M.take ([] : List Blk).length)) = paramAns K ⟨f1, f2⟩ := by
  kernel_rfl
theorem c_geoid_param (f1 f2 : Int) : CallsA Tryz.prog GT gbT 85 [.v (.agg [.int .i64 f1, .int .i64 f2])] [] (rB (paramB ⟨f1, f2⟩)) [] := by
  refine CallsA.ofOk fun hok => ?_
  have hw := w_geoid_param f1 f2 (fun v M => some (Res.fin v M))
  refine CallsA.ofEv (Γ := T_geoid_Check) (X := XT) (Λ := noL) (EQ := EQT) (n := 60) g_geoid_Check hEQT hmT (fun _ _ _ _ => noL_ok _) (hw.trans ?_)
  have h_f1 := inR_i64 (hok (.int .i64 f1) (by simp [datasL, datas]))
  have h_f2 := inR_i64 (hok (.int .i64 f2) (by simp [datasL, datas]))
  clear hok hw
  exact paramAns_ok (K := fun v M => some (Res.fin v M))
def s_geoid_param : List AV → List Blk → (AV → List Blk → Ans) → Ans := fun xs bs K => match xs, bs with
  | [.v (.agg [.int .i64 f1, .int .i64 f2])], [] => K (rB (paramB ⟨f1, f2⟩)) []
  | _, _ => none
def T_geoid_param : Nat → List AV → List Blk → (AV → List Blk → Ans) → Ans := upd T_geoid_Check 85 s_geoid_param
theorem g_geoid_param : GOK Tryz.prog GT gbT T_geoid_param XT := by
  refine GOK.upd g_geoid_Check (fun args w => Tryz.call85 args w) fun xs bs K r h => ?_
  unfold s_geoid_param at h
  split at h
  · exact ⟨_, _, c_geoid_param _ _, h⟩
  · cases h
theorem w_geoid_whole (n : Int) (K : AV → List Blk → Ans) : evFn Tryz.prog GT EQT T_geoid_param XT noL 60 87 [.v (.c (.d (.int .i64 n)))] [] (fun v M => K v (M.take ([] : List Blk).length)) = K (rFrac (wholeF n)) [] := by
  kernel_rfl
theorem c_geoid_whole (n : Int) : CallsA Tryz.prog GT gbT 87 [.v (.c (.d (.int .i64 n)))] [] (rFrac (wholeF n)) [] := by
  refine CallsA.ofOk fun hok => ?_
  have hw := w_geoid_whole n (fun v M => some (Res.fin v M))
  refine CallsA.ofEv (Γ := T_geoid_param) (X := XT) (Λ := noL) (EQ := EQT) (n := 60) g_geoid_param hEQT hmT (fun _ _ _ _ => noL_ok _) (hw.trans ?_)
  rfl
def s_geoid_whole : List AV → List Blk → (AV → List Blk → Ans) → Ans := fun xs bs K => match xs, bs with
  | [.v (.c (.d (.int .i64 n)))], [] => K (rFrac (wholeF n)) []
  | _, _ => none
def T_geoid_whole : Nat → List AV → List Blk → (AV → List Blk → Ans) → Ans := upd T_geoid_param 87 s_geoid_whole
theorem g_geoid_whole : GOK Tryz.prog GT gbT T_geoid_whole XT := by
  refine GOK.upd g_geoid_param (fun args w => Tryz.call87 args w) fun xs bs K r h => ?_
  unfold s_geoid_whole at h
  split at h
  · exact ⟨_, _, c_geoid_whole _, h⟩
  · cases h
theorem w_geoid_around (u1 u2 : Int) (K : AV → List Blk → Ans) : evFn Tryz.prog GT EQT T_geoid_whole XT noL 60 86 [.v (.agg [.int .i64 u1, .int .i64 u2])] [] (fun v M => K v (M.take ([] : List Blk).length)) = aroundRaw K ⟨u1, u2⟩ := by
  kernel_rfl
theorem c_geoid_around (u1 u2 : Int) (hd : (paramB ⟨u1, u2⟩) = true) : CallsA Tryz.prog GT gbT 86 [.v (.agg [.int .i64 u1, .int .i64 u2])] [] (rFF (cosU ⟨u1, u2⟩) (sinU ⟨u1, u2⟩)) [] := by
  refine CallsA.ofOk fun hok => ?_
  have hw := w_geoid_around u1 u2 (fun v M => some (Res.fin v M))
  refine CallsA.ofEv (Γ := T_geoid_whole) (X := XT) (Λ := noL) (EQ := EQT) (n := 60) g_geoid_whole hEQT hmT (fun _ _ _ _ => noL_ok _) (hw.trans ?_)
  have h_u1 := inR_i64 (hok (.int .i64 u1) (by simp [datasL, datas]))
  have h_u2 := inR_i64 (hok (.int .i64 u2) (by simp [datasL, datas]))
  clear hok hw
  exact around_ok (K := fun v M => some (Res.fin v M)) (paramB_iff.1 hd)
def s_geoid_around : List AV → List Blk → (AV → List Blk → Ans) → Ans := fun xs bs K => match xs, bs with
  | [.v (.agg [.int .i64 u1, .int .i64 u2])], [] => bif paramB ⟨u1, u2⟩ then K (rFF (cosU ⟨u1, u2⟩) (sinU ⟨u1, u2⟩)) [] else none
  | _, _ => none
def T_geoid_around : Nat → List AV → List Blk → (AV → List Blk → Ans) → Ans := upd T_geoid_whole 86 s_geoid_around
theorem g_geoid_around : GOK Tryz.prog GT gbT T_geoid_around XT := by
  refine GOK.upd g_geoid_whole (fun args w => Tryz.call86 args w) fun xs bs K r h => ?_
  unfold s_geoid_around at h
  split at h
  · simp only [cond_eq_ite] at h
    split at h
    · exact ⟨_, _, c_geoid_around _ _ ‹_›, h⟩
    · cases h
  · cases h
theorem w_geoid_At (g1 g2 s1 s2 t1 t2 : Int) (K : AV → List Blk → Ans) : evFn Tryz.prog GT EQT T_geoid_around XT noL 100 66 [.v (.agg [.int .i64 g1, .int .i64 g2]), .v (.agg [.int .i64 s1, .int .i64 s2]), .v (.agg [.int .i64 t1, .int .i64 t2])] [] (fun v M => K v (M.take ([] : List Blk).length)) = atGAns K ⟨g1, g2⟩ ⟨s1, s2⟩ ⟨t1, t2⟩ := by
  kernel_rfl
theorem c_geoid_At (g1 g2 s1 s2 t1 t2 : Int) : CallsA Tryz.prog GT gbT 66 [.v (.agg [.int .i64 g1, .int .i64 g2]), .v (.agg [.int .i64 s1, .int .i64 s2]), .v (.agg [.int .i64 t1, .int .i64 t2])] [] (rVecE (atV ⟨g1, g2⟩ ⟨s1, s2⟩ ⟨t1, t2⟩)) [] := by
  refine CallsA.ofOk fun hok => ?_
  have hw := w_geoid_At g1 g2 s1 s2 t1 t2 (fun v M => some (Res.fin v M))
  refine CallsA.ofEv (Γ := T_geoid_around) (X := XT) (Λ := noL) (EQ := EQT) (n := 100) g_geoid_around hEQT hmT (fun _ _ _ _ => noL_ok _) (hw.trans ?_)
  have h_g1 := inR_i64 (hok (.int .i64 g1) (by simp [datasL, datas]))
  have h_g2 := inR_i64 (hok (.int .i64 g2) (by simp [datasL, datas]))
  have h_s1 := inR_i64 (hok (.int .i64 s1) (by simp [datasL, datas]))
  have h_s2 := inR_i64 (hok (.int .i64 s2) (by simp [datasL, datas]))
  have h_t1 := inR_i64 (hok (.int .i64 t1) (by simp [datasL, datas]))
  have h_t2 := inR_i64 (hok (.int .i64 t2) (by simp [datasL, datas]))
  clear hok hw
  exact atGAns_ok (K := fun v M => some (Res.fin v M))
def s_geoid_At : List AV → List Blk → (AV → List Blk → Ans) → Ans := fun xs bs K => match xs, bs with
  | [.v (.agg [.int .i64 g1, .int .i64 g2]), .v (.agg [.int .i64 s1, .int .i64 s2]), .v (.agg [.int .i64 t1, .int .i64 t2])], [] => K (rVecE (atV ⟨g1, g2⟩ ⟨s1, s2⟩ ⟨t1, t2⟩)) []
  | _, _ => none
def T_geoid_At : Nat → List AV → List Blk → (AV → List Blk → Ans) → Ans := upd T_geoid_around 66 s_geoid_At
theorem g_geoid_At : GOK Tryz.prog GT gbT T_geoid_At XT := by
  refine GOK.upd g_geoid_around (fun args w => Tryz.call66 args w) fun xs bs K r h => ?_
  unfold s_geoid_At at h
  split at h
  · exact ⟨_, _, c_geoid_At _ _ _ _ _ _, h⟩
  · cases h
theorem w_Q3_Check (g1 g2 : Int) (K : AV → List Blk → Ans) : evFn Tryz.prog GT EQT T_geoid_At XT noL 60 39 [.v (.agg [.int .i64 g1, .int .i64 g2])] [] (fun v M => K v (M.take ([] : List Blk).length)) = K (rI (checkGRaw ⟨g1, g2⟩)) [] := by
  simp only [checkGRaw, pullK K]
  kernel_rfl
theorem c_Q3_Check (g1 g2 : Int) : CallsA Tryz.prog GT gbT 39 [.v (.agg [.int .i64 g1, .int .i64 g2])] [] (rI (checkG ⟨g1, g2⟩)) [] := by
  refine CallsA.ofOk fun hok => ?_
  have hw := w_Q3_Check g1 g2 (fun v M => some (Res.fin v M))
  refine CallsA.ofEv (Γ := T_geoid_At) (X := XT) (Λ := noL) (EQ := EQT) (n := 60) g_geoid_At hEQT hmT (fun _ _ _ _ => noL_ok _) (hw.trans ?_)
  have h_g1 := inR_i64 (hok (.int .i64 g1) (by simp [datasL, datas]))
  have h_g2 := inR_i64 (hok (.int .i64 g2) (by simp [datasL, datas]))
  clear hok hw
  refine congrArg (fun v => some (Res.fin v [])) ?_
  rw [checkGRaw_ok]
def s_Q3_Check : List AV → List Blk → (AV → List Blk → Ans) → Ans := fun xs bs K => match xs, bs with
  | [.v (.agg [.int .i64 g1, .int .i64 g2])], [] => K (rI (checkG ⟨g1, g2⟩)) []
  | _, _ => none
def T_Q3_Check : Nat → List AV → List Blk → (AV → List Blk → Ans) → Ans := upd T_geoid_At 39 s_Q3_Check
theorem g_Q3_Check : GOK Tryz.prog GT gbT T_Q3_Check XT := by
  refine GOK.upd g_geoid_At (fun args w => Tryz.call39 args w) fun xs bs K r h => ?_
  unfold s_Q3_Check at h
  split at h
  · exact ⟨_, _, c_Q3_Check _ _, h⟩
  · cases h
theorem w_Q3_Param (u1 u2 : Int) (K : AV → List Blk → Ans) : evFn Tryz.prog GT EQT T_Q3_Check XT noL 60 79 [.v (.agg [.int .i64 u1, .int .i64 u2])] [] (fun v M => K v (M.take ([] : List Blk).length)) = paramRef K ⟨u1, u2⟩ := by
  kernel_rfl
theorem c_Q3_Param (u1 u2 : Int) : CallsA Tryz.prog GT gbT 79 [.v (.agg [.int .i64 u1, .int .i64 u2])] [] (rB (paramB ⟨u1, u2⟩)) [] := by
  refine CallsA.ofOk fun hok => ?_
  have hw := w_Q3_Param u1 u2 (fun v M => some (Res.fin v M))
  refine CallsA.ofEv (Γ := T_Q3_Check) (X := XT) (Λ := noL) (EQ := EQT) (n := 60) g_Q3_Check hEQT hmT (fun _ _ _ _ => noL_ok _) (hw.trans ?_)
  have h_u1 := inR_i64 (hok (.int .i64 u1) (by simp [datasL, datas]))
  have h_u2 := inR_i64 (hok (.int .i64 u2) (by simp [datasL, datas]))
  clear hok hw
  exact paramRef_ok (K := fun v M => some (Res.fin v M))
def s_Q3_Param : List AV → List Blk → (AV → List Blk → Ans) → Ans := fun xs bs K => match xs, bs with
  | [.v (.agg [.int .i64 u1, .int .i64 u2])], [] => K (rB (paramB ⟨u1, u2⟩)) []
  | _, _ => none
def T_Q3_Param : Nat → List AV → List Blk → (AV → List Blk → Ans) → Ans := upd T_Q3_Check 79 s_Q3_Param
theorem g_Q3_Param : GOK Tryz.prog GT gbT T_Q3_Param XT := by
  refine GOK.upd g_Q3_Check (fun args w => Tryz.call79 args w) fun xs bs K r h => ?_
  unfold s_Q3_Param at h
  split at h
  · exact ⟨_, _, c_Q3_Param _ _, h⟩
  · cases h
theorem w_Q3_One (K : AV → List Blk → Ans) : evFn Tryz.prog GT EQT T_Q3_Param XT noL 60 81 [] [] (fun v M => K v (M.take ([] : List Blk).length)) = K (rFrac oneF) [] := by
  kernel_rfl
theorem c_Q3_One : CallsA Tryz.prog GT gbT 81 [] [] (rFrac oneF) [] := by
  refine CallsA.ofOk fun hok => ?_
  have hw := w_Q3_One (fun v M => some (Res.fin v M))
  refine CallsA.ofEv (Γ := T_Q3_Param) (X := XT) (Λ := noL) (EQ := EQT) (n := 60) g_Q3_Param hEQT hmT (fun _ _ _ _ => noL_ok _) (hw.trans ?_)
  rfl
def s_Q3_One : List AV → List Blk → (AV → List Blk → Ans) → Ans := fun xs bs K => match xs, bs with
  | [], [] => K (rFrac oneF) []
  | _, _ => none
def T_Q3_One : Nat → List AV → List Blk → (AV → List Blk → Ans) → Ans := upd T_Q3_Param 81 s_Q3_One
theorem g_Q3_One : GOK Tryz.prog GT gbT T_Q3_One XT := by
  refine GOK.upd g_Q3_Param (fun args w => Tryz.call81 args w) fun xs bs K r h => ?_
  unfold s_Q3_One at h
  split at h
  · exact ⟨_, _, c_Q3_One, h⟩
  · cases h
theorem w_Q3_Placed (s1 s2 t1 t2 : Int) (K : AV → List Blk → Ans) : evFn Tryz.prog GT EQT T_Q3_One XT noL 60 62 [.v (.agg [.int .i64 s1, .int .i64 s2]), .v (.agg [.int .i64 t1, .int .i64 t2])] [] (fun v M => K v (M.take ([] : List Blk).length)) = placedRef K ⟨s1, s2⟩ ⟨t1, t2⟩ := by
  kernel_rfl
theorem c_Q3_Placed (s1 s2 t1 t2 : Int) : CallsA Tryz.prog GT gbT 62 [.v (.agg [.int .i64 s1, .int .i64 s2]), .v (.agg [.int .i64 t1, .int .i64 t2])] [] (rB (placedB ⟨s1, s2⟩ ⟨t1, t2⟩)) [] := by
  refine CallsA.ofOk fun hok => ?_
  have hw := w_Q3_Placed s1 s2 t1 t2 (fun v M => some (Res.fin v M))
  refine CallsA.ofEv (Γ := T_Q3_One) (X := XT) (Λ := noL) (EQ := EQT) (n := 60) g_Q3_One hEQT hmT (fun _ _ _ _ => noL_ok _) (hw.trans ?_)
  have h_s1 := inR_i64 (hok (.int .i64 s1) (by simp [datasL, datas]))
  have h_s2 := inR_i64 (hok (.int .i64 s2) (by simp [datasL, datas]))
  have h_t1 := inR_i64 (hok (.int .i64 t1) (by simp [datasL, datas]))
  have h_t2 := inR_i64 (hok (.int .i64 t2) (by simp [datasL, datas]))
  clear hok hw
  exact placedRef_ok (K := fun v M => some (Res.fin v M))
def s_Q3_Placed : List AV → List Blk → (AV → List Blk → Ans) → Ans := fun xs bs K => match xs, bs with
  | [.v (.agg [.int .i64 s1, .int .i64 s2]), .v (.agg [.int .i64 t1, .int .i64 t2])], [] => K (rB (placedB ⟨s1, s2⟩ ⟨t1, t2⟩)) []
  | _, _ => none
def T_Q3_Placed : Nat → List AV → List Blk → (AV → List Blk → Ans) → Ans := upd T_Q3_One 62 s_Q3_Placed
theorem g_Q3_Placed : GOK Tryz.prog GT gbT T_Q3_Placed XT := by
  refine GOK.upd g_Q3_One (fun args w => Tryz.call62 args w) fun xs bs K r h => ?_
  unfold s_Q3_Placed at h
  split at h
  · exact ⟨_, _, c_Q3_Placed _ _ _ _, h⟩
  · cases h
theorem w_Q3_Place (g1 g2 s1 s2 t1 t2 : Int) (K : AV → List Blk → Ans) : evFn Tryz.prog GT EQT T_Q3_Placed XT noL 100 63 [.v (.agg [.int .i64 g1, .int .i64 g2]), .v (.agg [.int .i64 s1, .int .i64 s2]), .v (.agg [.int .i64 t1, .int .i64 t2])] [] (fun v M => K v (M.take ([] : List Blk).length)) = K (rVec (placeR ⟨g1, g2⟩ ⟨s1, s2⟩ ⟨t1, t2⟩)) [] := by
  kernel_rfl
theorem c_Q3_Place (g1 g2 s1 s2 t1 t2 : Int) : CallsA Tryz.prog GT gbT 63 [.v (.agg [.int .i64 g1, .int .i64 g2]), .v (.agg [.int .i64 s1, .int .i64 s2]), .v (.agg [.int .i64 t1, .int .i64 t2])] [] (rVec (placeR ⟨g1, g2⟩ ⟨s1, s2⟩ ⟨t1, t2⟩)) [] := by
  refine CallsA.ofOk fun hok => ?_
  have hw := w_Q3_Place g1 g2 s1 s2 t1 t2 (fun v M => some (Res.fin v M))
  refine CallsA.ofEv (Γ := T_Q3_Placed) (X := XT) (Λ := noL) (EQ := EQT) (n := 100) g_Q3_Placed hEQT hmT (fun _ _ _ _ => noL_ok _) (hw.trans ?_)
  rfl
def s_Q3_Place : List AV → List Blk → (AV → List Blk → Ans) → Ans := fun xs bs K => match xs, bs with
  | [.v (.agg [.int .i64 g1, .int .i64 g2]), .v (.agg [.int .i64 s1, .int .i64 s2]), .v (.agg [.int .i64 t1, .int .i64 t2])], [] => K (rVec (placeR ⟨g1, g2⟩ ⟨s1, s2⟩ ⟨t1, t2⟩)) []
  | _, _ => none
def T_Q3_Place : Nat → List AV → List Blk → (AV → List Blk → Ans) → Ans := upd T_Q3_Placed 63 s_Q3_Place
theorem g_Q3_Place : GOK Tryz.prog GT gbT T_Q3_Place XT := by
  refine GOK.upd g_Q3_Placed (fun args w => Tryz.call63 args w) fun xs bs K r h => ?_
  unfold s_Q3_Place at h
  split at h
  · exact ⟨_, _, c_Q3_Place _ _ _ _ _ _, h⟩
  · cases h
end Go.Ev

namespace Go.Ev
open Go Go.Proofs
structure R_Q4_Great_0 where
  k : Nat
  p3 : Int
def run_Q4_Great_0 (p2 : Bool) (m0 : List Site) : Nat → Int → R_Q4_Great_0
  | 0, p3 => ⟨2, p3⟩
  | n + 1, p3 => bif decide (p3 < (m0.length : Int)) then (bif (decide ((0 : Int) ≤ p3) && decide (p3 < (m0.length : Int))) then (bif decide ((100 : Int) < (((m0.getD p3.toNat (ET.z .site)).name).size : Int)) then ⟨0, p3⟩ else run_Q4_Great_0 p2 m0 n (w64 (p3 + (1 : Int)))) else ⟨2, p3⟩) else ⟨1, p3⟩
def lp_Q4_Great_0 (p2 : Bool) (m0 : List Site) (p3 : Int) : R_Q4_Great_0 := run_Q4_Great_0 p2 m0 (2000 + (m0.length)) p3
abbrev H_Q4_Great_0 (p2 : Bool) (_m0 : List Site) (p3 : Int) : TS := headT [0, 2, 3] 20 [.v (.c (.aslice 0 none)), .v (.c (.d (.bool p2))), .v (.c (.d (.int .i64 p3)))]
theorem b_Q4_Great_0 (p2 : Bool) (m0 : List Site) (p3 : Int) : evCode Tryz.prog GT EQT T_Q3_Place XT noL 80 (loopB Tryz.prog 24 0) (H_Q4_Great_0 p2 m0 p3) [.arr none .site m0] 1 (normK 1 [0, 2, 3]) =
    bif decide (p3 < (m0.length : Int)) then (bif (decide ((0 : Int) ≤ p3) && decide (p3 < (m0.length : Int))) then (bif decide ((100 : Int) < (((m0.getD p3.toNat (ET.z .site)).name).size : Int)) then some (.st .ret (headT [0, 2, 3] 20 [.v (.c (.aslice 0 none)), .v (.c (.d (.bool true))), .v (.c (.d (.int .i64 p3)))]) [.arr none .site m0] 1) else some (.st .normal (headT [0, 2, 3] 20 [.v (.c (.aslice 0 none)), .v (.c (.d (.bool p2))), .v (.c (.d (.int .i64 (w64 (p3 + (1 : Int))))))]) [.arr none .site m0] 1)) else none) else some (.st (.exit 0) (headT [0, 2, 3] 20 [.v (.c (.aslice 0 none)), .v (.c (.d (.bool p2))), .v (.c (.d (.int .i64 p3)))]) [.arr none .site m0] 1) := by
  kernel_rfl
def o_Q4_Great_0 (p2 : Bool) (m0 : List Site) (r : R_Q4_Great_0) : LT := .br (Nat.beq r.k 0) (.st .ret (headT [0, 2, 3] 20 [.v (.c (.aslice 0 none)), .v (.c (.d (.bool true))), .v (.c (.d (.int .i64 r.p3)))]) [.arr none .site m0] 1) (.br (Nat.beq r.k 1) (.st (.exit 0) (headT [0, 2, 3] 20 [.v (.c (.aslice 0 none)), .v (.c (.d (.bool p2))), .v (.c (.d (.int .i64 r.p3)))]) [.arr none .site m0] 1) (.no))
theorem r_Q4_Great_0 (p2 : Bool) (m0 : List Site) : ∀ (n : Nat) (p3 : Int) (x : Ex) (T' : TS) (M' : List Blk) (N' : Nat), LReach (o_Q4_Great_0 p2 m0 (run_Q4_Great_0 p2 m0 n p3)) x T' M' N' → x ≠ .normal ∧ ∃ j, RoundsN Tryz.prog GT gbT 1 (loopB Tryz.prog 24 0) j (H_Q4_Great_0 p2 m0 p3) [.arr none .site m0] 1 x T' M' N' := by
  have hL : LOKn Tryz.prog GT gbT 1 noL (loopsIn (loopB Tryz.prog 24 0)) := fun _ _ _ _ _ _ _ _ _ h => h.elim
  intro n
  induction n with
  | zero =>
    intro p3 x T' M' N' hr
    exact False.elim (redF (redF hr))
  | succ n ih =>
    intro p3 x T' M' N'
    rw [run_Q4_Great_0]
    exact viaE (b_Q4_Great_0 p2 m0 p3) (condG (o := o_Q4_Great_0 p2 m0) (condG (o := o_Q4_Great_0 p2 m0) (condG (o := o_Q4_Great_0 p2 m0) (fun he hr => stopN g_Q3_Place hEQT hmT hL he (by simp) (redT hr)) (fun he hr => goN g_Q3_Place hEQT hmT hL he (ih (w64 (p3 + (1 : Int))) x T' M' N' hr))) (fun _ hr => False.elim (redF (redF hr)))) (fun he hr => stopN g_Q3_Place hEQT hmT hL he (by simp) (redT (redF hr))))
def f_Q4_Great_0 : List AV → List Blk → LT := fun vs Ms => match vs, Ms with
  | [.v (.c (.aslice 0 none)), .v (.c (.d (.bool p2))), .v (.c (.d (.int .i64 p3)))], [.arr none .site m0] => o_Q4_Great_0 p2 m0 (lp_Q4_Great_0 p2 m0 p3)
  | _, _ => .no
def L_Q4_Great_0 := LamN 2 20 1 [0, 2, 3] f_Q4_Great_0
theorem k_Q4_Great_0 : LOKbn Tryz.prog GT gbT 1 L_Q4_Great_0 (loopB Tryz.prog 24 0) := by
  refine LOKbn.lamN (by kernel_rfl) fun vs Ms x T' M' N' hr => ?_
  unfold f_Q4_Great_0 at hr
  split at hr
  · obtain ⟨q1, j, q2⟩ := r_Q4_Great_0 _ _ _ _ x T' M' N' hr
    exact ⟨q1, j, q2⟩
  · exact hr.elim
structure O_Q4_Great where
  ok : Bool
  r0 : Bool
def m_Q4_Great (a0 : List Site) : O_Q4_Great := bif Nat.beq (lp_Q4_Great_0 false a0 (0 : Int)).k 0 then ⟨true, true⟩ else (bif Nat.beq (lp_Q4_Great_0 false a0 (0 : Int)).k 1 then ⟨true, decide ((20 : Int) < (a0.length : Int))⟩ else ⟨false, false⟩)
def F_Q4_Great (a0 : List Site) (K : AV → List Blk → Ans) (r : O_Q4_Great) : Ans := bif r.ok then K (.v (.c (.d (.bool r.r0)))) [.arr none .site a0] else none
theorem e_Q4_Great (a0 : List Site) (K : AV → List Blk → Ans) : evFn Tryz.prog GT EQT T_Q3_Place XT (orL L_Q4_Great_0 noL) 80 24 [.v (.c (.aslice 0 none))] [.arr none .site a0] (fun v M => K (finR 1 v M).1 (finR 1 v M).2) = F_Q4_Great a0 K (m_Q4_Great a0) := by
  unfold m_Q4_Great
  refine Eq.trans ?_ (Eq.symm (pushT rfl (pushT rfl rfl)))
  kernel_rfl
theorem lok_Q4_Great : ∀ fn c, Tryz.prog.funcs[24]? = some fn → fn.body = some c → LOKn Tryz.prog GT gbT 1 (orL L_Q4_Great_0 noL) (loopsIn c) := by
  refine LOKn.ofF fun b hb => ?_
  have e : loopsF Tryz.prog 24 = [loopB Tryz.prog 24 0] := by kernel_rfl
  rw [e] at hb
  simp only [List.mem_cons, List.not_mem_nil, or_false] at hb
  subst hb
  exact (LOKbn.or k_Q4_Great_0 (fun _ _ _ _ _ _ _ h => h.elim))
theorem c_Q4_Great (a0 : List Site) (hd : (m_Q4_Great a0).ok = true) : CallsA Tryz.prog GT gbT 24 [.v (.c (.aslice 0 none))] [.arr none .site a0] (.v (.c (.d (.bool ((m_Q4_Great a0).r0))))) [.arr none .site a0] := by
  refine CallsA.ofEvR g_Q3_Place hEQT hmT (n0 := 1) rfl lok_Q4_Great ((e_Q4_Great a0 (fun v M => some (Res.fin v M))).trans ?_)
  unfold F_Q4_Great
  rw [hd]
  rfl
def s_Q4_Great : List AV → List Blk → (AV → List Blk → Ans) → Ans := fun xs bs K => match xs, bs with
  | [.v (.c (.aslice 0 none))], [.arr none .site a0] => F_Q4_Great a0 K (m_Q4_Great a0)
  | _, _ => none
def T_Q4_Great : Nat → List AV → List Blk → (AV → List Blk → Ans) → Ans := upd T_Q3_Place 24 s_Q4_Great
theorem g_Q4_Great : GOK Tryz.prog GT gbT T_Q4_Great XT := by
  refine GOK.upd g_Q3_Place (fun args w => Tryz.call24 args w) fun xs bs K r h => ?_
  unfold s_Q4_Great at h
  split at h
  · unfold F_Q4_Great at h
    simp only [cond_eq_ite] at h
    split at h
    · rename_i hd
      exact ⟨_, _, c_Q4_Great _ hd, h⟩
    · cases h
  · cases h
structure O_W7_long where
  ok : Bool
  r0 : Bool
def m_W7_long (a0 : List Site) (a1 : Source) : O_W7_long := bif (m_Q4_Great a0).ok then (bif (m_Q4_Great a0).r0 then ⟨true, true⟩ else ⟨true, decide ((200 : Int) < (a1.name.size : Int))⟩) else ⟨false, false⟩
def F_W7_long (a0 : List Site) (_a1 : Source) (K : AV → List Blk → Ans) (r : O_W7_long) : Ans := bif r.ok then K (.v (.c (.d (.bool r.r0)))) [.arr none .site a0] else none
theorem e_W7_long (a0 : List Site) (a1 : Source) (K : AV → List Blk → Ans) : evFn Tryz.prog GT EQT T_Q4_Great XT noL 80 13 [.v (.c (.aslice 0 none)), .v (.agg [.str a1.name, .int .i64 a1.ra, .int .i64 a1.dec])] [.arr none .site a0] (fun v M => K (finR 1 v M).1 (finR 1 v M).2) = F_W7_long a0 a1 K (m_W7_long a0 a1) := by
  unfold m_W7_long
  refine Eq.trans ?_ (Eq.symm (pushT (pushT rfl rfl) rfl))
  kernel_rfl
theorem c_W7_long (a0 : List Site) (a1 : Source) (hd : (m_W7_long a0 a1).ok = true) : CallsA Tryz.prog GT gbT 13 [.v (.c (.aslice 0 none)), .v (.agg [.str a1.name, .int .i64 a1.ra, .int .i64 a1.dec])] [.arr none .site a0] (.v (.c (.d (.bool ((m_W7_long a0 a1).r0))))) [.arr none .site a0] := by
  refine CallsA.ofEvR g_Q4_Great hEQT hmT (n0 := 1) rfl (fun _ _ _ _ => LOKn.nil) ((e_W7_long a0 a1 (fun v M => some (Res.fin v M))).trans ?_)
  unfold F_W7_long
  rw [hd]
  rfl
def s_W7_long : List AV → List Blk → (AV → List Blk → Ans) → Ans := fun xs bs K => match xs, bs with
  | [.v (.c (.aslice 0 none)), .v (.agg [.str a1_0, .int .i64 a1_1, .int .i64 a1_2])], [.arr none .site a0] => F_W7_long a0 (⟨a1_0, a1_1, a1_2⟩ : Source) K (m_W7_long a0 (⟨a1_0, a1_1, a1_2⟩ : Source))
  | _, _ => none
def T_W7_long : Nat → List AV → List Blk → (AV → List Blk → Ans) → Ans := upd T_Q4_Great 13 s_W7_long
theorem g_W7_long : GOK Tryz.prog GT gbT T_W7_long XT := by
  refine GOK.upd g_Q4_Great (fun args w => Tryz.call13 args w) fun xs bs K r h => ?_
  unfold s_W7_long at h
  split at h
  · unfold F_W7_long at h
    simp only [cond_eq_ite] at h
    split at h
    · rename_i hd
      exact ⟨_, _, c_W7_long _ _ hd, h⟩
    · cases h
  · cases h
structure R_array_valid_0 where
  k : Nat
  p32 : Int
def run_array_valid_0 (p2 : Bool) (p31 : Int) (q0 : Site) : Nat → Int → R_array_valid_0
  | 0, p32 => ⟨2, p32⟩
  | n + 1, p32 => bif decide (p32 < p31) then (bif (decide (0 ≤ p32) && decide (p32 < (q0.name.size : Int))) then (bif decide ((byteAt q0.name p32) < (97 : Int)) then (bif decide ((byteAt q0.name p32) < (48 : Int)) then (bif ((byteAt q0.name p32) != (45 : Int)) then ⟨0, p32⟩ else run_array_valid_0 p2 p31 q0 n (w64 (p32 + (1 : Int)))) else (bif decide ((57 : Int) < (byteAt q0.name p32)) then (bif ((byteAt q0.name p32) != (45 : Int)) then ⟨0, p32⟩ else run_array_valid_0 p2 p31 q0 n (w64 (p32 + (1 : Int)))) else run_array_valid_0 p2 p31 q0 n (w64 (p32 + (1 : Int))))) else (bif decide ((122 : Int) < (byteAt q0.name p32)) then (bif decide ((byteAt q0.name p32) < (48 : Int)) then (bif ((byteAt q0.name p32) != (45 : Int)) then ⟨0, p32⟩ else run_array_valid_0 p2 p31 q0 n (w64 (p32 + (1 : Int)))) else (bif decide ((57 : Int) < (byteAt q0.name p32)) then (bif ((byteAt q0.name p32) != (45 : Int)) then ⟨0, p32⟩ else run_array_valid_0 p2 p31 q0 n (w64 (p32 + (1 : Int)))) else run_array_valid_0 p2 p31 q0 n (w64 (p32 + (1 : Int))))) else run_array_valid_0 p2 p31 q0 n (w64 (p32 + (1 : Int))))) else ⟨2, p32⟩) else ⟨1, p32⟩
def lp_array_valid_0 (p2 : Bool) (p31 : Int) (q0 : Site) (p32 : Int) : R_array_valid_0 := run_array_valid_0 p2 p31 q0 (2000 + (stuckI p31)) p32
abbrev H_array_valid_0 (p2 : Bool) (p31 : Int) (_q0 : Site) (p32 : Int) : TS := headT [1, 2, 31, 32] 69 [.v (.c (.ptr 0 0)), .v (.c (.d (.bool p2))), .v (.c (.d (.int .i64 p31))), .v (.c (.d (.int .i64 p32)))]
theorem b_array_valid_0 (p2 : Bool) (p31 : Int) (q0 : Site) (p32 : Int) : evCode Tryz.prog GT EQT T_W7_long XT noL 120 (loopB Tryz.prog 84 0) (H_array_valid_0 p2 p31 q0 p32) [.rw 36 [.str q0.name, .int .i64 q0.s.num, .int .i64 q0.s.den, .int .i64 q0.t.num, .int .i64 q0.t.den]] 1 (normK 0 [1, 2, 31, 32]) =
    bif decide (p32 < p31) then (bif (decide (0 ≤ p32) && decide (p32 < (q0.name.size : Int))) then (bif decide ((byteAt q0.name p32) < (97 : Int)) then (bif decide ((byteAt q0.name p32) < (48 : Int)) then (bif ((byteAt q0.name p32) != (45 : Int)) then some (.st .ret (headT [1, 2, 31, 32] 69 [.v (.c (.ptr 0 0)), .v (.c (.d (.bool false))), .v (.c (.d (.int .i64 p31))), .v (.c (.d (.int .i64 p32)))]) [.rw 36 [.str q0.name, .int .i64 q0.s.num, .int .i64 q0.s.den, .int .i64 q0.t.num, .int .i64 q0.t.den]] 1) else some (.st .normal (headT [1, 2, 31, 32] 69 [.v (.c (.ptr 0 0)), .v (.c (.d (.bool p2))), .v (.c (.d (.int .i64 p31))), .v (.c (.d (.int .i64 (w64 (p32 + (1 : Int))))))]) [.rw 36 [.str q0.name, .int .i64 q0.s.num, .int .i64 q0.s.den, .int .i64 q0.t.num, .int .i64 q0.t.den]] 1)) else (bif decide ((57 : Int) < (byteAt q0.name p32)) then (bif ((byteAt q0.name p32) != (45 : Int)) then some (.st .ret (headT [1, 2, 31, 32] 69 [.v (.c (.ptr 0 0)), .v (.c (.d (.bool false))), .v (.c (.d (.int .i64 p31))), .v (.c (.d (.int .i64 p32)))]) [.rw 36 [.str q0.name, .int .i64 q0.s.num, .int .i64 q0.s.den, .int .i64 q0.t.num, .int .i64 q0.t.den]] 1) else some (.st .normal (headT [1, 2, 31, 32] 69 [.v (.c (.ptr 0 0)), .v (.c (.d (.bool p2))), .v (.c (.d (.int .i64 p31))), .v (.c (.d (.int .i64 (w64 (p32 + (1 : Int))))))]) [.rw 36 [.str q0.name, .int .i64 q0.s.num, .int .i64 q0.s.den, .int .i64 q0.t.num, .int .i64 q0.t.den]] 1)) else some (.st .normal (headT [1, 2, 31, 32] 69 [.v (.c (.ptr 0 0)), .v (.c (.d (.bool p2))), .v (.c (.d (.int .i64 p31))), .v (.c (.d (.int .i64 (w64 (p32 + (1 : Int))))))]) [.rw 36 [.str q0.name, .int .i64 q0.s.num, .int .i64 q0.s.den, .int .i64 q0.t.num, .int .i64 q0.t.den]] 1))) else (bif decide ((122 : Int) < (byteAt q0.name p32)) then (bif decide ((byteAt q0.name p32) < (48 : Int)) then (bif ((byteAt q0.name p32) != (45 : Int)) then some (.st .ret (headT [1, 2, 31, 32] 69 [.v (.c (.ptr 0 0)), .v (.c (.d (.bool false))), .v (.c (.d (.int .i64 p31))), .v (.c (.d (.int .i64 p32)))]) [.rw 36 [.str q0.name, .int .i64 q0.s.num, .int .i64 q0.s.den, .int .i64 q0.t.num, .int .i64 q0.t.den]] 1) else some (.st .normal (headT [1, 2, 31, 32] 69 [.v (.c (.ptr 0 0)), .v (.c (.d (.bool p2))), .v (.c (.d (.int .i64 p31))), .v (.c (.d (.int .i64 (w64 (p32 + (1 : Int))))))]) [.rw 36 [.str q0.name, .int .i64 q0.s.num, .int .i64 q0.s.den, .int .i64 q0.t.num, .int .i64 q0.t.den]] 1)) else (bif decide ((57 : Int) < (byteAt q0.name p32)) then (bif ((byteAt q0.name p32) != (45 : Int)) then some (.st .ret (headT [1, 2, 31, 32] 69 [.v (.c (.ptr 0 0)), .v (.c (.d (.bool false))), .v (.c (.d (.int .i64 p31))), .v (.c (.d (.int .i64 p32)))]) [.rw 36 [.str q0.name, .int .i64 q0.s.num, .int .i64 q0.s.den, .int .i64 q0.t.num, .int .i64 q0.t.den]] 1) else some (.st .normal (headT [1, 2, 31, 32] 69 [.v (.c (.ptr 0 0)), .v (.c (.d (.bool p2))), .v (.c (.d (.int .i64 p31))), .v (.c (.d (.int .i64 (w64 (p32 + (1 : Int))))))]) [.rw 36 [.str q0.name, .int .i64 q0.s.num, .int .i64 q0.s.den, .int .i64 q0.t.num, .int .i64 q0.t.den]] 1)) else some (.st .normal (headT [1, 2, 31, 32] 69 [.v (.c (.ptr 0 0)), .v (.c (.d (.bool p2))), .v (.c (.d (.int .i64 p31))), .v (.c (.d (.int .i64 (w64 (p32 + (1 : Int))))))]) [.rw 36 [.str q0.name, .int .i64 q0.s.num, .int .i64 q0.s.den, .int .i64 q0.t.num, .int .i64 q0.t.den]] 1))) else some (.st .normal (headT [1, 2, 31, 32] 69 [.v (.c (.ptr 0 0)), .v (.c (.d (.bool p2))), .v (.c (.d (.int .i64 p31))), .v (.c (.d (.int .i64 (w64 (p32 + (1 : Int))))))]) [.rw 36 [.str q0.name, .int .i64 q0.s.num, .int .i64 q0.s.den, .int .i64 q0.t.num, .int .i64 q0.t.den]] 1))) else none) else some (.st (.exit 0) (headT [1, 2, 31, 32] 69 [.v (.c (.ptr 0 0)), .v (.c (.d (.bool p2))), .v (.c (.d (.int .i64 p31))), .v (.c (.d (.int .i64 p32)))]) [.rw 36 [.str q0.name, .int .i64 q0.s.num, .int .i64 q0.s.den, .int .i64 q0.t.num, .int .i64 q0.t.den]] 1) := by
  kernel_rfl
def o_array_valid_0 (p2 : Bool) (p31 : Int) (q0 : Site) (r : R_array_valid_0) : LT := .br (Nat.beq r.k 0) (.st .ret (headT [1, 2, 31, 32] 69 [.v (.c (.ptr 0 0)), .v (.c (.d (.bool false))), .v (.c (.d (.int .i64 p31))), .v (.c (.d (.int .i64 r.p32)))]) [.rw 36 [.str q0.name, .int .i64 q0.s.num, .int .i64 q0.s.den, .int .i64 q0.t.num, .int .i64 q0.t.den]] 1) (.br (Nat.beq r.k 1) (.st (.exit 0) (headT [1, 2, 31, 32] 69 [.v (.c (.ptr 0 0)), .v (.c (.d (.bool p2))), .v (.c (.d (.int .i64 p31))), .v (.c (.d (.int .i64 r.p32)))]) [.rw 36 [.str q0.name, .int .i64 q0.s.num, .int .i64 q0.s.den, .int .i64 q0.t.num, .int .i64 q0.t.den]] 1) (.no))
theorem r_array_valid_0 (p2 : Bool) (p31 : Int) (q0 : Site) : ∀ (n : Nat) (p32 : Int) (x : Ex) (T' : TS) (M' : List Blk) (N' : Nat), LReach (o_array_valid_0 p2 p31 q0 (run_array_valid_0 p2 p31 q0 n p32)) x T' M' N' → x ≠ .normal ∧ ∃ j, RoundsN Tryz.prog GT gbT 0 (loopB Tryz.prog 84 0) j (H_array_valid_0 p2 p31 q0 p32) [.rw 36 [.str q0.name, .int .i64 q0.s.num, .int .i64 q0.s.den, .int .i64 q0.t.num, .int .i64 q0.t.den]] 1 x T' M' N' := by
  have hL : LOKn Tryz.prog GT gbT 0 noL (loopsIn (loopB Tryz.prog 84 0)) := fun _ _ _ _ _ _ _ _ _ h => h.elim
  intro n
  induction n with
  | zero =>
    intro p32 x T' M' N' hr
    exact False.elim (redF (redF hr))
  | succ n ih =>
    intro p32 x T' M' N'
    rw [run_array_valid_0]
    exact viaE (b_array_valid_0 p2 p31 q0 p32) (condG (o := o_array_valid_0 p2 p31 q0) (condG (o := o_array_valid_0 p2 p31 q0) (condG (o := o_array_valid_0 p2 p31 q0) (condG (o := o_array_valid_0 p2 p31 q0) (condG (o := o_array_valid_0 p2 p31 q0) (fun he hr => stopN g_W7_long hEQT hmT hL he (by simp) (redT hr)) (fun he hr => goN g_W7_long hEQT hmT hL he (ih (w64 (p32 + (1 : Int))) x T' M' N' hr))) (condG (o := o_array_valid_0 p2 p31 q0) (condG (o := o_array_valid_0 p2 p31 q0) (fun he hr => stopN g_W7_long hEQT hmT hL he (by simp) (redT hr)) (fun he hr => goN g_W7_long hEQT hmT hL he (ih (w64 (p32 + (1 : Int))) x T' M' N' hr))) (fun he hr => goN g_W7_long hEQT hmT hL he (ih (w64 (p32 + (1 : Int))) x T' M' N' hr)))) (condG (o := o_array_valid_0 p2 p31 q0) (condG (o := o_array_valid_0 p2 p31 q0) (condG (o := o_array_valid_0 p2 p31 q0) (fun he hr => stopN g_W7_long hEQT hmT hL he (by simp) (redT hr)) (fun he hr => goN g_W7_long hEQT hmT hL he (ih (w64 (p32 + (1 : Int))) x T' M' N' hr))) (condG (o := o_array_valid_0 p2 p31 q0) (condG (o := o_array_valid_0 p2 p31 q0) (fun he hr => stopN g_W7_long hEQT hmT hL he (by simp) (redT hr)) (fun he hr => goN g_W7_long hEQT hmT hL he (ih (w64 (p32 + (1 : Int))) x T' M' N' hr))) (fun he hr => goN g_W7_long hEQT hmT hL he (ih (w64 (p32 + (1 : Int))) x T' M' N' hr)))) (fun he hr => goN g_W7_long hEQT hmT hL he (ih (w64 (p32 + (1 : Int))) x T' M' N' hr)))) (fun _ hr => False.elim (redF (redF hr)))) (fun he hr => stopN g_W7_long hEQT hmT hL he (by simp) (redT (redF hr))))
def f_array_valid_0 : List AV → List Blk → LT := fun vs Ms => match vs, Ms with
  | [.v (.c (.ptr 0 0)), .v (.c (.d (.bool p2))), .v (.c (.d (.int .i64 p31))), .v (.c (.d (.int .i64 p32)))], [.rw 36 [.str q0_0, .int .i64 q0_1, .int .i64 q0_2, .int .i64 q0_3, .int .i64 q0_4]] => o_array_valid_0 p2 p31 (⟨q0_0, ⟨q0_1, q0_2⟩, ⟨q0_3, q0_4⟩⟩ : Site) (lp_array_valid_0 p2 p31 (⟨q0_0, ⟨q0_1, q0_2⟩, ⟨q0_3, q0_4⟩⟩ : Site) p32)
  | _, _ => .no
def L_array_valid_0 := LamN 4 69 0 [1, 2, 31, 32] f_array_valid_0
theorem k_array_valid_0 : LOKbn Tryz.prog GT gbT 0 L_array_valid_0 (loopB Tryz.prog 84 0) := by
  refine LOKbn.lamN (by kernel_rfl) fun vs Ms x T' M' N' hr => ?_
  unfold f_array_valid_0 at hr
  split at hr
  · obtain ⟨q1, j, q2⟩ := r_array_valid_0 _ _ _ _ _ x T' M' N' hr
    exact ⟨q1, j, q2⟩
  · exact hr.elim
structure O_array_valid where
  ok : Bool
  r0 : Bool
def m_array_valid (a0 : Site) : O_array_valid := bif decide ((a0.name.size : Int) < (1 : Int)) then ⟨true, false⟩ else (bif decide ((40 : Int) < (a0.name.size : Int)) then ⟨true, false⟩ else (bif (decide (0 ≤ (0 : Int)) && decide ((0 : Int) < (a0.name.size : Int))) then (bif decide ((byteAt a0.name (0 : Int)) < (97 : Int)) then ⟨true, false⟩ else (bif (decide (0 ≤ (0 : Int)) && decide ((0 : Int) < (a0.name.size : Int))) then (bif decide ((122 : Int) < (byteAt a0.name (0 : Int))) then ⟨true, false⟩ else (bif Nat.beq (lp_array_valid_0 false (a0.name.size : Int) a0 (0 : Int)).k 0 then ⟨true, false⟩ else (bif Nat.beq (lp_array_valid_0 false (a0.name.size : Int) a0 (0 : Int)).k 1 then ⟨true, ((atV ⟨(1 : Int), (1 : Int)⟩ a0.s a0.t).2 == (0 : Int))⟩ else ⟨false, false⟩))) else ⟨false, false⟩)) else ⟨false, false⟩))
def F_array_valid (_a0 : Site) (K : AV → List Blk → Ans) (r : O_array_valid) : Ans := bif r.ok then K (.v (.c (.d (.bool r.r0)))) [] else none
theorem e_array_valid (a0 : Site) (K : AV → List Blk → Ans) : evFn Tryz.prog GT EQT T_W7_long XT (orL L_array_valid_0 noL) 120 84 [.v (.agg [.str a0.name, .int .i64 a0.s.num, .int .i64 a0.s.den, .int .i64 a0.t.num, .int .i64 a0.t.den])] [] (fun v M => K (finR 0 v M).1 (finR 0 v M).2) = F_array_valid a0 K (m_array_valid a0) := by
  unfold m_array_valid
  refine Eq.trans ?_ (Eq.symm (pushT rfl (pushT rfl (pushT (pushT rfl (pushT (pushT rfl (pushT rfl (pushT rfl rfl))) rfl)) rfl))))
  kernel_rfl
theorem lok_array_valid : ∀ fn c, Tryz.prog.funcs[84]? = some fn → fn.body = some c → LOKn Tryz.prog GT gbT 0 (orL L_array_valid_0 noL) (loopsIn c) := by
  refine LOKn.ofF fun b hb => ?_
  have e : loopsF Tryz.prog 84 = [loopB Tryz.prog 84 0] := by kernel_rfl
  rw [e] at hb
  simp only [List.mem_cons, List.not_mem_nil, or_false] at hb
  subst hb
  exact (LOKbn.or k_array_valid_0 (fun _ _ _ _ _ _ _ h => h.elim))
theorem c_array_valid (a0 : Site) (hd : (m_array_valid a0).ok = true) : CallsA Tryz.prog GT gbT 84 [.v (.agg [.str a0.name, .int .i64 a0.s.num, .int .i64 a0.s.den, .int .i64 a0.t.num, .int .i64 a0.t.den])] [] (.v (.c (.d (.bool ((m_array_valid a0).r0))))) [] := by
  refine CallsA.ofEvR g_W7_long hEQT hmT (n0 := 0) rfl lok_array_valid ((e_array_valid a0 (fun v M => some (Res.fin v M))).trans ?_)
  unfold F_array_valid
  rw [hd]
  rfl
def s_array_valid : List AV → List Blk → (AV → List Blk → Ans) → Ans := fun xs bs K => match xs, bs with
  | [.v (.agg [.str a0_0, .int .i64 a0_1, .int .i64 a0_2, .int .i64 a0_3, .int .i64 a0_4])], [] => F_array_valid (⟨a0_0, ⟨a0_1, a0_2⟩, ⟨a0_3, a0_4⟩⟩ : Site) K (m_array_valid (⟨a0_0, ⟨a0_1, a0_2⟩, ⟨a0_3, a0_4⟩⟩ : Site))
  | _, _ => none
def T_array_valid : Nat → List AV → List Blk → (AV → List Blk → Ans) → Ans := upd T_W7_long 84 s_array_valid
theorem g_array_valid : GOK Tryz.prog GT gbT T_array_valid XT := by
  refine GOK.upd g_W7_long (fun args w => Tryz.call84 args w) fun xs bs K r h => ?_
  unfold s_array_valid at h
  split at h
  · unfold F_array_valid at h
    simp only [cond_eq_ite] at h
    split at h
    · rename_i hd
      exact ⟨_, _, c_array_valid _ hd, h⟩
    · cases h
  · cases h
structure R_array_stations_0 where
  k : Nat
  p10 : Int
def run_array_stations_0 (p2 : Int) (p9 : Int) (m0 : List Site) : Nat → Int → R_array_stations_0
  | 0, p10 => ⟨2, p10⟩
  | n + 1, p10 => bif decide (p10 < p9) then (bif (decide ((0 : Int) ≤ p10) && decide (p10 < (m0.length : Int))) then (bif (m_array_valid (m0.getD p10.toNat (ET.z .site))).ok then (bif (!(m_array_valid (m0.getD p10.toNat (ET.z .site))).r0) then ⟨0, p10⟩ else run_array_stations_0 p2 p9 m0 n (w64 (p10 + (1 : Int)))) else ⟨2, p10⟩) else ⟨2, p10⟩) else ⟨1, p10⟩
def lp_array_stations_0 (p2 : Int) (p9 : Int) (m0 : List Site) (p10 : Int) : R_array_stations_0 := run_array_stations_0 p2 p9 m0 (2000 + (m0.length)) p10
abbrev H_array_stations_0 (p2 : Int) (p9 : Int) (_m0 : List Site) (p10 : Int) : TS := headT [2, 8, 9, 10] 18 [.v (.c (.d (.int .i64 p2))), .v (.c (.aslice 0 none)), .v (.c (.d (.int .i64 p9))), .v (.c (.d (.int .i64 p10)))]
theorem b_array_stations_0 (p2 : Int) (p9 : Int) (m0 : List Site) (p10 : Int) : evCode Tryz.prog GT EQT T_array_valid XT noL 80 (loopB Tryz.prog 65 0) (H_array_stations_0 p2 p9 m0 p10) [.arr none .site m0] 1 (normK 1 [2, 8, 9, 10]) =
    bif decide (p10 < p9) then (bif (decide ((0 : Int) ≤ p10) && decide (p10 < (m0.length : Int))) then (bif (m_array_valid (m0.getD p10.toNat (ET.z .site))).ok then (bif (!(m_array_valid (m0.getD p10.toNat (ET.z .site))).r0) then some (.st .ret (headT [2, 8, 9, 10] 18 [.v (.c (.d (.int .i64 (8 : Int)))), .v (.c (.aslice 0 none)), .v (.c (.d (.int .i64 p9))), .v (.c (.d (.int .i64 p10)))]) [.arr none .site m0] 1) else some (.st .normal (headT [2, 8, 9, 10] 18 [.v (.c (.d (.int .i64 p2))), .v (.c (.aslice 0 none)), .v (.c (.d (.int .i64 p9))), .v (.c (.d (.int .i64 (w64 (p10 + (1 : Int))))))]) [.arr none .site m0] 1)) else none) else none) else some (.st (.exit 0) (headT [2, 8, 9, 10] 18 [.v (.c (.d (.int .i64 p2))), .v (.c (.aslice 0 none)), .v (.c (.d (.int .i64 p9))), .v (.c (.d (.int .i64 p10)))]) [.arr none .site m0] 1) := by
  kernel_rfl
def o_array_stations_0 (p2 : Int) (p9 : Int) (m0 : List Site) (r : R_array_stations_0) : LT := .br (Nat.beq r.k 0) (.st .ret (headT [2, 8, 9, 10] 18 [.v (.c (.d (.int .i64 (8 : Int)))), .v (.c (.aslice 0 none)), .v (.c (.d (.int .i64 p9))), .v (.c (.d (.int .i64 r.p10)))]) [.arr none .site m0] 1) (.br (Nat.beq r.k 1) (.st (.exit 0) (headT [2, 8, 9, 10] 18 [.v (.c (.d (.int .i64 p2))), .v (.c (.aslice 0 none)), .v (.c (.d (.int .i64 p9))), .v (.c (.d (.int .i64 r.p10)))]) [.arr none .site m0] 1) (.no))
theorem r_array_stations_0 (p2 : Int) (p9 : Int) (m0 : List Site) : ∀ (n : Nat) (p10 : Int) (x : Ex) (T' : TS) (M' : List Blk) (N' : Nat), LReach (o_array_stations_0 p2 p9 m0 (run_array_stations_0 p2 p9 m0 n p10)) x T' M' N' → x ≠ .normal ∧ ∃ j, RoundsN Tryz.prog GT gbT 1 (loopB Tryz.prog 65 0) j (H_array_stations_0 p2 p9 m0 p10) [.arr none .site m0] 1 x T' M' N' := by
  have hL : LOKn Tryz.prog GT gbT 1 noL (loopsIn (loopB Tryz.prog 65 0)) := fun _ _ _ _ _ _ _ _ _ h => h.elim
  intro n
  induction n with
  | zero =>
    intro p10 x T' M' N' hr
    exact False.elim (redF (redF hr))
  | succ n ih =>
    intro p10 x T' M' N'
    rw [run_array_stations_0]
    exact viaE (b_array_stations_0 p2 p9 m0 p10) (condG (o := o_array_stations_0 p2 p9 m0) (condG (o := o_array_stations_0 p2 p9 m0) (condG (o := o_array_stations_0 p2 p9 m0) (condG (o := o_array_stations_0 p2 p9 m0) (fun he hr => stopN g_array_valid hEQT hmT hL he (by simp) (redT hr)) (fun he hr => goN g_array_valid hEQT hmT hL he (ih (w64 (p10 + (1 : Int))) x T' M' N' hr))) (fun _ hr => False.elim (redF (redF hr)))) (fun _ hr => False.elim (redF (redF hr)))) (fun he hr => stopN g_array_valid hEQT hmT hL he (by simp) (redT (redF hr))))
def f_array_stations_0 : List AV → List Blk → LT := fun vs Ms => match vs, Ms with
  | [.v (.c (.d (.int .i64 p2))), .v (.c (.aslice 0 none)), .v (.c (.d (.int .i64 p9))), .v (.c (.d (.int .i64 p10)))], [.arr none .site m0] => o_array_stations_0 p2 p9 m0 (lp_array_stations_0 p2 p9 m0 p10)
  | _, _ => .no
def L_array_stations_0 := LamN 4 18 1 [2, 8, 9, 10] f_array_stations_0
theorem k_array_stations_0 : LOKbn Tryz.prog GT gbT 1 L_array_stations_0 (loopB Tryz.prog 65 0) := by
  refine LOKbn.lamN (by kernel_rfl) fun vs Ms x T' M' N' hr => ?_
  unfold f_array_stations_0 at hr
  split at hr
  · obtain ⟨q1, j, q2⟩ := r_array_stations_0 _ _ _ _ _ x T' M' N' hr
    exact ⟨q1, j, q2⟩
  · exact hr.elim
structure O_array_stations where
  ok : Bool
  r0 : Int
def m_array_stations (a0 : List Site) : O_array_stations := bif decide ((8 : Int) < (a0.length : Int)) then ⟨true, (4 : Int)⟩ else (bif Nat.beq (lp_array_stations_0 (0 : Int) (a0.length : Int) a0 (0 : Int)).k 0 then ⟨true, (8 : Int)⟩ else (bif Nat.beq (lp_array_stations_0 (0 : Int) (a0.length : Int) a0 (0 : Int)).k 1 then ⟨true, (0 : Int)⟩ else ⟨false, 0⟩))
def F_array_stations (a0 : List Site) (K : AV → List Blk → Ans) (r : O_array_stations) : Ans := bif r.ok then K (.v (.c (.d (.int .i64 r.r0)))) [.arr none .site a0] else none
theorem e_array_stations (a0 : List Site) (K : AV → List Blk → Ans) : evFn Tryz.prog GT EQT T_array_valid XT (orL L_array_stations_0 noL) 80 65 [.v (.c (.aslice 0 none))] [.arr none .site a0] (fun v M => K (finR 1 v M).1 (finR 1 v M).2) = F_array_stations a0 K (m_array_stations a0) := by
  unfold m_array_stations
  refine Eq.trans ?_ (Eq.symm (pushT rfl (pushT rfl (pushT rfl rfl))))
  kernel_rfl
theorem lok_array_stations : ∀ fn c, Tryz.prog.funcs[65]? = some fn → fn.body = some c → LOKn Tryz.prog GT gbT 1 (orL L_array_stations_0 noL) (loopsIn c) := by
  refine LOKn.ofF fun b hb => ?_
  have e : loopsF Tryz.prog 65 = [loopB Tryz.prog 65 0] := by kernel_rfl
  rw [e] at hb
  simp only [List.mem_cons, List.not_mem_nil, or_false] at hb
  subst hb
  exact (LOKbn.or k_array_stations_0 (fun _ _ _ _ _ _ _ h => h.elim))
theorem c_array_stations (a0 : List Site) (hd : (m_array_stations a0).ok = true) : CallsA Tryz.prog GT gbT 65 [.v (.c (.aslice 0 none))] [.arr none .site a0] (.v (.c (.d (.int .i64 ((m_array_stations a0).r0))))) [.arr none .site a0] := by
  refine CallsA.ofEvR g_array_valid hEQT hmT (n0 := 1) rfl lok_array_stations ((e_array_stations a0 (fun v M => some (Res.fin v M))).trans ?_)
  unfold F_array_stations
  rw [hd]
  rfl
def s_array_stations : List AV → List Blk → (AV → List Blk → Ans) → Ans := fun xs bs K => match xs, bs with
  | [.v (.c (.aslice 0 none))], [.arr none .site a0] => F_array_stations a0 K (m_array_stations a0)
  | _, _ => none
def T_array_stations : Nat → List AV → List Blk → (AV → List Blk → Ans) → Ans := upd T_array_valid 65 s_array_stations
theorem g_array_stations : GOK Tryz.prog GT gbT T_array_stations XT := by
  refine GOK.upd g_array_valid (fun args w => Tryz.call65 args w) fun xs bs K r h => ?_
  unfold s_array_stations at h
  split at h
  · unfold F_array_stations at h
    simp only [cond_eq_ite] at h
    split at h
    · rename_i hd
      exact ⟨_, _, c_array_stations _ hd, h⟩
    · cases h
  · cases h
theorem c_array_pairs (a0 : Int) : CallsA Tryz.prog GT gbT 67 [.v (.c (.d (.int .i64 a0)))] [] (.v (.c (.fn 88 [0]))) [.rw 3 [.int .i64 a0]] :=
  CallsA.ofEvN g_array_stations hEQT hmT (n := 40) (Λ := noL) (fun _ M => M) (fun _ _ _ => .inl rfl) (fun _ _ _ _ => LOKn.nil) (by kernel_rfl)
def s_array_pairs : List AV → List Blk → (AV → List Blk → Ans) → Ans := fun xs bs K => match xs, bs with
  | [.v (.c (.d (.int .i64 a0)))], [] => K (.v (.c (.fn 88 [0]))) [.rw 3 [.int .i64 a0]]
  | _, _ => none
def T_array_pairs : Nat → List AV → List Blk → (AV → List Blk → Ans) → Ans := upd T_array_stations 67 s_array_pairs
theorem g_array_pairs : GOK Tryz.prog GT gbT T_array_pairs XT := by
  refine GOK.upd g_array_stations (fun args w => Tryz.call67 args w) fun xs bs K r h => ?_
  unfold s_array_pairs at h
  split at h
  · exact ⟨_, _, c_array_pairs _, h⟩
  · cases h
end Go.Ev

namespace Go.Ev
open Go Go.Proofs
structure R_array_place_0 where
  k : Nat
  p29 : Int
  m5 : List Placed
def run_array_place_0 (p28 : Int) (m0 : List Site) (q1 : Globe) (q3_0 : Int) : Nat → Int → List Placed → R_array_place_0
  | 0, p29, m5 => ⟨2, p29, m5⟩
  | n + 1, p29, m5 => bif decide (p29 < p28) then (bif (decide ((0 : Int) ≤ p29) && decide (p29 < (m0.length : Int))) then (bif ((atV q1 ((m0.getD p29.toNat (ET.z .site)).s) ((m0.getD p29.toNat (ET.z .site)).t)).2 != (0 : Int)) then ⟨0, p29, m5⟩ else (bif (decide ((0 : Int) ≤ p29) && decide (p29 < (m5.length : Int))) then run_array_place_0 p28 m0 q1 q3_0 n (w64 (p29 + (1 : Int))) (m5.set p29.toNat ⟨m0.getD p29.toNat (ET.z .site), (atV q1 ((m0.getD p29.toNat (ET.z .site)).s) ((m0.getD p29.toNat (ET.z .site)).t)).1⟩) else ⟨2, p29, m5⟩)) else ⟨2, p29, m5⟩) else ⟨1, p29, m5⟩
def lp_array_place_0 (p28 : Int) (m0 : List Site) (q1 : Globe) (q3_0 : Int) (p29 : Int) (m5 : List Placed) : R_array_place_0 := run_array_place_0 p28 m0 q1 q3_0 (2000 + (m0.length + m5.length)) p29 m5
abbrev H_array_place_0 (p28 : Int) (_m0 : List Site) (_q1 : Globe) (_q3_0 : Int) (p29 : Int) (_m5 : List Placed) : TS := headT [2, 4, 5, 8, 27, 28, 29] 88 [.v (.c (.ptr 1 0)), .v (.c (.ptr 2 0)), .v (.c (.ptr 3 0)), .v (.c (.ptr 4 0)), .v (.c (.aslice 0 none)), .v (.c (.d (.int .i64 p28))), .v (.c (.d (.int .i64 p29)))]
theorem b_array_place_0 (p28 : Int) (m0 : List Site) (q1 : Globe) (q3_0 : Int) (p29 : Int) (m5 : List Placed) : evCode Tryz.prog GT EQT T_array_pairs XT noL 120 (loopB Tryz.prog 44 0) (H_array_place_0 p28 m0 q1 q3_0 p29 m5) [.arr none .site m0, .rw 23 [.int .i64 q1.a, .int .i64 q1.b], .cell 97 .nilS, .rw 32 [.int .i64 q3_0], .cell 97 (.aslice 5 none), .arr (some 101) .placed m5] 6 (normK 1 [2, 4, 5, 8, 27, 28, 29]) =
    bif decide (p29 < p28) then (bif (decide ((0 : Int) ≤ p29) && decide (p29 < (m0.length : Int))) then (bif ((atV q1 ((m0.getD p29.toNat (ET.z .site)).s) ((m0.getD p29.toNat (ET.z .site)).t)).2 != (0 : Int)) then some (.st .ret (headT [2, 4, 5, 8, 27, 28, 29] 88 [.v (.c (.ptr 1 0)), .v (.c (.ptr 2 0)), .v (.c (.ptr 3 0)), .v (.c (.ptr 4 0)), .v (.c (.aslice 0 none)), .v (.c (.d (.int .i64 p28))), .v (.c (.d (.int .i64 p29)))]) [.arr none .site m0, .rw 23 [.int .i64 q1.a, .int .i64 q1.b], .cell 97 .nilS, .rw 32 [.int .i64 ((atV q1 ((m0.getD p29.toNat (ET.z .site)).s) ((m0.getD p29.toNat (ET.z .site)).t)).2)], .cell 97 (.aslice 5 none), .arr (some 101) .placed m5] 6) else (bif (decide ((0 : Int) ≤ p29) && decide (p29 < (m5.length : Int))) then some (.st .normal (headT [2, 4, 5, 8, 27, 28, 29] 88 [.v (.c (.ptr 1 0)), .v (.c (.ptr 2 0)), .v (.c (.ptr 3 0)), .v (.c (.ptr 4 0)), .v (.c (.aslice 0 none)), .v (.c (.d (.int .i64 p28))), .v (.c (.d (.int .i64 (w64 (p29 + (1 : Int))))))]) [.arr none .site m0, .rw 23 [.int .i64 q1.a, .int .i64 q1.b], .cell 97 .nilS, .rw 32 [.int .i64 q3_0], .cell 97 (.aslice 5 none), .arr (some 101) .placed (m5.set p29.toNat ⟨m0.getD p29.toNat (ET.z .site), (atV q1 ((m0.getD p29.toNat (ET.z .site)).s) ((m0.getD p29.toNat (ET.z .site)).t)).1⟩)] 6) else none)) else none) else some (.st (.exit 0) (headT [2, 4, 5, 8, 27, 28, 29] 88 [.v (.c (.ptr 1 0)), .v (.c (.ptr 2 0)), .v (.c (.ptr 3 0)), .v (.c (.ptr 4 0)), .v (.c (.aslice 0 none)), .v (.c (.d (.int .i64 p28))), .v (.c (.d (.int .i64 p29)))]) [.arr none .site m0, .rw 23 [.int .i64 q1.a, .int .i64 q1.b], .cell 97 .nilS, .rw 32 [.int .i64 q3_0], .cell 97 (.aslice 5 none), .arr (some 101) .placed m5] 6) := by
  kernel_rfl
def o_array_place_0 (p28 : Int) (m0 : List Site) (q1 : Globe) (q3_0 : Int) (r : R_array_place_0) : LT := .br (Nat.beq r.k 0) (.st .ret (headT [2, 4, 5, 8, 27, 28, 29] 88 [.v (.c (.ptr 1 0)), .v (.c (.ptr 2 0)), .v (.c (.ptr 3 0)), .v (.c (.ptr 4 0)), .v (.c (.aslice 0 none)), .v (.c (.d (.int .i64 p28))), .v (.c (.d (.int .i64 r.p29)))]) [.arr none .site m0, .rw 23 [.int .i64 q1.a, .int .i64 q1.b], .cell 97 .nilS, .rw 32 [.int .i64 ((atV q1 ((m0.getD r.p29.toNat (ET.z .site)).s) ((m0.getD r.p29.toNat (ET.z .site)).t)).2)], .cell 97 (.aslice 5 none), .arr (some 101) .placed r.m5] 6) (.br (Nat.beq r.k 1) (.st (.exit 0) (headT [2, 4, 5, 8, 27, 28, 29] 88 [.v (.c (.ptr 1 0)), .v (.c (.ptr 2 0)), .v (.c (.ptr 3 0)), .v (.c (.ptr 4 0)), .v (.c (.aslice 0 none)), .v (.c (.d (.int .i64 p28))), .v (.c (.d (.int .i64 r.p29)))]) [.arr none .site m0, .rw 23 [.int .i64 q1.a, .int .i64 q1.b], .cell 97 .nilS, .rw 32 [.int .i64 q3_0], .cell 97 (.aslice 5 none), .arr (some 101) .placed r.m5] 6) (.no))
theorem r_array_place_0 (p28 : Int) (m0 : List Site) (q1 : Globe) (q3_0 : Int) : ∀ (n : Nat) (p29 : Int) (m5 : List Placed) (x : Ex) (T' : TS) (M' : List Blk) (N' : Nat), LReach (o_array_place_0 p28 m0 q1 q3_0 (run_array_place_0 p28 m0 q1 q3_0 n p29 m5)) x T' M' N' → x ≠ .normal ∧ ∃ j, RoundsN Tryz.prog GT gbT 1 (loopB Tryz.prog 44 0) j (H_array_place_0 p28 m0 q1 q3_0 p29 m5) [.arr none .site m0, .rw 23 [.int .i64 q1.a, .int .i64 q1.b], .cell 97 .nilS, .rw 32 [.int .i64 q3_0], .cell 97 (.aslice 5 none), .arr (some 101) .placed m5] 6 x T' M' N' := by
  have hL : LOKn Tryz.prog GT gbT 1 noL (loopsIn (loopB Tryz.prog 44 0)) := fun _ _ _ _ _ _ _ _ _ h => h.elim
  intro n
  induction n with
  | zero =>
    intro p29 m5 x T' M' N' hr
    exact False.elim (redF (redF hr))
  | succ n ih =>
    intro p29 m5 x T' M' N'
    rw [run_array_place_0]
    exact viaE (b_array_place_0 p28 m0 q1 q3_0 p29 m5) (condG (o := o_array_place_0 p28 m0 q1 q3_0) (condG (o := o_array_place_0 p28 m0 q1 q3_0) (condG (o := o_array_place_0 p28 m0 q1 q3_0) (fun he hr => stopN g_array_pairs hEQT hmT hL he (by simp) (redT hr)) (condG (o := o_array_place_0 p28 m0 q1 q3_0) (fun he hr => goN g_array_pairs hEQT hmT hL he (ih (w64 (p29 + (1 : Int))) (m5.set p29.toNat ⟨m0.getD p29.toNat (ET.z .site), (atV q1 ((m0.getD p29.toNat (ET.z .site)).s) ((m0.getD p29.toNat (ET.z .site)).t)).1⟩) x T' M' N' hr)) (fun _ hr => False.elim (redF (redF hr))))) (fun _ hr => False.elim (redF (redF hr)))) (fun he hr => stopN g_array_pairs hEQT hmT hL he (by simp) (redT (redF hr))))
def f_array_place_0 : List AV → List Blk → LT := fun vs Ms => match vs, Ms with
  | [.v (.c (.ptr 1 0)), .v (.c (.ptr 2 0)), .v (.c (.ptr 3 0)), .v (.c (.ptr 4 0)), .v (.c (.aslice 0 none)), .v (.c (.d (.int .i64 p28))), .v (.c (.d (.int .i64 p29)))], [.arr none .site m0, .rw 23 [.int .i64 q1_0, .int .i64 q1_1], .cell 97 .nilS, .rw 32 [.int .i64 q3_0], .cell 97 (.aslice 5 none), .arr (some 101) .placed m5] => o_array_place_0 p28 m0 (⟨q1_0, q1_1⟩ : Globe) q3_0 (lp_array_place_0 p28 m0 (⟨q1_0, q1_1⟩ : Globe) q3_0 p29 m5)
  | _, _ => .no
def L_array_place_0 := LamN 9 88 1 [2, 4, 5, 8, 27, 28, 29] f_array_place_0
theorem k_array_place_0 : LOKbn Tryz.prog GT gbT 1 L_array_place_0 (loopB Tryz.prog 44 0) := by
  refine LOKbn.lamN (by kernel_rfl) fun vs Ms x T' M' N' hr => ?_
  unfold f_array_place_0 at hr
  split at hr
  · obtain ⟨q1, j, q2⟩ := r_array_place_0 _ _ _ _ _ _ _ x T' M' N' hr
    exact ⟨q1, j, q2⟩
  · exact hr.elim
abbrev TP := T_array_pairs
theorem gP : GOK Tryz.prog GT gbT TP XT := g_array_pairs
abbrev LP := (orL L_array_place_0 noL)
structure O0_array_place where
  k : Nat
  e : Int
  ps : List Placed
def m0_array_place (a0 : Globe) (a1 : List Site) : O0_array_place := bif ((checkG a0) != (0 : Int)) then ⟨0, (checkG a0), []⟩ else (bif (m_array_stations a1).ok then (bif ((m_array_stations a1).r0 != (0 : Int)) then ⟨0, (m_array_stations a1).r0, []⟩ else (bif (decide ((a1.length : Int) = (a1.length : Int)) && (decide (0 ≤ (a1.length : Int)) && (decide ((a1.length : Int) ≤ 1048576) && ((11 == 11) && (Nat.blt 0 11 && Nat.ble 96 4096))))) then (bif Nat.beq (lp_array_place_0 (a1.length : Int) a1 a0 (0 : Int) (0 : Int) (List.replicate a1.length (⟨⟨ByteArray.empty, ⟨(0 : Int), (0 : Int)⟩, ⟨(0 : Int), (0 : Int)⟩⟩, ⟨⟨(0 : Int), (0 : Int)⟩, ⟨(0 : Int), (0 : Int)⟩, ⟨(0 : Int), (0 : Int)⟩⟩⟩ : Placed))).k 0 then ⟨0, (atV a0 ((a1.getD ((lp_array_place_0 (a1.length : Int) a1 a0 (0 : Int) (0 : Int) (List.replicate a1.length (⟨⟨ByteArray.empty, ⟨(0 : Int), (0 : Int)⟩, ⟨(0 : Int), (0 : Int)⟩⟩, ⟨⟨(0 : Int), (0 : Int)⟩, ⟨(0 : Int), (0 : Int)⟩, ⟨(0 : Int), (0 : Int)⟩⟩⟩ : Placed))).p29).toNat (ET.z .site)).s) ((a1.getD ((lp_array_place_0 (a1.length : Int) a1 a0 (0 : Int) (0 : Int) (List.replicate a1.length (⟨⟨ByteArray.empty, ⟨(0 : Int), (0 : Int)⟩, ⟨(0 : Int), (0 : Int)⟩⟩, ⟨⟨(0 : Int), (0 : Int)⟩, ⟨(0 : Int), (0 : Int)⟩, ⟨(0 : Int), (0 : Int)⟩⟩⟩ : Placed))).p29).toNat (ET.z .site)).t)).2, []⟩ else (bif Nat.beq (lp_array_place_0 (a1.length : Int) a1 a0 (0 : Int) (0 : Int) (List.replicate a1.length (⟨⟨ByteArray.empty, ⟨(0 : Int), (0 : Int)⟩, ⟨(0 : Int), (0 : Int)⟩⟩, ⟨⟨(0 : Int), (0 : Int)⟩, ⟨(0 : Int), (0 : Int)⟩, ⟨(0 : Int), (0 : Int)⟩⟩⟩ : Placed))).k 1 then ⟨1, 0, ((lp_array_place_0 (a1.length : Int) a1 a0 (0 : Int) (0 : Int) (List.replicate a1.length (⟨⟨ByteArray.empty, ⟨(0 : Int), (0 : Int)⟩, ⟨(0 : Int), (0 : Int)⟩⟩, ⟨⟨(0 : Int), (0 : Int)⟩, ⟨(0 : Int), (0 : Int)⟩, ⟨(0 : Int), (0 : Int)⟩⟩⟩ : Placed))).m5)⟩ else ⟨2, 0, []⟩)) else ⟨2, 0, []⟩)) else ⟨2, 0, []⟩)
def F0_array_place (_a0 : Globe) (a1 : List Site) (r : O0_array_place) : Ans := bif Nat.beq r.k 0 then some (.st .ret (headT [4, 5] 88 [.v (.c (.ptr 1 0)), .v (.c (.ptr 2 0))]) [.arr none .site a1, .cell 97 .nilS, .rw 32 [.int .i64 r.e]] 3) else bif Nat.beq r.k 1 then some (.st .normal (headT [4, 5, 8, 55] 88 [.v (.c (.ptr 1 0)), .v (.c (.ptr 2 0)), .v (.c (.ptr 3 0)), .v (.c (.fn 88 [4]))]) [.arr none .site a1, .cell 97 .nilS, .rw 32 [.int .i64 (0 : Int)], .cell 97 (.aslice 5 none), .rw 3 [.int .i64 (r.ps.length : Int)], .arr (some 101) .placed r.ps] 6) else none
theorem w0_array_place (a0 : Globe) (a1 : List Site) : evList Tryz.prog GT EQT TP XT LP 120 (splitC 5 (bodyC Tryz.prog 44)).1 (frameT [.v (.agg [.int .i64 a0.a, .int .i64 a0.b]), .v (.c (.aslice 0 none))] 86) [.arr none .site a1] 1 (placeK Tryz.prog GT EQT TP XT LP 120 (fstC (fstC (splitC 5 (bodyC Tryz.prog 44)).2)) 1 [4, 5] [4, 5, 8, 55]) =
    bif ((checkG a0) != (0 : Int)) then some (.st .ret (headT [4, 5] 88 [.v (.c (.ptr 1 0)), .v (.c (.ptr 2 0))]) [.arr none .site a1, .cell 97 .nilS, .rw 32 [.int .i64 (checkG a0)]] 3) else (bif (m_array_stations a1).ok then (bif ((m_array_stations a1).r0 != (0 : Int)) then some (.st .ret (headT [4, 5] 88 [.v (.c (.ptr 1 0)), .v (.c (.ptr 2 0))]) [.arr none .site a1, .cell 97 .nilS, .rw 32 [.int .i64 ((m_array_stations a1).r0)]] 3) else (bif (decide ((a1.length : Int) = (a1.length : Int)) && (decide (0 ≤ (a1.length : Int)) && (decide ((a1.length : Int) ≤ 1048576) && ((11 == 11) && (Nat.blt 0 11 && Nat.ble 96 4096))))) then (bif Nat.beq (lp_array_place_0 (a1.length : Int) a1 a0 (0 : Int) (0 : Int) (List.replicate a1.length (⟨⟨ByteArray.empty, ⟨(0 : Int), (0 : Int)⟩, ⟨(0 : Int), (0 : Int)⟩⟩, ⟨⟨(0 : Int), (0 : Int)⟩, ⟨(0 : Int), (0 : Int)⟩, ⟨(0 : Int), (0 : Int)⟩⟩⟩ : Placed))).k 0 then some (.st .ret (headT [4, 5] 88 [.v (.c (.ptr 1 0)), .v (.c (.ptr 2 0))]) [.arr none .site a1, .cell 97 .nilS, .rw 32 [.int .i64 ((atV a0 ((a1.getD ((lp_array_place_0 (a1.length : Int) a1 a0 (0 : Int) (0 : Int) (List.replicate a1.length (⟨⟨ByteArray.empty, ⟨(0 : Int), (0 : Int)⟩, ⟨(0 : Int), (0 : Int)⟩⟩, ⟨⟨(0 : Int), (0 : Int)⟩, ⟨(0 : Int), (0 : Int)⟩, ⟨(0 : Int), (0 : Int)⟩⟩⟩ : Placed))).p29).toNat (ET.z .site)).s) ((a1.getD ((lp_array_place_0 (a1.length : Int) a1 a0 (0 : Int) (0 : Int) (List.replicate a1.length (⟨⟨ByteArray.empty, ⟨(0 : Int), (0 : Int)⟩, ⟨(0 : Int), (0 : Int)⟩⟩, ⟨⟨(0 : Int), (0 : Int)⟩, ⟨(0 : Int), (0 : Int)⟩, ⟨(0 : Int), (0 : Int)⟩⟩⟩ : Placed))).p29).toNat (ET.z .site)).t)).2)]] 3) else (bif Nat.beq (lp_array_place_0 (a1.length : Int) a1 a0 (0 : Int) (0 : Int) (List.replicate a1.length (⟨⟨ByteArray.empty, ⟨(0 : Int), (0 : Int)⟩, ⟨(0 : Int), (0 : Int)⟩⟩, ⟨⟨(0 : Int), (0 : Int)⟩, ⟨(0 : Int), (0 : Int)⟩, ⟨(0 : Int), (0 : Int)⟩⟩⟩ : Placed))).k 1 then some (.st .normal (headT [4, 5, 8, 55] 88 [.v (.c (.ptr 1 0)), .v (.c (.ptr 2 0)), .v (.c (.ptr 3 0)), .v (.c (.fn 88 [4]))]) [.arr none .site a1, .cell 97 .nilS, .rw 32 [.int .i64 (0 : Int)], .cell 97 (.aslice 5 none), .rw 3 [.int .i64 (((lp_array_place_0 (a1.length : Int) a1 a0 (0 : Int) (0 : Int) (List.replicate a1.length (⟨⟨ByteArray.empty, ⟨(0 : Int), (0 : Int)⟩, ⟨(0 : Int), (0 : Int)⟩⟩, ⟨⟨(0 : Int), (0 : Int)⟩, ⟨(0 : Int), (0 : Int)⟩, ⟨(0 : Int), (0 : Int)⟩⟩⟩ : Placed))).m5).length : Int)], .arr (some 101) .placed ((lp_array_place_0 (a1.length : Int) a1 a0 (0 : Int) (0 : Int) (List.replicate a1.length (⟨⟨ByteArray.empty, ⟨(0 : Int), (0 : Int)⟩, ⟨(0 : Int), (0 : Int)⟩⟩, ⟨⟨(0 : Int), (0 : Int)⟩, ⟨(0 : Int), (0 : Int)⟩, ⟨(0 : Int), (0 : Int)⟩⟩⟩ : Placed))).m5)] 6) else none)) else none)) else none) := by
  kernel_rfl
theorem e0_array_place (a0 : Globe) (a1 : List Site) : evList Tryz.prog GT EQT TP XT LP 120 (splitC 5 (bodyC Tryz.prog 44)).1 (frameT [.v (.agg [.int .i64 a0.a, .int .i64 a0.b]), .v (.c (.aslice 0 none))] 86) [.arr none .site a1] 1 (placeK Tryz.prog GT EQT TP XT LP 120 (fstC (fstC (splitC 5 (bodyC Tryz.prog 44)).2)) 1 [4, 5] [4, 5, 8, 55]) = F0_array_place a0 a1 (m0_array_place a0 a1) := by
  refine (w0_array_place a0 a1).trans ?_
  unfold m0_array_place
  exact (condF rfl (condF (condF rfl (condF (condF rfl (condF rfl rfl)) rfl)) rfl))
theorem wa_array_place (a1 : List Site) (ps : List Placed) (i j : Int) : evCode Tryz.prog GT EQT TP XT noL 120 (asgC (sndC (fstC (splitC 5 (bodyC Tryz.prog 44)).2))) (tset (.v (.agg [.int .i64 i, .int .i64 j])) (headT [4, 5, 8, 55] 88 [.v (.c (.ptr 1 0)), .v (.c (.ptr 2 0)), .v (.c (.ptr 3 0)), .v (.c (.fn 88 [4]))]) 56) [.arr none .site a1, .cell 97 .nilS, .rw 32 [.int .i64 (0 : Int)], .cell 97 (.aslice 5 none), .dead, .arr (some 101) .placed ps] 6 (fun x T M N => some (.st x T M N)) =
    some (.st .normal (tset (.v (.c (.ptr 6 0))) (tset (.v (.agg [.int .i64 i, .int .i64 j])) (headT [4, 5, 8, 55] 88 [.v (.c (.ptr 1 0)), .v (.c (.ptr 2 0)), .v (.c (.ptr 3 0)), .v (.c (.fn 88 [4]))]) 56) 13) [.arr none .site a1, .cell 97 .nilS, .rw 32 [.int .i64 (0 : Int)], .cell 97 (.aslice 5 none), .dead, .arr (some 101) .placed ps, .rw 125 [.int .i64 i, .int .i64 j]] 7) := by
  kernel_rfl
theorem wb_array_place (a1 : List Site) (ps : List Placed) (i j : Int) : evCode Tryz.prog GT EQT TP XT noL 120 (bodC (sndC (fstC (splitC 5 (bodyC Tryz.prog 44)).2))) (tset (.v (.c (.ptr 6 0))) (tset (.v (.agg [.int .i64 i, .int .i64 j])) (headT [4, 5, 8, 55] 88 [.v (.c (.ptr 1 0)), .v (.c (.ptr 2 0)), .v (.c (.ptr 3 0)), .v (.c (.fn 88 [4]))]) 56) 13) [.arr none .site a1, .cell 97 .nilS, .rw 32 [.int .i64 (0 : Int)], .cell 97 (.aslice 5 none), .dead, .arr (some 101) .placed ps, .rw 125 [.int .i64 i, .int .i64 j]] 7 (cutR 6) =
    bif (decide ((0 : Int) ≤ i) && decide (i < (ps.length : Int))) then (bif (decide ((0 : Int) ≤ j) && decide (j < (ps.length : Int))) then (bif ((((ps.getD i.toNat (ET.z .placed)).site).name).data.toList == (((ps.getD j.toNat (ET.z .placed)).site).name).data.toList) then some (.st .ret ⟨0, .any, []⟩ [.arr none .site a1, .cell 97 .nilS, .rw 32 [.int .i64 (14 : Int)], .cell 97 (.aslice 5 none), .dead, .arr (some 101) .placed ps] 7) else (bif (decide ((0 : Int) ≤ i) && decide (i < (ps.length : Int))) then (bif (decide ((0 : Int) ≤ j) && decide (j < (ps.length : Int))) then (bif eqAll [.int .i64 ((((ps.getD i.toNat (ET.z .placed)).at_).x).num), .int .i64 ((((ps.getD i.toNat (ET.z .placed)).at_).x).den), .int .i64 ((((ps.getD i.toNat (ET.z .placed)).at_).y).num), .int .i64 ((((ps.getD i.toNat (ET.z .placed)).at_).y).den), .int .i64 ((((ps.getD i.toNat (ET.z .placed)).at_).z).num), .int .i64 ((((ps.getD i.toNat (ET.z .placed)).at_).z).den)] [.int .i64 ((((ps.getD j.toNat (ET.z .placed)).at_).x).num), .int .i64 ((((ps.getD j.toNat (ET.z .placed)).at_).x).den), .int .i64 ((((ps.getD j.toNat (ET.z .placed)).at_).y).num), .int .i64 ((((ps.getD j.toNat (ET.z .placed)).at_).y).den), .int .i64 ((((ps.getD j.toNat (ET.z .placed)).at_).z).num), .int .i64 ((((ps.getD j.toNat (ET.z .placed)).at_).z).den)] then some (.st .ret ⟨0, .any, []⟩ [.arr none .site a1, .cell 97 .nilS, .rw 32 [.int .i64 (14 : Int)], .cell 97 (.aslice 5 none), .dead, .arr (some 101) .placed ps] 7) else some (.st .normal ⟨0, .any, []⟩ [.arr none .site a1, .cell 97 .nilS, .rw 32 [.int .i64 (0 : Int)], .cell 97 (.aslice 5 none), .dead, .arr (some 101) .placed ps] 7)) else none) else none)) else none) else none := by
  kernel_rfl
theorem lok_array_place : ∀ fn c, Tryz.prog.funcs[44]? = some fn → fn.body = some c → LOKn Tryz.prog GT gbT 1 LP (loopsIn c) := by
  refine LOKn.ofF fun b hb => ?_
  have e : loopsF Tryz.prog 44 = [loopB Tryz.prog 44 0] := by kernel_rfl
  rw [e] at hb
  simp only [List.mem_cons, List.not_mem_nil, or_false] at hb
  subst hb
  exact (LOKbn.or k_array_place_0 (fun _ _ _ _ _ _ _ h => h.elim))
end Go.Ev

namespace Go.Proofs
open Go.RowKit Go.Shelf
attribute [local go_sem] Oper.semAt_some
abbrev PairN (n : Nat) : Type := { p : Nat × Nat // p.1 < p.2 ∧ p.2 < n }
def encP {n : Nat} (x : PairN n) : Array Value := #[.agg #[.int .i64 (x.1.1 : Int), .int .i64 (x.1.2 : Int)]]
set_option maxHeartbeats 4000000 in
theorem pairs1_in (m l bn n : Nat) (hn : n ≤ 9223372036854775807) (J Jx : List (PairN n) → World → Prop)
    (hY : ∀ pre x W, J pre W → pre.length < n * n → YieldAt Fence.wide (m - 1) Tryz.prog l (encP x) W fun e W' =>
      (e = .returned (.bool true) ∧ J (pre ++ [x]) W' ∧ W'.heap[bn]? = W.heap[bn]?) ∨ (e = .returned (.bool false) ∧ Jx (pre ++ [x]) W'))
    (W : World) (hb : W.cell? ⟨bn, 0, none⟩ = some (.int .i64 n)) (h0 : J [] W) :
    CallsIn Fence.wide m Tryz.prog 88 #[.func (.yield l) #[] #[], .pointer (some ⟨bn, 0, none⟩)] W fun e W' => (∃ v, e = .returned v) ∧
      ((∃ ys, (∀ p, p ∈ ys) ∧ J ys W') ∨ (∃ pre, True ∧ Jx pre W')) := by
  refine callsIn_of_wp Tryz.func88 rfl trivial ?_ rfl
  simp only [Tryz.ntmps88, List.size_toArray, List.length_cons, List.length_nil, Nat.reduceAdd, Nat.reduceSub, Array.replicate_succ, Array.replicate_zero, List.push_toArray, List.append_toArray, List.nil_append, List.cons_append]
  gi_wp2
  gi_loopw [6] (fun i wr => ∃ k : Nat, k ≤ n ∧ i = .int .i64 k ∧ ∃ pre, J pre wr ∧ (∀ p : PairN n, p.1.1 < k → p ∈ pre) ∧ pre.length ≤ k * n ∧ wr.heap[bn]? = W.heap[bn]?)
    (fun i _ => n - (intOf i).toNat)
  case atStart => exact ⟨0, Nat.zero_le _, rfl, [], h0, fun p hp => by omega, by simp, rfl⟩
  case round =>
    obtain ⟨k, hk, rfl, pre, hJ, hall, hlen, hbn⟩ := hrel
    by_cases hlt : k < n
    · have hbc : wr.cell? ⟨bn, 0, none⟩ = some (.int .i64 n) := (World.cell?_of_block (a := ⟨bn, 0, none⟩) hbn).trans hb
      gi_wp2
      gi_loopw [4] (fun j wq => ∃ c : Nat, k + 1 ≤ c ∧ c ≤ n ∧ j = .int .i64 c ∧ ∃ pre, J pre wq ∧ (∀ p : PairN n, p.1.1 < k → p ∈ pre) ∧ (∀ p : PairN n, p.1.1 = k → p.1.2 < c → p ∈ pre) ∧ pre.length ≤ k * n + c ∧ wq.heap[bn]? = W.heap[bn]?)
        (fun j _ => n - (intOf j).toNat)
      case atStart => exact ⟨k + 1, Nat.le_refl _, hlt, by simp, pre, hJ, hall, fun p h1 h2 => by have := p.2.1; omega, by omega, hbn⟩
      case round =>
        clear hJ hall hlen hbn hbc pre
        obtain ⟨c, hc1, hc2, rfl, pre, hJ, hall, hrow, hlen, hbn⟩ := hrel
        have hbc : wr.cell? ⟨bn, 0, none⟩ = some (.int .i64 n) := (World.cell?_of_block (a := ⟨bn, 0, none⟩) hbn).trans hb
        by_cases hlt2 : c < n
        · have hkn : k * n + n ≤ n * n := by rw [← Nat.succ_mul]; exact Nat.mul_le_mul_right n hlt
          obtain ⟨fn, tmps, assign, body, hy, hR⟩ := hY pre ⟨(k, c), by omega, hlt2⟩ wr hJ (by omega)
          simp only [encP] at hy
          gi_wp2
          refine ⟨fun h => (by cases h), hR.mono ?_⟩
          rintro e W3 (⟨rfl, hJ3, hk3⟩ | ⟨rfl, hJx3⟩)
          · gi_wp2
            go_roundw
            case rel =>
              refine ⟨c + 1, by omega, by omega, by simp, _, hJ3, fun p hp => by simp [hall p hp], fun p h1 h2 => ?_, by simp; omega, hk3.trans hbn⟩
              by_cases h3 : p.1.2 < c
              · simp [hrow p h1 h3]
              · have : p = ⟨(k, c), by omega, hlt2⟩ := Subtype.ext (Prod.ext h1 (show p.1.2 = c by omega))
                simp [this]
            case measure => simp [intOf]; omega
          · gi_wp2
            refine bodyPost_ret (results_none rfl _ _ _) rfl ?_
            exact ⟨⟨_, rfl⟩, .inr ⟨_, trivial, hJx3⟩⟩
        · obtain rfl : c = n := by omega
          gi_wp2
          go_roundw
          case rel =>
            refine ⟨k + 1, by omega, by simp, pre, hJ, fun p hp => ?_, by rw [Nat.succ_mul]; exact hlen, hbn⟩
            by_cases h3 : p.1.1 < k
            · exact hall p h3
            · exact hrow p (by omega) p.2.2
          case measure => simp [intOf]; omega
    · obtain rfl : k = n := by omega
      gi_wp2
      go_end0
      exact ⟨⟨_, rfl⟩, .inl ⟨pre, fun p => hall p (by have := p.2; omega), hJ⟩⟩
end Go.Proofs

