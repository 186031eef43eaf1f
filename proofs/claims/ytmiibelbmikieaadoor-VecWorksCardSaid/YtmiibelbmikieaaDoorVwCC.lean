/-
  Contracts of functions: what each returns. No condition beyond those of the statements.
-/
import Derived.Test.YtmiibelbmikieaaDoorVwCB
namespace Go.Ev
open Go Go.Proofs

set_option maxRecDepth 100000 in
/-- fringeref02.two -/
theorem w_fringeref02_two (a b c d e f g h : Int) (K : AV → List Blk → Ans) : evFn Tryd.prog GT EQT T_fringeref02_Scale XT noL 60 57 [.v (.agg [.int .i64 a, .int .i64 b]), .v (.agg [.int .i64 c, .int .i64 d]), .v (.agg [.int .i64 e, .int .i64 f]), .v (.agg [.int .i64 g, .int .i64 h])] [] (fun v M => K v (M.take ([] : List Blk).length)) = twoAns K ⟨a, b⟩ ⟨c, d⟩ ⟨e, f⟩ ⟨g, h⟩ := by
  kernel_rfl
set_option maxRecDepth 100000 in
theorem c_fringeref02_two (a b c d e f g h : Int) : CallsA Tryd.prog GT gbT 57 [.v (.agg [.int .i64 a, .int .i64 b]), .v (.agg [.int .i64 c, .int .i64 d]), .v (.agg [.int .i64 e, .int .i64 f]), .v (.agg [.int .i64 g, .int .i64 h])] [] (rFracE (twoF ⟨a, b⟩ ⟨c, d⟩ ⟨e, f⟩ ⟨g, h⟩)) [] := by
  refine CallsA.ofOk fun hok => ?_
  have hw := w_fringeref02_two a b c d e f g h (fun v M => some (Res.fin v M))
  refine CallsA.ofEv (Γ := T_fringeref02_Scale) (X := XT) (Λ := noL) (EQ := EQT) (n := 60) g_fringeref02_Scale hEQT hmT (fun _ _ _ _ => noL_ok _) (hw.trans ?_)
  have h_a := inR_i64 (hok (.int .i64 a) (by simp [datasL, datas]))
  have h_b := inR_i64 (hok (.int .i64 b) (by simp [datasL, datas]))
  have h_c := inR_i64 (hok (.int .i64 c) (by simp [datasL, datas]))
  have h_d := inR_i64 (hok (.int .i64 d) (by simp [datasL, datas]))
  have h_e := inR_i64 (hok (.int .i64 e) (by simp [datasL, datas]))
  have h_f := inR_i64 (hok (.int .i64 f) (by simp [datasL, datas]))
  have h_g := inR_i64 (hok (.int .i64 g) (by simp [datasL, datas]))
  have h_h := inR_i64 (hok (.int .i64 h) (by simp [datasL, datas]))
  clear hok hw
  exact twoAns_ok (K := fun v M => some (Res.fin v M))
def s_fringeref02_two : List AV → List Blk → (AV → List Blk → Ans) → Ans := fun xs bs K => match xs, bs with
  | [.v (.agg [.int .i64 a, .int .i64 b]), .v (.agg [.int .i64 c, .int .i64 d]), .v (.agg [.int .i64 e, .int .i64 f]), .v (.agg [.int .i64 g, .int .i64 h])], [] => K (rFracE (twoF ⟨a, b⟩ ⟨c, d⟩ ⟨e, f⟩ ⟨g, h⟩)) []
  | _, _ => none
def T_fringeref02_two : Nat → List AV → List Blk → (AV → List Blk → Ans) → Ans := upd T_fringeref02_Scale 57 s_fringeref02_two
theorem g_fringeref02_two : GOK Tryd.prog GT gbT T_fringeref02_two XT := by
  refine GOK.upd g_fringeref02_Scale (fun args w => Tryd.call57 args w) fun xs bs K r h => ?_
  unfold s_fringeref02_two at h
  split at h
  · exact ⟨_, _, c_fringeref02_two _ _ _ _ _ _ _ _, h⟩
  · cases h


set_option maxRecDepth 100000 in
/-- fringeref02.Dot -/
theorem w_fringeref02_Dot (a b c d e f g h i j k l : Int) (K : AV → List Blk → Ans) : evFn Tryd.prog GT EQT T_fringeref02_two XT noL 120 16 [.v (.agg [.int .i64 a, .int .i64 b, .int .i64 c, .int .i64 d, .int .i64 e, .int .i64 f]), .v (.agg [.int .i64 g, .int .i64 h, .int .i64 i, .int .i64 j, .int .i64 k, .int .i64 l])] [] (fun v M => K v (M.take ([] : List Blk).length)) = dotVRef K ⟨⟨a, b⟩, ⟨c, d⟩, ⟨e, f⟩⟩ ⟨⟨g, h⟩, ⟨i, j⟩, ⟨k, l⟩⟩ := by
  kernel_rfl
set_option maxRecDepth 100000 in
theorem c_fringeref02_Dot (a b c d e f g h i j k l : Int) : CallsA Tryd.prog GT gbT 16 [.v (.agg [.int .i64 a, .int .i64 b, .int .i64 c, .int .i64 d, .int .i64 e, .int .i64 f]), .v (.agg [.int .i64 g, .int .i64 h, .int .i64 i, .int .i64 j, .int .i64 k, .int .i64 l])] [] (rFracE (dotV ⟨⟨a, b⟩, ⟨c, d⟩, ⟨e, f⟩⟩ ⟨⟨g, h⟩, ⟨i, j⟩, ⟨k, l⟩⟩)) [] := by
  refine CallsA.ofOk fun hok => ?_
  have hw := w_fringeref02_Dot a b c d e f g h i j k l (fun v M => some (Res.fin v M))
  refine CallsA.ofEv (Γ := T_fringeref02_two) (X := XT) (Λ := noL) (EQ := EQT) (n := 120) g_fringeref02_two hEQT hmT (fun _ _ _ _ => noL_ok _) (hw.trans ?_)
  have h_a := inR_i64 (hok (.int .i64 a) (by simp [datasL, datas]))
  have h_b := inR_i64 (hok (.int .i64 b) (by simp [datasL, datas]))
  have h_c := inR_i64 (hok (.int .i64 c) (by simp [datasL, datas]))
  have h_d := inR_i64 (hok (.int .i64 d) (by simp [datasL, datas]))
  have h_e := inR_i64 (hok (.int .i64 e) (by simp [datasL, datas]))
  have h_f := inR_i64 (hok (.int .i64 f) (by simp [datasL, datas]))
  have h_g := inR_i64 (hok (.int .i64 g) (by simp [datasL, datas]))
  have h_h := inR_i64 (hok (.int .i64 h) (by simp [datasL, datas]))
  have h_i := inR_i64 (hok (.int .i64 i) (by simp [datasL, datas]))
  have h_j := inR_i64 (hok (.int .i64 j) (by simp [datasL, datas]))
  have h_k := inR_i64 (hok (.int .i64 k) (by simp [datasL, datas]))
  have h_l := inR_i64 (hok (.int .i64 l) (by simp [datasL, datas]))
  clear hok hw
  exact dotVRef_ok (K := fun v M => some (Res.fin v M))
def s_fringeref02_Dot : List AV → List Blk → (AV → List Blk → Ans) → Ans := fun xs bs K => match xs, bs with
  | [.v (.agg [.int .i64 a, .int .i64 b, .int .i64 c, .int .i64 d, .int .i64 e, .int .i64 f]), .v (.agg [.int .i64 g, .int .i64 h, .int .i64 i, .int .i64 j, .int .i64 k, .int .i64 l])], [] => K (rFracE (dotV ⟨⟨a, b⟩, ⟨c, d⟩, ⟨e, f⟩⟩ ⟨⟨g, h⟩, ⟨i, j⟩, ⟨k, l⟩⟩)) []
  | _, _ => none
def T_fringeref02_Dot : Nat → List AV → List Blk → (AV → List Blk → Ans) → Ans := upd T_fringeref02_two 16 s_fringeref02_Dot
theorem g_fringeref02_Dot : GOK Tryd.prog GT gbT T_fringeref02_Dot XT := by
  refine GOK.upd g_fringeref02_two (fun args w => Tryd.call16 args w) fun xs bs K r h => ?_
  unfold s_fringeref02_Dot at h
  split at h
  · exact ⟨_, _, c_fringeref02_Dot _ _ _ _ _ _ _ _ _ _ _ _, h⟩
  · cases h


set_option maxRecDepth 100000 in
/-- fringeref02.Cross -/
theorem w_fringeref02_Cross (a b c d e f g h i j k l : Int) (K : AV → List Blk → Ans) : evFn Tryd.prog GT EQT T_fringeref02_Dot XT noL 120 18 [.v (.agg [.int .i64 a, .int .i64 b, .int .i64 c, .int .i64 d, .int .i64 e, .int .i64 f]), .v (.agg [.int .i64 g, .int .i64 h, .int .i64 i, .int .i64 j, .int .i64 k, .int .i64 l])] [] (fun v M => K v (M.take ([] : List Blk).length)) = crossVRef K ⟨⟨a, b⟩, ⟨c, d⟩, ⟨e, f⟩⟩ ⟨⟨g, h⟩, ⟨i, j⟩, ⟨k, l⟩⟩ := by
  kernel_rfl
set_option maxRecDepth 100000 in
theorem c_fringeref02_Cross (a b c d e f g h i j k l : Int) : CallsA Tryd.prog GT gbT 18 [.v (.agg [.int .i64 a, .int .i64 b, .int .i64 c, .int .i64 d, .int .i64 e, .int .i64 f]), .v (.agg [.int .i64 g, .int .i64 h, .int .i64 i, .int .i64 j, .int .i64 k, .int .i64 l])] [] (rVecE (crossV ⟨⟨a, b⟩, ⟨c, d⟩, ⟨e, f⟩⟩ ⟨⟨g, h⟩, ⟨i, j⟩, ⟨k, l⟩⟩)) [] := by
  refine CallsA.ofOk fun hok => ?_
  have hw := w_fringeref02_Cross a b c d e f g h i j k l (fun v M => some (Res.fin v M))
  refine CallsA.ofEv (Γ := T_fringeref02_Dot) (X := XT) (Λ := noL) (EQ := EQT) (n := 120) g_fringeref02_Dot hEQT hmT (fun _ _ _ _ => noL_ok _) (hw.trans ?_)
  have h_a := inR_i64 (hok (.int .i64 a) (by simp [datasL, datas]))
  have h_b := inR_i64 (hok (.int .i64 b) (by simp [datasL, datas]))
  have h_c := inR_i64 (hok (.int .i64 c) (by simp [datasL, datas]))
  have h_d := inR_i64 (hok (.int .i64 d) (by simp [datasL, datas]))
  have h_e := inR_i64 (hok (.int .i64 e) (by simp [datasL, datas]))
  have h_f := inR_i64 (hok (.int .i64 f) (by simp [datasL, datas]))
  have h_g := inR_i64 (hok (.int .i64 g) (by simp [datasL, datas]))
  have h_h := inR_i64 (hok (.int .i64 h) (by simp [datasL, datas]))
  have h_i := inR_i64 (hok (.int .i64 i) (by simp [datasL, datas]))
  have h_j := inR_i64 (hok (.int .i64 j) (by simp [datasL, datas]))
  have h_k := inR_i64 (hok (.int .i64 k) (by simp [datasL, datas]))
  have h_l := inR_i64 (hok (.int .i64 l) (by simp [datasL, datas]))
  clear hok hw
  exact crossVRef_ok (K := fun v M => some (Res.fin v M))
def s_fringeref02_Cross : List AV → List Blk → (AV → List Blk → Ans) → Ans := fun xs bs K => match xs, bs with
  | [.v (.agg [.int .i64 a, .int .i64 b, .int .i64 c, .int .i64 d, .int .i64 e, .int .i64 f]), .v (.agg [.int .i64 g, .int .i64 h, .int .i64 i, .int .i64 j, .int .i64 k, .int .i64 l])], [] => K (rVecE (crossV ⟨⟨a, b⟩, ⟨c, d⟩, ⟨e, f⟩⟩ ⟨⟨g, h⟩, ⟨i, j⟩, ⟨k, l⟩⟩)) []
  | _, _ => none
def T_fringeref02_Cross : Nat → List AV → List Blk → (AV → List Blk → Ans) → Ans := upd T_fringeref02_Dot 18 s_fringeref02_Cross
theorem g_fringeref02_Cross : GOK Tryd.prog GT gbT T_fringeref02_Cross XT := by
  refine GOK.upd g_fringeref02_Dot (fun args w => Tryd.call18 args w) fun xs bs K r h => ?_
  unfold s_fringeref02_Cross at h
  split at h
  · exact ⟨_, _, c_fringeref02_Cross _ _ _ _ _ _ _ _ _ _ _ _, h⟩
  · cases h


set_option maxRecDepth 100000 in
/-- fringelaw02.VecWorks -/
theorem w_fringelaw02_VecWorks (a b c d e f g h i j k l m n : Int) (K : AV → List Blk → Ans) : evFn Tryd.prog GT EQT T_fringeref02_Cross XT noL 120 3 [.v (.agg [.int .i64 a, .int .i64 b, .int .i64 c, .int .i64 d, .int .i64 e, .int .i64 f]), .v (.agg [.int .i64 g, .int .i64 h, .int .i64 i, .int .i64 j, .int .i64 k, .int .i64 l]), .v (.agg [.int .i64 m, .int .i64 n])] [] (fun v M => K v (M.take ([] : List Blk).length)) = lawVecWorks K ⟨⟨a, b⟩, ⟨c, d⟩, ⟨e, f⟩⟩ ⟨⟨g, h⟩, ⟨i, j⟩, ⟨k, l⟩⟩ ⟨m, n⟩ := by
  kernel_rfl
set_option maxRecDepth 100000 in
theorem c_fringelaw02_VecWorks (a b c d e f g h i j k l m n : Int) : CallsA Tryd.prog GT gbT 3 [.v (.agg [.int .i64 a, .int .i64 b, .int .i64 c, .int .i64 d, .int .i64 e, .int .i64 f]), .v (.agg [.int .i64 g, .int .i64 h, .int .i64 i, .int .i64 j, .int .i64 k, .int .i64 l]), .v (.agg [.int .i64 m, .int .i64 n])] [] (rB true) [] := by
  refine CallsA.ofOk fun hok => ?_
  have hw := w_fringelaw02_VecWorks a b c d e f g h i j k l m n (fun v M => some (Res.fin v M))
  refine CallsA.ofEv (Γ := T_fringeref02_Cross) (X := XT) (Λ := noL) (EQ := EQT) (n := 120) g_fringeref02_Cross hEQT hmT (fun _ _ _ _ => noL_ok _) (hw.trans ?_)
  have h_a := inR_i64 (hok (.int .i64 a) (by simp [datasL, datas]))
  have h_b := inR_i64 (hok (.int .i64 b) (by simp [datasL, datas]))
  have h_c := inR_i64 (hok (.int .i64 c) (by simp [datasL, datas]))
  have h_d := inR_i64 (hok (.int .i64 d) (by simp [datasL, datas]))
  have h_e := inR_i64 (hok (.int .i64 e) (by simp [datasL, datas]))
  have h_f := inR_i64 (hok (.int .i64 f) (by simp [datasL, datas]))
  have h_g := inR_i64 (hok (.int .i64 g) (by simp [datasL, datas]))
  have h_h := inR_i64 (hok (.int .i64 h) (by simp [datasL, datas]))
  have h_i := inR_i64 (hok (.int .i64 i) (by simp [datasL, datas]))
  have h_j := inR_i64 (hok (.int .i64 j) (by simp [datasL, datas]))
  have h_k := inR_i64 (hok (.int .i64 k) (by simp [datasL, datas]))
  have h_l := inR_i64 (hok (.int .i64 l) (by simp [datasL, datas]))
  have h_m := inR_i64 (hok (.int .i64 m) (by simp [datasL, datas]))
  have h_n := inR_i64 (hok (.int .i64 n) (by simp [datasL, datas]))
  clear hok hw
  exact lawVecWorks_ok (K := fun v M => some (Res.fin v M))
def s_fringelaw02_VecWorks : List AV → List Blk → (AV → List Blk → Ans) → Ans := fun xs bs K => match xs, bs with
  | [.v (.agg [.int .i64 _, .int .i64 _, .int .i64 _, .int .i64 _, .int .i64 _, .int .i64 _]), .v (.agg [.int .i64 _, .int .i64 _, .int .i64 _, .int .i64 _, .int .i64 _, .int .i64 _]), .v (.agg [.int .i64 _, .int .i64 _])], [] => K (rB true) []
  | _, _ => none
def T_fringelaw02_VecWorks : Nat → List AV → List Blk → (AV → List Blk → Ans) → Ans := upd T_fringeref02_Cross 3 s_fringelaw02_VecWorks
theorem g_fringelaw02_VecWorks : GOK Tryd.prog GT gbT T_fringelaw02_VecWorks XT := by
  refine GOK.upd g_fringeref02_Cross (fun args w => Tryd.call3 args w) fun xs bs K r h => ?_
  unfold s_fringelaw02_VecWorks at h
  split at h
  · exact ⟨_, _, c_fringelaw02_VecWorks _ _ _ _ _ _ _ _ _ _ _ _ _ _, h⟩
  · cases h


end Go.Ev
