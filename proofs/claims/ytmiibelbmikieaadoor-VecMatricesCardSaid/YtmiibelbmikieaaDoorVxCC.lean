/-
  Contracts of functions: what each returns. No condition beyond those of the statements.
-/
import Derived.Test.YtmiibelbmikieaaDoorVxCB
namespace Go.Ev
open Go Go.Proofs

set_option maxRecDepth 100000 in
/-- vec.dot -/
theorem w_vec_dot (a b c d e f g h i j k l : Int) (K : AV → List Blk → Ans) : evFn Tryd.prog GT EQT T_vec_Scale XT noL 120 56 [.v (.agg [.int .i64 a, .int .i64 b, .int .i64 c, .int .i64 d, .int .i64 e, .int .i64 f]), .v (.agg [.int .i64 g, .int .i64 h, .int .i64 i, .int .i64 j, .int .i64 k, .int .i64 l])] [] (fun v M => K v (M.take ([] : List Blk).length)) = dotAns K ⟨⟨a, b⟩, ⟨c, d⟩, ⟨e, f⟩⟩ ⟨⟨g, h⟩, ⟨i, j⟩, ⟨k, l⟩⟩ := by
  kernel_rfl
set_option maxRecDepth 100000 in
theorem c_vec_dot (a b c d e f g h i j k l : Int) : CallsA Tryd.prog GT gbT 56 [.v (.agg [.int .i64 a, .int .i64 b, .int .i64 c, .int .i64 d, .int .i64 e, .int .i64 f]), .v (.agg [.int .i64 g, .int .i64 h, .int .i64 i, .int .i64 j, .int .i64 k, .int .i64 l])] [] (rFracE (dotF ⟨⟨a, b⟩, ⟨c, d⟩, ⟨e, f⟩⟩ ⟨⟨g, h⟩, ⟨i, j⟩, ⟨k, l⟩⟩)) [] := by
  refine CallsA.ofOk fun hok => ?_
  have hw := w_vec_dot a b c d e f g h i j k l (fun v M => some (Res.fin v M))
  refine CallsA.ofEv (Γ := T_vec_Scale) (X := XT) (Λ := noL) (EQ := EQT) (n := 120) g_vec_Scale hEQT hmT (fun _ _ _ _ => noL_ok _) (hw.trans ?_)
  have h_a := inR_i64 (hok (.int .i64 a) (by simp [datasL, datas]))
  have h_b := inR_i64 (hok (.int .i64 b) (by simp [datasL, datas]))
  have h_c := inR_i64 (hok (.int .i64 c) (by simp [datasL, datas]))
  have h_d := inR_i64 (hok (.int .i64 d) (by simp [datasL, datas]))
  have h_e := inR_i64 (hok (.int .i64 e) (by simp [datasL, datas]))
  have h_f := inR_i64 (hok (.int .i64 f) (by simp [datasL, datas]))
  have h_g := inR_i64 (hok (.int .i64 g) (by simp [datasL, datas]))
  have h_h := inR_i64 (hok (.int .i64 h) (by simp [datasL, datas]))
  have h_i := inR_i64 (hok (.int .i64 i) (by simp [datasL, datas]))
  have h_j := inR_i64 (hok (.int .i64 j) (by simp [datasL, datas]))
  have h_k := inR_i64 (hok (.int .i64 k) (by simp [datasL, datas]))
  have h_l := inR_i64 (hok (.int .i64 l) (by simp [datasL, datas]))
  clear hok hw
  exact dotAns_ok (K := fun v M => some (Res.fin v M))
def s_vec_dot : List AV → List Blk → (AV → List Blk → Ans) → Ans := fun xs bs K => match xs, bs with
  | [.v (.agg [.int .i64 a, .int .i64 b, .int .i64 c, .int .i64 d, .int .i64 e, .int .i64 f]), .v (.agg [.int .i64 g, .int .i64 h, .int .i64 i, .int .i64 j, .int .i64 k, .int .i64 l])], [] => K (rFracE (dotF ⟨⟨a, b⟩, ⟨c, d⟩, ⟨e, f⟩⟩ ⟨⟨g, h⟩, ⟨i, j⟩, ⟨k, l⟩⟩)) []
  | _, _ => none
def T_vec_dot : Nat → List AV → List Blk → (AV → List Blk → Ans) → Ans := upd T_vec_Scale 56 s_vec_dot
theorem g_vec_dot : GOK Tryd.prog GT gbT T_vec_dot XT := by
  refine GOK.upd g_vec_Scale (fun args w => Tryd.call56 args w) fun xs bs K r h => ?_
  unfold s_vec_dot at h
  split at h
  · exact ⟨_, _, c_vec_dot _ _ _ _ _ _ _ _ _ _ _ _, h⟩
  · cases h


set_option maxRecDepth 100000 in
/-- vec.Dot -/
theorem w_vec_Dot (a b c d e f g h i j k l : Int) (K : AV → List Blk → Ans) : evFn Tryd.prog GT EQT (inl Tryd.prog GT EQT XT [43, 45] T_vec_dot 120 2) XT noL 120 15 [.v (.agg [.int .i64 a, .int .i64 b, .int .i64 c, .int .i64 d, .int .i64 e, .int .i64 f]), .v (.agg [.int .i64 g, .int .i64 h, .int .i64 i, .int .i64 j, .int .i64 k, .int .i64 l])] [] (fun v M => K v (M.take ([] : List Blk).length)) = dotVAns K ⟨⟨a, b⟩, ⟨c, d⟩, ⟨e, f⟩⟩ ⟨⟨g, h⟩, ⟨i, j⟩, ⟨k, l⟩⟩ := by
  kernel_rfl
set_option maxRecDepth 100000 in
theorem c_vec_Dot (a b c d e f g h i j k l : Int) : CallsA Tryd.prog GT gbT 15 [.v (.agg [.int .i64 a, .int .i64 b, .int .i64 c, .int .i64 d, .int .i64 e, .int .i64 f]), .v (.agg [.int .i64 g, .int .i64 h, .int .i64 i, .int .i64 j, .int .i64 k, .int .i64 l])] [] (rFracE (dotV ⟨⟨a, b⟩, ⟨c, d⟩, ⟨e, f⟩⟩ ⟨⟨g, h⟩, ⟨i, j⟩, ⟨k, l⟩⟩)) [] := by
  refine CallsA.ofOk fun hok => ?_
  have hw := w_vec_Dot a b c d e f g h i j k l (fun v M => some (Res.fin v M))
  refine CallsA.ofEv (Γ := (inl Tryd.prog GT EQT XT [43, 45] T_vec_dot 120 2)) (X := XT) (Λ := noL) (EQ := EQT) (n := 120) (g_vec_dot.inl hEQT hmT (fun f hf => by simp only [List.mem_cons, List.not_mem_nil, or_false] at hf; rcases hf with rfl | rfl <;> first | exact (fun args w => Tryd.call43 args w) | exact (fun args w => Tryd.call45 args w)) 120 2) hEQT hmT (fun _ _ _ _ => noL_ok _) (hw.trans ?_)
  have h_a := inR_i64 (hok (.int .i64 a) (by simp [datasL, datas]))
  have h_b := inR_i64 (hok (.int .i64 b) (by simp [datasL, datas]))
  have h_c := inR_i64 (hok (.int .i64 c) (by simp [datasL, datas]))
  have h_d := inR_i64 (hok (.int .i64 d) (by simp [datasL, datas]))
  have h_e := inR_i64 (hok (.int .i64 e) (by simp [datasL, datas]))
  have h_f := inR_i64 (hok (.int .i64 f) (by simp [datasL, datas]))
  have h_g := inR_i64 (hok (.int .i64 g) (by simp [datasL, datas]))
  have h_h := inR_i64 (hok (.int .i64 h) (by simp [datasL, datas]))
  have h_i := inR_i64 (hok (.int .i64 i) (by simp [datasL, datas]))
  have h_j := inR_i64 (hok (.int .i64 j) (by simp [datasL, datas]))
  have h_k := inR_i64 (hok (.int .i64 k) (by simp [datasL, datas]))
  have h_l := inR_i64 (hok (.int .i64 l) (by simp [datasL, datas]))
  clear hok hw
  exact dotVAns_ok (K := fun v M => some (Res.fin v M))
def s_vec_Dot : List AV → List Blk → (AV → List Blk → Ans) → Ans := fun xs bs K => match xs, bs with
  | [.v (.agg [.int .i64 a, .int .i64 b, .int .i64 c, .int .i64 d, .int .i64 e, .int .i64 f]), .v (.agg [.int .i64 g, .int .i64 h, .int .i64 i, .int .i64 j, .int .i64 k, .int .i64 l])], [] => K (rFracE (dotV ⟨⟨a, b⟩, ⟨c, d⟩, ⟨e, f⟩⟩ ⟨⟨g, h⟩, ⟨i, j⟩, ⟨k, l⟩⟩)) []
  | _, _ => none
def T_vec_Dot : Nat → List AV → List Blk → (AV → List Blk → Ans) → Ans := upd T_vec_dot 15 s_vec_Dot
theorem g_vec_Dot : GOK Tryd.prog GT gbT T_vec_Dot XT := by
  refine GOK.upd g_vec_dot (fun args w => Tryd.call15 args w) fun xs bs K r h => ?_
  unfold s_vec_Dot at h
  split at h
  · exact ⟨_, _, c_vec_Dot _ _ _ _ _ _ _ _ _ _ _ _, h⟩
  · cases h


set_option maxRecDepth 100000 in
/-- vec.cross -/
theorem w_vec_cross (a b c d e f g h i j k l : Int) (K : AV → List Blk → Ans) : evFn Tryd.prog GT EQT (inl Tryd.prog GT EQT XT [44, 83] T_vec_Dot 120 3) XT noL 120 58 [.v (.agg [.int .i64 a, .int .i64 b, .int .i64 c, .int .i64 d, .int .i64 e, .int .i64 f]), .v (.agg [.int .i64 g, .int .i64 h, .int .i64 i, .int .i64 j, .int .i64 k, .int .i64 l])] [] (fun v M => K v (M.take ([] : List Blk).length)) = crossAns K ⟨⟨a, b⟩, ⟨c, d⟩, ⟨e, f⟩⟩ ⟨⟨g, h⟩, ⟨i, j⟩, ⟨k, l⟩⟩ := by
  kernel_rfl
set_option maxRecDepth 100000 in
theorem c_vec_cross (a b c d e f g h i j k l : Int) : CallsA Tryd.prog GT gbT 58 [.v (.agg [.int .i64 a, .int .i64 b, .int .i64 c, .int .i64 d, .int .i64 e, .int .i64 f]), .v (.agg [.int .i64 g, .int .i64 h, .int .i64 i, .int .i64 j, .int .i64 k, .int .i64 l])] [] (rVecE (crossF ⟨⟨a, b⟩, ⟨c, d⟩, ⟨e, f⟩⟩ ⟨⟨g, h⟩, ⟨i, j⟩, ⟨k, l⟩⟩)) [] := by
  refine CallsA.ofOk fun hok => ?_
  have hw := w_vec_cross a b c d e f g h i j k l (fun v M => some (Res.fin v M))
  refine CallsA.ofEv (Γ := (inl Tryd.prog GT EQT XT [44, 83] T_vec_Dot 120 3)) (X := XT) (Λ := noL) (EQ := EQT) (n := 120) (g_vec_Dot.inl hEQT hmT (fun f hf => by simp only [List.mem_cons, List.not_mem_nil, or_false] at hf; rcases hf with rfl | rfl <;> first | exact (fun args w => Tryd.call44 args w) | exact (fun args w => Tryd.call83 args w)) 120 3) hEQT hmT (fun _ _ _ _ => noL_ok _) (hw.trans ?_)
  have h_a := inR_i64 (hok (.int .i64 a) (by simp [datasL, datas]))
  have h_b := inR_i64 (hok (.int .i64 b) (by simp [datasL, datas]))
  have h_c := inR_i64 (hok (.int .i64 c) (by simp [datasL, datas]))
  have h_d := inR_i64 (hok (.int .i64 d) (by simp [datasL, datas]))
  have h_e := inR_i64 (hok (.int .i64 e) (by simp [datasL, datas]))
  have h_f := inR_i64 (hok (.int .i64 f) (by simp [datasL, datas]))
  have h_g := inR_i64 (hok (.int .i64 g) (by simp [datasL, datas]))
  have h_h := inR_i64 (hok (.int .i64 h) (by simp [datasL, datas]))
  have h_i := inR_i64 (hok (.int .i64 i) (by simp [datasL, datas]))
  have h_j := inR_i64 (hok (.int .i64 j) (by simp [datasL, datas]))
  have h_k := inR_i64 (hok (.int .i64 k) (by simp [datasL, datas]))
  have h_l := inR_i64 (hok (.int .i64 l) (by simp [datasL, datas]))
  clear hok hw
  exact crossAns_ok (K := fun v M => some (Res.fin v M))
def s_vec_cross : List AV → List Blk → (AV → List Blk → Ans) → Ans := fun xs bs K => match xs, bs with
  | [.v (.agg [.int .i64 a, .int .i64 b, .int .i64 c, .int .i64 d, .int .i64 e, .int .i64 f]), .v (.agg [.int .i64 g, .int .i64 h, .int .i64 i, .int .i64 j, .int .i64 k, .int .i64 l])], [] => K (rVecE (crossF ⟨⟨a, b⟩, ⟨c, d⟩, ⟨e, f⟩⟩ ⟨⟨g, h⟩, ⟨i, j⟩, ⟨k, l⟩⟩)) []
  | _, _ => none
def T_vec_cross : Nat → List AV → List Blk → (AV → List Blk → Ans) → Ans := upd T_vec_Dot 58 s_vec_cross
theorem g_vec_cross : GOK Tryd.prog GT gbT T_vec_cross XT := by
  refine GOK.upd g_vec_Dot (fun args w => Tryd.call58 args w) fun xs bs K r h => ?_
  unfold s_vec_cross at h
  split at h
  · exact ⟨_, _, c_vec_cross _ _ _ _ _ _ _ _ _ _ _ _, h⟩
  · cases h


set_option maxRecDepth 100000 in
/-- vec.Cross -/
theorem w_vec_Cross (a b c d e f g h i j k l : Int) (K : AV → List Blk → Ans) : evFn Tryd.prog GT EQT (inl Tryd.prog GT EQT XT [43, 45] T_vec_cross 120 2) XT noL 120 17 [.v (.agg [.int .i64 a, .int .i64 b, .int .i64 c, .int .i64 d, .int .i64 e, .int .i64 f]), .v (.agg [.int .i64 g, .int .i64 h, .int .i64 i, .int .i64 j, .int .i64 k, .int .i64 l])] [] (fun v M => K v (M.take ([] : List Blk).length)) = crossVAns K ⟨⟨a, b⟩, ⟨c, d⟩, ⟨e, f⟩⟩ ⟨⟨g, h⟩, ⟨i, j⟩, ⟨k, l⟩⟩ := by
  kernel_rfl
set_option maxRecDepth 100000 in
theorem c_vec_Cross (a b c d e f g h i j k l : Int) : CallsA Tryd.prog GT gbT 17 [.v (.agg [.int .i64 a, .int .i64 b, .int .i64 c, .int .i64 d, .int .i64 e, .int .i64 f]), .v (.agg [.int .i64 g, .int .i64 h, .int .i64 i, .int .i64 j, .int .i64 k, .int .i64 l])] [] (rVecE (crossV ⟨⟨a, b⟩, ⟨c, d⟩, ⟨e, f⟩⟩ ⟨⟨g, h⟩, ⟨i, j⟩, ⟨k, l⟩⟩)) [] := by
  refine CallsA.ofOk fun hok => ?_
  have hw := w_vec_Cross a b c d e f g h i j k l (fun v M => some (Res.fin v M))
  refine CallsA.ofEv (Γ := (inl Tryd.prog GT EQT XT [43, 45] T_vec_cross 120 2)) (X := XT) (Λ := noL) (EQ := EQT) (n := 120) (g_vec_cross.inl hEQT hmT (fun f hf => by simp only [List.mem_cons, List.not_mem_nil, or_false] at hf; rcases hf with rfl | rfl <;> first | exact (fun args w => Tryd.call43 args w) | exact (fun args w => Tryd.call45 args w)) 120 2) hEQT hmT (fun _ _ _ _ => noL_ok _) (hw.trans ?_)
  have h_a := inR_i64 (hok (.int .i64 a) (by simp [datasL, datas]))
  have h_b := inR_i64 (hok (.int .i64 b) (by simp [datasL, datas]))
  have h_c := inR_i64 (hok (.int .i64 c) (by simp [datasL, datas]))
  have h_d := inR_i64 (hok (.int .i64 d) (by simp [datasL, datas]))
  have h_e := inR_i64 (hok (.int .i64 e) (by simp [datasL, datas]))
  have h_f := inR_i64 (hok (.int .i64 f) (by simp [datasL, datas]))
  have h_g := inR_i64 (hok (.int .i64 g) (by simp [datasL, datas]))
  have h_h := inR_i64 (hok (.int .i64 h) (by simp [datasL, datas]))
  have h_i := inR_i64 (hok (.int .i64 i) (by simp [datasL, datas]))
  have h_j := inR_i64 (hok (.int .i64 j) (by simp [datasL, datas]))
  have h_k := inR_i64 (hok (.int .i64 k) (by simp [datasL, datas]))
  have h_l := inR_i64 (hok (.int .i64 l) (by simp [datasL, datas]))
  clear hok hw
  exact crossVAns_ok (K := fun v M => some (Res.fin v M))
def s_vec_Cross : List AV → List Blk → (AV → List Blk → Ans) → Ans := fun xs bs K => match xs, bs with
  | [.v (.agg [.int .i64 a, .int .i64 b, .int .i64 c, .int .i64 d, .int .i64 e, .int .i64 f]), .v (.agg [.int .i64 g, .int .i64 h, .int .i64 i, .int .i64 j, .int .i64 k, .int .i64 l])], [] => K (rVecE (crossV ⟨⟨a, b⟩, ⟨c, d⟩, ⟨e, f⟩⟩ ⟨⟨g, h⟩, ⟨i, j⟩, ⟨k, l⟩⟩)) []
  | _, _ => none
def T_vec_Cross : Nat → List AV → List Blk → (AV → List Blk → Ans) → Ans := upd T_vec_cross 17 s_vec_Cross
theorem g_vec_Cross : GOK Tryd.prog GT gbT T_vec_Cross XT := by
  refine GOK.upd g_vec_cross (fun args w => Tryd.call17 args w) fun xs bs K r h => ?_
  unfold s_vec_Cross at h
  split at h
  · exact ⟨_, _, c_vec_Cross _ _ _ _ _ _ _ _ _ _ _ _, h⟩
  · cases h


set_option maxRecDepth 100000 in
/-- fringeref02.first -/
theorem w_fringeref02_first (a b c : Int) (K : AV → List Blk → Ans) : evFn Tryd.prog GT EQT T_vec_Cross XT noL 60 50 [.v (.c (.d (.int .i64 a))), .v (.c (.d (.int .i64 b))), .v (.c (.d (.int .i64 c)))] [] (fun v M => K v (M.take ([] : List Blk).length)) = K (rI (firstI a b c)) [] := by
  simp only [firstI, pullK K]
  kernel_rfl
set_option maxRecDepth 100000 in
theorem c_fringeref02_first (a b c : Int) : CallsA Tryd.prog GT gbT 50 [.v (.c (.d (.int .i64 a))), .v (.c (.d (.int .i64 b))), .v (.c (.d (.int .i64 c)))] [] (rI (firstI a b c)) [] := by
  refine CallsA.ofOk fun hok => ?_
  have hw := w_fringeref02_first a b c (fun v M => some (Res.fin v M))
  refine CallsA.ofEv (Γ := T_vec_Cross) (X := XT) (Λ := noL) (EQ := EQT) (n := 60) g_vec_Cross hEQT hmT (fun _ _ _ _ => noL_ok _) (hw.trans ?_)
  rfl
def s_fringeref02_first : List AV → List Blk → (AV → List Blk → Ans) → Ans := fun xs bs K => match xs, bs with
  | [.v (.c (.d (.int .i64 a))), .v (.c (.d (.int .i64 b))), .v (.c (.d (.int .i64 c)))], [] => K (rI (firstI a b c)) []
  | _, _ => none
def T_fringeref02_first : Nat → List AV → List Blk → (AV → List Blk → Ans) → Ans := upd T_vec_Cross 50 s_fringeref02_first
theorem g_fringeref02_first : GOK Tryd.prog GT gbT T_fringeref02_first XT := by
  refine GOK.upd g_vec_Cross (fun args w => Tryd.call50 args w) fun xs bs K r h => ?_
  unfold s_fringeref02_first at h
  split at h
  · exact ⟨_, _, c_fringeref02_first _ _ _, h⟩
  · cases h


set_option maxRecDepth 100000 in
/-- fringeref02.vec -/
theorem w_fringeref02_vec (a b c d e f g : Int) (K : AV → List Blk → Ans) : evFn Tryd.prog GT EQT T_fringeref02_first XT noL 60 49 [.v (.agg [.int .i64 a, .int .i64 b]), .v (.agg [.int .i64 c, .int .i64 d]), .v (.agg [.int .i64 e, .int .i64 f]), .v (.c (.d (.int .i64 g)))] [] (fun v M => K v (M.take ([] : List Blk).length)) = K (rVecE (vecR ⟨a, b⟩ ⟨c, d⟩ ⟨e, f⟩ g)) [] := by
  simp only [vecR, pullK K]
  kernel_rfl
set_option maxRecDepth 100000 in
theorem c_fringeref02_vec (a b c d e f g : Int) : CallsA Tryd.prog GT gbT 49 [.v (.agg [.int .i64 a, .int .i64 b]), .v (.agg [.int .i64 c, .int .i64 d]), .v (.agg [.int .i64 e, .int .i64 f]), .v (.c (.d (.int .i64 g)))] [] (rVecE (vecR ⟨a, b⟩ ⟨c, d⟩ ⟨e, f⟩ g)) [] := by
  refine CallsA.ofOk fun hok => ?_
  have hw := w_fringeref02_vec a b c d e f g (fun v M => some (Res.fin v M))
  refine CallsA.ofEv (Γ := T_fringeref02_first) (X := XT) (Λ := noL) (EQ := EQT) (n := 60) g_fringeref02_first hEQT hmT (fun _ _ _ _ => noL_ok _) (hw.trans ?_)
  rfl
def s_fringeref02_vec : List AV → List Blk → (AV → List Blk → Ans) → Ans := fun xs bs K => match xs, bs with
  | [.v (.agg [.int .i64 a, .int .i64 b]), .v (.agg [.int .i64 c, .int .i64 d]), .v (.agg [.int .i64 e, .int .i64 f]), .v (.c (.d (.int .i64 g)))], [] => K (rVecE (vecR ⟨a, b⟩ ⟨c, d⟩ ⟨e, f⟩ g)) []
  | _, _ => none
def T_fringeref02_vec : Nat → List AV → List Blk → (AV → List Blk → Ans) → Ans := upd T_fringeref02_first 49 s_fringeref02_vec
theorem g_fringeref02_vec : GOK Tryd.prog GT gbT T_fringeref02_vec XT := by
  refine GOK.upd g_fringeref02_first (fun args w => Tryd.call49 args w) fun xs bs K r h => ?_
  unfold s_fringeref02_vec at h
  split at h
  · exact ⟨_, _, c_fringeref02_vec _ _ _ _ _ _ _, h⟩
  · cases h


set_option maxRecDepth 100000 in
/-- fringeref02.Neg -/
theorem w_fringeref02_Neg (a b c d e f : Int) (K : AV → List Blk → Ans) : evFn Tryd.prog GT EQT T_fringeref02_vec XT noL 60 24 [.v (.agg [.int .i64 a, .int .i64 b, .int .i64 c, .int .i64 d, .int .i64 e, .int .i64 f])] [] (fun v M => K v (M.take ([] : List Blk).length)) = K (rVec (negV ⟨⟨a, b⟩, ⟨c, d⟩, ⟨e, f⟩⟩)) [] := by
  kernel_rfl
set_option maxRecDepth 100000 in
theorem c_fringeref02_Neg (a b c d e f : Int) : CallsA Tryd.prog GT gbT 24 [.v (.agg [.int .i64 a, .int .i64 b, .int .i64 c, .int .i64 d, .int .i64 e, .int .i64 f])] [] (rVec (negV ⟨⟨a, b⟩, ⟨c, d⟩, ⟨e, f⟩⟩)) [] := by
  refine CallsA.ofOk fun hok => ?_
  have hw := w_fringeref02_Neg a b c d e f (fun v M => some (Res.fin v M))
  refine CallsA.ofEv (Γ := T_fringeref02_vec) (X := XT) (Λ := noL) (EQ := EQT) (n := 60) g_fringeref02_vec hEQT hmT (fun _ _ _ _ => noL_ok _) (hw.trans ?_)
  rfl
def s_fringeref02_Neg : List AV → List Blk → (AV → List Blk → Ans) → Ans := fun xs bs K => match xs, bs with
  | [.v (.agg [.int .i64 a, .int .i64 b, .int .i64 c, .int .i64 d, .int .i64 e, .int .i64 f])], [] => K (rVec (negV ⟨⟨a, b⟩, ⟨c, d⟩, ⟨e, f⟩⟩)) []
  | _, _ => none
def T_fringeref02_Neg : Nat → List AV → List Blk → (AV → List Blk → Ans) → Ans := upd T_fringeref02_vec 24 s_fringeref02_Neg
theorem g_fringeref02_Neg : GOK Tryd.prog GT gbT T_fringeref02_Neg XT := by
  refine GOK.upd g_fringeref02_vec (fun args w => Tryd.call24 args w) fun xs bs K r h => ?_
  unfold s_fringeref02_Neg at h
  split at h
  · exact ⟨_, _, c_fringeref02_Neg _ _ _ _ _ _, h⟩
  · cases h


set_option maxRecDepth 100000 in
/-- fringeref02.Add -/
theorem w_fringeref02_Add (a b c d e f g h i j k l : Int) (K : AV → List Blk → Ans) : evFn Tryd.prog GT EQT T_fringeref02_Neg XT noL 120 10 [.v (.agg [.int .i64 a, .int .i64 b, .int .i64 c, .int .i64 d, .int .i64 e, .int .i64 f]), .v (.agg [.int .i64 g, .int .i64 h, .int .i64 i, .int .i64 j, .int .i64 k, .int .i64 l])] [] (fun v M => K v (M.take ([] : List Blk).length)) = addVRef K ⟨⟨a, b⟩, ⟨c, d⟩, ⟨e, f⟩⟩ ⟨⟨g, h⟩, ⟨i, j⟩, ⟨k, l⟩⟩ := by
  kernel_rfl
set_option maxRecDepth 100000 in
theorem c_fringeref02_Add (a b c d e f g h i j k l : Int) : CallsA Tryd.prog GT gbT 10 [.v (.agg [.int .i64 a, .int .i64 b, .int .i64 c, .int .i64 d, .int .i64 e, .int .i64 f]), .v (.agg [.int .i64 g, .int .i64 h, .int .i64 i, .int .i64 j, .int .i64 k, .int .i64 l])] [] (rVecE (addV ⟨⟨a, b⟩, ⟨c, d⟩, ⟨e, f⟩⟩ ⟨⟨g, h⟩, ⟨i, j⟩, ⟨k, l⟩⟩)) [] := by
  refine CallsA.ofOk fun hok => ?_
  have hw := w_fringeref02_Add a b c d e f g h i j k l (fun v M => some (Res.fin v M))
  refine CallsA.ofEv (Γ := T_fringeref02_Neg) (X := XT) (Λ := noL) (EQ := EQT) (n := 120) g_fringeref02_Neg hEQT hmT (fun _ _ _ _ => noL_ok _) (hw.trans ?_)
  have h_a := inR_i64 (hok (.int .i64 a) (by simp [datasL, datas]))
  have h_b := inR_i64 (hok (.int .i64 b) (by simp [datasL, datas]))
  have h_c := inR_i64 (hok (.int .i64 c) (by simp [datasL, datas]))
  have h_d := inR_i64 (hok (.int .i64 d) (by simp [datasL, datas]))
  have h_e := inR_i64 (hok (.int .i64 e) (by simp [datasL, datas]))
  have h_f := inR_i64 (hok (.int .i64 f) (by simp [datasL, datas]))
  have h_g := inR_i64 (hok (.int .i64 g) (by simp [datasL, datas]))
  have h_h := inR_i64 (hok (.int .i64 h) (by simp [datasL, datas]))
  have h_i := inR_i64 (hok (.int .i64 i) (by simp [datasL, datas]))
  have h_j := inR_i64 (hok (.int .i64 j) (by simp [datasL, datas]))
  have h_k := inR_i64 (hok (.int .i64 k) (by simp [datasL, datas]))
  have h_l := inR_i64 (hok (.int .i64 l) (by simp [datasL, datas]))
  clear hok hw
  exact addVRef_ok (K := fun v M => some (Res.fin v M))
def s_fringeref02_Add : List AV → List Blk → (AV → List Blk → Ans) → Ans := fun xs bs K => match xs, bs with
  | [.v (.agg [.int .i64 a, .int .i64 b, .int .i64 c, .int .i64 d, .int .i64 e, .int .i64 f]), .v (.agg [.int .i64 g, .int .i64 h, .int .i64 i, .int .i64 j, .int .i64 k, .int .i64 l])], [] => K (rVecE (addV ⟨⟨a, b⟩, ⟨c, d⟩, ⟨e, f⟩⟩ ⟨⟨g, h⟩, ⟨i, j⟩, ⟨k, l⟩⟩)) []
  | _, _ => none
def T_fringeref02_Add : Nat → List AV → List Blk → (AV → List Blk → Ans) → Ans := upd T_fringeref02_Neg 10 s_fringeref02_Add
theorem g_fringeref02_Add : GOK Tryd.prog GT gbT T_fringeref02_Add XT := by
  refine GOK.upd g_fringeref02_Neg (fun args w => Tryd.call10 args w) fun xs bs K r h => ?_
  unfold s_fringeref02_Add at h
  split at h
  · exact ⟨_, _, c_fringeref02_Add _ _ _ _ _ _ _ _ _ _ _ _, h⟩
  · cases h


set_option maxRecDepth 100000 in
/-- fringeref02.Sub -/
theorem w_fringeref02_Sub (a b c d e f g h i j k l : Int) (K : AV → List Blk → Ans) : evFn Tryd.prog GT EQT T_fringeref02_Add XT noL 120 12 [.v (.agg [.int .i64 a, .int .i64 b, .int .i64 c, .int .i64 d, .int .i64 e, .int .i64 f]), .v (.agg [.int .i64 g, .int .i64 h, .int .i64 i, .int .i64 j, .int .i64 k, .int .i64 l])] [] (fun v M => K v (M.take ([] : List Blk).length)) = subVRef K ⟨⟨a, b⟩, ⟨c, d⟩, ⟨e, f⟩⟩ ⟨⟨g, h⟩, ⟨i, j⟩, ⟨k, l⟩⟩ := by
  kernel_rfl
set_option maxRecDepth 100000 in
theorem c_fringeref02_Sub (a b c d e f g h i j k l : Int) : CallsA Tryd.prog GT gbT 12 [.v (.agg [.int .i64 a, .int .i64 b, .int .i64 c, .int .i64 d, .int .i64 e, .int .i64 f]), .v (.agg [.int .i64 g, .int .i64 h, .int .i64 i, .int .i64 j, .int .i64 k, .int .i64 l])] [] (rVecE (subV ⟨⟨a, b⟩, ⟨c, d⟩, ⟨e, f⟩⟩ ⟨⟨g, h⟩, ⟨i, j⟩, ⟨k, l⟩⟩)) [] := by
  refine CallsA.ofOk fun hok => ?_
  have hw := w_fringeref02_Sub a b c d e f g h i j k l (fun v M => some (Res.fin v M))
  refine CallsA.ofEv (Γ := T_fringeref02_Add) (X := XT) (Λ := noL) (EQ := EQT) (n := 120) g_fringeref02_Add hEQT hmT (fun _ _ _ _ => noL_ok _) (hw.trans ?_)
  have h_a := inR_i64 (hok (.int .i64 a) (by simp [datasL, datas]))
  have h_b := inR_i64 (hok (.int .i64 b) (by simp [datasL, datas]))
  have h_c := inR_i64 (hok (.int .i64 c) (by simp [datasL, datas]))
  have h_d := inR_i64 (hok (.int .i64 d) (by simp [datasL, datas]))
  have h_e := inR_i64 (hok (.int .i64 e) (by simp [datasL, datas]))
  have h_f := inR_i64 (hok (.int .i64 f) (by simp [datasL, datas]))
  have h_g := inR_i64 (hok (.int .i64 g) (by simp [datasL, datas]))
  have h_h := inR_i64 (hok (.int .i64 h) (by simp [datasL, datas]))
  have h_i := inR_i64 (hok (.int .i64 i) (by simp [datasL, datas]))
  have h_j := inR_i64 (hok (.int .i64 j) (by simp [datasL, datas]))
  have h_k := inR_i64 (hok (.int .i64 k) (by simp [datasL, datas]))
  have h_l := inR_i64 (hok (.int .i64 l) (by simp [datasL, datas]))
  clear hok hw
  exact subVRef_ok (K := fun v M => some (Res.fin v M))
def s_fringeref02_Sub : List AV → List Blk → (AV → List Blk → Ans) → Ans := fun xs bs K => match xs, bs with
  | [.v (.agg [.int .i64 a, .int .i64 b, .int .i64 c, .int .i64 d, .int .i64 e, .int .i64 f]), .v (.agg [.int .i64 g, .int .i64 h, .int .i64 i, .int .i64 j, .int .i64 k, .int .i64 l])], [] => K (rVecE (subV ⟨⟨a, b⟩, ⟨c, d⟩, ⟨e, f⟩⟩ ⟨⟨g, h⟩, ⟨i, j⟩, ⟨k, l⟩⟩)) []
  | _, _ => none
def T_fringeref02_Sub : Nat → List AV → List Blk → (AV → List Blk → Ans) → Ans := upd T_fringeref02_Add 12 s_fringeref02_Sub
theorem g_fringeref02_Sub : GOK Tryd.prog GT gbT T_fringeref02_Sub XT := by
  refine GOK.upd g_fringeref02_Add (fun args w => Tryd.call12 args w) fun xs bs K r h => ?_
  unfold s_fringeref02_Sub at h
  split at h
  · exact ⟨_, _, c_fringeref02_Sub _ _ _ _ _ _ _ _ _ _ _ _, h⟩
  · cases h


set_option maxRecDepth 100000 in
/-- fringeref02.Scale -/
theorem w_fringeref02_Scale (a b c d e f g h : Int) (K : AV → List Blk → Ans) : evFn Tryd.prog GT EQT T_fringeref02_Sub XT noL 120 14 [.v (.agg [.int .i64 a, .int .i64 b, .int .i64 c, .int .i64 d, .int .i64 e, .int .i64 f]), .v (.agg [.int .i64 g, .int .i64 h])] [] (fun v M => K v (M.take ([] : List Blk).length)) = scaleRef K ⟨⟨a, b⟩, ⟨c, d⟩, ⟨e, f⟩⟩ ⟨g, h⟩ := by
  kernel_rfl
set_option maxRecDepth 100000 in
theorem c_fringeref02_Scale (a b c d e f g h : Int) : CallsA Tryd.prog GT gbT 14 [.v (.agg [.int .i64 a, .int .i64 b, .int .i64 c, .int .i64 d, .int .i64 e, .int .i64 f]), .v (.agg [.int .i64 g, .int .i64 h])] [] (rVecE (scaleV ⟨⟨a, b⟩, ⟨c, d⟩, ⟨e, f⟩⟩ ⟨g, h⟩)) [] := by
  refine CallsA.ofOk fun hok => ?_
  have hw := w_fringeref02_Scale a b c d e f g h (fun v M => some (Res.fin v M))
  refine CallsA.ofEv (Γ := T_fringeref02_Sub) (X := XT) (Λ := noL) (EQ := EQT) (n := 120) g_fringeref02_Sub hEQT hmT (fun _ _ _ _ => noL_ok _) (hw.trans ?_)
  have h_a := inR_i64 (hok (.int .i64 a) (by simp [datasL, datas]))
  have h_b := inR_i64 (hok (.int .i64 b) (by simp [datasL, datas]))
  have h_c := inR_i64 (hok (.int .i64 c) (by simp [datasL, datas]))
  have h_d := inR_i64 (hok (.int .i64 d) (by simp [datasL, datas]))
  have h_e := inR_i64 (hok (.int .i64 e) (by simp [datasL, datas]))
  have h_f := inR_i64 (hok (.int .i64 f) (by simp [datasL, datas]))
  have h_g := inR_i64 (hok (.int .i64 g) (by simp [datasL, datas]))
  have h_h := inR_i64 (hok (.int .i64 h) (by simp [datasL, datas]))
  clear hok hw
  exact scaleRef_ok (K := fun v M => some (Res.fin v M))
def s_fringeref02_Scale : List AV → List Blk → (AV → List Blk → Ans) → Ans := fun xs bs K => match xs, bs with
  | [.v (.agg [.int .i64 a, .int .i64 b, .int .i64 c, .int .i64 d, .int .i64 e, .int .i64 f]), .v (.agg [.int .i64 g, .int .i64 h])], [] => K (rVecE (scaleV ⟨⟨a, b⟩, ⟨c, d⟩, ⟨e, f⟩⟩ ⟨g, h⟩)) []
  | _, _ => none
def T_fringeref02_Scale : Nat → List AV → List Blk → (AV → List Blk → Ans) → Ans := upd T_fringeref02_Sub 14 s_fringeref02_Scale
theorem g_fringeref02_Scale : GOK Tryd.prog GT gbT T_fringeref02_Scale XT := by
  refine GOK.upd g_fringeref02_Sub (fun args w => Tryd.call14 args w) fun xs bs K r h => ?_
  unfold s_fringeref02_Scale at h
  split at h
  · exact ⟨_, _, c_fringeref02_Scale _ _ _ _ _ _ _ _, h⟩
  · cases h


set_option maxRecDepth 100000 in
/-- fringeref02.two -/
theorem w_fringeref02_two (a b c d e f g h : Int) (K : AV → List Blk → Ans) : evFn Tryd.prog GT EQT T_fringeref02_Scale XT noL 60 57 [.v (.agg [.int .i64 a, .int .i64 b]), .v (.agg [.int .i64 c, .int .i64 d]), .v (.agg [.int .i64 e, .int .i64 f]), .v (.agg [.int .i64 g, .int .i64 h])] [] (fun v M => K v (M.take ([] : List Blk).length)) = twoAns K ⟨a, b⟩ ⟨c, d⟩ ⟨e, f⟩ ⟨g, h⟩ := by
  kernel_rfl
set_option maxRecDepth 100000 in
theorem c_fringeref02_two (a b c d e f g h : Int) : CallsA Tryd.prog GT gbT 57 [.v (.agg [.int .i64 a, .int .i64 b]), .v (.agg [.int .i64 c, .int .i64 d]), .v (.agg [.int .i64 e, .int .i64 f]), .v (.agg [.int .i64 g, .int .i64 h])] [] (rFracE (twoF ⟨a, b⟩ ⟨c, d⟩ ⟨e, f⟩ ⟨g, h⟩)) [] := by
  refine CallsA.ofOk fun hok => ?_
  have hw := w_fringeref02_two a b c d e f g h (fun v M => some (Res.fin v M))
  refine CallsA.ofEv (Γ := T_fringeref02_Scale) (X := XT) (Λ := noL) (EQ := EQT) (n := 60) g_fringeref02_Scale hEQT hmT (fun _ _ _ _ => noL_ok _) (hw.trans ?_)
  have h_a := inR_i64 (hok (.int .i64 a) (by simp [datasL, datas]))
  have h_b := inR_i64 (hok (.int .i64 b) (by simp [datasL, datas]))
  have h_c := inR_i64 (hok (.int .i64 c) (by simp [datasL, datas]))
  have h_d := inR_i64 (hok (.int .i64 d) (by simp [datasL, datas]))
  have h_e := inR_i64 (hok (.int .i64 e) (by simp [datasL, datas]))
  have h_f := inR_i64 (hok (.int .i64 f) (by simp [datasL, datas]))
  have h_g := inR_i64 (hok (.int .i64 g) (by simp [datasL, datas]))
  have h_h := inR_i64 (hok (.int .i64 h) (by simp [datasL, datas]))
  clear hok hw
  exact twoAns_ok (K := fun v M => some (Res.fin v M))
def s_fringeref02_two : List AV → List Blk → (AV → List Blk → Ans) → Ans := fun xs bs K => match xs, bs with
  | [.v (.agg [.int .i64 a, .int .i64 b]), .v (.agg [.int .i64 c, .int .i64 d]), .v (.agg [.int .i64 e, .int .i64 f]), .v (.agg [.int .i64 g, .int .i64 h])], [] => K (rFracE (twoF ⟨a, b⟩ ⟨c, d⟩ ⟨e, f⟩ ⟨g, h⟩)) []
  | _, _ => none
def T_fringeref02_two : Nat → List AV → List Blk → (AV → List Blk → Ans) → Ans := upd T_fringeref02_Scale 57 s_fringeref02_two
theorem g_fringeref02_two : GOK Tryd.prog GT gbT T_fringeref02_two XT := by
  refine GOK.upd g_fringeref02_Scale (fun args w => Tryd.call57 args w) fun xs bs K r h => ?_
  unfold s_fringeref02_two at h
  split at h
  · exact ⟨_, _, c_fringeref02_two _ _ _ _ _ _ _ _, h⟩
  · cases h


set_option maxRecDepth 100000 in
/-- fringeref02.Dot -/
theorem w_fringeref02_Dot (a b c d e f g h i j k l : Int) (K : AV → List Blk → Ans) : evFn Tryd.prog GT EQT T_fringeref02_two XT noL 120 16 [.v (.agg [.int .i64 a, .int .i64 b, .int .i64 c, .int .i64 d, .int .i64 e, .int .i64 f]), .v (.agg [.int .i64 g, .int .i64 h, .int .i64 i, .int .i64 j, .int .i64 k, .int .i64 l])] [] (fun v M => K v (M.take ([] : List Blk).length)) = dotVRef K ⟨⟨a, b⟩, ⟨c, d⟩, ⟨e, f⟩⟩ ⟨⟨g, h⟩, ⟨i, j⟩, ⟨k, l⟩⟩ := by
  kernel_rfl
set_option maxRecDepth 100000 in
theorem c_fringeref02_Dot (a b c d e f g h i j k l : Int) : CallsA Tryd.prog GT gbT 16 [.v (.agg [.int .i64 a, .int .i64 b, .int .i64 c, .int .i64 d, .int .i64 e, .int .i64 f]), .v (.agg [.int .i64 g, .int .i64 h, .int .i64 i, .int .i64 j, .int .i64 k, .int .i64 l])] [] (rFracE (dotV ⟨⟨a, b⟩, ⟨c, d⟩, ⟨e, f⟩⟩ ⟨⟨g, h⟩, ⟨i, j⟩, ⟨k, l⟩⟩)) [] := by
  refine CallsA.ofOk fun hok => ?_
  have hw := w_fringeref02_Dot a b c d e f g h i j k l (fun v M => some (Res.fin v M))
  refine CallsA.ofEv (Γ := T_fringeref02_two) (X := XT) (Λ := noL) (EQ := EQT) (n := 120) g_fringeref02_two hEQT hmT (fun _ _ _ _ => noL_ok _) (hw.trans ?_)
  have h_a := inR_i64 (hok (.int .i64 a) (by simp [datasL, datas]))
  have h_b := inR_i64 (hok (.int .i64 b) (by simp [datasL, datas]))
  have h_c := inR_i64 (hok (.int .i64 c) (by simp [datasL, datas]))
  have h_d := inR_i64 (hok (.int .i64 d) (by simp [datasL, datas]))
  have h_e := inR_i64 (hok (.int .i64 e) (by simp [datasL, datas]))
  have h_f := inR_i64 (hok (.int .i64 f) (by simp [datasL, datas]))
  have h_g := inR_i64 (hok (.int .i64 g) (by simp [datasL, datas]))
  have h_h := inR_i64 (hok (.int .i64 h) (by simp [datasL, datas]))
  have h_i := inR_i64 (hok (.int .i64 i) (by simp [datasL, datas]))
  have h_j := inR_i64 (hok (.int .i64 j) (by simp [datasL, datas]))
  have h_k := inR_i64 (hok (.int .i64 k) (by simp [datasL, datas]))
  have h_l := inR_i64 (hok (.int .i64 l) (by simp [datasL, datas]))
  clear hok hw
  exact dotVRef_ok (K := fun v M => some (Res.fin v M))
def s_fringeref02_Dot : List AV → List Blk → (AV → List Blk → Ans) → Ans := fun xs bs K => match xs, bs with
  | [.v (.agg [.int .i64 a, .int .i64 b, .int .i64 c, .int .i64 d, .int .i64 e, .int .i64 f]), .v (.agg [.int .i64 g, .int .i64 h, .int .i64 i, .int .i64 j, .int .i64 k, .int .i64 l])], [] => K (rFracE (dotV ⟨⟨a, b⟩, ⟨c, d⟩, ⟨e, f⟩⟩ ⟨⟨g, h⟩, ⟨i, j⟩, ⟨k, l⟩⟩)) []
  | _, _ => none
def T_fringeref02_Dot : Nat → List AV → List Blk → (AV → List Blk → Ans) → Ans := upd T_fringeref02_two 16 s_fringeref02_Dot
theorem g_fringeref02_Dot : GOK Tryd.prog GT gbT T_fringeref02_Dot XT := by
  refine GOK.upd g_fringeref02_two (fun args w => Tryd.call16 args w) fun xs bs K r h => ?_
  unfold s_fringeref02_Dot at h
  split at h
  · exact ⟨_, _, c_fringeref02_Dot _ _ _ _ _ _ _ _ _ _ _ _, h⟩
  · cases h


set_option maxRecDepth 100000 in
/-- fringeref02.Cross -/
theorem w_fringeref02_Cross (a b c d e f g h i j k l : Int) (K : AV → List Blk → Ans) : evFn Tryd.prog GT EQT T_fringeref02_Dot XT noL 120 18 [.v (.agg [.int .i64 a, .int .i64 b, .int .i64 c, .int .i64 d, .int .i64 e, .int .i64 f]), .v (.agg [.int .i64 g, .int .i64 h, .int .i64 i, .int .i64 j, .int .i64 k, .int .i64 l])] [] (fun v M => K v (M.take ([] : List Blk).length)) = crossVRef K ⟨⟨a, b⟩, ⟨c, d⟩, ⟨e, f⟩⟩ ⟨⟨g, h⟩, ⟨i, j⟩, ⟨k, l⟩⟩ := by
  kernel_rfl
set_option maxRecDepth 100000 in
theorem c_fringeref02_Cross (a b c d e f g h i j k l : Int) : CallsA Tryd.prog GT gbT 18 [.v (.agg [.int .i64 a, .int .i64 b, .int .i64 c, .int .i64 d, .int .i64 e, .int .i64 f]), .v (.agg [.int .i64 g, .int .i64 h, .int .i64 i, .int .i64 j, .int .i64 k, .int .i64 l])] [] (rVecE (crossV ⟨⟨a, b⟩, ⟨c, d⟩, ⟨e, f⟩⟩ ⟨⟨g, h⟩, ⟨i, j⟩, ⟨k, l⟩⟩)) [] := by
  refine CallsA.ofOk fun hok => ?_
  have hw := w_fringeref02_Cross a b c d e f g h i j k l (fun v M => some (Res.fin v M))
  refine CallsA.ofEv (Γ := T_fringeref02_Dot) (X := XT) (Λ := noL) (EQ := EQT) (n := 120) g_fringeref02_Dot hEQT hmT (fun _ _ _ _ => noL_ok _) (hw.trans ?_)
  have h_a := inR_i64 (hok (.int .i64 a) (by simp [datasL, datas]))
  have h_b := inR_i64 (hok (.int .i64 b) (by simp [datasL, datas]))
  have h_c := inR_i64 (hok (.int .i64 c) (by simp [datasL, datas]))
  have h_d := inR_i64 (hok (.int .i64 d) (by simp [datasL, datas]))
  have h_e := inR_i64 (hok (.int .i64 e) (by simp [datasL, datas]))
  have h_f := inR_i64 (hok (.int .i64 f) (by simp [datasL, datas]))
  have h_g := inR_i64 (hok (.int .i64 g) (by simp [datasL, datas]))
  have h_h := inR_i64 (hok (.int .i64 h) (by simp [datasL, datas]))
  have h_i := inR_i64 (hok (.int .i64 i) (by simp [datasL, datas]))
  have h_j := inR_i64 (hok (.int .i64 j) (by simp [datasL, datas]))
  have h_k := inR_i64 (hok (.int .i64 k) (by simp [datasL, datas]))
  have h_l := inR_i64 (hok (.int .i64 l) (by simp [datasL, datas]))
  clear hok hw
  exact crossVRef_ok (K := fun v M => some (Res.fin v M))
def s_fringeref02_Cross : List AV → List Blk → (AV → List Blk → Ans) → Ans := fun xs bs K => match xs, bs with
  | [.v (.agg [.int .i64 a, .int .i64 b, .int .i64 c, .int .i64 d, .int .i64 e, .int .i64 f]), .v (.agg [.int .i64 g, .int .i64 h, .int .i64 i, .int .i64 j, .int .i64 k, .int .i64 l])], [] => K (rVecE (crossV ⟨⟨a, b⟩, ⟨c, d⟩, ⟨e, f⟩⟩ ⟨⟨g, h⟩, ⟨i, j⟩, ⟨k, l⟩⟩)) []
  | _, _ => none
def T_fringeref02_Cross : Nat → List AV → List Blk → (AV → List Blk → Ans) → Ans := upd T_fringeref02_Dot 18 s_fringeref02_Cross
theorem g_fringeref02_Cross : GOK Tryd.prog GT gbT T_fringeref02_Cross XT := by
  refine GOK.upd g_fringeref02_Dot (fun args w => Tryd.call18 args w) fun xs bs K r h => ?_
  unfold s_fringeref02_Cross at h
  split at h
  · exact ⟨_, _, c_fringeref02_Cross _ _ _ _ _ _ _ _ _ _ _ _, h⟩
  · cases h


set_option maxRecDepth 100000 in
/-- vec.flip -/
theorem w_vec_flip (m1 m2 m3 m4 m5 m6 m7 m8 m9 m10 m11 m12 m13 m14 m15 m16 m17 m18 : Int) (K : AV → List Blk → Ans) : evFn Tryd.prog GT EQT T_fringeref02_Cross XT noL 200 62 [.v (.agg [.int .i64 m1, .int .i64 m2, .int .i64 m3, .int .i64 m4, .int .i64 m5, .int .i64 m6, .int .i64 m7, .int .i64 m8, .int .i64 m9, .int .i64 m10, .int .i64 m11, .int .i64 m12, .int .i64 m13, .int .i64 m14, .int .i64 m15, .int .i64 m16, .int .i64 m17, .int .i64 m18])] [] (fun v M => K v (M.take ([] : List Blk).length)) = K (rMat (flipM ⟨⟨⟨m1, m2⟩, ⟨m3, m4⟩, ⟨m5, m6⟩⟩, ⟨⟨m7, m8⟩, ⟨m9, m10⟩, ⟨m11, m12⟩⟩, ⟨⟨m13, m14⟩, ⟨m15, m16⟩, ⟨m17, m18⟩⟩⟩)) [] := by
  kernel_rfl
set_option maxRecDepth 100000 in
theorem c_vec_flip (m1 m2 m3 m4 m5 m6 m7 m8 m9 m10 m11 m12 m13 m14 m15 m16 m17 m18 : Int) : CallsA Tryd.prog GT gbT 62 [.v (.agg [.int .i64 m1, .int .i64 m2, .int .i64 m3, .int .i64 m4, .int .i64 m5, .int .i64 m6, .int .i64 m7, .int .i64 m8, .int .i64 m9, .int .i64 m10, .int .i64 m11, .int .i64 m12, .int .i64 m13, .int .i64 m14, .int .i64 m15, .int .i64 m16, .int .i64 m17, .int .i64 m18])] [] (rMat (flipM ⟨⟨⟨m1, m2⟩, ⟨m3, m4⟩, ⟨m5, m6⟩⟩, ⟨⟨m7, m8⟩, ⟨m9, m10⟩, ⟨m11, m12⟩⟩, ⟨⟨m13, m14⟩, ⟨m15, m16⟩, ⟨m17, m18⟩⟩⟩)) [] := by
  refine CallsA.ofOk fun hok => ?_
  have hw := w_vec_flip m1 m2 m3 m4 m5 m6 m7 m8 m9 m10 m11 m12 m13 m14 m15 m16 m17 m18 (fun v M => some (Res.fin v M))
  refine CallsA.ofEv (Γ := T_fringeref02_Cross) (X := XT) (Λ := noL) (EQ := EQT) (n := 200) g_fringeref02_Cross hEQT hmT (fun _ _ _ _ => noL_ok _) (hw.trans ?_)
  rfl
def s_vec_flip : List AV → List Blk → (AV → List Blk → Ans) → Ans := fun xs bs K => match xs, bs with
  | [.v (.agg [.int .i64 m1, .int .i64 m2, .int .i64 m3, .int .i64 m4, .int .i64 m5, .int .i64 m6, .int .i64 m7, .int .i64 m8, .int .i64 m9, .int .i64 m10, .int .i64 m11, .int .i64 m12, .int .i64 m13, .int .i64 m14, .int .i64 m15, .int .i64 m16, .int .i64 m17, .int .i64 m18])], [] => K (rMat (flipM ⟨⟨⟨m1, m2⟩, ⟨m3, m4⟩, ⟨m5, m6⟩⟩, ⟨⟨m7, m8⟩, ⟨m9, m10⟩, ⟨m11, m12⟩⟩, ⟨⟨m13, m14⟩, ⟨m15, m16⟩, ⟨m17, m18⟩⟩⟩)) []
  | _, _ => none
def T_vec_flip : Nat → List AV → List Blk → (AV → List Blk → Ans) → Ans := upd T_fringeref02_Cross 62 s_vec_flip
theorem g_vec_flip : GOK Tryd.prog GT gbT T_vec_flip XT := by
  refine GOK.upd g_fringeref02_Cross (fun args w => Tryd.call62 args w) fun xs bs K r h => ?_
  unfold s_vec_flip at h
  split at h
  · exact ⟨_, _, c_vec_flip _ _ _ _ _ _ _ _ _ _ _ _ _ _ _ _ _ _, h⟩
  · cases h


set_option maxRecDepth 100000 in
/-- vec.unit -/
theorem w_vec_unit (K : AV → List Blk → Ans) : evFn Tryd.prog GT EQT T_vec_flip XT noL 60 69 [] [] (fun v M => K v (M.take ([] : List Blk).length)) = K (rMat unitM) [] := by
  kernel_rfl
set_option maxRecDepth 100000 in
theorem c_vec_unit : CallsA Tryd.prog GT gbT 69 [] [] (rMat unitM) [] := by
  refine CallsA.ofOk fun hok => ?_
  have hw := w_vec_unit (fun v M => some (Res.fin v M))
  refine CallsA.ofEv (Γ := T_vec_flip) (X := XT) (Λ := noL) (EQ := EQT) (n := 60) g_vec_flip hEQT hmT (fun _ _ _ _ => noL_ok _) (hw.trans ?_)
  rfl
def s_vec_unit : List AV → List Blk → (AV → List Blk → Ans) → Ans := fun xs bs K => match xs, bs with
  | [], [] => K (rMat unitM) []
  | _, _ => none
def T_vec_unit : Nat → List AV → List Blk → (AV → List Blk → Ans) → Ans := upd T_vec_flip 69 s_vec_unit
theorem g_vec_unit : GOK Tryd.prog GT gbT T_vec_unit XT := by
  refine GOK.upd g_vec_flip (fun args w => Tryd.call69 args w) fun xs bs K r h => ?_
  unfold s_vec_unit at h
  split at h
  · exact ⟨_, _, c_vec_unit, h⟩
  · cases h


set_option maxRecDepth 100000 in
/-- vec.Apply -/
theorem w_vec_Apply (m1 m2 m3 m4 m5 m6 m7 m8 m9 m10 m11 m12 m13 m14 m15 m16 m17 m18 v1 v2 v3 v4 v5 v6 : Int) (K : AV → List Blk → Ans) : evFn Tryd.prog GT EQT (inl Tryd.prog GT EQT XT [61, 52, 44, 45, 63] T_vec_unit 200 3) XT noL 200 27 [.v (.agg [.int .i64 m1, .int .i64 m2, .int .i64 m3, .int .i64 m4, .int .i64 m5, .int .i64 m6, .int .i64 m7, .int .i64 m8, .int .i64 m9, .int .i64 m10, .int .i64 m11, .int .i64 m12, .int .i64 m13, .int .i64 m14, .int .i64 m15, .int .i64 m16, .int .i64 m17, .int .i64 m18]), .v (.agg [.int .i64 v1, .int .i64 v2, .int .i64 v3, .int .i64 v4, .int .i64 v5, .int .i64 v6])] [] (fun v M => K v (M.take ([] : List Blk).length)) = applyAns K ⟨⟨⟨m1, m2⟩, ⟨m3, m4⟩, ⟨m5, m6⟩⟩, ⟨⟨m7, m8⟩, ⟨m9, m10⟩, ⟨m11, m12⟩⟩, ⟨⟨m13, m14⟩, ⟨m15, m16⟩, ⟨m17, m18⟩⟩⟩ ⟨⟨v1, v2⟩, ⟨v3, v4⟩, ⟨v5, v6⟩⟩ := by
  kernel_rfl
set_option maxRecDepth 100000 in
theorem c_vec_Apply (m1 m2 m3 m4 m5 m6 m7 m8 m9 m10 m11 m12 m13 m14 m15 m16 m17 m18 v1 v2 v3 v4 v5 v6 : Int) : CallsA Tryd.prog GT gbT 27 [.v (.agg [.int .i64 m1, .int .i64 m2, .int .i64 m3, .int .i64 m4, .int .i64 m5, .int .i64 m6, .int .i64 m7, .int .i64 m8, .int .i64 m9, .int .i64 m10, .int .i64 m11, .int .i64 m12, .int .i64 m13, .int .i64 m14, .int .i64 m15, .int .i64 m16, .int .i64 m17, .int .i64 m18]), .v (.agg [.int .i64 v1, .int .i64 v2, .int .i64 v3, .int .i64 v4, .int .i64 v5, .int .i64 v6])] [] (rVecE (applyV ⟨⟨⟨m1, m2⟩, ⟨m3, m4⟩, ⟨m5, m6⟩⟩, ⟨⟨m7, m8⟩, ⟨m9, m10⟩, ⟨m11, m12⟩⟩, ⟨⟨m13, m14⟩, ⟨m15, m16⟩, ⟨m17, m18⟩⟩⟩ ⟨⟨v1, v2⟩, ⟨v3, v4⟩, ⟨v5, v6⟩⟩)) [] := by
  refine CallsA.ofOk fun hok => ?_
  have hw := w_vec_Apply m1 m2 m3 m4 m5 m6 m7 m8 m9 m10 m11 m12 m13 m14 m15 m16 m17 m18 v1 v2 v3 v4 v5 v6 (fun v M => some (Res.fin v M))
  refine CallsA.ofEv (Γ := (inl Tryd.prog GT EQT XT [61, 52, 44, 45, 63] T_vec_unit 200 3)) (X := XT) (Λ := noL) (EQ := EQT) (n := 200) (g_vec_unit.inl hEQT hmT (fun f hf => by simp only [List.mem_cons, List.not_mem_nil, or_false] at hf; rcases hf with rfl | rfl | rfl | rfl | rfl <;> first | exact (fun args w => Tryd.call61 args w) | exact (fun args w => Tryd.call52 args w) | exact (fun args w => Tryd.call44 args w) | exact (fun args w => Tryd.call45 args w) | exact (fun args w => Tryd.call63 args w)) 200 3) hEQT hmT (fun _ _ _ _ => noL_ok _) (hw.trans ?_)
  have h_m1 := inR_i64 (hok (.int .i64 m1) (by simp [datasL, datas]))
  have h_m2 := inR_i64 (hok (.int .i64 m2) (by simp [datasL, datas]))
  have h_m3 := inR_i64 (hok (.int .i64 m3) (by simp [datasL, datas]))
  have h_m4 := inR_i64 (hok (.int .i64 m4) (by simp [datasL, datas]))
  have h_m5 := inR_i64 (hok (.int .i64 m5) (by simp [datasL, datas]))
  have h_m6 := inR_i64 (hok (.int .i64 m6) (by simp [datasL, datas]))
  have h_m7 := inR_i64 (hok (.int .i64 m7) (by simp [datasL, datas]))
  have h_m8 := inR_i64 (hok (.int .i64 m8) (by simp [datasL, datas]))
  have h_m9 := inR_i64 (hok (.int .i64 m9) (by simp [datasL, datas]))
  have h_m10 := inR_i64 (hok (.int .i64 m10) (by simp [datasL, datas]))
  have h_m11 := inR_i64 (hok (.int .i64 m11) (by simp [datasL, datas]))
  have h_m12 := inR_i64 (hok (.int .i64 m12) (by simp [datasL, datas]))
  have h_m13 := inR_i64 (hok (.int .i64 m13) (by simp [datasL, datas]))
  have h_m14 := inR_i64 (hok (.int .i64 m14) (by simp [datasL, datas]))
  have h_m15 := inR_i64 (hok (.int .i64 m15) (by simp [datasL, datas]))
  have h_m16 := inR_i64 (hok (.int .i64 m16) (by simp [datasL, datas]))
  have h_m17 := inR_i64 (hok (.int .i64 m17) (by simp [datasL, datas]))
  have h_m18 := inR_i64 (hok (.int .i64 m18) (by simp [datasL, datas]))
  have h_v1 := inR_i64 (hok (.int .i64 v1) (by simp [datasL, datas]))
  have h_v2 := inR_i64 (hok (.int .i64 v2) (by simp [datasL, datas]))
  have h_v3 := inR_i64 (hok (.int .i64 v3) (by simp [datasL, datas]))
  have h_v4 := inR_i64 (hok (.int .i64 v4) (by simp [datasL, datas]))
  have h_v5 := inR_i64 (hok (.int .i64 v5) (by simp [datasL, datas]))
  have h_v6 := inR_i64 (hok (.int .i64 v6) (by simp [datasL, datas]))
  clear hok hw
  exact applyAns_ok (K := fun v M => some (Res.fin v M))
def s_vec_Apply : List AV → List Blk → (AV → List Blk → Ans) → Ans := fun xs bs K => match xs, bs with
  | [.v (.agg [.int .i64 m1, .int .i64 m2, .int .i64 m3, .int .i64 m4, .int .i64 m5, .int .i64 m6, .int .i64 m7, .int .i64 m8, .int .i64 m9, .int .i64 m10, .int .i64 m11, .int .i64 m12, .int .i64 m13, .int .i64 m14, .int .i64 m15, .int .i64 m16, .int .i64 m17, .int .i64 m18]), .v (.agg [.int .i64 v1, .int .i64 v2, .int .i64 v3, .int .i64 v4, .int .i64 v5, .int .i64 v6])], [] => K (rVecE (applyV ⟨⟨⟨m1, m2⟩, ⟨m3, m4⟩, ⟨m5, m6⟩⟩, ⟨⟨m7, m8⟩, ⟨m9, m10⟩, ⟨m11, m12⟩⟩, ⟨⟨m13, m14⟩, ⟨m15, m16⟩, ⟨m17, m18⟩⟩⟩ ⟨⟨v1, v2⟩, ⟨v3, v4⟩, ⟨v5, v6⟩⟩)) []
  | _, _ => none
def T_vec_Apply : Nat → List AV → List Blk → (AV → List Blk → Ans) → Ans := upd T_vec_unit 27 s_vec_Apply
theorem g_vec_Apply : GOK Tryd.prog GT gbT T_vec_Apply XT := by
  refine GOK.upd g_vec_unit (fun args w => Tryd.call27 args w) fun xs bs K r h => ?_
  unfold s_vec_Apply at h
  split at h
  · exact ⟨_, _, c_vec_Apply _ _ _ _ _ _ _ _ _ _ _ _ _ _ _ _ _ _ _ _ _ _ _ _, h⟩
  · cases h


set_option maxRecDepth 100000 in
/-- vec.product -/
theorem w_vec_product (m1 m2 m3 m4 m5 m6 m7 m8 m9 m10 m11 m12 m13 m14 m15 m16 m17 m18 n1 n2 n3 n4 n5 n6 n7 n8 n9 n10 n11 n12 n13 n14 n15 n16 n17 n18 : Int) (K : AV → List Blk → Ans) : evFn Tryd.prog GT EQT T_vec_Apply XT noL 200 66 [.v (.agg [.int .i64 m1, .int .i64 m2, .int .i64 m3, .int .i64 m4, .int .i64 m5, .int .i64 m6, .int .i64 m7, .int .i64 m8, .int .i64 m9, .int .i64 m10, .int .i64 m11, .int .i64 m12, .int .i64 m13, .int .i64 m14, .int .i64 m15, .int .i64 m16, .int .i64 m17, .int .i64 m18]), .v (.agg [.int .i64 n1, .int .i64 n2, .int .i64 n3, .int .i64 n4, .int .i64 n5, .int .i64 n6, .int .i64 n7, .int .i64 n8, .int .i64 n9, .int .i64 n10, .int .i64 n11, .int .i64 n12, .int .i64 n13, .int .i64 n14, .int .i64 n15, .int .i64 n16, .int .i64 n17, .int .i64 n18])] [] (fun v M => K v (M.take ([] : List Blk).length)) = prodMAns K ⟨⟨⟨m1, m2⟩, ⟨m3, m4⟩, ⟨m5, m6⟩⟩, ⟨⟨m7, m8⟩, ⟨m9, m10⟩, ⟨m11, m12⟩⟩, ⟨⟨m13, m14⟩, ⟨m15, m16⟩, ⟨m17, m18⟩⟩⟩ ⟨⟨⟨n1, n2⟩, ⟨n3, n4⟩, ⟨n5, n6⟩⟩, ⟨⟨n7, n8⟩, ⟨n9, n10⟩, ⟨n11, n12⟩⟩, ⟨⟨n13, n14⟩, ⟨n15, n16⟩, ⟨n17, n18⟩⟩⟩ := by
  kernel_rfl
set_option maxRecDepth 100000 in
theorem c_vec_product (m1 m2 m3 m4 m5 m6 m7 m8 m9 m10 m11 m12 m13 m14 m15 m16 m17 m18 n1 n2 n3 n4 n5 n6 n7 n8 n9 n10 n11 n12 n13 n14 n15 n16 n17 n18 : Int) : CallsA Tryd.prog GT gbT 66 [.v (.agg [.int .i64 m1, .int .i64 m2, .int .i64 m3, .int .i64 m4, .int .i64 m5, .int .i64 m6, .int .i64 m7, .int .i64 m8, .int .i64 m9, .int .i64 m10, .int .i64 m11, .int .i64 m12, .int .i64 m13, .int .i64 m14, .int .i64 m15, .int .i64 m16, .int .i64 m17, .int .i64 m18]), .v (.agg [.int .i64 n1, .int .i64 n2, .int .i64 n3, .int .i64 n4, .int .i64 n5, .int .i64 n6, .int .i64 n7, .int .i64 n8, .int .i64 n9, .int .i64 n10, .int .i64 n11, .int .i64 n12, .int .i64 n13, .int .i64 n14, .int .i64 n15, .int .i64 n16, .int .i64 n17, .int .i64 n18])] [] (rMatE (prodF ⟨⟨⟨m1, m2⟩, ⟨m3, m4⟩, ⟨m5, m6⟩⟩, ⟨⟨m7, m8⟩, ⟨m9, m10⟩, ⟨m11, m12⟩⟩, ⟨⟨m13, m14⟩, ⟨m15, m16⟩, ⟨m17, m18⟩⟩⟩ ⟨⟨⟨n1, n2⟩, ⟨n3, n4⟩, ⟨n5, n6⟩⟩, ⟨⟨n7, n8⟩, ⟨n9, n10⟩, ⟨n11, n12⟩⟩, ⟨⟨n13, n14⟩, ⟨n15, n16⟩, ⟨n17, n18⟩⟩⟩)) [] := by
  refine CallsA.ofOk fun hok => ?_
  have hw := w_vec_product m1 m2 m3 m4 m5 m6 m7 m8 m9 m10 m11 m12 m13 m14 m15 m16 m17 m18 n1 n2 n3 n4 n5 n6 n7 n8 n9 n10 n11 n12 n13 n14 n15 n16 n17 n18 (fun v M => some (Res.fin v M))
  refine CallsA.ofEv (Γ := T_vec_Apply) (X := XT) (Λ := noL) (EQ := EQT) (n := 200) g_vec_Apply hEQT hmT (fun _ _ _ _ => noL_ok _) (hw.trans ?_)
  have h_m1 := inR_i64 (hok (.int .i64 m1) (by simp [datasL, datas]))
  have h_m2 := inR_i64 (hok (.int .i64 m2) (by simp [datasL, datas]))
  have h_m3 := inR_i64 (hok (.int .i64 m3) (by simp [datasL, datas]))
  have h_m4 := inR_i64 (hok (.int .i64 m4) (by simp [datasL, datas]))
  have h_m5 := inR_i64 (hok (.int .i64 m5) (by simp [datasL, datas]))
  have h_m6 := inR_i64 (hok (.int .i64 m6) (by simp [datasL, datas]))
  have h_m7 := inR_i64 (hok (.int .i64 m7) (by simp [datasL, datas]))
  have h_m8 := inR_i64 (hok (.int .i64 m8) (by simp [datasL, datas]))
  have h_m9 := inR_i64 (hok (.int .i64 m9) (by simp [datasL, datas]))
  have h_m10 := inR_i64 (hok (.int .i64 m10) (by simp [datasL, datas]))
  have h_m11 := inR_i64 (hok (.int .i64 m11) (by simp [datasL, datas]))
  have h_m12 := inR_i64 (hok (.int .i64 m12) (by simp [datasL, datas]))
  have h_m13 := inR_i64 (hok (.int .i64 m13) (by simp [datasL, datas]))
  have h_m14 := inR_i64 (hok (.int .i64 m14) (by simp [datasL, datas]))
  have h_m15 := inR_i64 (hok (.int .i64 m15) (by simp [datasL, datas]))
  have h_m16 := inR_i64 (hok (.int .i64 m16) (by simp [datasL, datas]))
  have h_m17 := inR_i64 (hok (.int .i64 m17) (by simp [datasL, datas]))
  have h_m18 := inR_i64 (hok (.int .i64 m18) (by simp [datasL, datas]))
  have h_n1 := inR_i64 (hok (.int .i64 n1) (by simp [datasL, datas]))
  have h_n2 := inR_i64 (hok (.int .i64 n2) (by simp [datasL, datas]))
  have h_n3 := inR_i64 (hok (.int .i64 n3) (by simp [datasL, datas]))
  have h_n4 := inR_i64 (hok (.int .i64 n4) (by simp [datasL, datas]))
  have h_n5 := inR_i64 (hok (.int .i64 n5) (by simp [datasL, datas]))
  have h_n6 := inR_i64 (hok (.int .i64 n6) (by simp [datasL, datas]))
  have h_n7 := inR_i64 (hok (.int .i64 n7) (by simp [datasL, datas]))
  have h_n8 := inR_i64 (hok (.int .i64 n8) (by simp [datasL, datas]))
  have h_n9 := inR_i64 (hok (.int .i64 n9) (by simp [datasL, datas]))
  have h_n10 := inR_i64 (hok (.int .i64 n10) (by simp [datasL, datas]))
  have h_n11 := inR_i64 (hok (.int .i64 n11) (by simp [datasL, datas]))
  have h_n12 := inR_i64 (hok (.int .i64 n12) (by simp [datasL, datas]))
  have h_n13 := inR_i64 (hok (.int .i64 n13) (by simp [datasL, datas]))
  have h_n14 := inR_i64 (hok (.int .i64 n14) (by simp [datasL, datas]))
  have h_n15 := inR_i64 (hok (.int .i64 n15) (by simp [datasL, datas]))
  have h_n16 := inR_i64 (hok (.int .i64 n16) (by simp [datasL, datas]))
  have h_n17 := inR_i64 (hok (.int .i64 n17) (by simp [datasL, datas]))
  have h_n18 := inR_i64 (hok (.int .i64 n18) (by simp [datasL, datas]))
  clear hok hw
  exact prodMAns_ok (K := fun v M => some (Res.fin v M))
def s_vec_product : List AV → List Blk → (AV → List Blk → Ans) → Ans := fun xs bs K => match xs, bs with
  | [.v (.agg [.int .i64 m1, .int .i64 m2, .int .i64 m3, .int .i64 m4, .int .i64 m5, .int .i64 m6, .int .i64 m7, .int .i64 m8, .int .i64 m9, .int .i64 m10, .int .i64 m11, .int .i64 m12, .int .i64 m13, .int .i64 m14, .int .i64 m15, .int .i64 m16, .int .i64 m17, .int .i64 m18]), .v (.agg [.int .i64 n1, .int .i64 n2, .int .i64 n3, .int .i64 n4, .int .i64 n5, .int .i64 n6, .int .i64 n7, .int .i64 n8, .int .i64 n9, .int .i64 n10, .int .i64 n11, .int .i64 n12, .int .i64 n13, .int .i64 n14, .int .i64 n15, .int .i64 n16, .int .i64 n17, .int .i64 n18])], [] => K (rMatE (prodF ⟨⟨⟨m1, m2⟩, ⟨m3, m4⟩, ⟨m5, m6⟩⟩, ⟨⟨m7, m8⟩, ⟨m9, m10⟩, ⟨m11, m12⟩⟩, ⟨⟨m13, m14⟩, ⟨m15, m16⟩, ⟨m17, m18⟩⟩⟩ ⟨⟨⟨n1, n2⟩, ⟨n3, n4⟩, ⟨n5, n6⟩⟩, ⟨⟨n7, n8⟩, ⟨n9, n10⟩, ⟨n11, n12⟩⟩, ⟨⟨n13, n14⟩, ⟨n15, n16⟩, ⟨n17, n18⟩⟩⟩)) []
  | _, _ => none
def T_vec_product : Nat → List AV → List Blk → (AV → List Blk → Ans) → Ans := upd T_vec_Apply 66 s_vec_product
theorem g_vec_product : GOK Tryd.prog GT gbT T_vec_product XT := by
  refine GOK.upd g_vec_Apply (fun args w => Tryd.call66 args w) fun xs bs K r h => ?_
  unfold s_vec_product at h
  split at h
  · exact ⟨_, _, c_vec_product _ _ _ _ _ _ _ _ _ _ _ _ _ _ _ _ _ _ _ _ _ _ _ _ _ _ _ _ _ _ _ _ _ _ _ _, h⟩
  · cases h


set_option maxRecDepth 100000 in
/-- vec.Prod -/
theorem w_vec_Prod (m1 m2 m3 m4 m5 m6 m7 m8 m9 m10 m11 m12 m13 m14 m15 m16 m17 m18 n1 n2 n3 n4 n5 n6 n7 n8 n9 n10 n11 n12 n13 n14 n15 n16 n17 n18 : Int) (K : AV → List Blk → Ans) : evFn Tryd.prog GT EQT (inl Tryd.prog GT EQT XT [61, 52] T_vec_product 200 2) XT noL 200 29 [.v (.agg [.int .i64 m1, .int .i64 m2, .int .i64 m3, .int .i64 m4, .int .i64 m5, .int .i64 m6, .int .i64 m7, .int .i64 m8, .int .i64 m9, .int .i64 m10, .int .i64 m11, .int .i64 m12, .int .i64 m13, .int .i64 m14, .int .i64 m15, .int .i64 m16, .int .i64 m17, .int .i64 m18]), .v (.agg [.int .i64 n1, .int .i64 n2, .int .i64 n3, .int .i64 n4, .int .i64 n5, .int .i64 n6, .int .i64 n7, .int .i64 n8, .int .i64 n9, .int .i64 n10, .int .i64 n11, .int .i64 n12, .int .i64 n13, .int .i64 n14, .int .i64 n15, .int .i64 n16, .int .i64 n17, .int .i64 n18])] [] (fun v M => K v (M.take ([] : List Blk).length)) = prodVAns K ⟨⟨⟨m1, m2⟩, ⟨m3, m4⟩, ⟨m5, m6⟩⟩, ⟨⟨m7, m8⟩, ⟨m9, m10⟩, ⟨m11, m12⟩⟩, ⟨⟨m13, m14⟩, ⟨m15, m16⟩, ⟨m17, m18⟩⟩⟩ ⟨⟨⟨n1, n2⟩, ⟨n3, n4⟩, ⟨n5, n6⟩⟩, ⟨⟨n7, n8⟩, ⟨n9, n10⟩, ⟨n11, n12⟩⟩, ⟨⟨n13, n14⟩, ⟨n15, n16⟩, ⟨n17, n18⟩⟩⟩ := by
  kernel_rfl
set_option maxRecDepth 100000 in
theorem c_vec_Prod (m1 m2 m3 m4 m5 m6 m7 m8 m9 m10 m11 m12 m13 m14 m15 m16 m17 m18 n1 n2 n3 n4 n5 n6 n7 n8 n9 n10 n11 n12 n13 n14 n15 n16 n17 n18 : Int) : CallsA Tryd.prog GT gbT 29 [.v (.agg [.int .i64 m1, .int .i64 m2, .int .i64 m3, .int .i64 m4, .int .i64 m5, .int .i64 m6, .int .i64 m7, .int .i64 m8, .int .i64 m9, .int .i64 m10, .int .i64 m11, .int .i64 m12, .int .i64 m13, .int .i64 m14, .int .i64 m15, .int .i64 m16, .int .i64 m17, .int .i64 m18]), .v (.agg [.int .i64 n1, .int .i64 n2, .int .i64 n3, .int .i64 n4, .int .i64 n5, .int .i64 n6, .int .i64 n7, .int .i64 n8, .int .i64 n9, .int .i64 n10, .int .i64 n11, .int .i64 n12, .int .i64 n13, .int .i64 n14, .int .i64 n15, .int .i64 n16, .int .i64 n17, .int .i64 n18])] [] (rMatE (prodM ⟨⟨⟨m1, m2⟩, ⟨m3, m4⟩, ⟨m5, m6⟩⟩, ⟨⟨m7, m8⟩, ⟨m9, m10⟩, ⟨m11, m12⟩⟩, ⟨⟨m13, m14⟩, ⟨m15, m16⟩, ⟨m17, m18⟩⟩⟩ ⟨⟨⟨n1, n2⟩, ⟨n3, n4⟩, ⟨n5, n6⟩⟩, ⟨⟨n7, n8⟩, ⟨n9, n10⟩, ⟨n11, n12⟩⟩, ⟨⟨n13, n14⟩, ⟨n15, n16⟩, ⟨n17, n18⟩⟩⟩)) [] := by
  refine CallsA.ofOk fun hok => ?_
  have hw := w_vec_Prod m1 m2 m3 m4 m5 m6 m7 m8 m9 m10 m11 m12 m13 m14 m15 m16 m17 m18 n1 n2 n3 n4 n5 n6 n7 n8 n9 n10 n11 n12 n13 n14 n15 n16 n17 n18 (fun v M => some (Res.fin v M))
  refine CallsA.ofEv (Γ := (inl Tryd.prog GT EQT XT [61, 52] T_vec_product 200 2)) (X := XT) (Λ := noL) (EQ := EQT) (n := 200) (g_vec_product.inl hEQT hmT (fun f hf => by simp only [List.mem_cons, List.not_mem_nil, or_false] at hf; rcases hf with rfl | rfl <;> first | exact (fun args w => Tryd.call61 args w) | exact (fun args w => Tryd.call52 args w)) 200 2) hEQT hmT (fun _ _ _ _ => noL_ok _) (hw.trans ?_)
  have h_m1 := inR_i64 (hok (.int .i64 m1) (by simp [datasL, datas]))
  have h_m2 := inR_i64 (hok (.int .i64 m2) (by simp [datasL, datas]))
  have h_m3 := inR_i64 (hok (.int .i64 m3) (by simp [datasL, datas]))
  have h_m4 := inR_i64 (hok (.int .i64 m4) (by simp [datasL, datas]))
  have h_m5 := inR_i64 (hok (.int .i64 m5) (by simp [datasL, datas]))
  have h_m6 := inR_i64 (hok (.int .i64 m6) (by simp [datasL, datas]))
  have h_m7 := inR_i64 (hok (.int .i64 m7) (by simp [datasL, datas]))
  have h_m8 := inR_i64 (hok (.int .i64 m8) (by simp [datasL, datas]))
  have h_m9 := inR_i64 (hok (.int .i64 m9) (by simp [datasL, datas]))
  have h_m10 := inR_i64 (hok (.int .i64 m10) (by simp [datasL, datas]))
  have h_m11 := inR_i64 (hok (.int .i64 m11) (by simp [datasL, datas]))
  have h_m12 := inR_i64 (hok (.int .i64 m12) (by simp [datasL, datas]))
  have h_m13 := inR_i64 (hok (.int .i64 m13) (by simp [datasL, datas]))
  have h_m14 := inR_i64 (hok (.int .i64 m14) (by simp [datasL, datas]))
  have h_m15 := inR_i64 (hok (.int .i64 m15) (by simp [datasL, datas]))
  have h_m16 := inR_i64 (hok (.int .i64 m16) (by simp [datasL, datas]))
  have h_m17 := inR_i64 (hok (.int .i64 m17) (by simp [datasL, datas]))
  have h_m18 := inR_i64 (hok (.int .i64 m18) (by simp [datasL, datas]))
  have h_n1 := inR_i64 (hok (.int .i64 n1) (by simp [datasL, datas]))
  have h_n2 := inR_i64 (hok (.int .i64 n2) (by simp [datasL, datas]))
  have h_n3 := inR_i64 (hok (.int .i64 n3) (by simp [datasL, datas]))
  have h_n4 := inR_i64 (hok (.int .i64 n4) (by simp [datasL, datas]))
  have h_n5 := inR_i64 (hok (.int .i64 n5) (by simp [datasL, datas]))
  have h_n6 := inR_i64 (hok (.int .i64 n6) (by simp [datasL, datas]))
  have h_n7 := inR_i64 (hok (.int .i64 n7) (by simp [datasL, datas]))
  have h_n8 := inR_i64 (hok (.int .i64 n8) (by simp [datasL, datas]))
  have h_n9 := inR_i64 (hok (.int .i64 n9) (by simp [datasL, datas]))
  have h_n10 := inR_i64 (hok (.int .i64 n10) (by simp [datasL, datas]))
  have h_n11 := inR_i64 (hok (.int .i64 n11) (by simp [datasL, datas]))
  have h_n12 := inR_i64 (hok (.int .i64 n12) (by simp [datasL, datas]))
  have h_n13 := inR_i64 (hok (.int .i64 n13) (by simp [datasL, datas]))
  have h_n14 := inR_i64 (hok (.int .i64 n14) (by simp [datasL, datas]))
  have h_n15 := inR_i64 (hok (.int .i64 n15) (by simp [datasL, datas]))
  have h_n16 := inR_i64 (hok (.int .i64 n16) (by simp [datasL, datas]))
  have h_n17 := inR_i64 (hok (.int .i64 n17) (by simp [datasL, datas]))
  have h_n18 := inR_i64 (hok (.int .i64 n18) (by simp [datasL, datas]))
  clear hok hw
  exact prodVAns_ok (K := fun v M => some (Res.fin v M))
def s_vec_Prod : List AV → List Blk → (AV → List Blk → Ans) → Ans := fun xs bs K => match xs, bs with
  | [.v (.agg [.int .i64 m1, .int .i64 m2, .int .i64 m3, .int .i64 m4, .int .i64 m5, .int .i64 m6, .int .i64 m7, .int .i64 m8, .int .i64 m9, .int .i64 m10, .int .i64 m11, .int .i64 m12, .int .i64 m13, .int .i64 m14, .int .i64 m15, .int .i64 m16, .int .i64 m17, .int .i64 m18]), .v (.agg [.int .i64 n1, .int .i64 n2, .int .i64 n3, .int .i64 n4, .int .i64 n5, .int .i64 n6, .int .i64 n7, .int .i64 n8, .int .i64 n9, .int .i64 n10, .int .i64 n11, .int .i64 n12, .int .i64 n13, .int .i64 n14, .int .i64 n15, .int .i64 n16, .int .i64 n17, .int .i64 n18])], [] => K (rMatE (prodM ⟨⟨⟨m1, m2⟩, ⟨m3, m4⟩, ⟨m5, m6⟩⟩, ⟨⟨m7, m8⟩, ⟨m9, m10⟩, ⟨m11, m12⟩⟩, ⟨⟨m13, m14⟩, ⟨m15, m16⟩, ⟨m17, m18⟩⟩⟩ ⟨⟨⟨n1, n2⟩, ⟨n3, n4⟩, ⟨n5, n6⟩⟩, ⟨⟨n7, n8⟩, ⟨n9, n10⟩, ⟨n11, n12⟩⟩, ⟨⟨n13, n14⟩, ⟨n15, n16⟩, ⟨n17, n18⟩⟩⟩)) []
  | _, _ => none
def T_vec_Prod : Nat → List AV → List Blk → (AV → List Blk → Ans) → Ans := upd T_vec_product 29 s_vec_Prod
theorem g_vec_Prod : GOK Tryd.prog GT gbT T_vec_Prod XT := by
  refine GOK.upd g_vec_product (fun args w => Tryd.call29 args w) fun xs bs K r h => ?_
  unfold s_vec_Prod at h
  split at h
  · exact ⟨_, _, c_vec_Prod _ _ _ _ _ _ _ _ _ _ _ _ _ _ _ _ _ _ _ _ _ _ _ _ _ _ _ _ _ _ _ _ _ _ _ _, h⟩
  · cases h


set_option maxRecDepth 100000 in
/-- vec.Flip -/
theorem w_vec_Flip (m1 m2 m3 m4 m5 m6 m7 m8 m9 m10 m11 m12 m13 m14 m15 m16 m17 m18 : Int) (K : AV → List Blk → Ans) : evFn Tryd.prog GT EQT (inl Tryd.prog GT EQT XT [61, 52] T_vec_Prod 200 2) XT noL 200 26 [.v (.agg [.int .i64 m1, .int .i64 m2, .int .i64 m3, .int .i64 m4, .int .i64 m5, .int .i64 m6, .int .i64 m7, .int .i64 m8, .int .i64 m9, .int .i64 m10, .int .i64 m11, .int .i64 m12, .int .i64 m13, .int .i64 m14, .int .i64 m15, .int .i64 m16, .int .i64 m17, .int .i64 m18])] [] (fun v M => K v (M.take ([] : List Blk).length)) = flipAns K ⟨⟨⟨m1, m2⟩, ⟨m3, m4⟩, ⟨m5, m6⟩⟩, ⟨⟨m7, m8⟩, ⟨m9, m10⟩, ⟨m11, m12⟩⟩, ⟨⟨m13, m14⟩, ⟨m15, m16⟩, ⟨m17, m18⟩⟩⟩ := by
  kernel_rfl
set_option maxRecDepth 100000 in
theorem c_vec_Flip (m1 m2 m3 m4 m5 m6 m7 m8 m9 m10 m11 m12 m13 m14 m15 m16 m17 m18 : Int) : CallsA Tryd.prog GT gbT 26 [.v (.agg [.int .i64 m1, .int .i64 m2, .int .i64 m3, .int .i64 m4, .int .i64 m5, .int .i64 m6, .int .i64 m7, .int .i64 m8, .int .i64 m9, .int .i64 m10, .int .i64 m11, .int .i64 m12, .int .i64 m13, .int .i64 m14, .int .i64 m15, .int .i64 m16, .int .i64 m17, .int .i64 m18])] [] (rMatE (flipV ⟨⟨⟨m1, m2⟩, ⟨m3, m4⟩, ⟨m5, m6⟩⟩, ⟨⟨m7, m8⟩, ⟨m9, m10⟩, ⟨m11, m12⟩⟩, ⟨⟨m13, m14⟩, ⟨m15, m16⟩, ⟨m17, m18⟩⟩⟩)) [] := by
  refine CallsA.ofOk fun hok => ?_
  have hw := w_vec_Flip m1 m2 m3 m4 m5 m6 m7 m8 m9 m10 m11 m12 m13 m14 m15 m16 m17 m18 (fun v M => some (Res.fin v M))
  refine CallsA.ofEv (Γ := (inl Tryd.prog GT EQT XT [61, 52] T_vec_Prod 200 2)) (X := XT) (Λ := noL) (EQ := EQT) (n := 200) (g_vec_Prod.inl hEQT hmT (fun f hf => by simp only [List.mem_cons, List.not_mem_nil, or_false] at hf; rcases hf with rfl | rfl <;> first | exact (fun args w => Tryd.call61 args w) | exact (fun args w => Tryd.call52 args w)) 200 2) hEQT hmT (fun _ _ _ _ => noL_ok _) (hw.trans ?_)
  have h_m1 := inR_i64 (hok (.int .i64 m1) (by simp [datasL, datas]))
  have h_m2 := inR_i64 (hok (.int .i64 m2) (by simp [datasL, datas]))
  have h_m3 := inR_i64 (hok (.int .i64 m3) (by simp [datasL, datas]))
  have h_m4 := inR_i64 (hok (.int .i64 m4) (by simp [datasL, datas]))
  have h_m5 := inR_i64 (hok (.int .i64 m5) (by simp [datasL, datas]))
  have h_m6 := inR_i64 (hok (.int .i64 m6) (by simp [datasL, datas]))
  have h_m7 := inR_i64 (hok (.int .i64 m7) (by simp [datasL, datas]))
  have h_m8 := inR_i64 (hok (.int .i64 m8) (by simp [datasL, datas]))
  have h_m9 := inR_i64 (hok (.int .i64 m9) (by simp [datasL, datas]))
  have h_m10 := inR_i64 (hok (.int .i64 m10) (by simp [datasL, datas]))
  have h_m11 := inR_i64 (hok (.int .i64 m11) (by simp [datasL, datas]))
  have h_m12 := inR_i64 (hok (.int .i64 m12) (by simp [datasL, datas]))
  have h_m13 := inR_i64 (hok (.int .i64 m13) (by simp [datasL, datas]))
  have h_m14 := inR_i64 (hok (.int .i64 m14) (by simp [datasL, datas]))
  have h_m15 := inR_i64 (hok (.int .i64 m15) (by simp [datasL, datas]))
  have h_m16 := inR_i64 (hok (.int .i64 m16) (by simp [datasL, datas]))
  have h_m17 := inR_i64 (hok (.int .i64 m17) (by simp [datasL, datas]))
  have h_m18 := inR_i64 (hok (.int .i64 m18) (by simp [datasL, datas]))
  clear hok hw
  exact flipAns_ok (K := fun v M => some (Res.fin v M))
def s_vec_Flip : List AV → List Blk → (AV → List Blk → Ans) → Ans := fun xs bs K => match xs, bs with
  | [.v (.agg [.int .i64 m1, .int .i64 m2, .int .i64 m3, .int .i64 m4, .int .i64 m5, .int .i64 m6, .int .i64 m7, .int .i64 m8, .int .i64 m9, .int .i64 m10, .int .i64 m11, .int .i64 m12, .int .i64 m13, .int .i64 m14, .int .i64 m15, .int .i64 m16, .int .i64 m17, .int .i64 m18])], [] => K (rMatE (flipV ⟨⟨⟨m1, m2⟩, ⟨m3, m4⟩, ⟨m5, m6⟩⟩, ⟨⟨m7, m8⟩, ⟨m9, m10⟩, ⟨m11, m12⟩⟩, ⟨⟨m13, m14⟩, ⟨m15, m16⟩, ⟨m17, m18⟩⟩⟩)) []
  | _, _ => none
def T_vec_Flip : Nat → List AV → List Blk → (AV → List Blk → Ans) → Ans := upd T_vec_Prod 26 s_vec_Flip
theorem g_vec_Flip : GOK Tryd.prog GT gbT T_vec_Flip XT := by
  refine GOK.upd g_vec_Prod (fun args w => Tryd.call26 args w) fun xs bs K r h => ?_
  unfold s_vec_Flip at h
  split at h
  · exact ⟨_, _, c_vec_Flip _ _ _ _ _ _ _ _ _ _ _ _ _ _ _ _ _ _, h⟩
  · cases h


set_option maxRecDepth 100000 in
/-- vec.Det -/
theorem w_vec_Det (m1 m2 m3 m4 m5 m6 m7 m8 m9 m10 m11 m12 m13 m14 m15 m16 m17 m18 : Int) (K : AV → List Blk → Ans) : evFn Tryd.prog GT EQT (inl Tryd.prog GT EQT XT [61, 52, 45] T_vec_Flip 200 2) XT noL 200 25 [.v (.agg [.int .i64 m1, .int .i64 m2, .int .i64 m3, .int .i64 m4, .int .i64 m5, .int .i64 m6, .int .i64 m7, .int .i64 m8, .int .i64 m9, .int .i64 m10, .int .i64 m11, .int .i64 m12, .int .i64 m13, .int .i64 m14, .int .i64 m15, .int .i64 m16, .int .i64 m17, .int .i64 m18])] [] (fun v M => K v (M.take ([] : List Blk).length)) = detAns K ⟨⟨⟨m1, m2⟩, ⟨m3, m4⟩, ⟨m5, m6⟩⟩, ⟨⟨m7, m8⟩, ⟨m9, m10⟩, ⟨m11, m12⟩⟩, ⟨⟨m13, m14⟩, ⟨m15, m16⟩, ⟨m17, m18⟩⟩⟩ := by
  kernel_rfl
set_option maxRecDepth 100000 in
theorem c_vec_Det (m1 m2 m3 m4 m5 m6 m7 m8 m9 m10 m11 m12 m13 m14 m15 m16 m17 m18 : Int) : CallsA Tryd.prog GT gbT 25 [.v (.agg [.int .i64 m1, .int .i64 m2, .int .i64 m3, .int .i64 m4, .int .i64 m5, .int .i64 m6, .int .i64 m7, .int .i64 m8, .int .i64 m9, .int .i64 m10, .int .i64 m11, .int .i64 m12, .int .i64 m13, .int .i64 m14, .int .i64 m15, .int .i64 m16, .int .i64 m17, .int .i64 m18])] [] (rFracE (detV ⟨⟨⟨m1, m2⟩, ⟨m3, m4⟩, ⟨m5, m6⟩⟩, ⟨⟨m7, m8⟩, ⟨m9, m10⟩, ⟨m11, m12⟩⟩, ⟨⟨m13, m14⟩, ⟨m15, m16⟩, ⟨m17, m18⟩⟩⟩)) [] := by
  refine CallsA.ofOk fun hok => ?_
  have hw := w_vec_Det m1 m2 m3 m4 m5 m6 m7 m8 m9 m10 m11 m12 m13 m14 m15 m16 m17 m18 (fun v M => some (Res.fin v M))
  refine CallsA.ofEv (Γ := (inl Tryd.prog GT EQT XT [61, 52, 45] T_vec_Flip 200 2)) (X := XT) (Λ := noL) (EQ := EQT) (n := 200) (g_vec_Flip.inl hEQT hmT (fun f hf => by simp only [List.mem_cons, List.not_mem_nil, or_false] at hf; rcases hf with rfl | rfl | rfl <;> first | exact (fun args w => Tryd.call61 args w) | exact (fun args w => Tryd.call52 args w) | exact (fun args w => Tryd.call45 args w)) 200 2) hEQT hmT (fun _ _ _ _ => noL_ok _) (hw.trans ?_)
  have h_m1 := inR_i64 (hok (.int .i64 m1) (by simp [datasL, datas]))
  have h_m2 := inR_i64 (hok (.int .i64 m2) (by simp [datasL, datas]))
  have h_m3 := inR_i64 (hok (.int .i64 m3) (by simp [datasL, datas]))
  have h_m4 := inR_i64 (hok (.int .i64 m4) (by simp [datasL, datas]))
  have h_m5 := inR_i64 (hok (.int .i64 m5) (by simp [datasL, datas]))
  have h_m6 := inR_i64 (hok (.int .i64 m6) (by simp [datasL, datas]))
  have h_m7 := inR_i64 (hok (.int .i64 m7) (by simp [datasL, datas]))
  have h_m8 := inR_i64 (hok (.int .i64 m8) (by simp [datasL, datas]))
  have h_m9 := inR_i64 (hok (.int .i64 m9) (by simp [datasL, datas]))
  have h_m10 := inR_i64 (hok (.int .i64 m10) (by simp [datasL, datas]))
  have h_m11 := inR_i64 (hok (.int .i64 m11) (by simp [datasL, datas]))
  have h_m12 := inR_i64 (hok (.int .i64 m12) (by simp [datasL, datas]))
  have h_m13 := inR_i64 (hok (.int .i64 m13) (by simp [datasL, datas]))
  have h_m14 := inR_i64 (hok (.int .i64 m14) (by simp [datasL, datas]))
  have h_m15 := inR_i64 (hok (.int .i64 m15) (by simp [datasL, datas]))
  have h_m16 := inR_i64 (hok (.int .i64 m16) (by simp [datasL, datas]))
  have h_m17 := inR_i64 (hok (.int .i64 m17) (by simp [datasL, datas]))
  have h_m18 := inR_i64 (hok (.int .i64 m18) (by simp [datasL, datas]))
  clear hok hw
  exact detAns_ok (K := fun v M => some (Res.fin v M))
def s_vec_Det : List AV → List Blk → (AV → List Blk → Ans) → Ans := fun xs bs K => match xs, bs with
  | [.v (.agg [.int .i64 m1, .int .i64 m2, .int .i64 m3, .int .i64 m4, .int .i64 m5, .int .i64 m6, .int .i64 m7, .int .i64 m8, .int .i64 m9, .int .i64 m10, .int .i64 m11, .int .i64 m12, .int .i64 m13, .int .i64 m14, .int .i64 m15, .int .i64 m16, .int .i64 m17, .int .i64 m18])], [] => K (rFracE (detV ⟨⟨⟨m1, m2⟩, ⟨m3, m4⟩, ⟨m5, m6⟩⟩, ⟨⟨m7, m8⟩, ⟨m9, m10⟩, ⟨m11, m12⟩⟩, ⟨⟨m13, m14⟩, ⟨m15, m16⟩, ⟨m17, m18⟩⟩⟩)) []
  | _, _ => none
def T_vec_Det : Nat → List AV → List Blk → (AV → List Blk → Ans) → Ans := upd T_vec_Flip 25 s_vec_Det
theorem g_vec_Det : GOK Tryd.prog GT gbT T_vec_Det XT := by
  refine GOK.upd g_vec_Flip (fun args w => Tryd.call25 args w) fun xs bs K r h => ?_
  unfold s_vec_Det at h
  split at h
  · exact ⟨_, _, c_vec_Det _ _ _ _ _ _ _ _ _ _ _ _ _ _ _ _ _ _, h⟩
  · cases h


end Go.Ev
