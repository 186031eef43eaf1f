/-
  Contracts of functions: what each returns. No condition beyond those of the statements.
-/
import Derived.Test.YtmiibelbmikieaaDoorVxCC
namespace Go.Ev
open Go Go.Proofs

set_option maxRecDepth 100000 in
/-- vec.Turn -/
theorem w_vec_Turn_0 (t1 t2 : Int) (K : AV → List Blk → Ans) : evFn Tryd.prog GT EQT (inl Tryd.prog GT EQT XT [52, 68] T_vec_Det 100 2) XT noL 100 33 [.v (.c (.d (.int .i64 0))), .v (.agg [.int .i64 t1, .int .i64 t2])] [] (fun v M => K v (M.take ([] : List Blk).length)) = turnAns K 0 ⟨t1, t2⟩ := by
  kernel_rfl
set_option maxRecDepth 100000 in
theorem c_vec_Turn_0 (t1 t2 : Int) : CallsA Tryd.prog GT gbT 33 [.v (.c (.d (.int .i64 0))), .v (.agg [.int .i64 t1, .int .i64 t2])] [] (rMatE (turnF 0 ⟨t1, t2⟩)) [] := by
  refine CallsA.ofOk fun hok => ?_
  have hw := w_vec_Turn_0 t1 t2 (fun v M => some (Res.fin v M))
  refine CallsA.ofEv (Γ := (inl Tryd.prog GT EQT XT [52, 68] T_vec_Det 100 2)) (X := XT) (Λ := noL) (EQ := EQT) (n := 100) (g_vec_Det.inl hEQT hmT (fun f hf => by simp only [List.mem_cons, List.not_mem_nil, or_false] at hf; rcases hf with rfl | rfl <;> first | exact (fun args w => Tryd.call52 args w) | exact (fun args w => Tryd.call68 args w)) 100 2) hEQT hmT (fun _ _ _ _ => noL_ok _) (hw.trans ?_)
  have h_t1 := inR_i64 (hok (.int .i64 t1) (by simp [datasL, datas]))
  have h_t2 := inR_i64 (hok (.int .i64 t2) (by simp [datasL, datas]))
  clear hok hw
  exact turnAns_ok (K := fun v M => some (Res.fin v M)) (by omega)
set_option maxRecDepth 100000 in
/-- vec.Turn -/
theorem w_vec_Turn_1 (t1 t2 : Int) (K : AV → List Blk → Ans) : evFn Tryd.prog GT EQT (inl Tryd.prog GT EQT XT [52, 68] T_vec_Det 100 2) XT noL 100 33 [.v (.c (.d (.int .i64 1))), .v (.agg [.int .i64 t1, .int .i64 t2])] [] (fun v M => K v (M.take ([] : List Blk).length)) = turnAns K 1 ⟨t1, t2⟩ := by
  kernel_rfl
set_option maxRecDepth 100000 in
theorem c_vec_Turn_1 (t1 t2 : Int) : CallsA Tryd.prog GT gbT 33 [.v (.c (.d (.int .i64 1))), .v (.agg [.int .i64 t1, .int .i64 t2])] [] (rMatE (turnF 1 ⟨t1, t2⟩)) [] := by
  refine CallsA.ofOk fun hok => ?_
  have hw := w_vec_Turn_1 t1 t2 (fun v M => some (Res.fin v M))
  refine CallsA.ofEv (Γ := (inl Tryd.prog GT EQT XT [52, 68] T_vec_Det 100 2)) (X := XT) (Λ := noL) (EQ := EQT) (n := 100) (g_vec_Det.inl hEQT hmT (fun f hf => by simp only [List.mem_cons, List.not_mem_nil, or_false] at hf; rcases hf with rfl | rfl <;> first | exact (fun args w => Tryd.call52 args w) | exact (fun args w => Tryd.call68 args w)) 100 2) hEQT hmT (fun _ _ _ _ => noL_ok _) (hw.trans ?_)
  have h_t1 := inR_i64 (hok (.int .i64 t1) (by simp [datasL, datas]))
  have h_t2 := inR_i64 (hok (.int .i64 t2) (by simp [datasL, datas]))
  clear hok hw
  exact turnAns_ok (K := fun v M => some (Res.fin v M)) (by omega)
set_option maxRecDepth 100000 in
/-- vec.Turn -/
theorem w_vec_Turn_2 (t1 t2 : Int) (K : AV → List Blk → Ans) : evFn Tryd.prog GT EQT (inl Tryd.prog GT EQT XT [52, 68] T_vec_Det 100 2) XT noL 100 33 [.v (.c (.d (.int .i64 2))), .v (.agg [.int .i64 t1, .int .i64 t2])] [] (fun v M => K v (M.take ([] : List Blk).length)) = turnAns K 2 ⟨t1, t2⟩ := by
  kernel_rfl
set_option maxRecDepth 100000 in
theorem c_vec_Turn_2 (t1 t2 : Int) : CallsA Tryd.prog GT gbT 33 [.v (.c (.d (.int .i64 2))), .v (.agg [.int .i64 t1, .int .i64 t2])] [] (rMatE (turnF 2 ⟨t1, t2⟩)) [] := by
  refine CallsA.ofOk fun hok => ?_
  have hw := w_vec_Turn_2 t1 t2 (fun v M => some (Res.fin v M))
  refine CallsA.ofEv (Γ := (inl Tryd.prog GT EQT XT [52, 68] T_vec_Det 100 2)) (X := XT) (Λ := noL) (EQ := EQT) (n := 100) (g_vec_Det.inl hEQT hmT (fun f hf => by simp only [List.mem_cons, List.not_mem_nil, or_false] at hf; rcases hf with rfl | rfl <;> first | exact (fun args w => Tryd.call52 args w) | exact (fun args w => Tryd.call68 args w)) 100 2) hEQT hmT (fun _ _ _ _ => noL_ok _) (hw.trans ?_)
  have h_t1 := inR_i64 (hok (.int .i64 t1) (by simp [datasL, datas]))
  have h_t2 := inR_i64 (hok (.int .i64 t2) (by simp [datasL, datas]))
  clear hok hw
  exact turnAns_ok (K := fun v M => some (Res.fin v M)) (by omega)
set_option maxRecDepth 100000 in
/-- vec.Turn -/
theorem w_vec_Turn_o (x t1 t2 : Int) (K : AV → List Blk → Ans) : evFn Tryd.prog GT EQT (inl Tryd.prog GT EQT XT [52] T_vec_Det 100 2) XT noL 7 33 [.v (.c (.d (.int .i64 x))), .v (.agg [.int .i64 t1, .int .i64 t2])] [] (fun v M => K v (M.take ([] : List Blk).length)) = turnAns0 K x ⟨t1, t2⟩ := by
  kernel_rfl
set_option maxRecDepth 100000 in
theorem c_vec_Turn_o (x t1 t2 : Int) (hv : x ≠ 0 ∧ x ≠ 1 ∧ x ≠ 2) : CallsA Tryd.prog GT gbT 33 [.v (.c (.d (.int .i64 x))), .v (.agg [.int .i64 t1, .int .i64 t2])] [] (rMatE (turnF x ⟨t1, t2⟩)) [] := by
  refine CallsA.ofOk fun hok => ?_
  have hw := w_vec_Turn_o x t1 t2 (fun v M => some (Res.fin v M))
  refine CallsA.ofEv (Γ := (inl Tryd.prog GT EQT XT [52] T_vec_Det 100 2)) (X := XT) (Λ := noL) (EQ := EQT) (n := 7) (g_vec_Det.inl hEQT hmT (fun f hf => by simp only [List.mem_cons, List.not_mem_nil, or_false] at hf; subst hf; exact (fun args w => Tryd.call52 args w)) 100 2) hEQT hmT (fun _ _ _ _ => noL_ok _) (hw.trans ?_)
  have h_x := inR_i64 (hok (.int .i64 x) (by simp [datasL, datas]))
  have h_t1 := inR_i64 (hok (.int .i64 t1) (by simp [datasL, datas]))
  have h_t2 := inR_i64 (hok (.int .i64 t2) (by simp [datasL, datas]))
  clear hok hw
  exact turnAns0_ok (K := fun v M => some (Res.fin v M)) hv
theorem c_vec_Turn (x t1 t2 : Int) : CallsA Tryd.prog GT gbT 33 [.v (.c (.d (.int .i64 x))), .v (.agg [.int .i64 t1, .int .i64 t2])] [] (rMatE (turnF x ⟨t1, t2⟩)) [] := by
  by_cases h_0 : x = 0
  · subst h_0; exact c_vec_Turn_0 t1 t2
  by_cases h_1 : x = 1
  · subst h_1; exact c_vec_Turn_1 t1 t2
  by_cases h_2 : x = 2
  · subst h_2; exact c_vec_Turn_2 t1 t2
  exact c_vec_Turn_o x t1 t2 ⟨h_0, h_1, h_2⟩
def s_vec_Turn : List AV → List Blk → (AV → List Blk → Ans) → Ans := fun xs bs K => match xs, bs with
  | [.v (.c (.d (.int .i64 x))), .v (.agg [.int .i64 t1, .int .i64 t2])], [] => K (rMatE (turnF x ⟨t1, t2⟩)) []
  | _, _ => none
def T_vec_Turn : Nat → List AV → List Blk → (AV → List Blk → Ans) → Ans := upd T_vec_Det 33 s_vec_Turn
theorem g_vec_Turn : GOK Tryd.prog GT gbT T_vec_Turn XT := by
  refine GOK.upd g_vec_Det (fun args w => Tryd.call33 args w) fun xs bs K r h => ?_
  unfold s_vec_Turn at h
  split at h
  · exact ⟨_, _, c_vec_Turn _ _ _, h⟩
  · cases h


set_option maxRecDepth 100000 in
/-- vec.Is -/
theorem w_vec_Is (m1 m2 m3 m4 m5 m6 m7 m8 m9 m10 m11 m12 m13 m14 m15 m16 m17 m18 : Int) (K : AV → List Blk → Ans) : evFn Tryd.prog GT EQT (inl Tryd.prog GT EQT XT [61, 52] T_vec_Turn 200 2) XT noL 200 35 [.v (.agg [.int .i64 m1, .int .i64 m2, .int .i64 m3, .int .i64 m4, .int .i64 m5, .int .i64 m6, .int .i64 m7, .int .i64 m8, .int .i64 m9, .int .i64 m10, .int .i64 m11, .int .i64 m12, .int .i64 m13, .int .i64 m14, .int .i64 m15, .int .i64 m16, .int .i64 m17, .int .i64 m18])] [] (fun v M => K v (M.take ([] : List Blk).length)) = isAns K ⟨⟨⟨m1, m2⟩, ⟨m3, m4⟩, ⟨m5, m6⟩⟩, ⟨⟨m7, m8⟩, ⟨m9, m10⟩, ⟨m11, m12⟩⟩, ⟨⟨m13, m14⟩, ⟨m15, m16⟩, ⟨m17, m18⟩⟩⟩ := by
  kernel_rfl
set_option maxRecDepth 100000 in
theorem c_vec_Is (m1 m2 m3 m4 m5 m6 m7 m8 m9 m10 m11 m12 m13 m14 m15 m16 m17 m18 : Int) : CallsA Tryd.prog GT gbT 35 [.v (.agg [.int .i64 m1, .int .i64 m2, .int .i64 m3, .int .i64 m4, .int .i64 m5, .int .i64 m6, .int .i64 m7, .int .i64 m8, .int .i64 m9, .int .i64 m10, .int .i64 m11, .int .i64 m12, .int .i64 m13, .int .i64 m14, .int .i64 m15, .int .i64 m16, .int .i64 m17, .int .i64 m18])] [] (rBoolE (isV ⟨⟨⟨m1, m2⟩, ⟨m3, m4⟩, ⟨m5, m6⟩⟩, ⟨⟨m7, m8⟩, ⟨m9, m10⟩, ⟨m11, m12⟩⟩, ⟨⟨m13, m14⟩, ⟨m15, m16⟩, ⟨m17, m18⟩⟩⟩)) [] := by
  refine CallsA.ofOk fun hok => ?_
  have hw := w_vec_Is m1 m2 m3 m4 m5 m6 m7 m8 m9 m10 m11 m12 m13 m14 m15 m16 m17 m18 (fun v M => some (Res.fin v M))
  refine CallsA.ofEv (Γ := (inl Tryd.prog GT EQT XT [61, 52] T_vec_Turn 200 2)) (X := XT) (Λ := noL) (EQ := EQT) (n := 200) (g_vec_Turn.inl hEQT hmT (fun f hf => by simp only [List.mem_cons, List.not_mem_nil, or_false] at hf; rcases hf with rfl | rfl <;> first | exact (fun args w => Tryd.call61 args w) | exact (fun args w => Tryd.call52 args w)) 200 2) hEQT hmT (fun _ _ _ _ => noL_ok _) (hw.trans ?_)
  have h_m1 := inR_i64 (hok (.int .i64 m1) (by simp [datasL, datas]))
  have h_m2 := inR_i64 (hok (.int .i64 m2) (by simp [datasL, datas]))
  have h_m3 := inR_i64 (hok (.int .i64 m3) (by simp [datasL, datas]))
  have h_m4 := inR_i64 (hok (.int .i64 m4) (by simp [datasL, datas]))
  have h_m5 := inR_i64 (hok (.int .i64 m5) (by simp [datasL, datas]))
  have h_m6 := inR_i64 (hok (.int .i64 m6) (by simp [datasL, datas]))
  have h_m7 := inR_i64 (hok (.int .i64 m7) (by simp [datasL, datas]))
  have h_m8 := inR_i64 (hok (.int .i64 m8) (by simp [datasL, datas]))
  have h_m9 := inR_i64 (hok (.int .i64 m9) (by simp [datasL, datas]))
  have h_m10 := inR_i64 (hok (.int .i64 m10) (by simp [datasL, datas]))
  have h_m11 := inR_i64 (hok (.int .i64 m11) (by simp [datasL, datas]))
  have h_m12 := inR_i64 (hok (.int .i64 m12) (by simp [datasL, datas]))
  have h_m13 := inR_i64 (hok (.int .i64 m13) (by simp [datasL, datas]))
  have h_m14 := inR_i64 (hok (.int .i64 m14) (by simp [datasL, datas]))
  have h_m15 := inR_i64 (hok (.int .i64 m15) (by simp [datasL, datas]))
  have h_m16 := inR_i64 (hok (.int .i64 m16) (by simp [datasL, datas]))
  have h_m17 := inR_i64 (hok (.int .i64 m17) (by simp [datasL, datas]))
  have h_m18 := inR_i64 (hok (.int .i64 m18) (by simp [datasL, datas]))
  clear hok hw
  exact isAns_ok (K := fun v M => some (Res.fin v M))
def s_vec_Is : List AV → List Blk → (AV → List Blk → Ans) → Ans := fun xs bs K => match xs, bs with
  | [.v (.agg [.int .i64 m1, .int .i64 m2, .int .i64 m3, .int .i64 m4, .int .i64 m5, .int .i64 m6, .int .i64 m7, .int .i64 m8, .int .i64 m9, .int .i64 m10, .int .i64 m11, .int .i64 m12, .int .i64 m13, .int .i64 m14, .int .i64 m15, .int .i64 m16, .int .i64 m17, .int .i64 m18])], [] => K (rBoolE (isV ⟨⟨⟨m1, m2⟩, ⟨m3, m4⟩, ⟨m5, m6⟩⟩, ⟨⟨m7, m8⟩, ⟨m9, m10⟩, ⟨m11, m12⟩⟩, ⟨⟨m13, m14⟩, ⟨m15, m16⟩, ⟨m17, m18⟩⟩⟩)) []
  | _, _ => none
def T_vec_Is : Nat → List AV → List Blk → (AV → List Blk → Ans) → Ans := upd T_vec_Turn 35 s_vec_Is
theorem g_vec_Is : GOK Tryd.prog GT gbT T_vec_Is XT := by
  refine GOK.upd g_vec_Turn (fun args w => Tryd.call35 args w) fun xs bs K r h => ?_
  unfold s_vec_Is at h
  split at h
  · exact ⟨_, _, c_vec_Is _ _ _ _ _ _ _ _ _ _ _ _ _ _ _ _ _ _, h⟩
  · cases h


set_option maxRecDepth 100000 in
/-- fringeref01.Of -/
theorem w_fringeref01_Of (n : Int) (K : AV → List Blk → Ans) : evFn Tryd.prog GT EQT T_vec_Is XT noL 60 22 [.v (.c (.d (.int .i64 n)))] [] (fun v M => K v (M.take ([] : List Blk).length)) = K (rFrac ⟨n, 1⟩) [] := by
  kernel_rfl
set_option maxRecDepth 100000 in
theorem c_fringeref01_Of (n : Int) : CallsA Tryd.prog GT gbT 22 [.v (.c (.d (.int .i64 n)))] [] (rFrac ⟨n, 1⟩) [] := by
  refine CallsA.ofOk fun hok => ?_
  have hw := w_fringeref01_Of n (fun v M => some (Res.fin v M))
  refine CallsA.ofEv (Γ := T_vec_Is) (X := XT) (Λ := noL) (EQ := EQT) (n := 60) g_vec_Is hEQT hmT (fun _ _ _ _ => noL_ok _) (hw.trans ?_)
  rfl
def s_fringeref01_Of : List AV → List Blk → (AV → List Blk → Ans) → Ans := fun xs bs K => match xs, bs with
  | [.v (.c (.d (.int .i64 n)))], [] => K (rFrac ⟨n, 1⟩) []
  | _, _ => none
def T_fringeref01_Of : Nat → List AV → List Blk → (AV → List Blk → Ans) → Ans := upd T_vec_Is 22 s_fringeref01_Of
theorem g_fringeref01_Of : GOK Tryd.prog GT gbT T_fringeref01_Of XT := by
  refine GOK.upd g_vec_Is (fun args w => Tryd.call22 args w) fun xs bs K r h => ?_
  unfold s_fringeref01_Of at h
  split at h
  · exact ⟨_, _, c_fringeref01_Of _, h⟩
  · cases h


set_option maxRecDepth 100000 in
/-- fringeref02.Valid -/
theorem w_fringeref02_Valid (m1 m2 m3 m4 m5 m6 m7 m8 m9 m10 m11 m12 m13 m14 m15 m16 m17 m18 : Int) (K : AV → List Blk → Ans) : evFn Tryd.prog GT EQT (inl Tryd.prog GT EQT XT [65] T_fringeref01_Of 100 2) XT noL 100 64 [.v (.agg [.int .i64 m1, .int .i64 m2, .int .i64 m3, .int .i64 m4, .int .i64 m5, .int .i64 m6, .int .i64 m7, .int .i64 m8, .int .i64 m9, .int .i64 m10, .int .i64 m11, .int .i64 m12, .int .i64 m13, .int .i64 m14, .int .i64 m15, .int .i64 m16, .int .i64 m17, .int .i64 m18])] [] (fun v M => K v (M.take ([] : List Blk).length)) = K (rI (checkMRaw ⟨⟨⟨m1, m2⟩, ⟨m3, m4⟩, ⟨m5, m6⟩⟩, ⟨⟨m7, m8⟩, ⟨m9, m10⟩, ⟨m11, m12⟩⟩, ⟨⟨m13, m14⟩, ⟨m15, m16⟩, ⟨m17, m18⟩⟩⟩)) [] := by
  simp only [checkMRaw, pullK K]
  kernel_rfl
set_option maxRecDepth 100000 in
theorem c_fringeref02_Valid (m1 m2 m3 m4 m5 m6 m7 m8 m9 m10 m11 m12 m13 m14 m15 m16 m17 m18 : Int) : CallsA Tryd.prog GT gbT 64 [.v (.agg [.int .i64 m1, .int .i64 m2, .int .i64 m3, .int .i64 m4, .int .i64 m5, .int .i64 m6, .int .i64 m7, .int .i64 m8, .int .i64 m9, .int .i64 m10, .int .i64 m11, .int .i64 m12, .int .i64 m13, .int .i64 m14, .int .i64 m15, .int .i64 m16, .int .i64 m17, .int .i64 m18])] [] (rI (checkM ⟨⟨⟨m1, m2⟩, ⟨m3, m4⟩, ⟨m5, m6⟩⟩, ⟨⟨m7, m8⟩, ⟨m9, m10⟩, ⟨m11, m12⟩⟩, ⟨⟨m13, m14⟩, ⟨m15, m16⟩, ⟨m17, m18⟩⟩⟩)) [] := by
  refine CallsA.ofOk fun hok => ?_
  have hw := w_fringeref02_Valid m1 m2 m3 m4 m5 m6 m7 m8 m9 m10 m11 m12 m13 m14 m15 m16 m17 m18 (fun v M => some (Res.fin v M))
  refine CallsA.ofEv (Γ := (inl Tryd.prog GT EQT XT [65] T_fringeref01_Of 100 2)) (X := XT) (Λ := noL) (EQ := EQT) (n := 100) (g_fringeref01_Of.inl hEQT hmT (fun f hf => by simp only [List.mem_cons, List.not_mem_nil, or_false] at hf; subst hf; exact (fun args w => Tryd.call65 args w)) 100 2) hEQT hmT (fun _ _ _ _ => noL_ok _) (hw.trans ?_)
  have h_m1 := inR_i64 (hok (.int .i64 m1) (by simp [datasL, datas]))
  have h_m2 := inR_i64 (hok (.int .i64 m2) (by simp [datasL, datas]))
  have h_m3 := inR_i64 (hok (.int .i64 m3) (by simp [datasL, datas]))
  have h_m4 := inR_i64 (hok (.int .i64 m4) (by simp [datasL, datas]))
  have h_m5 := inR_i64 (hok (.int .i64 m5) (by simp [datasL, datas]))
  have h_m6 := inR_i64 (hok (.int .i64 m6) (by simp [datasL, datas]))
  have h_m7 := inR_i64 (hok (.int .i64 m7) (by simp [datasL, datas]))
  have h_m8 := inR_i64 (hok (.int .i64 m8) (by simp [datasL, datas]))
  have h_m9 := inR_i64 (hok (.int .i64 m9) (by simp [datasL, datas]))
  have h_m10 := inR_i64 (hok (.int .i64 m10) (by simp [datasL, datas]))
  have h_m11 := inR_i64 (hok (.int .i64 m11) (by simp [datasL, datas]))
  have h_m12 := inR_i64 (hok (.int .i64 m12) (by simp [datasL, datas]))
  have h_m13 := inR_i64 (hok (.int .i64 m13) (by simp [datasL, datas]))
  have h_m14 := inR_i64 (hok (.int .i64 m14) (by simp [datasL, datas]))
  have h_m15 := inR_i64 (hok (.int .i64 m15) (by simp [datasL, datas]))
  have h_m16 := inR_i64 (hok (.int .i64 m16) (by simp [datasL, datas]))
  have h_m17 := inR_i64 (hok (.int .i64 m17) (by simp [datasL, datas]))
  have h_m18 := inR_i64 (hok (.int .i64 m18) (by simp [datasL, datas]))
  clear hok hw
  refine congrArg (fun v => some (Res.fin v [])) ?_
  rw [checkMRaw_ok]
def s_fringeref02_Valid : List AV → List Blk → (AV → List Blk → Ans) → Ans := fun xs bs K => match xs, bs with
  | [.v (.agg [.int .i64 m1, .int .i64 m2, .int .i64 m3, .int .i64 m4, .int .i64 m5, .int .i64 m6, .int .i64 m7, .int .i64 m8, .int .i64 m9, .int .i64 m10, .int .i64 m11, .int .i64 m12, .int .i64 m13, .int .i64 m14, .int .i64 m15, .int .i64 m16, .int .i64 m17, .int .i64 m18])], [] => K (rI (checkM ⟨⟨⟨m1, m2⟩, ⟨m3, m4⟩, ⟨m5, m6⟩⟩, ⟨⟨m7, m8⟩, ⟨m9, m10⟩, ⟨m11, m12⟩⟩, ⟨⟨m13, m14⟩, ⟨m15, m16⟩, ⟨m17, m18⟩⟩⟩)) []
  | _, _ => none
def T_fringeref02_Valid : Nat → List AV → List Blk → (AV → List Blk → Ans) → Ans := upd T_fringeref01_Of 64 s_fringeref02_Valid
theorem g_fringeref02_Valid : GOK Tryd.prog GT gbT T_fringeref02_Valid XT := by
  refine GOK.upd g_fringeref01_Of (fun args w => Tryd.call64 args w) fun xs bs K r h => ?_
  unfold s_fringeref02_Valid at h
  split at h
  · exact ⟨_, _, c_fringeref02_Valid _ _ _ _ _ _ _ _ _ _ _ _ _ _ _ _ _ _, h⟩
  · cases h


set_option maxRecDepth 100000 in
/-- fringeref02.Apply -/
theorem w_fringeref02_Apply (m1 m2 m3 m4 m5 m6 m7 m8 m9 m10 m11 m12 m13 m14 m15 m16 m17 m18 v1 v2 v3 v4 v5 v6 : Int) (K : AV → List Blk → Ans) : evFn Tryd.prog GT EQT (inl Tryd.prog GT EQT XT [65] T_fringeref02_Valid 100 2) XT noL 100 28 [.v (.agg [.int .i64 m1, .int .i64 m2, .int .i64 m3, .int .i64 m4, .int .i64 m5, .int .i64 m6, .int .i64 m7, .int .i64 m8, .int .i64 m9, .int .i64 m10, .int .i64 m11, .int .i64 m12, .int .i64 m13, .int .i64 m14, .int .i64 m15, .int .i64 m16, .int .i64 m17, .int .i64 m18]), .v (.agg [.int .i64 v1, .int .i64 v2, .int .i64 v3, .int .i64 v4, .int .i64 v5, .int .i64 v6])] [] (fun v M => K v (M.take ([] : List Blk).length)) = applyRef K ⟨⟨⟨m1, m2⟩, ⟨m3, m4⟩, ⟨m5, m6⟩⟩, ⟨⟨m7, m8⟩, ⟨m9, m10⟩, ⟨m11, m12⟩⟩, ⟨⟨m13, m14⟩, ⟨m15, m16⟩, ⟨m17, m18⟩⟩⟩ ⟨⟨v1, v2⟩, ⟨v3, v4⟩, ⟨v5, v6⟩⟩ := by
  kernel_rfl
set_option maxRecDepth 100000 in
theorem c_fringeref02_Apply (m1 m2 m3 m4 m5 m6 m7 m8 m9 m10 m11 m12 m13 m14 m15 m16 m17 m18 v1 v2 v3 v4 v5 v6 : Int) : CallsA Tryd.prog GT gbT 28 [.v (.agg [.int .i64 m1, .int .i64 m2, .int .i64 m3, .int .i64 m4, .int .i64 m5, .int .i64 m6, .int .i64 m7, .int .i64 m8, .int .i64 m9, .int .i64 m10, .int .i64 m11, .int .i64 m12, .int .i64 m13, .int .i64 m14, .int .i64 m15, .int .i64 m16, .int .i64 m17, .int .i64 m18]), .v (.agg [.int .i64 v1, .int .i64 v2, .int .i64 v3, .int .i64 v4, .int .i64 v5, .int .i64 v6])] [] (rVecE (applyV ⟨⟨⟨m1, m2⟩, ⟨m3, m4⟩, ⟨m5, m6⟩⟩, ⟨⟨m7, m8⟩, ⟨m9, m10⟩, ⟨m11, m12⟩⟩, ⟨⟨m13, m14⟩, ⟨m15, m16⟩, ⟨m17, m18⟩⟩⟩ ⟨⟨v1, v2⟩, ⟨v3, v4⟩, ⟨v5, v6⟩⟩)) [] := by
  refine CallsA.ofOk fun hok => ?_
  have hw := w_fringeref02_Apply m1 m2 m3 m4 m5 m6 m7 m8 m9 m10 m11 m12 m13 m14 m15 m16 m17 m18 v1 v2 v3 v4 v5 v6 (fun v M => some (Res.fin v M))
  refine CallsA.ofEv (Γ := (inl Tryd.prog GT EQT XT [65] T_fringeref02_Valid 100 2)) (X := XT) (Λ := noL) (EQ := EQT) (n := 100) (g_fringeref02_Valid.inl hEQT hmT (fun f hf => by simp only [List.mem_cons, List.not_mem_nil, or_false] at hf; subst hf; exact (fun args w => Tryd.call65 args w)) 100 2) hEQT hmT (fun _ _ _ _ => noL_ok _) (hw.trans ?_)
  have h_m1 := inR_i64 (hok (.int .i64 m1) (by simp [datasL, datas]))
  have h_m2 := inR_i64 (hok (.int .i64 m2) (by simp [datasL, datas]))
  have h_m3 := inR_i64 (hok (.int .i64 m3) (by simp [datasL, datas]))
  have h_m4 := inR_i64 (hok (.int .i64 m4) (by simp [datasL, datas]))
  have h_m5 := inR_i64 (hok (.int .i64 m5) (by simp [datasL, datas]))
  have h_m6 := inR_i64 (hok (.int .i64 m6) (by simp [datasL, datas]))
  have h_m7 := inR_i64 (hok (.int .i64 m7) (by simp [datasL, datas]))
  have h_m8 := inR_i64 (hok (.int .i64 m8) (by simp [datasL, datas]))
  have h_m9 := inR_i64 (hok (.int .i64 m9) (by simp [datasL, datas]))
  have h_m10 := inR_i64 (hok (.int .i64 m10) (by simp [datasL, datas]))
  have h_m11 := inR_i64 (hok (.int .i64 m11) (by simp [datasL, datas]))
  have h_m12 := inR_i64 (hok (.int .i64 m12) (by simp [datasL, datas]))
  have h_m13 := inR_i64 (hok (.int .i64 m13) (by simp [datasL, datas]))
  have h_m14 := inR_i64 (hok (.int .i64 m14) (by simp [datasL, datas]))
  have h_m15 := inR_i64 (hok (.int .i64 m15) (by simp [datasL, datas]))
  have h_m16 := inR_i64 (hok (.int .i64 m16) (by simp [datasL, datas]))
  have h_m17 := inR_i64 (hok (.int .i64 m17) (by simp [datasL, datas]))
  have h_m18 := inR_i64 (hok (.int .i64 m18) (by simp [datasL, datas]))
  have h_v1 := inR_i64 (hok (.int .i64 v1) (by simp [datasL, datas]))
  have h_v2 := inR_i64 (hok (.int .i64 v2) (by simp [datasL, datas]))
  have h_v3 := inR_i64 (hok (.int .i64 v3) (by simp [datasL, datas]))
  have h_v4 := inR_i64 (hok (.int .i64 v4) (by simp [datasL, datas]))
  have h_v5 := inR_i64 (hok (.int .i64 v5) (by simp [datasL, datas]))
  have h_v6 := inR_i64 (hok (.int .i64 v6) (by simp [datasL, datas]))
  clear hok hw
  exact applyRef_ok (K := fun v M => some (Res.fin v M))
def s_fringeref02_Apply : List AV → List Blk → (AV → List Blk → Ans) → Ans := fun xs bs K => match xs, bs with
  | [.v (.agg [.int .i64 m1, .int .i64 m2, .int .i64 m3, .int .i64 m4, .int .i64 m5, .int .i64 m6, .int .i64 m7, .int .i64 m8, .int .i64 m9, .int .i64 m10, .int .i64 m11, .int .i64 m12, .int .i64 m13, .int .i64 m14, .int .i64 m15, .int .i64 m16, .int .i64 m17, .int .i64 m18]), .v (.agg [.int .i64 v1, .int .i64 v2, .int .i64 v3, .int .i64 v4, .int .i64 v5, .int .i64 v6])], [] => K (rVecE (applyV ⟨⟨⟨m1, m2⟩, ⟨m3, m4⟩, ⟨m5, m6⟩⟩, ⟨⟨m7, m8⟩, ⟨m9, m10⟩, ⟨m11, m12⟩⟩, ⟨⟨m13, m14⟩, ⟨m15, m16⟩, ⟨m17, m18⟩⟩⟩ ⟨⟨v1, v2⟩, ⟨v3, v4⟩, ⟨v5, v6⟩⟩)) []
  | _, _ => none
def T_fringeref02_Apply : Nat → List AV → List Blk → (AV → List Blk → Ans) → Ans := upd T_fringeref02_Valid 28 s_fringeref02_Apply
theorem g_fringeref02_Apply : GOK Tryd.prog GT gbT T_fringeref02_Apply XT := by
  refine GOK.upd g_fringeref02_Valid (fun args w => Tryd.call28 args w) fun xs bs K r h => ?_
  unfold s_fringeref02_Apply at h
  split at h
  · exact ⟨_, _, c_fringeref02_Apply _ _ _ _ _ _ _ _ _ _ _ _ _ _ _ _ _ _ _ _ _ _ _ _, h⟩
  · cases h


set_option maxRecDepth 100000 in
/-- fringeref02.Prod -/
theorem w_fringeref02_Prod (m1 m2 m3 m4 m5 m6 m7 m8 m9 m10 m11 m12 m13 m14 m15 m16 m17 m18 n1 n2 n3 n4 n5 n6 n7 n8 n9 n10 n11 n12 n13 n14 n15 n16 n17 n18 : Int) (K : AV → List Blk → Ans) : evFn Tryd.prog GT EQT (inl Tryd.prog GT EQT XT [65, 67] T_fringeref02_Apply 200 2) XT noL 200 30 [.v (.agg [.int .i64 m1, .int .i64 m2, .int .i64 m3, .int .i64 m4, .int .i64 m5, .int .i64 m6, .int .i64 m7, .int .i64 m8, .int .i64 m9, .int .i64 m10, .int .i64 m11, .int .i64 m12, .int .i64 m13, .int .i64 m14, .int .i64 m15, .int .i64 m16, .int .i64 m17, .int .i64 m18]), .v (.agg [.int .i64 n1, .int .i64 n2, .int .i64 n3, .int .i64 n4, .int .i64 n5, .int .i64 n6, .int .i64 n7, .int .i64 n8, .int .i64 n9, .int .i64 n10, .int .i64 n11, .int .i64 n12, .int .i64 n13, .int .i64 n14, .int .i64 n15, .int .i64 n16, .int .i64 n17, .int .i64 n18])] [] (fun v M => K v (M.take ([] : List Blk).length)) = prodRef K ⟨⟨⟨m1, m2⟩, ⟨m3, m4⟩, ⟨m5, m6⟩⟩, ⟨⟨m7, m8⟩, ⟨m9, m10⟩, ⟨m11, m12⟩⟩, ⟨⟨m13, m14⟩, ⟨m15, m16⟩, ⟨m17, m18⟩⟩⟩ ⟨⟨⟨n1, n2⟩, ⟨n3, n4⟩, ⟨n5, n6⟩⟩, ⟨⟨n7, n8⟩, ⟨n9, n10⟩, ⟨n11, n12⟩⟩, ⟨⟨n13, n14⟩, ⟨n15, n16⟩, ⟨n17, n18⟩⟩⟩ := by
  kernel_rfl
set_option maxRecDepth 100000 in
theorem c_fringeref02_Prod (m1 m2 m3 m4 m5 m6 m7 m8 m9 m10 m11 m12 m13 m14 m15 m16 m17 m18 n1 n2 n3 n4 n5 n6 n7 n8 n9 n10 n11 n12 n13 n14 n15 n16 n17 n18 : Int) : CallsA Tryd.prog GT gbT 30 [.v (.agg [.int .i64 m1, .int .i64 m2, .int .i64 m3, .int .i64 m4, .int .i64 m5, .int .i64 m6, .int .i64 m7, .int .i64 m8, .int .i64 m9, .int .i64 m10, .int .i64 m11, .int .i64 m12, .int .i64 m13, .int .i64 m14, .int .i64 m15, .int .i64 m16, .int .i64 m17, .int .i64 m18]), .v (.agg [.int .i64 n1, .int .i64 n2, .int .i64 n3, .int .i64 n4, .int .i64 n5, .int .i64 n6, .int .i64 n7, .int .i64 n8, .int .i64 n9, .int .i64 n10, .int .i64 n11, .int .i64 n12, .int .i64 n13, .int .i64 n14, .int .i64 n15, .int .i64 n16, .int .i64 n17, .int .i64 n18])] [] (rMatE (prodM ⟨⟨⟨m1, m2⟩, ⟨m3, m4⟩, ⟨m5, m6⟩⟩, ⟨⟨m7, m8⟩, ⟨m9, m10⟩, ⟨m11, m12⟩⟩, ⟨⟨m13, m14⟩, ⟨m15, m16⟩, ⟨m17, m18⟩⟩⟩ ⟨⟨⟨n1, n2⟩, ⟨n3, n4⟩, ⟨n5, n6⟩⟩, ⟨⟨n7, n8⟩, ⟨n9, n10⟩, ⟨n11, n12⟩⟩, ⟨⟨n13, n14⟩, ⟨n15, n16⟩, ⟨n17, n18⟩⟩⟩)) [] := by
  refine CallsA.ofOk fun hok => ?_
  have hw := w_fringeref02_Prod m1 m2 m3 m4 m5 m6 m7 m8 m9 m10 m11 m12 m13 m14 m15 m16 m17 m18 n1 n2 n3 n4 n5 n6 n7 n8 n9 n10 n11 n12 n13 n14 n15 n16 n17 n18 (fun v M => some (Res.fin v M))
  refine CallsA.ofEv (Γ := (inl Tryd.prog GT EQT XT [65, 67] T_fringeref02_Apply 200 2)) (X := XT) (Λ := noL) (EQ := EQT) (n := 200) (g_fringeref02_Apply.inl hEQT hmT (fun f hf => by simp only [List.mem_cons, List.not_mem_nil, or_false] at hf; rcases hf with rfl | rfl <;> first | exact (fun args w => Tryd.call65 args w) | exact (fun args w => Tryd.call67 args w)) 200 2) hEQT hmT (fun _ _ _ _ => noL_ok _) (hw.trans ?_)
  have h_m1 := inR_i64 (hok (.int .i64 m1) (by simp [datasL, datas]))
  have h_m2 := inR_i64 (hok (.int .i64 m2) (by simp [datasL, datas]))
  have h_m3 := inR_i64 (hok (.int .i64 m3) (by simp [datasL, datas]))
  have h_m4 := inR_i64 (hok (.int .i64 m4) (by simp [datasL, datas]))
  have h_m5 := inR_i64 (hok (.int .i64 m5) (by simp [datasL, datas]))
  have h_m6 := inR_i64 (hok (.int .i64 m6) (by simp [datasL, datas]))
  have h_m7 := inR_i64 (hok (.int .i64 m7) (by simp [datasL, datas]))
  have h_m8 := inR_i64 (hok (.int .i64 m8) (by simp [datasL, datas]))
  have h_m9 := inR_i64 (hok (.int .i64 m9) (by simp [datasL, datas]))
  have h_m10 := inR_i64 (hok (.int .i64 m10) (by simp [datasL, datas]))
  have h_m11 := inR_i64 (hok (.int .i64 m11) (by simp [datasL, datas]))
  have h_m12 := inR_i64 (hok (.int .i64 m12) (by simp [datasL, datas]))
  have h_m13 := inR_i64 (hok (.int .i64 m13) (by simp [datasL, datas]))
  have h_m14 := inR_i64 (hok (.int .i64 m14) (by simp [datasL, datas]))
  have h_m15 := inR_i64 (hok (.int .i64 m15) (by simp [datasL, datas]))
  have h_m16 := inR_i64 (hok (.int .i64 m16) (by simp [datasL, datas]))
  have h_m17 := inR_i64 (hok (.int .i64 m17) (by simp [datasL, datas]))
  have h_m18 := inR_i64 (hok (.int .i64 m18) (by simp [datasL, datas]))
  have h_n1 := inR_i64 (hok (.int .i64 n1) (by simp [datasL, datas]))
  have h_n2 := inR_i64 (hok (.int .i64 n2) (by simp [datasL, datas]))
  have h_n3 := inR_i64 (hok (.int .i64 n3) (by simp [datasL, datas]))
  have h_n4 := inR_i64 (hok (.int .i64 n4) (by simp [datasL, datas]))
  have h_n5 := inR_i64 (hok (.int .i64 n5) (by simp [datasL, datas]))
  have h_n6 := inR_i64 (hok (.int .i64 n6) (by simp [datasL, datas]))
  have h_n7 := inR_i64 (hok (.int .i64 n7) (by simp [datasL, datas]))
  have h_n8 := inR_i64 (hok (.int .i64 n8) (by simp [datasL, datas]))
  have h_n9 := inR_i64 (hok (.int .i64 n9) (by simp [datasL, datas]))
  have h_n10 := inR_i64 (hok (.int .i64 n10) (by simp [datasL, datas]))
  have h_n11 := inR_i64 (hok (.int .i64 n11) (by simp [datasL, datas]))
  have h_n12 := inR_i64 (hok (.int .i64 n12) (by simp [datasL, datas]))
  have h_n13 := inR_i64 (hok (.int .i64 n13) (by simp [datasL, datas]))
  have h_n14 := inR_i64 (hok (.int .i64 n14) (by simp [datasL, datas]))
  have h_n15 := inR_i64 (hok (.int .i64 n15) (by simp [datasL, datas]))
  have h_n16 := inR_i64 (hok (.int .i64 n16) (by simp [datasL, datas]))
  have h_n17 := inR_i64 (hok (.int .i64 n17) (by simp [datasL, datas]))
  have h_n18 := inR_i64 (hok (.int .i64 n18) (by simp [datasL, datas]))
  clear hok hw
  exact prodRef_ok (K := fun v M => some (Res.fin v M))
def s_fringeref02_Prod : List AV → List Blk → (AV → List Blk → Ans) → Ans := fun xs bs K => match xs, bs with
  | [.v (.agg [.int .i64 m1, .int .i64 m2, .int .i64 m3, .int .i64 m4, .int .i64 m5, .int .i64 m6, .int .i64 m7, .int .i64 m8, .int .i64 m9, .int .i64 m10, .int .i64 m11, .int .i64 m12, .int .i64 m13, .int .i64 m14, .int .i64 m15, .int .i64 m16, .int .i64 m17, .int .i64 m18]), .v (.agg [.int .i64 n1, .int .i64 n2, .int .i64 n3, .int .i64 n4, .int .i64 n5, .int .i64 n6, .int .i64 n7, .int .i64 n8, .int .i64 n9, .int .i64 n10, .int .i64 n11, .int .i64 n12, .int .i64 n13, .int .i64 n14, .int .i64 n15, .int .i64 n16, .int .i64 n17, .int .i64 n18])], [] => K (rMatE (prodM ⟨⟨⟨m1, m2⟩, ⟨m3, m4⟩, ⟨m5, m6⟩⟩, ⟨⟨m7, m8⟩, ⟨m9, m10⟩, ⟨m11, m12⟩⟩, ⟨⟨m13, m14⟩, ⟨m15, m16⟩, ⟨m17, m18⟩⟩⟩ ⟨⟨⟨n1, n2⟩, ⟨n3, n4⟩, ⟨n5, n6⟩⟩, ⟨⟨n7, n8⟩, ⟨n9, n10⟩, ⟨n11, n12⟩⟩, ⟨⟨n13, n14⟩, ⟨n15, n16⟩, ⟨n17, n18⟩⟩⟩)) []
  | _, _ => none
def T_fringeref02_Prod : Nat → List AV → List Blk → (AV → List Blk → Ans) → Ans := upd T_fringeref02_Apply 30 s_fringeref02_Prod
theorem g_fringeref02_Prod : GOK Tryd.prog GT gbT T_fringeref02_Prod XT := by
  refine GOK.upd g_fringeref02_Apply (fun args w => Tryd.call30 args w) fun xs bs K r h => ?_
  unfold s_fringeref02_Prod at h
  split at h
  · exact ⟨_, _, c_fringeref02_Prod _ _ _ _ _ _ _ _ _ _ _ _ _ _ _ _ _ _ _ _ _ _ _ _ _ _ _ _ _ _ _ _ _ _ _ _, h⟩
  · cases h


set_option maxRecDepth 100000 in
/-- fringeref02.Flip -/
theorem w_fringeref02_Flip (m1 m2 m3 m4 m5 m6 m7 m8 m9 m10 m11 m12 m13 m14 m15 m16 m17 m18 : Int) (K : AV → List Blk → Ans) : evFn Tryd.prog GT EQT T_fringeref02_Prod XT noL 200 31 [.v (.agg [.int .i64 m1, .int .i64 m2, .int .i64 m3, .int .i64 m4, .int .i64 m5, .int .i64 m6, .int .i64 m7, .int .i64 m8, .int .i64 m9, .int .i64 m10, .int .i64 m11, .int .i64 m12, .int .i64 m13, .int .i64 m14, .int .i64 m15, .int .i64 m16, .int .i64 m17, .int .i64 m18])] [] (fun v M => K v (M.take ([] : List Blk).length)) = flipRef K ⟨⟨⟨m1, m2⟩, ⟨m3, m4⟩, ⟨m5, m6⟩⟩, ⟨⟨m7, m8⟩, ⟨m9, m10⟩, ⟨m11, m12⟩⟩, ⟨⟨m13, m14⟩, ⟨m15, m16⟩, ⟨m17, m18⟩⟩⟩ := by
  kernel_rfl
set_option maxRecDepth 100000 in
theorem c_fringeref02_Flip (m1 m2 m3 m4 m5 m6 m7 m8 m9 m10 m11 m12 m13 m14 m15 m16 m17 m18 : Int) : CallsA Tryd.prog GT gbT 31 [.v (.agg [.int .i64 m1, .int .i64 m2, .int .i64 m3, .int .i64 m4, .int .i64 m5, .int .i64 m6, .int .i64 m7, .int .i64 m8, .int .i64 m9, .int .i64 m10, .int .i64 m11, .int .i64 m12, .int .i64 m13, .int .i64 m14, .int .i64 m15, .int .i64 m16, .int .i64 m17, .int .i64 m18])] [] (rMatE (flipV ⟨⟨⟨m1, m2⟩, ⟨m3, m4⟩, ⟨m5, m6⟩⟩, ⟨⟨m7, m8⟩, ⟨m9, m10⟩, ⟨m11, m12⟩⟩, ⟨⟨m13, m14⟩, ⟨m15, m16⟩, ⟨m17, m18⟩⟩⟩)) [] := by
  refine CallsA.ofOk fun hok => ?_
  have hw := w_fringeref02_Flip m1 m2 m3 m4 m5 m6 m7 m8 m9 m10 m11 m12 m13 m14 m15 m16 m17 m18 (fun v M => some (Res.fin v M))
  refine CallsA.ofEv (Γ := T_fringeref02_Prod) (X := XT) (Λ := noL) (EQ := EQT) (n := 200) g_fringeref02_Prod hEQT hmT (fun _ _ _ _ => noL_ok _) (hw.trans ?_)
  have h_m1 := inR_i64 (hok (.int .i64 m1) (by simp [datasL, datas]))
  have h_m2 := inR_i64 (hok (.int .i64 m2) (by simp [datasL, datas]))
  have h_m3 := inR_i64 (hok (.int .i64 m3) (by simp [datasL, datas]))
  have h_m4 := inR_i64 (hok (.int .i64 m4) (by simp [datasL, datas]))
  have h_m5 := inR_i64 (hok (.int .i64 m5) (by simp [datasL, datas]))
  have h_m6 := inR_i64 (hok (.int .i64 m6) (by simp [datasL, datas]))
  have h_m7 := inR_i64 (hok (.int .i64 m7) (by simp [datasL, datas]))
  have h_m8 := inR_i64 (hok (.int .i64 m8) (by simp [datasL, datas]))
  have h_m9 := inR_i64 (hok (.int .i64 m9) (by simp [datasL, datas]))
  have h_m10 := inR_i64 (hok (.int .i64 m10) (by simp [datasL, datas]))
  have h_m11 := inR_i64 (hok (.int .i64 m11) (by simp [datasL, datas]))
  have h_m12 := inR_i64 (hok (.int .i64 m12) (by simp [datasL, datas]))
  have h_m13 := inR_i64 (hok (.int .i64 m13) (by simp [datasL, datas]))
  have h_m14 := inR_i64 (hok (.int .i64 m14) (by simp [datasL, datas]))
  have h_m15 := inR_i64 (hok (.int .i64 m15) (by simp [datasL, datas]))
  have h_m16 := inR_i64 (hok (.int .i64 m16) (by simp [datasL, datas]))
  have h_m17 := inR_i64 (hok (.int .i64 m17) (by simp [datasL, datas]))
  have h_m18 := inR_i64 (hok (.int .i64 m18) (by simp [datasL, datas]))
  clear hok hw
  exact flipRef_ok (K := fun v M => some (Res.fin v M))
def s_fringeref02_Flip : List AV → List Blk → (AV → List Blk → Ans) → Ans := fun xs bs K => match xs, bs with
  | [.v (.agg [.int .i64 m1, .int .i64 m2, .int .i64 m3, .int .i64 m4, .int .i64 m5, .int .i64 m6, .int .i64 m7, .int .i64 m8, .int .i64 m9, .int .i64 m10, .int .i64 m11, .int .i64 m12, .int .i64 m13, .int .i64 m14, .int .i64 m15, .int .i64 m16, .int .i64 m17, .int .i64 m18])], [] => K (rMatE (flipV ⟨⟨⟨m1, m2⟩, ⟨m3, m4⟩, ⟨m5, m6⟩⟩, ⟨⟨m7, m8⟩, ⟨m9, m10⟩, ⟨m11, m12⟩⟩, ⟨⟨m13, m14⟩, ⟨m15, m16⟩, ⟨m17, m18⟩⟩⟩)) []
  | _, _ => none
def T_fringeref02_Flip : Nat → List AV → List Blk → (AV → List Blk → Ans) → Ans := upd T_fringeref02_Prod 31 s_fringeref02_Flip
theorem g_fringeref02_Flip : GOK Tryd.prog GT gbT T_fringeref02_Flip XT := by
  refine GOK.upd g_fringeref02_Prod (fun args w => Tryd.call31 args w) fun xs bs K r h => ?_
  unfold s_fringeref02_Flip at h
  split at h
  · exact ⟨_, _, c_fringeref02_Flip _ _ _ _ _ _ _ _ _ _ _ _ _ _ _ _ _ _, h⟩
  · cases h


set_option maxRecDepth 100000 in
/-- fringeref02.Det -/
theorem w_fringeref02_Det (m1 m2 m3 m4 m5 m6 m7 m8 m9 m10 m11 m12 m13 m14 m15 m16 m17 m18 : Int) (K : AV → List Blk → Ans) : evFn Tryd.prog GT EQT (inl Tryd.prog GT EQT XT [65] T_fringeref02_Flip 200 2) XT noL 200 32 [.v (.agg [.int .i64 m1, .int .i64 m2, .int .i64 m3, .int .i64 m4, .int .i64 m5, .int .i64 m6, .int .i64 m7, .int .i64 m8, .int .i64 m9, .int .i64 m10, .int .i64 m11, .int .i64 m12, .int .i64 m13, .int .i64 m14, .int .i64 m15, .int .i64 m16, .int .i64 m17, .int .i64 m18])] [] (fun v M => K v (M.take ([] : List Blk).length)) = detRef K ⟨⟨⟨m1, m2⟩, ⟨m3, m4⟩, ⟨m5, m6⟩⟩, ⟨⟨m7, m8⟩, ⟨m9, m10⟩, ⟨m11, m12⟩⟩, ⟨⟨m13, m14⟩, ⟨m15, m16⟩, ⟨m17, m18⟩⟩⟩ := by
  kernel_rfl
set_option maxRecDepth 100000 in
theorem c_fringeref02_Det (m1 m2 m3 m4 m5 m6 m7 m8 m9 m10 m11 m12 m13 m14 m15 m16 m17 m18 : Int) : CallsA Tryd.prog GT gbT 32 [.v (.agg [.int .i64 m1, .int .i64 m2, .int .i64 m3, .int .i64 m4, .int .i64 m5, .int .i64 m6, .int .i64 m7, .int .i64 m8, .int .i64 m9, .int .i64 m10, .int .i64 m11, .int .i64 m12, .int .i64 m13, .int .i64 m14, .int .i64 m15, .int .i64 m16, .int .i64 m17, .int .i64 m18])] [] (rFracE (detV ⟨⟨⟨m1, m2⟩, ⟨m3, m4⟩, ⟨m5, m6⟩⟩, ⟨⟨m7, m8⟩, ⟨m9, m10⟩, ⟨m11, m12⟩⟩, ⟨⟨m13, m14⟩, ⟨m15, m16⟩, ⟨m17, m18⟩⟩⟩)) [] := by
  refine CallsA.ofOk fun hok => ?_
  have hw := w_fringeref02_Det m1 m2 m3 m4 m5 m6 m7 m8 m9 m10 m11 m12 m13 m14 m15 m16 m17 m18 (fun v M => some (Res.fin v M))
  refine CallsA.ofEv (Γ := (inl Tryd.prog GT EQT XT [65] T_fringeref02_Flip 200 2)) (X := XT) (Λ := noL) (EQ := EQT) (n := 200) (g_fringeref02_Flip.inl hEQT hmT (fun f hf => by simp only [List.mem_cons, List.not_mem_nil, or_false] at hf; subst hf; exact (fun args w => Tryd.call65 args w)) 200 2) hEQT hmT (fun _ _ _ _ => noL_ok _) (hw.trans ?_)
  have h_m1 := inR_i64 (hok (.int .i64 m1) (by simp [datasL, datas]))
  have h_m2 := inR_i64 (hok (.int .i64 m2) (by simp [datasL, datas]))
  have h_m3 := inR_i64 (hok (.int .i64 m3) (by simp [datasL, datas]))
  have h_m4 := inR_i64 (hok (.int .i64 m4) (by simp [datasL, datas]))
  have h_m5 := inR_i64 (hok (.int .i64 m5) (by simp [datasL, datas]))
  have h_m6 := inR_i64 (hok (.int .i64 m6) (by simp [datasL, datas]))
  have h_m7 := inR_i64 (hok (.int .i64 m7) (by simp [datasL, datas]))
  have h_m8 := inR_i64 (hok (.int .i64 m8) (by simp [datasL, datas]))
  have h_m9 := inR_i64 (hok (.int .i64 m9) (by simp [datasL, datas]))
  have h_m10 := inR_i64 (hok (.int .i64 m10) (by simp [datasL, datas]))
  have h_m11 := inR_i64 (hok (.int .i64 m11) (by simp [datasL, datas]))
  have h_m12 := inR_i64 (hok (.int .i64 m12) (by simp [datasL, datas]))
  have h_m13 := inR_i64 (hok (.int .i64 m13) (by simp [datasL, datas]))
  have h_m14 := inR_i64 (hok (.int .i64 m14) (by simp [datasL, datas]))
  have h_m15 := inR_i64 (hok (.int .i64 m15) (by simp [datasL, datas]))
  have h_m16 := inR_i64 (hok (.int .i64 m16) (by simp [datasL, datas]))
  have h_m17 := inR_i64 (hok (.int .i64 m17) (by simp [datasL, datas]))
  have h_m18 := inR_i64 (hok (.int .i64 m18) (by simp [datasL, datas]))
  clear hok hw
  exact detRef_ok (K := fun v M => some (Res.fin v M))
def s_fringeref02_Det : List AV → List Blk → (AV → List Blk → Ans) → Ans := fun xs bs K => match xs, bs with
  | [.v (.agg [.int .i64 m1, .int .i64 m2, .int .i64 m3, .int .i64 m4, .int .i64 m5, .int .i64 m6, .int .i64 m7, .int .i64 m8, .int .i64 m9, .int .i64 m10, .int .i64 m11, .int .i64 m12, .int .i64 m13, .int .i64 m14, .int .i64 m15, .int .i64 m16, .int .i64 m17, .int .i64 m18])], [] => K (rFracE (detV ⟨⟨⟨m1, m2⟩, ⟨m3, m4⟩, ⟨m5, m6⟩⟩, ⟨⟨m7, m8⟩, ⟨m9, m10⟩, ⟨m11, m12⟩⟩, ⟨⟨m13, m14⟩, ⟨m15, m16⟩, ⟨m17, m18⟩⟩⟩)) []
  | _, _ => none
def T_fringeref02_Det : Nat → List AV → List Blk → (AV → List Blk → Ans) → Ans := upd T_fringeref02_Flip 32 s_fringeref02_Det
theorem g_fringeref02_Det : GOK Tryd.prog GT gbT T_fringeref02_Det XT := by
  refine GOK.upd g_fringeref02_Flip (fun args w => Tryd.call32 args w) fun xs bs K r h => ?_
  unfold s_fringeref02_Det at h
  split at h
  · exact ⟨_, _, c_fringeref02_Det _ _ _ _ _ _ _ _ _ _ _ _ _ _ _ _ _ _, h⟩
  · cases h


set_option maxRecDepth 100000 in
/-- fringeref02.Same -/
theorem w_fringeref02_Same (K : AV → List Blk → Ans) : evFn Tryd.prog GT EQT T_fringeref02_Det XT noL 200 42 [] [] (fun v M => K v (M.take ([] : List Blk).length)) = K (rMat unitM) [] := by
  kernel_rfl
set_option maxRecDepth 100000 in
theorem c_fringeref02_Same : CallsA Tryd.prog GT gbT 42 [] [] (rMat unitM) [] := by
  refine CallsA.ofOk fun hok => ?_
  have hw := w_fringeref02_Same (fun v M => some (Res.fin v M))
  refine CallsA.ofEv (Γ := T_fringeref02_Det) (X := XT) (Λ := noL) (EQ := EQT) (n := 200) g_fringeref02_Det hEQT hmT (fun _ _ _ _ => noL_ok _) (hw.trans ?_)
  rfl
def s_fringeref02_Same : List AV → List Blk → (AV → List Blk → Ans) → Ans := fun xs bs K => match xs, bs with
  | [], [] => K (rMat unitM) []
  | _, _ => none
def T_fringeref02_Same : Nat → List AV → List Blk → (AV → List Blk → Ans) → Ans := upd T_fringeref02_Det 42 s_fringeref02_Same
theorem g_fringeref02_Same : GOK Tryd.prog GT gbT T_fringeref02_Same XT := by
  refine GOK.upd g_fringeref02_Det (fun args w => Tryd.call42 args w) fun xs bs K r h => ?_
  unfold s_fringeref02_Same at h
  split at h
  · exact ⟨_, _, c_fringeref02_Same, h⟩
  · cases h


set_option maxRecDepth 100000 in
/-- fringeref02.Pair -/
theorem w_fringeref02_Pair (t1 t2 : Int) (K : AV → List Blk → Ans) : evFn Tryd.prog GT EQT T_fringeref02_Same XT noL 100 70 [.v (.agg [.int .i64 t1, .int .i64 t2])] [] (fun v M => K v (M.take ([] : List Blk).length)) = K (rPair (pairR ⟨t1, t2⟩)) [] := by
  simp only [pairR, pullK K]
  kernel_rfl
set_option maxRecDepth 100000 in
theorem c_fringeref02_Pair (t1 t2 : Int) : CallsA Tryd.prog GT gbT 70 [.v (.agg [.int .i64 t1, .int .i64 t2])] [] (rPair (pairR ⟨t1, t2⟩)) [] := by
  refine CallsA.ofOk fun hok => ?_
  have hw := w_fringeref02_Pair t1 t2 (fun v M => some (Res.fin v M))
  refine CallsA.ofEv (Γ := T_fringeref02_Same) (X := XT) (Λ := noL) (EQ := EQT) (n := 100) g_fringeref02_Same hEQT hmT (fun _ _ _ _ => noL_ok _) (hw.trans ?_)
  rfl
def s_fringeref02_Pair : List AV → List Blk → (AV → List Blk → Ans) → Ans := fun xs bs K => match xs, bs with
  | [.v (.agg [.int .i64 t1, .int .i64 t2])], [] => K (rPair (pairR ⟨t1, t2⟩)) []
  | _, _ => none
def T_fringeref02_Pair : Nat → List AV → List Blk → (AV → List Blk → Ans) → Ans := upd T_fringeref02_Same 70 s_fringeref02_Pair
theorem g_fringeref02_Pair : GOK Tryd.prog GT gbT T_fringeref02_Pair XT := by
  refine GOK.upd g_fringeref02_Same (fun args w => Tryd.call70 args w) fun xs bs K r h => ?_
  unfold s_fringeref02_Pair at h
  split at h
  · exact ⟨_, _, c_fringeref02_Pair _ _, h⟩
  · cases h


set_option maxRecDepth 100000 in
/-- fringeref02.Turn -/
theorem w_fringeref02_Turn_0 (t1 t2 : Int) (K : AV → List Blk → Ans) : evFn Tryd.prog GT EQT T_fringeref02_Pair XT noL 100 34 [.v (.c (.d (.int .i64 0))), .v (.agg [.int .i64 t1, .int .i64 t2])] [] (fun v M => K v (M.take ([] : List Blk).length)) = turnRef K 0 ⟨t1, t2⟩ := by
  kernel_rfl
set_option maxRecDepth 100000 in
theorem c_fringeref02_Turn_0 (t1 t2 : Int) : CallsA Tryd.prog GT gbT 34 [.v (.c (.d (.int .i64 0))), .v (.agg [.int .i64 t1, .int .i64 t2])] [] (rMatE (turnF 0 ⟨t1, t2⟩)) [] := by
  refine CallsA.ofOk fun hok => ?_
  have hw := w_fringeref02_Turn_0 t1 t2 (fun v M => some (Res.fin v M))
  refine CallsA.ofEv (Γ := T_fringeref02_Pair) (X := XT) (Λ := noL) (EQ := EQT) (n := 100) g_fringeref02_Pair hEQT hmT (fun _ _ _ _ => noL_ok _) (hw.trans ?_)
  have h_t1 := inR_i64 (hok (.int .i64 t1) (by simp [datasL, datas]))
  have h_t2 := inR_i64 (hok (.int .i64 t2) (by simp [datasL, datas]))
  clear hok hw
  exact turnRef_ok (K := fun v M => some (Res.fin v M)) (by omega)
set_option maxRecDepth 100000 in
/-- fringeref02.Turn -/
theorem w_fringeref02_Turn_1 (t1 t2 : Int) (K : AV → List Blk → Ans) : evFn Tryd.prog GT EQT T_fringeref02_Pair XT noL 100 34 [.v (.c (.d (.int .i64 1))), .v (.agg [.int .i64 t1, .int .i64 t2])] [] (fun v M => K v (M.take ([] : List Blk).length)) = turnRef K 1 ⟨t1, t2⟩ := by
  kernel_rfl
set_option maxRecDepth 100000 in
theorem c_fringeref02_Turn_1 (t1 t2 : Int) : CallsA Tryd.prog GT gbT 34 [.v (.c (.d (.int .i64 1))), .v (.agg [.int .i64 t1, .int .i64 t2])] [] (rMatE (turnF 1 ⟨t1, t2⟩)) [] := by
  refine CallsA.ofOk fun hok => ?_
  have hw := w_fringeref02_Turn_1 t1 t2 (fun v M => some (Res.fin v M))
  refine CallsA.ofEv (Γ := T_fringeref02_Pair) (X := XT) (Λ := noL) (EQ := EQT) (n := 100) g_fringeref02_Pair hEQT hmT (fun _ _ _ _ => noL_ok _) (hw.trans ?_)
  have h_t1 := inR_i64 (hok (.int .i64 t1) (by simp [datasL, datas]))
  have h_t2 := inR_i64 (hok (.int .i64 t2) (by simp [datasL, datas]))
  clear hok hw
  exact turnRef_ok (K := fun v M => some (Res.fin v M)) (by omega)
set_option maxRecDepth 100000 in
/-- fringeref02.Turn -/
theorem w_fringeref02_Turn_2 (t1 t2 : Int) (K : AV → List Blk → Ans) : evFn Tryd.prog GT EQT T_fringeref02_Pair XT noL 100 34 [.v (.c (.d (.int .i64 2))), .v (.agg [.int .i64 t1, .int .i64 t2])] [] (fun v M => K v (M.take ([] : List Blk).length)) = turnRef K 2 ⟨t1, t2⟩ := by
  kernel_rfl
set_option maxRecDepth 100000 in
theorem c_fringeref02_Turn_2 (t1 t2 : Int) : CallsA Tryd.prog GT gbT 34 [.v (.c (.d (.int .i64 2))), .v (.agg [.int .i64 t1, .int .i64 t2])] [] (rMatE (turnF 2 ⟨t1, t2⟩)) [] := by
  refine CallsA.ofOk fun hok => ?_
  have hw := w_fringeref02_Turn_2 t1 t2 (fun v M => some (Res.fin v M))
  refine CallsA.ofEv (Γ := T_fringeref02_Pair) (X := XT) (Λ := noL) (EQ := EQT) (n := 100) g_fringeref02_Pair hEQT hmT (fun _ _ _ _ => noL_ok _) (hw.trans ?_)
  have h_t1 := inR_i64 (hok (.int .i64 t1) (by simp [datasL, datas]))
  have h_t2 := inR_i64 (hok (.int .i64 t2) (by simp [datasL, datas]))
  clear hok hw
  exact turnRef_ok (K := fun v M => some (Res.fin v M)) (by omega)
set_option maxRecDepth 100000 in
/-- fringeref02.Turn -/
theorem w_fringeref02_Turn_o (x t1 t2 : Int) (K : AV → List Blk → Ans) : evFn Tryd.prog GT EQT T_fringeref02_Pair XT noL 7 34 [.v (.c (.d (.int .i64 x))), .v (.agg [.int .i64 t1, .int .i64 t2])] [] (fun v M => K v (M.take ([] : List Blk).length)) = turnRef0 K x ⟨t1, t2⟩ := by
  kernel_rfl
set_option maxRecDepth 100000 in
theorem c_fringeref02_Turn_o (x t1 t2 : Int) (hv : x ≠ 0 ∧ x ≠ 1 ∧ x ≠ 2) : CallsA Tryd.prog GT gbT 34 [.v (.c (.d (.int .i64 x))), .v (.agg [.int .i64 t1, .int .i64 t2])] [] (rMatE (turnF x ⟨t1, t2⟩)) [] := by
  refine CallsA.ofOk fun hok => ?_
  have hw := w_fringeref02_Turn_o x t1 t2 (fun v M => some (Res.fin v M))
  refine CallsA.ofEv (Γ := T_fringeref02_Pair) (X := XT) (Λ := noL) (EQ := EQT) (n := 7) g_fringeref02_Pair hEQT hmT (fun _ _ _ _ => noL_ok _) (hw.trans ?_)
  have h_x := inR_i64 (hok (.int .i64 x) (by simp [datasL, datas]))
  have h_t1 := inR_i64 (hok (.int .i64 t1) (by simp [datasL, datas]))
  have h_t2 := inR_i64 (hok (.int .i64 t2) (by simp [datasL, datas]))
  clear hok hw
  exact turnRef0_ok (K := fun v M => some (Res.fin v M)) hv
theorem c_fringeref02_Turn (x t1 t2 : Int) : CallsA Tryd.prog GT gbT 34 [.v (.c (.d (.int .i64 x))), .v (.agg [.int .i64 t1, .int .i64 t2])] [] (rMatE (turnF x ⟨t1, t2⟩)) [] := by
  by_cases h_0 : x = 0
  · subst h_0; exact c_fringeref02_Turn_0 t1 t2
  by_cases h_1 : x = 1
  · subst h_1; exact c_fringeref02_Turn_1 t1 t2
  by_cases h_2 : x = 2
  · subst h_2; exact c_fringeref02_Turn_2 t1 t2
  exact c_fringeref02_Turn_o x t1 t2 ⟨h_0, h_1, h_2⟩
def s_fringeref02_Turn : List AV → List Blk → (AV → List Blk → Ans) → Ans := fun xs bs K => match xs, bs with
  | [.v (.c (.d (.int .i64 x))), .v (.agg [.int .i64 t1, .int .i64 t2])], [] => K (rMatE (turnF x ⟨t1, t2⟩)) []
  | _, _ => none
def T_fringeref02_Turn : Nat → List AV → List Blk → (AV → List Blk → Ans) → Ans := upd T_fringeref02_Pair 34 s_fringeref02_Turn
theorem g_fringeref02_Turn : GOK Tryd.prog GT gbT T_fringeref02_Turn XT := by
  refine GOK.upd g_fringeref02_Pair (fun args w => Tryd.call34 args w) fun xs bs K r h => ?_
  unfold s_fringeref02_Turn at h
  split at h
  · exact ⟨_, _, c_fringeref02_Turn _ _ _, h⟩
  · cases h


set_option maxRecDepth 100000 in
/-- fringeref02.Is -/
theorem w_fringeref02_Is (m1 m2 m3 m4 m5 m6 m7 m8 m9 m10 m11 m12 m13 m14 m15 m16 m17 m18 : Int) (K : AV → List Blk → Ans) : evFn Tryd.prog GT EQT T_fringeref02_Turn XT noL 200 36 [.v (.agg [.int .i64 m1, .int .i64 m2, .int .i64 m3, .int .i64 m4, .int .i64 m5, .int .i64 m6, .int .i64 m7, .int .i64 m8, .int .i64 m9, .int .i64 m10, .int .i64 m11, .int .i64 m12, .int .i64 m13, .int .i64 m14, .int .i64 m15, .int .i64 m16, .int .i64 m17, .int .i64 m18])] [] (fun v M => K v (M.take ([] : List Blk).length)) = isRef K ⟨⟨⟨m1, m2⟩, ⟨m3, m4⟩, ⟨m5, m6⟩⟩, ⟨⟨m7, m8⟩, ⟨m9, m10⟩, ⟨m11, m12⟩⟩, ⟨⟨m13, m14⟩, ⟨m15, m16⟩, ⟨m17, m18⟩⟩⟩ := by
  kernel_rfl
set_option maxRecDepth 100000 in
theorem c_fringeref02_Is (m1 m2 m3 m4 m5 m6 m7 m8 m9 m10 m11 m12 m13 m14 m15 m16 m17 m18 : Int) : CallsA Tryd.prog GT gbT 36 [.v (.agg [.int .i64 m1, .int .i64 m2, .int .i64 m3, .int .i64 m4, .int .i64 m5, .int .i64 m6, .int .i64 m7, .int .i64 m8, .int .i64 m9, .int .i64 m10, .int .i64 m11, .int .i64 m12, .int .i64 m13, .int .i64 m14, .int .i64 m15, .int .i64 m16, .int .i64 m17, .int .i64 m18])] [] (rBoolE (isV ⟨⟨⟨m1, m2⟩, ⟨m3, m4⟩, ⟨m5, m6⟩⟩, ⟨⟨m7, m8⟩, ⟨m9, m10⟩, ⟨m11, m12⟩⟩, ⟨⟨m13, m14⟩, ⟨m15, m16⟩, ⟨m17, m18⟩⟩⟩)) [] := by
  refine CallsA.ofOk fun hok => ?_
  have hw := w_fringeref02_Is m1 m2 m3 m4 m5 m6 m7 m8 m9 m10 m11 m12 m13 m14 m15 m16 m17 m18 (fun v M => some (Res.fin v M))
  refine CallsA.ofEv (Γ := T_fringeref02_Turn) (X := XT) (Λ := noL) (EQ := EQT) (n := 200) g_fringeref02_Turn hEQT hmT (fun _ _ _ _ => noL_ok _) (hw.trans ?_)
  have h_m1 := inR_i64 (hok (.int .i64 m1) (by simp [datasL, datas]))
  have h_m2 := inR_i64 (hok (.int .i64 m2) (by simp [datasL, datas]))
  have h_m3 := inR_i64 (hok (.int .i64 m3) (by simp [datasL, datas]))
  have h_m4 := inR_i64 (hok (.int .i64 m4) (by simp [datasL, datas]))
  have h_m5 := inR_i64 (hok (.int .i64 m5) (by simp [datasL, datas]))
  have h_m6 := inR_i64 (hok (.int .i64 m6) (by simp [datasL, datas]))
  have h_m7 := inR_i64 (hok (.int .i64 m7) (by simp [datasL, datas]))
  have h_m8 := inR_i64 (hok (.int .i64 m8) (by simp [datasL, datas]))
  have h_m9 := inR_i64 (hok (.int .i64 m9) (by simp [datasL, datas]))
  have h_m10 := inR_i64 (hok (.int .i64 m10) (by simp [datasL, datas]))
  have h_m11 := inR_i64 (hok (.int .i64 m11) (by simp [datasL, datas]))
  have h_m12 := inR_i64 (hok (.int .i64 m12) (by simp [datasL, datas]))
  have h_m13 := inR_i64 (hok (.int .i64 m13) (by simp [datasL, datas]))
  have h_m14 := inR_i64 (hok (.int .i64 m14) (by simp [datasL, datas]))
  have h_m15 := inR_i64 (hok (.int .i64 m15) (by simp [datasL, datas]))
  have h_m16 := inR_i64 (hok (.int .i64 m16) (by simp [datasL, datas]))
  have h_m17 := inR_i64 (hok (.int .i64 m17) (by simp [datasL, datas]))
  have h_m18 := inR_i64 (hok (.int .i64 m18) (by simp [datasL, datas]))
  clear hok hw
  exact isRef_ok (K := fun v M => some (Res.fin v M))
def s_fringeref02_Is : List AV → List Blk → (AV → List Blk → Ans) → Ans := fun xs bs K => match xs, bs with
  | [.v (.agg [.int .i64 m1, .int .i64 m2, .int .i64 m3, .int .i64 m4, .int .i64 m5, .int .i64 m6, .int .i64 m7, .int .i64 m8, .int .i64 m9, .int .i64 m10, .int .i64 m11, .int .i64 m12, .int .i64 m13, .int .i64 m14, .int .i64 m15, .int .i64 m16, .int .i64 m17, .int .i64 m18])], [] => K (rBoolE (isV ⟨⟨⟨m1, m2⟩, ⟨m3, m4⟩, ⟨m5, m6⟩⟩, ⟨⟨m7, m8⟩, ⟨m9, m10⟩, ⟨m11, m12⟩⟩, ⟨⟨m13, m14⟩, ⟨m15, m16⟩, ⟨m17, m18⟩⟩⟩)) []
  | _, _ => none
def T_fringeref02_Is : Nat → List AV → List Blk → (AV → List Blk → Ans) → Ans := upd T_fringeref02_Turn 36 s_fringeref02_Is
theorem g_fringeref02_Is : GOK Tryd.prog GT gbT T_fringeref02_Is XT := by
  refine GOK.upd g_fringeref02_Turn (fun args w => Tryd.call36 args w) fun xs bs K r h => ?_
  unfold s_fringeref02_Is at h
  split at h
  · exact ⟨_, _, c_fringeref02_Is _ _ _ _ _ _ _ _ _ _ _ _ _ _ _ _ _ _, h⟩
  · cases h


set_option maxRecDepth 100000 in
/-- fringelaw02.of -/
theorem w_fringelaw02_of (x y z : Int) (K : AV → List Blk → Ans) : evFn Tryd.prog GT EQT T_fringeref02_Is XT noL 60 41 [.v (.c (.d (.int .i64 x))), .v (.c (.d (.int .i64 y))), .v (.c (.d (.int .i64 z)))] [] (fun v M => K v (M.take ([] : List Blk).length)) = K (rVec ⟨⟨x, 1⟩, ⟨y, 1⟩, ⟨z, 1⟩⟩) [] := by
  kernel_rfl
set_option maxRecDepth 100000 in
theorem c_fringelaw02_of (x y z : Int) : CallsA Tryd.prog GT gbT 41 [.v (.c (.d (.int .i64 x))), .v (.c (.d (.int .i64 y))), .v (.c (.d (.int .i64 z)))] [] (rVec ⟨⟨x, 1⟩, ⟨y, 1⟩, ⟨z, 1⟩⟩) [] := by
  refine CallsA.ofOk fun hok => ?_
  have hw := w_fringelaw02_of x y z (fun v M => some (Res.fin v M))
  refine CallsA.ofEv (Γ := T_fringeref02_Is) (X := XT) (Λ := noL) (EQ := EQT) (n := 60) g_fringeref02_Is hEQT hmT (fun _ _ _ _ => noL_ok _) (hw.trans ?_)
  rfl
def s_fringelaw02_of : List AV → List Blk → (AV → List Blk → Ans) → Ans := fun xs bs K => match xs, bs with
  | [.v (.c (.d (.int .i64 x))), .v (.c (.d (.int .i64 y))), .v (.c (.d (.int .i64 z)))], [] => K (rVec ⟨⟨x, 1⟩, ⟨y, 1⟩, ⟨z, 1⟩⟩) []
  | _, _ => none
def T_fringelaw02_of : Nat → List AV → List Blk → (AV → List Blk → Ans) → Ans := upd T_fringeref02_Is 41 s_fringelaw02_of
theorem g_fringelaw02_of : GOK Tryd.prog GT gbT T_fringelaw02_of XT := by
  refine GOK.upd g_fringeref02_Is (fun args w => Tryd.call41 args w) fun xs bs K r h => ?_
  unfold s_fringelaw02_of at h
  split at h
  · exact ⟨_, _, c_fringelaw02_of _ _ _, h⟩
  · cases h


set_option maxRecDepth 100000 in
/-- fringelaw02.alive -/
theorem w_fringelaw02_alive (K : AV → List Blk → Ans) : evFn Tryd.prog GT EQT T_fringelaw02_of XT noL 100 23 [] [] (fun v M => K v (M.take ([] : List Blk).length)) = K (rB true) [] := by
  kernel_rfl
set_option maxRecDepth 100000 in
theorem c_fringelaw02_alive : CallsA Tryd.prog GT gbT 23 [] [] (rB true) [] := by
  refine CallsA.ofOk fun hok => ?_
  have hw := w_fringelaw02_alive (fun v M => some (Res.fin v M))
  refine CallsA.ofEv (Γ := T_fringelaw02_of) (X := XT) (Λ := noL) (EQ := EQT) (n := 100) g_fringelaw02_of hEQT hmT (fun _ _ _ _ => noL_ok _) (hw.trans ?_)
  rfl
def s_fringelaw02_alive : List AV → List Blk → (AV → List Blk → Ans) → Ans := fun xs bs K => match xs, bs with
  | [], [] => K (rB true) []
  | _, _ => none
def T_fringelaw02_alive : Nat → List AV → List Blk → (AV → List Blk → Ans) → Ans := upd T_fringelaw02_of 23 s_fringelaw02_alive
theorem g_fringelaw02_alive : GOK Tryd.prog GT gbT T_fringelaw02_alive XT := by
  refine GOK.upd g_fringelaw02_of (fun args w => Tryd.call23 args w) fun xs bs K r h => ?_
  unfold s_fringelaw02_alive at h
  split at h
  · exact ⟨_, _, c_fringelaw02_alive, h⟩
  · cases h


set_option maxRecDepth 100000 in
/-- fringelaw02.small -/
theorem w_fringelaw02_small (v1 v2 v3 v4 v5 v6 w1 w2 w3 w4 w5 w6 t1 t2 : Int) (K : AV → List Blk → Ans) : evFn Tryd.prog GT EQT T_fringelaw02_alive XT noL 100 21 [.v (.agg [.int .i64 v1, .int .i64 v2, .int .i64 v3, .int .i64 v4, .int .i64 v5, .int .i64 v6]), .v (.agg [.int .i64 w1, .int .i64 w2, .int .i64 w3, .int .i64 w4, .int .i64 w5, .int .i64 w6]), .v (.agg [.int .i64 t1, .int .i64 t2])] [] (fun v M => K v (M.take ([] : List Blk).length)) = smallAns K [⟨v1, v2⟩, ⟨v3, v4⟩, ⟨v5, v6⟩, ⟨w1, w2⟩, ⟨w3, w4⟩, ⟨w5, w6⟩, ⟨t1, t2⟩] := by
  kernel_rfl
set_option maxRecDepth 100000 in
theorem c_fringelaw02_small (v1 v2 v3 v4 v5 v6 w1 w2 w3 w4 w5 w6 t1 t2 : Int) : CallsA Tryd.prog GT gbT 21 [.v (.agg [.int .i64 v1, .int .i64 v2, .int .i64 v3, .int .i64 v4, .int .i64 v5, .int .i64 v6]), .v (.agg [.int .i64 w1, .int .i64 w2, .int .i64 w3, .int .i64 w4, .int .i64 w5, .int .i64 w6]), .v (.agg [.int .i64 t1, .int .i64 t2])] [] (rB (smallB ⟨⟨v1, v2⟩, ⟨v3, v4⟩, ⟨v5, v6⟩⟩ ⟨⟨w1, w2⟩, ⟨w3, w4⟩, ⟨w5, w6⟩⟩ ⟨t1, t2⟩)) [] := by
  refine CallsA.ofOk fun hok => ?_
  have hw := w_fringelaw02_small v1 v2 v3 v4 v5 v6 w1 w2 w3 w4 w5 w6 t1 t2 (fun v M => some (Res.fin v M))
  refine CallsA.ofEv (Γ := T_fringelaw02_alive) (X := XT) (Λ := noL) (EQ := EQT) (n := 100) g_fringelaw02_alive hEQT hmT (fun _ _ _ _ => noL_ok _) (hw.trans ?_)
  have h_v1 := inR_i64 (hok (.int .i64 v1) (by simp [datasL, datas]))
  have h_v2 := inR_i64 (hok (.int .i64 v2) (by simp [datasL, datas]))
  have h_v3 := inR_i64 (hok (.int .i64 v3) (by simp [datasL, datas]))
  have h_v4 := inR_i64 (hok (.int .i64 v4) (by simp [datasL, datas]))
  have h_v5 := inR_i64 (hok (.int .i64 v5) (by simp [datasL, datas]))
  have h_v6 := inR_i64 (hok (.int .i64 v6) (by simp [datasL, datas]))
  have h_w1 := inR_i64 (hok (.int .i64 w1) (by simp [datasL, datas]))
  have h_w2 := inR_i64 (hok (.int .i64 w2) (by simp [datasL, datas]))
  have h_w3 := inR_i64 (hok (.int .i64 w3) (by simp [datasL, datas]))
  have h_w4 := inR_i64 (hok (.int .i64 w4) (by simp [datasL, datas]))
  have h_w5 := inR_i64 (hok (.int .i64 w5) (by simp [datasL, datas]))
  have h_w6 := inR_i64 (hok (.int .i64 w6) (by simp [datasL, datas]))
  have h_t1 := inR_i64 (hok (.int .i64 t1) (by simp [datasL, datas]))
  have h_t2 := inR_i64 (hok (.int .i64 t2) (by simp [datasL, datas]))
  clear hok hw
  exact smallAns_ok (K := fun v M => some (Res.fin v M))
def s_fringelaw02_small : List AV → List Blk → (AV → List Blk → Ans) → Ans := fun xs bs K => match xs, bs with
  | [.v (.agg [.int .i64 v1, .int .i64 v2, .int .i64 v3, .int .i64 v4, .int .i64 v5, .int .i64 v6]), .v (.agg [.int .i64 w1, .int .i64 w2, .int .i64 w3, .int .i64 w4, .int .i64 w5, .int .i64 w6]), .v (.agg [.int .i64 t1, .int .i64 t2])], [] => K (rB (smallB ⟨⟨v1, v2⟩, ⟨v3, v4⟩, ⟨v5, v6⟩⟩ ⟨⟨w1, w2⟩, ⟨w3, w4⟩, ⟨w5, w6⟩⟩ ⟨t1, t2⟩)) []
  | _, _ => none
def T_fringelaw02_small : Nat → List AV → List Blk → (AV → List Blk → Ans) → Ans := upd T_fringelaw02_alive 21 s_fringelaw02_small
theorem g_fringelaw02_small : GOK Tryd.prog GT gbT T_fringelaw02_small XT := by
  refine GOK.upd g_fringelaw02_alive (fun args w => Tryd.call21 args w) fun xs bs K r h => ?_
  unfold s_fringelaw02_small at h
  split at h
  · exact ⟨_, _, c_fringelaw02_small _ _ _ _ _ _ _ _ _ _ _ _ _ _, h⟩
  · cases h


end Go.Ev
