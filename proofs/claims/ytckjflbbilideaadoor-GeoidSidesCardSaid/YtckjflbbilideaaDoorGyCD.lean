/-
  Contracts of functions: what each returns. No condition beyond those of the statements.
-/
import Derived.Test.YtckjflbbilideaaDoorGyCC
namespace Go.Ev
open Go Go.Proofs

set_option maxRecDepth 100000 in
/-- fringeref03.Both -/
theorem w_fringeref03_Both (g1 g2 p1 p2 p3 p4 p5 p6 : Int) (K : AV → List Blk → Ans) : evFn Tryd.prog GT EQT T_fringeref03_Check XT noL 60 44 [.v (.agg [.int .i64 g1, .int .i64 g2]), .v (.agg [.int .i64 p1, .int .i64 p2, .int .i64 p3, .int .i64 p4, .int .i64 p5, .int .i64 p6])] [] (fun v M => K v (M.take ([] : List Blk).length)) = K (rI (bothG ⟨g1, g2⟩ ⟨⟨p1, p2⟩, ⟨p3, p4⟩, ⟨p5, p6⟩⟩)) [] := by
  simp only [bothG, pullK K]
  kernel_rfl
set_option maxRecDepth 100000 in
theorem c_fringeref03_Both (g1 g2 p1 p2 p3 p4 p5 p6 : Int) : CallsA Tryd.prog GT gbT 44 [.v (.agg [.int .i64 g1, .int .i64 g2]), .v (.agg [.int .i64 p1, .int .i64 p2, .int .i64 p3, .int .i64 p4, .int .i64 p5, .int .i64 p6])] [] (rI (bothG ⟨g1, g2⟩ ⟨⟨p1, p2⟩, ⟨p3, p4⟩, ⟨p5, p6⟩⟩)) [] := by
  refine CallsA.ofOk fun hok => ?_
  have hw := w_fringeref03_Both g1 g2 p1 p2 p3 p4 p5 p6 (fun v M => some (Res.fin v M))
  refine CallsA.ofEv (Γ := T_fringeref03_Check) (X := XT) (Λ := noL) (EQ := EQT) (n := 60) g_fringeref03_Check hEQT hmT (fun _ _ _ _ => noL_ok _) (hw.trans ?_)
  rfl
def s_fringeref03_Both : List AV → List Blk → (AV → List Blk → Ans) → Ans := fun xs bs K => match xs, bs with
  | [.v (.agg [.int .i64 g1, .int .i64 g2]), .v (.agg [.int .i64 p1, .int .i64 p2, .int .i64 p3, .int .i64 p4, .int .i64 p5, .int .i64 p6])], [] => K (rI (bothG ⟨g1, g2⟩ ⟨⟨p1, p2⟩, ⟨p3, p4⟩, ⟨p5, p6⟩⟩)) []
  | _, _ => none
def T_fringeref03_Both : Nat → List AV → List Blk → (AV → List Blk → Ans) → Ans := upd T_fringeref03_Check 44 s_fringeref03_Both
theorem g_fringeref03_Both : GOK Tryd.prog GT gbT T_fringeref03_Both XT := by
  refine GOK.upd g_fringeref03_Check (fun args w => Tryd.call44 args w) fun xs bs K r h => ?_
  unfold s_fringeref03_Both at h
  split at h
  · exact ⟨_, _, c_fringeref03_Both _ _ _ _ _ _ _ _, h⟩
  · cases h


set_option maxRecDepth 100000 in
/-- fringeref03.Param -/
theorem w_fringeref03_Param (u1 u2 : Int) (K : AV → List Blk → Ans) : evFn Tryd.prog GT EQT T_fringeref03_Both XT noL 60 32 [.v (.agg [.int .i64 u1, .int .i64 u2])] [] (fun v M => K v (M.take ([] : List Blk).length)) = paramRef K ⟨u1, u2⟩ := by
  kernel_rfl
set_option maxRecDepth 100000 in
theorem c_fringeref03_Param (u1 u2 : Int) : CallsA Tryd.prog GT gbT 32 [.v (.agg [.int .i64 u1, .int .i64 u2])] [] (rB (paramB ⟨u1, u2⟩)) [] := by
  refine CallsA.ofOk fun hok => ?_
  have hw := w_fringeref03_Param u1 u2 (fun v M => some (Res.fin v M))
  refine CallsA.ofEv (Γ := T_fringeref03_Both) (X := XT) (Λ := noL) (EQ := EQT) (n := 60) g_fringeref03_Both hEQT hmT (fun _ _ _ _ => noL_ok _) (hw.trans ?_)
  have h_u1 := inR_i64 (hok (.int .i64 u1) (by simp [datasL, datas]))
  have h_u2 := inR_i64 (hok (.int .i64 u2) (by simp [datasL, datas]))
  clear hok hw
  exact paramRef_ok (K := fun v M => some (Res.fin v M))
def s_fringeref03_Param : List AV → List Blk → (AV → List Blk → Ans) → Ans := fun xs bs K => match xs, bs with
  | [.v (.agg [.int .i64 u1, .int .i64 u2])], [] => K (rB (paramB ⟨u1, u2⟩)) []
  | _, _ => none
def T_fringeref03_Param : Nat → List AV → List Blk → (AV → List Blk → Ans) → Ans := upd T_fringeref03_Both 32 s_fringeref03_Param
theorem g_fringeref03_Param : GOK Tryd.prog GT gbT T_fringeref03_Param XT := by
  refine GOK.upd g_fringeref03_Both (fun args w => Tryd.call32 args w) fun xs bs K r h => ?_
  unfold s_fringeref03_Param at h
  split at h
  · exact ⟨_, _, c_fringeref03_Param _ _, h⟩
  · cases h


set_option maxRecDepth 100000 in
/-- fringeref03.One -/
theorem w_fringeref03_One (K : AV → List Blk → Ans) : evFn Tryd.prog GT EQT T_fringeref03_Param XT noL 60 50 [] [] (fun v M => K v (M.take ([] : List Blk).length)) = K (rFrac oneF) [] := by
  kernel_rfl
set_option maxRecDepth 100000 in
theorem c_fringeref03_One : CallsA Tryd.prog GT gbT 50 [] [] (rFrac oneF) [] := by
  refine CallsA.ofOk fun hok => ?_
  have hw := w_fringeref03_One (fun v M => some (Res.fin v M))
  refine CallsA.ofEv (Γ := T_fringeref03_Param) (X := XT) (Λ := noL) (EQ := EQT) (n := 60) g_fringeref03_Param hEQT hmT (fun _ _ _ _ => noL_ok _) (hw.trans ?_)
  rfl
def s_fringeref03_One : List AV → List Blk → (AV → List Blk → Ans) → Ans := fun xs bs K => match xs, bs with
  | [], [] => K (rFrac oneF) []
  | _, _ => none
def T_fringeref03_One : Nat → List AV → List Blk → (AV → List Blk → Ans) → Ans := upd T_fringeref03_Param 50 s_fringeref03_One
theorem g_fringeref03_One : GOK Tryd.prog GT gbT T_fringeref03_One XT := by
  refine GOK.upd g_fringeref03_Param (fun args w => Tryd.call50 args w) fun xs bs K r h => ?_
  unfold s_fringeref03_One at h
  split at h
  · exact ⟨_, _, c_fringeref03_One, h⟩
  · cases h


set_option maxRecDepth 100000 in
/-- fringeref03.Placed -/
theorem w_fringeref03_Placed (s1 s2 t1 t2 : Int) (K : AV → List Blk → Ans) : evFn Tryd.prog GT EQT T_fringeref03_One XT noL 60 28 [.v (.agg [.int .i64 s1, .int .i64 s2]), .v (.agg [.int .i64 t1, .int .i64 t2])] [] (fun v M => K v (M.take ([] : List Blk).length)) = placedRef K ⟨s1, s2⟩ ⟨t1, t2⟩ := by
  kernel_rfl
set_option maxRecDepth 100000 in
theorem c_fringeref03_Placed (s1 s2 t1 t2 : Int) : CallsA Tryd.prog GT gbT 28 [.v (.agg [.int .i64 s1, .int .i64 s2]), .v (.agg [.int .i64 t1, .int .i64 t2])] [] (rB (placedB ⟨s1, s2⟩ ⟨t1, t2⟩)) [] := by
  refine CallsA.ofOk fun hok => ?_
  have hw := w_fringeref03_Placed s1 s2 t1 t2 (fun v M => some (Res.fin v M))
  refine CallsA.ofEv (Γ := T_fringeref03_One) (X := XT) (Λ := noL) (EQ := EQT) (n := 60) g_fringeref03_One hEQT hmT (fun _ _ _ _ => noL_ok _) (hw.trans ?_)
  have h_s1 := inR_i64 (hok (.int .i64 s1) (by simp [datasL, datas]))
  have h_s2 := inR_i64 (hok (.int .i64 s2) (by simp [datasL, datas]))
  have h_t1 := inR_i64 (hok (.int .i64 t1) (by simp [datasL, datas]))
  have h_t2 := inR_i64 (hok (.int .i64 t2) (by simp [datasL, datas]))
  clear hok hw
  exact placedRef_ok (K := fun v M => some (Res.fin v M))
def s_fringeref03_Placed : List AV → List Blk → (AV → List Blk → Ans) → Ans := fun xs bs K => match xs, bs with
  | [.v (.agg [.int .i64 s1, .int .i64 s2]), .v (.agg [.int .i64 t1, .int .i64 t2])], [] => K (rB (placedB ⟨s1, s2⟩ ⟨t1, t2⟩)) []
  | _, _ => none
def T_fringeref03_Placed : Nat → List AV → List Blk → (AV → List Blk → Ans) → Ans := upd T_fringeref03_One 28 s_fringeref03_Placed
theorem g_fringeref03_Placed : GOK Tryd.prog GT gbT T_fringeref03_Placed XT := by
  refine GOK.upd g_fringeref03_One (fun args w => Tryd.call28 args w) fun xs bs K r h => ?_
  unfold s_fringeref03_Placed at h
  split at h
  · exact ⟨_, _, c_fringeref03_Placed _ _ _ _, h⟩
  · cases h


set_option maxRecDepth 100000 in
/-- fringeref03.Place -/
theorem w_fringeref03_Place (g1 g2 s1 s2 t1 t2 : Int) (K : AV → List Blk → Ans) : evFn Tryd.prog GT EQT T_fringeref03_Placed XT noL 100 40 [.v (.agg [.int .i64 g1, .int .i64 g2]), .v (.agg [.int .i64 s1, .int .i64 s2]), .v (.agg [.int .i64 t1, .int .i64 t2])] [] (fun v M => K v (M.take ([] : List Blk).length)) = K (rVec (placeR ⟨g1, g2⟩ ⟨s1, s2⟩ ⟨t1, t2⟩)) [] := by
  kernel_rfl
set_option maxRecDepth 100000 in
theorem c_fringeref03_Place (g1 g2 s1 s2 t1 t2 : Int) : CallsA Tryd.prog GT gbT 40 [.v (.agg [.int .i64 g1, .int .i64 g2]), .v (.agg [.int .i64 s1, .int .i64 s2]), .v (.agg [.int .i64 t1, .int .i64 t2])] [] (rVec (placeR ⟨g1, g2⟩ ⟨s1, s2⟩ ⟨t1, t2⟩)) [] := by
  refine CallsA.ofOk fun hok => ?_
  have hw := w_fringeref03_Place g1 g2 s1 s2 t1 t2 (fun v M => some (Res.fin v M))
  refine CallsA.ofEv (Γ := T_fringeref03_Placed) (X := XT) (Λ := noL) (EQ := EQT) (n := 100) g_fringeref03_Placed hEQT hmT (fun _ _ _ _ => noL_ok _) (hw.trans ?_)
  rfl
def s_fringeref03_Place : List AV → List Blk → (AV → List Blk → Ans) → Ans := fun xs bs K => match xs, bs with
  | [.v (.agg [.int .i64 g1, .int .i64 g2]), .v (.agg [.int .i64 s1, .int .i64 s2]), .v (.agg [.int .i64 t1, .int .i64 t2])], [] => K (rVec (placeR ⟨g1, g2⟩ ⟨s1, s2⟩ ⟨t1, t2⟩)) []
  | _, _ => none
def T_fringeref03_Place : Nat → List AV → List Blk → (AV → List Blk → Ans) → Ans := upd T_fringeref03_Placed 40 s_fringeref03_Place
theorem g_fringeref03_Place : GOK Tryd.prog GT gbT T_fringeref03_Place XT := by
  refine GOK.upd g_fringeref03_Placed (fun args w => Tryd.call40 args w) fun xs bs K r h => ?_
  unfold s_fringeref03_Place at h
  split at h
  · exact ⟨_, _, c_fringeref03_Place _ _ _ _ _ _, h⟩
  · cases h


set_option maxRecDepth 100000 in
/-- fringeref03.At -/
theorem w_fringeref03_At (g1 g2 s1 s2 t1 t2 : Int) (K : AV → List Blk → Ans) : evFn Tryd.prog GT EQT T_fringeref03_Place XT noL 60 11 [.v (.agg [.int .i64 g1, .int .i64 g2]), .v (.agg [.int .i64 s1, .int .i64 s2]), .v (.agg [.int .i64 t1, .int .i64 t2])] [] (fun v M => K v (M.take ([] : List Blk).length)) = atRef K ⟨g1, g2⟩ ⟨s1, s2⟩ ⟨t1, t2⟩ := by
  kernel_rfl
set_option maxRecDepth 100000 in
theorem c_fringeref03_At (g1 g2 s1 s2 t1 t2 : Int) : CallsA Tryd.prog GT gbT 11 [.v (.agg [.int .i64 g1, .int .i64 g2]), .v (.agg [.int .i64 s1, .int .i64 s2]), .v (.agg [.int .i64 t1, .int .i64 t2])] [] (rVecE (atV ⟨g1, g2⟩ ⟨s1, s2⟩ ⟨t1, t2⟩)) [] := by
  refine CallsA.ofOk fun hok => ?_
  have hw := w_fringeref03_At g1 g2 s1 s2 t1 t2 (fun v M => some (Res.fin v M))
  refine CallsA.ofEv (Γ := T_fringeref03_Place) (X := XT) (Λ := noL) (EQ := EQT) (n := 60) g_fringeref03_Place hEQT hmT (fun _ _ _ _ => noL_ok _) (hw.trans ?_)
  have h_g1 := inR_i64 (hok (.int .i64 g1) (by simp [datasL, datas]))
  have h_g2 := inR_i64 (hok (.int .i64 g2) (by simp [datasL, datas]))
  have h_s1 := inR_i64 (hok (.int .i64 s1) (by simp [datasL, datas]))
  have h_s2 := inR_i64 (hok (.int .i64 s2) (by simp [datasL, datas]))
  have h_t1 := inR_i64 (hok (.int .i64 t1) (by simp [datasL, datas]))
  have h_t2 := inR_i64 (hok (.int .i64 t2) (by simp [datasL, datas]))
  clear hok hw
  exact atRef_ok (K := fun v M => some (Res.fin v M))
def s_fringeref03_At : List AV → List Blk → (AV → List Blk → Ans) → Ans := fun xs bs K => match xs, bs with
  | [.v (.agg [.int .i64 g1, .int .i64 g2]), .v (.agg [.int .i64 s1, .int .i64 s2]), .v (.agg [.int .i64 t1, .int .i64 t2])], [] => K (rVecE (atV ⟨g1, g2⟩ ⟨s1, s2⟩ ⟨t1, t2⟩)) []
  | _, _ => none
def T_fringeref03_At : Nat → List AV → List Blk → (AV → List Blk → Ans) → Ans := upd T_fringeref03_Place 11 s_fringeref03_At
theorem g_fringeref03_At : GOK Tryd.prog GT gbT T_fringeref03_At XT := by
  refine GOK.upd g_fringeref03_Place (fun args w => Tryd.call11 args w) fun xs bs K r h => ?_
  unfold s_fringeref03_At at h
  split at h
  · exact ⟨_, _, c_fringeref03_At _ _ _ _ _ _, h⟩
  · cases h


set_option maxRecDepth 100000 in
/-- fringeref03.relative -/
theorem w_fringeref03_relative (g1 g2 p1 p2 p3 p4 p5 p6 n : Int) (K : AV → List Blk → Ans) : evFn Tryd.prog GT EQT T_fringeref03_At XT noL 100 45 [.v (.agg [.int .i64 g1, .int .i64 g2]), .v (.agg [.int .i64 p1, .int .i64 p2, .int .i64 p3, .int .i64 p4, .int .i64 p5, .int .i64 p6]), .v (.c (.d (.int .i64 n)))] [] (fun v M => K v (M.take ([] : List Blk).length)) = relAns K ⟨g1, g2⟩ ⟨⟨p1, p2⟩, ⟨p3, p4⟩, ⟨p5, p6⟩⟩ n := by
  kernel_rfl
set_option maxRecDepth 100000 in
theorem c_fringeref03_relative (g1 g2 p1 p2 p3 p4 p5 p6 n : Int) (hd : (globeOkB ⟨g1, g2⟩ && vecOkB ⟨⟨p1, p2⟩, ⟨p3, p4⟩, ⟨p5, p6⟩⟩) = true) : CallsA Tryd.prog GT gbT 45 [.v (.agg [.int .i64 g1, .int .i64 g2]), .v (.agg [.int .i64 p1, .int .i64 p2, .int .i64 p3, .int .i64 p4, .int .i64 p5, .int .i64 p6]), .v (.c (.d (.int .i64 n)))] [] (rVecE (overV ⟨⟨p1, p2⟩, ⟨p3, p4⟩, ⟨p5, p6⟩⟩ (timesG ⟨g1, g2⟩ n).a (timesG ⟨g1, g2⟩ n).b)) [] := by
  refine CallsA.ofOk fun hok => ?_
  have hw := w_fringeref03_relative g1 g2 p1 p2 p3 p4 p5 p6 n (fun v M => some (Res.fin v M))
  refine CallsA.ofEv (Γ := T_fringeref03_At) (X := XT) (Λ := noL) (EQ := EQT) (n := 100) g_fringeref03_At hEQT hmT (fun _ _ _ _ => noL_ok _) (hw.trans ?_)
  have h_g1 := inR_i64 (hok (.int .i64 g1) (by simp [datasL, datas]))
  have h_g2 := inR_i64 (hok (.int .i64 g2) (by simp [datasL, datas]))
  have h_p1 := inR_i64 (hok (.int .i64 p1) (by simp [datasL, datas]))
  have h_p2 := inR_i64 (hok (.int .i64 p2) (by simp [datasL, datas]))
  have h_p3 := inR_i64 (hok (.int .i64 p3) (by simp [datasL, datas]))
  have h_p4 := inR_i64 (hok (.int .i64 p4) (by simp [datasL, datas]))
  have h_p5 := inR_i64 (hok (.int .i64 p5) (by simp [datasL, datas]))
  have h_p6 := inR_i64 (hok (.int .i64 p6) (by simp [datasL, datas]))
  have h_n := inR_i64 (hok (.int .i64 n) (by simp [datasL, datas]))
  clear hok hw
  simp only [Bool.and_eq_true] at hd
  exact relAns_ok (K := fun v M => some (Res.fin v M)) (globeOkB_iff.1 hd.1) (vecOkB_iff.1 hd.2)
def s_fringeref03_relative : List AV → List Blk → (AV → List Blk → Ans) → Ans := fun xs bs K => match xs, bs with
  | [.v (.agg [.int .i64 g1, .int .i64 g2]), .v (.agg [.int .i64 p1, .int .i64 p2, .int .i64 p3, .int .i64 p4, .int .i64 p5, .int .i64 p6]), .v (.c (.d (.int .i64 n)))], [] => bif globeOkB ⟨g1, g2⟩ && vecOkB ⟨⟨p1, p2⟩, ⟨p3, p4⟩, ⟨p5, p6⟩⟩ then K (rVecE (overV ⟨⟨p1, p2⟩, ⟨p3, p4⟩, ⟨p5, p6⟩⟩ (timesG ⟨g1, g2⟩ n).a (timesG ⟨g1, g2⟩ n).b)) [] else none
  | _, _ => none
def T_fringeref03_relative : Nat → List AV → List Blk → (AV → List Blk → Ans) → Ans := upd T_fringeref03_At 45 s_fringeref03_relative
theorem g_fringeref03_relative : GOK Tryd.prog GT gbT T_fringeref03_relative XT := by
  refine GOK.upd g_fringeref03_At (fun args w => Tryd.call45 args w) fun xs bs K r h => ?_
  unfold s_fringeref03_relative at h
  split at h
  · simp only [cond_eq_ite] at h
    split at h
    · exact ⟨_, _, c_fringeref03_relative _ _ _ _ _ _ _ _ _ ‹_›, h⟩
    · cases h
  · cases h


set_option maxRecDepth 100000 in
/-- fringeref03.sign -/
theorem w_fringeref03_sign (a1 a2 : Int) (K : AV → List Blk → Ans) : evFn Tryd.prog GT EQT T_fringeref03_relative XT noL 60 47 [.v (.agg [.int .i64 a1, .int .i64 a2])] [] (fun v M => K v (M.take ([] : List Blk).length)) = K (rI (signR ⟨a1, a2⟩)) [] := by
  simp only [signR, pullK K]
  kernel_rfl
set_option maxRecDepth 100000 in
theorem c_fringeref03_sign (a1 a2 : Int) : CallsA Tryd.prog GT gbT 47 [.v (.agg [.int .i64 a1, .int .i64 a2])] [] (rI (signR ⟨a1, a2⟩)) [] := by
  refine CallsA.ofOk fun hok => ?_
  have hw := w_fringeref03_sign a1 a2 (fun v M => some (Res.fin v M))
  refine CallsA.ofEv (Γ := T_fringeref03_relative) (X := XT) (Λ := noL) (EQ := EQT) (n := 60) g_fringeref03_relative hEQT hmT (fun _ _ _ _ => noL_ok _) (hw.trans ?_)
  rfl
def s_fringeref03_sign : List AV → List Blk → (AV → List Blk → Ans) → Ans := fun xs bs K => match xs, bs with
  | [.v (.agg [.int .i64 a1, .int .i64 a2])], [] => K (rI (signR ⟨a1, a2⟩)) []
  | _, _ => none
def T_fringeref03_sign : Nat → List AV → List Blk → (AV → List Blk → Ans) → Ans := upd T_fringeref03_relative 47 s_fringeref03_sign
theorem g_fringeref03_sign : GOK Tryd.prog GT gbT T_fringeref03_sign XT := by
  refine GOK.upd g_fringeref03_relative (fun args w => Tryd.call47 args w) fun xs bs K r h => ?_
  unfold s_fringeref03_sign at h
  split at h
  · exact ⟨_, _, c_fringeref03_sign _ _, h⟩
  · cases h


set_option maxRecDepth 100000 in
/-- fringeref03.Inside -/
theorem w_fringeref03_Inside (g1 g2 p1 p2 p3 p4 p5 p6 : Int) (K : AV → List Blk → Ans) : evFn Tryd.prog GT EQT T_fringeref03_sign XT noL 100 15 [.v (.agg [.int .i64 g1, .int .i64 g2]), .v (.agg [.int .i64 p1, .int .i64 p2, .int .i64 p3, .int .i64 p4, .int .i64 p5, .int .i64 p6])] [] (fun v M => K v (M.take ([] : List Blk).length)) = insideRef K ⟨g1, g2⟩ ⟨⟨p1, p2⟩, ⟨p3, p4⟩, ⟨p5, p6⟩⟩ := by
  kernel_rfl
set_option maxRecDepth 100000 in
theorem c_fringeref03_Inside (g1 g2 p1 p2 p3 p4 p5 p6 : Int) : CallsA Tryd.prog GT gbT 15 [.v (.agg [.int .i64 g1, .int .i64 g2]), .v (.agg [.int .i64 p1, .int .i64 p2, .int .i64 p3, .int .i64 p4, .int .i64 p5, .int .i64 p6])] [] (rIntE (insideV ⟨g1, g2⟩ ⟨⟨p1, p2⟩, ⟨p3, p4⟩, ⟨p5, p6⟩⟩)) [] := by
  refine CallsA.ofOk fun hok => ?_
  have hw := w_fringeref03_Inside g1 g2 p1 p2 p3 p4 p5 p6 (fun v M => some (Res.fin v M))
  refine CallsA.ofEv (Γ := T_fringeref03_sign) (X := XT) (Λ := noL) (EQ := EQT) (n := 100) g_fringeref03_sign hEQT hmT (fun _ _ _ _ => noL_ok _) (hw.trans ?_)
  have h_g1 := inR_i64 (hok (.int .i64 g1) (by simp [datasL, datas]))
  have h_g2 := inR_i64 (hok (.int .i64 g2) (by simp [datasL, datas]))
  have h_p1 := inR_i64 (hok (.int .i64 p1) (by simp [datasL, datas]))
  have h_p2 := inR_i64 (hok (.int .i64 p2) (by simp [datasL, datas]))
  have h_p3 := inR_i64 (hok (.int .i64 p3) (by simp [datasL, datas]))
  have h_p4 := inR_i64 (hok (.int .i64 p4) (by simp [datasL, datas]))
  have h_p5 := inR_i64 (hok (.int .i64 p5) (by simp [datasL, datas]))
  have h_p6 := inR_i64 (hok (.int .i64 p6) (by simp [datasL, datas]))
  clear hok hw
  exact insideRef_ok (K := fun v M => some (Res.fin v M))
def s_fringeref03_Inside : List AV → List Blk → (AV → List Blk → Ans) → Ans := fun xs bs K => match xs, bs with
  | [.v (.agg [.int .i64 g1, .int .i64 g2]), .v (.agg [.int .i64 p1, .int .i64 p2, .int .i64 p3, .int .i64 p4, .int .i64 p5, .int .i64 p6])], [] => K (rIntE (insideV ⟨g1, g2⟩ ⟨⟨p1, p2⟩, ⟨p3, p4⟩, ⟨p5, p6⟩⟩)) []
  | _, _ => none
def T_fringeref03_Inside : Nat → List AV → List Blk → (AV → List Blk → Ans) → Ans := upd T_fringeref03_sign 15 s_fringeref03_Inside
theorem g_fringeref03_Inside : GOK Tryd.prog GT gbT T_fringeref03_Inside XT := by
  refine GOK.upd g_fringeref03_sign (fun args w => Tryd.call15 args w) fun xs bs K r h => ?_
  unfold s_fringeref03_Inside at h
  split at h
  · exact ⟨_, _, c_fringeref03_Inside _ _ _ _ _ _ _ _, h⟩
  · cases h


set_option maxRecDepth 100000 in
/-- fringeref03.On -/
theorem w_fringeref03_On (g1 g2 p1 p2 p3 p4 p5 p6 : Int) (K : AV → List Blk → Ans) : evFn Tryd.prog GT EQT T_fringeref03_Inside XT noL 60 13 [.v (.agg [.int .i64 g1, .int .i64 g2]), .v (.agg [.int .i64 p1, .int .i64 p2, .int .i64 p3, .int .i64 p4, .int .i64 p5, .int .i64 p6])] [] (fun v M => K v (M.take ([] : List Blk).length)) = onRef K ⟨g1, g2⟩ ⟨⟨p1, p2⟩, ⟨p3, p4⟩, ⟨p5, p6⟩⟩ := by
  kernel_rfl
set_option maxRecDepth 100000 in
theorem c_fringeref03_On (g1 g2 p1 p2 p3 p4 p5 p6 : Int) : CallsA Tryd.prog GT gbT 13 [.v (.agg [.int .i64 g1, .int .i64 g2]), .v (.agg [.int .i64 p1, .int .i64 p2, .int .i64 p3, .int .i64 p4, .int .i64 p5, .int .i64 p6])] [] (rBoolE (onV ⟨g1, g2⟩ ⟨⟨p1, p2⟩, ⟨p3, p4⟩, ⟨p5, p6⟩⟩)) [] := by
  refine CallsA.ofOk fun hok => ?_
  have hw := w_fringeref03_On g1 g2 p1 p2 p3 p4 p5 p6 (fun v M => some (Res.fin v M))
  refine CallsA.ofEv (Γ := T_fringeref03_Inside) (X := XT) (Λ := noL) (EQ := EQT) (n := 60) g_fringeref03_Inside hEQT hmT (fun _ _ _ _ => noL_ok _) (hw.trans ?_)
  have h_g1 := inR_i64 (hok (.int .i64 g1) (by simp [datasL, datas]))
  have h_g2 := inR_i64 (hok (.int .i64 g2) (by simp [datasL, datas]))
  have h_p1 := inR_i64 (hok (.int .i64 p1) (by simp [datasL, datas]))
  have h_p2 := inR_i64 (hok (.int .i64 p2) (by simp [datasL, datas]))
  have h_p3 := inR_i64 (hok (.int .i64 p3) (by simp [datasL, datas]))
  have h_p4 := inR_i64 (hok (.int .i64 p4) (by simp [datasL, datas]))
  have h_p5 := inR_i64 (hok (.int .i64 p5) (by simp [datasL, datas]))
  have h_p6 := inR_i64 (hok (.int .i64 p6) (by simp [datasL, datas]))
  clear hok hw
  exact onRef_ok (K := fun v M => some (Res.fin v M))
def s_fringeref03_On : List AV → List Blk → (AV → List Blk → Ans) → Ans := fun xs bs K => match xs, bs with
  | [.v (.agg [.int .i64 g1, .int .i64 g2]), .v (.agg [.int .i64 p1, .int .i64 p2, .int .i64 p3, .int .i64 p4, .int .i64 p5, .int .i64 p6])], [] => K (rBoolE (onV ⟨g1, g2⟩ ⟨⟨p1, p2⟩, ⟨p3, p4⟩, ⟨p5, p6⟩⟩)) []
  | _, _ => none
def T_fringeref03_On : Nat → List AV → List Blk → (AV → List Blk → Ans) → Ans := upd T_fringeref03_Inside 13 s_fringeref03_On
theorem g_fringeref03_On : GOK Tryd.prog GT gbT T_fringeref03_On XT := by
  refine GOK.upd g_fringeref03_Inside (fun args w => Tryd.call13 args w) fun xs bs K r h => ?_
  unfold s_fringeref03_On at h
  split at h
  · exact ⟨_, _, c_fringeref03_On _ _ _ _ _ _ _ _, h⟩
  · cases h


set_option maxRecDepth 100000 in
/-- fringeref03.Normal -/
theorem w_fringeref03_Normal (g1 g2 p1 p2 p3 p4 p5 p6 : Int) (K : AV → List Blk → Ans) : evFn Tryd.prog GT EQT T_fringeref03_On XT noL 60 26 [.v (.agg [.int .i64 g1, .int .i64 g2]), .v (.agg [.int .i64 p1, .int .i64 p2, .int .i64 p3, .int .i64 p4, .int .i64 p5, .int .i64 p6])] [] (fun v M => K v (M.take ([] : List Blk).length)) = normalRef K ⟨g1, g2⟩ ⟨⟨p1, p2⟩, ⟨p3, p4⟩, ⟨p5, p6⟩⟩ := by
  kernel_rfl
set_option maxRecDepth 100000 in
theorem c_fringeref03_Normal (g1 g2 p1 p2 p3 p4 p5 p6 : Int) : CallsA Tryd.prog GT gbT 26 [.v (.agg [.int .i64 g1, .int .i64 g2]), .v (.agg [.int .i64 p1, .int .i64 p2, .int .i64 p3, .int .i64 p4, .int .i64 p5, .int .i64 p6])] [] (rVecE (normalV ⟨g1, g2⟩ ⟨⟨p1, p2⟩, ⟨p3, p4⟩, ⟨p5, p6⟩⟩)) [] := by
  refine CallsA.ofOk fun hok => ?_
  have hw := w_fringeref03_Normal g1 g2 p1 p2 p3 p4 p5 p6 (fun v M => some (Res.fin v M))
  refine CallsA.ofEv (Γ := T_fringeref03_On) (X := XT) (Λ := noL) (EQ := EQT) (n := 60) g_fringeref03_On hEQT hmT (fun _ _ _ _ => noL_ok _) (hw.trans ?_)
  have h_g1 := inR_i64 (hok (.int .i64 g1) (by simp [datasL, datas]))
  have h_g2 := inR_i64 (hok (.int .i64 g2) (by simp [datasL, datas]))
  have h_p1 := inR_i64 (hok (.int .i64 p1) (by simp [datasL, datas]))
  have h_p2 := inR_i64 (hok (.int .i64 p2) (by simp [datasL, datas]))
  have h_p3 := inR_i64 (hok (.int .i64 p3) (by simp [datasL, datas]))
  have h_p4 := inR_i64 (hok (.int .i64 p4) (by simp [datasL, datas]))
  have h_p5 := inR_i64 (hok (.int .i64 p5) (by simp [datasL, datas]))
  have h_p6 := inR_i64 (hok (.int .i64 p6) (by simp [datasL, datas]))
  clear hok hw
  exact normalRef_ok (K := fun v M => some (Res.fin v M))
def s_fringeref03_Normal : List AV → List Blk → (AV → List Blk → Ans) → Ans := fun xs bs K => match xs, bs with
  | [.v (.agg [.int .i64 g1, .int .i64 g2]), .v (.agg [.int .i64 p1, .int .i64 p2, .int .i64 p3, .int .i64 p4, .int .i64 p5, .int .i64 p6])], [] => K (rVecE (normalV ⟨g1, g2⟩ ⟨⟨p1, p2⟩, ⟨p3, p4⟩, ⟨p5, p6⟩⟩)) []
  | _, _ => none
def T_fringeref03_Normal : Nat → List AV → List Blk → (AV → List Blk → Ans) → Ans := upd T_fringeref03_On 26 s_fringeref03_Normal
theorem g_fringeref03_Normal : GOK Tryd.prog GT gbT T_fringeref03_Normal XT := by
  refine GOK.upd g_fringeref03_On (fun args w => Tryd.call26 args w) fun xs bs K r h => ?_
  unfold s_fringeref03_Normal at h
  split at h
  · exact ⟨_, _, c_fringeref03_Normal _ _ _ _ _ _ _ _, h⟩
  · cases h


set_option maxRecDepth 100000 in
/-- fringeref03.Side -/
theorem w_fringeref03_Side (g1 g2 p1 p2 p3 p4 p5 p6 q1 q2 q3 q4 q5 q6 : Int) (K : AV → List Blk → Ans) : evFn Tryd.prog GT EQT T_fringeref03_Normal XT noL 100 27 [.v (.agg [.int .i64 g1, .int .i64 g2]), .v (.agg [.int .i64 p1, .int .i64 p2, .int .i64 p3, .int .i64 p4, .int .i64 p5, .int .i64 p6]), .v (.agg [.int .i64 q1, .int .i64 q2, .int .i64 q3, .int .i64 q4, .int .i64 q5, .int .i64 q6])] [] (fun v M => K v (M.take ([] : List Blk).length)) = sideRef K ⟨g1, g2⟩ ⟨⟨p1, p2⟩, ⟨p3, p4⟩, ⟨p5, p6⟩⟩ ⟨⟨q1, q2⟩, ⟨q3, q4⟩, ⟨q5, q6⟩⟩ := by
  kernel_rfl
set_option maxRecDepth 100000 in
theorem c_fringeref03_Side (g1 g2 p1 p2 p3 p4 p5 p6 q1 q2 q3 q4 q5 q6 : Int) : CallsA Tryd.prog GT gbT 27 [.v (.agg [.int .i64 g1, .int .i64 g2]), .v (.agg [.int .i64 p1, .int .i64 p2, .int .i64 p3, .int .i64 p4, .int .i64 p5, .int .i64 p6]), .v (.agg [.int .i64 q1, .int .i64 q2, .int .i64 q3, .int .i64 q4, .int .i64 q5, .int .i64 q6])] [] (rIntE (sideV ⟨g1, g2⟩ ⟨⟨p1, p2⟩, ⟨p3, p4⟩, ⟨p5, p6⟩⟩ ⟨⟨q1, q2⟩, ⟨q3, q4⟩, ⟨q5, q6⟩⟩)) [] := by
  refine CallsA.ofOk fun hok => ?_
  have hw := w_fringeref03_Side g1 g2 p1 p2 p3 p4 p5 p6 q1 q2 q3 q4 q5 q6 (fun v M => some (Res.fin v M))
  refine CallsA.ofEv (Γ := T_fringeref03_Normal) (X := XT) (Λ := noL) (EQ := EQT) (n := 100) g_fringeref03_Normal hEQT hmT (fun _ _ _ _ => noL_ok _) (hw.trans ?_)
  have h_g1 := inR_i64 (hok (.int .i64 g1) (by simp [datasL, datas]))
  have h_g2 := inR_i64 (hok (.int .i64 g2) (by simp [datasL, datas]))
  have h_p1 := inR_i64 (hok (.int .i64 p1) (by simp [datasL, datas]))
  have h_p2 := inR_i64 (hok (.int .i64 p2) (by simp [datasL, datas]))
  have h_p3 := inR_i64 (hok (.int .i64 p3) (by simp [datasL, datas]))
  have h_p4 := inR_i64 (hok (.int .i64 p4) (by simp [datasL, datas]))
  have h_p5 := inR_i64 (hok (.int .i64 p5) (by simp [datasL, datas]))
  have h_p6 := inR_i64 (hok (.int .i64 p6) (by simp [datasL, datas]))
  have h_q1 := inR_i64 (hok (.int .i64 q1) (by simp [datasL, datas]))
  have h_q2 := inR_i64 (hok (.int .i64 q2) (by simp [datasL, datas]))
  have h_q3 := inR_i64 (hok (.int .i64 q3) (by simp [datasL, datas]))
  have h_q4 := inR_i64 (hok (.int .i64 q4) (by simp [datasL, datas]))
  have h_q5 := inR_i64 (hok (.int .i64 q5) (by simp [datasL, datas]))
  have h_q6 := inR_i64 (hok (.int .i64 q6) (by simp [datasL, datas]))
  clear hok hw
  exact sideRef_ok (K := fun v M => some (Res.fin v M))
def s_fringeref03_Side : List AV → List Blk → (AV → List Blk → Ans) → Ans := fun xs bs K => match xs, bs with
  | [.v (.agg [.int .i64 g1, .int .i64 g2]), .v (.agg [.int .i64 p1, .int .i64 p2, .int .i64 p3, .int .i64 p4, .int .i64 p5, .int .i64 p6]), .v (.agg [.int .i64 q1, .int .i64 q2, .int .i64 q3, .int .i64 q4, .int .i64 q5, .int .i64 q6])], [] => K (rIntE (sideV ⟨g1, g2⟩ ⟨⟨p1, p2⟩, ⟨p3, p4⟩, ⟨p5, p6⟩⟩ ⟨⟨q1, q2⟩, ⟨q3, q4⟩, ⟨q5, q6⟩⟩)) []
  | _, _ => none
def T_fringeref03_Side : Nat → List AV → List Blk → (AV → List Blk → Ans) → Ans := upd T_fringeref03_Normal 27 s_fringeref03_Side
theorem g_fringeref03_Side : GOK Tryd.prog GT gbT T_fringeref03_Side XT := by
  refine GOK.upd g_fringeref03_Normal (fun args w => Tryd.call27 args w) fun xs bs K r h => ?_
  unfold s_fringeref03_Side at h
  split at h
  · exact ⟨_, _, c_fringeref03_Side _ _ _ _ _ _ _ _ _ _ _ _ _ _, h⟩
  · cases h


abbrev sh_ang : List (Nat × Sh) := [(1, .ptr 0 0), (2, .ptr 1 0), (3, .ptr 2 0), (5, .int .i64), (6, .int .i64)]
abbrev ms_ang : List (Nat × List IntKind) := [(27, [.i64, .i64, .i64, .i64, .i64, .i64]), (25, [.i64, .i64]), (25, [.i64, .i64])]
abbrev T_ang (n k : Int) : TS := maskT (mkS sh_ang [n, k]) 98
def f_ang (xs ys : List Int) : LT := match xs with
  | [n, k] => bif k == 0 then .br (rootOn n) (.st (.exit 0) (T_ang n (rootI n)) (mkM ms_ang ys) 3) .no else .no
  | _ => .no
def L_ang := LamS 5 98 3 sh_ang ms_ang f_ang
set_option maxRecDepth 100000 in
theorem b_ang (n k : Int) (M : List Blk) : evCode Tryd.prog GT EQT T_fringeref03_Side XT noL 20 (loopB Tryd.prog 48 0) (T_ang n k) M 3 (fun x T M N => some (.st x (forget [1, 2, 3, 5, 6] T) M N)) =
    bif decide (w64 (k * k) < n) then some (.st .normal (T_ang n (w64 (k + 1))) M 3) else some (.st (.exit 0) (T_ang n k) M 3) := by kernel_rfl
theorem r_ang (M : List Blk) (n : Int) (hn : n ≤ 640000) : ∀ (f : Nat) (k : Int), 0 ≤ k → k ≤ 800 → 801 - k ≤ f → ∃ j, RoundsOK Tryd.prog GT gbT (loopB Tryd.prog 48 0) j (T_ang n k) M 3 (.exit 0) (T_ang n (rootUp f k n)) M 3
  | 0, k, _, h1, h2 => by omega
  | f + 1, k, h0, h1, h2 => by
    have g1 : k * k ≤ 800 * 800 := mul_le h0 h0 h1 h1
    have g2 := sq_nn k
    have hb := b_ang n k M
    rw [w64_id (n := k * k) (by omega), w64_id (n := k + 1) (by omega)] at hb
    rw [rootUp]
    by_cases h : k * k < n
    · have hk : k < 800 := by
        rcases Int.lt_or_le k 800 with q | q
        · exact q
        · have := mul_le (a := 800) (b := 800) (by omega) (by omega) q q; omega
      rw [decide_eq_true h, cond_true] at hb ⊢
      obtain ⟨j, hj⟩ := r_ang M n hn f (k + 1) (by omega) (by omega) (by omega)
      exact ⟨j + 1, RoundsOK.go (Λ := noL) g_fringeref03_Side hEQT hmT (noL_ok _) hb hj⟩
    · rw [decide_eq_false h, cond_false] at hb ⊢
      exact ⟨1, RoundsOK.fin (Λ := noL) g_fringeref03_Side hEQT hmT (noL_ok _) hb⟩
set_option maxRecDepth 100000 in
theorem LL_ang : ∀ fn c, Tryd.prog.funcs[48]? = some fn → fn.body = some c → LOK Tryd.prog GT gbT L_ang (loopsIn c) := by
  refine LOK.ofF fun b hb => ?_
  have e : loopsF Tryd.prog 48 = [loopB Tryd.prog 48 0] := by kernel_rfl
  have k0 : loopKey (loopB Tryd.prog 48 0) = 5 := by kernel_rfl
  rw [e, List.mem_singleton] at hb
  subst hb
  unfold L_ang
  rw [← k0]
  refine LOKb.lamS fun xs ys x T' M' N' hr => ?_
  unfold f_ang at hr
  split at hr
  · rename_i n k
    simp only [cond_eq_ite, beq_iff_eq] at hr
    split at hr
    · rename_i hk
      subst hk
      rcases hr with ⟨hd, rfl, rfl, rfl, rfl⟩ | ⟨_, hf⟩
      · simp only [rootOn, Bool.and_eq_true, decide_eq_true_eq] at hd
        exact ⟨by simp, r_ang _ n hd.2 801 0 (by omega) (by omega) (by omega)⟩
      · exact hf.elim
    · exact hr.elim
  · exact hr.elim

set_option maxRecDepth 100000 in
/-- geoid.angles -/
theorem w_geoid_angles (r1 r2 r3 r4 r5 r6 : Int) (K : AV → List Blk → Ans) : evFn Tryd.prog GT EQT T_fringeref03_Side XT L_ang 90 48 [.v (.agg [.int .i64 r1, .int .i64 r2, .int .i64 r3, .int .i64 r4, .int .i64 r5, .int .i64 r6])] [] (fun v M => K v (M.take ([] : List Blk).length)) = anglesAns K ⟨⟨r1, r2⟩, ⟨r3, r4⟩, ⟨r5, r6⟩⟩ := by
  kernel_rfl
set_option maxRecDepth 100000 in
theorem c_geoid_angles (r1 r2 r3 r4 r5 r6 : Int) (hd : (angDom ⟨⟨r1, r2⟩, ⟨r3, r4⟩, ⟨r5, r6⟩⟩) = true) : CallsA Tryd.prog GT gbT 48 [.v (.agg [.int .i64 r1, .int .i64 r2, .int .i64 r3, .int .i64 r4, .int .i64 r5, .int .i64 r6])] [] (rFFB (anglesF ⟨⟨r1, r2⟩, ⟨r3, r4⟩, ⟨r5, r6⟩⟩)) [] := by
  refine CallsA.ofOk fun hok => ?_
  have hw := w_geoid_angles r1 r2 r3 r4 r5 r6 (fun v M => some (Res.fin v M))
  refine CallsA.ofEv (Γ := T_fringeref03_Side) (X := XT) (Λ := L_ang) (EQ := EQT) (n := 90) g_fringeref03_Side hEQT hmT (LL_ang) (hw.trans ?_)
  have h_r1 := inR_i64 (hok (.int .i64 r1) (by simp [datasL, datas]))
  have h_r2 := inR_i64 (hok (.int .i64 r2) (by simp [datasL, datas]))
  have h_r3 := inR_i64 (hok (.int .i64 r3) (by simp [datasL, datas]))
  have h_r4 := inR_i64 (hok (.int .i64 r4) (by simp [datasL, datas]))
  have h_r5 := inR_i64 (hok (.int .i64 r5) (by simp [datasL, datas]))
  have h_r6 := inR_i64 (hok (.int .i64 r6) (by simp [datasL, datas]))
  clear hok hw
  exact anglesAns_ok (K := fun v M => some (Res.fin v M)) hd
def s_geoid_angles : List AV → List Blk → (AV → List Blk → Ans) → Ans := fun xs bs K => match xs, bs with
  | [.v (.agg [.int .i64 r1, .int .i64 r2, .int .i64 r3, .int .i64 r4, .int .i64 r5, .int .i64 r6])], [] => bif angDom ⟨⟨r1, r2⟩, ⟨r3, r4⟩, ⟨r5, r6⟩⟩ then K (rFFB (anglesF ⟨⟨r1, r2⟩, ⟨r3, r4⟩, ⟨r5, r6⟩⟩)) [] else none
  | _, _ => none
def T_geoid_angles : Nat → List AV → List Blk → (AV → List Blk → Ans) → Ans := upd T_fringeref03_Side 48 s_geoid_angles
theorem g_geoid_angles : GOK Tryd.prog GT gbT T_geoid_angles XT := by
  refine GOK.upd g_fringeref03_Side (fun args w => Tryd.call48 args w) fun xs bs K r h => ?_
  unfold s_geoid_angles at h
  split at h
  · simp only [cond_eq_ite] at h
    split at h
    · exact ⟨_, _, c_geoid_angles _ _ _ _ _ _ ‹_›, h⟩
    · cases h
  · cases h


set_option maxRecDepth 100000 in
/-- geoid.Params -/
theorem w_geoid_Params (g1 g2 p1 p2 p3 p4 p5 p6 : Int) (K : AV → List Blk → Ans) : evFn Tryd.prog GT EQT T_geoid_angles XT noL 100 18 [.v (.agg [.int .i64 g1, .int .i64 g2]), .v (.agg [.int .i64 p1, .int .i64 p2, .int .i64 p3, .int .i64 p4, .int .i64 p5, .int .i64 p6])] [] (fun v M => K v (M.take ([] : List Blk).length)) = paramsAns K ⟨g1, g2⟩ ⟨⟨p1, p2⟩, ⟨p3, p4⟩, ⟨p5, p6⟩⟩ := by
  kernel_rfl
set_option maxRecDepth 100000 in
theorem c_geoid_Params (g1 g2 p1 p2 p3 p4 p5 p6 : Int) : CallsA Tryd.prog GT gbT 18 [.v (.agg [.int .i64 g1, .int .i64 g2]), .v (.agg [.int .i64 p1, .int .i64 p2, .int .i64 p3, .int .i64 p4, .int .i64 p5, .int .i64 p6])] [] (rFFE (paramsV ⟨g1, g2⟩ ⟨⟨p1, p2⟩, ⟨p3, p4⟩, ⟨p5, p6⟩⟩)) [] := by
  refine CallsA.ofOk fun hok => ?_
  have hw := w_geoid_Params g1 g2 p1 p2 p3 p4 p5 p6 (fun v M => some (Res.fin v M))
  refine CallsA.ofEv (Γ := T_geoid_angles) (X := XT) (Λ := noL) (EQ := EQT) (n := 100) g_geoid_angles hEQT hmT (fun _ _ _ _ => noL_ok _) (hw.trans ?_)
  have h_g1 := inR_i64 (hok (.int .i64 g1) (by simp [datasL, datas]))
  have h_g2 := inR_i64 (hok (.int .i64 g2) (by simp [datasL, datas]))
  have h_p1 := inR_i64 (hok (.int .i64 p1) (by simp [datasL, datas]))
  have h_p2 := inR_i64 (hok (.int .i64 p2) (by simp [datasL, datas]))
  have h_p3 := inR_i64 (hok (.int .i64 p3) (by simp [datasL, datas]))
  have h_p4 := inR_i64 (hok (.int .i64 p4) (by simp [datasL, datas]))
  have h_p5 := inR_i64 (hok (.int .i64 p5) (by simp [datasL, datas]))
  have h_p6 := inR_i64 (hok (.int .i64 p6) (by simp [datasL, datas]))
  clear hok hw
  exact paramsAns_ok (K := fun v M => some (Res.fin v M))
def s_geoid_Params : List AV → List Blk → (AV → List Blk → Ans) → Ans := fun xs bs K => match xs, bs with
  | [.v (.agg [.int .i64 g1, .int .i64 g2]), .v (.agg [.int .i64 p1, .int .i64 p2, .int .i64 p3, .int .i64 p4, .int .i64 p5, .int .i64 p6])], [] => K (rFFE (paramsV ⟨g1, g2⟩ ⟨⟨p1, p2⟩, ⟨p3, p4⟩, ⟨p5, p6⟩⟩)) []
  | _, _ => none
def T_geoid_Params : Nat → List AV → List Blk → (AV → List Blk → Ans) → Ans := upd T_geoid_angles 18 s_geoid_Params
theorem g_geoid_Params : GOK Tryd.prog GT gbT T_geoid_Params XT := by
  refine GOK.upd g_geoid_angles (fun args w => Tryd.call18 args w) fun xs bs K r h => ?_
  unfold s_geoid_Params at h
  split at h
  · exact ⟨_, _, c_geoid_Params _ _ _ _ _ _ _ _, h⟩
  · cases h


set_option maxRecDepth 100000 in
/-- fringelaw03.of -/
theorem w_fringelaw03_of (n d : Int) (K : AV → List Blk → Ans) : evFn Tryd.prog GT EQT T_geoid_Params XT noL 60 21 [.v (.c (.d (.int .i64 n))), .v (.c (.d (.int .i64 d)))] [] (fun v M => K v (M.take ([] : List Blk).length)) = K (rFrac ⟨n, d⟩) [] := by
  kernel_rfl
set_option maxRecDepth 100000 in
theorem c_fringelaw03_of (n d : Int) : CallsA Tryd.prog GT gbT 21 [.v (.c (.d (.int .i64 n))), .v (.c (.d (.int .i64 d)))] [] (rFrac ⟨n, d⟩) [] := by
  refine CallsA.ofOk fun hok => ?_
  have hw := w_fringelaw03_of n d (fun v M => some (Res.fin v M))
  refine CallsA.ofEv (Γ := T_geoid_Params) (X := XT) (Λ := noL) (EQ := EQT) (n := 60) g_geoid_Params hEQT hmT (fun _ _ _ _ => noL_ok _) (hw.trans ?_)
  rfl
def s_fringelaw03_of : List AV → List Blk → (AV → List Blk → Ans) → Ans := fun xs bs K => match xs, bs with
  | [.v (.c (.d (.int .i64 n))), .v (.c (.d (.int .i64 d)))], [] => K (rFrac ⟨n, d⟩) []
  | _, _ => none
def T_fringelaw03_of : Nat → List AV → List Blk → (AV → List Blk → Ans) → Ans := upd T_geoid_Params 21 s_fringelaw03_of
theorem g_fringelaw03_of : GOK Tryd.prog GT gbT T_fringelaw03_of XT := by
  refine GOK.upd g_geoid_Params (fun args w => Tryd.call21 args w) fun xs bs K r h => ?_
  unfold s_fringelaw03_of at h
  split at h
  · exact ⟨_, _, c_fringelaw03_of _ _, h⟩
  · cases h


set_option maxRecDepth 100000 in
/-- fringelaw03.point -/
theorem w_fringelaw03_point (x y z : Int) (K : AV → List Blk → Ans) : evFn Tryd.prog GT EQT T_fringelaw03_of XT noL 60 20 [.v (.c (.d (.int .i64 x))), .v (.c (.d (.int .i64 y))), .v (.c (.d (.int .i64 z)))] [] (fun v M => K v (M.take ([] : List Blk).length)) = K (rVec ⟨⟨x, 1⟩, ⟨y, 1⟩, ⟨z, 1⟩⟩) [] := by
  kernel_rfl
set_option maxRecDepth 100000 in
theorem c_fringelaw03_point (x y z : Int) : CallsA Tryd.prog GT gbT 20 [.v (.c (.d (.int .i64 x))), .v (.c (.d (.int .i64 y))), .v (.c (.d (.int .i64 z)))] [] (rVec ⟨⟨x, 1⟩, ⟨y, 1⟩, ⟨z, 1⟩⟩) [] := by
  refine CallsA.ofOk fun hok => ?_
  have hw := w_fringelaw03_point x y z (fun v M => some (Res.fin v M))
  refine CallsA.ofEv (Γ := T_fringelaw03_of) (X := XT) (Λ := noL) (EQ := EQT) (n := 60) g_fringelaw03_of hEQT hmT (fun _ _ _ _ => noL_ok _) (hw.trans ?_)
  rfl
def s_fringelaw03_point : List AV → List Blk → (AV → List Blk → Ans) → Ans := fun xs bs K => match xs, bs with
  | [.v (.c (.d (.int .i64 x))), .v (.c (.d (.int .i64 y))), .v (.c (.d (.int .i64 z)))], [] => K (rVec ⟨⟨x, 1⟩, ⟨y, 1⟩, ⟨z, 1⟩⟩) []
  | _, _ => none
def T_fringelaw03_point : Nat → List AV → List Blk → (AV → List Blk → Ans) → Ans := upd T_fringelaw03_of 20 s_fringelaw03_point
theorem g_fringelaw03_point : GOK Tryd.prog GT gbT T_fringelaw03_point XT := by
  refine GOK.upd g_fringelaw03_of (fun args w => Tryd.call20 args w) fun xs bs K r h => ?_
  unfold s_fringelaw03_point at h
  split at h
  · exact ⟨_, _, c_fringelaw03_point _ _ _, h⟩
  · cases h


set_option maxRecDepth 100000 in
/-- fringelaw03.alive -/
theorem w_fringelaw03_alive (K : AV → List Blk → Ans) : evFn Tryd.prog GT EQT (inl Tryd.prog GT EQT XT [19] T_fringelaw03_point 150 2) XT noL 150 24 [] [] (fun v M => K v (M.take ([] : List Blk).length)) = K (rB true) [] := by
  kernel_rfl
set_option maxRecDepth 100000 in
theorem c_fringelaw03_alive : CallsA Tryd.prog GT gbT 24 [] [] (rB true) [] := by
  refine CallsA.ofOk fun hok => ?_
  have hw := w_fringelaw03_alive (fun v M => some (Res.fin v M))
  refine CallsA.ofEv (Γ := (inl Tryd.prog GT EQT XT [19] T_fringelaw03_point 150 2)) (X := XT) (Λ := noL) (EQ := EQT) (n := 150) (g_fringelaw03_point.inl hEQT hmT (fun f hf => by simp only [List.mem_cons, List.not_mem_nil, or_false] at hf; subst hf; exact (fun args w => Tryd.call19 args w)) 150 2) hEQT hmT (fun _ _ _ _ => noL_ok _) (hw.trans ?_)
  rfl
def s_fringelaw03_alive : List AV → List Blk → (AV → List Blk → Ans) → Ans := fun xs bs K => match xs, bs with
  | [], [] => K (rB true) []
  | _, _ => none
def T_fringelaw03_alive : Nat → List AV → List Blk → (AV → List Blk → Ans) → Ans := upd T_fringelaw03_point 24 s_fringelaw03_alive
theorem g_fringelaw03_alive : GOK Tryd.prog GT gbT T_fringelaw03_alive XT := by
  refine GOK.upd g_fringelaw03_point (fun args w => Tryd.call24 args w) fun xs bs K r h => ?_
  unfold s_fringelaw03_alive at h
  split at h
  · exact ⟨_, _, c_fringelaw03_alive, h⟩
  · cases h


end Go.Ev
