/-
  Contracts of functions: what each returns. No condition beyond those of the statements.
-/
import Derived.Test.YtglifoijcdfjaaaGreatDoorPyCB
namespace Go.Ev
open Go Go.Proofs

set_option maxRecDepth 100000 in
/-- proj.Norm -/
theorem w_proj_Norm (v1 v2 v3 v4 v5 v6 : Int) (K : AV → List Blk → Ans) : evFn Tryz.prog GT EQT T_proj_Project XT noL 60 9 [.v (.agg [.int .i64 v1, .int .i64 v2, .int .i64 v3, .int .i64 v4, .int .i64 v5, .int .i64 v6])] [] (fun v M => K v (M.take ([] : List Blk).length)) = normAns K ⟨⟨v1, v2⟩, ⟨v3, v4⟩, ⟨v5, v6⟩⟩ := by
  kernel_rfl
set_option maxRecDepth 100000 in
theorem c_proj_Norm (v1 v2 v3 v4 v5 v6 : Int) : CallsA Tryz.prog GT gbT 9 [.v (.agg [.int .i64 v1, .int .i64 v2, .int .i64 v3, .int .i64 v4, .int .i64 v5, .int .i64 v6])] [] (rSpanE (normV ⟨⟨v1, v2⟩, ⟨v3, v4⟩, ⟨v5, v6⟩⟩)) [] := by
  refine CallsA.ofOk fun hok => ?_
  have hw := w_proj_Norm v1 v2 v3 v4 v5 v6 (fun v M => some (Res.fin v M))
  refine CallsA.ofEv (Γ := T_proj_Project) (X := XT) (Λ := noL) (EQ := EQT) (n := 60) g_proj_Project hEQT hmT (fun _ _ _ _ => noL_ok _) (hw.trans ?_)
  have h_v1 := inR_i64 (hok (.int .i64 v1) (by simp [datasL, datas]))
  have h_v2 := inR_i64 (hok (.int .i64 v2) (by simp [datasL, datas]))
  have h_v3 := inR_i64 (hok (.int .i64 v3) (by simp [datasL, datas]))
  have h_v4 := inR_i64 (hok (.int .i64 v4) (by simp [datasL, datas]))
  have h_v5 := inR_i64 (hok (.int .i64 v5) (by simp [datasL, datas]))
  have h_v6 := inR_i64 (hok (.int .i64 v6) (by simp [datasL, datas]))
  clear hok hw
  exact normAns_ok (K := fun v M => some (Res.fin v M))
def s_proj_Norm : List AV → List Blk → (AV → List Blk → Ans) → Ans := fun xs bs K => match xs, bs with
  | [.v (.agg [.int .i64 v1, .int .i64 v2, .int .i64 v3, .int .i64 v4, .int .i64 v5, .int .i64 v6])], [] => K (rSpanE (normV ⟨⟨v1, v2⟩, ⟨v3, v4⟩, ⟨v5, v6⟩⟩)) []
  | _, _ => none
def T_proj_Norm : Nat → List AV → List Blk → (AV → List Blk → Ans) → Ans := upd T_proj_Project 9 s_proj_Norm
theorem g_proj_Norm : GOK Tryz.prog GT gbT T_proj_Norm XT := by
  refine GOK.upd g_proj_Project (fun args w => Tryz.call9 args w) fun xs bs K r h => ?_
  unfold s_proj_Norm at h
  split at h
  · exact ⟨_, _, c_proj_Norm _ _ _ _ _ _, h⟩
  · cases h


set_option maxRecDepth 100000 in
/-- fringeref06.Tick -/
theorem w_fringeref06_Tick (t : Int) (K : AV → List Blk → Ans) : evFn Tryz.prog GT EQT T_proj_Norm XT noL 60 36 [.v (.c (.d (.int .i64 t)))] [] (fun v M => K v (M.take ([] : List Blk).length)) = K (rB (tickB t)) [] := by
  simp only [tickB, pullK K]
  kernel_rfl
set_option maxRecDepth 100000 in
theorem c_fringeref06_Tick (t : Int) : CallsA Tryz.prog GT gbT 36 [.v (.c (.d (.int .i64 t)))] [] (rB (tickB t)) [] := by
  refine CallsA.ofOk fun hok => ?_
  have hw := w_fringeref06_Tick t (fun v M => some (Res.fin v M))
  refine CallsA.ofEv (Γ := T_proj_Norm) (X := XT) (Λ := noL) (EQ := EQT) (n := 60) g_proj_Norm hEQT hmT (fun _ _ _ _ => noL_ok _) (hw.trans ?_)
  rfl
def s_fringeref06_Tick : List AV → List Blk → (AV → List Blk → Ans) → Ans := fun xs bs K => match xs, bs with
  | [.v (.c (.d (.int .i64 t)))], [] => K (rB (tickB t)) []
  | _, _ => none
def T_fringeref06_Tick : Nat → List AV → List Blk → (AV → List Blk → Ans) → Ans := upd T_proj_Norm 36 s_fringeref06_Tick
theorem g_fringeref06_Tick : GOK Tryz.prog GT gbT T_fringeref06_Tick XT := by
  refine GOK.upd g_proj_Norm (fun args w => Tryz.call36 args w) fun xs bs K r h => ?_
  unfold s_fringeref06_Tick at h
  split at h
  · exact ⟨_, _, c_fringeref06_Tick _, h⟩
  · cases h


set_option maxRecDepth 100000 in
/-- fringeref06.sines -/
theorem w_fringeref06_sines (k : Int) (K : AV → List Blk → Ans) : evFn Tryz.prog GT EQT T_fringeref06_Tick XT noL 60 62 [.v (.c (.d (.int .i64 k)))] [] (fun v M => K v (M.take ([] : List Blk).length)) = K (rSpan2 ((cosR k 720).1, (sinR k 720).1)) [] := by
  kernel_rfl
set_option maxRecDepth 100000 in
theorem c_fringeref06_sines (k : Int) : CallsA Tryz.prog GT gbT 62 [.v (.c (.d (.int .i64 k)))] [] (rSpan2 (cosT k, sinT k)) [] := by
  refine CallsA.ofOk fun hok => ?_
  have hw := w_fringeref06_sines k (fun v M => some (Res.fin v M))
  refine CallsA.ofEv (Γ := T_fringeref06_Tick) (X := XT) (Λ := noL) (EQ := EQT) (n := 60) g_fringeref06_Tick hEQT hmT (fun _ _ _ _ => noL_ok _) (hw.trans ?_)
  have h_k := inR_i64 (hok (.int .i64 k) (by simp [datasL, datas]))
  clear hok hw
  refine congrArg (fun v => some (Res.fin v [])) ?_
  rw [cosR720, sinR720]
def s_fringeref06_sines : List AV → List Blk → (AV → List Blk → Ans) → Ans := fun xs bs K => match xs, bs with
  | [.v (.c (.d (.int .i64 k)))], [] => K (rSpan2 (cosT k, sinT k)) []
  | _, _ => none
def T_fringeref06_sines : Nat → List AV → List Blk → (AV → List Blk → Ans) → Ans := upd T_fringeref06_Tick 62 s_fringeref06_sines
theorem g_fringeref06_sines : GOK Tryz.prog GT gbT T_fringeref06_sines XT := by
  refine GOK.upd g_fringeref06_Tick (fun args w => Tryz.call62 args w) fun xs bs K r h => ?_
  unfold s_fringeref06_sines at h
  split at h
  · exact ⟨_, _, c_fringeref06_sines _, h⟩
  · cases h


set_option maxRecDepth 100000 in
/-- fringeref06.Direction -/
theorem w_fringeref06_Direction (s1 : ByteArray) (s2 : Int) (s3 : Int) (t : Int) (K : AV → List Blk → Ans) : evFn Tryz.prog GT EQT T_fringeref06_sines XT noL 60 37 [.v (.agg [.str s1, .int .i64 s2, .int .i64 s3]), .v (.c (.d (.int .i64 t)))] [] (fun v M => K v (M.take ([] : List Blk).length)) = K (rDir (dirR s2 s3 t)) [] := by
  kernel_rfl
set_option maxRecDepth 100000 in
theorem c_fringeref06_Direction (s1 : ByteArray) (s2 : Int) (s3 : Int) (t : Int) : CallsA Tryz.prog GT gbT 37 [.v (.agg [.str s1, .int .i64 s2, .int .i64 s3]), .v (.c (.d (.int .i64 t)))] [] (rDir (dirR s2 s3 t)) [] := by
  refine CallsA.ofOk fun hok => ?_
  have hw := w_fringeref06_Direction s1 s2 s3 t (fun v M => some (Res.fin v M))
  refine CallsA.ofEv (Γ := T_fringeref06_sines) (X := XT) (Λ := noL) (EQ := EQT) (n := 60) g_fringeref06_sines hEQT hmT (fun _ _ _ _ => noL_ok _) (hw.trans ?_)
  rfl
def s_fringeref06_Direction : List AV → List Blk → (AV → List Blk → Ans) → Ans := fun xs bs K => match xs, bs with
  | [.v (.agg [.str _, .int .i64 s2, .int .i64 s3]), .v (.c (.d (.int .i64 t)))], [] => K (rDir (dirR s2 s3 t)) []
  | _, _ => none
def T_fringeref06_Direction : Nat → List AV → List Blk → (AV → List Blk → Ans) → Ans := upd T_fringeref06_sines 37 s_fringeref06_Direction
theorem g_fringeref06_Direction : GOK Tryz.prog GT gbT T_fringeref06_Direction XT := by
  refine GOK.upd g_fringeref06_sines (fun args w => Tryz.call37 args w) fun xs bs K r h => ?_
  unfold s_fringeref06_Direction at h
  split at h
  · exact ⟨_, _, c_fringeref06_Direction _ _ _ _, h⟩
  · cases h


set_option maxRecDepth 100000 in
/-- fringeref06.At -/
theorem w_fringeref06_At (s1 : ByteArray) (s2 : Int) (s3 : Int) (t : Int) (K : AV → List Blk → Ans) : evFn Tryz.prog GT EQT T_fringeref06_Direction XT noL 60 16 [.v (.agg [.str s1, .int .i64 s2, .int .i64 s3]), .v (.c (.d (.int .i64 t)))] [] (fun v M => K v (M.take ([] : List Blk).length)) = at6Ref K ⟨s1, s2, s3⟩ t := by
  kernel_rfl
set_option maxRecDepth 100000 in
theorem c_fringeref06_At (s1 : ByteArray) (s2 : Int) (s3 : Int) (t : Int) : CallsA Tryz.prog GT gbT 16 [.v (.agg [.str s1, .int .i64 s2, .int .i64 s3]), .v (.c (.d (.int .i64 t)))] [] (rDirE (atS ⟨s1, s2, s3⟩ t)) [] := by
  refine CallsA.ofOk fun hok => ?_
  have hw := w_fringeref06_At s1 s2 s3 t (fun v M => some (Res.fin v M))
  refine CallsA.ofEv (Γ := T_fringeref06_Direction) (X := XT) (Λ := noL) (EQ := EQT) (n := 60) g_fringeref06_Direction hEQT hmT (fun _ _ _ _ => noL_ok _) (hw.trans ?_)
  have h_s2 := inR_i64 (hok (.int .i64 s2) (by simp [datasL, datas]))
  have h_s3 := inR_i64 (hok (.int .i64 s3) (by simp [datasL, datas]))
  have h_t := inR_i64 (hok (.int .i64 t) (by simp [datasL, datas]))
  clear hok hw
  exact at6Ref_ok (K := fun v M => some (Res.fin v M))
def s_fringeref06_At : List AV → List Blk → (AV → List Blk → Ans) → Ans := fun xs bs K => match xs, bs with
  | [.v (.agg [.str s1, .int .i64 s2, .int .i64 s3]), .v (.c (.d (.int .i64 t)))], [] => K (rDirE (atS ⟨s1, s2, s3⟩ t)) []
  | _, _ => none
def T_fringeref06_At : Nat → List AV → List Blk → (AV → List Blk → Ans) → Ans := upd T_fringeref06_Direction 16 s_fringeref06_At
theorem g_fringeref06_At : GOK Tryz.prog GT gbT T_fringeref06_At XT := by
  refine GOK.upd g_fringeref06_Direction (fun args w => Tryz.call16 args w) fun xs bs K r h => ?_
  unfold s_fringeref06_At at h
  split at h
  · exact ⟨_, _, c_fringeref06_At _ _ _ _, h⟩
  · cases h


set_option maxRecDepth 100000 in
/-- fringeref06.Valid -/
theorem w_fringeref06_Valid (d1 d2 d3 d4 d5 d6 : Int) (K : AV → List Blk → Ans) : evFn Tryz.prog GT EQT T_fringeref06_At XT noL 60 43 [.v (.agg [.int .i64 d1, .int .i64 d2, .int .i64 d3, .int .i64 d4, .int .i64 d5, .int .i64 d6])] [] (fun v M => K v (M.take ([] : List Blk).length)) = dirOkRef K ⟨⟨d1, d2⟩, ⟨d3, d4⟩, ⟨d5, d6⟩⟩ := by
  kernel_rfl
set_option maxRecDepth 100000 in
theorem c_fringeref06_Valid (d1 d2 d3 d4 d5 d6 : Int) : CallsA Tryz.prog GT gbT 43 [.v (.agg [.int .i64 d1, .int .i64 d2, .int .i64 d3, .int .i64 d4, .int .i64 d5, .int .i64 d6])] [] (rB (dirOkB ⟨⟨d1, d2⟩, ⟨d3, d4⟩, ⟨d5, d6⟩⟩)) [] := by
  refine CallsA.ofOk fun hok => ?_
  have hw := w_fringeref06_Valid d1 d2 d3 d4 d5 d6 (fun v M => some (Res.fin v M))
  refine CallsA.ofEv (Γ := T_fringeref06_At) (X := XT) (Λ := noL) (EQ := EQT) (n := 60) g_fringeref06_At hEQT hmT (fun _ _ _ _ => noL_ok _) (hw.trans ?_)
  have h_d1 := inR_i64 (hok (.int .i64 d1) (by simp [datasL, datas]))
  have h_d2 := inR_i64 (hok (.int .i64 d2) (by simp [datasL, datas]))
  have h_d3 := inR_i64 (hok (.int .i64 d3) (by simp [datasL, datas]))
  have h_d4 := inR_i64 (hok (.int .i64 d4) (by simp [datasL, datas]))
  have h_d5 := inR_i64 (hok (.int .i64 d5) (by simp [datasL, datas]))
  have h_d6 := inR_i64 (hok (.int .i64 d6) (by simp [datasL, datas]))
  clear hok hw
  exact dirOkRef_ok (K := fun v M => some (Res.fin v M))
def s_fringeref06_Valid : List AV → List Blk → (AV → List Blk → Ans) → Ans := fun xs bs K => match xs, bs with
  | [.v (.agg [.int .i64 d1, .int .i64 d2, .int .i64 d3, .int .i64 d4, .int .i64 d5, .int .i64 d6])], [] => K (rB (dirOkB ⟨⟨d1, d2⟩, ⟨d3, d4⟩, ⟨d5, d6⟩⟩)) []
  | _, _ => none
def T_fringeref06_Valid : Nat → List AV → List Blk → (AV → List Blk → Ans) → Ans := upd T_fringeref06_At 43 s_fringeref06_Valid
theorem g_fringeref06_Valid : GOK Tryz.prog GT gbT T_fringeref06_Valid XT := by
  refine GOK.upd g_fringeref06_At (fun args w => Tryz.call43 args w) fun xs bs K r h => ?_
  unfold s_fringeref06_Valid at h
  split at h
  · exact ⟨_, _, c_fringeref06_Valid _ _ _ _ _ _, h⟩
  · cases h


set_option maxRecDepth 100000 in
/-- fringeref06.Dot -/
theorem w_fringeref06_Dot (a1 a2 a3 a4 a5 a6 b1 b2 b3 b4 b5 b6 : Int) (K : AV → List Blk → Ans) : evFn Tryz.prog GT EQT T_fringeref06_Valid XT noL 100 46 [.v (.agg [.int .i64 a1, .int .i64 a2, .int .i64 a3, .int .i64 a4, .int .i64 a5, .int .i64 a6]), .v (.agg [.int .i64 b1, .int .i64 b2, .int .i64 b3, .int .i64 b4, .int .i64 b5, .int .i64 b6])] [] (fun v M => K v (M.take ([] : List Blk).length)) = dotRef6 K ⟨⟨a1, a2⟩, ⟨a3, a4⟩, ⟨a5, a6⟩⟩ ⟨⟨b1, b2⟩, ⟨b3, b4⟩, ⟨b5, b6⟩⟩ := by
  kernel_rfl
set_option maxRecDepth 100000 in
theorem c_fringeref06_Dot (a1 a2 a3 a4 a5 a6 b1 b2 b3 b4 b5 b6 : Int) : CallsA Tryz.prog GT gbT 46 [.v (.agg [.int .i64 a1, .int .i64 a2, .int .i64 a3, .int .i64 a4, .int .i64 a5, .int .i64 a6]), .v (.agg [.int .i64 b1, .int .i64 b2, .int .i64 b3, .int .i64 b4, .int .i64 b5, .int .i64 b6])] [] (rSpanE (dotS ⟨⟨a1, a2⟩, ⟨a3, a4⟩, ⟨a5, a6⟩⟩ ⟨⟨b1, b2⟩, ⟨b3, b4⟩, ⟨b5, b6⟩⟩)) [] := by
  refine CallsA.ofOk fun hok => ?_
  have hw := w_fringeref06_Dot a1 a2 a3 a4 a5 a6 b1 b2 b3 b4 b5 b6 (fun v M => some (Res.fin v M))
  refine CallsA.ofEv (Γ := T_fringeref06_Valid) (X := XT) (Λ := noL) (EQ := EQT) (n := 100) g_fringeref06_Valid hEQT hmT (fun _ _ _ _ => noL_ok _) (hw.trans ?_)
  have h_a1 := inR_i64 (hok (.int .i64 a1) (by simp [datasL, datas]))
  have h_a2 := inR_i64 (hok (.int .i64 a2) (by simp [datasL, datas]))
  have h_a3 := inR_i64 (hok (.int .i64 a3) (by simp [datasL, datas]))
  have h_a4 := inR_i64 (hok (.int .i64 a4) (by simp [datasL, datas]))
  have h_a5 := inR_i64 (hok (.int .i64 a5) (by simp [datasL, datas]))
  have h_a6 := inR_i64 (hok (.int .i64 a6) (by simp [datasL, datas]))
  have h_b1 := inR_i64 (hok (.int .i64 b1) (by simp [datasL, datas]))
  have h_b2 := inR_i64 (hok (.int .i64 b2) (by simp [datasL, datas]))
  have h_b3 := inR_i64 (hok (.int .i64 b3) (by simp [datasL, datas]))
  have h_b4 := inR_i64 (hok (.int .i64 b4) (by simp [datasL, datas]))
  have h_b5 := inR_i64 (hok (.int .i64 b5) (by simp [datasL, datas]))
  have h_b6 := inR_i64 (hok (.int .i64 b6) (by simp [datasL, datas]))
  clear hok hw
  exact dotRef6_ok (K := fun v M => some (Res.fin v M))
def s_fringeref06_Dot : List AV → List Blk → (AV → List Blk → Ans) → Ans := fun xs bs K => match xs, bs with
  | [.v (.agg [.int .i64 a1, .int .i64 a2, .int .i64 a3, .int .i64 a4, .int .i64 a5, .int .i64 a6]), .v (.agg [.int .i64 b1, .int .i64 b2, .int .i64 b3, .int .i64 b4, .int .i64 b5, .int .i64 b6])], [] => K (rSpanE (dotS ⟨⟨a1, a2⟩, ⟨a3, a4⟩, ⟨a5, a6⟩⟩ ⟨⟨b1, b2⟩, ⟨b3, b4⟩, ⟨b5, b6⟩⟩)) []
  | _, _ => none
def T_fringeref06_Dot : Nat → List AV → List Blk → (AV → List Blk → Ans) → Ans := upd T_fringeref06_Valid 46 s_fringeref06_Dot
theorem g_fringeref06_Dot : GOK Tryz.prog GT gbT T_fringeref06_Dot XT := by
  refine GOK.upd g_fringeref06_Valid (fun args w => Tryz.call46 args w) fun xs bs K r h => ?_
  unfold s_fringeref06_Dot at h
  split at h
  · exact ⟨_, _, c_fringeref06_Dot _ _ _ _ _ _ _ _ _ _ _ _, h⟩
  · cases h


set_option maxRecDepth 100000 in
/-- fringeref06.Enclosed -/
theorem w_fringeref06_Enclosed (v1 v2 v3 v4 v5 v6 : Int) (K : AV → List Blk → Ans) : evFn Tryz.prog GT EQT T_fringeref06_Dot XT noL 60 45 [.v (.agg [.int .i64 v1, .int .i64 v2, .int .i64 v3, .int .i64 v4, .int .i64 v5, .int .i64 v6])] [] (fun v M => K v (M.take ([] : List Blk).length)) = encAns K (ofS ⟨v1, v2⟩) (ofS ⟨v3, v4⟩) (ofS ⟨v5, v6⟩) := by
  kernel_rfl
set_option maxRecDepth 100000 in
theorem c_fringeref06_Enclosed (v1 v2 v3 v4 v5 v6 : Int) : CallsA Tryz.prog GT gbT 45 [.v (.agg [.int .i64 v1, .int .i64 v2, .int .i64 v3, .int .i64 v4, .int .i64 v5, .int .i64 v6])] [] (rDirE (enclosedR ⟨⟨v1, v2⟩, ⟨v3, v4⟩, ⟨v5, v6⟩⟩)) [] := by
  refine CallsA.ofOk fun hok => ?_
  have hw := w_fringeref06_Enclosed v1 v2 v3 v4 v5 v6 (fun v M => some (Res.fin v M))
  refine CallsA.ofEv (Γ := T_fringeref06_Dot) (X := XT) (Λ := noL) (EQ := EQT) (n := 60) g_fringeref06_Dot hEQT hmT (fun _ _ _ _ => noL_ok _) (hw.trans ?_)
  have h_v1 := inR_i64 (hok (.int .i64 v1) (by simp [datasL, datas]))
  have h_v2 := inR_i64 (hok (.int .i64 v2) (by simp [datasL, datas]))
  have h_v3 := inR_i64 (hok (.int .i64 v3) (by simp [datasL, datas]))
  have h_v4 := inR_i64 (hok (.int .i64 v4) (by simp [datasL, datas]))
  have h_v5 := inR_i64 (hok (.int .i64 v5) (by simp [datasL, datas]))
  have h_v6 := inR_i64 (hok (.int .i64 v6) (by simp [datasL, datas]))
  clear hok hw
  exact encAns_ok (K := fun v M => some (Res.fin v M))
def s_fringeref06_Enclosed : List AV → List Blk → (AV → List Blk → Ans) → Ans := fun xs bs K => match xs, bs with
  | [.v (.agg [.int .i64 v1, .int .i64 v2, .int .i64 v3, .int .i64 v4, .int .i64 v5, .int .i64 v6])], [] => K (rDirE (enclosedR ⟨⟨v1, v2⟩, ⟨v3, v4⟩, ⟨v5, v6⟩⟩)) []
  | _, _ => none
def T_fringeref06_Enclosed : Nat → List AV → List Blk → (AV → List Blk → Ans) → Ans := upd T_fringeref06_Dot 45 s_fringeref06_Enclosed
theorem g_fringeref06_Enclosed : GOK Tryz.prog GT gbT T_fringeref06_Enclosed XT := by
  refine GOK.upd g_fringeref06_Dot (fun args w => Tryz.call45 args w) fun xs bs K r h => ?_
  unfold s_fringeref06_Enclosed at h
  split at h
  · exact ⟨_, _, c_fringeref06_Enclosed _ _ _ _ _ _, h⟩
  · cases h


set_option maxRecDepth 100000 in
/-- fringeref06.Along -/
theorem w_fringeref06_Along (d1 d2 d3 d4 d5 d6 v1 v2 v3 v4 v5 v6 : Int) (K : AV → List Blk → Ans) : evFn Tryz.prog GT EQT T_fringeref06_Enclosed XT noL 60 22 [.v (.agg [.int .i64 d1, .int .i64 d2, .int .i64 d3, .int .i64 d4, .int .i64 d5, .int .i64 d6]), .v (.agg [.int .i64 v1, .int .i64 v2, .int .i64 v3, .int .i64 v4, .int .i64 v5, .int .i64 v6])] [] (fun v M => K v (M.take ([] : List Blk).length)) = alongRef K ⟨⟨d1, d2⟩, ⟨d3, d4⟩, ⟨d5, d6⟩⟩ ⟨⟨v1, v2⟩, ⟨v3, v4⟩, ⟨v5, v6⟩⟩ := by
  kernel_rfl
set_option maxRecDepth 100000 in
theorem c_fringeref06_Along (d1 d2 d3 d4 d5 d6 v1 v2 v3 v4 v5 v6 : Int) : CallsA Tryz.prog GT gbT 22 [.v (.agg [.int .i64 d1, .int .i64 d2, .int .i64 d3, .int .i64 d4, .int .i64 d5, .int .i64 d6]), .v (.agg [.int .i64 v1, .int .i64 v2, .int .i64 v3, .int .i64 v4, .int .i64 v5, .int .i64 v6])] [] (rSpanE (alongS ⟨⟨d1, d2⟩, ⟨d3, d4⟩, ⟨d5, d6⟩⟩ ⟨⟨v1, v2⟩, ⟨v3, v4⟩, ⟨v5, v6⟩⟩)) [] := by
  refine CallsA.ofOk fun hok => ?_
  have hw := w_fringeref06_Along d1 d2 d3 d4 d5 d6 v1 v2 v3 v4 v5 v6 (fun v M => some (Res.fin v M))
  refine CallsA.ofEv (Γ := T_fringeref06_Enclosed) (X := XT) (Λ := noL) (EQ := EQT) (n := 60) g_fringeref06_Enclosed hEQT hmT (fun _ _ _ _ => noL_ok _) (hw.trans ?_)
  have h_d1 := inR_i64 (hok (.int .i64 d1) (by simp [datasL, datas]))
  have h_d2 := inR_i64 (hok (.int .i64 d2) (by simp [datasL, datas]))
  have h_d3 := inR_i64 (hok (.int .i64 d3) (by simp [datasL, datas]))
  have h_d4 := inR_i64 (hok (.int .i64 d4) (by simp [datasL, datas]))
  have h_d5 := inR_i64 (hok (.int .i64 d5) (by simp [datasL, datas]))
  have h_d6 := inR_i64 (hok (.int .i64 d6) (by simp [datasL, datas]))
  have h_v1 := inR_i64 (hok (.int .i64 v1) (by simp [datasL, datas]))
  have h_v2 := inR_i64 (hok (.int .i64 v2) (by simp [datasL, datas]))
  have h_v3 := inR_i64 (hok (.int .i64 v3) (by simp [datasL, datas]))
  have h_v4 := inR_i64 (hok (.int .i64 v4) (by simp [datasL, datas]))
  have h_v5 := inR_i64 (hok (.int .i64 v5) (by simp [datasL, datas]))
  have h_v6 := inR_i64 (hok (.int .i64 v6) (by simp [datasL, datas]))
  clear hok hw
  exact alongRef_ok (K := fun v M => some (Res.fin v M))
def s_fringeref06_Along : List AV → List Blk → (AV → List Blk → Ans) → Ans := fun xs bs K => match xs, bs with
  | [.v (.agg [.int .i64 d1, .int .i64 d2, .int .i64 d3, .int .i64 d4, .int .i64 d5, .int .i64 d6]), .v (.agg [.int .i64 v1, .int .i64 v2, .int .i64 v3, .int .i64 v4, .int .i64 v5, .int .i64 v6])], [] => K (rSpanE (alongS ⟨⟨d1, d2⟩, ⟨d3, d4⟩, ⟨d5, d6⟩⟩ ⟨⟨v1, v2⟩, ⟨v3, v4⟩, ⟨v5, v6⟩⟩)) []
  | _, _ => none
def T_fringeref06_Along : Nat → List AV → List Blk → (AV → List Blk → Ans) → Ans := upd T_fringeref06_Enclosed 22 s_fringeref06_Along
theorem g_fringeref06_Along : GOK Tryz.prog GT gbT T_fringeref06_Along XT := by
  refine GOK.upd g_fringeref06_Enclosed (fun args w => Tryz.call22 args w) fun xs bs K r h => ?_
  unfold s_fringeref06_Along at h
  split at h
  · exact ⟨_, _, c_fringeref06_Along _ _ _ _ _ _ _ _ _ _ _ _, h⟩
  · cases h


set_option maxRecDepth 100000 in
/-- fringeref08.Axes -/
theorem w_fringeref08_Axes (s1 : ByteArray) (s2 : Int) (s3 : Int) (t : Int) (K : AV → List Blk → Ans) : evFn Tryz.prog GT EQT T_fringeref06_Along XT noL 100 6 [.v (.agg [.str s1, .int .i64 s2, .int .i64 s3]), .v (.c (.d (.int .i64 t)))] [] (fun v M => K v (M.take ([] : List Blk).length)) = axesRef K ⟨s1, s2, s3⟩ t := by
  kernel_rfl
set_option maxRecDepth 100000 in
theorem c_fringeref08_Axes (s1 : ByteArray) (s2 : Int) (s3 : Int) (t : Int) : CallsA Tryz.prog GT gbT 6 [.v (.agg [.str s1, .int .i64 s2, .int .i64 s3]), .v (.c (.d (.int .i64 t)))] [] (rFrameE (axesV ⟨s1, s2, s3⟩ t)) [] := by
  refine CallsA.ofOk fun hok => ?_
  have hw := w_fringeref08_Axes s1 s2 s3 t (fun v M => some (Res.fin v M))
  refine CallsA.ofEv (Γ := T_fringeref06_Along) (X := XT) (Λ := noL) (EQ := EQT) (n := 100) g_fringeref06_Along hEQT hmT (fun _ _ _ _ => noL_ok _) (hw.trans ?_)
  have h_s2 := inR_i64 (hok (.int .i64 s2) (by simp [datasL, datas]))
  have h_s3 := inR_i64 (hok (.int .i64 s3) (by simp [datasL, datas]))
  have h_t := inR_i64 (hok (.int .i64 t) (by simp [datasL, datas]))
  clear hok hw
  exact axesRef_ok (K := fun v M => some (Res.fin v M))
def s_fringeref08_Axes : List AV → List Blk → (AV → List Blk → Ans) → Ans := fun xs bs K => match xs, bs with
  | [.v (.agg [.str s1, .int .i64 s2, .int .i64 s3]), .v (.c (.d (.int .i64 t)))], [] => K (rFrameE (axesV ⟨s1, s2, s3⟩ t)) []
  | _, _ => none
def T_fringeref08_Axes : Nat → List AV → List Blk → (AV → List Blk → Ans) → Ans := upd T_fringeref06_Along 6 s_fringeref08_Axes
theorem g_fringeref08_Axes : GOK Tryz.prog GT gbT T_fringeref08_Axes XT := by
  refine GOK.upd g_fringeref06_Along (fun args w => Tryz.call6 args w) fun xs bs K r h => ?_
  unfold s_fringeref08_Axes at h
  split at h
  · exact ⟨_, _, c_fringeref08_Axes _ _ _ _, h⟩
  · cases h


set_option maxRecDepth 100000 in
/-- fringeref08.Project -/
theorem w_fringeref08_Project (v1 : Int) (v2 : Int) (v3 : Int) (v4 : Int) (v5 : Int) (v6 : Int) (s1 : ByteArray) (s2 : Int) (s3 : Int) (t : Int) (K : AV → List Blk → Ans) : evFn Tryz.prog GT EQT T_fringeref08_Axes XT noL 100 8 [.v (.agg [.int .i64 v1, .int .i64 v2, .int .i64 v3, .int .i64 v4, .int .i64 v5, .int .i64 v6]), .v (.agg [.str s1, .int .i64 s2, .int .i64 s3]), .v (.c (.d (.int .i64 t)))] [] (fun v M => K v (M.take ([] : List Blk).length)) = projRef K ⟨⟨v1, v2⟩, ⟨v3, v4⟩, ⟨v5, v6⟩⟩ ⟨s1, s2, s3⟩ t := by
  kernel_rfl
set_option maxRecDepth 100000 in
theorem c_fringeref08_Project (v1 : Int) (v2 : Int) (v3 : Int) (v4 : Int) (v5 : Int) (v6 : Int) (s1 : ByteArray) (s2 : Int) (s3 : Int) (t : Int) : CallsA Tryz.prog GT gbT 8 [.v (.agg [.int .i64 v1, .int .i64 v2, .int .i64 v3, .int .i64 v4, .int .i64 v5, .int .i64 v6]), .v (.agg [.str s1, .int .i64 s2, .int .i64 s3]), .v (.c (.d (.int .i64 t)))] [] (rDirE (projV ⟨⟨v1, v2⟩, ⟨v3, v4⟩, ⟨v5, v6⟩⟩ ⟨s1, s2, s3⟩ t)) [] := by
  refine CallsA.ofOk fun hok => ?_
  have hw := w_fringeref08_Project v1 v2 v3 v4 v5 v6 s1 s2 s3 t (fun v M => some (Res.fin v M))
  refine CallsA.ofEv (Γ := T_fringeref08_Axes) (X := XT) (Λ := noL) (EQ := EQT) (n := 100) g_fringeref08_Axes hEQT hmT (fun _ _ _ _ => noL_ok _) (hw.trans ?_)
  have h_v1 := inR_i64 (hok (.int .i64 v1) (by simp [datasL, datas]))
  have h_v2 := inR_i64 (hok (.int .i64 v2) (by simp [datasL, datas]))
  have h_v3 := inR_i64 (hok (.int .i64 v3) (by simp [datasL, datas]))
  have h_v4 := inR_i64 (hok (.int .i64 v4) (by simp [datasL, datas]))
  have h_v5 := inR_i64 (hok (.int .i64 v5) (by simp [datasL, datas]))
  have h_v6 := inR_i64 (hok (.int .i64 v6) (by simp [datasL, datas]))
  have h_s2 := inR_i64 (hok (.int .i64 s2) (by simp [datasL, datas]))
  have h_s3 := inR_i64 (hok (.int .i64 s3) (by simp [datasL, datas]))
  have h_t := inR_i64 (hok (.int .i64 t) (by simp [datasL, datas]))
  clear hok hw
  exact projRef_ok (K := fun v M => some (Res.fin v M))
def s_fringeref08_Project : List AV → List Blk → (AV → List Blk → Ans) → Ans := fun xs bs K => match xs, bs with
  | [.v (.agg [.int .i64 v1, .int .i64 v2, .int .i64 v3, .int .i64 v4, .int .i64 v5, .int .i64 v6]), .v (.agg [.str s1, .int .i64 s2, .int .i64 s3]), .v (.c (.d (.int .i64 t)))], [] => K (rDirE (projV ⟨⟨v1, v2⟩, ⟨v3, v4⟩, ⟨v5, v6⟩⟩ ⟨s1, s2, s3⟩ t)) []
  | _, _ => none
def T_fringeref08_Project : Nat → List AV → List Blk → (AV → List Blk → Ans) → Ans := upd T_fringeref08_Axes 8 s_fringeref08_Project
theorem g_fringeref08_Project : GOK Tryz.prog GT gbT T_fringeref08_Project XT := by
  refine GOK.upd g_fringeref08_Axes (fun args w => Tryz.call8 args w) fun xs bs K r h => ?_
  unfold s_fringeref08_Project at h
  split at h
  · exact ⟨_, _, c_fringeref08_Project _ _ _ _ _ _ _ _ _ _, h⟩
  · cases h


set_option maxRecDepth 100000 in
/-- fringeref08.Norm -/
theorem w_fringeref08_Norm (v1 v2 v3 v4 v5 v6 : Int) (K : AV → List Blk → Ans) : evFn Tryz.prog GT EQT T_fringeref08_Project XT noL 60 10 [.v (.agg [.int .i64 v1, .int .i64 v2, .int .i64 v3, .int .i64 v4, .int .i64 v5, .int .i64 v6])] [] (fun v M => K v (M.take ([] : List Blk).length)) = normAns K ⟨⟨v1, v2⟩, ⟨v3, v4⟩, ⟨v5, v6⟩⟩ := by
  kernel_rfl
set_option maxRecDepth 100000 in
theorem c_fringeref08_Norm (v1 v2 v3 v4 v5 v6 : Int) : CallsA Tryz.prog GT gbT 10 [.v (.agg [.int .i64 v1, .int .i64 v2, .int .i64 v3, .int .i64 v4, .int .i64 v5, .int .i64 v6])] [] (rSpanE (normV ⟨⟨v1, v2⟩, ⟨v3, v4⟩, ⟨v5, v6⟩⟩)) [] := by
  refine CallsA.ofOk fun hok => ?_
  have hw := w_fringeref08_Norm v1 v2 v3 v4 v5 v6 (fun v M => some (Res.fin v M))
  refine CallsA.ofEv (Γ := T_fringeref08_Project) (X := XT) (Λ := noL) (EQ := EQT) (n := 60) g_fringeref08_Project hEQT hmT (fun _ _ _ _ => noL_ok _) (hw.trans ?_)
  have h_v1 := inR_i64 (hok (.int .i64 v1) (by simp [datasL, datas]))
  have h_v2 := inR_i64 (hok (.int .i64 v2) (by simp [datasL, datas]))
  have h_v3 := inR_i64 (hok (.int .i64 v3) (by simp [datasL, datas]))
  have h_v4 := inR_i64 (hok (.int .i64 v4) (by simp [datasL, datas]))
  have h_v5 := inR_i64 (hok (.int .i64 v5) (by simp [datasL, datas]))
  have h_v6 := inR_i64 (hok (.int .i64 v6) (by simp [datasL, datas]))
  clear hok hw
  exact normAns_ok (K := fun v M => some (Res.fin v M))
def s_fringeref08_Norm : List AV → List Blk → (AV → List Blk → Ans) → Ans := fun xs bs K => match xs, bs with
  | [.v (.agg [.int .i64 v1, .int .i64 v2, .int .i64 v3, .int .i64 v4, .int .i64 v5, .int .i64 v6])], [] => K (rSpanE (normV ⟨⟨v1, v2⟩, ⟨v3, v4⟩, ⟨v5, v6⟩⟩)) []
  | _, _ => none
def T_fringeref08_Norm : Nat → List AV → List Blk → (AV → List Blk → Ans) → Ans := upd T_fringeref08_Project 10 s_fringeref08_Norm
theorem g_fringeref08_Norm : GOK Tryz.prog GT gbT T_fringeref08_Norm XT := by
  refine GOK.upd g_fringeref08_Project (fun args w => Tryz.call10 args w) fun xs bs K r h => ?_
  unfold s_fringeref08_Norm at h
  split at h
  · exact ⟨_, _, c_fringeref08_Norm _ _ _ _ _ _, h⟩
  · cases h


set_option maxRecDepth 100000 in
/-- fringelaw08.ProjAxes -/
theorem w_fringelaw08_ProjAxes (v1 : Int) (v2 : Int) (v3 : Int) (v4 : Int) (v5 : Int) (v6 : Int) (s1 : ByteArray) (s2 : Int) (s3 : Int) (t : Int) (K : AV → List Blk → Ans) : evFn Tryz.prog GT EQT (inl Tryz.prog GT EQT XT [4, 11] T_fringeref08_Norm 150 2) XT noL 150 3 [.v (.agg [.int .i64 v1, .int .i64 v2, .int .i64 v3, .int .i64 v4, .int .i64 v5, .int .i64 v6]), .v (.agg [.str s1, .int .i64 s2, .int .i64 s3]), .v (.c (.d (.int .i64 t)))] [] (fun v M => K v (M.take ([] : List Blk).length)) = lawProjAxes K ⟨⟨v1, v2⟩, ⟨v3, v4⟩, ⟨v5, v6⟩⟩ ⟨s1, s2, s3⟩ t := by
  kernel_rfl
set_option maxRecDepth 100000 in
theorem c_fringelaw08_ProjAxes (v1 : Int) (v2 : Int) (v3 : Int) (v4 : Int) (v5 : Int) (v6 : Int) (s1 : ByteArray) (s2 : Int) (s3 : Int) (t : Int) : CallsA Tryz.prog GT gbT 3 [.v (.agg [.int .i64 v1, .int .i64 v2, .int .i64 v3, .int .i64 v4, .int .i64 v5, .int .i64 v6]), .v (.agg [.str s1, .int .i64 s2, .int .i64 s3]), .v (.c (.d (.int .i64 t)))] [] (rB true) [] := by
  refine CallsA.ofOk fun hok => ?_
  have hw := w_fringelaw08_ProjAxes v1 v2 v3 v4 v5 v6 s1 s2 s3 t (fun v M => some (Res.fin v M))
  refine CallsA.ofEv (Γ := (inl Tryz.prog GT EQT XT [4, 11] T_fringeref08_Norm 150 2)) (X := XT) (Λ := noL) (EQ := EQT) (n := 150) (g_fringeref08_Norm.inl hEQT hmT (fun f hf => by simp only [List.mem_cons, List.not_mem_nil, or_false] at hf; rcases hf with rfl | rfl <;> first | exact (fun args w => Tryz.call4 args w) | exact (fun args w => Tryz.call11 args w)) 150 2) hEQT hmT (fun _ _ _ _ => noL_ok _) (hw.trans ?_)
  have h_v1 := inR_i64 (hok (.int .i64 v1) (by simp [datasL, datas]))
  have h_v2 := inR_i64 (hok (.int .i64 v2) (by simp [datasL, datas]))
  have h_v3 := inR_i64 (hok (.int .i64 v3) (by simp [datasL, datas]))
  have h_v4 := inR_i64 (hok (.int .i64 v4) (by simp [datasL, datas]))
  have h_v5 := inR_i64 (hok (.int .i64 v5) (by simp [datasL, datas]))
  have h_v6 := inR_i64 (hok (.int .i64 v6) (by simp [datasL, datas]))
  have h_s2 := inR_i64 (hok (.int .i64 s2) (by simp [datasL, datas]))
  have h_s3 := inR_i64 (hok (.int .i64 s3) (by simp [datasL, datas]))
  have h_t := inR_i64 (hok (.int .i64 t) (by simp [datasL, datas]))
  clear hok hw
  exact lawProjAxes_ok (K := fun v M => some (Res.fin v M))

end Go.Ev
