/-
  Contracts of functions: what each returns. No condition beyond those of the statements.
-/
import Derived.Test.YtdgegcaljelohaaAlCD
namespace Go.Ev
open Go Go.Proofs

set_option maxRecDepth 100000 in
/-- fringelaw06.fit -/
theorem w_fringelaw06_fit (nm : ByteArray) (ra dec t : Int) (K : AV → List Blk → Ans) : evFn Try.prog GT EQT T_fringelaw06_long XT noL 60 16 [.v (.agg [.str nm, .int .i64 ra, .int .i64 dec]), .v (.c (.d (.int .i64 t)))] [] (fun v M => K v (M.take ([] : List Blk).length)) = K (rB (fitB ⟨nm, ra, dec⟩ t)) [] := by
  simp only [fitB, pullK K]
  kernel_rfl
theorem c_fringelaw06_fit (nm : ByteArray) (ra dec t : Int) : CallsA Try.prog GT gbT 16 [.v (.agg [.str nm, .int .i64 ra, .int .i64 dec]), .v (.c (.d (.int .i64 t)))] [] (rB (fitB ⟨nm, ra, dec⟩ t)) [] := by
  refine CallsA.ofOk fun hok => ?_
  have hw := w_fringelaw06_fit nm ra dec t (fun v M => some (Res.fin v M))
  refine CallsA.ofEv (Γ := T_fringelaw06_long) (X := XT) (Λ := noL) (EQ := EQT) (n := 60) g_fringelaw06_long hEQT hmT (fun _ _ _ _ => noL_ok _) (hw.trans ?_)
  rfl
def s_fringelaw06_fit : List AV → List Blk → (AV → List Blk → Ans) → Ans := fun xs bs K => match xs, bs with
  | [.v (.agg [.str nm, .int .i64 ra, .int .i64 dec]), .v (.c (.d (.int .i64 t)))], [] => K (rB (fitB ⟨nm, ra, dec⟩ t)) []
  | _, _ => none
def T_fringelaw06_fit : Nat → List AV → List Blk → (AV → List Blk → Ans) → Ans := upd T_fringelaw06_long 16 s_fringelaw06_fit
theorem g_fringelaw06_fit : GOK Try.prog GT gbT T_fringelaw06_fit XT := by
  refine GOK.upd g_fringelaw06_long (fun args w => Try.call16 args w) fun xs bs K r h => ?_
  unfold s_fringelaw06_fit at h
  split at h
  · exact ⟨_, _, c_fringelaw06_fit _ _ _ _, h⟩
  · cases h


set_option maxRecDepth 100000 in
/-- fringeref06.Common -/
theorem w_fringeref06_Common (a b c d : Int) (K : AV → List Blk → Ans) : evFn Try.prog GT EQT T_fringelaw06_fit XT noL 60 20 [.v (.agg [.int .i64 a, .int .i64 b]), .v (.agg [.int .i64 c, .int .i64 d])] [] (fun v M => K v (M.take ([] : List Blk).length)) = K (rB (commonB ⟨a, b⟩ ⟨c, d⟩)) [] := by
  simp only [commonB, pullK K]
  kernel_rfl
theorem c_fringeref06_Common (a b c d : Int) : CallsA Try.prog GT gbT 20 [.v (.agg [.int .i64 a, .int .i64 b]), .v (.agg [.int .i64 c, .int .i64 d])] [] (rB (commonB ⟨a, b⟩ ⟨c, d⟩)) [] := by
  refine CallsA.ofOk fun hok => ?_
  have hw := w_fringeref06_Common a b c d (fun v M => some (Res.fin v M))
  refine CallsA.ofEv (Γ := T_fringelaw06_fit) (X := XT) (Λ := noL) (EQ := EQT) (n := 60) g_fringelaw06_fit hEQT hmT (fun _ _ _ _ => noL_ok _) (hw.trans ?_)
  rfl
def s_fringeref06_Common : List AV → List Blk → (AV → List Blk → Ans) → Ans := fun xs bs K => match xs, bs with
  | [.v (.agg [.int .i64 a, .int .i64 b]), .v (.agg [.int .i64 c, .int .i64 d])], [] => K (rB (commonB ⟨a, b⟩ ⟨c, d⟩)) []
  | _, _ => none
def T_fringeref06_Common : Nat → List AV → List Blk → (AV → List Blk → Ans) → Ans := upd T_fringelaw06_fit 20 s_fringeref06_Common
theorem g_fringeref06_Common : GOK Try.prog GT gbT T_fringeref06_Common XT := by
  refine GOK.upd g_fringelaw06_fit (fun args w => Try.call20 args w) fun xs bs K r h => ?_
  unfold s_fringeref06_Common at h
  split at h
  · exact ⟨_, _, c_fringeref06_Common _ _ _ _, h⟩
  · cases h


set_option maxRecDepth 100000 in
/-- fringelaw06.alive -/
theorem w_fringelaw06_alive (K : AV → List Blk → Ans) : evFn Try.prog GT EQT (inl Try.prog GT EQT XT [22, 23] T_fringeref06_Common 60 2) XT noL 60 17 [] [] (fun v M => K v (M.take ([] : List Blk).length)) = K (rB true) [] := by
  kernel_rfl
theorem c_fringelaw06_alive : CallsA Try.prog GT gbT 17 [] [] (rB true) [] := by
  refine CallsA.ofOk fun hok => ?_
  have hw := w_fringelaw06_alive (fun v M => some (Res.fin v M))
  refine CallsA.ofEv (Γ := (inl Try.prog GT EQT XT [22, 23] T_fringeref06_Common 60 2)) (X := XT) (Λ := noL) (EQ := EQT) (n := 60) (g_fringeref06_Common.inl hEQT hmT (fun f hf => by simp only [List.mem_cons, List.not_mem_nil, or_false] at hf; rcases hf with rfl | rfl <;> first | exact (fun args w => Try.call22 args w) | exact (fun args w => Try.call23 args w)) 60 2) hEQT hmT (fun _ _ _ _ => noL_ok _) (hw.trans ?_)
  rfl
def s_fringelaw06_alive : List AV → List Blk → (AV → List Blk → Ans) → Ans := fun xs bs K => match xs, bs with
  | [], [] => K (rB true) []
  | _, _ => none
def T_fringelaw06_alive : Nat → List AV → List Blk → (AV → List Blk → Ans) → Ans := upd T_fringeref06_Common 17 s_fringelaw06_alive
theorem g_fringelaw06_alive : GOK Try.prog GT gbT T_fringelaw06_alive XT := by
  refine GOK.upd g_fringeref06_Common (fun args w => Try.call17 args w) fun xs bs K r h => ?_
  unfold s_fringelaw06_alive at h
  split at h
  · exact ⟨_, _, c_fringelaw06_alive, h⟩
  · cases h


set_option maxRecDepth 100000 in
/-- fringelaw06.TrackAlong -/
theorem w_fringelaw06_TrackAlong (nm : ByteArray) (ra dec tk : Int) (p q r s t u p2 q2 r2 s2 t2 u2 : Int) (K : AV → List Blk → Ans) : evFn Try.prog GT EQT T_fringelaw06_alive XT noL 120 7 [.v (.agg [.str nm, .int .i64 ra, .int .i64 dec]), .v (.c (.d (.int .i64 tk))), .v (.agg [.int .i64 p, .int .i64 q, .int .i64 r, .int .i64 s, .int .i64 t, .int .i64 u]), .v (.agg [.int .i64 p2, .int .i64 q2, .int .i64 r2, .int .i64 s2, .int .i64 t2, .int .i64 u2])] [] (fun v M => K v (M.take ([] : List Blk).length)) = lawTrackAlong K ⟨nm, ra, dec⟩ tk ⟨⟨p, q⟩, ⟨r, s⟩, ⟨t, u⟩⟩ ⟨⟨p2, q2⟩, ⟨r2, s2⟩, ⟨t2, u2⟩⟩ := by
  kernel_rfl
theorem c_fringelaw06_TrackAlong (nm : ByteArray) (ra dec tk : Int) (p q r s t u p2 q2 r2 s2 t2 u2 : Int) : CallsA Try.prog GT gbT 7 [.v (.agg [.str nm, .int .i64 ra, .int .i64 dec]), .v (.c (.d (.int .i64 tk))), .v (.agg [.int .i64 p, .int .i64 q, .int .i64 r, .int .i64 s, .int .i64 t, .int .i64 u]), .v (.agg [.int .i64 p2, .int .i64 q2, .int .i64 r2, .int .i64 s2, .int .i64 t2, .int .i64 u2])] [] (rB true) [] := by
  refine CallsA.ofOk fun hok => ?_
  have hw := w_fringelaw06_TrackAlong nm ra dec tk p q r s t u p2 q2 r2 s2 t2 u2 (fun v M => some (Res.fin v M))
  refine CallsA.ofEv (Γ := T_fringelaw06_alive) (X := XT) (Λ := noL) (EQ := EQT) (n := 120) g_fringelaw06_alive hEQT hmT (fun _ _ _ _ => noL_ok _) (hw.trans ?_)
  have h_ra := inR_i64 (hok (.int .i64 ra) (by simp [datasL, datas]))
  have h_dec := inR_i64 (hok (.int .i64 dec) (by simp [datasL, datas]))
  have h_tk := inR_i64 (hok (.int .i64 tk) (by simp [datasL, datas]))
  have h_p := inR_i64 (hok (.int .i64 p) (by simp [datasL, datas]))
  have h_q := inR_i64 (hok (.int .i64 q) (by simp [datasL, datas]))
  have h_r := inR_i64 (hok (.int .i64 r) (by simp [datasL, datas]))
  have h_s := inR_i64 (hok (.int .i64 s) (by simp [datasL, datas]))
  have h_t := inR_i64 (hok (.int .i64 t) (by simp [datasL, datas]))
  have h_u := inR_i64 (hok (.int .i64 u) (by simp [datasL, datas]))
  have h_p2 := inR_i64 (hok (.int .i64 p2) (by simp [datasL, datas]))
  have h_q2 := inR_i64 (hok (.int .i64 q2) (by simp [datasL, datas]))
  have h_r2 := inR_i64 (hok (.int .i64 r2) (by simp [datasL, datas]))
  have h_s2 := inR_i64 (hok (.int .i64 s2) (by simp [datasL, datas]))
  have h_t2 := inR_i64 (hok (.int .i64 t2) (by simp [datasL, datas]))
  have h_u2 := inR_i64 (hok (.int .i64 u2) (by simp [datasL, datas]))
  clear hok hw
  exact lawTrackAlong_ok (K := fun v M => some (Res.fin v M))
def s_fringelaw06_TrackAlong : List AV → List Blk → (AV → List Blk → Ans) → Ans := fun xs bs K => match xs, bs with
  | [.v (.agg [.str _, .int .i64 _, .int .i64 _]), .v (.c (.d (.int .i64 _))), .v (.agg [.int .i64 _, .int .i64 _, .int .i64 _, .int .i64 _, .int .i64 _, .int .i64 _]), .v (.agg [.int .i64 _, .int .i64 _, .int .i64 _, .int .i64 _, .int .i64 _, .int .i64 _])], [] => K (rB true) []
  | _, _ => none
def T_fringelaw06_TrackAlong : Nat → List AV → List Blk → (AV → List Blk → Ans) → Ans := upd T_fringelaw06_alive 7 s_fringelaw06_TrackAlong
theorem g_fringelaw06_TrackAlong : GOK Try.prog GT gbT T_fringelaw06_TrackAlong XT := by
  refine GOK.upd g_fringelaw06_alive (fun args w => Try.call7 args w) fun xs bs K r h => ?_
  unfold s_fringelaw06_TrackAlong at h
  split at h
  · exact ⟨_, _, c_fringelaw06_TrackAlong _ _ _ _ _ _ _ _ _ _ _ _ _ _ _ _, h⟩
  · cases h


end Go.Ev
