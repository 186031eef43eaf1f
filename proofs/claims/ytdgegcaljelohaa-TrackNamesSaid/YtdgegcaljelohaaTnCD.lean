/-
  Contracts of functions: what each returns. No condition beyond those of the statements.
-/
import Derived.Test.YtdgegcaljelohaaTnCC
namespace Go.Ev
open Go Go.Proofs

set_option maxRecDepth 100000 in
/-- track.Apart -/
theorem w_track_Apart (nm : ByteArray) (ra dec : Int) (nm2 : ByteArray) (ra2 dec2 : Int) (K : AV → List Blk → Ans) : evFn Try.prog GT EQT (inl Try.prog GT EQT XT [35, 50] T_track_Dot 120 2) XT noL 120 19 [.v (.agg [.str nm, .int .i64 ra, .int .i64 dec]), .v (.agg [.str nm2, .int .i64 ra2, .int .i64 dec2])] [] (fun v M => K v (M.take ([] : List Blk).length)) = apartAns K ⟨nm, ra, dec⟩ ⟨nm2, ra2, dec2⟩ := by
  kernel_rfl
theorem c_track_Apart (nm : ByteArray) (ra dec : Int) (nm2 : ByteArray) (ra2 dec2 : Int) : CallsA Try.prog GT gbT 19 [.v (.agg [.str nm, .int .i64 ra, .int .i64 dec]), .v (.agg [.str nm2, .int .i64 ra2, .int .i64 dec2])] [] (rSpanE (apartS ⟨nm, ra, dec⟩ ⟨nm2, ra2, dec2⟩)) [] := by
  refine CallsA.ofOk fun hok => ?_
  have hw := w_track_Apart nm ra dec nm2 ra2 dec2 (fun v M => some (Res.fin v M))
  refine CallsA.ofEv (Γ := (inl Try.prog GT EQT XT [35, 50] T_track_Dot 120 2)) (X := XT) (Λ := noL) (EQ := EQT) (n := 120) (g_track_Dot.inl hEQT hmT (fun f hf => by simp only [List.mem_cons, List.not_mem_nil, or_false] at hf; rcases hf with rfl | rfl <;> first | exact (fun args w => Try.call35 args w) | exact (fun args w => Try.call50 args w)) 120 2) hEQT hmT (fun _ _ _ _ => noL_ok _) (hw.trans ?_)
  have h_ra := inR_i64 (hok (.int .i64 ra) (by simp [datasL, datas]))
  have h_dec := inR_i64 (hok (.int .i64 dec) (by simp [datasL, datas]))
  have h_ra2 := inR_i64 (hok (.int .i64 ra2) (by simp [datasL, datas]))
  have h_dec2 := inR_i64 (hok (.int .i64 dec2) (by simp [datasL, datas]))
  clear hok hw
  exact apartAns_ok (K := fun v M => some (Res.fin v M))
def s_track_Apart : List AV → List Blk → (AV → List Blk → Ans) → Ans := fun xs bs K => match xs, bs with
  | [.v (.agg [.str nm, .int .i64 ra, .int .i64 dec]), .v (.agg [.str nm2, .int .i64 ra2, .int .i64 dec2])], [] => K (rSpanE (apartS ⟨nm, ra, dec⟩ ⟨nm2, ra2, dec2⟩)) []
  | _, _ => none
def T_track_Apart : Nat → List AV → List Blk → (AV → List Blk → Ans) → Ans := upd T_track_Dot 19 s_track_Apart
theorem g_track_Apart : GOK Try.prog GT gbT T_track_Apart XT := by
  refine GOK.upd g_track_Dot (fun args w => Try.call19 args w) fun xs bs K r h => ?_
  unfold s_track_Apart at h
  split at h
  · exact ⟨_, _, c_track_Apart _ _ _ _ _ _, h⟩
  · cases h


set_option maxRecDepth 100000 in
/-- fringelaw06.alive -/
theorem w_fringelaw06_alive (K : AV → List Blk → Ans) : evFn Try.prog GT EQT (inl Try.prog GT EQT XT [22, 23] T_track_Apart 60 2) XT noL 60 17 [] [] (fun v M => K v (M.take ([] : List Blk).length)) = K (rB true) [] := by
  kernel_rfl
theorem c_fringelaw06_alive : CallsA Try.prog GT gbT 17 [] [] (rB true) [] := by
  refine CallsA.ofOk fun hok => ?_
  have hw := w_fringelaw06_alive (fun v M => some (Res.fin v M))
  refine CallsA.ofEv (Γ := (inl Try.prog GT EQT XT [22, 23] T_track_Apart 60 2)) (X := XT) (Λ := noL) (EQ := EQT) (n := 60) (g_track_Apart.inl hEQT hmT (fun f hf => by simp only [List.mem_cons, List.not_mem_nil, or_false] at hf; rcases hf with rfl | rfl <;> first | exact (fun args w => Try.call22 args w) | exact (fun args w => Try.call23 args w)) 60 2) hEQT hmT (fun _ _ _ _ => noL_ok _) (hw.trans ?_)
  rfl
def s_fringelaw06_alive : List AV → List Blk → (AV → List Blk → Ans) → Ans := fun xs bs K => match xs, bs with
  | [], [] => K (rB true) []
  | _, _ => none
def T_fringelaw06_alive : Nat → List AV → List Blk → (AV → List Blk → Ans) → Ans := upd T_track_Apart 17 s_fringelaw06_alive
theorem g_fringelaw06_alive : GOK Try.prog GT gbT T_fringelaw06_alive XT := by
  refine GOK.upd g_track_Apart (fun args w => Try.call17 args w) fun xs bs K r h => ?_
  unfold s_fringelaw06_alive at h
  split at h
  · exact ⟨_, _, c_fringelaw06_alive, h⟩
  · cases h


set_option maxRecDepth 100000 in
/-- fringelaw06.TrackNames -/
theorem w_fringelaw06_TrackNames (K : AV → List Blk → Ans) : evFn Try.prog GT EQT (inl Try.prog GT EQT XT [22, 23, 11, 28, 24, 34, 38, 57, 35, 50] T_fringelaw06_alive 160 3) XT noL 160 6 [] [] (fun v M => K v (M.take ([] : List Blk).length)) = K (rB true) [] := by
  kernel_rfl
theorem c_fringelaw06_TrackNames : CallsA Try.prog GT gbT 6 [] [] (rB true) [] := by
  refine CallsA.ofOk fun hok => ?_
  have hw := w_fringelaw06_TrackNames (fun v M => some (Res.fin v M))
  refine CallsA.ofEv (Γ := (inl Try.prog GT EQT XT [22, 23, 11, 28, 24, 34, 38, 57, 35, 50] T_fringelaw06_alive 160 3)) (X := XT) (Λ := noL) (EQ := EQT) (n := 160) (g_fringelaw06_alive.inl hEQT hmT (fun f hf => by simp only [List.mem_cons, List.not_mem_nil, or_false] at hf; rcases hf with rfl | rfl | rfl | rfl | rfl | rfl | rfl | rfl | rfl | rfl <;> first | exact (fun args w => Try.call22 args w) | exact (fun args w => Try.call23 args w) | exact (fun args w => Try.call11 args w) | exact (fun args w => Try.call28 args w) | exact (fun args w => Try.call24 args w) | exact (fun args w => Try.call34 args w) | exact (fun args w => Try.call38 args w) | exact (fun args w => Try.call57 args w) | exact (fun args w => Try.call35 args w) | exact (fun args w => Try.call50 args w)) 160 3) hEQT hmT (fun _ _ _ _ => noL_ok _) (hw.trans ?_)
  rfl
def s_fringelaw06_TrackNames : List AV → List Blk → (AV → List Blk → Ans) → Ans := fun xs bs K => match xs, bs with
  | [], [] => K (rB true) []
  | _, _ => none
def T_fringelaw06_TrackNames : Nat → List AV → List Blk → (AV → List Blk → Ans) → Ans := upd T_fringelaw06_alive 6 s_fringelaw06_TrackNames
theorem g_fringelaw06_TrackNames : GOK Try.prog GT gbT T_fringelaw06_TrackNames XT := by
  refine GOK.upd g_fringelaw06_alive (fun args w => Try.call6 args w) fun xs bs K r h => ?_
  unfold s_fringelaw06_TrackNames at h
  split at h
  · exact ⟨_, _, c_fringelaw06_TrackNames, h⟩
  · cases h


end Go.Ev
