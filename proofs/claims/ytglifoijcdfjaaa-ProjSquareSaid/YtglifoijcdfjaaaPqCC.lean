/-
  Contracts of functions: what each returns. No condition beyond those of the statements.
-/
import Derived.Test.YtglifoijcdfjaaaPqCB
namespace Go.Ev
open Go Go.Proofs

set_option maxRecDepth 100000 in
/-- fringelaw08.alive -/
theorem w_fringelaw08_alive (K : AV → List Blk → Ans) : evFn Try.prog GT EQT (inl Try.prog GT EQT XT [14, 13] T_fringelaw08_fit 150 2) XT noL 150 5 [] [] (fun v M => K v (M.take ([] : List Blk).length)) = K (rB true) [] := by
  kernel_rfl
set_option maxRecDepth 100000 in
theorem c_fringelaw08_alive : CallsA Try.prog GT gbT 5 [] [] (rB true) [] := by
  refine CallsA.ofOk fun hok => ?_
  have hw := w_fringelaw08_alive (fun v M => some (Res.fin v M))
  refine CallsA.ofEv (Γ := (inl Try.prog GT EQT XT [14, 13] T_fringelaw08_fit 150 2)) (X := XT) (Λ := noL) (EQ := EQT) (n := 150) (g_fringelaw08_fit.inl hEQT hmT (fun f hf => by simp only [List.mem_cons, List.not_mem_nil, or_false] at hf; rcases hf with rfl | rfl <;> first | exact (fun args w => Try.call14 args w) | exact (fun args w => Try.call13 args w)) 150 2) hEQT hmT (fun _ _ _ _ => noL_ok _) (hw.trans ?_)
  rfl
def s_fringelaw08_alive : List AV → List Blk → (AV → List Blk → Ans) → Ans := fun xs bs K => match xs, bs with
  | [], [] => K (rB true) []
  | _, _ => none
def T_fringelaw08_alive : Nat → List AV → List Blk → (AV → List Blk → Ans) → Ans := upd T_fringelaw08_fit 5 s_fringelaw08_alive
theorem g_fringelaw08_alive : GOK Try.prog GT gbT T_fringelaw08_alive XT := by
  refine GOK.upd g_fringelaw08_fit (fun args w => Try.call5 args w) fun xs bs K r h => ?_
  unfold s_fringelaw08_alive at h
  split at h
  · exact ⟨_, _, c_fringelaw08_alive, h⟩
  · cases h


set_option maxRecDepth 100000 in
/-- fringelaw08.ProjSquare -/
theorem w_fringelaw08_ProjSquare (s1 : ByteArray) (s2 : Int) (s3 : Int) (t : Int) (K : AV → List Blk → Ans) : evFn Try.prog GT EQT T_fringelaw08_alive XT noL 200 3 [.v (.agg [.str s1, .int .i64 s2, .int .i64 s3]), .v (.c (.d (.int .i64 t)))] [] (fun v M => K v (M.take ([] : List Blk).length)) = lawProjSquare K ⟨s1, s2, s3⟩ t := by
  kernel_rfl
set_option maxRecDepth 100000 in
theorem c_fringelaw08_ProjSquare (s1 : ByteArray) (s2 : Int) (s3 : Int) (t : Int) : CallsA Try.prog GT gbT 3 [.v (.agg [.str s1, .int .i64 s2, .int .i64 s3]), .v (.c (.d (.int .i64 t)))] [] (rB true) [] := by
  refine CallsA.ofOk fun hok => ?_
  have hw := w_fringelaw08_ProjSquare s1 s2 s3 t (fun v M => some (Res.fin v M))
  refine CallsA.ofEv (Γ := T_fringelaw08_alive) (X := XT) (Λ := noL) (EQ := EQT) (n := 200) g_fringelaw08_alive hEQT hmT (fun _ _ _ _ => noL_ok _) (hw.trans ?_)
  have h_s2 := inR_i64 (hok (.int .i64 s2) (by simp [datasL, datas]))
  have h_s3 := inR_i64 (hok (.int .i64 s3) (by simp [datasL, datas]))
  have h_t := inR_i64 (hok (.int .i64 t) (by simp [datasL, datas]))
  clear hok hw
  exact lawProjSquare_ok (K := fun v M => some (Res.fin v M))

end Go.Ev
