/-
  Contracts of functions: what each returns. No condition beyond those of the statements.
-/
import Derived.Test.YtckjflbbilideaaDoorGxCD
import Derived.Test.YtckjflbbilideaaDoorGeoP
namespace Go.Ev
open Go Go.Proofs

set_option maxRecDepth 100000 in
/-- fringelaw03.GeoidTurned -/
theorem w_fringelaw03_GeoidTurned (g1 g2 s1 s2 t1 t2 w1 w2 q1 q2 q3 q4 q5 q6 : Int) (K : AV → List Blk → Ans) : evFn Tryd.prog GT EQT T_fringelaw03_alive XT noL 150 9 [.v (.agg [.int .i64 g1, .int .i64 g2]), .v (.agg [.int .i64 s1, .int .i64 s2]), .v (.agg [.int .i64 t1, .int .i64 t2]), .v (.agg [.int .i64 w1, .int .i64 w2]), .v (.agg [.int .i64 q1, .int .i64 q2, .int .i64 q3, .int .i64 q4, .int .i64 q5, .int .i64 q6])] [] (fun v M => K v (M.take ([] : List Blk).length)) = lawGeoidTurned K ⟨g1, g2⟩ ⟨s1, s2⟩ ⟨t1, t2⟩ ⟨w1, w2⟩ ⟨⟨q1, q2⟩, ⟨q3, q4⟩, ⟨q5, q6⟩⟩ := by
  kernel_rfl
set_option maxRecDepth 100000 in
theorem c_fringelaw03_GeoidTurned (g1 g2 s1 s2 t1 t2 w1 w2 q1 q2 q3 q4 q5 q6 : Int) : CallsA Tryd.prog GT gbT 9 [.v (.agg [.int .i64 g1, .int .i64 g2]), .v (.agg [.int .i64 s1, .int .i64 s2]), .v (.agg [.int .i64 t1, .int .i64 t2]), .v (.agg [.int .i64 w1, .int .i64 w2]), .v (.agg [.int .i64 q1, .int .i64 q2, .int .i64 q3, .int .i64 q4, .int .i64 q5, .int .i64 q6])] [] (rB true) [] := by
  refine CallsA.ofOk fun hok => ?_
  have hw := w_fringelaw03_GeoidTurned g1 g2 s1 s2 t1 t2 w1 w2 q1 q2 q3 q4 q5 q6 (fun v M => some (Res.fin v M))
  refine CallsA.ofEv (Γ := T_fringelaw03_alive) (X := XT) (Λ := noL) (EQ := EQT) (n := 150) g_fringelaw03_alive hEQT hmT (fun _ _ _ _ => noL_ok _) (hw.trans ?_)
  have h_g1 := inR_i64 (hok (.int .i64 g1) (by simp [datasL, datas]))
  have h_g2 := inR_i64 (hok (.int .i64 g2) (by simp [datasL, datas]))
  have h_s1 := inR_i64 (hok (.int .i64 s1) (by simp [datasL, datas]))
  have h_s2 := inR_i64 (hok (.int .i64 s2) (by simp [datasL, datas]))
  have h_t1 := inR_i64 (hok (.int .i64 t1) (by simp [datasL, datas]))
  have h_t2 := inR_i64 (hok (.int .i64 t2) (by simp [datasL, datas]))
  have h_w1 := inR_i64 (hok (.int .i64 w1) (by simp [datasL, datas]))
  have h_w2 := inR_i64 (hok (.int .i64 w2) (by simp [datasL, datas]))
  have h_q1 := inR_i64 (hok (.int .i64 q1) (by simp [datasL, datas]))
  have h_q2 := inR_i64 (hok (.int .i64 q2) (by simp [datasL, datas]))
  have h_q3 := inR_i64 (hok (.int .i64 q3) (by simp [datasL, datas]))
  have h_q4 := inR_i64 (hok (.int .i64 q4) (by simp [datasL, datas]))
  have h_q5 := inR_i64 (hok (.int .i64 q5) (by simp [datasL, datas]))
  have h_q6 := inR_i64 (hok (.int .i64 q6) (by simp [datasL, datas]))
  clear hok hw
  exact lawGeoidTurned_ok (K := fun v M => some (Res.fin v M))

end Go.Ev
