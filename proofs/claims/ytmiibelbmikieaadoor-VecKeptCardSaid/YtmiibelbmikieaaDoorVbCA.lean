/-
  Contracts of functions: what each returns. No condition beyond those of the statements.
-/
import Derived.Test.YtmiibelbmikieaaDoorVxCD
import Derived.Test.YtmiibelbmikieaaDoorVecKe
namespace Go.Ev
open Go Go.Proofs

set_option maxRecDepth 100000 in
/-- fringelaw02.VecKept -/
theorem w_fringelaw02_VecKept (v1 v2 v3 v4 v5 v6 w1 w2 w3 w4 w5 w6 x t1 t2 : Int) (K : AV → List Blk → Ans) : evFn Tryd.prog GT EQT T_fringelaw02_small XT noL 120 6 [.v (.agg [.int .i64 v1, .int .i64 v2, .int .i64 v3, .int .i64 v4, .int .i64 v5, .int .i64 v6]), .v (.agg [.int .i64 w1, .int .i64 w2, .int .i64 w3, .int .i64 w4, .int .i64 w5, .int .i64 w6]), .v (.c (.d (.int .i64 x))), .v (.agg [.int .i64 t1, .int .i64 t2])] [] (fun v M => K v (M.take ([] : List Blk).length)) = lawVecKept K ⟨⟨v1, v2⟩, ⟨v3, v4⟩, ⟨v5, v6⟩⟩ ⟨⟨w1, w2⟩, ⟨w3, w4⟩, ⟨w5, w6⟩⟩ x ⟨t1, t2⟩ := by
  kernel_rfl
set_option maxRecDepth 100000 in
theorem c_fringelaw02_VecKept (v1 v2 v3 v4 v5 v6 w1 w2 w3 w4 w5 w6 x t1 t2 : Int) : CallsA Tryd.prog GT gbT 6 [.v (.agg [.int .i64 v1, .int .i64 v2, .int .i64 v3, .int .i64 v4, .int .i64 v5, .int .i64 v6]), .v (.agg [.int .i64 w1, .int .i64 w2, .int .i64 w3, .int .i64 w4, .int .i64 w5, .int .i64 w6]), .v (.c (.d (.int .i64 x))), .v (.agg [.int .i64 t1, .int .i64 t2])] [] (rB true) [] := by
  refine CallsA.ofOk fun hok => ?_
  have hw := w_fringelaw02_VecKept v1 v2 v3 v4 v5 v6 w1 w2 w3 w4 w5 w6 x t1 t2 (fun v M => some (Res.fin v M))
  refine CallsA.ofEv (Γ := T_fringelaw02_small) (X := XT) (Λ := noL) (EQ := EQT) (n := 120) g_fringelaw02_small hEQT hmT (fun _ _ _ _ => noL_ok _) (hw.trans ?_)
  have h_v1 := inR_i64 (hok (.int .i64 v1) (by simp [datasL, datas]))
  have h_v2 := inR_i64 (hok (.int .i64 v2) (by simp [datasL, datas]))
  have h_v3 := inR_i64 (hok (.int .i64 v3) (by simp [datasL, datas]))
  have h_v4 := inR_i64 (hok (.int .i64 v4) (by simp [datasL, datas]))
  have h_v5 := inR_i64 (hok (.int .i64 v5) (by simp [datasL, datas]))
  have h_v6 := inR_i64 (hok (.int .i64 v6) (by simp [datasL, datas]))
  have h_w1 := inR_i64 (hok (.int .i64 w1) (by simp [datasL, datas]))
  have h_w2 := inR_i64 (hok (.int .i64 w2) (by simp [datasL, datas]))
  have h_w3 := inR_i64 (hok (.int .i64 w3) (by simp [datasL, datas]))
  have h_w4 := inR_i64 (hok (.int .i64 w4) (by simp [datasL, datas]))
  have h_w5 := inR_i64 (hok (.int .i64 w5) (by simp [datasL, datas]))
  have h_w6 := inR_i64 (hok (.int .i64 w6) (by simp [datasL, datas]))
  have h_x := inR_i64 (hok (.int .i64 x) (by simp [datasL, datas]))
  have h_t1 := inR_i64 (hok (.int .i64 t1) (by simp [datasL, datas]))
  have h_t2 := inR_i64 (hok (.int .i64 t2) (by simp [datasL, datas]))
  clear hok hw
  exact lawVecKept_ok (K := fun v M => some (Res.fin v M))

end Go.Ev
