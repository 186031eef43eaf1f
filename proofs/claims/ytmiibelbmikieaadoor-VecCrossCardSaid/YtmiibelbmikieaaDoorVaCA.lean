/-
  Contracts of functions: what each returns. No condition beyond those of the statements.
-/
import Derived.Test.YtmiibelbmikieaaDoorVxCD
import Derived.Test.YtmiibelbmikieaaDoorVecCr
namespace Go.Ev
open Go Go.Proofs

set_option maxRecDepth 100000 in
/-- fringelaw02.VecCross -/
theorem w_fringelaw02_VecCross (v1 v2 v3 v4 v5 v6 w1 w2 w3 w4 w5 w6 u1 u2 u3 u4 u5 u6 : Int) (K : AV → List Blk → Ans) : evFn Tryd.prog GT EQT T_fringelaw02_small XT noL 120 4 [.v (.agg [.int .i64 v1, .int .i64 v2, .int .i64 v3, .int .i64 v4, .int .i64 v5, .int .i64 v6]), .v (.agg [.int .i64 w1, .int .i64 w2, .int .i64 w3, .int .i64 w4, .int .i64 w5, .int .i64 w6]), .v (.agg [.int .i64 u1, .int .i64 u2, .int .i64 u3, .int .i64 u4, .int .i64 u5, .int .i64 u6])] [] (fun v M => K v (M.take ([] : List Blk).length)) = lawVecCross K ⟨⟨v1, v2⟩, ⟨v3, v4⟩, ⟨v5, v6⟩⟩ ⟨⟨w1, w2⟩, ⟨w3, w4⟩, ⟨w5, w6⟩⟩ ⟨⟨u1, u2⟩, ⟨u3, u4⟩, ⟨u5, u6⟩⟩ := by
  kernel_rfl
set_option maxRecDepth 100000 in
theorem c_fringelaw02_VecCross (v1 v2 v3 v4 v5 v6 w1 w2 w3 w4 w5 w6 u1 u2 u3 u4 u5 u6 : Int) : CallsA Tryd.prog GT gbT 4 [.v (.agg [.int .i64 v1, .int .i64 v2, .int .i64 v3, .int .i64 v4, .int .i64 v5, .int .i64 v6]), .v (.agg [.int .i64 w1, .int .i64 w2, .int .i64 w3, .int .i64 w4, .int .i64 w5, .int .i64 w6]), .v (.agg [.int .i64 u1, .int .i64 u2, .int .i64 u3, .int .i64 u4, .int .i64 u5, .int .i64 u6])] [] (rB true) [] := by
  refine CallsA.ofOk fun hok => ?_
  have hw := w_fringelaw02_VecCross v1 v2 v3 v4 v5 v6 w1 w2 w3 w4 w5 w6 u1 u2 u3 u4 u5 u6 (fun v M => some (Res.fin v M))
  refine CallsA.ofEv (Γ := T_fringelaw02_small) (X := XT) (Λ := noL) (EQ := EQT) (n := 120) g_fringelaw02_small hEQT hmT (fun _ _ _ _ => noL_ok _) (hw.trans ?_)
  have h_v1 := inR_i64 (hok (.int .i64 v1) (by simp [datasL, datas]))
  have h_v2 := inR_i64 (hok (.int .i64 v2) (by simp [datasL, datas]))
  have h_v3 := inR_i64 (hok (.int .i64 v3) (by simp [datasL, datas]))
  have h_v4 := inR_i64 (hok (.int .i64 v4) (by simp [datasL, datas]))
  have h_v5 := inR_i64 (hok (.int .i64 v5) (by simp [datasL, datas]))
  have h_v6 := inR_i64 (hok (.int .i64 v6) (by simp [datasL, datas]))
  have h_w1 := inR_i64 (hok (.int .i64 w1) (by simp [datasL, datas]))
  have h_w2 := inR_i64 (hok (.int .i64 w2) (by simp [datasL, datas]))
  have h_w3 := inR_i64 (hok (.int .i64 w3) (by simp [datasL, datas]))
  have h_w4 := inR_i64 (hok (.int .i64 w4) (by simp [datasL, datas]))
  have h_w5 := inR_i64 (hok (.int .i64 w5) (by simp [datasL, datas]))
  have h_w6 := inR_i64 (hok (.int .i64 w6) (by simp [datasL, datas]))
  have h_u1 := inR_i64 (hok (.int .i64 u1) (by simp [datasL, datas]))
  have h_u2 := inR_i64 (hok (.int .i64 u2) (by simp [datasL, datas]))
  have h_u3 := inR_i64 (hok (.int .i64 u3) (by simp [datasL, datas]))
  have h_u4 := inR_i64 (hok (.int .i64 u4) (by simp [datasL, datas]))
  have h_u5 := inR_i64 (hok (.int .i64 u5) (by simp [datasL, datas]))
  have h_u6 := inR_i64 (hok (.int .i64 u6) (by simp [datasL, datas]))
  clear hok hw
  exact lawVecCross_ok (K := fun v M => some (Res.fin v M))

end Go.Ev
