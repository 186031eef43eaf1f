/-
  Contracts of functions: what each returns. No condition beyond those of the statements.
-/
import Derived.Test.YtmiibelbmikieaaDoorVxCD
import Derived.Test.YtmiibelbmikieaaDoorVecGr
namespace Go.Ev
open Go Go.Proofs

set_option maxRecDepth 100000 in
/-- fringelaw02.VecNames -/
theorem w_fringelaw02_VecNames (K : AV → List Blk → Ans) : evFn Tryd.prog GT EQT T_fringelaw02_small XT noL 150 8 [] [] (fun v M => K v (M.take ([] : List Blk).length)) = K (rB true) [] := by
  kernel_rfl
set_option maxRecDepth 100000 in
theorem c_fringelaw02_VecNames : CallsA Tryd.prog GT gbT 8 [] [] (rB true) [] := by
  refine CallsA.ofOk fun hok => ?_
  have hw := w_fringelaw02_VecNames (fun v M => some (Res.fin v M))
  refine CallsA.ofEv (Γ := T_fringelaw02_small) (X := XT) (Λ := noL) (EQ := EQT) (n := 150) g_fringelaw02_small hEQT hmT (fun _ _ _ _ => noL_ok _) (hw.trans ?_)
  rfl

end Go.Ev
