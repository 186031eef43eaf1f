/-
  Contracts of functions: what each returns. No condition beyond those of the statements.
-/
import Derived.Test.YtckjflbbilideaaDoorGyCD
import Derived.Test.YtckjflbbilideaaDoorGeoP
namespace Go.Ev
open Go Go.Proofs

set_option maxRecDepth 100000 in
/-- fringelaw03.GeoidNames -/
theorem w_fringelaw03_GeoidNames (K : AV → List Blk → Ans) : evFn Tryd.prog GT EQT (inl Tryd.prog GT EQT XT [19] T_fringelaw03_alive 150 2) XT noL 150 4 [] [] (fun v M => K v (M.take ([] : List Blk).length)) = K (rB true) [] := by
  kernel_rfl
set_option maxRecDepth 100000 in
theorem c_fringelaw03_GeoidNames : CallsA Tryd.prog GT gbT 4 [] [] (rB true) [] := by
  refine CallsA.ofOk fun hok => ?_
  have hw := w_fringelaw03_GeoidNames (fun v M => some (Res.fin v M))
  refine CallsA.ofEv (Γ := (inl Tryd.prog GT EQT XT [19] T_fringelaw03_alive 150 2)) (X := XT) (Λ := noL) (EQ := EQT) (n := 150) (g_fringelaw03_alive.inl hEQT hmT (fun f hf => by simp only [List.mem_cons, List.not_mem_nil, or_false] at hf; subst hf; exact (fun args w => Tryd.call19 args w)) 150 2) hEQT hmT (fun _ _ _ _ => noL_ok _) (hw.trans ?_)
  rfl

end Go.Ev
