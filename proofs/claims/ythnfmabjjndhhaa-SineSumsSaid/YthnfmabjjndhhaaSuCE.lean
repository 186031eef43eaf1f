/-
  Contracts of functions: what each returns. No condition beyond those of the statements.
-/
import Derived.Test.YthnfmabjjndhhaaSuCD
namespace Go.Ev
open Go Go.Proofs

set_option maxRecDepth 100000 in
/-- fringelaw05.SineSums -/
theorem w_fringelaw05_SineSums (k l n : Int) (K : AV → List Blk → Ans) : evFn Try.prog GT EQT T_fringelaw05_common XT noL 120 6 [.v (.c (.d (.int .i64 k))), .v (.c (.d (.int .i64 l))), .v (.c (.d (.int .i64 n)))] [] (fun v M => K v (M.take ([] : List Blk).length)) = lawSineSums K k l n := by
  kernel_rfl
theorem c_fringelaw05_SineSums (k l n : Int) : CallsA Try.prog GT gbT 6 [.v (.c (.d (.int .i64 k))), .v (.c (.d (.int .i64 l))), .v (.c (.d (.int .i64 n)))] [] (rB true) [] := by
  refine CallsA.ofOk fun hok => ?_
  have hw := w_fringelaw05_SineSums k l n (fun v M => some (Res.fin v M))
  refine CallsA.ofEv (Γ := T_fringelaw05_common) (X := XT) (Λ := noL) (EQ := EQT) (n := 120) g_fringelaw05_common hEQT hmT (fun _ _ _ _ => noL_ok _) (hw.trans ?_)
  have h_k := inR_i64 (hok (.int .i64 k) (by simp [datasL, datas]))
  have h_l := inR_i64 (hok (.int .i64 l) (by simp [datasL, datas]))
  have h_n := inR_i64 (hok (.int .i64 n) (by simp [datasL, datas]))
  clear hok hw
  exact lawSineSums_ok (K := fun v M => some (Res.fin v M))
def s_fringelaw05_SineSums : List AV → List Blk → (AV → List Blk → Ans) → Ans := fun xs bs K => match xs, bs with
  | [.v (.c (.d (.int .i64 _))), .v (.c (.d (.int .i64 _))), .v (.c (.d (.int .i64 _)))], [] => K (rB true) []
  | _, _ => none
def T_fringelaw05_SineSums : Nat → List AV → List Blk → (AV → List Blk → Ans) → Ans := upd T_fringelaw05_common 6 s_fringelaw05_SineSums
theorem g_fringelaw05_SineSums : GOK Try.prog GT gbT T_fringelaw05_SineSums XT := by
  refine GOK.upd g_fringelaw05_common (fun args w => Try.call6 args w) fun xs bs K r h => ?_
  unfold s_fringelaw05_SineSums at h
  split at h
  · exact ⟨_, _, c_fringelaw05_SineSums _ _ _, h⟩
  · cases h


end Go.Ev
