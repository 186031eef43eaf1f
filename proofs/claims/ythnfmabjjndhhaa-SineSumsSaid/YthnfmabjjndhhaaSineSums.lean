/-
  SineSums: the theorems of sums of angles hold for the enclosures of cosines and sines, for any numbers. No condition.
-/
import Derived.Test.YthnfmabjjndhhaaSuCE
import Derived.Test.YthnfmabjjndhhaaRows
import Derived.WalkKit
import Derived.ProofKit
import Derived.OpenShut
import Derived.ShutString
import Derived.ChangeOld
import Derived.Below
namespace Go.Ev
open Go Go.Proofs

theorem true_SineSums (x0 : Int) (x1 : Int) (x2 : Int) (_ : IntKind.i64.has x0) (_ : IntKind.i64.has x1) (_ : IntKind.i64.has x2) (K : AV → List Blk → Ans) :
    T_fringelaw05_SineSums 6 [aint .i64 x0, aint .i64 x1, aint .i64 x2] [] K = K (abool true) [] := by
  rfl

end Go.Ev

namespace Go.Proofs.Ythnfmabjjndhhaa.sineSums
open Go.ChangeShapes Go.WideShapes Go.ChangeAt Go.RowKit Go.Ev
open Go.ChangeMaps (open_string shut_string)

theorem own : ownKnob Try.prog.godebug = none := by kernel_rfl
theorem laidOut : laidOutB Try.prog = true := by kernel_rfl

/-- The Go function returns true and turns nothing that was there. -/
theorem walk (x0 : Int) (x1 : Int) (x2 : Int) (w : World) (h0 : IntKind.i64.has x0) (h1 : IntKind.i64.has x1) (h2 : IntKind.i64.has x2) :
    Calls Try.prog 6 #[.int .i64 x0, .int .i64 x1, .int .i64 x2] w fun e w' => e = .returned (.bool true) ∧ Below w.heap.size w w' := by
  have ht : T_fringelaw05_SineSums 6 [aint .i64 x0, aint .i64 x1, aint .i64 x2] [] (fun v M => some (.fin v M)) = some (.fin (abool true) []) := true_SineSums x0 x1 x2 h0 h1 h2 (fun v M => some (.fin v M))
  obtain ⟨v, M, _, hc, hk⟩ := g_fringelaw05_SineSums.call 6 _ _ _ _ ht
  cases hk
  exact hc.law (σ := fun _ => none) ⟨⟨rfl, inR_iff.2 h0⟩, ⟨rfl, inR_iff.2 h1⟩, ⟨rfl, inR_iff.2 h2⟩, trivial⟩ (MRel.none w) (Glob.none _ w) (fun _ _ => rfl) (fun _ _ _ h => by cases h)

set_option maxRecDepth 100000 in
theorem lifted (os : Os) (started : os.Started) (H : Type) (enc : TypeId × Value → H) :
    ReturnsInHanded {} Try.checked os 6 .any (Rows.sineSumsSpec.pre6 enc Try.prog Try.f6 Rows.sineSumsRow.domain false) (Rows.sineSumsSpec.post enc Try.prog Try.f6 false true false false) := by
  refine returnsInHanded_of_change (C := Try.checked) own started (by kernel_rfl) Try.func6
    (ChangeSpec.witness6 (enc := enc) (C := Try.checked) false ⟨#[], #[.int .i64 0, .int .i64 0, .int .i64 0], []⟩ 8 (by kernel_rfl) (by kernel_rfl) (by kernel_rfl) (by kernel_rfl)) ?_
  intro W base args ds gs before hval0 hW hcnd _
  have hval : ∀ (j : Nat) t v, Try.f6.params[j]? = some t → args[j]? = some v → Value.okWide Try.prog W .any base t v := hval0
  have hW' := hW
  obtain ⟨p, q, hA0, hV, rfl, hfz, hnd⟩ := hW
  have hA : DataW.TrodAll enc Try.prog W 0 (fun _ => true) true Try.f6.params.toList args.toList ds p := hA0
  rw [Try.params6] at hA hval
  obtain ⟨v0, vs0, d0, ds0, p0, q0, hargs, rfl, rfl, h0, r0⟩ := trodAll_cons hA
  obtain ⟨v1, vs1, d1, ds1, p1, q1, rfl, rfl, rfl, h1, r1⟩ := trodAll_cons r0
  obtain ⟨v2, vs2, d2, ds2, p2, q2, rfl, rfl, rfl, h2, r2⟩ := trodAll_cons r1
  obtain ⟨rfl, rfl, rfl⟩ := trodAll_nil r2
  obtain rfl : args = #[v0, v1, v2] := by cases args; simp_all
  obtain ⟨rfl, rfl⟩ := trodVars_none hV
  have lt0 : ∀ x ∈ p0, x.block < W.heap.size := by obtain ⟨m, hm⟩ := h0; exact DataW.trod_lt m _ _ _ hm
  have lt1 : ∀ x ∈ p1, x.block < W.heap.size := by obtain ⟨m, hm⟩ := h1; exact DataW.trod_lt m _ _ _ hm
  have lt2 : ∀ x ∈ p2, x.block < W.heap.size := by obtain ⟨m, hm⟩ := h2; exact DataW.trod_lt m _ _ _ hm
  obtain ⟨x0, rfl, w0⟩ := cell_int (P := Try.prog) Try.underlying3 (arg_cell (by kernel_rfl) (hval 0 3 v0 rfl rfl))
  obtain ⟨x1, rfl, w1⟩ := cell_int (P := Try.prog) Try.underlying3 (arg_cell (by kernel_rfl) (hval 1 3 v1 rfl rfl))
  obtain ⟨x2, rfl, w2⟩ := cell_int (P := Try.prog) Try.underlying3 (arg_cell (by kernel_rfl) (hval 2 3 v2 rfl rfl))
  clear hA0 hval0
  refine (walk x0 x1 x2 W w0 w1 w2).mono fun e W' ⟨he, bel⟩ => ?_
  subst he
  exact ⟨_, rfl, _, _, _, [], _, [], hW', trodAll_mk1 (shut_bool Try.underlying4 _), (trodAll_cons_mk (Below.trod laidOut (by kernel_rfl) (of_decide_eq_true (by kernel_rfl)) h0 bel lt0) (trodAll_cons_mk (Below.trod laidOut (by kernel_rfl) (of_decide_eq_true (by kernel_rfl)) h1 bel lt1) (trodAll_cons_mk (Below.trod laidOut (by kernel_rfl) (of_decide_eq_true (by kernel_rfl)) h2 bel lt2) trodAll_mk0))), rfl, bel.frame _, fun h => by cases h⟩

theorem over : Rows.sineSumsRow.holds Try.pinned (OpenSpec.ofChange Rows.sineSumsSpec) :=
  OpenClaim.holds_of_wide 6 Try.f6 rfl rfl rfl rfl rfl rfl rfl ⟨rfl, rfl, rfl, rfl, rfl⟩ rfl rfl rfl rfl rfl (by kernel_rfl) Try.func6 (by kernel_rfl)
    (of_decide_eq_true (by kernel_rfl)) (by unfold Func.isWrapper; first | (rw [if_pos (by decide +kernel)]; kernel_rfl) | (rw [if_neg (by decide +kernel)]; exact ⟨rfl, rfl⟩))
    (fun os started H enc _ => lifted os started H enc)

theorem proved : Rows.SineSumsSaid := over
#print axioms proved
end Go.Proofs.Ythnfmabjjndhhaa.sineSums
