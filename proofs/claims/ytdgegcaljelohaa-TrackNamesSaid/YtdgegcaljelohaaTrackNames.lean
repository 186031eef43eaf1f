/-
  TrackNames: the chapter's examples, limits, paths and errors hold. No condition.
-/
import Derived.Test.YtdgegcaljelohaaTnCD
import Derived.Test.YtdgegcaljelohaaRows
import Derived.WalkKit
import Derived.ProofKit
import Derived.OpenShut
import Derived.ShutString
import Derived.ChangeOld
import Derived.Below
namespace Go.Ev
open Go Go.Proofs

theorem true_TrackNames   (K : AV → List Blk → Ans) :
    T_fringelaw06_TrackNames 6 [] [] K = K (abool true) [] := by
  rfl

end Go.Ev

namespace Go.Proofs.Ytdgegcaljelohaa.trackNames
open Go.ChangeShapes Go.WideShapes Go.ChangeAt Go.RowKit Go.Ev
open Go.ChangeMaps (open_string shut_string)

theorem own : ownKnob Try.prog.godebug = none := by kernel_rfl
theorem laidOut : laidOutB Try.prog = true := by kernel_rfl

/-- The Go function returns true and turns nothing that was there. -/
theorem walk  (w : World)  :
    Calls Try.prog 6 #[] w fun e w' => e = .returned (.bool true) ∧ Below w.heap.size w w' := by
  have ht : T_fringelaw06_TrackNames 6 [] [] (fun v M => some (.fin v M)) = some (.fin (abool true) []) := true_TrackNames  (fun v M => some (.fin v M))
  obtain ⟨v, M, _, hc, hk⟩ := g_fringelaw06_TrackNames.call 6 _ _ _ _ ht
  cases hk
  exact hc.law (σ := fun _ => none) trivial (MRel.none w) (Glob.none _ w) (fun _ _ => rfl) (fun _ _ _ h => by cases h)

set_option maxRecDepth 100000 in
theorem lifted (os : Os) (started : os.Started) (H : Type) (enc : TypeId × Value → H) :
    ReturnsInHanded {} Try.checked os 6 .any (Rows.trackNamesSpec.pre6 enc Try.prog Try.f6 Rows.trackNamesRow.domain false) (Rows.trackNamesSpec.post enc Try.prog Try.f6 false true false false) := by
  refine returnsInHanded_of_change (C := Try.checked) own started (by kernel_rfl) Try.func6
    (ChangeSpec.witness6 (enc := enc) (C := Try.checked) false ⟨#[], #[], []⟩ 8 (by kernel_rfl) (by kernel_rfl) (by kernel_rfl) (by kernel_rfl)) ?_
  intro W base args ds gs before hval0 hW hcnd _
  have hval : ∀ (j : Nat) t v, Try.f6.params[j]? = some t → args[j]? = some v → Value.okWide Try.prog W .any base t v := hval0
  have hW' := hW
  obtain ⟨p, q, hA0, hV, rfl, hfz, hnd⟩ := hW
  have hA : DataW.TrodAll enc Try.prog W 0 (fun _ => true) true Try.f6.params.toList args.toList ds p := hA0
  rw [Try.params6] at hA hval
  obtain ⟨rfl, rfl, rfl⟩ := trodAll_none hA
  obtain ⟨rfl, rfl⟩ := trodVars_none hV
  clear hA0 hval0
  refine (walk  W ).mono fun e W' ⟨he, bel⟩ => ?_
  subst he
  exact ⟨_, rfl, _, _, _, [], _, [], hW', trodAll_mk1 (shut_bool Try.underlying4 _), rfl, rfl, bel.frame _, fun h => by cases h⟩

theorem over : Rows.trackNamesRow.holds Try.pinned (OpenSpec.ofChange Rows.trackNamesSpec) :=
  OpenClaim.holds_of_wide 6 Try.f6 rfl rfl rfl rfl rfl rfl rfl ⟨rfl, rfl, rfl, rfl, rfl⟩ rfl rfl rfl rfl rfl (by kernel_rfl) Try.func6 (by kernel_rfl)
    (of_decide_eq_true (by kernel_rfl)) (by unfold Func.isWrapper; first | (rw [if_pos (by decide +kernel)]; kernel_rfl) | (rw [if_neg (by decide +kernel)]; exact ⟨rfl, rfl⟩))
    (fun os started H enc _ => lifted os started H enc)

theorem proved : Rows.TrackNamesSaid := over
#print axioms proved
end Go.Proofs.Ytdgegcaljelohaa.trackNames
