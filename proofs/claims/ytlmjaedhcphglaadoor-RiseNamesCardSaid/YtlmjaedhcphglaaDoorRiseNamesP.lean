/-
  The chapter's examples of states, windows, limits and errors hold. The conditions are those of the given statement.
-/
import Derived.Test.YtlmjaedhcphglaaDoorPkS8
import Derived.Test.YtlmjaedhcphglaaDoorRows
import Derived.WalkKit
import Derived.ProofKit
import Derived.OpenShut
import Derived.ShutString
import Derived.ChangeOld
import Derived.Below
import Derived.Test.YtlmjaedhcphglaaDoorCards
import Derived.Test.YtlmjaedhcphglaaDoorTie
import Derived.LaidMore
import Derived.Stop.Joined
import Derived.SevenTiedAt
set_option maxRecDepth 100000
namespace Go.Ev
open Go Go.Proofs
theorem fits_int {k : IntKind} {z : Int} {ks l : List D} (h : FitsR (.int k z :: ks) l) : ∃ n r, l = .int k n :: r ∧ FitsR ks r := by
  match l, h with
  | .int k' n :: r, ⟨h1, h2⟩ => exact ⟨n, r, by rw [h1.1], h2⟩
theorem fits_bool {z : Bool} {ks l : List D} (h : FitsR (.bool z :: ks) l) : ∃ n r, l = .bool n :: r ∧ FitsR ks r := by
  match l, h with
  | .bool n :: r, ⟨_, h2⟩ => exact ⟨n, r, rfl, h2⟩
theorem fits_string {z : ByteArray} {ks l : List D} (h : FitsR (.str z :: ks) l) : ∃ n r, l = .str n :: r ∧ FitsR ks r := by
  match l, h with
  | .str n :: r, ⟨_, h2⟩ => exact ⟨n, r, rfl, h2⟩
theorem fits_end {l : List D} (h : FitsR [] l) : l = [] := by
  match l, h with
  | [], _ => rfl
theorem true_RiseNames   :
    CallsA Tryd.prog GT gbT 3 [] [] (abool true) [] := by
  have e := law_RiseNames
  have c := c_W7_RiseNames (by rw [e])
  rw [e] at c
  exact c
end Go.Ev
namespace Go.Proofs.YtlmjaedhcphglaaDoor.riseNames
open Go.ChangeShapes Go.WideShapes Go.ChangeAt Go.RowKit Go.Ev
open Go.ChangeMaps (open_string shut_string)
theorem own : ownKnob Tryd.prog.godebug = none := by kernel_rfl
theorem laidOut : laidOutB Tryd.prog = true := by kernel_rfl
theorem walk  (w : World)  (hG : Glob GT gbT (Wof (fun _ => none) []) w) :
    Calls Tryd.prog 3 #[] w fun e w' => e = .returned (.bool true) ∧ Below w.heap.size w w' := by
  have hc := true_RiseNames  
  exact hc.law (σ := fun _ => none) trivial (MRel.none w) hG (fun _ _ => rfl) (fun _ => rfl)
def laid : List (String × DataW Unit) := [("fringe/vec.zero", Rows.laid_fringe_vec_zero)]
theorem door_met (os : Os) (args : Array Value) : laidMetH Tryd.prog laid ((World.doorLaid Tryd.prog 400 os).forCall (fun _ _ => 0) ⟨#[], args, []⟩).memory :=
  laidMetH_of_parts3 (fuel := 8) (laidMet_of_run' 8 (by kernel_rfl) (by kernel_rfl)) (by kernel_rfl) (by kernel_rfl)
theorem glob {W : World} (h : laidMetH Tryd.prog laid W) : Glob GT gbT (Wof (fun _ => none) []) W := by
  rw [MakeChecks.laidMetH_plain _ _ _ (by kernel_rfl)] at h
  obtain ⟨ps, h0, _, _⟩ := h
  obtain ⟨⟨a0, b0⟩, q0, h1⟩ := laid_frac (P := Tryd.prog) (g := 0) (t := 25) (by kernel_rfl) (by kernel_rfl) Tryd.underlying25 (by kernel_rfl) (by kernel_rfl) Tryd.underlying2 Tryd.underlying2 (by kernel_rfl) (by kernel_rfl) (by kernel_rfl) h0
  refine ⟨World.block_lt_of_cell? W ⟨0, 0, none⟩ a0, (fun k ⟨b, L, h9, _⟩ => by have h9' : false = true := h9; cases h9'), fun g l hg => ?_⟩
  simp only [GT, cond_eq_ite] at hg
  by_cases e0 : g = 0
  · subst e0
    simp at hg
    subst hg
    refine ⟨by decide, (fun d hd => by simp at hd; rcases hd with rfl | rfl <;> exact inR_iff.2 (by unfold IntKind.has; decide)), fun j d hj => ?_⟩
    match j, hj with
    | 0, hj => cases hj; exact a0
    | 1, hj => cases hj; exact b0
  rw [if_neg (by simpa using e0)] at hg
  cases hg
theorem lifted (os : Os) (started : os.Started) (H : Type) (enc : TypeId × Value → H) :
    ReturnsInHanded {} Tryd.checked os 3 .any (fun w args => (Rows.riseNamesSpec.pre enc Tryd.prog Tryd.f3 [] false w args ∧ laidMetH Tryd.prog laid w) ∧ sizedMet enc Tryd.prog Tryd.f3 (OpenSpec.ofChange Rows.riseNamesSpec) false w args) (Rows.riseNamesSpec.post enc Tryd.prog Tryd.f3 false true false false) := by
  refine returnsInHanded_of_change_and (C := Tryd.checked) (X := fun w _ => laidMetH Tryd.prog laid w) (fun _ _ _ hh h => h.of_heap hh) own started (by kernel_rfl) Tryd.func3
    (ChangeSpec.witness_shaped (enc := enc) (C := Tryd.checked) (os := os) (X := fun w _ => laidMetH Tryd.prog laid w) false (World.doorLaid Tryd.prog 400 os) #[] 8 rfl (World.shaped_of_RefB (by kernel_rfl) (by kernel_rfl)) (by kernel_rfl) (by kernel_rfl) (by kernel_rfl) (door_met os _)) ?_
  intro W base args ds gs before hval0 hW _ _ hL _
  have hval : ∀ (j : Nat) t v, Tryd.f3.params[j]? = some t → args[j]? = some v → Value.okWide Tryd.prog W .any base t v := hval0
  have hW' := hW
  obtain ⟨p, q, hA0, hV, rfl, hfz, hnd⟩ := hW
  have hA : DataW.TrodAll enc Tryd.prog W 0 (fun _ => true) true Tryd.f3.params.toList args.toList ds p := hA0
  rw [Tryd.params3] at hA hval
  obtain ⟨rfl, rfl, rfl⟩ := trodAll_none hA
  obtain ⟨rfl, rfl⟩ := trodVars_none hV
  clear hA0 hval0
  refine (walk  W  (glob hL)).mono fun e W' ⟨he, bel⟩ => ?_
  subst he
  exact ⟨_, rfl, _, _, _, [], _, [], hW', trodAll_mk1 (shut_bool Tryd.underlying4 _), rfl, rfl, bel.frame _, fun h => by cases h⟩
theorem over : Rows.riseNamesRow.holds Tryd.pinned (OpenSpec.ofChange Rows.riseNamesSpec) :=
  OpenClaim.holds_of_wide 3 Tryd.f3 rfl rfl rfl rfl rfl rfl rfl ⟨rfl, rfl, rfl, rfl, rfl⟩ rfl rfl rfl rfl rfl (by kernel_rfl) Tryd.func3 (by kernel_rfl)
    (of_decide_eq_true (by kernel_rfl)) (by unfold Func.isWrapper; first | (rw [if_pos (by decide +kernel)]; kernel_rfl) | (rw [if_neg (by decide +kernel)]; exact ⟨rfl, rfl⟩))
    (fun os started H enc _ => lifted os started H enc)
theorem proved : Rows.RiseNamesCardSaid :=
  Claim7.holds_tied_plain_at .later [] [.data] true (true, "5ba1ba1834118ec487b437531b73ac38785a03e3b0a50cab462dde55c1ba001f") false
    over (fun _ h => by cases h) (by kernel_rfl) (fun _ h => by cases h) riseNames_row_tie rfl ⟨rfl, rfl⟩ (by kernel_rfl) rfl
    (fun f fn hf hfn => by
      obtain rfl : f = 3 := Option.some.inj ((show Tryd.prog.funcNamed "fringe/fringelaw07.RiseNames" = some 3 by kernel_rfl).symm.trans hf) |>.symm
      obtain rfl : fn = Tryd.f3 := (Option.some.inj (Tryd.func3.symm.trans hfn)).symm
      exact ⟨by kernel_rfl, fun j t ht => by
        rw [Tryd.params3] at ht
        have hm : t ∈ [] := by simpa using Array.mem_of_getElem? ht
        have hall : (([] : List Nat).all fun u => !Tryd.prog.wantsStandIn u) = true := by kernel_rfl
        exact (show Tryd.prog.wantsStandIn t = false by simpa using List.all_eq_true.1 hall t hm)⟩)
    (by kernel_rfl)
#print axioms proved
end Go.Proofs.YtlmjaedhcphglaaDoor.riseNames

