/-
  ProjAxes proved.
-/
import Derived.Test.YtglifoijcdfjaaaGreatDoorPyCC
import Derived.Test.YtglifoijcdfjaaaGreatDoorRows
import Derived.WalkKit
import Derived.ProofKit
import Derived.OpenShut
import Derived.ShutString
import Derived.ChangeOld
import Derived.Below
import Derived.Test.YtglifoijcdfjaaaGreatDoorLaid
import Derived.Test.YtglifoijcdfjaaaGreatDoorCards
import Derived.Test.YtglifoijcdfjaaaGreatDoorTie
import Derived.LaidMore
import Derived.Stop.Joined
import Derived.SevenTiedAt
namespace Go.Ev
open Go Go.Proofs

theorem fits_int {k : IntKind} {z : Int} {ks l : List D} (h : FitsR (.int k z :: ks) l) : ∃ n r, l = .int k n :: r ∧ FitsR ks r := by
  match l, h with
  | .int k' n :: r, ⟨h1, h2⟩ => exact ⟨n, r, by rw [h1.1], h2⟩
theorem fits_bool {z : Bool} {ks l : List D} (h : FitsR (.bool z :: ks) l) : ∃ n r, l = .bool n :: r ∧ FitsR ks r := by
  match l, h with
  | .bool n :: r, ⟨_, h2⟩ => exact ⟨n, r, rfl, h2⟩
theorem fits_string {z : ByteArray} {ks l : List D} (h : FitsR (.str z :: ks) l) : ∃ n r, l = .str n :: r ∧ FitsR ks r := by
  match l, h with
  | .str n :: r, ⟨_, h2⟩ => exact ⟨n, r, rfl, h2⟩
theorem fits_end {l : List D} (h : FitsR [] l) : l = [] := by
  match l, h with
  | [], _ => rfl

theorem true_ProjAxes (l0 : List D) (l1 : List D) (x2 : Int) (h0 : FitsR [.int .i64 0, .int .i64 0, .int .i64 0, .int .i64 0, .int .i64 0, .int .i64 0] l0) (h1 : FitsR [.str ByteArray.empty, .int .i64 0, .int .i64 0] l1) (_ : IntKind.i64.has x2) :
    CallsA Tryz.prog GT gbT 3 [.v (.agg l0), .v (.agg l1), aint .i64 x2] [] (abool true) [] := by
  obtain ⟨a0_0, m0_0, rfl, g0_0⟩ := fits_int h0
  obtain ⟨a0_1, m0_1, rfl, g0_1⟩ := fits_int g0_0
  obtain ⟨a0_2, m0_2, rfl, g0_2⟩ := fits_int g0_1
  obtain ⟨a0_3, m0_3, rfl, g0_3⟩ := fits_int g0_2
  obtain ⟨a0_4, m0_4, rfl, g0_4⟩ := fits_int g0_3
  obtain ⟨a0_5, m0_5, rfl, g0_5⟩ := fits_int g0_4
  cases fits_end g0_5
  obtain ⟨a1_0, m1_0, rfl, g1_0⟩ := fits_string h1
  obtain ⟨a1_1, m1_1, rfl, g1_1⟩ := fits_int g1_0
  obtain ⟨a1_2, m1_2, rfl, g1_2⟩ := fits_int g1_1
  cases fits_end g1_2
  exact c_fringelaw08_ProjAxes a0_0 a0_1 a0_2 a0_3 a0_4 a0_5 a1_0 a1_1 a1_2 x2

end Go.Ev

namespace Go.Proofs.YtglifoijcdfjaaaGreatDoor.projAxes
open Go.ChangeShapes Go.WideShapes Go.ChangeAt Go.RowKit Go.Ev
open Go.ChangeMaps (open_string shut_string)

theorem own : ownKnob Tryz.prog.godebug = none := by kernel_rfl
theorem laidOut : laidOutB Tryz.prog = true := by kernel_rfl

/-- The Go function returns true and turns nothing that was there. -/
theorem walk (l0 : List D) (l1 : List D) (x2 : Int) (w : World) (h0 : FitsR [.int .i64 0, .int .i64 0, .int .i64 0, .int .i64 0, .int .i64 0, .int .i64 0] l0) (h1 : FitsR [.str ByteArray.empty, .int .i64 0, .int .i64 0] l1) (h2 : IntKind.i64.has x2) (hG : Glob GT gbT (Wof (fun _ => none) []) w) :
    Calls Tryz.prog 3 #[.agg (l0.map D.val).toArray, .agg (l1.map D.val).toArray, .int .i64 x2] w fun e w' => e = .returned (.bool true) ∧ Below w.heap.size w w' := by
  have hc := true_ProjAxes l0 l1 x2 h0 h1 h2
  exact hc.law (σ := fun _ => none) ⟨⟨rfl, h0.ok⟩, ⟨rfl, h1.ok⟩, ⟨rfl, inR_iff.2 h2⟩, trivial⟩ (MRel.none w) hG (fun _ _ => rfl) (fun _ _ _ h => by cases h)

def laid : List (String × DataW Unit) := [("fringe/vec.zero", Rows.laid_fringe_vec_zero)]

theorem door_met (os : Os) (args : Array Value) : laidMetH Tryz.prog laid ((World.doorLaid Tryz.prog 400 os).forCall (fun _ _ => 0) ⟨#[], args, []⟩).memory :=
  laidMetH_of_parts3 (fuel := 8) (laidMet_of_run' 8 (by kernel_rfl) (by kernel_rfl)) (by kernel_rfl) (by kernel_rfl)

set_option maxRecDepth 100000 in
/-- What the condition gives: the cells of the listed variables. -/
theorem glob {W : World} (h : laidMetH Tryz.prog laid W) : Glob GT gbT (Wof (fun _ => none) []) W := by
  rw [MakeChecks.laidMetH_plain _ _ _ (by kernel_rfl)] at h
  obtain ⟨ps, h0, _, _⟩ := h
  obtain ⟨⟨a0, b0⟩, q0, h1⟩ := laid_frac (P := Tryz.prog) (g := 0) (t := 23) (by kernel_rfl) (by kernel_rfl) Tryz.underlying23 (by kernel_rfl) (by kernel_rfl) Tryz.underlying2 Tryz.underlying2 (by kernel_rfl) (by kernel_rfl) (by kernel_rfl) h0
  refine ⟨World.block_lt_of_cell? W ⟨0, 0, none⟩ a0, (fun k ⟨b, t, l, L, h9, _⟩ => by cases h9), fun g l hg => ?_⟩
  simp only [GT, cond_eq_ite] at hg
  by_cases e0 : g = 0
  · subst e0
    simp at hg
    subst hg
    refine ⟨by decide, (fun d hd => by simp at hd; rcases hd with rfl | rfl <;> exact inR_iff.2 (by unfold IntKind.has; decide)), fun j d hj => ?_⟩
    match j, hj with
    | 0, hj => cases hj; exact a0
    | 1, hj => cases hj; exact b0
  rw [if_neg (by simpa using e0)] at hg
  cases hg

set_option maxRecDepth 100000 in
theorem lifted (os : Os) (started : os.Started) (H : Type) (enc : TypeId × Value → H) :
    ReturnsInHanded {} Tryz.checked os 3 .any (fun w args => (Rows.projAxesSpec.pre enc Tryz.prog Tryz.f3 [] false w args ∧ laidMetH Tryz.prog laid w) ∧ sizedMet enc Tryz.prog Tryz.f3 (OpenSpec.ofChange Rows.projAxesSpec) false w args) (Rows.projAxesSpec.post enc Tryz.prog Tryz.f3 false true false false) := by
  refine returnsInHanded_of_change_and (C := Tryz.checked) (X := fun w _ => laidMetH Tryz.prog laid w) (fun _ _ _ hh h => h.of_heap hh) own started (by kernel_rfl) Tryz.func3
    (ChangeSpec.witness_shaped (enc := enc) (C := Tryz.checked) (os := os) (X := fun w _ => laidMetH Tryz.prog laid w) false (World.doorLaid Tryz.prog 400 os) #[.agg #[.int .i64 0, .int .i64 0, .int .i64 0, .int .i64 0, .int .i64 0, .int .i64 0], .agg #[.string ByteArray.empty, .int .i64 0, .int .i64 0], .int .i64 0] 8 rfl (World.shaped_of_RefB (by kernel_rfl) (by kernel_rfl)) (by kernel_rfl) (by kernel_rfl) (by kernel_rfl) (door_met os _)) ?_
  intro W base args ds gs before hval0 hW _ _ hL _
  have hval : ∀ (j : Nat) t v, Tryz.f3.params[j]? = some t → args[j]? = some v → Value.okWide Tryz.prog W .any base t v := hval0
  have hW' := hW
  obtain ⟨p, q, hA0, hV, rfl, hfz, hnd⟩ := hW
  have hA : DataW.TrodAll enc Tryz.prog W 0 (fun _ => true) true Tryz.f3.params.toList args.toList ds p := hA0
  rw [Tryz.params3] at hA hval
  obtain ⟨v0, vs0, d0, ds0, p0, q0, hargs, rfl, rfl, h0, r0⟩ := trodAll_cons hA
  obtain ⟨v1, vs1, d1, ds1, p1, q1, rfl, rfl, rfl, h1, r1⟩ := trodAll_cons r0
  obtain ⟨v2, vs2, d2, ds2, p2, q2, rfl, rfl, rfl, h2, r2⟩ := trodAll_cons r1
  obtain ⟨rfl, rfl, rfl⟩ := trodAll_nil r2
  obtain rfl : args = #[v0, v1, v2] := by cases args; simp_all
  obtain ⟨rfl, rfl⟩ := trodVars_none hV
  have lt0 : ∀ x ∈ p0, x.block < W.heap.size := by obtain ⟨m, hm⟩ := h0; exact DataW.trod_lt m _ _ _ hm
  have lt1 : ∀ x ∈ p1, x.block < W.heap.size := by obtain ⟨m, hm⟩ := h1; exact DataW.trod_lt m _ _ _ hm
  have lt2 : ∀ x ∈ p2, x.block < W.heap.size := by obtain ⟨m, hm⟩ := h2; exact DataW.trod_lt m _ _ _ hm
  obtain ⟨l0, rfl, w0⟩ := arg_agg (P := Tryz.prog) (ts := [2, 2, 2, 2, 2, 2]) (ks := [.int .i64 0, .int .i64 0, .int .i64 0, .int .i64 0, .int .i64 0, .int .i64 0]) (by kernel_rfl) (by kernel_rfl) (by kernel_rfl) (by kernel_rfl) (hval 0 25 v0 rfl rfl)
  obtain ⟨l1, rfl, w1⟩ := arg_agg (P := Tryz.prog) (ts := [9, 3, 3]) (ks := [.str ByteArray.empty, .int .i64 0, .int .i64 0]) (by kernel_rfl) (by kernel_rfl) (by kernel_rfl) (by kernel_rfl) (hval 1 27 v1 rfl rfl)
  obtain ⟨x2, rfl, w2⟩ := cell_int (P := Tryz.prog) Tryz.underlying3 (arg_cell (by kernel_rfl) (hval 2 3 v2 rfl rfl))
  clear hA0 hval0
  refine (walk l0 l1 x2 W w0 w1 w2 (glob hL)).mono fun e W' ⟨he, bel⟩ => ?_
  subst he
  exact ⟨_, rfl, _, _, _, [], _, [], hW', trodAll_mk1 (shut_bool Tryz.underlying4 _), (trodAll_cons_mk (Below.trod laidOut (by kernel_rfl) (of_decide_eq_true (by kernel_rfl)) h0 bel lt0) (trodAll_cons_mk (Below.trod laidOut (by kernel_rfl) (of_decide_eq_true (by kernel_rfl)) h1 bel lt1) (trodAll_cons_mk (Below.trod laidOut (by kernel_rfl) (of_decide_eq_true (by kernel_rfl)) h2 bel lt2) trodAll_mk0))), rfl, bel.frame _, fun h => by cases h⟩

theorem over : Rows.projAxesRow.holds Tryz.pinned (OpenSpec.ofChange Rows.projAxesSpec) :=
  OpenClaim.holds_of_wide 3 Tryz.f3 rfl rfl rfl rfl rfl rfl rfl ⟨rfl, rfl, rfl, rfl, rfl⟩ rfl rfl rfl rfl rfl (by kernel_rfl) Tryz.func3 (by kernel_rfl)
    (of_decide_eq_true (by kernel_rfl)) (by unfold Func.isWrapper; first | (rw [if_pos (by decide +kernel)]; kernel_rfl) | (rw [if_neg (by decide +kernel)]; exact ⟨rfl, rfl⟩))
    (fun os started H enc _ => lifted os started H enc)

theorem proved : Rows.ProjAxesCardSaid :=
  Claim7.holds_tied_plain_at .later [] [.data] true (true, "547b4a847545e5f9ee3567b08849c67b3820b2298b46c0916a4de94b7c060bde") false
    over (fun _ h => by cases h) (by kernel_rfl) (fun _ h => by cases h) projAxes_row_tie rfl ⟨rfl, rfl⟩ (by kernel_rfl) rfl
    (fun f fn hf hfn => by
      obtain rfl : f = 3 := Option.some.inj ((show Tryz.prog.funcNamed "fringe/fringelaw08.ProjAxes" = some 3 by kernel_rfl).symm.trans hf) |>.symm
      obtain rfl : fn = Tryz.f3 := (Option.some.inj (Tryz.func3.symm.trans hfn)).symm
      exact ⟨by kernel_rfl, fun j t ht => by
        rw [Tryz.params3] at ht
        have hm : t ∈ [25, 27, 3] := by simpa using Array.mem_of_getElem? ht
        have hall : (([25, 27, 3] : List Nat).all fun u => !Tryz.prog.wantsStandIn u) = true := by kernel_rfl
        exact (show Tryz.prog.wantsStandIn t = false by simpa using List.all_eq_true.1 hall t hm)⟩)
    (by kernel_rfl)
#print axioms proved
end Go.Proofs.YtglifoijcdfjaaaGreatDoor.projAxes
