/-
  The windows for two stations are those of each one, met; the next time is in one window, and no earlier one is. The conditions are those of the given statement.
-/
import Derived.Test.YtlmjaedhcphglaaGreatDoorPkS11
import Derived.Test.YtlmjaedhcphglaaGreatDoorRows
import Derived.WalkKit
import Derived.ProofKit
import Derived.OpenShut
import Derived.ShutString
import Derived.ChangeOld
import Derived.Below
import Derived.Test.YtlmjaedhcphglaaGreatDoorCards
import Derived.Test.YtlmjaedhcphglaaGreatDoorTie
import Derived.LaidMore
import Derived.Stop.Joined
import Derived.SevenTiedAt
set_option maxRecDepth 100000
namespace Go.Ev
open Go Go.Proofs
theorem fits_int {k : IntKind} {z : Int} {ks l : List D} (h : FitsR (.int k z :: ks) l) : ∃ n r, l = .int k n :: r ∧ FitsR ks r := by
  match l, h with
  | .int k' n :: r, ⟨h1, h2⟩ => exact ⟨n, r, by rw [h1.1], h2⟩
theorem fits_bool {z : Bool} {ks l : List D} (h : FitsR (.bool z :: ks) l) : ∃ n r, l = .bool n :: r ∧ FitsR ks r := by
  match l, h with
  | .bool n :: r, ⟨_, h2⟩ => exact ⟨n, r, rfl, h2⟩
theorem fits_string {z : ByteArray} {ks l : List D} (h : FitsR (.str z :: ks) l) : ∃ n r, l = .str n :: r ∧ FitsR ks r := by
  match l, h with
  | .str n :: r, ⟨_, h2⟩ => exact ⟨n, r, rfl, h2⟩
theorem fits_end {l : List D} (h : FitsR [] l) : l = [] := by
  match l, h with
  | [], _ => rfl
theorem true_RiseTogether (l0 : List D) (x1 : List Site) (l2 : List D) (x3 : Int) (x4 : Int) (l5 : List D) (x6 : Int) (h0 : FitsR [.int .i64 0, .int .i64 0] l0) (h1 : (∀ d ∈ ET.flat .site x1, d.ok) ∧ x1.length ≤ maxLen) (h2 : FitsR [.str ByteArray.empty, .int .i64 0, .int .i64 0] l2) (h3 : IntKind.i64.has x3) (h4 : IntKind.i64.has x4) (h5 : FitsR [.int .i64 0, .int .i64 0] l5) (h6 : IntKind.i64.has x6) :
    CallsA Tryz.prog GT gbT 3 [.v (.agg l0), .v (.c (.aslice 0 none)), .v (.agg l2), aint .i64 x3, aint .i64 x4, .v (.agg l5), aint .i64 x6] [.arr none .site x1] (abool true) [.arr none .site x1] := by
  have k0 := h0.ok
  obtain ⟨a0_0, m0_0, rfl, g0_0⟩ := fits_int h0
  obtain ⟨a0_1, m0_1, rfl, g0_1⟩ := fits_int g0_0
  cases fits_end g0_1
  have k2 := h2.ok
  obtain ⟨a2_0, m2_0, rfl, g2_0⟩ := fits_string h2
  obtain ⟨a2_1, m2_1, rfl, g2_1⟩ := fits_int g2_0
  obtain ⟨a2_2, m2_2, rfl, g2_2⟩ := fits_int g2_1
  cases fits_end g2_2
  have k5 := h5.ok
  obtain ⟨a5_0, m5_0, rfl, g5_0⟩ := fits_int h5
  obtain ⟨a5_1, m5_1, rfl, g5_1⟩ := fits_int g5_0
  cases fits_end g5_1
  have e := law_RiseTogether (⟨a0_0, a0_1⟩ : Globe) x1 (⟨a2_0, a2_1, a2_2⟩ : Source) x3 x4 (⟨a5_0, a5_1⟩ : Frac) x6 k0 h1 k2 h3 h4 k5 h6
  have c := c_W7_RiseTogether (⟨a0_0, a0_1⟩ : Globe) x1 (⟨a2_0, a2_1, a2_2⟩ : Source) x3 x4 (⟨a5_0, a5_1⟩ : Frac) x6 (by rw [e])
  rw [e] at c
  exact c
end Go.Ev
namespace Go.Proofs.YtlmjaedhcphglaaGreatDoor.riseTogether
open Go.ChangeShapes Go.WideShapes Go.ChangeAt Go.RowKit Go.Ev
open Go.ChangeMaps (open_string shut_string)
theorem own : ownKnob Tryz.prog.godebug = none := by kernel_rfl
theorem laidOut : laidOutB Tryz.prog = true := by kernel_rfl
theorem walk (l0 : List D) (v1 : Value) (x1 : List Site) (L1 : Go.Ev.Loc) (l2 : List D) (x3 : Int) (x4 : Int) (l5 : List D) (x6 : Int) (w : World) (h0 : FitsR [.int .i64 0, .int .i64 0] l0) (h1 : InArr w .site v1 x1 L1) (h2 : FitsR [.str ByteArray.empty, .int .i64 0, .int .i64 0] l2) (h3 : IntKind.i64.has x3) (h4 : IntKind.i64.has x4) (h5 : FitsR [.int .i64 0, .int .i64 0] l5) (h6 : IntKind.i64.has x6) (hG : Glob GT gbT (Wof (fun _ => none) []) w) :
    Calls Tryz.prog 3 #[.agg (l0.map D.val).toArray, v1, .agg (l2.map D.val).toArray, .int .i64 x3, .int .i64 x4, .agg (l5.map D.val).toArray, .int .i64 x6] w fun e w' => e = .returned (.bool true) ∧ Below w.heap.size w w' := by
  have hc := true_RiseTogether l0 x1 l2 x3 x4 l5 x6 h0 ⟨h1.ok, h1.len⟩ h2 h3 h4 h5 h6
  have hR : Ros w [L1] [.arr none .site x1] := (h1.ro (τ := .site) trivial)
  exact hc.law (σ := sgOf [L1]) ⟨⟨rfl, h0.ok⟩, h1.rel rfl, ⟨rfl, h2.ok⟩, ⟨rfl, inR_iff.2 h3⟩, ⟨rfl, inR_iff.2 h4⟩, ⟨rfl, h5.ok⟩, ⟨rfl, inR_iff.2 h6⟩, trivial⟩ (MRel.ros hR) ⟨hG.le, (fun k ⟨b, L, h9, _⟩ => by rw [hR.still b] at h9; cases h9), hG.cell⟩ (fun b hb => List.getElem?_eq_none hb) hR.still
def laid : List (String × DataW Unit) := [("fringe/vec.zero", Rows.laid_fringe_vec_zero)]
theorem door_met (os : Os) (args : Array Value) : laidMetH Tryz.prog laid ((World.doorLaid Tryz.prog 400 os).forCall (fun _ _ => 0) ⟨#[], args, []⟩).memory :=
  laidMetH_of_parts3 (fuel := 8) (laidMet_of_run' 8 (by kernel_rfl) (by kernel_rfl)) (by kernel_rfl) (by kernel_rfl)
theorem glob {W : World} (h : laidMetH Tryz.prog laid W) : Glob GT gbT (Wof (fun _ => none) []) W := by
  rw [MakeChecks.laidMetH_plain _ _ _ (by kernel_rfl)] at h
  obtain ⟨ps, h0, _, _⟩ := h
  obtain ⟨⟨a0, b0⟩, q0, h1⟩ := laid_frac (P := Tryz.prog) (g := 0) (t := 28) (by kernel_rfl) (by kernel_rfl) Tryz.underlying28 (by kernel_rfl) (by kernel_rfl) Tryz.underlying2 Tryz.underlying2 (by kernel_rfl) (by kernel_rfl) (by kernel_rfl) h0
  refine ⟨World.block_lt_of_cell? W ⟨0, 0, none⟩ a0, (fun k ⟨b, L, h9, _⟩ => by have h9' : false = true := h9; cases h9'), fun g l hg => ?_⟩
  simp only [GT, cond_eq_ite] at hg
  by_cases e0 : g = 0
  · subst e0
    simp at hg
    subst hg
    refine ⟨by decide, (fun d hd => by simp at hd; rcases hd with rfl | rfl <;> exact inR_iff.2 (by unfold IntKind.has; decide)), fun j d hj => ?_⟩
    match j, hj with
    | 0, hj => cases hj; exact a0
    | 1, hj => cases hj; exact b0
  rw [if_neg (by simpa using e0)] at hg
  cases hg
theorem lifted (os : Os) (started : os.Started) (H : Type) (enc : TypeId × Value → H) :
    ReturnsInHanded {} Tryz.checked os 3 .any (fun w args => (Rows.riseTogetherSpec.pre enc Tryz.prog Tryz.f3 [] false w args ∧ laidMetH Tryz.prog laid w) ∧ sizedMet enc Tryz.prog Tryz.f3 (OpenSpec.ofChange Rows.riseTogetherSpec) false w args) (Rows.riseTogetherSpec.post enc Tryz.prog Tryz.f3 false true false false) := by
  refine returnsInHanded_of_change_and (C := Tryz.checked) (X := fun w _ => laidMetH Tryz.prog laid w) (fun _ _ _ hh h => h.of_heap hh) own started (by kernel_rfl) Tryz.func3
    (ChangeSpec.witness_shaped (enc := enc) (C := Tryz.checked) (os := os) (X := fun w _ => laidMetH Tryz.prog laid w) false (World.doorLaid Tryz.prog 400 os) #[.agg #[.int .i64 0, .int .i64 0], .slice none 0 0, .agg #[.string ByteArray.empty, .int .i64 0, .int .i64 0], .int .i64 0, .int .i64 0, .agg #[.int .i64 0, .int .i64 0], .int .i64 0] 8 rfl (World.shaped_of_RefB (by kernel_rfl) (by kernel_rfl)) (by kernel_rfl) (by kernel_rfl) (by kernel_rfl) (door_met os _)) ?_
  intro W base args ds gs before hval0 hW _ _ hL _
  have hval : ∀ (j : Nat) t v, Tryz.f3.params[j]? = some t → args[j]? = some v → Value.okWide Tryz.prog W .any base t v := hval0
  have hW' := hW
  obtain ⟨p, q, hA0, hV, rfl, hfz, hnd⟩ := hW
  have hA : DataW.TrodAll enc Tryz.prog W 0 (fun _ => true) true Tryz.f3.params.toList args.toList ds p := hA0
  rw [Tryz.params3] at hA hval
  obtain ⟨v0, vs0, d0, ds0, p0, q0, hargs, rfl, rfl, h0, r0⟩ := trodAll_cons hA
  obtain ⟨v1, vs1, d1, ds1, p1, q1, rfl, rfl, rfl, h1, r1⟩ := trodAll_cons r0
  obtain ⟨v2, vs2, d2, ds2, p2, q2, rfl, rfl, rfl, h2, r2⟩ := trodAll_cons r1
  obtain ⟨v3, vs3, d3, ds3, p3, q3, rfl, rfl, rfl, h3, r3⟩ := trodAll_cons r2
  obtain ⟨v4, vs4, d4, ds4, p4, q4, rfl, rfl, rfl, h4, r4⟩ := trodAll_cons r3
  obtain ⟨v5, vs5, d5, ds5, p5, q5, rfl, rfl, rfl, h5, r5⟩ := trodAll_cons r4
  obtain ⟨v6, vs6, d6, ds6, p6, q6, rfl, rfl, rfl, h6, r6⟩ := trodAll_cons r5
  obtain ⟨rfl, rfl, rfl⟩ := trodAll_nil r6
  obtain rfl : args = #[v0, v1, v2, v3, v4, v5, v6] := by cases args; simp_all
  obtain ⟨rfl, rfl⟩ := trodVars_none hV
  have lt0 : ∀ x ∈ p0, x.block < W.heap.size := by obtain ⟨m, hm⟩ := h0; exact DataW.trod_lt m _ _ _ hm
  have lt1 : ∀ x ∈ p1, x.block < W.heap.size := by obtain ⟨m, hm⟩ := h1; exact DataW.trod_lt m _ _ _ hm
  have lt2 : ∀ x ∈ p2, x.block < W.heap.size := by obtain ⟨m, hm⟩ := h2; exact DataW.trod_lt m _ _ _ hm
  have lt3 : ∀ x ∈ p3, x.block < W.heap.size := by obtain ⟨m, hm⟩ := h3; exact DataW.trod_lt m _ _ _ hm
  have lt4 : ∀ x ∈ p4, x.block < W.heap.size := by obtain ⟨m, hm⟩ := h4; exact DataW.trod_lt m _ _ _ hm
  have lt5 : ∀ x ∈ p5, x.block < W.heap.size := by obtain ⟨m, hm⟩ := h5; exact DataW.trod_lt m _ _ _ hm
  have lt6 : ∀ x ∈ p6, x.block < W.heap.size := by obtain ⟨m, hm⟩ := h6; exact DataW.trod_lt m _ _ _ hm
  obtain ⟨l0, rfl, w0⟩ := arg_agg (P := Tryz.prog) (ts := [3, 3]) (ks := [.int .i64 0, .int .i64 0]) (by kernel_rfl) (by kernel_rfl) (by kernel_rfl) (by kernel_rfl) (hval 0 23 v0 rfl rfl)
  obtain ⟨x1, L1, w1⟩ := arg_slice (P := Tryz.prog) (τ := .site) Tryz.underlying24 (by kernel_rfl) (by kernel_rfl) of_site_fits (hval 1 24 v1 rfl rfl) h1
  obtain ⟨l2, rfl, w2⟩ := arg_agg (P := Tryz.prog) (ts := [9, 3, 3]) (ks := [.str ByteArray.empty, .int .i64 0, .int .i64 0]) (by kernel_rfl) (by kernel_rfl) (by kernel_rfl) (by kernel_rfl) (hval 2 26 v2 rfl rfl)
  obtain ⟨x3, rfl, w3⟩ := cell_int (P := Tryz.prog) Tryz.underlying3 (arg_cell (by kernel_rfl) (hval 3 3 v3 rfl rfl))
  obtain ⟨x4, rfl, w4⟩ := cell_int (P := Tryz.prog) Tryz.underlying3 (arg_cell (by kernel_rfl) (hval 4 3 v4 rfl rfl))
  obtain ⟨l5, rfl, w5⟩ := arg_agg (P := Tryz.prog) (ts := [2, 2]) (ks := [.int .i64 0, .int .i64 0]) (by kernel_rfl) (by kernel_rfl) (by kernel_rfl) (by kernel_rfl) (hval 5 28 v5 rfl rfl)
  obtain ⟨x6, rfl, w6⟩ := cell_int (P := Tryz.prog) Tryz.underlying3 (arg_cell (by kernel_rfl) (hval 6 3 v6 rfl rfl))
  clear hA0 hval0
  refine (walk l0 v1 x1 L1 l2 x3 x4 l5 x6 W w0 w1 w2 w3 w4 w5 w6 (glob hL)).mono fun e W' ⟨he, bel⟩ => ?_
  subst he
  exact ⟨_, rfl, _, _, _, [], _, [], hW', trodAll_mk1 (shut_bool Tryz.underlying4 _), (trodAll_cons_mk (Below.trod laidOut (by kernel_rfl) (of_decide_eq_true (by kernel_rfl)) h0 bel lt0) (trodAll_cons_mk (Below.trod laidOut (by kernel_rfl) (of_decide_eq_true (by kernel_rfl)) h1 bel lt1) (trodAll_cons_mk (Below.trod laidOut (by kernel_rfl) (of_decide_eq_true (by kernel_rfl)) h2 bel lt2) (trodAll_cons_mk (Below.trod laidOut (by kernel_rfl) (of_decide_eq_true (by kernel_rfl)) h3 bel lt3) (trodAll_cons_mk (Below.trod laidOut (by kernel_rfl) (of_decide_eq_true (by kernel_rfl)) h4 bel lt4) (trodAll_cons_mk (Below.trod laidOut (by kernel_rfl) (of_decide_eq_true (by kernel_rfl)) h5 bel lt5) (trodAll_cons_mk (Below.trod laidOut (by kernel_rfl) (of_decide_eq_true (by kernel_rfl)) h6 bel lt6) trodAll_mk0))))))), rfl, bel.frame _, fun h => by cases h⟩
theorem over : Rows.riseTogetherRow.holds Tryz.pinned (OpenSpec.ofChange Rows.riseTogetherSpec) :=
  OpenClaim.holds_of_wide 3 Tryz.f3 rfl rfl rfl rfl rfl rfl rfl ⟨rfl, rfl, rfl, rfl, rfl⟩ rfl rfl rfl rfl rfl (by kernel_rfl) Tryz.func3 (by kernel_rfl)
    (of_decide_eq_true (by kernel_rfl)) (by unfold Func.isWrapper; first | (rw [if_pos (by decide +kernel)]; kernel_rfl) | (rw [if_neg (by decide +kernel)]; exact ⟨rfl, rfl⟩))
    (fun os started H enc _ => lifted os started H enc)
theorem proved : Rows.RiseTogetherCardSaid :=
  Claim7.holds_tied_plain_at .later [] [.data] true (true, "a0a56d8878c2a8115d80659b22b401af2fdcd97bc9900b145c4f9b1a01c11a9c") false
    over (fun _ h => by cases h) (by kernel_rfl) (fun _ h => by cases h) riseTogether_row_tie rfl ⟨rfl, rfl⟩ (by kernel_rfl) rfl
    (fun f fn hf hfn => by
      obtain rfl : f = 3 := Option.some.inj ((show Tryz.prog.funcNamed "fringe/fringelaw07.RiseTogether" = some 3 by kernel_rfl).symm.trans hf) |>.symm
      obtain rfl : fn = Tryz.f3 := (Option.some.inj (Tryz.func3.symm.trans hfn)).symm
      exact ⟨by kernel_rfl, fun j t ht => by
        rw [Tryz.params3] at ht
        have hm : t ∈ [23, 24, 26, 3, 3, 28, 3] := by simpa using Array.mem_of_getElem? ht
        have hall : (([23, 24, 26, 3, 3, 28, 3] : List Nat).all fun u => !Tryz.prog.wantsStandIn u) = true := by kernel_rfl
        exact (show Tryz.prog.wantsStandIn t = false by simpa using List.all_eq_true.1 hall t hm)⟩)
    (by kernel_rfl)
#print axioms proved
end Go.Proofs.YtlmjaedhcphglaaGreatDoor.riseTogether

