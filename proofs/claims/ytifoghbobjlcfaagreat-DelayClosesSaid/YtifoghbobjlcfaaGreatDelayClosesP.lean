/-
  Delays add up around triangles, opposite ones are opposite, and the drift over 720 ticks encloses 0. The conditions are those of the given statement.
-/
import Derived.Test.YtifoghbobjlcfaaGreatPkC11
import Derived.Test.YtifoghbobjlcfaaGreatRows
import Derived.WalkKit
import Derived.ProofKit
import Derived.OpenShut
import Derived.ShutString
import Derived.ChangeOld
import Derived.Below
set_option maxRecDepth 100000
namespace Go.Ev
open Go Go.Proofs
theorem fits_int {k : IntKind} {z : Int} {ks l : List D} (h : FitsR (.int k z :: ks) l) : ∃ n r, l = .int k n :: r ∧ FitsR ks r := by
  match l, h with
  | .int k' n :: r, ⟨h1, h2⟩ => exact ⟨n, r, by rw [h1.1], h2⟩
theorem fits_bool {z : Bool} {ks l : List D} (h : FitsR (.bool z :: ks) l) : ∃ n r, l = .bool n :: r ∧ FitsR ks r := by
  match l, h with
  | .bool n :: r, ⟨_, h2⟩ => exact ⟨n, r, rfl, h2⟩
theorem fits_string {z : ByteArray} {ks l : List D} (h : FitsR (.str z :: ks) l) : ∃ n r, l = .str n :: r ∧ FitsR ks r := by
  match l, h with
  | .str n :: r, ⟨_, h2⟩ => exact ⟨n, r, rfl, h2⟩
theorem fits_end {l : List D} (h : FitsR [] l) : l = [] := by
  match l, h with
  | [], _ => rfl
theorem true_DelayCloses (l0 : List D) (x1 : List Site) (x2 : Int) (x3 : Int) (x4 : Int) (l5 : List D) (x6 : Int) (l7 : List D) (h0 : FitsR [.int .i64 0, .int .i64 0] l0) (h1 : (∀ d ∈ ET.flat .site x1, d.ok) ∧ x1.length ≤ maxLen) (h2 : IntKind.i64.has x2) (h3 : IntKind.i64.has x3) (h4 : IntKind.i64.has x4) (h5 : FitsR [.str ByteArray.empty, .int .i64 0, .int .i64 0] l5) (h6 : IntKind.i64.has x6) (h7 : FitsR [.int .i64 0, .int .i64 0] l7) :
    CallsA Tryz.prog GT gbT 4 [.v (.agg l0), .v (.c (.aslice 0 none)), aint .i64 x2, aint .i64 x3, aint .i64 x4, .v (.agg l5), aint .i64 x6, .v (.agg l7)] [.arr none .site x1] (abool true) [.arr none .site x1] := by
  have k0 := h0.ok
  obtain ⟨a0_0, m0_0, rfl, g0_0⟩ := fits_int h0
  obtain ⟨a0_1, m0_1, rfl, g0_1⟩ := fits_int g0_0
  cases fits_end g0_1
  have k5 := h5.ok
  obtain ⟨a5_0, m5_0, rfl, g5_0⟩ := fits_string h5
  obtain ⟨a5_1, m5_1, rfl, g5_1⟩ := fits_int g5_0
  obtain ⟨a5_2, m5_2, rfl, g5_2⟩ := fits_int g5_1
  cases fits_end g5_2
  have k7 := h7.ok
  obtain ⟨a7_0, m7_0, rfl, g7_0⟩ := fits_int h7
  obtain ⟨a7_1, m7_1, rfl, g7_1⟩ := fits_int g7_0
  cases fits_end g7_1
  have e := law_DelayCloses (⟨a0_0, a0_1⟩ : Globe) x1 x2 x3 x4 (⟨a5_0, a5_1, a5_2⟩ : Source) x6 (⟨a7_0, a7_1⟩ : Frac) k0 h1 h2 h3 h4 k5 h6 k7
  have c := c_W9_DelayCloses (⟨a0_0, a0_1⟩ : Globe) x1 x2 x3 x4 (⟨a5_0, a5_1, a5_2⟩ : Source) x6 (⟨a7_0, a7_1⟩ : Frac) (by rw [e])
  rw [e] at c
  exact c
end Go.Ev
namespace Go.Proofs.YtifoghbobjlcfaaGreat.delayCloses
open Go.ChangeShapes Go.WideShapes Go.ChangeAt Go.RowKit Go.Ev
open Go.ChangeMaps (open_string shut_string)
theorem own : ownKnob Tryz.prog.godebug = none := by kernel_rfl
theorem laidOut : laidOutB Tryz.prog = true := by kernel_rfl
theorem walk (l0 : List D) (v1 : Value) (x1 : List Site) (L1 : Go.Ev.Loc) (x2 : Int) (x3 : Int) (x4 : Int) (l5 : List D) (x6 : Int) (l7 : List D) (w : World) (h0 : FitsR [.int .i64 0, .int .i64 0] l0) (h1 : InArr w .site v1 x1 L1) (h2 : IntKind.i64.has x2) (h3 : IntKind.i64.has x3) (h4 : IntKind.i64.has x4) (h5 : FitsR [.str ByteArray.empty, .int .i64 0, .int .i64 0] l5) (h6 : IntKind.i64.has x6) (h7 : FitsR [.int .i64 0, .int .i64 0] l7) :
    Calls Tryz.prog 4 #[.agg (l0.map D.val).toArray, v1, .int .i64 x2, .int .i64 x3, .int .i64 x4, .agg (l5.map D.val).toArray, .int .i64 x6, .agg (l7.map D.val).toArray] w fun e w' => e = .returned (.bool true) ∧ Below w.heap.size w w' := by
  have hc := true_DelayCloses l0 x1 x2 x3 x4 l5 x6 l7 h0 ⟨h1.ok, h1.len⟩ h2 h3 h4 h5 h6 h7
  have hR : Ros w [L1] [.arr none .site x1] := (h1.ro (τ := .site) trivial)
  exact hc.law (σ := sgOf [L1]) ⟨⟨rfl, h0.ok⟩, h1.rel rfl, ⟨rfl, inR_iff.2 h2⟩, ⟨rfl, inR_iff.2 h3⟩, ⟨rfl, inR_iff.2 h4⟩, ⟨rfl, h5.ok⟩, ⟨rfl, inR_iff.2 h6⟩, ⟨rfl, h7.ok⟩, trivial⟩ (MRel.ros hR) (Glob.none _ w) (fun b hb => List.getElem?_eq_none hb) hR.still
theorem lifted (os : Os) (started : os.Started) (H : Type) (enc : TypeId × Value → H) :
    ReturnsInHanded {} Tryz.checked os 4 .any (Rows.delayClosesSpec.pre6 enc Tryz.prog Tryz.f4 Rows.delayClosesRow.domain false) (Rows.delayClosesSpec.post enc Tryz.prog Tryz.f4 false true false false) := by
  refine returnsInHanded_of_change (C := Tryz.checked) own started (by kernel_rfl) Tryz.func4
    (ChangeSpec.witness6 (enc := enc) (C := Tryz.checked) false ⟨#[], #[.agg #[.int .i64 0, .int .i64 0], .slice none 0 0, .int .i64 0, .int .i64 0, .int .i64 0, .agg #[.string ByteArray.empty, .int .i64 0, .int .i64 0], .int .i64 0, .agg #[.int .i64 0, .int .i64 0]], []⟩ 8 (by kernel_rfl) (by kernel_rfl) (by kernel_rfl) (by kernel_rfl)) ?_
  intro W base args ds gs before hval0 hW hcnd _
  have hval : ∀ (j : Nat) t v, Tryz.f4.params[j]? = some t → args[j]? = some v → Value.okWide Tryz.prog W .any base t v := hval0
  have hW' := hW
  obtain ⟨p, q, hA0, hV, rfl, hfz, hnd⟩ := hW
  have hA : DataW.TrodAll enc Tryz.prog W 0 (fun _ => true) true Tryz.f4.params.toList args.toList ds p := hA0
  rw [Tryz.params4] at hA hval
  obtain ⟨v0, vs0, d0, ds0, p0, q0, hargs, rfl, rfl, h0, r0⟩ := trodAll_cons hA
  obtain ⟨v1, vs1, d1, ds1, p1, q1, rfl, rfl, rfl, h1, r1⟩ := trodAll_cons r0
  obtain ⟨v2, vs2, d2, ds2, p2, q2, rfl, rfl, rfl, h2, r2⟩ := trodAll_cons r1
  obtain ⟨v3, vs3, d3, ds3, p3, q3, rfl, rfl, rfl, h3, r3⟩ := trodAll_cons r2
  obtain ⟨v4, vs4, d4, ds4, p4, q4, rfl, rfl, rfl, h4, r4⟩ := trodAll_cons r3
  obtain ⟨v5, vs5, d5, ds5, p5, q5, rfl, rfl, rfl, h5, r5⟩ := trodAll_cons r4
  obtain ⟨v6, vs6, d6, ds6, p6, q6, rfl, rfl, rfl, h6, r6⟩ := trodAll_cons r5
  obtain ⟨v7, vs7, d7, ds7, p7, q7, rfl, rfl, rfl, h7, r7⟩ := trodAll_cons r6
  obtain ⟨rfl, rfl, rfl⟩ := trodAll_nil r7
  obtain rfl : args = #[v0, v1, v2, v3, v4, v5, v6, v7] := by cases args; simp_all
  obtain ⟨rfl, rfl⟩ := trodVars_none hV
  have lt0 : ∀ x ∈ p0, x.block < W.heap.size := by obtain ⟨m, hm⟩ := h0; exact DataW.trod_lt m _ _ _ hm
  have lt1 : ∀ x ∈ p1, x.block < W.heap.size := by obtain ⟨m, hm⟩ := h1; exact DataW.trod_lt m _ _ _ hm
  have lt2 : ∀ x ∈ p2, x.block < W.heap.size := by obtain ⟨m, hm⟩ := h2; exact DataW.trod_lt m _ _ _ hm
  have lt3 : ∀ x ∈ p3, x.block < W.heap.size := by obtain ⟨m, hm⟩ := h3; exact DataW.trod_lt m _ _ _ hm
  have lt4 : ∀ x ∈ p4, x.block < W.heap.size := by obtain ⟨m, hm⟩ := h4; exact DataW.trod_lt m _ _ _ hm
  have lt5 : ∀ x ∈ p5, x.block < W.heap.size := by obtain ⟨m, hm⟩ := h5; exact DataW.trod_lt m _ _ _ hm
  have lt6 : ∀ x ∈ p6, x.block < W.heap.size := by obtain ⟨m, hm⟩ := h6; exact DataW.trod_lt m _ _ _ hm
  have lt7 : ∀ x ∈ p7, x.block < W.heap.size := by obtain ⟨m, hm⟩ := h7; exact DataW.trod_lt m _ _ _ hm
  obtain ⟨l0, rfl, w0⟩ := arg_agg (P := Tryz.prog) (ts := [3, 3]) (ks := [.int .i64 0, .int .i64 0]) (by kernel_rfl) (by kernel_rfl) (by kernel_rfl) (by kernel_rfl) (hval 0 23 v0 rfl rfl)
  obtain ⟨x1, L1, w1⟩ := arg_slice (P := Tryz.prog) (τ := .site) Tryz.underlying24 (by kernel_rfl) (by kernel_rfl) of_site_fits (hval 1 24 v1 rfl rfl) h1
  obtain ⟨x2, rfl, w2⟩ := cell_int (P := Tryz.prog) Tryz.underlying3 (arg_cell (by kernel_rfl) (hval 2 3 v2 rfl rfl))
  obtain ⟨x3, rfl, w3⟩ := cell_int (P := Tryz.prog) Tryz.underlying3 (arg_cell (by kernel_rfl) (hval 3 3 v3 rfl rfl))
  obtain ⟨x4, rfl, w4⟩ := cell_int (P := Tryz.prog) Tryz.underlying3 (arg_cell (by kernel_rfl) (hval 4 3 v4 rfl rfl))
  obtain ⟨l5, rfl, w5⟩ := arg_agg (P := Tryz.prog) (ts := [9, 3, 3]) (ks := [.str ByteArray.empty, .int .i64 0, .int .i64 0]) (by kernel_rfl) (by kernel_rfl) (by kernel_rfl) (by kernel_rfl) (hval 5 26 v5 rfl rfl)
  obtain ⟨x6, rfl, w6⟩ := cell_int (P := Tryz.prog) Tryz.underlying3 (arg_cell (by kernel_rfl) (hval 6 3 v6 rfl rfl))
  obtain ⟨l7, rfl, w7⟩ := arg_agg (P := Tryz.prog) (ts := [2, 2]) (ks := [.int .i64 0, .int .i64 0]) (by kernel_rfl) (by kernel_rfl) (by kernel_rfl) (by kernel_rfl) (hval 7 28 v7 rfl rfl)
  clear hA0 hval0
  refine (walk l0 v1 x1 L1 x2 x3 x4 l5 x6 l7 W w0 w1 w2 w3 w4 w5 w6 w7).mono fun e W' ⟨he, bel⟩ => ?_
  subst he
  exact ⟨_, rfl, _, _, _, [], _, [], hW', trodAll_mk1 (shut_bool Tryz.underlying4 _), (trodAll_cons_mk (Below.trod laidOut (by kernel_rfl) (of_decide_eq_true (by kernel_rfl)) h0 bel lt0) (trodAll_cons_mk (Below.trod laidOut (by kernel_rfl) (of_decide_eq_true (by kernel_rfl)) h1 bel lt1) (trodAll_cons_mk (Below.trod laidOut (by kernel_rfl) (of_decide_eq_true (by kernel_rfl)) h2 bel lt2) (trodAll_cons_mk (Below.trod laidOut (by kernel_rfl) (of_decide_eq_true (by kernel_rfl)) h3 bel lt3) (trodAll_cons_mk (Below.trod laidOut (by kernel_rfl) (of_decide_eq_true (by kernel_rfl)) h4 bel lt4) (trodAll_cons_mk (Below.trod laidOut (by kernel_rfl) (of_decide_eq_true (by kernel_rfl)) h5 bel lt5) (trodAll_cons_mk (Below.trod laidOut (by kernel_rfl) (of_decide_eq_true (by kernel_rfl)) h6 bel lt6) (trodAll_cons_mk (Below.trod laidOut (by kernel_rfl) (of_decide_eq_true (by kernel_rfl)) h7 bel lt7) trodAll_mk0)))))))), rfl, bel.frame _, fun h => by cases h⟩
theorem over : Rows.delayClosesRow.holds Tryz.pinned (OpenSpec.ofChange Rows.delayClosesSpec) :=
  OpenClaim.holds_of_wide 4 Tryz.f4 rfl rfl rfl rfl rfl rfl rfl ⟨rfl, rfl, rfl, rfl, rfl⟩ rfl rfl rfl rfl rfl (by kernel_rfl) Tryz.func4 (by kernel_rfl)
    (of_decide_eq_true (by kernel_rfl)) (by unfold Func.isWrapper; first | (rw [if_pos (by decide +kernel)]; kernel_rfl) | (rw [if_neg (by decide +kernel)]; exact ⟨rfl, rfl⟩))
    (fun os started H enc _ => lifted os started H enc)
theorem proved : Rows.DelayClosesSaid := over
#print axioms proved
end Go.Proofs.YtifoghbobjlcfaaGreat.delayCloses

