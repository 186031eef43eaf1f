/-
  Station 0 has the delay 0 in a table, clocks that are alike or all later by the same change nothing. The conditions are those of the given statement.
-/
import Derived.Test.YtifoghbobjlcfaaGreatPkK12
import Derived.Test.YtifoghbobjlcfaaGreatRows
import Derived.WalkKit
import Derived.ProofKit
import Derived.OpenShut
import Derived.ShutString
import Derived.ChangeOld
import Derived.Below
set_option maxRecDepth 100000
namespace Go.Ev
open Go Go.Proofs
theorem fits_int {k : IntKind} {z : Int} {ks l : List D} (h : FitsR (.int k z :: ks) l) : ∃ n r, l = .int k n :: r ∧ FitsR ks r := by
  match l, h with
  | .int k' n :: r, ⟨h1, h2⟩ => exact ⟨n, r, by rw [h1.1], h2⟩
theorem fits_bool {z : Bool} {ks l : List D} (h : FitsR (.bool z :: ks) l) : ∃ n r, l = .bool n :: r ∧ FitsR ks r := by
  match l, h with
  | .bool n :: r, ⟨_, h2⟩ => exact ⟨n, r, rfl, h2⟩
theorem fits_string {z : ByteArray} {ks l : List D} (h : FitsR (.str z :: ks) l) : ∃ n r, l = .str n :: r ∧ FitsR ks r := by
  match l, h with
  | .str n :: r, ⟨_, h2⟩ => exact ⟨n, r, rfl, h2⟩
theorem fits_end {l : List D} (h : FitsR [] l) : l = [] := by
  match l, h with
  | [], _ => rfl
theorem true_DelayClocks (l0 : List D) (x1 : List Site) (x2 : List Frac) (l3 : List D) (x4 : Int) (l5 : List D) (l6 : List D) (h0 : FitsR [.int .i64 0, .int .i64 0] l0) (h1 : (∀ d ∈ ET.flat .site x1, d.ok) ∧ x1.length ≤ maxLen) (h2 : (∀ d ∈ ET.flat .frac x2, d.ok) ∧ x2.length ≤ maxLen) (h3 : FitsR [.str ByteArray.empty, .int .i64 0, .int .i64 0] l3) (h4 : IntKind.i64.has x4) (h5 : FitsR [.int .i64 0, .int .i64 0] l5) (h6 : FitsR [.int .i64 0, .int .i64 0] l6) :
    CallsA Tryz.prog GT gbT 5 [.v (.agg l0), .v (.c (.aslice 0 none)), .v (.c (.aslice 1 none)), .v (.agg l3), aint .i64 x4, .v (.agg l5), .v (.agg l6)] [.arr none .site x1, .arr none .frac x2] (abool true) [.arr none .site x1, .arr none .frac x2] := by
  have k0 := h0.ok
  obtain ⟨a0_0, m0_0, rfl, g0_0⟩ := fits_int h0
  obtain ⟨a0_1, m0_1, rfl, g0_1⟩ := fits_int g0_0
  cases fits_end g0_1
  have k3 := h3.ok
  obtain ⟨a3_0, m3_0, rfl, g3_0⟩ := fits_string h3
  obtain ⟨a3_1, m3_1, rfl, g3_1⟩ := fits_int g3_0
  obtain ⟨a3_2, m3_2, rfl, g3_2⟩ := fits_int g3_1
  cases fits_end g3_2
  have k5 := h5.ok
  obtain ⟨a5_0, m5_0, rfl, g5_0⟩ := fits_int h5
  obtain ⟨a5_1, m5_1, rfl, g5_1⟩ := fits_int g5_0
  cases fits_end g5_1
  have k6 := h6.ok
  obtain ⟨a6_0, m6_0, rfl, g6_0⟩ := fits_int h6
  obtain ⟨a6_1, m6_1, rfl, g6_1⟩ := fits_int g6_0
  cases fits_end g6_1
  have e := law_DelayClocks (⟨a0_0, a0_1⟩ : Globe) x1 x2 (⟨a3_0, a3_1, a3_2⟩ : Source) x4 (⟨a5_0, a5_1⟩ : Frac) (⟨a6_0, a6_1⟩ : Frac) k0 h1 h2 k3 h4 k5 k6
  have c := c_W9_DelayClocks (⟨a0_0, a0_1⟩ : Globe) x1 x2 (⟨a3_0, a3_1, a3_2⟩ : Source) x4 (⟨a5_0, a5_1⟩ : Frac) (⟨a6_0, a6_1⟩ : Frac) (by rw [e])
  rw [e] at c
  exact c
end Go.Ev
namespace Go.Proofs.YtifoghbobjlcfaaGreat.delayClocks
open Go.ChangeShapes Go.WideShapes Go.ChangeAt Go.RowKit Go.Ev
open Go.ChangeMaps (open_string shut_string)
theorem own : ownKnob Tryz.prog.godebug = none := by kernel_rfl
theorem laidOut : laidOutB Tryz.prog = true := by kernel_rfl
theorem walk (l0 : List D) (v1 : Value) (x1 : List Site) (L1 : Go.Ev.Loc) (v2 : Value) (x2 : List Frac) (L2 : Go.Ev.Loc) (l3 : List D) (x4 : Int) (l5 : List D) (l6 : List D) (w : World) (h0 : FitsR [.int .i64 0, .int .i64 0] l0) (h1 : InArr w .site v1 x1 L1) (h2 : InArr w .frac v2 x2 L2) (h3 : FitsR [.str ByteArray.empty, .int .i64 0, .int .i64 0] l3) (h4 : IntKind.i64.has x4) (h5 : FitsR [.int .i64 0, .int .i64 0] l5) (h6 : FitsR [.int .i64 0, .int .i64 0] l6) :
    Calls Tryz.prog 5 #[.agg (l0.map D.val).toArray, v1, v2, .agg (l3.map D.val).toArray, .int .i64 x4, .agg (l5.map D.val).toArray, .agg (l6.map D.val).toArray] w fun e w' => e = .returned (.bool true) ∧ Below w.heap.size w w' := by
  have hc := true_DelayClocks l0 x1 x2 l3 x4 l5 l6 h0 ⟨h1.ok, h1.len⟩ ⟨h2.ok, h2.len⟩ h3 h4 h5 h6
  have hR : Ros w [L1, L2] [.arr none .site x1, .arr none .frac x2] := (h1.ro (τ := .site) (h2.ro (τ := .frac) trivial))
  exact hc.law (σ := sgOf [L1, L2]) ⟨⟨rfl, h0.ok⟩, h1.rel rfl, h2.rel rfl, ⟨rfl, h3.ok⟩, ⟨rfl, inR_iff.2 h4⟩, ⟨rfl, h5.ok⟩, ⟨rfl, h6.ok⟩, trivial⟩ (MRel.ros hR) (Glob.none _ w) (fun b hb => List.getElem?_eq_none hb) hR.still
theorem lifted (os : Os) (started : os.Started) (H : Type) (enc : TypeId × Value → H) :
    ReturnsInHanded {} Tryz.checked os 5 .any (Rows.delayClocksSpec.pre6 enc Tryz.prog Tryz.f5 Rows.delayClocksRow.domain false) (Rows.delayClocksSpec.post enc Tryz.prog Tryz.f5 false true false false) := by
  refine returnsInHanded_of_change (C := Tryz.checked) own started (by kernel_rfl) Tryz.func5
    (ChangeSpec.witness6 (enc := enc) (C := Tryz.checked) false ⟨#[], #[.agg #[.int .i64 0, .int .i64 0], .slice none 0 0, .slice none 0 0, .agg #[.string ByteArray.empty, .int .i64 0, .int .i64 0], .int .i64 0, .agg #[.int .i64 0, .int .i64 0], .agg #[.int .i64 0, .int .i64 0]], []⟩ 8 (by kernel_rfl) (by kernel_rfl) (by kernel_rfl) (by kernel_rfl)) ?_
  intro W base args ds gs before hval0 hW hcnd _
  have hval : ∀ (j : Nat) t v, Tryz.f5.params[j]? = some t → args[j]? = some v → Value.okWide Tryz.prog W .any base t v := hval0
  have hW' := hW
  obtain ⟨p, q, hA0, hV, rfl, hfz, hnd⟩ := hW
  have hA : DataW.TrodAll enc Tryz.prog W 0 (fun _ => true) true Tryz.f5.params.toList args.toList ds p := hA0
  rw [Tryz.params5] at hA hval
  obtain ⟨v0, vs0, d0, ds0, p0, q0, hargs, rfl, rfl, h0, r0⟩ := trodAll_cons hA
  obtain ⟨v1, vs1, d1, ds1, p1, q1, rfl, rfl, rfl, h1, r1⟩ := trodAll_cons r0
  obtain ⟨v2, vs2, d2, ds2, p2, q2, rfl, rfl, rfl, h2, r2⟩ := trodAll_cons r1
  obtain ⟨v3, vs3, d3, ds3, p3, q3, rfl, rfl, rfl, h3, r3⟩ := trodAll_cons r2
  obtain ⟨v4, vs4, d4, ds4, p4, q4, rfl, rfl, rfl, h4, r4⟩ := trodAll_cons r3
  obtain ⟨v5, vs5, d5, ds5, p5, q5, rfl, rfl, rfl, h5, r5⟩ := trodAll_cons r4
  obtain ⟨v6, vs6, d6, ds6, p6, q6, rfl, rfl, rfl, h6, r6⟩ := trodAll_cons r5
  obtain ⟨rfl, rfl, rfl⟩ := trodAll_nil r6
  obtain rfl : args = #[v0, v1, v2, v3, v4, v5, v6] := by cases args; simp_all
  obtain ⟨rfl, rfl⟩ := trodVars_none hV
  have lt0 : ∀ x ∈ p0, x.block < W.heap.size := by obtain ⟨m, hm⟩ := h0; exact DataW.trod_lt m _ _ _ hm
  have lt1 : ∀ x ∈ p1, x.block < W.heap.size := by obtain ⟨m, hm⟩ := h1; exact DataW.trod_lt m _ _ _ hm
  have lt2 : ∀ x ∈ p2, x.block < W.heap.size := by obtain ⟨m, hm⟩ := h2; exact DataW.trod_lt m _ _ _ hm
  have lt3 : ∀ x ∈ p3, x.block < W.heap.size := by obtain ⟨m, hm⟩ := h3; exact DataW.trod_lt m _ _ _ hm
  have lt4 : ∀ x ∈ p4, x.block < W.heap.size := by obtain ⟨m, hm⟩ := h4; exact DataW.trod_lt m _ _ _ hm
  have lt5 : ∀ x ∈ p5, x.block < W.heap.size := by obtain ⟨m, hm⟩ := h5; exact DataW.trod_lt m _ _ _ hm
  have lt6 : ∀ x ∈ p6, x.block < W.heap.size := by obtain ⟨m, hm⟩ := h6; exact DataW.trod_lt m _ _ _ hm
  obtain ⟨l0, rfl, w0⟩ := arg_agg (P := Tryz.prog) (ts := [3, 3]) (ks := [.int .i64 0, .int .i64 0]) (by kernel_rfl) (by kernel_rfl) (by kernel_rfl) (by kernel_rfl) (hval 0 23 v0 rfl rfl)
  obtain ⟨x1, L1, w1⟩ := arg_slice (P := Tryz.prog) (τ := .site) Tryz.underlying24 (by kernel_rfl) (by kernel_rfl) of_site_fits (hval 1 24 v1 rfl rfl) h1
  obtain ⟨x2, L2, w2⟩ := arg_slice (P := Tryz.prog) (τ := .frac) Tryz.underlying46 (by kernel_rfl) (by kernel_rfl) of_frac_fits (hval 2 46 v2 rfl rfl) h2
  obtain ⟨l3, rfl, w3⟩ := arg_agg (P := Tryz.prog) (ts := [9, 3, 3]) (ks := [.str ByteArray.empty, .int .i64 0, .int .i64 0]) (by kernel_rfl) (by kernel_rfl) (by kernel_rfl) (by kernel_rfl) (hval 3 26 v3 rfl rfl)
  obtain ⟨x4, rfl, w4⟩ := cell_int (P := Tryz.prog) Tryz.underlying3 (arg_cell (by kernel_rfl) (hval 4 3 v4 rfl rfl))
  obtain ⟨l5, rfl, w5⟩ := arg_agg (P := Tryz.prog) (ts := [2, 2]) (ks := [.int .i64 0, .int .i64 0]) (by kernel_rfl) (by kernel_rfl) (by kernel_rfl) (by kernel_rfl) (hval 5 28 v5 rfl rfl)
  obtain ⟨l6, rfl, w6⟩ := arg_agg (P := Tryz.prog) (ts := [2, 2]) (ks := [.int .i64 0, .int .i64 0]) (by kernel_rfl) (by kernel_rfl) (by kernel_rfl) (by kernel_rfl) (hval 6 28 v6 rfl rfl)
  clear hA0 hval0
  refine (walk l0 v1 x1 L1 v2 x2 L2 l3 x4 l5 l6 W w0 w1 w2 w3 w4 w5 w6).mono fun e W' ⟨he, bel⟩ => ?_
  subst he
  exact ⟨_, rfl, _, _, _, [], _, [], hW', trodAll_mk1 (shut_bool Tryz.underlying4 _), (trodAll_cons_mk (Below.trod laidOut (by kernel_rfl) (of_decide_eq_true (by kernel_rfl)) h0 bel lt0) (trodAll_cons_mk (Below.trod laidOut (by kernel_rfl) (of_decide_eq_true (by kernel_rfl)) h1 bel lt1) (trodAll_cons_mk (Below.trod laidOut (by kernel_rfl) (of_decide_eq_true (by kernel_rfl)) h2 bel lt2) (trodAll_cons_mk (Below.trod laidOut (by kernel_rfl) (of_decide_eq_true (by kernel_rfl)) h3 bel lt3) (trodAll_cons_mk (Below.trod laidOut (by kernel_rfl) (of_decide_eq_true (by kernel_rfl)) h4 bel lt4) (trodAll_cons_mk (Below.trod laidOut (by kernel_rfl) (of_decide_eq_true (by kernel_rfl)) h5 bel lt5) (trodAll_cons_mk (Below.trod laidOut (by kernel_rfl) (of_decide_eq_true (by kernel_rfl)) h6 bel lt6) trodAll_mk0))))))), rfl, bel.frame _, fun h => by cases h⟩
theorem over : Rows.delayClocksRow.holds Tryz.pinned (OpenSpec.ofChange Rows.delayClocksSpec) :=
  OpenClaim.holds_of_wide 5 Tryz.f5 rfl rfl rfl rfl rfl rfl rfl ⟨rfl, rfl, rfl, rfl, rfl⟩ rfl rfl rfl rfl rfl (by kernel_rfl) Tryz.func5 (by kernel_rfl)
    (of_decide_eq_true (by kernel_rfl)) (by unfold Func.isWrapper; first | (rw [if_pos (by decide +kernel)]; kernel_rfl) | (rw [if_neg (by decide +kernel)]; exact ⟨rfl, rfl⟩))
    (fun os started H enc _ => lifted os started H enc)
theorem proved : Rows.DelayClocksSaid := over
#print axioms proved
end Go.Proofs.YtifoghbobjlcfaaGreat.delayClocks

