/-
  Joining the parts of an enclosure gives it, splitting joined parts gives them, and a single number is never open. The conditions are those of the given statement.
-/
import Derived.Test.YtifoghbobjlcfaaPkS8
import Derived.Test.YtifoghbobjlcfaaRows
import Derived.WalkKit
import Derived.ProofKit
import Derived.OpenShut
import Derived.ShutString
import Derived.ChangeOld
import Derived.Below
set_option maxRecDepth 100000
namespace Go.Ev
open Go Go.Proofs
theorem fits_int {k : IntKind} {z : Int} {ks l : List D} (h : FitsR (.int k z :: ks) l) : ∃ n r, l = .int k n :: r ∧ FitsR ks r := by
  match l, h with
  | .int k' n :: r, ⟨h1, h2⟩ => exact ⟨n, r, by rw [h1.1], h2⟩
theorem fits_bool {z : Bool} {ks l : List D} (h : FitsR (.bool z :: ks) l) : ∃ n r, l = .bool n :: r ∧ FitsR ks r := by
  match l, h with
  | .bool n :: r, ⟨_, h2⟩ => exact ⟨n, r, rfl, h2⟩
theorem fits_string {z : ByteArray} {ks l : List D} (h : FitsR (.str z :: ks) l) : ∃ n r, l = .str n :: r ∧ FitsR ks r := by
  match l, h with
  | .str n :: r, ⟨_, h2⟩ => exact ⟨n, r, rfl, h2⟩
theorem fits_end {l : List D} (h : FitsR [] l) : l = [] := by
  match l, h with
  | [], _ => rfl
theorem true_DelayParts (l0 : List D) (l1 : List D) (h0 : FitsR [.int .i64 0, .int .i64 0] l0) (h1 : FitsR [.int .i64 0, .int .i64 0, .int .i64 0] l1) :
    CallsA Try.prog GT gbT 4 [.v (.agg l0), .v (.agg l1)] [] (abool true) [] := by
  have k0 := h0.ok
  obtain ⟨a0_0, m0_0, rfl, g0_0⟩ := fits_int h0
  obtain ⟨a0_1, m0_1, rfl, g0_1⟩ := fits_int g0_0
  cases fits_end g0_1
  have k1 := h1.ok
  obtain ⟨a1_0, m1_0, rfl, g1_0⟩ := fits_int h1
  obtain ⟨a1_1, m1_1, rfl, g1_1⟩ := fits_int g1_0
  obtain ⟨a1_2, m1_2, rfl, g1_2⟩ := fits_int g1_1
  cases fits_end g1_2
  have e := law_DelayParts (⟨a0_0, a0_1⟩ : Span) (⟨a1_0, ⟨a1_1, a1_2⟩⟩ : Delay) k0 k1
  have c := c_W9_DelayParts (⟨a0_0, a0_1⟩ : Span) (⟨a1_0, ⟨a1_1, a1_2⟩⟩ : Delay) (by rw [e])
  rw [e] at c
  exact c
end Go.Ev
namespace Go.Proofs.Ytifoghbobjlcfaa.delayParts
open Go.ChangeShapes Go.WideShapes Go.ChangeAt Go.RowKit Go.Ev
open Go.ChangeMaps (open_string shut_string)
theorem own : ownKnob Try.prog.godebug = none := by kernel_rfl
theorem laidOut : laidOutB Try.prog = true := by kernel_rfl
theorem walk (l0 : List D) (l1 : List D) (w : World) (h0 : FitsR [.int .i64 0, .int .i64 0] l0) (h1 : FitsR [.int .i64 0, .int .i64 0, .int .i64 0] l1) :
    Calls Try.prog 4 #[.agg (l0.map D.val).toArray, .agg (l1.map D.val).toArray] w fun e w' => e = .returned (.bool true) ∧ Below w.heap.size w w' := by
  have hc := true_DelayParts l0 l1 h0 h1
  exact hc.law (σ := fun _ => none) ⟨⟨rfl, h0.ok⟩, ⟨rfl, h1.ok⟩, trivial⟩ (MRel.none w) (Glob.none _ w) (fun _ _ => rfl) (fun _ => rfl)
theorem lifted (os : Os) (started : os.Started) (H : Type) (enc : TypeId × Value → H) :
    ReturnsInHanded {} Try.checked os 4 .any (Rows.delayPartsSpec.pre6 enc Try.prog Try.f4 Rows.delayPartsRow.domain false) (Rows.delayPartsSpec.post enc Try.prog Try.f4 false true false false) := by
  refine returnsInHanded_of_change (C := Try.checked) own started (by kernel_rfl) Try.func4
    (ChangeSpec.witness6 (enc := enc) (C := Try.checked) false ⟨#[], #[.agg #[.int .i64 0, .int .i64 0], .agg #[.int .i64 0, .int .i64 0, .int .i64 0]], []⟩ 8 (by kernel_rfl) (by kernel_rfl) (by kernel_rfl) (by kernel_rfl)) ?_
  intro W base args ds gs before hval0 hW hcnd _
  have hval : ∀ (j : Nat) t v, Try.f4.params[j]? = some t → args[j]? = some v → Value.okWide Try.prog W .any base t v := hval0
  have hW' := hW
  obtain ⟨p, q, hA0, hV, rfl, hfz, hnd⟩ := hW
  have hA : DataW.TrodAll enc Try.prog W 0 (fun _ => true) true Try.f4.params.toList args.toList ds p := hA0
  rw [Try.params4] at hA hval
  obtain ⟨v0, vs0, d0, ds0, p0, q0, hargs, rfl, rfl, h0, r0⟩ := trodAll_cons hA
  obtain ⟨v1, vs1, d1, ds1, p1, q1, rfl, rfl, rfl, h1, r1⟩ := trodAll_cons r0
  obtain ⟨rfl, rfl, rfl⟩ := trodAll_nil r1
  obtain rfl : args = #[v0, v1] := by cases args; simp_all
  obtain ⟨rfl, rfl⟩ := trodVars_none hV
  have lt0 : ∀ x ∈ p0, x.block < W.heap.size := by obtain ⟨m, hm⟩ := h0; exact DataW.trod_lt m _ _ _ hm
  have lt1 : ∀ x ∈ p1, x.block < W.heap.size := by obtain ⟨m, hm⟩ := h1; exact DataW.trod_lt m _ _ _ hm
  obtain ⟨l0, rfl, w0⟩ := arg_agg (P := Try.prog) (ts := [2, 2]) (ks := [.int .i64 0, .int .i64 0]) (by kernel_rfl) (by kernel_rfl) (by kernel_rfl) (by kernel_rfl) (hval 0 39 v0 rfl rfl)
  obtain ⟨l1, rfl, w1⟩ := arg_agg (P := Try.prog) (ts := [2, 2, 2]) (ks := [.int .i64 0, .int .i64 0, .int .i64 0]) (by kernel_rfl) (by kernel_rfl) (by kernel_rfl) (by kernel_rfl) (hval 1 41 v1 rfl rfl)
  clear hA0 hval0
  refine (walk l0 l1 W w0 w1).mono fun e W' ⟨he, bel⟩ => ?_
  subst he
  exact ⟨_, rfl, _, _, _, [], _, [], hW', trodAll_mk1 (shut_bool Try.underlying4 _), (trodAll_cons_mk (Below.trod laidOut (by kernel_rfl) (of_decide_eq_true (by kernel_rfl)) h0 bel lt0) (trodAll_cons_mk (Below.trod laidOut (by kernel_rfl) (of_decide_eq_true (by kernel_rfl)) h1 bel lt1) trodAll_mk0)), rfl, bel.frame _, fun h => by cases h⟩
theorem over : Rows.delayPartsRow.holds Try.pinned (OpenSpec.ofChange Rows.delayPartsSpec) :=
  OpenClaim.holds_of_wide 4 Try.f4 rfl rfl rfl rfl rfl rfl rfl ⟨rfl, rfl, rfl, rfl, rfl⟩ rfl rfl rfl rfl rfl (by kernel_rfl) Try.func4 (by kernel_rfl)
    (of_decide_eq_true (by kernel_rfl)) (by unfold Func.isWrapper; first | (rw [if_pos (by decide +kernel)]; kernel_rfl) | (rw [if_neg (by decide +kernel)]; exact ⟨rfl, rfl⟩))
    (fun os started H enc _ => lifted os started H enc)
theorem proved : Rows.DelayPartsSaid := over
#print axioms proved
end Go.Proofs.Ytifoghbobjlcfaa.delayParts

