/-
  TrackAlong: along a sum of two vectors and the sum along both have a number in common, and along the axis Z it is the sine of the declination; for any source, tick and vectors. No condition.
-/
import Derived.Test.YtdgegcaljelohaaAlCE
import Derived.Test.YtdgegcaljelohaaRows
import Derived.WalkKit
import Derived.ProofKit
import Derived.OpenShut
import Derived.ShutString
import Derived.ChangeOld
import Derived.Below
namespace Go.Ev
open Go Go.Proofs

theorem true_TrackAlong (l0 : List D) (x1 : Int) (l2 : List D) (l3 : List D) (h0 : FitsR [.str ByteArray.empty, .int .i64 0, .int .i64 0] l0) (_ : IntKind.i64.has x1) (h2 : FitsR [.int .i64 0, .int .i64 0, .int .i64 0, .int .i64 0, .int .i64 0, .int .i64 0] l2) (h3 : FitsR [.int .i64 0, .int .i64 0, .int .i64 0, .int .i64 0, .int .i64 0, .int .i64 0] l3) (K : AV → List Blk → Ans) :
    T_fringelaw06_TrackAlong 7 [.v (.agg l0), aint .i64 x1, .v (.agg l2), .v (.agg l3)] [] K = K (abool true) [] := by
  match l0, h0 with
  | [.str _, .int _ _, .int _ _], ⟨_, ⟨rfl, _⟩, ⟨rfl, _⟩, _⟩ =>
    match l2, h2 with
    | [.int _ _, .int _ _, .int _ _, .int _ _, .int _ _, .int _ _], ⟨⟨rfl, _⟩, ⟨rfl, _⟩, ⟨rfl, _⟩, ⟨rfl, _⟩, ⟨rfl, _⟩, ⟨rfl, _⟩, _⟩ =>
      match l3, h3 with
      | [.int _ _, .int _ _, .int _ _, .int _ _, .int _ _, .int _ _], ⟨⟨rfl, _⟩, ⟨rfl, _⟩, ⟨rfl, _⟩, ⟨rfl, _⟩, ⟨rfl, _⟩, ⟨rfl, _⟩, _⟩ =>
        rfl

end Go.Ev

namespace Go.Proofs.Ytdgegcaljelohaa.trackAlong
open Go.ChangeShapes Go.WideShapes Go.ChangeAt Go.RowKit Go.Ev
open Go.ChangeMaps (open_string shut_string)

theorem own : ownKnob Try.prog.godebug = none := by kernel_rfl
theorem laidOut : laidOutB Try.prog = true := by kernel_rfl

/-- The Go function returns true and turns nothing that was there. -/
theorem walk (l0 : List D) (x1 : Int) (l2 : List D) (l3 : List D) (w : World) (h0 : FitsR [.str ByteArray.empty, .int .i64 0, .int .i64 0] l0) (h1 : IntKind.i64.has x1) (h2 : FitsR [.int .i64 0, .int .i64 0, .int .i64 0, .int .i64 0, .int .i64 0, .int .i64 0] l2) (h3 : FitsR [.int .i64 0, .int .i64 0, .int .i64 0, .int .i64 0, .int .i64 0, .int .i64 0] l3) :
    Calls Try.prog 7 #[.agg (l0.map D.val).toArray, .int .i64 x1, .agg (l2.map D.val).toArray, .agg (l3.map D.val).toArray] w fun e w' => e = .returned (.bool true) ∧ Below w.heap.size w w' := by
  have ht : T_fringelaw06_TrackAlong 7 [.v (.agg l0), aint .i64 x1, .v (.agg l2), .v (.agg l3)] [] (fun v M => some (.fin v M)) = some (.fin (abool true) []) := true_TrackAlong l0 x1 l2 l3 h0 h1 h2 h3 (fun v M => some (.fin v M))
  obtain ⟨v, M, _, hc, hk⟩ := g_fringelaw06_TrackAlong.call 7 _ _ _ _ ht
  cases hk
  exact hc.law (σ := fun _ => none) ⟨⟨rfl, h0.ok⟩, ⟨rfl, inR_iff.2 h1⟩, ⟨rfl, h2.ok⟩, ⟨rfl, h3.ok⟩, trivial⟩ (MRel.none w) (Glob.none _ w) (fun _ _ => rfl) (fun _ _ _ h => by cases h)

set_option maxRecDepth 100000 in
theorem lifted (os : Os) (started : os.Started) (H : Type) (enc : TypeId × Value → H) :
    ReturnsInHanded {} Try.checked os 7 .any (Rows.trackAlongSpec.pre6 enc Try.prog Try.f7 Rows.trackAlongRow.domain false) (Rows.trackAlongSpec.post enc Try.prog Try.f7 false true false false) := by
  refine returnsInHanded_of_change (C := Try.checked) own started (by kernel_rfl) Try.func7
    (ChangeSpec.witness6 (enc := enc) (C := Try.checked) false ⟨#[], #[.agg #[.string ByteArray.empty, .int .i64 0, .int .i64 0], .int .i64 0, .agg #[.int .i64 0, .int .i64 0, .int .i64 0, .int .i64 0, .int .i64 0, .int .i64 0], .agg #[.int .i64 0, .int .i64 0, .int .i64 0, .int .i64 0, .int .i64 0, .int .i64 0]], []⟩ 8 (by kernel_rfl) (by kernel_rfl) (by kernel_rfl) (by kernel_rfl)) ?_
  intro W base args ds gs before hval0 hW hcnd _
  have hval : ∀ (j : Nat) t v, Try.f7.params[j]? = some t → args[j]? = some v → Value.okWide Try.prog W .any base t v := hval0
  have hW' := hW
  obtain ⟨p, q, hA0, hV, rfl, hfz, hnd⟩ := hW
  have hA : DataW.TrodAll enc Try.prog W 0 (fun _ => true) true Try.f7.params.toList args.toList ds p := hA0
  rw [Try.params7] at hA hval
  obtain ⟨v0, vs0, d0, ds0, p0, q0, hargs, rfl, rfl, h0, r0⟩ := trodAll_cons hA
  obtain ⟨v1, vs1, d1, ds1, p1, q1, rfl, rfl, rfl, h1, r1⟩ := trodAll_cons r0
  obtain ⟨v2, vs2, d2, ds2, p2, q2, rfl, rfl, rfl, h2, r2⟩ := trodAll_cons r1
  obtain ⟨v3, vs3, d3, ds3, p3, q3, rfl, rfl, rfl, h3, r3⟩ := trodAll_cons r2
  obtain ⟨rfl, rfl, rfl⟩ := trodAll_nil r3
  obtain rfl : args = #[v0, v1, v2, v3] := by cases args; simp_all
  obtain ⟨rfl, rfl⟩ := trodVars_none hV
  have lt0 : ∀ x ∈ p0, x.block < W.heap.size := by obtain ⟨m, hm⟩ := h0; exact DataW.trod_lt m _ _ _ hm
  have lt1 : ∀ x ∈ p1, x.block < W.heap.size := by obtain ⟨m, hm⟩ := h1; exact DataW.trod_lt m _ _ _ hm
  have lt2 : ∀ x ∈ p2, x.block < W.heap.size := by obtain ⟨m, hm⟩ := h2; exact DataW.trod_lt m _ _ _ hm
  have lt3 : ∀ x ∈ p3, x.block < W.heap.size := by obtain ⟨m, hm⟩ := h3; exact DataW.trod_lt m _ _ _ hm
  obtain ⟨l0, rfl, w0⟩ := arg_agg (P := Try.prog) (ts := [9, 3, 3]) (ks := [.str ByteArray.empty, .int .i64 0, .int .i64 0]) (by kernel_rfl) (by kernel_rfl) (by kernel_rfl) (by kernel_rfl) (hval 0 23 v0 rfl rfl)
  obtain ⟨x1, rfl, w1⟩ := cell_int (P := Try.prog) Try.underlying3 (arg_cell (by kernel_rfl) (hval 1 3 v1 rfl rfl))
  obtain ⟨l2, rfl, w2⟩ := arg_agg (P := Try.prog) (ts := [2, 2, 2, 2, 2, 2]) (ks := [.int .i64 0, .int .i64 0, .int .i64 0, .int .i64 0, .int .i64 0, .int .i64 0]) (by kernel_rfl) (by kernel_rfl) (by kernel_rfl) (by kernel_rfl) (hval 2 56 v2 rfl rfl)
  obtain ⟨l3, rfl, w3⟩ := arg_agg (P := Try.prog) (ts := [2, 2, 2, 2, 2, 2]) (ks := [.int .i64 0, .int .i64 0, .int .i64 0, .int .i64 0, .int .i64 0, .int .i64 0]) (by kernel_rfl) (by kernel_rfl) (by kernel_rfl) (by kernel_rfl) (hval 3 56 v3 rfl rfl)
  clear hA0 hval0
  refine (walk l0 x1 l2 l3 W w0 w1 w2 w3).mono fun e W' ⟨he, bel⟩ => ?_
  subst he
  exact ⟨_, rfl, _, _, _, [], _, [], hW', trodAll_mk1 (shut_bool Try.underlying4 _), (trodAll_cons_mk (Below.trod laidOut (by kernel_rfl) (of_decide_eq_true (by kernel_rfl)) h0 bel lt0) (trodAll_cons_mk (Below.trod laidOut (by kernel_rfl) (of_decide_eq_true (by kernel_rfl)) h1 bel lt1) (trodAll_cons_mk (Below.trod laidOut (by kernel_rfl) (of_decide_eq_true (by kernel_rfl)) h2 bel lt2) (trodAll_cons_mk (Below.trod laidOut (by kernel_rfl) (of_decide_eq_true (by kernel_rfl)) h3 bel lt3) trodAll_mk0)))), rfl, bel.frame _, fun h => by cases h⟩

theorem over : Rows.trackAlongRow.holds Try.pinned (OpenSpec.ofChange Rows.trackAlongSpec) :=
  OpenClaim.holds_of_wide 7 Try.f7 rfl rfl rfl rfl rfl rfl rfl ⟨rfl, rfl, rfl, rfl, rfl⟩ rfl rfl rfl rfl rfl (by kernel_rfl) Try.func7 (by kernel_rfl)
    (of_decide_eq_true (by kernel_rfl)) (by unfold Func.isWrapper; first | (rw [if_pos (by decide +kernel)]; kernel_rfl) | (rw [if_neg (by decide +kernel)]; exact ⟨rfl, rfl⟩))
    (fun os started H enc _ => lifted os started H enc)

theorem proved : Rows.TrackAlongSaid := over
#print axioms proved
end Go.Proofs.Ytdgegcaljelohaa.trackAlong
