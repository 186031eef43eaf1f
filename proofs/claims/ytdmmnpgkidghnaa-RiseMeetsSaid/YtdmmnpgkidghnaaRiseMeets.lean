/-
  RiseMeets: Check, Meet and Next return the reference's results and errors for any windows and numbers, and leave the windows as they were. No condition.
-/
import Derived.Test.YtdmmnpgkidghnaaMeetL
import Derived.Test.YtdmmnpgkidghnaaRows
import Derived.WalkKit
import Derived.ProofKit
import Derived.OpenShut
import Derived.ShutString
import Derived.ChangeOld
import Derived.Below
import Derived.Test.YtdmmnpgkidghnaaArgs
namespace Go.Ev
open Go Go.Proofs

theorem fits_int {k : IntKind} {z : Int} {ks l : List D} (h : FitsR (.int k z :: ks) l) : ∃ n r, l = .int k n :: r ∧ FitsR ks r := by
  match l, h with
  | .int k' n :: r, ⟨h1, h2⟩ => exact ⟨n, r, by rw [h1.1], h2⟩
theorem fits_bool {z : Bool} {ks l : List D} (h : FitsR (.bool z :: ks) l) : ∃ n r, l = .bool n :: r ∧ FitsR ks r := by
  match l, h with
  | .bool n :: r, ⟨_, h2⟩ => exact ⟨n, r, rfl, h2⟩
theorem fits_string {z : ByteArray} {ks l : List D} (h : FitsR (.str z :: ks) l) : ∃ n r, l = .str n :: r ∧ FitsR ks r := by
  match l, h with
  | .str n :: r, ⟨_, h2⟩ => exact ⟨n, r, rfl, h2⟩
theorem fits_end {l : List D} (h : FitsR [] l) : l = [] := by
  match l, h with
  | [], _ => rfl

theorem true_RiseMeets (x0 : List Window) (x1 : List Window) (x2 : Int) (x3 : Int) (_ : (∀ d ∈ ET.flat .win x0, d.ok) ∧ x0.length ≤ maxLen) (_ : (∀ d ∈ ET.flat .win x1, d.ok) ∧ x1.length ≤ maxLen) (_ : IntKind.i64.has x2) (_ : IntKind.i64.has x3) :
    CallsA Try.prog GT gbT 4 [.v (.c (.aslice 0 none)), .v (.c (.aslice 1 none)), aint .i64 x2, aint .i64 x3] [.arr none .win x0, .arr none .win x1] (abool true) [.arr none .win x0, .arr none .win x1] := by
  have e := law_RiseMeets x0 x1 x2 x3
  have c := c_fringelaw07_RiseMeets x0 x1 x2 x3 (by rw [e])
  rw [e] at c
  exact c

end Go.Ev

namespace Go.Proofs.Ytdmmnpgkidghnaa.riseMeets
open Go.ChangeShapes Go.WideShapes Go.ChangeAt Go.RowKit Go.Ev
open Go.ChangeMaps (open_string shut_string)

theorem own : ownKnob Try.prog.godebug = none := by kernel_rfl
theorem laidOut : laidOutB Try.prog = true := by kernel_rfl

/-- The Go function returns true and turns nothing that was there. -/
theorem walk (v0 : Value) (x0 : List Window) (L0 : Go.Ev.Loc) (v1 : Value) (x1 : List Window) (L1 : Go.Ev.Loc) (x2 : Int) (x3 : Int) (w : World) (h0 : InArr w .win v0 x0 L0) (h1 : InArr w .win v1 x1 L1) (h2 : IntKind.i64.has x2) (h3 : IntKind.i64.has x3) :
    Calls Try.prog 4 #[v0, v1, .int .i64 x2, .int .i64 x3] w fun e w' => e = .returned (.bool true) ∧ Below w.heap.size w w' := by
  have hc := true_RiseMeets x0 x1 x2 x3 ⟨h0.ok, h0.len⟩ ⟨h1.ok, h1.len⟩ h2 h3
  have hR : Ros w [L0, L1] [.arr none .win x0, .arr none .win x1] := (h0.ro (τ := .win) (h1.ro (τ := .win) trivial))
  exact hc.law (σ := sgOf [L0, L1]) ⟨h0.rel rfl, h1.rel rfl, ⟨rfl, inR_iff.2 h2⟩, ⟨rfl, inR_iff.2 h3⟩, trivial⟩ (MRel.ros hR) (Glob.none _ w) (fun b hb => List.getElem?_eq_none hb) hR.still

set_option maxRecDepth 100000 in
theorem lifted (os : Os) (started : os.Started) (H : Type) (enc : TypeId × Value → H) :
    ReturnsInHanded {} Try.checked os 4 .any (Rows.riseMeetsSpec.pre6 enc Try.prog Try.f4 Rows.riseMeetsRow.domain false) (Rows.riseMeetsSpec.post enc Try.prog Try.f4 false true false false) := by
  refine returnsInHanded_of_change (C := Try.checked) own started (by kernel_rfl) Try.func4
    (ChangeSpec.witness6 (enc := enc) (C := Try.checked) false ⟨#[], #[.slice none 0 0, .slice none 0 0, .int .i64 0, .int .i64 0], []⟩ 8 (by kernel_rfl) (by kernel_rfl) (by kernel_rfl) (by kernel_rfl)) ?_
  intro W base args ds gs before hval0 hW hcnd _
  have hval : ∀ (j : Nat) t v, Try.f4.params[j]? = some t → args[j]? = some v → Value.okWide Try.prog W .any base t v := hval0
  have hW' := hW
  obtain ⟨p, q, hA0, hV, rfl, hfz, hnd⟩ := hW
  have hA : DataW.TrodAll enc Try.prog W 0 (fun _ => true) true Try.f4.params.toList args.toList ds p := hA0
  rw [Try.params4] at hA hval
  obtain ⟨v0, vs0, d0, ds0, p0, q0, hargs, rfl, rfl, h0, r0⟩ := trodAll_cons hA
  obtain ⟨v1, vs1, d1, ds1, p1, q1, rfl, rfl, rfl, h1, r1⟩ := trodAll_cons r0
  obtain ⟨v2, vs2, d2, ds2, p2, q2, rfl, rfl, rfl, h2, r2⟩ := trodAll_cons r1
  obtain ⟨v3, vs3, d3, ds3, p3, q3, rfl, rfl, rfl, h3, r3⟩ := trodAll_cons r2
  obtain ⟨rfl, rfl, rfl⟩ := trodAll_nil r3
  obtain rfl : args = #[v0, v1, v2, v3] := by cases args; simp_all
  obtain ⟨rfl, rfl⟩ := trodVars_none hV
  have lt0 : ∀ x ∈ p0, x.block < W.heap.size := by obtain ⟨m, hm⟩ := h0; exact DataW.trod_lt m _ _ _ hm
  have lt1 : ∀ x ∈ p1, x.block < W.heap.size := by obtain ⟨m, hm⟩ := h1; exact DataW.trod_lt m _ _ _ hm
  have lt2 : ∀ x ∈ p2, x.block < W.heap.size := by obtain ⟨m, hm⟩ := h2; exact DataW.trod_lt m _ _ _ hm
  have lt3 : ∀ x ∈ p3, x.block < W.heap.size := by obtain ⟨m, hm⟩ := h3; exact DataW.trod_lt m _ _ _ hm
  obtain ⟨x0, L0, w0⟩ := arg_slice (P := Try.prog) (τ := .win) Try.underlying36 (by kernel_rfl) (by kernel_rfl) of_win_fits (hval 0 36 v0 rfl rfl) h0
  obtain ⟨x1, L1, w1⟩ := arg_slice (P := Try.prog) (τ := .win) Try.underlying36 (by kernel_rfl) (by kernel_rfl) of_win_fits (hval 1 36 v1 rfl rfl) h1
  obtain ⟨x2, rfl, w2⟩ := cell_int (P := Try.prog) Try.underlying3 (arg_cell (by kernel_rfl) (hval 2 3 v2 rfl rfl))
  obtain ⟨x3, rfl, w3⟩ := cell_int (P := Try.prog) Try.underlying3 (arg_cell (by kernel_rfl) (hval 3 3 v3 rfl rfl))
  clear hA0 hval0
  refine (walk v0 x0 L0 v1 x1 L1 x2 x3 W w0 w1 w2 w3).mono fun e W' ⟨he, bel⟩ => ?_
  subst he
  exact ⟨_, rfl, _, _, _, [], _, [], hW', trodAll_mk1 (shut_bool Try.underlying4 _), (trodAll_cons_mk (Below.trod laidOut (by kernel_rfl) (of_decide_eq_true (by kernel_rfl)) h0 bel lt0) (trodAll_cons_mk (Below.trod laidOut (by kernel_rfl) (of_decide_eq_true (by kernel_rfl)) h1 bel lt1) (trodAll_cons_mk (Below.trod laidOut (by kernel_rfl) (of_decide_eq_true (by kernel_rfl)) h2 bel lt2) (trodAll_cons_mk (Below.trod laidOut (by kernel_rfl) (of_decide_eq_true (by kernel_rfl)) h3 bel lt3) trodAll_mk0)))), rfl, bel.frame _, fun h => by cases h⟩

theorem over : Rows.riseMeetsRow.holds Try.pinned (OpenSpec.ofChange Rows.riseMeetsSpec) :=
  OpenClaim.holds_of_wide 4 Try.f4 rfl rfl rfl rfl rfl rfl rfl ⟨rfl, rfl, rfl, rfl, rfl⟩ rfl rfl rfl rfl rfl (by kernel_rfl) Try.func4 (by kernel_rfl)
    (of_decide_eq_true (by kernel_rfl)) (by unfold Func.isWrapper; first | (rw [if_pos (by decide +kernel)]; kernel_rfl) | (rw [if_neg (by decide +kernel)]; exact ⟨rfl, rfl⟩))
    (fun os started H enc _ => lifted os started H enc)

theorem proved : Rows.RiseMeetsSaid := over
#print axioms proved
end Go.Proofs.Ytdmmnpgkidghnaa.riseMeets
