/-
  What a listed variable that is a fraction reads as: its two cells. No condition.
-/
import Derived.Test.YtglifoijcdfjaaaGreatDoorBase
import Derived.ChangeSame
import Derived.ChangeArms
import Derived.FnData
import Derived.MakeChecks
import GoSem.ClaimJoined
namespace Go.Ev
open Go Go.ChangeShapes Go.ChangeShapes

theorem laid_frac {P : Program} {w : World} {n : String} {g t : Nat} {f0 f1 : Field} {a b : Int} (hg : P.globalNamed n = some g) (ht : (P.globals[g]?).map (·.type) = some t)
    (hu : P.underlying t = some (.struct #[f0, f1])) (o0 : f0.offset = 0) (o1 : f1.offset = 1) (u0 : P.underlying f0.type = some (.int .i64)) (u1 : P.underlying f1.type = some (.int .i64))
    (c0 : P.cellsOf f0.type = 1) (c1 : P.cellsOf f1.type = 1) (c : P.cellsOf t = 2) {r : List (String × DataW Unit)} {ps : List MemPlace}
    (h : DataW.LaidVars P w ((n, .agg [.lit (.int .i64 a), .lit (.int .i64 b)]) :: r) ps) :
    (w.cell? ⟨g, 0, none⟩ = some (.int .i64 a) ∧ w.cell? ⟨g, 1, none⟩ = some (.int .i64 b)) ∧ ∃ q, DataW.LaidVars P w r q := by
  obtain ⟨g', t', cs, fuel, p, q, hg', ht', hv, hd, hr, _⟩ := h
  obtain rfl := Option.some.inj (hg.symm.trans hg')
  obtain rfl := Option.some.inj (ht.symm.trans ht')
  obtain ⟨y0, y1, m, e, hl, h0, h1⟩ := trod_struct2 hu hd
  simp only [Prod.mk.injEq, DataW.agg.injEq, List.cons.injEq, and_true] at e
  obtain ⟨x0, e0, z0, _⟩ := DataW.trod_int u0 h0
  obtain ⟨x1, e1, z1, _⟩ := DataW.trod_int u1 h1
  subst z0 z1
  simp only [DataW.lit.injEq, Lit.int.injEq, true_and] at e
  obtain ⟨⟨rfl, rfl⟩, _⟩ := e
  rw [o0, c0] at e0
  rw [o1, c1] at e1
  obtain ⟨l⟩ := cs
  have k0 := World.var?_cell hg hv 0
  have k1 := World.var?_cell hg hv 1
  match l, hl, e0, e1 with
  | [c0', c1'], _, e0, e1 =>
    simp at e0 e1
    subst e0 e1
    exact ⟨⟨by simpa using k0, by simpa using k1⟩, q, hr⟩
  | [], hl, _, _ => rw [c] at hl; simp at hl
  | [_], hl, _, _ => rw [c] at hl; simp at hl
  | _ :: _ :: _ :: _, hl, _, _ => rw [c] at hl; simp at hl

end Go.Ev
