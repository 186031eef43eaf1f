/-
  The table of contracts begins: equality of plain structs, functions without a body. No condition.
-/
import Derived.Test.YtglifoijcdfjaaaGreatDoorProjAll
import Derived.Test.YtglifoijcdfjaaaGreatDoorRows
import Derived.WalkKit
import Derived.Laws.Externs
namespace Go.Ev
open Go Go.Proofs

theorem eq30 : EqOK Tryz.prog 30 := EqOK.ofShape (d := 12) (z := [.int .i64 0, .int .i64 0]) (by kernel_rfl) (by kernel_rfl) (by omega) (by kernel_rfl) (by kernel_rfl)

theorem eq32 : EqOK Tryz.prog 32 := EqOK.ofShape (d := 12) (z := [.int .i64 0, .int .i64 0, .int .i64 0, .int .i64 0, .int .i64 0, .int .i64 0]) (by kernel_rfl) (by kernel_rfl) (by omega) (by kernel_rfl) (by kernel_rfl)

theorem eq34 : EqOK Tryz.prog 34 := EqOK.ofShape (d := 12) (z := [.int .i64 0, .int .i64 0, .int .i64 0, .int .i64 0, .int .i64 0, .int .i64 0, .int .i64 0, .int .i64 0, .int .i64 0, .int .i64 0, .int .i64 0, .int .i64 0, .int .i64 0, .int .i64 0, .int .i64 0, .int .i64 0, .int .i64 0, .int .i64 0]) (by kernel_rfl) (by kernel_rfl) (by omega) (by kernel_rfl) (by kernel_rfl)

theorem eq23 : EqOK Tryz.prog 23 := EqOK.ofShape (d := 12) (z := [.int .i64 0, .int .i64 0]) (by kernel_rfl) (by kernel_rfl) (by omega) (by kernel_rfl) (by kernel_rfl)

theorem eq25 : EqOK Tryz.prog 25 := EqOK.ofShape (d := 12) (z := [.int .i64 0, .int .i64 0, .int .i64 0, .int .i64 0, .int .i64 0, .int .i64 0]) (by kernel_rfl) (by kernel_rfl) (by omega) (by kernel_rfl) (by kernel_rfl)

theorem eq83 : EqOK Tryz.prog 83 := EqOK.ofShape (d := 12) (z := [.int .i64 0, .int .i64 0, .int .i64 0]) (by kernel_rfl) (by kernel_rfl) (by omega) (by kernel_rfl) (by kernel_rfl)

theorem eq119 : EqOK Tryz.prog 119 := EqOK.ofShape (d := 12) (z := [.int .u64 0, .int .u64 0, .int .u64 0, .int .u64 0]) (by kernel_rfl) (by kernel_rfl) (by omega) (by kernel_rfl) (by kernel_rfl)

def EQT : List Nat := [30, 32, 34, 23, 25, 83, 119]

theorem hEQT : ∀ t, t ∈ EQT → EqOK Tryz.prog t := by
  intro t ht
  simp only [EQT, List.mem_cons, List.not_mem_nil, or_false] at ht
  rcases ht with rfl | rfl | rfl | rfl | rfl | rfl | rfl
  · exact eq30
  · exact eq32
  · exact eq34
  · exact eq23
  · exact eq25
  · exact eq83
  · exact eq119

theorem hmT : Tryz.prog.follows .mixedOrders = true := by kernel_rfl

/-- The model's entry for math/bits.Sub64. -/
def sub64E : Array Value → Sem Value := fun args => do
  let (x, y, b) ← Extern.MathBitsCarry.three "Sub64" args
  pure (Extern.MathBitsCarry.pair ((x + Extern.MathBitsCarry.m64 - y - b) % Extern.MathBitsCarry.m64) (if x < y + b then 1 else 0))

theorem run_sub64E {P : Program} (x y b : Nat) (hb : b ≤ 1) (w : World) :
    (sub64E #[.int .u64 x, .int .u64 y, .int .u64 b]).run P w =
      .ok (.tuple #[.int .u64 (((x + 18446744073709551616 - y - b) % 18446744073709551616 : Nat) : Int), .int .u64 ((if x < y + b then 1 else 0 : Nat) : Int)]) w := by
  have : b = 0 ∨ b = 1 := by omega
  rcases this with rfl | rfl <;> rfl

theorem u64_ok {n : Int} (h : 0 ≤ n ∧ n ≤ 18446744073709551615) : D.ok (.int .u64 n) := by simp [D.ok, inR, h.1, h.2]

/-- Functions without a body: sums and differences with carry. -/
def XT : Nat → List AV → (AV → Ans) → Ans := fun f xs K => match xs with
  | [.v (.c (.d (.int .u64 x))), .v (.c (.d (.int .u64 y))), .v (.c (.d (.int .u64 c)))] =>
    bif f == 101 then (bif decide (c ≤ 1) then K (rUU (add64 x y c)) else none) else bif f == 103 then (bif decide (c ≤ 1) then K (rUU (sub64 x y c)) else none) else none
  | _ => none

theorem hXT : ∀ f xs K r, XT f xs K = some r → ∃ v, ExtA Tryz.prog f xs v ∧ K v = some r := by
  intro f xs K r h
  unfold XT at h
  split at h
  · rename_i x y c
    simp only [cond_eq_ite, beq_iff_eq, decide_eq_true_eq] at h
    have open3 : ∀ {σ : Sg} {args : Array Value}, AVRels σ [.v (.c (.d (.int .u64 x))), .v (.c (.d (.int .u64 y))), .v (.c (.d (.int .u64 c)))] args.toList → args = #[.int .u64 x, .int .u64 y, .int .u64 c] ∧ (0 ≤ x ∧ x ≤ 18446744073709551615) ∧ (0 ≤ y ∧ y ≤ 18446744073709551615) ∧ 0 ≤ c := by
      intro σ args ha
      match e : args.toList, ha with
      | [u, v, z], ⟨⟨h1, h1'⟩, ⟨h2, h2'⟩, ⟨h3, h3'⟩, _⟩ =>
        refine ⟨?_, inR_u64 h1', inR_u64 h2', (inR_u64 h3').1⟩
        apply Array.ext'
        rw [e, h1, h2, h3]
        rfl
    split at h
    · rename_i ef
      subst ef
      split at h
      · rename_i hc
        refine ⟨_, ?_, h⟩
        intro σ args w ha
        obtain ⟨rfl, hx, hy, hc0⟩ := open3 ha
        refine ⟨.tuple #[.int .u64 ((x + y + c) % 18446744073709551616), .int .u64 ((x + y + c) / 18446744073709551616)], ?_, ?_⟩
        · rw [run_callFunc_extern Tryz.func101 (by kernel_rfl) (by kernel_rfl) (by kernel_rfl) (e := add64Entry) (by kernel_rfl), run_add64 x y c (by omega) (by omega) (by omega) (by omega)]
          rfl
        · exact ⟨_, rfl, ⟨rfl, u64_ok (by unfold add64; simp only; omega)⟩, ⟨rfl, u64_ok (by unfold add64; simp only; omega)⟩, trivial⟩
      · cases h
    · split at h
      · rename_i ef
        subst ef
        split at h
        · rename_i hc
          refine ⟨_, ?_, h⟩
          intro σ args w ha
          obtain ⟨rfl, hx, hy, hc0⟩ := open3 ha
          obtain ⟨x, rfl⟩ := Int.eq_ofNat_of_zero_le hx.1
          obtain ⟨y, rfl⟩ := Int.eq_ofNat_of_zero_le hy.1
          obtain ⟨c, rfl⟩ := Int.eq_ofNat_of_zero_le hc0
          refine ⟨.tuple #[.int .u64 (((x + 18446744073709551616 - y - c) % 18446744073709551616 : Nat) : Int), .int .u64 ((if x < y + c then 1 else 0 : Nat) : Int)], ?_, ?_⟩
          · rw [run_callFunc_extern Tryz.func103 (by kernel_rfl) (by kernel_rfl) (by kernel_rfl) (e := sub64E) (by kernel_rfl), run_sub64E x y c (by omega)]
            rfl
          · have e1 : (((x + 18446744073709551616 - y - c) % 18446744073709551616 : Nat) : Int) = (sub64 x y c).1 := by unfold sub64; simp only; omega
            have e2 : ((if x < y + c then 1 else 0 : Nat) : Int) = (sub64 x y c).2 := by
              unfold sub64
              simp only
              by_cases hlt : x < y + c
              · rw [if_pos hlt, decide_eq_true (by omega)]; rfl
              · rw [if_neg hlt, decide_eq_false (by omega)]; rfl
            rw [e1, e2]
            refine ⟨_, rfl, ⟨rfl, ?_⟩, ⟨rfl, ?_⟩, trivial⟩
            · rw [← e1]
              simp only [D.ok, inR, Bool.and_eq_true, decide_eq_true_eq]
              omega
            · simp only [D.ok, inR, Bool.and_eq_true, decide_eq_true_eq]
              rw [← e2]
              split <;> omega
        · cases h
      · cases h
  · cases h

def GT : Nat → Option (List D) := fun g => bif g == 0 then some [.int .i64 0, .int .i64 1] else none
def gbT : Nat := 1
def T0 : Nat → List AV → List Blk → (AV → List Blk → Ans) → Ans := fun _ _ _ _ => none
theorem g0 : GOK Tryz.prog GT gbT T0 XT := GOK.none hXT

end Go.Ev
