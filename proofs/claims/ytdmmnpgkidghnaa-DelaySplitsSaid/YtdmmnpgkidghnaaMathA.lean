/-
  Small facts on plain data: wraps, equal cells, valid enclosures.
-/
import Derived.Test.YtdmmnpgkidghnaaSpec
namespace Go.Ev

theorem eqAll_self : ∀ l : List D, eqAll l l = true
  | [] => rfl
  | x :: r => by simp only [eqAll, eqAll_self r, Bool.and_true]; cases x <;> simp [D.eq]

theorem w64_id {n : Int} (h : -9223372036854775808 ≤ n) (h' : n ≤ 9223372036854775807) : w64 n = n := by
  simp only [w64, wr]
  omega

theorem wu64_id {n : Int} (h : 0 ≤ n) (h' : n ≤ 18446744073709551615) : wu64 n = n := by
  simp only [wu64, wr]
  omega

end Go.Ev
