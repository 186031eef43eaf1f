/-
  The law SineWorks: its contract at the statement's arguments.
-/
import Derived.Test.YthnfmabjjndhhaaFiveCC
namespace Go.Ev
open Go Go.Proofs

theorem true_SineWorks (l0 l1 l2 : List D) (h0 : FitsR [.int .i64 0, .int .i64 0] l0) (h1 : FitsR [.int .i64 0, .int .i64 0] l1) (h2 : FitsR [.int .i64 0, .int .i64 0] l2) (K : AV → List Blk → Ans) :
    T_fringelaw05_SineWorks 4 [.v (.agg l0), .v (.agg l1), .v (.agg l2)] [] K = K (abool true) [] := by
  match l0, h0 with
  | [.int _ _, .int _ _], ⟨⟨rfl, _⟩, ⟨rfl, _⟩, _⟩ =>
    match l1, h1 with
    | [.int _ _, .int _ _], ⟨⟨rfl, _⟩, ⟨rfl, _⟩, _⟩ =>
      match l2, h2 with
      | [.int _ _, .int _ _], ⟨⟨rfl, _⟩, ⟨rfl, _⟩, _⟩ => rfl

end Go.Ev
