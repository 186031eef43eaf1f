/-
  From the evaluator's contracts to the form of the statements: arguments opened, memory kept, equality of structs. No condition.
-/
import Derived.Test.YtdmmnpgkidghnaaLoop
import Derived.ProofKit
import Derived.Below
import Derived.KernelRfl
namespace Go.Ev
open Go Go.RowKit

theorem fits_cons {z : D} {zs a : List D} (h : fitsTo (z :: zs) a = true) : ∃ x r, a = x :: r ∧ D.same z x = true ∧ fitsTo zs r = true := by
  cases a with
  | nil => cases h
  | cons x r => simp only [fitsTo, Bool.and_eq_true] at h; exact ⟨x, r, rfl, h.1, h.2⟩

theorem fits_nil {a : List D} (h : fitsTo [] a = true) : a = [] := by cases a with | nil => rfl | cons _ _ => cases h

theorem same_int {k : IntKind} {m : Int} {x : D} (h : D.same (.int k m) x = true) : ∃ n, x = .int k n := by
  cases x with
  | int k' n => simp only [D.same, decide_eq_true_eq] at h; exact ⟨n, by rw [h]⟩
  | bool _ => cases h
  | str _ => cases h

theorem eqok_of {P : Program} {t : TypeId} (hg : P.eqGuardType P.depth t = false)
    (h : ∀ (z a b : List D) (w : World), zeroD P t = some z → fitsTo z a = true → fitsTo z b = true → (Op.equalIn 10000 t (.agg (a.map D.val).toArray) (.agg (b.map D.val).toArray)).run P w = .ok (eqAll a b) w) : EqOK P t := by
  intro z a b x y w hz ha hb
  have := h z a b w hz ha hb
  constructor
  · simp only [Sem.run_bind, run_eqGuard_agg _ _ _ _ _ _ _ hg, Result.andThen_ok, run_eql_struct, this]
  · simp only [Sem.run_bind, run_eqGuard_agg _ _ _ _ _ _ _ hg, Result.andThen_ok, run_neq_struct, this]

/-! ### Arguments -/

/-- A cell's data of a kind, within its range. -/
def DR : D → D → Prop
  | .int k _, .int k' n => k = k' ∧ k.has n
  | .bool _, .bool _ => True
  | .str _, .str s => s.size ≤ maxLen
  | _, _ => False

def FitsR : List D → List D → Prop
  | [], [] => True
  | x :: r, y :: s => DR x y ∧ FitsR r s
  | _, _ => False

def kindsOf (P : Program) : List TypeId → Option (List D)
  | [] => some []
  | t :: r => match P.underlying t, kindsOf P r with
    | some (.int k), some l => some (.int k 0 :: l)
    | some .bool, some l => some (.bool false :: l)
    | some .string, some l => some (.str ByteArray.empty :: l)
    | _, _ => none

theorem cell_int {P : Program} {w : World} {r : Go.Reach} {base : Nat} {t : TypeId} {v : Value} {k : IntKind} (hu : P.underlying t = some (.int k)) (h : Cell.okWide P w r base t v) : ∃ n, v = .int k n ∧ k.has n := by
  unfold Cell.okWide at h
  rw [hu] at h
  simp only at h
  unfold Cell.ok at h
  rw [hu] at h
  cases v <;> simp only at h
  case int k' n => exact ⟨n, by rw [h.1], h.2⟩

theorem cell_bool {P : Program} {w : World} {r : Go.Reach} {base : Nat} {t : TypeId} {v : Value} (hu : P.underlying t = some .bool) (h : Cell.okWide P w r base t v) : ∃ b, v = .bool b := by
  unfold Cell.okWide at h
  rw [hu] at h
  simp only at h
  unfold Cell.ok at h
  rw [hu] at h
  cases v <;> simp only at h
  case bool b => exact ⟨b, rfl⟩

theorem cell_string {P : Program} {w : World} {r : Go.Reach} {base : Nat} {t : TypeId} {v : Value} (hu : P.underlying t = some .string) (h : Cell.okWide P w r base t v) : ∃ s, v = .string s ∧ s.size ≤ maxLen := by
  unfold Cell.okWide at h
  rw [hu] at h
  simp only at h
  unfold Cell.ok at h
  rw [hu] at h
  cases v <;> simp only at h
  case string s =>
    refine ⟨s, rfl, ?_⟩
    have e : IntKind.i64.max = 9223372036854775807 := by decide
    rw [e] at h
    simp only [maxLen]
    omega

theorem cells_data {P : Program} {w : World} {r : Go.Reach} {base : Nat} : ∀ {ts : List TypeId} {cs : List Value} {ks : List D}, kindsOf P ts = some ks → cs.length = ts.length →
    (∀ (i : Nat) v, cs[i]? = some v → ∃ u, ts[i]? = some u ∧ Cell.okWide P w r base u v) → ∃ l, cs = l.map D.val ∧ FitsR ks l
  | [], [], ks, h, _, _ => by simp only [kindsOf, Option.some.injEq] at h; subst h; exact ⟨[], rfl, trivial⟩
  | [], _ :: _, _, _, hl, _ => by simp at hl
  | _ :: _, [], _, _, hl, _ => by simp at hl
  | t :: ts, v :: cs, ks, h, hl, hc => by
    obtain ⟨u, hu, hv⟩ := hc 0 v rfl
    simp only [List.getElem?_cons_zero, Option.some.injEq] at hu
    subst hu
    have hc' : ∀ (i : Nat) v, cs[i]? = some v → ∃ u, ts[i]? = some u ∧ Cell.okWide P w r base u v := fun i v hi => by
      obtain ⟨u, h1, h2⟩ := hc (i + 1) v (by simpa using hi)
      exact ⟨u, by simpa using h1, h2⟩
    have hl' : cs.length = ts.length := by simpa using hl
    simp only [kindsOf] at h
    split at h
    · rename_i k l hk hks
      cases h
      obtain ⟨n, rfl, hn⟩ := cell_int hk hv
      obtain ⟨l', rfl, hf⟩ := cells_data hks hl' hc'
      exact ⟨.int k n :: l', rfl, ⟨rfl, hn⟩, hf⟩
    · rename_i l hk hks
      cases h
      obtain ⟨b, rfl⟩ := cell_bool hk hv
      obtain ⟨l', rfl, hf⟩ := cells_data hks hl' hc'
      exact ⟨.bool b :: l', rfl, trivial, hf⟩
    · rename_i l hk hks
      cases h
      obtain ⟨s, rfl, hs⟩ := cell_string hk hv
      obtain ⟨l', rfl, hf⟩ := cells_data hks hl' hc'
      exact ⟨.str s :: l', rfl, hs, hf⟩
    · cases h

theorem DR.ok {z x : D} (h : DR z x) : x.ok := by
  cases z <;> cases x <;> first | exact h.elim | trivial | skip
  case int.int k n k' n' => exact inR_iff.2 (h.1 ▸ h.2)

theorem FitsR.ok : ∀ {ks l : List D}, FitsR ks l → ∀ d ∈ l, d.ok
  | [], [], _ => by simp
  | _ :: _, _ :: _, ⟨h1, h2⟩ => by
    intro d hd
    rcases List.mem_cons.1 hd with rfl | hd
    · exact h1.ok
    · exact FitsR.ok h2 d hd
  | [], _ :: _, h => h.elim
  | _ :: _, [], h => h.elim

/-- A struct or an array of plain data that came in. -/
theorem arg_agg {P : Program} {w : World} {r : Go.Reach} {base : Nat} {t : TypeId} {v : Value} {ts : List TypeId} {ks : List D} (ha : aggD P t = some true) (hct : P.cellTypes P.depth t = some ts) (hk : kindsOf P ts = some ks) (hc : P.cellsOf t = ts.length)
    (h : Value.okWide P w r base t v) : ∃ l, v = .agg (l.map D.val).toArray ∧ FitsR ks l := by
  have key : ∃ cs, v = .agg cs ∧ cs.size = P.cellsOf t ∧ Row.okWide P w r base t cs := by
    unfold Value.okWide at h
    unfold aggD at ha
    split at h
    · exact h
    · exact h
    · rename_i h1 h2
      exfalso
      split at ha
      · rename_i fs hfs; exact h1 fs hfs
      · rename_i n e hne; exact h2 n e hne
      · cases ha
      · cases ha
  obtain ⟨cs, rfl, hsz, ts', hts', _, hcells⟩ := key
  rw [hct] at hts'
  cases hts'
  obtain ⟨l, hl, hf⟩ := cells_data (cs := cs.toList) hk (by simp [hsz, hc]) fun i v hi => by
    have hi' : cs[i]? = some v := by rw [← Array.getElem?_toList]; exact hi
    obtain ⟨u, h1, h2⟩ := hcells i v hi'
    have hlt : i < ts.length := by
      have := (Array.getElem?_eq_some_iff.1 hi').1
      omega
    rw [Nat.mod_eq_of_lt hlt] at h1
    exact ⟨u, h1, h2⟩
  exact ⟨l, by rw [← hl], hf⟩

theorem arg_cell {P : Program} {w : World} {r : Go.Reach} {base : Nat} {t : TypeId} {v : Value} (ha : aggD P t = some false) (h : Value.okWide P w r base t v) : Cell.okWide P w r base t v := by
  unfold Value.okWide at h
  unfold aggD at ha
  split at h
  · rename_i fs hfs; rw [hfs] at ha; cases ha
  · rename_i n e hne; rw [hne] at ha; cases ha
  · exact h

theorem has_i64 {n : Int} : IntKind.i64.has n ↔ -9223372036854775808 ≤ n ∧ n ≤ 9223372036854775807 := by
  have e1 : IntKind.i64.max = 9223372036854775807 := by decide
  have e2 : IntKind.i64.min = -9223372036854775808 := by decide
  unfold IntKind.has
  rw [e1, e2]

/-! ### What the call leaves -/

theorem Kept.below {W : Nat → Prop} {w w' : World} (h : Kept W w w') (hW : ∀ k, ¬ W k) : Below w.heap.size w w' :=
  ⟨h.os, h.tape, h.output, h.size, fun k hk => h.block k hk (hW k)⟩

/-- A contract of a law: it returns true and turns nothing that was there. -/
theorem CallsA.law {P : Program} {G : Nat → Option (List D)} {gb f : Nat} {as : List AV} {bs M : List Blk} (h : CallsA P G gb f as bs (abool true) M) {σ : Sg} {w : World} {args : Array Value} (h1 : AVRels σ as args.toList) (h2 : MRel w (Wof σ bs) σ bs w)
    (h3 : Glob G gb (Wof σ bs) w) (h4 : ∀ b, bs.length ≤ b → σ b = none) (hro : ∀ b, (mget bs b).wr = false) : Calls P f args w fun e w' => e = .returned (.bool true) ∧ Below w.heap.size w w' :=
  (h σ w args h1 h2 h3 h4).mono fun _ _ ⟨v', τ, h5, _, h7, h8⟩ => ⟨by rw [h5]; exact congrArg _ h7.1, h8.kept.below fun k ⟨b, L, h9, _⟩ => by rw [hro b] at h9; cases h9⟩

/-- No blocks are handed over. -/
theorem MRel.none (w : World) : MRel w (Wof (fun _ => Option.none) []) (fun _ => Option.none) [] w :=
  ⟨fun _ => trivial, (fun _ _ _ _ _ hb => by cases hb), (fun _ _ hb => by cases hb), Kept.refl _ _⟩

theorem Glob.none (W : Nat → Prop) (w : World) : Glob (fun _ => Option.none) 0 W w := ⟨Nat.zero_le _, fun _ _ => Nat.zero_le _, fun _ _ h => by cases h⟩

/-- A continuation behind a choice. -/
theorem pullK {α : Type} (K : AV → List Blk → Ans) (e : α → AV) (M : List Blk) (c : Bool) (x y : α) : K (e (bif c then x else y)) M = bif c then K (e x) M else K (e y) M := by cases c <;> rfl

end Go.Ev
