/-
  The evaluator's relations: when abstract values, blocks and slots stand for those of the model. Lemmas only. No condition.
-/
import Derived.Test.YtdmmnpgkidghnaaEv
import Derived.WalkKit
import Derived.Laws.BitsLemmas
import Derived.Laws.Bits64
import Derived.Laws.CopyRow
import Derived.Laws.AppendOwn
import Derived.Laws.StructEq
import Derived.Orders
namespace Go.Ev

theorem wr_eq (k : IntKind) (n : Int) : wr k n = k.wrap n := by
  cases k
  case i64 => exact (IntKind.wrap_i64 n).symm
  case u64 => exact (IntKind.wrap_u64 n).symm
  case u8 => exact (IntKind.wrap_u8 n).symm
  all_goals rfl

theorem inR_iff {k : IntKind} {n : Int} : inR k n = true ↔ k.has n := by
  unfold IntKind.has
  cases k <;> simp only [inR, Bool.and_eq_true, decide_eq_true_eq] <;> rfl

theorem wr_ok (k : IntKind) (n : Int) : inR k (wr k n) = true := by
  rw [inR_iff, wr_eq]
  cases k <;> simp only [IntKind.has, IntKind.wrap, IntKind.min, IntKind.max, IntKind.bits, IntKind.signed] <;> simp <;> (try split) <;> omega

/-- Where a block lies; of an array of open length: how many elements, of how many cells. -/
structure Loc where
  blk : Nat
  off : Nat
  size : Nat
  own : Bool
  n : Nat
  es : Nat

abbrev Sg := Nat → Option Loc

def Sg.le (σ τ : Sg) : Prop := ∀ b L, σ b = some L → τ b = some L

theorem Sg.le_refl (σ : Sg) : σ.le σ := fun _ _ h => h
theorem Sg.le_trans {σ τ υ : Sg} (h : σ.le τ) (k : τ.le υ) : σ.le υ := fun b L e => k b L (h b L e)

def PRel (σ : Sg) : List Nat → List Value → Prop
  | [], [] => True
  | c :: r, v :: s => (∃ L, σ c = some L ∧ v = .pointer (some ⟨L.blk, L.off, none⟩)) ∧ PRel σ r s
  | _, _ => False

def CRel (σ : Sg) : C → Value → Prop
  | .d x, v => v = x.val ∧ x.ok
  | .ptr b o, v => ∃ L, σ b = some L ∧ v = .pointer (some ⟨L.blk, L.off + o, none⟩)
  | .slice b o n e, v => ∃ L cap, σ b = some L ∧ v = .slice (some ⟨L.blk, L.off + o, none⟩) n cap ∧ n ≤ cap ∧ n ≤ maxLen ∧ (L.own = true → o = 0 → cap * e ≤ L.size ∧ cap ≤ maxLen)
  | .nilS, v => v = .slice none 0 0
  | .fn f caps, v => ∃ vs, v = .func (.func f) #[] vs ∧ PRel σ caps vs.toList
  | .aslice b k, v => ∃ L, σ b = some L ∧ match k with
    | none => (L.n = 0 ∧ v = .slice none 0 0) ∨ ∃ cap, v = .slice (some ⟨L.blk, L.off, none⟩) L.n cap ∧ L.n ≤ cap ∧ L.n ≤ maxLen ∧ (L.own = true → cap * L.es ≤ L.size ∧ cap ≤ maxLen ∧ (L.n = 0 → cap = 0))
    | some h => 0 < h ∧ h ≤ L.n ∧ ∃ cap, v = .slice (some ⟨L.blk, L.off, none⟩) h cap ∧ h ≤ cap ∧ h ≤ maxLen
  | .eptr b i o, v => ∃ L, σ b = some L ∧ v = .pointer (some ⟨L.blk, L.off + (i * L.es + o), none⟩) ∧ i < L.n

def VRel (σ : Sg) : V → Value → Prop
  | .c x, v => CRel σ x v
  | .agg l, v => v = .agg (l.map D.val).toArray ∧ ∀ d ∈ l, d.ok

def VRels (σ : Sg) : List V → List Value → Prop
  | [], [] => True
  | x :: r, v :: s => VRel σ x v ∧ VRels σ r s
  | _, _ => False

def AVRel (σ : Sg) : AV → Value → Prop
  | .v x, v => VRel σ x v
  | .tup l, v => ∃ vs, v = .tuple vs ∧ VRels σ l vs.toList
  | .any, _ => True

def AVRels (σ : Sg) : List AV → List Value → Prop
  | [], [] => True
  | x :: r, v :: s => AVRel σ x v ∧ AVRels σ r s
  | _, _ => False

theorem PRel.mono {σ τ : Sg} (h : σ.le τ) : ∀ {l : List Nat} {vs : List Value}, PRel σ l vs → PRel τ l vs
  | [], [], _ => trivial
  | _ :: _, _ :: _, ⟨⟨L, h1, h2⟩, h3⟩ => ⟨⟨L, h _ _ h1, h2⟩, PRel.mono h h3⟩
  | [], _ :: _, hh => hh.elim
  | _ :: _, [], hh => hh.elim

theorem CRel.mono {σ τ : Sg} (h : σ.le τ) : ∀ {x : C} {v : Value}, CRel σ x v → CRel τ x v
  | .d _, _, hh => hh
  | .ptr _ _, _, ⟨L, h1, h2⟩ => ⟨L, h _ _ h1, h2⟩
  | .slice _ _ _ _, _, ⟨L, cap, h1, h2⟩ => ⟨L, cap, h _ _ h1, h2⟩
  | .nilS, _, hh => hh
  | .fn _ _, _, ⟨vs, h1, h2⟩ => ⟨vs, h1, h2.mono h⟩
  | .aslice _ _, _, ⟨L, h1, h2⟩ => ⟨L, h _ _ h1, h2⟩
  | .eptr _ _ _, _, ⟨L, h1, h2⟩ => ⟨L, h _ _ h1, h2⟩

theorem VRel.mono {σ τ : Sg} (h : σ.le τ) : ∀ {x : V} {v : Value}, VRel σ x v → VRel τ x v
  | .c _, _, hh => CRel.mono h hh
  | .agg _, _, hh => hh

theorem VRels.mono {σ τ : Sg} (h : σ.le τ) : ∀ {x : List V} {v : List Value}, VRels σ x v → VRels τ x v
  | [], [], _ => trivial
  | _ :: _, _ :: _, ⟨h1, h2⟩ => ⟨VRel.mono h h1, VRels.mono h h2⟩
  | [], _ :: _, hh => hh.elim
  | _ :: _, [], hh => hh.elim

theorem AVRel.mono {σ τ : Sg} (h : σ.le τ) : ∀ {x : AV} {v : Value}, AVRel σ x v → AVRel τ x v
  | .v _, _, hh => VRel.mono h hh
  | .tup _, _, ⟨vs, h1, h2⟩ => ⟨vs, h1, h2.mono h⟩
  | .any, _, _ => trivial

theorem AVRels.mono {σ τ : Sg} (h : σ.le τ) : ∀ {x : List AV} {v : List Value}, AVRels σ x v → AVRels τ x v
  | [], [], _ => trivial
  | _ :: _, _ :: _, ⟨h1, h2⟩ => ⟨AVRel.mono h h1, AVRels.mono h h2⟩
  | [], _ :: _, hh => hh.elim
  | _ :: _, [], hh => hh.elim

theorem AVRels.length {σ : Sg} : ∀ {x : List AV} {v : List Value}, AVRels σ x v → x.length = v.length
  | [], [], _ => rfl
  | _ :: _, _ :: _, ⟨_, h2⟩ => by simp [AVRels.length h2]
  | [], _ :: _, hh => hh.elim
  | _ :: _, [], hh => hh.elim

theorem AVRels.append {σ : Sg} : ∀ {x y : List AV} {v u : List Value}, AVRels σ x v → AVRels σ y u → AVRels σ (x ++ y) (v ++ u)
  | [], _, [], _, _, h => h
  | _ :: _, _, _ :: _, _, ⟨h1, h2⟩, h => ⟨h1, AVRels.append h2 h⟩
  | [], _, _ :: _, _, hh, _ => hh.elim
  | _ :: _, _, [], _, hh, _ => hh.elim

theorem gets_eq {α : Type} (z : α) : ∀ (l : List α) (n : Nat), gets z l n = l.getD n z
  | [], _ => by simp [gets]
  | _ :: _, 0 => rfl
  | _ :: t, n + 1 => by simpa [gets] using gets_eq z t n

theorem tget_tset (y : AV) (T : TS) (n m : Nat) : tget (tset y T n) m = if m = n ∧ n < T.length then y else tget T m := by
  unfold tset TS.length
  by_cases h : n < T.n
  · rw [show Nat.blt n T.n = true from (by rw [Nat.blt_eq]; exact h), cond_true]
    simp only [tget, tfind, h, and_true]
    by_cases e : m = n
    · subst e; simp
    · have : Nat.beq n m = false := by
        cases hb : Nat.beq n m with
        | false => rfl
        | true => exact absurd (Nat.eq_of_beq_eq_true hb).symm e
      rw [this, cond_false, if_neg e]
  · have : Nat.blt n T.n = false := by
      cases hb : Nat.blt n T.n with
      | false => rfl
      | true => rw [Nat.blt_eq] at hb; exact absurd hb h
    rw [this, cond_false, if_neg (fun hh => h hh.2)]

theorem lfix_same {z v : AV} : ∀ {l : List (Nat × AV)} {i : Nat}, tfind z l i = v → lfix v l i = l
  | [], _, _ => rfl
  | p :: r, i, h => by
    rw [tfind] at h
    rw [lfix]
    cases hb : Nat.beq p.1 i with
    | true => rw [hb, cond_true] at h; rw [cond_true, ← h]
    | false => rw [hb, cond_false] at h; rw [cond_false, lfix_same h]

theorem tfix_same {v : AV} {T : TS} {i : Nat} (h : tget T i = v) : tfix v T i = T := by
  cases T
  simp only [tget] at h
  simp only [tfix, lfix_same h]

theorem length_tset (y : AV) (T : TS) (n : Nat) : (tset y T n).length = T.length := by
  unfold tset TS.length
  cases Nat.blt n T.n <;> rfl

theorem mget_mput : ∀ (M : List Blk) (b b' : Nat) (y : Blk), mget (mput M b y) b' = if b' = b then y else mget M b'
  | [], 0, 0, y => by simp [mput, mget, gets]
  | [], 0, b' + 1, y => by simp [mput, mget, gets]
  | [], b + 1, 0, y => by simp [mput, mget, gets]
  | [], b + 1, b' + 1, y => by
    have := mget_mput [] b b' y
    simp only [mput, mget, gets] at this ⊢
    rw [this]
    simp
  | x :: t, 0, 0, y => by simp [mput, mget, gets]
  | x :: t, 0, b' + 1, y => by simp [mput, mget, gets]
  | x :: t, b + 1, 0, y => by simp [mput, mget, gets]
  | x :: t, b + 1, b' + 1, y => by
    have := mget_mput t b b' y
    simp only [mput, mget, gets] at this ⊢
    rw [this]
    simp

/-- What a list of settings says of a block: the last one counts. -/
def lastSet : Sets → Nat → Option Blk
  | [], _ => none
  | p :: r, b => match lastSet r b with
    | some y => some y
    | none => if p.1 = b then some p.2 else none

theorem mget_puts : ∀ (s : Sets) (M : List Blk) (b : Nat), mget (puts M s) b = (lastSet s b).getD (mget M b)
  | [], M, b => rfl
  | p :: r, M, b => by
    rw [show puts M (p :: r) = puts (mput M p.1 p.2) r from rfl, mget_puts r, mget_mput]
    simp only [lastSet]
    cases h : lastSet r b with
    | some y => rfl
    | none =>
      by_cases hb : p.1 = b
      · simp [hb]
      · simp [hb, Ne.symm hb]

theorem puts_append : ∀ (s r : Sets) (M : List Blk), puts M (s ++ r) = puts (puts M s) r
  | [], _, _ => rfl
  | p :: s, r, M => puts_append s r (mput M p.1 p.2)

theorem lastSet_none {s : Sets} {b : Nat} (h : ∀ p ∈ s, p.1 ≠ b) : lastSet s b = none := by
  induction s with
  | nil => rfl
  | cons p r ih => simp [lastSet, ih (fun q hq => h q (by simp [hq])), h p (by simp)]

/-- A block of the evaluator and one of the model. -/
def BRel (σ : Sg) (b : Nat) (y : Blk) (w : World) : Prop :=
  match y with
  | .dead => True
  | .ro l => ∃ L, σ b = some L ∧ L.own = false ∧ (∀ d ∈ l, d.ok) ∧ ∀ j d, l[j]? = some d → w.cell? ⟨L.blk, L.off + j, none⟩ = some d.val
  | .rw t l => ∃ L cur, σ b = some L ∧ L.off = 0 ∧ L.own = true ∧ w.heap[L.blk]? = some (.cells cur t (0, 0)) ∧ cur.size = L.size ∧ (∀ d ∈ l, d.ok) ∧ cur.toList.take l.length = l.map D.val
  | .arr own τ xs => ∃ L, σ b = some L ∧ L.n = xs.length ∧ L.es = τ.len ∧ (∀ d ∈ τ.flat xs, d.ok) ∧ (match own with
    | none => L.own = false ∧ ∀ j d, (τ.flat xs)[j]? = some d → w.cell? ⟨L.blk, L.off + j, none⟩ = some d.val
    | some t => L.own = true ∧ L.off = 0 ∧ (xs = [] ∨ ∃ cur, w.heap[L.blk]? = some (.cells cur t (0, 0)) ∧ cur.size = L.size ∧ cur.toList.take (τ.flat xs).length = (τ.flat xs).map D.val))
  | .cell t c => ∃ L v, σ b = some L ∧ L.off = 0 ∧ L.own = true ∧ L.size = 1 ∧ w.heap[L.blk]? = some (.cells #[v] t (0, 0)) ∧ CRel σ c v

/-- What was there when the call began is as it was, but for the blocks in W. -/
structure Kept (W : Nat → Prop) (w w' : World) : Prop where
  os : w'.os = w.os
  tape : w'.tape = w.tape
  output : w'.output = w.output
  size : w.heap.size ≤ w'.heap.size
  block : ∀ k, k < w.heap.size → ¬ W k → w'.heap[k]? = w.heap[k]?

theorem Kept.refl (W : Nat → Prop) (w : World) : Kept W w w := ⟨rfl, rfl, rfl, Nat.le_refl _, fun _ _ _ => rfl⟩
theorem Kept.trans {W : Nat → Prop} {a b c : World} (h : Kept W a b) (k : Kept W b c) : Kept W a c :=
  ⟨k.os.trans h.os, k.tape.trans h.tape, k.output.trans h.output, Nat.le_trans h.size k.size,
   fun i hi hn => (k.block i (Nat.lt_of_lt_of_le hi h.size) hn).trans (h.block i hi hn)⟩
/-- A later part may also write what is new. -/
theorem Kept.trans' {W V : Nat → Prop} {a b c : World} (h : Kept W a b) (k : Kept V b c) (hv : ∀ i, V i → W i ∨ a.heap.size ≤ i) : Kept W a c :=
  ⟨k.os.trans h.os, k.tape.trans h.tape, k.output.trans h.output, Nat.le_trans h.size k.size,
   fun i hi hn => (k.block i (Nat.lt_of_lt_of_le hi h.size) (fun hV => by rcases hv i hV with h1 | h1; exact hn h1; omega)).trans (h.block i hi hn)⟩

/-- The globals that the evaluator may read. -/
structure Glob (G : Nat → Option (List D)) (gb : Nat) (W : Nat → Prop) (w : World) : Prop where
  le : gb ≤ w.heap.size
  high : ∀ k, W k → gb ≤ k
  cell : ∀ g l, G g = some l → g < gb ∧ (∀ d ∈ l, d.ok) ∧ ∀ j d, l[j]? = some d → w.cell? ⟨g, j, none⟩ = some d.val

/-- Blocks, worlds and what the call may write. -/
structure MRel (w0 : World) (W : Nat → Prop) (σ : Sg) (M : List Blk) (w : World) : Prop where
  blk : ∀ b, BRel σ b (mget M b) w
  sep : ∀ b b' L L', b ≠ b' → (mget M b).wr = true → (mget M b').live = true → σ b = some L → σ b' = some L' → L.blk ≠ L'.blk
  own : ∀ b L, (mget M b).wr = true → σ b = some L → W L.blk ∨ w0.heap.size ≤ L.blk
  kept : Kept W w0 w

theorem BRel.mono {σ τ : Sg} (h : σ.le τ) {b : Nat} {y : Blk} {w : World} (hh : BRel σ b y w) : BRel τ b y w := by
  cases y with
  | dead => trivial
  | ro l => obtain ⟨L, h1, h2⟩ := hh; exact ⟨L, h _ _ h1, h2⟩
  | rw t l => obtain ⟨L, cur, h1, h2⟩ := hh; exact ⟨L, cur, h _ _ h1, h2⟩
  | arr own τ' xs => obtain ⟨L, h1, h2⟩ := hh; exact ⟨L, h _ _ h1, h2⟩
  | cell t c => obtain ⟨L, v, h1, h2, h3, h4, h5, h6⟩ := hh; exact ⟨L, v, h _ _ h1, h2, h3, h4, h5, h6.mono h⟩

theorem wr_live {y : Blk} (h : y.wr = true) : y.live = true := by
  cases y with
  | dead => cases h
  | ro l => cases h
  | rw t l => rfl
  | arr own τ xs => cases xs with | nil => cases own <;> cases h | cons _ _ => rfl
  | cell t c => rfl

theorem cell_of_heap {w : World} {B o : Nat} {cur : Array Value} {t : TypeId} {fr : Nat × Nat} (h : w.heap[B]? = some (.cells cur t fr)) : w.cell? ⟨B, o, none⟩ = cur[o]? := by
  simp [World.cell?, h]

/-- The cells of an array of open length. -/
theorem BRel.elems {σ : Sg} {b : Nat} {own : Option Nat} {τ : ET} {xs : List τ.T} {w : World} (hh : BRel σ b (.arr own τ xs) w) :
    ∃ L, σ b = some L ∧ L.n = xs.length ∧ L.es = τ.len ∧ L.own = own.isSome ∧ (∀ d ∈ τ.flat xs, d.ok) ∧ ∀ j d, (τ.flat xs)[j]? = some d → w.cell? ⟨L.blk, L.off + j, none⟩ = some d.val := by
  obtain ⟨L, h1, h2, h3, h4, h5⟩ := hh
  cases own with
  | none => exact ⟨L, h1, h2, h3, h5.1, h4, h5.2⟩
  | some t =>
    obtain ⟨h6, h7, h8⟩ := h5
    refine ⟨L, h1, h2, h3, h6, h4, fun j d hj => ?_⟩
    rcases h8 with rfl | ⟨cur, h8, h9, h10⟩
    · simp [ET.flat] at hj
    · rw [cell_of_heap h8, h7, Nat.zero_add]
      have hlt : j < (τ.flat xs).length := (List.getElem?_eq_some_iff.1 hj).1
      have : (cur.toList.take (τ.flat xs).length)[j]? = ((τ.flat xs).map D.val)[j]? := by rw [h10]
      rw [List.getElem?_take, if_pos hlt, List.getElem?_map, hj] at this
      simpa using this

/-- The cells of a live block. -/
theorem BRel.cell {σ : Sg} {b : Nat} {y : Blk} {w : World} {l : List D} (hh : BRel σ b y w) (hl : y.data = some l) :
    ∃ L, σ b = some L ∧ (∀ d ∈ l, d.ok) ∧ ∀ j d, l[j]? = some d → w.cell? ⟨L.blk, L.off + j, none⟩ = some d.val := by
  cases y with
  | dead => simp [Blk.data] at hl
  | arr own τ xs => simp [Blk.data] at hl
  | cell t c => simp [Blk.data] at hl
  | ro l' =>
    simp only [Blk.data, Option.some.injEq] at hl
    subst hl
    obtain ⟨L, h1, _, h2⟩ := hh
    exact ⟨L, h1, h2⟩
  | rw t l' =>
    simp only [Blk.data, Option.some.injEq] at hl
    subst hl
    obtain ⟨L, cur, h1, h2, _, h4, _, hok, h6⟩ := hh
    refine ⟨L, h1, hok, fun j d hj => ?_⟩
    rw [cell_of_heap h4, h2, Nat.zero_add]
    have hlt : j < l'.length := (List.getElem?_eq_some_iff.1 hj).1
    have : (cur.toList.take l'.length)[j]? = (l'.map D.val)[j]? := by rw [h6]
    rw [List.getElem?_take, if_pos hlt, List.getElem?_map, hj] at this
    simpa using this

theorem oneCell_val (d : D) : d.val.oneCell' = true := by cases d <;> rfl

theorem toD_val {v : Value} {d : D} (h : toD v = some d) : v = d.val ∧ d.ok := by
  unfold toD at h
  split at h
  · cases h; exact ⟨rfl, trivial⟩
  · simp only [cond_eq_ite] at h
    split at h
    · rename_i hr; cases h; exact ⟨rfl, hr⟩
    · cases h
  · simp only [cond_eq_ite, Nat.ble_eq] at h
    split at h
    · rename_i hr; cases h; exact ⟨rfl, by simp only [D.ok]; omega⟩
    · cases h
  · cases h

theorem toDs_val : ∀ {vs : List Value} {l : List D}, toDs vs = some l → vs = l.map D.val ∧ ∀ d ∈ l, d.ok
  | [], l, h => by simp [toDs] at h; subst h; exact ⟨rfl, by simp⟩
  | v :: r, l, h => by
    simp only [toDs] at h
    split at h
    · rename_i d l' h1 h2
      simp only [Option.some.injEq] at h
      subst h
      obtain ⟨e1, o1⟩ := toD_val h1
      obtain ⟨e2, o2⟩ := toDs_val h2
      exact ⟨by simp [e1, e2], by simp only [List.mem_cons]; rintro d (rfl | hd); exact o1; exact o2 d hd⟩
    · cases h

theorem ofValue_rel {σ : Sg} {v : Value} {x : AV} (h : ofValue v = some x) : AVRel σ x v := by
  unfold ofValue at h
  split at h
  · cases h; exact ⟨rfl, trivial⟩
  · simp only [cond_eq_ite] at h
    split at h
    · rename_i hr; cases h; exact ⟨rfl, hr⟩
    · cases h
  · simp only [cond_eq_ite, Nat.ble_eq] at h
    split at h
    · rename_i hr; cases h; exact ⟨rfl, by simp only [D.ok]; omega⟩
    · cases h
  · cases h; rfl
  · split at h
    · rename_i cs l hl
      cases h
      obtain ⟨e, o⟩ := toDs_val hl
      exact ⟨by rw [← e], o⟩
    · cases h
  · cases h

/-- Slots. -/
structure TRel (σ : Sg) (T : TS) (a : Act) : Prop where
  len : T.length = a.tmps.size
  val : ∀ t, AVRel σ (tget T t) (a.tmps.getD t undef)
  df : a.defers = []

theorem TRel.mono {σ τ : Sg} (h : σ.le τ) {T : TS} {a : Act} (hh : TRel σ T a) : TRel τ T a := ⟨hh.len, fun t => (hh.val t).mono h, hh.df⟩

theorem TRel.put {σ : Sg} {T : TS} {a : Act} (hh : TRel σ T a) (d : Option Tmp) {x : AV} {v : Value} (hx : AVRel σ x v) : TRel σ (setT T d x) (a.put d v) := by
  cases d with
  | none => exact hh
  | some d =>
    refine ⟨?_, fun t => ?_, ?_⟩
    · simp [setT, length_tset, Act.put, hh.len]
    · simp only [setT, tget_tset, Act.put, Array.getD_eq_getD_getElem?, Array.getElem?_setIfInBounds]
      by_cases h : t = d
      · subst h
        by_cases hl : t < T.length
        · have hl' : t < a.tmps.size := by rw [← hh.len]; exact hl
          simp [hl, hl', hx]
        · have hl' : ¬ t < a.tmps.size := by rw [← hh.len]; exact hl
          have := hh.val t
          simp only [Array.getD_eq_getD_getElem?] at this
          simp [hl, hl']
          simpa [hl'] using this
      · have := hh.val t
        simp only [Array.getD_eq_getD_getElem?] at this
        have h' : ¬ d = t := fun e => h e.symm
        simp [h, h']
        exact this
    · exact hh.df

theorem opdV_rel {σ : Sg} {T : TS} {a : Act} (hh : TRel σ T a) {x : Operand} {v : AV} (h : opdV T x = some v) : AVRel σ v (a.eval x) := by
  cases x with
  | tmp t => simp only [opdV, Option.some.injEq] at h; subst h; exact hh.val t
  | const c => exact ofValue_rel h
  | global g => cases h
  | func f => simp only [opdV, Option.some.injEq] at h; subst h; exact ⟨#[], rfl, trivial⟩

theorem opdVs_rel {σ : Sg} {T : TS} {a : Act} (hh : TRel σ T a) : ∀ {xs : List Operand} {vs : List AV}, opdVs T xs = some vs → AVRels σ vs (xs.map a.eval)
  | [], vs, h => by simp only [opdVs, Option.some.injEq] at h; subst h; trivial
  | x :: r, vs, h => by
    simp only [opdVs] at h
    split at h
    · rename_i v l h1 h2
      simp only [Option.some.injEq] at h
      subst h
      exact ⟨opdV_rel hh h1, opdVs_rel hh h2⟩
    · cases h

theorem cellsA_rel {σ : Sg} {x : AV} {v : Value} {l : List D} (h : cellsA x = some l) (hr : AVRel σ x v) : v.cells = (l.map D.val).toArray ∧ ∀ d ∈ l, d.ok := by
  unfold cellsA at h
  split at h
  · cases h; obtain ⟨rfl, o⟩ := hr; exact ⟨rfl, o⟩
  · cases h
    rename_i d
    obtain ⟨rfl, o⟩ := hr
    refine ⟨by cases d <;> rfl, by simpa using o⟩
  · cases h

/-- The heap grows, blocks that the evaluator reads stay. -/
theorem BRel.of_block {σ : Sg} {b : Nat} {y : Blk} {w w' : World} (hh : BRel σ b y w) (hk : ∀ L, σ b = some L → y.live = true → L.blk < w.heap.size → w'.heap[L.blk]? = w.heap[L.blk]?) : BRel σ b y w' := by
  cases y with
  | dead => trivial
  | ro l =>
    obtain ⟨L, h1, h2, hok, h3⟩ := hh
    refine ⟨L, h1, h2, hok, fun j d hj => ?_⟩
    have hc := h3 j d hj
    have hlt := World.block_lt_of_cell? w _ hc
    have hlive : (Blk.ro l).live = true := by cases l with | nil => simp at hj | cons _ _ => rfl
    rw [World.cell?_of_block (w := w) (hk L h1 hlive hlt)]
    exact hc
  | rw t l =>
    obtain ⟨L, cur, h1, h2, h3, h4, h5⟩ := hh
    refine ⟨L, cur, h1, h2, h3, ?_, h5⟩
    rw [hk L h1 rfl (Array.getElem?_eq_some_iff.1 h4).1]
    exact h4
  | arr own τ xs =>
    obtain ⟨L, h1, h2, h3, h4, h5⟩ := hh
    refine ⟨L, h1, h2, h3, h4, ?_⟩
    cases own with
    | none =>
      refine ⟨h5.1, fun j d hj => ?_⟩
      have hc := h5.2 j d hj
      have hlt := World.block_lt_of_cell? w _ hc
      have hlive : (Blk.arr none τ xs).live = true := by cases xs with | nil => simp [ET.flat] at hj | cons _ _ => rfl
      rw [World.cell?_of_block (w := w) (hk L h1 hlive hlt)]
      exact hc
    | some t =>
      obtain ⟨h6, h7, h8⟩ := h5
      refine ⟨h6, h7, ?_⟩
      cases xs with
      | nil => exact .inl rfl
      | cons x r =>
        rcases h8 with h8 | ⟨cur, h8, h9⟩
        · cases h8
        · refine .inr ⟨cur, ?_, h9⟩
          rw [hk L h1 rfl (Array.getElem?_eq_some_iff.1 h8).1]
          exact h8
  | cell t c =>
    obtain ⟨L, v, h1, h2, h3, h4, h5, h6⟩ := hh
    refine ⟨L, v, h1, h2, h3, h4, ?_, h6⟩
    rw [hk L h1 rfl (Array.getElem?_eq_some_iff.1 h5).1]
    exact h5

theorem cells_len (τ : ET) (x : τ.T) : (τ.cells x).length = τ.len := by cases τ <;> rfl

theorem len_pos (τ : ET) : 0 < τ.len := by cases τ <;> decide

theorem flat_len (τ : ET) : ∀ xs : List τ.T, (τ.flat xs).length = xs.length * τ.len
  | [] => by simp [ET.flat]
  | x :: r => by
    rw [ET.flat, List.length_append, cells_len, flat_len τ r, List.length_cons, Nat.succ_mul, Nat.add_comm]

/-- A live block lies in memory. -/
theorem BRel.live_lt {σ : Sg} {b : Nat} {y : Blk} {w : World} {L : Loc} (hh : BRel σ b y w) (hl : y.live = true) (hL : σ b = some L) : L.blk < w.heap.size := by
  cases y with
  | dead => cases hl
  | ro l =>
    cases l with
    | nil => cases hl
    | cons d r =>
      obtain ⟨L', h1, _, _, h3⟩ := hh
      rw [hL] at h1
      cases h1
      exact World.block_lt_of_cell? w _ (h3 0 d rfl)
  | rw t l =>
    obtain ⟨L', cur, h1, _, _, h4, _⟩ := hh
    rw [hL] at h1
    cases h1
    exact (Array.getElem?_eq_some_iff.1 h4).1
  | arr own τ xs =>
    cases xs with
    | nil => cases hl
    | cons x r =>
      obtain ⟨L', h1, _, _, _, _, h3⟩ := hh.elems
      rw [hL] at h1
      cases h1
      have hlt : 0 < (τ.flat (x :: r)).length := by rw [flat_len]; exact Nat.mul_pos (Nat.succ_pos _) (len_pos τ)
      exact World.block_lt_of_cell? w _ (h3 0 _ (List.getElem?_eq_getElem hlt))
  | cell t c =>
    obtain ⟨L', v, h1, _, _, _, h4, _⟩ := hh
    rw [hL] at h1
    cases h1
    exact (Array.getElem?_eq_some_iff.1 h4).1

end Go.Ev
